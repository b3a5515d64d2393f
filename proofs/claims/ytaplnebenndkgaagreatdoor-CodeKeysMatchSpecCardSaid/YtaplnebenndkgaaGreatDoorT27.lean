/- Rules for runs of the small language over a partly known heap, and what the functions on the way of the law compute. Conditions: none. -/
import Derived.Test.YtaplnebenndkgaaGreatDoorT21
import Derived.Test.YtaplnebenndkgaaGreatDoorT02
set_option linter.all false
namespace Go.RI
open Fx
section
variable {fs : Fns} {orc : Oracle} {H : Hp}
theorem call_fn1 {f : Nat} {fn : AFn} {a : AV} {P : AV → Hp → Prop} (hc : Code fs orc f fn) (h : ∀ lo g, g 0 = a → SOk fs orc fn.body g H lo (fnQ fn H P)) : CallS fs orc (.func (.func f) [] []) [a] H P :=
  call_fn hc fun lo => h lo _ rfl
theorem call_fn2 {f : Nat} {fn : AFn} {a b : AV} {P : AV → Hp → Prop} (hc : Code fs orc f fn) (h : ∀ lo g, g 0 = a → g 1 = b → SOk fs orc fn.body g H lo (fnQ fn H P)) : CallS fs orc (.func (.func f) [] []) [a, b] H P :=
  call_fn hc fun lo => h lo _ rfl rfl
theorem evG_t (g : Env) (t : Nat) : evG g (.tmp t) = g t := rfl
theorem evG_c (g : Env) (v : AV) : evG g (.con v) = v := rfl
theorem evGL_n (g : Env) : evGL g [] = [] := rfl
theorem evGL_k (g : Env) (x : Rnd) (l : List Rnd) : evGL g (x :: l) = evG g x :: evGL g l := rfl
theorem up_t (g : Env) (d : Nat) (v : AV) (t : Nat) : up g d v t = if t = d then v else g t := rfl
theorem pv_mv (x : Rnd) (g : Env) : pv (.mv x) g H = some (evG g x) := rfl
theorem pv_pick (c a b : Rnd) (g : Env) : pv (.pick c a b) g H = match evG g c with
    | .bool true => some (evG g a)
    | .bool false => some (evG g b)
    | _ => none := rfl
theorem pv_load1 (a : Rnd) (g : Env) : pv (.load1 a) g H = match evG g a with
    | .ptr b off => rdH H b off
    | _ => none := rfl
theorem pv_load3 (a : Rnd) (g : Env) : pv (.loadN 3 a) g H = match evG g a with
      | .ptr b off => match rdNH H b off 3 with
        | some l => some (.agg l)
        | none => none
      | _ => none := rfl
theorem pv_load6 (a : Rnd) (g : Env) : pv (.loadN 6 a) g H = match evG g a with
      | .ptr b off => match rdNH H b off 6 with
        | some l => some (.agg l)
        | none => none
      | _ => none := rfl
theorem pv_load7 (a : Rnd) (g : Env) : pv (.loadN 7 a) g H = match evG g a with
      | .ptr b off => match rdNH H b off 7 with
        | some l => some (.agg l)
        | none => none
      | _ => none := rfl
theorem pv_bin (t : BTag) (op : BinOp) (x y : Rnd) (g : Env) : pv (.bin t op x y) g H = binA t op (evG g x) (evG g y) := rfl
theorem pv_un (op : UnOp) (x : Rnd) (g : Env) : pv (.un op x) g H = unA op (evG g x) := rfl
theorem pv_toInt (k : IntKind) (x : Rnd) (g : Env) : pv (.toInt k x) g H = match evG g x with
    | .int _ n => some (.int k (k.wrap n))
    | _ => none := rfl
theorem pv_fa (off : Nat) (x : Rnd) (g : Env) : pv (.fieldAddr off x) g H = match evG g x with
    | .ptr b o => some (.ptr b (o + off))
    | _ => none := rfl
theorem pv_build (z : List AV) (ps : List (Nat × Nat × Rnd)) (g : Env) : pv (.build z ps) g H = match fillG z g ps with
    | some l => some (.agg l)
    | none => none := rfl
theorem pv_lenS (x : Rnd) (g : Env) : pv (.len .num x) g H = match evG g x with
    | .str s => some (.int .i64 (.ofNat s.length))
    | _ => none := by
  simp only [pv]; cases evG g x <;> rfl
theorem pv_max (x y : Rnd) (g : Env) : pv (.maxI x y) g H = match evG g x, evG g y with
    | .int k a, .int _ b => some (.int k (if b > a then b else a))
    | _, _ => none := rfl
theorem pv_cutStr (x : Rnd) (lo hi : Option Rnd) (g : Env) : pv (.cutStr x lo hi) g H = match evG g x with
    | .str s => match optNatG g 0 lo, optNatG g s.length hi with
      | some l, some h => match Nat.ble l h, Nat.ble h s.length with
        | true, true => some (.str ((s.drop l).take (h - l)))
        | _, _ => none
      | _, _ => none
    | _ => none := rfl
theorem pv_runeStr (x : Rnd) (g : Env) : pv (.runeStr x) g H = match evG g x with
    | .int _ (.ofNat n) => match Nat.blt n 128 with
      | true => some (.str [n])
      | false => none
    | _ => none := rfl
theorem ez : (∀ (g : Env) (t : Nat), evG g (.tmp t) = g t) ∧ (∀ (g : Env) (v : AV), evG g (.con v) = v) ∧ (∀ g : Env, evGL g [] = []) ∧ (∀ (g : Env) (x : Rnd) (l : List Rnd), evGL g (x :: l) = evG g x :: evGL g l) ∧
    (∀ (g : Env) (d : Nat) (v : AV) (t : Nat), up g d v t = if t = d then v else g t) ∧ Zs.tl [] = [] ∧ (∀ (n : Nat) (l : List Nat), Zs.tl (n :: l) = .tmp n :: Zs.tl l) :=
  ⟨evG_t, evG_c, evGL_n, evGL_k, up_t, Zs.tl_nil, Zs.tl_cons⟩
theorem pw (H : Hp) : (∀ (x : Rnd) (g : Env), pv (.mv x) g H = some (evG g x)) ∧ (∀ (c a b : Rnd) (g : Env), pv (.pick c a b) g H = match evG g c with
    | .bool true => some (evG g a)
    | .bool false => some (evG g b)
    | _ => none) ∧ (∀ (a : Rnd) (g : Env), pv (.load1 a) g H = match evG g a with
    | .ptr b off => rdH H b off
    | _ => none) ∧ (∀ (a : Rnd) (g : Env), pv (.loadN 3 a) g H = match evG g a with
      | .ptr b off => match rdNH H b off 3 with
        | some l => some (.agg l)
        | none => none
      | _ => none) ∧ (∀ (a : Rnd) (g : Env), pv (.loadN 6 a) g H = match evG g a with
      | .ptr b off => match rdNH H b off 6 with
        | some l => some (.agg l)
        | none => none
      | _ => none) ∧ (∀ (a : Rnd) (g : Env), pv (.loadN 7 a) g H = match evG g a with
      | .ptr b off => match rdNH H b off 7 with
        | some l => some (.agg l)
        | none => none
      | _ => none) ∧ (∀ (t : BTag) (op : BinOp) (x y : Rnd) (g : Env), pv (.bin t op x y) g H = binA t op (evG g x) (evG g y)) ∧ (∀ (op : UnOp) (x : Rnd) (g : Env), pv (.un op x) g H = unA op (evG g x)) ∧
    (∀ (k : IntKind) (x : Rnd) (g : Env), pv (.toInt k x) g H = match evG g x with
    | .int _ n => some (.int k (k.wrap n))
    | _ => none) ∧ (∀ (off : Nat) (x : Rnd) (g : Env), pv (.fieldAddr off x) g H = match evG g x with
    | .ptr b o => some (.ptr b (o + off))
    | _ => none) ∧ (∀ (x : Rnd) (g : Env), pv (.len .num x) g H = match evG g x with
    | .str s => some (.int .i64 (.ofNat s.length))
    | _ => none) ∧ (∀ (x y : Rnd) (g : Env), pv (.maxI x y) g H = match evG g x, evG g y with
    | .int k a, .int _ b => some (.int k (if b > a then b else a))
    | _, _ => none) ∧ (∀ (x : Rnd) (lo hi : Option Rnd) (g : Env), pv (.cutStr x lo hi) g H = match evG g x with
    | .str s => match optNatG g 0 lo, optNatG g s.length hi with
      | some l, some h => match Nat.ble l h, Nat.ble h s.length with
        | true, true => some (.str ((s.drop l).take (h - l)))
        | _, _ => none
      | _, _ => none
    | _ => none) ∧ (∀ (x : Rnd) (g : Env), pv (.runeStr x) g H = match evG g x with
    | .int _ (.ofNat n) => match Nat.blt n 128 with
      | true => some (.str [n])
      | false => none
    | _ => none) :=
  ⟨pv_mv, pv_pick, pv_load1, pv_load3, pv_load6, pv_load7, pv_bin, pv_un, pv_toInt, pv_fa, pv_lenS, pv_max, pv_cutStr, pv_runeStr⟩
theorem pz : (∀ n : Nat, 0 + n = n) ∧ (∀ (a : AV) (l : List AV), (a :: l)[0]? = some a) ∧ (∀ (a : AV) (l : List AV) (i : Nat), (a :: l)[i + 1]? = l[i]?) :=
  ⟨Nat.zero_add, fun _ _ => rfl, fun _ _ _ => rfl⟩
theorem rdH_own {b e : Nat} {l : List AV} (h : H b = some (.own e l)) (i : Nat) : rdH H b i = l[i]? := by
  unfold rdH; rw [h]; rfl
def ints (l : List Int) : List AV := l.map fun n => .int .i64 n
@[simp] theorem ints_length (l : List Int) : (ints l).length = l.length := by simp [ints]
theorem ints_get {l : List Int} {i : Nat} (h : i < l.length) : (ints l)[i]? = some (.int .i64 (l.getD i 0)) := by simp [ints, h]
theorem ints_take (l : List Int) (i : Nat) : (ints l).take i = ints (l.take i) := by simp [ints, List.map_take]
theorem ints_append (l m : List Int) : ints l ++ ints m = ints (l ++ m) := by simp [ints]
theorem fnQ_tmp {fn : AFn} {P : AV → Hp → Prop} {o : AOut} {g : Env} {H' : Hp} {t : Nat} (ho : o = .normal ∨ o = .ret) (hr : fn.results = [.tmp t]) (hl : Le H H') {v : AV} (hv : g t = v) (hp : P v H') : fnQ fn H P o g H' :=
  ⟨ho, [v], by rw [hr]; simp only [resG, hv], hl, hp⟩
theorem wrap64 {n : Int} (h1 : -9223372036854775808 ≤ n) (h2 : n < 9223372036854775808) : IntKind.i64.wrap n = n := by
  simp only [IntKind.wrap, IntKind.bits, IntKind.signed]
  simp
  omega
theorem digit_ok (hc : Code fs orc 83 F83) {v : AV} {l : List Int} (h : Rd H 1 v (ints l)) (i : Nat) :
    CallS fs orc (.func (.func 83) [] []) [v, .int .i64 (.ofNat i)] H fun r _ => r = .int .i64 (l.getD i 0) := by
  refine call_fn2 hc fun lo g e0 e1 => ?_
  repeat first | refine sops_pv (by simp only [↓pw, ↓ez, ↓reduceIte, Nat.reduceEqDiff, binA, numA, ibin, unA, pz, Bool.not_true, Bool.not_false, e0, e1]; rfl) ?_ | refine sops_nil ?_ | refine seqQ_normal ?_ | refine sok_seq ?_ | refine sok_region ?_
  refine sops_len1 (c := ints l) (by simp only [↓ez, ↓reduceIte, Nat.reduceEqDiff, e0]; exact h) ?_
  repeat first | refine sops_pv (by simp only [↓pw, ↓ez, ↓reduceIte, Nat.reduceEqDiff, binA, numA, ibin, unA, pz, Bool.not_true, Bool.not_false, e0, e1]; rfl) ?_ | refine sops_nil ?_ | refine seqQ_normal ?_
  refine sok_cond _ (by simp only [↓ez, ↓reduceIte, Nat.reduceEqDiff, e0]; rfl) (fun hb => ?_) (fun hb => ?_)
  · have hi : i < l.length := by simpa using hb
    repeat first | refine sops_pv (by simp only [↓pw, ↓ez, ↓reduceIte, Nat.reduceEqDiff, binA, numA, ibin, unA, pz, Bool.not_true, Bool.not_false, e0, e1]; rfl) ?_ | refine sok_seq ?_ | refine sok_region ?_
    refine sops_idx1 (.int .i64 (l.getD i 0)) (c := ints l) (n := i) (by simp only [↓ez, ↓reduceIte, Nat.reduceEqDiff, e0]; exact h) (by simp only [↓ez, ↓reduceIte, Nat.reduceEqDiff, natOf, e1]) (ints_get hi) fun b o hq => ?_
    repeat first | refine sops_pv (by simp only [↓pw, ↓ez, ↓reduceIte, Nat.reduceEqDiff, binA, numA, ibin, unA, pz, Bool.not_true, Bool.not_false, e0, e1, hq]; rfl) ?_ | refine sops_nil ?_ | refine seqQ_normal ?_ | refine seqQ_ret ?_ | refine sok_ret ?_
    refine fnQ_tmp (.inr rfl) rfl ?_ (by simp only [↓ez, ↓reduceIte, Nat.reduceEqDiff]; rfl) ?_
    · exact Le.refl _
    · rfl
  · have hi : ¬ i < l.length := by simpa using hb
    repeat first | refine sops_pv (by simp only [↓pw, ↓ez, ↓reduceIte, Nat.reduceEqDiff, binA, numA, ibin, unA, pz, Bool.not_true, Bool.not_false, e0, e1]; rfl) ?_ | refine sops_nil ?_ | refine seqQ_normal ?_ | refine sok_seq ?_ | refine sok_region ?_ | refine sok_skip ?_ | refine sok_ret ?_
    refine fnQ_tmp (.inr rfl) rfl ?_ (by simp only [↓ez, ↓reduceIte, Nat.reduceEqDiff]; rfl) ?_
    · exact Le.refl _
    · exact (by simp [List.getD, List.getElem?_eq_none (show l.length ≤ i by omega)])
end
end Go.RI
namespace Go.RI
open Fx
def trimL (l : List Int) : List Int := (l.reverse.dropWhile (· == 0)).reverse
theorem trimL_snoc (l : List Int) (x : Int) : trimL (l ++ [x]) = if x = 0 then trimL l else l ++ [x] := by
  unfold trimL
  rw [List.reverse_append]
  simp only [List.reverse_cons, List.reverse_nil, List.nil_append, List.singleton_append, List.dropWhile_cons]
  by_cases h : x = 0
  · simp [h]
  · simp [h]
theorem snoc_of {l : List Int} (h : 0 < l.length) : l = l.take (l.length - 1) ++ [l.getD (l.length - 1) 0] := by
  have h1 : l.length - 1 < l.length := by omega
  have := List.take_append_drop (l.length - 1) l
  rw [List.drop_eq_getElem_cons h1, List.drop_eq_nil_of_le (by omega)] at this
  simp only [List.getD, List.getElem?_eq_getElem h1, Option.getD_some]
  exact this.symm
theorem trimL_last {l : List Int} (h : 0 < l.length) (h0 : l.getD (l.length - 1) 0 = 0) : trimL (l.take (l.length - 1)) = trimL l := by
  conv => rhs; rw [snoc_of h, trimL_snoc, if_pos h0]
theorem trimL_same {l : List Int} (h : l.length = 0 ∨ l.getD (l.length - 1) 0 ≠ 0) : trimL l = l := by
  rcases Nat.eq_zero_or_pos l.length with h0 | h0
  · rw [List.length_eq_zero_iff.1 h0]; rfl
  · rcases h with h | h
    · omega
    · conv => lhs; rw [snoc_of h0, trimL_snoc, if_neg h]
      exact (snoc_of h0).symm
theorem trimL_le (l : List Int) : (trimL l).length ≤ l.length := by
  unfold trimL
  have := (List.dropWhile_suffix (· == (0 : Int)) (l := l.reverse)).length_le
  simpa using this
theorem wrap_sub1 {n : Nat} (h : 0 < n) (h2 : n < 4611686018427387904) : IntKind.i64.wrap (Int.ofNat n - Int.ofNat 1) = Int.ofNat (n - 1) := by
  rw [wrap64 (by simp; omega) (by simp; omega)]; simp; omega
theorem wrap_add1 {n : Nat} (h2 : n < 4611686018427387904) : IntKind.i64.wrap (Int.ofNat n + Int.ofNat 1) = Int.ofNat (n + 1) := by
  rw [wrap64 (by simp; omega) (by simp; omega)]; simp
section
variable {fs : Fns} {orc : Oracle} {H : Hp}
theorem trim_ok (hc : Code fs orc 82 F82) {v : AV} {l : List Int} (h : Rd H 1 v (ints l)) (hl : l.length < 4611686018427387904) :
    CallS fs orc (.func (.func 82) [] []) [v] H fun r H' => Rd H' 1 r (ints (trimL l)) := by
  refine call_fn1 hc fun lo g e0 => ?_
  repeat first | refine sops_pv (by simp only [↓pw, ↓ez, ↓reduceIte, Nat.reduceEqDiff, binA, numA, ibin, unA, pz, Bool.not_true, Bool.not_false, e0]; rfl) ?_ | refine sops_nil ?_ | refine seqQ_normal ?_ | refine sok_seq ?_ | refine sok_region ?_ | refine sok_block ?_
  refine sok_loop (fun k g' H' => H' = H ∧ ∃ l', Rd H 1 (g' 0) (ints l') ∧ l'.length = k ∧ trimL l' = trimL l ∧ l'.length ≤ l.length) ?_ l.length _ _ ⟨rfl, l, by simp only [up, reduceIte, Nat.reduceEqDiff, e0]; exact h, rfl, rfl, Nat.le_refl _⟩
  rintro k g' H' ⟨rfl, l', h', rfl, ht, hle⟩
  repeat first | refine sops_pv (by simp only [↓pw, ↓ez, ↓reduceIte, Nat.reduceEqDiff, binA, numA, ibin, unA, pz, Bool.not_true, Bool.not_false]; rfl) ?_ | refine sok_seq ?_ | refine sok_region ?_
  refine sops_len1 (c := ints l') (by simp only [↓ez, ↓reduceIte, Nat.reduceEqDiff]; exact h') ?_
  simp only [ints_length]
  repeat (refine sops_pv (by simp only [↓pw, ↓ez, ↓reduceIte, Nat.reduceEqDiff, binA, numA, ibin, unA, pz, Bool.not_true, Bool.not_false]; rfl) ?_)
  by_cases hp : 0 < l'.length
  · have hd : decide (Int.ofNat l'.length > Int.ofNat 0) = true := by simp; omega
    have hw := wrap_sub1 hp (by omega)
    repeat first | refine sops_pv (by simp only [↓pw, ↓ez, ↓reduceIte, Nat.reduceEqDiff, binA, numA, ibin, unA, pz, Bool.not_true, Bool.not_false, hd]; rfl) ?_ | refine sops_on ?_ ?_; focus (simp only [↓ez, ↓reduceIte, Nat.reduceEqDiff, hd]; done)
    refine sops_len1 (c := ints l') (by simp only [↓ez, ↓reduceIte, Nat.reduceEqDiff]; exact h') ?_
    simp only [ints_length]
    repeat first | refine sops_pv (by simp only [↓pw, ↓ez, ↓reduceIte, Nat.reduceEqDiff, binA, numA, ibin, unA, pz, Bool.not_true, Bool.not_false, hd, hw]; rfl) ?_ | refine sops_on ?_ ?_; focus (simp only [↓ez, ↓reduceIte, Nat.reduceEqDiff, hd, hw]; done)
    refine sops_idx1 (.int .i64 (l'.getD (l'.length - 1) 0)) (c := ints l') (n := l'.length - 1) (by simp only [↓ez, ↓reduceIte, Nat.reduceEqDiff]; exact h') (by simp only [↓ez, ↓reduceIte, Nat.reduceEqDiff, natOf]) (ints_get (by omega)) fun b o hq => ?_
    repeat first | refine sops_pv (by simp only [↓pw, ↓ez, ↓reduceIte, Nat.reduceEqDiff, binA, numA, ibin, unA, pz, Bool.not_true, Bool.not_false, hd, hq]; rfl) ?_ | refine sops_on ?_ ?_; focus (simp only [↓ez, ↓reduceIte, Nat.reduceEqDiff, hd, hq]; done) | refine sops_nil ?_ | refine seqQ_normal ?_
    refine sok_cond _ (by simp only [↓ez, ↓reduceIte, Nat.reduceEqDiff, hd]; rfl) (fun hb => ?_) (fun hb => ?_)
    · have h0 : l'.getD (l'.length - 1) 0 = 0 := by simpa using hb
      repeat first | refine sops_pv (by simp only [↓pw, ↓ez, ↓reduceIte, Nat.reduceEqDiff, binA, numA, ibin, unA, pz, Bool.not_true, Bool.not_false]; rfl) ?_ | refine seqQ_normal ?_ | refine sok_region ?_ | refine sok_skip ?_ | refine sok_block ?_
      refine sops_len1 (c := ints l') (by simp only [↓ez, ↓reduceIte, Nat.reduceEqDiff]; exact h') ?_
      simp only [ints_length]
      repeat (refine sops_pv (by simp only [↓pw, ↓ez, ↓reduceIte, Nat.reduceEqDiff, binA, numA, ibin, unA, pz, Bool.not_true, Bool.not_false, hw]; rfl) ?_)
      refine sops_cut (c := ints l') (n := l'.length - 1) (by simp only [↓ez, ↓reduceIte, Nat.reduceEqDiff]; exact h') (by simp only [↓ez, ↓reduceIte, Nat.reduceEqDiff, natOf]) (by simp) (by intro e; have := congrArg List.length e; rw [ints_length] at this; simp only [List.length_nil] at this; omega) fun v hv => ?_
      repeat first | refine sops_pv (by simp only [↓pw, ↓ez, ↓reduceIte, Nat.reduceEqDiff, binA, numA, ibin, unA, pz, Bool.not_true, Bool.not_false]; rfl) ?_ | refine sops_nil ?_ | refine blkQ_normal ?_
      refine loopQ_normal (l'.length - 1) ?_ ?_
      · omega
      refine ⟨rfl, l'.take (l'.length - 1), ?_, by simp, (trimL_last hp h0).trans ht, by simp; omega⟩
      rw [ints_take] at hv
      simp only [up, reduceIte, Nat.reduceEqDiff]; exact hv
    · have h0 : ¬ l'.getD (l'.length - 1) 0 = 0 := by simpa using hb
      repeat first | refine sops_pv (by simp only [↓pw, ↓ez, ↓reduceIte, Nat.reduceEqDiff, binA, numA, ibin, unA, pz, Bool.not_true, Bool.not_false]; rfl) ?_ | refine sops_nil ?_ | refine seqQ_normal ?_ | refine seqQ_exit ?_ | refine blkQ_hit ?_ | refine loopQ_exit ?_ | refine sok_seq ?_ | refine sok_region ?_ | refine sok_ret ?_ | refine sok_exit ?_
      refine fnQ_tmp (.inr rfl) rfl ?_ (by simp only [↓ez, ↓reduceIte, Nat.reduceEqDiff]; rfl) ?_
      · exact Le.refl _
      · rw [← ht, trimL_same (.inr h0)]; exact h'
  · have hd : decide (Int.ofNat l'.length > Int.ofNat 0) = false := by rw [decide_eq_false_iff_not]; simp only [Int.ofNat_eq_natCast]; omega
    repeat first | refine sops_pv (by simp only [↓pw, ↓ez, ↓reduceIte, Nat.reduceEqDiff, binA, numA, ibin, unA, pz, Bool.not_true, Bool.not_false, hd]; rfl) ?_ | refine sops_off (w' := false) ?_ rfl ?_; focus (simp only [↓ez, ↓reduceIte, Nat.reduceEqDiff, hd]; done) | refine sops_nil ?_ | refine seqQ_normal ?_
    refine sok_cond _ (by simp only [↓ez, ↓reduceIte, Nat.reduceEqDiff, hd]; rfl) (fun hb => ?_) (fun hb => ?_)
    · cases hb
    ·
      repeat first | refine sops_pv (by simp only [↓pw, ↓ez, ↓reduceIte, Nat.reduceEqDiff, binA, numA, ibin, unA, pz, Bool.not_true, Bool.not_false]; rfl) ?_ | refine sops_nil ?_ | refine seqQ_normal ?_ | refine seqQ_exit ?_ | refine blkQ_hit ?_ | refine loopQ_exit ?_ | refine sok_seq ?_ | refine sok_region ?_ | refine sok_ret ?_ | refine sok_exit ?_
      refine fnQ_tmp (.inr rfl) rfl ?_ (by simp only [↓ez, ↓reduceIte, Nat.reduceEqDiff]; rfl) ?_
      · exact Le.refl _
      · rw [← ht, trimL_same (.inl (by omega))]; exact h'
end
end Go.RI
namespace Go.RI
def vk (l : List Int) : Nat → Int
  | 0 => 0
  | k + 1 => vk l k + l.getD k 0 * 65536 ^ k
def Dig (l : List Int) : Prop := ∀ x, x ∈ l → 0 ≤ x ∧ x < 65536
def val (l : List Int) : Int := vk l l.length
theorem pw_pos (k : Nat) : (0 : Int) < 65536 ^ k := Int.pow_pos (by decide)
theorem pw_succ (k : Nat) : (65536 : Int) ^ (k + 1) = 65536 ^ k * 65536 := Int.pow_succ 65536 k
theorem Dig.get {l : List Int} (h : Dig l) (k : Nat) : 0 ≤ l.getD k 0 ∧ l.getD k 0 < 65536 := by
  by_cases hk : k < l.length
  · simp only [List.getD, List.getElem?_eq_getElem hk, Option.getD_some]; exact h _ (List.getElem_mem hk)
  · simp only [List.getD, List.getElem?_eq_none (Nat.not_lt.1 hk), Option.getD_none]; decide
theorem getD_ge {l : List Int} {k : Nat} (h : l.length ≤ k) : l.getD k 0 = 0 := by
  simp only [List.getD, List.getElem?_eq_none h, Option.getD_none]
theorem mulP {a b : Int} (h : a + 1 ≤ b) (k : Nat) : a * 65536 ^ k + 65536 ^ k ≤ b * 65536 ^ k := by
  have := Int.mul_le_mul_of_nonneg_right h (Int.le_of_lt (pw_pos k))
  rw [Int.add_mul, Int.one_mul] at this; exact this
theorem vk_bound {l : List Int} (h : Dig l) : ∀ k, 0 ≤ vk l k ∧ vk l k < 65536 ^ k
  | 0 => by simp [vk]
  | k + 1 => by
    obtain ⟨h1, h2⟩ := vk_bound h k
    obtain ⟨h3, h4⟩ := h.get k
    have h5 := mulP (a := l.getD k 0) (b := 65536) (by omega) k
    have h6 := Int.mul_nonneg h3 (Int.le_of_lt (pw_pos k))
    have h7 : (65536 : Int) * 65536 ^ k = 65536 ^ (k + 1) := by rw [pw_succ, Int.mul_comm]
    simp only [vk]; omega
theorem vk_ge {l : List Int} {n : Nat} (h : l.length ≤ n) : ∀ k, n ≤ k → vk l k = vk l n
  | 0, hk => by have : n = 0 := by omega
                subst this; rfl
  | k + 1, hk => by
    rcases Nat.lt_or_ge n (k + 1) with h1 | h1
    · simp only [vk]; rw [getD_ge (by omega), Int.zero_mul, Int.add_zero]; exact vk_ge h k (by omega)
    · have : n = k + 1 := by omega
      subst this; rfl
theorem vk_val {l : List Int} {k : Nat} (h : l.length ≤ k) : vk l k = val l := vk_ge (Nat.le_refl _) k h
theorem val_bound {l : List Int} (h : Dig l) : 0 ≤ val l ∧ val l < 65536 ^ l.length := vk_bound h l.length
def cmpAt (l m : List Int) : Nat → Int
  | 0 => 0
  | k + 1 => if l.getD k 0 < m.getD k 0 then -1 else if m.getD k 0 < l.getD k 0 then 1 else cmpAt l m k
theorem cmpAt_val {l m : List Int} (hl : Dig l) (hm : Dig m) : ∀ k, cmpAt l m k = if vk l k < vk m k then -1 else if vk m k < vk l k then 1 else 0
  | 0 => by simp [cmpAt, vk]
  | k + 1 => by
    have ih := cmpAt_val hl hm k
    have b1 := vk_bound hl k
    have b2 := vk_bound hm k
    have e1 : vk l (k + 1) = vk l k + l.getD k 0 * 65536 ^ k := rfl
    have e2 : vk m (k + 1) = vk m k + m.getD k 0 * 65536 ^ k := rfl
    simp only [cmpAt]
    rcases Int.lt_trichotomy (l.getD k 0) (m.getD k 0) with h | h | h
    · have := mulP (show l.getD k 0 + 1 ≤ m.getD k 0 by omega) k
      rw [if_pos h, if_pos (by omega)]
    · rw [if_neg (show ¬ l.getD k 0 < m.getD k 0 by omega), if_neg (show ¬ m.getD k 0 < l.getD k 0 by omega), ih]
      rw [h] at e1
      by_cases c1 : vk l k < vk m k
      · rw [if_pos c1, if_pos (show vk l (k + 1) < vk m (k + 1) by omega)]
      · rw [if_neg c1, if_neg (show ¬ vk l (k + 1) < vk m (k + 1) by omega)]
        by_cases c2 : vk m k < vk l k
        · rw [if_pos c2, if_pos (show vk m (k + 1) < vk l (k + 1) by omega)]
        · rw [if_neg c2, if_neg (show ¬ vk m (k + 1) < vk l (k + 1) by omega)]
    · have := mulP (show m.getD k 0 + 1 ≤ l.getD k 0 by omega) k
      rw [if_neg (by omega), if_pos h, if_neg (by omega), if_pos (by omega)]
theorem cmp_val {l m : List Int} (hl : Dig l) (hm : Dig m) {k : Nat} (h1 : l.length ≤ k) (h2 : m.length ≤ k) : cmpAt l m k = if val l < val m then -1 else if val m < val l then 1 else 0 := by
  rw [cmpAt_val hl hm, vk_val h1, vk_val h2]
theorem vk_snoc (l : List Int) (x : Int) : ∀ k, k ≤ l.length → vk (l ++ [x]) k = vk l k
  | 0, _ => rfl
  | k + 1, h => by
    simp only [vk]
    rw [vk_snoc l x k (by omega)]
    simp only [List.getD]; rw [List.getElem?_append_left (by omega)]
theorem val_snoc (l : List Int) (x : Int) : val (l ++ [x]) = val l + x * 65536 ^ l.length := by
  unfold val
  rw [List.length_append, List.length_singleton]
  simp only [vk]
  rw [vk_snoc l x _ (Nat.le_refl _)]
  congr 2
  simp [List.getD]
theorem val_nil : val [] = 0 := rfl
theorem val_trim : ∀ (n : Nat) (l : List Int), l.length = n → val (trimL l) = val l ∧ (Dig l → Dig (trimL l)) ∧ trimL (trimL l) = trimL l
  | 0, l, h => by rw [List.length_eq_zero_iff.1 h]; exact ⟨rfl, fun h => h, rfl⟩
  | n + 1, l, h => by
    have hs := snoc_of (l := l) (by omega)
    by_cases h0 : l.getD (l.length - 1) 0 = 0
    · obtain ⟨i1, i2, i3⟩ := val_trim n (l.take (l.length - 1)) (by simp; omega)
      rw [← trimL_last (by omega) h0]
      refine ⟨?_, fun hd => i2 fun x hx => hd x (List.mem_of_mem_take hx), i3⟩
      rw [i1]; conv => rhs; rw [hs, val_snoc, h0]
      simp
    · rw [trimL_same (.inr h0)]; exact ⟨rfl, fun h => h, trimL_same (.inr h0)⟩
theorem trim_val (l : List Int) : val (trimL l) = val l := (val_trim _ l rfl).1
theorem trim_dig {l : List Int} (h : Dig l) : Dig (trimL l) := (val_trim _ l rfl).2.1 h
theorem trim_trim (l : List Int) : trimL (trimL l) = trimL l := (val_trim _ l rfl).2.2
structure Can (l : List Int) : Prop where
  dig : Dig l
  trim : trimL l = l
theorem can_trim {l : List Int} (h : Dig l) : Can (trimL l) := ⟨trim_dig h, trim_trim l⟩
theorem Can.last {l : List Int} (h : Can l) (h0 : 0 < l.length) : l.getD (l.length - 1) 0 ≠ 0 := fun e => by
  have h1 := trimL_last h0 e
  rw [h.trim] at h1
  have h2 := trimL_le (l.take (l.length - 1))
  rw [h1] at h2
  simp at h2; omega
theorem Can.pos {l : List Int} (h : Can l) (h0 : 0 < l.length) : 65536 ^ (l.length - 1) ≤ val l := by
  have hs := snoc_of h0
  have hv : val l = val (l.take (l.length - 1)) + l.getD (l.length - 1) 0 * 65536 ^ (l.length - 1) := by
    conv => lhs; rw [hs, val_snoc]
    congr 3; simp
  have hd : Dig (l.take (l.length - 1)) := fun x hx => h.dig x (List.mem_of_mem_take hx)
  have b := (val_bound hd).1
  have hl := h.last h0
  have hg := h.dig.get (l.length - 1)
  have := mulP (a := 0) (b := l.getD (l.length - 1) 0) (by omega) (l.length - 1)
  simp only [Int.zero_mul, Int.zero_add] at this
  omega
theorem Can.zero {l : List Int} (h : Can l) : val l = 0 ↔ l = [] := by
  constructor
  · intro hv
    rcases Nat.eq_zero_or_pos l.length with h0 | h0
    · exact List.length_eq_zero_iff.1 h0
    · have := h.pos h0; have := pw_pos (l.length - 1); omega
  · rintro rfl; rfl
theorem pw_le {i j : Nat} (h : i ≤ j) : (65536 : Int) ^ i ≤ 65536 ^ j := by
  induction h with
  | refl => exact Int.le_refl _
  | step h ih => have := pw_pos (‹Nat› : Nat); rw [pw_succ]; omega
theorem vk_inj {l m : List Int} (hl : Dig l) (hm : Dig m) : ∀ k, vk l k = vk m k → ∀ i, i < k → l.getD i 0 = m.getD i 0
  | 0, _, i, hi => by omega
  | k + 1, h, i, hi => by
    have b1 := vk_bound hl k
    have b2 := vk_bound hm k
    simp only [vk] at h
    have hk : l.getD k 0 = m.getD k 0 := by
      rcases Int.lt_trichotomy (l.getD k 0) (m.getD k 0) with q | q | q
      · have := mulP (show l.getD k 0 + 1 ≤ m.getD k 0 by omega) k; omega
      · exact q
      · have := mulP (show m.getD k 0 + 1 ≤ l.getD k 0 by omega) k; omega
    rcases Nat.lt_or_ge i k with q | q
    · exact vk_inj hl hm k (by rw [hk] at h; omega) i q
    · have : i = k := by omega
      subst this; exact hk
theorem Can.len_le {l m : List Int} (hl : Can l) (hm : Can m) (h : val l ≤ val m) : l.length ≤ m.length := by
  rcases Nat.lt_or_ge m.length l.length with q | q
  · have h1 := hl.pos (by omega)
    have h2 := (val_bound hm.dig).2
    have := pw_le (show m.length ≤ l.length - 1 by omega)
    omega
  · exact q
theorem Can.inj {l m : List Int} (hl : Can l) (hm : Can m) (h : val l = val m) : l = m := by
  have h1 := hl.len_le hm (by omega)
  have h2 := hm.len_le hl (by omega)
  have hlen : l.length = m.length := by omega
  have key := vk_inj hl.dig hm.dig l.length (by rw [show vk l l.length = val l from rfl, h, hlen]; rfl)
  refine List.ext_getElem hlen fun i hi hj => ?_
  have := key i hi
  simp only [List.getD, List.getElem?_eq_getElem hi, List.getElem?_eq_getElem hj, Option.getD_some] at this
  exact this
theorem vk_mono {l : List Int} (h : Dig l) {i j : Nat} (hij : i ≤ j) : vk l i ≤ vk l j := by
  induction hij with
  | refl => exact Int.le_refl _
  | step _ ih => simp only [vk]; have := Int.mul_nonneg (h.get ‹Nat›).1 (Int.le_of_lt (pw_pos ‹Nat›)); omega
theorem vk_part {m : List Int} (h : Dig m) (n : Nat) : vk m n ≤ val m ∧ (val m < 65536 ^ n → vk m n = val m) := by
  rcases Nat.lt_or_ge n m.length with hn | hn
  · refine ⟨vk_mono h (Nat.le_of_lt hn), fun hv => ?_⟩
    have key : ∀ k, n ≤ k → vk m k < 65536 ^ n → vk m k = vk m n := by
      intro k hk
      induction hk with
      | refl => intro _; rfl
      | @step k hk ih =>
        intro hlt
        replace hlt : vk m (k + 1) < 65536 ^ n := hlt
        have hk0 := (vk_bound h k).1
        have hg := (h.get k).1
        have e1 : vk m (k + 1) = vk m k + m.getD k 0 * 65536 ^ k := rfl
        have hle := pw_le hk
        rcases Int.lt_or_le 0 (m.getD k 0) with q | q
        · have := mulP (a := 0) (b := m.getD k 0) (by omega) k
          rw [Int.zero_mul] at this
          omega
        · have : m.getD k 0 = 0 := by omega
          rw [this, Int.zero_mul, Int.add_zero] at e1
          show vk m (k + 1) = _
          rw [e1]; exact ih (by omega)
    exact (key m.length (Nat.le_of_lt hn) hv).symm
  · rw [vk_val hn]; exact ⟨Int.le_refl _, fun _ => rfl⟩
def hd (l : List Int) (i : Nat) : Int := l.getD i 0 / 2 + 32768 * (l.getD (i + 1) 0 % 2)
def halfL (l : List Int) : List Int := (List.range l.length).map (hd l)
theorem halfL_len (l : List Int) : (halfL l).length = l.length := by simp [halfL]
theorem halfL_get (l : List Int) {i : Nat} (h : i < l.length) : (halfL l).getD i 0 = hd l i := by
  simp [halfL, List.getD, h]
theorem halfL_dig {l : List Int} (h : Dig l) : Dig (halfL l) := by
  intro x hx
  unfold halfL at hx
  obtain ⟨i, _, rfl⟩ := List.mem_map.1 hx
  have h1 := h.get i
  have h2 := h.get (i + 1)
  unfold hd; omega
theorem half_vk {l : List Int} (h : Dig l) : ∀ k, k ≤ l.length → 2 * vk (halfL l) k + l.getD 0 0 % 2 = vk l k + 65536 ^ k * (l.getD k 0 % 2)
  | 0, _ => by simp [vk]
  | k + 1, hk => by
    have ih := half_vk h k (by omega)
    simp only [vk]
    rw [halfL_get l (by omega)]
    have hP := pw_succ k
    generalize h1 : l.getD k 0 = a at *
    generalize h2 : l.getD (k + 1) 0 = c at *
    have e : hd l k = a / 2 + 32768 * (c % 2) := by unfold hd; rw [h1, h2]
    rw [e, hP]
    generalize (65536 : Int) ^ k = P at *
    have e1 : 2 * (a / 2) + a % 2 = a := by omega
    generalize a / 2 = u at *
    generalize a % 2 = w at *
    generalize c % 2 = z at *
    subst e1
    have d1 : 2 * (vk (halfL l) k + (u + 32768 * z) * P) = 2 * vk (halfL l) k + (2 * u * P + 65536 * z * P) := by
      rw [Int.mul_add]; congr 1
      rw [Int.add_mul, Int.mul_add, Int.mul_assoc 2 u P]
      congr 1
      rw [← Int.mul_assoc, ← Int.mul_assoc]; rfl
    have d2 : (2 * u + w) * P = 2 * u * P + w * P := Int.add_mul _ _ _
    have d3 : P * 65536 * z = 65536 * z * P := by rw [Int.mul_comm P 65536, Int.mul_assoc, Int.mul_comm P z, ← Int.mul_assoc]
    have d4 : P * w = w * P := Int.mul_comm _ _
    rw [d1, d2, d3]
    rw [d4] at ih
    omega
theorem half_val {l : List Int} (h : Dig l) : 2 * val (halfL l) + l.getD 0 0 % 2 = val l := by
  have := half_vk h l.length (Nat.le_refl _)
  rw [getD_ge (Nat.le_refl _)] at this
  unfold val; rw [halfL_len]; simpa using this
end Go.RI
namespace Go.RI
open Fx
theorem wrapU32 {n : Int} (h1 : 0 ≤ n) (h2 : n < 4294967296) : IntKind.u32.wrap n = n := by
  simp only [IntKind.wrap, IntKind.bits, IntKind.signed]; simp; omega
theorem wrapU64 {n : Int} (h1 : 0 ≤ n) (h2 : n < 18446744073709551616) : IntKind.u64.wrap n = n := by
  simp only [IntKind.wrap, IntKind.bits, IntKind.signed]; simp; omega
theorem wrapU8 {n : Int} (h1 : 0 ≤ n) (h2 : n < 256) : IntKind.u8.wrap n = n := by
  simp only [IntKind.wrap, IntKind.bits, IntKind.signed]; simp; omega
theorem ofInt_toNat {w a : Nat} (h : a < 2 ^ w) : (BitVec.ofInt w (a : Int)).toNat = a := by
  rw [BitVec.toNat_ofInt]
  have : ((a : Int) % ((2 ^ w : Nat) : Int)) = a := Int.emod_eq_of_lt (Int.natCast_nonneg a) (by exact_mod_cast h)
  rw [this]; rfl
theorem and64 {a b : Nat} (ha : a < 9223372036854775808) (hb : b < 9223372036854775808) : IntKind.i64.wrap ((BitVec.ofInt IntKind.i64.bits (a : Int) &&& BitVec.ofInt IntKind.i64.bits (b : Int)).toNat : Int) = ((a &&& b : Nat) : Int) := by
  have e : IntKind.i64.bits = 64 := rfl
  rw [e, BitVec.toNat_and, ofInt_toNat (by omega), ofInt_toNat (by omega)]
  have := Nat.and_le_left (n := a) (m := b)
  exact wrap64 (by omega) (by omega)
theorem or64 {a b : Nat} (ha : a < 4611686018427387904) (hb : b < 4611686018427387904) : IntKind.i64.wrap ((BitVec.ofInt IntKind.i64.bits (a : Int) ||| BitVec.ofInt IntKind.i64.bits (b : Int)).toNat : Int) = ((a ||| b : Nat) : Int) := by
  have e : IntKind.i64.bits = 64 := rfl
  rw [e, BitVec.toNat_or, ofInt_toNat (by omega), ofInt_toNat (by omega)]
  have := Nat.or_lt_two_pow (x := a) (y := b) (n := 62) (by omega) (by omega)
  exact wrap64 (by omega) (by omega)
theorem andU32 {a b : Nat} (ha : a < 4294967296) (hb : b < 4294967296) : IntKind.u32.wrap ((BitVec.ofInt IntKind.u32.bits (a : Int) &&& BitVec.ofInt IntKind.u32.bits (b : Int)).toNat : Int) = ((a &&& b : Nat) : Int) := by
  have e : IntKind.u32.bits = 32 := rfl
  rw [e, BitVec.toNat_and, ofInt_toNat (by omega), ofInt_toNat (by omega)]
  have := Nat.and_le_left (n := a) (m := b)
  exact wrapU32 (by omega) (by omega)
theorem andU64 {a b : Nat} (ha : a < 18446744073709551616) (hb : b < 18446744073709551616) : IntKind.u64.wrap ((BitVec.ofInt IntKind.u64.bits (a : Int) &&& BitVec.ofInt IntKind.u64.bits (b : Int)).toNat : Int) = ((a &&& b : Nat) : Int) := by
  have e : IntKind.u64.bits = 64 := rfl
  rw [e, BitVec.toNat_and, ofInt_toNat (by omega), ofInt_toNat (by omega)]
  have := Nat.and_le_left (n := a) (m := b)
  exact wrapU64 (by omega) (by omega)
theorem and_one {x : Int} (h1 : 0 ≤ x) (h2 : x < 9223372036854775808) : IntKind.i64.wrap ((BitVec.ofInt IntKind.i64.bits x &&& BitVec.ofInt IntKind.i64.bits (Int.ofNat 1)).toNat : Int) = x % 2 := by
  obtain ⟨a, rfl⟩ := Int.eq_ofNat_of_zero_le h1
  rw [show (Int.ofNat 1) = ((1 : Nat) : Int) from rfl, and64 (by omega) (by decide), Nat.and_one_is_mod]; omega
theorem shr_i64 (x : Int) (n : Nat) (h : n ≤ 64) : (if (Int.ofNat n) < 0 then (none : Option AV) else some (.int .i64 (x.fdiv (2 ^ min (Int.ofNat n).toNat IntKind.i64.bits)))) = some (.int .i64 (x / 2 ^ n)) := by
  have e : IntKind.i64.bits = 64 := rfl
  rw [if_neg (by simp), e, show min (Int.ofNat n).toNat 64 = n by simp; omega, Int.fdiv_eq_ediv_of_nonneg _ (Int.le_of_lt (Int.pow_pos (by decide)))]
section
variable {fs : Fns} {orc : Oracle} {H : Hp}
theorem bit_ok (h83 : Code fs orc 83 F83) (hc : Code fs orc 84 F84) {v : AV} {l : List Int} (h : Rd H 1 v (ints l)) (hd : Dig l) :
    CallS fs orc (.func (.func 84) [] []) [v, .int .i64 (.ofNat 0)] H fun r _ => r = .int .i64 (l.getD 0 0 % 2) := by
  refine call_fn2 hc fun lo g e0 e1 => ?_
  have hg := hd.get 0
  have q1 : ibin .quo .i64 (Int.ofNat 0) (Int.ofNat 16) = some (.int .i64 (Int.ofNat 0)) := rfl
  have q2 : ibin .rem .i64 (Int.ofNat 0) (Int.ofNat 16) = some (.int .i64 (Int.ofNat 0)) := rfl
  have q3 := shr_i64 (l.getD 0 0) 0 (by decide)
  have q4 := and_one (x := l.getD 0 0) (by omega) (by omega)
  rw [Int.pow_zero, Int.ediv_one] at q3
  repeat first | refine sops_pv (by simp only [↓pw, ↓ez, ↓reduceIte, Nat.reduceEqDiff, binA, numA, ibin, unA, pz, Bool.not_true, Bool.not_false, e0, e1, ↓q1]; rfl) ?_ | refine sops_nil ?_ | refine seqQ_normal ?_ | refine sok_seq ?_ | refine sok_region ?_
  refine sops_call (as := [v, .int .i64 (.ofNat 0)]) (by simp only [↓ez, ↓reduceIte, Nat.reduceEqDiff, e0]) (digit_ok h83 h 0) fun r H1 hl hr => ?_
  subst hr
  repeat first | refine sops_pv (by simp only [↓pw, ↓ez, ↓reduceIte, Nat.reduceEqDiff, binA, numA, ibin, unA, pz, Bool.not_true, Bool.not_false, e0, e1, ↓q2, ↓q3, q4]; rfl) ?_ | refine sops_nil ?_ | refine seqQ_normal ?_ | refine sok_ret ?_
  refine fnQ_tmp (.inr rfl) rfl ?_ (by simp only [↓ez, ↓reduceIte, Nat.reduceEqDiff]; rfl) ?_
  · exact hl
  · rfl
end
end Go.RI
namespace Go.RI
open Fx
theorem ints_set {r : List Int} {i : Nat} {x : Int} (h : i < r.length) : (ints r).take i ++ [AV.int .i64 x] ++ (ints r).drop (i + 1) = ints (r.set i x) := by
  unfold ints
  rw [List.map_set, List.set_eq_take_append_cons_drop, if_pos (by simpa using h)]
  simp
theorem ints_ext {r s : List Int} (hl : r.length = s.length) (h : ∀ j, j < s.length → r.getD j 0 = s.getD j 0) : r = s := by
  refine List.ext_getElem hl fun i hi hj => ?_
  have := h i hj
  simp only [List.getD, List.getElem?_eq_getElem hi, List.getElem?_eq_getElem hj, Option.getD_some] at this
  exact this
theorem getD_set {r : List Int} {i j : Nat} {x : Int} (h : i < r.length) : (r.set i x).getD j 0 = if j = i then x else r.getD j 0 := by
  simp only [List.getD, List.getElem?_set]
  by_cases e : i = j
  · subst e; simp [h]
  · rw [if_neg e, if_neg (fun q => e q.symm)]
theorem zeros_ints (n : Nat) : (List.replicate n z2).flatten = ints (List.replicate n 0) := by
  unfold ints z2
  induction n with
  | zero => rfl
  | succ n ih => simp only [List.replicate_succ, List.flatten_cons, ih, List.map_cons]; rfl
theorem shl_i64 (x : Int) (n : Nat) (h : n ≤ 64) (h1 : 0 ≤ x * 2 ^ n) (h2 : x * 2 ^ n < 9223372036854775808) : (if (Int.ofNat n) < 0 then (none : Option AV) else some (.int .i64 (IntKind.i64.wrap (x * 2 ^ min (Int.ofNat n).toNat IntKind.i64.bits)))) = some (.int .i64 (x * 2 ^ n)) := by
  have e : IntKind.i64.bits = 64 := rfl
  rw [if_neg (by simp), e, show min (Int.ofNat n).toNat 64 = n by rw [Int.ofNat_eq_natCast, Int.toNat_natCast]; omega, wrap64 (by omega) (by omega)]
theorem or_half {u z : Int} (h1 : 0 ≤ u) (h2 : u < 32768) (h3 : 0 ≤ z) (h4 : z < 2) : IntKind.i64.wrap ((BitVec.ofInt IntKind.i64.bits u ||| BitVec.ofInt IntKind.i64.bits (z * 2 ^ 15)).toNat : Int) = u + 32768 * z := by
  obtain ⟨a, rfl⟩ := Int.eq_ofNat_of_zero_le h1
  obtain ⟨b, rfl⟩ := Int.eq_ofNat_of_zero_le h3
  have e : ((b : Int) * 2 ^ 15) = ((b * 2 ^ 15 : Nat) : Int) := by rw [Int.natCast_mul]; rfl
  have h4' : b < 2 := by omega
  rw [e, or64 (by omega) (by omega)]
  have h := Nat.two_pow_add_eq_or_of_lt (i := 15) (b := a) (by omega) b
  rw [Nat.or_comm, show b * 2 ^ 15 = 2 ^ 15 * b from Nat.mul_comm _ _, ← h]
  rw [show (2 : Nat) ^ 15 = 32768 from rfl]; omega
section
variable {fs : Fns} {orc : Oracle} {H : Hp}
theorem sops_ix0 {l : List AOper} {g : Env} {lo : Nat} {Q : Env → Hp → Prop} {d b len cap n : Nat} {x i : Rnd} (h : evG g x = .slice b 0 len cap 1) (hi : natOf (evG g i) = some n) (hn : n < len) (k : SOps fs orc l (up g d (.ptr b n)) H lo Q) :
    SOps fs orc (⟨.idxSl 1 x i, some d, none⟩ :: l) g H lo Q :=
  sops_aop rfl fun st tm hs hg _ _ => ⟨.ptr b n, st, H, by
    simp only [aop, hg.ev, h, hi]
    rw [show Nat.blt n len = true from Nat.ble_eq_true_of_le hn, Nat.beq_refl, Nat.mul_one, Nat.zero_add], hs, .refl _, k⟩
theorem half_ok (h83 : Code fs orc 83 F83) (h82 : Code fs orc 82 F82) (hc : Code fs orc 85 F85) {v : AV} {l : List Int} (h : Rd H 1 v (ints l)) (hd' : Dig l) (hn : l.length ≤ 1000000) :
    CallS fs orc (.func (.func 85) [] []) [v] H fun r H' => Rd H' 1 r (ints (trimL (halfL l))) := by
  refine call_fn1 hc fun lo g e0 => ?_
  repeat first | refine sops_pv (by simp only [↓pw, ↓ez, ↓reduceIte, Nat.reduceEqDiff, binA, numA, ibin, unA, pz, Bool.not_true, Bool.not_false, e0]; rfl) ?_ | refine sops_nil ?_ | refine seqQ_normal ?_ | refine sok_seq ?_ | refine sok_region ?_
  refine sops_len1 (c := ints l) (by simp only [↓ez, ↓reduceIte, Nat.reduceEqDiff, e0]; exact h) ?_
  simp only [ints_length]
  refine sops_mk l.length (by simp only [↓ez, ↓reduceIte, Nat.reduceEqDiff, natOf]) (by simp only [↓ez, ↓reduceIte, Nat.reduceEqDiff, natOf]) (by omega) hn fun b H1 hF => ?_
  rw [zeros_ints] at hF
  repeat first | refine sops_pv (by simp only [↓pw, ↓ez, ↓reduceIte, Nat.reduceEqDiff, binA, numA, ibin, unA, pz, Bool.not_true, Bool.not_false, e0]; rfl) ?_ | refine sops_nil ?_ | refine seqQ_normal ?_ | refine sok_seq ?_ | refine sok_region ?_
  refine sops_len1 (c := ints l) (by simp only [↓ez, ↓reduceIte, Nat.reduceEqDiff, e0]; exact h.mono hF.le) ?_
  simp only [ints_length]
  repeat first | refine sops_pv (by simp only [↓pw, ↓ez, ↓reduceIte, Nat.reduceEqDiff, binA, numA, ibin, unA, pz, Bool.not_true, Bool.not_false, e0]; rfl) ?_ | refine sops_nil ?_ | refine seqQ_normal ?_ | refine sok_block ?_
  refine sok_loop (fun k g' H' => ∃ i r, k = l.length - i ∧ i ≤ l.length ∧ g' 0 = v ∧ g' 3 = .slice b 0 l.length l.length 1 ∧ g' 9 = .int .i64 (.ofNat l.length) ∧ g' 10 = .int .i64 (.ofNat i) ∧ H' b = some (.own 3 (ints r)) ∧
    r.length = l.length ∧ (∀ j, j < i → r.getD j 0 = hd l j) ∧ Le H H') ?_ l.length _ _
    ⟨0, List.replicate l.length 0, rfl, Nat.zero_le _, by simp only [↓ez, ↓reduceIte, Nat.reduceEqDiff, e0], by simp only [↓ez, ↓reduceIte, Nat.reduceEqDiff], by simp only [↓ez, ↓reduceIte, Nat.reduceEqDiff], by simp only [↓ez, ↓reduceIte, Nat.reduceEqDiff], hF.at', by simp, fun j hj => absurd hj (Nat.not_lt_zero _), hF.le⟩
  rintro k g' H' ⟨i, r, rfl, hi, f0, f3, f9, f10, hb, hr, hj, hle⟩
  repeat first | refine sops_pv (by simp only [↓pw, ↓ez, ↓reduceIte, Nat.reduceEqDiff, binA, numA, ibin, unA, pz, Bool.not_true, Bool.not_false, f9, f10]; rfl) ?_ | refine sops_nil ?_ | refine seqQ_normal ?_ | refine sok_seq ?_ | refine sok_region ?_
  refine sok_cond _ (by simp only [↓ez, ↓reduceIte, Nat.reduceEqDiff]; rfl) (fun hc => ?_) (fun hc => ?_)
  · have hi' : i < l.length := by simpa using hc
    have hw := wrap_add1 (n := i) (by omega)
    have d0 := hd'.get i
    have d1 := hd'.get (i + 1)
    have q1 := shr_i64 (l.getD i 0) 1 (by decide)
    have q2 := and_one (x := l.getD (i + 1) 0) (by omega) (by omega)
    have q3 := shl_i64 (l.getD (i + 1) 0 % 2) 15 (by decide) (by omega) (by omega)
    have q4 := or_half (u := l.getD i 0 / 2 ^ 1) (z := l.getD (i + 1) 0 % 2) (by omega) (by omega) (by omega) (by omega)
    repeat first | refine sops_pv (by simp only [↓pw, ↓ez, ↓reduceIte, Nat.reduceEqDiff, binA, numA, ibin, unA, pz, Bool.not_true, Bool.not_false, f0, f3, f9, f10]; rfl) ?_ | refine sops_nil ?_ | refine seqQ_normal ?_ | refine sok_seq ?_ | refine sok_region ?_ | refine sok_skip ?_ | refine sok_block ?_ | refine sok_draw ?_ | refine sdr_step rfl fun _ _ => ?_
    refine sops_idx1 (.int .i64 (l.getD i 0)) (c := ints l) (n := i) (by simp only [↓ez, ↓reduceIte, Nat.reduceEqDiff, f0]; exact h.mono hle) (by simp only [↓ez, ↓reduceIte, Nat.reduceEqDiff, natOf]) (ints_get hi') fun p o hq => ?_
    repeat first | refine sops_pv (by simp only [↓pw, ↓ez, ↓reduceIte, Nat.reduceEqDiff, binA, numA, ibin, unA, pz, Bool.not_true, Bool.not_false, f0, f3, f9, f10, hq, ↓q1, hw]; rfl) ?_ | refine sops_nil ?_ | refine sdr_load rfl fun _ _ => ?_ | refine sdr_step rfl fun _ _ => ?_ | refine sdr_call rfl (by decide) fun _ _ => ?_
    refine sops_call (as := [v, .int .i64 (.ofNat (i + 1))]) (by simp only [↓ez, ↓reduceIte, Nat.reduceEqDiff, f0]) (digit_ok h83 (h.mono hle) (i + 1)) fun x H2 hl2 hx => ?_
    subst hx
    repeat first | refine sops_pv (by simp only [↓pw, ↓ez, ↓reduceIte, Nat.reduceEqDiff, binA, numA, ibin, unA, pz, Bool.not_true, Bool.not_false, f0, f3, f9, f10, q2, ↓q3, q4]; rfl) ?_ | refine sops_nil ?_ | refine sdr_step rfl fun _ _ => ?_
    refine sops_ix0 (by simp only [↓ez, ↓reduceIte, Nat.reduceEqDiff]; rfl) (by simp only [↓ez, ↓reduceIte, Nat.reduceEqDiff, natOf]) hi' ?_
    repeat refine sops_nil ?_
    refine sdr_store (b := b) (off := i) (e := 3) (r := ints r) (by simp only [↓ez, ↓reduceIte, Nat.reduceEqDiff]) (hl2 _ _ hb) hF.lo rfl rfl (by simp only [↓ez, ↓reduceIte, Nat.reduceEqDiff]; rfl) (by simp; omega) fun H3 hS => ?_
    have hat := hS.at'
    simp only [↓evG_t, ↓up_t, ↓reduceIte, Nat.reduceEqDiff, AV.cells] at hat
    rw [ints_set (by omega)] at hat
    repeat first | refine sops_pv (by simp only [↓pw, ↓ez, ↓reduceIte, Nat.reduceEqDiff, binA, numA, ibin, unA, pz, Bool.not_true, Bool.not_false, f0, f3, f9, f10, hw]; rfl) ?_ | refine sops_nil ?_ | refine seqQ_normal ?_ | refine blkQ_normal ?_ | refine sok_region ?_ | refine sdr_nil ?_
    refine loopQ_normal (l.length - (i + 1)) ?_ ?_
    · omega
    refine ⟨i + 1, _, rfl, hi', by simp only [↓ez, ↓reduceIte, Nat.reduceEqDiff, f0], by simp only [↓ez, ↓reduceIte, Nat.reduceEqDiff, f3], by simp only [↓ez, ↓reduceIte, Nat.reduceEqDiff, f9], by simp only [↓ez, ↓reduceIte, Nat.reduceEqDiff], hat, by simp [hr], fun j hj' => ?_, hS.le (hle.trans hl2) hF.new⟩
    rw [getD_set (by omega)]
    by_cases e : j = i
    · subst e; rw [if_pos rfl]; unfold hd; rfl
    · rw [if_neg e]; exact hj j (by omega)
  · have hi' : i = l.length := by have : ¬ i < l.length := by simpa using hc
                                  omega
    have hrl : r = halfL l := ints_ext (by rw [hr, halfL_len]) fun j hjj => by rw [hj j (by rw [halfL_len] at hjj; omega), halfL_get l (by rw [halfL_len] at hjj; exact hjj)]
    subst hrl
    repeat first | refine sops_pv (by simp only [↓pw, ↓ez, ↓reduceIte, Nat.reduceEqDiff, binA, numA, ibin, unA, pz, Bool.not_true, Bool.not_false, f3]; rfl) ?_ | refine seqQ_normal ?_ | refine seqQ_exit ?_ | refine blkQ_hit ?_ | refine loopQ_exit ?_ | refine sok_seq ?_ | refine sok_region ?_ | refine sok_exit ?_
    refine sops_call (as := [.slice b 0 l.length l.length 1]) (by simp only [↓ez, ↓reduceIte, Nat.reduceEqDiff, f3]) (trim_ok h82 (Rd.ownN hb (by rw [ints_length]; exact hr)) (by rw [hr]; omega)) fun x H2 hl2 hx => ?_
    repeat first | refine sops_pv (by simp only [↓pw, ↓ez, ↓reduceIte, Nat.reduceEqDiff, binA, numA, ibin, unA, pz, Bool.not_true, Bool.not_false, f3]; rfl) ?_ | refine sops_nil ?_ | refine seqQ_normal ?_ | refine sok_ret ?_
    refine fnQ_tmp (.inr rfl) rfl ?_ (by simp only [↓ez, ↓reduceIte, Nat.reduceEqDiff]; rfl) ?_
    · exact hle.trans hl2
    · exact hx
theorem cmp_ok (h83 : Code fs orc 83 F83) (hc : Code fs orc 42 F42) {v w : AV} {l m : List Int} (h : Rd H 1 v (ints l)) (h' : Rd H 1 w (ints m)) (hl : l.length < 1000000000) (hm : m.length < 1000000000) :
    CallS fs orc (.func (.func 42) [] []) [v, w] H fun r _ => r = .int .i64 (cmpAt l m (max l.length m.length)) := by
  refine call_fn2 hc fun lo g e0 e1 => ?_
  repeat first | refine sops_pv (by simp only [↓pw, ↓ez, ↓reduceIte, Nat.reduceEqDiff, binA, numA, ibin, unA, pz, Bool.not_true, Bool.not_false, e0, e1]; rfl) ?_ | refine sops_nil ?_ | refine seqQ_normal ?_ | refine sok_seq ?_ | refine sok_region ?_
  refine sops_len1 (c := ints l) (by simp only [↓ez, ↓reduceIte, Nat.reduceEqDiff, e0]; exact h) ?_
  simp only [ints_length]
  repeat (refine sops_pv (by simp only [↓pw, ↓ez, ↓reduceIte, Nat.reduceEqDiff, binA, numA, ibin, unA, pz, Bool.not_true, Bool.not_false, e0, e1]; rfl) ?_)
  refine sops_len1 (c := ints m) (by simp only [↓ez, ↓reduceIte, Nat.reduceEqDiff, e1]; exact h') ?_
  simp only [ints_length]
  have q1 : IntKind.i64.wrap ((if Int.ofNat m.length > Int.ofNat l.length then Int.ofNat m.length else Int.ofNat l.length) - Int.ofNat 1) = ((max l.length m.length : Nat) : Int) - 1 := by
    simp only [Int.ofNat_eq_natCast]
    split
    · rw [wrap64 (by omega) (by omega)]; omega
    · rw [wrap64 (by omega) (by omega)]; omega
  repeat first | refine sops_pv (by simp only [↓pw, ↓ez, ↓reduceIte, Nat.reduceEqDiff, binA, numA, ibin, unA, pz, Bool.not_true, Bool.not_false, e0, e1, q1]; rfl) ?_ | refine sops_nil ?_ | refine seqQ_normal ?_ | refine sok_block ?_
  refine sok_loop (fun k g' H' => k ≤ max l.length m.length ∧ g' 0 = v ∧ g' 1 = w ∧ g' 5 = .int .i64 ((k : Int) - 1) ∧ cmpAt l m k = cmpAt l m (max l.length m.length) ∧ Le H H') ?_ (max l.length m.length) _ _
    ⟨Nat.le_refl _, by simp only [↓ez, ↓reduceIte, Nat.reduceEqDiff, e0], by simp only [↓ez, ↓reduceIte, Nat.reduceEqDiff, e1], by simp only [↓ez, ↓reduceIte, Nat.reduceEqDiff], rfl, Le.refl _⟩
  rintro k g' H' ⟨hk, f0, f1, f5, hcm, hle⟩
  repeat first | refine sops_pv (by simp only [↓pw, ↓ez, ↓reduceIte, Nat.reduceEqDiff, binA, numA, ibin, unA, pz, Bool.not_true, Bool.not_false, f5]; rfl) ?_ | refine sops_nil ?_ | refine seqQ_normal ?_ | refine sok_seq ?_ | refine sok_region ?_
  refine sok_cond _ (by simp only [↓ez, ↓reduceIte, Nat.reduceEqDiff]; rfl) (fun hc => ?_) (fun hc => ?_)
  · cases k with
    | zero => simp at hc
    | succ k =>
      have ek : (((k + 1 : Nat) : Int) - 1) = Int.ofNat k := by simp only [Int.ofNat_eq_natCast]; omega
      rw [ek] at f5
      repeat first | refine sops_pv (by simp only [↓pw, ↓ez, ↓reduceIte, Nat.reduceEqDiff, binA, numA, ibin, unA, pz, Bool.not_true, Bool.not_false, f0, f1, f5]; rfl) ?_ | refine seqQ_normal ?_ | refine sok_seq ?_ | refine sok_region ?_ | refine sok_skip ?_ | refine sok_block ?_
      refine sops_call (as := [v, .int .i64 (.ofNat k)]) (by simp only [↓ez, ↓reduceIte, Nat.reduceEqDiff, f0, f5]) (digit_ok h83 (h.mono hle) k) fun x H1 hl1 hx => ?_
      subst hx
      repeat (refine sops_pv (by simp only [↓pw, ↓ez, ↓reduceIte, Nat.reduceEqDiff, binA, numA, ibin, unA, pz, Bool.not_true, Bool.not_false, f0, f1, f5]; rfl) ?_)
      refine sops_call (as := [w, .int .i64 (.ofNat k)]) (by simp only [↓ez, ↓reduceIte, Nat.reduceEqDiff, f1, f5]) (digit_ok h83 (h'.mono (hle.trans hl1)) k) fun x H2 hl2 hx => ?_
      subst hx
      repeat first | refine sops_pv (by simp only [↓pw, ↓ez, ↓reduceIte, Nat.reduceEqDiff, binA, numA, ibin, unA, pz, Bool.not_true, Bool.not_false, f0, f1, f5]; rfl) ?_ | refine sops_nil ?_ | refine seqQ_normal ?_ | refine sok_seq ?_ | refine sok_region ?_
      refine sok_cond _ (by simp only [↓ez, ↓reduceIte, Nat.reduceEqDiff]; rfl) (fun hb => ?_) (fun hb => ?_)
      ·
        repeat first | refine sops_pv (by simp only [↓pw, ↓ez, ↓reduceIte, Nat.reduceEqDiff, binA, numA, ibin, unA, pz, Bool.not_true, Bool.not_false]; rfl) ?_ | refine sops_nil ?_ | refine seqQ_normal ?_ | refine seqQ_ret ?_ | refine blkQ_ret ?_ | refine loopQ_ret ?_ | refine sok_seq ?_ | refine sok_region ?_ | refine sok_ret ?_
        refine fnQ_tmp (.inr rfl) rfl ?_ (by simp only [↓ez, ↓reduceIte, Nat.reduceEqDiff]; rfl) ?_
        · exact (hle.trans hl1).trans hl2
        · rw [← hcm]; simp only [cmpAt]; rw [if_pos (by simpa using hb)]; rfl
      · have hb := of_decide_eq_false hb
        repeat first | refine sops_pv (by simp only [↓pw, ↓ez, ↓reduceIte, Nat.reduceEqDiff, binA, numA, ibin, unA, pz, Bool.not_true, Bool.not_false]; rfl) ?_ | refine sops_nil ?_ | refine seqQ_normal ?_ | refine sok_seq ?_ | refine sok_region ?_ | refine sok_skip ?_
        refine sok_cond _ (by simp only [↓ez, ↓reduceIte, Nat.reduceEqDiff]; rfl) (fun hb2 => ?_) (fun hb2 => ?_)
        ·
          repeat first | refine sops_pv (by simp only [↓pw, ↓ez, ↓reduceIte, Nat.reduceEqDiff, binA, numA, ibin, unA, pz, Bool.not_true, Bool.not_false]; rfl) ?_ | refine sops_nil ?_ | refine seqQ_normal ?_ | refine seqQ_ret ?_ | refine blkQ_ret ?_ | refine loopQ_ret ?_ | refine sok_seq ?_ | refine sok_region ?_ | refine sok_ret ?_
          refine fnQ_tmp (.inr rfl) rfl ?_ (by simp only [↓ez, ↓reduceIte, Nat.reduceEqDiff]; rfl) ?_
          · exact (hle.trans hl1).trans hl2
          · rw [← hcm]; simp only [cmpAt]; rw [if_neg hb, if_pos (by simpa using hb2)]; rfl
        · have hb2 := of_decide_eq_false hb2
          have hw : IntKind.i64.wrap (Int.ofNat k - Int.ofNat 1) = (k : Int) - 1 := by
            simp only [Int.ofNat_eq_natCast]; rw [wrap64 (by omega) (by omega)]; omega
          repeat first | refine sops_pv (by simp only [↓pw, ↓ez, ↓reduceIte, Nat.reduceEqDiff, binA, numA, ibin, unA, pz, Bool.not_true, Bool.not_false, f5, hw]; rfl) ?_ | refine sops_nil ?_ | refine seqQ_normal ?_ | refine blkQ_normal ?_ | refine sok_region ?_ | refine sok_skip ?_
          refine loopQ_normal k ?_ ?_
          · omega
          refine ⟨by omega, by simp only [↓ez, ↓reduceIte, Nat.reduceEqDiff, f0], by simp only [↓ez, ↓reduceIte, Nat.reduceEqDiff, f1], by simp only [↓ez, ↓reduceIte, Nat.reduceEqDiff], ?_, (hle.trans hl1).trans hl2⟩
          rw [← hcm]; simp only [cmpAt]; rw [if_neg hb, if_neg hb2]
  · have hk0 : k = 0 := by
      have := of_decide_eq_false hc
      simp only [Int.ofNat_eq_natCast] at this; omega
    subst hk0
    repeat first | refine sops_pv (by simp only [↓pw, ↓ez, ↓reduceIte, Nat.reduceEqDiff, binA, numA, ibin, unA, pz, Bool.not_true, Bool.not_false]; rfl) ?_ | refine sops_nil ?_ | refine seqQ_normal ?_ | refine seqQ_exit ?_ | refine blkQ_hit ?_ | refine loopQ_exit ?_ | refine sok_seq ?_ | refine sok_region ?_ | refine sok_ret ?_ | refine sok_exit ?_
    refine fnQ_tmp (.inr rfl) rfl ?_ (by simp only [↓ez, ↓reduceIte, Nat.reduceEqDiff]; rfl) ?_
    · exact hle
    · rw [← hcm]; rfl
end
end Go.RI
