/- Rules for runs of the small language over a partly known heap, and what the functions on the way of the law compute. Conditions: none. -/
import Derived.Test.YtaplnebenndkgaaGreatDoorT27
set_option linter.all false
namespace Go.RI
open Fx
theorem ibin_rem (s n : Nat) (hn : 0 < n) : ibin .rem .i64 (Int.ofNat s) (Int.ofNat n) = some (.int .i64 (Int.ofNat (s % n))) := by
  have : ¬ (Int.ofNat n = 0) := by simp only [Int.ofNat_eq_natCast]; omega
  simp only [ibin, if_neg this]; rfl
theorem ibin_quo (s n : Nat) (hn : 0 < n) (hs : s < 9223372036854775808) : ibin .quo .i64 (Int.ofNat s) (Int.ofNat n) = some (.int .i64 (Int.ofNat (s / n))) := by
  have : ¬ (Int.ofNat n = 0) := by simp only [Int.ofNat_eq_natCast]; omega
  simp only [ibin, if_neg this]
  have e : Int.tdiv (Int.ofNat s) (Int.ofNat n) = ((s / n : Nat) : Int) := rfl
  have hb := Nat.div_le_self s n
  rw [e]
  generalize s / n = q at *
  rw [wrap64 (by omega) (by omega)]; rfl
theorem shr_u32 (x : Int) (n : Nat) (h : n ≤ 32) : (if (Int.ofNat n) < 0 then (none : Option AV) else some (.int .u32 (x.fdiv (2 ^ min (Int.ofNat n).toNat IntKind.u32.bits)))) = some (.int .u32 (x / 2 ^ n)) := by
  have e : IntKind.u32.bits = 32 := rfl
  rw [if_neg (by simp), e, show min (Int.ofNat n).toNat 32 = n by rw [Int.ofNat_eq_natCast, Int.toNat_natCast]; omega, Int.fdiv_eq_ediv_of_nonneg _ (Int.le_of_lt (Int.pow_pos (by decide)))]
theorem mask_u32 {x : Int} (h1 : 0 ≤ x) (h2 : x < 4294967296) : IntKind.u32.wrap ((BitVec.ofInt IntKind.u32.bits x &&& BitVec.ofInt IntKind.u32.bits (Int.ofNat 65535)).toNat : Int) = x % 65536 := by
  obtain ⟨a, rfl⟩ := Int.eq_ofNat_of_zero_le h1
  rw [show (Int.ofNat 65535) = ((65535 : Nat) : Int) from rfl, andU32 (by omega) (by decide), show (65535 : Nat) = 2 ^ 16 - 1 from rfl, Nat.and_two_pow_sub_one_eq_mod]; omega
def u32s (l : List Int) : List AV := l.map fun n => .int .u32 n
@[simp] theorem u32s_length (l : List Int) : (u32s l).length = l.length := by simp [u32s]
theorem u32s_get {l : List Int} {i : Nat} (h : i < l.length) : (u32s l)[i]? = some (.int .u32 (l.getD i 0)) := by simp [u32s, h]
def natL (l : List Int) : List Int := l.flatMap fun x => [x % 65536, x / 65536]
theorem natL_snoc (l : List Int) (x : Int) : natL (l ++ [x]) = natL l ++ [x % 65536, x / 65536] := by simp [natL]
theorem natL_len (l : List Int) : (natL l).length = 2 * l.length := by
  induction l with
  | nil => rfl
  | cons x l ih => simp only [natL, List.flatMap_cons, List.length_append, List.length_cons, List.length_nil] at *; omega
def Lim (l : List Int) : Prop := ∀ x, x ∈ l → 0 ≤ x ∧ x < 4294967296
theorem natL_dig {l : List Int} (h : Lim l) : Dig (natL l) := by
  intro x hx
  obtain ⟨y, hy, hxy⟩ := List.mem_flatMap.1 hx
  have := h y hy
  simp only [List.mem_cons, List.mem_nil_iff, or_false] at hxy
  rcases hxy with rfl | rfl <;> omega
theorem take_snoc {l : List Int} {i : Nat} (h : i < l.length) : l.take (i + 1) = l.take i ++ [l.getD i 0] := by
  rw [List.take_succ_eq_append_getElem h]
  simp only [List.getD, List.getElem?_eq_getElem h, Option.getD_some]
section
variable {fs : Fns} {orc : Oracle} {H : Hp}
theorem natOf_ok (h82 : Code fs orc 82 F82) (hc : Code fs orc 41 F41) {v : AV} {l : List Int} (h : Rd H 1 v (u32s l)) (hl : Lim l) (hn : l.length < 1000000) :
    CallS fs orc (.func (.func 41) [] []) [v] H fun r H' => Rd H' 1 r (ints (trimL (natL l))) := by
  refine call_fn1 hc fun lo g e0 => ?_
  repeat first | refine sops_pv (by simp only [↓pw, ↓ez, ↓reduceIte, Nat.reduceEqDiff, binA, numA, ibin, unA, pz, Bool.not_true, Bool.not_false, e0]; rfl) ?_ | refine sops_nil ?_ | refine seqQ_normal ?_ | refine sok_seq ?_ | refine sok_region ?_
  refine sops_len1 (c := u32s l) (by simp only [↓ez, ↓reduceIte, Nat.reduceEqDiff, e0]; exact h) ?_
  simp only [u32s_length]
  repeat first | refine sops_pv (by simp only [↓pw, ↓ez, ↓reduceIte, Nat.reduceEqDiff, binA, numA, ibin, unA, pz, Bool.not_true, Bool.not_false, e0]; rfl) ?_ | refine sops_nil ?_ | refine seqQ_normal ?_ | refine sok_block ?_
  refine sok_loop (fun k g' H' => ∃ i, k = l.length - i ∧ i ≤ l.length ∧ g' 6 = v ∧ g' 7 = .int .i64 (.ofNat l.length) ∧ g' 8 = .int .i64 (.ofNat i) ∧ Buf 3 H H' lo (g' 3) (ints (natL (l.take i))) ∧ Le H H') ?_ l.length _ _
    ⟨0, rfl, Nat.zero_le _, by simp only [↓ez, ↓reduceIte, Nat.reduceEqDiff, e0], by simp only [↓ez, ↓reduceIte, Nat.reduceEqDiff], by simp only [↓ez, ↓reduceIte, Nat.reduceEqDiff], by simp only [↓up_t, ↓reduceIte, Nat.reduceEqDiff]; exact Buf.nil 3 H H lo, Le.refl _⟩
  rintro k g' H' ⟨i, rfl, hi, f6, f7, f8, hb, hle⟩
  repeat first | refine sops_pv (by simp only [↓pw, ↓ez, ↓reduceIte, Nat.reduceEqDiff, binA, numA, ibin, unA, pz, Bool.not_true, Bool.not_false, f7, f8]; rfl) ?_ | refine sops_nil ?_ | refine seqQ_normal ?_ | refine sok_seq ?_ | refine sok_region ?_
  refine sok_cond _ (by simp only [↓ez, ↓reduceIte, Nat.reduceEqDiff]; rfl) (fun hc => ?_) (fun hc => ?_)
  · have hi' : i < l.length := by simpa using hc
    have hw := wrap_add1 (n := i) (by omega)
    have hx : 0 ≤ l.getD i 0 ∧ l.getD i 0 < 4294967296 := by
      simp only [List.getD, List.getElem?_eq_getElem hi', Option.getD_some]; exact hl _ (List.getElem_mem hi')
    have q1 := mask_u32 hx.1 hx.2
    have q2 := shr_u32 (l.getD i 0) 16 (by decide)
    have q3 := wrap64 (n := l.getD i 0 % 65536) (by omega) (by omega)
    have q4 := wrap64 (n := l.getD i 0 / 2 ^ 16) (by omega) (by omega)
    repeat first | refine seqQ_normal ?_ | refine sok_seq ?_ | refine sok_region ?_ | refine sok_skip ?_ | refine sok_block ?_
    refine sops_idx1 (.int .u32 (l.getD i 0)) (c := u32s l) (n := i) (by simp only [↓ez, ↓reduceIte, Nat.reduceEqDiff, f6]; exact h.mono hle) (by simp only [↓ez, ↓reduceIte, Nat.reduceEqDiff, natOf, f8]) (u32s_get hi') fun p o hq => ?_
    repeat first | refine sops_pv (by simp only [↓pw, ↓ez, ↓reduceIte, Nat.reduceEqDiff, binA, numA, ibin, unA, pz, Bool.not_true, Bool.not_false, hq, q1, ↓q2, q3, q4]; rfl) ?_ | refine sops_nil ?_ | refine seqQ_normal ?_ | refine sok_region ?_
    refine sops_bs (ints [l.getD i 0 % 65536, l.getD i 0 / 2 ^ 16]) rfl fun b2 H2 hF => ?_
    refine sops_app (c := ints (natL (l.take i))) (H0 := H) (xs := ints [l.getD i 0 % 65536, l.getD i 0 / 2 ^ 16]) (by simp only [↓ez, ↓reduceIte, Nat.reduceEqDiff]; exact hb.mono hF.le) (hle.trans hF.le) (.inl (by simp only [↓ez, ↓reduceIte, Nat.reduceEqDiff]; exact Rd.ownN hF.at' rfl)) (by simp [ints]) rfl
      (by simp only [ints_length, natL_len, List.length_take, List.length_cons, List.length_nil]; omega) (by simp only [ints_length, natL_len, List.length_take, List.length_cons, List.length_nil]; omega) fun v3 H3 hb3 hle3 _ => ?_
    repeat first | refine sops_pv (by simp only [↓pw, ↓ez, ↓reduceIte, Nat.reduceEqDiff, binA, numA, ibin, unA, pz, Bool.not_true, Bool.not_false, f8, hw]; rfl) ?_ | refine sops_nil ?_ | refine seqQ_normal ?_ | refine blkQ_normal ?_ | refine sok_region ?_
    refine loopQ_normal (l.length - (i + 1)) ?_ ?_
    · omega
    refine ⟨i + 1, rfl, hi', by simp only [↓ez, ↓reduceIte, Nat.reduceEqDiff, f6], by simp only [↓ez, ↓reduceIte, Nat.reduceEqDiff, f7], by simp only [↓ez, ↓reduceIte, Nat.reduceEqDiff], ?_, hle3⟩
    simp only [↓up_t, ↓reduceIte, Nat.reduceEqDiff]
    rw [take_snoc hi', natL_snoc, ← ints_append]; exact hb3
  · have hi' : i = l.length := by have : ¬ i < l.length := by simpa using hc
                                  omega
    subst hi'
    rw [List.take_length] at hb
    repeat first | refine sops_pv (by simp only [↓pw, ↓ez, ↓reduceIte, Nat.reduceEqDiff, binA, numA, ibin, unA, pz, Bool.not_true, Bool.not_false]; rfl) ?_ | refine seqQ_normal ?_ | refine seqQ_exit ?_ | refine blkQ_hit ?_ | refine loopQ_exit ?_ | refine sok_seq ?_ | refine sok_region ?_ | refine sok_exit ?_
    refine sops_call (as := [g' 3]) (by simp only [↓ez, ↓reduceIte, Nat.reduceEqDiff]) (trim_ok h82 hb.rd (by rw [natL_len]; omega)) fun x H2 hl2 hx => ?_
    repeat first | refine sops_pv (by simp only [↓pw, ↓ez, ↓reduceIte, Nat.reduceEqDiff, binA, numA, ibin, unA, pz, Bool.not_true, Bool.not_false]; rfl) ?_ | refine sops_nil ?_ | refine seqQ_normal ?_ | refine sok_ret ?_
    refine fnQ_tmp (.inr rfl) rfl ?_ (by simp only [↓ez, ↓reduceIte, Nat.reduceEqDiff]; rfl) ?_
    · exact hle.trans hl2
    · exact hx
theorem sub_ok (h83 : Code fs orc 83 F83) (h82 : Code fs orc 82 F82) (hc : Code fs orc 86 F86) {v w : AV} {l m : List Int} (h : Rd H 1 v (ints l)) (h' : Rd H 1 w (ints m)) (hl : Dig l) (hm : Dig m) (hn : l.length < 1000000) (hv : val m ≤ val l) :
    CallS fs orc (.func (.func 86) [] []) [v, w] H fun r H' => ∃ o, Rd H' 1 r (ints o) ∧ Can o ∧ val o = val l - val m ∧ o.length ≤ l.length := by
  refine call_fn2 hc fun lo g e0 e1 => ?_
  repeat first | refine sops_pv (by simp only [↓pw, ↓ez, ↓reduceIte, Nat.reduceEqDiff, binA, numA, ibin, unA, pz, Bool.not_true, Bool.not_false, e0, e1]; rfl) ?_ | refine sops_nil ?_ | refine seqQ_normal ?_ | refine sok_seq ?_ | refine sok_region ?_
  refine sops_len1 (c := ints l) (by simp only [↓ez, ↓reduceIte, Nat.reduceEqDiff, e0]; exact h) ?_
  simp only [ints_length]
  repeat first | refine sops_pv (by simp only [↓pw, ↓ez, ↓reduceIte, Nat.reduceEqDiff, binA, numA, ibin, unA, pz, Bool.not_true, Bool.not_false, e0]; rfl) ?_ | refine sops_nil ?_ | refine seqQ_normal ?_ | refine sok_block ?_
  refine sok_loop (fun k g' H' => ∃ i o bor, k = l.length - i ∧ i ≤ l.length ∧ g' 0 = v ∧ g' 1 = w ∧ g' 9 = v ∧ g' 10 = .int .i64 (.ofNat l.length) ∧ g' 11 = .int .i64 (.ofNat i) ∧ g' 6 = .int .i64 bor ∧ 0 ≤ bor ∧ bor ≤ 1 ∧
      Buf 3 H H' lo (g' 5) (ints o) ∧ o.length = i ∧ Dig o ∧ val o = vk l i - vk m i + bor * 65536 ^ i ∧ Le H H') ?_ l.length _ _
    ⟨0, [], 0, rfl, Nat.zero_le _, by simp only [↓ez, ↓reduceIte, Nat.reduceEqDiff, e0], by simp only [↓ez, ↓reduceIte, Nat.reduceEqDiff, e1], by simp only [↓ez, ↓reduceIte, Nat.reduceEqDiff, e0], by simp only [↓ez, ↓reduceIte, Nat.reduceEqDiff], by simp only [↓ez, ↓reduceIte, Nat.reduceEqDiff], by simp only [↓ez, ↓reduceIte, Nat.reduceEqDiff]; rfl, by decide, by decide, by simp only [↓up_t, ↓reduceIte, Nat.reduceEqDiff]; exact Buf.nil 3 H H lo, rfl, fun x hx => by (cases hx), rfl, Le.refl _⟩
  rintro k g' H' ⟨i, o, bor, rfl, hi, f0, f1, f9, f10, f11, f6, hb0, hb1, hb, ho, hdo, hval, hle⟩
  repeat first | refine sops_pv (by simp only [↓pw, ↓ez, ↓reduceIte, Nat.reduceEqDiff, binA, numA, ibin, unA, pz, Bool.not_true, Bool.not_false, f10, f11]; rfl) ?_ | refine sops_nil ?_ | refine seqQ_normal ?_ | refine sok_seq ?_ | refine sok_region ?_
  refine sok_cond _ (by simp only [↓ez, ↓reduceIte, Nat.reduceEqDiff]; rfl) (fun hc => ?_) (fun hc => ?_)
  · have hi' : i < l.length := by simpa using hc
    have hw := wrap_add1 (n := i) (by omega)
    have d0 := hl.get i
    have d1 := hm.get i
    have q1 := wrap64 (n := l.getD i 0 - m.getD i 0) (by omega) (by omega)
    have q2 := wrap64 (n := l.getD i 0 - m.getD i 0 - bor) (by omega) (by omega)
    repeat first | refine sops_pv (by simp only [↓pw, ↓ez, ↓reduceIte, Nat.reduceEqDiff, binA, numA, ibin, unA, pz, Bool.not_true, Bool.not_false, f0, f11]; rfl) ?_ | refine sops_nil ?_ | refine seqQ_normal ?_ | refine sok_seq ?_ | refine sok_region ?_ | refine sok_skip ?_ | refine sok_block ?_ | refine sok_draw ?_ | refine sdr_step rfl fun _ _ => ?_
    refine sops_idx1 (.int .i64 (l.getD i 0)) (c := ints l) (n := i) (by simp only [↓ez, ↓reduceIte, Nat.reduceEqDiff, f0]; exact h.mono hle) (by simp only [↓ez, ↓reduceIte, Nat.reduceEqDiff, natOf, f11]) (ints_get hi') fun p q hq => ?_
    repeat first | refine sops_pv (by simp only [↓pw, ↓ez, ↓reduceIte, Nat.reduceEqDiff, binA, numA, ibin, unA, pz, Bool.not_true, Bool.not_false, f0, f1, f11, hq]; rfl) ?_ | refine sops_nil ?_ | refine sdr_load rfl fun _ _ => ?_ | refine sdr_step rfl fun _ _ => ?_ | refine sdr_call rfl (by decide) fun _ _ => ?_
    refine sops_call (as := [w, .int .i64 (.ofNat i)]) (by simp only [↓ez, ↓reduceIte, Nat.reduceEqDiff, f1]) (digit_ok h83 (h'.mono hle) i) fun x H2 hl2 hx => ?_
    subst hx
    repeat first | refine sops_pv (by simp only [↓pw, ↓ez, ↓reduceIte, Nat.reduceEqDiff, binA, numA, ibin, unA, pz, Bool.not_true, Bool.not_false, f6, q1, q2]; rfl) ?_ | refine sops_nil ?_ | refine seqQ_normal ?_ | refine sok_seq ?_ | refine sok_region ?_ | refine sdr_step rfl fun _ _ => ?_ | refine sdr_nil ?_
    have hP := pw_succ i
    have hstep : ∀ (s' bor' : Int), s' = l.getD i 0 - m.getD i 0 - bor + 65536 * bor' → val (o ++ [s']) = vk l (i + 1) - vk m (i + 1) + bor' * 65536 ^ (i + 1) := by
      intro s' bor' hs
      rw [val_snoc, ho, hval, hP]
      simp only [vk]
      subst hs
      rw [Int.add_mul, Int.sub_mul, Int.sub_mul, show 65536 * bor' * 65536 ^ i = bor' * (65536 ^ i * 65536) by rw [Int.mul_comm 65536 bor', Int.mul_assoc, Int.mul_comm 65536]]
      omega
    refine sok_cond _ (by simp only [↓ez, ↓reduceIte, Nat.reduceEqDiff]; rfl) (fun hs => ?_) (fun hs => ?_)
    · have hs' : l.getD i 0 - m.getD i 0 - bor < 0 := by simpa using hs
      have q3 := wrap64 (n := l.getD i 0 - m.getD i 0 - bor + Int.ofNat 65536) (by simp only [Int.ofNat_eq_natCast]; omega) (by simp only [Int.ofNat_eq_natCast]; omega)
      repeat first | refine sops_pv (by simp only [↓pw, ↓ez, ↓reduceIte, Nat.reduceEqDiff, binA, numA, ibin, unA, pz, Bool.not_true, Bool.not_false, q3]; rfl) ?_ | refine sops_nil ?_ | refine seqQ_normal ?_ | refine sok_seq ?_ | refine sok_region ?_
      refine sops_bs (ints [l.getD i 0 - m.getD i 0 - bor + Int.ofNat 65536]) rfl fun b2 H3 hF => ?_
      refine sops_app (c := ints o) (H0 := H) (xs := ints [l.getD i 0 - m.getD i 0 - bor + Int.ofNat 65536]) (by simp only [↓ez, ↓reduceIte, Nat.reduceEqDiff]; exact hb.mono (hl2.trans hF.le)) ((hle.trans hl2).trans hF.le) (.inl (by simp only [↓ez, ↓reduceIte, Nat.reduceEqDiff]; exact Rd.ownN hF.at' rfl)) (by simp [ints]) rfl
        (by simp only [ints_length, List.length_cons, List.length_nil]; omega) (by simp only [ints_length, List.length_cons, List.length_nil]; omega) fun v3 H4 hb3 hle3 _ => ?_
      repeat first | refine sops_pv (by simp only [↓pw, ↓ez, ↓reduceIte, Nat.reduceEqDiff, binA, numA, ibin, unA, pz, Bool.not_true, Bool.not_false, f11, hw]; rfl) ?_ | refine sops_nil ?_ | refine seqQ_normal ?_ | refine blkQ_normal ?_ | refine sok_region ?_
      refine loopQ_normal (l.length - (i + 1)) ?_ ?_
      · omega
      refine ⟨i + 1, o ++ [l.getD i 0 - m.getD i 0 - bor + Int.ofNat 65536], 1, rfl, hi', by simp only [↓ez, ↓reduceIte, Nat.reduceEqDiff, f0], by simp only [↓ez, ↓reduceIte, Nat.reduceEqDiff, f1], by simp only [↓ez, ↓reduceIte, Nat.reduceEqDiff, f9], by simp only [↓ez, ↓reduceIte, Nat.reduceEqDiff, f10], by simp only [↓ez, ↓reduceIte, Nat.reduceEqDiff], by simp only [↓ez, ↓reduceIte, Nat.reduceEqDiff]; rfl, by decide, by decide, ?_, by simp [ho], fun x hx => ?_, hstep _ 1 (by simp only [Int.ofNat_eq_natCast]; omega), hle3⟩
      · simp only [↓up_t, ↓reduceIte, Nat.reduceEqDiff]; rw [← ints_append]; exact hb3
      · rcases List.mem_append.1 hx with hx | hx
        · exact hdo x hx
        · simp only [List.mem_singleton, Int.ofNat_eq_natCast] at hx; omega
    · have hs' : ¬ l.getD i 0 - m.getD i 0 - bor < 0 := by simpa using hs
      repeat first | refine sops_pv (by simp only [↓pw, ↓ez, ↓reduceIte, Nat.reduceEqDiff, binA, numA, ibin, unA, pz, Bool.not_true, Bool.not_false]; rfl) ?_ | refine seqQ_normal ?_ | refine sok_region ?_ | refine sok_skip ?_
      refine sops_bs (ints [l.getD i 0 - m.getD i 0 - bor]) rfl fun b2 H3 hF => ?_
      refine sops_app (c := ints o) (H0 := H) (xs := ints [l.getD i 0 - m.getD i 0 - bor]) (by simp only [↓ez, ↓reduceIte, Nat.reduceEqDiff]; exact hb.mono (hl2.trans hF.le)) ((hle.trans hl2).trans hF.le) (.inl (by simp only [↓ez, ↓reduceIte, Nat.reduceEqDiff]; exact Rd.ownN hF.at' rfl)) (by simp [ints]) rfl
        (by simp only [ints_length, List.length_cons, List.length_nil]; omega) (by simp only [ints_length, List.length_cons, List.length_nil]; omega) fun v3 H4 hb3 hle3 _ => ?_
      repeat first | refine sops_pv (by simp only [↓pw, ↓ez, ↓reduceIte, Nat.reduceEqDiff, binA, numA, ibin, unA, pz, Bool.not_true, Bool.not_false, f11, hw]; rfl) ?_ | refine sops_nil ?_ | refine seqQ_normal ?_ | refine blkQ_normal ?_ | refine sok_region ?_
      refine loopQ_normal (l.length - (i + 1)) ?_ ?_
      · omega
      refine ⟨i + 1, o ++ [l.getD i 0 - m.getD i 0 - bor], 0, rfl, hi', by simp only [↓ez, ↓reduceIte, Nat.reduceEqDiff, f0], by simp only [↓ez, ↓reduceIte, Nat.reduceEqDiff, f1], by simp only [↓ez, ↓reduceIte, Nat.reduceEqDiff, f9], by simp only [↓ez, ↓reduceIte, Nat.reduceEqDiff, f10], by simp only [↓ez, ↓reduceIte, Nat.reduceEqDiff], by simp only [↓ez, ↓reduceIte, Nat.reduceEqDiff]; rfl, by decide, by decide, ?_, by simp [ho], fun x hx => ?_, hstep _ 0 (by omega), hle3⟩
      · simp only [↓up_t, ↓reduceIte, Nat.reduceEqDiff]; rw [← ints_append]; exact hb3
      · rcases List.mem_append.1 hx with hx | hx
        · exact hdo x hx
        · simp only [List.mem_singleton] at hx; omega
  · have hi' : i = l.length := by have : ¬ i < l.length := by simpa using hc
                                  omega
    subst hi'
    have key : val o = val l - val m := by
      have b1 := val_bound hdo
      have b2 := vk_bound hm l.length
      have b3 := (val_bound hl).2
      have hvl : vk l l.length = val l := rfl
      rw [hvl] at hval
      have hmv : vk m l.length ≤ val m ∧ (val m < 65536 ^ l.length → vk m l.length = val m) := vk_part hm l.length
      have hmm := hmv.2 (by omega)
      rw [ho] at b1
      have : bor = 0 := by
        rcases Int.lt_or_le 0 bor with q | q
        · have : bor = 1 := by omega
          subst this; omega
        · omega
      subst this; omega
    repeat first | refine sops_pv (by simp only [↓pw, ↓ez, ↓reduceIte, Nat.reduceEqDiff, binA, numA, ibin, unA, pz, Bool.not_true, Bool.not_false]; rfl) ?_ | refine seqQ_normal ?_ | refine seqQ_exit ?_ | refine blkQ_hit ?_ | refine loopQ_exit ?_ | refine sok_seq ?_ | refine sok_region ?_ | refine sok_exit ?_
    refine sops_call (as := [g' 5]) (by simp only [↓ez, ↓reduceIte, Nat.reduceEqDiff]) (trim_ok h82 hb.rd (by omega)) fun x H2 hl2 hx => ?_
    repeat first | refine sops_pv (by simp only [↓pw, ↓ez, ↓reduceIte, Nat.reduceEqDiff, binA, numA, ibin, unA, pz, Bool.not_true, Bool.not_false]; rfl) ?_ | refine sops_nil ?_ | refine seqQ_normal ?_ | refine sok_ret ?_
    refine fnQ_tmp (.inr rfl) rfl ?_ (by simp only [↓ez, ↓reduceIte, Nat.reduceEqDiff]; rfl) ?_
    · exact hle.trans hl2
    · exact ⟨trimL o, hx, can_trim hdo, by rw [trim_val]; exact key, by rw [← ho]; exact trimL_le o⟩
end
end Go.RI
namespace Go.RI
open Fx
theorem or_some {a b : Nat} (ha : a < 4294967296) (hb : b < 4294967296) : ∃ s : Nat, s < 4294967296 ∧ IntKind.i64.wrap ((BitVec.ofInt IntKind.i64.bits (a : Int) ||| BitVec.ofInt IntKind.i64.bits (Int.ofNat b)).toNat : Int) = Int.ofNat s :=
  ⟨a ||| b, Nat.or_lt_two_pow (n := 32) ha hb, or64 (by omega) (by omega)⟩
section
variable {fs : Fns} {orc : Oracle} {H : Hp}
theorem shl_ok (h82 : Code fs orc 82 F82) (hc : Code fs orc 87 F87) {v : AV} {l : List Int} (h : Rd H 1 v (ints l)) (hl : Dig l) (hn : l.length ≤ 1000) {tw : Nat} (htw : tw ≤ 100000) :
    CallS fs orc (.func (.func 87) [] []) [v, .int .i64 (.ofNat tw)] H fun r H' => ∃ o, Rd H' 1 r (ints o) ∧ o.length < 1000000000 := by
  refine call_fn2 hc fun lo g e0 e1 => ?_
  repeat first | refine sops_pv (by simp only [↓pw, ↓ez, ↓reduceIte, Nat.reduceEqDiff, binA, numA, ibin, unA, pz, Bool.not_true, Bool.not_false, e0, e1]; rfl) ?_ | refine sops_nil ?_ | refine seqQ_normal ?_ | refine sok_seq ?_ | refine sok_region ?_
  refine sops_len1 (c := ints l) (by simp only [↓ez, ↓reduceIte, Nat.reduceEqDiff, e0]; exact h) ?_
  simp only [ints_length]
  repeat first | refine sops_pv (by simp only [↓pw, ↓ez, ↓reduceIte, Nat.reduceEqDiff, binA, numA, ibin, unA, pz, Bool.not_true, Bool.not_false, e0, e1]; rfl) ?_ | refine sops_nil ?_ | refine seqQ_normal ?_
  refine sok_cond _ (by simp only [↓ez, ↓reduceIte, Nat.reduceEqDiff]; rfl) (fun hb => ?_) (fun hb => ?_)
  ·
    repeat first | refine sops_pv (by simp only [↓pw, ↓ez, ↓reduceIte, Nat.reduceEqDiff, binA, numA, ibin, unA, pz, Bool.not_true, Bool.not_false]; rfl) ?_ | refine sops_nil ?_ | refine seqQ_normal ?_ | refine seqQ_ret ?_ | refine sok_seq ?_ | refine sok_region ?_ | refine sok_ret ?_
    refine fnQ_tmp (.inr rfl) rfl ?_ (by simp only [↓ez, ↓reduceIte, Nat.reduceEqDiff]; rfl) ?_
    · exact Le.refl _
    · exact ⟨[], Rd.nil _ _, by simp⟩
  have q1 := ibin_quo tw 16 (by decide) (by omega)
  repeat first | refine sops_pv (by simp only [↓pw, ↓ez, ↓reduceIte, Nat.reduceEqDiff, binA, numA, ibin, unA, pz, Bool.not_true, Bool.not_false, e1, ↓q1]; rfl) ?_ | refine seqQ_normal ?_ | refine sok_seq ?_ | refine sok_region ?_ | refine sok_skip ?_
  refine sops_mk (tw / 16) (by simp only [↓ez, ↓reduceIte, Nat.reduceEqDiff, natOf]) (by simp only [↓ez, ↓reduceIte, Nat.reduceEqDiff, natOf]) (by omega) (by omega) fun b H1 hF => ?_
  rw [zeros_ints] at hF
  repeat first | refine sops_pv (by simp only [↓pw, ↓ez, ↓reduceIte, Nat.reduceEqDiff, binA, numA, ibin, unA, pz, Bool.not_true, Bool.not_false, e0]; rfl) ?_ | refine sops_nil ?_ | refine seqQ_normal ?_ | refine sok_seq ?_ | refine sok_region ?_
  refine sops_len1 (c := ints l) (by simp only [↓ez, ↓reduceIte, Nat.reduceEqDiff, e0]; exact h.mono hF.le) ?_
  simp only [ints_length]
  repeat first | refine sops_pv (by simp only [↓pw, ↓ez, ↓reduceIte, Nat.reduceEqDiff, binA, numA, ibin, unA, pz, Bool.not_true, Bool.not_false, e0]; rfl) ?_ | refine sops_nil ?_ | refine seqQ_normal ?_ | refine sok_block ?_
  refine sok_loop (fun k g' H' => ∃ i o cy, k = l.length - i ∧ i ≤ l.length ∧ g' 1 = .int .i64 (.ofNat tw) ∧ g' 16 = v ∧ g' 17 = .int .i64 (.ofNat l.length) ∧ g' 18 = .int .i64 (.ofNat i) ∧ g' 6 = .int .i64 (.ofNat cy) ∧ cy < 4294967296 ∧
      Buf 3 H H' lo (g' 5) (ints o) ∧ o.length = tw / 16 + i ∧ Le H H') ?_ l.length _ _
    ⟨0, List.replicate (tw / 16) 0, 0, rfl, Nat.zero_le _, by simp only [↓ez, ↓reduceIte, Nat.reduceEqDiff, e1], by simp only [↓ez, ↓reduceIte, Nat.reduceEqDiff, e0], by simp only [↓ez, ↓reduceIte, Nat.reduceEqDiff], by simp only [↓ez, ↓reduceIte, Nat.reduceEqDiff], by simp only [↓ez, ↓reduceIte, Nat.reduceEqDiff], by decide, .inr ⟨b, by simp only [↓up_t, ↓reduceIte, Nat.reduceEqDiff, ints_length, List.length_replicate], .inl hF.at', hF.new, hF.lo⟩, by simp, hF.le⟩
  rintro k g' H' ⟨i, o, cy, rfl, hi, f1, f16, f17, f18, f6, hcy, hbuf, ho, hle⟩
  repeat first | refine sops_pv (by simp only [↓pw, ↓ez, ↓reduceIte, Nat.reduceEqDiff, binA, numA, ibin, unA, pz, Bool.not_true, Bool.not_false, f17, f18]; rfl) ?_ | refine sops_nil ?_ | refine seqQ_normal ?_ | refine sok_seq ?_ | refine sok_region ?_
  refine sok_cond _ (by simp only [↓ez, ↓reduceIte, Nat.reduceEqDiff]; rfl) (fun hc => ?_) (fun hc => ?_)
  · have hi' : i < l.length := by simpa using hc
    have hw := wrap_add1 (n := i) (by omega)
    obtain ⟨x, hx⟩ := Int.eq_ofNat_of_zero_le (hl.get i).1
    have hx2 : x < 65536 := by have := (hl.get i).2; omega
    have hp : (2 : Nat) ^ (tw % 16) ≤ 32768 := Nat.pow_le_pow_right (by decide) (show tw % 16 ≤ 15 by omega)
    have hp0 : 0 < (2 : Nat) ^ (tw % 16) := Nat.pow_pos (by decide)
    have hxp : x * 2 ^ (tw % 16) ≤ 65535 * 32768 := Nat.mul_le_mul (by omega) hp
    have ecast : ((x : Int) * 2 ^ (tw % 16)) = ((x * 2 ^ (tw % 16) : Nat) : Int) := by rw [Int.natCast_mul, Int.natCast_pow]; rfl
    have q2 := ibin_rem tw 16 (by decide)
    have q3 := shl_i64 (x : Int) (tw % 16) (by omega) (by rw [ecast]; omega) (by rw [ecast]; omega)
    obtain ⟨s, hs, q4⟩ := or_some (a := x * 2 ^ (tw % 16)) (b := cy) (by omega) hcy
    rw [← ecast] at q4
    have q5 := ibin_rem s 65536 (by decide)
    have q6 := ibin_quo s 65536 (by decide) (by omega)
    have hsq : s / 65536 < 4294967296 := by omega
    repeat first | refine seqQ_normal ?_ | refine sok_seq ?_ | refine sok_region ?_ | refine sok_skip ?_ | refine sok_block ?_
    refine sops_idx1 (.int .i64 (x : Int)) (c := ints l) (n := i) (by simp only [↓ez, ↓reduceIte, Nat.reduceEqDiff, f16]; exact h.mono hle) (by simp only [↓ez, ↓reduceIte, Nat.reduceEqDiff, natOf, f18]) (by rw [ints_get hi', hx]) fun p q hq => ?_
    repeat first | refine sops_pv (by simp only [↓pw, ↓ez, ↓reduceIte, Nat.reduceEqDiff, binA, numA, ibin, unA, pz, Bool.not_true, Bool.not_false, f1, f6, hq, ↓q2, ↓q3, q4, ↓q5]; rfl) ?_ | refine sops_nil ?_ | refine seqQ_normal ?_ | refine sok_seq ?_ | refine sok_region ?_
    refine sops_bs (ints [Int.ofNat (s % 65536)]) rfl fun b2 H3 hF3 => ?_
    refine sops_app (c := ints o) (H0 := H) (xs := ints [Int.ofNat (s % 65536)]) (by simp only [↓ez, ↓reduceIte, Nat.reduceEqDiff]; exact hbuf.mono hF3.le) (hle.trans hF3.le) (.inl (by simp only [↓ez, ↓reduceIte, Nat.reduceEqDiff]; exact Rd.ownN hF3.at' rfl)) (by simp [ints]) rfl
      (by simp only [ints_length, List.length_cons, List.length_nil]; omega) (by simp only [ints_length, List.length_cons, List.length_nil]; omega) fun v3 H4 hb3 hle3 _ => ?_
    repeat first | refine sops_pv (by simp only [↓pw, ↓ez, ↓reduceIte, Nat.reduceEqDiff, binA, numA, ibin, unA, pz, Bool.not_true, Bool.not_false, f18, hw, ↓q6]; rfl) ?_ | refine sops_nil ?_ | refine seqQ_normal ?_ | refine blkQ_normal ?_ | refine sok_region ?_
    refine loopQ_normal (l.length - (i + 1)) ?_ ?_
    · omega
    refine ⟨i + 1, o ++ [Int.ofNat (s % 65536)], s / 65536, rfl, hi', by simp only [↓ez, ↓reduceIte, Nat.reduceEqDiff, f1], by simp only [↓ez, ↓reduceIte, Nat.reduceEqDiff, f16], by simp only [↓ez, ↓reduceIte, Nat.reduceEqDiff, f17], by simp only [↓ez, ↓reduceIte, Nat.reduceEqDiff], by simp only [↓ez, ↓reduceIte, Nat.reduceEqDiff], hsq, ?_, by simp [ho]; omega, hle3⟩
    simp only [↓up_t, ↓reduceIte, Nat.reduceEqDiff]; rw [← ints_append]; exact hb3
  ·
    repeat first | refine sops_pv (by simp only [↓pw, ↓ez, ↓reduceIte, Nat.reduceEqDiff, binA, numA, ibin, unA, pz, Bool.not_true, Bool.not_false, f6]; rfl) ?_ | refine seqQ_normal ?_ | refine seqQ_exit ?_ | refine blkQ_hit ?_ | refine loopQ_exit ?_ | refine sok_seq ?_ | refine sok_region ?_ | refine sok_exit ?_
    refine sops_bs (ints [Int.ofNat cy]) rfl fun b2 H3 hF3 => ?_
    refine sops_app (c := ints o) (H0 := H) (xs := ints [Int.ofNat cy]) (by simp only [↓ez, ↓reduceIte, Nat.reduceEqDiff]; exact hbuf.mono hF3.le) (hle.trans hF3.le) (.inl (by simp only [↓ez, ↓reduceIte, Nat.reduceEqDiff]; exact Rd.ownN hF3.at' rfl)) (by simp [ints]) rfl
      (by simp only [ints_length, List.length_cons, List.length_nil]; omega) (by simp only [ints_length, List.length_cons, List.length_nil]; omega) fun v3 H4 hb3 hle3 _ => ?_
    refine sops_call (as := [v3]) (by simp only [↓ez, ↓reduceIte, Nat.reduceEqDiff]) (trim_ok h82 (l := o ++ [Int.ofNat cy]) (by rw [← ints_append]; exact hb3.rd) (by simp; omega)) fun x H2 hl2 hx => ?_
    repeat first | refine sops_pv (by simp only [↓pw, ↓ez, ↓reduceIte, Nat.reduceEqDiff, binA, numA, ibin, unA, pz, Bool.not_true, Bool.not_false]; rfl) ?_ | refine sops_nil ?_ | refine seqQ_normal ?_ | refine sok_ret ?_
    refine fnQ_tmp (.inr rfl) rfl ?_ (by simp only [↓ez, ↓reduceIte, Nat.reduceEqDiff]; rfl) ?_
    · exact hle3.trans hl2
    · exact ⟨_, hx, by have := trimL_le (o ++ [Int.ofNat cy]); rw [List.length_append] at this; simp only [List.length_cons, List.length_nil] at this; omega⟩
end
end Go.RI
namespace Go.RI
open Fx
theorem half_can {l : List Int} (h : Can l) (hp : 0 < val l) (he : l.getD 0 0 % 2 = 0) : Can (trimL (halfL l)) ∧ 2 * val (trimL (halfL l)) = val l ∧ (trimL (halfL l)).length ≤ l.length := by
  have := half_val h.dig
  refine ⟨can_trim (halfL_dig h.dig), by rw [trim_val]; omega, ?_⟩
  have := trimL_le (halfL l)
  rw [halfL_len] at this; exact this
theorem two_pow_bound {v V : Int} {tw n : Nat} (hv : 0 < v) (h : v * 2 ^ tw ≤ V) (hV : V < 65536 ^ n) : tw < 16 * n := by
  rcases Nat.lt_or_ge tw (16 * n) with q | q
  · exact q
  · exfalso
    have h1 : (65536 : Int) ^ n = 2 ^ (16 * n) := by rw [Int.pow_mul]; rfl
    have h2 : (2 : Int) ^ (16 * n) ≤ 2 ^ tw := by
      have := Nat.pow_le_pow_right (show 0 < 2 by decide) q
      exact_mod_cast this
    have h3 : (2 : Int) ^ tw ≤ v * 2 ^ tw := by
      have := Int.mul_le_mul_of_nonneg_right (show (1 : Int) ≤ v by omega) (Int.le_of_lt (show (0 : Int) < 2 ^ tw from Int.pow_pos (by decide)))
      rw [Int.one_mul] at this; exact this
    omega
theorem len_pos {l : List Int} (h : Can l) (hp : 0 < l.length) : 0 < val l := by
  have := h.pos hp; have := pw_pos (l.length - 1); omega
section
variable {fs : Fns} {orc : Oracle} {H : Hp}
open Zs in
noncomputable def gcd2P : ACode := (p (q (q (r [M 0 29,V 29 30,B .gtr (t 30) (i 0) 31]) (k 31 .skip (x 2))) (l 3 (q (l 4 (p (q (q (r [M 0 32,C 84 [t 32,i 0] 33,E 33 0 34]) (k 34 .skip (x 4))) (l 5 (r [M 0 35,c 85 [35] 36,M 36 0]))))) (q (l 6 (p (q (q (r [M 1 37,C 84 [t 37,i 0] 38,E 38 0 39]) (k 39 .skip (x 6))) (l 7 (r [M 1 40,c 85 [40] 41,M 41 1]))))) (q (q (r [M 0 42,M 1 43,c 42 [42,43] 44,B .lss (t 44) (i 0) 45]) (k 45 (q (r [M 0 46,M 46 6]) (q (r [M 1 47,M 47 0]) (r [M 6 48,M 48 1]))) .skip)) (r [M 0 49,M 1 50,c 86 [49,50] 51,M 51 0])))))))
open Zs in
noncomputable def gcd2T : ACode := (q (r [M 1 52,M 5 53,c 87 [52,53] 54,M 54 4]) .ret)
structure Nu (H : Hp) (v : AV) (l : List Int) : Prop where
  rd : Rd H 1 v (ints l)
  can : Can l
  len : l.length ≤ 256
theorem Nu.mono {H H' : Hp} {v : AV} {l : List Int} (h : Nu H v l) (hle : Le H H') : Nu H' v l := ⟨h.rd.mono hle, h.can, h.len⟩
theorem halfs {h83 : Code fs orc 83 F83} {h82 : Code fs orc 82 F82} (h85 : Code fs orc 85 F85) {v : AV} {l : List Int} (h : Nu H v l) (hp : 0 < val l) (he : l.getD 0 0 % 2 = 0) :
    CallS fs orc (.func (.func 85) [] []) [v] H fun r H' => ∃ o, Nu H' r o ∧ 2 * val o = val l ∧ 0 < val o :=
  (half_ok h83 h82 h85 h.rd h.can.dig (by have := h.len; omega)).mono fun r H' _ hr => by
    obtain ⟨q1, q2, q3⟩ := half_can h.can hp he
    exact ⟨_, ⟨hr, q1, by have := h.len; omega⟩, q2, by omega⟩
theorem gcd2 (h82 : Code fs orc 82 F82) (h83 : Code fs orc 83 F83) (h84 : Code fs orc 84 F84) (h85 : Code fs orc 85 F85) (h42 : Code fs orc 42 F42) (h86 : Code fs orc 86 F86) (h87 : Code fs orc 87 F87)
    {v w : AV} {l m : List Int} {H1 : Hp} {g : Env} {lo tw : Nat} (hl : Nu H1 v l) (hm : Nu H1 w m) (hmp : 0 < val m) (htw : tw ≤ 100000) (e0 : g 0 = v) (e1 : g 1 = w) (e5 : g 5 = .int .i64 (.ofNat tw)) (hle0 : Le H H1) :
    SOk fs orc gcd2P g H1 lo (blkQ 2 (seqQ (fun g' H' => SOk fs orc gcd2T g' H' lo (fnQ F43 H fun r H' => ∃ o, Rd H' 1 r (ints o) ∧ o.length < 1000000000)) (fnQ F43 H fun r H' => ∃ o, Rd H' 1 r (ints o) ∧ o.length < 1000000000))) := by
  unfold gcd2P gcd2T
  refine sok_loop (fun k g' H' => ∃ l' m', k = (val l' + val m').toNat ∧ Nu H' (g' 0) l' ∧ Nu H' (g' 1) m' ∧ 0 < val m' ∧ g' 5 = .int .i64 (.ofNat tw) ∧ Le H H') ?_ _ _ _
    ⟨l, m, rfl, by rw [e0]; exact hl, by rw [e1]; exact hm, hmp, e5, hle0⟩
  rintro k g' H' ⟨l', m', rfl, nl, nm, mp, f5, hle⟩
  repeat first | refine sops_pv (by simp only [↓pw, ↓ez, ↓reduceIte, Nat.reduceEqDiff, binA, numA, ibin, unA, pz, Bool.not_true, Bool.not_false]; rfl) ?_ | refine sok_seq ?_ | refine sok_region ?_
  refine sops_len1 (c := ints l') (by simp only [↓ez, ↓reduceIte, Nat.reduceEqDiff]; exact nl.rd) ?_
  simp only [ints_length]
  repeat first | refine sops_pv (by simp only [↓pw, ↓ez, ↓reduceIte, Nat.reduceEqDiff, binA, numA, ibin, unA, pz, Bool.not_true, Bool.not_false]; rfl) ?_ | refine sops_nil ?_ | refine seqQ_normal ?_
  refine sok_cond _ (by simp only [↓ez, ↓reduceIte, Nat.reduceEqDiff]; rfl) (fun hb => ?_) (fun hb => ?_)
  · have lp : 0 < val l' := len_pos nl.can (by simpa using hb)
    repeat first | refine seqQ_normal ?_ | refine sok_seq ?_ | refine sok_skip ?_ | refine sok_block ?_
    refine sok_loop (fun k g' H' => ∃ l2, k = (val l2).toNat ∧ Nu H' (g' 0) l2 ∧ Nu H' (g' 1) m' ∧ 0 < val l2 ∧ val l2 ≤ val l' ∧ g' 5 = .int .i64 (.ofNat tw) ∧ Le H H') ?_ _ _ _
      ⟨l', rfl, by simp only [↓ez, ↓reduceIte, Nat.reduceEqDiff]; exact nl, by simp only [↓ez, ↓reduceIte, Nat.reduceEqDiff]; exact nm, lp, Int.le_refl _, by simp only [↓ez, ↓reduceIte, Nat.reduceEqDiff]; exact f5, hle⟩
    clear hb f5 nl nm hle
    rintro k g1 H1 ⟨l2, rfl, nl, nm, lp2, hll, f5, hle⟩
    repeat first | refine sops_pv (by simp only [↓pw, ↓ez, ↓reduceIte, Nat.reduceEqDiff, binA, numA, ibin, unA, pz, Bool.not_true, Bool.not_false]; rfl) ?_ | refine sok_seq ?_ | refine sok_region ?_
    refine sops_call (as := [g1 0, .int .i64 (.ofNat 0)]) (by simp only [↓ez, ↓reduceIte, Nat.reduceEqDiff]) (bit_ok h83 h84 nl.rd nl.can.dig) fun x H2 hl2 hx => ?_
    subst hx
    repeat first | refine sops_pv (by simp only [↓pw, ↓ez, ↓reduceIte, Nat.reduceEqDiff, binA, numA, ibin, unA, pz, Bool.not_true, Bool.not_false]; rfl) ?_ | refine sops_nil ?_ | refine seqQ_normal ?_
    refine sok_cond _ (by simp only [↓ez, ↓reduceIte, Nat.reduceEqDiff]; rfl) (fun hb => ?_) (fun hb => ?_)
    · have c0 : l2.getD 0 0 % 2 = 0 := by simpa using hb
      repeat first | refine sops_pv (by simp only [↓pw, ↓ez, ↓reduceIte, Nat.reduceEqDiff, binA, numA, ibin, unA, pz, Bool.not_true, Bool.not_false]; rfl) ?_ | refine seqQ_normal ?_ | refine sok_region ?_ | refine sok_skip ?_ | refine sok_block ?_
      refine sops_call (as := [g1 0]) (by simp only [↓ez, ↓reduceIte, Nat.reduceEqDiff]) (halfs (h83 := h83) (h82 := h82) h85 (nl.mono hl2) lp2 c0) fun x H3 hl3 hx => ?_
      obtain ⟨o, no, vo, po⟩ := hx
      repeat first | refine sops_pv (by simp only [↓pw, ↓ez, ↓reduceIte, Nat.reduceEqDiff, binA, numA, ibin, unA, pz, Bool.not_true, Bool.not_false]; rfl) ?_ | refine sops_nil ?_ | refine blkQ_normal ?_
      refine loopQ_normal (val o).toNat ?_ ?_
      · omega
      refine ⟨o, rfl, ?_, ?_, po, by omega, by simp only [↓ez, ↓reduceIte, Nat.reduceEqDiff, f5], (hle.trans hl2).trans hl3⟩
      · simp only [↓up_t, ↓reduceIte, Nat.reduceEqDiff]; exact no
      · simp only [↓up_t, ↓reduceIte, Nat.reduceEqDiff]; exact nm.mono (hl2.trans hl3)
    have nl := nl.mono hl2
    have nm := nm.mono hl2
    replace hle := hle.trans hl2
    have odd1 : ¬ l2.getD 0 0 % 2 = 0 := by simpa using hb
    repeat first | refine seqQ_normal ?_ | refine seqQ_exit ?_ | refine blkQ_hit ?_ | refine loopQ_exit ?_ | refine sok_seq ?_ | refine sok_exit ?_ | refine sok_block ?_
    refine sok_loop (fun k g' H' => ∃ m2, k = (val m2).toNat ∧ Nu H' (g' 0) l2 ∧ Nu H' (g' 1) m2 ∧ 0 < val m2 ∧ val m2 ≤ val m' ∧ g' 5 = .int .i64 (.ofNat tw) ∧ Le H H') ?_ _ _ _
      ⟨m', rfl, by simp only [↓ez, ↓reduceIte, Nat.reduceEqDiff]; exact nl, by simp only [↓ez, ↓reduceIte, Nat.reduceEqDiff]; exact nm, mp, Int.le_refl _, by simp only [↓ez, ↓reduceIte, Nat.reduceEqDiff]; exact f5, hle⟩
    clear hb f5 nl nm hle hl2
    rintro k g2 H2 ⟨m2, rfl, nl, nm, mp2, hmm, f5, hle⟩
    repeat first | refine sops_pv (by simp only [↓pw, ↓ez, ↓reduceIte, Nat.reduceEqDiff, binA, numA, ibin, unA, pz, Bool.not_true, Bool.not_false]; rfl) ?_ | refine sok_seq ?_ | refine sok_region ?_
    refine sops_call (as := [g2 1, .int .i64 (.ofNat 0)]) (by simp only [↓ez, ↓reduceIte, Nat.reduceEqDiff]) (bit_ok h83 h84 nm.rd nm.can.dig) fun x H3 hl3 hx => ?_
    subst hx
    repeat first | refine sops_pv (by simp only [↓pw, ↓ez, ↓reduceIte, Nat.reduceEqDiff, binA, numA, ibin, unA, pz, Bool.not_true, Bool.not_false]; rfl) ?_ | refine sops_nil ?_ | refine seqQ_normal ?_
    refine sok_cond _ (by simp only [↓ez, ↓reduceIte, Nat.reduceEqDiff]; rfl) (fun hb => ?_) (fun hb => ?_)
    · have c0 : m2.getD 0 0 % 2 = 0 := by simpa using hb
      repeat first | refine sops_pv (by simp only [↓pw, ↓ez, ↓reduceIte, Nat.reduceEqDiff, binA, numA, ibin, unA, pz, Bool.not_true, Bool.not_false]; rfl) ?_ | refine seqQ_normal ?_ | refine sok_region ?_ | refine sok_skip ?_ | refine sok_block ?_
      refine sops_call (as := [g2 1]) (by simp only [↓ez, ↓reduceIte, Nat.reduceEqDiff]) (halfs (h83 := h83) (h82 := h82) h85 (nm.mono hl3) mp2 c0) fun x H4 hl4 hx => ?_
      obtain ⟨o, no, vo, po⟩ := hx
      repeat first | refine sops_pv (by simp only [↓pw, ↓ez, ↓reduceIte, Nat.reduceEqDiff, binA, numA, ibin, unA, pz, Bool.not_true, Bool.not_false]; rfl) ?_ | refine sops_nil ?_ | refine blkQ_normal ?_
      refine loopQ_normal (val o).toNat ?_ ?_
      · omega
      refine ⟨o, rfl, ?_, ?_, po, by omega, by simp only [↓ez, ↓reduceIte, Nat.reduceEqDiff, f5], (hle.trans hl3).trans hl4⟩
      · simp only [↓up_t, ↓reduceIte, Nat.reduceEqDiff]; exact nl.mono (hl3.trans hl4)
      · simp only [↓up_t, ↓reduceIte, Nat.reduceEqDiff]; exact no
    have nl := nl.mono hl3
    have nm := nm.mono hl3
    replace hle := hle.trans hl3
    repeat first | refine sops_pv (by simp only [↓pw, ↓ez, ↓reduceIte, Nat.reduceEqDiff, binA, numA, ibin, unA, pz, Bool.not_true, Bool.not_false]; rfl) ?_ | refine seqQ_normal ?_ | refine seqQ_exit ?_ | refine blkQ_hit ?_ | refine loopQ_exit ?_ | refine sok_seq ?_ | refine sok_region ?_ | refine sok_exit ?_
    have b1 := nl.len
    have b2 := nm.len
    refine sops_call (as := [g2 0, g2 1]) (by simp only [↓ez, ↓reduceIte, Nat.reduceEqDiff]) (cmp_ok h83 h42 nl.rd nm.rd (by omega) (by omega)) fun x H4 hl4 hx => ?_
    rw [cmp_val nl.can.dig nm.can.dig (Nat.le_max_left _ _) (Nat.le_max_right _ _)] at hx
    subst hx
    have nl := nl.mono hl4
    have nm := nm.mono hl4
    replace hle := hle.trans hl4
    repeat first | refine sops_pv (by simp only [↓pw, ↓ez, ↓reduceIte, Nat.reduceEqDiff, binA, numA, ibin, unA, pz, Bool.not_true, Bool.not_false]; rfl) ?_ | refine sops_nil ?_ | refine seqQ_normal ?_
    refine sok_cond _ (by simp only [↓ez, ↓reduceIte, Nat.reduceEqDiff]; rfl) (fun hb => ?_) (fun hb => ?_)
    · have hlt : val l2 < val m2 := by
        by_cases q : val l2 < val m2
        · exact q
        · rw [if_neg q] at hb
          by_cases q2 : val m2 < val l2
          · rw [if_pos q2] at hb; simp at hb
          · rw [if_neg q2] at hb; simp at hb
      repeat first | refine sops_pv (by simp only [↓pw, ↓ez, ↓reduceIte, Nat.reduceEqDiff, binA, numA, ibin, unA, pz, Bool.not_true, Bool.not_false]; rfl) ?_ | refine sops_nil ?_ | refine seqQ_normal ?_ | refine sok_seq ?_ | refine sok_region ?_
      refine sops_call (as := [g2 1, g2 0]) (by simp only [↓ez, ↓reduceIte, Nat.reduceEqDiff]) (sub_ok h83 h82 h86 nm.rd nl.rd nm.can.dig nl.can.dig (by omega) (by omega)) fun x H5 hl5 hx => ?_
      obtain ⟨o, ro, co, vo, lo'⟩ := hx
      repeat first | refine sops_pv (by simp only [↓pw, ↓ez, ↓reduceIte, Nat.reduceEqDiff, binA, numA, ibin, unA, pz, Bool.not_true, Bool.not_false]; rfl) ?_ | refine sops_nil ?_ | refine blkQ_normal ?_
      refine loopQ_normal (val o + val l2).toNat ?_ ?_
      · omega
      refine ⟨o, l2, rfl, ?_, ?_, lp2, by simp only [↓ez, ↓reduceIte, Nat.reduceEqDiff, f5], hle.trans hl5⟩
      · simp only [↓up_t, ↓reduceIte, Nat.reduceEqDiff]; exact ⟨ro, co, by omega⟩
      · simp only [↓up_t, ↓reduceIte, Nat.reduceEqDiff]; exact nl.mono hl5
    · have hge : val m2 ≤ val l2 := by
        rcases Int.lt_or_le (val l2) (val m2) with q | q
        · rw [if_pos q] at hb; simp at hb
        · exact q
      repeat first | refine sops_pv (by simp only [↓pw, ↓ez, ↓reduceIte, Nat.reduceEqDiff, binA, numA, ibin, unA, pz, Bool.not_true, Bool.not_false]; rfl) ?_ | refine seqQ_normal ?_ | refine sok_region ?_ | refine sok_skip ?_
      refine sops_call (as := [g2 0, g2 1]) (by simp only [↓ez, ↓reduceIte, Nat.reduceEqDiff]) (sub_ok h83 h82 h86 nl.rd nm.rd nl.can.dig nm.can.dig (by omega) (by omega)) fun x H5 hl5 hx => ?_
      obtain ⟨o, ro, co, vo, lo'⟩ := hx
      repeat first | refine sops_pv (by simp only [↓pw, ↓ez, ↓reduceIte, Nat.reduceEqDiff, binA, numA, ibin, unA, pz, Bool.not_true, Bool.not_false]; rfl) ?_ | refine sops_nil ?_ | refine blkQ_normal ?_
      refine loopQ_normal (val o + val m2).toNat ?_ ?_
      · omega
      refine ⟨o, m2, rfl, ?_, ?_, mp2, by simp only [↓ez, ↓reduceIte, Nat.reduceEqDiff, f5], hle.trans hl5⟩
      · simp only [↓up_t, ↓reduceIte, Nat.reduceEqDiff]; exact ⟨ro, co, by omega⟩
      · simp only [↓up_t, ↓reduceIte, Nat.reduceEqDiff]; exact nm.mono hl5
  · have b2 := nm.len
    repeat first | refine sops_pv (by simp only [↓pw, ↓ez, ↓reduceIte, Nat.reduceEqDiff, binA, numA, ibin, unA, pz, Bool.not_true, Bool.not_false, f5]; rfl) ?_ | refine seqQ_normal ?_ | refine seqQ_exit ?_ | refine blkQ_hit ?_ | refine loopQ_exit ?_ | refine sok_seq ?_ | refine sok_region ?_ | refine sok_exit ?_
    refine sops_call (as := [g' 1, .int .i64 (.ofNat tw)]) (by simp only [↓ez, ↓reduceIte, Nat.reduceEqDiff, f5]) (shl_ok h82 h87 nm.rd nm.can.dig (by omega) htw) fun x H2 hl2 hx => ?_
    repeat first | refine sops_pv (by simp only [↓pw, ↓ez, ↓reduceIte, Nat.reduceEqDiff, binA, numA, ibin, unA, pz, Bool.not_true, Bool.not_false]; rfl) ?_ | refine sops_nil ?_ | refine seqQ_normal ?_ | refine sok_ret ?_
    refine fnQ_tmp (.inr rfl) rfl ?_ (by simp only [↓ez, ↓reduceIte, Nat.reduceEqDiff]; rfl) ?_
    · exact hle.trans hl2
    · exact hx
theorem gcd_ok (h82 : Code fs orc 82 F82) (h83 : Code fs orc 83 F83) (h84 : Code fs orc 84 F84) (h85 : Code fs orc 85 F85) (h42 : Code fs orc 42 F42) (h86 : Code fs orc 86 F86) (h87 : Code fs orc 87 F87) (hc : Code fs orc 43 F43)
    {v w : AV} {l m : List Int} (hl : Nu H v l) (hm : Nu H w m) :
    CallS fs orc (.func (.func 43) [] []) [v, w] H fun r H' => ∃ o, Rd H' 1 r (ints o) ∧ o.length < 1000000000 := by
  refine call_fn2 hc fun lo g e0 e1 => ?_
  repeat first | refine sops_pv (by simp only [↓pw, ↓ez, ↓reduceIte, Nat.reduceEqDiff, binA, numA, ibin, unA, pz, Bool.not_true, Bool.not_false, e0, e1]; rfl) ?_ | refine sops_nil ?_ | refine seqQ_normal ?_ | refine sok_seq ?_ | refine sok_region ?_
  refine sops_len1 (c := ints l) (by simp only [↓ez, ↓reduceIte, Nat.reduceEqDiff, e0]; exact hl.rd) ?_
  simp only [ints_length]
  repeat first | refine sops_pv (by simp only [↓pw, ↓ez, ↓reduceIte, Nat.reduceEqDiff, binA, numA, ibin, unA, pz, Bool.not_true, Bool.not_false, e0, e1]; rfl) ?_ | refine sops_nil ?_ | refine seqQ_normal ?_
  refine sok_cond _ (by simp only [↓ez, ↓reduceIte, Nat.reduceEqDiff]; rfl) (fun hb => ?_) (fun hb => ?_)
  ·
    repeat first | refine sops_pv (by simp only [↓pw, ↓ez, ↓reduceIte, Nat.reduceEqDiff, binA, numA, ibin, unA, pz, Bool.not_true, Bool.not_false, e1]; rfl) ?_ | refine sops_nil ?_ | refine seqQ_normal ?_ | refine seqQ_ret ?_ | refine sok_seq ?_ | refine sok_region ?_ | refine sok_ret ?_
    refine fnQ_tmp (.inr rfl) rfl ?_ (by simp only [↓ez, ↓reduceIte, Nat.reduceEqDiff]; rfl) ?_
    · exact Le.refl _
    · exact ⟨m, hm.rd, by have := hm.len; omega⟩
  have hl0 : 0 < l.length := by
    have : ¬ (l.length = 0) := by simpa using hb
    omega
  repeat first | refine sops_pv (by simp only [↓pw, ↓ez, ↓reduceIte, Nat.reduceEqDiff, binA, numA, ibin, unA, pz, Bool.not_true, Bool.not_false, e0, e1]; rfl) ?_ | refine seqQ_normal ?_ | refine sok_seq ?_ | refine sok_region ?_ | refine sok_skip ?_
  refine sops_len1 (c := ints m) (by simp only [↓ez, ↓reduceIte, Nat.reduceEqDiff, e1]; exact hm.rd) ?_
  simp only [ints_length]
  repeat first | refine sops_pv (by simp only [↓pw, ↓ez, ↓reduceIte, Nat.reduceEqDiff, binA, numA, ibin, unA, pz, Bool.not_true, Bool.not_false, e0, e1]; rfl) ?_ | refine sops_nil ?_ | refine seqQ_normal ?_
  refine sok_cond _ (by simp only [↓ez, ↓reduceIte, Nat.reduceEqDiff]; rfl) (fun hb => ?_) (fun hb => ?_)
  ·
    repeat first | refine sops_pv (by simp only [↓pw, ↓ez, ↓reduceIte, Nat.reduceEqDiff, binA, numA, ibin, unA, pz, Bool.not_true, Bool.not_false, e0]; rfl) ?_ | refine sops_nil ?_ | refine seqQ_normal ?_ | refine seqQ_ret ?_ | refine sok_seq ?_ | refine sok_region ?_ | refine sok_ret ?_
    refine fnQ_tmp (.inr rfl) rfl ?_ (by simp only [↓ez, ↓reduceIte, Nat.reduceEqDiff]; rfl) ?_
    · exact Le.refl _
    · exact ⟨l, hl.rd, by have := hl.len; omega⟩
  have hm0 : 0 < m.length := by
    have : ¬ (m.length = 0) := by simpa using hb
    omega
  have hlp := len_pos hl.can hl0
  have hmp := len_pos hm.can hm0
  repeat first | refine sops_pv (by simp only [↓pw, ↓ez, ↓reduceIte, Nat.reduceEqDiff, binA, numA, ibin, unA, pz, Bool.not_true, Bool.not_false]; rfl) ?_ | refine sops_nil ?_ | refine seqQ_normal ?_ | refine sok_seq ?_ | refine sok_region ?_ | refine sok_skip ?_ | refine sok_block ?_
  refine sok_loop (fun k g' H' => ∃ l' m' tw, k = (val l').toNat ∧ Nu H' (g' 0) l' ∧ Nu H' (g' 1) m' ∧ 0 < val l' ∧ 0 < val m' ∧ g' 5 = .int .i64 (.ofNat tw) ∧ val l' * 2 ^ tw ≤ val l ∧ Le H H') ?_ (val l).toNat _ _
    ⟨l, m, 0, rfl, by simp only [↓up_t, ↓reduceIte, Nat.reduceEqDiff, e0]; exact hl, by simp only [↓up_t, ↓reduceIte, Nat.reduceEqDiff, e1]; exact hm, hlp, hmp, by simp only [↓ez, ↓reduceIte, Nat.reduceEqDiff], by simp, Le.refl _⟩
  rintro k g' H' ⟨l', m', tw, rfl, nl, nm, lp, mp, f5, hV, hle⟩
  have htw := two_pow_bound lp hV (val_bound hl.can.dig).2
  have hll := hl.len
  repeat first | refine sops_pv (by simp only [↓pw, ↓ez, ↓reduceIte, Nat.reduceEqDiff, binA, numA, ibin, unA, pz, Bool.not_true, Bool.not_false]; rfl) ?_ | refine sok_seq ?_ | refine sok_region ?_
  refine sops_call (as := [g' 0, .int .i64 (.ofNat 0)]) (by simp only [↓ez, ↓reduceIte, Nat.reduceEqDiff]) (bit_ok h83 h84 nl.rd nl.can.dig) fun x H1 hl1 hx => ?_
  subst hx
  by_cases c0 : l'.getD 0 0 % 2 = 0
  · have d0 : (l'.getD 0 0 % 2 == Int.ofNat 0) = true := by simpa using c0
    repeat first | refine sops_pv (by simp only [↓pw, ↓ez, ↓reduceIte, Nat.reduceEqDiff, binA, numA, ibin, unA, pz, Bool.not_true, Bool.not_false, d0]; rfl) ?_ | refine sops_on ?_ ?_; focus (simp only [↓ez, ↓reduceIte, Nat.reduceEqDiff, d0]; done)
    refine sops_call (as := [g' 1, .int .i64 (.ofNat 0)]) (by simp only [↓ez, ↓reduceIte, Nat.reduceEqDiff]) (bit_ok h83 h84 (nm.mono hl1).rd nm.can.dig) fun x H2 hl2 hx => ?_
    subst hx
    repeat first | refine sops_pv (by simp only [↓pw, ↓ez, ↓reduceIte, Nat.reduceEqDiff, binA, numA, ibin, unA, pz, Bool.not_true, Bool.not_false, d0]; rfl) ?_ | refine sops_on ?_ ?_; focus (simp only [↓ez, ↓reduceIte, Nat.reduceEqDiff, d0]; done) | refine sops_nil ?_ | refine seqQ_normal ?_
    refine sok_cond _ (by simp only [↓ez, ↓reduceIte, Nat.reduceEqDiff]; rfl) (fun hc => ?_) (fun hc => ?_)
    · have c1 : m'.getD 0 0 % 2 = 0 := by simpa using hc
      repeat first | refine sops_pv (by simp only [↓pw, ↓ez, ↓reduceIte, Nat.reduceEqDiff, binA, numA, ibin, unA, pz, Bool.not_true, Bool.not_false]; rfl) ?_ | refine seqQ_normal ?_ | refine sok_seq ?_ | refine sok_region ?_ | refine sok_skip ?_ | refine sok_block ?_
      refine sops_call (as := [g' 0]) (by simp only [↓ez, ↓reduceIte, Nat.reduceEqDiff]) (halfs (h83 := h83) (h82 := h82) h85 (nl.mono (hl1.trans hl2)) lp c0) fun x H3 hl3 hx => ?_
      obtain ⟨o, no, vo, po⟩ := hx
      repeat (refine sops_pv (by simp only [↓pw, ↓ez, ↓reduceIte, Nat.reduceEqDiff, binA, numA, ibin, unA, pz, Bool.not_true, Bool.not_false]; rfl) ?_)
      refine sops_call (as := [g' 1]) (by simp only [↓ez, ↓reduceIte, Nat.reduceEqDiff]) (halfs (h83 := h83) (h82 := h82) h85 (nm.mono ((hl1.trans hl2).trans hl3)) mp c1) fun y H4 hl4 hx => ?_
      obtain ⟨o2, no2, vo2, po2⟩ := hx
      have hw := wrap_add1 (n := tw) (by omega)
      repeat first | refine sops_pv (by simp only [↓pw, ↓ez, ↓reduceIte, Nat.reduceEqDiff, binA, numA, ibin, unA, pz, Bool.not_true, Bool.not_false, f5, hw]; rfl) ?_ | refine sops_nil ?_ | refine seqQ_normal ?_ | refine blkQ_normal ?_ | refine sok_region ?_
      refine loopQ_normal (val o).toNat ?_ ?_
      · omega
      refine ⟨o, o2, tw + 1, rfl, ?_, ?_, po, po2, by simp only [↓ez, ↓reduceIte, Nat.reduceEqDiff], ?_, (((hle.trans hl1).trans hl2).trans hl3).trans hl4⟩
      · simp only [↓up_t, ↓reduceIte, Nat.reduceEqDiff]; exact no.mono hl4
      · simp only [↓up_t, ↓reduceIte, Nat.reduceEqDiff]; exact no2
      · rw [Int.pow_succ, Int.mul_comm (2 ^ tw) 2, ← Int.mul_assoc, Int.mul_comm (val o) 2, vo]; exact hV
    ·
      repeat first | refine seqQ_normal ?_ | refine seqQ_exit ?_ | refine blkQ_hit ?_ | refine loopQ_exit ?_ | refine sok_seq ?_ | refine sok_exit ?_ | refine sok_block ?_
      refine gcd2 h82 h83 h84 h85 h42 h86 h87 (nl.mono (hl1.trans hl2)) (nm.mono (hl1.trans hl2)) mp (tw := tw) (by omega) ?_ ?_ ?_ ((hle.trans hl1).trans hl2)
      · exact by simp only [↓ez, ↓reduceIte, Nat.reduceEqDiff]
      · exact by simp only [↓ez, ↓reduceIte, Nat.reduceEqDiff]
      · exact by simp only [↓ez, ↓reduceIte, Nat.reduceEqDiff, f5]
  · have d0 : (l'.getD 0 0 % 2 == Int.ofNat 0) = false := by simpa using c0
    repeat first | refine sops_pv (by simp only [↓pw, ↓ez, ↓reduceIte, Nat.reduceEqDiff, binA, numA, ibin, unA, pz, Bool.not_true, Bool.not_false, d0]; rfl) ?_ | refine sops_off (w' := false) ?_ rfl ?_; focus (simp only [↓ez, ↓reduceIte, Nat.reduceEqDiff, d0]; done) | refine sops_nil ?_ | refine seqQ_normal ?_
    refine sok_cond _ (by simp only [↓ez, ↓reduceIte, Nat.reduceEqDiff, d0]; rfl) (fun hc => ?_) (fun hc => ?_)
    · cases hc
    ·
      repeat first | refine seqQ_normal ?_ | refine seqQ_exit ?_ | refine blkQ_hit ?_ | refine loopQ_exit ?_ | refine sok_seq ?_ | refine sok_exit ?_ | refine sok_block ?_
      refine gcd2 h82 h83 h84 h85 h42 h86 h87 (nl.mono hl1) (nm.mono hl1) mp (tw := tw) (by omega) ?_ ?_ ?_ (hle.trans hl1)
      · exact by simp only [↓ez, ↓reduceIte, Nat.reduceEqDiff]
      · exact by simp only [↓ez, ↓reduceIte, Nat.reduceEqDiff]
      · exact by simp only [↓ez, ↓reduceIte, Nat.reduceEqDiff, f5]
end
end Go.RI
