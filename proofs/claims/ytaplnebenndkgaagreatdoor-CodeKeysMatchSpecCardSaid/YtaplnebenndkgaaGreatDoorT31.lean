/- Rules for runs of the small language over a partly known heap, and what the functions on the way of the law compute. Conditions: none. -/
import Derived.Test.YtaplnebenndkgaaGreatDoorT30
set_option linter.all false
namespace Go.RI
open Fx
structure NumC (fs : Fns) (orc : Oracle) : Prop where
  h82 : Code fs orc 82 F82
  h83 : Code fs orc 83 F83
  h84 : Code fs orc 84 F84
  h85 : Code fs orc 85 F85
  h42 : Code fs orc 42 F42
  h86 : Code fs orc 86 F86
  h87 : Code fs orc 87 F87
  h43 : Code fs orc 43 F43
  h41 : Code fs orc 41 F41
  h22 : Code fs orc 22 F22
  h21 : Code fs orc 21 F21
  h20 : Code fs orc 20 F20
  h10 : Code fs orc 10 F10
  h11 : Code fs orc 11 F11
  h4 : Code fs orc 4 F4
section
variable {fs : Fns} {orc : Oracle} {H : Hp}
theorem node_ok (C : NumC fs orc) {c : List AV} (h : TermAt H c) : NIH fs orc H c := by
  induction h with
  | mk kind var name neg vn vd va nu de args hn ha hs ih =>
  intro H0 hle0
  have h22 : ∀ H', Le H H' → CallS fs orc (.func (.func 22) [] []) [.agg [.bool neg, vn, vd]] H' fun r _ => ∃ e : Nat, r = .int .i64 (.ofNat e) ∧ (e = 0 → NumOk nu de) := fun H' hl =>
    numFault_ok C.h82 C.h83 C.h84 C.h85 C.h42 C.h86 C.h87 C.h43 C.h41 C.h22 (hn.mono hl)
  refine call_fn1 C.h11 fun lo g e0 => ?_
  refine sok_seq (sok_region ?_)
  refine sops_box [.int .i64 kind, .int .i64 var, .str name, .bool neg, vn, vd, va] (by simp only [↓evG_t, e0, AV.cells]) fun b H1 hF => ?_
  refine sops_pv (by simp only [↓pw, ↓ez]; rfl) ?_
  refine sops_nil ?_
  refine seqQ_normal ?_
  have f1 : up (up g 1 (.ptr b 0)) 2 (.int .i64 (.ofNat 0)) 1 = .ptr b 0 := rfl
  by_cases hr : 1 ≤ kind ∧ kind ≤ 5
  · have hk : kind = Int.ofNat 1 ∨ kind = Int.ofNat 2 ∨ kind = Int.ofNat 3 ∨ kind = Int.ofNat 4 ∨ kind = Int.ofNat 5 := by simp only [Int.ofNat_eq_natCast]; omega
    rcases hk with rfl | rfl | rfl | rfl | rfl
    · exact node_1 h22 C.h21 hs ih hn ha hle0 hF.le hF.at' f1
    · exact node_2 h22 C.h21 hs ih hn ha hle0 hF.le hF.at' f1
    · exact node_3 h22 C.h21 hs ih hn ha hle0 hF.le hF.at' f1
    · exact node_4 h22 C.h21 hs ih hn ha hle0 hF.le hF.at' f1
    · exact node_5 h22 C.h21 hs ih hn ha hle0 hF.le hF.at' f1
  · exact node_bad hF.le hr hF.at' f1
theorem fault_ok (C : NumC fs orc) {c : List AV} (h : TermAt H c) : CallS fs orc (.func (.func 4) [] []) [.agg c] H (NPost H c) := by
  refine call_fn1 C.h4 fun lo g e0 => ?_
  repeat first | refine sok_seq ?_ | refine sok_region ?_
  refine sops_box c (by simp only [↓evG_t, e0, AV.cells]) fun b H1 hF => ?_
  have m1 := rdNH_own hF.at' h.len
  repeat first | refine sops_pv (by simp only [↓pw, ↓ez, ↓reduceIte, Nat.reduceEqDiff, binA, numA, ibin, unA, pz, Bool.not_true, Bool.not_false, m1]; rfl) ?_ | refine sops_nil ?_ | refine seqQ_normal ?_ | refine sok_seq ?_ | refine sok_region ?_
  refine sops_call (as := [.agg c]) (by simp only [↓ez, ↓reduceIte, Nat.reduceEqDiff]) (size_ok C.h20 C.h10 (h.mono hF.le)) fun x H2 hl2 hx => ?_
  obtain ⟨m, rfl⟩ := hx
  have m2 := rdNH_own (hl2 _ _ hF.at') h.len
  repeat first | refine sops_pv (by simp only [↓pw, ↓ez, ↓reduceIte, Nat.reduceEqDiff, binA, numA, ibin, unA, pz, Bool.not_true, Bool.not_false]; rfl) ?_ | refine sops_nil ?_ | refine seqQ_normal ?_
  refine sok_cond _ (by simp only [↓ez, ↓reduceIte, Nat.reduceEqDiff]; rfl) (fun hb => ?_) (fun hb => ?_)
  ·
    repeat first | refine sops_pv (by simp only [↓pw, ↓ez, ↓reduceIte, Nat.reduceEqDiff, binA, numA, ibin, unA, pz, Bool.not_true, Bool.not_false]; rfl) ?_ | refine sops_nil ?_ | refine seqQ_normal ?_ | refine seqQ_ret ?_ | refine sok_seq ?_ | refine sok_region ?_ | refine sok_ret ?_
    refine fnQ_tmp (.inr rfl) rfl ?_ (by simp only [↓ez, ↓reduceIte, Nat.reduceEqDiff]; rfl) ?_
    · exact hF.le.trans hl2
    · exact ⟨3, rfl, fun h => by cases h⟩
  ·
    repeat first | refine sops_pv (by simp only [↓pw, ↓ez, ↓reduceIte, Nat.reduceEqDiff, binA, numA, ibin, unA, pz, Bool.not_true, Bool.not_false, m2]; rfl) ?_ | refine seqQ_normal ?_ | refine sok_seq ?_ | refine sok_region ?_ | refine sok_skip ?_
    refine sops_call (as := [.agg c]) (by simp only [↓ez, ↓reduceIte, Nat.reduceEqDiff]) (node_ok C h H2 (hF.le.trans hl2)) fun x H3 hl3 hx => ?_
    obtain ⟨e, rfl, hx⟩ := hx
    repeat first | refine sops_pv (by simp only [↓pw, ↓ez, ↓reduceIte, Nat.reduceEqDiff, binA, numA, ibin, unA, pz, Bool.not_true, Bool.not_false]; rfl) ?_ | refine sops_nil ?_ | refine seqQ_normal ?_ | refine sok_ret ?_
    refine fnQ_tmp (.inr rfl) rfl ?_ (by simp only [↓ez, ↓reduceIte, Nat.reduceEqDiff]; rfl) ?_
    · exact (hF.le.trans hl2).trans hl3
    · exact ⟨e, rfl, hx⟩
end
end Go.RI
namespace Go.RI
theorem vk_cons (x : Int) (l : List Int) : ∀ k, vk (x :: l) (k + 1) = x + 65536 * vk l k
  | 0 => by simp [vk]
  | k + 1 => by
    have e : vk (x :: l) (k + 1 + 1) = vk (x :: l) (k + 1) + (x :: l).getD (k + 1) 0 * 65536 ^ (k + 1) := rfl
    rw [e, vk_cons x l k, pw_succ]
    have e2 : vk l (k + 1) = vk l k + l.getD k 0 * 65536 ^ k := rfl
    have e3 : (x :: l).getD (k + 1) 0 = l.getD k 0 := by simp [List.getD]
    rw [e2, e3, Int.mul_add, ← Int.mul_assoc, Int.mul_comm (l.getD k 0 * 65536 ^ k)]
    omega
theorem val_cons (x : Int) (l : List Int) : val (x :: l) = x + 65536 * val l := vk_cons x l l.length
def digsF : Nat → Nat → List Nat
  | 0, _ => []
  | f + 1, n => if n = 0 then [] else (48 + n % 10) :: digsF f (n / 10)
def digs (n : Nat) : List Nat := digsF n n
theorem digsF_eq : ∀ (f g n : Nat), n ≤ f → n ≤ g → digsF f n = digsF g n
  | 0, g, n, h1, _ => by
    have : n = 0 := by omega
    subst this; cases g <;> rfl
  | f + 1, 0, n, _, h2 => by
    have : n = 0 := by omega
    subst this; rfl
  | f + 1, g + 1, n, h1, h2 => by
    simp only [digsF]
    by_cases h : n = 0
    · rw [if_pos h, if_pos h]
    · rw [if_neg h, if_neg h, digsF_eq f g (n / 10) (by omega) (by omega)]
theorem digs_zero : digs 0 = [] := rfl
theorem digs_pos {n : Nat} (h : 0 < n) : digs n = (48 + n % 10) :: digs (n / 10) := by
  unfold digs
  cases n with
  | zero => omega
  | succ n =>
    simp only [digsF]
    rw [if_neg (by omega), digsF_eq n ((n + 1) / 10) ((n + 1) / 10) (by omega) (Nat.le_refl _)]
theorem digs_inj : ∀ (n m : Nat), digs n = digs m → n = m := by
  intro n
  induction n using Nat.strongRecOn with
  | _ n ih =>
    intro m h
    rcases Nat.eq_zero_or_pos n with h1 | h1
    · subst h1
      rcases Nat.eq_zero_or_pos m with h2 | h2
      · exact h2.symm
      · rw [digs_pos h2, digs_zero] at h; cases h
    · rcases Nat.eq_zero_or_pos m with h2 | h2
      · subst h2; rw [digs_pos h1, digs_zero] at h; cases h
      · rw [digs_pos h1, digs_pos h2] at h
        injection h with h3 h4
        have := ih (n / 10) (by omega) _ h4
        omega
theorem digs_len : ∀ (k n : Nat), n < 2 ^ k → (digs n).length ≤ k
  | 0, n, h => by
    have : n = 0 := by simpa using h
    subst this; simp [digs_zero]
  | k + 1, n, h => by
    rcases Nat.eq_zero_or_pos n with h1 | h1
    · subst h1; simp [digs_zero]
    · rw [digs_pos h1, List.length_cons]
      have := digs_len k (n / 10) (by rw [Nat.pow_succ] at h; omega)
      omega
theorem digs_byte : ∀ (n : Nat) (x : Nat), x ∈ digs n → 48 ≤ x ∧ x < 58 := by
  intro n
  induction n using Nat.strongRecOn with
  | _ n ih =>
    intro x hx
    rcases Nat.eq_zero_or_pos n with h1 | h1
    · subst h1; rw [digs_zero] at hx; cases hx
    · rw [digs_pos h1] at hx
      rcases List.mem_cons.1 hx with rfl | hx
      · omega
      · exact ih (n / 10) (by omega) x hx
def dec (n : Nat) : List Nat := if n = 0 then [48] else (digs n).reverse
theorem dec_byte (n x : Nat) (h : x ∈ dec n) : 48 ≤ x ∧ x < 58 := by
  unfold dec at h
  split at h
  · simp at h; omega
  · exact digs_byte n x (by simpa using h)
theorem dec_inj {n m : Nat} (h : dec n = dec m) : n = m := by
  unfold dec at h
  have hz : ∀ k, 0 < k → (digs k).reverse = [48] → False := by
    intro k hk e
    have e2 : digs k = [48] := by have := congrArg List.reverse e; simpa using this
    rw [digs_pos hk] at e2
    injection e2 with e3 e4
    have h5 : digs (k / 10) = digs 0 := e4
    have := digs_inj _ _ h5
    omega
  by_cases h1 : n = 0 <;> by_cases h2 : m = 0
  · omega
  · rw [if_pos h1, if_neg h2] at h; exact absurd h.symm (fun e => hz m (by omega) e)
  · rw [if_neg h1, if_pos h2] at h; exact absurd h (fun e => hz n (by omega) e)
  · rw [if_neg h1, if_neg h2] at h
    exact digs_inj _ _ (by have := congrArg List.reverse h; simpa using this)
theorem dec_len {k n : Nat} (h : n < 2 ^ k) (hk : 0 < k) : (dec n).length ≤ k := by
  unfold dec
  split
  · simp; omega
  · rw [List.length_reverse]; exact digs_len k n h
theorem dec_ne (n : Nat) : dec n ≠ [] := by
  unfold dec
  split
  · simp
  · rename_i h
    rw [digs_pos (by omega)]; simp
theorem split_inj {a b c d : List Nat} (ha : ∀ x, x ∈ a → 48 ≤ x ∧ x < 58) (hc : ∀ x, x ∈ c → 48 ≤ x ∧ x < 58) (hb : ∀ x, b.head? = some x → ¬ (48 ≤ x ∧ x < 58)) (hd : ∀ x, d.head? = some x → ¬ (48 ≤ x ∧ x < 58)) (h : a ++ b = c ++ d) : a = c ∧ b = d := by
  induction a generalizing c with
  | nil =>
    cases c with
    | nil => exact ⟨rfl, h⟩
    | cons y c =>
      simp only [List.nil_append, List.cons_append] at h
      exact absurd (hc y (by simp)) (hb y (by rw [h]; rfl))
  | cons x a ih =>
    cases c with
    | nil =>
      simp only [List.nil_append, List.cons_append] at h
      exact absurd (ha x (by simp)) (hd x (by rw [← h]; rfl))
    | cons y c =>
      simp only [List.cons_append, List.cons.injEq] at h
      obtain ⟨rfl, h⟩ := h
      obtain ⟨q1, q2⟩ := ih (fun z hz => ha z (by simp [hz])) (fun z hz => hc z (by simp [hz])) h
      exact ⟨by rw [q1], q2⟩
def numText (neg : Bool) (a b : Nat) : List Nat :=
  let s := if neg then 45 :: dec a else dec a
  if b = 1 then s else s ++ (114 :: dec b)
theorem numText_inj {n1 n2 : Bool} {a1 a2 b1 b2 : Nat} (h : numText n1 a1 b1 = numText n2 a2 b2) : n1 = n2 ∧ a1 = a2 ∧ b1 = b2 := by
  have key : ∀ (n : Bool) (a b : Nat), numText n a b = (if n then [45] else []) ++ (dec a ++ (if b = 1 then [] else 114 :: dec b)) := by
    intro n a b; unfold numText
    cases n <;> by_cases hb : b = 1 <;> simp [hb]
  rw [key, key] at h
  have hd : ∀ b x, (if b = 1 then [] else 114 :: dec b).head? = some x → ¬ (48 ≤ x ∧ x < 58) := by
    intro b x hx
    split at hx
    · cases hx
    · simp at hx; omega
  have hne : ∀ a r x, (dec a ++ r).head? = some x → 48 ≤ x ∧ x < 58 := by
    intro a r x hx
    cases e : dec a with
    | nil => exact absurd e (dec_ne a)
    | cons y l =>
      rw [e] at hx; simp at hx; subst hx
      exact dec_byte a y (by rw [e]; simp)
  have hn : n1 = n2 := by
    cases n1 <;> cases n2
    · rfl
    · exfalso
      simp only [Bool.false_eq_true, if_false, if_true, List.nil_append] at h
      have := hne a1 _ 45 (by rw [h]; rfl)
      omega
    · exfalso
      simp only [Bool.false_eq_true, if_false, if_true, List.nil_append] at h
      have := hne a2 _ 45 (by rw [← h]; rfl)
      omega
    · rfl
  subst hn
  have h2 := List.append_cancel_left h
  obtain ⟨q1, q2⟩ := split_inj (dec_byte a1) (dec_byte a2) (hd b1) (hd b2) h2
  refine ⟨rfl, dec_inj q1, ?_⟩
  by_cases e1 : b1 = 1 <;> by_cases e2 : b2 = 1
  · omega
  · rw [if_pos e1, if_neg e2] at q2; cases q2
  · rw [if_neg e1, if_pos e2] at q2; cases q2
  · rw [if_neg e1, if_neg e2] at q2
    exact dec_inj (List.cons.inj q2).2
def bytes (s : List Nat) : List AV := s.map fun n => .int .u8 (.ofNat n)
theorem bytes_append (a b : List Nat) : bytes a ++ bytes b = bytes (a ++ b) := by simp [bytes]
@[simp] theorem bytes_length (a : List Nat) : (bytes a).length = a.length := by simp [bytes]
end Go.RI
namespace Go.RI
open Fx
theorem mask_u64 {x : Nat} (h2 : x < 18446744073709551616) : IntKind.u64.wrap ((BitVec.ofInt IntKind.u64.bits (Int.ofNat x) &&& BitVec.ofInt IntKind.u64.bits (Int.ofNat 65535)).toNat : Int) = Int.ofNat (x % 65536) := by
  rw [show (Int.ofNat 65535) = ((65535 : Nat) : Int) from rfl, show (Int.ofNat x) = ((x : Nat) : Int) from rfl, andU64 (by omega) (by decide), show (65535 : Nat) = 2 ^ 16 - 1 from rfl, Nat.and_two_pow_sub_one_eq_mod]; rfl
theorem shr_u64 (x n : Nat) (h : n ≤ 64) : (if (Int.ofNat n) < 0 then (none : Option AV) else some (.int .u64 ((Int.ofNat x).fdiv (2 ^ min (Int.ofNat n).toNat IntKind.u64.bits)))) = some (.int .u64 (Int.ofNat (x / 2 ^ n))) := by
  have e : IntKind.u64.bits = 64 := rfl
  rw [if_neg (by simp), e, show min (Int.ofNat n).toNat 64 = n by rw [Int.ofNat_eq_natCast, Int.toNat_natCast]; omega, Int.fdiv_eq_ediv_of_nonneg _ (Int.le_of_lt (Int.pow_pos (by decide)))]
  simp only [Int.ofNat_eq_natCast]
  rw [Int.natCast_ediv, Int.natCast_pow]; rfl
def dg (n : Nat) : List Int := if n = 0 then [] else [(n : Int)]
theorem dg_can {n : Nat} (h : n < 65536) : Can (dg n) ∧ val (dg n) = n := by
  unfold dg
  by_cases h0 : n = 0
  · rw [if_pos h0]; subst h0; exact ⟨⟨fun x hx => by (cases hx), rfl⟩, rfl⟩
  · rw [if_neg h0]
    refine ⟨⟨fun x hx => ?_, trimL_same (.inr ?_)⟩, ?_⟩
    · simp only [List.mem_singleton] at hx; omega
    · simp only [List.length_singleton, Nat.sub_self, List.getD, List.getElem?_cons_zero, Option.getD_some]; omega
    · rw [val_cons, val_nil]; omega
section
variable {fs : Fns} {orc : Oracle} {H : Hp}
theorem ofInt_ok (hc : Code fs orc 58 F58) {n : Nat} (hn : n < 65536) : CallS fs orc (.func (.func 58) [] []) [.int .u64 (.ofNat n)] H fun r H' => Nu H' r (dg n) := by
  refine call_fn1 hc fun lo g e0 => ?_
  have hfin : ∀ {H' : Hp} {v : AV} {o : List Int}, Buf 3 H H' lo v (ints o) → o = dg n → Nu H' v (dg n) := by
    rintro H' v o hb rfl
    exact ⟨hb.rd, (dg_can hn).1, by unfold dg; split <;> simp⟩
  repeat first | refine sops_pv (by simp only [↓pw, ↓ez, ↓reduceIte, Nat.reduceEqDiff, binA, numA, ibin, unA, pz, Bool.not_true, Bool.not_false, e0]; rfl) ?_ | refine sops_nil ?_ | refine seqQ_normal ?_ | refine sok_seq ?_ | refine sok_region ?_ | refine sok_block ?_
  refine sok_loop (fun k g' H' => ∃ m o, k = m ∧ g' 0 = .int .u64 (.ofNat m) ∧ Buf 3 H H' lo (g' 3) (ints o) ∧ (m = n ∧ o = [] ∨ m = 0 ∧ o = dg n) ∧ Le H H') ?_ n _ _
    ⟨n, [], rfl, by simp only [↓ez, ↓reduceIte, Nat.reduceEqDiff, e0], by simp only [↓ez, ↓reduceIte, Nat.reduceEqDiff]; exact Buf.nil 3 H H lo, .inl ⟨rfl, rfl⟩, Le.refl _⟩
  rintro k g' H' ⟨m, o, rfl, f0, hb, hmo, hle⟩
  repeat first | refine sops_pv (by simp only [↓pw, ↓ez, ↓reduceIte, Nat.reduceEqDiff, binA, numA, ibin, unA, pz, Bool.not_true, Bool.not_false, f0]; rfl) ?_ | refine sops_nil ?_ | refine seqQ_normal ?_ | refine sok_seq ?_ | refine sok_region ?_
  refine sok_cond _ (by simp only [↓ez, ↓reduceIte, Nat.reduceEqDiff]; rfl) (fun hc => ?_) (fun hc => ?_)
  · have hm : 0 < k := by
      have := of_decide_eq_true hc; simp only [Int.ofNat_eq_natCast] at this; omega
    obtain ⟨rfl, rfl⟩ : k = n ∧ o = [] := by
      rcases hmo with h | h
      · exact h
      · omega
    have q1 := mask_u64 (x := k) (by omega)
    have q2 := shr_u64 k 16 (by decide)
    have q3 := wrap64 (n := Int.ofNat (k % 65536)) (by simp only [Int.ofNat_eq_natCast]; omega) (by simp only [Int.ofNat_eq_natCast]; omega)
    repeat first | refine sops_pv (by simp only [↓pw, ↓ez, ↓reduceIte, Nat.reduceEqDiff, binA, numA, ibin, unA, pz, Bool.not_true, Bool.not_false, f0, q1, q3]; rfl) ?_ | refine seqQ_normal ?_ | refine sok_seq ?_ | refine sok_region ?_ | refine sok_skip ?_ | refine sok_block ?_
    refine sops_bs (ints [Int.ofNat (k % 65536)]) rfl fun b2 H3 hF3 => ?_
    refine sops_app (c := ints []) (H0 := H) (xs := ints [Int.ofNat (k % 65536)]) (by simp only [↓ez, ↓reduceIte, Nat.reduceEqDiff]; exact hb.mono hF3.le) (hle.trans hF3.le) (.inl (by simp only [↓ez, ↓reduceIte, Nat.reduceEqDiff]; exact Rd.ownN hF3.at' rfl)) (by simp [ints]) rfl
      (by simp only [ints_length, List.length_cons, List.length_nil]; omega) (by simp only [ints_length, List.length_cons, List.length_nil]; omega) fun v3 H4 hb3 hle3 _ => ?_
    repeat first | refine sops_pv (by simp only [↓pw, ↓ez, ↓reduceIte, Nat.reduceEqDiff, binA, numA, ibin, unA, pz, Bool.not_true, Bool.not_false, f0, ↓q2]; rfl) ?_ | refine sops_nil ?_ | refine seqQ_normal ?_ | refine blkQ_normal ?_ | refine sok_region ?_
    refine loopQ_normal (k / 2 ^ 16) ?_ ?_
    · rw [show (2 : Nat) ^ 16 = 65536 from rfl]; omega
    refine ⟨k / 2 ^ 16, dg k, rfl, by simp only [↓ez, ↓reduceIte, Nat.reduceEqDiff], ?_, .inr ⟨by rw [show (2 : Nat) ^ 16 = 65536 from rfl]; omega, rfl⟩, hle3⟩
    simp only [↓ez, ↓reduceIte, Nat.reduceEqDiff]
    have : ints (dg k) = ints [] ++ ints [Int.ofNat (k % 65536)] := by
      unfold dg; rw [if_neg (by omega), Nat.mod_eq_of_lt hn]; rfl
    rw [this]; exact hb3
  · have hm : k = 0 := by
      have := of_decide_eq_false hc; simp only [Int.ofNat_eq_natCast] at this; omega
    subst hm
    have ho : o = dg n := by
      rcases hmo with ⟨h1, h2⟩ | ⟨h1, h2⟩
      · subst h1; exact h2
      · exact h2
    repeat first | refine sops_pv (by simp only [↓pw, ↓ez, ↓reduceIte, Nat.reduceEqDiff, binA, numA, ibin, unA, pz, Bool.not_true, Bool.not_false]; rfl) ?_ | refine sops_nil ?_ | refine seqQ_normal ?_ | refine seqQ_exit ?_ | refine blkQ_hit ?_ | refine loopQ_exit ?_ | refine sok_seq ?_ | refine sok_region ?_ | refine sok_ret ?_ | refine sok_exit ?_
    refine fnQ_tmp (.inr rfl) rfl ?_ (by simp only [↓ez, ↓reduceIte, Nat.reduceEqDiff]; rfl) ?_
    · exact hle
    · exact hfin hb ho
theorem zbytes (n : Nat) : (List.replicate n z5).flatten = bytes (List.replicate n 0) := by
  unfold bytes z5
  induction n with
  | zero => rfl
  | succ n ih => simp only [List.replicate_succ, List.flatten_cons, ih, List.map_cons]; rfl
theorem ibin_mulq {x : Int} (h1 : 0 ≤ x) (h2 : x < 10) : IntKind.i64.wrap (x * Int.ofNat 65536) = x * 65536 := by
  rw [show Int.ofNat 65536 = (65536 : Int) from rfl, wrap64 (by omega) (by omega)]
theorem div_step {x r q v : Int} (hv : v = 10 * q + r) (h1 : 0 ≤ r) (h2 : r < 10) (h3 : 0 ≤ x) (h4 : x < 65536) :
    0 ≤ (r * 65536 + x) / 10 ∧ (r * 65536 + x) / 10 < 65536 ∧ 0 ≤ (r * 65536 + x) % 10 ∧ (r * 65536 + x) % 10 < 10 ∧ x + 65536 * v = 10 * ((r * 65536 + x) / 10 + 65536 * q) + (r * 65536 + x) % 10 := by
  subst hv; omega
theorem drop_get {l : List Int} {k : Nat} (h : k < l.length) : l.drop k = l.getD k 0 :: l.drop (k + 1) := by
  rw [List.drop_eq_getElem_cons h]
  simp only [List.getD, List.getElem?_eq_getElem h, Option.getD_some]
theorem drop_set {l : List Int} {k : Nat} (h : k < l.length) (x : Int) : (l.set k x).drop k = x :: l.drop (k + 1) := by
  rw [List.drop_eq_getElem_cons (by simp; omega), List.drop_set_of_lt (by omega)]
  simp
theorem ibin_remI {s n : Int} (h0 : 0 ≤ s) (hn : 0 < n) : ibin .rem .i64 s n = some (.int .i64 (s % n)) := by
  have : ¬ (n = 0) := by omega
  simp only [ibin, if_neg this]
  rw [Int.tmod_eq_emod_of_nonneg h0]
theorem ibin_quoI {s n : Int} (h0 : 0 ≤ s) (hn : 0 < n) (hs : s < 9223372036854775808) : ibin .quo .i64 s n = some (.int .i64 (s / n)) := by
  have : ¬ (n = 0) := by omega
  simp only [ibin, if_neg this]
  rw [Int.tdiv_eq_ediv_of_nonneg h0]
  have h1 : s / n ≤ s := Int.ediv_le_self n h0
  have h2 : 0 ≤ s / n := Int.ediv_nonneg h0 (Int.le_of_lt hn)
  rw [wrap64 (by omega) (by omega)]
end
end Go.RI
namespace Go.RI
open Fx
theorem bytes_set {r : List Nat} {i x : Nat} (h : i < r.length) : (bytes r).take i ++ [AV.int .u8 (.ofNat x)] ++ (bytes r).drop (i + 1) = bytes (r.set i x) := by
  unfold bytes
  rw [List.map_set, List.set_eq_take_append_cons_drop, if_pos (by simpa using h)]
  simp
theorem bytes_get {l : List Nat} {i : Nat} (h : i < l.length) : (bytes l)[i]? = some (.int .u8 (.ofNat l[i])) := by simp [bytes, h]
theorem rep_set (m c : Nat) (R : List Nat) : (List.replicate (m + 1) 0 ++ R).set m c = List.replicate m 0 ++ c :: R := by
  rw [List.replicate_succ', List.append_assoc, List.set_append_right _ _ (by simp)]
  simp
open Zs in
noncomputable def dectC : ACode := (q (r [M 3 49,V 49 50,O (.mkSlice 5 1 1 z5 (t 50) (t 50)) 51,M 51 8]) (q (q (r [M 3 52,V 52 53,N (i 0) 54]) (l 4 (p (q (r [J 54 53 55]) (q (k 55 .skip (x 4)) (q (l 5 (q (r [M 54 56,Y 1 52 (t 54) 57,L 57 58,M 56 9,M 58 10]) (r [M 8 59,M 3 60,V 60 61,B .sub (t 61) (i 1) 62,M 9 63,B .sub (t 62) (t 63) 64,M 10 65,Y 1 59 (t 64) 66,S 1 66 (t 65)]))) (r [I 54 67,M 67 54]))))))) (q (r [M 8 68,O (.toStr (t 68)) 69,M 69 2]) .ret)))
section
variable {fs : Fns} {orc : Oracle} {H : Hp}
theorem dec_tail {H1 : Hp} {g : Env} {lo n : Nat} {ds : List Nat} {vb : AV} {H0 : Hp} (hb : Buf 5 H0 H1 lo vb (bytes ds)) (hle : Le H0 H1) (hds : dec n = ds.reverse) (hn : ds.length ≤ 10000) (f3 : g 3 = vb) :
    SOk fs orc dectC g H1 lo (fnQ F57 H0 fun r _ => r = .str (dec n)) := by
  unfold dectC
  have hne : ds ≠ [] := by rintro rfl; exact dec_ne n hds
  have hpos : 0 < ds.length := List.length_pos_iff.2 hne
  repeat first | refine sops_pv (by simp only [↓pw, ↓ez, ↓reduceIte, Nat.reduceEqDiff, binA, numA, ibin, unA, pz, Bool.not_true, Bool.not_false, f3]; rfl) ?_ | refine sok_seq ?_ | refine sok_region ?_
  refine sops_len1 (c := bytes ds) (by simp only [↓ez, ↓reduceIte, Nat.reduceEqDiff, f3]; exact hb.rd) ?_
  simp only [bytes_length]
  refine sops_mk ds.length (by simp only [↓ez, ↓reduceIte, Nat.reduceEqDiff, natOf]) (by simp only [↓ez, ↓reduceIte, Nat.reduceEqDiff, natOf]) (by omega) (by omega) fun b H2 hF => ?_
  rw [zbytes] at hF
  repeat first | refine sops_pv (by simp only [↓pw, ↓ez, ↓reduceIte, Nat.reduceEqDiff, binA, numA, ibin, unA, pz, Bool.not_true, Bool.not_false, f3]; rfl) ?_ | refine sops_nil ?_ | refine seqQ_normal ?_ | refine sok_seq ?_ | refine sok_region ?_
  refine sops_len1 (c := bytes ds) (by simp only [↓ez, ↓reduceIte, Nat.reduceEqDiff, f3]; exact hb.rd.mono hF.le) ?_
  simp only [bytes_length]
  repeat first | refine sops_pv (by simp only [↓pw, ↓ez, ↓reduceIte, Nat.reduceEqDiff, binA, numA, ibin, unA, pz, Bool.not_true, Bool.not_false, f3]; rfl) ?_ | refine sops_nil ?_ | refine seqQ_normal ?_ | refine sok_block ?_
  refine sok_loop (fun k g' H' => ∃ i r, k = ds.length - i ∧ i ≤ ds.length ∧ g' 3 = vb ∧ g' 8 = .slice b 0 ds.length ds.length 1 ∧ g' 52 = vb ∧ g' 53 = .int .i64 (.ofNat ds.length) ∧ g' 54 = .int .i64 (.ofNat i) ∧ H' b = some (.own 5 (bytes r)) ∧
      r = List.replicate (ds.length - i) 0 ++ (ds.take i).reverse ∧ Le H1 H') ?_ ds.length _ _
    ⟨0, _, rfl, Nat.zero_le _, by simp only [↓ez, ↓reduceIte, Nat.reduceEqDiff, f3], by simp only [↓ez, ↓reduceIte, Nat.reduceEqDiff], by simp only [↓ez, ↓reduceIte, Nat.reduceEqDiff, f3], by simp only [↓ez, ↓reduceIte, Nat.reduceEqDiff], by simp only [↓ez, ↓reduceIte, Nat.reduceEqDiff], hF.at', by simp, hF.le⟩
  rintro k g' H' ⟨i, r, rfl, hi, f3, f8, f52, f53, f54, hat, hr, hle'⟩
  have hrl : r.length = ds.length := by rw [hr]; simp; omega
  repeat first | refine sops_pv (by simp only [↓pw, ↓ez, ↓reduceIte, Nat.reduceEqDiff, binA, numA, ibin, unA, pz, Bool.not_true, Bool.not_false, f53, f54]; rfl) ?_ | refine sops_nil ?_ | refine seqQ_normal ?_ | refine sok_seq ?_ | refine sok_region ?_
  refine sok_cond _ (by simp only [↓ez, ↓reduceIte, Nat.reduceEqDiff]; rfl) (fun hc => ?_) (fun hc => ?_)
  · have hi' : i < ds.length := by simpa using hc
    have hw := wrap_add1 (n := i) (by omega)
    have w1 := wrap_sub1 (n := ds.length) hpos (by omega)
    have w2 : IntKind.i64.wrap (Int.ofNat (ds.length - 1) - Int.ofNat i) = Int.ofNat (ds.length - 1 - i) := by
      simp only [Int.ofNat_eq_natCast]; rw [wrap64 (by omega) (by omega)]; omega
    repeat first | refine sops_pv (by simp only [↓pw, ↓ez, ↓reduceIte, Nat.reduceEqDiff, binA, numA, ibin, unA, pz, Bool.not_true, Bool.not_false, f54]; rfl) ?_ | refine seqQ_normal ?_ | refine sok_seq ?_ | refine sok_region ?_ | refine sok_skip ?_ | refine sok_block ?_
    refine sops_idx1 (.int .u8 (.ofNat ds[i])) (c := bytes ds) (n := i) (by simp only [↓ez, ↓reduceIte, Nat.reduceEqDiff, f52]; exact hb.rd.mono hle') (by simp only [↓ez, ↓reduceIte, Nat.reduceEqDiff, natOf, f54]) (bytes_get hi') fun p o hq => ?_
    repeat first | refine sops_pv (by simp only [↓pw, ↓ez, ↓reduceIte, Nat.reduceEqDiff, binA, numA, ibin, unA, pz, Bool.not_true, Bool.not_false, f54, hq, f8, f3]; rfl) ?_ | refine sops_nil ?_ | refine seqQ_normal ?_ | refine sok_region ?_
    refine sops_len1 (c := bytes ds) (by simp only [↓ez, ↓reduceIte, Nat.reduceEqDiff, f3]; exact hb.rd.mono hle') ?_
    simp only [bytes_length]
    repeat (refine sops_pv (by simp only [↓pw, ↓ez, ↓reduceIte, Nat.reduceEqDiff, binA, numA, ibin, unA, pz, Bool.not_true, Bool.not_false, w1, w2]; rfl) ?_)
    refine sops_ix0 (b := b) (len := ds.length) (cap := ds.length) (n := ds.length - 1 - i) (by simp only [↓ez, ↓reduceIte, Nat.reduceEqDiff, f8]) (by simp only [↓ez, ↓reduceIte, Nat.reduceEqDiff, natOf]) (by omega) ?_
    refine sops_store (b := b) (off := ds.length - 1 - i) (e := 5) (r := bytes r) (by simp only [↓ez, ↓reduceIte, Nat.reduceEqDiff]) hat hF.lo (by simp only [↓ez, ↓reduceIte, Nat.reduceEqDiff, AV.cells]; rfl) rfl rfl (by simp only [bytes_length]; omega) fun H3 hS => ?_
    have hat3 := hS.at'
    rw [bytes_set (by omega)] at hat3
    repeat first | refine sops_pv (by simp only [↓pw, ↓ez, ↓reduceIte, Nat.reduceEqDiff, binA, numA, ibin, unA, pz, Bool.not_true, Bool.not_false, f54, hw]; rfl) ?_ | refine sops_nil ?_ | refine seqQ_normal ?_ | refine blkQ_normal ?_ | refine sok_region ?_
    refine loopQ_normal (ds.length - (i + 1)) ?_ ?_
    · omega
    refine ⟨i + 1, _, rfl, hi', by simp only [↓ez, ↓reduceIte, Nat.reduceEqDiff, f3], by simp only [↓ez, ↓reduceIte, Nat.reduceEqDiff, f8], by simp only [↓ez, ↓reduceIte, Nat.reduceEqDiff, f52], by simp only [↓ez, ↓reduceIte, Nat.reduceEqDiff, f53], by simp only [↓ez, ↓reduceIte, Nat.reduceEqDiff], hat3, ?_, hS.le hle' hF.new⟩
    rw [hr, show ds.length - i = ds.length - 1 - i + 1 by omega, rep_set, List.take_succ_eq_append_getElem hi', List.reverse_append]
    rw [show ds.length - (i + 1) = ds.length - 1 - i by omega]
    rfl
  · have hi' : i = ds.length := by have : ¬ i < ds.length := by simpa using hc
                                   omega
    subst hi'
    rw [Nat.sub_self, List.take_length] at hr
    have hr : r = ds.reverse := hr
    subst hr
    repeat first | refine sops_pv (by simp only [↓pw, ↓ez, ↓reduceIte, Nat.reduceEqDiff, binA, numA, ibin, unA, pz, Bool.not_true, Bool.not_false, f8]; rfl) ?_ | refine seqQ_normal ?_ | refine seqQ_exit ?_ | refine blkQ_hit ?_ | refine loopQ_exit ?_ | refine sok_seq ?_ | refine sok_region ?_ | refine sok_exit ?_
    refine sops_toStr (s := ds.reverse) (by simp only [↓ez, ↓reduceIte, Nat.reduceEqDiff, f8]; exact Rd.ownN hat (by simp)) (fun x hx => by rw [← hds] at hx; have := dec_byte _ _ hx; omega) (by simpa using hne) ?_
    repeat first | refine sops_pv (by simp only [↓pw, ↓ez, ↓reduceIte, Nat.reduceEqDiff, binA, numA, ibin, unA, pz, Bool.not_true, Bool.not_false]; rfl) ?_ | refine sops_nil ?_ | refine seqQ_normal ?_ | refine sok_ret ?_
    refine fnQ_tmp (.inr rfl) rfl ?_ (by simp only [↓ez, ↓reduceIte, Nat.reduceEqDiff]; rfl) ?_
    · exact hle.trans hle'
    · rw [hds]
set_option exponentiation.threshold 10000 in
theorem dec_ok (h82 : Code fs orc 82 F82) (hc : Code fs orc 57 F57) {v : AV} {l : List Int} (h : Rd H 1 v (ints l)) (hl : Can l) (hn : l.length ≤ 300) :
    CallS fs orc (.func (.func 57) [] []) [v] H fun r _ => r = .str (dec (val l).toNat) := by
  refine call_fn1 hc fun lo g e0 => ?_
  repeat first | refine sops_pv (by simp only [↓pw, ↓ez, ↓reduceIte, Nat.reduceEqDiff, binA, numA, ibin, unA, pz, Bool.not_true, Bool.not_false, e0]; rfl) ?_ | refine sops_nil ?_ | refine seqQ_normal ?_ | refine sok_seq ?_ | refine sok_region ?_
  refine sops_len1 (c := ints l) (by simp only [↓ez, ↓reduceIte, Nat.reduceEqDiff, e0]; exact h) ?_
  simp only [ints_length]
  repeat first | refine sops_pv (by simp only [↓pw, ↓ez, ↓reduceIte, Nat.reduceEqDiff, binA, numA, ibin, unA, pz, Bool.not_true, Bool.not_false]; rfl) ?_ | refine sops_nil ?_ | refine seqQ_normal ?_
  refine sok_cond _ (by simp only [↓ez, ↓reduceIte, Nat.reduceEqDiff]; rfl) (fun hb => ?_) (fun hb => ?_)
  · have h0 : l = [] := by
      have : l.length = 0 := by simpa using hb
      exact List.length_eq_zero_iff.1 this
    subst h0
    repeat first | refine sops_pv (by simp only [↓pw, ↓ez, ↓reduceIte, Nat.reduceEqDiff, binA, numA, ibin, unA, pz, Bool.not_true, Bool.not_false]; rfl) ?_ | refine sops_nil ?_ | refine seqQ_normal ?_ | refine seqQ_ret ?_ | refine sok_seq ?_ | refine sok_region ?_ | refine sok_ret ?_
    refine fnQ_tmp (.inr rfl) rfl ?_ (by simp only [↓ez, ↓reduceIte, Nat.reduceEqDiff]; rfl) ?_
    · exact Le.refl _
    · rfl
  have hl0 : 0 < l.length := by
    have : ¬ (l.length = 0) := by simpa using hb
    omega
  have hvp := len_pos hl hl0
  have hdn : dec (val l).toNat = (digs (val l).toNat).reverse := by unfold dec; rw [if_neg (by omega)]
  have hdl : (digs (val l).toNat).length ≤ 4800 := by
    refine digs_len 4800 _ ?_
    have h1 := (val_bound hl.dig).2
    have h2 := pw_le hn
    have h3 : (65536 : Int) ^ 300 = ((2 ^ 4800 : Nat) : Int) := by rw [Int.natCast_pow, show (65536 : Int) = 2 ^ 16 from rfl, ← Int.pow_mul]; rfl
    omega
  repeat first | refine sops_pv (by simp only [↓pw, ↓ez, ↓reduceIte, Nat.reduceEqDiff, binA, numA, ibin, unA, pz, Bool.not_true, Bool.not_false]; rfl) ?_ | refine sops_nil ?_ | refine seqQ_normal ?_ | refine sok_seq ?_ | refine sok_region ?_ | refine sok_skip ?_ | refine sok_block ?_
  refine sok_loop (fun k g' H' => ∃ a ds, k = (val a).toNat ∧ Rd H' 1 (g' 0) (ints a) ∧ Can a ∧ a.length ≤ 300 ∧ Buf 5 H H' lo (g' 3) (bytes ds) ∧ ds ++ digs (val a).toNat = digs (val l).toNat ∧ Le H H') ?_ (val l).toNat _ _
    ⟨l, [], rfl, by simp only [↓ez, ↓reduceIte, Nat.reduceEqDiff, e0]; exact h, hl, hn, by simp only [↓ez, ↓reduceIte, Nat.reduceEqDiff]; exact Buf.nil 5 H H lo, rfl, Le.refl _⟩
  rintro k g' H' ⟨a, ds, rfl, ra, ca, na, hbuf, hds, hle⟩
  have hdsl : ds.length ≤ 4800 := by
    have := congrArg List.length hds; rw [List.length_append] at this; omega
  repeat first | refine sops_pv (by simp only [↓pw, ↓ez, ↓reduceIte, Nat.reduceEqDiff, binA, numA, ibin, unA, pz, Bool.not_true, Bool.not_false]; rfl) ?_ | refine sok_seq ?_ | refine sok_region ?_
  refine sops_len1 (c := ints a) (by simp only [↓ez, ↓reduceIte, Nat.reduceEqDiff]; exact ra) ?_
  simp only [ints_length]
  repeat first | refine sops_pv (by simp only [↓pw, ↓ez, ↓reduceIte, Nat.reduceEqDiff, binA, numA, ibin, unA, pz, Bool.not_true, Bool.not_false]; rfl) ?_ | refine sops_nil ?_ | refine seqQ_normal ?_
  refine sok_cond _ (by simp only [↓ez, ↓reduceIte, Nat.reduceEqDiff]; rfl) (fun hc => ?_) (fun hc => ?_)
  · have ha0 : 0 < a.length := by simpa using hc
    have hap := len_pos ca ha0
    have w1 := wrap_sub1 (n := a.length) ha0 (by omega)
    repeat first | refine sops_pv (by simp only [↓pw, ↓ez, ↓reduceIte, Nat.reduceEqDiff, binA, numA, ibin, unA, pz, Bool.not_true, Bool.not_false]; rfl) ?_ | refine sops_nil ?_ | refine seqQ_normal ?_ | refine sok_seq ?_ | refine sok_region ?_ | refine sok_skip ?_ | refine sok_block ?_
    refine sops_len1 (c := ints a) (by simp only [↓ez, ↓reduceIte, Nat.reduceEqDiff]; exact ra) ?_
    simp only [ints_length]
    refine sops_mk a.length (by simp only [↓ez, ↓reduceIte, Nat.reduceEqDiff, natOf]) (by simp only [↓ez, ↓reduceIte, Nat.reduceEqDiff, natOf]) (by omega) (by omega) fun b H2 hF => ?_
    rw [zeros_ints] at hF
    repeat first | refine sops_pv (by simp only [↓pw, ↓ez, ↓reduceIte, Nat.reduceEqDiff, binA, numA, ibin, unA, pz, Bool.not_true, Bool.not_false]; rfl) ?_ | refine sops_nil ?_ | refine seqQ_normal ?_ | refine sok_seq ?_ | refine sok_region ?_
    refine sops_len1 (c := ints a) (by simp only [↓ez, ↓reduceIte, Nat.reduceEqDiff]; exact ra.mono hF.le) ?_
    simp only [ints_length]
    repeat first | refine sops_pv (by simp only [↓pw, ↓ez, ↓reduceIte, Nat.reduceEqDiff, binA, numA, ibin, unA, pz, Bool.not_true, Bool.not_false, w1]; rfl) ?_ | refine sops_nil ?_ | refine seqQ_normal ?_ | refine sok_block ?_
    generalize hv0 : g' 0 = v0 at *
    generalize hv3 : g' 3 = v3 at *
    refine sok_loop (fun k g2 H'' => ∃ r rest, k ≤ a.length ∧ g2 0 = v0 ∧ g2 3 = v3 ∧ g2 5 = .slice b 0 a.length a.length 1 ∧ g2 6 = .int .i64 ((k : Int) - 1) ∧ g2 4 = .int .i64 rest ∧ H'' b = some (.own 3 (ints r)) ∧ r.length = a.length ∧ Dig r ∧
        val (a.drop k) = 10 * val (r.drop k) + rest ∧ 0 ≤ rest ∧ rest < 10 ∧ Le H' H'') ?_ a.length _ _
      ⟨_, 0, Nat.le_refl _, by simp only [↓ez, ↓reduceIte, Nat.reduceEqDiff, hv0], by simp only [↓ez, ↓reduceIte, Nat.reduceEqDiff, hv3], by simp only [↓ez, ↓reduceIte, Nat.reduceEqDiff], by simp only [↓ez, ↓reduceIte, Nat.reduceEqDiff, Int.ofNat_eq_natCast]; rw [show ((a.length - 1 : Nat) : Int) = (a.length : Int) - 1 by omega], by simp only [↓ez, ↓reduceIte, Nat.reduceEqDiff]; rfl, hF.at', by simp, fun x hx => by (rw [List.eq_of_mem_replicate hx]; decide), by simp [val_nil], by decide, by decide, hF.le⟩
    clear hc
    rintro k g2 H'' ⟨r, rest, hk, f0, f3, f5, f6, f4, hat, hr, hdr, hval, hr0, hr1, hle2⟩
    repeat first | refine sops_pv (by simp only [↓pw, ↓ez, ↓reduceIte, Nat.reduceEqDiff, binA, numA, ibin, unA, pz, Bool.not_true, Bool.not_false, f6]; rfl) ?_ | refine sops_nil ?_ | refine seqQ_normal ?_ | refine sok_seq ?_ | refine sok_region ?_
    refine sok_cond _ (by simp only [↓ez, ↓reduceIte, Nat.reduceEqDiff]; rfl) (fun hc => ?_) (fun hc => ?_)
    · cases k with
      | zero => simp at hc
      | succ k =>
        have ek : (((k + 1 : Nat) : Int) - 1) = Int.ofNat k := by simp only [Int.ofNat_eq_natCast]; omega
        rw [ek] at f6
        have hx := ca.dig.get k
        obtain ⟨d1, d2, d3, d4, d5⟩ := div_step hval hr0 hr1 hx.1 hx.2
        have q1 := ibin_mulq hr0 hr1
        have q2 := wrap64 (n := rest * 65536 + a.getD k 0) (by omega) (by omega)
        have q3 := ibin_quoI (s := rest * 65536 + a.getD k 0) (n := Int.ofNat 10) (by omega) (by decide) (by omega)
        have q4 := ibin_remI (s := rest * 65536 + a.getD k 0) (n := Int.ofNat 10) (by omega) (by decide)
        repeat first | refine sops_pv (by simp only [↓pw, ↓ez, ↓reduceIte, Nat.reduceEqDiff, binA, numA, ibin, unA, pz, Bool.not_true, Bool.not_false, f4, f0, f6, q1]; rfl) ?_ | refine seqQ_normal ?_ | refine sok_seq ?_ | refine sok_region ?_ | refine sok_skip ?_ | refine sok_block ?_
        refine sops_idx1 (.int .i64 (a.getD k 0)) (c := ints a) (n := k) (by simp only [↓ez, ↓reduceIte, Nat.reduceEqDiff, f0]; exact ra.mono hle2) (by simp only [↓ez, ↓reduceIte, Nat.reduceEqDiff, natOf, f6]) (ints_get (by omega)) fun p o hq => ?_
        repeat first | refine sops_pv (by simp only [↓pw, ↓ez, ↓reduceIte, Nat.reduceEqDiff, binA, numA, ibin, unA, pz, Bool.not_true, Bool.not_false, hq, q1, q2, f5, f6, ↓q3]; rfl) ?_ | refine sops_nil ?_ | refine seqQ_normal ?_ | refine sok_seq ?_ | refine sok_region ?_
        refine sops_ix0 (b := b) (len := a.length) (cap := a.length) (n := k) (by simp only [↓ez, ↓reduceIte, Nat.reduceEqDiff, f5]) (by simp only [↓ez, ↓reduceIte, Nat.reduceEqDiff, natOf, f6]) (by omega) ?_
        refine sops_store (b := b) (off := k) (e := 3) (r := ints r) (by simp only [↓ez, ↓reduceIte, Nat.reduceEqDiff]) hat hF.lo (by simp only [↓ez, ↓reduceIte, Nat.reduceEqDiff, AV.cells]; rfl) rfl rfl (by simp only [ints_length]; omega) fun H3 hS => ?_
        have hat3 := hS.at'
        rw [ints_set (by omega)] at hat3
        have hw : IntKind.i64.wrap (Int.ofNat k - Int.ofNat 1) = (k : Int) - 1 := by
          simp only [Int.ofNat_eq_natCast]; rw [wrap64 (by omega) (by omega)]; omega
        repeat first | refine sops_pv (by simp only [↓pw, ↓ez, ↓reduceIte, Nat.reduceEqDiff, binA, numA, ibin, unA, pz, Bool.not_true, Bool.not_false, f6, ↓q4, hw]; rfl) ?_ | refine sops_nil ?_ | refine seqQ_normal ?_ | refine blkQ_normal ?_ | refine sok_region ?_
        refine loopQ_normal k ?_ ?_
        · omega
        refine ⟨_, _, by omega, by simp only [↓ez, ↓reduceIte, Nat.reduceEqDiff, f0], by simp only [↓ez, ↓reduceIte, Nat.reduceEqDiff, f3], by simp only [↓ez, ↓reduceIte, Nat.reduceEqDiff, f5], by simp only [↓ez, ↓reduceIte, Nat.reduceEqDiff], by simp only [↓ez, ↓reduceIte, Nat.reduceEqDiff]; rfl, hat3, by simp [hr], fun x hx => ?_, ?_, d3, d4, hS.le hle2 hF.new⟩
        · rcases List.mem_or_eq_of_mem_set hx with hx | rfl
          · exact hdr x hx
          · exact ⟨d1, d2⟩
        · rw [drop_get (by omega), drop_set (by omega), val_cons, val_cons]; exact d5
    · have hk0 : k = 0 := by
        have := of_decide_eq_false hc
        simp only [Int.ofNat_eq_natCast] at this; omega
      subst hk0
      simp only [List.drop_zero] at hval
      obtain ⟨rn, rfl⟩ := Int.eq_ofNat_of_zero_le hr0
      have vr := (val_bound hdr).1
      have e1 : (val a).toNat % 10 = rn := by omega
      have e2 : (val a).toNat / 10 = (val r).toNat := by omega
      have q1 : IntKind.i64.wrap (Int.ofNat 48 + (rn : Int)) = Int.ofNat (48 + rn) := by
        rw [show Int.ofNat 48 = (48 : Int) from rfl, wrap64 (by omega) (by omega)]; rfl
      have q2 : IntKind.u8.wrap (Int.ofNat (48 + rn)) = Int.ofNat (48 + rn) := wrapU8 (by simp only [Int.ofNat_eq_natCast]; omega) (by simp only [Int.ofNat_eq_natCast]; omega)
      repeat first | refine sops_pv (by simp only [↓pw, ↓ez, ↓reduceIte, Nat.reduceEqDiff, binA, numA, ibin, unA, pz, Bool.not_true, Bool.not_false, f3, f4, q1, q2]; rfl) ?_ | refine seqQ_normal ?_ | refine seqQ_exit ?_ | refine blkQ_hit ?_ | refine loopQ_exit ?_ | refine sok_seq ?_ | refine sok_region ?_ | refine sok_exit ?_
      refine sops_bs (bytes [48 + rn]) rfl fun b2 H3 hF3 => ?_
      refine sops_app (c := bytes ds) (H0 := H) (xs := bytes [48 + rn]) (by simp only [↓ez, ↓reduceIte, Nat.reduceEqDiff, f3]; exact (hbuf.mono hle2).mono hF3.le) ((hle.trans hle2).trans hF3.le) (.inl (by simp only [↓ez, ↓reduceIte, Nat.reduceEqDiff]; exact Rd.ownN hF3.at' rfl)) (by simp [bytes]) rfl
        (by simp only [bytes_length, List.length_cons, List.length_nil]; omega) (by simp only [bytes_length, List.length_cons, List.length_nil]; omega) fun v4 H4 hb4 hle4 hoth => ?_
      have hat4 : H4 b = some (.own 3 (ints r)) := hoth b _ (hF3.le _ _ hat) fun n q e => by
        simp only [↓ez, ↓reduceIte, Nat.reduceEqDiff, f3] at e
        rcases hbuf with ⟨q1, _⟩ | ⟨b1, q1, q2, q3, _⟩
        · rw [q1] at e; cases e
        · rw [q1] at e; cases e
          rcases q2 with q2 | q2 <;> (rw [hF.new] at q2; cases q2)
      repeat first | refine sops_pv (by simp only [↓pw, ↓ez, ↓reduceIte, Nat.reduceEqDiff, binA, numA, ibin, unA, pz, Bool.not_true, Bool.not_false, f5]; rfl) ?_ | refine sops_nil ?_ | refine seqQ_normal ?_ | refine sok_region ?_
      refine sops_call (as := [.slice b 0 a.length a.length 1]) (by simp only [↓ez, ↓reduceIte, Nat.reduceEqDiff, f5]) (trim_ok h82 (Rd.ownN hat4 (by rw [ints_length]; exact hr)) (by omega)) fun x H5 hl5 hx => ?_
      repeat first | refine sops_pv (by simp only [↓pw, ↓ez, ↓reduceIte, Nat.reduceEqDiff, binA, numA, ibin, unA, pz, Bool.not_true, Bool.not_false]; rfl) ?_ | refine sops_nil ?_ | refine blkQ_normal ?_
      refine loopQ_normal (val (trimL r)).toNat ?_ ?_
      · rw [trim_val]; omega
      refine ⟨trimL r, ds ++ [48 + rn], rfl, by simp only [↓ez, ↓reduceIte, Nat.reduceEqDiff]; exact hx, can_trim hdr, by have := trimL_le r; omega, ?_, ?_, hle4.trans hl5⟩
      · simp only [↓ez, ↓reduceIte, Nat.reduceEqDiff]; rw [← bytes_append]; exact hb4.mono hl5
      · rw [← hds, digs_pos (n := (val a).toNat) (by omega), e1, e2, trim_val]; simp
  · have ha0 : a = [] := by
      have : ¬ (0 < a.length) := by simpa using hc
      exact List.length_eq_zero_iff.1 (by omega)
    subst ha0
    have hds' : ds = digs (val l).toNat := by rw [← hds, val_nil]; simp [digs_zero]
    repeat first | refine seqQ_normal ?_ | refine blkQ_hit ?_ | refine sok_exit ?_ | refine seqQ_exit ?_ | refine loopQ_exit ?_
    refine dec_tail hbuf hle (by rw [hds']; exact hdn) (by omega) ?_
    exact by simp only [↓ez, ↓reduceIte, Nat.reduceEqDiff]
end
end Go.RI
namespace Go.RI
open Fx
theorem sb_add (a b : List Nat) (h : a.length + b.length ≤ 1099511627776) : sbin .add a b = some (.str (a ++ b)) := by
  simp only [sbin]; rw [Nat.ble_eq_true_of_le h]
set_option exponentiation.threshold 10000 in
theorem dec_nu {H : Hp} {v : AV} {l : List Int} (h : Nu H v l) : (dec (val l).toNat).length ≤ 4096 := by
  refine dec_len ?_ (by decide)
  have h1 := (val_bound h.can.dig).2
  have h2 := pw_le h.len
  have h3 : (65536 : Int) ^ 256 = ((2 ^ 4096 : Nat) : Int) := by rw [Int.natCast_pow, show (65536 : Int) = 2 ^ 16 from rfl, ← Int.pow_mul]; rfl
  omega
theorem Rd.stored {H H' : Hp} {v : AV} {l : List Int} {b e : Nat} {z : List AV} {m : Mb} (h : Rd H 1 v (ints l)) (hb : H b = some (.own e z)) (hz : ∀ (i : Nat) (n : Int), z[i]? ≠ some (.int .i64 n)) (hS : Stored H b m H') : Rd H' 1 v (ints l) := by
  rcases h with h | ⟨b', o, n, cap, q1, q2, q3, ⟨m', q4⟩, q5⟩
  · exact .inl h
  · by_cases hbb : b' = b
    · subst hbb
      have h0 : ints l = [] := by
        cases l with
        | nil => rfl
        | cons x l =>
          have := q5 0 (.int .i64 x) rfl
          rw [rdH_own hb] at this
          exact absurd this (hz _ _)
      refine .inr ⟨b', o, n, cap, q1, q2, q3, ⟨m, hS.at'⟩, fun j x hj => by rw [h0] at hj; cases hj⟩
    · refine .inr ⟨b', o, n, cap, q1, q2, q3, ⟨m', by rw [hS.oth _ hbb]; exact q4⟩, fun j x hj => ?_⟩
      have := q5 j x hj
      unfold rdH at *; rw [hS.oth _ hbb]; exact this
theorem Rd.storedU {H H' : Hp} {v : AV} {l : List Int} {b e : Nat} {z : List AV} {m : Mb} (h : Rd H 1 v (u32s l)) (hb : H b = some (.own e z)) (hz : ∀ (i : Nat) (n : Int), z[i]? ≠ some (.int .u32 n)) (hS : Stored H b m H') : Rd H' 1 v (u32s l) := by
  rcases h with h | ⟨b', o, n, cap, q1, q2, q3, ⟨m', q4⟩, q5⟩
  · exact .inl h
  · by_cases hbb : b' = b
    · subst hbb
      have h0 : u32s l = [] := by
        cases l with
        | nil => rfl
        | cons x l =>
          have := q5 0 (.int .u32 x) rfl
          rw [rdH_own hb] at this
          exact absurd this (hz _ _)
      refine .inr ⟨b', o, n, cap, q1, q2, q3, ⟨m, hS.at'⟩, fun j x hj => by rw [h0] at hj; cases hj⟩
    · refine .inr ⟨b', o, n, cap, q1, q2, q3, ⟨m', by rw [hS.oth _ hbb]; exact q4⟩, fun j x hj => ?_⟩
      have := q5 j x hj
      unfold rdH at *; rw [hS.oth _ hbb]; exact this
structure TxtC (fs : Fns) (orc : Oracle) : Prop where
  h57 : Code fs orc 57 F57
  h58 : Code fs orc 58 F58
  h98 : Code fs orc 98 F98
  h99 : Code fs orc 99 F99
  h274 : Code fs orc 274 F274
  h220 : Code fs orc 220 F220
  h221 : Code fs orc 221 F221
  h275 : Code fs orc 275 F275
  h156 : Code fs orc 156 F156
  h81 : Code fs orc 81 F81
  h39 : Code fs orc 39 F39
  h18 : Code fs orc 18 F18
theorem fnQ_cell {fn : AFn} {P : AV → Hp → Prop} {H H' : Hp} {o : AOut} {g : Env} {t n b e : Nat} {c : List AV} (ho : o = .normal ∨ o = .ret) (hr : fn.results = [.cell t (some (n + 1))]) (hl : Le H H') (hv : g t = .ptr b 0) (hb : H' b = some (.own e c)) (hc : c.length = n + 1) (hp : P (.agg c) H') : fnQ fn H P o g H' :=
  ⟨ho, [.agg c], by rw [hr]; simp only [resG, hv, rdNH_own hb hc], hl, hp⟩
open Zs in
noncomputable def txtC : ACode := (q (q (r [Q 3 1 11,c 98 [11] 12,n 12 13]) (k 13 (r [M 3 14,A 2 1 15,L 15 16,c 57 [16] 17,B .add (s [114]) (t 17) 18,B .add (t 14) (t 18) 19,M 19 3]) .skip)) (q (r [M 3 20,M 20 2]) .ret))
section
variable {fs : Fns} {orc : Oracle} {H : Hp}
theorem sops_build {l : List AOper} {g : Env} {lo d : Nat} {Q : Env → Hp → Prop} {z : List AV} {ps : List (Nat × Nat × Rnd)} (c : List AV) (hc : fillG z g ps = some c) (k : SOps fs orc l (up g d (.agg c)) H lo Q) : SOps fs orc (⟨.build z ps, some d, none⟩ :: l) g H lo Q :=
  sops_pv (v := .agg c) (by simp only [pv_build, hc]) k
theorem isInt_ok (C : NumC fs orc) (T : TxtC fs orc) {neg : Bool} {vn vd : AV} {d : List Int} (hd : Nu H vd d) :
    CallS fs orc (.func (.func 98) [] []) [.agg [.bool neg, vn, vd]] H fun r _ => ∃ b, r = .bool b ∧ (b = true ↔ val d = 1) := by
  refine call_fn1 T.h98 fun lo g e0 => ?_
  repeat first | refine sok_seq ?_ | refine sok_region ?_
  refine sops_box [.bool neg, vn, vd] (by simp only [↓evG_t, e0, AV.cells]) fun b H1 hF => ?_
  have m1 := rdH_own hF.at'
  repeat first | refine sops_pv (by simp only [↓pw, ↓ez, ↓reduceIte, Nat.reduceEqDiff, binA, numA, ibin, unA, pz, Bool.not_true, Bool.not_false, m1]; rfl) ?_ | refine sops_nil ?_ | refine seqQ_normal ?_ | refine sok_seq ?_ | refine sok_region ?_
  refine sops_bs (ints [1]) rfl fun b2 H2 hF2 => ?_
  have hl := hd.len
  refine sops_call (as := [vd, .slice b2 0 1 1 1]) (by simp only [↓ez, ↓reduceIte, Nat.reduceEqDiff]) (cmp_ok C.h83 C.h42 (hd.rd.mono (hF.le.trans hF2.le)) (Rd.ownN hF2.at' rfl) (by omega) (by simp)) fun x H3 hl3 hx => ?_
  have h1 : Dig [1] := fun x hx => by simp only [List.mem_singleton] at hx; omega
  rw [cmp_val hd.can.dig h1 (Nat.le_max_left _ _) (Nat.le_max_right _ _), show val [1] = 1 from rfl] at hx
  subst hx
  repeat first | refine sops_pv (by simp only [↓pw, ↓ez, ↓reduceIte, Nat.reduceEqDiff, binA, numA, ibin, unA, pz, Bool.not_true, Bool.not_false]; rfl) ?_ | refine sops_nil ?_ | refine seqQ_normal ?_ | refine sok_ret ?_
  refine fnQ_tmp (.inr rfl) rfl ?_ (by simp only [↓ez, ↓reduceIte, Nat.reduceEqDiff]; rfl) ?_
  · exact (hF.le.trans hF2.le).trans hl3
  · refine ⟨_, rfl, ?_⟩
    have := (val_bound hd.can.dig).1
    by_cases c1 : val d < 1
    · rw [if_pos c1]; simp; omega
    · rw [if_neg c1]
      by_cases c2 : 1 < val d
      · rw [if_pos c2]; simp; omega
      · rw [if_neg c2]; simp; omega
theorem text_ok (C : NumC fs orc) (T : TxtC fs orc) {neg : Bool} {vn vd : AV} {n d : List Int} (hn : Nu H vn n) (hd : Nu H vd d) :
    CallS fs orc (.func (.func 274) [] []) [.agg [.bool neg, vn, vd]] H fun r _ => r = .str (numText neg (val n).toNat (val d).toNat) := by
  refine call_fn1 T.h274 fun lo g e0 => ?_
  repeat first | refine sok_seq ?_ | refine sok_region ?_
  refine sops_box [.bool neg, vn, vd] (by simp only [↓evG_t, e0, AV.cells]) fun b H1 hF => ?_
  have m1 := rdH_own hF.at'
  have l1 := dec_nu hn
  have l2 := dec_nu hd
  have hnl := hn.len
  have hdl := hd.len
  repeat first | refine sops_pv (by simp only [↓pw, ↓ez, ↓reduceIte, Nat.reduceEqDiff, binA, numA, ibin, unA, pz, Bool.not_true, Bool.not_false, m1]; rfl) ?_ | refine sops_nil ?_ | refine seqQ_normal ?_ | refine sok_seq ?_ | refine sok_region ?_
  refine sops_call (as := [vn]) (by simp only [↓ez, ↓reduceIte, Nat.reduceEqDiff]) (dec_ok C.h82 T.h57 (hn.rd.mono hF.le) hn.can (by omega)) fun x H2 hl2 hx => ?_
  subst hx
  have m2 := rdH_own (hl2 _ _ hF.at')
  have n2 := rdNH_own (n := 3) (hl2 _ _ hF.at') rfl
  repeat first | refine sops_pv (by simp only [↓pw, ↓ez, ↓reduceIte, Nat.reduceEqDiff, binA, numA, ibin, unA, pz, Bool.not_true, Bool.not_false, m2]; rfl) ?_ | refine sops_nil ?_ | refine seqQ_normal ?_ | refine sok_seq ?_ | refine sok_region ?_
  have rest : ∀ (g2 : Env) (s : List Nat), g2 1 = .ptr b 0 → g2 3 = .str s → s = (if neg then 45 :: dec (val n).toNat else dec (val n).toNat) → SOk fs orc txtC g2 H2 lo (fnQ F274 H fun r _ => r = .str (numText neg (val n).toNat (val d).toNat)) := by
    intro g2 s f1 f3 hs
    have hsl : s.length ≤ 4097 := by
      rw [hs]; split
      · rw [List.length_cons]; omega
      · omega
    unfold txtC
    repeat first | refine sops_pv (by simp only [↓pw, ↓ez, ↓reduceIte, Nat.reduceEqDiff, binA, numA, ibin, unA, pz, Bool.not_true, Bool.not_false, f1, n2]; rfl) ?_ | refine sok_seq ?_ | refine sok_region ?_
    refine sops_call (as := [.agg [.bool neg, vn, vd]]) (by simp only [↓ez, ↓reduceIte, Nat.reduceEqDiff]) (isInt_ok C T (hd.mono (hF.le.trans hl2))) fun x H3 hl3 hx => ?_
    obtain ⟨bb, rfl, hbb⟩ := hx
    have vb := (val_bound hd.can.dig).1
    have m3 := rdH_own (hl3 _ _ (hl2 _ _ hF.at'))
    rcases bb with _ | _
    · have hd1 : ¬ val d = 1 := fun e => by have := hbb.2 e; cases this
      repeat first | refine sops_pv (by simp only [↓pw, ↓ez, ↓reduceIte, Nat.reduceEqDiff, binA, numA, ibin, unA, pz, Bool.not_true, Bool.not_false]; rfl) ?_ | refine sops_nil ?_ | refine seqQ_normal ?_
      refine sok_condT ?_ ?_
      · exact by simp only [↓ez, ↓reduceIte, Nat.reduceEqDiff]
      repeat first | refine sops_pv (by simp only [↓pw, ↓ez, ↓reduceIte, Nat.reduceEqDiff, binA, numA, ibin, unA, pz, Bool.not_true, Bool.not_false, f1, f3, m3]; rfl) ?_ | refine sok_region ?_
      refine sops_call (as := [vd]) (by simp only [↓ez, ↓reduceIte, Nat.reduceEqDiff]) (dec_ok C.h82 T.h57 (hd.rd.mono ((hF.le.trans hl2).trans hl3)) hd.can (by omega)) fun x H4 hl4 hx => ?_
      subst hx
      have q1 := sb_add [114] (dec (val d).toNat) (by simp; omega)
      have q2 := sb_add s ([114] ++ dec (val d).toNat) (by simp; omega)
      repeat first | refine sops_pv (by simp only [↓pw, ↓ez, ↓reduceIte, Nat.reduceEqDiff, binA, numA, ibin, unA, pz, Bool.not_true, Bool.not_false, f3, ↓q1, ↓q2]; rfl) ?_ | refine sops_nil ?_ | refine seqQ_normal ?_ | refine sok_seq ?_ | refine sok_region ?_ | refine sok_ret ?_
      refine fnQ_tmp (.inr rfl) rfl ?_ (by simp only [↓ez, ↓reduceIte, Nat.reduceEqDiff]; rfl) ?_
      · exact ((hF.le.trans hl2).trans hl3).trans hl4
      · unfold numText; rw [if_neg (by omega), ← hs]; rfl
    · have hd1 : val d = 1 := hbb.1 rfl
      repeat first | refine sops_pv (by simp only [↓pw, ↓ez, ↓reduceIte, Nat.reduceEqDiff, binA, numA, ibin, unA, pz, Bool.not_true, Bool.not_false]; rfl) ?_ | refine sops_nil ?_ | refine seqQ_normal ?_
      refine sok_condF ?_ ?_
      · exact by simp only [↓ez, ↓reduceIte, Nat.reduceEqDiff]
      repeat first | refine sops_pv (by simp only [↓pw, ↓ez, ↓reduceIte, Nat.reduceEqDiff, binA, numA, ibin, unA, pz, Bool.not_true, Bool.not_false, f3]; rfl) ?_ | refine sops_nil ?_ | refine seqQ_normal ?_ | refine sok_seq ?_ | refine sok_region ?_ | refine sok_skip ?_ | refine sok_ret ?_
      refine fnQ_tmp (.inr rfl) rfl ?_ (by simp only [↓ez, ↓reduceIte, Nat.reduceEqDiff]; rfl) ?_
      · exact (hF.le.trans hl2).trans hl3
      · unfold numText; rw [if_pos (by omega), ← hs]
  cases neg with
  | true =>
    have q1 := sb_add [45] (dec (val n).toNat) (by simp; omega)
    refine sok_condT ?_ ?_
    · exact by simp only [↓ez, ↓reduceIte, Nat.reduceEqDiff]
    refine sok_region ?_
    refine sops_pv (by simp only [↓pw, ↓ez, ↓reduceIte, Nat.reduceEqDiff]; rfl) ?_
    refine sops_pv (v := .str ([45] ++ dec (val n).toNat)) (by simp only [↓pw, ↓ez, ↓reduceIte, Nat.reduceEqDiff, binA, numA, q1]) ?_
    refine sops_pv (by simp only [↓pw, ↓ez, ↓reduceIte, Nat.reduceEqDiff]; rfl) ?_
    refine sops_nil ?_
    repeat refine seqQ_normal ?_
    refine rest _ (45 :: dec (val n).toNat) ?_ ?_ rfl
    · exact by simp only [↓ez, ↓reduceIte, Nat.reduceEqDiff]
    · simp only [↓ez, ↓reduceIte, Nat.reduceEqDiff]; rfl
  | false =>
    refine sok_condF ?_ ?_
    · exact by simp only [↓ez, ↓reduceIte, Nat.reduceEqDiff]
    repeat first | refine sok_skip ?_ | refine seqQ_normal ?_
    refine rest _ (dec (val n).toNat) ?_ ?_ rfl
    · exact by simp only [↓ez, ↓reduceIte, Nat.reduceEqDiff]
    · exact by simp only [↓ez, ↓reduceIte, Nat.reduceEqDiff]
theorem of_ok (C : NumC fs orc) (T : TxtC fs orc) {neg : Bool} {vn vd : AV} {nu de : List Int} (h : NumAt H vn vd nu de) (hk : NumOk nu de) :
    CallS fs orc (.func (.func 99) [] []) [.agg [.bool neg, vn, vd]] H fun r H' => ∃ x y, r = .agg [.bool neg, x, y] ∧ Nu H' x (trimL (natL nu)) ∧ Nu H' y (trimL (natL de)) := by
  have k1 := hk.nl
  have k2 := hk.dl
  refine call_fn1 T.h99 fun lo g e0 => ?_
  repeat first | refine sok_seq ?_ | refine sok_region ?_
  refine sops_box [.bool neg, vn, vd] (by simp only [↓evG_t, e0, AV.cells]) fun b H1 hF => ?_
  refine sops_alloc fun b2 H2 hF2 => ?_
  have m1 := rdH_own (hF2.le _ _ hF.at')
  have h2 := h.mono (hF.le.trans hF2.le)
  repeat first | refine sops_pv (by simp only [↓pw, ↓ez, ↓reduceIte, Nat.reduceEqDiff, binA, numA, ibin, unA, pz, Bool.not_true, Bool.not_false, m1]; rfl) ?_ | refine sops_nil ?_ | refine seqQ_normal ?_ | refine sok_seq ?_ | refine sok_draw ?_ | refine sdr_load rfl fun _ _ => ?_ | refine sdr_step rfl fun _ _ => ?_ | refine sdr_call rfl (by decide) fun _ _ => ?_
  refine sops_call (as := [vn]) (by simp only [↓ez, ↓reduceIte, Nat.reduceEqDiff]) (natOf_ok C.h82 C.h41 h2.n h2.ln (by omega)) fun x H3 hl3 hx => ?_
  have nx := natOf_nu hx h2.ln (by omega)
  have m2 := rdH_own (hl3 _ _ (hF2.le _ _ hF.at'))
  repeat first | refine sops_pv (by simp only [↓pw, ↓ez, ↓reduceIte, Nat.reduceEqDiff, binA, numA, ibin, unA, pz, Bool.not_true, Bool.not_false, m2]; rfl) ?_ | refine sops_nil ?_ | refine sdr_load rfl fun _ _ => ?_ | refine sdr_step rfl fun _ _ => ?_ | refine sdr_call rfl (by decide) fun _ _ => ?_
  refine sops_call (as := [vd]) (by simp only [↓ez, ↓reduceIte, Nat.reduceEqDiff]) (natOf_ok C.h82 C.h41 (h2.d.mono hl3) h2.ld (by omega)) fun y H4 hl4 hy => ?_
  have ny := natOf_nu hy h2.ld (by omega)
  have nx := nx.mono hl4
  have c1 := AV.cells_one nx.rd.one
  have c2 := AV.cells_one ny.rd.one
  repeat first | refine sops_nil ?_ | refine sdr_step rfl fun _ _ => ?_
  refine sops_build [.bool neg, x, y] (by simp only [fillG, ↓ez, ↓reduceIte, Nat.reduceEqDiff, c1, c2]; rfl) ?_
  repeat refine sops_nil ?_
  refine sdr_store (b := b2) (off := 0) (e := 205) (r := z4) (by simp only [↓ez, ↓reduceIte, Nat.reduceEqDiff]) (hl4 _ _ (hl3 _ _ hF2.at')) hF2.lo (c := [.bool neg, x, y]) (by simp only [↓ez, ↓reduceIte, Nat.reduceEqDiff, AV.cells]) rfl (by simp only [allOne, nx.rd.one, ny.rd.one]; rfl) (by decide) fun H5 hS => ?_
  have hat := stored_full hS rfl
  have hle : Le H H5 := hS.le (((hF.le.trans hF2.le).trans hl3).trans hl4) (by
    cases e : H b2 with
    | none => rfl
    | some m => have := hF.le _ _ e; rw [hF2.new] at this; cases this)
  have hz : ∀ (i : Nat) (n : Int), z4[i]? ≠ some (.int .i64 n) := fun i n => by
    rcases i with _ | _ | _ | i <;> simp [z4]
  have h4 := hl4 _ _ (hl3 _ _ hF2.at')
  repeat first | refine seqQ_normal ?_ | refine sok_ret ?_ | refine sdr_nil ?_
  refine fnQ_cell (.inr rfl) rfl hle ?_ hat rfl ⟨x, y, rfl, ⟨nx.rd.stored h4 hz hS, nx.can, nx.len⟩, ⟨ny.rd.stored h4 hz hS, ny.can, ny.len⟩⟩
  exact by simp only [↓ez, ↓reduceIte, Nat.reduceEqDiff]
end
end Go.RI
