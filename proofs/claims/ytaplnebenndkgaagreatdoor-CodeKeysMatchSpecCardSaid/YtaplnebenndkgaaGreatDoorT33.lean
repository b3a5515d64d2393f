/- Rules for runs of the small language over a partly known heap, and what the functions on the way of the law compute. Conditions: none. -/
import Derived.Test.YtaplnebenndkgaaGreatDoorT32
set_option linter.all false
namespace Go.RI
open Fx
set_option maxRecDepth 4000
section
variable {fs : Fns} {orc : Oracle} {H : Hp}
theorem ieq_t {a b : Int} (h : a = b) : (a == b) = true := by subst h; simp
theorem ieq_f {a b : Int} (h : a ≠ b) : (a == b) = false := by rw [beq_eq_false_iff_ne]; exact h
theorem ine_t {a b : Int} (h : a ≠ b) : (a != b) = true := by simp [h]
theorem ine_f {a b : Int} (h : a = b) : (a != b) = false := by simp [h]
theorem fits_ok (K : KeyC fs orc) {kc c : List AV} {k1 k2 : Int} {name1 name2 : List Nat} {neg1 neg2 : Bool} {nu1 de1 nu2 de2 : List Int} {n1 n2 : Nat} (hk : KeyAt H kc k1 name1 neg1 nu1 de1 n1) (h : Root H c k2 name2 neg2 nu2 de2 n2)
    (l1 : nu1.length < 1000000) (l2 : nu2.length < 1000000) (l3 : de1.length < 1000000) (l4 : de2.length < 1000000) :
    CallS fs orc (.func (.func 9) [] []) [.agg kc, .agg c] H fun r _ => ∃ b, r = .bool b ∧ (b = true ↔ k1 = 0 ∨ k2 = 1 ∨ (k1 = k2 ∧ (neg1 = neg2 ∧ nu1 = nu2 ∧ de1 = de2) ∧ name1 = name2 ∧ n1 = n2)) := by
  obtain ⟨vn1, vd1, rfl, a1⟩ := hk.ex
  obtain ⟨var, vn2, vd2, va, fl, rfl, a2, hr, hn⟩ := h.ex
  refine call_fn2 K.h9 fun lo g e0 e1 => ?_
  repeat first | refine sok_seq ?_ | refine sok_region ?_
  refine sops_box [.int .i64 k1, .bool neg1, vn1, vd1, .str name1, .int .i64 (.ofNat n1)] (by simp only [↓evG_t, e0, AV.cells]) fun b1 H1 hF1 => ?_
  refine sops_box [.int .i64 k2, .int .i64 var, .str name2, .bool neg2, vn2, vd2, va] (by simp only [↓ez, ↓reduceIte, Nat.reduceEqDiff, e1, AV.cells]) fun b2 H2 hF2 => ?_
  have hat1 := hF2.le _ _ hF1.at'
  have hat2 := hF2.at'
  have hle := hF1.le.trans hF2.le
  have m1 := rdH_own hat1
  have m2 := rdH_own hat2
  have m3 := rdNH_sub hat1 1 3 [.bool neg1, vn1, vd1] rfl rfl
  have m4 := rdNH_sub hat2 3 3 [.bool neg2, vn2, vd2] rfl rfl
  repeat first | refine sops_pv (by simp only [↓pw, ↓ez, ↓reduceIte, Nat.reduceEqDiff, binA, numA, ibin, unA, pz, Bool.not_true, Bool.not_false, m1]; rfl) ?_ | refine sops_nil ?_ | refine seqQ_normal ?_ | refine sok_seq ?_ | refine sok_region ?_
  by_cases c0 : k1 = 0
  · have d0 : (k1 == Int.ofNat 0) = true := ieq_t c0
    repeat first | refine sops_pv (by simp only [↓pw, ↓ez, ↓reduceIte, Nat.reduceEqDiff, binA, numA, ibin, unA, pz, Bool.not_true, Bool.not_false, d0]; rfl) ?_ | refine sops_off (w' := true) ?_ rfl ?_; focus (simp only [↓ez, ↓reduceIte, Nat.reduceEqDiff, d0]; done) | refine sops_nil ?_ | refine seqQ_normal ?_
    refine sok_condT ?_ ?_
    · exact by simp only [↓ez, ↓reduceIte, Nat.reduceEqDiff, d0]
    repeat first | refine sops_pv (by simp only [↓pw, ↓ez, ↓reduceIte, Nat.reduceEqDiff, binA, numA, ibin, unA, pz, Bool.not_true, Bool.not_false]; rfl) ?_ | refine sops_nil ?_ | refine seqQ_normal ?_ | refine seqQ_ret ?_ | refine sok_seq ?_ | refine sok_region ?_ | refine sok_ret ?_
    refine fnQ_tmp (.inr rfl) rfl ?_ (by simp only [↓ez, ↓reduceIte, Nat.reduceEqDiff]; rfl) ?_
    · exact hle
    · exact ⟨true, rfl, fun _ => .inl c0, fun _ => rfl⟩
  have d0 : (k1 == Int.ofNat 0) = false := ieq_f c0
  repeat first | refine sops_pv (by simp only [↓pw, ↓ez, ↓reduceIte, Nat.reduceEqDiff, binA, numA, ibin, unA, pz, Bool.not_true, Bool.not_false, d0, m2]; rfl) ?_ | refine sops_on ?_ ?_; focus (simp only [↓ez, ↓reduceIte, Nat.reduceEqDiff, d0, m2]; done) | refine sops_nil ?_ | refine seqQ_normal ?_
  by_cases c1 : k2 = 1
  · have d1 : (k2 == Int.ofNat 1) = true := ieq_t c1
    refine sok_condT ?_ ?_
    · exact by simp only [↓ez, ↓reduceIte, Nat.reduceEqDiff, d0, d1]
    repeat first | refine sops_pv (by simp only [↓pw, ↓ez, ↓reduceIte, Nat.reduceEqDiff, binA, numA, ibin, unA, pz, Bool.not_true, Bool.not_false]; rfl) ?_ | refine sops_nil ?_ | refine seqQ_normal ?_ | refine seqQ_ret ?_ | refine sok_seq ?_ | refine sok_region ?_ | refine sok_ret ?_
    refine fnQ_tmp (.inr rfl) rfl ?_ (by simp only [↓ez, ↓reduceIte, Nat.reduceEqDiff]; rfl) ?_
    · exact hle
    · exact ⟨true, rfl, fun _ => .inr (.inl c1), fun _ => rfl⟩
  have d1 : (k2 == Int.ofNat 1) = false := ieq_f c1
  refine sok_condF ?_ ?_
  · exact by simp only [↓ez, ↓reduceIte, Nat.reduceEqDiff, d0, d1]
  repeat first | refine sops_pv (by simp only [↓pw, ↓ez, ↓reduceIte, Nat.reduceEqDiff, binA, numA, ibin, unA, pz, Bool.not_true, Bool.not_false, m1, m2]; rfl) ?_ | refine seqQ_normal ?_ | refine sok_seq ?_ | refine sok_region ?_ | refine sok_skip ?_
  by_cases c2 : k1 = k2
  · have d2 : (k1 == k2) = true := ieq_t c2
    repeat first | refine sops_pv (by simp only [↓pw, ↓ez, ↓reduceIte, Nat.reduceEqDiff, binA, numA, ibin, unA, pz, Bool.not_true, Bool.not_false, d2, m3, m4]; rfl) ?_ | refine sops_on ?_ ?_; focus (simp only [↓ez, ↓reduceIte, Nat.reduceEqDiff, d2, m3, m4]; done)
    refine sops_call (as := [.agg [.bool neg1, vn1, vd1], .agg [.bool neg2, vn2, vd2]]) (by simp only [↓ez, ↓reduceIte, Nat.reduceEqDiff]) (SameNumber_ok K (a1.mono hle) (a2.mono hle) l1 l2 l3 l4) fun x H3 hl3 hx => ?_
    obtain ⟨b, rfl, hb⟩ := hx
    have m5 := rdH_own (hl3 _ _ hat1)
    have m6 := rdH_own (hl3 _ _ hat2)
    rcases b with _ | _
    ·
      repeat first | refine sops_pv (by simp only [↓pw, ↓ez, ↓reduceIte, Nat.reduceEqDiff, binA, numA, ibin, unA, pz, Bool.not_true, Bool.not_false, d2]; rfl) ?_ | refine sops_off (w' := false) ?_ rfl ?_; focus (simp only [↓ez, ↓reduceIte, Nat.reduceEqDiff, d2]; done) | refine sops_nil ?_ | refine seqQ_normal ?_ | refine sok_ret ?_
      refine fnQ_tmp (.inr rfl) rfl ?_ (by simp only [↓ez, ↓reduceIte, Nat.reduceEqDiff, d2]; rfl) ?_
      · exact hle.trans hl3
      · refine ⟨false, rfl, fun h => (by cases h), fun h => ?_⟩
        rcases h with h | h | h
        · exact absurd h c0
        · exact absurd h c1
        · exact hb.2 h.2.1
    ·
      repeat first | refine sops_pv (by simp only [↓pw, ↓ez, ↓reduceIte, Nat.reduceEqDiff, binA, numA, ibin, unA, pz, Bool.not_true, Bool.not_false, d2, m5, m6, sbin]; rfl) ?_ | refine sops_on ?_ ?_; focus (simp only [↓ez, ↓reduceIte, Nat.reduceEqDiff, d2, m5, m6, sbin]; done)
      by_cases c3 : name1 = name2
      · have d3 : eqL name1 name2 = true := eqL_iff.2 c3
        repeat first | refine sops_pv (by simp only [↓pw, ↓ez, ↓reduceIte, Nat.reduceEqDiff, binA, numA, ibin, unA, pz, Bool.not_true, Bool.not_false, d2, d3, m5, m6]; rfl) ?_ | refine sops_on ?_ ?_; focus (simp only [↓ez, ↓reduceIte, Nat.reduceEqDiff, d2, d3, m5, m6]; done)
        refine sops_len (c := fl) n2 (by simp only [↓ez, ↓reduceIte, Nat.reduceEqDiff]; exact hr.mono (hle.trans hl3)) hn (by decide) ?_
        repeat first | refine sops_pv (by simp only [↓pw, ↓ez, ↓reduceIte, Nat.reduceEqDiff, binA, numA, ibin, unA, pz, Bool.not_true, Bool.not_false, d2, d3]; rfl) ?_ | refine sops_on ?_ ?_; focus (simp only [↓ez, ↓reduceIte, Nat.reduceEqDiff, d2, d3]; done) | refine sops_nil ?_ | refine seqQ_normal ?_ | refine sok_ret ?_
        refine fnQ_tmp (.inr rfl) rfl ?_ (by simp only [↓ez, ↓reduceIte, Nat.reduceEqDiff, d2, d3]; rfl) ?_
        · exact hle.trans hl3
        · refine ⟨_, rfl, fun h => .inr (.inr ⟨c2, hb.1 rfl, c3, ?_⟩), fun h => ?_⟩
          · have : Int.ofNat n1 = Int.ofNat n2 := by simpa using h
            simp only [Int.ofNat_eq_natCast] at this; omega
          · rcases h with h | h | h
            · exact absurd h c0
            · exact absurd h c1
            · rw [h.2.2.2]; simp
      · have d3 : eqL name1 name2 = false := by
          cases e : eqL name1 name2 with
          | false => rfl
          | true => exact absurd (eqL_iff.1 e) c3
        repeat first | refine sops_pv (by simp only [↓pw, ↓ez, ↓reduceIte, Nat.reduceEqDiff, binA, numA, ibin, unA, pz, Bool.not_true, Bool.not_false, d2, d3]; rfl) ?_ | refine sops_off (w' := false) ?_ rfl ?_; focus (simp only [↓ez, ↓reduceIte, Nat.reduceEqDiff, d2, d3]; done) | refine sops_nil ?_ | refine seqQ_normal ?_ | refine sok_ret ?_
        refine fnQ_tmp (.inr rfl) rfl ?_ (by simp only [↓ez, ↓reduceIte, Nat.reduceEqDiff, d2, d3]; rfl) ?_
        · exact hle.trans hl3
        · refine ⟨false, rfl, fun h => (by cases h), fun h => ?_⟩
          rcases h with h | h | h
          · exact absurd h c0
          · exact absurd h c1
          · exact absurd h.2.2.1 c3
  · have d2 : (k1 == k2) = false := ieq_f c2
    repeat first | refine sops_pv (by simp only [↓pw, ↓ez, ↓reduceIte, Nat.reduceEqDiff, binA, numA, ibin, unA, pz, Bool.not_true, Bool.not_false, d2]; rfl) ?_ | refine sops_off (w' := false) ?_ rfl ?_; focus (simp only [↓ez, ↓reduceIte, Nat.reduceEqDiff, d2]; done) | refine sops_nil ?_ | refine seqQ_normal ?_ | refine sok_ret ?_
    refine fnQ_tmp (.inr rfl) rfl ?_ (by simp only [↓ez, ↓reduceIte, Nat.reduceEqDiff, d2]; rfl) ?_
    · exact hle
    · refine ⟨false, rfl, fun h => (by cases h), fun h => ?_⟩
      rcases h with h | h | h
      · exact absurd h c0
      · exact absurd h c1
      · exact absurd h.1 c2
theorem rfits_ok (C : NumC fs orc) (T : TxtC fs orc) (K : KeyC fs orc) {kc c : List AV} {k1 k2 : Int} {name1 name2 : List Nat} {neg1 neg2 : Bool} {nu1 de1 nu2 de2 : List Int} {n1 n2 : Nat} (hk : KeyAt H kc k1 name1 neg1 nu1 de1 n1) (h : Root H c k2 name2 neg2 nu2 de2 n2)
    (o1 : k1 = 2 → NumOk nu1 de1) (o2 : k2 = 2 → NumOk nu2 de2) :
    CallS fs orc (.func (.func 8) [] []) [.agg kc, .agg c] H fun r _ => ∃ b, r = .bool b ∧ (b = true ↔ k1 = 0 ∨ k2 = 1 ∨ (k1 = k2 ∧ name1 = name2 ∧ n1 = n2 ∧ (k1 = 2 → (neg1 = neg2 ∧ nu1 = nu2 ∧ de1 = de2)))) := by
  obtain ⟨vn1, vd1, rfl, a1⟩ := hk.ex
  obtain ⟨var, vn2, vd2, va, fl, rfl, a2, hr, hn⟩ := h.ex
  refine call_fn2 K.h8 fun lo g e0 e1 => ?_
  repeat first | refine sok_seq ?_ | refine sok_region ?_
  refine sops_box [.int .i64 k1, .bool neg1, vn1, vd1, .str name1, .int .i64 (.ofNat n1)] (by simp only [↓evG_t, e0, AV.cells]) fun b1 H1 hF1 => ?_
  refine sops_box [.int .i64 k2, .int .i64 var, .str name2, .bool neg2, vn2, vd2, va] (by simp only [↓ez, ↓reduceIte, Nat.reduceEqDiff, e1, AV.cells]) fun b2 H2 hF2 => ?_
  have hat1 := hF2.le _ _ hF1.at'
  have hat2 := hF2.at'
  have hle := hF1.le.trans hF2.le
  have m1 := rdH_own hat1
  have m2 := rdH_own hat2
  have m3 := rdNH_sub hat1 1 3 [.bool neg1, vn1, vd1] rfl rfl
  have m4 := rdNH_sub hat2 3 3 [.bool neg2, vn2, vd2] rfl rfl
  have no : ∀ {P : Prop}, k1 ≠ 0 → k2 ≠ 1 → (k1 = k2 → name1 = name2 → n1 = n2 → P) → ¬ P → (false = true ↔ k1 = 0 ∨ k2 = 1 ∨ (k1 = k2 ∧ name1 = name2 ∧ n1 = n2 ∧ (k1 = 2 → (neg1 = neg2 ∧ nu1 = nu2 ∧ de1 = de2)))) := fun h0 h1 h2 h3 => by
    constructor
    · intro h; cases h
    · rintro (h | h | h)
      · exact absurd h h0
      · exact absurd h h1
      · exact absurd (h2 h.1 h.2.1 h.2.2.1) h3
  repeat first | refine sops_pv (by simp only [↓pw, ↓ez, ↓reduceIte, Nat.reduceEqDiff, binA, numA, ibin, unA, pz, Bool.not_true, Bool.not_false, m1]; rfl) ?_ | refine sops_nil ?_ | refine seqQ_normal ?_ | refine sok_seq ?_ | refine sok_region ?_
  by_cases c0 : k1 = 0
  · have d0 : (k1 == Int.ofNat 0) = true := ieq_t c0
    repeat first | refine sops_pv (by simp only [↓pw, ↓ez, ↓reduceIte, Nat.reduceEqDiff, binA, numA, ibin, unA, pz, Bool.not_true, Bool.not_false, d0]; rfl) ?_ | refine sops_off (w' := true) ?_ rfl ?_; focus (simp only [↓ez, ↓reduceIte, Nat.reduceEqDiff, d0]; done) | refine sops_nil ?_ | refine seqQ_normal ?_
    refine sok_condT ?_ ?_
    · exact by simp only [↓ez, ↓reduceIte, Nat.reduceEqDiff, d0]
    repeat first | refine sops_pv (by simp only [↓pw, ↓ez, ↓reduceIte, Nat.reduceEqDiff, binA, numA, ibin, unA, pz, Bool.not_true, Bool.not_false]; rfl) ?_ | refine sops_nil ?_ | refine seqQ_normal ?_ | refine seqQ_ret ?_ | refine sok_seq ?_ | refine sok_region ?_ | refine sok_ret ?_
    refine fnQ_tmp (.inr rfl) rfl ?_ (by simp only [↓ez, ↓reduceIte, Nat.reduceEqDiff]; rfl) ?_
    · exact hle
    · exact ⟨true, rfl, fun _ => .inl c0, fun _ => rfl⟩
  have d0 : (k1 == Int.ofNat 0) = false := ieq_f c0
  repeat first | refine sops_pv (by simp only [↓pw, ↓ez, ↓reduceIte, Nat.reduceEqDiff, binA, numA, ibin, unA, pz, Bool.not_true, Bool.not_false, d0, m2]; rfl) ?_ | refine sops_on ?_ ?_; focus (simp only [↓ez, ↓reduceIte, Nat.reduceEqDiff, d0, m2]; done) | refine sops_nil ?_ | refine seqQ_normal ?_
  by_cases c1 : k2 = 1
  · have d1 : (k2 == Int.ofNat 1) = true := ieq_t c1
    refine sok_condT ?_ ?_
    · exact by simp only [↓ez, ↓reduceIte, Nat.reduceEqDiff, d0, d1]
    repeat first | refine sops_pv (by simp only [↓pw, ↓ez, ↓reduceIte, Nat.reduceEqDiff, binA, numA, ibin, unA, pz, Bool.not_true, Bool.not_false]; rfl) ?_ | refine sops_nil ?_ | refine seqQ_normal ?_ | refine seqQ_ret ?_ | refine sok_seq ?_ | refine sok_region ?_ | refine sok_ret ?_
    refine fnQ_tmp (.inr rfl) rfl ?_ (by simp only [↓ez, ↓reduceIte, Nat.reduceEqDiff]; rfl) ?_
    · exact hle
    · exact ⟨true, rfl, fun _ => .inr (.inl c1), fun _ => rfl⟩
  have d1 : (k2 == Int.ofNat 1) = false := ieq_f c1
  refine sok_condF ?_ ?_
  · exact by simp only [↓ez, ↓reduceIte, Nat.reduceEqDiff, d0, d1]
  repeat first | refine sops_pv (by simp only [↓pw, ↓ez, ↓reduceIte, Nat.reduceEqDiff, binA, numA, ibin, unA, pz, Bool.not_true, Bool.not_false, m1, m2]; rfl) ?_ | refine seqQ_normal ?_ | refine sok_seq ?_ | refine sok_region ?_ | refine sok_skip ?_
  by_cases c2 : k1 = k2
  · have d2 : (k1 != k2) = false := ine_f c2
    repeat first | refine sops_pv (by simp only [↓pw, ↓ez, ↓reduceIte, Nat.reduceEqDiff, binA, numA, ibin, unA, pz, Bool.not_true, Bool.not_false, d2, m1, m2, sbin]; rfl) ?_ | refine sops_on ?_ ?_; focus (simp only [↓ez, ↓reduceIte, Nat.reduceEqDiff, d2, m1, m2, sbin]; done)
    by_cases c3 : name1 = name2
    · have d3 : eqL name1 name2 = true := eqL_iff.2 c3
      repeat first | refine sops_pv (by simp only [↓pw, ↓ez, ↓reduceIte, Nat.reduceEqDiff, binA, numA, ibin, unA, pz, Bool.not_true, Bool.not_false, d2, d3, Bool.not_true, m1, m2]; rfl) ?_ | refine sops_on ?_ ?_; focus (simp only [↓ez, ↓reduceIte, Nat.reduceEqDiff, d2, d3, Bool.not_true, m1, m2]; done)
      refine sops_len (c := fl) n2 (by simp only [↓ez, ↓reduceIte, Nat.reduceEqDiff]; exact hr.mono hle) hn (by decide) ?_
      by_cases c4 : n1 = n2
      · have d4 : (Int.ofNat n1 != Int.ofNat n2) = false := ine_f (by rw [c4])
        repeat first | refine sops_pv (by simp only [↓pw, ↓ez, ↓reduceIte, Nat.reduceEqDiff, binA, numA, ibin, unA, pz, Bool.not_true, Bool.not_false, d2, d3, d4, Bool.not_true]; rfl) ?_ | refine sops_on ?_ ?_; focus (simp only [↓ez, ↓reduceIte, Nat.reduceEqDiff, d2, d3, d4, Bool.not_true]; done) | refine sops_nil ?_ | refine seqQ_normal ?_
        refine sok_condF ?_ ?_
        · exact by simp only [↓ez, ↓reduceIte, Nat.reduceEqDiff, d2, d3, d4, Bool.not_true]
        repeat first | refine sops_pv (by simp only [↓pw, ↓ez, ↓reduceIte, Nat.reduceEqDiff, binA, numA, ibin, unA, pz, Bool.not_true, Bool.not_false, m1]; rfl) ?_ | refine seqQ_normal ?_ | refine sok_seq ?_ | refine sok_region ?_ | refine sok_skip ?_
        by_cases c5 : k1 = 2
        · have d5 : (k1 != Int.ofNat 2) = false := ine_f c5
          repeat first | refine sops_pv (by simp only [↓pw, ↓ez, ↓reduceIte, Nat.reduceEqDiff, binA, numA, ibin, unA, pz, Bool.not_true, Bool.not_false, d5, m3, m4]; rfl) ?_ | refine sops_on ?_ ?_; focus (simp only [↓ez, ↓reduceIte, Nat.reduceEqDiff, d5, m3, m4]; done)
          refine sops_call (as := [.agg [.bool neg1, vn1, vd1], .agg [.bool neg2, vn2, vd2]]) (by simp only [↓ez, ↓reduceIte, Nat.reduceEqDiff]) (sameNumber_ok C T (a1.mono hle) (a2.mono hle) (o1 c5) (o2 (c2 ▸ c5))) fun x H3 hl3 hx => ?_
          obtain ⟨b, rfl, hb⟩ := hx
          repeat first | refine sops_pv (by simp only [↓pw, ↓ez, ↓reduceIte, Nat.reduceEqDiff, binA, numA, ibin, unA, pz, Bool.not_true, Bool.not_false, d5]; rfl) ?_ | refine sops_nil ?_ | refine seqQ_normal ?_ | refine sok_ret ?_
          refine fnQ_tmp (.inr rfl) rfl ?_ (by simp only [↓ez, ↓reduceIte, Nat.reduceEqDiff, d5]; rfl) ?_
          · exact hle.trans hl3
          · refine ⟨b, rfl, fun h => .inr (.inr ⟨c2, c3, c4, fun _ => hb.1 h⟩), fun h => ?_⟩
            rcases h with h | h | h
            · exact absurd h c0
            · exact absurd h c1
            · exact hb.2 (h.2.2.2 c5)
        · have d5 : (k1 != Int.ofNat 2) = true := ine_t c5
          repeat first | refine sops_pv (by simp only [↓pw, ↓ez, ↓reduceIte, Nat.reduceEqDiff, binA, numA, ibin, unA, pz, Bool.not_true, Bool.not_false, d5]; rfl) ?_ | refine sops_off (w' := true) ?_ rfl ?_; focus (simp only [↓ez, ↓reduceIte, Nat.reduceEqDiff, d5]; done) | refine sops_nil ?_ | refine seqQ_normal ?_ | refine sok_ret ?_
          refine fnQ_tmp (.inr rfl) rfl ?_ (by simp only [↓ez, ↓reduceIte, Nat.reduceEqDiff, d5]; rfl) ?_
          · exact hle
          · exact ⟨true, rfl, fun _ => .inr (.inr ⟨c2, c3, c4, fun h => absurd h c5⟩), fun _ => rfl⟩
      · have d4 : (Int.ofNat n1 != Int.ofNat n2) = true := ine_t (by simp only [Int.ofNat_eq_natCast]; omega)
        repeat first | refine sops_pv (by simp only [↓pw, ↓ez, ↓reduceIte, Nat.reduceEqDiff, binA, numA, ibin, unA, pz, Bool.not_true, Bool.not_false, d2, d3, d4, Bool.not_true]; rfl) ?_ | refine sops_on ?_ ?_; focus (simp only [↓ez, ↓reduceIte, Nat.reduceEqDiff, d2, d3, d4, Bool.not_true]; done) | refine sops_nil ?_ | refine seqQ_normal ?_
        refine sok_condT ?_ ?_
        · exact by simp only [↓ez, ↓reduceIte, Nat.reduceEqDiff, d2, d3, d4, Bool.not_true]
        repeat first | refine sops_pv (by simp only [↓pw, ↓ez, ↓reduceIte, Nat.reduceEqDiff, binA, numA, ibin, unA, pz, Bool.not_true, Bool.not_false]; rfl) ?_ | refine sops_nil ?_ | refine seqQ_normal ?_ | refine seqQ_ret ?_ | refine sok_seq ?_ | refine sok_region ?_ | refine sok_ret ?_
        refine fnQ_tmp (.inr rfl) rfl ?_ (by simp only [↓ez, ↓reduceIte, Nat.reduceEqDiff]; rfl) ?_
        · exact hle
        · exact ⟨false, rfl, no c0 c1 (fun _ _ h => h) c4⟩
    · have d3 : eqL name1 name2 = false := by
        cases e : eqL name1 name2 with
        | false => rfl
        | true => exact absurd (eqL_iff.1 e) c3
      repeat first | refine sops_pv (by simp only [↓pw, ↓ez, ↓reduceIte, Nat.reduceEqDiff, binA, numA, ibin, unA, pz, Bool.not_true, Bool.not_false, d2, d3, Bool.not_false]; rfl) ?_ | refine sops_off (w' := true) ?_ rfl ?_; focus (simp only [↓ez, ↓reduceIte, Nat.reduceEqDiff, d2, d3, Bool.not_false]; done) | refine sops_nil ?_ | refine seqQ_normal ?_
      refine sok_condT ?_ ?_
      · exact by simp only [↓ez, ↓reduceIte, Nat.reduceEqDiff, d2, d3, Bool.not_false]
      repeat first | refine sops_pv (by simp only [↓pw, ↓ez, ↓reduceIte, Nat.reduceEqDiff, binA, numA, ibin, unA, pz, Bool.not_true, Bool.not_false]; rfl) ?_ | refine sops_nil ?_ | refine seqQ_normal ?_ | refine seqQ_ret ?_ | refine sok_seq ?_ | refine sok_region ?_ | refine sok_ret ?_
      refine fnQ_tmp (.inr rfl) rfl ?_ (by simp only [↓ez, ↓reduceIte, Nat.reduceEqDiff]; rfl) ?_
      · exact hle
      · exact ⟨false, rfl, no c0 c1 (fun _ h _ => h) c3⟩
  · have d2 : (k1 != k2) = true := ine_t c2
    repeat first | refine sops_pv (by simp only [↓pw, ↓ez, ↓reduceIte, Nat.reduceEqDiff, binA, numA, ibin, unA, pz, Bool.not_true, Bool.not_false, d2]; rfl) ?_ | refine sops_off (w' := true) ?_ rfl ?_; focus (simp only [↓ez, ↓reduceIte, Nat.reduceEqDiff, d2]; done) | refine sops_nil ?_ | refine seqQ_normal ?_
    refine sok_condT ?_ ?_
    · exact by simp only [↓ez, ↓reduceIte, Nat.reduceEqDiff, d2]
    repeat first | refine sops_pv (by simp only [↓pw, ↓ez, ↓reduceIte, Nat.reduceEqDiff, binA, numA, ibin, unA, pz, Bool.not_true, Bool.not_false]; rfl) ?_ | refine sops_nil ?_ | refine seqQ_normal ?_ | refine seqQ_ret ?_ | refine sok_seq ?_ | refine sok_region ?_ | refine sok_ret ?_
    refine fnQ_tmp (.inr rfl) rfl ?_ (by simp only [↓ez, ↓reduceIte, Nat.reduceEqDiff]; rfl) ?_
    · exact hle
    · exact ⟨false, rfl, no c0 c1 (fun h _ _ => h) c2⟩
end
end Go.RI
namespace Go.RI
open Fx
set_option maxRecDepth 10000
section
variable {fs : Fns} {orc : Oracle} {H : Hp}
theorem KeyOfR.ex {H : Hp} {r : AV} {k : Int} {name : List Nat} {neg : Bool} {nu de : List Int} {n : Nat} (h : KeyOfR H r k name neg nu de n) :
    ∃ c, r = .agg c ∧ KeyAt H c (if k = 1 then 0 else k) (if k = 1 then [] else name) (if k = 1 then false else neg) (if k = 1 then [] else nu) (if k = 1 then [] else de) (if k = 1 then 0 else n) := by
  obtain ⟨c, h1, h2⟩ := h
  refine ⟨c, h1, ?_⟩
  rcases h2 with ⟨h2, h3⟩ | ⟨h2, h3⟩
  · simp only [if_pos h2]; exact h3
  · simp only [if_neg h2]; exact h3
structure Val (H : Hp) (c : List AV) (k : Int) (name : List Nat) (neg : Bool) (nu de : List Int) (n : Nat) : Prop where
  root : Root H c k name neg nu de n
  ok : NodeOk k neg nu de
theorem Val.of {H : Hp} {c : List AV} (h : TermAt H c) (hr : RootOk H c) : ∃ k name neg nu de n, Val H c k name neg nu de n := by
  obtain ⟨k, var, name, neg, vn, vd, va, nu, de, rfl, hn, ho⟩ := hr
  cases h with
  | mk _ _ _ _ _ _ _ nu' de' args hn' ha hs =>
    exact ⟨k, name, neg, nu, de, args.length, ⟨⟨var, vn, vd, va, args.flatten, rfl, hn, ha, flat_len fun c hc => (hs c hc).len⟩, ho⟩⟩
theorem Val.nl {H : Hp} {c : List AV} {k : Int} {name : List Nat} {neg : Bool} {nu de : List Int} {n : Nat} (h : Val H c k name neg nu de n) : nu.length < 1000000 ∧ de.length < 1000000 := by
  by_cases hk : k = 2
  · have := h.ok.num hk; have := this.nl; have := (h.ok.num hk).dl; omega
  · obtain ⟨_, rfl, rfl⟩ := h.ok.none hk; simp
def FC (k1 : Int) (name1 : List Nat) (neg1 : Bool) (nu1 de1 : List Int) (n1 : Nat) (k2 : Int) (name2 : List Nat) (neg2 : Bool) (nu2 de2 : List Int) (n2 : Nat) : Prop :=
  k1 = 1 ∨ k2 = 1 ∨ (k1 = k2 ∧ (neg1 = neg2 ∧ nu1 = nu2 ∧ de1 = de2) ∧ name1 = name2 ∧ n1 = n2)
theorem fc_code {k1 k2 : Int} {name1 name2 : List Nat} {neg1 neg2 : Bool} {nu1 de1 nu2 de2 : List Int} {n1 n2 : Nat} (h1 : 1 ≤ k1) :
    ((if k1 = 1 then 0 else k1) = 0 ∨ k2 = 1 ∨ ((if k1 = 1 then 0 else k1) = k2 ∧ ((if k1 = 1 then false else neg1) = neg2 ∧ (if k1 = 1 then [] else nu1) = nu2 ∧ (if k1 = 1 then [] else de1) = de2) ∧ (if k1 = 1 then [] else name1) = name2 ∧ (if k1 = 1 then 0 else n1) = n2)) ↔
      FC k1 name1 neg1 nu1 de1 n1 k2 name2 neg2 nu2 de2 n2 := by
  unfold FC
  by_cases h : k1 = 1
  · simp only [if_pos h]; simp [h]
  · simp only [if_neg h]
    constructor
    · rintro (q | q)
      · omega
      · exact .inr q
    · rintro (q | q)
      · exact absurd q h
      · exact .inr q
theorem fc_ref {k1 k2 : Int} {name1 name2 : List Nat} {neg1 neg2 : Bool} {nu1 de1 nu2 de2 : List Int} {n1 n2 : Nat} (h1 : NodeOk k1 neg1 nu1 de1) (h2 : NodeOk k2 neg2 nu2 de2) :
    ((if k1 = 1 then 0 else k1) = 0 ∨ k2 = 1 ∨ ((if k1 = 1 then 0 else k1) = k2 ∧ (if k1 = 1 then [] else name1) = name2 ∧ (if k1 = 1 then 0 else n1) = n2 ∧ ((if k1 = 1 then 0 else k1) = 2 → ((if k1 = 1 then false else neg1) = neg2 ∧ (if k1 = 1 then [] else nu1) = nu2 ∧ (if k1 = 1 then [] else de1) = de2)))) ↔
      FC k1 name1 neg1 nu1 de1 n1 k2 name2 neg2 nu2 de2 n2 := by
  unfold FC
  have l1 := h1.lo
  by_cases h : k1 = 1
  · simp only [if_pos h]; simp [h]
  · simp only [if_neg h]
    constructor
    · rintro (q | q | ⟨q1, q2, q3, q4⟩)
      · omega
      · exact .inr (.inl q)
      · refine .inr (.inr ⟨q1, ?_, q2, q3⟩)
        by_cases hk : k1 = 2
        · exact q4 hk
        · obtain ⟨a1, a2, a3⟩ := h1.none hk
          obtain ⟨b1, b2, b3⟩ := h2.none (q1 ▸ hk)
          exact ⟨by rw [a1, b1], by rw [a2, b2], by rw [a3, b3]⟩
    · rintro (q | q | ⟨q1, q2, q3, q4⟩)
      · exact absurd q h
      · exact .inr (.inl q)
      · exact .inr (.inr ⟨q1, q3, q4, fun _ => q2⟩)
theorem fc_symm {k1 k2 : Int} {name1 name2 : List Nat} {neg1 neg2 : Bool} {nu1 de1 nu2 de2 : List Int} {n1 n2 : Nat} : FC k1 name1 neg1 nu1 de1 n1 k2 name2 neg2 nu2 de2 n2 ↔ FC k2 name2 neg2 nu2 de2 n2 k1 name1 neg1 nu1 de1 n1 := by
  unfold FC
  constructor <;> rintro (q | q | ⟨q1, ⟨q2, q3, q4⟩, q5, q6⟩)
  · exact .inr (.inl q)
  · exact .inl q
  · exact .inr (.inr ⟨q1.symm, ⟨q2.symm, q3.symm, q4.symm⟩, q5.symm, q6.symm⟩)
  · exact .inr (.inl q)
  · exact .inl q
  · exact .inr (.inr ⟨q1.symm, ⟨q2.symm, q3.symm, q4.symm⟩, q5.symm, q6.symm⟩)
theorem bool_eq {a b : Bool} {P : Prop} (ha : a = true ↔ P) (hb : b = true ↔ P) : (a == b) = true := by
  cases a <;> cases b <;> simp_all
theorem law_ok (C : NumC fs orc) (T : TxtC fs orc) (K : KeyC fs orc) (hc : Code fs orc 3 F3) {Hg : Hp} (hcomp : ∀ H', Le Hg H' → CallS fs orc (.func (.func 5) [] []) [] H' fun r _ => r = .bool true) (hg : Le Hg H)
    {ct cu : List AV} (ht : TermAt H ct) (hu : TermAt H cu) : CallS fs orc (.func (.func 3) [] []) [.agg ct, .agg cu] H fun r _ => r = .bool true := by
  refine call_fn2 hc fun lo g e0 e1 => ?_
  repeat first | refine sok_seq ?_ | refine sok_region ?_
  refine sops_box ct (by simp only [↓evG_t, e0, AV.cells]) fun b1 H1 hF1 => ?_
  refine sops_box cu (by simp only [↓ez, ↓reduceIte, Nat.reduceEqDiff, e1, AV.cells]) fun b2 H2 hF2 => ?_
  have hle := hF1.le.trans hF2.le
  have t2 := rdNH_own (n := 7) (hF2.le _ _ hF1.at') ht.len
  have u2 := rdNH_own (n := 7) hF2.at' hu.len
  repeat first | refine sops_pv (by simp only [↓pw, ↓ez, ↓reduceIte, Nat.reduceEqDiff, binA, numA, ibin, unA, pz, Bool.not_true, Bool.not_false, t2]; rfl) ?_ | refine sops_nil ?_ | refine seqQ_normal ?_ | refine sok_seq ?_ | refine sok_region ?_
  refine sops_call (as := [.agg ct]) (by simp only [↓ez, ↓reduceIte, Nat.reduceEqDiff]) (fault_ok C (ht.mono hle)) fun x H3 hl3 hx => ?_
  obtain ⟨e, rfl, hrt⟩ := hx
  have hle3 := hle.trans hl3
  have hat1 := hl3 _ _ (hF2.le _ _ hF1.at')
  have hat2 := hl3 _ _ hF2.at'
  repeat (refine sops_pv (by simp only [↓pw, ↓ez, ↓reduceIte, Nat.reduceEqDiff, binA, numA, ibin, unA, pz, Bool.not_true, Bool.not_false]; rfl) ?_)
  by_cases h0 : e = 0
  rotate_left
  · have d0 : (Int.ofNat e != Int.ofNat 0) = true := ine_t (by simp only [Int.ofNat_eq_natCast]; omega)
    repeat first | refine sops_pv (by simp only [↓pw, ↓ez, ↓reduceIte, Nat.reduceEqDiff, binA, numA, ibin, unA, pz, Bool.not_true, Bool.not_false, d0]; rfl) ?_ | refine sops_off (w' := true) ?_ rfl ?_; focus (simp only [↓ez, ↓reduceIte, Nat.reduceEqDiff, d0]; done) | refine sops_nil ?_ | refine seqQ_normal ?_
    refine sok_condT ?_ ?_
    · exact by simp only [↓ez, ↓reduceIte, Nat.reduceEqDiff, d0]
    repeat first | refine sok_seq ?_ | refine sok_region ?_
    refine sops_call (as := []) (by simp only [↓ez, ↓reduceIte, Nat.reduceEqDiff]) (hcomp H3 (hg.trans hle3)) fun x H4 hl4 hx => ?_
    subst hx
    repeat first | refine sops_pv (by simp only [↓pw, ↓ez, ↓reduceIte, Nat.reduceEqDiff, binA, numA, ibin, unA, pz, Bool.not_true, Bool.not_false]; rfl) ?_ | refine sops_nil ?_ | refine seqQ_normal ?_ | refine seqQ_ret ?_ | refine sok_ret ?_
    refine fnQ_tmp (.inr rfl) rfl ?_ (by simp only [↓ez, ↓reduceIte, Nat.reduceEqDiff]; rfl) ?_
    · exact hle3.trans hl4
    · rfl
  have d0 : (Int.ofNat e != Int.ofNat 0) = false := ine_f (by rw [h0])
  have u3 := rdNH_own (n := 7) hat2 hu.len
  repeat first | refine sops_pv (by simp only [↓pw, ↓ez, ↓reduceIte, Nat.reduceEqDiff, binA, numA, ibin, unA, pz, Bool.not_true, Bool.not_false, d0, u3]; rfl) ?_ | refine sops_on ?_ ?_; focus (simp only [↓ez, ↓reduceIte, Nat.reduceEqDiff, d0, u3]; done)
  refine sops_call (as := [.agg cu]) (by simp only [↓ez, ↓reduceIte, Nat.reduceEqDiff]) (fault_ok C (hu.mono hle3)) fun x H4 hl4 hx => ?_
  obtain ⟨e', rfl, hru⟩ := hx
  have hle4 := hle3.trans hl4
  have hat1 := hl4 _ _ hat1
  have hat2 := hl4 _ _ hat2
  repeat first | refine sops_pv (by simp only [↓pw, ↓ez, ↓reduceIte, Nat.reduceEqDiff, binA, numA, ibin, unA, pz, Bool.not_true, Bool.not_false, d0]; rfl) ?_ | refine sops_on ?_ ?_; focus (simp only [↓ez, ↓reduceIte, Nat.reduceEqDiff, d0]; done) | refine sops_nil ?_ | refine seqQ_normal ?_
  by_cases h1 : e' = 0
  rotate_left
  · have d1 : (Int.ofNat e' != Int.ofNat 0) = true := ine_t (by simp only [Int.ofNat_eq_natCast]; omega)
    refine sok_condT ?_ ?_
    · exact by simp only [↓ez, ↓reduceIte, Nat.reduceEqDiff, d0, d1]
    repeat first | refine sok_seq ?_ | refine sok_region ?_
    refine sops_call (as := []) (by simp only [↓ez, ↓reduceIte, Nat.reduceEqDiff]) (hcomp H4 (hg.trans hle4)) fun x H5 hl5 hx => ?_
    subst hx
    repeat first | refine sops_pv (by simp only [↓pw, ↓ez, ↓reduceIte, Nat.reduceEqDiff, binA, numA, ibin, unA, pz, Bool.not_true, Bool.not_false]; rfl) ?_ | refine sops_nil ?_ | refine seqQ_normal ?_ | refine seqQ_ret ?_ | refine sok_ret ?_
    refine fnQ_tmp (.inr rfl) rfl ?_ (by simp only [↓ez, ↓reduceIte, Nat.reduceEqDiff]; rfl) ?_
    · exact hle4.trans hl5
    · rfl
  have d1 : (Int.ofNat e' != Int.ofNat 0) = false := ine_f (by rw [h1])
  refine sok_condF ?_ ?_
  · exact by simp only [↓ez, ↓reduceIte, Nat.reduceEqDiff, d0, d1]
  obtain ⟨k1, name1, neg1, nu1, de1, n1, V1⟩ := Val.of ((ht.mono hle).mono (hl3.trans hl4)) (by obtain ⟨a, b, c, d, e, f, g, h, i, j, k, l⟩ := hrt h0; exact ⟨a, b, c, d, e, f, g, h, i, j, k.mono (hl3.trans hl4), l⟩)
  obtain ⟨k2, name2, neg2, nu2, de2, n2, V2⟩ := Val.of ((hu.mono hle3).mono hl4) (by obtain ⟨a, b, c, d, e, f, g, h, i, j, k, l⟩ := hru h1; exact ⟨a, b, c, d, e, f, g, h, i, j, k.mono hl4, l⟩)
  have vl1 := V1.nl
  have vl2 := V2.nl
  have t4 := rdNH_own (n := 7) hat1 ht.len
  repeat first | refine sops_pv (by simp only [↓pw, ↓ez, ↓reduceIte, Nat.reduceEqDiff, binA, numA, ibin, unA, pz, Bool.not_true, Bool.not_false, t4]; rfl) ?_ | refine seqQ_normal ?_ | refine sok_seq ?_ | refine sok_region ?_ | refine sok_skip ?_
  refine sops_call (as := [.agg ct]) (by simp only [↓ez, ↓reduceIte, Nat.reduceEqDiff]) (key_ok K V1.root vl1.1 vl1.2) fun x H5 hl5 hx => ?_
  obtain ⟨kc, rfl, hk⟩ := hx.ex
  refine sops_alloc fun b5 H6 hF6 => ?_
  refine sops_store (b := b5) (off := 0) (e := 32) (r := z0) (c := kc) (by simp only [↓ez, ↓reduceIte, Nat.reduceEqDiff]) hF6.at' hF6.lo (by simp only [↓ez, ↓reduceIte, Nat.reduceEqDiff, AV.cells]) hk.len hk.one (by decide) fun H7 hS7 => ?_
  have hat5 := stored_full hS7 rfl
  have hl57 : Le H5 H7 := hS7.le hF6.le hF6.new
  have hl7 := hl5.trans hl57
  have hle7 := hle4.trans hl7
  have hk := hk.mono hl57
  have t7 := rdNH_own (n := 7) (hl7 _ _ hat1) ht.len
  repeat first | refine sops_pv (by simp only [↓pw, ↓ez, ↓reduceIte, Nat.reduceEqDiff, binA, numA, ibin, unA, pz, Bool.not_true, Bool.not_false, t7]; rfl) ?_ | refine sops_nil ?_ | refine seqQ_normal ?_ | refine sok_seq ?_ | refine sok_region ?_
  refine sops_call (as := [.agg ct]) (by simp only [↓ez, ↓reduceIte, Nat.reduceEqDiff]) (rkey_ok K (V1.root.mono hl7)) fun x H8 hl8 hx => ?_
  obtain ⟨wc, rfl, hw⟩ := hx.ex
  refine sops_alloc fun b6 H9 hF9 => ?_
  refine sops_store (b := b6) (off := 0) (e := 32) (r := z0) (c := wc) (by simp only [↓ez, ↓reduceIte, Nat.reduceEqDiff]) hF9.at' hF9.lo (by simp only [↓ez, ↓reduceIte, Nat.reduceEqDiff, AV.cells]) hw.len hw.one (by decide) fun HA hSA => ?_
  have hat6 := stored_full hSA rfl
  have hl8A : Le H8 HA := hSA.le hF9.le hF9.new
  have hl7A := hl8.trans hl8A
  have hl4A := hl7.trans hl7A
  have hleA := hle7.trans hl7A
  have hk := hk.mono hl7A
  have hw := hw.mono hl8A
  have hat5 := hl7A _ _ hat5
  have hat1 := hl4A _ _ hat1
  have hat2 := hl4A _ _ hat2
  obtain ⟨kvn, kvd, rfl, ka⟩ := hk.ex
  obtain ⟨wvn, wvd, rfl, wa⟩ := hw.ex
  have r1 := V1.root.mono hl4A
  have r2 := V2.root.mono hl4A
  have l1 : (if k1 = 1 then [] else nu1).length < 1000000 := by
    split
    · decide
    · exact vl1.1
  have l2 : (if k1 = 1 then [] else de1).length < 1000000 := by
    split
    · decide
    · exact vl1.2
  have o1 : (if k1 = 1 then 0 else k1) = 2 → NumOk (if k1 = 1 then [] else nu1) (if k1 = 1 then [] else de1) := by
    by_cases h : k1 = 1
    · rw [if_pos h]; intro q; cases q
    · simp only [if_neg h]; exact V1.ok.num
  have fk := @fc_code k1 k2 name1 name2 neg1 neg2 nu1 de1 nu2 de2 n1 n2 V1.ok.lo
  have fr := @fc_ref k1 k2 name1 name2 neg1 neg2 nu1 de1 nu2 de2 n1 n2 V1.ok V2.ok
  have frt := @fc_ref k1 k1 name1 name1 neg1 neg1 nu1 de1 nu1 de1 n1 n1 V1.ok V1.ok
  have hself : FC k1 name1 neg1 nu1 de1 n1 k1 name1 neg1 nu1 de1 n1 := .inr (.inr ⟨rfl, ⟨rfl, rfl, rfl⟩, rfl, rfl⟩)
  generalize (if k1 = 1 then 0 else k1) = kk at *
  generalize (if k1 = 1 then ([] : List Nat) else name1) = kname at *
  generalize (if k1 = 1 then false else neg1) = kneg at *
  generalize (if k1 = 1 then ([] : List Int) else nu1) = knu at *
  generalize (if k1 = 1 then ([] : List Int) else de1) = kde at *
  generalize (if k1 = 1 then 0 else n1) = kn at *
  have m5 := rdH_own hat5
  have m6 := rdH_own hat6
  have q1 : (kk != kk) = false := ine_f rfl
  have q2 : eqL kname kname = true := eqL_iff.2 rfl
  have q3 : (Int.ofNat kn != Int.ofNat kn) = false := ine_f rfl
  have s5 := rdNH_own (n := 6) hat5 rfl
  have tA := rdNH_own (n := 7) hat1 ht.len
  repeat first | refine sops_pv (by simp only [↓pw, ↓ez, ↓reduceIte, Nat.reduceEqDiff, binA, numA, ibin, unA, pz, Bool.not_true, Bool.not_false, m5, m6, q1, q2, q3, sbin, Bool.not_true, s5, tA]; rfl) ?_ | refine sops_on ?_ ?_; focus (simp only [↓ez, ↓reduceIte, Nat.reduceEqDiff, m5, m6, q1, q2, q3, sbin, Bool.not_true, s5, tA]; done) | refine sops_nil ?_ | refine seqQ_normal ?_ | refine sok_seq ?_ | refine sok_region ?_
  refine sops_call (as := [.agg [.int .i64 kk, .bool kneg, kvn, kvd, .str kname, .int .i64 (.ofNat kn)], .agg ct]) (by simp only [↓ez, ↓reduceIte, Nat.reduceEqDiff]) (rfits_ok C T K hk r1 o1 V1.ok.num) fun x HB hlB hx => ?_
  obtain ⟨b, rfl, hb⟩ := hx
  have hbt : b = true := hb.2 (frt.2 hself)
  subst hbt
  have m5 := rdH_own (hlB _ _ hat5)
  have m6 := rdH_own (hlB _ _ hat6)
  have ka := ka.mono hlB
  have wa := wa.mono hlB
  repeat first | refine sops_pv (by simp only [↓pw, ↓ez, ↓reduceIte, Nat.reduceEqDiff, binA, numA, ibin, unA, pz, Bool.not_true, Bool.not_false, m5, m6, q1, q2, q3, Bool.not_true, Nat.reduceAdd]; rfl) ?_ | refine sops_on ?_ ?_; focus (simp only [↓ez, ↓reduceIte, Nat.reduceEqDiff, m5, m6, q1, q2, q3, Bool.not_true, Nat.reduceAdd]; done)
  refine sops_len1 (c := u32s knu) (by simp only [↓ez, ↓reduceIte, Nat.reduceEqDiff]; exact ka.n) ?_
  simp only [u32s_length]
  repeat first | refine sops_pv (by simp only [↓pw, ↓ez, ↓reduceIte, Nat.reduceEqDiff, binA, numA, ibin, unA, pz, Bool.not_true, Bool.not_false, m5, m6, q1, q2, q3, Bool.not_true, Nat.reduceAdd]; rfl) ?_ | refine sops_on ?_ ?_; focus (simp only [↓ez, ↓reduceIte, Nat.reduceEqDiff, m5, m6, q1, q2, q3, Bool.not_true, Nat.reduceAdd]; done)
  refine sops_len1 (c := u32s knu) (by simp only [↓ez, ↓reduceIte, Nat.reduceEqDiff]; exact wa.n) ?_
  simp only [u32s_length]
  have q4 : (Int.ofNat knu.length != Int.ofNat knu.length) = false := ine_f rfl
  have q5 : (Int.ofNat kde.length != Int.ofNat kde.length) = false := ine_f rfl
  repeat first | refine sops_pv (by simp only [↓pw, ↓ez, ↓reduceIte, Nat.reduceEqDiff, binA, numA, ibin, unA, pz, Bool.not_true, Bool.not_false, m5, m6, q1, q2, q3, q4, Bool.not_true, Nat.reduceAdd]; rfl) ?_ | refine sops_on ?_ ?_; focus (simp only [↓ez, ↓reduceIte, Nat.reduceEqDiff, m5, m6, q1, q2, q3, q4, Bool.not_true, Nat.reduceAdd]; done)
  refine sops_len1 (c := u32s kde) (by simp only [↓ez, ↓reduceIte, Nat.reduceEqDiff]; exact ka.d) ?_
  simp only [u32s_length]
  repeat first | refine sops_pv (by simp only [↓pw, ↓ez, ↓reduceIte, Nat.reduceEqDiff, binA, numA, ibin, unA, pz, Bool.not_true, Bool.not_false, m5, m6, q1, q2, q3, q4, Bool.not_true, Nat.reduceAdd]; rfl) ?_ | refine sops_on ?_ ?_; focus (simp only [↓ez, ↓reduceIte, Nat.reduceEqDiff, m5, m6, q1, q2, q3, q4, Bool.not_true, Nat.reduceAdd]; done)
  refine sops_len1 (c := u32s kde) (by simp only [↓ez, ↓reduceIte, Nat.reduceEqDiff]; exact wa.d) ?_
  simp only [u32s_length]
  repeat first | refine sops_pv (by simp only [↓pw, ↓ez, ↓reduceIte, Nat.reduceEqDiff, binA, numA, ibin, unA, pz, Bool.not_true, Bool.not_false, m5, m6, q1, q2, q3, q4, q5, Bool.not_true, Nat.reduceAdd]; rfl) ?_ | refine sops_on ?_ ?_; focus (simp only [↓ez, ↓reduceIte, Nat.reduceEqDiff, m5, m6, q1, q2, q3, q4, q5, Bool.not_true, Nat.reduceAdd]; done) | refine sops_nil ?_ | refine seqQ_normal ?_
  refine sok_condF ?_ ?_
  · exact by simp only [↓ez, ↓reduceIte, Nat.reduceEqDiff, q1, q2, q3, q4, q5, Bool.not_true]
  have hleB := hleA.trans hlB
  have kB := rdNH_own (n := 6) (hlB _ _ hat5) rfl
  have wB := rdNH_own (n := 6) (hlB _ _ hat6) rfl
  have uB := rdNH_own (n := 7) (hlB _ _ hat2) hu.len
  repeat first | refine sops_pv (by simp only [↓pw, ↓ez, ↓reduceIte, Nat.reduceEqDiff, binA, numA, ibin, unA, pz, Bool.not_true, Bool.not_false, kB, uB]; rfl) ?_ | refine sops_nil ?_ | refine seqQ_normal ?_ | refine sok_seq ?_ | refine sok_skip ?_ | refine sok_draw ?_ | refine sdr_load rfl fun _ _ => ?_ | refine sdr_step rfl fun _ _ => ?_
  refine sops_call (as := [.agg [.int .i64 kk, .bool kneg, kvn, kvd, .str kname, .int .i64 (.ofNat kn)], .agg cu]) (by simp only [↓ez, ↓reduceIte, Nat.reduceEqDiff]) (fits_ok K (hk.mono hlB) (r2.mono hlB) l1 vl2.1 l2 vl2.2) fun x HC hlC hx => ?_
  obtain ⟨c1, rfl, hc1⟩ := hx
  have wC := rdNH_own (n := 6) (hlC _ _ (hlB _ _ hat6)) rfl
  have uC := rdNH_own (n := 7) (hlC _ _ (hlB _ _ hat2)) hu.len
  repeat first | refine sops_pv (by simp only [↓pw, ↓ez, ↓reduceIte, Nat.reduceEqDiff, binA, numA, ibin, unA, pz, Bool.not_true, Bool.not_false, wC, uC]; rfl) ?_ | refine sops_nil ?_ | refine sdr_load rfl fun _ _ => ?_ | refine sdr_step rfl fun _ _ => ?_
  refine sops_call (as := [.agg [.int .i64 kk, .bool kneg, wvn, wvd, .str kname, .int .i64 (.ofNat kn)], .agg cu]) (by simp only [↓ez, ↓reduceIte, Nat.reduceEqDiff]) (rfits_ok C T K (hw.mono (hlB.trans hlC)) (r2.mono (hlB.trans hlC)) o1 V2.ok.num) fun x HD hlD hx => ?_
  obtain ⟨c2, rfl, hc2⟩ := hx
  have q6 : (c1 == c2) = true := bool_eq (hc1.trans fk) (hc2.trans fr)
  have hBD := (hlB.trans hlC).trans hlD
  have uD := rdNH_own (n := 7) (hBD _ _ hat2) hu.len
  repeat first | refine sops_pv (by simp only [↓pw, ↓ez, ↓reduceIte, Nat.reduceEqDiff, binA, numA, ibin, unA, pz, Bool.not_true, Bool.not_false, eqA, q6, uD]; rfl) ?_ | refine sops_on ?_ ?_; focus (simp only [↓ez, ↓reduceIte, Nat.reduceEqDiff, eqA, q6, uD]; done) | refine sops_nil ?_ | refine sdr_load rfl fun _ _ => ?_ | refine sdr_step rfl fun _ _ => ?_
  refine sops_call (as := [.agg cu]) (by simp only [↓ez, ↓reduceIte, Nat.reduceEqDiff]) (key_ok K (r2.mono hBD) vl2.1 vl2.2) fun x HE hlE hx => ?_
  obtain ⟨uc, rfl, hku⟩ := hx.ex
  have hBE := hBD.trans hlE
  have tE := rdNH_own (n := 7) (hBE _ _ hat1) ht.len
  have fu := @fc_code k2 k1 name2 name1 neg2 neg1 nu2 de2 nu1 de1 n2 n1 V2.ok.lo
  have l3 : (if k2 = 1 then [] else nu2).length < 1000000 := by
    split
    · decide
    · exact vl2.1
  have l4 : (if k2 = 1 then [] else de2).length < 1000000 := by
    split
    · decide
    · exact vl2.2
  repeat first | refine sops_pv (by simp only [↓pw, ↓ez, ↓reduceIte, Nat.reduceEqDiff, binA, numA, ibin, unA, pz, Bool.not_true, Bool.not_false, q6, tE]; rfl) ?_ | refine sops_on ?_ ?_; focus (simp only [↓ez, ↓reduceIte, Nat.reduceEqDiff, q6, tE]; done) | refine sops_nil ?_ | refine sdr_load rfl fun _ _ => ?_ | refine sdr_step rfl fun _ _ => ?_
  refine sops_call (as := [.agg uc, .agg ct]) (by simp only [↓ez, ↓reduceIte, Nat.reduceEqDiff]) (fits_ok K hku (r1.mono hBE) l3 vl1.1 l4 vl1.2) fun x HF hlF hx => ?_
  obtain ⟨c3, rfl, hc3⟩ := hx
  have hBF := hBE.trans hlF
  have kF := rdNH_own (n := 6) (hBF _ _ hat5) rfl
  have uF := rdNH_own (n := 7) (hBF _ _ hat2) hu.len
  repeat first | refine sops_pv (by simp only [↓pw, ↓ez, ↓reduceIte, Nat.reduceEqDiff, binA, numA, ibin, unA, pz, Bool.not_true, Bool.not_false, q6, kF, uF]; rfl) ?_ | refine sops_on ?_ ?_; focus (simp only [↓ez, ↓reduceIte, Nat.reduceEqDiff, q6, kF, uF]; done) | refine sops_nil ?_ | refine sdr_load rfl fun _ _ => ?_ | refine sdr_step rfl fun _ _ => ?_
  refine sops_call (as := [.agg [.int .i64 kk, .bool kneg, kvn, kvd, .str kname, .int .i64 (.ofNat kn)], .agg cu]) (by simp only [↓ez, ↓reduceIte, Nat.reduceEqDiff]) (fits_ok K (hk.mono hBF) (r2.mono hBF) l1 vl2.1 l2 vl2.2) fun x HG hlG hx => ?_
  obtain ⟨c4, rfl, hc4⟩ := hx
  have q7 : (c3 == c4) = true := bool_eq (hc3.trans (fu.trans fc_symm)) (hc4.trans fk)
  have hBG := hBF.trans hlG
  repeat first | refine sops_pv (by simp only [↓pw, ↓ez, ↓reduceIte, Nat.reduceEqDiff, binA, numA, ibin, unA, pz, Bool.not_true, Bool.not_false, eqA, q6, q7]; rfl) ?_ | refine sops_on ?_ ?_; focus (simp only [↓ez, ↓reduceIte, Nat.reduceEqDiff, eqA, q6, q7]; done) | refine sops_nil ?_ | refine sdr_step rfl fun _ _ => ?_
  refine sops_call (as := []) (by simp only [↓ez, ↓reduceIte, Nat.reduceEqDiff]) (hcomp HG (hg.trans (hleA.trans hBG))) fun x HH hlH hx => ?_
  subst hx
  repeat first | refine sops_pv (by simp only [↓pw, ↓ez, ↓reduceIte, Nat.reduceEqDiff, binA, numA, ibin, unA, pz, Bool.not_true, Bool.not_false, q6, q7]; rfl) ?_ | refine sops_nil ?_ | refine seqQ_normal ?_ | refine sok_ret ?_ | refine sdr_step rfl fun _ _ => ?_ | refine sdr_nil ?_
  refine fnQ_tmp (.inr rfl) rfl ?_ (by simp only [↓ez, ↓reduceIte, Nat.reduceEqDiff, q6, q7]; rfl) ?_
  · exact (hleA.trans hBG).trans hlH
  · rfl
end
end Go.RI
