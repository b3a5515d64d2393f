/- Rules for runs of the small language over a partly known heap, and what the functions on the way of the law compute. Conditions: none. -/
import Derived.Test.YtaplnebenndkgaaGreatDoorT28
set_option linter.all false
namespace Go.RI
open Fx
structure NumAt (H : Hp) (vn vd : AV) (nu de : List Int) : Prop where
  n : Rd H 1 vn (u32s nu)
  d : Rd H 1 vd (u32s de)
  ln : Lim nu
  ld : Lim de
theorem NumAt.mono {H H' : Hp} {vn vd : AV} {nu de : List Int} (h : NumAt H vn vd nu de) (hle : Le H H') : NumAt H' vn vd nu de := ⟨h.n.mono hle, h.d.mono hle, h.ln, h.ld⟩
structure NumOk (nu de : List Int) : Prop where
  nl : nu.length ≤ 128
  dl : de.length ≤ 128
  dp : 0 < de.length
  dz : de.getD (de.length - 1) 0 ≠ 0
  nz : 0 < nu.length → nu.getD (nu.length - 1) 0 ≠ 0
theorem natOf_nu {H : Hp} {v : AV} {l : List Int} (h : Rd H 1 v (ints (trimL (natL l)))) (hl : Lim l) (hn : l.length ≤ 128) : Nu H v (trimL (natL l)) :=
  ⟨h, can_trim (natL_dig hl), by have := trimL_le (natL l); rw [natL_len] at this; omega⟩
open Zs in
noncomputable def flt2 : ACode := (q (w [A 1 1 47,L 47 48,c 41 [48] 49,A 2 1 50,L 50 51,c 41 [51] 52,M 49 3,M 52 4] [[],[],[],[],[2],[],[],[]]) (q (q (r [M 3 53,V 53 54,E 54 0 55,M 55 56,G 56 (A 0 1 57),G 56 (L 57 58),G 56 (M 58 59),H 59 (M 4 60),H 59 (O (.buildSlice 3 1 1 z2 [(0,1,i 1)]) 61),H 59 (c 42 [60,61] 62),H 59 (F 62 0 63),G 56 (U 59 63 64),P 56 64 65]) (k 65 (q (r [N (i 2) 2]) .ret) .skip)) (q (q (r [M 3 66,M 4 67,c 43 [66,67] 68,O (.buildSlice 3 1 1 z2 [(0,1,i 1)]) 69,c 42 [68,69] 70,F 70 0 71]) (k 71 (q (r [N (i 2) 2]) .ret) .skip)) (q (r [N (i 0) 2]) .ret))))
open Zs in
noncomputable def flt3 : ACode := (q (q (r [M 3 66,M 4 67,c 43 [66,67] 68,O (.buildSlice 3 1 1 z2 [(0,1,i 1)]) 69,c 42 [68,69] 70,F 70 0 71]) (k 71 (q (r [N (i 2) 2]) .ret) .skip)) (q (r [N (i 0) 2]) .ret))
section
variable {fs : Fns} {orc : Oracle} {H : Hp}
theorem numFault_ok (h82 : Code fs orc 82 F82) (h83 : Code fs orc 83 F83) (h84 : Code fs orc 84 F84) (h85 : Code fs orc 85 F85) (h42 : Code fs orc 42 F42) (h86 : Code fs orc 86 F86) (h87 : Code fs orc 87 F87) (h43 : Code fs orc 43 F43)
    (h41 : Code fs orc 41 F41) (hc : Code fs orc 22 F22) {neg : Bool} {vn vd : AV} {nu de : List Int} (h : NumAt H vn vd nu de) :
    CallS fs orc (.func (.func 22) [] []) [.agg [.bool neg, vn, vd]] H fun r _ => ∃ e : Nat, r = .int .i64 (.ofNat e) ∧ (e = 0 → NumOk nu de) := by
  refine call_fn1 hc fun lo g e0 => ?_
  repeat first | refine sok_seq ?_ | refine sok_region ?_
  refine sops_box [.bool neg, vn, vd] (by simp only [↓evG_t, e0, AV.cells]) fun b H1 hF => ?_
  have m1 := rdH_own hF.at'
  have h := h.mono hF.le
  repeat first | refine sops_pv (by simp only [↓pw, ↓ez, ↓reduceIte, Nat.reduceEqDiff, binA, numA, ibin, unA, pz, Bool.not_true, Bool.not_false, m1]; rfl) ?_ | refine sops_nil ?_ | refine seqQ_normal ?_ | refine sok_seq ?_ | refine sok_region ?_
  refine sops_len1 (c := u32s nu) (by simp only [↓ez, ↓reduceIte, Nat.reduceEqDiff]; exact h.n) ?_
  simp only [u32s_length]
  repeat (refine sops_pv (by simp only [↓pw, ↓ez, ↓reduceIte, Nat.reduceEqDiff, binA, numA, ibin, unA, pz, Bool.not_true, Bool.not_false]; rfl) ?_)
  by_cases c1 : nu.length > 128
  · have d1 : decide (Int.ofNat nu.length > Int.ofNat 128) = true := by simp only [Int.ofNat_eq_natCast, decide_eq_true_eq]; omega
    repeat first | refine sops_pv (by simp only [↓pw, ↓ez, ↓reduceIte, Nat.reduceEqDiff, binA, numA, ibin, unA, pz, Bool.not_true, Bool.not_false, d1]; rfl) ?_ | refine sops_off (w' := true) ?_ rfl ?_; focus (simp only [↓ez, ↓reduceIte, Nat.reduceEqDiff, d1]; done) | refine sops_nil ?_ | refine seqQ_normal ?_
    refine sok_cond _ (by simp only [↓ez, ↓reduceIte, Nat.reduceEqDiff, d1]; rfl) (fun hb => ?_) (fun hb => ?_)
    ·
      repeat first | refine sops_pv (by simp only [↓pw, ↓ez, ↓reduceIte, Nat.reduceEqDiff, binA, numA, ibin, unA, pz, Bool.not_true, Bool.not_false]; rfl) ?_ | refine sops_nil ?_ | refine seqQ_normal ?_ | refine seqQ_ret ?_ | refine sok_seq ?_ | refine sok_region ?_ | refine sok_ret ?_
      refine fnQ_tmp (.inr rfl) rfl ?_ (by simp only [↓ez, ↓reduceIte, Nat.reduceEqDiff]; rfl) ?_
      · exact hF.le
      · exact ⟨3, rfl, fun h => by cases h⟩
    · cases hb
  have d1 : decide (Int.ofNat nu.length > Int.ofNat 128) = false := by rw [decide_eq_false_iff_not]; simp only [Int.ofNat_eq_natCast]; omega
  repeat first | refine sops_pv (by simp only [↓pw, ↓ez, ↓reduceIte, Nat.reduceEqDiff, binA, numA, ibin, unA, pz, Bool.not_true, Bool.not_false, d1, m1]; rfl) ?_ | refine sops_on ?_ ?_; focus (simp only [↓ez, ↓reduceIte, Nat.reduceEqDiff, d1, m1]; done)
  refine sops_len1 (c := u32s de) (by simp only [↓ez, ↓reduceIte, Nat.reduceEqDiff]; exact h.d) ?_
  simp only [u32s_length]
  repeat first | refine sops_pv (by simp only [↓pw, ↓ez, ↓reduceIte, Nat.reduceEqDiff, binA, numA, ibin, unA, pz, Bool.not_true, Bool.not_false, d1]; rfl) ?_ | refine sops_on ?_ ?_; focus (simp only [↓ez, ↓reduceIte, Nat.reduceEqDiff, d1]; done) | refine sops_nil ?_ | refine seqQ_normal ?_
  refine sok_cond _ (by simp only [↓ez, ↓reduceIte, Nat.reduceEqDiff, d1]; rfl) (fun hb => ?_) (fun hb => ?_)
  ·
    repeat first | refine sops_pv (by simp only [↓pw, ↓ez, ↓reduceIte, Nat.reduceEqDiff, binA, numA, ibin, unA, pz, Bool.not_true, Bool.not_false]; rfl) ?_ | refine sops_nil ?_ | refine seqQ_normal ?_ | refine seqQ_ret ?_ | refine sok_seq ?_ | refine sok_region ?_ | refine sok_ret ?_
    refine fnQ_tmp (.inr rfl) rfl ?_ (by simp only [↓ez, ↓reduceIte, Nat.reduceEqDiff]; rfl) ?_
    · exact hF.le
    · exact ⟨3, rfl, fun h => by cases h⟩
  have c2 : ¬ de.length > 128 := by
    have := of_decide_eq_false hb; simp only [Int.ofNat_eq_natCast] at this; omega
  clear hb
  repeat first | refine sops_pv (by simp only [↓pw, ↓ez, ↓reduceIte, Nat.reduceEqDiff, binA, numA, ibin, unA, pz, Bool.not_true, Bool.not_false, m1]; rfl) ?_ | refine seqQ_normal ?_ | refine sok_seq ?_ | refine sok_region ?_ | refine sok_skip ?_
  refine sops_len1 (c := u32s de) (by simp only [↓ez, ↓reduceIte, Nat.reduceEqDiff]; exact h.d) ?_
  simp only [u32s_length]
  repeat (refine sops_pv (by simp only [↓pw, ↓ez, ↓reduceIte, Nat.reduceEqDiff, binA, numA, ibin, unA, pz, Bool.not_true, Bool.not_false]; rfl) ?_)
  by_cases c3 : de.length = 0
  · have d3 : (Int.ofNat de.length == Int.ofNat 0) = true := by rw [c3]; rfl
    repeat first | refine sops_pv (by simp only [↓pw, ↓ez, ↓reduceIte, Nat.reduceEqDiff, binA, numA, ibin, unA, pz, Bool.not_true, Bool.not_false, d3]; rfl) ?_ | refine sops_off (w' := true) ?_ rfl ?_; focus (simp only [↓ez, ↓reduceIte, Nat.reduceEqDiff, d3]; done) | refine sops_offU ?_ ?_; focus (simp only [↓ez, ↓reduceIte, Nat.reduceEqDiff, d3]; done) | refine sops_nil ?_ | refine seqQ_normal ?_
    refine sok_cond _ (by simp only [↓ez, ↓reduceIte, Nat.reduceEqDiff, d3]; rfl) (fun hb => ?_) (fun hb => ?_)
    ·
      repeat first | refine sops_pv (by simp only [↓pw, ↓ez, ↓reduceIte, Nat.reduceEqDiff, binA, numA, ibin, unA, pz, Bool.not_true, Bool.not_false]; rfl) ?_ | refine sops_nil ?_ | refine seqQ_normal ?_ | refine seqQ_ret ?_ | refine sok_seq ?_ | refine sok_region ?_ | refine sok_ret ?_
      refine fnQ_tmp (.inr rfl) rfl ?_ (by simp only [↓ez, ↓reduceIte, Nat.reduceEqDiff]; rfl) ?_
      · exact hF.le
      · exact ⟨2, rfl, fun h => by cases h⟩
    · cases hb
  have d3 : (Int.ofNat de.length == Int.ofNat 0) = false := by
    rw [beq_eq_false_iff_ne]; simp only [Int.ofNat_eq_natCast]; omega
  have w1 := wrap_sub1 (n := de.length) (by omega) (by omega)
  repeat first | refine sops_pv (by simp only [↓pw, ↓ez, ↓reduceIte, Nat.reduceEqDiff, binA, numA, ibin, unA, pz, Bool.not_true, Bool.not_false, d3, m1]; rfl) ?_ | refine sops_on ?_ ?_; focus (simp only [↓ez, ↓reduceIte, Nat.reduceEqDiff, d3, m1]; done)
  refine sops_len1 (c := u32s de) (by simp only [↓ez, ↓reduceIte, Nat.reduceEqDiff]; exact h.d) ?_
  simp only [u32s_length]
  repeat first | refine sops_pv (by simp only [↓pw, ↓ez, ↓reduceIte, Nat.reduceEqDiff, binA, numA, ibin, unA, pz, Bool.not_true, Bool.not_false, d3, w1]; rfl) ?_ | refine sops_on ?_ ?_; focus (simp only [↓ez, ↓reduceIte, Nat.reduceEqDiff, d3, w1]; done)
  refine sops_idx1 (.int .u32 (de.getD (de.length - 1) 0)) (c := u32s de) (n := de.length - 1) (by simp only [↓ez, ↓reduceIte, Nat.reduceEqDiff]; exact h.d) (by simp only [↓ez, ↓reduceIte, Nat.reduceEqDiff, natOf]) (u32s_get (by omega)) fun p o hq => ?_
  repeat first | refine sops_pv (by simp only [↓pw, ↓ez, ↓reduceIte, Nat.reduceEqDiff, binA, numA, ibin, unA, pz, Bool.not_true, Bool.not_false, d3, hq]; rfl) ?_ | refine sops_on ?_ ?_; focus (simp only [↓ez, ↓reduceIte, Nat.reduceEqDiff, d3, hq]; done)
  by_cases c4 : de.getD (de.length - 1) 0 = 0
  · have d4 : (de.getD (de.length - 1) 0 == Int.ofNat 0) = true := by rw [c4]; rfl
    repeat first | refine sops_pv (by simp only [↓pw, ↓ez, ↓reduceIte, Nat.reduceEqDiff, binA, numA, ibin, unA, pz, Bool.not_true, Bool.not_false, d4]; rfl) ?_ | refine sops_off (w' := true) ?_ rfl ?_; focus (simp only [↓ez, ↓reduceIte, Nat.reduceEqDiff, d4]; done) | refine sops_offU ?_ ?_; focus (simp only [↓ez, ↓reduceIte, Nat.reduceEqDiff, d4]; done) | refine sops_nil ?_ | refine seqQ_normal ?_
    refine sok_cond _ (by simp only [↓ez, ↓reduceIte, Nat.reduceEqDiff, d4]; rfl) (fun hb => ?_) (fun hb => ?_)
    ·
      repeat first | refine sops_pv (by simp only [↓pw, ↓ez, ↓reduceIte, Nat.reduceEqDiff, binA, numA, ibin, unA, pz, Bool.not_true, Bool.not_false]; rfl) ?_ | refine sops_nil ?_ | refine seqQ_normal ?_ | refine seqQ_ret ?_ | refine sok_seq ?_ | refine sok_region ?_ | refine sok_ret ?_
      refine fnQ_tmp (.inr rfl) rfl ?_ (by simp only [↓ez, ↓reduceIte, Nat.reduceEqDiff]; rfl) ?_
      · exact hF.le
      · exact ⟨2, rfl, fun h => by cases h⟩
    · cases hb
  have d4 : (de.getD (de.length - 1) 0 == Int.ofNat 0) = false := by
    rw [beq_eq_false_iff_ne]; exact c4
  repeat first | refine sops_pv (by simp only [↓pw, ↓ez, ↓reduceIte, Nat.reduceEqDiff, binA, numA, ibin, unA, pz, Bool.not_true, Bool.not_false, d4, m1]; rfl) ?_ | refine sops_on ?_ ?_; focus (simp only [↓ez, ↓reduceIte, Nat.reduceEqDiff, d4, m1]; done)
  refine sops_len1 (c := u32s nu) (by simp only [↓ez, ↓reduceIte, Nat.reduceEqDiff]; exact h.n) ?_
  simp only [u32s_length]
  repeat first | refine sops_pv (by simp only [↓pw, ↓ez, ↓reduceIte, Nat.reduceEqDiff, binA, numA, ibin, unA, pz, Bool.not_true, Bool.not_false, d4]; rfl) ?_ | refine sops_on ?_ ?_; focus (simp only [↓ez, ↓reduceIte, Nat.reduceEqDiff, d4]; done)
  have rest : ∀ (g2 : Env), (0 < nu.length → nu.getD (nu.length - 1) 0 ≠ 0) → g2 1 = .ptr b 0 → SOk fs orc flt2 g2 H1 lo (fnQ F22 H fun r _ => ∃ e : Nat, r = .int .i64 (.ofNat e) ∧ (e = 0 → NumOk nu de)) := by
    intro g2 hnz f1
    unfold flt2
    repeat first | refine sops_pv (by simp only [↓pw, ↓ez, ↓reduceIte, Nat.reduceEqDiff, binA, numA, ibin, unA, pz, Bool.not_true, Bool.not_false, f1, m1]; rfl) ?_ | refine sops_nil ?_ | refine sok_seq ?_ | refine sok_draw ?_ | refine sdr_load rfl fun _ _ => ?_ | refine sdr_step rfl fun _ _ => ?_
    refine sops_call (as := [vn]) (by simp only [↓ez, ↓reduceIte, Nat.reduceEqDiff]) (natOf_ok h82 h41 h.n h.ln (by omega)) fun x H2 hl2 hx => ?_
    have nx := natOf_nu hx h.ln (by omega)
    have m2 := rdH_own (hl2 _ _ hF.at')
    repeat first | refine sops_pv (by simp only [↓pw, ↓ez, ↓reduceIte, Nat.reduceEqDiff, binA, numA, ibin, unA, pz, Bool.not_true, Bool.not_false, f1, m2]; rfl) ?_ | refine sops_nil ?_ | refine sdr_load rfl fun _ _ => ?_ | refine sdr_step rfl fun _ _ => ?_
    refine sops_call (as := [vd]) (by simp only [↓ez, ↓reduceIte, Nat.reduceEqDiff]) (natOf_ok h82 h41 (h.d.mono hl2) h.ld (by omega)) fun y H3 hl3 hx => ?_
    have ny := natOf_nu hx h.ld (by omega)
    have nx := nx.mono hl3
    have m3 := rdH_own (hl3 _ _ (hl2 _ _ hF.at'))
    repeat first | refine sops_pv (by simp only [↓pw, ↓ez, ↓reduceIte, Nat.reduceEqDiff, binA, numA, ibin, unA, pz, Bool.not_true, Bool.not_false]; rfl) ?_ | refine sops_nil ?_ | refine seqQ_normal ?_ | refine sok_seq ?_ | refine sok_region ?_ | refine sdr_step rfl fun _ _ => ?_ | refine sdr_nil ?_
    refine sops_len1 (by simp only [↓ez, ↓reduceIte, Nat.reduceEqDiff]; exact nx.rd) ?_
    simp only [ints_length]
    repeat (refine sops_pv (by simp only [↓pw, ↓ez, ↓reduceIte, Nat.reduceEqDiff, binA, numA, ibin, unA, pz, Bool.not_true, Bool.not_false]; rfl) ?_)
    have rest2 : ∀ (g3 : Env) (H4 : Hp), Le H3 H4 → g3 3 = x → g3 4 = y → SOk fs orc flt3 g3 H4 lo (fnQ F22 H fun r _ => ∃ e : Nat, r = .int .i64 (.ofNat e) ∧ (e = 0 → NumOk nu de)) := by
      intro g3 H4 hl4 f3 f4
      unfold flt3
      repeat first | refine sops_pv (by simp only [↓pw, ↓ez, ↓reduceIte, Nat.reduceEqDiff, binA, numA, ibin, unA, pz, Bool.not_true, Bool.not_false, f3, f4]; rfl) ?_ | refine sok_seq ?_ | refine sok_region ?_
      refine sops_call (as := [x, y]) (by simp only [↓ez, ↓reduceIte, Nat.reduceEqDiff]) (gcd_ok h82 h83 h84 h85 h42 h86 h87 h43 (nx.mono hl4) (ny.mono hl4)) fun z H5 hl5 hz => ?_
      obtain ⟨o, ro, lo'⟩ := hz
      skip
      refine sops_bs (ints [1]) rfl fun b2 H6 hF6 => ?_
      refine sops_call (as := [z, .slice b2 0 1 1 1]) (by simp only [↓ez, ↓reduceIte, Nat.reduceEqDiff]) (cmp_ok h83 h42 (ro.mono hF6.le) (Rd.ownN hF6.at' rfl) lo' (by simp)) fun x H7 hl7 hx => ?_
      subst hx
      repeat first | refine sops_pv (by simp only [↓pw, ↓ez, ↓reduceIte, Nat.reduceEqDiff, binA, numA, ibin, unA, pz, Bool.not_true, Bool.not_false]; rfl) ?_ | refine sops_nil ?_ | refine seqQ_normal ?_
      have hle : Le H H7 := (((((hF.le.trans hl2).trans hl3).trans hl4).trans hl5).trans hF6.le).trans hl7
      refine sok_cond _ (by simp only [↓ez, ↓reduceIte, Nat.reduceEqDiff]; rfl) (fun hb => ?_) (fun hb => ?_)
      ·
        repeat first | refine sops_pv (by simp only [↓pw, ↓ez, ↓reduceIte, Nat.reduceEqDiff, binA, numA, ibin, unA, pz, Bool.not_true, Bool.not_false]; rfl) ?_ | refine sops_nil ?_ | refine seqQ_normal ?_ | refine seqQ_ret ?_ | refine sok_seq ?_ | refine sok_region ?_ | refine sok_ret ?_
        refine fnQ_tmp (.inr rfl) rfl ?_ (by simp only [↓ez, ↓reduceIte, Nat.reduceEqDiff]; rfl) ?_
        · exact hle
        · exact ⟨2, rfl, fun h => by cases h⟩
      ·
        repeat first | refine sops_pv (by simp only [↓pw, ↓ez, ↓reduceIte, Nat.reduceEqDiff, binA, numA, ibin, unA, pz, Bool.not_true, Bool.not_false]; rfl) ?_ | refine sops_nil ?_ | refine seqQ_normal ?_ | refine sok_seq ?_ | refine sok_region ?_ | refine sok_skip ?_ | refine sok_ret ?_
        refine fnQ_tmp (.inr rfl) rfl ?_ (by simp only [↓ez, ↓reduceIte, Nat.reduceEqDiff]; rfl) ?_
        · exact hle
        · exact ⟨0, rfl, fun _ => ⟨by omega, by omega, by omega, c4, hnz⟩⟩
    by_cases c5 : (trimL (natL nu)).length = 0
    · have d5 : (Int.ofNat (trimL (natL nu)).length == Int.ofNat 0) = true := by rw [c5]; rfl
      cases neg with
      | true =>
        repeat first | refine sops_pv (by simp only [↓pw, ↓ez, ↓reduceIte, Nat.reduceEqDiff, binA, numA, ibin, unA, pz, Bool.not_true, Bool.not_false, d5, f1, m3]; rfl) ?_ | refine sops_on ?_ ?_; focus (simp only [↓ez, ↓reduceIte, Nat.reduceEqDiff, d5, f1, m3]; done) | refine sops_off (w' := true) ?_ rfl ?_; focus (simp only [↓ez, ↓reduceIte, Nat.reduceEqDiff, d5, f1, m3]; done) | refine sops_nil ?_ | refine seqQ_normal ?_
        refine sok_cond _ (by simp only [↓ez, ↓reduceIte, Nat.reduceEqDiff, d5]; rfl) (fun hb => ?_) (fun hb => ?_)
        ·
          repeat first | refine sops_pv (by simp only [↓pw, ↓ez, ↓reduceIte, Nat.reduceEqDiff, binA, numA, ibin, unA, pz, Bool.not_true, Bool.not_false]; rfl) ?_ | refine sops_nil ?_ | refine seqQ_normal ?_ | refine seqQ_ret ?_ | refine sok_seq ?_ | refine sok_region ?_ | refine sok_ret ?_
          refine fnQ_tmp (.inr rfl) rfl ?_ (by simp only [↓ez, ↓reduceIte, Nat.reduceEqDiff]; rfl) ?_
          · exact (hF.le.trans hl2).trans hl3
          · exact ⟨2, rfl, fun h => by cases h⟩
        · cases hb
      | false =>
        repeat first | refine sops_pv (by simp only [↓pw, ↓ez, ↓reduceIte, Nat.reduceEqDiff, binA, numA, ibin, unA, pz, Bool.not_true, Bool.not_false, d5, f1, m3]; rfl) ?_ | refine sops_on ?_ ?_; focus (simp only [↓ez, ↓reduceIte, Nat.reduceEqDiff, d5, f1, m3]; done)
        refine sops_bs (ints [1]) rfl fun b2 H6 hF6 => ?_
        repeat (refine sops_on ?_ ?_; focus (simp only [↓ez, ↓reduceIte, Nat.reduceEqDiff, d5]; done))
        refine sops_call (as := [y, .slice b2 0 1 1 1]) (by simp only [↓ez, ↓reduceIte, Nat.reduceEqDiff]) (cmp_ok h83 h42 (ny.rd.mono hF6.le) (Rd.ownN hF6.at' rfl) (by have := ny.len; omega) (by simp)) fun x H7 hl7 hx => ?_
        subst hx
        repeat first | refine sops_pv (by simp only [↓pw, ↓ez, ↓reduceIte, Nat.reduceEqDiff, binA, numA, ibin, unA, pz, Bool.not_true, Bool.not_false, d5]; rfl) ?_ | refine sops_on ?_ ?_; focus (simp only [↓ez, ↓reduceIte, Nat.reduceEqDiff, d5]; done) | refine sops_nil ?_ | refine seqQ_normal ?_
        refine sok_cond _ (by simp only [↓ez, ↓reduceIte, Nat.reduceEqDiff, d5]; rfl) (fun hb => ?_) (fun hb => ?_)
        ·
          repeat first | refine sops_pv (by simp only [↓pw, ↓ez, ↓reduceIte, Nat.reduceEqDiff, binA, numA, ibin, unA, pz, Bool.not_true, Bool.not_false]; rfl) ?_ | refine sops_nil ?_ | refine seqQ_normal ?_ | refine seqQ_ret ?_ | refine sok_seq ?_ | refine sok_region ?_ | refine sok_ret ?_
          refine fnQ_tmp (.inr rfl) rfl ?_ (by simp only [↓ez, ↓reduceIte, Nat.reduceEqDiff]; rfl) ?_
          · exact (((hF.le.trans hl2).trans hl3).trans hF6.le).trans hl7
          · exact ⟨2, rfl, fun h => by cases h⟩
        ·
          repeat first | refine sok_skip ?_ | refine seqQ_normal ?_
          refine rest2 _ _ (hF6.le.trans hl7) ?_ ?_
          · exact by simp only [↓ez, ↓reduceIte, Nat.reduceEqDiff]
          · exact by simp only [↓ez, ↓reduceIte, Nat.reduceEqDiff]
    · have d5 : (Int.ofNat (trimL (natL nu)).length == Int.ofNat 0) = false := by
        rw [beq_eq_false_iff_ne]; simp only [Int.ofNat_eq_natCast]; omega
      repeat first | refine sops_pv (by simp only [↓pw, ↓ez, ↓reduceIte, Nat.reduceEqDiff, binA, numA, ibin, unA, pz, Bool.not_true, Bool.not_false, d5]; rfl) ?_ | refine sops_off (w' := false) ?_ rfl ?_; focus (simp only [↓ez, ↓reduceIte, Nat.reduceEqDiff, d5]; done) | refine sops_offU ?_ ?_; focus (simp only [↓ez, ↓reduceIte, Nat.reduceEqDiff, d5]; done) | refine sops_nil ?_ | refine seqQ_normal ?_
      refine sok_cond _ (by simp only [↓ez, ↓reduceIte, Nat.reduceEqDiff, d5]; rfl) (fun hb => ?_) (fun hb => ?_)
      · cases hb
      ·
        repeat first | refine sok_skip ?_ | refine seqQ_normal ?_
        refine rest2 _ _ (Le.refl _) ?_ ?_
        · exact by simp only [↓ez, ↓reduceIte, Nat.reduceEqDiff]
        · exact by simp only [↓ez, ↓reduceIte, Nat.reduceEqDiff]
  by_cases c6 : nu.length > 0
  · have d6 : decide (Int.ofNat nu.length > Int.ofNat 0) = true := by simp only [Int.ofNat_eq_natCast, decide_eq_true_eq]; omega
    have w2 := wrap_sub1 (n := nu.length) (by omega) (by omega)
    repeat first | refine sops_pv (by simp only [↓pw, ↓ez, ↓reduceIte, Nat.reduceEqDiff, binA, numA, ibin, unA, pz, Bool.not_true, Bool.not_false, d4, d6, m1]; rfl) ?_ | refine sops_on ?_ ?_; focus (simp only [↓ez, ↓reduceIte, Nat.reduceEqDiff, d4, d6, m1]; done)
    refine sops_len1 (c := u32s nu) (by simp only [↓ez, ↓reduceIte, Nat.reduceEqDiff]; exact h.n) ?_
    simp only [u32s_length]
    repeat first | refine sops_pv (by simp only [↓pw, ↓ez, ↓reduceIte, Nat.reduceEqDiff, binA, numA, ibin, unA, pz, Bool.not_true, Bool.not_false, d4, d6, w2]; rfl) ?_ | refine sops_on ?_ ?_; focus (simp only [↓ez, ↓reduceIte, Nat.reduceEqDiff, d4, d6, w2]; done)
    refine sops_idx1 (.int .u32 (nu.getD (nu.length - 1) 0)) (c := u32s nu) (n := nu.length - 1) (by simp only [↓ez, ↓reduceIte, Nat.reduceEqDiff]; exact h.n) (by simp only [↓ez, ↓reduceIte, Nat.reduceEqDiff, natOf]) (u32s_get (by omega)) fun p o hq => ?_
    repeat first | refine sops_pv (by simp only [↓pw, ↓ez, ↓reduceIte, Nat.reduceEqDiff, binA, numA, ibin, unA, pz, Bool.not_true, Bool.not_false, d4, d6, hq]; rfl) ?_ | refine sops_on ?_ ?_; focus (simp only [↓ez, ↓reduceIte, Nat.reduceEqDiff, d4, d6, hq]; done) | refine sops_nil ?_ | refine seqQ_normal ?_
    refine sok_cond _ (by simp only [↓ez, ↓reduceIte, Nat.reduceEqDiff, d4]; rfl) (fun hb => ?_) (fun hb => ?_)
    ·
      repeat first | refine sops_pv (by simp only [↓pw, ↓ez, ↓reduceIte, Nat.reduceEqDiff, binA, numA, ibin, unA, pz, Bool.not_true, Bool.not_false]; rfl) ?_ | refine sops_nil ?_ | refine seqQ_normal ?_ | refine seqQ_ret ?_ | refine sok_seq ?_ | refine sok_region ?_ | refine sok_ret ?_
      refine fnQ_tmp (.inr rfl) rfl ?_ (by simp only [↓ez, ↓reduceIte, Nat.reduceEqDiff]; rfl) ?_
      · exact hF.le
      · exact ⟨2, rfl, fun h => by cases h⟩
    ·
      repeat first | refine sok_skip ?_ | refine seqQ_normal ?_
      refine rest _ (fun _ => by simpa using hb) ?_
      exact by simp only [↓ez, ↓reduceIte, Nat.reduceEqDiff]
  · have d6 : decide (Int.ofNat nu.length > Int.ofNat 0) = false := by rw [decide_eq_false_iff_not]; simp only [Int.ofNat_eq_natCast]; omega
    repeat first | refine sops_pv (by simp only [↓pw, ↓ez, ↓reduceIte, Nat.reduceEqDiff, binA, numA, ibin, unA, pz, Bool.not_true, Bool.not_false, d4, d6]; rfl) ?_ | refine sops_on ?_ ?_; focus (simp only [↓ez, ↓reduceIte, Nat.reduceEqDiff, d4, d6]; done) | refine sops_off (w' := false) ?_ rfl ?_; focus (simp only [↓ez, ↓reduceIte, Nat.reduceEqDiff, d4, d6]; done) | refine sops_nil ?_ | refine seqQ_normal ?_
    refine sok_cond _ (by simp only [↓ez, ↓reduceIte, Nat.reduceEqDiff, d4]; rfl) (fun hb => ?_) (fun hb => ?_)
    · cases hb
    ·
      repeat first | refine sok_skip ?_ | refine seqQ_normal ?_
      refine rest _ (fun q => absurd q c6) ?_
      exact by simp only [↓ez, ↓reduceIte, Nat.reduceEqDiff]
end
end Go.RI
namespace Go.RI
open Fx
inductive TermAt (H : Hp) : List AV → Prop
  | mk (kind var : Int) (name : List Nat) (neg : Bool) (vn vd va : AV) (nu de : List Int) (args : List (List AV)) (hn : NumAt H vn vd nu de) (ha : Rd H 7 va args.flatten) (hs : ∀ c, c ∈ args → TermAt H c) :
      TermAt H [.int .i64 kind, .int .i64 var, .str name, .bool neg, vn, vd, va]
theorem TermAt.mono {H H' : Hp} (hle : Le H H') {c : List AV} (h : TermAt H c) : TermAt H' c := by
  induction h with
  | mk kind var name neg vn vd va nu de args hn ha hs ih => exact .mk kind var name neg vn vd va nu de args (hn.mono hle) (ha.mono hle) ih
theorem TermAt.len {H : Hp} {c : List AV} (h : TermAt H c) : c.length = 7 := by cases h; rfl
theorem TermAt.one {H : Hp} {c : List AV} (h : TermAt H c) : allOne c = true := by
  cases h with
  | mk kind var name neg vn vd va nu de args hn ha hs => simp only [allOne, hn.n.one, hn.d.one, ha.one]; rfl
theorem flat_len {n : Nat} : ∀ {l : List (List AV)}, (∀ c, c ∈ l → c.length = n) → l.flatten.length = l.length * n
  | [], _ => by simp
  | c :: l, h => by
    rw [List.flatten_cons, List.length_append, h c (by simp), flat_len fun d hd => h d (by simp [hd]), List.length_cons, Nat.succ_mul]; omega
theorem flat_get {n : Nat} : ∀ {l : List (List AV)} (_ : ∀ c, c ∈ l → c.length = n) {i : Nat} {c : List AV}, l[i]? = some c → (l.flatten.drop (i * n)).take n = c
  | [], _, i, c, h => by simp at h
  | d :: l, hl, i, c, h => by
    have hd := hl d (by simp)
    cases i with
    | zero =>
      simp at h; subst h
      rw [Nat.zero_mul, List.drop_zero, List.flatten_cons, ← hd, List.take_left]
    | succ i =>
      have h : l[i]? = some c := by simpa using h
      rw [List.flatten_cons, show (i + 1) * n = d.length + i * n by rw [hd, Nat.succ_mul]; omega, List.drop_append, List.drop_eq_nil_of_le (by omega), List.nil_append, show d.length + i * n - d.length = i * n by omega]
      exact flat_get (fun e he => hl e (by simp [he])) h
theorem rdNH_own {H : Hp} {b e n : Nat} {l : List AV} (h : H b = some (.own e l)) (hl : l.length = n) : rdNH H b 0 n = some l := by
  subst hl
  exact rdNH_of fun j v hj => by rw [Nat.zero_add, rdH_own h]; exact hj
theorem stored_full {H H' : Hp} {b e n : Nat} {r c : List AV} (h : Stored H b (.own e (r.take 0 ++ c ++ r.drop (0 + n))) H') (hr : r.length = n) : H' b = some (.own e c) := by
  have := h.at'
  rw [List.take_zero, List.nil_append, Nat.zero_add, List.drop_eq_nil_of_le (by omega), List.append_nil] at this
  exact this
structure NodeOk (kind : Int) (neg : Bool) (nu de : List Int) : Prop where
  lo : 1 ≤ kind
  hi : kind ≤ 5
  none : kind ≠ 2 → neg = false ∧ nu = [] ∧ de = []
  num : kind = 2 → NumOk nu de
section
variable {fs : Fns} {orc : Oracle} {H : Hp}
theorem sok_condT {x : Rnd} {a b : ACode} {g : Env} {lo : Nat} {Q : AOut → Env → Hp → Prop} (hx : evG g x = .bool true) (h : SOk fs orc a g H lo Q) : SOk fs orc (.cond x a b) g H lo Q :=
  sok_cond true hx (fun _ => h) (fun e => by cases e)
theorem sok_condF {x : Rnd} {a b : ACode} {g : Env} {lo : Nat} {Q : AOut → Env → Hp → Prop} (hx : evG g x = .bool false) (h : SOk fs orc b g H lo Q) : SOk fs orc (.cond x a b) g H lo Q :=
  sok_cond false hx (fun e => by cases e) (fun _ => h)
theorem sops_splitF {op : AOp} {d t : Nat} {w' : Bool} {l : List AOper} {g : Env} {lo : Nat} {Q : Env → Hp → Prop} (h : g t = .bool w') (k1 : w' = false → SOps fs orc (⟨op, some d, none⟩ :: l) g H lo Q) (k2 : w' = true → SOps fs orc l (up g d undefA) H lo Q) :
    SOps fs orc (⟨op, some d, some (t, false)⟩ :: l) g H lo Q := by
  cases w' with
  | false => exact sops_on h (k1 rfl)
  | true => exact sops_off h rfl (k2 rfl)
theorem noNumber_ok (hc : Code fs orc 21 F21) {neg : Bool} {vn vd : AV} {nu de : List Int} (h : NumAt H vn vd nu de) :
    CallS fs orc (.func (.func 21) [] []) [.agg [.bool neg, vn, vd]] H fun r _ => ∃ b, r = .bool b ∧ (b = true → neg = false ∧ nu = [] ∧ de = []) := by
  refine call_fn1 hc fun lo g e0 => ?_
  repeat first | refine sok_seq ?_ | refine sok_region ?_
  refine sops_box [.bool neg, vn, vd] (by simp only [↓evG_t, e0, AV.cells]) fun b H1 hF => ?_
  have m1 := rdH_own hF.at'
  have h := h.mono hF.le
  cases neg with
  | true =>
    repeat first | refine sops_pv (by simp only [↓pw, ↓ez, ↓reduceIte, Nat.reduceEqDiff, binA, numA, ibin, unA, pz, Bool.not_true, Bool.not_false, m1, Bool.not_true]; rfl) ?_ | refine sops_off (w' := false) ?_ rfl ?_; focus (simp only [↓ez, ↓reduceIte, Nat.reduceEqDiff, m1, Bool.not_true]; done) | refine sops_nil ?_ | refine seqQ_normal ?_ | refine sok_seq ?_ | refine sok_region ?_ | refine sok_ret ?_
    refine fnQ_tmp (.inr rfl) rfl ?_ (by simp only [↓ez, ↓reduceIte, Nat.reduceEqDiff]; rfl) ?_
    · exact hF.le
    · exact ⟨false, rfl, fun h => by cases h⟩
  | false =>
    repeat first | refine sops_pv (by simp only [↓pw, ↓ez, ↓reduceIte, Nat.reduceEqDiff, binA, numA, ibin, unA, pz, Bool.not_true, Bool.not_false, m1, Bool.not_false]; rfl) ?_ | refine sops_on ?_ ?_; focus (simp only [↓ez, ↓reduceIte, Nat.reduceEqDiff, m1, Bool.not_false]; done) | refine sops_nil ?_ | refine seqQ_normal ?_ | refine sok_seq ?_ | refine sok_region ?_
    refine sops_len1 (c := u32s nu) (by simp only [↓ez, ↓reduceIte, Nat.reduceEqDiff]; exact h.n) ?_
    simp only [u32s_length]
    repeat first | refine sops_pv (by simp only [↓pw, ↓ez, ↓reduceIte, Nat.reduceEqDiff, binA, numA, ibin, unA, pz, Bool.not_true, Bool.not_false]; rfl) ?_ | refine sops_on ?_ ?_; focus (simp only [↓ez, ↓reduceIte, Nat.reduceEqDiff]; done)
    by_cases c3 : nu.length = 0
    · have d3 : (Int.ofNat nu.length == Int.ofNat 0) = true := by rw [c3]; rfl
      repeat first | refine sops_pv (by simp only [↓pw, ↓ez, ↓reduceIte, Nat.reduceEqDiff, binA, numA, ibin, unA, pz, Bool.not_true, Bool.not_false, d3, m1]; rfl) ?_ | refine sops_on ?_ ?_; focus (simp only [↓ez, ↓reduceIte, Nat.reduceEqDiff, d3, m1]; done)
      refine sops_len1 (c := u32s de) (by simp only [↓ez, ↓reduceIte, Nat.reduceEqDiff]; exact h.d) ?_
      simp only [u32s_length]
      repeat first | refine sops_pv (by simp only [↓pw, ↓ez, ↓reduceIte, Nat.reduceEqDiff, binA, numA, ibin, unA, pz, Bool.not_true, Bool.not_false, d3]; rfl) ?_ | refine sops_on ?_ ?_; focus (simp only [↓ez, ↓reduceIte, Nat.reduceEqDiff, d3]; done) | refine sops_nil ?_ | refine seqQ_normal ?_ | refine sok_ret ?_
      refine fnQ_tmp (.inr rfl) rfl ?_ (by simp only [↓ez, ↓reduceIte, Nat.reduceEqDiff]; rfl) ?_
      · exact hF.le
      · refine ⟨_, rfl, fun hq => ⟨trivial, List.length_eq_zero_iff.1 c3, ?_⟩⟩
        have : (Int.ofNat de.length) = Int.ofNat 0 := by simpa using hq
        exact List.length_eq_zero_iff.1 (by simp only [Int.ofNat_eq_natCast] at this; omega)
    · have d3 : (Int.ofNat nu.length == Int.ofNat 0) = false := by
        rw [beq_eq_false_iff_ne]; simp only [Int.ofNat_eq_natCast]; omega
      repeat first | refine sops_pv (by simp only [↓pw, ↓ez, ↓reduceIte, Nat.reduceEqDiff, binA, numA, ibin, unA, pz, Bool.not_true, Bool.not_false, d3]; rfl) ?_ | refine sops_off (w' := false) ?_ rfl ?_; focus (simp only [↓ez, ↓reduceIte, Nat.reduceEqDiff, d3]; done) | refine sops_nil ?_ | refine seqQ_normal ?_ | refine sok_ret ?_
      refine fnQ_tmp (.inr rfl) rfl ?_ (by simp only [↓ez, ↓reduceIte, Nat.reduceEqDiff]; rfl) ?_
      · exact hF.le
      · exact ⟨false, rfl, fun h => by cases h⟩
theorem sized_ok (hc : Code fs orc 20 F20) {c : List AV} (h : TermAt H c) : ∀ H', Le H H' → ∀ n : Nat, n < 1000000 →
    CallS fs orc (.func (.func 20) [] []) [.agg c, .int .i64 (.ofNat n)] H' fun r _ => ∃ m : Nat, r = .int .i64 (.ofNat m) ∧ n < m ∧ m ≤ 1000000 := by
  induction h with
  | mk kind var name neg vn vd va nu de args hn ha hs ih =>
  intro H0 hle0 n hn0
  have hlen : ∀ c, c ∈ args → c.length = 7 := fun c hc => (hs c hc).len
  have hfl := flat_len hlen
  refine call_fn2 hc fun lo g e0 e1 => ?_
  have w0 := wrap_add1 (n := n) (by omega)
  repeat first | refine sok_seq ?_ | refine sok_region ?_
  refine sops_box [.int .i64 kind, .int .i64 var, .str name, .bool neg, vn, vd, va] (by simp only [↓evG_t, e0, AV.cells]) fun b H1 hF => ?_
  have m1 := rdH_own hF.at'
  repeat first | refine sops_pv (by simp only [↓pw, ↓ez, ↓reduceIte, Nat.reduceEqDiff, binA, numA, ibin, unA, pz, Bool.not_true, Bool.not_false, e1, w0, m1]; rfl) ?_ | refine sops_nil ?_ | refine seqQ_normal ?_ | refine sok_seq ?_ | refine sok_region ?_
  refine sops_len (c := args.flatten) args.length (by simp only [↓ez, ↓reduceIte, Nat.reduceEqDiff]; exact ha.mono (hle0.trans hF.le)) hfl (by decide) ?_
  repeat first | refine sops_pv (by simp only [↓pw, ↓ez, ↓reduceIte, Nat.reduceEqDiff, binA, numA, ibin, unA, pz, Bool.not_true, Bool.not_false]; rfl) ?_ | refine sops_nil ?_ | refine seqQ_normal ?_ | refine sok_block ?_
  refine sok_loop (fun k g' H' => ∃ i m : Nat, k = args.length - i ∧ i ≤ args.length ∧ g' 10 = va ∧ g' 11 = .int .i64 (.ofNat args.length) ∧ g' 12 = .int .i64 (.ofNat i) ∧ g' 1 = .int .i64 (.ofNat m) ∧ n < m ∧ i < m ∧ m ≤ 1000000 ∧ Le H0 H') ?_ args.length _ _
    ⟨0, n + 1, rfl, Nat.zero_le _, by simp only [↓ez, ↓reduceIte, Nat.reduceEqDiff], by simp only [↓ez, ↓reduceIte, Nat.reduceEqDiff], by simp only [↓ez, ↓reduceIte, Nat.reduceEqDiff], by simp only [↓ez, ↓reduceIte, Nat.reduceEqDiff], by omega, by omega, by omega, hF.le⟩
  rintro k g' H' ⟨i, m, rfl, hi, f10, f11, f12, f1, hnm, him, hm, hle⟩
  repeat first | refine sops_pv (by simp only [↓pw, ↓ez, ↓reduceIte, Nat.reduceEqDiff, binA, numA, ibin, unA, pz, Bool.not_true, Bool.not_false, f11, f12]; rfl) ?_ | refine sops_nil ?_ | refine seqQ_normal ?_ | refine sok_seq ?_ | refine sok_region ?_
  refine sok_cond _ (by simp only [↓ez, ↓reduceIte, Nat.reduceEqDiff]; rfl) (fun hb => ?_) (fun hb => ?_)
  · have hi' : i < args.length := by simpa using hb
    have hgi : args[i]? = some args[i] := List.getElem?_eq_getElem hi'
    have hmem : args[i] ∈ args := List.getElem_mem hi'
    have w1 := wrap_add1 (n := i) (by omega)
    repeat first | refine seqQ_normal ?_ | refine sok_seq ?_ | refine sok_region ?_ | refine sok_skip ?_ | refine sok_block ?_
    refine sops_idx args[i] (n := i) (by simp only [↓ez, ↓reduceIte, Nat.reduceEqDiff, f10]; exact ha.mono (hle0.trans hle)) (by simp only [↓ez, ↓reduceIte, Nat.reduceEqDiff, natOf, f12]) (flat_get hlen hgi) (hlen _ hmem) (by decide) fun p o hq => ?_
    repeat (refine sops_pv (by simp only [↓pw, ↓ez, ↓reduceIte, Nat.reduceEqDiff, binA, numA, ibin, unA, pz, Bool.not_true, Bool.not_false, hq]; rfl) ?_)
    refine sops_alloc fun b2 H2 hF2 => ?_
    refine sops_store (b := b2) (off := 0) (e := 27) (r := z1) (by simp only [↓ez, ↓reduceIte, Nat.reduceEqDiff]) hF2.at' hF2.lo (by simp only [↓ez, ↓reduceIte, Nat.reduceEqDiff, AV.cells]) (hlen _ hmem) (hs _ hmem).one (by decide) fun H3 hS => ?_
    have hat := stored_full hS rfl
    have m2 := rdNH_own hat (hlen _ hmem)
    have hle3 : Le H0 H3 := hS.le (hle.trans hF2.le) (by
      cases e : H0 b2 with
      | none => rfl
      | some x => have := hle _ _ e; rw [hF2.new] at this; cases this)
    repeat first | refine sops_pv (by simp only [↓pw, ↓ez, ↓reduceIte, Nat.reduceEqDiff, binA, numA, ibin, unA, pz, Bool.not_true, Bool.not_false, f1]; rfl) ?_ | refine sops_nil ?_ | refine seqQ_normal ?_ | refine sok_seq ?_ | refine sok_region ?_
    refine sok_cond _ (by simp only [↓ez, ↓reduceIte, Nat.reduceEqDiff]; rfl) (fun hb => ?_) (fun hb => ?_)
    ·
      repeat first | refine sops_pv (by simp only [↓pw, ↓ez, ↓reduceIte, Nat.reduceEqDiff, binA, numA, ibin, unA, pz, Bool.not_true, Bool.not_false]; rfl) ?_ | refine sops_nil ?_ | refine seqQ_normal ?_ | refine seqQ_ret ?_ | refine blkQ_ret ?_ | refine loopQ_ret ?_ | refine sok_seq ?_ | refine sok_region ?_ | refine sok_ret ?_
      refine fnQ_tmp (.inr rfl) rfl ?_ (by simp only [↓ez, ↓reduceIte, Nat.reduceEqDiff]; rfl) ?_
      · exact hle3
      · exact ⟨1000000, rfl, hn0, Nat.le_refl _⟩
    · have hm' : m < 1000000 := by
        have := of_decide_eq_false hb; simp only [Int.ofNat_eq_natCast, ge_iff_le] at this; omega
      repeat first | refine sops_pv (by simp only [↓pw, ↓ez, ↓reduceIte, Nat.reduceEqDiff, binA, numA, ibin, unA, pz, Bool.not_true, Bool.not_false, f1, m2]; rfl) ?_ | refine seqQ_normal ?_ | refine sok_region ?_ | refine sok_skip ?_
      refine sops_call (as := [.agg args[i], .int .i64 (.ofNat m)]) (by simp only [↓ez, ↓reduceIte, Nat.reduceEqDiff, f1]) (ih _ hmem H3 (hle0.trans hle3) m hm') fun x H4 hl4 hx => ?_
      obtain ⟨m', rfl, hm1, hm2⟩ := hx
      repeat first | refine sops_pv (by simp only [↓pw, ↓ez, ↓reduceIte, Nat.reduceEqDiff, binA, numA, ibin, unA, pz, Bool.not_true, Bool.not_false, f12, w1]; rfl) ?_ | refine sops_nil ?_ | refine seqQ_normal ?_ | refine blkQ_normal ?_ | refine sok_region ?_
      refine loopQ_normal (args.length - (i + 1)) ?_ ?_
      · omega
      exact ⟨i + 1, m', rfl, hi', by simp only [↓ez, ↓reduceIte, Nat.reduceEqDiff, f10], by simp only [↓ez, ↓reduceIte, Nat.reduceEqDiff, f11], by simp only [↓ez, ↓reduceIte, Nat.reduceEqDiff], by simp only [↓ez, ↓reduceIte, Nat.reduceEqDiff], by omega, by omega, hm2, hle3.trans hl4⟩
  ·
    repeat first | refine sops_pv (by simp only [↓pw, ↓ez, ↓reduceIte, Nat.reduceEqDiff, binA, numA, ibin, unA, pz, Bool.not_true, Bool.not_false, f1]; rfl) ?_ | refine sops_nil ?_ | refine seqQ_normal ?_ | refine seqQ_exit ?_ | refine blkQ_hit ?_ | refine loopQ_exit ?_ | refine sok_seq ?_ | refine sok_region ?_ | refine sok_ret ?_ | refine sok_exit ?_
    refine fnQ_tmp (.inr rfl) rfl ?_ (by simp only [↓ez, ↓reduceIte, Nat.reduceEqDiff]; rfl) ?_
    · exact hle
    · exact ⟨m, rfl, hnm, hm⟩
theorem size_ok (h20 : Code fs orc 20 F20) (hc : Code fs orc 10 F10) {c : List AV} (h : TermAt H c) :
    CallS fs orc (.func (.func 10) [] []) [.agg c] H fun r _ => ∃ m : Nat, r = .int .i64 (.ofNat m) := by
  refine call_fn1 hc fun lo g e0 => ?_
  repeat first | refine sok_seq ?_ | refine sok_region ?_
  refine sops_box c (by simp only [↓evG_t, e0, AV.cells]) fun b H1 hF => ?_
  have m1 := rdNH_own hF.at' h.len
  repeat first | refine sops_pv (by simp only [↓pw, ↓ez, ↓reduceIte, Nat.reduceEqDiff, binA, numA, ibin, unA, pz, Bool.not_true, Bool.not_false, m1]; rfl) ?_ | refine sops_nil ?_ | refine seqQ_normal ?_ | refine sok_seq ?_ | refine sok_region ?_
  refine sops_call (as := [.agg c, .int .i64 (.ofNat 0)]) (by simp only [↓ez, ↓reduceIte, Nat.reduceEqDiff]) (sized_ok h20 h H1 hF.le 0 (by decide)) fun x H4 hl4 hx => ?_
  obtain ⟨m, rfl, _⟩ := hx
  repeat first | refine sops_pv (by simp only [↓pw, ↓ez, ↓reduceIte, Nat.reduceEqDiff, binA, numA, ibin, unA, pz, Bool.not_true, Bool.not_false]; rfl) ?_ | refine sops_nil ?_ | refine seqQ_normal ?_ | refine sok_ret ?_
  refine fnQ_tmp (.inr rfl) rfl ?_ (by simp only [↓ez, ↓reduceIte, Nat.reduceEqDiff]; rfl) ?_
  · exact hF.le.trans hl4
  · exact ⟨m, rfl⟩
end
end Go.RI
namespace Go.RI
open Fx
def RootOk (H : Hp) (c : List AV) : Prop := ∃ kind var name neg vn vd va nu de, c = [.int .i64 kind, .int .i64 var, .str name, .bool neg, vn, vd, va] ∧ NumAt H vn vd nu de ∧ NodeOk kind neg nu de
theorem rdNH_sub {H : Hp} {b e : Nat} {l : List AV} (h : H b = some (.own e l)) (off n : Nat) (c : List AV) (hc : (l.drop off).take n = c) (hl : c.length = n) : rdNH H b off n = some c := by
  subst hl
  refine rdNH_of fun j v hj => ?_
  rw [rdH_own h]
  rw [← hc, List.getElem?_take] at hj
  split at hj
  · rw [List.getElem?_drop] at hj; exact hj
  · cases hj
open Zs in
noncomputable def nod2 : ACode := (q (q (r [A 6 1 125,L 125 126,V 126 127,N (i 0) 128]) (l 1 (p (q (r [J 128 127 129]) (q (k 129 .skip (x 1)) (q (l 2 (q (r [Y 7 126 (t 128) 130,Q 7 130 131,D 27 z1 5,S 7 5 (t 131)]) (q (r [Q 7 5 132,c 11 [132] 133,M 133 6]) (q (r [M 6 134,F 134 0 135]) (k 135 (q (r [M 6 136,M 136 2]) .ret) .skip))))) (r [I 128 137,M 137 128]))))))) (q (r [N (i 0) 2]) .ret))
section
variable {fs : Fns} {orc : Oracle} {H : Hp}
def NPost (H : Hp) (c : List AV) (r : AV) (_ : Hp) : Prop := ∃ e : Nat, r = .int .i64 (.ofNat e) ∧ (e = 0 → RootOk H c)
def NIH (fs : Fns) (orc : Oracle) (H : Hp) (c : List AV) : Prop := ∀ H', Le H H' → CallS fs orc (.func (.func 11) [] []) [.agg c] H' (NPost H c)
theorem node_loop {c : List AV} {args : List (List AV)} {va : AV} {H0 H1 : Hp} {b lo : Nat} {g : Env} (hs : ∀ c, c ∈ args → TermAt H c) (ih : ∀ c, c ∈ args → NIH fs orc H c) (ha : Rd H1 7 va args.flatten) (hlen32 : args.length ≤ 32) (hroot : RootOk H c)
    (hle0 : Le H H0) (hle : Le H0 H1) (hb : rdH H1 b 6 = some va) (f1 : g 1 = .ptr b 0) : SOk fs orc nod2 g H1 lo (fnQ F11 H0 (NPost H c)) := by
  unfold nod2
  have hlen : ∀ c, c ∈ args → c.length = 7 := fun c hc => (hs c hc).len
  have hfl := flat_len hlen
  repeat first | refine sops_pv (by simp only [↓pw, ↓ez, ↓reduceIte, Nat.reduceEqDiff, binA, numA, ibin, unA, pz, Bool.not_true, Bool.not_false, f1, hb]; rfl) ?_ | refine sok_seq ?_ | refine sok_region ?_
  refine sops_len (c := args.flatten) args.length (by simp only [↓ez, ↓reduceIte, Nat.reduceEqDiff]; exact ha) hfl (by decide) ?_
  repeat first | refine sops_pv (by simp only [↓pw, ↓ez, ↓reduceIte, Nat.reduceEqDiff, binA, numA, ibin, unA, pz, Bool.not_true, Bool.not_false]; rfl) ?_ | refine sops_nil ?_ | refine seqQ_normal ?_ | refine sok_block ?_
  refine sok_loop (fun k g' H' => ∃ i : Nat, k = args.length - i ∧ i ≤ args.length ∧ g' 126 = va ∧ g' 127 = .int .i64 (.ofNat args.length) ∧ g' 128 = .int .i64 (.ofNat i) ∧ Le H1 H') ?_ args.length _ _
    ⟨0, rfl, Nat.zero_le _, by simp only [↓ez, ↓reduceIte, Nat.reduceEqDiff], by simp only [↓ez, ↓reduceIte, Nat.reduceEqDiff], by simp only [↓ez, ↓reduceIte, Nat.reduceEqDiff], Le.refl _⟩
  rintro k g' H' ⟨i, rfl, hi, f10, f11, f12, hle'⟩
  repeat first | refine sops_pv (by simp only [↓pw, ↓ez, ↓reduceIte, Nat.reduceEqDiff, binA, numA, ibin, unA, pz, Bool.not_true, Bool.not_false, f11, f12]; rfl) ?_ | refine sops_nil ?_ | refine seqQ_normal ?_ | refine sok_seq ?_ | refine sok_region ?_
  refine sok_cond _ (by simp only [↓ez, ↓reduceIte, Nat.reduceEqDiff]; rfl) (fun hb => ?_) (fun hb => ?_)
  · have hi' : i < args.length := by simpa using hb
    have hgi : args[i]? = some args[i] := List.getElem?_eq_getElem hi'
    have hmem : args[i] ∈ args := List.getElem_mem hi'
    have w1 := wrap_add1 (n := i) (by omega)
    repeat first | refine seqQ_normal ?_ | refine sok_seq ?_ | refine sok_region ?_ | refine sok_skip ?_ | refine sok_block ?_
    refine sops_idx args[i] (n := i) (by simp only [↓ez, ↓reduceIte, Nat.reduceEqDiff, f10]; exact ha.mono hle') (by simp only [↓ez, ↓reduceIte, Nat.reduceEqDiff, natOf, f12]) (flat_get hlen hgi) (hlen _ hmem) (by decide) fun p o hq => ?_
    repeat (refine sops_pv (by simp only [↓pw, ↓ez, ↓reduceIte, Nat.reduceEqDiff, binA, numA, ibin, unA, pz, Bool.not_true, Bool.not_false, hq]; rfl) ?_)
    refine sops_alloc fun b2 H2 hF2 => ?_
    refine sops_store (b := b2) (off := 0) (e := 27) (r := z1) (by simp only [↓ez, ↓reduceIte, Nat.reduceEqDiff]) hF2.at' hF2.lo (by simp only [↓ez, ↓reduceIte, Nat.reduceEqDiff, AV.cells]) (hlen _ hmem) (hs _ hmem).one (by decide) fun H3 hS => ?_
    have hat := stored_full hS rfl
    have m2 := rdNH_own hat (hlen _ hmem)
    have hle3 : Le H1 H3 := hS.le (hle'.trans hF2.le) (by
      cases e : H1 b2 with
      | none => rfl
      | some x => have := hle' _ _ e; rw [hF2.new] at this; cases this)
    repeat first | refine sops_pv (by simp only [↓pw, ↓ez, ↓reduceIte, Nat.reduceEqDiff, binA, numA, ibin, unA, pz, Bool.not_true, Bool.not_false, m2]; rfl) ?_ | refine sops_nil ?_ | refine seqQ_normal ?_ | refine sok_seq ?_ | refine sok_region ?_
    refine sops_call (as := [.agg args[i]]) (by simp only [↓ez, ↓reduceIte, Nat.reduceEqDiff]) (ih _ hmem H3 ((hle0.trans hle).trans hle3)) fun x H4 hl4 hx => ?_
    obtain ⟨e, rfl, hx⟩ := hx
    repeat first | refine sops_pv (by simp only [↓pw, ↓ez, ↓reduceIte, Nat.reduceEqDiff, binA, numA, ibin, unA, pz, Bool.not_true, Bool.not_false]; rfl) ?_ | refine sops_nil ?_ | refine seqQ_normal ?_ | refine sok_seq ?_ | refine sok_region ?_
    refine sok_cond _ (by simp only [↓ez, ↓reduceIte, Nat.reduceEqDiff]; rfl) (fun hb => ?_) (fun hb => ?_)
    ·
      repeat first | refine sops_pv (by simp only [↓pw, ↓ez, ↓reduceIte, Nat.reduceEqDiff, binA, numA, ibin, unA, pz, Bool.not_true, Bool.not_false]; rfl) ?_ | refine sops_nil ?_ | refine seqQ_normal ?_ | refine seqQ_ret ?_ | refine blkQ_ret ?_ | refine loopQ_ret ?_ | refine sok_seq ?_ | refine sok_region ?_ | refine sok_ret ?_
      refine fnQ_tmp (.inr rfl) rfl ?_ (by simp only [↓ez, ↓reduceIte, Nat.reduceEqDiff]; rfl) ?_
      · exact (hle.trans hle3).trans hl4
      · exact ⟨e, rfl, fun _ => hroot⟩
    ·
      repeat first | refine sops_pv (by simp only [↓pw, ↓ez, ↓reduceIte, Nat.reduceEqDiff, binA, numA, ibin, unA, pz, Bool.not_true, Bool.not_false, f12, w1]; rfl) ?_ | refine sops_nil ?_ | refine seqQ_normal ?_ | refine blkQ_normal ?_ | refine sok_region ?_ | refine sok_skip ?_
      refine loopQ_normal (args.length - (i + 1)) ?_ ?_
      · omega
      exact ⟨i + 1, rfl, hi', by simp only [↓ez, ↓reduceIte, Nat.reduceEqDiff, f10], by simp only [↓ez, ↓reduceIte, Nat.reduceEqDiff, f11], by simp only [↓ez, ↓reduceIte, Nat.reduceEqDiff], hle3.trans hl4⟩
  ·
    repeat first | refine sops_pv (by simp only [↓pw, ↓ez, ↓reduceIte, Nat.reduceEqDiff, binA, numA, ibin, unA, pz, Bool.not_true, Bool.not_false]; rfl) ?_ | refine sops_nil ?_ | refine seqQ_normal ?_ | refine seqQ_exit ?_ | refine blkQ_hit ?_ | refine loopQ_exit ?_ | refine sok_seq ?_ | refine sok_region ?_ | refine sok_ret ?_ | refine sok_exit ?_
    refine fnQ_tmp (.inr rfl) rfl ?_ (by simp only [↓ez, ↓reduceIte, Nat.reduceEqDiff]; rfl) ?_
    · exact hle.trans hle'
    · exact ⟨0, rfl, fun _ => hroot⟩
theorem node_out {c : List AV} {H0 H1 : Hp} {g : Env} {o : AOut} {e : Nat} (ho : o = .ret) (he : e ≠ 0) (hle : Le H0 H1) (hg : g 2 = .int .i64 (.ofNat e)) : fnQ F11 H0 (NPost H c) o g H1 :=
  fnQ_tmp (.inr ho) rfl hle hg ⟨e, rfl, fun h => absurd h he⟩
end
end Go.RI
