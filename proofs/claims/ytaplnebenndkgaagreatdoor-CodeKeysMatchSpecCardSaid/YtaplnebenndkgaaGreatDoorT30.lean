/- Rules for runs of the small language over a partly known heap, and what the functions on the way of the law compute. Conditions: none. -/
import Derived.Test.YtaplnebenndkgaaGreatDoorT29
set_option linter.all false
namespace Go.RI
open Fx
set_option maxHeartbeats 2000000
set_option maxRecDepth 10000
open Zs in
noncomputable def nod1 : ACode := q (r [A 0 1 7,L 7 8,E 8 3 9,M 9 10,H 10 (A 0 1 11),H 10 (L 11 12),H 10 (E 12 4 13),U 10 13 14,M 14 15,H 15 (A 0 1 16),H 15 (L 16 17),H 15 (E 17 5 18),U 15 18 19,M 19 3]) (q (l 0 (q (r [A 0 1 21,L 21 22,B .lss (t 22) (i 1) 23,M 23 24,H 24 (A 0 1 25),H 24 (L 25 26),H 24 (B .gtr (t 26) (i 5) 27),U 24 27 28,M 28 20]) (k 20 (q (r [N (i 2) 2]) .ret) (q (r [A 0 1 30,L 30 31,F 31 1 32,M 32 33,G 33 (A 1 1 34),G 33 (L 34 35),G 33 (F 35 0 36),P 33 36 37,M 37 38,H 38 (A 1 1 39),H 38 (L 39 40),H 38 (B .lss (t 40) (i 0) 41),U 38 41 42,M 42 43,H 43 (A 1 1 44),H 43 (L 44 45),H 43 (B .gtr (t 45) (i 1073741824) 46),U 43 46 47,M 47 29]) (k 29 (q (r [N (i 2) 2]) .ret) (q (r [M 3 49,n 49 50,M 50 51,G 51 (A 2 1 52),G 51 (L 52 53),G 51 (B .neq (t 53) (s []) 54),P 51 54 55,M 55 56,H 56 (A 0 1 57),H 56 (L 57 58),H 56 (F 58 2 59),H 56 (M 59 60),G 60 (A 3 1 61),G 60 (Q 3 61 62),G 60 (c 21 [62] 63),G 60 (n 63 64),H 56 (P 60 64 65),U 56 65 66,M 66 48]) (k 48 (q (r [N (i 2) 2]) .ret) (q (r [A 0 1 68,L 68 69,E 69 2 70,M 70 71,G 71 (A 3 1 72),G 71 (Q 3 72 73),G 71 (c 22 [73] 74),G 71 (F 74 0 75),P 71 75 76,M 76 67]) (k 67 (q (r [N (i 2) 2]) .ret) (q (r [A 0 1 78,L 78 79,F 79 5 80,M 80 81,G 81 (A 6 1 82),G 81 (L 82 83),G 81 (V 83 84),G 81 (B .gtr (t 84) (i 0) 85),P 81 85 86,M 86 87,H 87 (A 0 1 88),H 87 (L 88 89),H 87 (E 89 5 90),H 87 (M 90 91),G 91 (A 6 1 92),G 91 (L 92 93),G 91 (V 93 94),G 91 (B .lss (t 94) (i 1) 95),G 91 (M 95 96),H 96 (A 6 1 97),H 96 (L 97 98),H 96 (V 98 99),H 96 (B .gtr (t 99) (i 32) 100),G 91 (U 96 100 101),H 87 (P 91 101 102),U 87 102 103,M 103 77]) (k 77 (q (r [N (i 2) 2]) .ret) (q (r [A 0 1 105,L 105 106,E 106 4 107,M 107 108,G 108 (A 2 1 109),G 108 (L 109 110),G 108 (W 110 111),G 108 (B .gtr (t 111) (i 4000) 112),P 108 112 113,M 113 114,H 114 (A 0 1 115),H 114 (L 115 116),H 114 (F 116 4 117),H 114 (M 117 118),G 118 (A 2 1 119),G 118 (L 119 120),G 118 (W 120 121),G 118 (B .gtr (t 121) (i 255) 122),H 114 (P 118 122 123),U 114 123 124,M 124 104]) (k 104 (q (r [N (i 3) 2]) .ret) .skip))))))))))))) nod2)
section
variable {fs : Fns} {orc : Oracle} {H : Hp}
variable {args : List (List AV)} {vn vd va : AV} {nu de : List Int} {var : Int} {name : List Nat} {neg : Bool}
theorem node_1 (h22 : ∀ H', Le H H' → CallS fs orc (.func (.func 22) [] []) [.agg [.bool neg, vn, vd]] H' fun r _ => ∃ e : Nat, r = .int .i64 (.ofNat e) ∧ (e = 0 → NumOk nu de)) (h21 : Code fs orc 21 F21)
    {lo b : Nat} {H1 : Hp} {g : Env} (hs : ∀ c, c ∈ args → TermAt H c) (ih : ∀ c, c ∈ args → NIH fs orc H c) (hn : NumAt H vn vd nu de) (ha : Rd H 7 va args.flatten) {H0 : Hp} (hle0 : Le H H0) (hle : Le H0 H1)
    (hat : H1 b = some (.own 27 [.int .i64 (Int.ofNat 1), .int .i64 var, .str name, .bool neg, vn, vd, va])) (f1 : g 1 = .ptr b 0) :
    SOk fs orc nod1 g H1 lo (fnQ F11 H0 (NPost H [.int .i64 (Int.ofNat 1), .int .i64 var, .str name, .bool neg, vn, vd, va])) := by
  have hlen : ∀ c, c ∈ args → c.length = 7 := fun c hc => (hs c hc).len
  have hfl := flat_len hlen
  have m1 := rdH_own hat
  have m3 := rdNH_sub hat 3 3 [.bool neg, vn, vd] rfl rfl
  have hn1 := hn.mono (hle0.trans hle)
  have ha1 := ha.mono (hle0.trans hle)
  have a3 : (Int.ofNat 1 == Int.ofNat 3) = false := rfl
  have a4 : (Int.ofNat 1 == Int.ofNat 4) = false := rfl
  have a5 : (Int.ofNat 1 == Int.ofNat 5) = false := rfl
  have a2 : (Int.ofNat 1 == Int.ofNat 2) = false := rfl
  have n1 : (Int.ofNat 1 != Int.ofNat 1) = false := rfl
  have n2 : (Int.ofNat 1 != Int.ofNat 2) = true := rfl
  have n5 : (Int.ofNat 1 != Int.ofNat 5) = true := rfl
  have n4 : (Int.ofNat 1 != Int.ofNat 4) = true := rfl
  have l1 : decide (Int.ofNat 1 < Int.ofNat 1) = false := rfl
  have g5 : decide (Int.ofNat 1 > Int.ofNat 5) = false := rfl
  unfold nod1
  repeat' first | (refine node_out (e := 2) rfl (by decide) hle ?_; focus (simp only [↓ez, ↓reduceIte, Nat.reduceEqDiff]; done)) | refine sops_pv (by simp only [↓pw, ↓ez, ↓reduceIte, Nat.reduceEqDiff, binA, numA, ibin, unA, pz, Bool.not_true, Bool.not_false, m1, pz, a3, a4, a5, a2, n1, n2, n5, n4, l1, g5, *]; rfl) ?_ | refine sops_on ?_ ?_; focus (simp only [↓ez, ↓reduceIte, Nat.reduceEqDiff, m1, pz, a3, a4, a5, a2, n1, n2, n5, n4, l1, g5, *]; done) | refine sops_off (w' := true) ?_ rfl ?_; focus (simp only [↓ez, ↓reduceIte, Nat.reduceEqDiff, m1, pz, a3, a4, a5, a2, n1, n2, n5, n4, l1, g5, *]; done) | refine sops_off (w' := false) ?_ rfl ?_; focus (simp only [↓ez, ↓reduceIte, Nat.reduceEqDiff, m1, pz, a3, a4, a5, a2, n1, n2, n5, n4, l1, g5, *]; done) | refine sops_offU ?_ ?_; focus (simp only [↓ez, ↓reduceIte, Nat.reduceEqDiff, m1, pz, a3, a4, a5, a2, n1, n2, n5, n4, l1, g5, *]; done) | refine sops_splitF (by simp only [↓ez, ↓reduceIte, Nat.reduceEqDiff, m1, pz, a3, a4, a5, a2, n1, n2, n5, n4, l1, g5, *]; rfl) (fun hb => ?_) (fun hb => ?_) | refine sops_nil ?_ | refine seqQ_normal ?_ | refine sok_seq ?_ | refine sok_region ?_ | refine sok_ret ?_ | refine sok_block ?_ | refine sok_condT ?_ ?_; focus (simp only [↓ez, ↓reduceIte, Nat.reduceEqDiff, m1, pz, a3, a4, a5, a2, n1, n2, n5, n4, l1, g5, *]; done) | refine sok_condF ?_ ?_; focus (simp only [↓ez, ↓reduceIte, Nat.reduceEqDiff, m1, pz, a3, a4, a5, a2, n1, n2, n5, n4, l1, g5, *]; done) | refine sok_cond _ (by simp only [↓ez, ↓reduceIte, Nat.reduceEqDiff, m1, pz, a3, a4, a5, a2, n1, n2, n5, n4, l1, g5, *]; rfl) (fun hb => ?_) (fun hb => ?_)
  all_goals (
    refine sops_call (as := [.agg [.bool neg, vn, vd]]) (by simp only [↓ez, ↓reduceIte, Nat.reduceEqDiff]) (noNumber_ok h21 hn1) fun x H2 hl2 hx => ?_
    obtain ⟨bb, rfl, hx⟩ := hx
    have m1 := rdH_own (hl2 _ _ hat)
    have ha1 := ha1.mono hl2
    replace hle := hle.trans hl2
    have hroot : bb = true → RootOk H [.int .i64 (Int.ofNat 1), .int .i64 var, .str name, .bool neg, vn, vd, va] := fun he => ⟨_, _, _, _, _, _, _, nu, de, rfl, hn, by decide, by decide, fun _ => hx he, fun h => by cases h⟩
    have hdone : bb = true → ∀ g2 : Env, g2 1 = .ptr b 0 → args.length ≤ 32 → SOk fs orc nod2 g2 H2 lo (fnQ F11 H0 (NPost H [.int .i64 (Int.ofNat 1), .int .i64 var, .str name, .bool neg, vn, vd, va])) := fun he g2 q1 q2 => node_loop hs ih ha1 q2 (hroot he) hle0 hle (m1 6) q1
    rcases bb with _ | _
    rotate_left
    · replace hdone := hdone rfl
      repeat' first | (refine node_out (e := 2) rfl (by decide) hle ?_; focus (simp only [↓ez, ↓reduceIte, Nat.reduceEqDiff]; done)) | (refine node_out (e := 3) rfl (by decide) hle ?_; focus (simp only [↓ez, ↓reduceIte, Nat.reduceEqDiff]; done)) | (refine sops_len (c := args.flatten) args.length ?_ hfl (by decide) ?_; focus (simp only [↓ez, ↓reduceIte, Nat.reduceEqDiff]; exact ha1)) | refine hdone _ ?_ ?_ | refine sops_pv (by simp only [↓pw, ↓ez, ↓reduceIte, Nat.reduceEqDiff, binA, numA, ibin, unA, pz, Bool.not_true, Bool.not_false, m1, pz, Bool.not_true, Bool.not_false, a3, a4, a5, a2, n1, n2, n5, n4, l1, g5, *]; rfl) ?_ | refine sops_on ?_ ?_; focus (simp only [↓ez, ↓reduceIte, Nat.reduceEqDiff, m1, pz, Bool.not_true, Bool.not_false, a3, a4, a5, a2, n1, n2, n5, n4, l1, g5, *]; done) | refine sops_off (w' := true) ?_ rfl ?_; focus (simp only [↓ez, ↓reduceIte, Nat.reduceEqDiff, m1, pz, Bool.not_true, Bool.not_false, a3, a4, a5, a2, n1, n2, n5, n4, l1, g5, *]; done) | refine sops_off (w' := false) ?_ rfl ?_; focus (simp only [↓ez, ↓reduceIte, Nat.reduceEqDiff, m1, pz, Bool.not_true, Bool.not_false, a3, a4, a5, a2, n1, n2, n5, n4, l1, g5, *]; done) | refine sops_offU ?_ ?_; focus (simp only [↓ez, ↓reduceIte, Nat.reduceEqDiff, m1, pz, Bool.not_true, Bool.not_false, a3, a4, a5, a2, n1, n2, n5, n4, l1, g5, *]; done) | refine sops_splitF (by simp only [↓ez, ↓reduceIte, Nat.reduceEqDiff, m1, pz, Bool.not_true, Bool.not_false, a3, a4, a5, a2, n1, n2, n5, n4, l1, g5, *]; rfl) (fun hb => ?_) (fun hb => ?_) | refine sops_nil ?_ | refine seqQ_normal ?_ | refine sok_seq ?_ | refine sok_region ?_ | refine sok_skip ?_ | refine sok_ret ?_ | refine sok_condT ?_ ?_; focus (simp only [↓ez, ↓reduceIte, Nat.reduceEqDiff, m1, pz, Bool.not_true, Bool.not_false, a3, a4, a5, a2, n1, n2, n5, n4, l1, g5, *]; done) | refine sok_condF ?_ ?_; focus (simp only [↓ez, ↓reduceIte, Nat.reduceEqDiff, m1, pz, Bool.not_true, Bool.not_false, a3, a4, a5, a2, n1, n2, n5, n4, l1, g5, *]; done) | refine sok_cond _ (by simp only [↓ez, ↓reduceIte, Nat.reduceEqDiff, m1, pz, Bool.not_true, Bool.not_false, a3, a4, a5, a2, n1, n2, n5, n4, l1, g5, *]; rfl) (fun hb => ?_) (fun hb => ?_)
      all_goals first | (simp only [↓ez, ↓reduceIte, Nat.reduceEqDiff, f1]; done) | (have q := of_decide_eq_false (‹decide (Int.ofNat args.length > Int.ofNat 32) = false›); simp only [Int.ofNat_eq_natCast] at q; omega) | (have q := of_decide_eq_false (‹decide (Int.ofNat args.length > Int.ofNat 0) = false›); simp only [Int.ofNat_eq_natCast] at q; omega)
    · skip
      repeat' first | (refine node_out (e := 2) rfl (by decide) hle ?_; focus (simp only [↓ez, ↓reduceIte, Nat.reduceEqDiff]; done)) | refine sops_pv (by simp only [↓pw, ↓ez, ↓reduceIte, Nat.reduceEqDiff, binA, numA, ibin, unA, pz, Bool.not_true, Bool.not_false, m1, pz, Bool.not_true, Bool.not_false, a3, a4, a5, a2, n1, n2, n5, n4, l1, g5, *]; rfl) ?_ | refine sops_on ?_ ?_; focus (simp only [↓ez, ↓reduceIte, Nat.reduceEqDiff, m1, pz, Bool.not_true, Bool.not_false, a3, a4, a5, a2, n1, n2, n5, n4, l1, g5, *]; done) | refine sops_nil ?_ | refine seqQ_normal ?_ | refine sok_seq ?_ | refine sok_region ?_ | refine sok_ret ?_ | refine sok_condT ?_ ?_; focus (simp only [↓ez, ↓reduceIte, Nat.reduceEqDiff, m1, pz, Bool.not_true, Bool.not_false, a3, a4, a5, a2, n1, n2, n5, n4, l1, g5, *]; done)
  )
theorem node_2 (h22 : ∀ H', Le H H' → CallS fs orc (.func (.func 22) [] []) [.agg [.bool neg, vn, vd]] H' fun r _ => ∃ e : Nat, r = .int .i64 (.ofNat e) ∧ (e = 0 → NumOk nu de)) (h21 : Code fs orc 21 F21)
    {lo b : Nat} {H1 : Hp} {g : Env} (hs : ∀ c, c ∈ args → TermAt H c) (ih : ∀ c, c ∈ args → NIH fs orc H c) (hn : NumAt H vn vd nu de) (ha : Rd H 7 va args.flatten) {H0 : Hp} (hle0 : Le H H0) (hle : Le H0 H1)
    (hat : H1 b = some (.own 27 [.int .i64 (Int.ofNat 2), .int .i64 var, .str name, .bool neg, vn, vd, va])) (f1 : g 1 = .ptr b 0) :
    SOk fs orc nod1 g H1 lo (fnQ F11 H0 (NPost H [.int .i64 (Int.ofNat 2), .int .i64 var, .str name, .bool neg, vn, vd, va])) := by
  have hlen : ∀ c, c ∈ args → c.length = 7 := fun c hc => (hs c hc).len
  have hfl := flat_len hlen
  have m1 := rdH_own hat
  have m3 := rdNH_sub hat 3 3 [.bool neg, vn, vd] rfl rfl
  have hn1 := hn.mono (hle0.trans hle)
  have ha1 := ha.mono (hle0.trans hle)
  have a3 : (Int.ofNat 2 == Int.ofNat 3) = false := rfl
  have a4 : (Int.ofNat 2 == Int.ofNat 4) = false := rfl
  have a5 : (Int.ofNat 2 == Int.ofNat 5) = false := rfl
  have a2 : (Int.ofNat 2 == Int.ofNat 2) = true := rfl
  have n1 : (Int.ofNat 2 != Int.ofNat 1) = true := rfl
  have n2 : (Int.ofNat 2 != Int.ofNat 2) = false := rfl
  have n5 : (Int.ofNat 2 != Int.ofNat 5) = true := rfl
  have n4 : (Int.ofNat 2 != Int.ofNat 4) = true := rfl
  have l1 : decide (Int.ofNat 2 < Int.ofNat 1) = false := rfl
  have g5 : decide (Int.ofNat 2 > Int.ofNat 5) = false := rfl
  unfold nod1
  repeat' first | (refine node_out (e := 2) rfl (by decide) hle ?_; focus (simp only [↓ez, ↓reduceIte, Nat.reduceEqDiff]; done)) | refine sops_pv (by simp only [↓pw, ↓ez, ↓reduceIte, Nat.reduceEqDiff, binA, numA, ibin, unA, pz, Bool.not_true, Bool.not_false, m1, pz, a3, a4, a5, a2, n1, n2, n5, n4, l1, g5, *]; rfl) ?_ | refine sops_on ?_ ?_; focus (simp only [↓ez, ↓reduceIte, Nat.reduceEqDiff, m1, pz, a3, a4, a5, a2, n1, n2, n5, n4, l1, g5, *]; done) | refine sops_off (w' := true) ?_ rfl ?_; focus (simp only [↓ez, ↓reduceIte, Nat.reduceEqDiff, m1, pz, a3, a4, a5, a2, n1, n2, n5, n4, l1, g5, *]; done) | refine sops_off (w' := false) ?_ rfl ?_; focus (simp only [↓ez, ↓reduceIte, Nat.reduceEqDiff, m1, pz, a3, a4, a5, a2, n1, n2, n5, n4, l1, g5, *]; done) | refine sops_offU ?_ ?_; focus (simp only [↓ez, ↓reduceIte, Nat.reduceEqDiff, m1, pz, a3, a4, a5, a2, n1, n2, n5, n4, l1, g5, *]; done) | refine sops_splitF (by simp only [↓ez, ↓reduceIte, Nat.reduceEqDiff, m1, pz, a3, a4, a5, a2, n1, n2, n5, n4, l1, g5, *]; rfl) (fun hb => ?_) (fun hb => ?_) | refine sops_nil ?_ | refine seqQ_normal ?_ | refine sok_seq ?_ | refine sok_region ?_ | refine sok_ret ?_ | refine sok_block ?_ | refine sok_condT ?_ ?_; focus (simp only [↓ez, ↓reduceIte, Nat.reduceEqDiff, m1, pz, a3, a4, a5, a2, n1, n2, n5, n4, l1, g5, *]; done) | refine sok_condF ?_ ?_; focus (simp only [↓ez, ↓reduceIte, Nat.reduceEqDiff, m1, pz, a3, a4, a5, a2, n1, n2, n5, n4, l1, g5, *]; done) | refine sok_cond _ (by simp only [↓ez, ↓reduceIte, Nat.reduceEqDiff, m1, pz, a3, a4, a5, a2, n1, n2, n5, n4, l1, g5, *]; rfl) (fun hb => ?_) (fun hb => ?_)
  all_goals (
    refine sops_call (as := [.agg [.bool neg, vn, vd]]) (by simp only [↓ez, ↓reduceIte, Nat.reduceEqDiff]) (h22 H1 (hle0.trans hle)) fun x H2 hl2 hx => ?_
    obtain ⟨e, rfl, hx⟩ := hx
    have m1 := rdH_own (hl2 _ _ hat)
    have ha1 := ha1.mono hl2
    replace hle := hle.trans hl2
    have hroot : e = 0 → RootOk H [.int .i64 (Int.ofNat 2), .int .i64 var, .str name, .bool neg, vn, vd, va] := fun he => ⟨_, _, _, _, _, _, _, nu, de, rfl, hn, by decide, by decide, fun h => absurd rfl h, fun _ => hx he⟩
    have hdone : e = 0 → ∀ g2 : Env, g2 1 = .ptr b 0 → args.length ≤ 32 → SOk fs orc nod2 g2 H2 lo (fnQ F11 H0 (NPost H [.int .i64 (Int.ofNat 2), .int .i64 var, .str name, .bool neg, vn, vd, va])) := fun he g2 q1 q2 => node_loop hs ih ha1 q2 (hroot he) hle0 hle (m1 6) q1
    by_cases he : e = 0
    · subst he
      replace hdone := hdone rfl
      have z0 : (Int.ofNat 0 != Int.ofNat 0) = false := rfl
      repeat' first | (refine node_out (e := 2) rfl (by decide) hle ?_; focus (simp only [↓ez, ↓reduceIte, Nat.reduceEqDiff]; done)) | (refine node_out (e := 3) rfl (by decide) hle ?_; focus (simp only [↓ez, ↓reduceIte, Nat.reduceEqDiff]; done)) | (refine sops_len (c := args.flatten) args.length ?_ hfl (by decide) ?_; focus (simp only [↓ez, ↓reduceIte, Nat.reduceEqDiff]; exact ha1)) | refine hdone _ ?_ ?_ | refine sops_pv (by simp only [↓pw, ↓ez, ↓reduceIte, Nat.reduceEqDiff, binA, numA, ibin, unA, pz, Bool.not_true, Bool.not_false, m1, pz, z0, a3, a4, a5, a2, n1, n2, n5, n4, l1, g5, *]; rfl) ?_ | refine sops_on ?_ ?_; focus (simp only [↓ez, ↓reduceIte, Nat.reduceEqDiff, m1, pz, z0, a3, a4, a5, a2, n1, n2, n5, n4, l1, g5, *]; done) | refine sops_off (w' := true) ?_ rfl ?_; focus (simp only [↓ez, ↓reduceIte, Nat.reduceEqDiff, m1, pz, z0, a3, a4, a5, a2, n1, n2, n5, n4, l1, g5, *]; done) | refine sops_off (w' := false) ?_ rfl ?_; focus (simp only [↓ez, ↓reduceIte, Nat.reduceEqDiff, m1, pz, z0, a3, a4, a5, a2, n1, n2, n5, n4, l1, g5, *]; done) | refine sops_offU ?_ ?_; focus (simp only [↓ez, ↓reduceIte, Nat.reduceEqDiff, m1, pz, z0, a3, a4, a5, a2, n1, n2, n5, n4, l1, g5, *]; done) | refine sops_splitF (by simp only [↓ez, ↓reduceIte, Nat.reduceEqDiff, m1, pz, z0, a3, a4, a5, a2, n1, n2, n5, n4, l1, g5, *]; rfl) (fun hb => ?_) (fun hb => ?_) | refine sops_nil ?_ | refine seqQ_normal ?_ | refine sok_seq ?_ | refine sok_region ?_ | refine sok_skip ?_ | refine sok_ret ?_ | refine sok_condT ?_ ?_; focus (simp only [↓ez, ↓reduceIte, Nat.reduceEqDiff, m1, pz, z0, a3, a4, a5, a2, n1, n2, n5, n4, l1, g5, *]; done) | refine sok_condF ?_ ?_; focus (simp only [↓ez, ↓reduceIte, Nat.reduceEqDiff, m1, pz, z0, a3, a4, a5, a2, n1, n2, n5, n4, l1, g5, *]; done) | refine sok_cond _ (by simp only [↓ez, ↓reduceIte, Nat.reduceEqDiff, m1, pz, z0, a3, a4, a5, a2, n1, n2, n5, n4, l1, g5, *]; rfl) (fun hb => ?_) (fun hb => ?_)
      all_goals first | (simp only [↓ez, ↓reduceIte, Nat.reduceEqDiff, f1]; done) | (have q := of_decide_eq_false (‹decide (Int.ofNat args.length > Int.ofNat 32) = false›); simp only [Int.ofNat_eq_natCast] at q; omega) | (have q := of_decide_eq_false (‹decide (Int.ofNat args.length > Int.ofNat 0) = false›); simp only [Int.ofNat_eq_natCast] at q; omega)
    · have z0 : (Int.ofNat e != Int.ofNat 0) = true := by rw [bne_iff_ne]; simp only [Int.ofNat_eq_natCast]; omega
      repeat' first | (refine node_out (e := 2) rfl (by decide) hle ?_; focus (simp only [↓ez, ↓reduceIte, Nat.reduceEqDiff]; done)) | refine sops_pv (by simp only [↓pw, ↓ez, ↓reduceIte, Nat.reduceEqDiff, binA, numA, ibin, unA, pz, Bool.not_true, Bool.not_false, m1, pz, z0, a3, a4, a5, a2, n1, n2, n5, n4, l1, g5, *]; rfl) ?_ | refine sops_on ?_ ?_; focus (simp only [↓ez, ↓reduceIte, Nat.reduceEqDiff, m1, pz, z0, a3, a4, a5, a2, n1, n2, n5, n4, l1, g5, *]; done) | refine sops_nil ?_ | refine seqQ_normal ?_ | refine sok_seq ?_ | refine sok_region ?_ | refine sok_ret ?_ | refine sok_condT ?_ ?_; focus (simp only [↓ez, ↓reduceIte, Nat.reduceEqDiff, m1, pz, z0, a3, a4, a5, a2, n1, n2, n5, n4, l1, g5, *]; done)
  )
theorem node_3 (h22 : ∀ H', Le H H' → CallS fs orc (.func (.func 22) [] []) [.agg [.bool neg, vn, vd]] H' fun r _ => ∃ e : Nat, r = .int .i64 (.ofNat e) ∧ (e = 0 → NumOk nu de)) (h21 : Code fs orc 21 F21)
    {lo b : Nat} {H1 : Hp} {g : Env} (hs : ∀ c, c ∈ args → TermAt H c) (ih : ∀ c, c ∈ args → NIH fs orc H c) (hn : NumAt H vn vd nu de) (ha : Rd H 7 va args.flatten) {H0 : Hp} (hle0 : Le H H0) (hle : Le H0 H1)
    (hat : H1 b = some (.own 27 [.int .i64 (Int.ofNat 3), .int .i64 var, .str name, .bool neg, vn, vd, va])) (f1 : g 1 = .ptr b 0) :
    SOk fs orc nod1 g H1 lo (fnQ F11 H0 (NPost H [.int .i64 (Int.ofNat 3), .int .i64 var, .str name, .bool neg, vn, vd, va])) := by
  have hlen : ∀ c, c ∈ args → c.length = 7 := fun c hc => (hs c hc).len
  have hfl := flat_len hlen
  have m1 := rdH_own hat
  have m3 := rdNH_sub hat 3 3 [.bool neg, vn, vd] rfl rfl
  have hn1 := hn.mono (hle0.trans hle)
  have ha1 := ha.mono (hle0.trans hle)
  have a3 : (Int.ofNat 3 == Int.ofNat 3) = true := rfl
  have a4 : (Int.ofNat 3 == Int.ofNat 4) = false := rfl
  have a5 : (Int.ofNat 3 == Int.ofNat 5) = false := rfl
  have a2 : (Int.ofNat 3 == Int.ofNat 2) = false := rfl
  have n1 : (Int.ofNat 3 != Int.ofNat 1) = true := rfl
  have n2 : (Int.ofNat 3 != Int.ofNat 2) = true := rfl
  have n5 : (Int.ofNat 3 != Int.ofNat 5) = true := rfl
  have n4 : (Int.ofNat 3 != Int.ofNat 4) = true := rfl
  have l1 : decide (Int.ofNat 3 < Int.ofNat 1) = false := rfl
  have g5 : decide (Int.ofNat 3 > Int.ofNat 5) = false := rfl
  unfold nod1
  repeat' first | (refine node_out (e := 2) rfl (by decide) hle ?_; focus (simp only [↓ez, ↓reduceIte, Nat.reduceEqDiff]; done)) | refine sops_pv (by simp only [↓pw, ↓ez, ↓reduceIte, Nat.reduceEqDiff, binA, numA, ibin, unA, pz, Bool.not_true, Bool.not_false, m1, pz, a3, a4, a5, a2, n1, n2, n5, n4, l1, g5, *]; rfl) ?_ | refine sops_on ?_ ?_; focus (simp only [↓ez, ↓reduceIte, Nat.reduceEqDiff, m1, pz, a3, a4, a5, a2, n1, n2, n5, n4, l1, g5, *]; done) | refine sops_off (w' := true) ?_ rfl ?_; focus (simp only [↓ez, ↓reduceIte, Nat.reduceEqDiff, m1, pz, a3, a4, a5, a2, n1, n2, n5, n4, l1, g5, *]; done) | refine sops_off (w' := false) ?_ rfl ?_; focus (simp only [↓ez, ↓reduceIte, Nat.reduceEqDiff, m1, pz, a3, a4, a5, a2, n1, n2, n5, n4, l1, g5, *]; done) | refine sops_splitF (by simp only [↓ez, ↓reduceIte, Nat.reduceEqDiff, m1, pz, a3, a4, a5, a2, n1, n2, n5, n4, l1, g5, *]; rfl) (fun hb => ?_) (fun hb => ?_) | refine sops_nil ?_ | refine seqQ_normal ?_ | refine sok_seq ?_ | refine sok_region ?_ | refine sok_ret ?_ | refine sok_block ?_ | refine sok_condT ?_ ?_; focus (simp only [↓ez, ↓reduceIte, Nat.reduceEqDiff, m1, pz, a3, a4, a5, a2, n1, n2, n5, n4, l1, g5, *]; done) | refine sok_condF ?_ ?_; focus (simp only [↓ez, ↓reduceIte, Nat.reduceEqDiff, m1, pz, a3, a4, a5, a2, n1, n2, n5, n4, l1, g5, *]; done) | refine sok_cond _ (by simp only [↓ez, ↓reduceIte, Nat.reduceEqDiff, m1, pz, a3, a4, a5, a2, n1, n2, n5, n4, l1, g5, *]; rfl) (fun hb => ?_) (fun hb => ?_)
  all_goals (
    refine sops_call (as := [.agg [.bool neg, vn, vd]]) (by simp only [↓ez, ↓reduceIte, Nat.reduceEqDiff]) (noNumber_ok h21 hn1) fun x H2 hl2 hx => ?_
    obtain ⟨bb, rfl, hx⟩ := hx
    have m1 := rdH_own (hl2 _ _ hat)
    have ha1 := ha1.mono hl2
    replace hle := hle.trans hl2
    have hroot : bb = true → RootOk H [.int .i64 (Int.ofNat 3), .int .i64 var, .str name, .bool neg, vn, vd, va] := fun he => ⟨_, _, _, _, _, _, _, nu, de, rfl, hn, by decide, by decide, fun _ => hx he, fun h => by cases h⟩
    have hdone : bb = true → ∀ g2 : Env, g2 1 = .ptr b 0 → args.length ≤ 32 → SOk fs orc nod2 g2 H2 lo (fnQ F11 H0 (NPost H [.int .i64 (Int.ofNat 3), .int .i64 var, .str name, .bool neg, vn, vd, va])) := fun he g2 q1 q2 => node_loop hs ih ha1 q2 (hroot he) hle0 hle (m1 6) q1
    rcases bb with _ | _
    rotate_left
    · replace hdone := hdone rfl
      repeat' first | (refine node_out (e := 2) rfl (by decide) hle ?_; focus (simp only [↓ez, ↓reduceIte, Nat.reduceEqDiff]; done)) | (refine node_out (e := 3) rfl (by decide) hle ?_; focus (simp only [↓ez, ↓reduceIte, Nat.reduceEqDiff]; done)) | (refine sops_len (c := args.flatten) args.length ?_ hfl (by decide) ?_; focus (simp only [↓ez, ↓reduceIte, Nat.reduceEqDiff]; exact ha1)) | refine hdone _ ?_ ?_ | refine sops_pv (by simp only [↓pw, ↓ez, ↓reduceIte, Nat.reduceEqDiff, binA, numA, ibin, unA, pz, Bool.not_true, Bool.not_false, m1, pz, Bool.not_true, Bool.not_false, a3, a4, a5, a2, n1, n2, n5, n4, l1, g5, *]; rfl) ?_ | refine sops_on ?_ ?_; focus (simp only [↓ez, ↓reduceIte, Nat.reduceEqDiff, m1, pz, Bool.not_true, Bool.not_false, a3, a4, a5, a2, n1, n2, n5, n4, l1, g5, *]; done) | refine sops_off (w' := true) ?_ rfl ?_; focus (simp only [↓ez, ↓reduceIte, Nat.reduceEqDiff, m1, pz, Bool.not_true, Bool.not_false, a3, a4, a5, a2, n1, n2, n5, n4, l1, g5, *]; done) | refine sops_off (w' := false) ?_ rfl ?_; focus (simp only [↓ez, ↓reduceIte, Nat.reduceEqDiff, m1, pz, Bool.not_true, Bool.not_false, a3, a4, a5, a2, n1, n2, n5, n4, l1, g5, *]; done) | refine sops_offU ?_ ?_; focus (simp only [↓ez, ↓reduceIte, Nat.reduceEqDiff, m1, pz, Bool.not_true, Bool.not_false, a3, a4, a5, a2, n1, n2, n5, n4, l1, g5, *]; done) | refine sops_splitF (by simp only [↓ez, ↓reduceIte, Nat.reduceEqDiff, m1, pz, Bool.not_true, Bool.not_false, a3, a4, a5, a2, n1, n2, n5, n4, l1, g5, *]; rfl) (fun hb => ?_) (fun hb => ?_) | refine sops_nil ?_ | refine seqQ_normal ?_ | refine sok_seq ?_ | refine sok_region ?_ | refine sok_skip ?_ | refine sok_ret ?_ | refine sok_condT ?_ ?_; focus (simp only [↓ez, ↓reduceIte, Nat.reduceEqDiff, m1, pz, Bool.not_true, Bool.not_false, a3, a4, a5, a2, n1, n2, n5, n4, l1, g5, *]; done) | refine sok_condF ?_ ?_; focus (simp only [↓ez, ↓reduceIte, Nat.reduceEqDiff, m1, pz, Bool.not_true, Bool.not_false, a3, a4, a5, a2, n1, n2, n5, n4, l1, g5, *]; done) | refine sok_cond _ (by simp only [↓ez, ↓reduceIte, Nat.reduceEqDiff, m1, pz, Bool.not_true, Bool.not_false, a3, a4, a5, a2, n1, n2, n5, n4, l1, g5, *]; rfl) (fun hb => ?_) (fun hb => ?_)
      all_goals first | (simp only [↓ez, ↓reduceIte, Nat.reduceEqDiff, f1]; done) | (have q := of_decide_eq_false (‹decide (Int.ofNat args.length > Int.ofNat 32) = false›); simp only [Int.ofNat_eq_natCast] at q; omega) | (have q := of_decide_eq_false (‹decide (Int.ofNat args.length > Int.ofNat 0) = false›); simp only [Int.ofNat_eq_natCast] at q; omega)
    · skip
      repeat' first | (refine node_out (e := 2) rfl (by decide) hle ?_; focus (simp only [↓ez, ↓reduceIte, Nat.reduceEqDiff]; done)) | refine sops_pv (by simp only [↓pw, ↓ez, ↓reduceIte, Nat.reduceEqDiff, binA, numA, ibin, unA, pz, Bool.not_true, Bool.not_false, m1, pz, Bool.not_true, Bool.not_false, a3, a4, a5, a2, n1, n2, n5, n4, l1, g5, *]; rfl) ?_ | refine sops_on ?_ ?_; focus (simp only [↓ez, ↓reduceIte, Nat.reduceEqDiff, m1, pz, Bool.not_true, Bool.not_false, a3, a4, a5, a2, n1, n2, n5, n4, l1, g5, *]; done) | refine sops_nil ?_ | refine seqQ_normal ?_ | refine sok_seq ?_ | refine sok_region ?_ | refine sok_ret ?_ | refine sok_condT ?_ ?_; focus (simp only [↓ez, ↓reduceIte, Nat.reduceEqDiff, m1, pz, Bool.not_true, Bool.not_false, a3, a4, a5, a2, n1, n2, n5, n4, l1, g5, *]; done)
  )
theorem node_4 (h22 : ∀ H', Le H H' → CallS fs orc (.func (.func 22) [] []) [.agg [.bool neg, vn, vd]] H' fun r _ => ∃ e : Nat, r = .int .i64 (.ofNat e) ∧ (e = 0 → NumOk nu de)) (h21 : Code fs orc 21 F21)
    {lo b : Nat} {H1 : Hp} {g : Env} (hs : ∀ c, c ∈ args → TermAt H c) (ih : ∀ c, c ∈ args → NIH fs orc H c) (hn : NumAt H vn vd nu de) (ha : Rd H 7 va args.flatten) {H0 : Hp} (hle0 : Le H H0) (hle : Le H0 H1)
    (hat : H1 b = some (.own 27 [.int .i64 (Int.ofNat 4), .int .i64 var, .str name, .bool neg, vn, vd, va])) (f1 : g 1 = .ptr b 0) :
    SOk fs orc nod1 g H1 lo (fnQ F11 H0 (NPost H [.int .i64 (Int.ofNat 4), .int .i64 var, .str name, .bool neg, vn, vd, va])) := by
  have hlen : ∀ c, c ∈ args → c.length = 7 := fun c hc => (hs c hc).len
  have hfl := flat_len hlen
  have m1 := rdH_own hat
  have m3 := rdNH_sub hat 3 3 [.bool neg, vn, vd] rfl rfl
  have hn1 := hn.mono (hle0.trans hle)
  have ha1 := ha.mono (hle0.trans hle)
  have a3 : (Int.ofNat 4 == Int.ofNat 3) = false := rfl
  have a4 : (Int.ofNat 4 == Int.ofNat 4) = true := rfl
  have a5 : (Int.ofNat 4 == Int.ofNat 5) = false := rfl
  have a2 : (Int.ofNat 4 == Int.ofNat 2) = false := rfl
  have n1 : (Int.ofNat 4 != Int.ofNat 1) = true := rfl
  have n2 : (Int.ofNat 4 != Int.ofNat 2) = true := rfl
  have n5 : (Int.ofNat 4 != Int.ofNat 5) = true := rfl
  have n4 : (Int.ofNat 4 != Int.ofNat 4) = false := rfl
  have l1 : decide (Int.ofNat 4 < Int.ofNat 1) = false := rfl
  have g5 : decide (Int.ofNat 4 > Int.ofNat 5) = false := rfl
  unfold nod1
  repeat' first | (refine node_out (e := 2) rfl (by decide) hle ?_; focus (simp only [↓ez, ↓reduceIte, Nat.reduceEqDiff]; done)) | refine sops_pv (by simp only [↓pw, ↓ez, ↓reduceIte, Nat.reduceEqDiff, binA, numA, ibin, unA, pz, Bool.not_true, Bool.not_false, m1, pz, a3, a4, a5, a2, n1, n2, n5, n4, l1, g5, *]; rfl) ?_ | refine sops_on ?_ ?_; focus (simp only [↓ez, ↓reduceIte, Nat.reduceEqDiff, m1, pz, a3, a4, a5, a2, n1, n2, n5, n4, l1, g5, *]; done) | refine sops_off (w' := true) ?_ rfl ?_; focus (simp only [↓ez, ↓reduceIte, Nat.reduceEqDiff, m1, pz, a3, a4, a5, a2, n1, n2, n5, n4, l1, g5, *]; done) | refine sops_off (w' := false) ?_ rfl ?_; focus (simp only [↓ez, ↓reduceIte, Nat.reduceEqDiff, m1, pz, a3, a4, a5, a2, n1, n2, n5, n4, l1, g5, *]; done) | refine sops_splitF (by simp only [↓ez, ↓reduceIte, Nat.reduceEqDiff, m1, pz, a3, a4, a5, a2, n1, n2, n5, n4, l1, g5, *]; rfl) (fun hb => ?_) (fun hb => ?_) | refine sops_nil ?_ | refine seqQ_normal ?_ | refine sok_seq ?_ | refine sok_region ?_ | refine sok_ret ?_ | refine sok_block ?_ | refine sok_condT ?_ ?_; focus (simp only [↓ez, ↓reduceIte, Nat.reduceEqDiff, m1, pz, a3, a4, a5, a2, n1, n2, n5, n4, l1, g5, *]; done) | refine sok_condF ?_ ?_; focus (simp only [↓ez, ↓reduceIte, Nat.reduceEqDiff, m1, pz, a3, a4, a5, a2, n1, n2, n5, n4, l1, g5, *]; done) | refine sok_cond _ (by simp only [↓ez, ↓reduceIte, Nat.reduceEqDiff, m1, pz, a3, a4, a5, a2, n1, n2, n5, n4, l1, g5, *]; rfl) (fun hb => ?_) (fun hb => ?_)
  all_goals (
    refine sops_call (as := [.agg [.bool neg, vn, vd]]) (by simp only [↓ez, ↓reduceIte, Nat.reduceEqDiff]) (noNumber_ok h21 hn1) fun x H2 hl2 hx => ?_
    obtain ⟨bb, rfl, hx⟩ := hx
    have m1 := rdH_own (hl2 _ _ hat)
    have ha1 := ha1.mono hl2
    replace hle := hle.trans hl2
    have hroot : bb = true → RootOk H [.int .i64 (Int.ofNat 4), .int .i64 var, .str name, .bool neg, vn, vd, va] := fun he => ⟨_, _, _, _, _, _, _, nu, de, rfl, hn, by decide, by decide, fun _ => hx he, fun h => by cases h⟩
    have hdone : bb = true → ∀ g2 : Env, g2 1 = .ptr b 0 → args.length ≤ 32 → SOk fs orc nod2 g2 H2 lo (fnQ F11 H0 (NPost H [.int .i64 (Int.ofNat 4), .int .i64 var, .str name, .bool neg, vn, vd, va])) := fun he g2 q1 q2 => node_loop hs ih ha1 q2 (hroot he) hle0 hle (m1 6) q1
    rcases bb with _ | _
    rotate_left
    · replace hdone := hdone rfl
      repeat' first | (refine node_out (e := 2) rfl (by decide) hle ?_; focus (simp only [↓ez, ↓reduceIte, Nat.reduceEqDiff]; done)) | (refine node_out (e := 3) rfl (by decide) hle ?_; focus (simp only [↓ez, ↓reduceIte, Nat.reduceEqDiff]; done)) | (refine sops_len (c := args.flatten) args.length ?_ hfl (by decide) ?_; focus (simp only [↓ez, ↓reduceIte, Nat.reduceEqDiff]; exact ha1)) | refine hdone _ ?_ ?_ | refine sops_pv (by simp only [↓pw, ↓ez, ↓reduceIte, Nat.reduceEqDiff, binA, numA, ibin, unA, pz, Bool.not_true, Bool.not_false, m1, pz, Bool.not_true, Bool.not_false, a3, a4, a5, a2, n1, n2, n5, n4, l1, g5, *]; rfl) ?_ | refine sops_on ?_ ?_; focus (simp only [↓ez, ↓reduceIte, Nat.reduceEqDiff, m1, pz, Bool.not_true, Bool.not_false, a3, a4, a5, a2, n1, n2, n5, n4, l1, g5, *]; done) | refine sops_off (w' := true) ?_ rfl ?_; focus (simp only [↓ez, ↓reduceIte, Nat.reduceEqDiff, m1, pz, Bool.not_true, Bool.not_false, a3, a4, a5, a2, n1, n2, n5, n4, l1, g5, *]; done) | refine sops_off (w' := false) ?_ rfl ?_; focus (simp only [↓ez, ↓reduceIte, Nat.reduceEqDiff, m1, pz, Bool.not_true, Bool.not_false, a3, a4, a5, a2, n1, n2, n5, n4, l1, g5, *]; done) | refine sops_offU ?_ ?_; focus (simp only [↓ez, ↓reduceIte, Nat.reduceEqDiff, m1, pz, Bool.not_true, Bool.not_false, a3, a4, a5, a2, n1, n2, n5, n4, l1, g5, *]; done) | refine sops_splitF (by simp only [↓ez, ↓reduceIte, Nat.reduceEqDiff, m1, pz, Bool.not_true, Bool.not_false, a3, a4, a5, a2, n1, n2, n5, n4, l1, g5, *]; rfl) (fun hb => ?_) (fun hb => ?_) | refine sops_nil ?_ | refine seqQ_normal ?_ | refine sok_seq ?_ | refine sok_region ?_ | refine sok_skip ?_ | refine sok_ret ?_ | refine sok_condT ?_ ?_; focus (simp only [↓ez, ↓reduceIte, Nat.reduceEqDiff, m1, pz, Bool.not_true, Bool.not_false, a3, a4, a5, a2, n1, n2, n5, n4, l1, g5, *]; done) | refine sok_condF ?_ ?_; focus (simp only [↓ez, ↓reduceIte, Nat.reduceEqDiff, m1, pz, Bool.not_true, Bool.not_false, a3, a4, a5, a2, n1, n2, n5, n4, l1, g5, *]; done)
      all_goals first | (simp only [↓ez, ↓reduceIte, Nat.reduceEqDiff, f1]; done) | (have q := of_decide_eq_false (‹decide (Int.ofNat args.length > Int.ofNat 32) = false›); simp only [Int.ofNat_eq_natCast] at q; omega) | (have q := of_decide_eq_false (‹decide (Int.ofNat args.length > Int.ofNat 0) = false›); simp only [Int.ofNat_eq_natCast] at q; omega)
    · skip
      repeat' first | (refine node_out (e := 2) rfl (by decide) hle ?_; focus (simp only [↓ez, ↓reduceIte, Nat.reduceEqDiff]; done)) | refine sops_pv (by simp only [↓pw, ↓ez, ↓reduceIte, Nat.reduceEqDiff, binA, numA, ibin, unA, pz, Bool.not_true, Bool.not_false, m1, pz, Bool.not_true, Bool.not_false, a3, a4, a5, a2, n1, n2, n5, n4, l1, g5, *]; rfl) ?_ | refine sops_on ?_ ?_; focus (simp only [↓ez, ↓reduceIte, Nat.reduceEqDiff, m1, pz, Bool.not_true, Bool.not_false, a3, a4, a5, a2, n1, n2, n5, n4, l1, g5, *]; done) | refine sops_nil ?_ | refine seqQ_normal ?_ | refine sok_seq ?_ | refine sok_region ?_ | refine sok_ret ?_ | refine sok_condT ?_ ?_; focus (simp only [↓ez, ↓reduceIte, Nat.reduceEqDiff, m1, pz, Bool.not_true, Bool.not_false, a3, a4, a5, a2, n1, n2, n5, n4, l1, g5, *]; done)
  )
theorem node_5 (h22 : ∀ H', Le H H' → CallS fs orc (.func (.func 22) [] []) [.agg [.bool neg, vn, vd]] H' fun r _ => ∃ e : Nat, r = .int .i64 (.ofNat e) ∧ (e = 0 → NumOk nu de)) (h21 : Code fs orc 21 F21)
    {lo b : Nat} {H1 : Hp} {g : Env} (hs : ∀ c, c ∈ args → TermAt H c) (ih : ∀ c, c ∈ args → NIH fs orc H c) (hn : NumAt H vn vd nu de) (ha : Rd H 7 va args.flatten) {H0 : Hp} (hle0 : Le H H0) (hle : Le H0 H1)
    (hat : H1 b = some (.own 27 [.int .i64 (Int.ofNat 5), .int .i64 var, .str name, .bool neg, vn, vd, va])) (f1 : g 1 = .ptr b 0) :
    SOk fs orc nod1 g H1 lo (fnQ F11 H0 (NPost H [.int .i64 (Int.ofNat 5), .int .i64 var, .str name, .bool neg, vn, vd, va])) := by
  have hlen : ∀ c, c ∈ args → c.length = 7 := fun c hc => (hs c hc).len
  have hfl := flat_len hlen
  have m1 := rdH_own hat
  have m3 := rdNH_sub hat 3 3 [.bool neg, vn, vd] rfl rfl
  have hn1 := hn.mono (hle0.trans hle)
  have ha1 := ha.mono (hle0.trans hle)
  have a3 : (Int.ofNat 5 == Int.ofNat 3) = false := rfl
  have a4 : (Int.ofNat 5 == Int.ofNat 4) = false := rfl
  have a5 : (Int.ofNat 5 == Int.ofNat 5) = true := rfl
  have a2 : (Int.ofNat 5 == Int.ofNat 2) = false := rfl
  have n1 : (Int.ofNat 5 != Int.ofNat 1) = true := rfl
  have n2 : (Int.ofNat 5 != Int.ofNat 2) = true := rfl
  have n5 : (Int.ofNat 5 != Int.ofNat 5) = false := rfl
  have n4 : (Int.ofNat 5 != Int.ofNat 4) = true := rfl
  have l1 : decide (Int.ofNat 5 < Int.ofNat 1) = false := rfl
  have g5 : decide (Int.ofNat 5 > Int.ofNat 5) = false := rfl
  unfold nod1
  repeat' first | (refine node_out (e := 2) rfl (by decide) hle ?_; focus (simp only [↓ez, ↓reduceIte, Nat.reduceEqDiff]; done)) | refine sops_pv (by simp only [↓pw, ↓ez, ↓reduceIte, Nat.reduceEqDiff, binA, numA, ibin, unA, pz, Bool.not_true, Bool.not_false, m1, pz, a3, a4, a5, a2, n1, n2, n5, n4, l1, g5, *]; rfl) ?_ | refine sops_on ?_ ?_; focus (simp only [↓ez, ↓reduceIte, Nat.reduceEqDiff, m1, pz, a3, a4, a5, a2, n1, n2, n5, n4, l1, g5, *]; done) | refine sops_off (w' := true) ?_ rfl ?_; focus (simp only [↓ez, ↓reduceIte, Nat.reduceEqDiff, m1, pz, a3, a4, a5, a2, n1, n2, n5, n4, l1, g5, *]; done) | refine sops_off (w' := false) ?_ rfl ?_; focus (simp only [↓ez, ↓reduceIte, Nat.reduceEqDiff, m1, pz, a3, a4, a5, a2, n1, n2, n5, n4, l1, g5, *]; done) | refine sops_splitF (by simp only [↓ez, ↓reduceIte, Nat.reduceEqDiff, m1, pz, a3, a4, a5, a2, n1, n2, n5, n4, l1, g5, *]; rfl) (fun hb => ?_) (fun hb => ?_) | refine sops_nil ?_ | refine seqQ_normal ?_ | refine sok_seq ?_ | refine sok_region ?_ | refine sok_ret ?_ | refine sok_block ?_ | refine sok_condT ?_ ?_; focus (simp only [↓ez, ↓reduceIte, Nat.reduceEqDiff, m1, pz, a3, a4, a5, a2, n1, n2, n5, n4, l1, g5, *]; done) | refine sok_condF ?_ ?_; focus (simp only [↓ez, ↓reduceIte, Nat.reduceEqDiff, m1, pz, a3, a4, a5, a2, n1, n2, n5, n4, l1, g5, *]; done) | refine sok_cond _ (by simp only [↓ez, ↓reduceIte, Nat.reduceEqDiff, m1, pz, a3, a4, a5, a2, n1, n2, n5, n4, l1, g5, *]; rfl) (fun hb => ?_) (fun hb => ?_)
  all_goals (
    refine sops_call (as := [.agg [.bool neg, vn, vd]]) (by simp only [↓ez, ↓reduceIte, Nat.reduceEqDiff]) (noNumber_ok h21 hn1) fun x H2 hl2 hx => ?_
    obtain ⟨bb, rfl, hx⟩ := hx
    have m1 := rdH_own (hl2 _ _ hat)
    have ha1 := ha1.mono hl2
    replace hle := hle.trans hl2
    have hroot : bb = true → RootOk H [.int .i64 (Int.ofNat 5), .int .i64 var, .str name, .bool neg, vn, vd, va] := fun he => ⟨_, _, _, _, _, _, _, nu, de, rfl, hn, by decide, by decide, fun _ => hx he, fun h => by cases h⟩
    have hdone : bb = true → ∀ g2 : Env, g2 1 = .ptr b 0 → args.length ≤ 32 → SOk fs orc nod2 g2 H2 lo (fnQ F11 H0 (NPost H [.int .i64 (Int.ofNat 5), .int .i64 var, .str name, .bool neg, vn, vd, va])) := fun he g2 q1 q2 => node_loop hs ih ha1 q2 (hroot he) hle0 hle (m1 6) q1
    rcases bb with _ | _
    rotate_left
    · replace hdone := hdone rfl
      repeat' first | (refine node_out (e := 2) rfl (by decide) hle ?_; focus (simp only [↓ez, ↓reduceIte, Nat.reduceEqDiff]; done)) | (refine node_out (e := 3) rfl (by decide) hle ?_; focus (simp only [↓ez, ↓reduceIte, Nat.reduceEqDiff]; done)) | (refine sops_len (c := args.flatten) args.length ?_ hfl (by decide) ?_; focus (simp only [↓ez, ↓reduceIte, Nat.reduceEqDiff]; exact ha1)) | refine hdone _ ?_ ?_ | refine sops_pv (by simp only [↓pw, ↓ez, ↓reduceIte, Nat.reduceEqDiff, binA, numA, ibin, unA, pz, Bool.not_true, Bool.not_false, m1, pz, Bool.not_true, Bool.not_false, a3, a4, a5, a2, n1, n2, n5, n4, l1, g5, *]; rfl) ?_ | refine sops_on ?_ ?_; focus (simp only [↓ez, ↓reduceIte, Nat.reduceEqDiff, m1, pz, Bool.not_true, Bool.not_false, a3, a4, a5, a2, n1, n2, n5, n4, l1, g5, *]; done) | refine sops_off (w' := true) ?_ rfl ?_; focus (simp only [↓ez, ↓reduceIte, Nat.reduceEqDiff, m1, pz, Bool.not_true, Bool.not_false, a3, a4, a5, a2, n1, n2, n5, n4, l1, g5, *]; done) | refine sops_off (w' := false) ?_ rfl ?_; focus (simp only [↓ez, ↓reduceIte, Nat.reduceEqDiff, m1, pz, Bool.not_true, Bool.not_false, a3, a4, a5, a2, n1, n2, n5, n4, l1, g5, *]; done) | refine sops_splitF (by simp only [↓ez, ↓reduceIte, Nat.reduceEqDiff, m1, pz, Bool.not_true, Bool.not_false, a3, a4, a5, a2, n1, n2, n5, n4, l1, g5, *]; rfl) (fun hb => ?_) (fun hb => ?_) | refine sops_nil ?_ | refine seqQ_normal ?_ | refine sok_seq ?_ | refine sok_region ?_ | refine sok_skip ?_ | refine sok_ret ?_ | refine sok_condT ?_ ?_; focus (simp only [↓ez, ↓reduceIte, Nat.reduceEqDiff, m1, pz, Bool.not_true, Bool.not_false, a3, a4, a5, a2, n1, n2, n5, n4, l1, g5, *]; done) | refine sok_condF ?_ ?_; focus (simp only [↓ez, ↓reduceIte, Nat.reduceEqDiff, m1, pz, Bool.not_true, Bool.not_false, a3, a4, a5, a2, n1, n2, n5, n4, l1, g5, *]; done) | refine sok_cond _ (by simp only [↓ez, ↓reduceIte, Nat.reduceEqDiff, m1, pz, Bool.not_true, Bool.not_false, a3, a4, a5, a2, n1, n2, n5, n4, l1, g5, *]; rfl) (fun hb => ?_) (fun hb => ?_)
      all_goals first | (simp only [↓ez, ↓reduceIte, Nat.reduceEqDiff, f1]; done) | (have q := of_decide_eq_false (‹decide (Int.ofNat args.length > Int.ofNat 32) = false›); simp only [Int.ofNat_eq_natCast] at q; omega) | (have q := of_decide_eq_false (‹decide (Int.ofNat args.length > Int.ofNat 0) = false›); simp only [Int.ofNat_eq_natCast] at q; omega)
    · skip
      repeat' first | (refine node_out (e := 2) rfl (by decide) hle ?_; focus (simp only [↓ez, ↓reduceIte, Nat.reduceEqDiff]; done)) | refine sops_pv (by simp only [↓pw, ↓ez, ↓reduceIte, Nat.reduceEqDiff, binA, numA, ibin, unA, pz, Bool.not_true, Bool.not_false, m1, pz, Bool.not_true, Bool.not_false, a3, a4, a5, a2, n1, n2, n5, n4, l1, g5, *]; rfl) ?_ | refine sops_on ?_ ?_; focus (simp only [↓ez, ↓reduceIte, Nat.reduceEqDiff, m1, pz, Bool.not_true, Bool.not_false, a3, a4, a5, a2, n1, n2, n5, n4, l1, g5, *]; done) | refine sops_nil ?_ | refine seqQ_normal ?_ | refine sok_seq ?_ | refine sok_region ?_ | refine sok_ret ?_ | refine sok_condT ?_ ?_; focus (simp only [↓ez, ↓reduceIte, Nat.reduceEqDiff, m1, pz, Bool.not_true, Bool.not_false, a3, a4, a5, a2, n1, n2, n5, n4, l1, g5, *]; done)
  )
theorem node_bad {kind : Int} {c : List AV} {H1 : Hp} {lo b : Nat} {g : Env} {H0 : Hp} (hle : Le H0 H1) (hr : ¬ (1 ≤ kind ∧ kind ≤ 5)) (hat : H1 b = some (.own 27 [.int .i64 kind, .int .i64 var, .str name, .bool neg, vn, vd, va])) (f1 : g 1 = .ptr b 0) :
    SOk fs orc nod1 g H1 lo (fnQ F11 H0 (NPost H c)) := by
  have m1 := rdH_own hat
  have a3 : (kind == Int.ofNat 3) = false := by rw [beq_eq_false_iff_ne]; simp only [Int.ofNat_eq_natCast]; omega
  have a4 : (kind == Int.ofNat 4) = false := by rw [beq_eq_false_iff_ne]; simp only [Int.ofNat_eq_natCast]; omega
  have a5 : (kind == Int.ofNat 5) = false := by rw [beq_eq_false_iff_ne]; simp only [Int.ofNat_eq_natCast]; omega
  unfold nod1
  by_cases h1 : kind < 1
  · have l1 : decide (kind < Int.ofNat 1) = true := by rw [decide_eq_true_eq]; simp only [Int.ofNat_eq_natCast]; omega
    repeat' first | (refine node_out (e := 2) rfl (by decide) hle ?_; focus (simp only [↓ez, ↓reduceIte, Nat.reduceEqDiff]; done)) | refine sops_pv (by simp only [↓pw, ↓ez, ↓reduceIte, Nat.reduceEqDiff, binA, numA, ibin, unA, pz, Bool.not_true, Bool.not_false, m1, pz, a3, a4, a5, l1, *]; rfl) ?_ | refine sops_on ?_ ?_; focus (simp only [↓ez, ↓reduceIte, Nat.reduceEqDiff, m1, pz, a3, a4, a5, l1, *]; done) | refine sops_off (w' := true) ?_ rfl ?_; focus (simp only [↓ez, ↓reduceIte, Nat.reduceEqDiff, m1, pz, a3, a4, a5, l1, *]; done) | refine sops_nil ?_ | refine seqQ_normal ?_ | refine sok_seq ?_ | refine sok_region ?_ | refine sok_ret ?_ | refine sok_block ?_ | refine sok_condT ?_ ?_; focus (simp only [↓ez, ↓reduceIte, Nat.reduceEqDiff, m1, pz, a3, a4, a5, l1, *]; done)
  · have l1 : decide (kind < Int.ofNat 1) = false := by rw [decide_eq_false_iff_not]; simp only [Int.ofNat_eq_natCast]; omega
    have g5 : decide (kind > Int.ofNat 5) = true := by rw [decide_eq_true_eq]; simp only [Int.ofNat_eq_natCast]; omega
    repeat' first | (refine node_out (e := 2) rfl (by decide) hle ?_; focus (simp only [↓ez, ↓reduceIte, Nat.reduceEqDiff]; done)) | refine sops_pv (by simp only [↓pw, ↓ez, ↓reduceIte, Nat.reduceEqDiff, binA, numA, ibin, unA, pz, Bool.not_true, Bool.not_false, m1, pz, a3, a4, a5, l1, g5, *]; rfl) ?_ | refine sops_on ?_ ?_; focus (simp only [↓ez, ↓reduceIte, Nat.reduceEqDiff, m1, pz, a3, a4, a5, l1, g5, *]; done) | refine sops_nil ?_ | refine seqQ_normal ?_ | refine sok_seq ?_ | refine sok_region ?_ | refine sok_ret ?_ | refine sok_block ?_ | refine sok_condT ?_ ?_; focus (simp only [↓ez, ↓reduceIte, Nat.reduceEqDiff, m1, pz, a3, a4, a5, l1, g5, *]; done)
end
end Go.RI
