/- A compiler from bodies of Go functions into a small language of values and blocks, and the proof that a run of the compiled text is a run of the program. Conditions: none. -/
import Derived.Test.YtaplnebenndkgaaGreatDoorT09
import Derived.Test.YtaplnebenndkgaaGreatDoorT10
set_option linter.all false
namespace Go.RI
def CLe (c d : AV → List AV → St → Option (AV × St)) : Prop := ∀ f as st r, c f as st = some r → d f as st = some r
def RLe (R S : ACode → Fr → St → Option (AOut × Fr × St)) : Prop := ∀ c fr st r, R c fr st = some r → S c fr st = some r
theorem CLe.stepOp {c d : AV → List AV → St → Option (AV × St)} (h : CLe c d) {o : AOper} {fr : Fr} {st : St} {r : Fr × St} (hs : stepOp c o fr st = some r) : stepOp d o fr st = some r := by
  obtain ⟨op, dst, guard⟩ := o
  unfold RI.stepOp at hs ⊢
  simp only at hs ⊢
  cases e : wantedA fr.tm guard with
  | false => rw [e] at hs; exact hs
  | true =>
    rw [e] at hs
    cases op
    case call f as =>
      simp only at hs ⊢
      cases e2 : c (ev fr.tm f) (evL fr.tm as) st with
      | none => rw [e2] at hs; cases hs
      | some p => rw [e2] at hs; rw [h _ _ _ _ e2]; exact hs
    all_goals exact hs
theorem CLe.runOps {c d : AV → List AV → St → Option (AV × St)} (h : CLe c d) : ∀ {l : List AOper} {fr : Fr} {st : St} {r : Fr × St}, runOps c l fr st = some r → runOps d l fr st = some r
  | [], _, _, _, hs => hs
  | o :: l, fr, st, r, hs => by
    simp only [RI.runOps] at hs ⊢
    split at hs
    · rename_i fr' st' h1; rw [h.stepOp h1]; exact CLe.runOps h hs
    · cases hs
theorem CLe.runDraw {c d : AV → List AV → St → Option (AV × St)} (h : CLe c d) : ∀ {l : List AOper} {us : List (List Nat)} {i : Nat} {es : List (Nat × Eff)} {fr : Fr} {st : St} {r : Fr × St}, runDraw c l us i es fr st = some r → runDraw d l us i es fr st = some r
  | [], us, _, _, _, _, _, hs => by cases us <;> exact hs
  | _ :: _, [], _, _, _, _, _, hs => by simp [RI.runDraw] at hs
  | o :: l, u :: us, i, es, fr, st, r, hs => by
    simp only [RI.runDraw] at hs ⊢
    split at hs
    · rename_i fr' st' h1
      rw [h.stepOp h1]
      simp only
      split at hs
      · cases hs
      · rename_i hc; try rw [hc]
        exact CLe.runDraw h hs
    · cases hs
theorem RLe.enterA {R S : ACode → Fr → St → Option (AOut × Fr × St)} (h : RLe R S) {fn : AFn} {as : List AV} {st : St} {r : AV × St} (hs : enterA R fn as st = some r) : enterA S fn as st = some r := by
  unfold RI.enterA at hs ⊢
  split at hs
  · rename_i h1; rw [h _ _ _ _ h1]; exact hs
  · rename_i h1; rw [h _ _ _ _ h1]; exact hs
  · cases hs
theorem RLe.roundA {R S : ACode → Fr → St → Option (AOut × Fr × St)} (h : RLe R S) {l : Nat} {as : List AV} {st : St} {r : AV × St} (hs : roundA R l as st = some r) : roundA S l as st = some r := by
  unfold RI.roundA at hs
  split at hs
  case h_2 => cases hs
  rename_i e1
  split at hs
  case h_2 => cases hs
  rename_i e2
  split at hs
  case h_2 => cases hs
  rename_i e3
  split at hs
  case h_2 => cases hs
  rename_i e4
  split at hs
  case h_2 => cases hs
  rename_i e5
  unfold RI.roundA
  rw [e1]; simp only
  rw [e2]; simp only
  rw [h _ _ _ _ e3]; simp only
  rw [e4]; simp only
  rw [h _ _ _ _ e5]
  exact hs
theorem RLe.callBy {fs : Fns} {orc : Oracle} {R S : ACode → Fr → St → Option (AOut × Fr × St)} (h : RLe R S) : CLe (callBy fs orc R) (callBy fs orc S) := by
  intro f as st r hs
  cases f with
  | func fn first cap =>
    cases fn with
    | func g =>
      simp only [RI.callBy] at hs ⊢
      cases e : orc g (first ++ as ++ cap) st with
      | some p => rw [e] at hs; exact hs
      | none =>
        rw [e] at hs
        cases e2 : fs g with
        | none => rw [e2] at hs; cases hs
        | some fn => rw [e2] at hs; exact h.enterA hs
    | _ => cases hs
  | yld l => exact h.roundA hs
  | _ => cases hs
theorem run_succ {fs : Fns} {orc : Oracle} : ∀ n, RLe (run fs orc n) (run fs orc (n + 1))
  | 0 => fun _ _ _ _ h => by simp [run] at h
  | n + 1 => by
    have ih := run_succ (fs := fs) (orc := orc) n
    have hc := RLe.callBy (fs := fs) (orc := orc) ih
    intro c fr st r h
    have tail3 : ∀ {c : ACode} {fr : Fr} {st : St} {r : AOut × Fr × St}, run fs orc n c fr st = some r → run fs orc (n + 1) c fr st = some r := fun h => ih _ _ _ _ h
    cases c
    case skip => simp only [run] at h ⊢; exact h
    case region ops =>
      rw [run] at h; rw [run]
      cases e : runOps (callBy fs orc (run fs orc n)) ops fr st with
      | none => rw [e] at h; cases h
      | some p => rw [e] at h; rw [hc.runOps e]; exact h
    case draw ops un =>
      rw [run] at h; rw [run]
      cases e : runDraw (callBy fs orc (run fs orc n)) ops un 0 [] fr st with
      | none => rw [e] at h; cases h
      | some p => rw [e] at h; rw [hc.runDraw e]; exact h
    case seq a b =>
      rw [run] at h; rw [run]
      cases e : run fs orc n a fr st with
      | none => rw [e] at h; cases h
      | some p =>
        rw [e] at h; rw [tail3 e]
        obtain ⟨o, fr1, st1⟩ := p
        cases o with
        | normal => exact tail3 h
        | exit i => exact h
        | ret => exact h
    case cond x a b =>
      rw [run] at h; rw [run]
      cases e : ev fr.tm x with
      | bool q => rw [e] at h; cases q <;> exact tail3 h
      | _ => rw [e] at h; cases h
    case block id b =>
      rw [run] at h; rw [run]
      cases e : run fs orc n b fr st with
      | none => rw [e] at h; cases h
      | some p =>
        rw [e] at h; rw [tail3 e]
        exact h
    case loop b =>
      rw [run] at h; rw [run]
      cases e : run fs orc n b fr st with
      | none => rw [e] at h; cases h
      | some p =>
        rw [e] at h; rw [tail3 e]
        obtain ⟨o, fr1, st1⟩ := p
        cases o with
        | normal => exact tail3 h
        | exit i => exact h
        | ret => exact h
    case scope b => rw [run] at h; rw [run]; exact tail3 h
    case exit id => simp only [run] at h ⊢; exact h
    case ret => simp only [run] at h ⊢; exact h
    case bad => simp only [run] at h; cases h
    case range N f ps as bd =>
      rw [run] at h; rw [run]
      cases e : ev fr.tm f with
      | func fn first cap =>
        rw [e] at h
        cases fn with
        | func g =>
          simp only at h ⊢
          cases e2 : fs g with
          | none => rw [e2] at h; cases h
          | some fn =>
            rw [e2] at h
            simp only at h ⊢
            cases e3 : enterA (run fs orc n) fn (first ++ [.yld (st.new (.dfr false)).next] ++ cap) ((st.new (.dfr false)).new (.loop .ready none N fr.tm ps as bd st.next)) with
            | none => rw [e3] at h; cases h
            | some p => rw [e3] at h; rw [ih.enterA e3]; exact h
        | _ => cases h
      | _ => rw [e] at h; cases h
theorem run_le {fs : Fns} {orc : Oracle} {n m : Nat} (h : n ≤ m) : RLe (run fs orc n) (run fs orc m) := by
  induction h with
  | refl => exact fun _ _ _ _ h => h
  | step _ ih => exact fun c fr st r h => run_succ _ _ _ _ _ (ih c fr st r h)
abbrev cb (fs : Fns) (orc : Oracle) (m : Nat) := callBy fs orc (run fs orc m)
theorem cb_le {fs : Fns} {orc : Oracle} {n m : Nat} (h : n ≤ m) : CLe (cb fs orc n) (cb fs orc m) := RLe.callBy (run_le h)
end Go.RI
namespace Go.RI
section
variable {α β γ δ ε : Type}
theorem w1_out (a : Wr α) (f : α → β) : (w1 a f).out = f a.out := by cases a; rfl
theorem w2_out (a : Wr α) (b : Wr β) (f : α → β → γ) : (w2 a b f).out = f a.out b.out := by cases a; cases b; rfl
theorem w3_out (a : Wr α) (b : Wr β) (c : Wr γ) (f : α → β → γ → δ) : (w3 a b c f).out = f a.out b.out c.out := by cases a; cases b; cases c; rfl
theorem w4_out (a : Wr α) (b : Wr β) (c : Wr γ) (d : Wr δ) (f : α → β → γ → δ → ε) : (w4 a b c d f).out = f a.out b.out c.out d.out := by cases a; cases b; cases c; cases d; rfl
theorem w2_app {a : Wr α} {b : Wr β} {f : α → β → γ → δ} (y : γ) : (w2 a b f).out y = f a.out b.out y := by rw [w2_out]
theorem s16_0_2_eq (k : Nat) : s16_0_2 k = S16.s16_0_2 k := by
  unfold s16_0_2 S16.s16_0_2
  cases Nat.ble 1 k with
  | true => exact rfl
  | false => exact rfl
theorem s16_2_4_eq (k : Nat) : s16_2_4 k = S16.s16_2_4 k := by
  unfold s16_2_4 S16.s16_2_4
  cases Nat.ble 3 k with
  | true => exact rfl
  | false => exact rfl
theorem s16_0_4_eq (k : Nat) : s16_0_4 k = S16.s16_0_4 k := by
  unfold s16_0_4 S16.s16_0_4
  cases Nat.ble 2 k with
  | true => exact s16_2_4_eq k
  | false => exact s16_0_2_eq k
theorem s16_4_6_eq (k : Nat) : s16_4_6 k = S16.s16_4_6 k := by
  unfold s16_4_6 S16.s16_4_6
  cases Nat.ble 5 k with
  | true => exact rfl
  | false => exact rfl
theorem s16_6_8_eq (k : Nat) : s16_6_8 k = S16.s16_6_8 k := by
  unfold s16_6_8 S16.s16_6_8
  cases Nat.ble 7 k with
  | true => exact rfl
  | false => exact rfl
theorem s16_4_8_eq (k : Nat) : s16_4_8 k = S16.s16_4_8 k := by
  unfold s16_4_8 S16.s16_4_8
  cases Nat.ble 6 k with
  | true => exact s16_6_8_eq k
  | false => exact s16_4_6_eq k
theorem s16_0_8_eq (k : Nat) : s16_0_8 k = S16.s16_0_8 k := by
  unfold s16_0_8 S16.s16_0_8
  cases Nat.ble 4 k with
  | true => exact s16_4_8_eq k
  | false => exact s16_0_4_eq k
theorem s16_8_10_eq (k : Nat) : s16_8_10 k = S16.s16_8_10 k := by
  unfold s16_8_10 S16.s16_8_10
  cases Nat.ble 9 k with
  | true => exact rfl
  | false => exact rfl
theorem s16_10_12_eq (k : Nat) : s16_10_12 k = S16.s16_10_12 k := by
  unfold s16_10_12 S16.s16_10_12
  cases Nat.ble 11 k with
  | true => exact rfl
  | false => exact rfl
theorem s16_8_12_eq (k : Nat) : s16_8_12 k = S16.s16_8_12 k := by
  unfold s16_8_12 S16.s16_8_12
  cases Nat.ble 10 k with
  | true => exact s16_10_12_eq k
  | false => exact s16_8_10_eq k
theorem s16_12_14_eq (k : Nat) : s16_12_14 k = S16.s16_12_14 k := by
  unfold s16_12_14 S16.s16_12_14
  cases Nat.ble 13 k with
  | true => exact rfl
  | false => exact rfl
theorem s16_14_16_eq (k : Nat) : s16_14_16 k = S16.s16_14_16 k := by
  unfold s16_14_16 S16.s16_14_16
  cases Nat.ble 15 k with
  | true => exact rfl
  | false => exact rfl
theorem s16_12_16_eq (k : Nat) : s16_12_16 k = S16.s16_12_16 k := by
  unfold s16_12_16 S16.s16_12_16
  cases Nat.ble 14 k with
  | true => exact s16_14_16_eq k
  | false => exact s16_12_14_eq k
theorem s16_8_16_eq (k : Nat) : s16_8_16 k = S16.s16_8_16 k := by
  unfold s16_8_16 S16.s16_8_16
  cases Nat.ble 12 k with
  | true => exact s16_12_16_eq k
  | false => exact s16_8_12_eq k
theorem s16_0_16_eq (k : Nat) : s16_0_16 k = S16.s16_0_16 k := by
  unfold s16_0_16 S16.s16_0_16
  cases Nat.ble 8 k with
  | true => exact s16_8_16_eq k
  | false => exact s16_0_8_eq k
theorem s16_of (k : Nat) : s16 k = S16.of k := s16_0_16_eq k
theorem sel_out (s : S16) (n : N16 α) : (sel s).out n = n.get s := by cases s <;> cases n <;> rfl
theorem upd_out (s : S16) (v : α) (n : N16 α) : (upd s).out v n = n.set v s := by cases s <;> cases n <;> rfl
theorem sel_mk (s : S16) : ∃ g : N16 α → α, sel s = .mk g ∧ ∀ n, g n = n.get s := by
  have p := sel_out (α := α) s
  cases h : sel (α := α) s with
  | mk g => exact ⟨g, rfl, fun n => by rw [← p n, h]; rfl⟩
theorem upd_mk (s : S16) : ∃ g : α → N16 α → N16 α, upd s = .mk g ∧ ∀ v n, g v n = n.set v s := by
  have p := upd_out (α := α) s
  cases h : upd (α := α) s with
  | mk g => exact ⟨g, rfl, fun v n => by rw [← p v n, h]; rfl⟩
theorem get2F_eq (n : N16 (N16 (Option α))) (k : Nat) : get2F n k = Tr.get2 n k := by
  unfold get2F Tr.get2
  simp only [s16_of]
  obtain ⟨g, e1, h1⟩ := sel_mk (α := Option α) (S16.of (Nat.mod k 16))
  obtain ⟨f, e2, h2⟩ := sel_mk (α := N16 (Option α)) (S16.of (Nat.div k 16))
  rw [e1, e2]
  show g (f n) = _
  rw [h1, h2]
theorem set2F_eq (x : α) (n : N16 (N16 (Option α))) (k : Nat) : set2F x n k = Tr.set2 x n k := by
  unfold set2F Tr.set2
  simp only [s16_of]
  obtain ⟨f, e2, h2⟩ := sel_mk (α := N16 (Option α)) (S16.of (Nat.div k 16))
  obtain ⟨u, e3, h3⟩ := upd_mk (α := N16 (Option α)) (S16.of (Nat.div k 16))
  obtain ⟨v, e4, h4⟩ := upd_mk (α := Option α) (S16.of (Nat.mod k 16))
  rw [e2, e3, e4]
  show u (v (some x) (f n)) n = _
  rw [h3, h4, h2]
theorem getF_eq (t : Tr α) (k : Nat) : getF t k = t.get k := by
  obtain ⟨lo, hi, big⟩ := t
  show (@Bool.rec (fun _ => Option α) (@Bool.rec (fun _ => Option α) (Tb.get big k) (get2F (@Wr.rec _ (fun _ => N16 (N16 (Option α))) (fun g1 => @Wr.rec _ (fun _ => N16 (N16 (Option α))) (fun g2 => g2 (g1 hi)) (sel (s16 (Nat.mod (Nat.div k 256) 16)))) (sel (s16 (Nat.div k 4096)))) (Nat.mod k 256)) (Nat.blt k 65536)) (get2F lo k) (Nat.blt k 256)) = _
  show _ = (match Nat.blt k 256 with | true => Tr.get2 lo k | false => match Nat.blt k 65536 with | true => Tr.get4 hi k | false => Tb.get big k)
  unfold Tr.get4
  simp only [s16_of]
  obtain ⟨g, e1, h1⟩ := sel_mk (α := N16 (N16 (Option α))) (S16.of (Nat.mod (Nat.div k 256) 16))
  obtain ⟨f, e2, h2⟩ := sel_mk (α := N16 (N16 (N16 (Option α)))) (S16.of (Nat.div k 4096))
  rw [e1, e2]
  show (@Bool.rec (fun _ => Option α) (@Bool.rec (fun _ => Option α) (Tb.get big k) (get2F (g (f hi)) (Nat.mod k 256)) (Nat.blt k 65536)) (get2F lo k) (Nat.blt k 256)) = _
  rw [h1, h2, get2F_eq, get2F_eq]
  cases Nat.blt k 256 with
  | true => rfl
  | false => cases Nat.blt k 65536 <;> rfl
theorem set4F_eq (x : α) (n : N16 (N16 (N16 (N16 (Option α))))) (k : Nat) : set4F x n k = Tr.set4 x n k := by
  unfold set4F Tr.set4
  simp only [s16_of]
  obtain ⟨g, e1, h1⟩ := sel_mk (α := N16 (N16 (Option α))) (S16.of (Nat.mod (Nat.div k 256) 16))
  obtain ⟨f, e2, h2⟩ := sel_mk (α := N16 (N16 (N16 (Option α)))) (S16.of (Nat.div k 4096))
  obtain ⟨u, e3, h3⟩ := upd_mk (α := N16 (N16 (Option α))) (S16.of (Nat.mod (Nat.div k 256) 16))
  obtain ⟨v, e4, h4⟩ := upd_mk (α := N16 (N16 (N16 (Option α)))) (S16.of (Nat.div k 4096))
  rw [e1, e2, e3, e4]
  show v (u (set2F x (g (f n)) (Nat.mod k 256)) (f n)) n = _
  rw [h4, h3, h1, h2, set2F_eq]
theorem setF_eq (x : α) (t : Tr α) (k : Nat) : setF x t k = t.set x k := by
  obtain ⟨lo, hi, big⟩ := t
  show (@Bool.rec (fun _ => Tr α) (@Bool.rec (fun _ => Tr α) ⟨lo, hi, Tb.set x big k⟩ ⟨lo, set4F x hi k, big⟩ (Nat.blt k 65536)) ⟨set2F x lo k, hi, big⟩ (Nat.blt k 256)) = _
  show _ = (match Nat.blt k 256 with | true => (⟨Tr.set2 x lo k, hi, big⟩ : Tr α) | false => match Nat.blt k 65536 with | true => ⟨lo, Tr.set4 x hi k, big⟩ | false => ⟨lo, hi, Tb.set x big k⟩)
  rw [set2F_eq, set4F_eq]
  cases Nat.blt k 256 with
  | true => rfl
  | false => cases Nat.blt k 65536 <;> rfl
end
theorem optD_ev (tm : Tr AV) (t : Nat) : optD (tm.get t) = ev tm (.tmp t) := by
  show _ = (match tm.get t with | some v => v | none => undefA)
  cases tm.get t <;> rfl
theorem rdT_out (t : Nat) (tm : Tr AV) : (rdT t).out tm = ev tm (.tmp t) := by
  unfold rdT
  cases h : Nat.blt t 256 with
  | false => exact optD_ev tm t
  | true =>
    refine (w2_app (γ := Tr AV) (δ := AV) tm).trans ?_
    obtain ⟨lo, hi, big⟩ := tm
    show optD ((sel _).out ((sel _).out lo)) = _
    rw [sel_out, sel_out, s16_of, s16_of, ← optD_ev]
    show _ = optD (match Nat.blt t 256 with | true => Tr.get2 lo t | false => match Nat.blt t 65536 with | true => Tr.get4 hi t | false => Tb.get big t)
    rw [h]; rfl
theorem wrT_out (t : Nat) (v : AV) (tm : Tr AV) : (wrT t).out v tm = tm.set v t := by
  unfold wrT
  cases h : Nat.blt t 256 with
  | false => rfl
  | true =>
    refine (congrFun (congrFun (w3_out (δ := AV → Tr AV → Tr AV) _ _ _ _) v) tm).trans ?_
    obtain ⟨lo, hi, big⟩ := tm
    show (⟨(upd _).out ((upd _).out (some v) ((sel _).out lo)) lo, hi, big⟩ : Tr AV) = _
    rw [sel_out, upd_out, upd_out, s16_of, s16_of]
    show _ = (match Nat.blt t 256 with | true => (⟨Tr.set2 v lo t, hi, big⟩ : Tr AV) | false => match Nat.blt t 65536 with | true => ⟨lo, Tr.set4 v hi t, big⟩ | false => ⟨lo, hi, Tb.set v big t⟩)
    rw [h]; rfl
theorem rdR_out (r : Rnd) (tm : Tr AV) : (rdR r).out tm = ev tm r := by
  cases r with
  | tmp t => exact rdT_out t tm
  | con v => rfl
  | fn f => rfl
theorem rdL_out : ∀ (l : List Rnd) (tm : Tr AV), (rdL l).out tm = evL tm l
  | [], _ => rfl
  | r :: l, tm => by
    have e : rdL (r :: l) = w2 (rdR r) (rdL l) (fun g gs tm => g tm :: gs tm) := rfl
    rw [e, w2_out]
    show (rdR r).out tm :: (rdL l).out tm = _
    rw [rdR_out, rdL_out l tm]; rfl
theorem rdO_out (r : Option Rnd) (tm : Tr AV) : (rdO r).out tm = optV tm r := by
  cases r with
  | none => rfl
  | some r =>
    have e : rdO (some r) = w1 (rdR r) (fun g tm => some (g tm)) := rfl
    rw [e, w1_out, rdR_out]; rfl
theorem rdP_out : ∀ (l : List (Nat × Nat × Rnd)) (tm : Tr AV), (rdP l).out tm = partsV tm l
  | [], _ => rfl
  | (a, b, r) :: l, tm => by
    have e : rdP ((a, b, r) :: l) = w2 (rdR r) (rdP l) (fun g gs tm => (a, b, g tm) :: gs tm) := rfl
    rw [e, w2_out]
    show (a, b, (rdR r).out tm) :: (rdP l).out tm = _
    rw [rdR_out, rdP_out l tm]; rfl
theorem wrO_out (d : Option Nat) (v : AV) (tm : Tr AV) : (wrO d).out v tm = putT tm d v := by
  cases d with
  | none => rfl
  | some t => exact wrT_out t v tm
section
variable {v : AV} {x : AV × St} {d : R}
theorem asPtr_ok {f : Nat → Nat → R} (h : asPtr v f d = some x) : (∃ b o, v = .ptr b o ∧ f b o = some x) ∨ d = some x := by
  cases v <;> first | exact .inl ⟨_, _, rfl, h⟩ | exact .inr h
theorem asInt_ok {f : IntKind → Int → R} (h : asInt v f d = some x) : (∃ k n, v = .int k n ∧ f k n = some x) ∨ d = some x := by
  cases v <;> first | exact .inl ⟨_, _, rfl, h⟩ | exact .inr h
theorem asStr_ok {f : List Nat → R} (h : asStr v f d = some x) : (∃ s, v = .str s ∧ f s = some x) ∨ d = some x := by
  cases v <;> first | exact .inl ⟨_, rfl, h⟩ | exact .inr h
theorem asSl_ok {f : Nat → Nat → Nat → Nat → Nat → R} (h : asSl v f d = some x) : (∃ b o l c e, v = .slice b o l c e ∧ f b o l c e = some x) ∨ d = some x := by
  cases v <;> first | exact .inl ⟨_, _, _, _, _, rfl, h⟩ | exact .inr h
theorem asBool_ok {f t : R} (h : asBool v f t d = some x) : (v = .bool false ∧ f = some x) ∨ (v = .bool true ∧ t = some x) ∨ ((∀ b, v ≠ .bool b) ∧ d = some x) := by
  cases v
  case bool b => cases b with
    | false => exact .inl ⟨rfl, h⟩
    | true => exact .inr (.inl ⟨rfl, h⟩)
  all_goals exact .inr (.inr ⟨fun _ e => (by cases e), h⟩)
theorem asCell_ok {o : R} {f : List AV → R} {t : R} (h : asCell v o f t = some x) : (v.one = true ∧ v.cells = [v] ∧ o = some x) ∨ (∃ l, v = .agg l ∧ f l = some x) ∨ ((∃ l, v = .tuple l) ∧ t = some x) := by
  cases v
  case agg l => exact .inr (.inl ⟨l, rfl, h⟩)
  case tuple l => exact .inr (.inr ⟨⟨l, rfl⟩, h⟩)
  all_goals exact .inl ⟨rfl, rfl, h⟩
theorem asCells_ok {o : Option AObj} {f : KC} (h : asCells o f = some x) : ∃ e l fz k, o = some (.cells e l fz k) ∧ f e l fz k = some x := by
  cases o with
  | none => cases h
  | some o => cases o <;> first | exact ⟨_, _, _, _, rfl, h⟩ | cases h
theorem nthK_ok {f : AV → R} : ∀ {l : List (Option AV)} {n : Nat}, nthK l n f = some x → ∃ v, l[n]? = some (some v) ∧ f v = some x
  | [], _, h => by cases h
  | y :: l, 0, h => by
    cases y with
    | none => cases h
    | some v => exact ⟨v, rfl, h⟩
  | y :: l, n + 1, h => by
    obtain ⟨v, h1, h2⟩ := nthK_ok (l := l) (n := n) h
    exact ⟨v, by simpa using h1, h2⟩
theorem nthN_ok {f : Nat → R} : ∀ {l : List Nat} {n : Nat}, nthN l n f = some x → ∃ v, l[n]? = some v ∧ f v = some x
  | [], _, h => by cases h
  | y :: l, 0, h => ⟨y, rfl, h⟩
  | y :: l, n + 1, h => by
    obtain ⟨v, h1, h2⟩ := nthN_ok (l := l) (n := n) h
    exact ⟨v, by simpa using h1, h2⟩
theorem guardB_ok {b : Bool} {r : R} (h : guardB b r = some x) : b = true ∧ r = some x := by
  cases b with
  | true => exact ⟨rfl, h⟩
  | false => cases h
theorem optK_ok {o : Option (AV × St)} {k : KV} (h : optK o k = some x) : ∃ v st', o = some (v, st') ∧ k v st' = some x := by
  cases o with
  | none => cases h
  | some p => exact ⟨p.1, p.2, rfl, h⟩
theorem natK_ok {f : Nat → R} (h : natK v f = some x) : ∃ k n, v = .int k (.ofNat n) ∧ f n = some x := by
  unfold natK at h
  rcases asInt_ok h with ⟨k, n, e, h⟩ | h
  · cases n with
    | ofNat n => exact ⟨k, n, e, h⟩
    | negSucc n => cases h
  · cases h
end
theorem dropF_eq : ∀ (n : Nat) (l : List (Option AV)), dropF n l = l.drop n
  | 0, l => rfl
  | n + 1, [] => by simp [dropF]
  | n + 1, y :: l => by
    show dropF n l = _
    rw [dropF_eq n l]; rfl
theorem takeK_ok {x : AV × St} : ∀ {n : Nat} {l : List (Option AV)} {k : List AV → R}, takeK n l k = some x → ∃ r, takeVals l n = some r ∧ k r = some x
  | 0, l, k, h => ⟨[], by cases l <;> rfl, h⟩
  | n + 1, [], k, h => by cases h
  | n + 1, y :: l, k, h => by
    cases y with
    | none => cases h
    | some v =>
      obtain ⟨r, h1, h2⟩ := takeK_ok (n := n) (l := l) (k := fun r => k (v :: r)) h
      exact ⟨v :: r, by simp only [takeVals, h1], h2⟩
theorem mapSome_eq : ∀ l : List AV, mapSome l = l.map some
  | [] => rfl
  | v :: l => by
    show some v :: mapSome l = _
    rw [mapSome_eq l]; rfl
theorem setNthK_ok {x : AV × St} : ∀ {l : List (Option AV)} {n : Nat} {v : AV} {k : List (Option AV) → R}, setNthK l n v k = some x → n < l.length ∧ k (l.set n (some v)) = some x
  | [], n, v, k, h => by cases h
  | y :: l, 0, v, k, h => ⟨by simp, h⟩
  | y :: l, n + 1, v, k, h => by
    obtain ⟨h1, h2⟩ := setNthK_ok (l := l) (n := n) (v := v) (k := fun r => k (y :: r)) h
    exact ⟨by simpa using h1, h2⟩
theorem logF_eq (t b : Nat) (l : List Nat) : logF t b l = logw t b l := by
  unfold logF logw; cases Nat.ble t b <;> rfl
theorem eqLF_eq : ∀ a b : List Nat, eqLF a b = eqL a b
  | [], [] => rfl
  | [], _ :: _ => rfl
  | _ :: _, [] => rfl
  | x :: a, y :: b => by
    show @Bool.rec (fun _ => Bool) false (eqLF a b) (Nat.beq x y) = _
    rw [eqLF_eq a b]
    show _ = (match Nat.beq x y with | true => eqL a b | false => false)
    cases Nat.beq x y <;> rfl
theorem ltLF_eq : ∀ a b : List Nat, ltLF a b = bytesLt a b
  | [], [] => rfl
  | [], _ :: _ => rfl
  | _ :: _, [] => rfl
  | x :: a, y :: b => by
    show @Bool.rec (fun _ => Bool) (@Bool.rec (fun _ => Bool) false (ltLF a b) (Nat.beq x y)) true (Nat.blt x y) = _
    rw [ltLF_eq a b]
    show _ = (match Nat.blt x y with | true => true | false => match Nat.beq x y with | true => bytesLt a b | false => false)
    cases Nat.blt x y with
    | true => rfl
    | false => cases Nat.beq x y <;> rfl
theorem dropNF_eq : ∀ (n : Nat) (l : List Nat), dropNF n l = l.drop n
  | 0, l => rfl
  | n + 1, [] => by simp [dropNF]
  | n + 1, y :: l => by
    show dropNF n l = _
    rw [dropNF_eq n l]; rfl
theorem dropB_eq (s : List Nat) : ∀ n : Nat, dropB s n = s.drop (16 * n)
  | 0 => rfl
  | n + 1 => by
    show dropNF 16 (dropB s n) = _
    rw [dropNF_eq, dropB_eq s n, List.drop_drop]
    congr 1
theorem takeNF_eq : ∀ (n : Nat) (l : List Nat), takeNF n l = l.take n
  | 0, l => rfl
  | n + 1, [] => by simp [takeNF]
  | n + 1, y :: l => by
    show y :: takeNF n l = _
    rw [takeNF_eq n l]; rfl
theorem dropS_eq (n : Nat) (s : List Nat) : dropS n s = s.drop n := by
  unfold dropS
  rw [dropNF_eq, dropB_eq, List.drop_drop]
  congr 1
  exact Nat.div_add_mod n 16
theorem lenF_eq : ∀ l : List Nat, lenF l = l.length
  | [] => rfl
  | _ :: l => by
    show Nat.succ (lenF l) = _
    rw [lenF_eq l]; rfl
theorem maxF_inj {a b : IntKind} (h : maxF a = maxF b) : a = b := by cases a <;> cases b <;> first | rfl | (cases h)
theorem wrap_small (k : IntKind) {n : Nat} (h : n ≤ maxF k) : k.wrap (Int.ofNat n) = Int.ofNat n := by
  cases k <;> simp [IntKind.wrap, IntKind.bits, IntKind.signed, maxF] at * <;> omega
end Go.RI
namespace Go.RI
def Reach (op : AOp) (tm : Tr AV) (st : St) (k : KV) (x : AV × St) : Prop := ∃ v st', aop op tm st = some (v, st') ∧ k v st' = some x
section
variable {tm : Tr AV} {st : St} {k : KV} {x : AV × St}
theorem ok_load1 {a : Rnd} (h : v_load1 (ev tm a) st k = some x) : Reach (.load1 a) tm st k x := by
  obtain ⟨hp, n, t, l⟩ := st
  unfold v_load1 at h
  rcases asPtr_ok h with ⟨b, off, e, h⟩ | h
  · replace h : asCells (getF hp b) (fun _ c _ _ => nthK c off fun v => k v ⟨hp, n, t, l⟩) = some x := h
    rw [getF_eq] at h
    obtain ⟨e', c, fz, kin, eg, h⟩ := asCells_ok h
    obtain ⟨v, ev', h⟩ := nthK_ok h
    exact ⟨v, _, by simp only [aop, e, St.rd, eg, ev'], h⟩
  · cases h
theorem ok_loadN {n : Nat} {a : Rnd} (h : v_loadN n (ev tm a) st k = some x) : Reach (.loadN n a) tm st k x := by
  obtain ⟨hp, nn, t, l⟩ := st
  unfold v_loadN at h
  rcases asPtr_ok h with ⟨b, off, e, h⟩ | h
  · replace h : asCells (getF hp b) (fun _ c _ _ => takeK n (dropF off c) fun r => k (.agg r) ⟨hp, nn, t, l⟩) = some x := h
    rw [getF_eq] at h
    obtain ⟨e', c, fz, kin, eg, h⟩ := asCells_ok h
    obtain ⟨r, ev', h⟩ := takeK_ok h
    rw [dropF_eq] at ev'
    exact ⟨.agg r, _, by simp only [aop, e, St.rdN, eg, ev'], h⟩
  · cases h
theorem v_new_eq {elem : Nat} {c : List AV} : v_new elem c st k = k (.ptr st.next 0) (newCells st elem c) := by
  obtain ⟨hp, n, t, l⟩ := st
  show k (.ptr n 0) ⟨setF (.cells (elem, true) (mapSome c) 0 none) hp n, Nat.succ n, t, l⟩ = _
  rw [setF_eq, mapSome_eq]; rfl
theorem ok_alloc {e : Nat} {z : List AV} (h : v_new e z st k = some x) : Reach (.alloc e z) tm st k x := by
  rw [v_new_eq] at h
  exact ⟨_, _, rfl, h⟩
theorem ok_box {e : Nat} {r : Rnd} (h : v_box e (ev tm r) st k = some x) : Reach (.box e r) tm st k x := by
  unfold v_box at h
  rcases asCell_ok h with ⟨_, hc, h⟩ | ⟨l, hl, h⟩ | ⟨⟨l, hl⟩, h⟩
  · rw [v_new_eq] at h
    exact ⟨_, _, by simp only [aop, hc], h⟩
  · rw [v_new_eq] at h
    exact ⟨_, _, by simp only [aop, hl, AV.cells], h⟩
  · rw [v_new_eq] at h
    exact ⟨_, _, by simp only [aop, hl, AV.cells], h⟩
theorem ok_slow {op : AOp} {o : Option (AV × St)} (e : o = aop op tm st) (h : optK o k = some x) : Reach op tm st k x := by
  subst e; exact optK_ok h
theorem oneF_eq (v : AV) : oneF v = v.one := by cases v <;> rfl
theorem lenA_eq : ∀ l : List AV, lenA l = l.length
  | [] => rfl
  | _ :: l => by
    show Nat.succ (lenA l) = _
    rw [lenA_eq l]; rfl
def lay (l : List (Option AV)) : Nat → List AV → List (Option AV)
  | _, [] => l
  | i, v :: c => lay (l.set i (some v)) (i + 1) c
theorem lay_cons (y : Option AV) : ∀ (c : List AV) (l : List (Option AV)) (i : Nat), lay (y :: l) (i + 1) c = y :: lay l i c
  | [], _, _ => rfl
  | v :: c, l, i => by simp only [lay, List.set_cons_succ]; exact lay_cons y c _ _
theorem overK_ok : ∀ {c : List AV} {l : List (Option AV)} {f : List (Option AV) → R}, overK c l f = some x → c.length ≤ l.length ∧ allOne c = true ∧ f (lay l 0 c) = some x
  | [], l, f, h => ⟨Nat.zero_le _, rfl, h⟩
  | v :: c, [], f, h => by cases h
  | v :: c, y :: l, f, h => by
    replace h : guardB (oneF v) (overK c l fun r => f (some v :: r)) = some x := h
    obtain ⟨g, h⟩ := guardB_ok h
    obtain ⟨h1, h2, h3⟩ := overK_ok h
    rw [oneF_eq] at g
    refine ⟨by simp; exact h1, by simp only [allOne, g]; exact h2, ?_⟩
    have : lay (y :: l) 0 (v :: c) = some v :: lay l 0 c := by
      simp only [lay, List.set_cons_zero]; exact lay_cons _ c l 0
    rw [this]; exact h3
theorem overAtK_ok {c : List AV} : ∀ {n : Nat} {l : List (Option AV)} {f : List (Option AV) → R}, overAtK c n l f = some x → n + c.length ≤ l.length ∧ allOne c = true ∧ f (lay l n c) = some x
  | 0, l, f, h => by
    obtain ⟨h1, h2, h3⟩ := overK_ok (c := c) (l := l) (f := f) h
    exact ⟨by omega, h2, h3⟩
  | n + 1, [], f, h => by cases h
  | n + 1, y :: l, f, h => by
    obtain ⟨h1, h2, h3⟩ := overAtK_ok (c := c) (n := n) (l := l) (f := fun r => f (y :: r)) h
    refine ⟨by simp; omega, h2, ?_⟩
    rw [lay_cons]; exact h3
theorem wrL_lay {b fz : Nat} (hb : b < 65536) {e : Nat × Bool} : ∀ {c : List AV} {i : Nat} {l : List (Option AV)} {hp : Tr AObj} {nn t : Nat} {lg : List Nat}, allOne c = true → fz ≤ i → i + c.length ≤ l.length → hp.get b = some (.cells e l fz none) → c ≠ [] →
    St.wrL ⟨hp, nn, t, lg⟩ b i c = some ⟨hp.set (.cells e (lay l i c) fz none) b, nn, t, logN t b c lg⟩
  | [], _, _, _, _, _, _, _, _, _, _, hne => absurd rfl hne
  | v :: c, i, l, hp, nn, t, lg, h1, h2, h3, h4, _ => by
    have hv : v.one = true ∧ allOne c = true := by
      unfold allOne at h1
      cases hq : v.one with
      | true => rw [hq] at h1; exact ⟨rfl, h1⟩
      | false => rw [hq] at h1; cases h1
    have hlt : Nat.blt i l.length = true := Nat.ble_eq_true_of_le (by simp at h3; omega)
    have hle : Nat.ble fz i = true := Nat.ble_eq_true_of_le h2
    have hw : St.wr ⟨hp, nn, t, lg⟩ b i v = some ⟨hp.set (.cells e (l.set i (some v)) fz none) b, nn, t, logw t b lg⟩ := by
      simp only [St.wr, h4, hle, hlt, hv.1]
    simp only [St.wrL, hw]
    cases c with
    | nil =>
      show some _ = some (St.mk _ nn t (logF t b lg))
      rw [logF_eq]; rfl
    | cons u c =>
      have := wrL_lay hb (fz := fz) (e := e) (c := u :: c) (i := i + 1) (l := l.set i (some v)) (hp := hp.set (.cells e (l.set i (some v)) fz none) b) (nn := nn) (t := t) (lg := logw t b lg) hv.2 (by omega) (by simp at h3 ⊢; omega) (Tr.get_set_same _ _ _) (by simp)
      rw [show Nat.succ i = i + 1 from rfl, this, Tr.set_set _ _ _ _ hb]
      show some _ = some (St.mk _ nn t (logN t b (u :: c) (logF t b lg)))
      rw [logF_eq]; rfl
theorem ok_storeL {n : Nat} {a r : Rnd} {l0 : List AV} (hr : ev tm r = .agg l0) (hne : l0 ≠ []) (h : v_storeL n (ev tm a) l0 (optK (b_store n (ev tm a) (ev tm r) st) k) st k = some x) : Reach (.store n a r) tm st k x := by
  have slow : optK (b_store n (ev tm a) (ev tm r) st) k = some x → Reach (.store n a r) tm st k x := ok_slow (b_store_eq n a r tm st)
  unfold v_storeL at h
  rcases asPtr_ok h with ⟨b, off, e, h⟩ | h
  · obtain ⟨hp, nn, t, l⟩ := st
    replace h : asCells (getF hp b) (fun e cs fz kin => @Option.rec Nat (fun _ => R) (guardB (Nat.beq (lenA l0) n) (guardB (Nat.ble fz off) (guardB (Nat.blt b 65536) (overAtK l0 off cs fun c' => k undefA ⟨setF (.cells e c' fz none) hp b, nn, t, logN t b l0 l⟩)))) (fun _ => optK (b_store n (ev tm a) (ev tm r) ⟨hp, nn, t, l⟩) k) kin) = some x := h
    rw [getF_eq] at h
    obtain ⟨e', c, fz, kin, eg, h⟩ := asCells_ok h
    cases kin with
    | some q => exact slow h
    | none =>
      obtain ⟨g1, h⟩ := guardB_ok h
      obtain ⟨g2, h⟩ := guardB_ok h
      obtain ⟨g5, h⟩ := guardB_ok h
      obtain ⟨g3, g4, h⟩ := overAtK_ok h
      rw [setF_eq] at h
      rw [lenA_eq] at g1
      refine ⟨undefA, _, ?_, h⟩
      simp only [aop, e, hr, AV.cells, g1, wrL_lay (Nat.le_of_ble_eq_true g5) g4 (Nat.le_of_ble_eq_true g2) g3 eg hne]
  · cases h
theorem ok_store {n : Nat} {a r : Rnd} (h : v_store n (ev tm a) (ev tm r) (optK (b_store n (ev tm a) (ev tm r) st) k) st k = some x) : Reach (.store n a r) tm st k x := by
  have slow : optK (b_store n (ev tm a) (ev tm r) st) k = some x → Reach (.store n a r) tm st k x := ok_slow (b_store_eq n a r tm st)
  unfold v_store at h
  rcases asCell_ok h with ⟨hone, hc, h⟩ | ⟨l, hl, h⟩ | ⟨⟨l, hl⟩, h⟩
  · rcases asPtr_ok h with ⟨b, off, e, h⟩ | h
    · obtain ⟨hp, nn, t, l⟩ := st
      replace h : asCells (getF hp b) (fun e c fz kin => @Option.rec Nat (fun _ => R) (guardB (Nat.beq 1 n) (guardB (Nat.ble fz off) (setNthK c off (ev tm r) fun c' => k undefA ⟨setF (.cells e c' fz none) hp b, nn, t, logF t b l⟩))) (fun _ => optK (b_store n (ev tm a) (ev tm r) ⟨hp, nn, t, l⟩) k) kin) = some x := h
      rw [getF_eq] at h
      obtain ⟨e', c, fz, kin, eg, h⟩ := asCells_ok h
      cases kin with
      | some q => exact slow h
      | none =>
        obtain ⟨g1, h⟩ := guardB_ok h
        obtain ⟨g2, h⟩ := guardB_ok h
        obtain ⟨g3, h⟩ := setNthK_ok h
        rw [setF_eq, logF_eq] at h
        refine ⟨undefA, _, ?_, h⟩
        have g3' : Nat.blt off c.length = true := Nat.ble_eq_true_of_le g3
        simp only [aop, e, hc, List.length_cons, List.length_nil, Nat.zero_add, g1, St.wrL, St.wr, eg, g2, g3', hone]
    · cases h
  · cases l with
    | nil => exact slow h
    | cons u l => exact ok_storeL hl (by simp) h
  · exact slow h
theorem ok_fieldAddr {o : Nat} {r : Rnd} (h : v_fieldAddr o (ev tm r) st k = some x) : Reach (.fieldAddr o r) tm st k x := by
  unfold v_fieldAddr at h
  rcases asPtr_ok h with ⟨b, off, e, h⟩ | h
  · exact ⟨_, _, by simp only [aop, e]; rfl, h⟩
  · cases h
theorem ok_idxSl {es : Nat} {r i : Rnd} (h : v_idxSl es (ev tm r) (ev tm i) st k = some x) : Reach (.idxSl es r i) tm st k x := by
  unfold v_idxSl at h
  rcases asSl_ok h with ⟨b, off, len, c, e', e, h⟩ | h
  · obtain ⟨kd, n, e2, h⟩ := natK_ok h
    obtain ⟨g1, h⟩ := guardB_ok h
    obtain ⟨g2, h⟩ := guardB_ok h
    exact ⟨_, _, by simp only [aop, e, e2, natOf, g1, g2]; rfl, h⟩
  · cases h
theorem ok_idxStr {r i : Rnd} (h : v_idxStr (ev tm r) (ev tm i) st k = some x) : Reach (.idxStr r i) tm st k x := by
  unfold v_idxStr at h
  rcases asStr_ok h with ⟨s, e, h⟩ | h
  · obtain ⟨kd, n, e2, h⟩ := natK_ok h
    obtain ⟨c, g1, h⟩ := nthN_ok h
    rw [dropB_eq, List.getElem?_drop] at g1
    have g1 : s[n]? = some c := by
      have : 16 * Nat.div n 16 + Nat.mod n 16 = n := Nat.div_add_mod n 16
      rw [this] at g1; exact g1
    exact ⟨_, _, by simp only [aop, e, e2, natOf, g1], h⟩
  · cases h
theorem natO_ok {d : Nat} {o : Option AV} {f : Nat → R} (h : natO d o f = some x) : ∃ n, optNatV d o = some n ∧ f n = some x := by
  cases o with
  | none => exact ⟨d, rfl, h⟩
  | some v =>
    obtain ⟨kd, n, e, h⟩ := natK_ok (v := v) (f := f) h
    exact ⟨n, by rw [e]; rfl, h⟩
theorem ok_cutStr {r : Rnd} {lo hi : Option Rnd} (h : v_cutStr (ev tm r) (optV tm lo) (optV tm hi) st k = some x) : Reach (.cutStr r lo hi) tm st k x := by
  unfold v_cutStr at h
  rcases asStr_ok h with ⟨s, e, h⟩ | h
  · obtain ⟨l, e1, h⟩ := natO_ok h
    rw [optNat_V] at e1
    cases hi with
    | none =>
      replace h : guardB (Nat.ble l (lenF s)) (k (.str (dropS l s)) st) = some x := h
      obtain ⟨g1, h⟩ := guardB_ok h
      rw [lenF_eq] at g1
      have g2 : Nat.ble s.length s.length = true := Nat.ble_eq_true_of_le (Nat.le_refl _)
      have e3 : (s.drop l).take (s.length - l) = s.drop l := by rw [← List.length_drop]; exact List.take_length
      rw [dropS_eq] at h
      have e4 : RI.optNat tm s.length none = some s.length := rfl
      exact ⟨_, _, by simp only [aop, e, e1, e4, g1, g2, e3], h⟩
    | some q =>
      replace h : natK (ev tm q) (fun h => guardB (Nat.ble l h) (guardB (Nat.ble h (lenF s)) (k (.str (takeNF (Nat.sub h l) (dropS l s))) st))) = some x := h
      obtain ⟨kd, n, e2, h⟩ := natK_ok h
      obtain ⟨g1, h⟩ := guardB_ok h
      obtain ⟨g2, h⟩ := guardB_ok h
      rw [lenF_eq] at g2
      rw [dropS_eq, takeNF_eq] at h
      have e4 : RI.optNat tm s.length (some q) = some n := by show natOf (ev tm q) = _; rw [e2]; rfl
      exact ⟨_, _, by simp only [aop, e, e1, e4, g1, g2]; rfl, h⟩
  · cases h
theorem ok_pick {a b c : Rnd} (h : asBool (ev tm a) (k (ev tm c) st) (k (ev tm b) st) none = some x) : Reach (.pick a b c) tm st k x := by
  rcases asBool_ok h with ⟨e, h⟩ | ⟨e, h⟩ | ⟨_, h⟩
  · exact ⟨_, _, by simp only [aop, e], h⟩
  · exact ⟨_, _, by simp only [aop, e], h⟩
  · cases h
theorem ok_un {op : UnOp} {r : Rnd} (h : v_un op (ev tm r) (optK (b_un op (ev tm r) st) k) st k = some x) : Reach (.un op r) tm st k x := by
  have slow : optK (b_un op (ev tm r) st) k = some x → Reach (.un op r) tm st k x := ok_slow (b_un_eq op r tm st)
  cases op
  case not =>
    replace h : asBool (ev tm r) (k (.bool true) st) (k (.bool false) st) (optK (b_un .not (ev tm r) st) k) = some x := h
    rcases asBool_ok h with ⟨e, h⟩ | ⟨e, h⟩ | ⟨_, h⟩
    · exact ⟨_, _, by simp only [aop, e, unA]; rfl, h⟩
    · exact ⟨_, _, by simp only [aop, e, unA]; rfl, h⟩
    · exact slow h
  all_goals exact slow h
theorem ok_len {g : BTag} {r : Rnd} (h : v_len g (ev tm r) (optK (b_len g (ev tm r) st) k) st k = some x) : Reach (.len g r) tm st k x := by
  have slow : optK (b_len g (ev tm r) st) k = some x → Reach (.len g r) tm st k x := ok_slow (b_len_eq g r tm st)
  cases g
  case num =>
    replace h : asStr (ev tm r) (fun s => k (.int .i64 (.ofNat (lenF s))) st) (optK (b_len .num (ev tm r) st) k) = some x := h
    rcases asStr_ok h with ⟨s, e, h⟩ | h
    · rw [lenF_eq] at h
      exact ⟨_, _, by simp only [aop, e], h⟩
    · exact slow h
  case sl =>
    replace h : asSl (ev tm r) (fun _ _ n _ _ => k (.int .i64 (.ofNat n)) st) (optK (b_len .sl (ev tm r) st) k) = some x := h
    rcases asSl_ok h with ⟨b, o, n, c, e', e, h⟩ | h
    · exact ⟨_, _, by simp only [aop, e], h⟩
    · exact slow h
  all_goals exact slow h
theorem fitK_ok {kd : IntKind} {s : Nat} {y d : R} (h : fitK kd s y d = some x) : (s ≤ maxF kd ∧ y = some x) ∨ d = some x := by
  unfold fitK at h
  cases e : Nat.ble s (maxF kd) with
  | true => rw [e] at h; exact .inl ⟨Nat.le_of_ble_eq_true e, h⟩
  | false => rw [e] at h; exact .inr h
theorem kindEq_ok {a b : IntKind} {y d : R} (h : kindEq a b y d = some x) : (a = b ∧ y = some x) ∨ d = some x := by
  unfold kindEq at h
  cases e : Nat.beq (maxF a) (maxF b) with
  | true => rw [e] at h; exact .inl ⟨maxF_inj (Nat.eq_of_beq_eq_true e), h⟩
  | false => rw [e] at h; exact .inr h
theorem blt_dec (a b : Nat) : Nat.blt a b = decide (Int.ofNat a < Int.ofNat b) := by
  rw [Bool.eq_iff_iff, decide_eq_true_iff, Nat.blt_eq]; exact Int.ofNat_lt.symm
theorem ble_dec (a b : Nat) : Nat.ble a b = decide (Int.ofNat a ≤ Int.ofNat b) := by
  rw [Bool.eq_iff_iff, decide_eq_true_iff, Nat.ble_eq]; exact Int.ofNat_le.symm
theorem beq_int (a b : Nat) : Nat.beq a b = (Int.ofNat a == Int.ofNat b) := by
  rw [Bool.eq_iff_iff, beq_iff_eq]
  constructor
  · intro h; rw [Nat.eq_of_beq_eq_true h]
  · intro h; cases h; exact Nat.beq_refl _
theorem notF_eq (b : Bool) : notF b = !b := by cases b <;> rfl
theorem intBin_ok {op : BinOp} {kd : IntKind} {a b : Int} {d : R} (h : intBin op kd a b d (fun r => k (.bool r) st) (fun n => k (.int kd (.ofNat n)) st) = some x) : (∃ v, numA op (.int kd a) (.int kd b) = some v ∧ k v st = some x) ∨ d = some x := by
  cases a with
  | negSucc a => exact .inr h
  | ofNat a =>
  cases b with
  | negSucc b => exact .inr h
  | ofNat b =>
  cases op
  case add =>
    replace h : fitK kd (Nat.add a b) (k (.int kd (.ofNat (Nat.add a b))) st) d = some x := h
    rcases fitK_ok h with ⟨hm, h⟩ | h
    · refine .inl ⟨_, ?_, h⟩
      have e : Int.ofNat a + Int.ofNat b = Int.ofNat (Nat.add a b) := rfl
      simp only [numA, if_true, ibin, e, wrap_small kd hm]
    · exact .inr h
  case sub =>
    replace h : (@Bool.rec (fun _ => R) d (fitK kd (Nat.sub a b) (k (.int kd (.ofNat (Nat.sub a b))) st) d) (Nat.ble b a)) = some x := h
    cases e1 : Nat.ble b a with
    | false => rw [e1] at h; exact .inr h
    | true =>
      rw [e1] at h
      rcases fitK_ok h with ⟨hm, h⟩ | h
      · refine .inl ⟨_, ?_, h⟩
        have e : Int.ofNat a - Int.ofNat b = Int.ofNat (Nat.sub a b) := by
          have := Nat.le_of_ble_eq_true e1
          show ((a : Int) - (b : Int)) = ((a - b : Nat) : Int)
          omega
        simp only [numA, if_true, ibin, e, wrap_small kd hm]
      · exact .inr h
  case eql => exact .inl ⟨_, by simp only [numA, if_true, ibin, ← beq_int], h⟩
  case neq =>
    replace h : k (.bool (notF (Nat.beq a b))) st = some x := h
    rw [notF_eq, beq_int] at h
    exact .inl ⟨_, by simp only [numA, if_true, ibin]; rfl, h⟩
  case lss => exact .inl ⟨_, by simp only [numA, if_true, ibin, ← blt_dec], h⟩
  case leq => exact .inl ⟨_, by simp only [numA, if_true, ibin, ← ble_dec], h⟩
  case gtr => exact .inl ⟨_, by simp only [numA, if_true, ibin, gt_iff_lt, ← blt_dec], h⟩
  case geq => exact .inl ⟨_, by simp only [numA, if_true, ibin, ge_iff_le, ← ble_dec], h⟩
  all_goals exact .inr h
theorem strBin_ok {op : BinOp} {a b : List Nat} {d : R} (h : strBin op a b d (fun r => k (.bool r) st) = some x) : (∃ v, numA op (.str a) (.str b) = some v ∧ k v st = some x) ∨ d = some x := by
  cases op
  case eql =>
    replace h : k (.bool (eqLF a b)) st = some x := h
    rw [eqLF_eq] at h; exact .inl ⟨_, rfl, h⟩
  case neq =>
    replace h : k (.bool (notF (eqLF a b))) st = some x := h
    rw [notF_eq, eqLF_eq] at h; exact .inl ⟨_, rfl, h⟩
  case lss =>
    replace h : k (.bool (ltLF a b)) st = some x := h
    rw [ltLF_eq] at h; exact .inl ⟨_, rfl, h⟩
  all_goals exact .inr h
theorem ok_bin {g : BTag} {op : BinOp} {r s : Rnd} (h : v_bin g op (ev tm r) (ev tm s) (optK (b_bin g op (ev tm r) (ev tm s) st) k) st k = some x) : Reach (.bin g op r s) tm st k x := by
  have slow : optK (b_bin g op (ev tm r) (ev tm s) st) k = some x → Reach (.bin g op r s) tm st k x := ok_slow (b_bin_eq g op r s tm st)
  cases g
  case num =>
    replace h : asInt (ev tm r) (fun kd a => asInt (ev tm s) (fun kd' b => kindEq kd kd' (intBin op kd a b (optK (b_bin .num op (ev tm r) (ev tm s) st) k) (fun r => k (.bool r) st) (fun n => k (.int kd (.ofNat n)) st)) (optK (b_bin .num op (ev tm r) (ev tm s) st) k)) (optK (b_bin .num op (ev tm r) (ev tm s) st) k))
      (asStr (ev tm r) (fun a => asStr (ev tm s) (fun b => strBin op a b (optK (b_bin .num op (ev tm r) (ev tm s) st) k) (fun r => k (.bool r) st)) (optK (b_bin .num op (ev tm r) (ev tm s) st) k)) (optK (b_bin .num op (ev tm r) (ev tm s) st) k)) = some x := h
    rcases asInt_ok h with ⟨kd, a, e1, h⟩ | h
    · rcases asInt_ok h with ⟨kd', b, e2, h⟩ | h
      · rcases kindEq_ok h with ⟨hk, h3⟩ | h3
        · subst hk
          rcases intBin_ok h3 with ⟨v, hv, h4⟩ | h4
          · exact ⟨v, st, by simp only [aop, binA, e1, e2, hv], h4⟩
          · exact slow h4
        · exact slow h3
      · exact slow h
    · rcases asStr_ok h with ⟨a, e1, h⟩ | h
      · rcases asStr_ok h with ⟨b, e2, h⟩ | h
        · rcases strBin_ok h with ⟨v, hv, h⟩ | h
          · exact ⟨v, st, by simp only [aop, binA, e1, e2, hv], h⟩
          · exact slow h
        · exact slow h
      · exact slow h
  all_goals exact slow h
end
theorem cOp_ok (op : AOp) (ck : CK) (tm : Tr AV) (st : St) (k : KV) (x : AV × St) (h : (cOp op).out ck tm st k = some x) : (∃ f as, op = .call f as ∧ ck (ev tm f) (evL tm as) st k = some x) ∨ Reach op tm st k x := by
  cases op
  case mv x =>
    have e : cOp (.mv x) = w1 (rdR x) (fun x _ tm st k => k (x tm) st) := rfl
    rw [e, w1_out] at h
    simp only [rdR_out, rdO_out] at h
    exact .inr ⟨_, _, rfl, h⟩
  case pick a b c =>
    have e : cOp (.pick a b c) = w3 (rdR a) (rdR b) (rdR c) (fun a b c _ tm st k => asBool (a tm) (k (c tm) st) (k (b tm) st) none) := rfl
    rw [e, w3_out] at h
    simp only [rdR_out, rdO_out] at h
    exact .inr (ok_pick h)
  case alloc e z =>
    exact .inr (ok_alloc h)
  case box e r =>
    have e : cOp (.box e r) = w1 (rdR r) (fun r _ tm st k => v_box e (r tm) st k) := rfl
    rw [e, w1_out] at h
    simp only [rdR_out, rdO_out] at h
    exact .inr (ok_box h)
  case build zero' parts' =>
    have e : cOp (.build zero' parts') = w1 (rdP parts') (fun parts' _ tm st k => optK (b_build zero' (parts' tm) st) k) := rfl
    rw [e, w1_out] at h
    simp only [rdR_out, rdL_out, rdO_out, rdP_out] at h
    exact .inr (ok_slow (b_build_eq zero' parts' tm st) h)
  case buildSlice elem' len' es' zero' parts' =>
    have e : cOp (.buildSlice elem' len' es' zero' parts') = w1 (rdP parts') (fun parts' _ tm st k => optK (b_buildSlice elem' len' es' zero' (parts' tm) st) k) := rfl
    rw [e, w1_out] at h
    simp only [rdR_out, rdL_out, rdO_out, rdP_out] at h
    exact .inr (ok_slow (b_buildSlice_eq elem' len' es' zero' parts' tm st) h)
  case load1 a =>
    have e : cOp (.load1 a) = w1 (rdR a) (fun a _ tm st k => v_load1 (a tm) st k) := rfl
    rw [e, w1_out] at h
    simp only [rdR_out, rdO_out] at h
    exact .inr (ok_load1 h)
  case loadN n a =>
    have e : cOp (.loadN n a) = w1 (rdR a) (fun a _ tm st k => v_loadN n (a tm) st k) := rfl
    rw [e, w1_out] at h
    simp only [rdR_out, rdO_out] at h
    exact .inr (ok_loadN h)
  case store n a r =>
    have e : cOp (.store n a r) = w2 (rdR a) (rdR r) (fun a r _ tm st k => v_store n (a tm) (r tm) (optK (b_store n (a tm) (r tm) st) k) st k) := rfl
    rw [e, w2_out] at h
    simp only [rdR_out, rdO_out] at h
    exact .inr (ok_store h)
  case nilck x' =>
    have e : cOp (.nilck x') = w1 (rdR x') (fun x' _ tm st k => optK (b_nilck (x' tm) st) k) := rfl
    rw [e, w1_out] at h
    simp only [rdR_out, rdL_out, rdO_out, rdP_out] at h
    exact .inr (ok_slow (b_nilck_eq x' tm st) h)
  case bin g op r s =>
    have e : cOp (.bin g op r s) = w2 (rdR r) (rdR s) (fun r s _ tm st k => v_bin g op (r tm) (s tm) (optK (b_bin g op (r tm) (s tm) st) k) st k) := rfl
    rw [e, w2_out] at h
    simp only [rdR_out, rdO_out] at h
    exact .inr (ok_bin h)
  case un op r =>
    have e : cOp (.un op r) = w1 (rdR r) (fun r _ tm st k => v_un op (r tm) (optK (b_un op (r tm) st) k) st k) := rfl
    rw [e, w1_out] at h
    simp only [rdR_out, rdO_out] at h
    exact .inr (ok_un h)
  case toInt k' x' =>
    have e : cOp (.toInt k' x') = w1 (rdR x') (fun x' _ tm st k => optK (b_toInt k' (x' tm) st) k) := rfl
    rw [e, w1_out] at h
    simp only [rdR_out, rdL_out, rdO_out, rdP_out] at h
    exact .inr (ok_slow (b_toInt_eq k' x' tm st) h)
  case toStr x' =>
    have e : cOp (.toStr x') = w1 (rdR x') (fun x' _ tm st k => optK (b_toStr (x' tm) st) k) := rfl
    rw [e, w1_out] at h
    simp only [rdR_out, rdL_out, rdO_out, rdP_out] at h
    exact .inr (ok_slow (b_toStr_eq x' tm st) h)
  case runeStr x' =>
    have e : cOp (.runeStr x') = w1 (rdR x') (fun x' _ tm st k => optK (b_runeStr (x' tm) st) k) := rfl
    rw [e, w1_out] at h
    simp only [rdR_out, rdL_out, rdO_out, rdP_out] at h
    exact .inr (ok_slow (b_runeStr_eq x' tm st) h)
  case toBytes elem' x' =>
    have e : cOp (.toBytes elem' x') = w1 (rdR x') (fun x' _ tm st k => optK (b_toBytes elem' (x' tm) st) k) := rfl
    rw [e, w1_out] at h
    simp only [rdR_out, rdL_out, rdO_out, rdP_out] at h
    exact .inr (ok_slow (b_toBytes_eq elem' x' tm st) h)
  case strId x' =>
    have e : cOp (.strId x') = w1 (rdR x') (fun x' _ tm st k => optK (b_strId (x' tm) st) k) := rfl
    rw [e, w1_out] at h
    simp only [rdR_out, rdL_out, rdO_out, rdP_out] at h
    exact .inr (ok_slow (b_strId_eq x' tm st) h)
  case ptrUs x' =>
    have e : cOp (.ptrUs x') = w1 (rdR x') (fun x' _ tm st k => optK (b_ptrUs (x' tm) st) k) := rfl
    rw [e, w1_out] at h
    simp only [rdR_out, rdL_out, rdO_out, rdP_out] at h
    exact .inr (ok_slow (b_ptrUs_eq x' tm st) h)
  case usPtr oks' x' =>
    have e : cOp (.usPtr oks' x') = w1 (rdR x') (fun x' _ tm st k => optK (b_usPtr oks' (x' tm) st) k) := rfl
    rw [e, w1_out] at h
    simp only [rdR_out, rdL_out, rdO_out, rdP_out] at h
    exact .inr (ok_slow (b_usPtr_eq oks' x' tm st) h)
  case mkIface t' x' =>
    have e : cOp (.mkIface t' x') = w1 (rdR x') (fun x' _ tm st k => optK (b_mkIface t' (x' tm) st) k) := rfl
    rw [e, w1_out] at h
    simp only [rdR_out, rdL_out, rdO_out, rdP_out] at h
    exact .inr (ok_slow (b_mkIface_eq t' x' tm st) h)
  case mkFunc f' a' b' =>
    have e : cOp (.mkFunc f' a' b') = w2 (rdL a') (rdL b') (fun a' b' _ tm st k => optK (b_mkFunc f' (a' tm) (b' tm) st) k) := rfl
    rw [e, w2_out] at h
    simp only [rdR_out, rdL_out, rdO_out, rdP_out] at h
    exact .inr (ok_slow (b_mkFunc_eq f' a' b' tm st) h)
  case mkMap =>
    exact .inr (ok_slow (b_mkMap_eq  tm st) h)
  case mkSlice elem' es' bytes' zero' len' cap' =>
    have e : cOp (.mkSlice elem' es' bytes' zero' len' cap') = w2 (rdR len') (rdR cap') (fun len' cap' _ tm st k => optK (b_mkSlice elem' es' bytes' zero' (len' tm) (cap' tm) st) k) := rfl
    rw [e, w2_out] at h
    simp only [rdR_out, rdL_out, rdO_out, rdP_out] at h
    exact .inr (ok_slow (b_mkSlice_eq elem' es' bytes' zero' len' cap' tm st) h)
  case cutStr r lo hi =>
    have e : cOp (.cutStr r lo hi) = w3 (rdR r) (rdO lo) (rdO hi) (fun r lo hi _ tm st k => v_cutStr (r tm) (lo tm) (hi tm) st k) := rfl
    rw [e, w3_out] at h
    simp only [rdR_out, rdO_out] at h
    exact .inr (ok_cutStr h)
  case cutSl es' x' lo' hi' mx' =>
    have e : cOp (.cutSl es' x' lo' hi' mx') = w4 (rdR x') (rdO lo') (rdO hi') (rdO mx') (fun x' lo' hi' mx' _ tm st k => optK (b_cutSl es' (x' tm) (lo' tm) (hi' tm) (mx' tm) st) k) := rfl
    rw [e, w4_out] at h
    simp only [rdR_out, rdL_out, rdO_out, rdP_out] at h
    exact .inr (ok_slow (b_cutSl_eq es' x' lo' hi' mx' tm st) h)
  case cutArr n' es' x' lo' hi' =>
    have e : cOp (.cutArr n' es' x' lo' hi') = w3 (rdR x') (rdO lo') (rdO hi') (fun x' lo' hi' _ tm st k => optK (b_cutArr n' es' (x' tm) (lo' tm) (hi' tm) st) k) := rfl
    rw [e, w3_out] at h
    simp only [rdR_out, rdL_out, rdO_out, rdP_out] at h
    exact .inr (ok_slow (b_cutArr_eq n' es' x' lo' hi' tm st) h)
  case fieldAddr o r =>
    have e : cOp (.fieldAddr o r) = w1 (rdR r) (fun r _ tm st k => v_fieldAddr o (r tm) st k) := rfl
    rw [e, w1_out] at h
    simp only [rdR_out, rdO_out] at h
    exact .inr (ok_fieldAddr h)
  case field agg' off' size' x' =>
    have e : cOp (.field agg' off' size' x') = w1 (rdR x') (fun x' _ tm st k => optK (b_field agg' off' size' (x' tm) st) k) := rfl
    rw [e, w1_out] at h
    simp only [rdR_out, rdL_out, rdO_out, rdP_out] at h
    exact .inr (ok_slow (b_field_eq agg' off' size' x' tm st) h)
  case idxArr len' es' x' i' =>
    have e : cOp (.idxArr len' es' x' i') = w2 (rdR x') (rdR i') (fun x' i' _ tm st k => optK (b_idxArr len' es' (x' tm) (i' tm) st) k) := rfl
    rw [e, w2_out] at h
    simp only [rdR_out, rdL_out, rdO_out, rdP_out] at h
    exact .inr (ok_slow (b_idxArr_eq len' es' x' i' tm st) h)
  case idxSl es r i =>
    have e : cOp (.idxSl es r i) = w2 (rdR r) (rdR i) (fun r i _ tm st k => v_idxSl es (r tm) (i tm) st k) := rfl
    rw [e, w2_out] at h
    simp only [rdR_out, rdO_out] at h
    exact .inr (ok_idxSl h)
  case idxStr r i =>
    have e : cOp (.idxStr r i) = w2 (rdR r) (rdR i) (fun r i _ tm st k => v_idxStr (r tm) (i tm) st k) := rfl
    rw [e, w2_out] at h
    simp only [rdR_out, rdO_out] at h
    exact .inr (ok_idxStr h)
  case idxAgg agg' len' es' x' i' =>
    have e : cOp (.idxAgg agg' len' es' x' i') = w2 (rdR x') (rdR i') (fun x' i' _ tm st k => optK (b_idxAgg agg' len' es' (x' tm) (i' tm) st) k) := rfl
    rw [e, w2_out] at h
    simp only [rdR_out, rdL_out, rdO_out, rdP_out] at h
    exact .inr (ok_slow (b_idxAgg_eq agg' len' es' x' i' tm st) h)
  case lookup kk' zero' ok' m' k' =>
    have e : cOp (.lookup kk' zero' ok' m' k') = w2 (rdR m') (rdR k') (fun m' k' _ tm st k => optK (b_lookup kk' zero' ok' (m' tm) (k' tm) st) k) := rfl
    rw [e, w2_out] at h
    simp only [rdR_out, rdL_out, rdO_out, rdP_out] at h
    exact .inr (ok_slow (b_lookup_eq kk' zero' ok' m' k' tm st) h)
  case mapUpd kk' m' k' v' =>
    have e : cOp (.mapUpd kk' m' k' v') = w3 (rdR m') (rdR k') (rdR v') (fun m' k' v' _ tm st k => optK (b_mapUpd kk' (m' tm) (k' tm) (v' tm) st) k) := rfl
    rw [e, w3_out] at h
    simp only [rdR_out, rdL_out, rdO_out, rdP_out] at h
    exact .inr (ok_slow (b_mapUpd_eq kk' m' k' v' tm st) h)
  case mapEnt kk' zero' m' k' =>
    have e : cOp (.mapEnt kk' zero' m' k') = w2 (rdR m') (rdR k') (fun m' k' _ tm st k => optK (b_mapEnt kk' zero' (m' tm) (k' tm) st) k) := rfl
    rw [e, w2_out] at h
    simp only [rdR_out, rdL_out, rdO_out, rdP_out] at h
    exact .inr (ok_slow (b_mapEnt_eq kk' zero' m' k' tm st) h)
  case entSt m' s' v' =>
    have e : cOp (.entSt m' s' v') = w3 (rdR m') (rdR s') (rdR v') (fun m' s' v' _ tm st k => optK (b_entSt (m' tm) (s' tm) (v' tm) st) k) := rfl
    rw [e, w3_out] at h
    simp only [rdR_out, rdL_out, rdO_out, rdP_out] at h
    exact .inr (ok_slow (b_entSt_eq m' s' v' tm st) h)
  case rangeMap x' =>
    have e : cOp (.rangeMap x') = w1 (rdR x') (fun x' _ tm st k => optK (b_rangeMap (x' tm) st) k) := rfl
    rw [e, w1_out] at h
    simp only [rdR_out, rdL_out, rdO_out, rdP_out] at h
    exact .inr (ok_slow (b_rangeMap_eq x' tm st) h)
  case rangeStr x' =>
    have e : cOp (.rangeStr x') = w1 (rdR x') (fun x' _ tm st k => optK (b_rangeStr (x' tm) st) k) := rfl
    rw [e, w1_out] at h
    simp only [rdR_out, rdL_out, rdO_out, rdP_out] at h
    exact .inr (ok_slow (b_rangeStr_eq x' tm st) h)
  case nextMap it' =>
    have e : cOp (.nextMap it') = w1 (rdR it') (fun it' _ tm st k => optK (b_nextMap (it' tm) st) k) := rfl
    rw [e, w1_out] at h
    simp only [rdR_out, rdL_out, rdO_out, rdP_out] at h
    exact .inr (ok_slow (b_nextMap_eq it' tm st) h)
  case nextStr it' =>
    have e : cOp (.nextStr it') = w1 (rdR it') (fun it' _ tm st k => optK (b_nextStr (it' tm) st) k) := rfl
    rw [e, w1_out] at h
    simp only [rdR_out, rdL_out, rdO_out, rdP_out] at h
    exact .inr (ok_slow (b_nextStr_eq it' tm st) h)
  case entry it' =>
    have e : cOp (.entry it') = w1 (rdR it') (fun it' _ tm st k => optK (b_entry (it' tm) st) k) := rfl
    rw [e, w1_out] at h
    simp only [rdR_out, rdL_out, rdO_out, rdP_out] at h
    exact .inr (ok_slow (b_entry_eq it' tm st) h)
  case extract i' x' =>
    have e : cOp (.extract i' x') = w1 (rdR x') (fun x' _ tm st k => optK (b_extract i' (x' tm) st) k) := rfl
    rw [e, w1_out] at h
    simp only [rdR_out, rdL_out, rdO_out, rdP_out] at h
    exact .inr (ok_slow (b_extract_eq i' x' tm st) h)
  case len g r =>
    have e : cOp (.len g r) = w1 (rdR r) (fun r _ tm st k => v_len g (r tm) (optK (b_len g (r tm) st) k) st k) := rfl
    rw [e, w1_out] at h
    simp only [rdR_out, rdO_out] at h
    exact .inr (ok_len h)
  case lenC n' =>
    exact .inr (ok_slow (b_lenC_eq n' tm st) h)
  case app elem' es' bytes' zero' s' x' =>
    have e : cOp (.app elem' es' bytes' zero' s' x') = w2 (rdR s') (rdR x') (fun s' x' _ tm st k => optK (b_app elem' es' bytes' zero' (s' tm) (x' tm) st) k) := rfl
    rw [e, w2_out] at h
    simp only [rdR_out, rdL_out, rdO_out, rdP_out] at h
    exact .inr (ok_slow (b_app_eq elem' es' bytes' zero' s' x' tm st) h)
  case copy es' d' s' =>
    have e : cOp (.copy es' d' s') = w2 (rdR d') (rdR s') (fun d' s' _ tm st k => optK (b_copy es' (d' tm) (s' tm) st) k) := rfl
    rw [e, w2_out] at h
    simp only [rdR_out, rdL_out, rdO_out, rdP_out] at h
    exact .inr (ok_slow (b_copy_eq es' d' s' tm st) h)
  case minI x' y' =>
    have e : cOp (.minI x' y') = w2 (rdR x') (rdR y') (fun x' y' _ tm st k => optK (b_minI (x' tm) (y' tm) st) k) := rfl
    rw [e, w2_out] at h
    simp only [rdR_out, rdL_out, rdO_out, rdP_out] at h
    exact .inr (ok_slow (b_minI_eq x' y' tm st) h)
  case maxI x' y' =>
    have e : cOp (.maxI x' y') = w2 (rdR x') (rdR y') (fun x' y' _ tm st k => optK (b_maxI (x' tm) (y' tm) st) k) := rfl
    rw [e, w2_out] at h
    simp only [rdR_out, rdL_out, rdO_out, rdP_out] at h
    exact .inr (ok_slow (b_maxI_eq x' y' tm st) h)
  case clearSl es' zero' x' =>
    have e : cOp (.clearSl es' zero' x') = w1 (rdR x') (fun x' _ tm st k => optK (b_clearSl es' zero' (x' tm) st) k) := rfl
    rw [e, w1_out] at h
    simp only [rdR_out, rdL_out, rdO_out, rdP_out] at h
    exact .inr (ok_slow (b_clearSl_eq es' zero' x' tm st) h)
  case delete kk' m' k' =>
    have e : cOp (.delete kk' m' k') = w2 (rdR m') (rdR k') (fun m' k' _ tm st k => optK (b_delete kk' (m' tm) (k' tm) st) k) := rfl
    rw [e, w2_out] at h
    simp only [rdR_out, rdL_out, rdO_out, rdP_out] at h
    exact .inr (ok_slow (b_delete_eq kk' m' k' tm st) h)
  case usData x' =>
    have e : cOp (.usData x') = w1 (rdR x') (fun x' _ tm st k => optK (b_usData (x' tm) st) k) := rfl
    rw [e, w1_out] at h
    simp only [rdR_out, rdL_out, rdO_out, rdP_out] at h
    exact .inr (ok_slow (b_usData_eq x' tm st) h)
  case usStr elem' x' n' =>
    have e : cOp (.usStr elem' x' n') = w2 (rdR x') (rdR n') (fun x' n' _ tm st k => optK (b_usStr elem' (x' tm) (n' tm) st) k) := rfl
    rw [e, w2_out] at h
    simp only [rdR_out, rdL_out, rdO_out, rdP_out] at h
    exact .inr (ok_slow (b_usStr_eq elem' x' n' tm st) h)
  case recov =>
    exact .inr (ok_slow (b_recov_eq  tm st) h)
  case call f as =>
    refine .inl ⟨f, as, rfl, ?_⟩
    rw [← rdR_out, ← rdL_out]
    have e : cOp (.call f as) = w2 (rdR f) (rdL as) (fun g gs ck tm st k => ck (g tm) (gs tm) st k) := rfl
    rw [e, w2_out] at h; exact h
  case defer f' args' =>
    have e : cOp (.defer f' args') = w2 (rdR f') (rdL args') (fun f' args' _ tm st k => optK (b_defer (f' tm) (args' tm) st) k) := rfl
    rw [e, w2_out] at h
    simp only [rdR_out, rdL_out, rdO_out, rdP_out] at h
    exact .inr (ok_slow (b_defer_eq f' args' tm st) h)
  case bad =>
    exact .inr (ok_slow (b_bad_eq  tm st) h)
end Go.RI
