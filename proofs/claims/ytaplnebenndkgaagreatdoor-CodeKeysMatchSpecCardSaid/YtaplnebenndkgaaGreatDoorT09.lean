/- A compiler from bodies of Go functions into a small language of values and blocks, and the proof that a run of the compiled text is a run of the program. Conditions: none. -/
import Derived.Test.YtaplnebenndkgaaGreatDoorT08
set_option linter.all false
namespace Go.RI
variable [cx : Cx]
def setL (L : Nat → Bool) (i : Nat) : Nat → Bool := fun j => if j = i then true else L j
omit cx in
theorem setL_same (L : Nat → Bool) (i : Nat) : setL L i i = true := by simp [setL]
omit cx in
theorem setL_ne (L : Nat → Bool) {i j : Nat} (h : j ≠ i) : setL L i j = L j := by simp [setL, h]
section
variable {cf : AV → List AV → St → Option (AV × St)} {as : List AOper} {T : Nat → Fr × St} {S : Nat → St} {E : Nat → Eff} {n N : Nat} {β0 : Bmap} {w0 : World}
  {L : Nat → Bool} {β : Bmap} {a : Act} {W : World} {i : Nat}
def mixB (T : Nat → Fr × St) (i : Nat) (β β' : Bmap) : Bmap := fun b => if nx T i ≤ b ∧ b < nx T (i + 1) then β' b else β b
theorem Inv.after (I : Inv as T S E n N β0 w0 L β a W) (R : Reg cf as T S E n) (X : Next as T S E n L i) {ao : AOper} {v : AV} {X0 X1 : St} (hao : as[i]? = some ao) (hT1 : (T (i + 1)).1 = { (T i).1 with tm := putT (T i).1.tm ao.dst v })
    (A : Ahead cf T S E β W i ao v X0 X1) {β' : Bmap} {x : Value} {W' : World} (hp' : Post (below (nx T i) β) X0 W β' X1 W') (hv : ∀ t, ao.dst = some t → VRel β' v x) (hd : dstOk N ao.dst = true) :
    Inv as T S E n N β0 w0 (setL L i) (mixB T i β β') (a.put ao.dst x) W' := by
  have hin := X.lt
  have hmono := R.mono1 hin
  have n0 : nx T 0 ≤ nx T i := R.mono (Nat.zero_le i) (Nat.le_of_lt hin)
  have in_ : ∀ b, nx T i ≤ b → b < nx T (i + 1) → mixB T i β β' b = β' b := fun b h1 h2 => by simp only [mixB]; rw [if_pos ⟨h1, h2⟩]
  have out_ : ∀ b, ¬ (nx T i ≤ b ∧ b < nx T (i + 1)) → mixB T i β β' b = β b := fun b h => by simp only [mixB]; rw [if_neg h]
  have B1 : ∀ b, nx T i ≤ b → b < nx T (i + 1) → β b = none := by
    intro b h1 h2
    cases e : β b with
    | none => rfl
    | some im =>
      obtain ⟨j, hj, hL, h3, h4⟩ := I.made b im e (Nat.le_trans n0 h1)
      have := R.maker hj hin h3 h4 h1 h2
      subst this; rw [X.new] at hL; cases hL
  have B2 : Ext β (mixB T i β β') := by
    intro b im hb
    by_cases h : nx T i ≤ b ∧ b < nx T (i + 1)
    · rw [B1 b h.1 h.2] at hb; cases hb
    · rw [out_ b h]; exact hb
  have lowB : ∀ b, b < nx T i → β' b = β b := fun b hb => by
    rw [hp'.old b (by rw [A.next]; exact hb)]
    unfold below; rw [if_pos hb]
  have B3 : ∀ b im, β' b = some im ↔ b < nx T (i + 1) ∧ mixB T i β β' b = some im := by
    intro b im
    constructor
    · intro hb
      have h1 : b < nx T (i + 1) := by rw [← A.next1]; exact (hp'.rel.lt b im hb).1
      refine ⟨h1, ?_⟩
      by_cases h : nx T i ≤ b
      · rw [in_ b h h1]; exact hb
      · rw [out_ b (fun q => h q.1), ← lowB b (Nat.lt_of_not_le h)]; exact hb
    · rintro ⟨h1, hb⟩
      by_cases h : nx T i ≤ b
      · rw [in_ b h h1] at hb; exact hb
      · rw [out_ b (fun q => h q.1), ← lowB b (Nat.lt_of_not_le h)] at hb; exact hb
  have E1 : Ext β' (below (nx T (i + 1)) (mixB T i β β')) := fun b im hb => below_some.2 ((B3 b im).1 hb)
  have E2 : Ext β' (mixB T i β β') := fun b im hb => ((B3 b im).1 hb).2
  have oldHold : ∀ b im, nx T i ≤ b → β' b = some im → im.blk < W.heap.size → ∃ b0 im0, b0 < nx T i ∧ β b0 = some im0 ∧ im0.blk = im.blk ∧ ¬ Gone (X0.heap.get b0) ∧ b0 ∈ (S i).log := by
    intro b im h1 hb hs
    obtain ⟨b0, im0, q1, q2, q3, q4⟩ := hp'.hold b im (by rw [A.next]; exact h1) hb hs
    refine ⟨b0, im0, (below_some.1 q1).1, (below_some.1 q1).2, q2, q3, ?_⟩
    rcases q4 with h | h
    · rw [← A.log1]; exact h
    · rw [A.thr] at h; exact absurd (below_some.1 q1).1 (Nat.not_lt.2 h)
  have fresh : (E i).cls ≠ .chain → ∀ b im, nx T i ≤ b → β' b = some im → W.heap.size ≤ im.blk := by
    intro hc b im h1 hb
    rcases Nat.lt_or_ge im.blk W.heap.size with hs | hs
    · exfalso
      have h2 := ((B3 b im).1 hb).1
      obtain ⟨b0, im0, q0, _, _, q3, _⟩ := oldHold b im h1 hb hs
      cases hq : (E i).cls with
      | chain => exact hc hq
      | load => rw [R.loadNx hin hq] at h2; omega
      | pure => exact q3 (A.pure hq b0 q0)
    · exact hs
  have one : (E i).cls ≠ .chain → ∀ b b', nx T i ≤ b → b < nx T (i + 1) → nx T i ≤ b' → b' < nx T (i + 1) → b = b' := by
    intro hc b b' h1 h2 h3 h4
    cases hq : (E i).cls with
    | chain => exact absurd hq hc
    | load => rw [R.loadNx hin hq] at h2; omega
    | pure => have := R.pureNx hin hq; omega
  have sameC : (E i).cls ≠ .chain → ∀ c, c < W.heap.size → W'.heap[c]? = W.heap[c]? := by
    intro hc c hcs
    refine hp'.frame.blk c hcs fun b im hb e => ?_
    rw [A.thr, A.log1, R.quiet hin hc]
    refine ⟨?_, by simp⟩
    rcases Nat.lt_or_ge b (nx T i) with h | h
    · exact h
    · have := fresh hc b im h hb; omega
  have laterJ : (E i).cls = .chain → ∀ b im, β b = some im → nx T (i + 1) ≤ b → ∃ j, j < n ∧ i < j ∧ L j = true ∧ (E j).cls = .pure ∧ nx T j ≤ b ∧ b < nx T (j + 1) := by
    intro hc b im hb hge
    obtain ⟨j, hj, hL, h3, h4⟩ := I.made b im hb (Nat.le_trans n0 (Nat.le_trans hmono hge))
    have hij : i < j := by
      rcases Nat.lt_trichotomy i j with h | h | h
      · exact h
      · subst h; omega
      · have := R.mono (k := j + 1) (l := i) h (Nat.le_of_lt hin); omega
    refine ⟨j, hj, hij, hL, ?_, h3, h4⟩
    cases hq : (E j).cls with
    | chain => rw [X.chainLate hc hij hj hq] at hL; cases hL
    | load => rw [R.loadNx hj hq] at h4; omega
    | pure => rfl
  have isoLater : (E i).cls = .chain → ∀ b im, β b = some im → nx T (i + 1) ≤ b → ∀ b' im', β b' = some im' → b' ≠ b → im'.blk ≠ im.blk := by
    intro hc b im hb hge b' im' hb' hne
    obtain ⟨j, hj, hij, hL, hpj, h3, h4⟩ := laterJ hc b im hb hge
    exact I.iso j b b' im im' hj hL hpj h3 h4 (fun k hk hkn hck => X.chainLate hc (by omega) hkn hck) hb hne hb'
  have sameHi : (E i).cls = .chain → ∀ b im, β b = some im → nx T (i + 1) ≤ b → W'.heap[im.blk]? = W.heap[im.blk]? := by
    intro hc b im hb hge
    refine hp'.frame.blk _ (I.lt b im hb) fun b' im' hb' e => ?_
    exfalso
    rcases Nat.lt_or_ge b' (nx T i) with h | h
    · exact isoLater hc b im hb hge b' im' (by rw [← lowB b' h]; exact hb') (by omega) e
    · obtain ⟨b0, im0, q0, q1, q2, _⟩ := oldHold b' im' h hb' (by rw [e]; exact I.lt b im hb)
      exact isoLater hc b im hb hge b0 im0 q1 (by omega) (q2.trans e)
  have iso2 : ∀ j b b' im im', j < n → setL L i j = true → (E j).cls = .pure → nx T j ≤ b → b < nx T (j + 1) → (∀ k, j < k → k < n → (E k).cls = .chain → setL L i k = false) →
      mixB T i β β' b = some im → b' ≠ b → mixB T i β β' b' = some im' → im'.blk ≠ im.blk := by
    intro j b b' im im' hj hL hpj h3 h4 hch hb hne hb'
    by_cases hji : j = i
    · subst hji
      have hc : (E j).cls ≠ .chain := by rw [hpj]; simp
      rw [in_ b h3 h4] at hb
      have hf := fresh hc b im h3 hb
      by_cases hq : nx T j ≤ b' ∧ b' < nx T (j + 1)
      · exact absurd (one hc b' b hq.1 hq.2 h3 h4) hne
      · rw [out_ b' hq] at hb'
        have := I.lt b' im' hb'; omega
    · rw [setL_ne L hji] at hL
      have hbo : ¬ (nx T i ≤ b ∧ b < nx T (i + 1)) := fun q => hji (R.maker hj hin h3 h4 q.1 q.2)
      rw [out_ b hbo] at hb
      have hch' : ∀ k, j < k → k < n → (E k).cls = .chain → L k = false := fun k h1 h2 h5 => by
        have := hch k h1 h2 h5
        by_cases hki : k = i
        · subst hki; exact X.new
        · rw [setL_ne L hki] at this; exact this
      by_cases hq : nx T i ≤ b' ∧ b' < nx T (i + 1)
      · rw [in_ b' hq.1 hq.2] at hb'
        have hbs := I.lt b im hb
        by_cases hc : (E i).cls = .chain
        · have hij : i < j := by
            rcases Nat.lt_trichotomy i j with h | h | h
            · exact h
            · exact absurd h.symm hji
            · have := hch i h hin hc; rw [setL_same] at this; cases this
          rcases Nat.lt_or_ge im'.blk W.heap.size with hs | hs
          · obtain ⟨b0, im0, q0, q1, q2, _⟩ := oldHold b' im' hq.1 hb' hs
            have := R.mono (k := i + 1) (l := j) hij (Nat.le_of_lt hj)
            have := I.iso j b b0 im im0 hj hL hpj h3 h4 hch' hb (by omega) q1
            rw [← q2]; exact this
          · omega
        · have := fresh hc b' im' hq.1 hb'; omega
      · rw [out_ b' hq] at hb'
        exact I.iso j b b' im im' hj hL hpj h3 h4 hch' hb hne hb'
  have consNext : ∀ b, wrote T S i b → ∀ j, i < j → j < n → wrote T S j b → setL L i j = false := by
    intro b hw j hij hj hwj
    rw [setL_ne L (by omega)]
    cases hL : L j with
    | false => rfl
    | true =>
      exfalso
      rcases hwj with ⟨h, _⟩ | ⟨h1, h2⟩
      · have hcj : (E j).cls = .chain := by
          cases hq : (E j).cls with
          | chain => rfl
          | load => rw [R.quiet hj (by rw [hq]; simp)] at h; cases h
          | pure => rw [R.quiet hj (by rw [hq]; simp)] at h; cases h
        have hcl := X.late j hij hj hL
        obtain ⟨f1, f2, _⟩ := R.eff hin
        have f3 := (R.eff hj).2.2 hcj
        cases hq : (E i).cls with
        | chain => rw [X.chainLate hq hij hj hcj] at hL; cases hL
        | load =>
          rcases hw with ⟨h', _⟩ | ⟨h1, h2⟩
          · rw [R.quiet hin (by rw [hq]; simp)] at h'; cases h'
          · rw [R.loadNx hin hq] at h2; omega
        | pure =>
          rcases hw with ⟨h', _⟩ | ⟨h1, h2⟩
          · rw [R.quiet hin (by rw [hq]; simp)] at h'; cases h'
          · unfold clash at hcl; rw [hcj, hq] at hcl
            simp only [f1, f2, f3] at hcl
            have : ∀ l : List Nat, b ∈ l → anyIn (nx T i) (nx T (i + 1)) l = true := by
              intro l hl
              induction l with
              | nil => cases hl
              | cons y l ih =>
                simp only [anyIn, Bool.or_eq_true, Bool.and_eq_true]
                rcases List.mem_cons.1 hl with rfl | hl
                · exact .inl ⟨Nat.ble_eq_true_of_le h1, Nat.ble_eq_true_of_le h2⟩
                · exact .inr (ih hl)
            rw [this _ h] at hcl; cases hcl
      · rcases hw with ⟨_, h'⟩ | ⟨h3, h4⟩
        · have := R.mono (k := i) (l := j) (by omega) (by omega); omega
        · have := R.maker hin hj h3 h4 h1 h2; omega
  have back : ∀ k b, k ≤ n → bcons T S n (setL L i) k b → wrote T S i b → i < k ∧ hp T k b = hp T (i + 1) b := by
    intro k b hk hc hw
    have hik : i < k := by
      rcases Nat.lt_or_ge i k with h | h
      · exact h
      · have := hc.2 i h hin hw; rw [setL_same] at this; cases this
    refine ⟨hik, R.keep (k := i + 1) hik hk ?_ fun j h1 h2 hwj => ?_⟩
    · rcases hw with ⟨_, h⟩ | ⟨_, h⟩
      · omega
      · exact h
    · have h3 := hc.1 j h2 hwj
      rw [consNext b hw j h1 (by omega) hwj] at h3; cases h3
  have consOld : ∀ k b, bcons T S n (setL L i) k b → ¬ wrote T S i b → bcons T S n L k b := by
    intro k b hc hw
    refine ⟨fun j h1 h2 => ?_, fun j h1 h2 h3 => ?_⟩
    · have := hc.1 j h1 h2
      rwa [setL_ne L (fun e => hw (by rw [← e]; exact h2))] at this
    · have := hc.2 j h1 h2 h3
      rwa [setL_ne L (fun e => hw (by rw [← e]; exact h3))] at this
  have notW : ∀ b, ¬ wrote T S i b → ¬ (nx T i ≤ b ∧ b < nx T (i + 1)) := fun b h q => h (.inr q)
  have backC : (E i).cls = .chain → ∀ k b im, i < k → k ≤ n → bcons T S n (setL L i) k b → b < nx T k → b < nx T (i + 1) → mixB T i β β' b = some im → hp T k b = hp T (i + 1) b := by
    intro hc k b im hik hk hcons hbk hbi hb
    by_cases hw : wrote T S i b
    · exact (back k b hk hcons hw).2
    · have hout := notW b hw
      rw [out_ b hout] at hb
      have hbl : b < nx T i := by
        rcases Nat.lt_or_ge b (nx T i) with h | h
        · exact h
        · exact absurd ⟨h, hbi⟩ hout
      rw [R.consSame hk (Nat.le_of_lt hin) (consOld k b hcons hw) (I.consAt R X hb hbl (chain_outLogs R X hc b)) hbk hbl]
      exact (R.keep1 hin hbl fun hm => hw (.inl ⟨hm, hbl⟩)).symm
  have upL : ∀ {b0 : Nat}, (∃ j, j < n ∧ L j = true ∧ b0 ∈ (S j).log) → ∃ j, j < n ∧ setL L i j = true ∧ b0 ∈ (S j).log := by
    rintro b0 ⟨j, h1, h2, h3⟩
    refine ⟨j, h1, ?_, h3⟩
    by_cases e : j = i
    · subst e; exact setL_same L j
    · rw [setL_ne L e]; exact h2
  have dsti : dstAt as i = ao.dst := by unfold dstAt; rw [hao]; rfl
  refine { size := ?_, df := ?_, temps := ?_, ext := I.ext.trans B2, old := ?_, made := ?_, lt := ?_, obj := ?_, sep := ?_, iso := iso2, hold := ?_, os := hp'.frame.os.trans I.os, tape := hp'.frame.tape.trans I.tape, output := hp'.frame.output.trans I.output,
           grows := Nat.le_trans I.grows hp'.frame.size, thr := I.thr, blk := ?_ }
  · cases hq : ao.dst with
    | none => exact I.size
    | some t => simpa [Act.put] using I.size
  · cases hq : ao.dst with
    | none => exact I.df
    | some t => exact I.df
  · intro t k hk hc
    by_cases hdt : ao.dst = some t
    · have hik : i < k := by
        rcases Nat.lt_or_ge i k with h | h
        · exact h
        · have := hc.2 i h hin (dsti.trans hdt); rw [setL_same] at this; cases this
      have htm : ev (T k).1.tm (.tmp t) = ev (T (i + 1)).1.tm (.tmp t) := R.tmk (k := i + 1) hik hk fun j h1 h2 hj => by
        have hL := hc.1 j h2 hj
        rw [setL_ne L (by omega)] at hL
        exact (X.apart j t (by omega) (.inr ⟨h1, hL⟩) hj).2 (dsti.trans hdt)
      rw [htm, hT1]
      show VRel _ (ev (putT (T i).1.tm ao.dst v) (.tmp t)) _
      rw [hdt, ev_putT_same, put_getD]
      have hts : t < a.tmps.size := by
        rw [hdt] at hd
        exact Nat.lt_of_lt_of_le (Nat.le_of_ble_eq_true hd) I.size
      rw [if_pos ⟨rfl, hts⟩]
      exact (hv t hdt).mono (E1.trans (below_mono (R.mono (k := i + 1) hik hk) (Ext.refl _)))
    · have hval : (a.put ao.dst x).tmps.getD t undef = a.tmps.getD t undef := by
        cases hq : ao.dst with
        | none => rfl
        | some s => rw [put_getD, if_neg (fun h => hdt (by rw [hq, h.1]))]
      rw [hval]
      refine (I.temps t k hk ⟨fun j h1 h2 => ?_, fun j h1 h2 h3 => ?_⟩).mono (below_mono (Nat.le_refl _) B2)
      · have := hc.1 j h1 h2
        rwa [setL_ne L (fun e => hdt (by rw [← dsti, ← e]; exact h2))] at this
      · have := hc.2 j h1 h2 h3
        rwa [setL_ne L (fun e => hdt (by rw [← dsti, ← e]; exact h3))] at this
  · intro b hb
    rw [out_ b (fun q => by omega)]; exact I.old b hb
  · intro b im hb hge
    by_cases h : nx T i ≤ b ∧ b < nx T (i + 1)
    · exact ⟨i, hin, setL_same L i, h.1, h.2⟩
    · rw [out_ b h] at hb
      obtain ⟨j, hj, hL, h3, h4⟩ := I.made b im hb hge
      refine ⟨j, hj, ?_, h3, h4⟩
      by_cases e : j = i
      · subst e; exact setL_same L j
      · rw [setL_ne L e]; exact hL
  · intro b im hb
    by_cases h : nx T i ≤ b ∧ b < nx T (i + 1)
    · rw [in_ b h.1 h.2] at hb; exact (hp'.rel.lt b im hb).2
    · rw [out_ b h] at hb; exact Nat.lt_of_lt_of_le (I.lt b im hb) hp'.frame.size
  · intro k b o im hk hc hbk ho hb
    by_cases hw : wrote T S i b
    · obtain ⟨hik, he⟩ := back k b hk hc hw
      have hbi : b < nx T (i + 1) := by
        rcases hw with ⟨_, h⟩ | ⟨_, h⟩
        · omega
        · exact h
      rw [he, ← A.wrote b hw] at ho
      exact (hp'.rel.obj b o im ho ((B3 b im).2 ⟨hbi, hb⟩)).mono (E1.trans (below_mono (R.mono (k := i + 1) hik hk) (Ext.refl _))) rfl
    · have hout := notW b hw
      rw [out_ b hout] at hb
      have hcL := consOld k b hc hw
      have old := I.obj k b o im hk hcL hbk ho hb
      by_cases hch : (E i).cls = .chain
      · rcases Nat.lt_or_ge b (nx T i) with hbl | hbl
        · have e1 := R.consSame hk (Nat.le_of_lt hin) hcL (I.consAt R X hb hbl (chain_outLogs R X hch b)) hbk hbl
          have e2 := R.keep1 hin hbl fun hm => hw (.inl ⟨hm, hbl⟩)
          have e3 : X1.heap.get b = some o := by rw [(A.chain hch b).2, e2, ← e1]; exact ho
          exact ORel.within E2 old (hp'.rel.obj b o im e3 (by rw [lowB b hbl]; exact hb))
        · exact old.mono (below_mono (Nat.le_refl _) B2) (sameHi hch b im hb (by
            rcases Nat.lt_or_ge b (nx T (i + 1)) with h | h
            · exact absurd ⟨hbl, h⟩ hout
            · exact h))
      · exact old.mono (below_mono (Nat.le_refl _) B2) (sameC hch _ (I.lt b im hb))
  · intro k b1 b2 o1 o2 im1 im2 hk c1 c2 l1 l2 hne g1 g2 i1 i2 hblk d1 d2
    have oldSep : ¬ wrote T S i b1 → ¬ wrote T S i b2 → (o1.kin = some b2 ∧ o2.kin = some b1 ∧ im1 = im2) := fun w1 w2 => by
      rw [out_ b1 (notW b1 w1)] at i1
      rw [out_ b2 (notW b2 w2)] at i2
      exact I.sep k b1 b2 o1 o2 im1 im2 hk (consOld k b1 c1 w1) (consOld k b2 c2 w2) l1 l2 hne g1 g2 i1 i2 hblk d1 d2
    by_cases hch : (E i).cls = .chain
    · rcases Nat.lt_or_ge i k with hik | hik
      · have later2 : ∀ b im b' im', mixB T i β β' b = some im → nx T (i + 1) ≤ b → mixB T i β β' b' = some im' → b' ≠ b → im'.blk ≠ im.blk := by
          intro b im b' im' hb hge hb' hne'
          have hb0 := hb
          rw [out_ b (fun q => by omega)] at hb0
          obtain ⟨j, hj, hij, hL, hpj, h3, h4⟩ := laterJ hch b im hb0 hge
          refine iso2 j b b' im im' hj (by rw [setL_ne L (by omega)]; exact hL) hpj h3 h4 (fun k hk hkn hck => ?_) hb hne' hb'
          rw [setL_ne L (by omega)]; exact X.chainLate hch (by omega) hkn hck
        rcases Nat.lt_or_ge b1 (nx T (i + 1)) with h1 | h1
        · rcases Nat.lt_or_ge b2 (nx T (i + 1)) with h2 | h2
          · rw [backC hch k b1 im1 hik hk c1 l1 h1 i1, ← (A.chain hch b1).2] at g1
            rw [backC hch k b2 im2 hik hk c2 l2 h2 i2, ← (A.chain hch b2).2] at g2
            exact hp'.rel.sep b1 b2 o1 o2 im1 im2 hne g1 g2 ((B3 b1 im1).2 ⟨h1, i1⟩) ((B3 b2 im2).2 ⟨h2, i2⟩) hblk d1 d2
          · exact absurd hblk (later2 b2 im2 b1 im1 i2 h2 i1 hne)
        · exact absurd hblk.symm (later2 b1 im1 b2 im2 i1 h1 i2 (Ne.symm hne))
      · refine oldSep (fun hw => ?_) (fun hw => ?_)
        · have := c1.2 i hik hin hw; rw [setL_same] at this; cases this
        · have := c2.2 i hik hin hw; rw [setL_same] at this; cases this
    · have nolog : ∀ b, wrote T S i b → nx T i ≤ b ∧ b < nx T (i + 1) := by
        intro b hw
        rcases hw with ⟨h, _⟩ | h
        · rw [R.quiet hin hch] at h; cases h
        · exact h
      by_cases w1 : wrote T S i b1
      · obtain ⟨q1, q2⟩ := nolog b1 w1
        rw [in_ b1 q1 q2] at i1
        have f1 := fresh hch b1 im1 q1 i1
        by_cases w2 : wrote T S i b2
        · obtain ⟨r1, r2⟩ := nolog b2 w2
          exact absurd (one hch b1 b2 q1 q2 r1 r2) hne
        · rw [out_ b2 (notW b2 w2)] at i2
          have := I.lt b2 im2 i2; omega
      · by_cases w2 : wrote T S i b2
        · obtain ⟨r1, r2⟩ := nolog b2 w2
          rw [in_ b2 r1 r2] at i2
          have f2 := fresh hch b2 im2 r1 i2
          rw [out_ b1 (notW b1 w1)] at i1
          have := I.lt b1 im1 i1; omega
        · exact oldSep w1 w2
  · intro b im hge hb hs
    by_cases h : nx T i ≤ b ∧ b < nx T (i + 1)
    · rw [in_ b h.1 h.2] at hb
      have hsW : im.blk < W.heap.size := Nat.lt_of_lt_of_le hs I.grows
      obtain ⟨b0, im0, q0, q1, q2, q3, q4⟩ := oldHold b im h.1 hb hsW
      by_cases hch : (E i).cls = .chain
      · rw [(A.chain hch b0).1] at q3
        rcases Nat.lt_or_ge b0 (nx T 0) with hb0 | hb0
        · exact ⟨b0, im0, by rw [← I.old b0 hb0]; exact q1, q2, fun hg => q3 (R.stays (Nat.zero_le i) (Nat.le_of_lt hin) hb0 hg), .inl ⟨i, hin, setL_same L i, q4⟩⟩
        · obtain ⟨b00, im00, r1, r2, r3, r4⟩ := I.hold b0 im0 hb0 q1 (by rw [q2]; exact hs)
          exact ⟨b00, im00, r1, r2.trans q2, r3, r4.imp upL id⟩
      · have := fresh hch b im h.1 hb; omega
    · rw [out_ b h] at hb
      obtain ⟨b00, im00, r1, r2, r3, r4⟩ := I.hold b im hge hb hs
      exact ⟨b00, im00, r1, r2, r3, r4.imp upL id⟩
  · intro c hcs hall
    have e1 : W'.heap[c]? = W.heap[c]? := hp'.frame.blk c (Nat.lt_of_lt_of_le hcs I.grows) fun b im hb e => by
      obtain ⟨h1, h2⟩ := hall b im (E2 b im hb) e
      rw [A.thr, A.log1]
      exact ⟨by have := I.thr; omega, h2 i hin (setL_same L i)⟩
    rw [e1]
    refine I.blk c hcs fun b im hb e => ?_
    obtain ⟨h1, h2⟩ := hall b im (B2 b im hb) e
    refine ⟨h1, fun j hj hL => h2 j hj ?_⟩
    by_cases e : j = i
    · subst e; exact setL_same L j
    · rw [setL_ne L e]; exact hL
end
end Go.RI
namespace Go.RI
variable [cx : Cx]
section
variable {G : Nat} {tt : TT} {P : Program} {cf : AV → List AV → St → Option (AV × St)}
omit cx in
theorem compOpers_get {N : Nat} {ops : Array Oper} : ∀ {l : List Oper} {as : List AOper}, compOpers G tt N ops l = some as → as.length = l.length ∧ ∀ (i : Nat) (o : Oper), l[i]? = some o → ∃ ao : AOper, as[i]? = some ao ∧ compOper G tt N ops o = some ao
  | [], as, h => by simp only [compOpers, Option.some.injEq] at h; subst h; exact ⟨rfl, fun i o h => by simp at h⟩
  | o :: l, as, h => by
    simp only [compOpers] at h
    split at h
    case h_2 => cases h
    rename_i a as' ha has
    cases h
    obtain ⟨q1, q2⟩ := compOpers_get has
    refine ⟨by simp [q1], fun i o' hi => ?_⟩
    cases i with
    | zero => simp only [List.getElem?_cons_zero, Option.some.injEq] at hi; subst hi; exact ⟨a, by simp, ha⟩
    | succ i => simp only [List.getElem?_cons_succ] at hi ⊢; exact q2 i o' hi
omit cx in
theorem compOper_dst {N : Nat} {ops : Array Oper} {o : Oper} {ao : AOper} (h : compOper G tt N ops o = some ao) : ao.dst = o.dst ∧ dstOk N ao.dst = true := by
  unfold compOper at h
  split at h
  · rename_i hd; cases h; exact ⟨rfl, hd⟩
  · cases h
omit cx in
theorem un_mem {un : List (List Nat)} {f : List Nat × Nat → Bool} (h : un.zipIdx.all f = true) {i j : Nat} (hj : j ∈ un.getD i []) : ∃ u, un[i]? = some u ∧ j ∈ u ∧ f (u, i) = true := by
  cases e : un[i]? with
  | none => simp [List.getD_eq_getElem?_getD, e] at hj
  | some u =>
    refine ⟨u, rfl, by simpa [List.getD_eq_getElem?_getD, e] using hj, ?_⟩
    refine List.all_eq_true.1 h (u, i) ?_
    rw [List.mem_zipIdx_iff_getElem?]
    exact e
omit cx in
theorem apartD_spec {d : Option Nat} {o : AOper} (h : apartD d o = true) {t : Nat} (ht : d = some t) : t ∉ o.looks ∧ o.dst ≠ some t := by
  subst ht
  unfold apartD at h
  simp only [Bool.and_eq_true, Bool.not_eq_true', bne_iff_ne, ne_eq] at h
  exact ⟨fun hm => by rw [(mem_memN _ _).2 hm] at h; exact absurd h.1 (by simp), h.2⟩
omit cx in
theorem all_listed {ops : Array Oper} {listed : Array Bool} (hb : backAll ops = true) (hsz : listed.size = ops.size) (hr : Region.ready .any ops listed = []) : ∀ j, j < ops.size → listed.getD j false = true := by
  intro j
  induction j using Nat.strongRecOn with
  | _ j ih =>
    intro hj
    cases e : listed.getD j false with
    | true => rfl
    | false =>
      exfalso
      have hm : j ∈ Region.ready .any ops listed := by
        refine mem_ready.2 ⟨?_, ops[j], Array.getElem?_eq_getElem hj, fun q hq hbq => ?_⟩
        · have : j < listed.size := by omega
          simp only [Array.getD_eq_getD_getElem?, Array.getElem?_eq_getElem this, Option.getD_some] at e ⊢
          exact e
        · unfold backAll at hb
          have := List.all_eq_true.1 hb (ops[j], j) (by rw [List.mem_zipIdx_iff_getElem?]; simp [hj])
          have h2 := List.all_eq_true.1 this q.on (by
            unfold directs
            exact List.mem_map.2 ⟨q, List.mem_filter.2 ⟨by simpa using hq, hbq⟩, rfl⟩)
          have h3 : q.on < j := Nat.le_of_ble_eq_true h2
          exact ih q.on h3 (by omega)
      rw [hr] at hm; cases hm
theorem Inv.finish {N : Nat} {as : List AOper} {T : Nat → Fr × St} {S : Nat → St} {E : Nat → Eff} {n : Nat} {β0 β : Bmap} {w : World} {a : Act} {W : World} {L : Nat → Bool}
    (R : Reg cf as T S E n) (hr : Rel β0 (T 0).2 w) (I : Inv as T S E n N β0 w.drew L β a W) (hL : ∀ j, j < n → L j = true) (ht : Tame (T 0).2 (T n).2) (hlog : ∀ j, j < n → ∀ b, b < (T 0).2.thr → b ∈ (S j).log → b ∈ (T n).2.log) :
    Post β0 (T 0).2 w (below (nx T n) β) (T n).2 W ∧ FRl (below (nx T n) β) N (T n).1 a := by
  have n0 : nx T 0 ≤ nx T n := R.mono (Nat.zero_le n) (Nat.le_refl n)
  have hall : ∀ b im, β b = some im → b < nx T n := by
    intro b im hb
    rcases Nat.lt_or_ge b (nx T 0) with h | h
    · omega
    · obtain ⟨j, hj, _, _, h2⟩ := I.made b im hb h
      exact Nat.lt_of_lt_of_le h2 (R.mono (k := j + 1) hj (Nat.le_refl n))
  have hc : ∀ b, bcons T S n L n b := fun b => ⟨fun j hj _ => hL j hj, fun j h1 h2 => by omega⟩
  have ex : Ext β0 (below (nx T n) β) := below_all (fun b im hb => Nat.lt_of_lt_of_le (hr.lt b im hb).1 n0) I.ext
  refine ⟨{ ext := ex, old := fun b hb => ?_, rel := ⟨?_, ?_, ?_, ?_⟩, next := n0, thr := ht.keeps.thr, log := ht.keeps.log, frame := ⟨I.os, I.tape, I.output, I.grows, fun c hcs hall' => ?_⟩, stays := ht.stays, hold := ?_ }, ⟨?_, I.size, ?_⟩⟩
  · unfold below; rw [if_pos (Nat.lt_of_lt_of_le hb n0)]; exact I.old b hb
  · intro b o im hg hb
    obtain ⟨h1, h2⟩ := below_some.1 hb
    exact I.obj n b o im (Nat.le_refl n) (hc b) h1 hg h2
  · intro b im hb
    obtain ⟨h1, h2⟩ := below_some.1 hb
    exact ⟨h1, I.lt b im h2⟩
  · intro b1 b2 o1 o2 im1 im2 hne g1 g2 i1 i2 hblk d1 d2
    obtain ⟨p1, p2⟩ := below_some.1 i1
    obtain ⟨r1, r2⟩ := below_some.1 i2
    exact I.sep n b1 b2 o1 o2 im1 im2 (Nat.le_refl n) (hc _) (hc _) p1 r1 hne g1 g2 p2 r2 hblk d1 d2
  · rw [ht.keeps.thr]; exact Nat.le_trans hr.thr_le n0
  · refine I.blk c hcs fun b im hb e => ?_
    obtain ⟨h1, h2⟩ := hall' b im (below_some.2 ⟨hall b im hb, hb⟩) e
    exact ⟨h1, fun j hj _ hm => h2 (hlog j hj b h1 hm)⟩
  · intro b im hge hb hs
    obtain ⟨b0, im0, r1, r2, r3, r4⟩ := I.hold b im hge (below_some.1 hb).2 hs
    refine ⟨b0, im0, r1, r2, r3, ?_⟩
    rcases r4 with ⟨j, h1, _, h3⟩ | h
    · by_cases hbt : b0 < (T 0).2.thr
      · exact .inl (hlog j h1 b0 hbt h3)
      · exact .inr (Nat.le_of_not_lt hbt)
    · exact .inr h
  · intro t
    exact I.temps t n (Nat.le_refl n) ⟨fun j hj _ => hL j hj, fun j h1 h2 => by omega⟩
  · rw [R.df (Nat.le_refl n)]; exact I.df.mono ex
theorem sdraw (hT : TTok P tt) (hmix : P.follows .mixedOrders = true) (hcf : SCall P G cf) (htc : TCall cf) : SDraw P G tt cf := by
  intro N ops as fr st fr' st' hcomp hap hrun id F m β0 w a0 hF1 hF2 hG hr hf
  simp only [Bool.and_eq_true] at hap
  obtain ⟨hap1, hap2⟩ := hap
  unfold apartAll at hap1
  simp only [Bool.and_eq_true] at hap1
  obtain ⟨⟨hback, hsel⟩, hapc⟩ := hap1
  obtain ⟨hlen, hget⟩ := compOpers_get hcomp
  have hlen : as.length = ops.size := by simpa using hlen
  obtain ⟨T, S, E, t0, tn, tk⟩ := trace as (relevant as (unordered ops)) 0 [] fr fr' st st' rfl rfl hrun
  rw [Nat.zero_add, hlen] at tn
  rw [Nat.zero_add, hlen] at tk
  have R : Reg cf as T S E ops.size := ⟨fun k hk => (tk k (Nat.zero_le k) hk).1, htc⟩
  have noClash : ∀ i j, i < ops.size → j < i → j ∈ (unordered ops).getD i [] → clash (E i) (E j) = false := by
    intro i j hi hj hu
    obtain ⟨a, ha, _⟩ := hget i ops[i] (by simp [hi])
    obtain ⟨b, hb, _⟩ := hget j ops[j] (by simp)
    cases hm : mayClash a b with
    | false => exact R.irrelevant hi (by omega) ha hb hm
    | true =>
      refine (tk i (Nat.zero_le i) hi).2.2 j (Nat.zero_le j) hj ?_
      have hul : ∃ u, (unordered ops)[i]? = some u ∧ j ∈ u := by
        cases e : (unordered ops)[i]? with
        | none => simp [List.getD_eq_getElem?_getD, e] at hu
        | some u => exact ⟨u, rfl, by simpa [List.getD_eq_getElem?_getD, e] using hu⟩
      obtain ⟨u, hu1, hu2⟩ := hul
      simp only [List.getD_eq_getElem?_getD, List.getElem?_map, List.getElem?_zipIdx, hu1, Option.map_some, Option.getD_some, Nat.zero_add, List.mem_filter]
      exact ⟨hu2, by simp only [ha, hb, hm]⟩
  have e0 : (T 0).2 = st := by rw [t0]
  have e0' : (T 0).1 = fr := by rw [t0]
  have en : (T ops.size).2 = st' := by rw [tn]
  have en' : (T ops.size).1 = fr' := by rw [tn]
  have hr0 : Rel β0 (T 0).2 w := by rw [e0]; exact hr
  have ht : Tame (T 0).2 (T ops.size).2 := by rw [e0, en]; exact Tame.runDraw htc hrun
  have thrk : ∀ k, k ≤ ops.size → (T k).2.thr = (T 0).2.thr := by
    intro k
    induction k with
    | zero => intro _; rfl
    | succ k ih => intro hk; rw [(R.stepAt k hk).next]; exact ih (by omega)
  have logk : ∀ k l, k ≤ l → l ≤ ops.size → ∀ b, b ∈ (T k).2.log → b ∈ (T l).2.log := by
    intro k l hkl
    induction hkl with
    | refl => intro _ b hb; exact hb
    | step h ih =>
      intro hl b hb
      rw [(R.stepAt _ hl).next]
      exact List.mem_append_right _ (ih (by omega) b hb)
  have hlog : ∀ j, j < ops.size → ∀ b, b < (T 0).2.thr → b ∈ (S j).log → b ∈ (T ops.size).2.log := by
    intro j hj b hb hm
    refine logk (j + 1) ops.size hj (Nat.le_refl _) b ?_
    rw [(R.stepAt j hj).next]
    exact List.mem_append_left _ (mem_filtLt.2 ⟨hm, by rw [thrk j (by omega)]; exact hb⟩)
  refine wpIn_region_any hmix ?_
  have hdrew : ({ w with drawn := w.drawn + 1 } : World) = w.drew := rfl
  rw [hdrew]
  have fin : ∀ (L : Nat → Bool) β a W, Inv as T S E ops.size N β0 w.drew L β a W → (∀ j, j < ops.size → L j = true) → OutQ β0 st w N .normal fr' st' .normal a W := by
    intro L β a W I hL
    obtain ⟨h1, h2⟩ := I.finish R hr0 hL ht hlog
    rw [e0, en] at h1
    rw [en'] at h2
    exact ⟨trivial, _, h1, h2⟩
  have main : ∀ (fuel : Nat) (listed : Array Bool) (β : Bmap) (a : Act) (W : World), listed.size = ops.size → ClosedS ops (fun j => listed.getD j false = true) → Inv as T S E ops.size N β0 w.drew (fun j => listed.getD j false) β a W →
      (∃ l : List Nat, l.length ≤ fuel ∧ ∀ j, j < ops.size → listed.getD j false = false → j ∈ l) → wpAnyIn F m P .any ops (OutQ β0 st w N .normal fr' st') fuel listed a W := by
    intro fuel
    induction fuel with
    | zero =>
      intro listed β a W hsz hcl I hl
      obtain ⟨l, hl1, hl2⟩ := hl
      have hl0 : l = [] := List.length_eq_zero_iff.1 (by omega)
      have hall : ∀ j, j < ops.size → listed.getD j false = true := by
        intro j hj
        cases e : listed.getD j false with
        | true => rfl
        | false => have := hl2 j hj e; rw [hl0] at this; cases this
      refine ⟨?_, fin _ β a W I hall⟩
      cases hq : Region.ready .any ops listed with
      | nil => rfl
      | cons i q =>
        exfalso
        have hm : i ∈ Region.ready .any ops listed := by rw [hq]; simp
        obtain ⟨h1, o, ho, _⟩ := mem_ready.1 hm
        have hi : i < ops.size := (Array.getElem?_eq_some_iff.1 ho).1
        have h2 := hall i hi
        have : i < listed.size := by omega
        simp only [Array.getD_eq_getD_getElem?, Array.getElem?_eq_getElem this, Option.getD_some] at h1 h2
        rw [h1] at h2; cases h2
    | succ fuel ih =>
      intro listed β a W hsz hcl I hl
      refine ⟨fun hq => fin _ β a W I (all_listed hback hsz hq), fun i hi => ?_⟩
      obtain ⟨h1, o, ho, _⟩ := mem_ready.1 hi
      have hin : i < ops.size := (Array.getElem?_eq_some_iff.1 ho).1
      have hnew : listed.getD i false = false := by
        have : i < listed.size := by omega
        simp only [Array.getD_eq_getD_getElem?, Array.getElem?_eq_getElem this, Option.getD_some] at h1 ⊢
        exact h1
      obtain ⟨u1, u2⟩ := unordered_of hcl hi
      have X : Next as T S E ops.size (fun j => listed.getD j false) i := by
        refine ⟨hin, hnew, fun j hj hL => noClash i j hin hj (u1 j hj hL), fun k hik hk hL => noClash k i hk hik (u2 k hk hik hL), fun j t hj hc hd => ?_⟩
        have hd' : ∃ y, as[j]? = some y ∧ y.dst = some t := by
          unfold dstAt at hd
          cases e : as[j]? with
          | none => rw [e] at hd; cases hd
          | some y => rw [e] at hd; exact ⟨y, rfl, hd⟩
        obtain ⟨y, hy, hyd⟩ := hd'
        obtain ⟨x, hx, _⟩ := hget i o (by simpa using ho)
        have key : t ∉ x.looks ∧ x.dst ≠ some t := by
          rcases hc with ⟨c1, c2⟩ | ⟨c1, c2⟩
          · obtain ⟨u, _, hu, hf'⟩ := un_mem hap2 (u1 j c1 c2)
            have := List.all_eq_true.1 hf' j hu
            simp only [hx, hy, Bool.and_eq_true] at this
            exact apartD_spec this.2 hyd
          · obtain ⟨u, _, hu, hf'⟩ := un_mem hap2 (u2 j hj c1 c2)
            have := List.all_eq_true.1 hf' i hu
            simp only [hx, hy, Bool.and_eq_true] at this
            exact apartD_spec this.1 hyd
        refine ⟨fun o' ho' => ?_, ?_⟩
        · rw [hx] at ho'; cases ho'; exact key.1
        · unfold dstAt; rw [hx]; exact key.2
      obtain ⟨ao, v, X0, X1, hao, hT1, A⟩ := I.ahead R X
      obtain ⟨ao', hao', hcomp'⟩ := hget i o (by simpa using ho)
      rw [hao] at hao'; cases hao'
      obtain ⟨hdst, hdok⟩ := compOper_dst hcomp'
      obtain ⟨M, hM⟩ : ∃ M : List Nat, ∀ t, t ∈ M ↔ ∃ j, j < ops.size ∧ (j < i ∧ listed.getD j false = false ∨ i < j ∧ listed.getD j false = true) ∧ dstAt as j = some t := by
        refine ⟨(List.range ops.size).filterMap fun j => if j < i ∧ listed.getD j false = false ∨ i < j ∧ listed.getD j false = true then dstAt as j else none, fun t => ?_⟩
        rw [List.mem_filterMap]
        constructor
        · rintro ⟨j, hj, h⟩
          split at h
          · rename_i hc; exact ⟨j, List.mem_range.1 hj, hc, h⟩
          · cases h
        · rintro ⟨j, hj, hc, h⟩
          exact ⟨j, List.mem_range.2 hj, by rw [if_pos hc]; exact h⟩
      have alike : Alike ao.looks (T i).1.tm (maskT (T i).1.tm M) := by
        intro t ht
        rw [ev_maskT, if_neg]
        intro hm
        obtain ⟨j, hj, hc, hd⟩ := (hM t).1 hm
        exact (X.apart j t hj hc hd).1 ao hao ht
      have hMl : ∀ t, t ∈ M → t ∉ o.looksAt ops := by
        intro t hm
        obtain ⟨j, hj, hc, hd⟩ := (hM t).1 hm
        obtain ⟨y, hy, hcy⟩ := hget j ops[j] (by simp [hj])
        have hyd : ops[j].dst = some t := by
          rw [← (compOper_dst hcy).1]
          unfold dstAt at hd; rw [hy] at hd; exact hd
        have gi : ops.getD i default = o := by simp [Array.getD_eq_getD_getElem?, ho]
        have gj : ops.getD j default = ops[j] := by simp [Array.getD_eq_getD_getElem?, hj]
        rcases hc with ⟨c1, c2⟩ | ⟨c1, c2⟩
        · obtain ⟨u, _, hu, hf'⟩ := un_mem hapc (u1 j c1 c2)
          have := List.all_eq_true.1 hf' j hu
          rw [gi, gj] at this
          exact (Oper.apart_spec this).2.2 t hyd
        · obtain ⟨u, _, hu, hf'⟩ := un_mem hapc (u2 j hj c1 c2)
          have := List.all_eq_true.1 hf' i hu
          rw [gi, gj] at this
          exact (Oper.apart_spec this).1 t hyd
      have hselo : ∀ cs b, o.op ≠ .select cs b := by
        intro cs b e
        have := List.all_eq_true.1 hsel o (by
          obtain ⟨h, he⟩ := Array.getElem?_eq_some_iff.1 ho
          rw [← he]; simp)
        rw [e] at this; cases this
      have exi : Ext β0 (below (nx T i) β) := below_all (fun b im hb => Nat.lt_of_lt_of_le (hr0.lt b im hb).1 (R.mono (Nat.zero_le i) (Nat.le_of_lt hin))) I.ext
      have hfm : FRl (below (nx T i) β) N { (T i).1 with tm := maskT (T i).1.tm M } (maskA a M) := by
        refine ⟨fun t => ?_, by rw [maskA_size]; exact I.size, ?_⟩
        · show VRel _ (ev (maskT (T i).1.tm M) (.tmp t)) _
          rw [ev_maskT, maskA_getD]
          by_cases hm : t ∈ M
          · rw [if_pos hm, if_pos hm]; exact undef_rel _
          · rw [if_neg hm, if_neg hm]
            refine I.temps t i (Nat.le_of_lt hin) ⟨fun j hj hd => ?_, fun j hj hjn hd => ?_⟩
            · cases e : listed.getD j false with
              | true => exact e
              | false => exact absurd ((hM t).2 ⟨j, by omega, .inl ⟨hj, e⟩, hd⟩) hm
            · rcases Nat.lt_or_ge i j with h | h
              · cases e : listed.getD j false with
                | false => exact e
                | true => exact absurd ((hM t).2 ⟨j, hjn, .inr ⟨h, e⟩, hd⟩) hm
              · have : j = i := by omega
                subst this; exact hnew
        · rw [maskA_defers]
          show DRel _ (T i).1.df _
          rw [R.df (Nat.le_of_lt hin)]; exact I.df.mono exi
      refine oper_val hT hcf ho hcomp' hselo hMl (fr := { (T i).1 with tm := maskT (T i).1.tm M }) (A.step _ alike) hF1 hF2 (hG.mono exi) A.rel hfm fun β' x W' hp hv => ?_
      have I2 := I.after R X hao hT1 A hp hv hdok
      have eL : (fun j => (listed.setIfInBounds i true).getD j false) = setL (fun j => listed.getD j false) i := by
        funext j
        by_cases e : j = i
        · subst e; rw [setL_same]
          have : j < listed.size := by omega
          simp [Array.getD_eq_getD_getElem?, this]
        · rw [setL_ne _ e]
          simp only [Array.getD_eq_getD_getElem?, Array.getElem?_setIfInBounds, if_neg (Ne.symm e)]
      rw [hdst] at I2
      refine ih _ _ _ _ (by simpa using hsz) (closed_set hcl hi) (by rw [eL]; exact I2) ?_
      obtain ⟨l, hl1, hl2⟩ := hl
      have hmem : i ∈ l := hl2 i hin hnew
      refine ⟨l.erase i, by rw [List.length_erase_of_mem hmem]; omega, fun j hj hjL => ?_⟩
      have hji : j ≠ i := fun e => by
        subst e
        have := congrFun eL j
        simp only [setL_same] at this
        rw [this] at hjL; cases hjL
      have : listed.getD j false = false := by
        have h := congrFun eL j
        simp only [setL_ne _ hji] at h
        rw [← h]; exact hjL
      exact (List.mem_erase_of_ne hji).2 (hl2 j hj this)
  refine main ops.size (Array.replicate ops.size false) β0 a0 w.drew (by simp) ?_ ?_ ⟨List.range ops.size, by simp, fun j hj _ => List.mem_range.2 hj⟩
  · intro k hk
    simp only [Array.getD_eq_getD_getElem?, Array.getElem?_replicate] at hk
    split at hk <;> simp at hk
  · have e : (fun j => (Array.replicate ops.size false).getD j false) = fun _ => false := by
      funext j
      simp only [Array.getD_eq_getD_getElem?, Array.getElem?_replicate]
      split <;> rfl
    rw [e]
    refine Inv.start R hr0.drew ?_
    rw [e0']; exact hf
end
end Go.RI
