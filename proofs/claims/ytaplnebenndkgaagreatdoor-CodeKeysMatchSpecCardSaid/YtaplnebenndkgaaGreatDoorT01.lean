/- A compiler from bodies of Go functions into a small language of values and blocks, and the proof that a run of the compiled text is a run of the program. Conditions: none. -/
import Derived.Test.YtaplnebenndkgaaGreatDoorT00
set_option linter.all false
namespace Go.RI
def logw (thr b : Nat) (log : List Nat) : List Nat := match Nat.ble thr b with
  | true => log
  | false => b :: log
theorem mem_logw {thr b : Nat} {log : List Nat} {x : Nat} (h : x ∈ log) : x ∈ logw thr b log := by
  unfold logw; split
  · exact h
  · exact List.mem_cons_of_mem _ h
theorem logw_self (thr b : Nat) (log : List Nat) : ¬ (b < thr ∧ b ∉ logw thr b log) := by
  unfold logw
  cases h : Nat.ble thr b with
  | true => have := Nat.le_of_ble_eq_true h; rintro ⟨h1, _⟩; omega
  | false => rintro ⟨_, h2⟩; exact h2 (by simp)
def kinIs (b : Nat) : Option Nat → Bool
  | some x => Nat.beq x b
  | none => false
def St.wr (st : St) (b i : Nat) (v : AV) : Option St :=
  match st.heap.get b with
  | some (.cells e l fz kin) =>
    match Nat.ble fz i, Nat.blt i l.length, v.one with
    | true, true, true =>
      match kin with
      | none => some { st with heap := st.heap.set (.cells e (l.set i (some v)) fz none) b, log := logw st.thr b st.log }
      | some b2 => match st.heap.get b2 with
        | some (.cells e2 l2 f2 k2) => match Nat.beq b2 b, kinIs b k2 with
          | false, true => some { st with heap := (st.heap.set (.cells e (l.set i (some v)) fz (some b2)) b).set (.cells e2 (l2.set i none) f2 k2) b2, log := logw st.thr b2 (logw st.thr b st.log) }
          | _, _ => none
        | some .dead => some { st with heap := st.heap.set (.cells e (l.set i (some v)) fz (some b2)) b, log := logw st.thr b st.log }
        | _ => none
    | _, _, _ => none
  | _ => none
theorem setCell_heap_ne (w : World) (a : Addr) (v : Value) (k : Nat) (h : k ≠ a.block) : (w.setCell a v).heap[k]? = w.heap[k]? := by
  simp only [World.setCell]
  rw [Array.getElem?_modify, if_neg (by omega)]
theorem setCell_heap_eq (w : World) {blk off : Nat} (v : Value) {c : Array Value} {e : TypeId} {fr : Nat × Nat} (h : w.heap[blk]? = some (.cells c e fr)) :
    (w.setCell ⟨blk, off, none⟩ v).heap[blk]? = some (.cells (c.setIfInBounds off v) e fr) := by
  simp only [World.setCell]
  rw [Array.getElem?_modify, if_pos rfl, h]; rfl
variable [cx : Cx]
theorem Rel.write {β : Bmap} {st : St} {w : World} (h : Rel β st w) {b i : Nat} {v : AV} {x : Value} {im : Img} (hb : β b = some im) (hv : VRel β v x)
    {e : Nat × Bool} {l : List (Option AV)} {fz : Nat} {kin : Option Nat} (hg : st.heap.get b = some (.cells e l fz kin)) (hi : i < l.length)
    (heap' : Tr AObj) (h1 : heap'.get b = some (.cells e (l.set i (some v)) fz kin))
    (h2 : ∀ b', b' ≠ b → kin ≠ some b' → heap'.get b' = st.heap.get b')
    (h3 : ∀ b', b' ≠ b → kin = some b' → (heap'.get b' = some .dead ∧ st.heap.get b' = some .dead) ∨ ∃ e2 l2 f2 k2, st.heap.get b' = some (.cells e2 l2 f2 k2) ∧ heap'.get b' = some (.cells e2 (l2.set i none) f2 k2))
    (log' : List Nat) (hlog : ∀ y, y ∈ st.log → y ∈ log') (hself : ¬ (b < st.thr ∧ b ∉ log')) :
    Post β st w β { st with heap := heap', log := log' } (w.setCell ⟨im.blk, im.off + i, none⟩ x) := by
  obtain ⟨c, fr, g1, g2, g3, g4, g5⟩ := h.obj _ _ _ hg hb
  have hnew := setCell_heap_eq w (off := im.off + i) x g1
  have hstay : Stays st { st with heap := heap', log := log' } := fun y _ hgn => by
    show Gone (heap'.get y)
    by_cases eb : y = b
    · subst eb; exact absurd hgn (not_gone hg (by simp))
    · by_cases ek : kin = some y
      · rcases h3 y eb ek with ⟨hd, _⟩ | ⟨e2, l2, f2, k2, hs2, _⟩
        · rw [hd]; trivial
        · exact absurd hgn (not_gone hs2 (by simp))
      · rw [h2 y eb ek]; exact hgn
  refine ⟨Ext.refl _, fun _ _ => rfl, ?_, Nat.le_refl _, rfl, hlog, ⟨rfl, rfl, rfl, by simp, fun k hk hall => ?_⟩, hstay, fun b im hb hi _ => absurd (h.lt _ _ hi).1 (Nat.not_lt.2 hb)⟩
  · constructor
    · intro b' o' jm hg' hi'
      by_cases eb : b' = b
      · subst eb
        rw [hb] at hi'; cases hi'
        rw [h1] at hg'; cases hg'
        refine ⟨_, fr, hnew, by simp [g2], by simpa using g3, fun j u hj => ?_, g5⟩
        rw [List.getElem?_set] at hj
        by_cases ej : i = j
        · subst ej
          rw [if_pos rfl, if_pos hi] at hj
          simp only [Option.some.injEq] at hj
          subst hj
          exact ⟨x, by rw [Array.getElem?_setIfInBounds, if_pos rfl, if_pos (by omega)], hv⟩
        · rw [if_neg ej] at hj
          obtain ⟨y, hy, hr⟩ := g4 j u hj
          exact ⟨y, by rw [Array.getElem?_setIfInBounds, if_neg (by omega)]; exact hy, hr⟩
      · by_cases ek : kin = some b'
        · rcases h3 b' eb ek with ⟨hd, _⟩ | ⟨e2, l2, f2, k2, hs2, hn2⟩
          · rw [hd] at hg'; cases hg'; trivial
          · rw [hn2] at hg'; cases hg'
            have ho := h.obj _ _ _ hs2 hi'
            by_cases hblk : jm.blk = im.blk
            · obtain ⟨_, _, e3⟩ := h.sep b b' _ _ im jm (Ne.symm eb) hg hs2 hb hi' hblk.symm (by simp) (by simp)
              subst e3
              obtain ⟨c2, fr2, q1, q2, q3, q4, q5⟩ := ho
              rw [g1] at q1
              simp only [Option.some.injEq, Obj.cells.injEq] at q1
              obtain ⟨rfl, qe, rfl⟩ := q1
              refine ⟨_, fr, by rw [← qe]; exact hnew, by simp [g2], by simpa using q3, fun j u hj => ?_, q5⟩
              rw [List.getElem?_set] at hj
              by_cases ej : i = j
              · subst ej; rw [if_pos rfl] at hj; split at hj <;> cases hj
              · rw [if_neg ej] at hj
                obtain ⟨y, hy, hr⟩ := q4 j u hj
                exact ⟨y, by rw [Array.getElem?_setIfInBounds, if_neg (by omega)]; exact hy, hr⟩
            · have ho' := ho.mono (Ext.refl _) (setCell_heap_ne w ⟨im.blk, im.off + i, none⟩ x jm.blk hblk)
              obtain ⟨c2, fr2, q1, q2, q3, q4, q5⟩ := ho'
              refine ⟨c2, fr2, q1, q2, by simpa using q3, fun j u hj => ?_, q5⟩
              rw [List.getElem?_set] at hj
              by_cases ej : i = j
              · subst ej; rw [if_pos rfl] at hj; split at hj <;> cases hj
              · rw [if_neg ej] at hj; exact q4 j u hj
        · rw [h2 b' eb ek] at hg'
          by_cases hblk : jm.blk = im.blk
          · cases hdead : o' with
            | dead => trivial
            | _ =>
              obtain ⟨q, _⟩ := h.sep b b' _ _ im jm (Ne.symm eb) hg hg' hb hi' hblk.symm (by simp) (by simp [hdead])
              exact absurd q ek
          · exact (h.obj _ _ _ hg' hi').mono (Ext.refl _) (setCell_heap_ne w ⟨im.blk, im.off + i, none⟩ x jm.blk hblk)
    · intro b' jm hi'; have := h.lt b' jm hi'; simpa using this
    · intro b1 b2 o1 o2 im1 im2 hne q1 q2 i1 i2 hblk d1 d2
      have tr : ∀ b' o', heap'.get b' = some o' → o' ≠ .dead → ∃ o, st.heap.get b' = some o ∧ o ≠ .dead ∧ o.kin = o'.kin := by
        intro b' o' hg' hd
        by_cases eb : b' = b
        · subst eb; rw [h1] at hg'; cases hg'; exact ⟨_, hg, by simp, rfl⟩
        · by_cases ek : kin = some b'
          · rcases h3 b' eb ek with ⟨hd', _⟩ | ⟨e2, l2, f2, k2, hs2, hn2⟩
            · rw [hd'] at hg'; cases hg'; exact absurd rfl hd
            · rw [hn2] at hg'; cases hg'; exact ⟨_, hs2, by simp, rfl⟩
          · rw [h2 b' eb ek] at hg'; exact ⟨_, hg', hd, rfl⟩
      obtain ⟨p1, r1, s1, t1⟩ := tr b1 o1 q1 d1
      obtain ⟨p2, r2, s2, t2⟩ := tr b2 o2 q2 d2
      rw [← t1, ← t2]
      exact h.sep b1 b2 p1 p2 im1 im2 hne r1 r2 i1 i2 hblk s1 s2
    · exact h.thr_le
  · refine setCell_heap_ne w ⟨im.blk, im.off + i, none⟩ x k fun ek => ?_
    exact hself (hall b im hb ek.symm)
theorem Rel.wr {β : Bmap} {st st' : St} {w : World} (h : Rel β st w) {b i : Nat} {v : AV} {x : Value} {im : Img} (hw : st.wr b i v = some st') (hb : β b = some im) (hv : VRel β v x) :
    (∃ u, w.cell? ⟨im.blk, im.off + i, none⟩ = some u) ∧ w.frozen? ⟨im.blk, im.off + i, none⟩ = false ∧ v.one = true ∧
    Post β st w β st' (w.setCell ⟨im.blk, im.off + i, none⟩ x) := by
  unfold St.wr at hw
  split at hw
  case h_2 => cases hw
  rename_i e l fz kin hg
  split at hw
  case h_2 => cases hw
  rename_i hfz hlt hone
  have hfz := Nat.le_of_ble_eq_true hfz
  have hlt : i < l.length := Nat.le_of_ble_eq_true hlt
  obtain ⟨c, fr, g1, g2, g3, g4, g5⟩ := h.obj _ _ _ hg hb
  have hc : im.off + i < c.size := by omega
  refine ⟨⟨c[im.off + i], by simp [World.cell?, g1, hc]⟩, ?_, hone, ?_⟩
  · have := g5.1 i hfz (by omega)
    simp only [World.frozen?, g1]
    cases hq : (decide (fr.1 ≤ im.off + i) && decide (im.off + i < fr.2)) with
    | false => rfl
    | true => simp at hq; exact absurd hq this
  · split at hw
    · cases hw
      refine h.write hb hv hg hlt _ (Tr.get_set_same _ _ _) (fun b' hb' _ => Tr.get_set_ne _ _ hb') (fun b' _ hk => by cases hk) _ (fun y hy => mem_logw hy) (logw_self _ _ _)
    · rename_i b2
      split at hw
      · rename_i e2 l2 f2 k2 hg2
        split at hw
        case h_2 => cases hw
        · rename_i hne _
          have hne : b2 ≠ b := fun e => by subst e; rw [Nat.beq_refl] at hne; cases hne
          cases hw
          refine h.write hb hv hg hlt _ ?_ ?_ ?_ _ (fun y hy => mem_logw (mem_logw hy)) ?_
          · rw [Tr.get_set_ne _ _ (Ne.symm hne), Tr.get_set_same]
          · intro b' hb' hk
            rw [Tr.get_set_ne _ _ (fun e => hk (by rw [e])), Tr.get_set_ne _ _ hb']
          · intro b' hb' hk
            cases hk
            exact .inr ⟨e2, l2, f2, k2, hg2, Tr.get_set_same _ _ _⟩
          · rintro ⟨q1, q2⟩; exact logw_self st.thr b st.log ⟨q1, fun hm => q2 (mem_logw hm)⟩
      · rename_i hg2
        cases hw
        refine h.write hb hv hg hlt _ (Tr.get_set_same _ _ _) (fun b' hb' _ => Tr.get_set_ne _ _ hb') (fun b' hb' hk => ?_) _ (fun y hy => mem_logw hy) (logw_self _ _ _)
        cases hk
        exact .inl ⟨by rw [Tr.get_set_ne _ _ hb']; exact hg2, hg2⟩
      · cases hw
def St.wrL (st : St) (b : Nat) : Nat → List AV → Option St
  | _, [] => some st
  | i, v :: l => match st.wr b i v with
    | some st' => St.wrL st' b (Nat.succ i) l
    | none => none
omit cx in
theorem run_storeCells_cons (P : Program) (w : World) (a : Addr) (v : Value) (rest : List Value) (i : Nat) (hv : v.oneCell' = true) {u : Value} (hc : w.cell? (a.add i) = some u) (hf : w.frozen? (a.add i) = false) :
    (storeCells a (v :: rest) i).run P w = (storeCells a rest (i + 1)).run P (w.setCell (a.add i) v) := by
  simp only [storeCells, Sem.run_bind, run_store P w (a.add i) v .plain hv, hc, hf]
  simp [Result.andThen]
omit cx in
theorem addr_add (blk off i : Nat) : (⟨blk, off, none⟩ : Addr).add i = ⟨blk, off + i, none⟩ := by
  unfold Addr.add; split
  · subst_vars; rfl
  · rfl
theorem Rel.wrL {P : Program} {β : Bmap} {b off : Nat} {im : Img} : ∀ {l : List AV} {c : List Value} {st st' : St} {w : World} {i j : Nat}, Rel β st w → st.wrL b i l = some st' → β b = some im → LRel β l c →
    i = off + j → ∃ w', (storeCells ⟨im.blk, im.off + off, none⟩ c j).run P w = .ok () w' ∧ Post β st w β st' w'
  | [], c, st, st', w, i, j, h, hw, hb, hl, e => by
    simp only [LRel] at hl; subst hl
    simp only [St.wrL, Option.some.injEq] at hw; subst hw
    exact ⟨w, rfl, Post.refl h⟩
  | v :: l, c, st, st', w, i, j, h, hw, hb, hl, e => by
    simp only [LRel] at hl; obtain ⟨y, ys, rfl, h1, h2⟩ := hl
    simp only [St.wrL] at hw
    split at hw
    · rename_i st1 hw1
      obtain ⟨⟨u, hu⟩, hf, hone, hp⟩ := h.wr hw1 hb h1
      have ha : (⟨im.blk, im.off + off, none⟩ : Addr).add j = ⟨im.blk, im.off + i, none⟩ := by rw [addr_add]; subst e; congr 1; omega
      obtain ⟨w', hr, hp'⟩ := Rel.wrL (P := P) (off := off) (i := Nat.succ i) (j := j + 1) hp.rel hw hb h2 (by omega)
      refine ⟨w', ?_, hp.trans hp'⟩
      rw [run_storeCells_cons P w _ y ys j (h1.one hone) (by rw [ha]; exact hu) (by rw [ha]; exact hf), ha]
      exact hr
    · cases hw
end Go.RI
namespace Go.RI
def growHeap (hp : Tr AObj) (b b' : Nat) (own : AObj) (kin : Option Nat) (o' : AObj) : Tr AObj :=
  Tr.set o' (match kin with
    | some b0 => Tr.set .dead (Tr.set own hp b) b0
    | none => Tr.set own hp b) b'
theorem get_growHeap (hp : Tr AObj) (b b' : Nat) (own : AObj) (kin : Option Nat) (o' : AObj) (y : Nat) :
    (growHeap hp b b' own kin o').get y = if y = b' then some o' else if kin = some y then some .dead else if y = b then some own else hp.get y := by
  unfold growHeap
  rw [Tr.get_set]
  split
  · rfl
  · cases kin with
    | none => simp only [Tr.get_set]; simp
    | some b0 =>
      simp only [Tr.get_set]
      by_cases e : y = b0
      · subst e; simp
      · have h2 : ¬ (some b0 = some y) := fun h => e (Option.some.inj h).symm
        rw [if_neg e, if_neg h2]
def baseOf (off : Nat) (b : Bool) : Bool := match off with
  | 0 => b
  | _ => false
def ownOf (e : Nat × Bool) (l : List (Option AV)) (fz off m b' : Nat) : AObj := match off with
  | 0 => .cells e (l.take m) fz (some b')
  | _ => .dead
def fzOf (fz off : Nat) : Nat := match fz with
  | 0 => 0
  | Nat.succ _ => Nat.max 1 (fz - off)
theorem fzOf_zero {fz off : Nat} (h : fzOf fz off = 0) : fz = 0 := by
  cases fz with
  | zero => rfl
  | succ n => have : 1 ≤ fzOf (n + 1) off := Nat.le_max_left _ _; omega
theorem fzOf_le (fz off : Nat) : fz - off ≤ fzOf fz off := by
  cases fz with
  | zero => simp
  | succ n => exact Nat.le_max_right _ _
def kinOf (off b : Nat) : Option Nat := match off with
  | 0 => some b
  | _ => none
def logKin (thr : Nat) (kin : Option Nat) (log : List Nat) : List Nat := match kin with
  | some b0 => logw thr b0 log
  | none => log
theorem mem_logKin {thr : Nat} {kin : Option Nat} {log : List Nat} {x : Nat} (h : x ∈ log) : x ∈ logKin thr kin log := by
  unfold logKin; split
  · exact mem_logw h
  · exact h
def allOne : List AV → Bool
  | [] => true
  | v :: l => match v.one with
    | true => allOne l
    | false => false
def St.grow (st : St) (b elem off m : Nat) (x : List AV) : Option St :=
  match st.heap.get b with
  | some (.cells e l fz kin) =>
    match Nat.beq e.1 elem, Nat.ble (fzOf fz off) m, takeVals (l.drop off) m, allOne x, Nat.blt b st.next with
    | true, true, some old, true, true => some
        { heap := growHeap st.heap b st.next (ownOf e l fz off m st.next) kin (.cells (e.1, baseOf off e.2) ((old ++ x).map some) (fzOf fz off) (kinOf off b)),
          next := Nat.succ st.next, thr := st.thr, log := logw st.thr b (logKin st.thr kin st.log) }
    | _, _, _, _, _ => none
  | _ => none
theorem Stays.growHeap {st st' : St} {b off m : Nat} {e : Nat × Bool} {l : List (Option AV)} {fz : Nat} {kin : Option Nat} {o' : AObj} (hg : st.heap.get b = some (.cells e l fz kin))
    (hh : st'.heap = growHeap st.heap b st.next (ownOf e l fz off m st.next) kin o') : Stays st st' := by
  intro y hy hgy
  have n1 : y ≠ b := fun e => by subst e; exact not_gone hg (by simp) hgy
  rw [hh, get_growHeap, if_neg (by omega)]
  split
  · trivial
  · first | exact hgy | (rw [if_neg n1]; exact hgy)
variable [cx : Cx]
theorem Rel.grown {β : Bmap} {st : St} {w w1 : World} (h : Rel β st w) {b fz off m : Nat} {e : Nat × Bool} {l : List (Option AV)} {kin : Option Nat} {im im' : Img} {o' : AObj}
    (hb : β b = some im) (hg : st.heap.get b = some (.cells e l fz kin)) (hw1 : ∀ k, k < w.heap.size → w1.heap[k]? = w.heap[k]?) (hsz : w.heap.size ≤ w1.heap.size)
    (ho' : ORel (β.add st.next im') w1 o' im') (hlt : im'.blk < w1.heap.size) (hk' : o'.kin = kinOf off b)
    (hcase : im'.blk = w.heap.size ∨ (im'.blk = im.blk ∧ (off = 0 → im' = im))) (log' : List Nat) :
    Rel (β.add st.next im') { heap := growHeap st.heap b st.next (ownOf e l fz off m st.next) kin o', next := Nat.succ st.next, thr := st.thr, log := log' } w1 := by
  have hext := Bmap.ext_add im' h.none_next
  have hbn : b < st.next := (h.lt _ _ hb).1
  have key : ∀ y o, y ≠ st.next → (growHeap st.heap b st.next (ownOf e l fz off m st.next) kin o').get y = some o → o ≠ .dead →
      (y ≠ b ∧ kin ≠ some y ∧ st.heap.get y = some o) ∨ (y = b ∧ off = 0 ∧ o = .cells e (l.take m) fz (some st.next)) := by
    intro y o hy hgy hd
    rw [get_growHeap, if_neg hy] at hgy
    by_cases hk : kin = some y
    · rw [if_pos hk] at hgy; cases hgy; exact absurd rfl hd
    · rw [if_neg hk] at hgy
      by_cases hyb : y = b
      · rw [if_pos hyb] at hgy
        cases off with
        | zero => simp only [ownOf, Option.some.injEq] at hgy; exact .inr ⟨hyb, rfl, hgy.symm⟩
        | succ n => simp only [ownOf, Option.some.injEq] at hgy; exact absurd hgy.symm hd
      · rw [if_neg hyb] at hgy; exact .inl ⟨hyb, hk, hgy⟩
  constructor
  · intro y o jm hgy hi
    by_cases hy : y = st.next
    · subst hy
      rw [Bmap.add_same] at hi; cases hi
      rw [get_growHeap, if_pos rfl] at hgy
      cases hgy; exact ho'
    · simp only [Bmap.add, if_neg hy] at hi
      by_cases hd : o = .dead
      · subst hd; trivial
      · rcases key y o hy hgy hd with ⟨_, _, h3⟩ | ⟨h1, h2, h3⟩
        · exact (h.obj _ _ _ h3 hi).mono hext (hw1 _ (h.lt _ _ hi).2)
        · subst h1
          rw [hb] at hi; cases hi
          obtain ⟨c, fr, q1, q2, q3, q4, q5⟩ := (h.obj _ _ _ hg hb).mono hext (hw1 _ (h.lt _ _ hb).2)
          rw [h3]
          refine ⟨c, fr, q1, q2, by simp; omega, fun i v hv => ?_, q5⟩
          rw [List.getElem?_take] at hv
          split at hv
          · exact q4 i v hv
          · cases hv
  · intro y jm hi
    by_cases hy : y = st.next
    · subst hy; rw [Bmap.add_same] at hi; cases hi; exact ⟨Nat.lt_succ_self _, hlt⟩
    · simp only [Bmap.add, if_neg hy] at hi
      have := h.lt _ _ hi
      exact ⟨Nat.lt_succ_of_lt this.1, Nat.lt_of_lt_of_le this.2 hsz⟩
  · have main : ∀ y o jm, y ≠ st.next → (growHeap st.heap b st.next (ownOf e l fz off m st.next) kin o').get y = some o → o ≠ .dead → β y = some jm → im'.blk = jm.blk →
        kinOf off b = some y ∧ o.kin = some st.next ∧ im' = jm := by
      intro y o jm hy hgy hd hi hblk
      have hjs := (h.lt _ _ hi).2
      rcases hcase with hc | ⟨hc, hc0⟩
      · omega
      · rcases key y o hy hgy hd with ⟨h1, h2, h3⟩ | ⟨h1, h2, h3⟩
        · have := h.sep b y _ _ im jm (Ne.symm h1) hg h3 hb hi (hc ▸ hblk) (by simp) hd
          exact absurd this.1 h2
        · subst h1; rw [hb] at hi; cases hi
          subst h2; rw [h3]
          exact ⟨rfl, rfl, hc0 rfl⟩
    intro b1 b2 o1 o2 im1 im2 hne g1 g2 i1 i2 hblk d1 d2
    by_cases e1 : b1 = st.next
    · subst e1
      rw [Bmap.add_same] at i1; cases i1
      simp only [Bmap.add, if_neg (Ne.symm hne)] at i2
      obtain ⟨q1, q2, q3⟩ := main b2 o2 im2 (Ne.symm hne) g2 d2 i2 hblk
      rw [get_growHeap, if_pos rfl] at g1
      cases g1
      exact ⟨hk'.trans q1, q2, q3⟩
    · by_cases e2 : b2 = st.next
      · subst e2
        rw [Bmap.add_same] at i2; cases i2
        simp only [Bmap.add, if_neg e1] at i1
        obtain ⟨q1, q2, q3⟩ := main b1 o1 im1 e1 g1 d1 i1 hblk.symm
        rw [get_growHeap, if_pos rfl] at g2
        cases g2
        exact ⟨q2, hk'.trans q1, q3.symm⟩
      · simp only [Bmap.add, if_neg e1, if_neg e2] at i1 i2
        rcases key b1 o1 e1 g1 d1 with ⟨x1, x2, x3⟩ | ⟨x1, x2, x3⟩
        · rcases key b2 o2 e2 g2 d2 with ⟨y1, y2, y3⟩ | ⟨y1, y2, y3⟩
          · exact h.sep b1 b2 o1 o2 im1 im2 hne x3 y3 i1 i2 hblk d1 d2
          · subst y1
            exact absurd (h.sep b2 b1 _ _ im2 im1 (Ne.symm hne) hg x3 i2 i1 hblk.symm (by simp) d1).1 x2
        · subst x1
          rcases key b2 o2 e2 g2 d2 with ⟨y1, y2, y3⟩ | ⟨y1, y2, y3⟩
          · exact absurd (h.sep b1 b2 _ _ im1 im2 hne hg y3 i1 i2 hblk (by simp) d2).1 y2
          · exact absurd y1.symm hne
  · exact Nat.le_succ_of_le h.thr_le
omit cx in
theorem wrL_fill {b' fz : Nat} {e : Nat × Bool} {kin : Option Nat} : ∀ (x : List AV) (pre : List (Option AV)) (st : St) (i : Nat),
    st.heap.get b' = some (.cells e (pre ++ List.replicate x.length none) fz kin) → i = pre.length → fz ≤ i → allOne x = true →
    (∀ b2, kin = some b2 → b2 ≠ b' ∧ (st.heap.get b2 = some .dead ∨ ∃ e2 l2 f2 k2, st.heap.get b2 = some (.cells e2 l2 f2 k2) ∧ l2.length ≤ i ∧ kinIs b' k2 = true)) →
    ∃ st', st.wrL b' i x = some st' ∧ st'.heap.get b' = some (.cells e (pre ++ x.map some) fz kin) ∧ (∀ y, y ≠ b' → st'.heap.get y = st.heap.get y) ∧
      st'.next = st.next ∧ st'.thr = st.thr ∧ ∀ y, y ∈ st'.log → y ∈ st.log ∨ y = b' ∨ kin = some y
  | [], pre, st, i, hg, hi, hfz, hone, hk => ⟨st, rfl, by simpa using hg, fun _ _ => rfl, rfl, rfl, fun y hy => .inl hy⟩
  | v :: x, pre, st, i, hg, hi, hfz, hone, hk => by
    have hv : v.one = true ∧ allOne x = true := by
      unfold allOne at hone
      cases hq : v.one with
      | true => rw [hq] at hone; exact ⟨rfl, hone⟩
      | false => rw [hq] at hone; cases hone
    have hset : (pre ++ List.replicate (v :: x).length none).set i (some v) = (pre ++ [some v]) ++ List.replicate x.length none := by
      subst hi; rw [List.set_append_right _ _ (Nat.le_refl _)]; simp [List.replicate_succ]
    have hlen : Nat.blt i (pre ++ List.replicate (v :: x).length (none : Option AV)).length = true := by
      rw [Nat.blt_eq]; simp; omega
    have hble : Nat.ble fz i = true := Nat.ble_eq_true_of_le hfz
    have step : ∃ st1, st.wr b' i v = some st1 ∧ st1.heap.get b' = some (.cells e ((pre ++ [some v]) ++ List.replicate x.length none) fz kin) ∧ (∀ y, y ≠ b' → st1.heap.get y = st.heap.get y) ∧
        st1.next = st.next ∧ st1.thr = st.thr ∧ ∀ y, y ∈ st1.log → y ∈ st.log ∨ y = b' ∨ kin = some y := by
      have hlw : ∀ (c : Nat) (log : List Nat) (y : Nat), y ∈ logw st.thr c log → y ∈ log ∨ y = c := fun c log y hy => by
        unfold logw at hy; split at hy
        · exact .inl hy
        · rcases List.mem_cons.1 hy with h | h
          · exact .inr h
          · exact .inl h
      unfold St.wr
      simp only [hg, hble, hlen, hv.1, hset]
      cases kin with
      | none =>
        refine ⟨_, rfl, Tr.get_set_same _ _ _, fun y hy => Tr.get_set_ne _ _ hy, rfl, rfl, fun y hy => ?_⟩
        rcases hlw _ _ _ hy with h | h
        · exact .inl h
        · exact .inr (.inl h)
      | some b2 =>
        obtain ⟨hne, hb2⟩ := hk b2 rfl
        rcases hb2 with hd | ⟨e2, l2, f2, k2, hs2, hl2, hki⟩
        · simp only [hd]
          refine ⟨_, rfl, Tr.get_set_same _ _ _, fun y hy => Tr.get_set_ne _ _ hy, rfl, rfl, fun y hy => ?_⟩
          rcases hlw _ _ _ hy with h | h
          · exact .inl h
          · exact .inr (.inl h)
        · have hbeq : Nat.beq b2 b' = false := by
            cases hq : Nat.beq b2 b' with
            | false => rfl
            | true => exact absurd (Nat.eq_of_beq_eq_true hq) hne
          simp only [hs2, hbeq, hki]
          refine ⟨_, rfl, ?_, fun y hy => ?_, rfl, rfl, fun y hy => ?_⟩
          · rw [Tr.get_set_ne _ _ (Ne.symm hne), Tr.get_set_same]
          · by_cases ey : y = b2
            · subst ey; rw [Tr.get_set_same, hs2, List.set_eq_of_length_le hl2]
            · rw [Tr.get_set_ne _ _ ey, Tr.get_set_ne _ _ hy]
          · rcases hlw _ _ _ hy with h | h
            · rcases hlw _ _ _ h with h | h
              · exact .inl h
              · exact .inr (.inl h)
            · subst h; exact .inr (.inr rfl)
    obtain ⟨st1, s1, s2, s3, s4, s5, s6⟩ := step
    obtain ⟨st', t1, t2, t3, t4, t5, t6⟩ := wrL_fill x (pre ++ [some v]) st1 (Nat.succ i) s2 (by simp [hi]) (by omega) hv.2 (fun b2 hb2 => by
      obtain ⟨hne, hc⟩ := hk b2 hb2
      refine ⟨hne, ?_⟩
      rw [s3 b2 hne]
      rcases hc with h | ⟨e2, l2, f2, k2, h, hl, hki⟩
      · exact .inl h
      · exact .inr ⟨e2, l2, f2, k2, h, by omega, hki⟩)
    refine ⟨st', ?_, by simpa using t2, fun y hy => (t3 y hy).trans (s3 y hy), t4.trans s4, t5.trans s5, fun y hy => ?_⟩
    · simp only [St.wrL, s1]; exact t1
    · rcases t6 y hy with h | h
      · exact s6 y h
      · exact .inr h
theorem Rel.growIn {P : Program} {β : Bmap} {st st' : St} {w : World} (h : Rel β st w) {b elem off m : Nat} {x : List AV} {c : List Value} {im : Img}
    (hgr : st.grow b elem off m x = some st') (hb : β b = some im) (hx : LRel β x c) (hroom : off + m + x.length ≤ im.room) :
    ∃ w', (storeCells ⟨im.blk, im.off + off + m, none⟩ c).run P w = .ok () w' ∧ Post β st w (β.add st.next ⟨im.blk, im.off + off, im.room - off⟩) st' w' := by
  unfold St.grow at hgr
  split at hgr
  case h_2 => cases hgr
  rename_i e l fz kin hg
  split at hgr
  case h_2 => cases hgr
  rename_i old he hfz hold hone hbn
  have hfz := Nat.le_of_ble_eq_true hfz
  have hbn : b < st.next := Nat.le_of_ble_eq_true hbn
  cases hgr
  obtain ⟨c0, fr, q1, q2, q3, q4, q5⟩ := h.obj _ _ _ hg hb
  obtain ⟨ho1, ho2⟩ := takeVals_spec hold
  have hext := Bmap.ext_add (⟨im.blk, im.off + off, im.room - off⟩ : Img) h.none_next
  have hA := h.grown (w1 := w) (off := off) (m := m) (im' := ⟨im.blk, im.off + off, im.room - off⟩) (o' := .cells (e.1, baseOf off e.2) (old.map some ++ List.replicate x.length none) (fzOf fz off) (kinOf off b)) hb hg
    (fun _ _ => rfl) (Nat.le_refl _) (by
      simp only [ORel]
      refine ⟨c0, fr, q1, by omega, by simp [ho1]; omega, fun i v hv => ?_, fun i hi1 hi2 => ?_, fun h0 => q5.2.1 (fzOf_zero h0), fun hbo => ?_⟩
      · have hi : i < old.length := by
          rcases Nat.lt_or_ge i old.length with h' | h'
          · exact h'
          · rw [List.getElem?_append_right (by simpa using h')] at hv
            rw [List.getElem?_replicate] at hv; split at hv <;> cases hv
        rw [List.getElem?_append_left (by simpa using hi), List.getElem?_map] at hv
        have hov : old[i]? = some v := by
          cases hq : old[i]? with
          | none => rw [hq] at hv; cases hv
          | some z => rw [hq] at hv; simp at hv; rw [hv]
        have := ho2 i v hov
        rw [List.getElem?_drop] at this
        obtain ⟨y, hy, hr⟩ := q4 _ _ this
        exact ⟨y, by rw [Nat.add_assoc]; exact hy, hr.mono hext⟩
      · have := fzOf_le fz off
        have := q5.1 (off + i) (by omega) (by omega)
        rw [Nat.add_assoc]; exact this
      · cases off with
        | zero => exact q5.2.2 hbo
        | succ n => cases hbo)
    (h.lt _ _ hb).2 rfl (.inr ⟨rfl, fun h0 => by subst h0; rfl⟩) (logw st.thr b (logKin st.thr kin st.log))
  obtain ⟨stB, b1, b2, b3, b4, b5, b6⟩ := wrL_fill (b' := st.next) (e := (e.1, baseOf off e.2)) (fz := fzOf fz off) (kin := kinOf off b) x (old.map some)
    { heap := growHeap st.heap b st.next (ownOf e l fz off m st.next) kin (.cells (e.1, baseOf off e.2) (old.map some ++ List.replicate x.length none) (fzOf fz off) (kinOf off b)), next := Nat.succ st.next, thr := st.thr, log := logw st.thr b (logKin st.thr kin st.log) }
    m (by rw [get_growHeap, if_pos rfl]) (by simp [ho1]) (by omega) hone (fun b2 hb2 => by
      have h0 : off = 0 := by cases off with | zero => rfl | succ n => simp [kinOf] at hb2
      subst h0
      simp only [kinOf, Option.some.injEq] at hb2; subst hb2
      refine ⟨by omega, ?_⟩
      simp only [get_growHeap, if_neg (show b ≠ st.next by omega)]
      by_cases hk : kin = some b
      · rw [if_pos hk]; exact .inl rfl
      · rw [if_neg hk, if_pos trivial]; exact .inr ⟨_, _, _, _, rfl, by simp; omega, Nat.beq_refl _⟩)
  obtain ⟨w', r1, r2⟩ := Rel.wrL (P := P) (off := m) (j := 0) hA b1 (Bmap.add_same _ _ _) (hx.mono hext) rfl
  refine ⟨w', r1, hext, fun y hy => by unfold Bmap.add; rw [if_neg (by omega)], ?_, Nat.le_succ _, rfl, fun y hy => mem_logw (mem_logKin hy), ?_, Stays.growHeap hg rfl, fun y jm hge hy hs => ?_⟩
  · refine r2.rel.congr (fun y => ?_) (by rw [b4]) (by rw [show St.thr _ = st.thr from rfl]; exact Nat.le_succ_of_le h.thr_le)
    by_cases hy : y = st.next
    · subst hy; rw [b2, get_growHeap, if_pos rfl]; simp
    · rw [b3 y hy, get_growHeap, get_growHeap, if_neg hy, if_neg hy]
  · refine ⟨r2.frame.os, r2.frame.tape, r2.frame.output, r2.frame.size, fun k hk hall => r2.frame.blk k hk fun y jm hy hyk => ?_⟩
    obtain ⟨z1, z2⟩ := hall y jm hy hyk
    refine ⟨z1, fun hm => ?_⟩
    rcases b6 y hm with h' | h' | h'
    · exact z2 h'
    · subst h'; have := h.thr_le; omega
    · have : y = b := by cases off with
        | zero => simp only [kinOf, Option.some.injEq] at h'; exact h'.symm
        | succ n => simp [kinOf] at h'
      subst this
      exact logw_self st.thr y _ ⟨z1, z2⟩
  · by_cases ey : y = st.next
    · subst ey
      rw [Bmap.add_same] at hy; cases hy
      refine ⟨b, im, hb, rfl, not_gone hg (by simp), ?_⟩
      by_cases hbt : b < st.thr
      · refine .inl ?_
        by_cases hm : b ∈ logw st.thr b (logKin st.thr kin st.log)
        · exact hm
        · exact absurd ⟨hbt, hm⟩ (logw_self _ _ _)
      · exact .inr (Nat.le_of_not_lt hbt)
    · simp only [Bmap.add, if_neg ey] at hy
      exact absurd (h.lt _ _ hy).1 (Nat.not_lt.2 hge)
theorem Rel.growOut {β : Bmap} {st st' : St} {w : World} (h : Rel β st w) {b elem off m : Nat} {x : List AV} {c : List Value} {im : Img}
    (hgr : st.grow b elem off m x = some st') (hb : β b = some im) (hx : LRel β x c) :
    ∃ old : List Value, old.length = m ∧ (∀ (j : Nat) (v : Value), old[j]? = some v → w.cell? ⟨im.blk, im.off + off + j, none⟩ = some v) ∧
      ∀ rest : List Value, Post β st w (β.add st.next ⟨w.heap.size, 0, m + c.length + rest.length⟩) st' (w.alloc (.cells (old ++ c ++ rest).toArray elem)) := by
  unfold St.grow at hgr
  split at hgr
  case h_2 => cases hgr
  rename_i e l fz kin hg
  split at hgr
  case h_2 => cases hgr
  rename_i old he hfz hold hone hbn
  have he : e.1 = elem := Nat.eq_of_beq_eq_true he
  cases hgr
  obtain ⟨cold, p1, p2, p3⟩ := h.rdN (b := b) (i := off) (n := m) (r := old) (by unfold St.rdN; rw [hg]; exact hold) hb
  refine ⟨cold, p1, p3, fun rest => ?_⟩
  have hlen := hx.length
  obtain ⟨ho1, ho2⟩ := takeVals_spec hold
  have hext := Bmap.ext_add (⟨w.heap.size, 0, m + c.length + rest.length⟩ : Img) h.none_next
  refine ⟨hext, fun y hy => by unfold Bmap.add; rw [if_neg (by omega)], ?_, Nat.le_succ _, rfl, fun y hy => mem_logw (mem_logKin hy), ⟨rfl, rfl, rfl, by simp, fun k hk _ => heap_push_lt _ _ _ hk⟩, Stays.growHeap hg rfl, fun y jm hge hy hs => ?_⟩
  rotate_left
  · by_cases ey : y = st.next
    · subst ey
      rw [Bmap.add_same] at hy; cases hy
      exact absurd hs (Nat.lt_irrefl _)
    · simp only [Bmap.add, if_neg ey] at hy
      exact absurd (h.lt _ _ hy).1 (Nat.not_lt.2 hge)
  refine h.grown hb hg (fun k hk => heap_push_lt _ _ _ hk) (by simp) ?_ (by simp) rfl (.inl rfl) _
  simp only [ORel]
  refine ⟨(cold ++ c ++ rest).toArray, (0, 0), by show _ = some (Obj.cells _ e.1 _); rw [he]; exact heap_push_new _ _, by simp [p1]; omega, by simp [ho1, hlen], fun i v hi => ?_, fun i _ _ => by simp, fun _ => rfl, fun _ => by simp⟩
  rw [List.getElem?_map] at hi
  have hall := (p2.append hx)
  cases hq : (old ++ x)[i]? with
  | none => rw [hq] at hi; cases hi
  | some z =>
    rw [hq] at hi; simp at hi; subst hi
    obtain ⟨y, hy, hr⟩ := hall.get hq
    have hlt : i < (cold ++ c).length := (List.getElem?_eq_some_iff.1 hy).1
    refine ⟨y, ?_, hr.mono hext⟩
    have : (cold ++ c ++ rest)[i]? = some y := by rw [List.getElem?_append_left hlt]; exact hy
    simpa using this
end Go.RI
namespace Go.RI
def ev (tm : Tr AV) : Rnd → AV
  | .tmp t => match tm.get t with
    | some v => v
    | none => undefA
  | .con v => v
  | .fn f => .func (.func f) [] []
def evL (tm : Tr AV) : List Rnd → List AV
  | [] => []
  | x :: l => ev tm x :: evL tm l
def bytesLt : List Nat → List Nat → Bool
  | _, [] => false
  | [], _ :: _ => true
  | a :: x, b :: y => match Nat.blt a b with
    | true => true
    | false => match Nat.beq a b with
      | true => bytesLt x y
      | false => false
def eqL : List Nat → List Nat → Bool
  | [], [] => true
  | a :: x, b :: y => match Nat.beq a b with
    | true => eqL x y
    | false => false
  | _, _ => false
def ibin (op : BinOp) (k : IntKind) (a b : Int) : Option AV :=
  match op with
  | .add => some (.int k (k.wrap (a + b)))
  | .sub => some (.int k (k.wrap (a - b)))
  | .mul => some (.int k (k.wrap (a * b)))
  | .quo => if b = 0 then none else some (.int k (k.wrap (a.tdiv b)))
  | .rem => if b = 0 then none else some (.int k (a.tmod b))
  | .and => some (.int k (k.wrap ((BitVec.ofInt k.bits a) &&& (BitVec.ofInt k.bits b)).toNat))
  | .or => some (.int k (k.wrap ((BitVec.ofInt k.bits a) ||| (BitVec.ofInt k.bits b)).toNat))
  | .xor => some (.int k (k.wrap ((BitVec.ofInt k.bits a) ^^^ (BitVec.ofInt k.bits b)).toNat))
  | .andNot => some (.int k (k.wrap ((BitVec.ofInt k.bits a) &&& ~~~(BitVec.ofInt k.bits b)).toNat))
  | .eql => some (.bool (a == b))
  | .neq => some (.bool (a != b))
  | .lss => some (.bool (a < b))
  | .leq => some (.bool (a ≤ b))
  | .gtr => some (.bool (a > b))
  | .geq => some (.bool (a ≥ b))
  | .shl | .shr => none
def sbin (op : BinOp) (a b : List Nat) : Option AV :=
  match op with
  | .add => match Nat.ble (a.length + b.length) 1099511627776 with
    | true => some (.str (a ++ b))
    | false => none
  | .eql => some (.bool (eqL a b))
  | .neq => some (.bool (!(eqL a b)))
  | .lss => some (.bool (bytesLt a b))
  | .leq => some (.bool (bytesLt a b || eqL a b))
  | .gtr => some (.bool (!(bytesLt a b || eqL a b)))
  | .geq => some (.bool (!(bytesLt a b)))
  | _ => none
def eqCells : List Bool → List AV → List AV → Option Bool
  | [], [], [] => some true
  | true :: ks, .int k a :: x, .int k' b :: y => if k = k' then (if a == b then eqCells ks x y else some false) else none
  | false :: ks, .str a :: x, .str b :: y => match eqL a b with
    | true => eqCells ks x y
    | false => some false
  | _, _, _ => none
def lenIs {α : Type} : List α → List Bool → Bool
  | [], [] => true
  | _ :: l, _ :: ks => lenIs l ks
  | _, _ => false
def eqA : BTag → AV → AV → Option Bool
  | .bool, .bool a, .bool b => some (a == b)
  | .ptr, .nilp, .nilp => some true
  | .ptr, .nilp, .ptr _ _ => some false
  | .ptr, .ptr _ _, .nilp => some false
  | .ptr, .ptr a i, .ptr b j => match Nat.beq a b with
    | true => some (Nat.beq i j)
    | false => none
  | .sl, .nils, .nils => some true
  | .sl, .nils, .slice .. => some false
  | .sl, .slice .., .nils => some false
  | .mp, .nilm, .nilm => some true
  | .mp, .nilm, .map _ => some false
  | .mp, .map _, .nilm => some false
  | .fn, .nilf, .nilf => some true
  | .fn, .nilf, .func .. => some false
  | .fn, .func .., .nilf => some false
  | .ifc, .nili, .nili => some true
  | .ifc, .nili, .iface .. => some false
  | .ifc, .iface .., .nili => some false
  | .st ks, .agg x, .agg y => match lenIs x ks, lenIs y ks with
    | true, true => eqCells ks x y
    | _, _ => none
  | _, _, _ => none
def numA (op : BinOp) (x y : AV) : Option AV :=
  match x, y with
  | .int k a, .int k' b => match op with
    | .shl => if b < 0 then none else some (.int k (k.wrap (a * 2 ^ (min b.toNat k.bits))))
    | .shr => if b < 0 then none else some (.int k (a.fdiv (2 ^ (min b.toNat k.bits))))
    | op => if k = k' then ibin op k a b else none
  | .str a, .str b => sbin op a b
  | _, _ => none
def binA (g : BTag) (op : BinOp) (x y : AV) : Option AV :=
  match g with
  | .num => numA op x y
  | g => match op with
    | .eql => match eqA g x y with
      | some r => some (.bool r)
      | none => none
    | .neq => match eqA g x y with
      | some r => some (.bool (!r))
      | none => none
    | _ => none
def unA (op : UnOp) (x : AV) : Option AV :=
  match op, x with
  | .neg, .int k n => some (.int k (k.wrap (0 - n)))
  | .not, .bool b => some (.bool (!b))
  | .xor, .int k n => some (.int k (k.wrap ((BitVec.ofInt k.bits (if k.signed then -1 else k.max)) ^^^ (BitVec.ofInt k.bits n)).toNat))
  | _, _ => none
def fillA (cells : List AV) (tm : Tr AV) : List (Nat × Nat × Rnd) → Option (List AV)
  | [] => some cells
  | (off, size, x) :: rest =>
    let c := (ev tm x).cells
    match Nat.beq c.length size, Nat.ble (off + size) cells.length with
    | true, true => fillA (cells.take off ++ c ++ cells.drop (off + size)) tm rest
    | _, _ => none
def newCells (st : St) (elem : Nat) (l : List AV) : St := st.new (.cells (elem, true) (l.map some) 0 none)
def bytesOf : List AV → Option (List Nat)
  | [] => some []
  | .int .u8 (.ofNat n) :: l => match Nat.blt n 256, bytesOf l with
    | true, some r => some (n :: r)
    | _, _ => none
  | _ :: _ => none
def natOf : AV → Option Nat
  | .int _ (.ofNat n) => some n
  | _ => none
def optNat (tm : Tr AV) (d : Nat) : Option Rnd → Option Nat
  | none => some d
  | some x => natOf (ev tm x)
def plainBlk (st : St) (b : Nat) : Bool :=
  match st.heap.get b with
  | some (.cells _ _ 0 none) => true
  | _ => false
def eqKey (st : St) : KK → AV → AV → Option Bool
  | .int, .int k a, .int k' b => if k = k' then some (a == b) else none
  | .str, .str a, .str b => some (eqL a b)
  | .struct ks, .agg x, .agg y => match lenIs x ks, lenIs y ks with
    | true, true => eqCells ks x y
    | _, _ => none
  | .ptr, .ptr a i, .ptr b j => match Nat.beq a b with
    | true => some (Nat.beq i j)
    | false => match plainBlk st a, plainBlk st b with
      | true, true => some false
      | _, _ => none
  | _, _, _ => none
def findKeyA (st : St) (kk : KK) (k : AV) : List (AV × AV × Nat) → Nat → Option (Option (Nat × AV × Nat))
  | [], _ => some none
  | (k', v, n) :: es, i => match eqKey st kk k k' with
    | some true => some (some (i, v, n))
    | some false => findKeyA st kk k es (Nat.succ i)
    | none => none
def fitKey : KK → AV → Bool
  | .int, .int _ _ => true
  | .str, .str _ => true
  | .ptr, .ptr _ _ => true
  | .struct ks, .agg l => lenIs l ks
  | _, _ => false
def findK (st : St) (kk : KK) (k : AV) (es : List (AV × AV × Nat)) : Option (Option (Nat × AV × Nat)) := match fitKey kk k with
  | true => findKeyA st kk k es 0
  | false => none
def lookK (st : St) (kk : KK) (m k : AV) : Option (Option (Nat × AV × Nat)) := match m with
  | .nilm => findK st kk k []
  | .map b => match st.heap.get b with
    | some (.map es _) => findK st kk k es
    | _ => none
  | _ => none
def lookRes (ok : Bool) (zero : AV) (r : Option (Nat × AV × Nat)) : AV := match ok with
  | true => match r with
    | some (_, v, _) => .tuple [v, .bool true]
    | none => .tuple [zero, .bool false]
  | false => match r with
    | some (_, v, _) => v
    | none => zero
def setAt (k v : AV) : List (AV × AV × Nat) → Nat → List (AV × AV × Nat)
  | [], _ => []
  | (_, _, n) :: es, 0 => (k, v, n) :: es
  | e :: es, Nat.succ i => e :: setAt k v es i
def dropAt : List (AV × AV × Nat) → Nat → List (AV × AV × Nat)
  | [], _ => []
  | _ :: es, 0 => es
  | e :: es, Nat.succ i => e :: dropAt es i
def setBorn (s : Nat) (v : AV) : List (AV × AV × Nat) → Option (List (AV × AV × Nat))
  | [] => none
  | (k', v', n) :: es => match Nat.beq n s with
    | true => some ((k', v, n) :: es)
    | false => match setBorn s v es with
      | some r => some ((k', v', n) :: r)
      | none => none
def St.putObj (st : St) (b : Nat) (o : AObj) : St := { st with heap := st.heap.set o b, log := logw st.thr b st.log }
def St.upd (st : St) (kk : KK) (b : Nat) (k v : AV) : Option St :=
  match st.heap.get b with
  | some (.map es c) => match findK st kk k es with
    | some (some (i, _, _)) => some (st.putObj b (.map (setAt k v es i) c))
    | some none => some (st.putObj b (.map (es ++ [(k, v, c)]) (Nat.succ c)))
    | none => none
  | _ => none
def memN (n : Nat) : List Nat → Bool
  | [] => false
  | m :: l => match Nat.beq n m with
    | true => true
    | false => memN n l
def leftOf (seen : List Nat) : List (AV × AV × Nat) → List (AV × AV × Nat)
  | [] => []
  | (k, v, n) :: es => match memN n seen with
    | true => leftOf seen es
    | false => (k, v, n) :: leftOf seen es
def anyLt (last : Nat) : List (AV × AV × Nat) → Bool
  | [] => false
  | (_, _, n) :: es => match Nat.blt n last with
    | true => true
    | false => anyLt last es
def okIter (seen : List Nat) (es : List (AV × AV × Nat)) (last : Nat) : Bool := match seen, es with
  | [], _ => true
  | _, [] => true
  | _, es => anyLt last es
def findBorn (s : Nat) : List (AV × AV × Nat) → Option (AV × AV)
  | [] => none
  | (k, v, n) :: es => match Nat.beq n s with
    | true => some (k, v)
    | false => findBorn s es
def appA (st : St) (elem es bytes : Nat) (s : AV) (x : List AV) (n : Nat) : Option (AV × St) :=
  match s with
  | .nils => match n with
    | 0 => some (.nils, st)
    | _ => match Nat.ble (16 * n * bytes) 281474976710656, Nat.ble n 281474976710656 with
      | true, true => some (.slice st.next 0 n n es, newCells st elem x)
      | _, _ => none
  | .slice b off len cap es' => match Nat.beq es es', Nat.ble (len + n) cap with
    | true, true => match st.wrL b (off + len * es) x with
      | some st' => some (.slice b off (len + n) cap es, st')
      | none => none
    | true, false => match Nat.ble (16 * (len + n) * bytes) 281474976710656, Nat.ble (len + n) 281474976710656, n with
      | true, true, Nat.succ _ => match st.grow b elem off (len * es) x with
        | some st' => some (.slice st.next 0 (len + n) (len + n) es, st')
        | none => none
      | _, _, _ => none
    | _, _ => none
  | _ => none
def sizeIn (e : Nat) : List (Nat × Nat) → Option Nat
  | [] => none
  | (x, n) :: l => match Nat.beq e x with
    | true => some n
    | false => sizeIn e l
def aop (op : AOp) (tm : Tr AV) (st : St) : Option (AV × St) :=
  match op with
  | .mv x => some (ev tm x, st)
  | .pick c a b => match ev tm c with
    | .bool true => some (ev tm a, st)
    | .bool false => some (ev tm b, st)
    | _ => none
  | .alloc elem zero => some (.ptr st.next 0, newCells st elem zero)
  | .box elem x => some (.ptr st.next 0, newCells st elem (ev tm x).cells)
  | .build zero parts => match fillA zero tm parts with
    | some l => some (.agg l, st)
    | none => none
  | .buildSlice elem len es zero parts => match fillA zero tm parts with
    | some l => some (.slice st.next 0 len len es, newCells st elem l)
    | none => none
  | .load1 a => match ev tm a with
    | .ptr b off => match st.rd b off with
      | some v => some (v, st)
      | none => none
    | _ => none
  | .loadN n a => match ev tm a with
    | .ptr b off => match st.rdN b off n with
      | some v => some (.agg v, st)
      | none => none
    | _ => none
  | .store n a x => match ev tm a with
    | .ptr b off =>
      let c := (ev tm x).cells
      match Nat.beq c.length n with
      | true => match st.wrL b off c with
        | some st' => some (undefA, st')
        | none => none
      | false => none
    | _ => none
  | .nilck x => match ev tm x with
    | .ptr b off => some (.ptr b off, st)
    | .func (.func f) a b => some (.func (.func f) a b, st)
    | .yld l => some (.yld l, st)
    | _ => none
  | .bin g op x y => match binA g op (ev tm x) (ev tm y) with
    | some v => some (v, st)
    | none => none
  | .un op x => match unA op (ev tm x) with
    | some v => some (v, st)
    | none => none
  | .toInt k x => match ev tm x with
    | .int _ n => some (.int k (k.wrap n), st)
    | _ => none
  | .strId x => match ev tm x with
    | .str s => some (.str s, st)
    | _ => none
  | .toStr x => match ev tm x with
    | .str s => some (.str s, st)
    | .nils => some (.str [], st)
    | .slice b off len _ 1 => match st.rdN b off len with
      | some l => match bytesOf l with
        | some s => some (.str s, st)
        | none => none
      | none => none
    | _ => none
  | .runeStr x => match ev tm x with
    | .int _ (.ofNat n) => match Nat.blt n 128 with
      | true => some (.str [n], st)
      | false => none
    | _ => none
  | .toBytes elem x => match ev tm x with
    | .str s => some (.slice st.next 0 s.length s.length 1, st.new (.cells (elem, true) (s.map fun n => some (.int .u8 (.ofNat n))) (Nat.max 1 s.length) none))
    | _ => none
  | .ptrUs x => match ev tm x with
    | .ptr b off => match st.heap.get b with
      | some (.cells _ l _ _) => match Nat.blt off l.length with
        | true => some (.ptr b off, st)
        | false => none
      | _ => none
    | .nilp => some (.nilp, st)
    | _ => none
  | .usPtr oks x => match ev tm x with
    | .ptr b 0 => match st.heap.get b with
      | some (.cells (e, true) l _ _) => match sizeIn e oks with
        | some size => match Nat.ble size l.length with
          | true => some (.ptr b 0, st)
          | false => none
        | none => none
      | _ => none
    | .nilp => some (.nilp, st)
    | _ => none
  | .mkIface t x => some (.iface t (ev tm x), st)
  | .mkFunc f a b => some (.func f (evL tm a) (evL tm b), st)
  | .mkMap => some (.map st.next, st.new (.map [] 0))
  | .mkSlice elem es bytes zero len cap => match natOf (ev tm len), natOf (ev tm cap) with
    | some l, some c => match Nat.ble l c, Nat.ble (bytes * c) 281474976710656, Nat.ble c 1000000 with
      | true, true, true => some (.slice st.next 0 l c es, newCells st elem (List.replicate c zero).flatten)
      | _, _, _ => none
    | _, _ => none
  | .cutStr x lo hi => match ev tm x with
    | .str s => match optNat tm 0 lo, optNat tm s.length hi with
      | some l, some h => match Nat.ble l h, Nat.ble h s.length with
        | true, true => some (.str ((s.drop l).take (h - l)), st)
        | _, _ => none
      | _, _ => none
    | _ => none
  | .cutSl es x lo hi mx => match ev tm x with
    | .slice b off len cap es' => match optNat tm 0 lo, optNat tm len hi, optNat tm cap mx with
      | some l, some h, some m => match Nat.ble l h, Nat.ble h m, Nat.ble m cap, Nat.beq es es' with
        | true, true, true, true => some (.slice b (off + l * es) (h - l) (m - l) es, st)
        | _, _, _, _ => none
      | _, _, _ => none
    | .nils => match optNat tm 0 lo, optNat tm 0 hi, optNat tm 0 mx with
      | some 0, some 0, some 0 => some (.nils, st)
      | _, _, _ => none
    | _ => none
  | .cutArr n es x lo hi => match ev tm x with
    | .ptr b off => match st.heap.get b with
      | some (.cells _ row _ _) => match optNat tm 0 lo, optNat tm n hi with
        | some l, some h => match Nat.ble l h, Nat.ble h n, Nat.ble (off + n * es) row.length with
          | true, true, true => some (.slice b (off + l * es) (h - l) (n - l) es, st)
          | _, _, _ => none
        | _, _ => none
      | _ => none
    | _ => none
  | .fieldAddr off x => match ev tm x with
    | .ptr b o => some (.ptr b (o + off), st)
    | _ => none
  | .field agg off size x => match ev tm x with
    | .agg l => match agg with
      | true => some (.agg ((l.drop off).take size), st)
      | false => match l[off]? with
        | some v => some (v, st)
        | none => none
    | _ => none
  | .idxArr len es x i => match ev tm x, natOf (ev tm i) with
    | .ptr b o, some n => match Nat.blt n len with
      | true => some (.ptr b (o + n * es), st)
      | false => none
    | _, _ => none
  | .idxSl es x i => match ev tm x, natOf (ev tm i) with
    | .slice b off len _ es', some n => match Nat.blt n len, Nat.beq es es' with
      | true, true => some (.ptr b (off + n * es), st)
      | _, _ => none
    | _, _ => none
  | .idxStr x i => match ev tm x, natOf (ev tm i) with
    | .str s, some n => match s[n]? with
      | some c => some (.int .u8 (.ofNat c), st)
      | none => none
    | _, _ => none
  | .idxAgg agg len es x i => match ev tm x, natOf (ev tm i) with
    | .agg l, some n => match Nat.blt n len with
      | true => match agg with
        | true => some (.agg ((l.drop (n * es)).take es), st)
        | false => match l[n * es]? with
          | some v => some (v, st)
          | none => none
      | false => none
    | _, _ => none
  | .lookup kk zero ok m k =>
    match lookK st kk (ev tm m) (ev tm k) with
    | some r => some (lookRes ok zero r, st)
    | none => none
  | .mapUpd kk m k v => match ev tm m with
    | .map b => match st.upd kk b (ev tm k) (ev tm v) with
      | some st' => some (undefA, st')
      | none => none
    | _ => none
  | .mapEnt kk zero m k => match ev tm m with
    | .map b => match st.heap.get b with
      | some (.map es c) => match findK st kk (ev tm k) es with
        | some (some (i, v, n)) => some (.tuple [v, .int .i64 (.ofNat n)], st.putObj b (.map (setAt (ev tm k) v es i) c))
        | some none => some (.tuple [zero, .int .i64 (.ofNat c)], st.putObj b (.map (es ++ [(ev tm k, zero, c)]) (Nat.succ c)))
        | none => none
      | _ => none
    | _ => none
  | .entSt m s v => match ev tm m, natOf (ev tm s) with
    | .map b, some n => match st.heap.get b with
      | some (.map es c) => match setBorn n (ev tm v) es with
        | some es' => some (undefA, st.putObj b (.map es' c))
        | none => none
      | _ => none
    | _, _ => none
  | .rangeMap x => match ev tm x with
    | .nilm => some (.ptr st.next 0, st.new (.miter none 0 [] 0))
    | .map b => match st.heap.get b with
      | some (.map _ c) => some (.ptr st.next 0, st.new (.miter (some b) c [] c))
      | _ => none
    | _ => none
  | .rangeStr x => match ev tm x with
    | .str s => some (.ptr st.next 0, st.new (.siter s 0))
    | _ => none
  | .nextMap it => match ev tm it with
    | .ptr r 0 => match st.heap.get r with
      | some (.miter none _ _ _) => some (.tuple [.bool false], st)
      | some (.miter (some m) since seen last) => match st.heap.get m with
        | some (.map es c) => match okIter seen es last, leftOf seen es with
          | true, [] => some (.tuple [.bool false], st)
          | true, [(k, v, n)] => match Nat.blt n since with
            | true => some (.tuple [.bool true, k, v], st.putObj r (.miter (some m) since (seen ++ [n]) c))
            | false => none
          | _, _ => none
        | _ => none
      | _ => none
    | _ => none
  | .nextStr it => match ev tm it with
    | .ptr r 0 => match st.heap.get r with
      | some (.siter s pos) => match s.drop pos with
        | [] => some (.tuple [.bool false], st)
        | c :: _ => match Nat.blt c 128 with
          | true => some (.tuple [.bool true, .int .i64 (.ofNat pos), .int .i32 (.ofNat c)], st.putObj r (.siter s (pos + 1)))
          | false => none
      | _ => none
    | _ => none
  | .entry it => match ev tm it with
    | .ptr r 0 => match st.heap.get r with
      | some (.miter (some m) _ seen last) => match st.heap.get m, seen.reverse with
        | some (.map es c), s :: _ => match Nat.beq c last, findBorn s es with
          | true, some (k, v) => some (.tuple [k, v], st)
          | _, _ => none
        | _, _ => none
      | _ => none
    | _ => none
  | .extract i x => match ev tm x with
    | .tuple l => match l[i]? with
      | some v => some (v, st)
      | none => none
    | _ => none
  | .len g x => match g, ev tm x with
    | .num, .str s => some (.int .i64 (.ofNat s.length), st)
    | .sl, .slice _ _ n _ _ => some (.int .i64 (.ofNat n), st)
    | .sl, .nils => some (.int .i64 (.ofNat 0), st)
    | .mp, .nilm => some (.int .i64 (.ofNat 0), st)
    | .mp, .map b => match st.heap.get b with
      | some (.map es _) => some (.int .i64 (.ofNat es.length), st)
      | _ => none
    | _, _ => none
  | .lenC n => some (.int .i64 (.ofNat n), st)
  | .app elem es bytes _ s x => match ev tm x with
    | .nils => appA st elem es bytes (ev tm s) [] 0
    | .str l => match Nat.beq es 1 with
      | true => appA st elem es bytes (ev tm s) (l.map fun n => .int .u8 (.ofNat n)) l.length
      | false => none
    | .slice b off n _ es' => match Nat.beq es es', st.rdN b off (n * es) with
      | true, some l => appA st elem es bytes (ev tm s) l n
      | _, _ => none
    | _ => none
  | .copy es d s => match ev tm d with
    | .nils => match ev tm s with
      | .nils => some (.int .i64 (.ofNat 0), st)
      | .slice _ _ _ _ _ => some (.int .i64 (.ofNat 0), st)
      | _ => none
    | .slice b off n _ es' => match Nat.beq es es' with
      | true => match ev tm s with
        | .nils => some (.int .i64 (.ofNat 0), st)
        | .slice b2 off2 n2 _ es2 => match Nat.beq es es2, st.rdN b2 off2 (Nat.min n2 n * es) with
          | true, some l => match st.wrL b off l with
            | some st' => some (.int .i64 (.ofNat (Nat.min n2 n)), st')
            | none => none
          | _, _ => none
        | _ => none
      | false => none
    | _ => none
  | .minI x y => match ev tm x, ev tm y with
    | .int k a, .int _ b => some (.int k (if b < a then b else a), st)
    | _, _ => none
  | .maxI x y => match ev tm x, ev tm y with
    | .int k a, .int _ b => some (.int k (if b > a then b else a), st)
    | _, _ => none
  | .clearSl es zero x => match ev tm x with
    | .nils => some (undefA, st)
    | .slice b off n _ es' => match n with
      | 0 => some (undefA, st)
      | _ => match Nat.beq es es', st.wrL b off (List.replicate n zero).flatten with
        | true, some st' => some (undefA, st')
        | _, _ => none
    | _ => none
  | .delete kk m k => match ev tm m with
    | .nilm => match fitKey kk (ev tm k) with
      | true => some (undefA, st)
      | false => none
    | .map b => match st.heap.get b with
      | some (.map es c) => match findK st kk (ev tm k) es with
        | some (some (i, _, _)) => some (undefA, st.putObj b (.map (dropAt es i) c))
        | some none => some (undefA, st.putObj b (.map es c))
        | none => none
      | _ => none
    | _ => none
  | .usData x => match ev tm x with
    | .nils => some (.nilp, st)
    | .slice b off _ (Nat.succ _) _ => some (.ptr b off, st)
    | _ => none
  | .usStr elem x n => match natOf (ev tm n) with
    | some 0 => match ev tm x with
      | .ptr _ _ => some (.str [], st)
      | .nilp => some (.str [], st)
      | _ => none
    | some n => match ev tm x with
      | .ptr b off => match st.heap.get b with
        | some (.cells e l fz none) => match Nat.beq e.1 elem, takeVals (l.drop off) n with
          | true, some r => match bytesOf r with
            | some s => some (.str s, st.putObj b (.cells e l (Nat.max fz (off + n)) none))
            | none => none
          | _, _ => none
        | _ => none
      | _ => none
    | none => none
  | .recov => some (.nili, st)
  | .call .. => none
  | .defer .. => none
  | .bad => none
end Go.RI
