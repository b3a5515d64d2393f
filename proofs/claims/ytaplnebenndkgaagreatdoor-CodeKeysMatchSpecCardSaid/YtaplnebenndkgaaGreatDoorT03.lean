/- A compiler from bodies of Go functions into a small language of values and blocks, and the proof that a run of the compiled text is a run of the program. Conditions: none. -/
import Derived.Test.YtaplnebenndkgaaGreatDoorT02
import Derived.Laws.Build
import Derived.Laws.Strings
import Derived.Laws.Slices
import Derived.Laws.StructEq
import Derived.Laws.BytesString
set_option linter.all false
namespace Go.RI
mutual
theorem avOf_rel {β : Bmap} : ∀ {v : Value} {a : AV}, avOf v = some a → VRel β a v
  | .bool b, a, h => by simp only [avOf, Option.some.injEq] at h; subst h; rfl
  | .int k n, a, h => by simp only [avOf, Option.some.injEq] at h; subst h; rfl
  | .float .., a, h => by simp [avOf] at h
  | .complex .., a, h => by simp [avOf] at h
  | .string s, a, h => by simp only [avOf, Option.some.injEq] at h; subst h; exact ⟨s, rfl, rfl⟩
  | .pointer none, a, h => by simp only [avOf, Option.some.injEq] at h; subst h; rfl
  | .pointer (some _), a, h => by simp [avOf] at h
  | .slice none 0 0, a, h => by simp only [avOf, Option.some.injEq] at h; subst h; rfl
  | .slice none 0 (n + 1), a, h => by simp [avOf] at h
  | .slice none (n + 1) _, a, h => by simp [avOf] at h
  | .slice (some _) _ _, a, h => by simp [avOf] at h
  | .map none, a, h => by simp only [avOf, Option.some.injEq] at h; subst h; rfl
  | .map (some _), a, h => by simp [avOf] at h
  | .chan _, a, h => by simp [avOf] at h
  | .func f ⟨[]⟩ ⟨[]⟩, a, h => by
    simp only [avOf, Option.some.injEq] at h; subst h
    exact ⟨[], [], by simp [LRel], by simp [LRel], rfl⟩
  | .func f ⟨_ :: _⟩ _, a, h => by simp [avOf] at h
  | .func f ⟨[]⟩ ⟨_ :: _⟩, a, h => by simp [avOf] at h
  | .nilFunc, a, h => by simp only [avOf, Option.some.injEq] at h; subst h; rfl
  | .iface t v, a, h => by
    simp only [avOf] at h
    split at h
    · rename_i r hr; cases h; exact ⟨v, avOf_rel hr, rfl⟩
    · cases h
  | .nilIface, a, h => by simp only [avOf, Option.some.injEq] at h; subst h; rfl
  | .agg ⟨l⟩, a, h => by
    simp only [avOf] at h
    split at h
    · rename_i r hr; cases h; exact ⟨l, avOfL_rel hr, rfl⟩
    · cases h
  | .tuple ⟨l⟩, a, h => by
    simp only [avOf] at h
    split at h
    · rename_i r hr; cases h; exact ⟨l, avOfL_rel hr, rfl⟩
    · cases h
theorem avOfL_rel {β : Bmap} : ∀ {l : List Value} {r : List AV}, avOfL l = some r → LRel β r l
  | [], r, h => by simp only [avOfL, Option.some.injEq] at h; subst h; simp [LRel]
  | v :: l, r, h => by
    simp only [avOfL] at h
    split at h
    · rename_i x xs hx hxs; cases h; simp only [LRel]; exact ⟨v, l, rfl, avOf_rel hx, avOfL_rel hxs⟩
    · cases h
end
def GRel (G : Nat) (β : Bmap) : Prop := ∀ g, g < G → ∃ room, β g = some ⟨g, 0, room⟩
theorem GRel.mono {G : Nat} {β β' : Bmap} (h : Ext β β') (hg : GRel G β) : GRel G β' := fun g hl => by obtain ⟨r, hr⟩ := hg g hl; exact ⟨r, h _ _ hr⟩
theorem undef_rel (β : Bmap) : VRel β undefA undef := ⟨[], by simp [LRel], rfl⟩
theorem ev_rel {β : Bmap} {tm : Tr AV} {a : Array Value} (h : TRel β tm a) (t : Nat) : VRel β (ev tm (.tmp t)) (a.getD t undef) := h t
theorem rnd_rel {G : Nat} {β : Bmap} {tm : Tr AV} {a : Act} (hG : GRel G β) (ht : TRel β tm a.tmps) {x : Operand} {r : Rnd} (h : rnd G x = some r) : VRel β (ev tm r) (a.eval x) := by
  cases x with
  | tmp t => simp only [rnd, Option.some.injEq] at h; subst h; exact ev_rel ht t
  | const v =>
    simp only [rnd] at h
    split at h
    · rename_i b hb; cases h; exact avOf_rel hb
    · cases h
  | global g =>
    simp only [rnd] at h
    split at h
    · rename_i hg; cases h; obtain ⟨r, hr⟩ := hG g hg; exact ⟨_, hr, by simp [Act.eval]⟩
    · cases h
  | func f =>
    simp only [rnd, Option.some.injEq] at h; subst h
    exact ⟨[], [], by simp [LRel], by simp [LRel], rfl⟩
theorem rndL_rel {G : Nat} {β : Bmap} {tm : Tr AV} {a : Act} (hG : GRel G β) (ht : TRel β tm a.tmps) : ∀ {l : List Operand} {r : List Rnd}, rndL G l = some r → LRel β (evL tm r) (l.map a.eval)
  | [], r, h => by simp only [rndL, Option.some.injEq] at h; subst h; simp [evL, LRel]
  | x :: l, r, h => by
    simp only [rndL] at h
    split at h
    · rename_i y ys hy hys; cases h
      simp only [evL, LRel, List.map_cons]
      exact ⟨_, _, rfl, rnd_rel hG ht hy, rndL_rel hG ht hys⟩
    · cases h
structure TIok (P : Program) (t : Nat) (i : TI) : Prop where
  und : P.underlying t = some i.und
  info : ∃ info, P.info? t = some info ∧ info.size = i.size ∧ info.bytes = i.bytes ∧ ∃ z, info.zero = some z ∧ VRel (fun _ => none) i.zero z
  cells : i.zero.cells.length = i.size
  held : i.plain = true → P.stoodInHeld t = false
  guard : i.plain = true → P.eqGuardType P.depth t = false
def TTok (P : Program) (tt : TT) : Prop := ∀ t i, tt t = some i → TIok P t i
theorem ext_none (β : Bmap) : Ext (fun _ => none) β := fun _ _ h => by cases h
section
variable {P : Program}
theorem TIok.run_und {t : Nat} {i : TI} (h : TIok P t i) (w : World) : (underlying t).run P w = .ok i.und w := by simp [underlying, h.und]
theorem TIok.run_size {t : Nat} {i : TI} (h : TIok P t i) (w : World) : (sizeOf t).run P w = .ok i.size w := by
  obtain ⟨info, h1, h2, h3, z, h4, h5⟩ := h.info; simp [sizeOf, typeInfo, h1, h2]
theorem TIok.run_zero {t : Nat} {i : TI} (h : TIok P t i) (β : Bmap) : ∃ z, VRel β i.zero z ∧ z.cells.size = i.size ∧ ∀ w, (zeroValue t).run P w = .ok z w := by
  obtain ⟨info, h1, h2, h3, z, h4, h5⟩ := h.info
  have h6 := h5.mono (ext_none β)
  exact ⟨z, h6, by have := h6.cells.length; rw [h.cells] at this; simpa using this, fun w => by simp [zeroValue, typeInfo, h1, h4]⟩
theorem TIok.run_agg {t : Nat} {i : TI} (h : TIok P t i) (w : World) : (isAgg t).run P w = .ok i.agg w := by
  simp only [isAgg, Sem.run_bind, h.run_und, Result.andThen_ok, TI.agg]
  cases i.und <;> rfl
theorem TIok.run_info {t : Nat} {i : TI} (h : TIok P t i) : ∃ info, info.bytes = i.bytes ∧ info.size = i.size ∧ ∀ w, (typeInfo t).run P w = .ok info w := by
  obtain ⟨info, h1, h2, h3, _⟩ := h.info; exact ⟨info, h3, h2, fun w => by simp [typeInfo, h1]⟩
end
def Done (r : Result Next) (v' : Value) (w' : World) : Prop := r = .ok (.value v') w' ∨ (v' = undef ∧ r = .ok .skip w')
variable [cx : Cx]
def Does (P : Program) (s : Sem Next) (β : Bmap) (st : St) (w : World) (v : AV) (st' : St) : Prop :=
  ∃ β' v' w', Done (s.run P w) v' w' ∧ VRel β' v v' ∧ Post β st w β' st' w'
theorem Does.of {P : Program} {s : Sem Value} {β β' : Bmap} {st st' : St} {w w' : World} {v : AV} {v' : Value} (h : s.run P w = .ok v' w') (hv : VRel β' v v') (hp : Post β st w β' st' w') :
    Does P (do pure (Next.value (← s))) β st w v st' :=
  ⟨β', v', w', .inl (by simp only [Sem.run_bind, h, Result.andThen_ok, Sem.run_pure]), hv, hp⟩
theorem Does.ofU {P : Program} {s : Sem Unit} {β β' : Bmap} {st st' : St} {w w' : World} (h : s.run P w = .ok () w') (hp : Post β st w β' st' w') :
    Does P (do s; pure Next.skip) β st w undefA st' :=
  ⟨β', undef, w', .inr ⟨rfl, by simp only [Sem.run_bind, h, Result.andThen_ok, Sem.run_pure]⟩, undef_rel _, hp⟩
theorem Does.same {P : Program} {s : Sem Value} {β : Bmap} {st : St} {w : World} {v : AV} {v' : Value} (hr : Rel β st w) (h : s.run P w = .ok v' w) (hv : VRel β v v') :
    Does P (do pure (Next.value (← s))) β st w v st := Does.of h hv (Post.refl hr)
section
variable {P : Program} {β : Bmap} {st : St} {w : World} (hr : Rel β st w)
include hr
theorem s_alloc {e : Nat} {ti : TI} (hi : TIok P e ti) : Does P (do pure (Next.value (← Instr.alloc e true (.tuple #[])))) β st w (.ptr st.next 0) (newCells st e ti.zero.cells) := by
  obtain ⟨z, hz, hzs, hrun⟩ := hi.run_zero β
  have hp := hr.allocCells e ti.zero.cells z.cells.toList hz.cells []
  refine Does.of (w' := w.alloc (.cells z.cells e)) (v' := .pointer (some ⟨w.heap.size, 0, none⟩)) ?_ ⟨_, Bmap.add_same _ _ _, rfl⟩ (by simpa [newCells] using hp)
  simp [Instr.alloc, hrun, newVar, newRow]
theorem s_box {e : Nat} {a : AV} {x : Value} (hx : VRel β a x) : Does P (do pure (Next.value (← Instr.box e x))) β st w (.ptr st.next 0) (newCells st e a.cells) := by
  have hp := hr.allocCells e a.cells x.cells.toList hx.cells []
  refine Does.of (w' := w.alloc (.cells x.cells e)) (v' := .pointer (some ⟨w.heap.size, 0, none⟩)) ?_ ⟨_, Bmap.add_same _ _ _, rfl⟩ (by simpa [newCells] using hp)
  simp [Instr.box, newVar, newRow]
theorem s_load1 {t b off : Nat} {ti : TI} (hi : TIok P t ti) (hagg : ti.agg = false) {x : Value} (hx : VRel β (.ptr b off) x) {v : AV} (h : st.rd b off = some v) :
    Does P (do pure (Next.value (← Instr.loadAt t x))) β st w v st := by
  obtain ⟨im, hb, rfl⟩ := hx
  obtain ⟨y, hy, hv⟩ := hr.rd h hb
  refine Does.same hr ?_ hv
  simp [Instr.loadAt, Instr.sureAddr, loadVar, hi.run_agg, hagg, hy]
theorem s_loadN {t b off : Nat} {ti : TI} (hi : TIok P t ti) (hagg : ti.agg = true) {x : Value} (hx : VRel β (.ptr b off) x) {v : List AV} (h : st.rdN b off ti.size = some v) :
    Does P (do pure (Next.value (← Instr.loadAt t x))) β st w (.agg v) st := by
  obtain ⟨im, hb, rfl⟩ := hx
  obtain ⟨cs, h1, h2, h3⟩ := hr.rdN h hb
  refine Does.same hr (v' := .agg cs.toArray) ?_ ⟨cs, h2, rfl⟩
  have hl := run_loadCells_list (P := P) (w := w) ⟨im.blk, im.off + off, none⟩ cs (fun j v hj => by rw [addr_add]; exact h3 j v hj)
  rw [h1] at hl
  simp [Instr.loadAt, Instr.sureAddr, loadVar, hi.run_agg, hi.run_size, hagg, hl]
theorem s_store {t b off : Nat} {ti : TI} (hi : TIok P t ti) {x y : Value} {a : AV} (hx : VRel β (.ptr b off) x) (hy : VRel β a y) (hlen : a.cells.length = ti.size) {st' : St} (h : st.wrL b off a.cells = some st') :
    Does P (do Instr.storeAt t x y; pure Next.skip) β st w undefA st' := by
  obtain ⟨im, hb, rfl⟩ := hx
  obtain ⟨w', h1, h2⟩ := Rel.wrL (P := P) (off := off) (j := 0) hr h hb hy.cells rfl
  refine Does.ofU ?_ h2
  have := hy.cells.length
  have hs : y.cells.size = ti.size := by simpa [hlen] using this
  simp [Instr.storeAt, Instr.sureAddr, storeVar, hi.run_size, hs]
  exact h1
end
end Go.RI
namespace Go.RI
theorem foldl_splice : ∀ (l : List Value) (k off : Nat) (cs : Array Value), off + k + l.length ≤ cs.size →
    ((l.zipIdx k).foldl (fun (cs : Array Value) (p : Value × Nat) => cs.setIfInBounds (off + p.2) p.1) cs).toList = cs.toList.take (off + k) ++ l ++ cs.toList.drop (off + k + l.length)
  | [], k, off, cs, h => by simp
  | v :: l, k, off, cs, h => by
    simp only [List.length_cons] at h
    simp only [List.zipIdx_cons, List.foldl_cons]
    rw [foldl_splice l (k + 1) off _ (by simp; omega)]
    have hlt : off + k < cs.toList.length := by simp; omega
    simp only [Array.toList_setIfInBounds, List.length_cons]
    have e1 : List.take (off + (k + 1)) (cs.toList.set (off + k) v) = cs.toList.take (off + k) ++ [v] := by
      rw [← Nat.add_assoc, List.take_add_one]
      rw [List.take_set_of_le (by omega), List.getElem?_set, if_pos rfl, if_pos hlt]; rfl
    have e2 : List.drop (off + (k + 1) + l.length) (cs.toList.set (off + k) v) = cs.toList.drop (off + k + (l.length + 1)) := by
      rw [List.drop_set_of_lt (by omega)]; congr 1; omega
    rw [e1, e2]; simp
theorem fill_rel {β : Bmap} {tm : Tr AV} {ρ : Operand → Value} (place : Nat → Option (Nat × Nat)) : ∀ (parts : List (Nat × Operand)) (ps : List (Nat × Nat × Rnd)) (cells : List AV) (c : Array Value) (r : List AV),
    LRel β cells c.toList → fillA cells tm ps = some r →
    (∀ (i : Nat) (p : Nat × Operand), parts[i]? = some p → ∃ off size rn, ps[i]? = some (off, size, rn) ∧ place p.1 = some (off, size) ∧ VRel β (ev tm rn) (ρ p.2)) → parts.length = ps.length →
    ∃ c' : Array Value, Instr.fill place c (parts.map fun p => (p.1, ρ p.2)) = some c' ∧ LRel β r c'.toList
  | [], [], cells, c, r, hl, h, _, _ => by simp only [fillA, Option.some.injEq] at h; subst h; exact ⟨c, rfl, hl⟩
  | [], _ :: _, _, _, _, _, _, _, hlen => by simp at hlen
  | _ :: _, [], _, _, _, _, _, _, hlen => by simp at hlen
  | (i, x) :: parts, (off, size, rn) :: ps, cells, c, r, hl, h, hp, hlen => by
    simp only [fillA] at h
    split at h
    case h_2 => cases h
    rename_i h1 h2
    have h1 := Nat.eq_of_beq_eq_true h1
    have h2 := Nat.le_of_ble_eq_true h2
    obtain ⟨off', size', rn', e1, e2, e3⟩ := hp 0 (i, x) (by simp)
    simp only [List.getElem?_cons_zero, Option.some.injEq, Prod.mk.injEq] at e1
    obtain ⟨rfl, rfl, rfl⟩ := e1
    have hc := e3.cells
    have hcl := hc.length
    have hcl2 := hl.length
    have hsz : (ρ x).cells.size = size := by simpa [h1] using hcl
    have hcs : off + size ≤ c.size := by simp at hcl2; omega
    have hspl := foldl_splice (ρ x).cells.toList 0 off c (by simp [hsz]; omega)
    simp only [Nat.add_zero] at hspl
    have hl' : LRel β (cells.take off ++ (ev tm rn).cells ++ cells.drop (off + size)) ((ρ x).cells.zipIdx.foldl (fun (cs : Array Value) (p : Value × Nat) => cs.setIfInBounds (off + p.2) p.1) c).toList := by
      have : ((ρ x).cells.zipIdx.foldl (fun (cs : Array Value) (p : Value × Nat) => cs.setIfInBounds (off + p.2) p.1) c) = (((ρ x).cells.toList.zipIdx 0).foldl (fun (cs : Array Value) (p : Value × Nat) => cs.setIfInBounds (off + p.2) p.1) c) := by
        rw [← Array.foldl_toList]; simp
      rw [this, hspl]
      have : (ρ x).cells.toList.length = size := by simpa using hsz
      rw [this]
      exact ((hl.take off).append hc).append (hl.drop (off + size))
    obtain ⟨c', g1, g2⟩ := fill_rel place parts ps _ _ r hl' h (fun j p hj => by
      obtain ⟨o, s, q, q1, q2, q3⟩ := hp (j + 1) p (by simpa using hj)
      exact ⟨o, s, q, by simpa using q1, q2, q3⟩) (by simpa using hlen)
    refine ⟨c', ?_, g2⟩
    simp only [List.map_cons, Instr.fill, e2]
    rw [if_neg (by simp [hsz]; omega)]
    exact g1
theorem arr_map_toList (parts : Array (Nat × Operand)) (ρ : Operand → Value) : (parts.map fun (i, x) => (i, ρ x)).toList = parts.toList.map fun p => (p.1, ρ p.2) := by simp
variable [cx : Cx]
section
variable {P : Program} {β : Bmap} {st : St} {w : World} (hr : Rel β st w)
include hr
omit cx hr in
theorem mapM_sizes {tt : TT} (hT : TTok P tt) (fields : List Field) (h : ∀ f ∈ fields, ∃ i, tt f.type = some i) :
    ∃ r : List (Nat × Nat), (fields.mapM fun f => (do pure (f.offset, ← sizeOf f.type) : Sem (Nat × Nat))).run P w = .ok r w ∧ r.length = fields.length ∧
      ∀ (k : Nat) (f : Field), fields[k]? = some f → ∀ i, tt f.type = some i → r[k]? = some (f.offset, i.size) := by
  induction fields with
  | nil => exact ⟨[], by simp, rfl, fun k f hf => by simp at hf⟩
  | cons f fs ih =>
    obtain ⟨r, h1, h2, h3⟩ := ih (fun g hg => h g (List.mem_cons_of_mem _ hg))
    obtain ⟨i, hi⟩ := h f (by simp)
    refine ⟨(f.offset, i.size) :: r, ?_, by simp [h2], fun k g hg j hj => ?_⟩
    · simp only [List.mapM_cons, Sem.run_bind, (hT _ _ hi).run_size, Result.andThen_ok, Sem.run_pure, h1]
    · cases k with
      | zero => simp at hg; subst hg; rw [hi] at hj; cases hj; simp
      | succ k => simp at hg ⊢; exact h3 k g hg j hj
theorem s_buildS {tt : TT} (hT : TTok P tt) {t : Nat} {ti : TI} (hi : TIok P t ti) {fields : Array Field} (hu : ti.und = .struct fields) (hf : ∀ f ∈ fields.toList, ∃ i, tt f.type = some i)
    {parts : Array (Nat × Operand)} {ps : List (Nat × Nat × Rnd)} {tm : Tr AV} {ρ : Operand → Value} {r : List AV} (h : fillA ti.zero.cells tm ps = some r)
    (hp : ∀ (i : Nat) (p : Nat × Operand), parts.toList[i]? = some p → ∃ off size rn f fi, ps[i]? = some (off, size, rn) ∧ fields[p.1]? = some f ∧ tt f.type = some fi ∧ off = f.offset ∧ size = fi.size ∧ VRel β (ev tm rn) (ρ p.2))
    (hlen : parts.toList.length = ps.length) :
    Does P (do pure (Next.value (← Instr.build t (parts.map fun (i, x) => (i, ρ x))))) β st w (.agg r) st := by
  obtain ⟨z, hz, hzs, hzr⟩ := hi.run_zero β
  obtain ⟨pl, p1, p2, p3⟩ := mapM_sizes (w := w) hT fields.toList hf
  obtain ⟨c', g1, g2⟩ := fill_rel (ρ := ρ) (pl.toArray[·]?) parts.toList ps ti.zero.cells z.cells r hz.cells h (fun i p hip => by
    obtain ⟨off, size, rn, f, fi, q1, q2, q3, q4, q5, q6⟩ := hp i p hip
    refine ⟨off, size, rn, q1, ?_, q6⟩
    have := p3 p.1 f (by simpa using q2) fi q3
    subst q4 q5; simpa using this) hlen
  refine Does.same hr (v' := .agg c') ?_ ⟨c'.toList, g2, by simp⟩
  have hm : (fields.mapM fun f => (do pure (f.offset, ← sizeOf f.type) : Sem (Nat × Nat))).run P w = .ok pl.toArray w := by
    rw [Array.mapM_eq_mapM_toList]
    simp only [Sem.run_map, p1, Result.andThen_ok]
  simp only [Instr.build, Sem.run_bind, hzr, hi.run_und, hu, Result.andThen_ok, hm, arr_map_toList, g1, Sem.run_pure]
theorem s_buildA {t : Nat} {ti : TI} (hi : TIok P t ti) {n e : Nat} (hu : ti.und = .array n e) {ei : TI} (he : TIok P e ei)
    {parts : Array (Nat × Operand)} {ps : List (Nat × Nat × Rnd)} {tm : Tr AV} {ρ : Operand → Value} {r : List AV} (h : fillA ti.zero.cells tm ps = some r)
    (hp : ∀ (i : Nat) (p : Nat × Operand), parts.toList[i]? = some p → ∃ rn, ps[i]? = some (p.1 * ei.size, ei.size, rn) ∧ VRel β (ev tm rn) (ρ p.2))
    (hlen : parts.toList.length = ps.length) :
    Does P (do pure (Next.value (← Instr.build t (parts.map fun (i, x) => (i, ρ x))))) β st w (.agg r) st := by
  obtain ⟨z, hz, hzs, hzr⟩ := hi.run_zero β
  obtain ⟨c', g1, g2⟩ := fill_rel (ρ := ρ) (fun i => some (i * ei.size, ei.size)) parts.toList ps ti.zero.cells z.cells r hz.cells h (fun i p hip => by
    obtain ⟨rn, q1, q2⟩ := hp i p hip
    exact ⟨_, _, rn, q1, rfl, q2⟩) hlen
  refine Does.same hr (v' := .agg c') ?_ ⟨c'.toList, g2, by simp⟩
  simp only [Instr.build, Sem.run_bind, hzr, hi.run_und, hu, Result.andThen_ok, he.run_size, arr_map_toList, g1, Sem.run_pure]
omit cx hr in
theorem range_zero (z : Array Value) (s n : Nat) (hs : z.size = s) : (((Array.range (n * s)).map (z[· % z.size]!)).toList) = (List.replicate n z.toList).flatten := by
  subst hs
  apply List.ext_getElem?
  intro i
  simp only [Array.toList_map, Array.toList_range, List.getElem?_map]
  by_cases hi : i < n * z.size
  · have hz : 0 < z.size := by rcases Nat.eq_zero_or_pos z.size with h | h
                               · rw [h] at hi; simp at hi
                               · exact h
    rw [List.getElem?_range hi]
    simp only [Option.map_some]
    have : i % z.size < z.size := Nat.mod_lt _ hz
    induction n generalizing i with
    | zero => simp at hi
    | succ n ih =>
      simp only [List.replicate_succ, List.flatten_cons]
      by_cases hlt : i < z.size
      · rw [List.getElem?_append_left (by simpa using hlt)]
        simp [Nat.mod_eq_of_lt hlt, hlt]
      · rw [List.getElem?_append_right (by simp; omega)]
        have hlt' : i - z.size < n * z.size := by rw [Nat.succ_mul] at hi; omega
        have := ih (i - z.size) hlt' (Nat.mod_lt _ hz)
        simp only [Array.length_toList]
        rw [← this, Nat.mod_eq_sub_mod (by omega : i ≥ z.size)]
  · rw [List.getElem?_eq_none (by simpa using Nat.le_of_not_lt hi), List.getElem?_eq_none]
    · rfl
    · simp only [List.length_flatten, List.map_replicate, List.sum_replicate_nat, Array.length_toList]; omega
omit cx hr in
theorem LRel.replicate {β : Bmap} {l : List AV} {c : List Value} (h : LRel β l c) : ∀ n : Nat, LRel β (List.replicate n l).flatten (List.replicate n c).flatten
  | 0 => by simp [LRel]
  | n + 1 => by simp only [List.replicate_succ, List.flatten_cons]; exact h.append (LRel.replicate h n)
theorem s_buildSlice {t e len : Nat} {ti ei : TI} (hi : TIok P t ti) (hu : ti.und = .slice e) (he : TIok P e ei) (hsz : ¬ len * ei.size > 2 ^ 24)
    {parts : Array (Nat × Operand)} {ps : List (Nat × Nat × Rnd)} {tm : Tr AV} {ρ : Operand → Value} {r : List AV} (h : fillA (List.replicate len ei.zero.cells).flatten tm ps = some r)
    (hp : ∀ (i : Nat) (p : Nat × Operand), parts.toList[i]? = some p → ∃ rn, ps[i]? = some (p.1 * ei.size, ei.size, rn) ∧ VRel β (ev tm rn) (ρ p.2))
    (hlen : parts.toList.length = ps.length) :
    Does P (do pure (Next.value (← Instr.buildSlice t len (parts.map fun (i, x) => (i, ρ x))))) β st w (.slice st.next 0 len len ei.size) (newCells st e r) := by
  obtain ⟨z, hz, hzs, hzr⟩ := he.run_zero β
  have hzl := hz.cells
  have hc0 : LRel β (List.replicate len ei.zero.cells).flatten ((Array.range (len * ei.size)).map (z.cells[· % z.cells.size]!)).toList := by
    rw [range_zero z.cells ei.size len hzs]; exact hzl.replicate len
  obtain ⟨c', g1, g2⟩ := fill_rel (ρ := ρ) (fun i => some (i * ei.size, ei.size)) parts.toList ps _ _ r hc0 h (fun i p hip => by
    obtain ⟨rn, q1, q2⟩ := hp i p hip
    exact ⟨_, _, rn, q1, rfl, q2⟩) hlen
  have hp := hr.allocCells e r c'.toList g2 []
  have hlen' : len * ei.size ≤ c'.size := by
    have key : ∀ (ps : List (Nat × Nat × Rnd)) (cells r : List AV), fillA cells tm ps = some r → r.length = cells.length := by
      intro ps
      induction ps with
      | nil => intro cells r h; simp only [fillA, Option.some.injEq] at h; subst h; rfl
      | cons p ps ih =>
        obtain ⟨off, size, rn⟩ := p
        intro cells r h
        simp only [fillA] at h
        split at h
        · rename_i h1 h2
          have h1 := Nat.eq_of_beq_eq_true h1
          have h2 := Nat.le_of_ble_eq_true h2
          rw [ih _ _ h]; simp [h1]; omega
        · cases h
    have h1 := key _ _ _ h
    have h2 := g2.length
    have h3 := hc0.length
    simp at h1 h2 h3; omega
  refine Does.of (w' := w.alloc (.cells c' e)) (v' := .slice (some ⟨w.heap.size, 0, none⟩) len len) ?_ ⟨⟨w.heap.size, 0, c'.toList.length + ([] : List Value).length⟩, Bmap.add_same _ _ _, len, _, rfl, .inl rfl, Nat.le_refl _, Nat.le_refl _, by simpa using hlen'⟩ (by simpa [newCells] using hp)
  simp only [Instr.buildSlice, Sem.run_bind, hi.run_und, hu, Result.andThen_ok, he.run_size, hsz, if_false, Sem.run_pure]
  by_cases h0 : len * ei.size = 0
  · have e0 : ∀ f : Nat → Value, Array.map f (Array.range (len * ei.size)) = #[] := fun f => by rw [h0]; simp
    rw [e0] at g1
    simp only [e0]
    simp only [h0, if_true, Sem.run_pure, Result.andThen_ok, Sem.run_bind]
    simp only [arr_map_toList, g1, Sem.run_bind, newRow, run_newObj, Result.andThen_ok, Sem.run_pure]
    rfl
  · simp only [h0, if_false, hzr, Sem.run_bind, Sem.run_pure, Result.andThen_ok]
    simp only [arr_map_toList, g1, Sem.run_bind, newRow, run_newObj, Result.andThen_ok, Sem.run_pure]
    rfl
end
end Go.RI
namespace Go.RI
theorem u8_toNat_inj {a b : UInt8} (h : a.toNat = b.toNat) : a = b := UInt8.toNat_inj.1 h
theorem eqL_spec : ∀ (a b : List UInt8), eqL (a.map UInt8.toNat) (b.map UInt8.toNat) = (a == b)
  | [], [] => rfl
  | [], _ :: _ => rfl
  | _ :: _, [] => rfl
  | x :: a, y :: b => by
    simp only [List.map_cons, eqL]
    cases h : Nat.beq x.toNat y.toNat with
    | true =>
      have := u8_toNat_inj (Nat.eq_of_beq_eq_true h); subst this
      simp [eqL_spec a b]
    | false =>
      have : x ≠ y := fun e => by subst e; rw [Nat.beq_refl] at h; cases h
      simp [this]
theorem bytesLt_spec : ∀ (a b : List UInt8), bytesLt (a.map UInt8.toNat) (b.map UInt8.toNat) = Op.bytesLess a b
  | [], [] => rfl
  | [], _ :: _ => rfl
  | _ :: _, [] => rfl
  | x :: a, y :: b => by
    simp only [List.map_cons, bytesLt, Op.bytesLess]
    cases h : Nat.blt x.toNat y.toNat with
    | true =>
      have : x < y := UInt8.lt_iff_toNat_lt.2 (Nat.le_of_ble_eq_true h)
      simp [this]
    | false =>
      have : ¬ x < y := fun e => by
        have := UInt8.lt_iff_toNat_lt.1 e
        have : Nat.blt x.toNat y.toNat = true := Nat.ble_eq_true_of_le this
        rw [h] at this; cases this
      simp only [this, decide_false, Bool.false_or]
      cases h2 : Nat.beq x.toNat y.toNat with
      | true =>
        have := u8_toNat_inj (Nat.eq_of_beq_eq_true h2); subst this
        simp [bytesLt_spec a b]
      | false =>
        have : x ≠ y := fun e => by subst e; rw [Nat.beq_refl] at h2; cases h2
        simp [this]
section
variable {P : Program} {β : Bmap} {w : World}
theorem s_num {op : BinOp} {t : TypeId} {a b r : AV} {x y : Value} (h : numA op a b = some r) (hx : VRel β a x) (hy : VRel β b y) :
    ∃ v, (binOp op t x y).run P w = .ok v w ∧ VRel β r v := by
  unfold numA at h
  split at h
  · rename_i k m k' n
    cases hx; cases hy
    cases op <;> simp only [ibin] at h
    case shl =>
      split at h
      · cases h
      · rename_i hn; cases h; exact ⟨_, by simp [binOp, Op.shift, hn], rfl⟩
    case shr =>
      split at h
      · cases h
      · rename_i hn; cases h; exact ⟨_, by simp [binOp, Op.shift, hn], rfl⟩
    all_goals
      split at h
      case isFalse => cases h
      rename_i hk; subst hk
      first
        | (cases h; exact ⟨_, by simp [binOp, Op.intArith, Op.intBits, Op.intCmp], rfl⟩)
        | (split at h
           · cases h
           · rename_i h0; cases h; exact ⟨_, by simp [binOp, Op.intDiv, h0], rfl⟩)
  · obtain ⟨A, rfl, rfl⟩ := hx
    obtain ⟨B, rfl, rfl⟩ := hy
    cases op <;> simp only [sbin, eqL_spec, bytesLt_spec] at h <;> first
      | (cases h; refine ⟨.bool _, ?_, rfl⟩; simp [binOp, Op.stringOp, ByteArray.toList_eq]; done)
      | cases h
      | skip
    case add =>
      split at h
      · rename_i hle
        cases h
        have hle := Nat.le_of_ble_eq_true hle
        simp only [List.length_map, Array.length_toList] at hle
        have h1 : A.size = A.data.size := rfl
        have h2 : B.size = B.data.size := rfl
        refine ⟨.string (A ++ B), ?_, A ++ B, rfl, by simp [ByteArray.data_append]⟩
        simp only [binOp, Op.stringOp]
        rw [if_neg]
        · rfl
        · have : (IntKind.i64.max : Int) = 9223372036854775807 := by decide
          rw [this]; omega
      · cases h
  · cases h
theorem natOf_spec {a : AV} {n : Nat} {x : Value} (h : natOf a = some n) (hx : VRel β a x) : ∃ k, x = .int k (n : Int) := by
  unfold natOf at h
  split at h
  · cases h; cases hx; exact ⟨_, rfl⟩
  · cases h
theorem s_un {op : UnOp} {a r : AV} {x : Value} (h : unA op a = some r) (hx : VRel β a x) : ∃ v, (Op.unary op x).run P w = .ok v w ∧ VRel β r v := by
  unfold unA at h
  split at h
  · cases h; cases hx; exact ⟨_, rfl, rfl⟩
  · cases h; cases hx; exact ⟨_, rfl, rfl⟩
  · cases h; cases hx; exact ⟨_, rfl, rfl⟩
  · cases h
theorem run_bound (x : Value) (n y : Nat) (k : IntKind) (hx : x = .int k (n : Int)) (h : n ≤ y) (code : BoundsCode) : (Instr.sliceBound x y code).run P w = .ok n w := by
  subst hx
  simp only [Instr.sliceBound, asIntOf, Sem.run_bind, Sem.run_pure, Result.andThen_ok]
  rw [if_pos ⟨by omega, by omega⟩]; simp
def ORnd (β : Bmap) (tm : Tr AV) (ρ : Operand → Value) : Option Rnd → Option Operand → Prop
  | none, o => o = none
  | some r, o => ∃ x, o = some x ∧ VRel β (ev tm r) (ρ x)
theorem opt_bound {tm : Tr AV} {ρ : Operand → Value} {r : Option Rnd} {o : Option Operand} (h : ORnd β tm ρ r o) {d n : Nat} (hn : optNat tm d r = some n) :
    (o.map ρ = none ∧ n = d) ∨ ∃ v, o.map ρ = some v ∧ ∀ (y : Nat) (code : BoundsCode), n ≤ y → (Instr.sliceBound v y code).run P w = .ok n w := by
  cases r with
  | none => simp only [ORnd] at h; subst h; simp only [optNat, Option.some.injEq] at hn; exact .inl ⟨rfl, hn.symm⟩
  | some r =>
    obtain ⟨y, rfl, hy⟩ := h
    obtain ⟨k, hk⟩ := natOf_spec hn hy
    exact .inr ⟨_, rfl, fun y code hle => run_bound _ _ _ k hk hle _⟩
theorem run_bounds {tm : Tr AV} {ρ : Operand → Value} {lo hi : Option Rnd} {olo ohi : Option Operand} (h1 : ORnd β tm ρ lo olo) (h2 : ORnd β tm ρ hi ohi) {len cap l h : Nat} (sl : Bool)
    (hl : optNat tm 0 lo = some l) (hh : optNat tm len hi = some h) (hlh : l ≤ h) (hhs : h ≤ cap) : (Instr.sliceBounds sl len cap (olo.map ρ) (ohi.map ρ) none).run P w = .ok (l, h, cap) w := by
  rcases opt_bound (P := P) (w := w) h1 hl with ⟨a1, a2⟩ | ⟨v1, a1, a2⟩ <;> rcases opt_bound (P := P) (w := w) h2 hh with ⟨b1, b2⟩ | ⟨v2, b1, b2⟩ <;>
    first | (subst b2; simp [Instr.sliceBounds, a1, a2, b1, hlh, hhs]; done) | simp [Instr.sliceBounds, a1, a2, b1, b2, hlh, hhs]
theorem s_cutStr {t : Nat} {ti : TI} (hi : TIok P t ti) (hu : ti.und = .string) {tm : Tr AV} {ρ : Operand → Value} {s : List Nat} {x : Value} (hx : VRel β (.str s) x) {lo hi' : Option Rnd} {olo ohi : Option Operand}
    (h1 : ORnd β tm ρ lo olo) (h2 : ORnd β tm ρ hi' ohi) {l h : Nat} (hl : optNat tm 0 lo = some l) (hh : optNat tm s.length hi' = some h) (hlh : l ≤ h) (hhs : h ≤ s.length) :
    ∃ v, (Instr.sliceAt t x (olo.map ρ) (ohi.map ρ) none).run P w = .ok v w ∧ VRel β (.str ((s.drop l).take (h - l))) v := by
  obtain ⟨B, rfl, rfl⟩ := hx
  simp only [List.length_map, Array.length_toList] at hh hhs
  have hsz : B.size = B.data.size := rfl
  have hb := run_bounds (P := P) (w := w) (cap := B.size) h1 h2 false hl hh hlh hhs
  refine ⟨.string (B.extract l h), ?_, _, rfl, ?_⟩
  · simp only [Instr.sliceAt, Instr.slice, Sem.run_bind, hi.run_und, hu, Result.andThen_ok, Option.isSome_none, Bool.false_eq_true, if_false, Sem.run_pure]
    rw [← hsz] at hb
    simp only [hb, Result.andThen_ok]
  · simp [ByteArray.data_extract, List.map_take, List.map_drop]
end
end Go.RI
namespace Go.RI
theorem plainFields_cons {tt : TT} {f : Field} {l : List Field} {i : Nat} {ks : List Bool} (h : plainFields tt (f :: l) i = some ks) :
    f.offset = i ∧ f.name ≠ "_" ∧ ∃ ti k ks', tt f.type = some ti ∧ ks = k :: ks' ∧ plainFields tt l (i + 1) = some ks' ∧ ti.size = 1 ∧ (k = true → ∃ j, ti.und = .int j) ∧ (k = false → ti.und = .string) := by
  simp only [plainFields] at h
  split at h
  · rename_i hc
    simp only [Bool.and_eq_true, beq_iff_eq, bne_iff_ne, ne_eq] at hc
    split at h
    · rename_i ti ks' h1 h2
      split at h
      · rename_i hs
        split at h
        · rename_i j hu; cases h; exact ⟨hc.1, hc.2, ti, true, ks', h1, rfl, h2, by simpa using hs, fun _ => ⟨j, hu⟩, fun h => by cases h⟩
        · rename_i hu; cases h; exact ⟨hc.1, hc.2, ti, false, ks', h1, rfl, h2, by simpa using hs, fun h => (by cases h), fun _ => hu⟩
        · cases h
      · cases h
    · cases h
  · cases h
theorem lenIs_spec {α : Type} : ∀ {l : List α} {ks : List Bool}, lenIs l ks = true → l.length = ks.length
  | [], [], _ => rfl
  | [], _ :: _, h => by simp [lenIs] at h
  | _ :: _, [], h => by simp [lenIs] at h
  | _ :: l, _ :: ks, h => by simp only [lenIs] at h; simp [lenIs_spec h]
theorem plainFields_length {tt : TT} : ∀ {l : List Field} {i : Nat} {ks : List Bool}, plainFields tt l i = some ks → l.length = ks.length
  | [], _, ks, h => by simp only [plainFields, Option.some.injEq] at h; subst h; rfl
  | f :: l, i, ks, h => by
    obtain ⟨_, _, ti, k, ks', _, rfl, h2, _⟩ := plainFields_cons h
    simp [plainFields_length h2]
section
variable {P : Program} {tt : TT} {β : Bmap} {w : World}
theorem s_eqFields (hT : TTok P tt) (d : Nat) (X Y : List Value) : ∀ (fs : List Field) (ks : List Bool) (i : Nat) (x y : List AV) (cx cy : List Value) (r : Bool), plainFields tt fs i = some ks → eqCells ks x y = some r → LRel β x cx → LRel β y cy →
    X.drop i = cx → Y.drop i = cy → (Op.eqFields (d + 1) X.toArray Y.toArray fs).run P w = .ok r w
  | [], ks, i, x, y, cx, cy, r, hp, h, hx, hy, eX, eY => by
    simp only [plainFields, Option.some.injEq] at hp; subst hp
    cases x <;> cases y <;> simp [eqCells] at h
    subst h; rfl
  | f :: fs, ks, i, x, y, cx, cy, r, hp, h, hx, hy, eX, eY => by
    obtain ⟨hoff, hname, ti, k, ks', hti, rfl, hrest, hsz, hk1, hk2⟩ := plainFields_cons hp
    cases x with
    | nil => cases k <;> simp [eqCells] at h
    | cons a x =>
    cases y with
    | nil => cases k <;> cases a <;> simp [eqCells] at h
    | cons b y =>
    simp only [LRel] at hx hy
    obtain ⟨va, ca, rfl, ha, hx⟩ := hx
    obtain ⟨vb, cb, rfl, hb, hy⟩ := hy
    have hXi : X[i]? = some va := by
      have := congrArg (fun l : List Value => l[0]?) eX; simpa using this
    have hYi : Y[i]? = some vb := by
      have := congrArg (fun l : List Value => l[0]?) eY; simpa using this
    have hX1 : X.drop (i + 1) = ca := by rw [← List.drop_drop, eX]; rfl
    have hY1 : Y.drop (i + 1) = cb := by rw [← List.drop_drop, eY]; rfl
    have hok := hT _ _ hti
    have hagg : ti.agg = false := by
      unfold TI.agg
      cases k with
      | true => obtain ⟨j, hj⟩ := hk1 rfl; rw [hj]
      | false => rw [hk2 rfl]
    have pX : (part f.type X.toArray f.offset).run P w = .ok va w := by rw [hoff]; simp [part, hok.run_agg, hagg, hXi]
    have pY : (part f.type Y.toArray f.offset).run P w = .ok vb w := by rw [hoff]; simp [part, hok.run_agg, hagg, hYi]
    have step : ∀ q : Bool, (Op.equalIn (d + 1) f.type va vb).run P w = .ok q w → (q = true → (Op.eqFields (d + 1) X.toArray Y.toArray fs).run P w = .ok r w) → (q = false → r = false) →
        (Op.eqFields (d + 1) X.toArray Y.toArray (f :: fs)).run P w = .ok r w := by
      intro q hq h1 h2
      simp only [Op.eqFields, if_pos hname, Sem.run_bind, pX, pY, hq, Result.andThen_ok]
      cases q with
      | true => simp only [Bool.not_true, Bool.false_eq_true, if_false]; exact h1 rfl
      | false => simp only [Bool.not_false, if_true, Sem.run_pure]; rw [h2 rfl]
    have ihr : eqCells ks' x y = some r → (Op.eqFields (d + 1) X.toArray Y.toArray fs).run P w = .ok r w := fun h' =>
      s_eqFields hT d X Y fs ks' (i + 1) x y ca cb r hrest h' hx hy hX1 hY1
    cases k with
    | true =>
      obtain ⟨j, hj⟩ := hk1 rfl
      cases a <;> cases b <;> simp only [eqCells] at h <;> try cases h
      rename_i k m k' n
      split at h
      · rename_i hk; subst hk
        cases ha; cases hb
        refine step (m == n) (run_equalIn_int w d _ _ j _ _ (by rw [hok.und, hj])) (fun hq => ?_) (fun hq => ?_)
        · rw [hq, if_pos rfl] at h; exact ihr h
        · rw [hq] at h; simp only [Bool.false_eq_true, if_false, Option.some.injEq] at h; exact h.symm
      · cases h
    | false =>
      have hj := hk2 rfl
      cases a <;> cases b <;> simp only [eqCells] at h <;> try cases h
      obtain ⟨A, rfl, rfl⟩ := ha
      obtain ⟨B, rfl, rfl⟩ := hb
      rw [eqL_spec] at h
      refine step (A.data.toList == B.data.toList) (by rw [run_equalIn_string w d _ _ _ (by rw [hok.und, hj]), ByteArray.toList_eq, ByteArray.toList_eq]) (fun hq => ?_) (fun hq => ?_)
      · rw [hq] at h; exact ihr h
      · rw [hq] at h; simp only [Option.some.injEq] at h; exact h.symm
end
def TagOk (P : Program) (tt : TT) (t : Nat) : BTag → Prop
  | .num => True
  | .bool => P.underlying t = some .bool
  | .ptr => ∃ e te, P.underlying t = some (.pointer e) ∧ tt e = some te ∧ te.size ≠ 0
  | .sl => ∃ e, P.underlying t = some (.slice e)
  | .mp => ∃ k e, P.underlying t = some (.map k e)
  | .fn => ∃ a b c, P.underlying t = some (.func a b c)
  | .ifc => ∃ ms, P.underlying t = some (.interface ms)
  | .st ks => ∃ fs : Array Field, P.underlying t = some (.struct fs) ∧ plainFields tt fs.toList 0 = some ks ∧ P.stoodInHeld t = false ∧ P.eqGuardType P.depth t = false
section
variable {P : Program} {tt : TT} {β : Bmap} {w : World}
theorem run_underlying' {t : TypeId} {d : TypeDesc} (h : P.underlying t = some d) (w : World) : (underlying t).run P w = .ok d w := by simp [underlying, h]
theorem s_eqIn (hT : TTok P tt) (e' d : Nat) (he' : d = e' + 1) {t : Nat} {g : BTag} (hg : TagOk P tt t g) {a b : AV} {r : Bool} (h : eqA g a b = some r) {x y : Value} (hx : VRel β a x) (hy : VRel β b y) :
    (Op.equalIn (d + 1) t x y).run P w = .ok r w := by
  unfold eqA at h
  split at h
  case h_2 => cases h; cases hx; cases hy; obtain ⟨e, te, hu, _, _⟩ := hg; simp [Op.equalIn, run_underlying' hu]
  case h_3 => cases h; cases hx; obtain ⟨im, hb, rfl⟩ := hy; obtain ⟨e, te, hu, _, _⟩ := hg; simp [Op.equalIn, run_underlying' hu]
  case h_4 => cases h; obtain ⟨im, hb, rfl⟩ := hx; cases hy; obtain ⟨e, te, hu, _, _⟩ := hg; simp [Op.equalIn, run_underlying' hu]
  case h_1 => cases h; cases hx; cases hy; simp [Op.equalIn, run_underlying' hg]
  case h_5 =>
    split at h
    · rename_i hab
      have hab := Nat.eq_of_beq_eq_true hab
      subst hab
      obtain ⟨im, hb, rfl⟩ := hx
      obtain ⟨im', hb', rfl⟩ := hy
      rw [hb] at hb'; cases hb'
      obtain ⟨e, te, hu, he, hne⟩ := hg
      cases h
      simp only [Op.equalIn, Sem.run_bind, run_underlying' hu, Result.andThen_ok, (hT _ _ he).run_size, hne, ne_eq, not_false_eq_true, if_true, sameAddr, beq_self_eq_true, Sem.run_pure]
      congr 1
      rw [Bool.eq_iff_iff]
      simp
    · cases h
  case h_6 => cases h; cases hx; cases hy; obtain ⟨e, hu⟩ := hg; simp [Op.equalIn, run_underlying' hu]
  case h_7 => cases h; cases hx; obtain ⟨im, hb, c, o, rfl, _⟩ := hy; obtain ⟨e, hu⟩ := hg; simp [Op.equalIn, run_underlying' hu]
  case h_8 => cases h; cases hy; obtain ⟨im, hb, c, o, rfl, _⟩ := hx; obtain ⟨e, hu⟩ := hg; simp [Op.equalIn, run_underlying' hu]
  case h_9 => cases h; cases hx; cases hy; obtain ⟨k, e, hu⟩ := hg; simp [Op.equalIn, run_underlying' hu]
  case h_10 => cases h; cases hx; obtain ⟨im, hb, rfl⟩ := hy; obtain ⟨k, e, hu⟩ := hg; simp [Op.equalIn, run_underlying' hu]
  case h_11 => cases h; cases hy; obtain ⟨im, hb, rfl⟩ := hx; obtain ⟨k, e, hu⟩ := hg; simp [Op.equalIn, run_underlying' hu]
  case h_12 => cases h; cases hx; cases hy; obtain ⟨k, e, c, hu⟩ := hg; simp [Op.equalIn, run_underlying' hu]
  case h_13 => cases h; cases hx; obtain ⟨f, c, _, _, rfl⟩ := hy; obtain ⟨k, e, c, hu⟩ := hg; simp [Op.equalIn, run_underlying' hu]
  case h_14 => cases h; cases hy; obtain ⟨f, c, _, _, rfl⟩ := hx; obtain ⟨k, e, c, hu⟩ := hg; simp [Op.equalIn, run_underlying' hu]
  case h_15 => cases h; cases hx; cases hy; obtain ⟨k, hu⟩ := hg; simp [Op.equalIn, run_underlying' hu]
  case h_16 => cases h; cases hx; obtain ⟨z, _, rfl⟩ := hy; obtain ⟨k, hu⟩ := hg; simp [Op.equalIn, run_underlying' hu]
  case h_17 => cases h; cases hy; obtain ⟨z, _, rfl⟩ := hx; obtain ⟨k, hu⟩ := hg; simp [Op.equalIn, run_underlying' hu]
  case h_18 =>
    split at h
    · obtain ⟨cx', hcx, rfl⟩ := hx
      obtain ⟨cy', hcy, rfl⟩ := hy
      obtain ⟨fs, hu, hp, hs, _⟩ := hg
      have hfo : P.fieldsOf t = fs := by simp [Program.fieldsOf, hu]
      subst he'
      rw [run_equalIn_struct w (e' + 1) t _ _ (by rw [hfo]; exact hu) hs, hfo]
      exact s_eqFields hT e' cx' cy' fs.toList _ 0 _ _ cx' cy' r hp h hcx hcy rfl rfl
    · cases h
  case h_19 => cases h
theorem s_eq (hT : TTok P tt) {t : Nat} {g : BTag} (hg : TagOk P tt t g) {a b : AV} {r : Bool} (h : eqA g a b = some r) {x y : Value} (hx : VRel β a x) (hy : VRel β b y) :
    (Op.equal t x y).run P w = .ok r w := s_eqIn hT 9998 9999 rfl hg h hx hy
def odd : Value → Bool
  | .int .. | .float .. | .complex .. | .string _ => false
  | _ => true
theorem eqA_odd {g : BTag} {a b : AV} {r : Bool} (h : eqA g a b = some r) {x y : Value} (hx : VRel β a x) (hy : VRel β b y) : odd x = true ∧ odd y = true := by
  unfold eqA at h
  split at h <;> first
    | (cases h; done)
    | (simp only [VRel] at hx hy
       constructor
       · first
         | (subst hx; rfl)
         | (obtain ⟨_, _, rfl⟩ := hx; rfl)
         | (obtain ⟨_, _, _, _, rfl, _⟩ := hx; rfl)
         | (obtain ⟨_, _, _, _, rfl⟩ := hx; rfl)
       · first
         | (subst hy; rfl)
         | (obtain ⟨_, _, rfl⟩ := hy; rfl)
         | (obtain ⟨_, _, _, _, rfl, _⟩ := hy; rfl)
         | (obtain ⟨_, _, _, _, rfl⟩ := hy; rfl))
theorem binOp_eql_odd (t : TypeId) {x y : Value} (hx : odd x = true) (hy : odd y = true) : binOp .eql t x y = (do pure (.bool (← Op.equal t x y))) := by
  cases x <;> cases y <;> first | rfl | (simp [odd] at hx; done) | (simp [odd] at hy; done)
theorem binOp_neq_odd (t : TypeId) {x y : Value} (hx : odd x = true) (hy : odd y = true) : binOp .neq t x y = (do pure (.bool (!(← Op.equal t x y)))) := by
  cases x <;> cases y <;> first | rfl | (simp [odd] at hx; done) | (simp [odd] at hy; done)
theorem s_bin (hT : TTok P tt) {op : BinOp} {t : Nat} {g : BTag} (hg : TagOk P tt t g) {a b r : AV} {x y : Value} (h : binA g op a b = some r) (hx : VRel β a x) (hy : VRel β b y) :
    ∃ v, (binOp op t x y).run P w = .ok v w ∧ VRel β r v := by
  unfold binA at h
  split at h
  · exact s_num h hx hy
  · split at h
    · split at h
      · rename_i q hq; cases h
        obtain ⟨o1, o2⟩ := eqA_odd hq hx hy
        exact ⟨.bool q, by rw [binOp_eql_odd t o1 o2]; simp only [Sem.run_bind, s_eq hT hg hq hx hy, Result.andThen_ok, Sem.run_pure], rfl⟩
      · cases h
    · split at h
      · rename_i q hq; cases h
        obtain ⟨o1, o2⟩ := eqA_odd hq hx hy
        exact ⟨.bool (!q), by rw [binOp_neq_odd t o1 o2]; simp only [Sem.run_bind, s_eq hT hg hq hx hy, Result.andThen_ok, Sem.run_pure], rfl⟩
      · cases h
    · cases h
theorem s_guard {op : BinOp} {t : Nat} {g : BTag} (hg : TagOk P tt t g) {ox oy : Operand} {a b r : AV} {x y : Value} (h : binA g op a b = some r) (hx : VRel β a x) (hy : VRel β b y) (hc : g = .ifc → (isC ox || isC oy) = true) :
    (eqGuard op t ox oy x y).run P w = .ok () w := by
  by_cases hst : ∃ ks, g = .st ks
  · obtain ⟨ks, rfl⟩ := hst
    obtain ⟨fs, hu, hp, hs, hgd⟩ := hg
    have hab : ∃ la lb, a = .agg la ∧ b = .agg lb := by
      unfold binA at h
      have key : ∀ q, eqA (.st ks) a b = some q → ∃ la lb, a = .agg la ∧ b = .agg lb := by
        intro q hq
        unfold eqA at hq
        split at hq <;> first | contradiction | exact ⟨_, _, rfl, rfl⟩
      split at h
      · contradiction
      · split at h
        · split at h
          · rename_i hq; exact key _ hq
          · cases h
        · split at h
          · rename_i hq; exact key _ hq
          · cases h
        · cases h
    obtain ⟨la, lb, rfl, rfl⟩ := hab
    obtain ⟨cx', hcx, rfl⟩ := hx
    obtain ⟨cy', hcy, rfl⟩ := hy
    exact run_eqGuard_agg w op t ox oy _ _ hgd
  have hne : ∀ {a : AV} {x : Value}, VRel β a x → (∀ l, a ≠ .agg l) → a ≠ .nili → (∀ l, x ≠ .agg l) ∧ x ≠ .nilIface := by
    intro a x hx h1 h2
    cases a <;> simp only [VRel] at hx
    case agg l => exact absurd rfl (h1 l)
    case nili => exact absurd rfl h2
    case str => obtain ⟨_, rfl, _⟩ := hx; simp
    case ptr => obtain ⟨_, _, rfl⟩ := hx; simp
    case slice => obtain ⟨_, _, _, _, rfl, _⟩ := hx; simp
    case map => obtain ⟨_, _, rfl⟩ := hx; simp
    case func => obtain ⟨_, _, _, _, rfl⟩ := hx; simp
    case iface => obtain ⟨_, _, rfl⟩ := hx; simp
    case yld => obtain ⟨_, _, rfl⟩ := hx; simp
    case tuple => obtain ⟨_, _, rfl⟩ := hx; simp
    all_goals subst hx; simp
  have key : ∀ x y : Value, ((∀ l, x ≠ .agg l) ∧ x ≠ .nilIface) ∨ ((∀ l, y ≠ .agg l) ∧ y ≠ .nilIface) → (eqGuard op t ox oy x y).run P w = .ok () w := by
    intro x y hxy
    unfold eqGuard
    split
    case h_3 => rfl
    all_goals
      simp only [Bool.not_true, Bool.false_eq_true, if_false]
      cases x <;> cases y <;> first
        | rfl
        | (rcases hxy with ⟨h1, h2⟩ | ⟨h1, h2⟩ <;> first | exact absurd rfl h2 | exact absurd rfl (h1 _))
  by_cases hn : a = .nili ∧ b = .nili
  · obtain ⟨rfl, rfl⟩ := hn
    cases hx; cases hy
    have hgi : g = .ifc := by
      cases g <;> first | rfl | (exact absurd ⟨_, rfl⟩ hst) | (simp [binA, numA] at h; done) | (cases op <;> simp [binA, eqA] at h; done)
    have hcc := hc hgi
    clear hc key hne
    unfold eqGuard
    split
    case h_3 => rfl
    all_goals
      simp only [Bool.not_true, Bool.false_eq_true, if_false]
      rw [if_pos]
      · rfl
      · clear h
        cases ox <;> cases oy <;> first | rfl | (simp [isC] at hcc; done)
  · have hagg : (∀ l, a ≠ .agg l) ∧ (∀ l, b ≠ .agg l) := by
      constructor
      · rintro l rfl
        cases g <;> first | (exact absurd ⟨_, rfl⟩ hst) | (simp [binA, numA] at h; done) | (cases op <;> simp [binA, eqA] at h; done)
      · rintro l rfl
        clear hne key hc hy hx
        cases g
        case num => simp only [binA] at h; cases a <;> simp [numA] at h
        case st => exact absurd ⟨_, rfl⟩ hst
        all_goals clear hst
        all_goals cases a <;> cases op <;> simp [binA, eqA] at h
    refine key x y ?_
    by_cases ha : a = .nili
    · exact .inr (hne hy hagg.2 fun hb => hn ⟨ha, hb⟩)
    · exact .inl (hne hx hagg.1 ha)
end
end Go.RI
namespace Go.RI
theorem bytesOf_spec : ∀ {l : List AV} {s : List Nat}, bytesOf l = some s → l = s.map (fun n => AV.int .u8 (.ofNat n)) ∧ ∀ n ∈ s, n < 256
  | [], s, h => by simp [bytesOf] at h; subst h; simp
  | a :: l, s, h => by
    cases a with
    | int k n =>
      cases k <;> cases n <;> simp only [bytesOf] at h <;> try cases h
      rename_i n
      split at h
      · rename_i r hn hr
        cases h
        obtain ⟨h1, h2⟩ := bytesOf_spec hr
        have hn := Nat.le_of_ble_eq_true hn
        refine ⟨by simp [h1], fun m hm => ?_⟩
        rcases List.mem_cons.1 hm with h | h
        · subst h; exact hn
        · exact h2 m h
      · cases h
    | _ => simp [bytesOf] at h
theorem LRel.ints {β : Bmap} : ∀ {s : List Nat} {c : List Value}, LRel β (s.map fun n => AV.int .u8 (.ofNat n)) c → c = s.map fun (n : Nat) => Value.int .u8 (n : Int)
  | [], c, h => by simp only [List.map_nil, LRel] at h; subst h; rfl
  | n :: s, c, h => by
    simp only [List.map_cons, LRel] at h
    obtain ⟨y, ys, rfl, h1, h2⟩ := h
    cases h1
    rw [LRel.ints h2]; rfl
theorem ints_rel (β : Bmap) : ∀ s : List Nat, LRel β (s.map fun n => AV.int .u8 (.ofNat n)) (s.map fun (n : Nat) => Value.int .u8 (n : Int))
  | [] => by simp [LRel]
  | n :: s => by simp only [List.map_cons, LRel]; exact ⟨_, _, rfl, rfl, ints_rel β s⟩
theorem foldl_push : ∀ (ns : List Nat) (b : ByteArray), (∀ n ∈ ns, n < 256) → ((ns.foldl (fun (r : ByteArray) n => r.push (UInt8.ofNat n)) b).data.toList.map UInt8.toNat) = b.data.toList.map UInt8.toNat ++ ns
  | [], b, _ => by simp
  | n :: ns, b, h => by
    simp only [List.foldl_cons]
    rw [foldl_push ns _ fun m hm => h m (List.mem_cons_of_mem _ hm)]
    have : n < 256 := h n (by simp)
    simp [ByteArray.push, Nat.mod_eq_of_lt this]
variable [cx : Cx]
section
variable {P : Program} {β : Bmap} {st : St} {w : World} (hr : Rel β st w)
include hr
theorem s_toStr {src dst e : Nat} {si di ei : TI} (hs : TIok P src si) (hd : TIok P dst di) (he : TIok P e ei) (hsu : si.und = .slice e) (hdu : di.und = .string) (heu : ei.und = .int .u8)
    {b off len cap : Nat} {x : Value} (hx : VRel β (.slice b off len cap 1) x) {l : List AV} (hl : st.rdN b off len = some l) {s : List Nat} (hb : bytesOf l = some s) :
    ∃ v, (convert src dst x).run P w = .ok v w ∧ VRel β (.str s) v := by
  obtain ⟨im, him, cap', o, rfl, ho, hc1, hc2, hc3⟩ := hx
  obtain ⟨h1, h2⟩ := bytesOf_spec hb
  have hlen : len = 0 ∨ o = ⟨im.blk, im.off + off, none⟩ := ho.elim (fun h => .inr h) (fun h => .inl (by omega))
  obtain ⟨cs, g1, g2, g3⟩ := hr.rdN hl him
  rw [h1] at g2
  have hcs := g2.ints
  have hload : (loadCells o len).run P w = .ok (((s.map fun (n : Nat) => (n : Int)).map (Value.int .u8)).toArray) w := by
    have e : (s.map fun (n : Nat) => (n : Int)).map (Value.int .u8) = cs := by rw [hcs]; simp
    rw [e, ← g1]
    refine run_loadCells_list (P := P) (w := w) _ cs (fun j v hj => ?_)
    rcases hlen with h | h
    · rw [h] at g1; have := List.length_eq_zero_iff.1 g1; subst this; simp at hj
    · rw [h, addr_add]; exact g3 j v hj
  refine ⟨.string ((s.map fun (n : Nat) => (n : Int)).foldl (fun (r : ByteArray) n => r.push (UInt8.ofNat n.toNat)) ByteArray.empty), ?_, ?_⟩
  · simp only [convert, Sem.run_bind, hs.run_und, hd.run_und, hsu, hdu, Result.andThen_ok, he.run_und, heu]
    exact run_bytesToString w _ _ _ _ hload
  · refine ⟨_, rfl, ?_⟩
    have : (s.map fun (n : Nat) => (n : Int)).foldl (fun (r : ByteArray) n => r.push (UInt8.ofNat n.toNat)) ByteArray.empty = s.foldl (fun (r : ByteArray) n => r.push (UInt8.ofNat n)) ByteArray.empty := by
      rw [List.foldl_map]; simp
    rw [this, foldl_push s _ h2]
    rfl
omit cx hr in
theorem s_toStrNil {src dst e : Nat} {si di ei : TI} (hs : TIok P src si) (hd : TIok P dst di) (he : TIok P e ei) (hsu : si.und = .slice e) (hdu : di.und = .string) (heu : ei.und = .int .u8) :
    ∃ v, (convert src dst (.slice none 0 0)).run P w = .ok v w ∧ VRel β (.str []) v := by
  refine ⟨.string .empty, ?_, .empty, rfl, rfl⟩
  simp only [convert, Sem.run_bind, hs.run_und, hd.run_und, hsu, hdu, Result.andThen_ok, he.run_und, heu]
  rfl
omit cx hr in
theorem s_strId {src dst : Nat} {si di : TI} (hs : TIok P src si) (hd : TIok P dst di) (hdu : di.und = .string) {s : List Nat} {x : Value} (hx : VRel β (.str s) x) :
    (convert src dst x).run P w = .ok x w := by
  obtain ⟨B, rfl, rfl⟩ := hx
  simp only [convert, Sem.run_bind, hs.run_und, hd.run_und, hdu, Result.andThen_ok]
  rfl
omit cx hr in
theorem s_rune {src dst : Nat} {si di : TI} (hs : TIok P src si) (hd : TIok P dst di) (hdu : di.und = .string) {j : IntKind} {n : Nat} (hn : n < 128) :
    ∃ x, (convert src dst (.int j (Int.ofNat n))).run P w = .ok x w ∧ VRel β (.str [n]) x := by
  refine ⟨.string ⟨#[UInt8.ofNat n]⟩, ?_, _, rfl, ?_⟩
  · have he : Utf8.encode (Int.ofNat n) = ⟨#[UInt8.ofNat n]⟩ := by
      have hv : Utf8.valid (Int.ofNat n) = true := by
        have : ∀ n : Nat, n < 128 → Utf8.valid (Int.ofNat n) = true := by decide
        exact this n hn
      unfold Utf8.encode
      simp only [hv, if_true]
      have : (Int.ofNat n).toNat = n := rfl
      rw [this, if_pos (show n < 0x80 from hn)]
    simp only [convert, Sem.run_bind, hs.run_und, hd.run_und, hdu, Result.andThen_ok, Conv.intToString, he]
    rfl
  · simp
    omega
omit cx hr in
theorem s_toInt {src dst : Nat} {si di : TI} (hs : TIok P src si) (hd : TIok P dst di) {k : IntKind} (hdu : di.und = .int k) {j : IntKind} {n : Int} :
    (convert src dst (.int j n)).run P w = .ok (.int k (k.wrap n)) w := by
  simp only [convert, Sem.run_bind, hs.run_und, hd.run_und, hdu, Result.andThen_ok]
  rfl
theorem s_toBytes {src dst e : Nat} {si di ei : TI} (hs : TIok P src si) (hd : TIok P dst di) (he : TIok P e ei) (hsu : si.und = .string) (hdu : di.und = .slice e) (heu : ei.und = .int .u8) {s : List Nat} {x : Value} (hx : VRel β (.str s) x) :
    Does P (do pure (Next.value (← convert src dst x))) β st w (.slice st.next 0 s.length s.length 1) (st.new (.cells (e, true) (s.map fun n => some (.int .u8 (.ofNat n))) (Nat.max 1 s.length) none)) := by
  obtain ⟨B, rfl, rfl⟩ := hx
  obtain ⟨cap, hcap⟩ : ∃ cap, cap = (Question.appendCap B.size 0 e).cut (w.tape w.drawn (.appendCap B.size 0 e)) := ⟨_, rfl⟩
  have hge : B.size ≤ cap := by rw [hcap]; exact Nat.le_add_right _ _
  have hsz : B.size = B.data.toList.length := by rw [Array.length_toList]; rfl
  obtain ⟨c, hc⟩ : ∃ c : Array Value, c = (B.data.map fun b => Value.int .u8 b.toNat) ++ Array.replicate (cap - B.size) (.int .u8 0) := ⟨_, rfl⟩
  have hcs : c.size = cap := by
    subst hc; rw [Array.size_append, Array.size_map, Array.size_replicate]
    have : B.size = B.data.size := rfl
    omega
  have hmf : ∀ k, ((w.drew.alloc (.cells c e)).freeze ⟨w.heap.size, cap, none⟩ 1).heap[k]? = if k = w.heap.size then some (.cells c e (cap, cap + 1)) else (w.alloc (.cells c e)).heap[k]? := by
    intro k
    simp only [World.freeze]
    rw [if_neg (by decide)]
    simp only []
    rw [Array.getElem?_modify]
    by_cases hk : w.heap.size = k
    · subst hk
      rw [if_pos rfl, if_pos rfl]
      have : (w.drew.alloc (.cells c e)).heap[w.heap.size]? = some (.cells c e) := heap_push_new w.drew _
      rw [this]; rfl
    · rw [if_neg hk, if_neg (Ne.symm hk)]; rfl
  have hrun : (convert src dst (.string B)).run P w = .ok (.slice (some ⟨w.heap.size, 0, none⟩) B.size cap) ((w.drew.alloc (.cells c e)).freeze ⟨w.heap.size, cap, none⟩ 1) := by
    simp only [convert, Sem.run_bind, hs.run_und, hd.run_und, hsu, hdu, Result.andThen_ok, he.run_und, heu, Conv.stringToBytes]
    have : (choose (.appendCap B.size 0 e)).run P w = .ok cap w.drew := by
      rw [hcap]; rfl
    simp only [this, Result.andThen_ok, newRow, Sem.run_bind, run_newObj, Sem.run_pure, markStringish, run_shape]
    rw [← hc]
    have hsh : World.shape? { w.drew with heap := w.drew.heap.push (.cells c e) } w.drew.heap.size = some (e, cap) := by
      have : (w.drew.alloc (.cells c e)).heap[w.heap.size]? = some (.cells c e) := heap_push_new w.drew _
      simp only [World.shape?]
      rw [show ({ w.drew with heap := w.drew.heap.push (.cells c e) } : World).heap[w.drew.heap.size]? = some (.cells c e) from this]
      simp [hcs]
    simp only [hsh, Sem.run_bind, run_freeze, Result.andThen_ok, Sem.run_pure]
    rfl
  have hext := Bmap.ext_add (⟨w.heap.size, 0, cap⟩ : Img) hr.none_next
  refine Does.of hrun (β' := β.add st.next ⟨w.heap.size, 0, cap⟩) ?_ ?_
  · have hl : (B.data.toList.map UInt8.toNat).length = B.size := by rw [List.length_map, hsz]
    exact ⟨_, Bmap.add_same _ _ _, cap, _, by rw [hl], .inl rfl, by omega, by omega, by simp⟩
  · refine hr.allocW _ ⟨w.heap.size, 0, cap⟩ rfl (fun k hk => ?_) ?_ rfl rfl rfl ?_
    · rw [hmf, if_neg (by omega)]; exact heap_push_lt _ _ _ hk
    · simp [World.freeze]
    · refine ⟨c, (cap, cap + 1), by rw [hmf, if_pos rfl], by simp [hcs], by simp; exact hge, fun i v hi => ?_, fun i h1 h2 => ?_, fun h0 => ?_, fun _ => rfl⟩
      · rw [List.getElem?_map, List.getElem?_map] at hi
        cases hq : B.data.toList[i]? with
        | none => rw [hq] at hi; cases hi
        | some u =>
          rw [hq] at hi
          simp only [Option.map_some, Option.some.injEq] at hi
          subst hi
          have hlt : i < B.data.size := by have := (List.getElem?_eq_some_iff.1 hq).1; simpa using this
          refine ⟨.int .u8 u.toNat, ?_, rfl⟩
          have hq' : B.data[i]? = some u := by simpa using hq
          rw [Nat.zero_add, hc, Array.getElem?_append_left (by simpa using hlt), Array.getElem?_map, hq']; rfl
      · have h2 : i < cap := h2
        simp only [Nat.zero_add]; omega
      · have : 1 ≤ Nat.max 1 (B.data.toList.map UInt8.toNat).length := Nat.le_max_left _ _
        omega
end
end Go.RI
