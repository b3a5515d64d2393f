/- A compiler from bodies of Go functions into a small language of values and blocks, and the proof that a run of the compiled text is a run of the program. Conditions: none. -/
import Derived.Test.YtaplnebenndkgaaGreatDoorT03
import Derived.MapKept
import Derived.IntWalk
set_option linter.all false
namespace Go.RI
theorem addr_add' (blk o n : Nat) : (⟨blk, o, none⟩ : Addr).add n = ⟨blk, o + n, none⟩ := addr_add blk o n
section
variable {P : Program} {β : Bmap} {w : World}
theorem run_bounds3 {tm : Tr AV} {ρ : Operand → Value} {lo hi : Option Rnd} {olo ohi : Option Operand} {omx : Operand} (h1 : ORnd β tm ρ lo olo) (h2 : ORnd β tm ρ hi ohi) {len cap l h m d : Nat}
    (hhi : ohi.isSome = true) (hmx : ∃ v, ρ omx = v ∧ ∀ (y : Nat) (code : BoundsCode), m ≤ y → (Instr.sliceBound v y code).run P w = .ok m w)
    (hl : optNat tm 0 lo = some l) (hh : optNat tm d hi = some h) (hlh : l ≤ h) (hhm : h ≤ m) (hmc : m ≤ cap) :
    (Instr.sliceBounds true len cap (olo.map ρ) (ohi.map ρ) ((some omx).map ρ)).run P w = .ok (l, h, m) w := by
  obtain ⟨v, hv, hrun⟩ := hmx
  rcases opt_bound (P := P) (w := w) h1 hl with ⟨a1, a2⟩ | ⟨v1, a1, a2⟩ <;> rcases opt_bound (P := P) (w := w) h2 hh with ⟨b1, b2⟩ | ⟨v2, b1, b2⟩
  · cases ohi with
    | none => cases hhi
    | some q => cases b1
  · simp [Instr.sliceBounds, a1, a2, b1, b2, hhm, hmc, hv, hrun]
  · cases ohi with
    | none => cases hhi
    | some q => cases b1
  · simp [Instr.sliceBounds, a1, a2, b1, b2, hhm, hmc, hlh, hv, hrun]
theorem s_cutSl {t e : Nat} {ti ei : TI} (hi : TIok P t ti) (hu : ti.und = .slice e) (he : TIok P e ei) {tm : Tr AV} {ρ : Operand → Value} {b off len cap es : Nat} (hes : ei.size = es) {x : Value} (hx : VRel β (.slice b off len cap es) x)
    {lo hi' : Option Rnd} {olo ohi : Option Operand} (h1 : ORnd β tm ρ lo olo) (h2 : ORnd β tm ρ hi' ohi) {l h : Nat} (hl : optNat tm 0 lo = some l) (hh : optNat tm len hi' = some h) (hlh : l ≤ h) (hhc : h ≤ cap) :
    ∃ v, (Instr.sliceAt t x (olo.map ρ) (ohi.map ρ) none).run P w = .ok v w ∧ VRel β (.slice b (off + l * es) (h - l) (cap - l) es) v := by
  obtain ⟨im, him, cap', o, rfl, ho, hc1, hc2, hc3⟩ := hx
  have hb := run_bounds (P := P) (w := w) (cap := cap') h1 h2 true hl hh hlh (by omega)
  refine ⟨.slice (some (if cap' = l then o else o.add (l * es))) (h - l) (cap' - l), ?_, im, him, cap' - l, (if cap' = l then o else o.add (l * es)), rfl, ?_, by omega, by omega, ?_⟩
  · simp only [Instr.sliceAt, Instr.slice, Sem.run_bind, hi.run_und, hu, Result.andThen_ok, hb, he.run_size, Sem.run_pure, hes]
    congr 2
    by_cases hq : cap' = l
    · simp [hq]
    · simp only [hq, if_false, Option.map_some]
  · by_cases hq : cap' = l
    · right; omega
    · rw [if_neg hq]
      rcases ho with h | h
      · left; rw [h, addr_add', Nat.add_assoc]
      · right; omega
  · have : l * es + (cap' - l) * es ≤ cap' * es := by rw [← Nat.add_mul]; exact Nat.mul_le_mul_right _ (by omega)
    omega
theorem s_cutSl3 {t e : Nat} {ti ei : TI} (hi : TIok P t ti) (hu : ti.und = .slice e) (he : TIok P e ei) {tm : Tr AV} {ρ : Operand → Value} {b off len cap es : Nat} (hes : ei.size = es) {x : Value} (hx : VRel β (.slice b off len cap es) x)
    {lo hi' : Option Rnd} {mx : Rnd} {olo ohi : Option Operand} {omx : Operand} (h1 : ORnd β tm ρ lo olo) (h2 : ORnd β tm ρ hi' ohi) (hhi : ohi.isSome = true) (h3 : VRel β (ev tm mx) (ρ omx))
    {l h m : Nat} (hl : optNat tm 0 lo = some l) (hh : optNat tm len hi' = some h) (hm : natOf (ev tm mx) = some m) (hlh : l ≤ h) (hhm : h ≤ m) (hmc : m ≤ cap) :
    ∃ v, (Instr.sliceAt t x (olo.map ρ) (ohi.map ρ) ((some omx).map ρ)).run P w = .ok v w ∧ VRel β (.slice b (off + l * es) (h - l) (m - l) es) v := by
  obtain ⟨im, him, cap', o, rfl, ho, hc1, hc2, hc3⟩ := hx
  obtain ⟨k, hk⟩ := natOf_spec hm h3
  have hb := run_bounds3 (P := P) (w := w) (len := len) (cap := cap') h1 h2 hhi ⟨_, rfl, fun y code hle => run_bound _ _ _ k hk hle _⟩ hl hh hlh hhm (by omega)
  refine ⟨.slice (some (if m = l then o else o.add (l * es))) (h - l) (m - l), ?_, im, him, m - l, (if m = l then o else o.add (l * es)), rfl, ?_, by omega, by omega, ?_⟩
  · simp only [Instr.sliceAt, Instr.slice, Sem.run_bind, hi.run_und, hu, Result.andThen_ok, hb, he.run_size, Sem.run_pure, hes]
    congr 2
    by_cases hq : m = l
    · simp [hq]
    · simp only [hq, if_false, Option.map_some]
  · by_cases hq : m = l
    · right; omega
    · rw [if_neg hq]
      rcases ho with h | h
      · left; rw [h, addr_add', Nat.add_assoc]
      · right; omega
  · have : l * es + (m - l) * es ≤ cap' * es := by rw [← Nat.add_mul]; exact Nat.mul_le_mul_right _ (by omega)
    omega
theorem s_cutNil {t e : Nat} {ti ei : TI} (hi : TIok P t ti) (hu : ti.und = .slice e) (he : TIok P e ei) {tm : Tr AV} {ρ : Operand → Value}
    {lo hi' : Option Rnd} {olo ohi : Option Operand} (h1 : ORnd β tm ρ lo olo) (h2 : ORnd β tm ρ hi' ohi) (hl : optNat tm 0 lo = some 0) (hh : optNat tm 0 hi' = some 0) :
    (Instr.sliceAt t (.slice none 0 0) (olo.map ρ) (ohi.map ρ) none).run P w = .ok (.slice none 0 0) w := by
  have hb := run_bounds (P := P) (w := w) (cap := 0) h1 h2 true hl hh (Nat.le_refl _) (Nat.le_refl _)
  simp only [Instr.sliceAt, Instr.slice, Sem.run_bind, hi.run_und, hu, Result.andThen_ok, hb, he.run_size, Sem.run_pure]
  simp
theorem s_cutNil3 {t e : Nat} {ti ei : TI} (hi : TIok P t ti) (hu : ti.und = .slice e) (he : TIok P e ei) {tm : Tr AV} {ρ : Operand → Value}
    {lo hi' : Option Rnd} {mx : Rnd} {olo ohi : Option Operand} {omx : Operand} (h1 : ORnd β tm ρ lo olo) (h2 : ORnd β tm ρ hi' ohi) (hhi : ohi.isSome = true) (h3 : VRel β (ev tm mx) (ρ omx))
    (hl : optNat tm 0 lo = some 0) (hh : optNat tm 0 hi' = some 0) (hm : natOf (ev tm mx) = some 0) :
    (Instr.sliceAt t (.slice none 0 0) (olo.map ρ) (ohi.map ρ) ((some omx).map ρ)).run P w = .ok (.slice none 0 0) w := by
  obtain ⟨k, hk⟩ := natOf_spec hm h3
  have hb := run_bounds3 (P := P) (w := w) (len := 0) (cap := 0) h1 h2 hhi ⟨_, rfl, fun y code hle => run_bound _ _ _ k hk hle _⟩ hl hh (Nat.le_refl _) (Nat.le_refl _) (Nat.le_refl _)
  simp only [Instr.sliceAt, Instr.slice, Sem.run_bind, hi.run_und, hu, Result.andThen_ok, hb, he.run_size, Sem.run_pure]
  simp
theorem s_cutArr {t n e : Nat} {ti ei : TI} (hi : TIok P t ti) (hu : ti.und = .array n e) (he : TIok P e ei) {tm : Tr AV} {ρ : Operand → Value} {b off es : Nat} (hes : ei.size = es) {x : Value} (hx : VRel β (.ptr b off) x)
    {lo hi' : Option Rnd} {olo ohi : Option Operand} (h1 : ORnd β tm ρ lo olo) (h2 : ORnd β tm ρ hi' ohi) {l h : Nat} (hl : optNat tm 0 lo = some l) (hh : optNat tm n hi' = some h) (hlh : l ≤ h) (hhn : h ≤ n)
    (hroom : ∀ im, β b = some im → off + n * es ≤ im.room) :
    ∃ v, (Instr.sliceAt t x (olo.map ρ) (ohi.map ρ) none).run P w = .ok v w ∧ VRel β (.slice b (off + l * es) (h - l) (n - l) es) v := by
  obtain ⟨im, him, rfl⟩ := hx
  have hb := run_bounds (P := P) (w := w) (cap := n) h1 h2 false hl hh hlh hhn
  have hrm := hroom im him
  refine ⟨.slice (some (if n = l then ⟨im.blk, im.off + off, none⟩ else ⟨im.blk, im.off + off + l * es, none⟩)) (h - l) (n - l), ?_, im, him, n - l, (if n = l then ⟨im.blk, im.off + off, none⟩ else ⟨im.blk, im.off + off + l * es, none⟩), rfl, ?_, by omega, by omega, ?_⟩
  · simp only [Instr.sliceAt, Instr.sureAddr, Sem.run_bind, hi.run_und, hu, Result.andThen_ok, hb, he.run_size, Sem.run_pure, hes]
    congr 2
    by_cases hq : n = l
    · simp [hq]
    · simp only [hq, if_false, addr_add']
  · by_cases hq : n = l
    · right; omega
    · left; rw [if_neg hq, Nat.add_assoc]
  · have : l * es + (n - l) * es ≤ n * es := by rw [← Nat.add_mul]; exact Nat.mul_le_mul_right _ (by omega)
    omega
theorem s_fieldAddr {t : Nat} {ti : TI} (hi : TIok P t ti) {fields : Array Field} (hu : ti.und = .struct fields) {f : Nat} {fd : Field} (hf : fields[f]? = some fd) {fi : TI} (hfi : TIok P fd.type fi) (hne : fi.size ≠ 0)
    {b off : Nat} {x : Value} (hx : VRel β (.ptr b off) x) : ∃ v, (Instr.fieldAt t x f).run P w = .ok v w ∧ VRel β (.ptr b (off + fd.offset)) v := by
  obtain ⟨im, him, rfl⟩ := hx
  refine ⟨.pointer (some ⟨im.blk, im.off + (off + fd.offset), none⟩), ?_, im, him, rfl⟩
  simp only [Instr.fieldAt, Sem.run_bind, hi.run_und, hu, Result.andThen_ok, hf, Instr.sureAddr, Sem.run_pure, fieldPlace, hfi.run_size, hne, if_false, addr_add', Nat.add_assoc]
theorem s_part {t : Nat} {ti : TI} (hi : TIok P t ti) {l : List AV} {c : List Value} (hl : LRel β l c) {off : Nat} {r : AV}
    (h : (match ti.agg with | true => some (AV.agg ((l.drop off).take ti.size)) | false => l[off]?) = some r) : ∃ v, (part t c.toArray off).run P w = .ok v w ∧ VRel β r v := by
  cases hq : ti.agg with
  | true =>
    rw [hq] at h; cases h
    refine ⟨.agg (c.toArray.extract off (off + ti.size)), ?_, (c.drop off).take ti.size, (hl.drop off).take _, by simp⟩
    simp [part, hi.run_agg, hq, hi.run_size]
  | false =>
    rw [hq] at h
    obtain ⟨v, hv, hr⟩ := hl.get h
    refine ⟨v, ?_, hr⟩
    simp [part, hi.run_agg, hq, hv]
theorem s_field {t : Nat} {ti : TI} (hi : TIok P t ti) {fields : Array Field} (hu : ti.und = .struct fields) {f : Nat} {fd : Field} (hf : fields[f]? = some fd) {fi : TI} (hfi : TIok P fd.type fi)
    {l : List AV} {x : Value} (hx : VRel β (.agg l) x) {r : AV} (h : (match fi.agg with | true => some (AV.agg ((l.drop fd.offset).take fi.size)) | false => l[fd.offset]?) = some r) :
    ∃ v, (Instr.field t x f).run P w = .ok v w ∧ VRel β r v := by
  obtain ⟨c, hc, rfl⟩ := hx
  obtain ⟨v, hv, hr⟩ := s_part (w := w) hfi hc h
  exact ⟨v, by simp only [Instr.field, Sem.run_bind, hi.run_und, hu, Result.andThen_ok, hf, asAgg, Sem.run_pure, hv], hr⟩
theorem s_idxArr {t n e : Nat} {ti ei : TI} (hi : TIok P t ti) (hu : ti.und = .array n e) (he : TIok P e ei) {b off : Nat} {x y : Value} (hx : VRel β (.ptr b off) x) {j : Nat} {k : IntKind} (hy : y = .int k (j : Int)) (hlt : j < n) :
    ∃ v, (Instr.indexAt t x y).run P w = .ok v w ∧ VRel β (.ptr b (off + j * ei.size)) v := by
  obtain ⟨im, him, rfl⟩ := hx
  subst hy
  refine ⟨.pointer (some ⟨im.blk, im.off + (off + j * ei.size), none⟩), ?_, im, him, rfl⟩
  simp only [Instr.indexAt, asIntOf, Sem.run_bind, Sem.run_pure, hi.run_und, hu, Result.andThen_ok, Instr.sureAddr]
  rw [if_pos ⟨by omega, by omega⟩]
  simp only [Sem.run_bind, he.run_size, Result.andThen_ok, Sem.run_pure, addr_add', Int.toNat_natCast, Nat.add_assoc]
theorem s_idxSl {t e : Nat} {ti ei : TI} (hi : TIok P t ti) (hu : ti.und = .slice e) (he : TIok P e ei) {b off len cap es : Nat} (hes : ei.size = es) {x y : Value} (hx : VRel β (.slice b off len cap es) x) {j : Nat} {k : IntKind} (hy : y = .int k (j : Int)) (hlt : j < len) :
    ∃ v, (Instr.indexAt t x y).run P w = .ok v w ∧ VRel β (.ptr b (off + j * es)) v := by
  obtain ⟨im, him, cap', o, rfl, ho, hc1, hc2, hc3⟩ := hx
  have ho : o = ⟨im.blk, im.off + off, none⟩ := ho.resolve_right (by omega)
  subst hy ho
  refine ⟨.pointer (some ⟨im.blk, im.off + (off + j * es), none⟩), ?_, im, him, rfl⟩
  simp only [Instr.indexAt, asIntOf, Sem.run_bind, Sem.run_pure, hi.run_und, hu, Result.andThen_ok]
  rw [if_pos ⟨by omega, by omega⟩]
  simp only [Sem.run_bind, he.run_size, Result.andThen_ok, Sem.run_pure, addr_add', Int.toNat_natCast, Nat.add_assoc, hes]
theorem s_idxStr {t : Nat} {ti : TI} (hi : TIok P t ti) (hu : ti.und = .string) {s : List Nat} {x y : Value} (hx : VRel β (.str s) x) {j c : Nat} {k : IntKind} (hy : y = .int k (j : Int)) (hc : s[j]? = some c) :
    (Instr.index t x y).run P w = .ok (.int .u8 (c : Int)) w := by
  obtain ⟨B, rfl, rfl⟩ := hx
  subst hy
  rw [List.getElem?_map] at hc
  cases hq : B.data.toList[j]? with
  | none => rw [hq] at hc; cases hc
  | some u =>
    rw [hq] at hc
    simp only [Option.map_some, Option.some.injEq] at hc
    subst hc
    have hlt : j < B.size := by have := (List.getElem?_eq_some_iff.1 hq).1; simpa using this
    have hq2 : B[j] = u := by
      have := (List.getElem?_eq_some_iff.1 hq).2
      show B.data[j]'hlt = u
      simpa using this
    simp only [Instr.index, asIntOf, Sem.run_bind, Sem.run_pure, hi.run_und, hu, Result.andThen_ok, Int.toNat_natCast]
    rw [if_pos (by omega)]
    simp only [getElem?_pos B j hlt, hq2, Sem.run_pure]
theorem s_idxAgg {t n e : Nat} {ti ei : TI} (hi : TIok P t ti) (hu : ti.und = .array n e) (he : TIok P e ei) {l : List AV} {x y : Value} (hx : VRel β (.agg l) x) {j : Nat} {k : IntKind} (hy : y = .int k (j : Int)) (hlt : j < n) {r : AV}
    (h : (match ei.agg with | true => some (AV.agg ((l.drop (j * ei.size)).take ei.size)) | false => l[j * ei.size]?) = some r) :
    ∃ v, (Instr.index t x y).run P w = .ok v w ∧ VRel β r v := by
  obtain ⟨c, hc, rfl⟩ := hx
  obtain ⟨v, hv, hr⟩ := s_part (w := w) he hc h
  subst hy
  refine ⟨v, ?_, hr⟩
  simp only [Instr.index, asIntOf, Sem.run_bind, Sem.run_pure, hi.run_und, hu, Result.andThen_ok]
  rw [if_pos ⟨by omega, by omega⟩]
  simp only [Sem.run_bind, he.run_size, Result.andThen_ok, Int.toNat_natCast, hv]
theorem s_extract {l : List AV} {x : Value} (hx : VRel β (.tuple l) x) {i : Nat} {r : AV} (h : l[i]? = some r) : ∃ v, (Instr.extract x i).run P w = .ok v w ∧ VRel β r v := by
  obtain ⟨c, hc, rfl⟩ := hx
  obtain ⟨v, hv, hr⟩ := hc.get h
  exact ⟨v, by simp [Instr.extract, hv], hr⟩
end
end Go.RI
namespace Go.RI
def KKok (P : Program) (tt : TT) (kt : Nat) : KK → Prop
  | .int => ∃ k, P.underlying kt = some (.int k)
  | .str => P.underlying kt = some .string
  | .struct ks => ∃ fs : Array Field, P.underlying kt = some (.struct fs) ∧ plainFields tt fs.toList 0 = some ks ∧ P.stoodInHeld kt = false
  | .ptr => ∃ e te, P.underlying kt = some (.pointer e) ∧ tt e = some te ∧ te.size ≠ 0
section
variable {P : Program} {tt : TT} {β : Bmap} {w : World}
variable [cx : Cx]
theorem s_keyEqIn (d : Nat) (hT : TTok P tt) {st : St} (hr : Rel β st w) {kt : Nat} {kk : KK} (hk : KKok P tt kt kk) {a b : AV} {r : Bool} (h : eqKey st kk a b = some r) {x y : Value} (hx : VRel β a x) (hy : VRel β b y) :
    (Op.equalIn (d + 1 + 1) kt x y).run P w = .ok r w := by
  unfold eqKey at h
  split at h
  · rename_i k m k' n
    split at h
    · rename_i hkk; subst hkk; cases h; cases hx; cases hy
      obtain ⟨j, hj⟩ := hk
      exact run_equalIn_int w (d + 1) _ _ j _ _ hj
    · cases h
  · cases h
    obtain ⟨A, rfl, rfl⟩ := hx
    obtain ⟨B, rfl, rfl⟩ := hy
    rw [run_equalIn_string w (d + 1) _ _ _ hk, eqL_spec, ByteArray.toList_eq, ByteArray.toList_eq]
  · split at h
    · rename_i h1 h2
      obtain ⟨cx', hcx, rfl⟩ := hx
      obtain ⟨cy', hcy, rfl⟩ := hy
      obtain ⟨fs, hu, hp, hs⟩ := hk
      have hfo : P.fieldsOf kt = fs := by simp [Program.fieldsOf, hu]
      rw [run_equalIn_struct w (d + 1) kt _ _ (by rw [hfo]; exact hu) hs, hfo]
      exact s_eqFields hT d cx' cy' fs.toList _ 0 _ _ cx' cy' r hp h hcx hcy rfl rfl
    · cases h
  · obtain ⟨ia, hia, rfl⟩ := hx
    obtain ⟨ib, hib, rfl⟩ := hy
    obtain ⟨e, te, hu, he, hne⟩ := hk
    split at h
    · rename_i hab
      have hab := Nat.eq_of_beq_eq_true hab
      subst hab
      rw [hia] at hib; cases hib
      cases h
      simp only [Op.equalIn, Sem.run_bind, run_underlying' hu, Result.andThen_ok, (hT _ _ he).run_size, hne, ne_eq, not_false_eq_true, if_true, sameAddr, beq_self_eq_true, Sem.run_pure]
      congr 1
      rw [Bool.eq_iff_iff]
      simp
    · rename_i hab
      split at h
      · rename_i p1 p2
        cases h
        have fact : ∀ c ic, plainBlk st c = true → β c = some ic → ∃ cells el l, st.heap.get c = some (.cells el l 0 none) ∧ w.heap[ic.blk]? = some (.cells cells el.1 (0, 0)) := by
          intro c ic hp hc
          unfold plainBlk at hp
          split at hp
          · rename_i el l hg
            obtain ⟨cs, fr, q1, _, _, _, _, q6, _⟩ := hr.obj _ _ _ hg hc
            have := q6 rfl; subst this
            exact ⟨cs, el, l, hg, q1⟩
          · cases hp
        obtain ⟨c1, e1, l1, g1, w1⟩ := fact _ _ p1 hia
        obtain ⟨c2, e2, l2, g2, w2⟩ := fact _ _ p2 hib
        have hblk : ia.blk ≠ ib.blk := by
          intro e
          have := (hr.sep _ _ _ _ ia ib (fun e => by subst e; rw [Nat.beq_refl] at hab; cases hab) g1 g2 hia hib e (by simp) (by simp)).1
          simp [AObj.kin] at this
        have hfz : ∀ (ic : Img) (cs : Array Value) (el : Nat) (o : Nat), w.heap[ic.blk]? = some (.cells cs el (0, 0)) → w.frozen? ⟨ic.blk, o, none⟩ = false := by
          intro ic cs el o h; simp [World.frozen?, h]
        have hsh : ∀ (ic : Img) (cs : Array Value) (el : Nat), w.heap[ic.blk]? = some (.cells cs el (0, 0)) → w.shape? ic.blk = some (el, cs.size) := by
          intro ic cs el h; simp [World.shape?, h]
        have hb2 : (ia.blk == ib.blk) = false := by simpa using hblk
        have hst : ∀ (ic : Img) (cs : Array Value) (el : Nat) (o : Nat), w.heap[ic.blk]? = some (.cells cs el (0, 0)) → (stringish ⟨ic.blk, o, none⟩).run P w = .ok false w := by
          intro ic cs el o h
          simp [stringish, hfz ic cs el _ h, hsh ic cs el h]
        simp only [Op.equalIn, Sem.run_bind, run_underlying' hu, Result.andThen_ok, (hT _ _ he).run_size, hne, ne_eq, not_false_eq_true, if_true, sameAddr, hb2, Bool.false_eq_true, if_false, run_frozen, hfz _ _ _ _ w1, hfz _ _ _ _ w2, Bool.false_and, Bool.and_false, Sem.run_pure]
        have hnv : ∀ (ic : Img) (cs : Array Value) (el : Nat) (o : Nat), w.heap[ic.blk]? = some (.cells cs el (0, 0)) → (noView ⟨ic.blk, o, none⟩).run P w = .ok () w := by
          intro ic cs el o h
          simp [noView, viewAt, hsh ic cs el h]
        have hmo : ∀ o1 o2, (mayBeOne ⟨ia.blk, o1, none⟩ ⟨ib.blk, o2, none⟩).run P w = .ok false w := by
          intro o1 o2
          simp [mayBeOne, hst _ _ _ _ w1, hst _ _ _ _ w2, hsh _ _ _ w1, hsh _ _ _ w2]
        simp only [hnv _ _ _ _ w1, hnv _ _ _ _ w2, hmo, Result.andThen_ok, Bool.false_eq_true, if_false, Sem.run_pure]
      · cases h
  · cases h
theorem s_keyEq (hT : TTok P tt) {st : St} (hr : Rel β st w) {kt : Nat} {kk : KK} (hk : KKok P tt kt kk) {a b : AV} {r : Bool} (h : eqKey st kk a b = some r) {x y : Value} (hx : VRel β a x) (hy : VRel β b y) :
    (Op.equal kt x y).run P w = .ok r w := s_keyEqIn 9998 hT hr hk h hx hy
def FRel (β : Bmap) (st : St) (kk : KK) (k : AV) (es : List (AV × AV × Nat)) (l : List MapEntry) (i : Nat) : Option (Nat × AV × Nat) → Option (Nat × Value) → Prop
  | none, c => c = none
  | some (j, v, n), c => ∃ e k', i ≤ j ∧ l[j - i]? = some e ∧ es[j - i]? = some (k', v, n) ∧ c = some (j, e.val) ∧ VRel β v e.val ∧ VRel β k' e.key ∧ e.born = n ∧ eqKey st kk k k' = some true
omit cx in
theorem FRel.succ {st : St} {kk : KK} {k : AV} {k' v' : AV} {n' : Nat} {e : MapEntry} {es : List (AV × AV × Nat)} {l : List MapEntry} {i : Nat} {r : Option (Nat × AV × Nat)} {c : Option (Nat × Value)}
    (h : FRel β st kk k es l (i + 1) r c) : FRel β st kk k ((k', v', n') :: es) (e :: l) i r c := by
  cases r with
  | none => exact h
  | some p =>
    obtain ⟨j, v, n⟩ := p
    obtain ⟨e', k'', h0, h1, h2, h3⟩ := h
    refine ⟨e', k'', by omega, ?_, ?_, h3⟩
    · rw [show j - i = (j - (i + 1)) + 1 by omega]; simpa using h1
    · rw [show j - i = (j - (i + 1)) + 1 by omega]; simpa using h2
theorem s_findAsking (hT : TTok P tt) {st : St} (hr : Rel β st w) {kt : Nat} {kk : KK} (hk : KKok P tt kt kk) {k : AV} {x : Value} (hx : VRel β k x) : ∀ (es : List (AV × AV × Nat)) (l : List MapEntry) (i : Nat) (r : Option (Nat × AV × Nat)),
    ERel β es l → findKeyA st kk k es i = some r → ∃ c, (Instr.findAsking kt x l i).run P w = .ok c w ∧ FRel β st kk k es l i r c
  | [], l, i, r, he, h => by
    simp only [ERel] at he; subst he
    simp only [findKeyA, Option.some.injEq] at h; subst h
    exact ⟨none, rfl, rfl⟩
  | (k', v, n) :: es, l, i, r, he, h => by
    simp only [ERel] at he
    obtain ⟨e, l', rfl, h1, h2, h3, h4⟩ := he
    simp only [findKeyA] at h
    split at h
    · rename_i hq; cases h
      refine ⟨some (i, e.val), ?_, e, k', Nat.le_refl _, by simp, by simp, rfl, h2, h1, h3, hq⟩
      simp only [Instr.findAsking, Sem.run_bind, s_keyEq hT hr hk hq hx h1, Result.andThen_ok, if_true, Sem.run_pure]
    · rename_i hq
      obtain ⟨c, hc, hf⟩ := s_findAsking hT hr hk hx es l' (i + 1) r h4 h
      refine ⟨c, ?_, hf.succ⟩
      simp only [Instr.findAsking, Sem.run_bind, s_keyEq hT hr hk hq hx h1, Result.andThen_ok, Bool.false_eq_true, if_false, hc]
    · cases h
omit cx in
theorem sameNow_of {st : St} {kt : Nat} {kk : KK} (hk : KKok P tt kt kk) (hkk : (∃ ks, kk = .struct ks) ∨ kk = .ptr → False) {a b : AV} {r : Bool} (h : eqKey st kk a b = some r) {x y : Value} (hx : VRel β a x) (hy : VRel β b y) {d : TypeDesc} (hd : P.underlying kt = some d) :
    Instr.sameNow d x y = some r := by
  unfold eqKey at h
  split at h
  · split at h
    · rename_i hkk'; subst hkk'; cases h; cases hx; cases hy
      obtain ⟨j, hj⟩ := hk
      rw [hd] at hj; cases hj
      simp [Instr.sameNow]
    · cases h
  · cases h
    obtain ⟨A, rfl, rfl⟩ := hx
    obtain ⟨B, rfl, rfl⟩ := hy
    have : d = .string := by have h' : P.underlying kt = some .string := hk; rw [hd] at h'; cases h'; rfl
    subst this
    rw [eqL_spec]
    simp [Instr.sameNow, beq_toListBytes, ByteArray.toList_eq]
  · exact absurd (.inl ⟨_, rfl⟩) hkk
  · exact absurd (.inr rfl) hkk
  · cases h
omit cx in
theorem s_findNow {st : St} {kt : Nat} {kk : KK} (hk : KKok P tt kt kk) (hkk : (∃ ks, kk = .struct ks) ∨ kk = .ptr → False) {k : AV} {x : Value} (hx : VRel β k x) {d : TypeDesc} (hd : P.underlying kt = some d) : ∀ (es : List (AV × AV × Nat)) (l : List MapEntry) (i : Nat) (r : Option (Nat × AV × Nat)),
    ERel β es l → findKeyA st kk k es i = some r → ∃ c, Instr.findNow d x l i = some c ∧ FRel β st kk k es l i r c
  | [], l, i, r, he, h => by
    simp only [ERel] at he; subst he
    simp only [findKeyA, Option.some.injEq] at h; subst h
    exact ⟨none, rfl, rfl⟩
  | (k', v, n) :: es, l, i, r, he, h => by
    simp only [ERel] at he
    obtain ⟨e, l', rfl, h1, h2, h3, h4⟩ := he
    simp only [findKeyA] at h
    split at h
    · rename_i hq; cases h
      refine ⟨some (i, e.val), ?_, e, k', Nat.le_refl _, by simp, by simp, rfl, h2, h1, h3, hq⟩
      simp only [Instr.findNow, sameNow_of hk hkk hq hx h1 hd]
    · rename_i hq
      obtain ⟨c, hc, hf⟩ := s_findNow hk hkk hx hd es l' (i + 1) r h4 h
      refine ⟨c, ?_, FRel.succ hf⟩
      simp only [Instr.findNow, sameNow_of hk hkk hq hx h1 hd, hc]
    · cases h
theorem s_findKey (hT : TTok P tt) {st : St} (hr : Rel β st w) {kt : Nat} {kk : KK} (hk : KKok P tt kt kk) {k : AV} {x : Value} (hx : VRel β k x) {es : List (AV × AV × Nat)} {l : List MapEntry} {r : Option (Nat × AV × Nat)}
    (he : ERel β es l) (h : findKeyA st kk k es 0 = some r) : ∃ c, (Instr.findKey kt x l).run P w = .ok c w ∧ FRel β st kk k es l 0 r c := by
  have und : ∃ d, P.underlying kt = some d := by
    cases kk with
    | int => obtain ⟨j, h⟩ := hk; exact ⟨_, h⟩
    | str => exact ⟨_, hk⟩
    | ptr => obtain ⟨_, _, h, _⟩ := hk; exact ⟨_, h⟩
    | struct ks => obtain ⟨_, h, _⟩ := hk; exact ⟨_, h⟩
  obtain ⟨d, hd⟩ := und
  by_cases hkk : (∃ ks, kk = .struct ks) ∨ kk = .ptr
  · obtain ⟨c, hc, hf⟩ := s_findAsking hT hr hk hx es l 0 r he h
    refine ⟨c, ?_, hf⟩
    simp only [Instr.findKey, Sem.run_bind, run_underlying' hd, Result.andThen_ok]
    cases l with
    | nil => simpa [Instr.findNow, Instr.findAsking] using hc
    | cons e l =>
      have : Instr.findNow d x (e :: l) 0 = none := by
        have hs : Instr.sameNow d x e.key = none := by
          rcases hkk with ⟨ks, rfl⟩ | rfl
          · obtain ⟨_, hu, _⟩ := hk; rw [hd] at hu; cases hu; rfl
          · obtain ⟨_, _, hu, _⟩ := hk; rw [hd] at hu; cases hu; rfl
        simp [Instr.findNow, hs]
      simp only [this]; exact hc
  · obtain ⟨c, hc, hf⟩ := s_findNow hk (fun h => hkk h) hx hd es l 0 r he h
    refine ⟨c, ?_, hf⟩
    simp only [Instr.findKey, Sem.run_bind, run_underlying' hd, Result.andThen_ok, hc, Sem.run_pure]
end
end Go.RI
namespace Go.RI
theorem ERel.length {β : Bmap} : ∀ {es : List (AV × AV × Nat)} {l : List MapEntry}, ERel β es l → l.length = es.length
  | [], _, h => by simp only [ERel] at h; subst h; rfl
  | (_, _, _) :: _, _, h => by simp only [ERel] at h; obtain ⟨e, r, rfl, _, _, _, h4⟩ := h; simp [ERel.length h4]
theorem ERel.get {β : Bmap} : ∀ {es : List (AV × AV × Nat)} {l : List MapEntry}, ERel β es l → ∀ {i : Nat} {k v : AV} {n : Nat}, es[i]? = some (k, v, n) → ∃ e, l[i]? = some e ∧ VRel β k e.key ∧ VRel β v e.val ∧ e.born = n
  | [], _, _, i, _, _, _, hi => by simp at hi
  | (_, _, _) :: es, _, h, i, k, v, n, hi => by
    simp only [ERel] at h; obtain ⟨e, r, rfl, h1, h2, h3, h4⟩ := h
    cases i with
    | zero => simp at hi; obtain ⟨rfl, rfl, rfl⟩ := hi; exact ⟨e, by simp, h1, h2, h3⟩
    | succ i => simp at hi; obtain ⟨e', g1, g2⟩ := ERel.get h4 hi; exact ⟨e', by simpa using g1, g2⟩
theorem ERel.append {β : Bmap} : ∀ {es es' : List (AV × AV × Nat)} {l l' : List MapEntry}, ERel β es l → ERel β es' l' → ERel β (es ++ es') (l ++ l')
  | [], _, _, _, h, h' => by simp only [ERel] at h; subst h; simpa using h'
  | (_, _, _) :: es, _, _, _, h, h' => by
    simp only [ERel] at h; obtain ⟨e, r, rfl, h1, h2, h3, h4⟩ := h
    simp only [List.cons_append, ERel]; exact ⟨e, _, rfl, h1, h2, h3, ERel.append h4 h'⟩
theorem ERel.setAt {β : Bmap} {k v : AV} {x y : Value} (hk : VRel β k x) (hv : VRel β v y) : ∀ {es : List (AV × AV × Nat)} {l : List MapEntry} {i : Nat}, ERel β es l →
    ERel β (RI.setAt k v es i) (l.modify i fun e => { e with key := x, val := y })
  | [], _, i, h => by simp only [ERel] at h; subst h; cases i <;> simp [RI.setAt, ERel]
  | (_, _, n) :: es, _, 0, h => by
    simp only [ERel] at h; obtain ⟨e, r, rfl, h1, h2, h3, h4⟩ := h
    simp only [RI.setAt, List.modify_zero_cons, ERel]; exact ⟨_, _, rfl, hk, hv, h3, h4⟩
  | (k', v', n) :: es, _, i + 1, h => by
    simp only [ERel] at h; obtain ⟨e, r, rfl, h1, h2, h3, h4⟩ := h
    simp only [RI.setAt, List.modify_succ_cons, ERel]; exact ⟨_, _, rfl, h1, h2, h3, ERel.setAt hk hv h4⟩
theorem sameBits_cells {β : Bmap} : ∀ (ks : List Bool) (x y : List AV) (cx cy : List Value) (d : Nat), eqCells ks x y = some true → LRel β x cx → LRel β y cy →
    (cx.zip cy).all (fun (p : Value × Value) => Instr.sameBits (d + 1) p.1 p.2) = true ∧ cx.length = cy.length
  | [], x, y, cx, cy, d, h, hx, hy => by
    cases x <;> cases y <;> simp [eqCells] at h
    simp only [LRel] at hx hy; subst hx hy; simp
  | k :: ks, x, y, cx, cy, d, h, hx, hy => by
    cases x with
    | nil => cases k <;> simp [eqCells] at h
    | cons a x =>
    cases y with
    | nil => cases k <;> cases a <;> simp [eqCells] at h
    | cons b y =>
    simp only [LRel] at hx hy
    obtain ⟨va, ca, rfl, ha, hx⟩ := hx
    obtain ⟨vb, cb, rfl, hb, hy⟩ := hy
    have fin : Instr.sameBits (d + 1) va vb = true → eqCells ks x y = some true → ((va :: ca).zip (vb :: cb)).all (fun (p : Value × Value) => Instr.sameBits (d + 1) p.1 p.2) = true ∧ (va :: ca).length = (vb :: cb).length := by
      intro h1 h2
      obtain ⟨g1, g2⟩ := sameBits_cells ks x y ca cb d h2 hx hy
      simp only [List.zip_cons_cons, List.all_cons, h1, g1, Bool.and_self, List.length_cons, g2, and_self]
    cases k with
    | true =>
      cases a <;> cases b <;> simp only [eqCells] at h <;> try cases h
      split at h
      · rename_i hk; subst hk
        split at h
        · rename_i hq; cases ha; cases hb
          exact fin (by simp [Instr.sameBits]; simpa using hq) h
        · cases h
      · cases h
    | false =>
      cases a <;> cases b <;> simp only [eqCells] at h <;> try cases h
      obtain ⟨A, rfl, rfl⟩ := ha
      obtain ⟨B, rfl, rfl⟩ := hb
      rw [eqL_spec] at h
      split at h
      · rename_i hq
        exact fin (by simp only [Instr.sameBits, beq_toListBytes, ByteArray.toList_eq]; exact hq) h
      · cases h
theorem sameBits_key {β : Bmap} {st : St} {kk : KK} {a b : AV} (h : eqKey st kk a b = some true) {x y : Value} (hx : VRel β a x) (hy : VRel β b y) (d : Nat) : Instr.sameBits (d + 1 + 1) y x = true := by
  unfold eqKey at h
  split at h
  · split at h
    · rename_i hk; subst hk; simp only [Option.some.injEq] at h; cases hx; cases hy
      have := eq_of_beq h; subst this
      simp [Instr.sameBits]
    · cases h
  · simp only [Option.some.injEq] at h
    obtain ⟨A, rfl, rfl⟩ := hx
    obtain ⟨B, rfl, rfl⟩ := hy
    rw [eqL_spec] at h
    simp only [Instr.sameBits, beq_toListBytes, ByteArray.toList_eq]
    have := eq_of_beq h; rw [this]; simp
  · split at h
    · obtain ⟨cx, hcx, rfl⟩ := hx
      obtain ⟨cy, hcy, rfl⟩ := hy
      have sym : ∀ (ks : List Bool) (x y : List AV), eqCells ks x y = some true → eqCells ks y x = some true := by
        intro ks
        induction ks with
        | nil => intro x y h; cases x <;> cases y <;> simp [eqCells] at h ⊢
        | cons k ks ih =>
          intro x y h
          cases x with
          | nil => cases k <;> simp [eqCells] at h
          | cons a x =>
          cases y with
          | nil => cases k <;> cases a <;> simp [eqCells] at h
          | cons b y =>
          cases k with
          | true =>
            cases a <;> cases b <;> simp only [eqCells] at h ⊢ <;> try cases h
            split at h
            · rename_i hk; subst hk
              split at h
              · rename_i hq
                have := eq_of_beq hq; subst this
                simp [ih _ _ h]
              · cases h
            · cases h
          | false =>
            cases a <;> cases b <;> simp only [eqCells] at h ⊢ <;> try cases h
            rename_i s s'
            have sl : ∀ (a b : List Nat), eqL a b = true → a = b := by
              intro a
              induction a with
              | nil => intro b h; cases b <;> simp [eqL] at h ⊢
              | cons p a ih =>
                intro b h
                cases b with
                | nil => simp [eqL] at h
                | cons q b =>
                  simp only [eqL] at h
                  split at h
                  · rename_i hpq; rw [Nat.eq_of_beq_eq_true hpq, ih b h]
                  · cases h
            split at h
            · rename_i hq
              have := sl _ _ hq; subst this
              rw [hq]; exact ih _ _ h
            · cases h
      obtain ⟨g1, g2⟩ := sameBits_cells _ _ _ cy cx d (sym _ _ _ h) hcy hcx
      simp only [Instr.sameBits, List.size_toArray, Bool.and_eq_true, beq_iff_eq]
      exact ⟨g2, g1⟩
    · cases h
  · obtain ⟨ia, hia, rfl⟩ := hx
    obtain ⟨ib, hib, rfl⟩ := hy
    split at h
    · rename_i hab
      have hab := Nat.eq_of_beq_eq_true hab
      subst hab
      rw [hia] at hib; cases hib
      simp only [Option.some.injEq] at h
      have := Nat.eq_of_beq_eq_true h; subst this
      simp [Instr.sameBits]
    · split at h <;> cases h
  · cases h
variable [cx : Cx]
theorem Rel.putObj {β : Bmap} {st : St} {w : World} (h : Rel β st w) {b : Nat} {o o' : AObj} {im : Img} {co : Obj} (hb : β b = some im) (hg : st.heap.get b = some o) (hk : o.kin = none) (hd : o ≠ .dead) (hk' : o'.kin = none)
    (ho : ∀ w' : World, w'.heap[im.blk]? = some co → ORel β w' o' im) :
    Post β st w β (st.putObj b o') { w with heap := w.heap.setIfInBounds im.blk co } := by
  have hlt := (h.lt _ _ hb).2
  have same : ({ w with heap := w.heap.setIfInBounds im.blk co } : World).heap[im.blk]? = some co := by simp [Array.getElem?_setIfInBounds, hlt]
  have other : ∀ k, k ≠ im.blk → ({ w with heap := w.heap.setIfInBounds im.blk co } : World).heap[k]? = w.heap[k]? := fun k hk => by
    simp only [Array.getElem?_setIfInBounds]; rw [if_neg (Ne.symm hk)]
  have blk : ∀ b' o1 jm, b' ≠ b → st.heap.get b' = some o1 → β b' = some jm → o1 ≠ .dead → jm.blk ≠ im.blk := by
    intro b' o1 jm hne hg' hb' hd' e
    have := (h.sep b b' _ _ im jm (Ne.symm hne) hg hg' hb hb' e.symm hd hd').1
    rw [hk] at this; cases this
  refine ⟨Ext.refl _, fun _ _ => rfl, ?_, Nat.le_refl _, rfl, fun y hy => mem_logw hy, ⟨rfl, rfl, rfl, by simp, fun k hk hall => other k fun e => logw_self st.thr b st.log (hall b im hb e.symm)⟩, fun y _ hgn => ?_, fun b im hb hi _ => absurd (h.lt _ _ hi).1 (Nat.not_lt.2 hb)⟩
  rotate_left
  · have hne : y ≠ b := fun e => by subst e; exact absurd hgn (not_gone hg hd)
    simp only [St.putObj, Tr.get_set_ne _ _ hne]; exact hgn
  constructor
  · intro b' o1 jm hg' hi'
    by_cases e : b' = b
    · subst e; rw [hb] at hi'; cases hi'
      simp only [St.putObj, Tr.get_set_same, Option.some.injEq] at hg'
      subst hg'; exact ho _ same
    · simp only [St.putObj, Tr.get_set_ne _ _ e] at hg'
      by_cases hd' : o1 = .dead
      · subst hd'; trivial
      · exact (h.obj _ _ _ hg' hi').mono (Ext.refl _) (other _ (blk _ _ _ e hg' hi' hd'))
  · intro b' jm hi'; have := h.lt b' jm hi'; simpa [St.putObj] using this
  · intro b1 b2 o1 o2 im1 im2 hne g1 g2 i1 i2 hblk d1 d2
    by_cases e1 : b1 = b
    · subst e1; rw [hb] at i1; cases i1
      simp only [St.putObj, Tr.get_set_ne _ _ (Ne.symm hne)] at g2
      exact absurd hblk.symm (blk _ _ _ (Ne.symm hne) g2 i2 d2)
    · by_cases e2 : b2 = b
      · subst e2; rw [hb] at i2; cases i2
        simp only [St.putObj, Tr.get_set_ne _ _ e1] at g1
        exact absurd hblk (blk _ _ _ e1 g1 i1 d1)
      · simp only [St.putObj, Tr.get_set_ne _ _ e1, Tr.get_set_ne _ _ e2] at g1 g2
        exact h.sep b1 b2 o1 o2 im1 im2 hne g1 g2 i1 i2 hblk d1 d2
  · exact h.thr_le
omit cx in
theorem run_getObj' {P : Program} {w : World} {r : Nat} {o : Obj} (h : w.heap[r]? = some o) (ho : ∀ c e f, o ≠ .cells c e f) : (getObj r).run P w = .ok o w := by
  cases o <;> first | exact absurd rfl (ho _ _ _) | simp only [getObj, Sem.run, h]
omit cx in
theorem run_setObj' {P : Program} {w : World} {r : Nat} {o o' : Obj} (h : w.heap[r]? = some o) (ho : ∀ c e f, o ≠ .cells c e f) : (setObj r o').run P w = .ok () { w with heap := w.heap.setIfInBounds r o' } := by
  cases o <;> first | exact absurd rfl (ho _ _ _) | simp only [setObj, Sem.run, h]
omit cx in
theorem forIn_yields {P : Program} {w : World} {α : Type} {body : α → PUnit → Sem (ForInStep PUnit)} : ∀ {l : List α}, (∀ x ∈ l, (body x PUnit.unit).run P w = .ok (.yield PUnit.unit) w) → (forIn l PUnit.unit body).run P w = .ok PUnit.unit w
  | [], _ => by simp
  | x :: l, h => by
    simp only [List.forIn_cons, Sem.run_bind, h x (by simp), Result.andThen_ok]
    exact forIn_yields fun y hy => h y (List.mem_cons_of_mem _ hy)
section
variable {P : Program} {tt : TT} {β : Bmap} {st : St} {w : World}
def FitK (k : AV) : KK → Prop
  | .struct ks => ∃ l, k = .agg l ∧ l.length = ks.length
  | .int => ∃ j n, k = .int j n
  | .str => ∃ s, k = .str s
  | .ptr => ∃ b o, k = .ptr b o
omit cx in
theorem s_checkKey (hT : TTok P tt) (em : Bool) (d : Nat) {kt : Nat} {kk : KK} (hk : KKok P tt kt kk) {k : AV} {x : Value} (hx : VRel β k x) (hfit : FitK k kk) :
    (Instr.checkKey em (d + 1 + 1) kt x).run P w = .ok () w := by
  cases kk with
  | int => obtain ⟨j, hj⟩ := hk; obtain ⟨j', n, rfl⟩ := hfit; cases hx; simp [Instr.checkKey, run_underlying' hj]
  | str => obtain ⟨s, rfl⟩ := hfit; obtain ⟨B, rfl, _⟩ := hx; simp [Instr.checkKey, run_underlying' (show P.underlying kt = some .string from hk)]
  | ptr => obtain ⟨e, te, hu, _⟩ := hk; obtain ⟨b, o, rfl⟩ := hfit; obtain ⟨im, _, rfl⟩ := hx; simp [Instr.checkKey, run_underlying' hu]
  | struct ks =>
    obtain ⟨l, rfl, hlen⟩ := hfit
    obtain ⟨c, hc, rfl⟩ := hx
    obtain ⟨fs, hu, hp, _⟩ := hk
    have hcl := hc.length
    have key : ∀ (fl : List Field) (i : Nat) (ks : List Bool), plainFields tt fl i = some ks → i + fl.length ≤ c.length → ∀ f ∈ fl, f.name ≠ "_" ∧ ∃ v, (part f.type c.toArray f.offset).run P w = .ok v w ∧ (Instr.checkKey em (d + 1) f.type v).run P w = .ok () w := by
      intro fl
      induction fl with
      | nil => intro i ks _ _ f hf; cases hf
      | cons f fl ih =>
        intro i ks hp hle
        obtain ⟨hoff, hname, ti, k, ks', hti, rfl, hrest, hsz, hk1, hk2⟩ := plainFields_cons hp
        have hok := hT _ _ hti
        have hagg : ti.agg = false := by
          unfold TI.agg
          cases k with
          | true => obtain ⟨j, hj⟩ := hk1 rfl; rw [hj]
          | false => rw [hk2 rfl]
        have hi : i < c.length := by simp at hle; omega
        have pX : (part f.type c.toArray f.offset).run P w = .ok c[i] w := by rw [hoff]; simp [part, hok.run_agg, hagg, hi]
        have pC : (Instr.checkKey em (d + 1) f.type c[i]).run P w = .ok () w := by
          rw [Instr.checkKey]
          cases k with
          | true => obtain ⟨j, hj⟩ := hk1 rfl; simp only [Sem.run_bind, hok.run_und, hj, Result.andThen_ok]; rfl
          | false => simp only [Sem.run_bind, hok.run_und, hk2 rfl, Result.andThen_ok]; rfl
        intro g hg
        rcases List.mem_cons.1 hg with e | e
        · subst e; exact ⟨hname, _, pX, pC⟩
        · exact ih (i + 1) ks' hrest (by simp at hle; omega) g e
    have hfl := plainFields_length hp
    have key := key fs.toList 0 ks hp (by omega)
    rw [Instr.checkKey]
    simp only [Sem.run_bind, run_underlying' hu, Result.andThen_ok]
    rw [← Array.forIn_toList, forIn_yields (w := w)]
    · simp only [Result.andThen_ok, Sem.run_pure]
    · intro f hf
      obtain ⟨h1, v, h2, h3⟩ := key f hf
      simp only [if_pos h1, Sem.run_bind, h2, h3, Result.andThen_ok, Sem.run_pure]
end
end Go.RI
namespace Go.RI
theorem list_findIdx (l : List MapEntry) (p : MapEntry → Bool) : l.toArray.findIdx? p = l.findIdx? p := by simp
theorem arr_findIdx (a : Array MapEntry) (p : MapEntry → Bool) : a.findIdx? p = a.toList.findIdx? p := by
  have h := list_findIdx a.toList p
  simpa using h
variable [cx : Cx]
omit cx in
theorem fitKey_spec {kk : KK} {k : AV} (h : fitKey kk k = true) : FitK k kk := by
  unfold fitKey at h
  split at h
  · exact ⟨_, _, rfl⟩
  · exact ⟨_, rfl⟩
  · exact ⟨_, _, rfl⟩
  · exact ⟨_, rfl, lenIs_spec h⟩
  · cases h
omit cx in
theorem findK_spec {st : St} {kk : KK} {k : AV} {es : List (AV × AV × Nat)} {r : Option (Nat × AV × Nat)} (h : findK st kk k es = some r) : fitKey kk k = true ∧ findKeyA st kk k es 0 = some r := by
  unfold findK at h
  split at h
  · rename_i hf; exact ⟨hf, h⟩
  · cases h
section
variable {P : Program} {tt : TT} {β : Bmap} {st : St} {w : World} (hr : Rel β st w)
include hr
omit hr cx in
theorem s_checkKey' (hT : TTok P tt) (em : Bool) {kt : Nat} {kk : KK} (hk : KKok P tt kt kk) {k : AV} {x : Value} (hx : VRel β k x) (hf : fitKey kk k = true) : (Instr.checkKey em 10000 kt x).run P w = .ok () w :=
  s_checkKey hT em 9998 hk hx (fitKey_spec hf)
theorem s_lookup (hT : TTok P tt) {t kt e : Nat} {ti ei : TI} (hi : TIok P t ti) (hu : ti.und = .map kt e) (he : TIok P e ei) {kk : KK} (hk : KKok P tt kt kk) {ok : Bool}
    {m k : AV} {x y : Value} (hx : VRel β m x) (hy : VRel β k y) {r : Option (Nat × AV × Nat)}
    (h : lookK st kk m k = some r) :
    ∃ v, (Instr.lookup t x y ok).run P w = .ok v w ∧ VRel β (lookRes ok ei.zero r) v := by
  obtain ⟨z, hz, hzs, hzr⟩ := he.run_zero β
  have fin : ∀ (es : List (AV × AV × Nat)) (l : Array MapEntry), ERel β es l.toList → findK st kk k es = some r → ∀ xs : Sem (Array MapEntry), xs.run P w = .ok l w →
      ∃ v, ((do
        let es ← xs
        Instr.checkKey es.isEmpty 10000 kt y
        let (v, ok') ← match ← Instr.findKey kt y es.toList with
          | some (_, v) => pure (v, true)
          | none => pure (← zeroValue e, false)
        pure (if ok then .tuple #[v, .bool ok'] else v)) : Sem Value).run P w = .ok v w ∧ VRel β (lookRes ok ei.zero r) v := by
    intro es l hl hf xs hxs
    obtain ⟨f1, f2⟩ := findK_spec hf
    obtain ⟨c, hc, hcr⟩ := s_findKey hT hr hk hy hl f2
    cases r with
    | none =>
      simp only [FRel] at hcr; subst hcr
      cases ok with
      | true => exact ⟨.tuple #[z, .bool false], by simp only [Sem.run_bind, hxs, Result.andThen_ok, s_checkKey' hT _ hk hy f1, hc, hzr, Sem.run_pure, if_true], [z, .bool false], by simp only [LRel, VRel]; exact ⟨_, _, rfl, hz, _, _, rfl, rfl, rfl⟩, rfl⟩
      | false => exact ⟨z, by simp only [Sem.run_bind, hxs, Result.andThen_ok, s_checkKey' hT _ hk hy f1, hc, hzr, Sem.run_pure, Bool.false_eq_true, if_false], hz⟩
    | some p =>
      obtain ⟨i, v, n⟩ := p
      obtain ⟨en, k', q1, q2, q3, rfl, q5, q6, q7, q8⟩ := hcr
      cases ok with
      | true => exact ⟨.tuple #[en.val, .bool true], by simp only [Sem.run_bind, hxs, Result.andThen_ok, s_checkKey' hT _ hk hy f1, hc, Sem.run_pure, if_true], [en.val, .bool true], by simp only [LRel, VRel]; exact ⟨_, _, rfl, q5, _, _, rfl, rfl, rfl⟩, rfl⟩
      | false => exact ⟨en.val, by simp only [Sem.run_bind, hxs, Result.andThen_ok, s_checkKey' hT _ hk hy f1, hc, Sem.run_pure, Bool.false_eq_true, if_false], q5⟩
  cases m
  case nilm =>
    cases hx
    have := fin [] #[] (by simp [ERel]) h (pure #[]) rfl
    simp only [Instr.lookup, Sem.run_bind, hi.run_und, hu, Result.andThen_ok] at this ⊢
    exact this
  case map b =>
    simp only [lookK] at h
    split at h
    · rename_i es cl hg
      obtain ⟨im, hb, rfl⟩ := hx
      obtain ⟨h0, ces, hw, hes⟩ := hr.obj _ _ _ hg hb
      have hgo : (getObj im.blk).run P w = .ok (.map ces cl) w := run_getObj' hw (by intro _ _ _ h; cases h)
      have := fin es ces hes h (pure ces) rfl
      simp only [Instr.lookup, Sem.run_bind, hi.run_und, hu, Result.andThen_ok, hgo, Sem.run_pure] at this ⊢
      exact this
    · cases h
  all_goals simp [lookK] at h
omit hr cx in
theorem s_keyStays {kk : KK} {k k' : AV} {x y : Value} (h : eqKey st kk k k' = some true) (hx : VRel β k x) (hy : VRel β k' y) : (Instr.keyThatStays y x).run P w = .ok x w := by
  simp only [Instr.keyThatStays, sameBits_key h hx hy 9998, if_true, Sem.run_pure]
omit hr cx in
theorem modify_toList (es : Array MapEntry) (i : Nat) (f : MapEntry → MapEntry) : (es.modify i f).toList = es.toList.modify i f := by simp
theorem s_mapUpd (hT : TTok P tt) {t kt e : Nat} {ti : TI} (hi : TIok P t ti) (hu : ti.und = .map kt e) {kk : KK} (hk : KKok P tt kt kk) {b : Nat} {k v : AV} {x y z : Value} (hx : VRel β (.map b) x) (hy : VRel β k y) (hz : VRel β v z)
    {st' : St} (h : st.upd kk b k v = some st') : Does P (do Instr.mapUpdate t x y z; pure Next.skip) β st w undefA st' := by
  obtain ⟨im, hb, rfl⟩ := hx
  unfold St.upd at h
  split at h
  case h_2 => cases h
  rename_i es cl hg
  obtain ⟨h0, ces, hw, hes⟩ := hr.obj _ _ _ hg hb
  have hnc : ∀ c e f, Obj.map ces cl ≠ .cells c e f := by intro _ _ _ h; cases h
  split at h
  case h_3 => cases h
  · rename_i i v0 n0 hf
    cases h
    obtain ⟨f1, f2⟩ := findK_spec hf
    obtain ⟨c, hc, hcr⟩ := s_findKey hT hr hk hy hes f2
    obtain ⟨en, k', q1, q2, q3, rfl, q5, q6, q7, q8⟩ := hcr
    simp only [Nat.sub_zero] at q2
    have q2' : ces[i]? = some en := by simpa using q2
    refine Does.ofU (w' := { w with heap := w.heap.setIfInBounds im.blk (.map (ces.modify i fun e => { e with key := y, val := z }) cl) }) ?_
      (hr.putObj hb hg rfl (by simp) rfl fun w' hw' => ⟨h0, _, hw', by rw [modify_toList]; exact hes.setAt hy hz⟩)
    simp only [Instr.mapUpdate, Sem.run_bind, hi.run_und, hu, Result.andThen_ok, run_getObj' hw hnc, s_checkKey' hT _ hk hy f1, hc, q2', Option.map_some, Option.getD_some, s_keyStays q8 hy q6, run_setObj' hw hnc]
  · rename_i hf
    cases h
    obtain ⟨f1, f2⟩ := findK_spec hf
    obtain ⟨c, hc, hcr⟩ := s_findKey hT hr hk hy hes f2
    simp only [FRel] at hcr; subst hcr
    refine Does.ofU (w' := { w with heap := w.heap.setIfInBounds im.blk (.map (ces.push { key := y, val := z, born := cl }) (cl + 1)) }) ?_
      (hr.putObj hb hg rfl (by simp) rfl fun w' hw' => ⟨h0, _, hw', by rw [Array.toList_push]; exact hes.append (by simp only [ERel]; exact ⟨_, _, rfl, hy, hz, rfl, rfl⟩)⟩)
    simp only [Instr.mapUpdate, Sem.run_bind, hi.run_und, hu, Result.andThen_ok, run_getObj' hw hnc, s_checkKey' hT _ hk hy f1, hc, run_setObj' hw hnc]
theorem s_mapEnt (hT : TTok P tt) {t kt e : Nat} {ti ei : TI} (hi : TIok P t ti) (hu : ti.und = .map kt e) (he : TIok P e ei) {kk : KK} (hk : KKok P tt kt kk) {b : Nat} {k : AV} {x y : Value} (hx : VRel β (.map b) x) (hy : VRel β k y)
    {es : List (AV × AV × Nat)} {cl : Nat} (hg : st.heap.get b = some (.map es cl)) {r : Option (Nat × AV × Nat)} (hf : findK st kk k es = some r) :
    match r with
    | some (i, v, n) => Does P (do pure (Next.value (← Instr.mapEntry t x y))) β st w (.tuple [v, .int .i64 (.ofNat n)]) (st.putObj b (.map (setAt k v es i) cl))
    | none => Does P (do pure (Next.value (← Instr.mapEntry t x y))) β st w (.tuple [ei.zero, .int .i64 (.ofNat cl)]) (st.putObj b (.map (es ++ [(k, ei.zero, cl)]) (Nat.succ cl))) := by
  obtain ⟨im, hb, rfl⟩ := hx
  obtain ⟨h0, ces, hw, hes⟩ := hr.obj _ _ _ hg hb
  have hnc : ∀ c e f, Obj.map ces cl ≠ .cells c e f := by intro _ _ _ h; cases h
  obtain ⟨f1, f2⟩ := findK_spec hf
  obtain ⟨c, hc, hcr⟩ := s_findKey hT hr hk hy hes f2
  cases r with
  | some p =>
    obtain ⟨i, v, n⟩ := p
    obtain ⟨en, k', q1, q2, q3, rfl, q5, q6, q7, q8⟩ := hcr
    simp only [Nat.sub_zero] at q2
    have q2' : ces[i]? = some en := by simpa using q2
    refine Does.of (v' := .tuple #[en.val, .int .i64 (n : Int)]) (w' := { w with heap := w.heap.setIfInBounds im.blk (.map (ces.modify i fun e => { e with key := y }) cl) }) ?_
      ⟨[en.val, .int .i64 (n : Int)], by simp only [LRel, VRel]; exact ⟨_, _, rfl, q5, _, _, rfl, rfl, rfl⟩, rfl⟩
      (hr.putObj hb hg rfl (by simp) rfl fun w' hw' => ⟨h0, _, hw', ?_⟩)
    · simp only [Instr.mapEntry, Sem.run_bind, hi.run_und, hu, Result.andThen_ok, run_getObj' hw hnc, s_checkKey' hT _ hk hy f1, hc, q2', Option.map_some, Option.getD_some, s_keyStays q8 hy q6, run_setObj' hw hnc, Sem.run_pure, q7, goInt]
    · have : (ces.modify i fun e => { e with key := y }) = (ces.modify i fun e => { e with key := y, val := en.val }) := by
        apply Array.ext_getElem?
        intro j
        rw [Array.getElem?_modify, Array.getElem?_modify]
        by_cases hj : i = j
        · subst hj; simp [q2']
        · simp [hj]
      rw [this, modify_toList]; exact hes.setAt hy q5
  | none =>
    simp only [FRel] at hcr; subst hcr
    obtain ⟨z, hz, hzs, hzr⟩ := he.run_zero β
    refine Does.of (v' := .tuple #[z, .int .i64 (cl : Int)]) (w' := { w with heap := w.heap.setIfInBounds im.blk (.map (ces.push { key := y, val := z, born := cl }) (cl + 1)) }) ?_
      ⟨[z, .int .i64 (cl : Int)], by simp only [LRel, VRel]; exact ⟨_, _, rfl, hz, _, _, rfl, rfl, rfl⟩, rfl⟩
      (hr.putObj hb hg rfl (by simp) rfl fun w' hw' => ⟨h0, _, hw', by rw [Array.toList_push]; exact hes.append (by simp only [ERel]; exact ⟨_, _, rfl, hy, hz, rfl, rfl⟩)⟩)
    simp only [Instr.mapEntry, Sem.run_bind, hi.run_und, hu, Result.andThen_ok, run_getObj' hw hnc, s_checkKey' hT _ hk hy f1, hc, hzr, run_setObj' hw hnc, Sem.run_pure, goInt]
omit hr cx in
theorem setBorn_rel {s : Nat} {v : AV} {z : Value} (hz : VRel β v z) : ∀ {es es' : List (AV × AV × Nat)} {l : List MapEntry}, ERel β es l → setBorn s v es = some es' →
    ∃ i, l.findIdx? (fun e => (e.born : Int) == (s : Int)) = some i ∧ ERel β es' (l.modify i fun e => { e with val := z })
  | [], es', l, he, h => by simp [setBorn] at h
  | (k', v', n) :: es, es', l, he, h => by
    simp only [ERel] at he; obtain ⟨e, r, rfl, h1, h2, h3, h4⟩ := he
    simp only [setBorn] at h
    split at h
    · rename_i hn
      have hn := Nat.eq_of_beq_eq_true hn
      cases h
      refine ⟨0, by simp [List.findIdx?_cons, h3, hn], ?_⟩
      simp only [List.modify_zero_cons, ERel]; exact ⟨_, _, rfl, h1, hz, h3, h4⟩
    · rename_i hn
      split at h
      · rename_i es'' hr'
        cases h
        obtain ⟨i, g1, g2⟩ := setBorn_rel hz h4 hr'
        have hne : ¬ (n : Int) = (s : Int) := fun e' => by
          have : n = s := by omega
          subst this; rw [Nat.beq_refl] at hn; cases hn
        refine ⟨i + 1, by simp [List.findIdx?_cons, h3, hne, g1], ?_⟩
        simp only [List.modify_succ_cons, ERel]; exact ⟨_, _, rfl, h1, h2, h3, g2⟩
      · cases h
theorem s_entSt {t b s : Nat} {v : AV} {x y z : Value} (hx : VRel β (.map b) x) {j : IntKind} (hy : y = .int j (s : Int)) (hz : VRel β v z) {es es' : List (AV × AV × Nat)} {cl : Nat} (hg : st.heap.get b = some (.map es cl)) (h : setBorn s v es = some es') :
    Does P (do Instr.entryStore t x y z; pure Next.skip) β st w undefA (st.putObj b (.map es' cl)) := by
  obtain ⟨im, hb, rfl⟩ := hx
  subst hy
  obtain ⟨h0, ces, hw, hes⟩ := hr.obj _ _ _ hg hb
  have hnc : ∀ c e f, Obj.map ces cl ≠ .cells c e f := by intro _ _ _ h; cases h
  obtain ⟨i, g1, g2⟩ := setBorn_rel hz hes h
  have g1' : ces.findIdx? (fun e => (e.born : Int) == (s : Int)) = some i := by rw [← g1]; exact arr_findIdx _ _
  refine Does.ofU (w' := { w with heap := w.heap.setIfInBounds im.blk (.map (ces.modify i fun e => { e with val := z }) cl) }) ?_
    (hr.putObj hb hg rfl (by simp) rfl fun w' hw' => ⟨h0, _, hw', by rw [modify_toList]; exact g2⟩)
  simp only [Instr.entryStore, Sem.run_bind, Result.andThen_ok, run_getObj' hw hnc, asInt, asIntOf, Sem.run_pure, g1', run_setObj' hw hnc]
theorem s_lenMap {t kt e : Nat} {ti : TI} (hi : TIok P t ti) (hu : ti.und = .map kt e) {ty : TypeId} {b : Nat} {x : Value} (hx : VRel β (.map b) x) {ts : Array TypeId} (hts : ts[0]? = some t) {es : List (AV × AV × Nat)} {cl : Nat} (hg : st.heap.get b = some (.map es cl)) :
    (Builtin.len_ ts ty #[x]).run P w = .ok (.int .i64 (es.length : Int)) w := by
  obtain ⟨im, hb, rfl⟩ := hx
  obtain ⟨h0, ces, hw, hes⟩ := hr.obj _ _ _ hg hb
  have hnc : ∀ c e f, Obj.map ces cl ≠ .cells c e f := by intro _ _ _ h; cases h
  have := hes.length
  have hl : ces.size = es.length := by simpa using this
  simp [Builtin.len_, hts, hi.run_und, hu, run_getObj' hw hnc, goInt, hl]
end
end Go.RI
namespace Go.RI
variable [cx : Cx]
section
variable {P : Program} {tt : TT} {β : Bmap} {st : St} {w : World} (hr : Rel β st w)
include hr
theorem s_mkMap {t kt e : Nat} {ti : TI} (hi : TIok P t ti) (hu : ti.und = .map kt e) {r : Option Value} (hres : r = none ∨ ∃ k n, r = some (.int k n)) :
    Does P (do pure (Next.value (← Instr.makeMap t r))) β st w (.map st.next) (st.new (.map [] 0)) := by
  have hp := hr.alloc (.map [] 0) (.map #[] 0) ⟨w.heap.size, 0, 0⟩ rfl ⟨rfl, #[], heap_push_new _ _, by simp [ERel]⟩
  refine Does.of (v' := .map (some w.heap.size)) ?_ ⟨_, Bmap.add_same _ _ _, rfl⟩ hp
  rcases hres with rfl | ⟨k, n, rfl⟩
  · simp [Instr.makeMap]
  · simp [Instr.makeMap, hi.run_und, hu, asInt, asIntOf]
theorem s_mkSlice {t e : Nat} {ti ei : TI} (hi : TIok P t ti) (hu : ti.und = .slice e) (he : TIok P e ei) {x y : Value} {l c : Nat} {j k : IntKind} (hx : x = .int j (l : Int)) (hy : y = .int k (c : Int)) (hlc : l ≤ c) (hb : ei.bytes * c ≤ 281474976710656) (hc : c ≤ 1000000) :
    Does P (do pure (Next.value (← Instr.makeSlice t x y))) β st w (.slice st.next 0 l c ei.size) (newCells st e (List.replicate c ei.zero.cells).flatten) := by
  subst hx hy
  obtain ⟨z, hz, hzs, hzr⟩ := he.run_zero β
  obtain ⟨info, hib, his, hir⟩ := he.run_info
  have hzl := hz.cells
  obtain ⟨cells, hcells⟩ : ∃ cells : Array Value, cells = (Array.range (c * ei.size)).map (z.cells[· % z.cells.size]!) := ⟨_, rfl⟩
  have hcl : cells.toList = (List.replicate c z.cells.toList).flatten := by rw [hcells]; exact range_zero z.cells ei.size c hzs
  have hsz : cells.size = c * ei.size := by rw [hcells, Array.size_map, Array.size_range]
  have hp := hr.allocCells e (List.replicate c ei.zero.cells).flatten cells.toList (by rw [hcl]; exact hzl.replicate c) []
  have w64 : ∀ n : Nat, n ≤ 1000000 → IntKind.i64.wrap (n : Int) = (n : Int) := fun n hn => IntWalk.i64_in _ ⟨by omega, by omega⟩
  refine Does.of (v' := .slice (some ⟨w.heap.size, 0, none⟩) l c) (w' := w.alloc (.cells cells e)) ?_ ⟨⟨w.heap.size, 0, cells.toList.length + ([] : List Value).length⟩, Bmap.add_same _ _ _, c, _, rfl, .inl rfl, Nat.le_refl _, hlc, by simp [hsz]⟩ (by simpa [newCells] using hp)
  have h1 : ¬ ((c : Int) < 0) := by omega
  have h2 : ¬ ((info.bytes : Int) * (c : Int) > 2 ^ 48) := by
    rw [hib]
    have : ((ei.bytes * c : Nat) : Int) ≤ ((281474976710656 : Nat) : Int) := Int.ofNat_le.2 hb
    rw [Int.natCast_mul] at this
    omega
  have h3 : ¬ ((l : Int) < 0) := by omega
  have h4 : ¬ ((l : Int) > (c : Int)) := by omega
  simp only [Instr.makeSlice, Sem.run_bind, hi.run_und, hu, Result.andThen_ok, asInt, asIntOf, Sem.run_pure, hir, w64 l (by omega), w64 c hc]
  have hcond : ((decide ((c : Int) < 0) || decide ((info.bytes : Int) * (c : Int) > 2 ^ 48)) || decide ((l : Int) < 0) || decide ((l : Int) > (c : Int))) = false := by
    simp only [h1, h2, h3, h4, decide_false, Bool.or_self]
  rw [if_neg (by rw [hcond]; simp)]
  simp only [Sem.run_bind, run_askRoom, Result.andThen_ok, he.run_size, Int.toNat_natCast]
  by_cases h0 : c * ei.size = 0
  · have e0 : cells = #[] := by
      apply Array.eq_empty_of_size_eq_zero; rw [hsz, h0]
    simp only [h0, if_true, Sem.run_pure, Result.andThen_ok, Sem.run_bind, newRow, run_newObj]
    have e1 : ∀ f : Nat → Value, Array.map f (Array.range 0) = #[] := fun f => by simp
    rw [e0, e1]; rfl
  · simp only [h0, if_false, hzr, Sem.run_bind, Sem.run_pure, Result.andThen_ok, newRow, run_newObj]
    rw [← hcells]; rfl
theorem s_copy {t e : Nat} {ti ei : TI} (hi : TIok P t ti) (hu : ti.und = .slice e) (he : TIok P e ei) {ts : Array TypeId} {ty : TypeId} (hts : ts[0]? = some t) {b off n cap b2 off2 n2 cap2 : Nat} {x y : Value} (hx : VRel β (.slice b off n cap ei.size) x) (hy : VRel β (.slice b2 off2 n2 cap2 ei.size) y)
    {l : List AV} (hl : st.rdN b2 off2 (Nat.min n2 n * ei.size) = some l) {st' : St} (h : st.wrL b off l = some st') :
    Does P (do pure (Next.value (← Builtin.copy_ ts ty #[x, y]))) β st w (.int .i64 (.ofNat (Nat.min n2 n))) st' := by
  obtain ⟨im, hb, cap', o, rfl, ho, hc1, hc2, hc3⟩ := hx
  obtain ⟨im2, hb2, cap2', o2, rfl, ho2, hd1, hd2, hd3⟩ := hy
  obtain ⟨cs, g1, g2, g3⟩ := hr.rdN hl hb2
  have hload : (loadCells o2 (Nat.min n2 n * ei.size)).run P w = .ok cs.toArray w := by
    rw [← g1]
    refine run_loadCells_list (P := P) (w := w) _ cs (fun j v hj => ?_)
    rcases ho2 with h | h
    · rw [h, addr_add]; exact g3 j v hj
    · have : Nat.min n2 n = 0 := by have h9 : Nat.min n2 n ≤ n2 := Nat.min_le_left n2 n; omega
      rw [this] at g1; simp at g1; subst g1; simp at hj
  have hst : ∃ w', (storeCells o cs).run P w = .ok () w' ∧ Post β st w β st' w' := by
    rcases ho with h' | h'
    · rw [h']; exact Rel.wrL (P := P) (off := off) (j := 0) hr h hb g2 rfl
    · have : Nat.min n2 n = 0 := by have h9 : Nat.min n2 n ≤ n := Nat.min_le_right n2 n; omega
      rw [this] at g1; simp at g1; subst g1
      have := g2.length; simp at this
      have hl0 : l = [] := List.length_eq_zero_iff.1 this.symm
      subst hl0
      simp only [St.wrL, Option.some.injEq] at h; subst h
      exact ⟨w, rfl, Post.refl hr⟩
  obtain ⟨w', s1, s2⟩ := hst
  refine Does.of (v' := .int .i64 ((Nat.min n2 n : Nat) : Int)) (w' := w') ?_ rfl s2
  simp only [Builtin.copy_, hts]
  simp only [List.getElem?_toArray, List.getElem?_cons_zero, List.getElem?_cons_succ, Sem.run_bind, hi.run_und, hu, Result.andThen_ok, Builtin.lenOf, Sem.run_pure, he.run_size, Builtin.firstCells, hload]
  rw [s1]; rfl
omit hr cx in
theorem growBy_le (n : Nat) : ∀ (r c : Nat), 256 ≤ c → Builtin.growBy n r c ≤ 2 ^ r * c
  | 0, c, _ => by simp [Builtin.growBy]
  | r + 1, c, hc => by
    unfold Builtin.growBy
    split
    · have : 1 ≤ 2 ^ (r + 1) := Nat.one_le_two_pow
      calc c = 1 * c := by omega
        _ ≤ 2 ^ (r + 1) * c := Nat.mul_le_mul_right _ this
    · have h1 := growBy_le n r (c + (c + 768) / 4) (by omega)
      have h2 : c + (c + 768) / 4 ≤ 2 * c := by omega
      calc _ ≤ 2 ^ r * (c + (c + 768) / 4) := h1
        _ ≤ 2 ^ r * (2 * c) := Nat.mul_le_mul_left _ h2
        _ = 2 ^ (r + 1) * c := by rw [Nat.pow_succ]; rw [Nat.mul_assoc]
omit hr cx in
theorem nextcap_le {need old : Nat} (h : old < need) : Builtin.nextslicecap need old ≤ 16 * need := by
  unfold Builtin.nextslicecap
  split
  · omega
  · split
    · omega
    · have := growBy_le need 4 old (by omega); omega
end
end Go.RI
