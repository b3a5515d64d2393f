/- A compiler from bodies of Go functions into a small language of values and blocks, and the proof that a run of the compiled text is a run of the program. Conditions: none. -/
import Derived.Test.YtaplnebenndkgaaGreatDoorT04
set_option linter.all false
namespace Go.RI
structure Src (P : Program) (β : Bmap) (w : World) (es n : Nat) (x : Value) (l : List AV) (c : List Value) : Prop where
  len : ∀ w, (Builtin.lenOf x).run P w = .ok n w
  cells : ∀ k, (Builtin.firstCells es n x).run P { w with drawn := k } = .ok c.toArray { w with drawn := k }
  rel : LRel β l c
  size : l.length = n * es
theorem cell_drawn (w : World) (k : Nat) (a : Addr) : ({ w with drawn := k } : World).cell? a = w.cell? a := rfl
theorem zeroCells_size (z : Array Value) (n : Nat) : (Builtin.zeroCells z n).size = n * z.size := by simp [Builtin.zeroCells]
variable [cx : Cx]
omit cx in
theorem Src.nils (P : Program) (β : Bmap) (w : World) (es : Nat) : Src P β w es 0 (.slice none 0 0) [] [] :=
  ⟨fun _ => rfl, fun _ => rfl, by simp [LRel], by simp⟩
omit cx in
theorem Src.str {P : Program} {β : Bmap} {w : World} {s : List Nat} {x : Value} (hx : VRel β (.str s) x) : ∃ c, Src P β w 1 s.length x (s.map fun n => .int .u8 (.ofNat n)) c := by
  obtain ⟨B, rfl, rfl⟩ := hx
  refine ⟨(B.data.toList.map UInt8.toNat).map fun (n : Nat) => Value.int .u8 (n : Int), ?_, ?_, ints_rel β _, by simp⟩
  · intro w; simp only [Builtin.lenOf, List.length_map, Array.length_toList]; rfl
  · intro k
    simp only [Builtin.firstCells, Sem.run_pure]
    congr 1
    have : (B.extract 0 (B.data.toList.map UInt8.toNat).length).data = B.data := by
      rw [List.length_map, Array.length_toList, ByteArray.data_extract]; simp
    rw [this]
    apply Array.toList_inj.1
    simp [Function.comp_def]
section
variable {P : Program} {tt : TT} {β : Bmap} {st : St} {w : World} (hr : Rel β st w)
include hr
theorem Src.slice {b off n cap es : Nat} {x : Value} (hx : VRel β (.slice b off n cap es) x) {l : List AV} (hl : st.rdN b off (n * es) = some l) : ∃ c, Src P β w es n x l c := by
  obtain ⟨im, hb, cap', o, rfl, ho, hc1, hc2, hc3⟩ := hx
  obtain ⟨cs, g1, g2, g3⟩ := hr.rdN hl hb
  refine ⟨cs, fun _ => rfl, fun k => ?_, g2, by have := g2.length; omega⟩
  simp only [Builtin.firstCells]
  rw [← g1]
  refine run_loadCells_list (P := P) (w := { w with drawn := k }) _ cs (fun j v hj => ?_)
  rcases ho with h | h
  · rw [h, addr_add, cell_drawn]; exact g3 j v hj
  · have : n = 0 := by omega
    rw [this] at g1; simp at g1; subst g1; simp at hj
theorem s_app {t tx e : Nat} {ti xi ei : TI} (hi : TIok P t ti) (hu : ti.und = .slice e) (he : TIok P e ei) (hxi : TIok P tx xi) (hxu : ∀ k, xi.und ≠ .int k) {ts : Array TypeId} {ty : TypeId} (hts : ts[0]? = some t) (htx : ts[1]? = some tx)
    {s : AV} {sv xv : Value} (hs : VRel β s sv) {n : Nat} {l : List AV} {c : List Value} (hsrc : Src P β w ei.size n xv l c) {v : AV} {st' : St} (h : appA st e ei.size ei.bytes s l n = some (v, st')) :
    Does P (do pure (Next.value (← Builtin.append_ ts ty #[sv, xv]))) β st w v st' := by
  obtain ⟨z, hz, hzs, hzr⟩ := he.run_zero β
  obtain ⟨info, hib, his, hir⟩ := he.run_info
  have hlen := hsrc.rel.length
  have hsize := hsrc.size
  have hcs : c.length = n * ei.size := by omega
  have hi64 : (IntKind.i64.max : Int) = 9223372036854775807 := by decide
  have hmatch : (xi.und matches .int _) = false := by
    cases hq : xi.und <;> first | rfl | exact absurd hq (hxu _)
  have c0 : (Builtin.firstCells ei.size n xv).run P w = .ok c.toArray w := hsrc.cells w.drawn
  have c1 : (Builtin.firstCells ei.size n xv).run P w.drew = .ok c.toArray w.drew := hsrc.cells (w.drawn + 1)
  have e0 : (#[sv, xv] : Array Value)[0]? = some sv := rfl
  have e1 : (#[sv, xv] : Array Value)[1]? = some xv := rfl
  have room : ∀ (base : Option Addr) (sLen sCap : Nat) (w' : World), sv = .slice base sLen sCap → sLen + n ≤ sCap → (match base with | some a => (storeCells (a.add (sLen * ei.size)) c).run P w = .ok () w' | none => w' = w) →
      (Builtin.append_ ts ty #[sv, xv]).run P w = .ok (.slice base (sLen + n) sCap) w' := by
    intro base sLen sCap w' hsv hle hst
    subst hsv
    simp only [Builtin.append_, hts, htx, e0, e1, Sem.run_bind, hi.run_und, hu, Result.andThen_ok, he.run_size, hxi.run_und, Sem.run_pure, hsrc.len, hmatch, Bool.false_eq_true, if_false, Bool.not_false, if_true, if_pos hle, c0]
    cases base with
    | none => simp only at hst; subst hst; rfl
    | some a => simp only at hst; simp only [Sem.run_bind, hst, Result.andThen_ok, Sem.run_pure]
  have grow : ∀ (base : Option Addr) (sLen sCap : Nat) (old : List Value), sv = .slice base sLen sCap → ¬ sLen + n ≤ sCap → sLen + n ≤ 281474976710656 → 16 * (sLen + n) * ei.bytes ≤ 281474976710656 →
      (∀ k, (Builtin.firstCells ei.size sLen (.slice base sLen sCap)).run P { w with drawn := k } = .ok old.toArray { w with drawn := k }) →
      ∃ (newCap : Nat) (rest : List Value), sLen + n ≤ newCap ∧ rest.length = (newCap - (sLen + n)) * ei.size ∧
        (Builtin.append_ ts ty #[sv, xv]).run P w = .ok (.slice (some ⟨w.heap.size, 0, none⟩) (sLen + n) newCap) (w.drew.alloc (.cells (old ++ c ++ rest).toArray e)) := by
    intro base sLen sCap old hsv hle hb1 hb2 hold
    subst hsv
    obtain ⟨newCap, hnc⟩ : ∃ m, m = (Question.appendCap (sLen + n) sCap e).cut (w.tape w.drawn (.appendCap (sLen + n) sCap e)) := ⟨_, rfl⟩
    have hge : sLen + n ≤ newCap := by rw [hnc]; exact Nat.le_add_right _ _
    refine ⟨newCap, (Builtin.zeroCells z.cells (newCap - (sLen + n))).toList, hge, by rw [Array.length_toList, zeroCells_size, hzs], ?_⟩
    have hch : (choose (.appendCap (sLen + n) sCap e)).run P w = .ok newCap w.drew := by rw [hnc]; rfl
    have h1 : ¬ (((sLen + n : Nat) : Int) > IntKind.i64.max ∧ ((false = true) ∨ info.bytes = 0)) := by rw [hi64]; omega
    have h2 : ¬ (Builtin.nextslicecap (sLen + n) sCap * info.bytes > 2 ^ 48) := by
      have := nextcap_le (need := sLen + n) (old := sCap) (by omega)
      have : Builtin.nextslicecap (sLen + n) sCap * ei.bytes ≤ 16 * (sLen + n) * ei.bytes := Nat.mul_le_mul_right _ this
      rw [hib]; omega
    have hold1 : (Builtin.firstCells ei.size sLen (.slice base sLen sCap)).run P w.drew = .ok old.toArray w.drew := hold (w.drawn + 1)
    simp only [Bool.false_eq_true, false_or] at h1
    simp only [Builtin.append_, hts, htx, e0, e1, Sem.run_bind, hi.run_und, hu, Result.andThen_ok, he.run_size, hxi.run_und, Sem.run_pure, hsrc.len, hmatch, Bool.false_eq_true, if_false, Bool.not_false, if_true, if_neg hle, hir, false_or, if_neg h1, if_neg h2, hch, run_askRoom, hold1, c1, hzr, newRow, run_newObj]
    have harr : old.toArray ++ c.toArray ++ Builtin.zeroCells z.cells (newCap - (sLen + n)) = (old ++ c ++ (Builtin.zeroCells z.cells (newCap - (sLen + n))).toList).toArray := by
      apply Array.toList_inj.1; simp
    rw [harr]; rfl
  unfold appA at h
  split at h
  ·
    cases hs
    split at h
    · cases h
      refine Does.same hr (room none 0 0 w rfl (by omega) rfl) ?_
      rfl
    · rename_i hn0
      split at h
      · rename_i hb hb1
        cases h
        have hb := Nat.le_of_ble_eq_true hb
        have hb1 := Nat.le_of_ble_eq_true hb1
        have hn0 : 0 < n := Nat.pos_of_ne_zero fun e => hn0 e
        obtain ⟨newCap, rest, q1, q2, q3⟩ := grow none 0 0 [] rfl (by omega) (by omega) (by simpa using hb) (fun k => rfl)
        have hp := (hr.drew).allocCells e l c hsrc.rel rest
        simp only [Nat.zero_add, List.nil_append] at q1 q2 q3
        refine Does.of q3 (β' := β.add st.next ⟨w.heap.size, 0, c.length + rest.length⟩) ⟨_, Bmap.add_same _ _ _, newCap, _, rfl, .inl rfl, q1, q1, ?_⟩ ?_
        · show 0 + newCap * ei.size ≤ c.length + rest.length
          rw [hcs, q2, ← Nat.add_mul]
          have : n + (newCap - n) = newCap := by omega
          rw [this]; omega
        · exact (Post.drew (Post.refl hr)).trans hp
      · cases h
  ·
    rename_i b off len cap es'
    split at h
    case h_3 => cases h
    ·
      rename_i hes hle
      have hes := Nat.eq_of_beq_eq_true hes
      have hle := Nat.le_of_ble_eq_true hle
      subst hes
      split at h
      case h_2 => cases h
      rename_i st1 hst
      cases h
      obtain ⟨im, hb, cap', o, rfl, ho, hc1, hc2, hc3⟩ := hs
      have hw : ∃ w', (storeCells (o.add (len * ei.size)) c).run P w = .ok () w' ∧ Post β st w β st' w' := by
        rcases ho with h' | h'
        · rw [h', addr_add', Nat.add_assoc]
          exact Rel.wrL (P := P) (off := off + len * ei.size) (j := 0) hr hst hb hsrc.rel rfl
        · have hn : n = 0 := by omega
          have hc0 : c = [] := List.length_eq_zero_iff.1 (by rw [hcs, hn]; simp)
          have hl0 : l = [] := List.length_eq_zero_iff.1 (by rw [hsize, hn]; simp)
          subst hc0 hl0
          simp only [St.wrL, Option.some.injEq] at hst; subst hst
          exact ⟨w, rfl, Post.refl hr⟩
      obtain ⟨w', hw1, hw2⟩ := hw
      exact Does.of (room (some o) len cap' w' rfl (by omega) hw1) ⟨im, hb, cap', o, rfl, ho, hc1, by omega, hc3⟩ hw2
    ·
      rename_i hes hle
      have hes := Nat.eq_of_beq_eq_true hes
      subst hes
      split at h
      case h_2 => cases h
      rename_i n' hb1 hb2
      have hb1 := Nat.le_of_ble_eq_true hb1
      have hb2 := Nat.le_of_ble_eq_true hb2
      split at h
      case h_2 => cases h
      rename_i st1 hst
      cases h
      obtain ⟨im, hb, cap', o, rfl, ho, hc1, hc2, hc3⟩ := hs
      by_cases hroom : len + Nat.succ n' ≤ cap'
      ·
        have ho : o = ⟨im.blk, im.off + off, none⟩ := ho.resolve_right (by omega)
        have hm : (len + Nat.succ n') * ei.size ≤ cap' * ei.size := Nat.mul_le_mul_right _ hroom
        rw [Nat.add_mul] at hm
        obtain ⟨w', g1, g2⟩ := Rel.growIn (P := P) hr hst hb hsrc.rel (by rw [hsize]; omega)
        refine Does.of (room (some o) len cap' w' rfl hroom (by subst ho; show (storeCells ((⟨im.blk, im.off + off, none⟩ : Addr).add (len * ei.size)) c).run P w = .ok () w'; rw [addr_add']; exact g1)) ⟨⟨im.blk, im.off + off, im.room - off⟩, Bmap.add_same _ _ _, cap', o, rfl, .inl (by subst ho; rfl), by omega, hroom, ?_⟩ g2
        show 0 + cap' * ei.size ≤ im.room - off
        omega
      · obtain ⟨old, g1, g2, g3⟩ := Rel.growOut hr.drew hst hb hsrc.rel
        obtain ⟨newCap, rest, q1, q2, q3⟩ := grow (some o) len cap' old rfl hroom hb2 hb1 (fun k => by
          simp only [Builtin.firstCells]
          rw [← g1]
          refine run_loadCells_list (P := P) (w := { w with drawn := k }) _ old (fun j v hj => ?_)
          rcases ho with h' | h'
          · rw [h', addr_add, cell_drawn]; exact g2 j v hj
          · have : len = 0 := by omega
            rw [this] at g1; simp at g1; subst g1; simp at hj)
        have hp := g3 rest
        refine Does.of q3 (β' := β.add st.next ⟨w.heap.size, 0, len * ei.size + c.length + rest.length⟩) ⟨_, Bmap.add_same _ _ _, newCap, _, rfl, .inl rfl, q1, q1, ?_⟩ ((Post.drew (Post.refl hr)).trans hp)
        show 0 + newCap * ei.size ≤ len * ei.size + c.length + rest.length
        rw [hcs, q2, ← Nat.add_mul, ← Nat.add_mul]
        have : len + Nat.succ n' + (newCap - (len + Nat.succ n')) = newCap := by omega
        rw [this]; omega
  · cases h
end
end Go.RI
namespace Go.RI
variable [cx : Cx]
omit cx in
theorem leftOf_spec {β : Bmap} {seen : List Nat} : ∀ {es : List (AV × AV × Nat)} {l : List MapEntry}, ERel β es l → ERel β (leftOf seen es) (l.filter fun e => !seen.contains e.born)
  | [], _, h => by simp only [ERel] at h; subst h; simp [leftOf, ERel]
  | (k, v, n) :: es, _, h => by
    simp only [ERel] at h; obtain ⟨e, r, rfl, h1, h2, h3, h4⟩ := h
    have mem : ∀ (l : List Nat), memN n l = l.contains n := by
      intro l
      induction l with
      | nil => rfl
      | cons m l ih =>
        simp only [memN, List.contains_cons]
        cases hq : Nat.beq n m with
        | true => have := Nat.eq_of_beq_eq_true hq; subst this; simp
        | false => have : n ≠ m := fun e => by subst e; rw [Nat.beq_refl] at hq; cases hq
                   simp [ih, this]
    simp only [leftOf, mem]
    rw [List.filter_cons, h3]
    cases hq : seen.contains n with
    | true => simp only [Bool.not_true, Bool.false_eq_true, if_false]; exact leftOf_spec h4
    | false => simp only [Bool.not_false, if_true, ERel]; exact ⟨e, _, rfl, h1, h2, h3, leftOf_spec h4⟩
omit cx in
theorem findBorn_spec {β : Bmap} {s : Nat} : ∀ {es : List (AV × AV × Nat)} {l : List MapEntry} {k v : AV}, ERel β es l → findBorn s es = some (k, v) → ∃ e, l.find? (fun e => e.born == s) = some e ∧ VRel β k e.key ∧ VRel β v e.val
  | [], _, _, _, _, h => by simp [findBorn] at h
  | (k', v', n) :: es, _, k, v, h, hf => by
    simp only [ERel] at h; obtain ⟨e, r, rfl, h1, h2, h3, h4⟩ := h
    simp only [findBorn] at hf
    split at hf
    · rename_i hq; have := Nat.eq_of_beq_eq_true hq; subst this
      cases hf; exact ⟨e, by simp [h3], h1, h2⟩
    · rename_i hq
      have : n ≠ s := fun e => by subst e; rw [Nat.beq_refl] at hq; cases hq
      obtain ⟨e', g1, g2⟩ := findBorn_spec h4 hf
      have hb : (n == s) = false := by simpa using this
      refine ⟨e', ?_, g2⟩
      rw [List.find?_cons, h3, hb]; exact g1
section
variable {P : Program} {tt : TT} {β : Bmap} {st : St} {w : World} (hr : Rel β st w)
include hr
theorem s_rangeMapNil {t kt e : Nat} {ti : TI} (hi : TIok P t ti) (hu : ti.und = .map kt e) : Does P (do pure (Next.value (← Instr.range t (.map none)))) β st w (.ptr st.next 0) (st.new (.miter none 0 [] 0)) := by
  have hp := hr.alloc (.miter none 0 [] 0) (.mapIter none 0 #[] 0) ⟨w.heap.size, 0, 0⟩ rfl ⟨rfl, none, heap_push_new _ _, rfl⟩
  refine Does.of (v' := .pointer (some ⟨w.heap.size, 0, none⟩)) ?_ ⟨_, Bmap.add_same _ _ _, rfl⟩ hp
  simp [Instr.range, hi.run_und, hu]
theorem s_rangeMap {t kt e : Nat} {ti : TI} (hi : TIok P t ti) (hu : ti.und = .map kt e) {b : Nat} {x : Value} (hx : VRel β (.map b) x) {es : List (AV × AV × Nat)} {cl : Nat} (hg : st.heap.get b = some (.map es cl)) :
    Does P (do pure (Next.value (← Instr.range t x))) β st w (.ptr st.next 0) (st.new (.miter (some b) cl [] cl)) := by
  obtain ⟨im, hb, rfl⟩ := hx
  obtain ⟨h0, ces, hw, hes⟩ := hr.obj _ _ _ hg hb
  have hnc : ∀ c e f, Obj.map ces cl ≠ .cells c e f := by intro _ _ _ h; cases h
  have hp := hr.alloc (.miter (some b) cl [] cl) (.mapIter (some im.blk) cl #[] cl) ⟨w.heap.size, 0, 0⟩ rfl ⟨rfl, some im.blk, heap_push_new _ _, im, Bmap.ext_add _ hr.none_next _ _ hb, rfl⟩
  refine Does.of (v' := .pointer (some ⟨w.heap.size, 0, none⟩)) ?_ ⟨_, Bmap.add_same _ _ _, rfl⟩ hp
  simp [Instr.range, hi.run_und, hu, run_getObj' hw hnc]
theorem s_rangeStr {t : Nat} {ti : TI} (hi : TIok P t ti) (hu : ti.und = .string) {s : List Nat} {x : Value} (hx : VRel β (.str s) x) : Does P (do pure (Next.value (← Instr.range t x))) β st w (.ptr st.next 0) (st.new (.siter s 0)) := by
  obtain ⟨B, rfl, rfl⟩ := hx
  have hp := hr.alloc (.siter (B.data.toList.map UInt8.toNat) 0) (.stringIter B 0) ⟨w.heap.size, 0, 0⟩ rfl ⟨rfl, B, heap_push_new _ _, rfl⟩
  refine Does.of (v' := .pointer (some ⟨w.heap.size, 0, none⟩)) ?_ ⟨_, Bmap.add_same _ _ _, rfl⟩ hp
  simp [Instr.range, hi.run_und, hu]
omit cx hr in
theorem choose_one : (choose (.mapNext 1)).run P w = .ok 0 w := by simp [choose, Sem.run, Question.forced]
theorem s_nextMapNil {r : Nat} {x : Value} (hx : VRel β (.ptr r 0) x) {si : Nat} {se : List Nat} {la : Nat} (hg : st.heap.get r = some (.miter none si se la)) {ty : TypeId} : (Instr.next x false ty).run P w = .ok (.tuple #[.bool false]) w := by
  obtain ⟨im, hb, rfl⟩ := hx
  obtain ⟨h0, q, hw, hq⟩ := hr.obj _ _ _ hg hb
  simp only at hq; subst hq
  rw [h0]
  simp only [Instr.next, Sem.run_bind, run_getObj' hw (by intro _ _ _ h; cases h), Result.andThen_ok, Sem.run_pure]
omit cx hr in
theorem anyLt_spec {last : Nat} : ∀ {es : List (AV × AV × Nat)} {l : List MapEntry}, ERel β es l → anyLt last es = true → ∃ e ∈ l, e.born < last
  | [], _, _, h => by simp [anyLt] at h
  | (k, v, n) :: es, _, he, h => by
    simp only [ERel] at he; obtain ⟨e, r, rfl, h1, h2, h3, h4⟩ := he
    simp only [anyLt] at h
    split at h
    · rename_i hn; exact ⟨e, by simp, by rw [h3]; exact Nat.le_of_ble_eq_true hn⟩
    · obtain ⟨e', g1, g2⟩ := anyLt_spec h4 h; exact ⟨e', List.mem_cons_of_mem _ g1, g2⟩
omit cx hr in
theorem okIter_spec {seen : List Nat} {es : List (AV × AV × Nat)} {last : Nat} {ces : Array MapEntry} (he : ERel β es ces.toList) (h : okIter seen es last = true) : (!seen.toArray.isEmpty && !ces.isEmpty && ces.all (·.born ≥ last)) = false := by
  unfold okIter at h
  split at h
  · simp
  · simp only [ERel] at he
    have : ces = #[] := by apply Array.toList_inj.1; simpa using he
    subst this; simp
  · obtain ⟨e, g1, g2⟩ := anyLt_spec he h
    have : ces.all (·.born ≥ last) = false := by
      rw [← Bool.not_eq_true, Array.all_eq_true_iff_forall_mem]
      intro hall
      have := hall e (by simpa using g1)
      simp at this; omega
    rw [this]; simp
theorem s_nextMap {r m : Nat} {x : Value} (hx : VRel β (.ptr r 0) x) {si la cl : Nat} {se : List Nat} (hg : st.heap.get r = some (.miter (some m) si se la)) {es : List (AV × AV × Nat)} (hm : st.heap.get m = some (.map es cl)) (hok : okIter se es la = true) {ty : TypeId} :
    (leftOf se es = [] → (Instr.next x false ty).run P w = .ok (.tuple #[.bool false]) w) ∧
    (∀ k v n, leftOf se es = [(k, v, n)] → n < si → Does P (do pure (Next.value (← Instr.next x false ty))) β st w (.tuple [.bool true, k, v]) (st.putObj r (.miter (some m) si (se ++ [n]) cl))) := by
  obtain ⟨im, hb, rfl⟩ := hx
  obtain ⟨h0, q, hw, jm, hj, rfl⟩ := hr.obj _ _ _ hg hb
  obtain ⟨hm0, ces, hwm, hes⟩ := hr.obj _ _ _ hm hj
  have hbad := okIter_spec hes hok
  have hnc : ∀ c e f, Obj.mapIter (some jm.blk) si se.toArray la ≠ .cells c e f := by intro _ _ _ h; cases h
  have hncm : ∀ c e f, Obj.map ces cl ≠ .cells c e f := by intro _ _ _ h; cases h
  have hleft := leftOf_spec (seen := se) hes
  have hfil : (ces.filter fun e => !se.toArray.contains e.born).toList = ces.toList.filter fun e => !se.contains e.born := by simp
  constructor
  · intro hle
    rw [hle] at hleft
    simp only [ERel] at hleft
    have hnil : (ces.filter fun e => !se.toArray.contains e.born) = #[] := by apply Array.toList_inj.1; rw [hfil, hleft]
    rw [h0]
    simp only [Instr.next, Nat.zero_add, Sem.run_bind, run_getObj' hw hnc, run_getObj' hwm hncm, Result.andThen_ok, hbad, Bool.false_eq_true, if_false, hnil]
    have c1 : (((if (Array.filter (fun e => decide (e.born < si)) (#[] : Array MapEntry)).isEmpty = true then #[none] else #[]) ++ Array.map some (Array.filter (fun e => decide (e.born < si)) (#[] : Array MapEntry) ++ Array.filter (fun e => decide (e.born ≥ si)) (#[] : Array MapEntry))) : Array (Option MapEntry)) = #[none] := by simp
    have c2 : (#[none] : Array (Option MapEntry)).size = 1 := rfl
    have c3 : (#[none] : Array (Option MapEntry))[0]? = some none := rfl
    simp only [c1, c2, choose_one, Result.andThen_ok, c3, Sem.run_pure]
  · intro k v n hle hlt
    rw [hle] at hleft
    simp only [ERel] at hleft
    obtain ⟨e, r', hl, h1, h2, h3, rfl⟩ := hleft
    have hone : (ces.filter fun e => !se.toArray.contains e.born) = #[e] := by apply Array.toList_inj.1; rw [hfil, hl]
    have hp := hr.putObj hb hg rfl (by simp) (o' := .miter (some m) si (se ++ [n]) cl) rfl (co := .mapIter (some jm.blk) si (se.toArray.push n) cl) (fun w' hw' => ⟨h0, some jm.blk, by rw [hw']; simp, jm, hj, rfl⟩)
    refine Does.of (v' := .tuple #[.bool true, e.key, e.val]) ?_ ⟨[.bool true, e.key, e.val], by simp only [LRel, VRel]; exact ⟨_, _, rfl, rfl, _, _, rfl, h1, _, _, rfl, h2, rfl⟩, rfl⟩ hp
    have hlt' : e.born < si := by omega
    rw [h0]
    simp only [Instr.next, Nat.zero_add, Sem.run_bind, run_getObj' hw hnc, run_getObj' hwm hncm, Result.andThen_ok, hbad, Bool.false_eq_true, if_false, hone]
    have c1 : (((if (Array.filter (fun e => decide (e.born < si)) #[e]).isEmpty = true then #[none] else #[]) ++ Array.map some (Array.filter (fun e => decide (e.born < si)) #[e] ++ Array.filter (fun e => decide (e.born ≥ si)) #[e])) : Array (Option MapEntry)) = #[some e] := by simp [hlt', Nat.not_le.2 hlt', Array.filter]
    have c2 : (#[some e] : Array (Option MapEntry)).size = 1 := rfl
    have c3 : (#[some e] : Array (Option MapEntry))[0]? = some (some e) := rfl
    simp only [c1, c2, choose_one, Result.andThen_ok, c3, Sem.run_bind, run_setObj' hw hnc, h3, Sem.run_pure]
theorem s_nextStr {r : Nat} {x : Value} (hx : VRel β (.ptr r 0) x) {s : List Nat} {pos : Nat} (hg : st.heap.get r = some (.siter s pos)) {ty : TypeId} :
    (s.drop pos = [] → (Instr.next x true ty).run P w = .ok (.tuple #[.bool false]) w) ∧
    (∀ c l, s.drop pos = c :: l → c < 128 → Does P (do pure (Next.value (← Instr.next x true ty))) β st w (.tuple [.bool true, .int .i64 (.ofNat pos), .int .i32 (.ofNat c)]) (st.putObj r (.siter s (pos + 1)))) := by
  obtain ⟨im, hb, rfl⟩ := hx
  obtain ⟨h0, B, hw, hs⟩ := hr.obj _ _ _ hg hb
  have hnc : ∀ c e f, Obj.stringIter B pos ≠ .cells c e f := by intro _ _ _ h; cases h
  have hlen : s.length = B.size := by rw [← hs, List.length_map, Array.length_toList]; rfl
  constructor
  · intro hd
    have : ¬ pos < B.size := by
      have := congrArg List.length hd; simp at this; omega
    rw [h0]
    simp only [Instr.next, Nat.zero_add, Sem.run_bind, run_getObj' hw hnc, Result.andThen_ok, this, if_false, Sem.run_pure]
  · intro c l hd hc
    have hlt : pos < B.size := by
      have := congrArg List.length hd; simp at this; omega
    have hget : s[pos]? = some c := by
      have := congrArg (fun l : List Nat => l[0]?) hd; simpa using this
    have hbyte : (B.data[pos]'hlt).toNat = c := by
      rw [← hs, List.getElem?_map] at hget
      have hlt' : pos < B.data.toList.length := by simpa using hlt
      rw [List.getElem?_eq_getElem hlt'] at hget
      simp at hget; exact hget
    have hdec : Utf8.decode B pos = (c, 1) := by
      unfold Utf8.decode
      have : (B.get! (pos + 0)).toNat = c := by
        simp only [Nat.add_zero, ByteArray.get!]
        rw [getElem!_pos B.data pos hlt]; exact hbyte
      simp only [this]
      rw [if_pos hc]
    have hp := hr.putObj hb hg rfl (by simp) (o' := .siter s (pos + 1)) rfl (co := .stringIter B (pos + 1)) (fun w' hw' => ⟨h0, B, hw', hs⟩)
    refine Does.of (v' := .tuple #[.bool true, goInt pos, .int .i32 c]) ?_ ⟨[.bool true, goInt pos, .int .i32 c], by simp only [LRel, VRel]; exact ⟨_, _, rfl, rfl, _, _, rfl, rfl, _, _, rfl, rfl, rfl⟩, rfl⟩ hp
    rw [h0]
    simp only [Instr.next, Nat.zero_add, Sem.run_bind, run_getObj' hw hnc, Result.andThen_ok, hlt, if_true, hdec, run_setObj' hw hnc, Sem.run_pure]
theorem s_entry {r m : Nat} {x : Value} (hx : VRel β (.ptr r 0) x) {si la : Nat} {se : List Nat} (hg : st.heap.get r = some (.miter (some m) si se la)) {es : List (AV × AV × Nat)} {cl : Nat} (hm : st.heap.get m = some (.map es cl)) (hcl : cl = la)
    {s : Nat} {rest : List Nat} (hse : se.reverse = s :: rest) {k v : AV} (hf : findBorn s es = some (k, v)) : ∃ y, (Instr.entry x).run P w = .ok y w ∧ VRel β (.tuple [k, v]) y := by
  obtain ⟨im, hb, rfl⟩ := hx
  obtain ⟨h0, q, hw, jm, hj, rfl⟩ := hr.obj _ _ _ hg hb
  obtain ⟨hm0, ces, hwm, hes⟩ := hr.obj _ _ _ hm hj
  have hnc : ∀ c e f, Obj.mapIter (some jm.blk) si se.toArray la ≠ .cells c e f := by intro _ _ _ h; cases h
  have hncm : ∀ c e f, Obj.map ces cl ≠ .cells c e f := by intro _ _ _ h; cases h
  obtain ⟨e, g1, g2, g3⟩ := findBorn_spec hes hf
  have hback : se.toArray.back? = some s := by
    have : se = rest.reverse ++ [s] := by rw [← List.reverse_reverse se, hse]; simp
    rw [this]; simp
  have hfind : ces.find? (fun e => e.born == s) = some e := by rw [← g1]; simp
  refine ⟨.tuple #[e.key, e.val], ?_, [e.key, e.val], by simp only [LRel]; exact ⟨_, _, rfl, g2, _, _, rfl, g3, rfl⟩, rfl⟩
  rw [h0]
  subst hcl
  simp only [Instr.entry, Nat.zero_add, Sem.run_bind, run_getObj' hw hnc, run_getObj' hwm hncm, Result.andThen_ok, hback, bne_self_eq_false, Bool.false_eq_true, if_false, hfind, Sem.run_pure]
theorem s_clear {t e : Nat} {ti ei : TI} (hi : TIok P t ti) (hu : ti.und = .slice e) (he : TIok P e ei) {ts : Array TypeId} {ty : TypeId} (hts : ts[0]? = some t) {b off n cap : Nat} {x : Value} (hx : VRel β (.slice b off n cap ei.size) x) (hn : n ≠ 0)
    {st' : St} (h : st.wrL b off (List.replicate n ei.zero.cells).flatten = some st') : Does P (do pure (Next.value (← Builtin.clear_ ts ty #[x]))) β st w undefA st' := by
  obtain ⟨im, hb, cap', o, rfl, ho, hc1, hc2, hc3⟩ := hx
  obtain ⟨z, hz, hzs, hzr⟩ := he.run_zero β
  have hzl := hz.cells
  have ho : o = ⟨im.blk, im.off + off, none⟩ := ho.resolve_right (by omega)
  subst ho
  have hzc : (Builtin.zeroCells z.cells n).toList = (List.replicate n z.cells.toList).flatten := by
    unfold Builtin.zeroCells
    exact range_zero z.cells z.cells.size n rfl
  obtain ⟨w', g1, g2⟩ := Rel.wrL (P := P) (off := off) (j := 0) hr h hb (hzl.replicate n) rfl
  refine Does.of (v' := .tuple #[]) (w' := w') ?_ ⟨[], by simp [LRel], rfl⟩ g2
  have e0 : (#[Value.slice (some ⟨im.blk, im.off + off, none⟩) n cap'] : Array Value)[0]? = some (.slice (some ⟨im.blk, im.off + off, none⟩) n cap') := rfl
  obtain ⟨n, rfl⟩ : ∃ m, n = m + 1 := ⟨n - 1, by omega⟩
  simp only [Builtin.clear_, hts, e0, Sem.run_bind, hi.run_und, hu, Result.andThen_ok, hzr, hzc]
  rw [g1]; rfl
end
end Go.RI
namespace Go.RI
section
variable {G : Nat} {tt : TT} {P : Program} {β : Bmap} {tm : Tr AV} {a : Act}
theorem partsS_spec (hG : GRel G β) (ht : TRel β tm a.tmps) {fields : Array Field} : ∀ {l : List (Nat × Operand)} {r : List (Nat × Nat × Rnd)}, partsS G tt fields l = some r → l.length = r.length ∧
    ∀ (i : Nat) (p : Nat × Operand), l[i]? = some p → ∃ off size rn f fi, r[i]? = some (off, size, rn) ∧ fields[p.1]? = some f ∧ tt f.type = some fi ∧ off = f.offset ∧ size = fi.size ∧ VRel β (ev tm rn) (a.eval p.2)
  | [], r, h => by simp only [partsS, Option.some.injEq] at h; subst h; simp
  | (i, x) :: l, r, h => by
    simp only [partsS] at h
    split at h
    · rename_i f rn rs h1 h2 h3
      split at h
      · rename_i ti h4
        cases h
        obtain ⟨g1, g2⟩ := partsS_spec hG ht h3
        refine ⟨by simp [g1], fun j p hj => ?_⟩
        cases j with
        | zero => simp at hj; subst hj; exact ⟨_, _, _, f, ti, rfl, h1, h4, rfl, rfl, rnd_rel hG ht h2⟩
        | succ j => simp at hj; simpa using g2 j p hj
      · cases h
    · cases h
theorem partsA_spec (hG : GRel G β) (ht : TRel β tm a.tmps) {size : Nat} : ∀ {l : List (Nat × Operand)} {r : List (Nat × Nat × Rnd)}, partsA G size l = some r → l.length = r.length ∧
    ∀ (i : Nat) (p : Nat × Operand), l[i]? = some p → ∃ rn, r[i]? = some (p.1 * size, size, rn) ∧ VRel β (ev tm rn) (a.eval p.2)
  | [], r, h => by simp only [partsA, Option.some.injEq] at h; subst h; simp
  | (i, x) :: l, r, h => by
    simp only [partsA] at h
    split at h
    · rename_i rn rs h2 h3
      cases h
      obtain ⟨g1, g2⟩ := partsA_spec hG ht h3
      refine ⟨by simp [g1], fun j p hj => ?_⟩
      cases j with
      | zero => simp at hj; subst hj; exact ⟨_, rfl, rnd_rel hG ht h2⟩
      | succ j => simp at hj; simpa using g2 j p hj
    · cases h
theorem allTyped_spec : ∀ {l : List Field}, allTyped tt l = true → ∀ f ∈ l, ∃ i, tt f.type = some i
  | [], _, f, hf => by cases hf
  | g :: l, h, f, hf => by
    simp only [allTyped, Bool.and_eq_true] at h
    rcases List.mem_cons.1 hf with rfl | hf
    · exact Option.isSome_iff_exists.1 h.1
    · exact allTyped_spec h.2 f hf
theorem rndO_spec (hG : GRel G β) (ht : TRel β tm a.tmps) {o : Option Operand} {r : Option Rnd} (h : rndO G o = some r) : ORnd β tm a.eval r o := by
  cases o with
  | none => simp only [rndO, Option.some.injEq] at h; subst h; rfl
  | some x =>
    simp only [rndO] at h
    split at h
    · rename_i rn hr; cases h; exact ⟨x, rfl, rnd_rel hG ht hr⟩
    · cases h
theorem kkOf_ok (hT : TTok P tt) {t : Nat} {kk : KK} (h : kkOf tt t = some kk) : KKok P tt t kk := by
  unfold kkOf at h
  split at h
  · rename_i ti hti
    have hi := hT _ _ hti
    split at h
    · rename_i k hu; cases h; exact ⟨k, by rw [hi.und, hu]⟩
    · rename_i hu; cases h; show P.underlying t = _; rw [hi.und, hu]
    · rename_i fs hu
      split at h
      · rename_i hp
        obtain ⟨ks, h1, rfl⟩ := Option.map_eq_some_iff.1 h
        exact ⟨fs, by rw [hi.und, hu], h1, hi.held hp⟩
      · cases h
    · rename_i e hu
      split at h
      · rename_i te he
        split at h
        · rename_i hne; cases h; exact ⟨e, te, by rw [hi.und, hu], he, hne⟩
        · cases h
      · cases h
    · cases h
  · cases h
theorem compBin_spec (hT : TTok P tt) {op : BinOp} {t : Nat} {x y : Operand} {ao : AOp} (h : compBin G tt op t x y = some ao) : ∃ g rx ry, ao = .bin g op rx ry ∧ rnd G x = some rx ∧ rnd G y = some ry ∧ TagOk P tt t g ∧ (g = .ifc → (isC x || isC y) = true) := by
  unfold compBin at h
  split at h
  case h_2 => cases h
  rename_i rx ry ti h1 h2 h3
  have hi := hT _ _ h3
  split at h
  · cases h; exact ⟨_, _, _, rfl, h1, h2, trivial, fun h => by cases h⟩
  · cases h; exact ⟨_, _, _, rfl, h1, h2, trivial, fun h => by cases h⟩
  · rename_i hu; cases h; exact ⟨_, _, _, rfl, h1, h2, by show P.underlying t = _; rw [hi.und, hu], fun h => by cases h⟩
  · rename_i e hu; cases h; exact ⟨_, _, _, rfl, h1, h2, ⟨e, by rw [hi.und, hu]⟩, fun h => by cases h⟩
  · rename_i hu; cases h; exact ⟨_, _, _, rfl, h1, h2, ⟨_, _, by rw [hi.und, hu]⟩, fun h => by cases h⟩
  · rename_i hu; cases h; exact ⟨_, _, _, rfl, h1, h2, ⟨_, _, _, by rw [hi.und, hu]⟩, fun h => by cases h⟩
  · rename_i e hu
    split at h
    · rename_i te he
      split at h
      · rename_i hne; cases h; exact ⟨_, _, _, rfl, h1, h2, ⟨e, te, by rw [hi.und, hu], he, hne⟩, fun h => by cases h⟩
      · cases h
    · cases h
  · rename_i hu
    split at h
    · rename_i hc; cases h; exact ⟨_, _, _, rfl, h1, h2, ⟨_, by rw [hi.und, hu]⟩, fun _ => hc⟩
    · cases h
  · rename_i fs hu
    split at h
    · rename_i hpl
      obtain ⟨ks, hks, rfl⟩ := Option.map_eq_some_iff.1 h
      exact ⟨_, _, _, rfl, h1, h2, ⟨fs, by rw [hi.und, hu], hks, hi.held hpl, hi.guard hpl⟩, fun h => by cases h⟩
    · cases h
  · cases h
theorem natOf_val {v : AV} {n : Nat} {x : Value} (h : natOf v = some n) (hx : VRel β v x) : ∃ k, x = .int k (n : Int) := by
  unfold natOf at h
  split at h
  · cases h; exact ⟨_, hx⟩
  · cases h
theorem dropAt_rel : ∀ {es : List (AV × AV × Nat)} {l : List MapEntry} {i : Nat}, ERel β es l → ERel β (dropAt es i) (l.eraseIdx i)
  | [], _, i, h => by simp only [ERel] at h; subst h; simp [dropAt, ERel]
  | (k, v, n) :: es, _, i, h => by
    simp only [ERel] at h; obtain ⟨e, r, rfl, h1, h2, h3, h4⟩ := h
    cases i with
    | zero => simpa [dropAt] using h4
    | succ i => simp only [dropAt, List.eraseIdx_cons_succ, ERel]; exact ⟨e, _, rfl, h1, h2, h3, dropAt_rel h4⟩
end
variable [cx : Cx]
section
variable {P : Program} {tt : TT} {β : Bmap} {st : St} {w : World} (hr : Rel β st w)
include hr
theorem s_deleteNil (hT : TTok P tt) {t kt e : Nat} {ti : TI} (hi : TIok P t ti) (hu : ti.und = .map kt e) {kk : KK} (hk : KKok P tt kt kk) {k : AV} {y : Value} (hy : VRel β k y) (hf : fitKey kk k = true) {ts : Array TypeId} {ty : TypeId} (hts : ts[0]? = some t) :
    Does P (do pure (Next.value (← Builtin.delete_ ts ty #[.map none, y]))) β st w undefA st := by
  have e0 : (#[Value.map none, y] : Array Value)[0]? = some (.map none) := rfl
  have e1 : (#[Value.map none, y] : Array Value)[1]? = some y := rfl
  refine Does.same hr (v' := .tuple #[]) ?_ ⟨[], by simp [LRel], rfl⟩
  simp only [Builtin.delete_, hts, e0, e1, Sem.run_bind, hi.run_und, hu, Result.andThen_ok, s_checkKey' hT _ hk hy hf, Sem.run_pure]
theorem s_delete (hT : TTok P tt) {t kt e : Nat} {ti : TI} (hi : TIok P t ti) (hu : ti.und = .map kt e) {kk : KK} (hk : KKok P tt kt kk) {b : Nat} {k : AV} {x y : Value} (hx : VRel β (.map b) x) (hy : VRel β k y) {ts : Array TypeId} {ty : TypeId} (hts : ts[0]? = some t)
    {es : List (AV × AV × Nat)} {cl : Nat} (hg : st.heap.get b = some (.map es cl)) {r : Option (Nat × AV × Nat)} (hf : findK st kk k es = some r) :
    match r with
    | some (i, _, _) => Does P (do pure (Next.value (← Builtin.delete_ ts ty #[x, y]))) β st w undefA (st.putObj b (.map (dropAt es i) cl))
    | none => Does P (do pure (Next.value (← Builtin.delete_ ts ty #[x, y]))) β st w undefA (st.putObj b (.map es cl)) := by
  obtain ⟨im, hb, rfl⟩ := hx
  obtain ⟨h0, ces, hw, hes⟩ := hr.obj _ _ _ hg hb
  have hnc : ∀ c e f, Obj.map ces cl ≠ .cells c e f := by intro _ _ _ h; cases h
  obtain ⟨f1, f2⟩ := findK_spec hf
  obtain ⟨c, hc, hcr⟩ := s_findKey hT hr hk hy hes f2
  have e0 : (#[Value.map (some im.blk), y] : Array Value)[0]? = some (.map (some im.blk)) := rfl
  have e1 : (#[Value.map (some im.blk), y] : Array Value)[1]? = some y := rfl
  cases r with
  | some p =>
    obtain ⟨i, v, n⟩ := p
    obtain ⟨en, k', q1, q2, q3, rfl, q5, q6, q7, q8⟩ := hcr
    refine Does.of (v' := .tuple #[]) (w' := { w with heap := w.heap.setIfInBounds im.blk (.map (ces.eraseIdxIfInBounds i) cl) }) ?_ ⟨[], by simp [LRel], rfl⟩
      (hr.putObj hb hg rfl (by simp) rfl fun w' hw' => ⟨h0, _, hw', by rw [show (ces.eraseIdxIfInBounds i).toList = ces.toList.eraseIdx i by simp]; exact dropAt_rel hes⟩)
    simp only [Builtin.delete_, hts, e0, e1, Sem.run_bind, hi.run_und, hu, Result.andThen_ok, run_getObj' hw hnc, s_checkKey' hT _ hk hy f1, hc, run_setObj' hw hnc, Sem.run_pure]
  | none =>
    simp only [FRel] at hcr; subst hcr
    refine Does.of (v' := .tuple #[]) (w' := { w with heap := w.heap.setIfInBounds im.blk (.map ces cl) }) ?_ ⟨[], by simp [LRel], rfl⟩
      (hr.putObj hb hg rfl (by simp) rfl fun w' hw' => ⟨h0, _, hw', hes⟩)
    simp only [Builtin.delete_, hts, e0, e1, Sem.run_bind, hi.run_und, hu, Result.andThen_ok, run_getObj' hw hnc, s_checkKey' hT _ hk hy f1, hc, run_setObj' hw hnc, Sem.run_pure]
end
end Go.RI
namespace Go.RI
variable [cx : Cx]
def Meets (P : Program) (β : Bmap) (tm : Tr AV) (a : Act) (st : St) (w : World) (o : Oper) (ao : AOp) : Prop :=
  ∀ v st', aop ao tm st = some (v, st') → Does P (execOp a.eval o) β st w v st'
section
variable {G : Nat} {tt : TT} {P : Program} {β : Bmap} {tm : Tr AV} {a : Act} {st : St} {w : World}
variable (hT : TTok P tt) (hG : GRel G β) (hr : Rel β st w) (ht : TRel β tm a.tmps)
include hT hG hr ht
theorem c_move {o : Oper} {x : Operand} (ho : o.op = .move x ∨ o.op = .assign x) {r : Rnd} (h : rnd G x = some r) : Meets P β tm a st w o (.mv r) := by
  intro v st' hv
  simp only [aop, Option.some.injEq, Prod.mk.injEq] at hv
  obtain ⟨rfl, rfl⟩ := hv
  refine ⟨β, a.eval x, w, .inl ?_, rnd_rel hG ht h, Post.refl hr⟩
  rcases ho with ho | ho <;> simp [execOp, ho]
theorem c_pick {o : Oper} {c x y : Operand} (ho : o.op = .pick c x y) {rc rx ry : Rnd} (h1 : rnd G c = some rc) (h2 : rnd G x = some rx) (h3 : rnd G y = some ry) : Meets P β tm a st w o (.pick rc rx ry) := by
  intro v st' hv
  simp only [aop] at hv
  have hc := rnd_rel hG ht h1
  split at hv
  · rename_i hq; cases hv; rw [hq] at hc
    have hc : a.eval c = .bool true := hc
    exact ⟨β, a.eval x, w, .inl (by simp [execOp, ho, hc, asBool]), rnd_rel hG ht h2, Post.refl hr⟩
  · rename_i hq; cases hv; rw [hq] at hc
    have hc : a.eval c = .bool false := hc
    exact ⟨β, a.eval y, w, .inl (by simp [execOp, ho, hc, asBool]), rnd_rel hG ht h3, Post.refl hr⟩
  · cases hv
theorem c_alloc {o : Oper} {e : Nat} (ho : o.op = .alloc e) {ti : TI} (h : tt e = some ti) : Meets P β tm a st w o (.alloc e ti.zero.cells) := by
  intro v st' hv
  simp only [aop, Option.some.injEq, Prod.mk.injEq] at hv
  obtain ⟨rfl, rfl⟩ := hv
  have := s_alloc (P := P) hr (hT _ _ h)
  simpa only [execOp, ho] using this
theorem c_box {o : Oper} {e : Nat} {x : Operand} (ho : o.op = .box e x) {r : Rnd} (h : rnd G x = some r) : Meets P β tm a st w o (.box e r) := by
  intro v st' hv
  simp only [aop, Option.some.injEq, Prod.mk.injEq] at hv
  obtain ⟨rfl, rfl⟩ := hv
  have := s_box (P := P) (e := e) hr (rnd_rel hG ht h)
  simpa only [execOp, ho] using this
theorem c_buildS {o : Oper} {t : Nat} {parts : Array (Nat × Operand)} (ho : o.op = .build t parts) {ti : TI} (hti : tt t = some ti) {fields : Array Field} (hu : ti.und = .struct fields) (hf : allTyped tt fields.toList = true) {p : List (Nat × Nat × Rnd)} (hp : partsS G tt fields parts.toList = some p) :
    Meets P β tm a st w o (.build ti.zero.cells p) := by
  intro v st' hv
  simp only [aop] at hv
  split at hv
  · rename_i l hl
    cases hv
    obtain ⟨g1, g2⟩ := partsS_spec (a := a) hG ht hp
    have := s_buildS (P := P) hr hT (hT _ _ hti) hu (allTyped_spec hf) (ρ := a.eval) hl g2 g1
    simpa only [execOp, ho] using this
  · cases hv
theorem c_buildA {o : Oper} {t : Nat} {parts : Array (Nat × Operand)} (ho : o.op = .build t parts) {ti : TI} (hti : tt t = some ti) {n e : Nat} (hu : ti.und = .array n e) {ei : TI} (hei : tt e = some ei) {p : List (Nat × Nat × Rnd)} (hp : partsA G ei.size parts.toList = some p) :
    Meets P β tm a st w o (.build ti.zero.cells p) := by
  intro v st' hv
  simp only [aop] at hv
  split at hv
  · rename_i l hl
    cases hv
    obtain ⟨g1, g2⟩ := partsA_spec (a := a) hG ht hp
    have := s_buildA (P := P) hr (hT _ _ hti) hu (hT _ _ hei) (ρ := a.eval) hl g2 g1
    simpa only [execOp, ho] using this
  · cases hv
theorem c_buildSlice {o : Oper} {t len : Nat} {parts : Array (Nat × Operand)} (ho : o.op = .buildSlice t len parts) {ti : TI} (hti : tt t = some ti) {e : Nat} (hu : ti.und = .slice e) {ei : TI} (hei : tt e = some ei) (hsz : ¬ len * ei.size > 2 ^ 24)
    {p : List (Nat × Nat × Rnd)} (hp : partsA G ei.size parts.toList = some p) : Meets P β tm a st w o (.buildSlice e len ei.size (List.replicate len ei.zero.cells).flatten p) := by
  intro v st' hv
  simp only [aop] at hv
  split at hv
  · rename_i l hl
    cases hv
    obtain ⟨g1, g2⟩ := partsA_spec (a := a) hG ht hp
    have := s_buildSlice (P := P) hr (hT _ _ hti) hu (hT _ _ hei) hsz (ρ := a.eval) hl g2 g1
    simpa only [execOp, ho] using this
  · cases hv
theorem c_load {o : Oper} {t : Nat} {x : Operand} (ho : o.op = .load t x) {ti : TI} (hti : tt t = some ti) {r : Rnd} (h : rnd G x = some r) : Meets P β tm a st w o (if ti.agg then .loadN ti.size r else .load1 r) := by
  intro v st' hv
  have hx := rnd_rel hG ht h
  cases hq : ti.agg with
  | true =>
    rw [hq, if_pos rfl] at hv
    simp only [aop] at hv
    split at hv
    · rename_i b off hb
      split at hv
      · rename_i l hl
        cases hv; rw [hb] at hx
        have := s_loadN (P := P) hr (hT _ _ hti) hq hx hl
        simpa only [execOp, ho] using this
      · cases hv
    · cases hv
  | false =>
    rw [hq, if_neg (by simp)] at hv
    simp only [aop] at hv
    split at hv
    · rename_i b off hb
      split at hv
      · rename_i l hl
        cases hv; rw [hb] at hx
        have := s_load1 (P := P) hr (hT _ _ hti) hq hx hl
        simpa only [execOp, ho] using this
      · cases hv
    · cases hv
theorem c_store {o : Oper} {t : Nat} {x y : Operand} (ho : o.op = .store t x y) {ti : TI} (hti : tt t = some ti) {rx ry : Rnd} (h1 : rnd G x = some rx) (h2 : rnd G y = some ry) : Meets P β tm a st w o (.store ti.size rx ry) := by
  intro v st' hv
  have hx := rnd_rel hG ht h1
  simp only [aop] at hv
  split at hv
  · rename_i b off hb
    rw [hb] at hx
    split at hv
    · rename_i hlen
      split at hv
      · rename_i s hs
        cases hv
        have := s_store (P := P) hr (hT _ _ hti) hx (rnd_rel hG ht h2) (Nat.eq_of_beq_eq_true hlen) hs
        simpa only [execOp, ho] using this
      · cases hv
    · cases hv
  · cases hv
theorem c_nilck {o : Oper} {x : Operand} (ho : o.op = .nilCheck x) {r : Rnd} (h : rnd G x = some r) : Meets P β tm a st w o (.nilck r) := by
  intro v st' hv
  have hx := rnd_rel hG ht h
  simp only [aop] at hv
  split at hv
  · rename_i b off hb
    cases hv; rw [hb] at hx
    have hx' := hx
    obtain ⟨im, h1, h2⟩ := hx'
    exact ⟨β, a.eval x, w, .inl (by simp [execOp, ho, h2]), hx, Post.refl hr⟩
  · rename_i f l1 l2 hb
    cases hv; rw [hb] at hx
    have hx' := hx
    obtain ⟨q1, q2, h1, h2, h3⟩ := hx'
    exact ⟨β, a.eval x, w, .inl (by simp [execOp, ho, h3]), hx, Post.refl hr⟩
  · rename_i l hb
    cases hv; rw [hb] at hx
    have hx' := hx
    obtain ⟨im, h1, h2⟩ := hx'
    exact ⟨β, a.eval x, w, .inl (by simp [execOp, ho, h2]), hx, Post.refl hr⟩
  · cases hv
theorem c_bin {o : Oper} {op : BinOp} {t u : Nat} {x y : Operand} (ho : o.op = .binOp op t x y u) {ao : AOp} (h : compBin G tt op t x y = some ao) : Meets P β tm a st w o ao := by
  intro v st' hv
  obtain ⟨g, rx, ry, rfl, h1, h2, h3, h4⟩ := compBin_spec hT h
  simp only [aop] at hv
  split at hv
  · rename_i r hb
    cases hv
    have hx := rnd_rel (a := a) hG ht h1
    have hy := rnd_rel (a := a) hG ht h2
    obtain ⟨y', g1, g2⟩ := s_bin (w := w) hT h3 hb hx hy
    have g3 := s_guard (w := w) (op := op) (ox := x) (oy := y) h3 hb hx hy h4
    refine ⟨β, y', w, .inl ?_, g2, Post.refl hr⟩
    simp only [execOp, ho, Sem.run_bind, g3, Result.andThen_ok, g1, Sem.run_pure]
  · cases hv
theorem c_un {o : Oper} {op : UnOp} {t : Nat} {x : Operand} (ho : o.op = .unOp op t x) {r : Rnd} (h : rnd G x = some r) : Meets P β tm a st w o (.un op r) := by
  intro v st' hv
  simp only [aop] at hv
  split at hv
  · rename_i q hq
    cases hv
    obtain ⟨y, g1, g2⟩ := s_un (P := P) (w := w) hq (rnd_rel (a := a) hG ht h)
    refine ⟨β, y, w, .inl ?_, g2, Post.refl hr⟩
    simp only [execOp, ho, Sem.run_bind, g1, Result.andThen_ok, Sem.run_pure]
  · cases hv
theorem c_conv {o : Oper} {s d : Nat} {x : Operand} (ho : o.op = .convert s d x) {ao : AOp} (h : compConv G tt s d x = some ao) : Meets P β tm a st w o ao := by
  intro v st' hv
  unfold compConv at h
  split at h
  case h_2 => cases h
  rename_i r si di h1 h2 h3
  have hx := rnd_rel (a := a) hG ht h1
  have hs := hT _ _ h2
  have hd := hT _ _ h3
  have same : ∀ {y : Value}, (convert s d (a.eval x)).run P w = .ok y w → VRel β v y → st' = st → Does P (execOp a.eval o) β st w v st' := by
    intro y g1 g2 e; subst e
    refine ⟨β, y, w, .inl ?_, g2, Post.refl hr⟩
    simp only [execOp, ho, Sem.run_bind, g1, Result.andThen_ok, Sem.run_pure]
  split at h
  · rename_i k k' hu1 hu2
    cases h
    simp only [aop] at hv
    split at hv
    · rename_i j n hb
      cases hv; rw [hb] at hx
      have hx : a.eval x = .int j n := hx
      exact same (by rw [hx]; exact s_toInt hs hd hu2) rfl rfl
    · cases hv
  · rename_i hu1 hu2
    cases h
    simp only [aop] at hv
    split at hv
    · rename_i l hb
      cases hv; rw [hb] at hx
      exact same (s_strId hs hd hu2 hx) hx rfl
    · cases hv
  · rename_i k hu1 hu2
    cases h
    simp only [aop] at hv
    split at hv
    · rename_i j n hb
      split at hv
      · rename_i hn
        cases hv; rw [hb] at hx
        have hx : a.eval x = .int j (Int.ofNat n) := hx
        obtain ⟨y, g1, g2⟩ := s_rune (P := P) (β := β) (w := w) (j := j) hs hd hu2 (Nat.le_of_ble_eq_true hn)
        exact same (by rw [hx]; exact g1) g2 rfl
      · cases hv
    · cases hv
  · rename_i e hu1 hu2
    split at h
    case h_2 => cases h
    rename_i ei he
    split at h
    case h_2 => cases h
    rename_i heu
    cases h
    simp only [aop] at hv
    split at hv
    · rename_i l hb
      cases hv; rw [hb] at hx
      exact same (s_strId hs hd hu2 hx) hx rfl
    · rename_i hb
      cases hv; rw [hb] at hx
      have hx : a.eval x = .slice none 0 0 := hx
      obtain ⟨y, g1, g2⟩ := s_toStrNil (β := β) (w := w) hs hd (hT _ _ he) hu1 hu2 heu
      exact same (by rw [hx]; exact g1) g2 rfl
    · rename_i b off len cap hb
      rw [hb] at hx
      split at hv
      · rename_i l hl
        split at hv
        · rename_i q hq
          cases hv
          obtain ⟨y, g1, g2⟩ := s_toStr (P := P) hr hs hd (hT _ _ he) hu1 hu2 heu hx hl hq
          exact same g1 g2 rfl
        · cases hv
      · cases hv
    · cases hv
  · rename_i e hu1 hu2
    split at h
    case h_2 => cases h
    rename_i ei he
    split at h
    case h_2 => cases h
    rename_i heu
    cases h
    simp only [aop] at hv
    split at hv
    · rename_i l hb
      cases hv; rw [hb] at hx
      have := s_toBytes (P := P) hr hs hd (hT _ _ he) hu1 hu2 heu hx
      simpa only [execOp, ho] using this
    · cases hv
  · cases h
end
end Go.RI
namespace Go.RI
variable [cx : Cx]
section
variable {G : Nat} {tt : TT} {P : Program} {β : Bmap} {tm : Tr AV} {a : Act} {st : St} {w : World}
variable (hT : TTok P tt) (hG : GRel G β) (hr : Rel β st w) (ht : TRel β tm a.tmps)
include hT hG hr ht
omit hT hG ht in
theorem Meets.same {o : Oper} {s : Sem Value} (ho : execOp a.eval o = do pure (Next.value (← s))) {v : AV} {y : Value} (g1 : s.run P w = .ok y w) (g2 : VRel β v y) : Does P (execOp a.eval o) β st w v st := by
  rw [ho]; exact Does.same hr g1 g2
theorem c_mkIface {o : Oper} {t : Nat} {x : Operand} (ho : o.op = .makeInterface t x) {ti : TI} (hti : tt t = some ti) (hni : ∀ m, ti.und ≠ .interface m) {r : Rnd} (h : rnd G x = some r) : Meets P β tm a st w o (.mkIface t r) := by
  intro v st' hv
  simp only [aop, Option.some.injEq, Prod.mk.injEq] at hv
  obtain ⟨rfl, rfl⟩ := hv
  refine Meets.same hr (by simp only [execOp, ho] <;> rfl) (y := .iface t (a.eval x)) ?_ ⟨_, rnd_rel hG ht h, rfl⟩
  simp only [Instr.makeInterface, Sem.run_bind, (hT _ _ hti).run_und, Result.andThen_ok, Sem.run_pure]
theorem c_mkFunc {o : Oper} {f : Fn} {x y : Array Operand} (ho : o.op = .makeFunc f x y) {rx ry : List Rnd} (h1 : rndL G x.toList = some rx) (h2 : rndL G y.toList = some ry) : Meets P β tm a st w o (.mkFunc f rx ry) := by
  intro v st' hv
  simp only [aop, Option.some.injEq, Prod.mk.injEq] at hv
  obtain ⟨rfl, rfl⟩ := hv
  refine Meets.same hr (by simp only [execOp, ho] <;> rfl) (y := .func f (x.map a.eval) (y.map a.eval)) rfl ⟨_, _, rndL_rel hG ht h1, rndL_rel hG ht h2, by rw [← Array.toList_map, ← Array.toList_map]⟩
theorem c_mkMap {o : Oper} {t : Nat} {r : Option Operand} (ho : o.op = .makeMap t r) {ti : TI} (hti : tt t = some ti) {kt e : Nat} (hu : ti.und = .map kt e) (hres : r = none ∨ ∃ k n, r = some (.const (.int k n))) : Meets P β tm a st w o .mkMap := by
  intro v st' hv
  simp only [aop, Option.some.injEq, Prod.mk.injEq] at hv
  obtain ⟨rfl, rfl⟩ := hv
  have := s_mkMap (P := P) hr (hT _ _ hti) hu (r := r.map a.eval) (by
    rcases hres with rfl | ⟨k, n, rfl⟩
    · exact .inl rfl
    · exact .inr ⟨k, n, rfl⟩)
  simpa only [execOp, ho] using this
theorem c_mkSlice {o : Oper} {t : Nat} {x y : Operand} (ho : o.op = .makeSlice t x y) {ti : TI} (hti : tt t = some ti) {e : Nat} (hu : ti.und = .slice e) {ei : TI} (hei : tt e = some ei) {rx ry : Rnd} (h1 : rnd G x = some rx) (h2 : rnd G y = some ry) :
    Meets P β tm a st w o (.mkSlice e ei.size ei.bytes ei.zero.cells rx ry) := by
  intro v st' hv
  simp only [aop] at hv
  split at hv
  case h_2 => cases hv
  rename_i l c hl hc
  split at hv
  case h_2 => cases hv
  rename_i b1 b2 b3
  cases hv
  obtain ⟨k1, e1⟩ := natOf_val hl (rnd_rel (a := a) hG ht h1)
  obtain ⟨k2, e2⟩ := natOf_val hc (rnd_rel (a := a) hG ht h2)
  have := s_mkSlice (P := P) hr (hT _ _ hti) hu (hT _ _ hei) e1 e2 (Nat.le_of_ble_eq_true b1) (Nat.le_of_ble_eq_true b2) (Nat.le_of_ble_eq_true b3)
  simpa only [execOp, ho] using this
theorem c_cutStr {o : Oper} {t : Nat} {x : Operand} {lo hi : Option Operand} (ho : o.op = .slice t x lo hi none) {ti : TI} (hti : tt t = some ti) (hu : ti.und = .string) {rx : Rnd} {rlo rhi : Option Rnd} (h1 : rnd G x = some rx) (h2 : rndO G lo = some rlo) (h3 : rndO G hi = some rhi) :
    Meets P β tm a st w o (.cutStr rx rlo rhi) := by
  intro v st' hv
  have hx := rnd_rel (a := a) hG ht h1
  simp only [aop] at hv
  split at hv
  case h_2 => cases hv
  rename_i s hs
  rw [hs] at hx
  split at hv
  case h_2 => cases hv
  rename_i l h hl hh
  split at hv
  case h_2 => cases hv
  rename_i b1 b2
  cases hv
  obtain ⟨y, g1, g2⟩ := s_cutStr (P := P) (w := w) (hT _ _ hti) hu hx (rndO_spec (a := a) hG ht h2) (rndO_spec hG ht h3) hl hh (Nat.le_of_ble_eq_true b1) (Nat.le_of_ble_eq_true b2)
  exact Meets.same hr (by simp only [execOp, ho] <;> rfl) g1 g2
theorem c_cutSl {o : Oper} {t : Nat} {x : Operand} {lo hi : Option Operand} (ho : o.op = .slice t x lo hi none) {ti : TI} (hti : tt t = some ti) {e : Nat} (hu : ti.und = .slice e) {ei : TI} (hei : tt e = some ei) {rx : Rnd} {rlo rhi : Option Rnd} (h1 : rnd G x = some rx) (h2 : rndO G lo = some rlo) (h3 : rndO G hi = some rhi) :
    Meets P β tm a st w o (.cutSl ei.size rx rlo rhi none) := by
  intro v st' hv
  have hx := rnd_rel (a := a) hG ht h1
  simp only [aop] at hv
  split at hv
  · rename_i b off len cap es' hs
    rw [hs] at hx
    split at hv
    case h_2 => cases hv
    rename_i l h m hl hh hm
    split at hv
    case h_2 => cases hv
    rename_i b1 b2 b3 b4
    cases hv
    have b4 := Nat.eq_of_beq_eq_true b4
    simp only [optNat, Option.some.injEq] at hm
    subst hm b4
    obtain ⟨y, g1, g2⟩ := s_cutSl (P := P) (w := w) (hT _ _ hti) hu (hT _ _ hei) rfl hx (rndO_spec (a := a) hG ht h2) (rndO_spec hG ht h3) hl hh (Nat.le_of_ble_eq_true b1) (Nat.le_of_ble_eq_true b2)
    exact Meets.same hr (by simp only [execOp, ho] <;> rfl) g1 g2
  · rename_i hs
    rw [hs] at hx
    have hx : a.eval x = .slice none 0 0 := hx
    split at hv
    case h_2 => cases hv
    rename_i hl hh hm
    cases hv
    exact Meets.same hr (s := Instr.sliceAt t (a.eval x) (lo.map a.eval) (hi.map a.eval) none) (by simp only [execOp, ho] <;> rfl) (y := .slice none 0 0) (by rw [hx]; exact s_cutNil (P := P) (w := w) (hT _ _ hti) hu (hT _ _ hei) (rndO_spec (a := a) hG ht h2) (rndO_spec hG ht h3) hl hh) rfl
  · cases hv
theorem c_cutSl3 {o : Oper} {t : Nat} {x mx : Operand} {lo hi : Option Operand} (ho : o.op = .slice t x lo hi (some mx)) {ti : TI} (hti : tt t = some ti) {e : Nat} (hu : ti.und = .slice e) {ei : TI} (hei : tt e = some ei) (hhi : hi.isSome = true) {rx rmx : Rnd} {rlo rhi : Option Rnd} (h1 : rnd G x = some rx) (h2 : rndO G lo = some rlo) (h3 : rndO G hi = some rhi) (h4 : rnd G mx = some rmx) :
    Meets P β tm a st w o (.cutSl ei.size rx rlo rhi (some rmx)) := by
  intro v st' hv
  have hx := rnd_rel (a := a) hG ht h1
  have hmx := rnd_rel (a := a) hG ht h4
  simp only [aop] at hv
  split at hv
  · rename_i b off len cap es' hs
    rw [hs] at hx
    split at hv
    case h_2 => cases hv
    rename_i l h m hl hh hm
    split at hv
    case h_2 => cases hv
    rename_i b1 b2 b3 b4
    cases hv
    have b4 := Nat.eq_of_beq_eq_true b4
    subst b4
    simp only [optNat] at hm
    obtain ⟨y, g1, g2⟩ := s_cutSl3 (P := P) (w := w) (hT _ _ hti) hu (hT _ _ hei) rfl hx (rndO_spec (a := a) hG ht h2) (rndO_spec hG ht h3) hhi hmx hl hh hm (Nat.le_of_ble_eq_true b1) (Nat.le_of_ble_eq_true b2) (Nat.le_of_ble_eq_true b3)
    exact Meets.same hr (by simp only [execOp, ho] <;> rfl) g1 g2
  · rename_i hs
    rw [hs] at hx
    have hx : a.eval x = .slice none 0 0 := hx
    split at hv
    case h_2 => cases hv
    rename_i hl hh hm
    cases hv
    simp only [optNat] at hm
    exact Meets.same hr (s := Instr.sliceAt t (a.eval x) (lo.map a.eval) (hi.map a.eval) ((some mx).map a.eval)) (by simp only [execOp, ho] <;> rfl) (y := .slice none 0 0) (by rw [hx]; exact s_cutNil3 (P := P) (w := w) (hT _ _ hti) hu (hT _ _ hei) (rndO_spec (a := a) hG ht h2) (rndO_spec hG ht h3) hhi hmx hl hh hm) rfl
  · cases hv
theorem c_cutArr {o : Oper} {t : Nat} {x : Operand} {lo hi : Option Operand} (ho : o.op = .slice t x lo hi none) {ti : TI} (hti : tt t = some ti) {n e : Nat} (hu : ti.und = .array n e) {ei : TI} (hei : tt e = some ei) {rx : Rnd} {rlo rhi : Option Rnd} (h1 : rnd G x = some rx) (h2 : rndO G lo = some rlo) (h3 : rndO G hi = some rhi) :
    Meets P β tm a st w o (.cutArr n ei.size rx rlo rhi) := by
  intro v st' hv
  have hx := rnd_rel (a := a) hG ht h1
  simp only [aop] at hv
  split at hv
  case h_2 => cases hv
  rename_i b off hs
  rw [hs] at hx
  split at hv
  case h_2 => cases hv
  rename_i el row fz kin hg
  split at hv
  case h_2 => cases hv
  rename_i l h hl hh
  split at hv
  case h_2 => cases hv
  rename_i b1 b2 b3
  cases hv
  have b3 := Nat.le_of_ble_eq_true b3
  obtain ⟨y, g1, g2⟩ := s_cutArr (P := P) (w := w) (hT _ _ hti) hu (hT _ _ hei) rfl hx (rndO_spec (a := a) hG ht h2) (rndO_spec hG ht h3) hl hh (Nat.le_of_ble_eq_true b1) (Nat.le_of_ble_eq_true b2) (fun im hb => by
    obtain ⟨c, fr, q1, q2, q3, _⟩ := hr.obj _ _ _ hg hb; omega)
  exact Meets.same hr (by simp only [execOp, ho] <;> rfl) g1 g2
theorem c_fieldAddr {o : Oper} {t f : Nat} {x : Operand} (ho : o.op = .fieldAddr t x f) {ti : TI} (hti : tt t = some ti) {fields : Array Field} (hu : ti.und = .struct fields) {fd : Field} (hf : fields[f]? = some fd) {fi : TI} (hfi : tt fd.type = some fi) (hne : fi.size ≠ 0) {r : Rnd} (h : rnd G x = some r) :
    Meets P β tm a st w o (.fieldAddr fd.offset r) := by
  intro v st' hv
  have hx := rnd_rel (a := a) hG ht h
  simp only [aop] at hv
  split at hv
  case h_2 => cases hv
  rename_i b off hs
  rw [hs] at hx
  cases hv
  obtain ⟨y, g1, g2⟩ := s_fieldAddr (P := P) (w := w) (hT _ _ hti) hu hf (hT _ _ hfi) hne hx
  exact Meets.same hr (by simp only [execOp, ho]) g1 g2
theorem c_field {o : Oper} {t f : Nat} {x : Operand} (ho : o.op = .field t x f) {ti : TI} (hti : tt t = some ti) {fields : Array Field} (hu : ti.und = .struct fields) {fd : Field} (hf : fields[f]? = some fd) {fi : TI} (hfi : tt fd.type = some fi) {r : Rnd} (h : rnd G x = some r) :
    Meets P β tm a st w o (.field fi.agg fd.offset fi.size r) := by
  intro v st' hv
  have hx := rnd_rel (a := a) hG ht h
  simp only [aop] at hv
  split at hv
  case h_2 => cases hv
  rename_i l hs
  rw [hs] at hx
  have key : ∀ q, (match fi.agg with | true => some (AV.agg ((l.drop fd.offset).take fi.size)) | false => l[fd.offset]?) = some q → v = q → st' = st → Does P (execOp a.eval o) β st w v st' := by
    intro q hq e1 e2; subst e1 e2
    obtain ⟨y, g1, g2⟩ := s_field (P := P) (w := w) (hT _ _ hti) hu hf (hT _ _ hfi) hx hq
    exact Meets.same hr (by simp only [execOp, ho]) g1 g2
  cases hq : fi.agg with
  | true => rw [hq] at hv; cases hv; exact key _ (by rw [hq]) rfl rfl
  | false =>
    rw [hq] at hv
    simp only at hv
    split at hv
    · rename_i q hl; cases hv; exact key _ (by rw [hq]; exact hl) rfl rfl
    · cases hv
theorem c_idxArr {o : Oper} {t : Nat} {x i : Operand} (ho : o.op = .indexAddr t x i) {ti : TI} (hti : tt t = some ti) {n e : Nat} (hu : ti.und = .array n e) {ei : TI} (hei : tt e = some ei) {rx ri : Rnd} (h1 : rnd G x = some rx) (h2 : rnd G i = some ri) :
    Meets P β tm a st w o (.idxArr n ei.size rx ri) := by
  intro v st' hv
  have hx := rnd_rel (a := a) hG ht h1
  simp only [aop] at hv
  split at hv
  case h_2 => cases hv
  rename_i b off j hs hj
  rw [hs] at hx
  split at hv
  case h_2 => cases hv
  rename_i hlt
  cases hv
  obtain ⟨k, e1⟩ := natOf_val hj (rnd_rel (a := a) hG ht h2)
  obtain ⟨y, g1, g2⟩ := s_idxArr (P := P) (w := w) (hT _ _ hti) hu (hT _ _ hei) hx e1 (Nat.le_of_ble_eq_true hlt)
  exact Meets.same hr (by simp only [execOp, ho]) g1 g2
theorem c_idxSl {o : Oper} {t : Nat} {x i : Operand} (ho : o.op = .indexAddr t x i) {ti : TI} (hti : tt t = some ti) {e : Nat} (hu : ti.und = .slice e) {ei : TI} (hei : tt e = some ei) {rx ri : Rnd} (h1 : rnd G x = some rx) (h2 : rnd G i = some ri) :
    Meets P β tm a st w o (.idxSl ei.size rx ri) := by
  intro v st' hv
  have hx := rnd_rel (a := a) hG ht h1
  simp only [aop] at hv
  split at hv
  case h_2 => cases hv
  rename_i b off len cap es' j hs hj
  rw [hs] at hx
  split at hv
  case h_2 => cases hv
  rename_i hlt hes
  cases hv
  have hes := Nat.eq_of_beq_eq_true hes
  subst hes
  obtain ⟨k, e1⟩ := natOf_val hj (rnd_rel (a := a) hG ht h2)
  obtain ⟨y, g1, g2⟩ := s_idxSl (P := P) (w := w) (hT _ _ hti) hu (hT _ _ hei) rfl hx e1 (Nat.le_of_ble_eq_true hlt)
  exact Meets.same hr (by simp only [execOp, ho]) g1 g2
theorem c_idxStr {o : Oper} {t : Nat} {x i : Operand} (ho : o.op = .index t x i) {ti : TI} (hti : tt t = some ti) (hu : ti.und = .string) {rx ri : Rnd} (h1 : rnd G x = some rx) (h2 : rnd G i = some ri) :
    Meets P β tm a st w o (.idxStr rx ri) := by
  intro v st' hv
  have hx := rnd_rel (a := a) hG ht h1
  simp only [aop] at hv
  split at hv
  case h_2 => cases hv
  rename_i s j hs hj
  rw [hs] at hx
  split at hv
  case h_2 => cases hv
  rename_i c hc
  cases hv
  obtain ⟨k, e1⟩ := natOf_val hj (rnd_rel (a := a) hG ht h2)
  exact Meets.same hr (by simp only [execOp, ho]) (s_idxStr (P := P) (w := w) (hT _ _ hti) hu hx e1 hc) rfl
theorem c_idxAgg {o : Oper} {t : Nat} {x i : Operand} (ho : o.op = .index t x i) {ti : TI} (hti : tt t = some ti) {n e : Nat} (hu : ti.und = .array n e) {ei : TI} (hei : tt e = some ei) {rx ri : Rnd} (h1 : rnd G x = some rx) (h2 : rnd G i = some ri) :
    Meets P β tm a st w o (.idxAgg ei.agg n ei.size rx ri) := by
  intro v st' hv
  have hx := rnd_rel (a := a) hG ht h1
  simp only [aop] at hv
  split at hv
  case h_2 => cases hv
  rename_i l j hs hj
  rw [hs] at hx
  split at hv
  case h_2 => cases hv
  rename_i hlt
  obtain ⟨k, e1⟩ := natOf_val hj (rnd_rel (a := a) hG ht h2)
  have key : ∀ q, (match ei.agg with | true => some (AV.agg ((l.drop (j * ei.size)).take ei.size)) | false => l[j * ei.size]?) = some q → v = q → st' = st → Does P (execOp a.eval o) β st w v st' := by
    intro q hq e1 e2; subst e1 e2
    obtain ⟨y, g1, g2⟩ := s_idxAgg (P := P) (w := w) (hT _ _ hti) hu (hT _ _ hei) hx ‹_› (Nat.le_of_ble_eq_true hlt) hq
    exact Meets.same hr (by simp only [execOp, ho]) g1 g2
  cases hq : ei.agg with
  | true => rw [hq] at hv; cases hv; exact key _ (by rw [hq]) rfl rfl
  | false =>
    rw [hq] at hv
    simp only at hv
    split at hv
    · rename_i q hl; cases hv; exact key _ (by rw [hq]; exact hl) rfl rfl
    · cases hv
end
end Go.RI
