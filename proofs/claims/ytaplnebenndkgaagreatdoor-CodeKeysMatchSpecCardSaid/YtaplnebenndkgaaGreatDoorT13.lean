/- A compiler from bodies of Go functions into a small language of values and blocks, and the proof that a run of the compiled text is a run of the program. Conditions: none. -/
import Derived.Test.YtaplnebenndkgaaGreatDoorT12
import Derived.Lib.Bytealg
set_option linter.all false
namespace Go.RI
abbrev OrcF := List AV → St → Option (AV × St)
noncomputable def tabOf (base : Tr Ent) : List (Nat × OrcF) → Tr Ent
  | [] => base
  | (g, f) :: l => setF (.orc f) (tabOf base l) g
def NoOrc (base : Tr Ent) : Prop := ∀ g f, base.get g ≠ some (.orc f)
theorem tabOf_orc {base : Tr Ent} (hb : NoOrc base) : ∀ {l : List (Nat × OrcF)} {g : Nat} {f : OrcF}, (tabOf base l).get g = some (.orc f) → (g, f) ∈ l
  | [], g, f, h => absurd h (hb g f)
  | (g', f') :: l, g, f, h => by
    have h : (setF (.orc f') (tabOf base l) g').get g = some (.orc f) := h
    rw [setF_eq, Tr.get_set] at h
    split at h
    · rename_i e; cases h; subst e; exact List.mem_cons_self
    · exact List.mem_cons_of_mem _ (tabOf_orc hb h)
theorem tabOf_code {base : Tr Ent} : ∀ {l : List (Nat × OrcF)} {g : Nat} {f : AFn}, (tabOf base l).get g = some (.code f) → base.get g = some (.code f)
  | [], g, f, h => h
  | (g', f') :: l, g, f, h => by
    have h : (setF (.orc f') (tabOf base l) g').get g = some (.code f) := h
    rw [setF_eq, Tr.get_set] at h
    split at h
    · cases h
    · exact tabOf_code h
section
variable [cx : Cx] {P : Program} {G : Nat} {tt : TT}
def EntOk (P : Program) (G : Nat) (g : Nat) (f : OrcF) : Prop :=
  ∀ args st v st', f args st = some (v, st') → ∀ (F : Fence) (m : Nat) (β : Bmap) (w : World) (as : List Value), (∀ f, F.fn f) → F.depth = none → GRel G β → Rel β st w → LRel β args as →
    (∃ g' as', (callFunc g as.toArray).run P w = .ok (.enter g' as') w ∧ CallsIn F m P g' as' w (RV fun v' w' => ∃ β', VRel β' v v' ∧ Post β st w β' st' w')) ∨
    (∃ v' w', (callFunc g as.toArray).run P w = .ok (.value v') w' ∧ ∃ β', VRel β' v v' ∧ Post β st w β' st' w') ∨
    (∃ l f tmps as' bd, (callFunc g as.toArray).run P w = .ok (.round l f tmps as' bd) w ∧ RoundIn F m P l f tmps as' bd w (RV fun v' w' => ∃ β', VRel β' v v' ∧ Post β st w β' st' w'))
theorem orcOk_tab {base : Tr Ent} (hb : NoOrc base) {l : List (Nat × OrcF)} (h : ∀ g f, (g, f) ∈ l → EntOk P G g f) : OrcOk P G (orcOf (tabOf base l)) := by
  intro g args st v st' ho
  unfold orcOf at ho
  split at ho
  · rename_i f hf; exact h g f (tabOf_orc hb hf) args st v st' ho
  · cases ho
omit cx in
theorem orcTame_tab {base : Tr Ent} (hb : NoOrc base) {l : List (Nat × OrcF)} (h : ∀ g f, (g, f) ∈ l → ∀ as st v st', f as st = some (v, st') → Tame st st') : OrcTame (orcOf (tabOf base l)) := by
  intro g args st v st' ho
  unfold orcOf at ho
  split at ho
  · rename_i f hf; exact h g f (tabOf_orc hb hf) args st v st' ho
  · cases ho
omit cx in
theorem fnsOk_tab {base : Tr Ent} (h : FnsOk P G tt (fsOf base)) (l : List (Nat × OrcF)) : FnsOk P G tt (fsOf (tabOf base l)) := by
  intro g fn hg
  refine h g fn ?_
  unfold fsOf at hg ⊢
  split at hg
  · rename_i f hf; cases hg; rw [tabOf_code hf]
  · cases hg
theorem cases_of_callsFor {F : Fence} {m g : Nat} {as : List Value} {w : World} {R : Value → World → Prop} (h : CallsFor P F m (.func (.func g) #[] #[]) as.toArray w R) :
    (∃ g' as', (callFunc g as.toArray).run P w = .ok (.enter g' as') w ∧ CallsIn F m P g' as' w (RV R)) ∨ (∃ v' w', (callFunc g as.toArray).run P w = .ok (.value v') w' ∧ R v' w') ∨
    (∃ l f tmps as' bd, (callFunc g as.toArray).run P w = .ok (.round l f tmps as' bd) w ∧ RoundIn F m P l f tmps as' bd w (RV R)) := by
  obtain ⟨d, hd1, hd2⟩ := h
  have e : (Deferred.ofValue (.func (.func g) #[] #[]) as.toArray).run P w = .ok { target := .fn (.func g) #[], args := #[] ++ as.toArray } w := rfl
  rw [e] at hd1
  cases hd1
  have hinv : invoke (.fn (.func g) #[]) (#[] ++ as.toArray) = callFunc g as.toArray := by simp [invoke]
  rw [hinv] at hd2
  rcases hd2 with ⟨g', as', h1, h2⟩ | ⟨l, f, tmps, as', bd, h1, h2⟩ | ⟨v', w', h1, h2⟩
  · exact .inl ⟨g', as', h1, h2⟩
  · exact .inr (.inr ⟨l, f, tmps, as', bd, h1, h2⟩)
  · exact .inr (.inl ⟨v', w', h1, h2⟩)
def findRow : List Row → List (Option AV) → List AV → Option Row
  | [], _, _ => none
  | r :: rs, l, o => match eqOL l r.l, eqVL o r.o with
    | true, true => some r
    | _, _ => findRow rs l o
omit cx in
theorem findRow_ok : ∀ {rs : List Row} {l : List (Option AV)} {o : List AV} {r : Row}, findRow rs l o = some r → r ∈ rs ∧ l = r.l.map some ∧ o = r.o
  | [], _, _, _, h => by cases h
  | r' :: rs, l, o, r, h => by
    simp only [findRow] at h
    split at h
    · rename_i h1 h2; cases h; exact ⟨List.mem_cons_self, eqOL_eq h1, eqVL_eq h2⟩
    · obtain ⟨q1, q2⟩ := findRow_ok h; exact ⟨List.mem_cons_of_mem _ q1, q2⟩
def rowAns (e es : Nat) (r : Row) (st : St) : AV × St := (.tuple [.slice st.next 0 r.m r.m es, .int .i64 (.ofNat 0)], st.new (.cells (e, true) (r.r.map some) 0 none))
def orcRows (e es : Nat) (r0 : Row) (rs : List Row) : OrcF := fun as st => match as with
  | [.nils, .agg o] => match eqVL o r0.o with
    | true => some (rowAns e es r0 st)
    | false => none
  | [.slice b 0 n c es', .agg o] => match st.heap.get b with
    | some (.cells (e', true) l 0 _) => match findRow rs l o with
      | some r => match Nat.beq n r.n, Nat.ble r.n c, Nat.beq es' es, Nat.beq e' e with
        | true, true, true, true => some (rowAns e es r st)
        | _, _, _, _ => none
      | none => none
    | _ => none
  | _ => none
def orcMade (e es : Nat) (r : Row) : OrcF := fun as st => match as with
  | [] => some (.slice st.next 0 r.m r.m es, st.new (.cells (e, true) (r.r.map some) 0 none))
  | _ => none
omit cx in
theorem orcRows_tame {e es : Nat} {r0 : Row} {rs : List Row} {as : List AV} {st st' : St} {v : AV} (h : orcRows e es r0 rs as st = some (v, st')) : Tame st st' := by
  unfold orcRows rowAns at h
  repeat' split at h
  all_goals first | (cases h; done) | (cases h; exact Tame.new _ rfl)
omit cx in
theorem orcMade_tame {e es : Nat} {r : Row} {as : List AV} {st st' : St} {v : AV} (h : orcMade e es r as st = some (v, st')) : Tame st st' := by
  unfold orcMade at h
  split at h
  · cases h; exact Tame.new _ rfl
  · cases h
theorem entOk_rows (hT : TTok P tt) (hcx : CxOk G tt) (hmix : P.follows .mixedOrders = true) {tb : Tr Ent} (hfs : FnsOk P G tt (fsOf tb)) (horc : OrcOk P G (orcOf tb)) (hot : OrcTame (orcOf tb))
    {n g nx e es : Nat} (hG' : G ≤ nx) {r0 : Row} {rs : List Row} (h0 : row0Run tb n g nx e es r0 = true ∧ pureL r0.o = true ∧ pureL r0.r = true)
    (hrs : ∀ r, r ∈ rs → rowRun tb n g nx e es r = true ∧ pureL r.l = true ∧ pureL r.o = true ∧ pureL r.r = true) : EntOk P G g (orcRows e es r0 rs) := by
  intro args st v st' h F m β w as hF1 hF2 hG hr has
  refine cases_of_callsFor ?_
  unfold orcRows at h
  split at h
  · rename_i o
    split at h
    · rename_i ho
      have ho := eqVL_eq ho
      subst ho
      cases h
      exact row0_contract hT hcx hmix hfs horc hot hG' h0.1 h0.2.1 h0.2.2 hG hr hF1 hF2 has
    · cases h
  · rename_i b n' c es' o
    split at h
    · rename_i e' l k hg
      split at h
      · rename_i r hfr
        obtain ⟨q1, q2, q3⟩ := findRow_ok hfr
        subst q2; subst q3
        split at h
        · rename_i k1 k2 k3 k4
          have k1 := Nat.eq_of_beq_eq_true k1
          have k3 := Nat.eq_of_beq_eq_true k3
          have k4 := Nat.eq_of_beq_eq_true k4
          subst k1; subst k3; subst k4
          cases h
          obtain ⟨z1, z2, z3, z4⟩ := hrs r q1
          exact row_contract hT hcx hmix hfs horc hot hG' z1 z2 z3 z4 hG hr hg (Nat.le_of_ble_eq_true k2) hF1 hF2 has
        · cases h
      · cases h
    · cases h
  · cases h
theorem entOk_made (hT : TTok P tt) (hcx : CxOk G tt) (hmix : P.follows .mixedOrders = true) {tb : Tr Ent} (hfs : FnsOk P G tt (fsOf tb)) (horc : OrcOk P G (orcOf tb)) (hot : OrcTame (orcOf tb))
    {n g nx e es : Nat} (hG' : G ≤ nx) {r : Row} (h0 : madeRun tb n g nx e es r = true) (hp : pureL r.r = true) : EntOk P G g (orcMade e es r) := by
  intro args st v st' h F m β w as hF1 hF2 hG hr has
  refine cases_of_callsFor ?_
  unfold orcMade at h
  split at h
  · cases h
    exact made_contract hT hcx hmix hfs horc hot hG' h0 hp hG hr hF1 hF2 has
  · cases h
end
end Go.RI
namespace Go.RI
noncomputable section
def ibsF (c : Nat) : List Nat → Nat → Int := @List.rec Nat (fun _ => Nat → Int) (fun _ => .negSucc 0) (fun x _ ih i => @Bool.rec (fun _ => Int) (ih (Nat.succ i)) (.ofNat i) (Nat.beq x c))
def cntF (c : Nat) : List Nat → Nat := @List.rec Nat (fun _ => Nat) 0 (fun x _ ih => @Bool.rec (fun _ => Nat) ih (Nat.succ ih) (Nat.beq x c))
def oCmp : OrcF := fun as st => match as with
  | [.str a, .str b] => some (.int .i64 (@Bool.rec (fun _ => Int) (@Bool.rec (fun _ => Int) (.ofNat 1) (.negSucc 0) (ltLF a b)) (.ofNat 0) (eqLF a b)), st)
  | _ => none
def oIdx : OrcF := fun as st => match as with
  | [.str a, .int .u8 (.ofNat c)] => match Nat.blt c 256 with
    | true => some (.int .i64 (ibsF c a 0), st)
    | false => none
  | _ => none
def oCnt : OrcF := fun as st => match as with
  | [.str a, .int .u8 (.ofNat c)] => match Nat.blt c 256 with
    | true => some (.int .i64 (.ofNat (cntF c a)), st)
    | false => none
  | _ => none
end
theorem byte_beq (x : UInt8) {c : Nat} (hc : c < 256) : (x == c.toUInt8) = Nat.beq x.toNat c := by
  rw [Bool.eq_iff_iff, beq_iff_eq]
  constructor
  · intro h
    subst h
    have : (c.toUInt8).toNat = c := by simp [Nat.toUInt8, UInt8.toNat_ofNat]; omega
    rw [this]; exact Nat.beq_refl _
  · intro h
    have h := Nat.eq_of_beq_eq_true h
    apply UInt8.toNat_inj.1
    rw [h]; simp [Nat.toUInt8, UInt8.toNat_ofNat]; omega
theorem ibsF_eq {c : Nat} (hc : c < 256) : ∀ (l : List UInt8) (i : Nat), ibsF c (l.map UInt8.toNat) i = if Lib.indexByte l c.toUInt8 = -1 then -1 else Lib.indexByte l c.toUInt8 + i
  | [], i => rfl
  | x :: l, i => by
    show @Bool.rec (fun _ => Int) (ibsF c (l.map UInt8.toNat) (i + 1)) (.ofNat i) (Nat.beq x.toNat c) = _
    rw [← byte_beq x hc, ibsF_eq hc l (i + 1)]
    have e : Lib.indexByte (x :: l) c.toUInt8 = if x == c.toUInt8 then 0 else if Lib.indexByte l c.toUInt8 == -1 then -1 else Lib.indexByte l c.toUInt8 + 1 := rfl
    rw [e]
    have hge := Lib.indexByte_ge l c.toUInt8
    cases h : (x == c.toUInt8) with
    | true => simp
    | false =>
      simp only [Bool.false_eq_true, if_false]
      by_cases h2 : Lib.indexByte l c.toUInt8 = -1
      · simp [h2]
      · have h3 : (Lib.indexByte l c.toUInt8 == -1) = false := by simp [h2]
        rw [if_neg h2, h3]
        simp only [Bool.false_eq_true, if_false]
        rw [if_neg (by omega)]
        omega
theorem cntF_eq {c : Nat} (hc : c < 256) : ∀ l : List UInt8, cntF c (l.map UInt8.toNat) = Lib.countByte l c.toUInt8
  | [] => rfl
  | x :: l => by
    show @Bool.rec (fun _ => Nat) (cntF c (l.map UInt8.toNat)) (Nat.succ (cntF c (l.map UInt8.toNat))) (Nat.beq x.toNat c) = _
    rw [← byte_beq x hc, cntF_eq hc l]
    unfold Lib.countByte
    rw [List.count_cons]
    cases h : (x == c.toUInt8) <;> simp
section
variable [cx : Cx] {P : Program} {G : Nat}
structure IsExtern (P : Program) (g : Nat) (e : Array Value → Sem Value) : Prop where
  fn : ∃ fn, P.funcs[g]? = some fn ∧ (fn.name == "runtime.NumGoroutine") = false ∧ fn.body.isNone = true ∧ (Extern.findNext fn).isNone = true ∧ ∃ e', Extern.find fn = some e' ∧ e' = e
theorem ent_value {g : Nat} {args : List Value} {w : World} {v' : Value} {e : Array Value → Sem Value} (hx : IsExtern P g e) (he : (e args.toArray).run P w = .ok v' w) : (callFunc g args.toArray).run P w = .ok (.value v') w := by
  obtain ⟨fn, h1, h2, h3, h4, e', h5, rfl⟩ := hx.fn
  have hn : Extern.findNext fn = none := by
    cases hq : Extern.findNext fn with
    | none => rfl
    | some _ => rw [hq] at h4; cases h4
  rw [run_callFunc_extern h1 h2 h3 hn h5, he]; rfl
theorem entOk_idx {g : Nat} (hx : IsExtern P g Extern.BytealgIndexByte.indexByte) : EntOk P G g oIdx := by
  intro args st v st' h F m β w as hF1 hF2 hG hr has
  unfold oIdx at h
  split at h
  case h_2 => cases h
  rename_i a c
  split at h
  case h_2 => cases h
  rename_i hc
  have hc : c < 256 := Nat.le_of_ble_eq_true hc
  cases h
  simp only [LRel, VRel] at has
  obtain ⟨_, _, rfl, ⟨B, rfl, rfl⟩, _, _, rfl, rfl, rfl⟩ := has
  refine .inr (.inl ⟨_, w, ent_value hx (Lib.run_indexByteString B (Int.ofNat c) w), β, ?_, Post.refl hr⟩)
  simp only [VRel]
  rw [ibsF_eq hc]
  have e : (Int.ofNat c).toNat.toUInt8 = c.toUInt8 := rfl
  rw [e]
  split
  · rename_i h; rw [h]
  · simp
theorem entOk_cnt {g : Nat} (hx : IsExtern P g Extern.BytealgCount.count) : EntOk P G g oCnt := by
  intro args st v st' h F m β w as hF1 hF2 hG hr has
  unfold oCnt at h
  split at h
  case h_2 => cases h
  rename_i a c
  split at h
  case h_2 => cases h
  rename_i hc
  have hc : c < 256 := Nat.le_of_ble_eq_true hc
  cases h
  simp only [LRel, VRel] at has
  obtain ⟨_, _, rfl, ⟨B, rfl, rfl⟩, _, _, rfl, rfl, rfl⟩ := has
  refine .inr (.inl ⟨_, w, ent_value hx (Lib.run_countString B (Int.ofNat c) w), β, ?_, Post.refl hr⟩)
  simp only [VRel]
  rw [cntF_eq hc]
  rfl
theorem cmp_bytes : ∀ a b : List UInt8, (@Bool.rec (fun _ => Int) (@Bool.rec (fun _ => Int) (.ofNat 1) (.negSucc 0) (ltLF (a.map UInt8.toNat) (b.map UInt8.toNat))) (.ofNat 0) (eqLF (a.map UInt8.toNat) (b.map UInt8.toNat))) = Lib.compareBytes a b
  | [], [] => rfl
  | [], _ :: _ => rfl
  | _ :: _, [] => rfl
  | x :: a, y :: b => by
    have ih := cmp_bytes a b
    show (@Bool.rec (fun _ => Int) (@Bool.rec (fun _ => Int) (.ofNat 1) (.negSucc 0) (@Bool.rec (fun _ => Bool) (@Bool.rec (fun _ => Bool) false (ltLF (a.map UInt8.toNat) (b.map UInt8.toNat)) (Nat.beq x.toNat y.toNat)) true (Nat.blt x.toNat y.toNat))) (.ofNat 0) (@Bool.rec (fun _ => Bool) false (eqLF (a.map UInt8.toNat) (b.map UInt8.toNat)) (Nat.beq x.toNat y.toNat))) = (if x < y then -1 else if y < x then 1 else Lib.compareBytes a b)
    by_cases h1 : x < y
    · have e1 : Nat.blt x.toNat y.toNat = true := Nat.ble_eq_true_of_le (UInt8.lt_iff_toNat_lt.1 h1)
      have e2 : Nat.beq x.toNat y.toNat = false := by
        cases hq : Nat.beq x.toNat y.toNat with
        | false => rfl
        | true => have := Nat.eq_of_beq_eq_true hq; have := UInt8.lt_iff_toNat_lt.1 h1; omega
      rw [e1, e2, if_pos h1]; rfl
    · have e1 : Nat.blt x.toNat y.toNat = false := by
        cases hq : Nat.blt x.toNat y.toNat with
        | false => rfl
        | true => exact absurd (UInt8.lt_iff_toNat_lt.2 (Nat.le_of_ble_eq_true hq)) h1
      rw [e1, if_neg h1]
      by_cases h2 : y < x
      · have e2 : Nat.beq x.toNat y.toNat = false := by
          cases hq : Nat.beq x.toNat y.toNat with
          | false => rfl
          | true => have := Nat.eq_of_beq_eq_true hq; have := UInt8.lt_iff_toNat_lt.1 h2; omega
        rw [e2, if_pos h2]; rfl
      · have e2 : x = y := by
          apply UInt8.toNat_inj.1
          have a1 : ¬ x.toNat < y.toNat := fun q => h1 (UInt8.lt_iff_toNat_lt.2 q)
          have a2 : ¬ y.toNat < x.toNat := fun q => h2 (UInt8.lt_iff_toNat_lt.2 q)
          omega
        rw [if_neg h2, ← ih, e2, Nat.beq_refl]
theorem entOk_cmp {g : Nat} (hx : IsExtern P g Extern.BytealgCompare.compare) : EntOk P G g oCmp := by
  intro args st v st' h F m β w as hF1 hF2 hG hr has
  unfold oCmp at h
  split at h
  case h_2 => cases h
  cases h
  simp only [LRel, VRel] at has
  obtain ⟨_, _, rfl, ⟨A, rfl, rfl⟩, _, _, rfl, ⟨B, rfl, rfl⟩, rfl⟩ := has
  refine .inr (.inl ⟨_, w, ent_value hx (Lib.run_compareString A B w), β, ?_, Post.refl hr⟩)
  simp only [VRel]
  rw [cmp_bytes]
end
end Go.RI
namespace Go.RI
noncomputable section
def andB (a b : Bool) : Bool := @Bool.rec (fun _ => Bool) false b a
def allN {α : Type} (p : α → Bool) (t : N16 α) : Bool :=
  andB (p t.a0) (andB (p t.a1) (andB (p t.a2) (andB (p t.a3) (andB (p t.a4) (andB (p t.a5) (andB (p t.a6) (andB (p t.a7) (andB (p t.a8) (andB (p t.a9) (andB (p t.aa) (andB (p t.ab) (andB (p t.ac) (andB (p t.ad) (andB (p t.ae) (p t.af)))))))))))))))
def noOrcO : Option Ent → Bool := @Option.rec Ent (fun _ => Bool) true (@Ent.rec (fun _ => Bool) (fun _ => true) (fun _ => false))
def isE : Tb Ent → Bool := @Tb.rec Ent (fun _ => Bool) true (fun _ _ _ _ _ => false)
def noOrcB : Tr Ent → Bool := @Tr.rec Ent (fun _ => Bool) (fun lo hi big => andB (allN (allN noOrcO) lo) (andB (allN (allN (allN (allN noOrcO))) hi) (isE big)))
end
theorem andB_true {a b : Bool} (h : andB a b = true) : a = true ∧ b = true := by
  cases a with
  | false => cases h
  | true => exact ⟨rfl, h⟩
theorem allN_get {α : Type} {p : α → Bool} {t : N16 α} (h : allN p t = true) (s : S16) : p (t.get s) = true := by
  unfold allN at h
  obtain ⟨h0, h⟩ := andB_true h
  obtain ⟨h1, h⟩ := andB_true h
  obtain ⟨h2, h⟩ := andB_true h
  obtain ⟨h3, h⟩ := andB_true h
  obtain ⟨h4, h⟩ := andB_true h
  obtain ⟨h5, h⟩ := andB_true h
  obtain ⟨h6, h⟩ := andB_true h
  obtain ⟨h7, h⟩ := andB_true h
  obtain ⟨h8, h⟩ := andB_true h
  obtain ⟨h9, h⟩ := andB_true h
  obtain ⟨ha, h⟩ := andB_true h
  obtain ⟨hb, h⟩ := andB_true h
  obtain ⟨hc, h⟩ := andB_true h
  obtain ⟨hd, h⟩ := andB_true h
  obtain ⟨he, h⟩ := andB_true h
  cases s <;> assumption
theorem noOrc_of {tb : Tr Ent} (h : noOrcB tb = true) : NoOrc tb := by
  obtain ⟨lo, hi, big⟩ := tb
  obtain ⟨h1, h⟩ := andB_true h
  obtain ⟨h2, h3⟩ := andB_true h
  intro g f hg
  have key : ∀ o : Option Ent, noOrcO o = true → o ≠ some (.orc f) := by
    intro o ho e
    subst e; cases ho
  have hg : (match Nat.blt g 256 with | true => Tr.get2 lo g | false => match Nat.blt g 65536 with | true => Tr.get4 hi g | false => Tb.get big g) = some (.orc f) := hg
  split at hg
  · exact key _ (allN_get (allN_get h1 _) _) hg
  · split at hg
    · exact key _ (allN_get (allN_get (allN_get (allN_get h2 _) _) _) _) hg
    · cases big with
      | e => rw [Tb.get_e] at hg; cases hg
      | n l v r => cases h3
theorem oIdx_tame {as : List AV} {st st' : St} {v : AV} (h : oIdx as st = some (v, st')) : Tame st st' := by
  unfold oIdx at h
  repeat' split at h
  all_goals first | (cases h; done) | (cases h; exact Tame.refl _)
theorem oCnt_tame {as : List AV} {st st' : St} {v : AV} (h : oCnt as st = some (v, st')) : Tame st st' := by
  unfold oCnt at h
  repeat' split at h
  all_goals first | (cases h; done) | (cases h; exact Tame.refl _)
theorem oCmp_tame {as : List AV} {st st' : St} {v : AV} (h : oCmp as st = some (v, st')) : Tame st st' := by
  unfold oCmp at h
  split at h
  · cases h; exact Tame.refl _
  · cases h
end Go.RI
