/- The law codeKeysMatchSpec: the row and its tied card hold, for all worlds in which the listed variables read as listed. Conditions: those of the row alone. -/
import Derived.Test.YtaplnebenndkgaaGreatDoorT33
import Derived.Test.YtaplnebenndkgaaGreatDoorT21
import Derived.Test.YtaplnebenndkgaaGreatDoorProg
import Derived.KernelRfl
import GoSem.ClaimJoined
import Derived.ChangeArms
import Derived.DataReads
set_option linter.all false
namespace Go.RI
open Go.Proofs
open Classical
noncomputable section
def betaOf (W : World) : Bmap := fun k => match W.heap[k]? with
  | some (.cells c _ _) => some ⟨k, 0, c.size⟩
  | _ => none
def absV (W : World) (es : Nat) : Value → Option AV
  | .bool b => some (.bool b)
  | .int k n => some (.int k n)
  | .string s => some (.str (s.data.toList.map UInt8.toNat))
  | .slice none 0 0 => some .nils
  | .slice (some a) len cap => if cap = 0 then (if len = 0 then some (.slice 1 0 0 0 es) else none) else match betaOf W a.block with
      | some im => if a.spot = none ∧ len ≤ cap ∧ a.off + cap * es ≤ im.room then some (.slice a.block a.off len cap es) else none
      | none => none
  | _ => none
def esAt (c : Array Value) (i : Nat) : Nat := if 4 ≤ i then (match c[i - 4]? with
  | some (.string _) => 7
  | _ => 1) else 1
def absRow (W : World) (c : Array Value) : List (Option AV) := (List.range c.size).map fun i => (c[i]?).bind (absV W (esAt c i))
def isHeld (k : Nat) : Prop := k = 1 ∨ k = 3
def objOf (W : World) (k : Nat) (c : Array Value) (t : Nat) : AObj := if isHeld k then .cells (t, true) (absRow W c) 0 none else .cells (t, true) (absRow W c) (c.size + 1) none
def heapOf (W : World) : Nat → Tr AObj
  | 0 => .e
  | n + 1 => match W.heap[n]? with
    | some (.cells c t _) => (heapOf W n).set (objOf W n c t) n
    | _ => heapOf W n
def stOf (W : World) : St := ⟨heapOf W W.heap.size, W.heap.size, W.heap.size, []⟩
def hpOf (W : World) (p1 p3 : List AV) : Hp := fun k => match W.heap[k]? with
  | some (.cells c t _) => if k = 1 then some (.own t p1) else if k = 3 then some (.own t p3) else some (.ro fun i => ((absRow W c)[i]?).join)
  | _ => none
end
theorem heapOf_get (W : World) (k : Nat) : ∀ n, (heapOf W n).get k = if k < n then (match W.heap[k]? with
    | some (.cells c t _) => some (objOf W k c t)
    | _ => none) else none
  | 0 => by simp [heapOf]
  | n + 1 => by
    have ih := heapOf_get W k n
    unfold heapOf
    split
    · rename_i c t fr hq
      rw [Tr.get_set]
      by_cases e : k = n
      · subst e; rw [if_pos rfl, if_pos (by omega), hq]
      · rw [if_neg e, ih]
        by_cases h : k < n
        · rw [if_pos h, if_pos (by omega)]
        · rw [if_neg h, if_neg (by omega)]
    · rename_i hq
      rw [ih]
      by_cases h : k < n
      · rw [if_pos h, if_pos (by omega)]
      · rw [if_neg h]
        by_cases e : k = n
        · subst e; rw [if_pos (by omega)]
          split
          · rename_i c t fr hq2; exact absurd hq2 (hq c t fr)
          · rfl
        · rw [if_neg (by omega)]
theorem absV_rel {W : World} (h1 : ∃ im, betaOf W 1 = some im) {es : Nat} {v : Value} {x : AV} (h : absV W es v = some x) : VRel (betaOf W) x v := by
  unfold absV at h
  split at h
  · cases h; rfl
  · cases h; rfl
  · cases h; exact ⟨_, rfl, rfl⟩
  · cases h; rfl
  · rename_i a len cap
    split at h
    · rename_i hc
      split at h
      · rename_i hl
        cases h
        obtain ⟨im, him⟩ := h1
        subst hc hl
        exact ⟨im, him, 0, a, rfl, .inr rfl, Nat.le_refl _, Nat.le_refl _, by simp⟩
      · cases h
    · split at h
      · rename_i im him
        split at h
        · rename_i hq
          cases h
          have him0 : im.blk = a.block ∧ im.off = 0 := by
            unfold betaOf at him; split at him
            · cases him; exact ⟨rfl, rfl⟩
            · cases him
          refine ⟨im, him, cap, a, rfl, .inl ?_, Nat.le_refl _, hq.2.1, hq.2.2⟩
          obtain ⟨ab, ao, asp⟩ := a
          simp only at hq him0 ⊢
          rw [him0.1, him0.2, hq.1, Nat.zero_add]
        · cases h
      · cases h
  · cases h
theorem betaOf_some {W : World} {k : Nat} {im : Img} (h : betaOf W k = some im) : ∃ c t fr, W.heap[k]? = some (.cells c t fr) ∧ im = ⟨k, 0, c.size⟩ := by
  unfold betaOf at h; split at h
  · rename_i c t fr hq; cases h; exact ⟨c, t, fr, hq, rfl⟩
  · cases h
theorem absRow_len (W : World) (c : Array Value) : (absRow W c).length = c.size := by simp [absRow]
theorem absRow_get {W : World} {c : Array Value} {i : Nat} {x : AV} (h : (absRow W c)[i]? = some (some x)) : ∃ v, c[i]? = some v ∧ absV W (esAt c i) v = some x := by
  unfold absRow at h
  rw [List.getElem?_map] at h
  cases hr : (List.range c.size)[i]? with
  | none => rw [hr] at h; cases h
  | some j =>
    rw [hr] at h
    have : j = i := by
      obtain ⟨q1, q2⟩ := List.getElem?_eq_some_iff.1 hr
      simpa using q2.symm
    subst this
    simp only [Option.map_some, Option.some.injEq] at h
    cases hv : c[j]? with
    | none => rw [hv] at h; cases h
    | some v => rw [hv] at h; exact ⟨v, rfl, h⟩
theorem absRow_of {W : World} {c : Array Value} {i : Nat} {v : Value} {x : AV} (hv : c[i]? = some v) (h : absV W (esAt c i) v = some x) : (absRow W c)[i]? = some (some x) := by
  have hi : i < c.size := (Array.getElem?_eq_some_iff.1 hv).1
  unfold absRow
  rw [List.getElem?_map, List.getElem?_range hi]
  simp [hv, h]
structure Held (W : World) (k : Nat) (p : List AV) : Prop where
  ex : ∃ c t, W.heap[k]? = some (.cells c t (0, 0)) ∧ absRow W c = p.map some
theorem relOf [Cx] {W : World} {p1 p3 : List AV} (a1 : Held W 1 p1) (a3 : Held W 3 p3) : Rel (betaOf W) (stOf W) W := by
  have hβ1 : ∃ im, betaOf W 1 = some im := by
    obtain ⟨c, t, h, _⟩ := a1.ex
    exact ⟨⟨1, 0, c.size⟩, by unfold betaOf; rw [h]⟩
  refine ⟨fun b o im hg hi => ?_, fun b im hi => ?_, fun b1 b2 o1 o2 im1 im2 hne g1 g2 i1 i2 hblk _ _ => ?_, Nat.le_refl _⟩
  · obtain ⟨c, t, fr, hw, rfl⟩ := betaOf_some hi
    have hlt : b < W.heap.size := (Array.getElem?_eq_some_iff.1 hw).1
    unfold stOf at hg
    simp only [heapOf_get, if_pos hlt, hw] at hg
    cases hg
    have cells : ∀ (i : Nat) (v : AV), (absRow W c)[i]? = some (some v) → ∃ x, c[0 + i]? = some x ∧ VRel (betaOf W) v x := fun i v hv => by
      obtain ⟨x, q1, q2⟩ := absRow_get hv
      exact ⟨x, by rw [Nat.zero_add]; exact q1, absV_rel hβ1 q2⟩
    unfold objOf
    split
    · rename_i hh
      have hfr : fr = (0, 0) := by
        rcases hh with rfl | rfl
        · obtain ⟨c', t', h', _⟩ := a1.ex; rw [hw] at h'; cases h'; rfl
        · obtain ⟨c', t', h', _⟩ := a3.ex; rw [hw] at h'; cases h'; rfl
      subst hfr
      exact ⟨c, (0, 0), hw, by simp, by rw [absRow_len]; exact Nat.le_refl _, cells, fun i _ _ h => by omega, fun _ => rfl, fun _ => rfl⟩
    · exact ⟨c, fr, hw, by simp, by rw [absRow_len]; exact Nat.le_refl _, cells, fun i h1 h2 => by simp only at h2; omega, fun h => by omega, fun _ => rfl⟩
  · obtain ⟨c, t, fr, hw, rfl⟩ := betaOf_some hi
    have hlt : b < W.heap.size := (Array.getElem?_eq_some_iff.1 hw).1
    exact ⟨hlt, hlt⟩
  · obtain ⟨c, t, fr, _, rfl⟩ := betaOf_some i1
    obtain ⟨c', t', fr', _, rfl⟩ := betaOf_some i2
    exact absurd hblk hne
theorem symOf {W : World} {p1 p3 : List AV} (a1 : Held W 1 p1) (a3 : Held W 3 p3) : Sym (hpOf W p1 p3) (stOf W) := by
  intro b m hb
  unfold hpOf at hb
  split at hb
  case h_2 => cases hb
  rename_i c t fr hw
  have hlt : b < W.heap.size := (Array.getElem?_eq_some_iff.1 hw).1
  refine ⟨hlt, ?_⟩
  have hg : (stOf W).heap.get b = some (objOf W b c t) := by
    unfold stOf; simp only [heapOf_get, if_pos hlt, hw]
  by_cases e1 : b = 1
  · subst e1
    simp only [if_true] at hb; cases hb
    obtain ⟨c', t', h', hp⟩ := a1.ex
    rw [hw] at h'; cases h'
    show (stOf W).heap.get 1 = _
    rw [hg, ← hp]; unfold objOf; rw [if_pos (.inl rfl)]
  · rw [if_neg e1] at hb
    by_cases e3 : b = 3
    · subst e3
      simp only [if_true] at hb; cases hb
      obtain ⟨c', t', h', hp⟩ := a3.ex
      rw [hw] at h'; cases h'
      show (stOf W).heap.get 3 = _
      rw [hg, ← hp]; unfold objOf; rw [if_pos (.inr rfl)]
    · rw [if_neg e3] at hb; cases hb
      have ho : objOf W b c t = .cells (t, true) (absRow W c) (c.size + 1) none := by
        unfold objOf; rw [if_neg (by rintro (h | h); exact e1 h; exact e3 h)]
      rw [ho] at hg
      refine ⟨⟨_, _, _, _, hg⟩, fun i v hi => ?_⟩
      unfold St.rd; rw [hg]
      simp only at hi ⊢
      cases hq : (absRow W c)[i]? with
      | none => rw [hq] at hi; cases hi
      | some o =>
        rw [hq] at hi
        cases o with
        | none => cases hi
        | some u => cases hi; rfl
theorem rd_hp {W : World} {p1 p3 : List AV} (a1 : Held W 1 p1) (a3 : Held W 3 p3) {b i : Nat} {c : Array Value} {t : Nat} {fr : Nat × Nat} {v : Value} {x : AV} (hw : W.heap[b]? = some (.cells c t fr)) (hv : c[i]? = some v) (h : absV W (esAt c i) v = some x) :
    rdH (hpOf W p1 p3) b i = some x := by
  have hr := absRow_of hv h
  unfold rdH hpOf
  rw [hw]; simp only
  by_cases e1 : b = 1
  · subst e1
    obtain ⟨c', t', h', hp⟩ := a1.ex
    rw [hw] at h'; cases h'
    rw [if_pos rfl]
    rw [hp, List.getElem?_map] at hr
    show p1[i]? = some x
    cases q : p1[i]? with
    | none => rw [q] at hr; cases hr
    | some u => rw [q] at hr; simpa using hr
  · rw [if_neg e1]
    by_cases e3 : b = 3
    · subst e3
      obtain ⟨c', t', h', hp⟩ := a3.ex
      rw [hw] at h'; cases h'
      rw [if_pos rfl]
      rw [hp, List.getElem?_map] at hr
      show p3[i]? = some x
      cases q : p3[i]? with
      | none => rw [q] at hr; cases hr
      | some u => rw [q] at hr; simpa using hr
    · rw [if_neg e3]
      show ((absRow W c)[i]?).join = some x
      rw [hr]; rfl
theorem hp_some {W : World} {p1 p3 : List AV} {b : Nat} {c : Array Value} {t : Nat} {fr : Nat × Nat} (hw : W.heap[b]? = some (.cells c t fr)) : ∃ m, hpOf W p1 p3 b = some m := by
  unfold hpOf; rw [hw]; simp only
  split
  · exact ⟨_, rfl⟩
  · split
    · exact ⟨_, rfl⟩
    · exact ⟨_, rfl⟩
end Go.RI
namespace Go.RI
open Go.Proofs
theorem add_block (a : Addr) (p : Nat) : (a.add p).block = a.block := by unfold Addr.add; split <;> rfl
theorem add_off (a : Addr) (p : Nat) : (a.add p).off = a.off + p := by unfold Addr.add; split <;> simp_all
theorem cell_add {W : World} {a : Addr} {k : Nat} {v : Value} (h : W.cell? (a.add k) = some v) : (∃ c t fr, W.heap[a.block]? = some (.cells c t fr) ∧ c[a.off + k]? = some v) ∧ (k = 0 → a.spot = none) := by
  unfold World.cell? at h
  rw [add_block, add_off] at h
  split at h
  · rename_i c t fr hw
    split at h
    · cases h
    · rename_i hs
      refine ⟨⟨c, t, fr, hw, h⟩, fun hk => ?_⟩
      subst hk
      have : a.add 0 = a := by unfold Addr.add; rw [if_pos rfl]
      rw [this] at hs
      cases e : a.spot with
      | none => rfl
      | some _ => rw [e] at hs; exact absurd rfl hs
  · cases h
theorem cells_get {W : World} {a : Addr} {n : Nat} {cs : List Value} (h : W.cells? 0 a n = some cs) : cs.length = n ∧ ∀ j, j < n → W.cell? (a.add j) = cs[j]? := by
  unfold World.cells? at h
  rw [if_pos (Nat.zero_le _)] at h
  exact ⟨by have := mapM_some_length h; simpa using this, fun j hj => mapM_some_get h j j (List.getElem?_range hj)⟩
theorem slice_open {H : Type} {enc : TypeId × Value → H} {W : World} {fuel t e n : Nat} {cs : List Value} {x : DataW H × List MemPlace} (ht : Tryz.prog.underlying t = some (.slice e)) (hn : Tryz.prog.cellsOf e = n) (hn0 : 0 < n)
    (h : DataW.trod enc Tryz.prog W 0 (fun _ => true) true fuel t cs = some x) :
    cs = [.slice none 0 0] ∨ ∃ (a : Addr) (len cap m : Nat), fuel = m + 1 ∧ cs = [.slice (some a) len cap] ∧ len ≤ cap ∧
      (0 < cap → a.spot = none ∧ ∃ c ty fr, W.heap[a.block]? = some (.cells c ty fr) ∧ a.off + cap * n ≤ c.size ∧
        ∀ i, i < cap → ∃ ci y, ci.length = n ∧ (∀ j, j < n → ∃ v, ci[j]? = some v ∧ c[a.off + (i * n + j)]? = some v) ∧ DataW.trod enc Tryz.prog W 0 (fun _ => true) true m e ci = some y) := by
  rcases DataW.trod_slice ht h with ⟨h1, _⟩ | ⟨a, len, cap, elems, rest, m, h1, h2, _, _, h5, _, h7, h8, h9, _⟩
  · exact .inl h1
  · refine .inr ⟨a, len, cap, m, h1, h2, h5, fun hc => ?_⟩
    obtain ⟨h10, h11⟩ := h9 rfl
    rw [hn] at h8 h11
    have all : ∀ i, i < cap → ∃ ci y, W.cells? 0 (a.add (i * n)) n = some ci ∧ DataW.trod enc Tryz.prog W 0 (fun _ => true) true m e ci = some y := by
      intro i hi
      have key : ∀ {o : Option (DataW H × List MemPlace)} {i : Nat}, (W.cells? 0 (a.add (i * n)) n).bind (DataW.trod enc Tryz.prog W 0 (fun _ => true) true m e) = o → o.isSome = true → ∃ ci y, W.cells? 0 (a.add (i * n)) n = some ci ∧ DataW.trod enc Tryz.prog W 0 (fun _ => true) true m e ci = some y := by
        intro o i ho hs
        cases o with
        | none => cases hs
        | some y => obtain ⟨ci, q1, q2⟩ := Option.bind_eq_some_iff.1 ho; exact ⟨ci, y, q1, q2⟩
      rcases Nat.lt_or_ge i len with q | q
      · exact key (h8 i q) (by rw [List.getElem?_eq_getElem (by omega)]; rfl)
      · have := h11 (i - len) (by omega)
        rw [show len + (i - len) = i by omega] at this
        exact key this (by rw [List.getElem?_eq_getElem (by omega)]; rfl)
    have cell : ∀ i j, i < cap → j < n → ∃ v, W.cell? ((a.add (i * n)).add j) = some v := by
      intro i j hi hj
      obtain ⟨ci, y, q1, _⟩ := all i hi
      obtain ⟨q2, q3⟩ := cells_get q1
      exact ⟨ci[j]'(by omega), by rw [q3 j hj, List.getElem?_eq_getElem (by omega)]⟩
    obtain ⟨v0, c0⟩ := cell 0 0 hc hn0
    obtain ⟨⟨c, ty, fr, hw, _⟩, hs⟩ := cell_add c0
    rw [add_block] at hw
    have hsp : a.spot = none := by
      have := hs rfl
      rw [Nat.zero_mul] at this
      have e : a.add 0 = a := by unfold Addr.add; rw [if_pos rfl]
      rw [e] at this; exact this
    have at' : ∀ i j v, W.cell? ((a.add (i * n)).add j) = some v → c[a.off + (i * n + j)]? = some v := by
      intro i j v hv
      obtain ⟨⟨c', ty', fr', hw', q⟩, _⟩ := cell_add hv
      rw [add_block] at hw'
      rw [hw] at hw'; cases hw'
      rw [add_off, Nat.add_assoc] at q; exact q
    refine ⟨hsp, c, ty, fr, hw, ?_, fun i hi => ?_⟩
    · obtain ⟨v, hv⟩ := cell (cap - 1) (n - 1) (by omega) (by omega)
      have := (Array.getElem?_eq_some_iff.1 (at' _ _ _ hv)).1
      have e : cap * n = (cap - 1) * n + n := by
        obtain ⟨k, rfl⟩ : ∃ k, cap = k + 1 := ⟨cap - 1, by omega⟩
        rw [Nat.succ_mul]; simp
      omega
    · obtain ⟨ci, y, q1, q2⟩ := all i hi
      obtain ⟨q3, q4⟩ := cells_get q1
      refine ⟨ci, y, q3, fun j hj => ?_, q2⟩
      have hv : ci[j]? = some (ci[j]'(by omega)) := List.getElem?_eq_getElem (by omega)
      exact ⟨_, hv, at' i j _ (by rw [q4 j hj]; exact hv)⟩
theorem absV_slice {W : World} {a : Addr} {len cap es : Nat} {c : Array Value} {ty : Nat} {fr : Nat × Nat} (hc : 0 < cap) (hs : a.spot = none) (hw : W.heap[a.block]? = some (.cells c ty fr)) (hl : len ≤ cap) (hb : a.off + cap * es ≤ c.size) :
    absV W es (.slice (some a) len cap) = some (.slice a.block a.off len cap es) := by
  simp only [absV]
  rw [if_neg (by omega)]
  have : betaOf W a.block = some ⟨a.block, 0, c.size⟩ := by unfold betaOf; rw [hw]
  rw [this]
  simp only
  rw [if_pos ⟨hs, hl, hb⟩]
theorem absV_empty {W : World} {a : Addr} {len es : Nat} (hl : len ≤ 0) : absV W es (.slice (some a) len 0) = some (.slice 1 0 0 0 es) := by
  simp only [absV]
  rw [if_pos (show len = 0 by omega)]; rfl
section
variable {W : World} {p1 p3 : List AV} (a1 : Held W 1 p1) (a3 : Held W 3 p3)
include a1 a3
theorem rd_empty (es : Nat) : Rd (hpOf W p1 p3) es (.slice 1 0 0 0 es) [] := by
  obtain ⟨c, t, h, _⟩ := a1.ex
  exact .inr ⟨1, 0, 0, 0, rfl, by simp, Nat.le_refl _, hp_some h, fun j x hj => by cases hj⟩
theorem u32_open {H : Type} {enc : TypeId × Value → H} {fuel : Nat} {v : Value} {x : DataW H × List MemPlace} (h : DataW.trod enc Tryz.prog W 0 (fun _ => true) true fuel 22 [v] = some x) :
    ∃ av l, absV W 1 v = some av ∧ Rd (hpOf W p1 p3) 1 av (u32s l) ∧ Lim l := by
  rcases slice_open Tryz.underlying22 (show Tryz.prog.cellsOf 57 = 1 by kernel_rfl) Nat.one_pos h with h1 | ⟨a, len, cap, m, _, h1, hle, hall⟩
  · obtain rfl := (List.cons.inj h1).1
    exact ⟨.nils, [], rfl, Rd.nil _ _, fun x hx => by (cases hx)⟩
  · obtain rfl := (List.cons.inj h1).1
    rcases Nat.eq_zero_or_pos cap with hc | hc
    · subst hc
      have : len = 0 := by omega
      subst this
      exact ⟨_, [], absV_empty (Nat.le_refl _), rd_empty a1 a3 1, fun x hx => by (cases hx)⟩
    · obtain ⟨hs, c, ty, fr, hw, hb, hel⟩ := hall hc
      have hint : ∀ i, i < cap → ∃ n, c[a.off + i]? = some (.int .u32 n) ∧ 0 ≤ n ∧ n < 4294967296 := by
        intro i hi
        obtain ⟨ci, y, q1, q2, q3⟩ := hel i hi
        obtain ⟨n, e1, _, e2⟩ := DataW.trod_int Tryz.underlying57 q3
        obtain ⟨v, r1, r2⟩ := q2 0 (by omega)
        rw [e1] at r1; cases r1
        simp only [Nat.mul_one, Nat.add_zero] at r2
        refine ⟨n, r2, ?_⟩
        simp [Lit.wf, IntKind.min, IntKind.max, IntKind.signed, IntKind.bits] at e2
        omega
      let f : Nat → Int := fun i => match c[a.off + i]? with
        | some (.int _ n) => n
        | _ => 0
      have hf : ∀ i, i < cap → c[a.off + i]? = some (.int .u32 (f i)) ∧ 0 ≤ f i ∧ f i < 4294967296 := by
        intro i hi
        obtain ⟨n, e1, e2⟩ := hint i hi
        have : f i = n := by simp only [f, e1]
        rw [this]; exact ⟨e1, e2⟩
      refine ⟨_, (List.range len).map f, absV_slice hc hs hw hle (by simpa using hb), .inr ⟨a.block, a.off, len, cap, rfl, by simp, hle, hp_some hw, fun j x hj => ?_⟩, fun x hx => ?_⟩
      · unfold u32s at hj
        rw [List.map_map, List.getElem?_map] at hj
        cases hr : (List.range len)[j]? with
        | none => rw [hr] at hj; cases hj
        | some k =>
          rw [hr] at hj
          obtain ⟨z1, z2⟩ := List.getElem?_eq_some_iff.1 hr
          have hk : k = j := by simpa using z2.symm
          subst hk
          have hjl : k < len := by simpa using z1
          simp only [Option.map_some, Function.comp_apply, Option.some.injEq] at hj
          subst hj
          exact rd_hp a1 a3 hw (hf k (by omega)).1 rfl
      · obtain ⟨k, hk, rfl⟩ := List.mem_map.1 hx
        exact (hf k (by have := List.mem_range.1 hk; omega)).2
theorem seven {l : List Value} (h : l.length = 7) : ∃ a b c d e f g, l = [a, b, c, d, e, f, g] := by
  rcases l with _ | ⟨a, _ | ⟨b, _ | ⟨c, _ | ⟨d, _ | ⟨e, _ | ⟨f, _ | ⟨g, _ | ⟨i, l⟩⟩⟩⟩⟩⟩⟩⟩ <;> simp at h
  exact ⟨a, b, c, d, e, f, g, rfl⟩
theorem term_open {H : Type} {enc : TypeId × Value → H} : ∀ (fuel : Nat) (cs : List Value) (x : DataW H × List MemPlace), DataW.trod enc Tryz.prog W 0 (fun _ => true) true fuel 27 cs = some x →
    ∃ k var s b vn vd va an ad aa, cs = [.int .i64 k, .int .i64 var, .string s, .bool b, vn, vd, va] ∧ absV W 1 vn = some an ∧ absV W 1 vd = some ad ∧ absV W 7 va = some aa ∧
      TermAt (hpOf W p1 p3) [.int .i64 k, .int .i64 var, .str (s.data.toList.map UInt8.toNat), .bool b, an, ad, aa] := by
  intro fuel
  induction fuel using Nat.strongRecOn with
  | _ fuel ih =>
  intro cs x h
  obtain ⟨xs, n, hfu, _, hlen, hxl, hf⟩ := DataW.trod_struct Tryz.underlying27 h
  rw [show Tryz.prog.cellsOf 27 = 7 by kernel_rfl] at hlen
  obtain ⟨c0, c1, c2, c3, c4, c5, c6, rfl⟩ := seven a1 a3 hlen
  have xget : ∀ i, i < 5 → ∃ y, xs[i]? = some y := fun i hi => ⟨xs[i]'(by rw [hxl]; exact hi), List.getElem?_eq_getElem (by rw [hxl]; exact hi)⟩
  have k3 : Tryz.prog.cellsOf 3 = 1 := by kernel_rfl
  have k9 : Tryz.prog.cellsOf 9 = 1 := by kernel_rfl
  have k24 : Tryz.prog.cellsOf 24 = 3 := by kernel_rfl
  have k25 : Tryz.prog.cellsOf 25 = 1 := by kernel_rfl
  have k4 : Tryz.prog.cellsOf 4 = 1 := by kernel_rfl
  have k22 : Tryz.prog.cellsOf 22 = 1 := by kernel_rfl
  obtain ⟨y0, e0⟩ := xget 0 (by omega)
  obtain ⟨y1, e1⟩ := xget 1 (by omega)
  obtain ⟨y2, e2⟩ := xget 2 (by omega)
  obtain ⟨y3, e3⟩ := xget 3 (by omega)
  obtain ⟨y4, e4⟩ := xget 4 (by omega)
  have f0 : DataW.trod enc Tryz.prog W 0 (fun _ => true) true n 3 (([c0, c1, c2, c3, c4, c5, c6].drop 0).take (Tryz.prog.cellsOf 3)) = xs[0]? := hf 0 _ rfl
  have f1 : DataW.trod enc Tryz.prog W 0 (fun _ => true) true n 3 (([c0, c1, c2, c3, c4, c5, c6].drop 1).take (Tryz.prog.cellsOf 3)) = xs[1]? := hf 1 _ rfl
  have f2 : DataW.trod enc Tryz.prog W 0 (fun _ => true) true n 9 (([c0, c1, c2, c3, c4, c5, c6].drop 2).take (Tryz.prog.cellsOf 9)) = xs[2]? := hf 2 _ rfl
  have f3 : DataW.trod enc Tryz.prog W 0 (fun _ => true) true n 24 (([c0, c1, c2, c3, c4, c5, c6].drop 3).take (Tryz.prog.cellsOf 24)) = xs[3]? := hf 3 _ rfl
  have f4 : DataW.trod enc Tryz.prog W 0 (fun _ => true) true n 25 (([c0, c1, c2, c3, c4, c5, c6].drop 6).take (Tryz.prog.cellsOf 25)) = xs[4]? := hf 4 _ rfl
  simp only [k3, k9, k24, k25, List.drop_zero, List.drop_succ_cons, List.take_succ_cons, List.take_zero, e0, e1, e2, e3, e4] at f0 f1 f2 f3 f4
  obtain ⟨k, g0, _⟩ := DataW.trod_int Tryz.underlying3 f0
  obtain ⟨var, g1, _⟩ := DataW.trod_int Tryz.underlying3 f1
  obtain ⟨s, g2, _⟩ := DataW.trod_string Tryz.underlying9 f2
  obtain rfl := (List.cons.inj g0).1
  obtain rfl := (List.cons.inj g1).1
  obtain rfl := (List.cons.inj g2).1
  obtain ⟨zs, n2, _, _, _, hzl, hz⟩ := DataW.trod_struct Tryz.underlying24 f3
  have zget : ∀ i, i < 3 → ∃ y, zs[i]? = some y := fun i hi => ⟨zs[i]'(by rw [hzl]; exact hi), List.getElem?_eq_getElem (by rw [hzl]; exact hi)⟩
  obtain ⟨w0, d0⟩ := zget 0 (by omega)
  obtain ⟨w1, d1⟩ := zget 1 (by omega)
  obtain ⟨w2, d2⟩ := zget 2 (by omega)
  have z0 : DataW.trod enc Tryz.prog W 0 (fun _ => true) true n2 4 (([c3, c4, c5].drop 0).take (Tryz.prog.cellsOf 4)) = zs[0]? := hz 0 _ rfl
  have z1 : DataW.trod enc Tryz.prog W 0 (fun _ => true) true n2 22 (([c3, c4, c5].drop 1).take (Tryz.prog.cellsOf 22)) = zs[1]? := hz 1 _ rfl
  have z2 : DataW.trod enc Tryz.prog W 0 (fun _ => true) true n2 22 (([c3, c4, c5].drop 2).take (Tryz.prog.cellsOf 22)) = zs[2]? := hz 2 _ rfl
  simp only [k4, k22, List.drop_zero, List.drop_succ_cons, List.take_succ_cons, List.take_zero, d0, d1, d2] at z0 z1 z2
  obtain ⟨b, g3, _⟩ := DataW.trod_bool Tryz.underlying4 z0
  obtain rfl := (List.cons.inj g3).1
  obtain ⟨an, nu, q1, q2, q3⟩ := u32_open a1 a3 z1
  obtain ⟨ad, de, r1, r2, r3⟩ := u32_open a1 a3 z2
  have hnum : NumAt (hpOf W p1 p3) an ad nu de := ⟨q2, r2, q3, r3⟩
  rcases slice_open Tryz.underlying25 (show Tryz.prog.cellsOf 27 = 7 by kernel_rfl) (by decide) f4 with h1 | ⟨a, len, cap, m, hm, h1, hle, hall⟩
  · obtain rfl := (List.cons.inj h1).1
    exact ⟨k, var, s, b, c4, c5, _, an, ad, .nils, rfl, q1, r1, rfl, .mk _ _ _ _ _ _ _ nu de [] hnum (Rd.nil _ _) (fun c hc => by cases hc)⟩
  · obtain rfl := (List.cons.inj h1).1
    rcases Nat.eq_zero_or_pos cap with hc | hc
    · subst hc
      have : len = 0 := by omega
      subst this
      exact ⟨k, var, s, b, c4, c5, _, an, ad, _, rfl, q1, r1, absV_empty (Nat.le_refl _), .mk _ _ _ _ _ _ _ nu de [] hnum (rd_empty a1 a3 7) (fun c hc => by cases hc)⟩
    · obtain ⟨hs, c, ty, fr, hw, hb, hel⟩ := hall hc
      have each : ∀ i, i < len → ∃ l : List AV, TermAt (hpOf W p1 p3) l ∧ l.length = 7 ∧ ∀ j v, l[j]? = some v → rdH (hpOf W p1 p3) a.block (a.off + (i * 7 + j)) = some v := by
        intro i hi
        obtain ⟨ci, y, t1, t2, t3⟩ := hel i (by omega)
        obtain ⟨k', var', s', b', vn', vd', va', an', ad', aa', u1, u2, u3, u4, u5⟩ := ih m (by omega) ci y t3
        subst u1
        have at' : ∀ j v, ([.int .i64 k', .int .i64 var', .string s', .bool b', vn', vd', va'] : List Value)[j]? = some v → c[a.off + (i * 7 + j)]? = some v := by
          intro j v hj
          have hj7 : j < 7 := by have := (List.getElem?_eq_some_iff.1 hj).1; simpa using this
          obtain ⟨v', w1, w2⟩ := t2 j hj7
          rw [hj] at w1; cases w1; exact w2
        have p0 := at' 0 _ rfl
        have p1' := at' 1 _ rfl
        have p2 := at' 2 _ rfl
        have p3' := at' 3 _ rfl
        have p4 := at' 4 _ rfl
        have p5 := at' 5 _ rfl
        have p6 := at' 6 _ rfl
        have es4 : esAt c (a.off + (i * 7 + 4)) = 1 := by
          unfold esAt; rw [if_pos (by omega), show a.off + (i * 7 + 4) - 4 = a.off + (i * 7 + 0) by omega, p0]
        have es5 : esAt c (a.off + (i * 7 + 5)) = 1 := by
          unfold esAt; rw [if_pos (by omega), show a.off + (i * 7 + 5) - 4 = a.off + (i * 7 + 1) by omega, p1']
        have es6 : esAt c (a.off + (i * 7 + 6)) = 7 := by
          unfold esAt; rw [if_pos (by omega), show a.off + (i * 7 + 6) - 4 = a.off + (i * 7 + 2) by omega, p2]
        refine ⟨_, u5, rfl, fun j v hj => ?_⟩
        rcases j with _ | _ | _ | _ | _ | _ | _ | j
        · cases hj; exact rd_hp a1 a3 hw p0 rfl
        · cases hj; exact rd_hp a1 a3 hw p1' rfl
        · cases hj; exact rd_hp a1 a3 hw p2 rfl
        · cases hj; exact rd_hp a1 a3 hw p3' rfl
        · cases hj; exact rd_hp a1 a3 hw p4 (by rw [es4]; exact u2)
        · cases hj; exact rd_hp a1 a3 hw p5 (by rw [es5]; exact u3)
        · cases hj; exact rd_hp a1 a3 hw p6 (by rw [es6]; exact u4)
        · simp at hj
      have rows : ∀ n, n ≤ len → ∃ args : List (List AV), args.length = n ∧ (∀ c, c ∈ args → TermAt (hpOf W p1 p3) c) ∧ ∀ j v, args.flatten[j]? = some v → rdH (hpOf W p1 p3) a.block (a.off + j) = some v := by
        intro n
        induction n with
        | zero => intro _; exact ⟨[], rfl, fun c hc => by (cases hc), fun j v hj => by cases hj⟩
        | succ n ihn =>
          intro hn
          obtain ⟨args, o1, o2, o3⟩ := ihn (by omega)
          obtain ⟨l, l1, l2, l3⟩ := each n (by omega)
          have hfl : args.flatten.length = n * 7 := by rw [flat_len fun c hc => (o2 c hc).len, o1]
          refine ⟨args ++ [l], by simp [o1], fun c hc => ?_, fun j v hj => ?_⟩
          · rcases List.mem_append.1 hc with hc | hc
            · exact o2 c hc
            · simp only [List.mem_singleton] at hc; subst hc; exact l1
          · rw [List.flatten_append, List.flatten_cons, List.flatten_nil, List.append_nil] at hj
            rcases Nat.lt_or_ge j (n * 7) with q | q
            · rw [List.getElem?_append_left (by omega)] at hj; exact o3 j v hj
            · rw [List.getElem?_append_right (by omega), hfl] at hj
              have := l3 _ _ hj
              rw [show a.off + (n * 7 + (j - n * 7)) = a.off + j by omega] at this
              exact this
      obtain ⟨args, o1, o2, o3⟩ := rows len (Nat.le_refl _)
      have hfl : args.flatten.length = len * 7 := by rw [flat_len fun c hc => (o2 c hc).len, o1]
      exact ⟨k, var, s, b, c4, c5, _, an, ad, _, rfl, q1, r1, absV_slice hc hs hw hle hb, .mk _ _ _ _ _ _ _ nu de args hnum (.inr ⟨a.block, a.off, len, cap, rfl, hfl, hle, hp_some hw, o3⟩) o2⟩
end
end Go.RI
