/- The law codeKeysMatchSpec: the row and its tied card hold, for all worlds in which the listed variables read as listed. Conditions: those of the row alone. -/
import Derived.Test.YtaplnebenndkgaaGreatDoorT34
import Derived.Test.YtaplnebenndkgaaGreatDoorT35
import Derived.Test.YtaplnebenndkgaaGreatDoorCards
import Derived.Test.YtaplnebenndkgaaGreatDoorTie
import Derived.ProofKit
import Derived.OpenShut
import Derived.LaidMore
import Derived.Lay
import Derived.SevenTiedAt
import Derived.Stop.Joined
set_option linter.all false
namespace Go.Proofs.YtaplnebenndkgaaGreatDoor
open Go.ChangeShapes Go.WideShapes Go.ChangeAt Go.RowKit Go.RI Go.RI.Jn Go.RI.Rw
def partsOf : DataW Unit → List (DataW Unit)
  | .agg l => l
  | _ => []
def dToA : DataW Unit → Option AV
  | .lit (.int k n) => some (.int k n)
  | .lit (.string b) => some (.str (b.map UInt8.toNat))
  | _ => none
theorem absRow_lits {W : World} {c : Array Value} {D : List (DataW Unit)} (hl : c.size = D.length) (h : ∀ (i : Nat) (v : Value) (d : DataW Unit), c[i]? = some v → D[i]? = some d → ∀ es, absV W es v = dToA d) : absRow W c = D.map dToA := by
  refine List.ext_getElem? fun i => ?_
  unfold absRow
  rw [List.getElem?_map, List.getElem?_map]
  rcases Nat.lt_or_ge i c.size with hi | hi
  · rw [List.getElem?_range hi]
    have hv : c[i]? = some c[i] := Array.getElem?_eq_getElem hi
    have hd : D[i]? = some (D[i]'(by omega)) := List.getElem?_eq_getElem (by omega)
    simp only [Option.map_some, hv, hd, Option.bind_some]
    rw [h i _ _ hv hd]
  · rw [List.getElem?_eq_none (by simpa using hi), List.getElem?_eq_none (by omega)]; rfl
theorem cell_of_take {cs : Array Value} {i : Nat} {v : Value} {u : Value} (hv : cs[i]? = some v) (h : (cs.toList.drop i).take 1 = [u]) : v = u := by
  have h0 : ((cs.toList.drop i).take 1)[0]? = some u := by rw [h]; rfl
  have h1 : cs.toList[i]? = some u := by simpa using h0
  have h2 : cs[i]? = some u := by simpa using h1
  rw [hv] at h2; exact Option.some.inj h2
theorem held_array {W : World} {nm : String} {g t n e fuel : Nat} {cs : Array Value} {d : DataW Unit} {p ps : List MemPlace} {pl : List AV} (hg : Tryz.prog.globalNamed nm = some g) (hv : W.var? Tryz.prog nm = some cs)
    (hd : DataW.trod (fun _ => ()) Tryz.prog W 0 (fun _ => true) false fuel t cs.toList = some (d, p)) (hu : Tryz.prog.underlying t = some (.array n e)) (he1 : Tryz.prog.cellsOf e = 1) (hn : 0 < n) (hnc : Tryz.prog.cellsOf t = n)
    (hel : ∀ (m : Nat) (u : List Value) (x : DataW Unit × List MemPlace), DataW.trod (fun _ => ()) Tryz.prog W 0 (fun _ => true) false m e u = some x → ∃ v, u = [v] ∧ ∀ es, absV W es v = dToA x.1)
    (hps : ∀ q, q ∈ MemPlace.row ⟨g, 0, none⟩ cs.size → q ∈ ps) (hfr : ∀ b off, MemPlace.cell b off ∈ ps → ∃ c t, W.heap[b]? = some (.cells c t (0, 0))) (hpl : (partsOf d).map dToA = pl.map some) : Held W g pl := by
  obtain ⟨xs, m, _, ex, hlen, hl, hx⟩ := DataW.trod_array hu hd
  have hd' : d = .agg (xs.map (·.1)) := (Prod.mk.inj ex).1
  rw [hnc] at hlen
  have hsz : cs.size = n := by simpa using hlen
  obtain ⟨c, ty, hc⟩ := hfr g 0 (hps _ (by unfold MemPlace.row; exact List.mem_map.2 ⟨0, List.mem_range.2 (by omega), rfl⟩))
  have hcs : c = cs := by
    unfold World.var? at hv
    rw [hg] at hv
    simp only [Option.bind_some, hc] at hv
    exact Option.some.inj hv
  subst hcs
  refine ⟨c, ty, hc, ?_⟩
  rw [← hpl, hd']
  refine absRow_lits (by simp only [partsOf, List.length_map]; omega) fun i v dd hvi hdi es => ?_
  have hi : i < n := by have := (Array.getElem?_eq_some_iff.1 hvi).1; omega
  have hE := hx i hi
  rw [he1, Nat.mul_one, List.getElem?_eq_getElem (by omega)] at hE
  obtain ⟨v', e1, e2⟩ := hel _ _ _ hE
  have hvv := cell_of_take hvi e1
  subst hvv
  rw [e2 es]
  simp only [partsOf, List.getElem?_map, List.getElem?_eq_getElem (show i < xs.length by omega), Option.map_some, Option.some.injEq] at hdi
  rw [hdi]
theorem held_of_laid {W : World} (h : laidMetH Tryz.prog Rows.codeKeysMatchSpecRow.laid W) : Held W 1 plainC ∧ Held W 3 spaceC := by
  rw [MakeChecks.laidMetH_plain _ _ _ (by kernel_rfl)] at h
  obtain ⟨ps, hvars, _, hfr0⟩ := h
  have hfr : ∀ b off, MemPlace.cell b off ∈ ps → ∃ c t, W.heap[b]? = some (.cells c t (0, 0)) := fun b off hm => (hfr0 b off hm).1
  clear hfr0
  obtain ⟨g1, t1, c1, f1, p1, q1, _, _, _, _, hvars, hs1⟩ := hvars
  obtain ⟨g2, t2, c2, f2, p2, q2, _, _, _, _, hvars, hs2⟩ := hvars
  obtain ⟨g3, t3, c3, f3, p3, q3, _, _, _, _, hvars, hs3⟩ := hvars
  obtain ⟨g4, t4, c4, f4, p4, q4, _, _, _, _, hvars, hs4⟩ := hvars
  obtain ⟨g5, t5, c5, f5, p5, q5, _, _, _, _, hvars, hs5⟩ := hvars
  obtain ⟨g6, t6, c6, f6, p6, q6, hg6, ht6, hv6, hd6, hvars, hs6⟩ := hvars
  obtain ⟨g7, t7, c7, f7, p7, q7, _, _, _, _, hvars, hs7⟩ := hvars
  obtain ⟨g8, t8, c8, f8, p8, q8, hg8, ht8, hv8, hd8, hvars, hs8⟩ := hvars
  obtain rfl := Option.some.inj ((show Tryz.prog.globalNamed "strings.asciiSpace" = some 3 by kernel_rfl).symm.trans hg6)
  obtain rfl := Option.some.inj ((show (Tryz.prog.globals[3]?).map (·.type) = some 378 by kernel_rfl).symm.trans ht6)
  obtain rfl := Option.some.inj ((show Tryz.prog.globalNamed "fetterlock/fetterlockref4.plain" = some 1 by kernel_rfl).symm.trans hg8)
  obtain rfl := Option.some.inj ((show (Tryz.prog.globals[1]?).map (·.type) = some 331 by kernel_rfl).symm.trans ht8)
  refine ⟨held_array (n := 5) (e := 9) (ps := ps) hg8 hv8 hd8 Tryz.underlying331 (by kernel_rfl) (by decide) (by kernel_rfl) (fun m u x hx => ?_) (fun q hq => ?_) hfr (by kernel_rfl),
    held_array (n := 256) (e := 5) (ps := ps) hg6 hv6 hd6 Tryz.underlying378 (by kernel_rfl) (by decide) (by kernel_rfl) (fun m u x hx => ?_) (fun q hq => ?_) hfr (by kernel_rfl)⟩
  · obtain ⟨s, e1, e2, _⟩ := DataW.trod_string Tryz.underlying9 hx
    exact ⟨_, e1, fun es => by rw [e2]; rfl⟩
  · rw [hs1, hs2, hs3, hs4, hs5, hs6, hs7, hs8]
    simp only [List.mem_append]
    exact .inr (.inr (.inr (.inr (.inr (.inr (.inr (.inl (.inl hq))))))))
  · obtain ⟨z, e1, e2, _⟩ := DataW.trod_int Tryz.underlying5 hx
    exact ⟨_, e1, fun es => by rw [e2]; rfl⟩
  · rw [hs1, hs2, hs3, hs4, hs5, hs6]
    simp only [List.mem_append]
    exact .inr (.inr (.inr (.inr (.inr (.inl (.inl hq))))))
theorem grel_of {W : World} (h : W.ShapedOpen Tryz.prog) : GRel 4 (betaOf W) := by
  have key : ∀ g, g < Tryz.prog.globals.size → (((begin Tryz.prog (fun _ _ => 0) default).world.heap[g]?).bind Obj.row?).isSome = true → ∃ room, betaOf W g = some ⟨g, 0, room⟩ := by
    intro g hg hs
    cases e : ((begin Tryz.prog (fun _ _ => 0) default).world.heap[g]?).bind Obj.row? with
    | none => rw [e] at hs; cases hs
    | some zt =>
      obtain ⟨zero, t⟩ := zt
      obtain ⟨cs, q, _⟩ := h.1 g zero t hg e
      exact ⟨cs.size, by unfold betaOf; rw [q]⟩
  have hsz : Tryz.prog.globals.size = 11 := by kernel_rfl
  intro g hg
  rcases (show g = 0 ∨ g = 1 ∨ g = 2 ∨ g = 3 by omega) with rfl | rfl | rfl | rfl
  · exact key 0 (by rw [hsz]; decide) (by kernel_rfl)
  · exact key 1 (by rw [hsz]; decide) (by kernel_rfl)
  · exact key 2 (by rw [hsz]; decide) (by kernel_rfl)
  · exact key 3 (by rw [hsz]; decide) (by kernel_rfl)
theorem law_calls {W : World} {H : Type} {enc : TypeId × Value → H} (h1 : Held W 1 plainC) (h3 : Held W 3 spaceC) (hG : GRel 4 (betaOf W)) {f1 f2 : Nat} {a b : Array Value} {x y : DataW H × List MemPlace}
    (ha : DataW.trod enc Tryz.prog W 0 (fun _ => true) true f1 27 a.toList = some x) (hb : DataW.trod enc Tryz.prog W 0 (fun _ => true) true f2 27 b.toList = some y) :
    Calls Tryz.prog 3 #[.agg a, .agg b] W fun e W' => e = .returned (.bool true) ∧ Below W.heap.size W W' := by
  have hβ1 : ∃ im, betaOf W 1 = some im := by
    obtain ⟨c, t, h, _⟩ := h1.ex
    exact ⟨⟨1, 0, c.size⟩, by unfold betaOf; rw [h]⟩
  have abs : ∀ {f : Nat} {a : Array Value} {x : DataW H × List MemPlace}, DataW.trod enc Tryz.prog W 0 (fun _ => true) true f 27 a.toList = some x → ∃ l, TermAt (hpOf W plainC spaceC) l ∧ VRel (betaOf W) (.agg l) (.agg a) := by
    intro f a x ha
    obtain ⟨k, var, s, b, vn, vd, va, an, ad, aa, e1, e2, e3, e4, e5⟩ := term_open h1 h3 f _ _ ha
    refine ⟨_, e5, a.toList, ?_, by simp⟩
    rw [e1]
    simp only [LRel]
    exact ⟨_, _, rfl, rfl, _, _, rfl, rfl, _, _, rfl, ⟨_, rfl, rfl⟩, _, _, rfl, rfl, _, _, rfl, absV_rel hβ1 e2, _, _, rfl, absV_rel hβ1 e3, _, _, rfl, absV_rel hβ1 e4, rfl⟩
  obtain ⟨lt, ht, rt⟩ := abs ha
  obtain ⟨lu, hu, ru⟩ := abs hb
  have hcomp : ∀ H', Le (hpOf W plainC spaceC) H' → CallS (fsOf tbL) (orcOf tbL) (.func (.func 5) [] []) [] H' fun r _ => r = .bool true := by
    intro H' hl st hs _
    have held : ∀ k p, Held W k p → (∀ c t, W.heap[k]? = some (.cells c t (0, 0)) → hpOf W plainC spaceC k = some (.own t p)) → ∃ e, st.heap.get k = some (.cells (e, true) (p.map some) 0 none) := by
      intro k p hk hh
      obtain ⟨c, t, q, _⟩ := hk.ex
      exact ⟨t, (hs k _ (hl k _ (hh c t q))).2⟩
    obtain ⟨e1, g1⟩ := held 1 plainC h1 fun c t q => by unfold hpOf; rw [q]; rfl
    obtain ⟨e3, g3⟩ := held 3 spaceC h3 fun c t q => by unfold hpOf; rw [q]; rfl
    refine ⟨0, .bool true, st, H', ?_, hs, Le.refl _, .refl _, rfl⟩
    have ho : orcOf tbL 5 [] st = some (.bool true, st) := by
      have : orcOf tbL 5 [] st = orcTrue 1 3 plainC spaceC [] st := by kernel_rfl
      rw [this]; unfold orcTrue; simp only
      rw [if_pos ⟨e1, e3, g1, g3⟩]
    unfold cb callBy
    simp only [List.nil_append, List.append_nil, ho]
  obtain ⟨n, v, st', H', q1, q2, q3, q4, rfl⟩ := law_ok numC txtC keyC k3 hcomp (Le.refl _) ht hu (stOf W) (symOf h1 h3) (Nat.le_refl _)
  have hfun : VRel (betaOf W) (.func (.func 3) [] []) (.func (.func 3) #[] #[]) := ⟨[], [], by simp [LRel], by simp [LRel], rfl⟩
  have hargs : LRel (betaOf W) [.agg lt, .agg lu] [.agg a, .agg b] := by
    simp only [LRel]; exact ⟨_, _, rfl, rt, _, _, rfl, ru, rfl⟩
  have hr := relOf h1 h3
  have hcall := cb_sound (ttOk _) cxok mixed hfsL horcL hotL n _ _ _ _ _ q1 Fence.wide 0 (betaOf W) W _ _ (fun _ => trivial) rfl hG hr hfun hargs
  have hen : (callFunc 3 [.agg a, .agg b].toArray).run Tryz.prog W = .ok (.enter 3 [.agg a, .agg b].toArray) W := by
    obtain ⟨c, hc⟩ : ∃ c, Tryz.f3.body = some c := by
      cases e : Tryz.f3.body with
      | none => exact absurd (show Tryz.f3.body.isSome = true by kernel_rfl) (by rw [e]; simp)
      | some c => exact ⟨c, rfl⟩
    exact callFunc_enter Tryz.func3 hc (by kernel_rfl) _ _
  have key : ∀ v' w', (∃ β', VRel β' (.bool true) v' ∧ Post (betaOf W) (stOf W) W β' st' w') → v' = .bool true ∧ Below W.heap.size W w' := by
    rintro v' w' ⟨β', hv, hp⟩
    refine ⟨hv, hp.frame.os, hp.frame.tape, hp.frame.output, hp.frame.size, fun k hk => ?_⟩
    exact (Post.quiet hr hp rfl (by rw [q4.log]; rfl)).1 k hk
  rcases cases_of_callsFor hcall with ⟨g', as', r1, r2⟩ | ⟨v', w', r1, r2⟩ | ⟨l, f, tmps, as', bd, r1, r2⟩
  · rw [hen] at r1; cases r1
    refine (callsIn_wide.1 r2).mono fun e w' he => ?_
    unfold RV at he
    split at he
    · rename_i v' w''
      obtain ⟨rfl, hb⟩ := key _ _ he
      exact ⟨rfl, hb⟩
    · exact absurd he (fun h => h)
  · rw [hen] at r1; cases r1
  · rw [hen] at r1; cases r1
end Go.Proofs.YtaplnebenndkgaaGreatDoor
