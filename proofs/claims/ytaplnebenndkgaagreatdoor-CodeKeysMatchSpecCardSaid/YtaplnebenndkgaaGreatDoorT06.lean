/- A compiler from bodies of Go functions into a small language of values and blocks, and the proof that a run of the compiled text is a run of the program. Conditions: none. -/
import Derived.Test.YtaplnebenndkgaaGreatDoorT05
import Derived.RangeFuncLeaves
import Derived.RangeFuncRecord
import Derived.OrdersIn
set_option linter.all false
namespace Go.RI
variable [cx : Cx]
section
variable {G : Nat} {tt : TT} {P : Program} {β : Bmap} {tm : Tr AV} {a : Act} {st : St} {w : World}
variable (hT : TTok P tt) (hG : GRel G β) (hr : Rel β st w) (ht : TRel β tm a.tmps)
include hT hG hr ht
theorem c_lookup {o : Oper} {t : Nat} {x i : Operand} {ok : Bool} (ho : o.op = .lookup t x i ok) {ti : TI} (hti : tt t = some ti) {kt e : Nat} (hu : ti.und = .map kt e) {kk : KK} (hkk : kkOf tt kt = some kk) {ei : TI} (hei : tt e = some ei) {rx ri : Rnd} (h1 : rnd G x = some rx) (h2 : rnd G i = some ri) :
    Meets P β tm a st w o (.lookup kk ei.zero ok rx ri) := by
  intro v st' hv
  simp only [aop] at hv
  split at hv
  case h_2 => cases hv
  rename_i r hl
  cases hv
  obtain ⟨y, g1, g2⟩ := s_lookup (P := P) (ok := ok) hr hT (hT _ _ hti) hu (hT _ _ hei) (kkOf_ok hT hkk) (rnd_rel (a := a) hG ht h1) (rnd_rel (a := a) hG ht h2) hl
  exact Meets.same hr (by simp only [execOp, ho]) g1 g2
theorem c_mapUpd {o : Oper} {t : Nat} {m k x : Operand} (ho : o.op = .mapUpdate t m k x ∨ o.op = .insert t m k x) {ti : TI} (hti : tt t = some ti) {kt e : Nat} (hu : ti.und = .map kt e) {kk : KK} (hkk : kkOf tt kt = some kk) {rm rk rx : Rnd} (h1 : rnd G m = some rm) (h2 : rnd G k = some rk) (h3 : rnd G x = some rx) :
    Meets P β tm a st w o (.mapUpd kk rm rk rx) := by
  intro v st' hv
  have hm := rnd_rel (a := a) hG ht h1
  simp only [aop] at hv
  split at hv
  case h_2 => cases hv
  rename_i b hb
  rw [hb] at hm
  split at hv
  case h_2 => cases hv
  rename_i s hs
  cases hv
  have := s_mapUpd (P := P) (e := e) hr hT (hT _ _ hti) hu (kkOf_ok hT hkk) hm (rnd_rel (a := a) hG ht h2) (rnd_rel (a := a) hG ht h3) hs
  rcases ho with ho | ho <;> simpa only [execOp, ho] using this
theorem c_mapEnt {o : Oper} {t : Nat} {m k : Operand} (ho : o.op = .mapEntry t m k) {ti : TI} (hti : tt t = some ti) {kt e : Nat} (hu : ti.und = .map kt e) {kk : KK} (hkk : kkOf tt kt = some kk) {ei : TI} (hei : tt e = some ei) {rm rk : Rnd} (h1 : rnd G m = some rm) (h2 : rnd G k = some rk) :
    Meets P β tm a st w o (.mapEnt kk ei.zero rm rk) := by
  intro v st' hv
  have hm := rnd_rel (a := a) hG ht h1
  simp only [aop] at hv
  split at hv
  case h_2 => cases hv
  rename_i b hb
  rw [hb] at hm
  split at hv
  case h_2 => cases hv
  rename_i es cl hg
  have key := fun r hf => s_mapEnt (P := P) (r := r) hr hT (hT _ _ hti) hu (hT _ _ hei) (kkOf_ok hT hkk) hm (rnd_rel (a := a) hG ht h2) hg hf
  split at hv
  · rename_i i q n hf; cases hv
    have := key _ hf
    simpa only [execOp, ho] using this
  · rename_i hf; cases hv
    have := key _ hf
    simpa only [execOp, ho] using this
  · cases hv
theorem c_entSt {o : Oper} {t : Nat} {m s x : Operand} (ho : o.op = .entryStore t m s x) {rm rs rx : Rnd} (h1 : rnd G m = some rm) (h2 : rnd G s = some rs) (h3 : rnd G x = some rx) :
    Meets P β tm a st w o (.entSt rm rs rx) := by
  intro v st' hv
  have hm := rnd_rel (a := a) hG ht h1
  simp only [aop] at hv
  split at hv
  case h_2 => cases hv
  rename_i b n hb hn
  rw [hb] at hm
  split at hv
  case h_2 => cases hv
  rename_i es cl hg
  split at hv
  case h_2 => cases hv
  rename_i es' hs
  cases hv
  obtain ⟨j, e1⟩ := natOf_val hn (rnd_rel (a := a) hG ht h2)
  have := s_entSt (P := P) (t := t) hr hm e1 (rnd_rel (a := a) hG ht h3) hg hs
  simpa only [execOp, ho] using this
theorem c_rangeMap {o : Oper} {t : Nat} {x : Operand} (ho : o.op = .range t x) {ti : TI} (hti : tt t = some ti) {kt e : Nat} (hu : ti.und = .map kt e) {r : Rnd} (h : rnd G x = some r) : Meets P β tm a st w o (.rangeMap r) := by
  intro v st' hv
  have hx := rnd_rel (a := a) hG ht h
  simp only [aop] at hv
  split at hv
  · rename_i hb
    rw [hb] at hx
    have hx : a.eval x = .map none := hx
    cases hv
    have := s_rangeMapNil (P := P) hr (hT _ _ hti) hu
    simpa only [execOp, ho, hx] using this
  · rename_i b hb
    rw [hb] at hx
    split at hv
    case h_2 => cases hv
    rename_i es cl hg
    cases hv
    have := s_rangeMap (P := P) hr (hT _ _ hti) hu hx hg
    simpa only [execOp, ho] using this
  · cases hv
theorem c_rangeStr {o : Oper} {t : Nat} {x : Operand} (ho : o.op = .range t x) {ti : TI} (hti : tt t = some ti) (hu : ti.und = .string) {r : Rnd} (h : rnd G x = some r) : Meets P β tm a st w o (.rangeStr r) := by
  intro v st' hv
  have hx := rnd_rel (a := a) hG ht h
  simp only [aop] at hv
  split at hv
  case h_2 => cases hv
  rename_i s hb
  rw [hb] at hx
  cases hv
  have := s_rangeStr (P := P) hr (hT _ _ hti) hu hx
  simpa only [execOp, ho] using this
theorem c_nextMap {o : Oper} {x : Operand} (ho : o.op = .next x false) {r : Rnd} (h : rnd G x = some r) : Meets P β tm a st w o (.nextMap r) := by
  intro v st' hv
  have hx := rnd_rel (a := a) hG ht h
  have fin : ∀ {β' : Bmap}, VRel β' (.tuple [.bool false]) (.tuple #[.bool false]) := by
    intro β'; exact ⟨[.bool false], by simp only [LRel]; exact ⟨_, _, rfl, rfl, rfl⟩, rfl⟩
  simp only [aop] at hv
  split at hv
  case h_2 => cases hv
  rename_i b hb
  rw [hb] at hx
  split at hv
  · rename_i si se la hg
    cases hv
    exact Meets.same hr (by simp only [execOp, ho]) (s_nextMapNil (P := P) hr hx hg (ty := o.type)) fin
  · rename_i m si se la hg
    split at hv
    case h_2 => cases hv
    rename_i es cl hm
    split at hv
    · rename_i ho1 ho2
      cases hv
      exact Meets.same hr (by simp only [execOp, ho]) ((s_nextMap (P := P) hr hx hg hm ho1 (ty := o.type)).1 ho2) fin
    · rename_i k q n ho1 ho2
      split at hv
      · rename_i hlt
        cases hv
        have := (s_nextMap (P := P) hr hx hg hm ho1 (ty := o.type)).2 _ _ _ ho2 (Nat.le_of_ble_eq_true hlt)
        simpa only [execOp, ho] using this
      · cases hv
    · cases hv
  · cases hv
theorem c_nextStr {o : Oper} {x : Operand} (ho : o.op = .next x true) {r : Rnd} (h : rnd G x = some r) : Meets P β tm a st w o (.nextStr r) := by
  intro v st' hv
  have hx := rnd_rel (a := a) hG ht h
  have fin : ∀ {β' : Bmap}, VRel β' (.tuple [.bool false]) (.tuple #[.bool false]) := by
    intro β'; exact ⟨[.bool false], by simp only [LRel]; exact ⟨_, _, rfl, rfl, rfl⟩, rfl⟩
  simp only [aop] at hv
  split at hv
  case h_2 => cases hv
  rename_i b hb
  rw [hb] at hx
  split at hv
  case h_2 => cases hv
  rename_i s pos hg
  have key := s_nextStr (P := P) hr hx hg (ty := o.type)
  split at hv
  · rename_i hd
    cases hv
    exact Meets.same hr (by simp only [execOp, ho]) (key.1 hd) fin
  · rename_i c l hd
    split at hv
    · rename_i hlt
      cases hv
      have := key.2 _ _ hd (Nat.le_of_ble_eq_true hlt)
      simpa only [execOp, ho] using this
    · cases hv
theorem c_entry {o : Oper} {x : Operand} (ho : o.op = .entry x) {r : Rnd} (h : rnd G x = some r) : Meets P β tm a st w o (.entry r) := by
  intro v st' hv
  have hx := rnd_rel (a := a) hG ht h
  simp only [aop] at hv
  split at hv
  case h_2 => cases hv
  rename_i b hb
  rw [hb] at hx
  split at hv
  case h_2 => cases hv
  rename_i m si se la hg
  split at hv
  case h_2 => cases hv
  rename_i es cl s rest hm hse
  split at hv
  case h_2 => cases hv
  rename_i k q hq1 hq2
  cases hv
  obtain ⟨y, g1, g2⟩ := s_entry (P := P) hr hx hg hm (Nat.eq_of_beq_eq_true hq1) hse hq2
  exact Meets.same hr (by simp only [execOp, ho]) g1 g2
theorem c_extract {o : Oper} {x : Operand} {i : Nat} (ho : o.op = .extract x i) {r : Rnd} (h : rnd G x = some r) : Meets P β tm a st w o (.extract i r) := by
  intro v st' hv
  have hx := rnd_rel (a := a) hG ht h
  simp only [aop] at hv
  split at hv
  case h_2 => cases hv
  rename_i l hb
  rw [hb] at hx
  split at hv
  case h_2 => cases hv
  rename_i q hq
  cases hv
  obtain ⟨y, g1, g2⟩ := s_extract (P := P) (w := w) hx hq
  exact Meets.same hr (by simp only [execOp, ho]) g1 g2
omit hT hG hr ht in
theorem exec_builtin {o : Oper} {b : Builtin} {args : Array Operand} {ts : Array TypeId} (ho : o.op = .call ⟨.builtin b, args, ts⟩) : execOp a.eval o = builtin b ts o.type (args.map fun | .const _ => true | _ => false) (args.map a.eval) := by
  simp only [execOp, ho, resolve]
  rfl
theorem c_builtin {o : Oper} {b : Builtin} {args : Array Operand} {ts : Array TypeId} (ho : o.op = .call ⟨.builtin b, args, ts⟩) {ao : AOp} (h : compBuiltin G tt b args.toList ts.toList = some ao) : Meets P β tm a st w o ao := by
  have hex := exec_builtin (a := a) ho
  obtain ⟨args⟩ := args
  obtain ⟨ts⟩ := ts
  intro v st' hv
  have same : ∀ {s : Sem Value} {y : Value}, execOp a.eval o = (do pure (Next.value (← s))) → s.run P w = .ok y w → VRel β v y → st' = st → Does P (execOp a.eval o) β st w v st' := by
    intro s y g0 g1 g2 e; subst e; exact Meets.same hr g0 g1 g2
  unfold compBuiltin at h
  simp only at h
  split at h
  ·
    rename_i x t rest
    have e0 : (⟨t :: rest⟩ : Array TypeId)[0]? = some t := rfl
    have hex : execOp a.eval o = (do pure (Next.value (← Builtin.len_ ⟨t :: rest⟩ o.type #[a.eval x]))) := hex.trans (by simp [builtin])
    have e1 : (#[a.eval x] : Array Value)[0]? = some (a.eval x) := rfl
    split at h
    case h_2 => cases h
    rename_i r ti h1 h2
    have hx := rnd_rel (a := a) hG ht h1
    have hi := hT _ _ h2
    split at h
    · rename_i n e hu
      cases h
      simp only [aop, Option.some.injEq, Prod.mk.injEq] at hv
      obtain ⟨rfl, rfl⟩ := hv
      refine same hex (y := goInt n) ?_ rfl rfl
      simp only [Builtin.len_, e0, e1, Sem.run_bind, hi.run_und, hu, Result.andThen_ok]
      rfl
    · rename_i arr hu
      split at h
      case h_2 => cases h
      rename_i ai hai
      split at h
      case h_2 => cases h
      rename_i n e hau
      cases h
      simp only [aop, Option.some.injEq, Prod.mk.injEq] at hv
      obtain ⟨rfl, rfl⟩ := hv
      refine same hex (y := goInt n) ?_ rfl rfl
      simp only [Builtin.len_, e0, e1, Sem.run_bind, hi.run_und, hu, Result.andThen_ok, (hT _ _ hai).run_und, hau]
      rfl
    · rename_i hu
      cases h
      simp only [aop] at hv
      split at hv <;> try cases hv
      all_goals rename_i hg hb; try cases hg
      rw [hb] at hx
      obtain ⟨B, hB, hs⟩ := hx
      refine same hex (y := goInt B.size) ?_ ?_ rfl
      · have e1 : (#[Value.string B] : Array Value)[0]? = some (.string B) := rfl
        rw [hB]; simp only [Builtin.len_, e0, e1, Sem.run_bind, hi.run_und, hu, Result.andThen_ok]; rfl
      · rw [← hs]; show _ = _; simp [goInt]
    · rename_i e hu
      cases h
      simp only [aop] at hv
      split at hv <;> try cases hv
      all_goals rename_i hg hb; try cases hg
      · rw [hb] at hx
        obtain ⟨im, him, cap', oo, hB, _⟩ := hx
        refine same hex ?_ rfl rfl
        simp only [Builtin.len_, e0, e1, Sem.run_bind, hi.run_und, hu, Result.andThen_ok]; rw [hB]; rfl
      · rw [hb] at hx
        have hx : a.eval x = .slice none 0 0 := hx
        refine same hex ?_ rfl rfl
        simp only [Builtin.len_, e0, e1, Sem.run_bind, hi.run_und, hu, Result.andThen_ok]; rw [hx]; rfl
    · rename_i k e hu
      cases h
      simp only [aop] at hv
      split at hv <;> try cases hv
      all_goals rename_i hg hb; try cases hg
      · rw [hb] at hx
        have hx : a.eval x = .map none := hx
        refine same hex ?_ rfl rfl
        simp only [Builtin.len_, e0, e1, Sem.run_bind, hi.run_und, hu, Result.andThen_ok]; rw [hx]; rfl
      · rw [hb] at hx
        split at hv <;> cases hv
        rename_i hg
        exact same hex (s_lenMap (P := P) hr hi hu hx e0 hg) rfl rfl
    · cases h
  ·
    rename_i sl x ts0 tx rest
    have e0 : (⟨ts0 :: tx :: rest⟩ : Array TypeId)[0]? = some ts0 := rfl
    have e1 : (⟨ts0 :: tx :: rest⟩ : Array TypeId)[1]? = some tx := rfl
    have hex : execOp a.eval o = (do pure (Next.value (← Builtin.append_ ⟨ts0 :: tx :: rest⟩ o.type #[a.eval sl, a.eval x]))) := hex.trans (by simp [builtin])
    split at h
    case h_2 => cases h
    rename_i r1 r2 si xi h1 h2 h3 h4
    have hs := rnd_rel (a := a) hG ht h1
    have hx := rnd_rel (a := a) hG ht h2
    split at h
    · cases h
    · rename_i e hu hne
      split at h
      case h_2 => cases h
      rename_i ei hei
      cases h
      have key : ∀ {n : Nat} {l : List AV}, (∃ c, Src P β w ei.size n (a.eval x) l c) → appA st e ei.size ei.bytes (ev tm r1) l n = some (v, st') → Does P (execOp a.eval o) β st w v st' := by
        intro n l ⟨c, hc⟩ hv
        rw [hex]
        exact s_app (P := P) hr (hT _ _ h3) hu (hT _ _ hei) (hT _ _ h4) (fun k hk => hne k hk) e0 e1 hs hc hv
      simp only [aop] at hv
      split at hv
      · rename_i hb
        rw [hb] at hx
        have hx : a.eval x = .slice none 0 0 := hx
        exact key ⟨[], by rw [hx]; exact Src.nils P β w ei.size⟩ hv
      · rename_i l hb
        rw [hb] at hx
        split at hv
        · rename_i hes
          have hes := Nat.eq_of_beq_eq_true hes
          refine key ?_ hv
          rw [hes]; exact Src.str hx
        · cases hv
      · rename_i b off n cap es' hb
        rw [hb] at hx
        split at hv
        · rename_i l hes hl
          have hes := Nat.eq_of_beq_eq_true hes
          subst hes
          exact key (Src.slice (P := P) hr hx hl) hv
        · cases hv
      · cases hv
    · cases h
  ·
    rename_i d s td rest
    have e0 : (⟨td :: rest⟩ : Array TypeId)[0]? = some td := rfl
    have hex : execOp a.eval o = (do pure (Next.value (← Builtin.copy_ ⟨td :: rest⟩ o.type #[a.eval d, a.eval s]))) := hex.trans (by simp [builtin])
    split at h
    case h_2 => cases h
    rename_i r1 r2 di h1 h2 h3
    have hd := rnd_rel (a := a) hG ht h1
    have hs := rnd_rel (a := a) hG ht h2
    split at h
    case h_2 => cases h
    rename_i e hu
    split at h
    case h_2 => cases h
    rename_i ei hei
    cases h
    have hi := hT _ _ h3
    have he := hT _ _ hei
    have g0 : (#[a.eval d, a.eval s] : Array Value)[0]? = some (a.eval d) := rfl
    have g1 : (#[a.eval d, a.eval s] : Array Value)[1]? = some (a.eval s) := rfl
    simp only [aop] at hv
    generalize a.eval d = xd at *
    generalize a.eval s = xs at *
    split at hv
    · rename_i hb
      rw [hb] at hd
      have hd : xd = .slice none 0 0 := hd
      subst hd
      split at hv
      · rename_i hb2
        cases hv
        rw [hb2] at hs
        have hs : xs = .slice none 0 0 := hs
        subst hs
        refine same hex ?_ rfl rfl
        simp only [Builtin.copy_, e0, g0, g1, Sem.run_bind, hi.run_und, hu, Result.andThen_ok, Builtin.lenOf, Sem.run_pure, he.run_size, Builtin.firstCells]
        rfl
      · rename_i hb2
        cases hv
        rw [hb2] at hs
        obtain ⟨im, him, cap', oo, rfl, _⟩ := hs
        refine same hex (y := goInt 0) ?_ rfl rfl
        simp only [Builtin.copy_, e0, g0, g1, Sem.run_bind, hi.run_und, hu, Result.andThen_ok, Builtin.lenOf, Sem.run_pure, he.run_size, Builtin.firstCells]
        simp [loadCells, loadCellsFrom]
      · cases hv
    · rename_i b off n cap es' hb
      rw [hb] at hd
      split at hv
      case h_2 => cases hv
      rename_i hes
      have hes := Nat.eq_of_beq_eq_true hes
      subst hes
      split at hv
      · rename_i hb2
        cases hv
        rw [hb2] at hs
        have hs : xs = .slice none 0 0 := hs
        subst hs
        obtain ⟨im, him, cap', oo, rfl, _⟩ := hd
        refine same hex (y := goInt 0) ?_ rfl rfl
        simp only [Builtin.copy_, e0, g0, g1, Sem.run_bind, hi.run_und, hu, Result.andThen_ok, Builtin.lenOf, Sem.run_pure, he.run_size, Builtin.firstCells]
        simp [storeCells]
      · rename_i b2 off2 n2 cap2 es2 hb2
        rw [hb2] at hs
        split at hv
        case h_2 => cases hv
        rename_i l hes2 hl
        have hes2 := Nat.eq_of_beq_eq_true hes2
        subst hes2
        split at hv
        · rename_i s' hw
          cases hv
          rw [hex]
          exact s_copy (P := P) hr hi hu he e0 hd hs hl hw
        · cases hv
      · cases hv
    · cases hv
  ·
    rename_i ts' x y
    have hex : execOp a.eval o = (do pure (Next.value (← Builtin.min_ ⟨ts⟩ o.type #[a.eval x, a.eval y]))) := hex.trans (by simp [builtin])
    split at h
    case h_2 => cases h
    rename_i r1 r2 h1 h2
    have hx := rnd_rel (a := a) hG ht h1
    have hy := rnd_rel (a := a) hG ht h2
    cases h
    simp only [aop] at hv
    split at hv
    · rename_i k m k' n b1 b2
      cases hv
      rw [b1] at hx; rw [b2] at hy
      have hx : a.eval x = .int k m := hx
      have hy : a.eval y = .int k' n := hy
      refine same hex (y := .int k (if n < m then n else m)) ?_ rfl rfl
      simp [Builtin.min_, hx, hy, Builtin.min2]
    · cases hv
  ·
    rename_i ts' x y
    have hex : execOp a.eval o = (do pure (Next.value (← Builtin.max_ ⟨ts⟩ o.type #[a.eval x, a.eval y]))) := hex.trans (by simp [builtin])
    split at h
    case h_2 => cases h
    rename_i r1 r2 h1 h2
    have hx := rnd_rel (a := a) hG ht h1
    have hy := rnd_rel (a := a) hG ht h2
    cases h
    simp only [aop] at hv
    split at hv
    · rename_i k m k' n b1 b2
      cases hv
      rw [b1] at hx; rw [b2] at hy
      have hx : a.eval x = .int k m := hx
      have hy : a.eval y = .int k' n := hy
      refine same hex (y := .int k (if n > m then n else m)) ?_ rfl rfl
      simp [Builtin.max_, hx, hy, Builtin.max2]
    · cases hv
  ·
    rename_i x t rest
    have e0 : (⟨t :: rest⟩ : Array TypeId)[0]? = some t := rfl
    have hex : execOp a.eval o = (do pure (Next.value (← Builtin.clear_ ⟨t :: rest⟩ o.type #[a.eval x]))) := hex.trans (by simp [builtin])
    split at h
    case h_2 => cases h
    rename_i r1 ti h1 h2
    have hx := rnd_rel (a := a) hG ht h1
    have hi := hT _ _ h2
    split at h
    case h_2 => cases h
    rename_i e hu
    split at h
    case h_2 => cases h
    rename_i ei hei
    cases h
    have g0 : (#[a.eval x] : Array Value)[0]? = some (a.eval x) := rfl
    generalize a.eval x = xx at *
    have nop : ∀ {y : Value}, xx = y → (y = .slice none 0 0 ∨ ∃ p c, y = .slice p 0 c) → Does P (execOp a.eval o) β st w undefA st := by
      intro y hy hy2
      subst hy
      rw [hex]
      refine Does.same hr (v' := .tuple #[]) ?_ ⟨[], by simp [LRel], rfl⟩
      rcases hy2 with rfl | ⟨p, c, rfl⟩
      · simp only [Builtin.clear_, e0, g0, Sem.run_bind, hi.run_und, hu, Result.andThen_ok, Sem.run_pure]
      · simp only [Builtin.clear_, e0, g0, Sem.run_bind, hi.run_und, hu, Result.andThen_ok]
        cases p <;> simp
    simp only [aop] at hv
    split at hv
    · rename_i hb
      cases hv
      rw [hb] at hx
      exact nop hx (.inl rfl)
    · rename_i b off n cap es' hb
      rw [hb] at hx
      split at hv
      · cases hv
        obtain ⟨im, him, cap', oo, hx, _⟩ := hx
        exact nop hx (.inr ⟨_, _, rfl⟩)
      · rename_i hn
        split at hv
        · rename_i s' hes hw
          cases hv
          have hes := Nat.eq_of_beq_eq_true hes
          subst hes
          rw [hex]
          exact s_clear (P := P) hr hi hu (hT _ _ hei) e0 hx (by intro h0; exact hn h0) hw
        · cases hv
    · cases hv
  ·
    rename_i m k t rest
    have e0 : (⟨t :: rest⟩ : Array TypeId)[0]? = some t := rfl
    have hex : execOp a.eval o = (do pure (Next.value (← Builtin.delete_ ⟨t :: rest⟩ o.type #[a.eval m, a.eval k]))) := hex.trans (by simp [builtin])
    split at h
    case h_2 => cases h
    rename_i r1 r2 ti h1 h2 h3
    have hm := rnd_rel (a := a) hG ht h1
    have hk := rnd_rel (a := a) hG ht h2
    have hi := hT _ _ h3
    split at h
    case h_2 => cases h
    rename_i kt e hu
    obtain ⟨kk, hkk, rfl⟩ := Option.map_eq_some_iff.1 h
    have hko := kkOf_ok hT hkk
    simp only [aop] at hv
    split at hv
    · rename_i hb
      rw [hb] at hm
      have hm : a.eval m = .map none := hm
      split at hv
      · rename_i hf
        cases hv
        rw [hex, hm]
        exact s_deleteNil (P := P) hr hT hi hu hko hk hf e0
      · cases hv
    · rename_i b hb
      rw [hb] at hm
      split at hv
      case h_2 => cases hv
      rename_i es cl hg
      have key := fun r hf => s_delete (P := P) (r := r) (ty := o.type) hr hT hi hu hko hm hk e0 hg hf
      split at hv
      · rename_i hf; cases hv; rw [hex]; exact key _ hf
      · rename_i hf; cases hv; rw [hex]; exact key _ hf
      · cases hv
    · cases hv
  · cases h
end
end Go.RI
namespace Go.RI
variable [cx : Cx]
def AOp.calls : AOp → Bool
  | .call .. => true
  | .defer .. => true
  | _ => false
theorem aop_sound {G : Nat} {tt : TT} {P : Program} {β : Bmap} {tm : Tr AV} {a : Act} {st : St} {w : World}
    (hT : TTok P tt) (hG : GRel G β) (hr : Rel β st w) (ht : TRel β tm a.tmps) {o : Oper} {ao : AOp} (h : compOp G tt o = some ao) : Meets P β tm a st w o ao := by
  unfold compOp at h
  split at h
  · rename_i ho; obtain ⟨r, hr', rfl⟩ := Option.map_eq_some_iff.1 h; exact c_move hT hG hr ht (.inl ho) hr'
  · rename_i ho; obtain ⟨r, hr', rfl⟩ := Option.map_eq_some_iff.1 h; exact c_move hT hG hr ht (.inr ho) hr'
  · rename_i ho
    split at h
    · rename_i h1 h2 h3; cases h; exact c_pick hT hG hr ht ho h1 h2 h3
    · cases h
  · rename_i ho; obtain ⟨r, hr', rfl⟩ := Option.map_eq_some_iff.1 h; exact c_alloc hT hG hr ht ho hr'
  · rename_i ho; obtain ⟨r, hr', rfl⟩ := Option.map_eq_some_iff.1 h; exact c_box hT hG hr ht ho hr'
  ·
    rename_i ho
    split at h
    case h_2 => cases h
    rename_i ti hti
    split at h
    · rename_i fields hu
      split at h
      · rename_i hall; obtain ⟨p, hp, rfl⟩ := Option.map_eq_some_iff.1 h; exact c_buildS hT hG hr ht ho hti hu hall hp
      · cases h
    · rename_i n e hu
      split at h
      · rename_i ei hei; obtain ⟨p, hp, rfl⟩ := Option.map_eq_some_iff.1 h; exact c_buildA hT hG hr ht ho hti hu hei hp
      · cases h
    · cases h
  ·
    rename_i ho
    split at h
    case h_2 => cases h
    rename_i ti hti
    split at h
    · rename_i e hu
      split at h
      · rename_i ei hei
        split at h
        · cases h
        · rename_i hsz; obtain ⟨p, hp, rfl⟩ := Option.map_eq_some_iff.1 h; exact c_buildSlice hT hG hr ht ho hti hu hei hsz hp
      · cases h
    · cases h
  ·
    rename_i ho
    split at h
    · rename_i ti rm rk rv hti h1 h2 h3
      split at h
      · rename_i kt e hu; obtain ⟨kk, hkk, rfl⟩ := Option.map_eq_some_iff.1 h; exact c_mapUpd hT hG hr ht (.inr ho) hti hu hkk h1 h2 h3
      · cases h
    · cases h
  ·
    rename_i ho
    split at h
    · rename_i ti rm rk rv hti h1 h2 h3
      split at h
      · rename_i kt e hu; obtain ⟨kk, hkk, rfl⟩ := Option.map_eq_some_iff.1 h; exact c_mapUpd hT hG hr ht (.inl ho) hti hu hkk h1 h2 h3
      · cases h
    · cases h
  ·
    rename_i ho
    split at h
    · rename_i ti r hti h1; cases h; exact c_load hT hG hr ht ho hti h1
    · cases h
  ·
    rename_i ho
    split at h
    · rename_i ti r1 r2 hti h1 h2; cases h; exact c_store hT hG hr ht ho hti h1 h2
    · cases h
  · rename_i ho; obtain ⟨r, hr', rfl⟩ := Option.map_eq_some_iff.1 h; exact c_nilck hT hG hr ht ho hr'
  · rename_i ho; exact c_bin hT hG hr ht ho h
  · rename_i ho; obtain ⟨r, hr', rfl⟩ := Option.map_eq_some_iff.1 h; exact c_un hT hG hr ht ho hr'
  · rename_i ho; exact c_conv hT hG hr ht ho h
  ·
    rename_i ho
    split at h
    · rename_i ti r hti h1
      split at h
      · cases h
      · rename_i hni; cases h; exact c_mkIface hT hG hr ht ho hti (fun m hm => hni m hm) h1
    · cases h
  ·
    rename_i ho
    split at h
    · rename_i r1 r2 h1 h2; cases h; exact c_mkFunc hT hG hr ht ho h1 h2
    · cases h
  ·
    rename_i ho
    split at h
    · rename_i ti hti
      split at h
      · rename_i hu; cases h; exact c_mkMap hT hG hr ht ho hti hu (.inl rfl)
      · rename_i hu; cases h; exact c_mkMap hT hG hr ht ho hti hu (.inr ⟨_, _, rfl⟩)
      · cases h
    · cases h
  ·
    rename_i ho
    split at h
    · rename_i ti r1 r2 hti h1 h2
      split at h
      · rename_i e hu; obtain ⟨ei, hei, rfl⟩ := Option.map_eq_some_iff.1 h; exact c_mkSlice hT hG hr ht ho hti hu hei h1 h2
      · cases h
    · cases h
  ·
    rename_i lo hi mx ho
    split at h
    · rename_i ti r1 r2 r3 r4 hti h1 h2 h3 h4
      have hmxN : r4 = none → mx = none := by
        intro e; subst e
        cases mx with
        | none => rfl
        | some m => simp only [rndO] at h4; split at h4 <;> cases h4
      split at h
      · rename_i hu; cases h; obtain rfl := hmxN rfl; exact c_cutStr hT hG hr ht ho hti hu h1 h2 h3
      · rename_i e hu; obtain ⟨ei, hei, rfl⟩ := Option.map_eq_some_iff.1 h; obtain rfl := hmxN rfl; exact c_cutSl hT hG hr ht ho hti hu hei h1 h2 h3
      · rename_i e m hu
        split at h
        · rename_i hhi; obtain ⟨ei, hei, rfl⟩ := Option.map_eq_some_iff.1 h
          cases mx with
          | none => simp [rndO] at h4
          | some m' =>
            simp only [rndO] at h4
            split at h4
            · rename_i q hq
              cases h4
              have hhi' : hi.isSome = true := by
                cases hi with
                | none => simp only [rndO, Option.some.injEq] at h3; subst h3; exact hhi
                | some _ => rfl
              exact c_cutSl3 hT hG hr ht ho hti hu hei hhi' h1 h2 h3 hq
            · cases h4
        · cases h
      · rename_i n e hu; obtain ⟨ei, hei, rfl⟩ := Option.map_eq_some_iff.1 h; obtain rfl := hmxN rfl; exact c_cutArr hT hG hr ht ho hti hu hei h1 h2 h3
      · cases h
    · cases h
  ·
    rename_i ho
    split at h
    · rename_i ti r hti h1
      split at h
      · rename_i fields hu
        split at h
        · rename_i fd hf
          split at h
          · rename_i fi hfi
            split at h
            · cases h
            · rename_i hne; cases h; exact c_fieldAddr hT hG hr ht ho hti hu hf hfi hne h1
          · cases h
        · cases h
      · cases h
    · cases h
  ·
    rename_i ho
    split at h
    · rename_i ti r hti h1
      split at h
      · rename_i fields hu
        split at h
        · rename_i fd hf; obtain ⟨fi, hfi, rfl⟩ := Option.map_eq_some_iff.1 h; exact c_field hT hG hr ht ho hti hu hf hfi h1
        · cases h
      · cases h
    · cases h
  ·
    rename_i ho
    split at h
    · rename_i ti r1 r2 hti h1 h2
      split at h
      · rename_i n e hu; obtain ⟨ei, hei, rfl⟩ := Option.map_eq_some_iff.1 h; exact c_idxArr hT hG hr ht ho hti hu hei h1 h2
      · rename_i e hu; obtain ⟨ei, hei, rfl⟩ := Option.map_eq_some_iff.1 h; exact c_idxSl hT hG hr ht ho hti hu hei h1 h2
      · cases h
    · cases h
  ·
    rename_i ho
    split at h
    · rename_i ti r1 r2 hti h1 h2
      split at h
      · rename_i n e hu; obtain ⟨ei, hei, rfl⟩ := Option.map_eq_some_iff.1 h; exact c_idxAgg hT hG hr ht ho hti hu hei h1 h2
      · rename_i hu; cases h; exact c_idxStr hT hG hr ht ho hti hu h1 h2
      · cases h
    · cases h
  ·
    rename_i ho
    split at h
    · rename_i ti r1 r2 hti h1 h2
      split at h
      · rename_i kt e hu
        split at h
        · rename_i kk ei hkk hei; cases h; exact c_lookup hT hG hr ht ho hti hu hkk hei h1 h2
        · cases h
      · cases h
    · cases h
  ·
    rename_i ho
    split at h
    · rename_i ti r1 r2 hti h1 h2
      split at h
      · rename_i kt e hu
        split at h
        · rename_i kk ei hkk hei; cases h; exact c_mapEnt hT hG hr ht ho hti hu hkk hei h1 h2
        · cases h
      · cases h
    · cases h
  ·
    rename_i ho
    split at h
    · rename_i r1 r2 r3 h1 h2 h3; cases h; exact c_entSt hT hG hr ht ho h1 h2 h3
    · cases h
  ·
    rename_i ho
    split at h
    · rename_i ti r hti h1
      split at h
      · rename_i hu; cases h; exact c_rangeStr hT hG hr ht ho hti hu h1
      · rename_i k e hu; cases h; exact c_rangeMap hT hG hr ht ho hti hu h1
      · cases h
    · cases h
  ·
    rename_i isS ho
    obtain ⟨r, hr', rfl⟩ := Option.map_eq_some_iff.1 h
    cases isS with
    | true => exact c_nextStr hT hG hr ht ho hr'
    | false => exact c_nextMap hT hG hr ht ho hr'
  · rename_i ho; obtain ⟨r, hr', rfl⟩ := Option.map_eq_some_iff.1 h; exact c_entry hT hG hr ht ho hr'
  · rename_i ho; obtain ⟨r, hr', rfl⟩ := Option.map_eq_some_iff.1 h; exact c_extract hT hG hr ht ho hr'
  ·
    split at h
    · cases h; intro v st' hv; simp [aop] at hv
    · cases h
  · rename_i ho; exact c_builtin hT hG hr ht ho h
  · cases h
end Go.RI
namespace Go.RI
section
variable {F : Fence} {n : Nat} {P : Program} {Q : Exit → Act → World → Prop} {a : Act} {w : World}
theorem stepR_scope {b : Frame} {k : List Item} {cs : List Frame} {c : Code} : step P (lone (b.atR a (.code (.scope c) :: k)) cs w) = .next (lone (b.atR a (.code c :: .inScope c :: k)) cs w) :=
  step_lone_go (by simp [stepG, stepG.exec, Frame.atR])
theorem stepR_inScope {b : Frame} {k : List Item} {cs : List Frame} {c : Code} : step P (lone (b.atR a (.inScope c :: k)) cs w) = .next (lone (b.atR a k) cs w) :=
  step_lone_go (by simp [stepG, stepG.exec, Frame.atR])
theorem wpIn_scope {c : Code} (hQ : ∀ l a w, ¬ Q (.goto l) a w) (h : c.wpIn F n P Q a w) : (Code.scope c).wpIn F n P Q a w := by
  intro b k cs hro hb hr
  have h0 : (lone (b.atR a (.code (.scope c) :: k)) cs w).fenced P F := fenced_calm hb hr rfl
  obtain ⟨e, a₁, w₁, hq, harr⟩ := h b (.inScope c :: k) cs hro hb hr
  cases e with
  | normal => exact ⟨.normal, a₁, w₁, hq, .head h0 stepR_scope (StepsIn.trans harr (.one (fenced_calm hb hr rfl) stepR_inScope))⟩
  | exit id =>
    have hx : exitTo id (.inScope c :: k) = exitTo id k := by simp [exitTo]
    exact ⟨.exit id, a₁, w₁, hq, fun k' hk => .head h0 stepR_scope (harr.1 k' (by rw [hx]; exact hk)),
      fun hr' hk => let ⟨k₁, h1, h2⟩ := harr.2 hr' (by rw [hx]; exact hk); ⟨k₁, h1, .head h0 stepR_scope h2⟩⟩
  | goto l => exact absurd hq (hQ _ _ _)
  | ret => exact ⟨_, a₁, w₁, hq, .of_steps (.one h0 stepR_scope) harr⟩
  | panic ch => exact ⟨_, a₁, w₁, hq, .of_steps (.one h0 stepR_scope) harr⟩
  | outgrown => exact ⟨_, a₁, w₁, hq, .of_steps (.one h0 stepR_scope) harr⟩
end
def DRel (β : Bmap) : List Nat → List Deferred → Prop
  | [], l => l = []
  | b :: bs, l => ∃ im r, β b = some im ∧ l = { target := .collected im.blk, args := #[] } :: r ∧ DRel β bs r
theorem DRel.mono {β β' : Bmap} (h : Ext β β') : ∀ {l : List Nat} {d : List Deferred}, DRel β l d → DRel β' l d
  | [], _, hd => hd
  | _ :: _, _, hd => by
    simp only [DRel] at *; obtain ⟨im, r, h1, h2, h3⟩ := hd; exact ⟨im, r, h _ _ h1, h2, DRel.mono h h3⟩
structure FRl (β : Bmap) (N : Nat) (fr : Fr) (a : Act) : Prop where
  tm : TRel β fr.tm a.tmps
  size : N ≤ a.tmps.size
  df : DRel β fr.df a.defers
theorem FRl.mono {β β' : Bmap} {N : Nat} {fr : Fr} {a : Act} (h : Ext β β') (hf : FRl β N fr a) : FRl β' N fr a := ⟨hf.tm.mono h, hf.size, hf.df.mono h⟩
theorem FRl.put {β : Bmap} {N : Nat} {fr : Fr} {a : Act} (h : FRl β N fr a) {d : Option Nat} (hd : dstOk N d = true) {v : AV} {x : Value} (hv : VRel β v x) : FRl β N { fr with tm := putT fr.tm d v } (a.put d x) := by
  cases d with
  | none => exact h
  | some t =>
    have ht : t < a.tmps.size := Nat.lt_of_lt_of_le (Nat.le_of_ble_eq_true hd) h.size
    refine ⟨fun j => ?_, by simpa [Act.put] using h.size, h.df⟩
    simp only [putT, Act.put]
    rw [Tr.get_set]
    by_cases hj : j = t
    · subst hj; rw [if_pos rfl]; simp [ht]; exact hv
    · rw [if_neg hj]
      have : (a.tmps.setIfInBounds t x).getD j undef = a.tmps.getD j undef := by
        simp only [Array.getD_eq_getD_getElem?]
        rw [Array.getElem?_setIfInBounds_ne (Ne.symm hj)]
      rw [this]; exact h.tm j
theorem VRel.isBool {β : Bmap} {v : AV} {b : Bool} (h : VRel β v (.bool b)) : v = .bool b := by
  cases v <;> simp only [VRel] at h
  case bool c => cases h; rfl
  all_goals first
    | (cases h; done)
    | (obtain ⟨_, _, h⟩ := h; cases h; done)
    | (obtain ⟨_, h, _⟩ := h; cases h; done)
    | (obtain ⟨_, _, _, _, h⟩ := h; cases h; done)
    | (obtain ⟨_, _, _, _, h, _⟩ := h; cases h; done)
theorem wanted_rel {β : Bmap} {N : Nat} {fr : Fr} {a : Act} (hf : FRl β N fr a) {ops : Array Oper} {o : Oper} {g : Option (Nat × Bool)} (hg : guardOf ops o.guard = some g) : Region.wanted o (yielded ops a.tmps) = wantedA fr.tm g := by
  unfold guardOf at hg
  unfold Region.wanted
  split at hg
  · rename_i h; cases hg; rw [h]; rfl
  · rename_i j b h
    rw [h]
    split at hg
    · rename_i t ht
      cases hg
      simp only [wantedA, yielded, ht, Option.bind_some]
      have hr : VRel β (ev fr.tm (.tmp t)) (a.tmps.getD t undef) := hf.tm t
      have hget : ∀ c, a.tmps.getD t undef = .bool c ↔ a.tmps[t]? = some (.bool c) := by
        intro c
        simp only [Array.getD_eq_getD_getElem?]
        cases a.tmps[t]? with
        | none => simp [undef]
        | some x => simp
      split
      · rename_i c hc
        have := (hget c).2 hc
        rw [this] at hr
        rw [hr.isBool]
        cases c <;> cases b <;> rfl
      · rename_i hc
        split
        · rename_i c hc2
          rw [hc2] at hr
          exact absurd ((hget c).1 hr) (hc c)
        · cases b <;> rfl
    · cases hg
def outE : AOut → Exit → Prop
  | .normal, .normal => True
  | .exit i, .exit j => i = j
  | .ret, .ret => True
  | _, _ => False
def OutQ [Cx] (β : Bmap) (st : St) (w : World) (N : Nat) (out : AOut) (fr' : Fr) (st' : St) : Exit → Act → World → Prop :=
  fun e a' w' => outE out e ∧ ∃ β', Post β st w β' st' w' ∧ FRl β' N fr' a'
structure FenceOk (F : Fence) (ir : Bool) : Prop where
  fn : ∀ f, F.fn f
  depth : F.depth = none
  round : F.round.isSome = true → ir = true
def RV (R : Value → World → Prop) : Ending → World → Prop
  | .returned v, w => R v w
  | _, _ => False
def CallsFor (P : Program) (F : Fence) (m : Nat) (fv : Value) (as : Array Value) (w : World) (R : Value → World → Prop) : Prop :=
  ∃ d, (Deferred.ofValue fv as).run P w = .ok d w ∧
    ((∃ g as', (invoke d.target d.args).run P w = .ok (.enter g as') w ∧ CallsIn F m P g as' w (RV R)) ∨
     (∃ l f tmps as' bd, (invoke d.target d.args).run P w = .ok (.round l f tmps as' bd) w ∧ RoundIn F m P l f tmps as' bd w (RV R)) ∨
     (∃ v w', (invoke d.target d.args).run P w = .ok (.value v) w' ∧ R v w'))
variable [cx : Cx]
def SCall (P : Program) (G : Nat) (cf : AV → List AV → St → Option (AV × St)) : Prop :=
  ∀ f args st v st', cf f args st = some (v, st') → ∀ (F : Fence) (m : Nat) (β : Bmap) (w : World) (fv : Value) (as : List Value), (∀ f, F.fn f) → F.depth = none → GRel G β → Rel β st w → VRel β f fv → LRel β args as →
    CallsFor P F m fv as.toArray w fun v' w' => ∃ β', VRel β' v v' ∧ Post β st w β' st' w'
section
variable {G : Nat} {tt : TT} {P : Program} {cf : AV → List AV → St → Option (AV × St)}
omit cx in
theorem compBin_nc {op : BinOp} {t : Nat} {x y : Operand} {ao : AOp} (h : compBin G tt op t x y = some ao) : ao.calls = false := by
  unfold compBin at h
  repeat' split at h
  all_goals first | (cases h; done) | (cases h; rfl) | (obtain ⟨_, _, rfl⟩ := Option.map_eq_some_iff.1 h; rfl)
omit cx in
theorem compConv_nc {s d : Nat} {x : Operand} {ao : AOp} (h : compConv G tt s d x = some ao) : ao.calls = false := by
  unfold compConv at h
  repeat' split at h
  all_goals first | (cases h; done) | (cases h; rfl)
omit cx in
theorem compBuiltin_nc {b : Builtin} {x : List Operand} {t : List TypeId} {ao : AOp} (h : compBuiltin G tt b x t = some ao) : ao.calls = false := by
  unfold compBuiltin at h
  repeat' split at h
  all_goals first | (cases h; done) | (cases h; rfl) | (obtain ⟨_, _, rfl⟩ := Option.map_eq_some_iff.1 h; rfl)
omit cx in
theorem compOp_call {o : Oper} {rf : Rnd} {rargs : List Rnd} (h : compOp G tt o = some (.call rf rargs)) : ∃ f args ts, o.op = .call ⟨.value f, args, ts⟩ ∧ rnd G f = some rf ∧ rndL G args.toList = some rargs := by
  have key : ∀ ao, compOp G tt o = some ao → ao = .call rf rargs → ∃ f args ts, o.op = .call ⟨.value f, args, ts⟩ ∧ rnd G f = some rf ∧ rndL G args.toList = some rargs := by
    intro ao h e
    unfold compOp at h
    split at h
    all_goals first
      | (rename_i ho
         split at h
         · rename_i h1 h2; subst e; cases h; exact ⟨_, _, _, ho, h1, h2⟩
         · cases h)
      | (exfalso
         have nc : ao.calls = false := by
           first
             | exact compBin_nc h
             | exact compConv_nc h
             | exact compBuiltin_nc h
             | (obtain ⟨_, _, rfl⟩ := Option.map_eq_some_iff.1 h; first | rfl | (split <;> rfl))
             | (repeat' split at h
                all_goals first | (cases h; done) | (cases h; rfl) | (cases h; split <;> rfl) | (obtain ⟨_, _, rfl⟩ := Option.map_eq_some_iff.1 h; rfl))
         rw [e] at nc; cases nc)
  exact key _ h rfl
theorem oper_wanted (hT : TTok P tt) (hcf : SCall P G cf) {N : Nat} {o : Oper} {ao : AOp} (hc : compOp G tt o = some ao) (hd : dstOk N o.dst = true) {fr fr' : Fr} {st st' : St} {g : Option (Nat × Bool)}
    (hs : stepOp cf { op := ao, dst := o.dst, guard := g } fr st = some (fr', st')) (hwt : wantedA fr.tm g = true) {F : Fence} {m : Nat} (hF1 : ∀ f, F.fn f) (hF2 : F.depth = none) {β : Bmap} {w : World} {a : Act} (hG : GRel G β) (hr : Rel β st w) (hf : FRl β N fr a)
    {K : Act → World → Prop} {Q : Exit → Act → World → Prop} (hK : ∀ β' a' w', Post β st w β' st' w' → FRl β' N fr' a' → K a' w') : o.wpIn F m P a w K Q := by
  refine ⟨fun _ _ => hF1 _, ?_⟩
  unfold stepOp at hs
  simp only [hwt] at hs
  have hnd : ∀ c, o.op ≠ .defer c := by
    intro c hc'
    simp [compOp, hc'] at hc
  rw [Oper.semAt_eq _ _ _ hnd]
  split at hs
  ·
    rename_i rf rargs
    split at hs
    case h_2 => cases hs
    rename_i v s1 hcall
    cases hs
    have hop := compOp_call hc
    obtain ⟨f, args, ts, ho, h1, h2⟩ := hop
    have hfv := rnd_rel (a := a) hG hf.tm h1
    have has := rndL_rel (a := a) hG hf.tm h2
    obtain ⟨d, hd1, hd2⟩ := hcf _ _ _ _ _ hcall F (m - 1) β w (a.eval f) (args.toList.map a.eval) hF1 hF2 hG hr hfv has
    have hex : (execOp a.eval o).run P w = (invoke d.target d.args).run P w := by
      have : (args.toList.map a.eval).toArray = args.map a.eval := by rw [← Array.toList_map]
      rw [this] at hd1
      simp only [execOp, ho, resolve, Sem.run_bind, hd1, Result.andThen_ok]
    have fin : ∀ v' w', (∃ β', VRel β' v v' ∧ Post β st w β' st' w') → K (a.put o.dst v') w' := by
      rintro v' w' ⟨β', hv', hp⟩
      exact hK β' _ _ hp ((hf.mono hp.ext).put hd hv')
    rw [hex]
    rcases hd2 with ⟨g', as', hi, hC⟩ | ⟨l, f', tmps, as', bd, hi, hC⟩ | ⟨v', w', hi, hC⟩
    · rw [hi, Oper.uponIn_enter]
      refine ⟨(fun h => by rw [hF2] at h; cases h), hC.mono fun e w' he => ?_⟩
      cases e with
      | returned v' => exact fin _ _ he
      | panicked _ => exact he.elim
      | outgrown => exact he.elim
    · rw [hi, Oper.uponIn_round]
      refine ⟨(fun h => by rw [hF2] at h; cases h), hC.mono fun e w' he => ?_⟩
      cases e with
      | returned v' => exact fin _ _ he
      | panicked _ => exact he.elim
      | outgrown => exact he.elim
    · rw [hi, Oper.uponIn_value]; exact fin _ _ hC
  ·
    rename_i hne
    split at hs
    case h_2 => cases hs
    rename_i v s1 hao
    cases hs
    obtain ⟨β', v', w', hdone, hv', hp⟩ := aop_sound hT hG hr hf.tm hc _ _ hao
    have hput := (hf.mono hp.ext).put hd hv'
    rcases hdone with h | ⟨rfl, h⟩
    · rw [h, Oper.uponIn_value]; exact hK β' _ _ hp hput
    · rw [h, Oper.uponIn_skip]; exact hK β' _ _ hp hput
end
end Go.RI
namespace Go.RI
variable [cx : Cx]
section
variable {G : Nat} {tt : TT} {P : Program}
omit cx in
theorem sem_mapM_cons {α β : Type} (f : α → Sem β) (x : α) (l : List α) (w w1 w2 : World) (y : β) (ys : List β) (h1 : (f x).run P w = .ok y w1) (h2 : (l.mapM f).run P w1 = .ok ys w2) : ((x :: l).mapM f).run P w = .ok (y :: ys) w2 := by
  rw [List.mapM_cons]
  simp only [Sem.run_bind, h1, h2, Result.andThen_ok, Sem.run_pure]
def resultOf (tmps : Array Value) : ResultVar → Sem Value
  | .tmp t => pure (tmps.getD t undef)
  | .cell a t => do loadVar t (← asAddr (tmps.getD a undef))
theorem results_list (hT : TTok P tt) {β : Bmap} {st : St} {w : World} (hr : Rel β st w) {tm : Tr AV} {tmps : Array Value} (ht : TRel β tm tmps) : ∀ {l : List ResultVar} {res : List ARes} {r : List AV},
    compRes tt l = some res → resultsA tm st res = some r → ∃ vs, (l.mapM (resultOf tmps)).run P w = .ok vs w ∧ LRel β r vs
  | [], res, r, hc, h => by
    simp only [compRes, Option.some.injEq] at hc; subst hc
    simp only [resultsA, Option.some.injEq] at h; subst h
    exact ⟨[], by simp, by simp [LRel]⟩
  | .tmp t :: l, res, r, hc, h => by
    simp only [compRes] at hc
    obtain ⟨res', hc', rfl⟩ := Option.map_eq_some_iff.1 hc
    simp only [resultsA] at h
    split at h
    · rename_i r' hr'
      cases h
      obtain ⟨vs, g1, g2⟩ := results_list hT hr ht hc' hr'
      exact ⟨_, sem_mapM_cons _ _ _ w w w _ _ rfl g1, by simp only [LRel]; exact ⟨_, _, rfl, ht t, g2⟩⟩
    · cases h
  | .cell a t :: l, res, r, hc, h => by
    simp only [compRes] at hc
    split at hc
    case h_2 => cases hc
    rename_i ti res' hti hc'
    cases hc
    simp only [resultsA] at h
    split at h
    case h_2 => cases h
    rename_i b off hb
    have hx : VRel β (.ptr b off) (tmps.getD a undef) := by rw [← hb]; exact ht a
    obtain ⟨im, him, hx⟩ := hx
    have hi := hT _ _ hti
    split at h
    case h_2 => cases h
    rename_i v hv
    split at h
    case h_2 => cases h
    rename_i r' hr'
    cases h
    obtain ⟨vs, g1, g2⟩ := results_list hT hr ht hc' hr'
    cases hq : ti.agg with
    | true =>
      rw [hq] at hv
      simp only [if_true] at hv
      split at hv
      · rename_i c hcs
        cases hv
        obtain ⟨cs, q1, q2, q3⟩ := hr.rdN hcs him
        have hl := run_loadCells_list (P := P) (w := w) ⟨im.blk, im.off + off, none⟩ cs (fun j v hj => by rw [addr_add]; exact q3 j v hj)
        rw [q1] at hl
        refine ⟨_, sem_mapM_cons _ _ _ w w w (.agg cs.toArray) vs ?_ g1, by simp only [LRel, VRel]; exact ⟨_, _, rfl, ⟨cs, q2, rfl⟩, g2⟩⟩
        simp [resultOf, hx, asAddr, loadVar, hi.run_agg, hi.run_size, hq, hl]
      · cases hv
    | false =>
      rw [hq] at hv
      simp only [Bool.false_eq_true, if_false] at hv
      obtain ⟨y, hy, hvr⟩ := hr.rd hv him
      refine ⟨_, sem_mapM_cons _ _ _ w w w y vs ?_ g1, by simp only [LRel]; exact ⟨_, _, rfl, hvr, g2⟩⟩
      simp [resultOf, hx, asAddr, loadVar, hi.run_agg, hq, hy]
theorem results_sound (hT : TTok P tt) {β : Bmap} {st : St} {w : World} (hr : Rel β st w) {tm : Tr AV} {tmps : Array Value} (ht : TRel β tm tmps) {fn : Func} {res : List ARes} {r : List AV}
    (hc : compRes tt fn.results.toList = some res) (h : resultsA tm st res = some r) : ∃ v, (results fn tmps).run P w = .ok v w ∧ VRel β (tupleA r) v := by
  obtain ⟨vs, g1, g2⟩ := results_list hT hr ht hc h
  have hm : (fn.results.mapM (resultOf tmps)).run P w = .ok vs.toArray w := by
    rw [Array.mapM_eq_mapM_toList, map_eq_pure_bind]
    simp only [Sem.run_bind, g1, Result.andThen_ok, Sem.run_pure]
  have hrun : (results fn tmps).run P w = .ok (if h : vs.toArray.size = 1 then vs.toArray[0] else .tuple vs.toArray) w := by
    have : results fn tmps = (do let vs ← fn.results.mapM (resultOf tmps); pure (if h : vs.size = 1 then vs[0] else .tuple vs)) := by
      unfold results resultOf
      congr
    rw [this]
    simp only [Sem.run_bind, hm, Result.andThen_ok, Sem.run_pure]
  refine ⟨_, hrun, ?_⟩
  cases r with
  | nil => simp only [LRel] at g2; subst g2; exact ⟨[], by simp [LRel], rfl⟩
  | cons x r =>
    cases r with
    | nil =>
      simp only [LRel] at g2
      obtain ⟨y, ys, rfl, h1, rfl⟩ := g2
      simpa [tupleA] using h1
    | cons x' r =>
      have hl := g2.length
      have : ¬ vs.toArray.size = 1 := by simp at hl ⊢; omega
      simp only [this, dif_neg, not_false_eq_true]
      exact ⟨vs, g2, rfl⟩
theorem leave_sound (hT : TTok P tt) {F : Fence} {m : Nat} {fn : Func} {res : List ARes} (hc : compRes tt fn.results.toList = some res) {tm : Tr AV} {tmps : Array Value} {v : AV} {st' : St} : ∀ {df : List Nat} {st : St} {β : Bmap} {w : World} {ds : List Deferred} {β0 : Bmap} {st0 : St} {w0 : World},
    leaveA res tm df st = some (v, st') → DRel β df ds → TRel β tm tmps → Post β0 st0 w0 β st w → LeavesInM F m P fn tmps (RV fun v' w' => ∃ β', VRel β' v v' ∧ Post β0 st0 w0 β' st' w') ds .returning w
  | [], st, β, w, ds, β0, st0, w0, h, hd, ht, hp => by
    simp only [DRel] at hd; subst hd
    simp only [leaveA] at h
    split at h
    · rename_i l hl
      cases h
      obtain ⟨v', g1, g2⟩ := results_sound hT hp.rel ht hc hl
      exact ⟨v', g1, β, g2, hp⟩
    · cases h
  | b :: df, st, β, w, ds, β0, st0, w0, h, hd, ht, hp => by
    simp only [DRel] at hd
    obtain ⟨im, r, hb, rfl, hd⟩ := hd
    simp only [leaveA] at h
    split at h
    · rename_i hg
      obtain ⟨h0, hw⟩ := hp.rel.obj _ _ _ hg hb
      simp only [Bool.false_eq_true, if_false] at hw
      have hpo := hp.rel.putObj (co := .deferred none) hb hg rfl (by simp) (o' := .dfr true) rfl (fun w' hw' => ⟨h0, by simpa using hw'⟩)
      refine ⟨by simp, .inl ⟨im.blk, w.putObj im.blk (.deferred none), rfl, run_takeDeferred hw, ?_⟩⟩
      exact leave_sound hT hc h hd ht (hp.trans hpo)
    · cases h
end
end Go.RI
namespace Go.RI
variable [cx : Cx]
def SRun (P : Program) (G : Nat) (tt : TT) (R : ACode → Fr → St → Option (AOut × Fr × St)) : Prop :=
  ∀ N ir code c, compCode G tt N ir code = some c → ∀ fr st out fr' st', R c fr st = some (out, fr', st') → ∀ (F : Fence) (m : Nat) (β : Bmap) (w : World) (a : Act), FenceOk F ir → GRel G β → Rel β st w → FRl β N fr a →
    code.wpIn F m P (OutQ β st w N out fr' st') a w
def FnsOk (P : Program) (G : Nat) (tt : TT) (fs : Fns) : Prop := ∀ g fn, fs g = some fn → ∃ f, P.funcs[g]? = some f ∧ compFn G tt f = some fn ∧ (f.name == "runtime.NumGoroutine") = false
def OrcOk (P : Program) (G : Nat) (orc : Oracle) : Prop :=
  ∀ g args st v st', orc g args st = some (v, st') → ∀ (F : Fence) (m : Nat) (β : Bmap) (w : World) (as : List Value), (∀ f, F.fn f) → F.depth = none → GRel G β → Rel β st w → LRel β args as →
    (∃ g' as', (callFunc g as.toArray).run P w = .ok (.enter g' as') w ∧ CallsIn F m P g' as' w (RV fun v' w' => ∃ β', VRel β' v v' ∧ Post β st w β' st' w')) ∨
    (∃ v' w', (callFunc g as.toArray).run P w = .ok (.value v') w' ∧ ∃ β', VRel β' v v' ∧ Post β st w β' st' w') ∨
    (∃ l f tmps as' bd, (callFunc g as.toArray).run P w = .ok (.round l f tmps as' bd) w ∧ RoundIn F m P l f tmps as' bd w (RV fun v' w' => ∃ β', VRel β' v v' ∧ Post β st w β' st' w'))
section
variable {G : Nat} {tt : TT} {P : Program}
omit cx in
theorem initT_get : ∀ (l : List AV) (i : Nat) (t : Tr AV) (j : Nat), (initT l i t).get j = if i ≤ j ∧ j < i + l.length then l[j - i]? else t.get j
  | [], i, t, j => by simp [initT]; intro h1 h2; omega
  | v :: l, i, t, j => by
    rw [initT, initT_get l (i + 1) (t.set v i) j, Tr.get_set]
    by_cases hj : j = i
    · subst hj; rw [if_neg (by omega), if_pos rfl, if_pos (by simp)]; simp
    · by_cases h1 : i + 1 ≤ j ∧ j < i + 1 + l.length
      · have h2 : i ≤ j ∧ j < i + (l.length + 1) := by omega
        rw [if_pos h1, if_pos (by simpa using h2)]
        obtain ⟨k, rfl⟩ : ∃ k, j = i + 1 + k := ⟨j - (i + 1), by omega⟩
        have e1 : i + 1 + k - (i + 1) = k := by omega
        have e2 : i + 1 + k - i = k + 1 := by omega
        rw [e1, e2]; simp
      · have h2 : ¬ (i ≤ j ∧ j < i + (l.length + 1)) := by omega
        rw [if_neg h1, if_neg hj]
        exact (if_neg h2).symm
omit cx in
theorem initT_rel {β : Bmap} {l : List AV} {as : List Value} (h : LRel β l as) (n : Nat) : TRel β (initT l 0 .e) (as.toArray ++ Array.replicate (n - as.toArray.size) undef) := by
  intro t
  rw [initT_get]
  have hl := h.length
  by_cases ht : t < l.length
  · have hx : l[t]? = some l[t] := List.getElem?_eq_getElem ht
    obtain ⟨y, hy, hr⟩ := h.get hx
    simp only [Nat.zero_le, true_and, Nat.zero_add, ht, if_true, Nat.sub_zero, hx]
    have : (as.toArray ++ Array.replicate (n - as.toArray.size) undef).getD t undef = y := by
      simp only [Array.getD_eq_getD_getElem?]
      rw [Array.getElem?_append_left (by simp; omega)]
      simp [hy]
    rw [this]; exact hr
  · simp only [Nat.zero_le, true_and, Nat.zero_add, ht, if_false, Tr.get_e]
    have : (as.toArray ++ Array.replicate (n - as.toArray.size) undef).getD t undef = undef := by
      simp only [Array.getD_eq_getD_getElem?]
      rw [Array.getElem?_append_right (by simp; omega)]
      simp only [Array.getElem?_replicate]
      split <;> rfl
    rw [this]; exact undef_rel β
omit cx in
theorem callFunc_enter {g : Nat} {f : Func} (hf : P.funcs[g]? = some f) {c : Code} (hb : f.body = some c) (hn : (f.name == "runtime.NumGoroutine") = false) (args : Array Value) (w : World) : (callFunc g args).run P w = .ok (.enter g args) w := by
  simp only [callFunc, Sem.run_bind, run_program, Result.andThen_ok, hf, hn, Bool.false_eq_true, if_false, hb, Option.isNone_some, Sem.run_pure]
theorem enter_sound (hT : TTok P tt) {R : ACode → Fr → St → Option (AOut × Fr × St)} (hR : SRun P G tt R) {g : Nat} {f : Func} (hf : P.funcs[g]? = some f) {fn : AFn} (hc : compFn G tt f = some fn) {args : List AV} {st st' : St} {v : AV}
    (h : enterA R fn args st = some (v, st')) {F : Fence} {m : Nat} (hF1 : ∀ f, F.fn f) (hF2 : F.depth = none) {β : Bmap} {w : World} {as : List Value} (hG : GRel G β) (hr : Rel β st w) (has : LRel β args as) :
    CallsIn F m P g as.toArray w (RV fun v' w' => ∃ β', VRel β' v v' ∧ Post β st w β' st' w') := by
  unfold compFn at hc
  split at hc
  case h_2 => cases hc
  rename_i code hb
  split at hc
  case h_2 => cases hc
  rename_i c res h1 h2
  cases hc
  unfold enterA at h
  have key : ∀ out fr' s1, R c { tm := initT args 0 .e, df := [] } st = some (out, fr', s1) → (out = .normal ∨ out = .ret) → leaveA res fr'.tm fr'.df s1 = some (v, st') → CallsIn F m P g as.toArray w (RV fun v' w' => ∃ β', VRel β' v v' ∧ Post β st w β' st' w') := by
    intro out fr' s1 hrun hout hl
    have hfr : FRl β f.ntmps { tm := initT args 0 .e, df := [] } { tmps := as.toArray ++ Array.replicate (f.ntmps - as.toArray.size) undef, defers := [] } :=
      ⟨initT_rel has _, by simp; omega, rfl⟩
    have hw := hR _ _ _ _ h1 _ _ _ _ _ hrun F.plain m β w _ ⟨hF1, hF2, by simp⟩ hG hr hfr
    have hcall : CallsIn F.plain m P g as.toArray w (RV fun v' w' => ∃ β', VRel β' v v' ∧ Post β st w β' st' w') := by
      refine callsIn_of_wp_marks hf hb (hF1 g) (wpIn_mono hw fun e a w' hq => ?_)
      obtain ⟨he, β', hp, hfr'⟩ := hq
      have := leave_sound (F := F.plain) (m := m) hT h2 hl hfr'.df hfr'.tm hp
      rcases hout with rfl | rfl <;> cases e <;> first | exact he.elim | exact this
    exact hcall
  split at h
  · rename_i fr' s1 hrun; exact key _ _ _ hrun (.inl rfl) h
  · rename_i fr' s1 hrun; exact key _ _ _ hrun (.inr rfl) h
  · cases h
end
end Go.RI
namespace Go.RI
variable [cx : Cx]
def CxOk (G : Nat) (tt : TT) : Prop := ∀ N a c, Cx.rel N a c ↔ compCode G tt N true c = some a
section
variable {G : Nat} {tt : TT} {P : Program}
omit cx in
theorem setParams_rel {β : Bmap} {n : Nat} : ∀ {ps : List Nat} {vs : List AV} {as : List Value} {tm tm' : Tr AV} {tmps : Array Value}, setParams n ps vs tm = some tm' → LRel β vs as → TRel β tm tmps → n ≤ tmps.size →
    ps.length = as.length ∧ TRel β tm' ((ps.zip as).foldl (fun (tmps : Array Value) (x : Nat × Value) => tmps.setIfInBounds x.1 x.2) tmps) ∧ n ≤ ((ps.zip as).foldl (fun (tmps : Array Value) (x : Nat × Value) => tmps.setIfInBounds x.1 x.2) tmps).size
  | [], [], as, tm, tm', tmps, h, hl, ht, hn => by
    simp only [LRel] at hl; subst hl
    simp only [setParams, Option.some.injEq] at h; subst h
    exact ⟨rfl, ht, hn⟩
  | [], _ :: _, as, tm, tm', tmps, h, hl, ht, hn => by simp [setParams] at h
  | _ :: _, [], as, tm, tm', tmps, h, hl, ht, hn => by simp [setParams] at h
  | p :: ps, v :: vs, as, tm, tm', tmps, h, hl, ht, hn => by
    simp only [LRel] at hl; obtain ⟨y, ys, rfl, h1, h2⟩ := hl
    simp only [setParams] at h
    split at h
    · rename_i hp
      have hp : p < tmps.size := Nat.lt_of_lt_of_le (Nat.le_of_ble_eq_true hp) hn
      have ht' : TRel β (tm.set v p) (tmps.setIfInBounds p y) := by
        intro j
        rw [Tr.get_set]
        by_cases hj : j = p
        · subst hj; rw [if_pos rfl]; simp [hp]; exact h1
        · rw [if_neg hj]
          have : (tmps.setIfInBounds p y).getD j undef = tmps.getD j undef := by
            simp only [Array.getD_eq_getD_getElem?]
            rw [Array.getElem?_setIfInBounds_ne (Ne.symm hj)]
          rw [this]; exact ht j
      obtain ⟨g1, g2, g3⟩ := setParams_rel h h2 ht' (by simpa using hn)
      exact ⟨by simp [g1], by simpa using g2, by simpa using g3⟩
    · cases h
theorem round_sound (hcx : CxOk G tt) {R : ACode → Fr → St → Option (AOut × Fr × St)} (hR : SRun P G tt R) {l : Nat} {args : List AV} {st st' : St} {v : AV} (h : roundA R l args st = some (v, st'))
    {F : Fence} {m : Nat} (hF1 : ∀ f, F.fn f) (hF2 : F.depth = none) {β : Bmap} {w : World} {as : List Value} (hG : GRel G β) (hr : Rel β st w) {im : Img} (hb : β l = some im) (has : LRel β args as) :
    ∃ f tmps as' bd, (Instr.yield im.blk as.toArray).run P w = .ok (.round im.blk f tmps as' bd) w ∧ RoundIn F m P im.blk f tmps as' bd w (RV fun v' w' => ∃ β', VRel β' v v' ∧ Post β st w β' st' w') := by
  unfold roundA at h
  split at h
  case h_2 => cases h
  rename_i pe n tm ps ac bd df hg
  obtain ⟨h0, r, hw, hs, hpend, hn, htm, hps, hrel1, hrel2, jm, hj, hdf⟩ := hr.obj _ _ _ hg hb
  split at h
  case h_2 => cases h
  rename_i tm' hset
  obtain ⟨g1, g2, g3⟩ := setParams_rel hset has htm hn
  have hfold : (r.params.zip as.toArray).foldl (fun (tmps : Array Value) (x : Tmp × Value) => tmps.setIfInBounds x.1 x.2) r.tmps = (ps.zip as).foldl (fun (tmps : Array Value) (x : Nat × Value) => tmps.setIfInBounds x.1 x.2) r.tmps := by
    rw [hps, ← Array.foldl_toList]; simp
  refine ⟨r.fn, _, r.assign, r.body, run_yield hw (by rw [hps]; simp [g1]), roundIn_of_wpIn (hF1 r.fn) ?_⟩
  have hfold' : (r.params.zip as.toArray).foldl (fun tmps (t, a) => tmps.setIfInBounds t a) r.tmps = (ps.zip as).foldl (fun (tmps : Array Value) (x : Nat × Value) => tmps.setIfInBounds x.1 x.2) r.tmps := hfold
  rw [hfold']
  have hFo : FenceOk (F.inRound im.blk) true := ⟨hF1, hF2, fun _ => rfl⟩
  split at h
  case h_2 => cases h
  rename_i fr1 st1 hrun1
  refine wpIn_mono (hR _ _ _ _ ((hcx _ _ _).1 hrel1) _ _ _ _ _ hrun1 (F.inRound im.blk) m β w _ hFo hG hr ⟨g2, g3, rfl⟩) fun e a1 w1 hq => ?_
  obtain ⟨he, β1, hp1, hfr1⟩ := hq
  cases e with
  | exit _ => exact he.elim
  | goto _ => exact he.elim
  | ret => exact he.elim
  | panic _ => exact he.elim
  | outgrown => exact he.elim
  | normal =>
  split at h
  case h_2 => cases h
  rename_i pe1 n1 tm1 ps1 ac1 bd1 df1 hg1
  have hb1 := hp1.ext _ _ hb
  obtain ⟨k0, r1, kw, ks, kpend, kn, ktm, kps, krel1, krel2, km, kj, kdf⟩ := hp1.rel.obj _ _ _ hg1 hb1
  have hpb := hp1.rel.putObj (co := .loop { r1 with state := .busy }) hb1 hg1 rfl (by simp) (o' := .loop .busy pe1 n1 tm1 ps1 ac1 bd1 df1) rfl
    (fun w' hw' => ⟨k0, { r1 with state := .busy }, hw', rfl, kpend, kn, ktm, kps, krel1, krel2, km, kj, kdf⟩)
  have hp2 := hp1.trans hpb
  refine ⟨w1.putObj im.blk (.loop { r1 with state := .busy }), run_beginRound kw ks, ?_⟩
  split at h
  case h_2 => cases h
  rename_i out fr2 st2 hrun2
  refine wpIn_mono (hR _ _ _ _ ((hcx _ _ _).1 hrel2) _ _ _ _ _ hrun2 (F.inRound im.blk) m β1 _ a1 hFo (hG.mono hp1.ext) hpb.rel hfr1) fun e a2 w3 hq => ?_
  obtain ⟨he, β2, hp3, hfr2⟩ := hq
  have hp4 := hp2.trans hp3
  have hb2 := hp4.ext _ _ hb
  split at h
  case h_2 => cases h
  rename_i pe2 n2 tm2 ps2 ac2 bd2 df2 hg2
  obtain ⟨q0, r2, qw, qs, qpend, qn, qtm, qps, qrel1, qrel2, qm, qj, qdf⟩ := hp3.rel.obj _ _ _ hg2 hb2
  have fin : ∀ (s : LoopState) (pn : Option AOut) (pc : Option Code), outCode pn pc → Post β st w β2 (st2.putObj l (.loop s pn n2 tm2 ps2 ac2 bd2 df2)) (w3.putObj im.blk (.loop { r2 with state := s, pending := pc })) := by
    intro s pn pc hpc
    exact hp4.trans (hp3.rel.putObj (co := .loop { r2 with state := s, pending := pc }) hb2 hg2 rfl (by simp) (o' := .loop s pn n2 tm2 ps2 ac2 bd2 df2) rfl
      (fun w' hw' => ⟨q0, { r2 with state := s, pending := pc }, hw', rfl, hpc, qn, qtm, qps, qrel1, qrel2, qm, qj, qdf⟩))
  cases out with
  | normal =>
    cases e <;> first | exact he.elim | skip
    cases h
    exact ⟨_, _, run_endRound none qw, β2, rfl, fin _ none none rfl⟩
  | exit i =>
    cases e <;> first | exact he.elim | skip
    rename_i i'
    have he : i = i' := he
    subst he
    cases h
    exact ⟨_, _, run_endRound (some (.exit i)) qw, β2, rfl, fin _ (some (.exit i)) (some (.exit i)) rfl⟩
  | ret =>
    cases e <;> first | exact he.elim | skip
    cases h
    exact ⟨_, _, run_endRound (some .ret) qw, β2, rfl, fin _ (some .ret) (some .ret) rfl⟩
theorem callBy_sound (hT : TTok P tt) (hcx : CxOk G tt) {fs : Fns} (hfs : FnsOk P G tt fs) {orc : Oracle} (horc : OrcOk P G orc) {R : ACode → Fr → St → Option (AOut × Fr × St)} (hR : SRun P G tt R) : SCall P G (callBy fs orc R) := by
  intro f args st v st' h F m β w fv as hF1 hF2 hG hr hf has
  unfold callBy at h
  split at h
  · rename_i g first cap
    obtain ⟨cf, cc, h1, h2, rfl⟩ := hf
    refine ⟨{ target := .fn (.func g) cc.toArray, args := cf.toArray ++ as.toArray }, rfl, ?_⟩
    have hargs : LRel β (first ++ args ++ cap) (cf ++ as ++ cc) := (h1.append has).append h2
    have hinv : invoke (.fn (.func g) cc.toArray) (cf.toArray ++ as.toArray) = callFunc g (cf ++ as ++ cc).toArray := by
      simp [invoke]
    simp only [hinv]
    split at h
    · rename_i v0 ho
      cases h
      rcases horc _ _ _ _ _ ho F m β w _ hF1 hF2 hG hr hargs with ⟨g', as', q1, q2⟩ | ⟨v', w', q1, q2⟩ | ⟨l, f, tmps, as', bd, q1, q2⟩
      · exact .inl ⟨g', as', q1, q2⟩
      · exact .inr (.inr ⟨v', w', q1, q2⟩)
      · exact .inr (.inl ⟨l, f, tmps, as', bd, q1, q2⟩)
    · split at h
      · rename_i fn hfn
        obtain ⟨f, q1, q2, q3⟩ := hfs _ _ hfn
        have hbody : ∃ c, f.body = some c := by
          unfold compFn at q2
          split at q2
          · rename_i c hc; exact ⟨c, hc⟩
          · cases q2
        obtain ⟨c, hbody⟩ := hbody
        exact .inl ⟨_, _, callFunc_enter q1 hbody q3 _ w, enter_sound hT hR q1 q2 h hF1 hF2 hG hr hargs⟩
      · cases h
  · rename_i l
    obtain ⟨im, hb, rfl⟩ := hf
    obtain ⟨f, tmps, as', bd, q1, q2⟩ := round_sound hcx hR h (F := F) (m := m) hF1 hF2 hG hr hb has
    refine ⟨{ target := .fn (.yield im.blk) #[], args := #[] ++ as.toArray }, rfl, .inr (.inl ⟨im.blk, f, tmps, as', bd, ?_, q2⟩)⟩
    simpa [invoke] using q1
  · cases h
end
end Go.RI
