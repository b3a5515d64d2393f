/- A compiler from bodies of Go functions into a small language of values and blocks, and the proof that a run of the compiled text is a run of the program. Conditions: none. -/
import Derived.Test.YtaplnebenndkgaaGreatDoorT11
set_option linter.all false
namespace Go.RI
def fsOf (tb : Tr Ent) : Fns := fun g => match tb.get g with
  | some (.code f) => some f
  | _ => none
def orcOf (tb : Tr Ent) : Oracle := fun g as st => match tb.get g with
  | some (.orc f) => f as st
  | _ => none
structure CkOk (fs : Fns) (orc : Oracle) (ck : CK) : Prop where
  call : ∀ f as st k x, ck f as st k = some x → ∃ m v st', cb fs orc m f as st = some (v, st') ∧ k v st' = some x
  range : ∀ g first cap l st k x, ck (.func (.func g) first cap) [.yld l] st k = some x → ∃ m fn v st', fs g = some fn ∧ enterA (run fs orc m) fn (first ++ [.yld l] ++ cap) st = some (v, st') ∧ k v st' = some x
theorem clashF_eq (a b : Eff) : clashF a b = clash a b := by
  have hm : ∀ (n : Nat) (l : List Nat), memF n l = memN n l := by
    intro n l
    induction l with
    | nil => rfl
    | cons m l ih =>
      show @Bool.rec (fun _ => Bool) (memF n l) true (Nat.beq n m) = (match Nat.beq n m with | true => true | false => memN n l)
      rw [ih]; cases Nat.beq n m <;> rfl
  have hmt : ∀ (r l : List Nat), meetsF r l = meets l r := by
    intro r l
    induction l with
    | nil => rfl
    | cons y l ih =>
      show @Bool.rec (fun _ => Bool) (meetsF r l) true (memF y r) = (match memN y r with | true => true | false => meets l r)
      rw [ih, hm]; cases memN y r <;> rfl
  have ha : ∀ (lo hi : Nat) (l : List Nat), anyInF lo hi l = anyIn lo hi l := by
    intro lo hi l
    induction l with
    | nil => rfl
    | cons y l ih =>
      show @Bool.rec (fun _ => Bool) (anyInF lo hi l) (@Bool.rec (fun _ => Bool) (anyInF lo hi l) true (Nat.blt y hi)) (Nat.ble lo y) = ((Nat.ble lo y && Nat.blt y hi) || anyIn lo hi l)
      rw [ih]; cases Nat.ble lo y <;> cases Nat.blt y hi <;> rfl
  obtain ⟨ca, ra, wa, la, ha'⟩ := a
  obtain ⟨cb, rb, wb, lb, hb⟩ := b
  cases ca <;> cases cb <;> first | rfl | exact hmt _ _ | exact ha _ _ _
theorem clashesF_eq (e : Eff) (u : List Nat) : ∀ es : List (Nat × Eff), clashesF e u es = clashes e es u
  | [] => rfl
  | (i, f) :: es => by
    have hm : ∀ (n : Nat) (l : List Nat), memF n l = memN n l := by
      intro n l
      induction l with
      | nil => rfl
      | cons m l ih =>
        show @Bool.rec (fun _ => Bool) (memF n l) true (Nat.beq n m) = (match Nat.beq n m with | true => true | false => memN n l)
        rw [ih]; cases Nat.beq n m <;> rfl
    show @Bool.rec (fun _ => Bool) (clashesF e u es) (@Bool.rec (fun _ => Bool) (clashesF e u es) true (clashF e f)) (memF i u) = (match memN i u with | true => (match clash e f with | true => true | false => clashes e es u) | false => clashes e es u)
    rw [clashesF_eq e u es, hm, clashF_eq]
    cases memN i u with
    | false => rfl
    | true => cases clash e f <;> rfl
theorem readsC_eq (op : AOp) (tm : Tr AV) : (readsC op).out tm = readsOf op tm := by
  have hb : ∀ v : AV, blkF v = blockOf v := fun v => by cases v <;> rfl
  cases op
  case load1 a =>
    have e : readsC (.load1 a) = w1 (rdR a) (fun g tm => blkF (g tm)) := rfl
    rw [e, w1_out, rdR_out, hb]; rfl
  case loadN n a =>
    have e : readsC (.loadN n a) = w1 (rdR a) (fun g tm => blkF (g tm)) := rfl
    rw [e, w1_out, rdR_out, hb]; rfl
  all_goals rfl
theorem effC_eq (o : AOper) (tm : Tr AV) (df : List Nat) (lo hi : Nat) (log : List Nat) : (effC o).out tm lo hi log = effOf o ⟨tm, df⟩ lo hi log := by
  obtain ⟨op, dst, guard⟩ := o
  cases guard with
  | none =>
    have e : effC ⟨op, dst, none⟩ = w1 (readsC op) (fun r tm lo hi log => ⟨clsOf op, r tm, log, lo, hi⟩) := rfl
    rw [e, w1_out, readsC_eq]; rfl
  | some gw =>
    obtain ⟨g, w⟩ := gw
    have e : effC ⟨op, dst, some (g, w)⟩ = w2 (readsC op) (rdT g) (fun r gg tm lo hi log => effG w ⟨clsOf op, r tm, log, lo, hi⟩ ⟨.pure, [], [], lo, hi⟩ (gg tm)) := rfl
    rw [e, w2_out, readsC_eq, rdT_out]
    unfold effOf wantedA
    simp only
    cases hq : ev tm (.tmp g) with
    | bool b => cases b <;> cases w <;> rfl
    | _ => rfl
theorem asFunc_ok {v : AV} {f : Fn → List AV → List AV → R} {g : Nat → R} {x : AV × St} (h : asFunc v f g = some x) : (∃ fn a b, v = .func fn a b ∧ f fn a b = some x) ∨ (∃ l, v = .yld l ∧ g l = some x) := by
  cases v
  case func fn a b => exact .inl ⟨_, _, _, rfl, h⟩
  case yld l => exact .inr ⟨_, rfl, h⟩
  all_goals cases h
section
variable {fs : Fns} {orc : Oracle} {ck : CK}
theorem cStep_ok (hck : CkOk fs orc ck) (rest : Wr SK) (o : AOper) (tm : Tr AV) (df : List Nat) (st : St) (k : KT) (x : AV × St) (h : (cStep rest o).out ck tm st k = some x) :
    ∃ m tm' st', stepOp (cb fs orc m) o ⟨tm, df⟩ st = some (⟨tm', df⟩, st') ∧ rest.out ck tm' st' k = some x := by
  obtain ⟨op, dst, guard⟩ := o
  have run : wantedA tm guard = true → (cOp op).out ck tm st (fun v st => rest.out ck ((wrO dst).out v tm) st k) = some x →
      ∃ m tm' st', stepOp (cb fs orc m) ⟨op, dst, guard⟩ ⟨tm, df⟩ st = some (⟨tm', df⟩, st') ∧ rest.out ck tm' st' k = some x := by
    intro hw h
    rcases cOp_ok op ck tm st _ x h with ⟨f, as, hop, h5⟩ | ⟨v, st', h1, h2⟩
    · subst hop
      obtain ⟨m, v, st', h1, h2⟩ := hck.call _ _ _ _ _ h5
      refine ⟨m, putT tm dst v, st', ?_, by rw [← wrO_out]; exact h2⟩
      simp only [stepOp, hw, h1]
    · refine ⟨0, putT tm dst v, st', ?_, by rw [← wrO_out]; exact h2⟩
      unfold stepOp
      simp only [hw]
      cases op
      case call f as => cases h1
      all_goals simp only [h1]
  have skip : wantedA tm guard = false → rest.out ck ((wrO dst).out undefA tm) st k = some x → ∃ m tm' st', stepOp (cb fs orc m) ⟨op, dst, guard⟩ ⟨tm, df⟩ st = some (⟨tm', df⟩, st') ∧ rest.out ck tm' st' k = some x := by
    intro hw h
    refine ⟨0, putT tm dst undefA, st, ?_, by rw [← wrO_out]; exact h⟩
    simp only [stepOp, hw]
  cases guard with
  | none =>
    by_cases hmv : ∃ y, op = .mv y
    · obtain ⟨y, rfl⟩ := hmv
      have e : cStep rest ⟨.mv y, dst, none⟩ = w3 (rdR y) (wrO dst) rest (fun g p r ck tm st k => r ck (p (g tm) tm) st k) := rfl
      rw [e, w3_out] at h
      rw [rdR_out] at h
      refine ⟨0, putT tm dst (ev tm y), st, rfl, by rw [← wrO_out]; exact h⟩
    · have e : cStep rest ⟨op, dst, none⟩ = w3 (cOp op) (wrO dst) rest (fun f p r ck tm st k => f ck tm st fun v st => r ck (p v tm) st k) := by
        cases op
        case mv y => exact absurd ⟨y, rfl⟩ hmv
        all_goals rfl
      rw [e, w3_out] at h
      exact run rfl h
  | some gw =>
    obtain ⟨g, w⟩ := gw
    have wn : ∀ b, ev tm (.tmp g) = .bool b → wantedA tm (some (g, w)) = (b == w) := fun b e => by simp only [wantedA, e]
    have wn' : (∀ b, ev tm (.tmp g) ≠ .bool b) → wantedA tm (some (g, w)) = false := fun e => by
      unfold wantedA
      cases hq : ev tm (.tmp g) with
      | bool b => exact absurd hq (e b)
      | _ => simp only [hq]
    cases w with
    | false =>
      have e : cStep rest ⟨op, dst, some (g, false)⟩ = w4 (cOp op) (wrO dst) (rdT g) rest (fun f p gg r ck tm st k => asBool (gg tm) (f ck tm st fun v st => r ck (p v tm) st k) (r ck (p undefA tm) st k) (r ck (p undefA tm) st k)) := rfl
      rw [e, w4_out] at h
      simp only [rdT_out] at h
      rcases asBool_ok h with ⟨hb, h⟩ | ⟨hb, h⟩ | ⟨hb, h⟩
      · exact run (by rw [wn _ hb]; rfl) h
      · exact skip (by rw [wn _ hb]; rfl) h
      · exact skip (wn' hb) h
    | true =>
      have e : cStep rest ⟨op, dst, some (g, true)⟩ = w4 (cOp op) (wrO dst) (rdT g) rest (fun f p gg r ck tm st k => asBool (gg tm) (r ck (p undefA tm) st k) (f ck tm st fun v st => r ck (p v tm) st k) (r ck (p undefA tm) st k)) := rfl
      rw [e, w4_out] at h
      simp only [rdT_out] at h
      rcases asBool_ok h with ⟨hb, h⟩ | ⟨hb, h⟩ | ⟨hb, h⟩
      · exact skip (by rw [wn _ hb]; rfl) h
      · exact run (by rw [wn _ hb]; rfl) h
      · exact skip (wn' hb) h
theorem cOps_ok (hck : CkOk fs orc ck) : ∀ (l : List AOper) (tm : Tr AV) (df : List Nat) (st : St) (k : KT) (x : AV × St), (cOps l).out ck tm st k = some x →
    ∃ m tm' st', runOps (cb fs orc m) l ⟨tm, df⟩ st = some (⟨tm', df⟩, st') ∧ k tm' st' = some x
  | [], tm, df, st, k, x, h => ⟨0, tm, st, rfl, h⟩
  | o :: l, tm, df, st, k, x, h => by
    have e : cOps (o :: l) = cStep (cOps l) o := rfl
    rw [e] at h
    obtain ⟨m1, tm1, st1, h1, h2⟩ := cStep_ok hck (cOps l) o tm df st k x h
    obtain ⟨m2, tm2, st2, h3, h4⟩ := cOps_ok hck l tm1 df st1 k x h2
    refine ⟨max m1 m2, tm2, st2, ?_, h4⟩
    simp only [runOps]
    rw [(cb_le (Nat.le_max_left m1 m2)).stepOp h1]
    exact (cb_le (Nat.le_max_right m1 m2)).runOps h3
theorem clashes_nil (e : Eff) : ∀ es : List (Nat × Eff), clashes e es [] = false
  | [] => rfl
  | (i, f) :: es => by simp only [clashes, memN]; exact clashes_nil e es
theorem allNil_cons {u : List Nat} {us : List (List Nat)} (h : allNil (u :: us) = true) : u = [] ∧ allNil us = true := by
  cases u with
  | nil => exact ⟨rfl, h⟩
  | cons a u => cases h
theorem cDraw0_ok (hck : CkOk fs orc ck) : ∀ (l : List AOper) (us : List (List Nat)) (i : Nat) (es : List (Nat × Eff)) (tm : Tr AV) (df : List Nat) (st : St) (k : KT) (x : AV × St), allNil us = true → (cDraw0 l us).out ck tm st k = some x →
    ∃ m tm' st', runDraw (cb fs orc m) l us i es ⟨tm, df⟩ st = some (⟨tm', df⟩, st') ∧ k tm' st' = some x
  | [], us, i, es, tm, df, st, k, x, _, h => ⟨0, tm, st, by cases us <;> rfl, h⟩
  | o :: l, [], i, es, tm, df, st, k, x, _, h => by cases h
  | o :: l, u :: us, i, es, tm, df, st, k, x, hn, h => by
    obtain ⟨rfl, hn'⟩ := allNil_cons hn
    have e : cDraw0 (o :: l) ([] :: us) = @Bool.rec (fun _ => Wr SK) (cStep (cDraw0 l us) o) (w2 (cStep endSK o) (cDraw0 l us) fun f r ck tm st k => stK st fun h n t l => f ck tm (St.mk h n n []) fun tm' st' => stK st' fun h' n' _ l' => r ck tm' (St.mk h' n' t (filtLt t l' ++ l)) k) (isChain (clsOf o.op)) := rfl
    rw [e] at h
    obtain ⟨hp, n, t, lg⟩ := st
    have key : ∃ m1 tm1 hp1 n1 t1 lg1, stepOp (cb fs orc m1) o ⟨tm, df⟩ ⟨hp, n, n, []⟩ = some (⟨tm1, df⟩, ⟨hp1, n1, t1, lg1⟩) ∧ (cDraw0 l us).out ck tm1 ⟨hp1, n1, t, filtLt t lg1 ++ lg⟩ k = some x := by
      cases hc : isChain (clsOf o.op) with
      | true =>
        rw [hc] at h
        replace h : (w2 (cStep endSK o) (cDraw0 l us) fun f r ck tm st k => stK st fun h n t l => f ck tm (St.mk h n n []) fun tm' st' => stK st' fun h' n' _ l' => r ck tm' (St.mk h' n' t (filtLt t l' ++ l)) k).out ck tm ⟨hp, n, t, lg⟩ k = some x := h
        rw [w2_out] at h
        obtain ⟨m1, tm1, ⟨hp1, n1, t1, lg1⟩, h1, h2⟩ := cStep_ok hck endSK o tm df ⟨hp, n, n, []⟩ _ x h
        exact ⟨m1, tm1, hp1, n1, t1, lg1, h1, h2⟩
      | false =>
        rw [hc] at h
        obtain ⟨m1, tm1, st1, h1, h2⟩ := cStep_ok hck (cDraw0 l us) o tm df ⟨hp, n, t, lg⟩ k x h
        obtain ⟨v, hv, q⟩ := stepOp_val h1 0 0 []
        obtain ⟨_, _, q2, q3⟩ := q tm (Alike.refl _ _)
        have hcls : (effOf o ⟨tm, df⟩ 0 0 []).cls ≠ .chain := by
          unfold effOf
          split
          · simp
          · intro hh
            simp only at hh
            rw [hh] at hc; cases hc
        have htm : tm1 = putT tm o.dst v := by cases hv; rfl
        subst htm
        cases hq : (effOf o ⟨tm, df⟩ 0 0 []).cls with
        | chain => exact absurd hq hcls
        | load =>
          obtain ⟨hs, q4⟩ := q2 hq
          subst hs
          exact ⟨m1, _, hp, n, n, [], q4 ⟨hp, n, n, []⟩ (fun _ _ => rfl), h2⟩
        | pure =>
          rcases q3 hq with ⟨hs, q4⟩ | ⟨ob, hs, q4⟩
          · subst hs
            exact ⟨m1, _, hp, n, n, [], q4 ⟨hp, n, n, []⟩ rfl, h2⟩
          · subst hs
            exact ⟨m1, _, _, _, n, [], q4 ⟨hp, n, n, []⟩ rfl, h2⟩
    obtain ⟨m1, tm1, hp1, n1, t1, lg1, h1, h2⟩ := key
    obtain ⟨m2, tm2, st2, h3, h4⟩ := cDraw0_ok hck l us (Nat.succ i) ((i, effOf o ⟨tm, df⟩ n n1 lg1) :: es) tm1 df _ k x hn' h2
    refine ⟨max m1 m2, tm2, st2, ?_, h4⟩
    simp only [runDraw]
    rw [(cb_le (Nat.le_max_left m1 m2)).stepOp h1]
    simp only [clashes_nil]
    exact (cb_le (Nat.le_max_right m1 m2)).runDraw h3
theorem cDraw_ok (hck : CkOk fs orc ck) : ∀ (l : List AOper) (us : List (List Nat)) (i : Nat) (es : List (Nat × Eff)) (tm : Tr AV) (df : List Nat) (st : St) (k : KT) (x : AV × St), (cDraw l us).out ck i es tm st k = some x →
    ∃ m tm' st', runDraw (cb fs orc m) l us i es ⟨tm, df⟩ st = some (⟨tm', df⟩, st') ∧ k tm' st' = some x
  | [], us, i, es, tm, df, st, k, x, h => ⟨0, tm, st, by cases us <;> rfl, h⟩
  | o :: l, [], i, es, tm, df, st, k, x, h => by cases h
  | o :: l, u :: us, i, es, tm, df, st, k, x, h => by
    have e : cDraw (o :: l) (u :: us) = w3 (cStep endSK o) (cDraw l us) (effC o) (fun f r ef ck i es tm st k => stK st fun h n t l => f ck tm (St.mk h n n []) fun tm' st' => stK st' fun h' n' _ l' =>
      @Bool.rec (fun _ => R) (r ck (Nat.succ i) ((i, ef tm n n' l') :: es) tm' (St.mk h' n' t (filtLt t l' ++ l)) k) none (@Bool.rec (fun _ => Bool) (clashesF (ef tm n n' l') u es) false (isNil u))) := rfl
    rw [e, w3_out] at h
    obtain ⟨hp, n, t, lg⟩ := st
    obtain ⟨m1, tm1, ⟨hp1, n1, t1, lg1⟩, h1, h2⟩ := cStep_ok hck endSK o tm df ⟨hp, n, n, []⟩ _ x h
    have hcl : clashes (effOf o ⟨tm, df⟩ n n1 lg1) es u = false ∧ (cDraw l us).out ck (Nat.succ i) ((i, effOf o ⟨tm, df⟩ n n1 lg1) :: es) tm1 ⟨hp1, n1, t, filtLt t lg1 ++ lg⟩ k = some x := by
      replace h2 : @Bool.rec (fun _ => R) ((cDraw l us).out ck (Nat.succ i) ((i, (effC o).out tm n n1 lg1) :: es) tm1 ⟨hp1, n1, t, filtLt t lg1 ++ lg⟩ k) none (@Bool.rec (fun _ => Bool) (clashesF ((effC o).out tm n n1 lg1) u es) false (isNil u)) = some x := h2
      rw [effC_eq o tm df, clashesF_eq] at h2
      cases u with
      | nil => exact ⟨clashes_nil _ _, h2⟩
      | cons a u =>
        replace h2 : @Bool.rec (fun _ => R) ((cDraw l us).out ck (Nat.succ i) ((i, effOf o ⟨tm, df⟩ n n1 lg1) :: es) tm1 ⟨hp1, n1, t, filtLt t lg1 ++ lg⟩ k) none (clashes (effOf o ⟨tm, df⟩ n n1 lg1) es (a :: u)) = some x := h2
        cases hq : clashes (effOf o ⟨tm, df⟩ n n1 lg1) es (a :: u) with
        | false => rw [hq] at h2; exact ⟨rfl, h2⟩
        | true => rw [hq] at h2; cases h2
    obtain ⟨m2, tm2, st2, h3, h4⟩ := cDraw_ok hck l us _ _ tm1 df _ k x hcl.2
    refine ⟨max m1 m2, tm2, st2, ?_, h4⟩
    simp only [runDraw]
    rw [(cb_le (Nat.le_max_left m1 m2)).stepOp h1]
    simp only [hcl.1]
    exact (cb_le (Nat.le_max_right m1 m2)).runDraw h3
theorem cDrawA_ok (hck : CkOk fs orc ck) (ops : List AOper) (un : List (List Nat)) (tm : Tr AV) (df : List Nat) (st : St) (k : KT) (x : AV × St) (h : (cDrawA ops un).out ck tm st k = some x) :
    ∃ m tm' st', runDraw (cb fs orc m) ops un 0 [] ⟨tm, df⟩ st = some (⟨tm', df⟩, st') ∧ k tm' st' = some x := by
  unfold cDrawA at h
  cases hn : allNil un with
  | true => rw [hn] at h; exact cDraw0_ok hck ops un 0 [] tm df st k x hn h
  | false =>
    rw [hn] at h
    replace h : (w1 (cDraw ops un) fun f ck tm st k => f ck 0 [] tm st k).out ck tm st k = some x := h
    rw [w1_out] at h
    exact cDraw_ok hck ops un 0 [] tm df st k x h
def CodeOk (fs : Fns) (orc : Oracle) (ck : CK) (c : ACode) (f : CoK) : Prop := ∀ n tm df st k x, f ck n tm df st k = some x → ∃ m o tm' df' st', run fs orc m c ⟨tm, df⟩ st = some (o, ⟨tm', df'⟩, st') ∧ k o tm' df' st' = some x
theorem outK_ok {o : AOut} {a : R} {f : Nat → R} {c : R} {x : AV × St} (h : outK o a f c = some x) : (o = .normal ∧ a = some x) ∨ (∃ i, o = .exit i ∧ f i = some x) ∨ (o = .ret ∧ c = some x) := by
  cases o with
  | normal => exact .inl ⟨rfl, h⟩
  | exit i => exact .inr (.inl ⟨i, rfl, h⟩)
  | ret => exact .inr (.inr ⟨rfl, h⟩)
theorem run_up {m m' : Nat} (h : m ≤ m') {c : ACode} {fr : Fr} {st : St} {r : AOut × Fr × St} (hr : run fs orc m c fr st = some r) : run fs orc m' c fr st = some r := run_le h _ _ _ _ hr
theorem loopK_ok {c : ACode} {f : CoK} (hf : CodeOk fs orc ck c f) : ∀ (i n : Nat) (tm : Tr AV) (df : List Nat) (st : St) (k : KO) (x : AV × St), loopK f ck n i tm df st k = some x →
    ∃ m o tm' df' st', run fs orc m (.loop c) ⟨tm, df⟩ st = some (o, ⟨tm', df'⟩, st') ∧ k o tm' df' st' = some x
  | 0, n, tm, df, st, k, x, h => by cases h
  | i + 1, n, tm, df, st, k, x, h => by
    replace h : f ck n tm df st (fun o tm df st => outK o (loopK f ck n i tm df st k) (fun i => k (.exit i) tm df st) (k .ret tm df st)) = some x := h
    obtain ⟨m1, o, tm1, df1, st1, h1, h2⟩ := hf _ _ _ _ _ _ h
    rcases outK_ok h2 with ⟨ho, h9⟩ | ⟨j, ho, h9⟩ | ⟨ho, h9⟩ <;> subst ho
    · obtain ⟨m2, o2, tm2, df2, st2, h3, h4⟩ := loopK_ok hf i n tm1 df1 st1 k x h9
      refine ⟨max m1 m2 + 1, o2, tm2, df2, st2, ?_, h4⟩
      rw [run]
      rw [run_up (Nat.le_max_left m1 m2) h1]
      exact run_up (Nat.le_max_right m1 m2) h3
    · exact ⟨m1 + 1, _, tm1, df1, st1, by rw [run, h1], h9⟩
    · exact ⟨m1 + 1, _, tm1, df1, st1, by rw [run, h1], h9⟩
theorem cCode_ok (hck : CkOk fs orc ck) : ∀ c : ACode, CodeOk fs orc ck c (cCode c).out
  | .skip => fun n tm df st k x h => ⟨1, .normal, tm, df, st, rfl, h⟩
  | .region ops => fun n tm df st k x h => by
    have e : cCode (.region ops) = w1 (cOps ops) (fun f ck _ tm df st k => f ck tm st fun tm st => k .normal tm df st) := rfl
    rw [e, w1_out] at h
    obtain ⟨m, tm', st', h1, h2⟩ := cOps_ok hck ops tm df st _ x h
    exact ⟨m + 1, .normal, tm', df, st', by rw [run, h1], h2⟩
  | .draw ops un => fun n tm df st k x h => by
    have e : cCode (.draw ops un) = w1 (cDrawA ops un) (fun f ck _ tm df st k => f ck tm st fun tm st => k .normal tm df st) := rfl
    rw [e, w1_out] at h
    obtain ⟨m, tm', st', h1, h2⟩ := cDrawA_ok hck ops un tm df st _ x h
    exact ⟨m + 1, .normal, tm', df, st', by rw [run, h1], h2⟩
  | .seq a b => fun n tm df st k x h => by
    have e : cCode (.seq a b) = w2 (cCode a) (cCode b) (fun f g ck n tm df st k => f ck n tm df st fun o tm df st => outK o (g ck n tm df st k) (fun i => k (.exit i) tm df st) (k .ret tm df st)) := rfl
    rw [e, w2_out] at h
    obtain ⟨m1, o, tm1, df1, st1, h1, h2⟩ := cCode_ok hck a _ _ _ _ _ _ h
    rcases outK_ok h2 with ⟨ho, h9⟩ | ⟨j, ho, h9⟩ | ⟨ho, h9⟩ <;> subst ho
    · obtain ⟨m2, o2, tm2, df2, st2, h3, h4⟩ := cCode_ok hck b _ _ _ _ _ _ h9
      refine ⟨max m1 m2 + 1, o2, tm2, df2, st2, ?_, h4⟩
      rw [run]
      rw [run_up (Nat.le_max_left m1 m2) h1]
      exact run_up (Nat.le_max_right m1 m2) h3
    · exact ⟨m1 + 1, _, tm1, df1, st1, by rw [run, h1], h9⟩
    · exact ⟨m1 + 1, _, tm1, df1, st1, by rw [run, h1], h9⟩
  | .cond c a b => fun n tm df st k x h => by
    have e : cCode (.cond c a b) = w3 (rdR c) (cCode a) (cCode b) (fun c f g ck n tm df st k => asBool (c tm) (g ck n tm df st k) (f ck n tm df st k) none) := rfl
    rw [e, w3_out] at h
    simp only [rdR_out] at h
    rcases asBool_ok h with ⟨hb, h⟩ | ⟨hb, h⟩ | ⟨_, h⟩
    · obtain ⟨m, o, tm', df', st', h1, h2⟩ := cCode_ok hck b _ _ _ _ _ _ h
      exact ⟨m + 1, o, tm', df', st', by rw [run]; simp only [hb]; exact h1, h2⟩
    · obtain ⟨m, o, tm', df', st', h1, h2⟩ := cCode_ok hck a _ _ _ _ _ _ h
      exact ⟨m + 1, o, tm', df', st', by rw [run]; simp only [hb]; exact h1, h2⟩
    · cases h
  | .block id b => fun n tm df st k x h => by
    have e : cCode (.block id b) = w1 (cCode b) (fun f ck n tm df st k => f ck n tm df st fun o tm df st => outK o (k .normal tm df st) (fun i => @Bool.rec (fun _ => R) (k (.exit i) tm df st) (k .normal tm df st) (Nat.beq i id)) (k .ret tm df st)) := rfl
    rw [e, w1_out] at h
    obtain ⟨m1, o, tm1, df1, st1, h1, h2⟩ := cCode_ok hck b _ _ _ _ _ _ h
    rcases outK_ok h2 with ⟨ho, h9⟩ | ⟨j, ho, h9⟩ | ⟨ho, h9⟩ <;> subst ho
    · exact ⟨m1 + 1, _, tm1, df1, st1, by rw [run, h1], h9⟩
    · cases hq : Nat.beq j id with
      | true => rw [hq] at h9; exact ⟨m1 + 1, .normal, tm1, df1, st1, by rw [run, h1]; simp only [hq], h9⟩
      | false => rw [hq] at h9; exact ⟨m1 + 1, .exit j, tm1, df1, st1, by rw [run, h1]; simp only [hq], h9⟩
    · exact ⟨m1 + 1, _, tm1, df1, st1, by rw [run, h1], h9⟩
  | .loop b => fun n tm df st k x h => by
    have e : cCode (.loop b) = w1 (cCode b) (fun f ck n tm df st k => loopK f ck n n tm df st k) := rfl
    rw [e, w1_out] at h
    exact loopK_ok (cCode_ok hck b) n n tm df st k x h
  | .scope b => fun n tm df st k x h => by
    obtain ⟨m, o, tm', df', st', h1, h2⟩ := cCode_ok hck b _ _ _ _ _ _ h
    exact ⟨m + 1, o, tm', df', st', by rw [run]; exact h1, h2⟩
  | .exit id => fun n tm df st k x h => ⟨1, .exit id, tm, df, st, rfl, h⟩
  | .ret => fun n tm df st k x h => ⟨1, .ret, tm, df, st, rfl, h⟩
  | .range N f ps as bd => fun n tm df st k x h => by
    have e : cCode (.range N f ps as bd) = w1 (rdR f) (fun g ck _ tm df st k => rangeK N (g tm) ps as bd ck tm df st k) := rfl
    rw [e, w1_out] at h
    rw [rdR_out] at h
    unfold rangeK at h
    rcases asFunc_ok h with ⟨fn, first, cap, hf, h⟩ | ⟨l, _, h⟩
    · cases fn with
      | func g =>
        obtain ⟨m, fn, v, st3, h1, h2, h3⟩ := hck.range _ _ _ _ _ _ _ h
        unfold rangeEnd at h3
        split at h3
        case h_2 => cases h3
        rename_i s pend N' tm' ps' as' bd' df' hg
        have fin : s ≠ .busy → goOnK k tm (st.next :: df) (st3.putObj (st.new (.dfr false)).next (.loop .exhausted pend N' tm' ps' as' bd' df')) pend = some x →
            ∃ m o tm' df' st', run fs orc m (.range N f ps as bd) ⟨tm, df⟩ st = some (o, ⟨tm', df'⟩, st') ∧ k o tm' df' st' = some x := by
          intro hs hk
          refine ⟨m + 1, (match pend with | none => .normal | some o => o), tm, st.next :: df, st3.putObj (st.new (.dfr false)).next (.loop .exhausted pend N' tm' ps' as' bd' df'), ?_, ?_⟩
          · rw [run]
            simp only [hf, h1, h2, hg]
            cases s with
            | busy => exact absurd rfl hs
            | _ => cases pend <;> rfl
          · cases pend with
            | none => exact hk
            | some o => exact hk
        split at h3
        · cases h3
        · rename_i hs; exact fin (fun e => hs e) h3
      | _ =>
        obtain ⟨m, v, st', h1, _⟩ := hck.call _ _ _ _ _ h
        cases h1
    · cases h
  | .bad => fun n tm df st k x h => by cases h
theorem initF_eq : ∀ (l : List AV) (i : Nat) (t : Tr AV), initF l i t = initT l i t
  | [], _, _ => rfl
  | v :: l, i, t => by
    show initF l (Nat.succ i) (setF v t i) = _
    rw [setF_eq, initF_eq l]; rfl
theorem appF_eq : ∀ a b : List AV, appF a b = a ++ b
  | [], _ => rfl
  | v :: a, b => by
    show v :: appF a b = _
    rw [appF_eq a b]; rfl
theorem appNil_eq (a b : List AV) : appNil a b = a ++ b := by
  cases b with
  | nil => simp [appNil]
  | cons v b => exact appF_eq a (v :: b)
theorem tupF_eq (l : List AV) : tupF l = tupleA l := by
  match l with
  | [] => rfl
  | [v] => rfl
  | v :: u :: l => rfl
theorem cRes_ok : ∀ (res : List ARes) (r : Tr AV → List AV), (cRes res).out = some r → ∀ tm st, resultsA tm st res = some (r tm)
  | [], r, h, tm, st => by cases h; rfl
  | .tmp t :: l, r, h, tm, st => by
    have e : cRes (.tmp t :: l) = w2 (rdT t) (cRes l) (fun g r => @Option.rec (Tr AV → List AV) (fun _ => Option (Tr AV → List AV)) none (fun r => some fun tm => g tm :: r tm) r) := rfl
    rw [e, w2_out] at h
    cases hq : (cRes l).out with
    | none => rw [hq] at h; cases h
    | some r' =>
      rw [hq] at h; cases h
      simp only [resultsA, cRes_ok l r' hq tm st, rdT_out]
  | .cell t n :: l, r, h, tm, st => by cases h
theorem leaveK_ok {res : List ARes} {tm : Tr AV} {df : List Nat} {st : St} {k : KV} {x : AV × St} (h : leaveK res tm df st k = some x) : ∃ v st', leaveA res tm df st = some (v, st') ∧ k v st' = some x := by
  cases df with
  | cons b l => exact optK_ok h
  | nil =>
    replace h : @Wr.rec _ (fun _ => R) (@Option.rec (Tr AV → List AV) (fun _ => R) (optK (leaveA res tm [] st) k) (fun r => k (tupF (r tm)) st)) (cRes res) = some x := h
    have p := cRes_ok res
    cases hw : cRes res with
    | mk o =>
      rw [hw] at h p
      cases o with
      | none => exact optK_ok h
      | some r =>
        have := p r rfl tm st
        refine ⟨tupleA (r tm), st, ?_, by rw [← tupF_eq]; exact h⟩
        simp only [leaveA, this]
theorem enterK_ok (hck : CkOk fs orc ck) {fn : AFn} {n : Nat} {as : List AV} {st : St} {k : KV} {x : AV × St} (h : enterK fn ck n as st k = some x) : ∃ m v st', enterA (run fs orc m) fn as st = some (v, st') ∧ k v st' = some x := by
  obtain ⟨nt, body, res⟩ := fn
  replace h : @Wr.rec _ (fun _ => R) (fun f => f ck n (initF as 0 .e) [] st fun o tm df st => outK o (leaveK res tm df st k) (fun _ => none) (leaveK res tm df st k)) (cCode body) = some x := h
  have p := cCode_ok hck body
  cases hw : cCode body with
  | mk f =>
    rw [hw] at h p
    obtain ⟨m, o, tm', df', st', h1, h2⟩ := p _ _ _ _ _ _ h
    rw [initF_eq] at h1
    rcases outK_ok h2 with ⟨ho, h9⟩ | ⟨j, ho, h9⟩ | ⟨ho, h9⟩ <;> subst ho
    · obtain ⟨v, st2, h3, h4⟩ := leaveK_ok h9
      exact ⟨m, v, st2, by simp only [enterA, h1]; exact h3, h4⟩
    · cases h9
    · obtain ⟨v, st2, h3, h4⟩ := leaveK_ok h9
      exact ⟨m, v, st2, by simp only [enterA, h1]; exact h3, h4⟩
end
section
variable {fs : Fns} {orc : Oracle} {ck : CK}
theorem roundK_ok (hck : CkOk fs orc ck) {n l : Nat} {args : List AV} {st : St} {k : KV} {x : AV × St} (h : roundK ck n l args st k = some x) : ∃ m v st', roundA (run fs orc m) l args st = some (v, st') ∧ k v st' = some x := by
  unfold roundK at h
  split at h
  case h_2 => cases h
  rename_i e1
  split at h
  case h_2 => cases h
  rename_i tm' e2
  obtain ⟨m1, o, tm1, df1, st1, h1, h2⟩ := cCode_ok hck _ _ _ _ _ _ _ h
  rcases outK_ok h2 with ⟨ho, h3⟩ | ⟨j, ho, h3⟩ | ⟨ho, h3⟩ <;> subst ho
  · unfold roundMid at h3
    split at h3
    case h_2 => cases h3
    rename_i e3
    obtain ⟨m2, out, tm2, df2, st2, h4, h5⟩ := cCode_ok hck _ _ _ _ _ _ _ h3
    unfold roundEnd at h5
    split at h5
    case h_2 => cases h5
    rename_i pd n2 tm2' ps2 as2 bd2 df2 e4
    cases out with
    | normal =>
      refine ⟨max m1 m2, _, _, ?_, h5⟩
      unfold roundA
      rw [e1]; simp only
      rw [e2]; simp only
      rw [run_up (Nat.le_max_left m1 m2) h1]; simp only
      rw [e3]; simp only
      rw [run_up (Nat.le_max_right m1 m2) h4]; simp only
      rw [e4]
    | exit i =>
      refine ⟨max m1 m2, _, _, ?_, h5⟩
      unfold roundA
      rw [e1]; simp only
      rw [e2]; simp only
      rw [run_up (Nat.le_max_left m1 m2) h1]; simp only
      rw [e3]; simp only
      rw [run_up (Nat.le_max_right m1 m2) h4]; simp only
      rw [e4]
    | ret =>
      refine ⟨max m1 m2, _, _, ?_, h5⟩
      unfold roundA
      rw [e1]; simp only
      rw [e2]; simp only
      rw [run_up (Nat.le_max_left m1 m2) h1]; simp only
      rw [e3]; simp only
      rw [run_up (Nat.le_max_right m1 m2) h4]; simp only
      rw [e4]
  · cases h3
  · cases h3
end
theorem callK_ok (tb : Tr Ent) : ∀ n, CkOk (fsOf tb) (orcOf tb) (callK tb n)
  | 0 => ⟨fun f as st k x h => (by cases h), fun g first cap l st k x h => (by cases h)⟩
  | n + 1 => by
    have ih := callK_ok tb n
    have main : ∀ g first cap as st k x, callK tb (n + 1) (.func (.func g) first cap) as st k = some x →
        (∃ fn m v st', tb.get g = some (.code fn) ∧ enterA (run (fsOf tb) (orcOf tb) m) fn (first ++ as ++ cap) st = some (v, st') ∧ k v st' = some x) ∨
        (∃ o v st', tb.get g = some (.orc o) ∧ isYld as = false ∧ o (first ++ as ++ cap) st = some (v, st') ∧ k v st' = some x) := by
      intro g first cap as st k x h
      replace h : @Option.rec Ent (fun _ => R) none (@Ent.rec (fun _ => R) (fun fn => enterK fn (callK tb n) n (appF first (appNil as cap)) st k) (fun o => @Bool.rec (fun _ => R) (optK (o (appF first (appNil as cap)) st) k) none (isYld as))) (getF tb g) = some x := h
      rw [getF_eq, appF_eq, appNil_eq, ← List.append_assoc] at h
      cases e : tb.get g with
      | none => rw [e] at h; cases h
      | some en =>
        rw [e] at h
        cases en with
        | code fn =>
          obtain ⟨m, v, st', h1, h2⟩ := enterK_ok ih (k := k) h
          exact .inl ⟨fn, m, v, st', rfl, h1, h2⟩
        | orc o =>
          replace h : @Bool.rec (fun _ => R) (optK (o (first ++ as ++ cap) st) k) none (isYld as) = some x := h
          cases hy : isYld as with
          | true => rw [hy] at h; cases h
          | false =>
            rw [hy] at h
            obtain ⟨v, st', h1, h2⟩ := optK_ok (k := k) h
            exact .inr ⟨o, v, st', rfl, rfl, h1, h2⟩
    refine ⟨fun f as st k x h => ?_, fun g first cap l st k x h => ?_⟩
    · have h0 := h
      replace h : asFunc f (fun fn first cap => @Fn.casesOn (fun _ => R) fn
        (fun g => @Option.rec Ent (fun _ => R) none (@Ent.rec (fun _ => R) (fun fn => enterK fn (callK tb n) n (appF first (appNil as cap)) st k) (fun o => @Bool.rec (fun _ => R) (optK (o (appF first (appNil as cap)) st) k) none (isYld as))) (getF tb g)) (fun _ => none) (fun _ _ => none) (fun _ _ _ _ => none) (fun _ => none)) (fun l => roundK (callK tb n) n l as st k) = some x := h
      rcases asFunc_ok h with ⟨fn, first, cap, hf, h⟩ | ⟨l, hf, h⟩ <;> subst hf
      · cases fn with
        | func g =>
          rcases main _ _ _ _ _ _ _ h0 with ⟨fn, m, v, st', e, h1, h2⟩ | ⟨o, v, st', e, _, h1, h2⟩
          · exact ⟨m, v, st', by simp only [cb, callBy, orcOf, fsOf, e]; exact h1, h2⟩
          · exact ⟨0, v, st', by simp only [cb, callBy, orcOf, e, h1], h2⟩
        | _ => cases h
      · obtain ⟨m, v, st', h1, h2⟩ := roundK_ok ih h
        exact ⟨m, v, st', h1, h2⟩
    · rcases main _ _ _ _ _ _ _ h with ⟨fn, m, v, st', e, h1, h2⟩ | ⟨o, v, st', e, hy, h1, h2⟩
      · exact ⟨m, fn, v, st', by simp only [fsOf, e], h1, h2⟩
      · cases hy
end Go.RI
namespace Go.RI
@[reducible] def cxOf (G : Nat) (tt : TT) : Cx := ⟨fun N a c => compCode G tt N true c = some a⟩
theorem cxOf_ok (G : Nat) (tt : TT) : @CxOk (cxOf G tt) G tt := fun _ _ _ => Iff.rfl
section
variable [cx : Cx] {P : Program} {G : Nat} {tt : TT}
theorem cb_sound (hT : TTok P tt) (hcx : CxOk G tt) (hmix : P.follows .mixedOrders = true) {fs : Fns} (hfs : FnsOk P G tt fs) {orc : Oracle} (horc : OrcOk P G orc) (hot : OrcTame orc) (n : Nat) : SCall P G (cb fs orc n) :=
  callBy_sound hT hcx hfs horc (run_sound hT hcx hfs horc (fun n hcf => sdraw hT hmix hcf (Tame.callBy hot (Tame.run hot n))) n).1
theorem fast_sound (hT : TTok P tt) (hcx : CxOk G tt) (hmix : P.follows .mixedOrders = true) {tb : Tr Ent} (hfs : FnsOk P G tt (fsOf tb)) (horc : OrcOk P G (orcOf tb)) (hot : OrcTame (orcOf tb))
    {n : Nat} {f : AV} {args : List AV} {st st' : St} {v : AV} (h : callK tb n f args st (fun v st => some (v, st)) = some (v, st')) {F : Fence} {m : Nat} {β : Bmap} {w : World} {fv : Value} {as : List Value}
    (hF1 : ∀ f, F.fn f) (hF2 : F.depth = none) (hG : GRel G β) (hr : Rel β st w) (hf : VRel β f fv) (has : LRel β args as) :
    CallsFor P F m fv as.toArray w fun v' w' => ∃ β', VRel β' v v' ∧ Post β st w β' st' w' := by
  obtain ⟨k, v1, st1, h1, h2⟩ := (callK_ok tb n).call _ _ _ _ _ h
  cases h2
  exact cb_sound hT hcx hmix hfs horc hot k _ _ _ _ _ h1 F m β w fv as hF1 hF2 hG hr hf has
theorem Rel.adopt {β : Bmap} {st : St} {w w1 : World} (h : Rel β st w) (o : AObj) (im : Img) (hb : w.heap.size ≤ im.blk) (hb1 : im.blk < w1.heap.size) (hw : ∀ k, k < w.heap.size → w1.heap[k]? = w.heap[k]?)
    (hs : w.heap.size ≤ w1.heap.size) (hos : w1.os = w.os) (htp : w1.tape = w.tape) (hot : w1.output = w.output)
    (ho : ORel (β.add st.next im) w1 o im) : Post β st w (β.add st.next im) (st.new o) w1 where
  ext := Bmap.ext_add im h.none_next
  old := fun b hb => by unfold Bmap.add; rw [if_neg (by omega)]
  rel := by
    have hext := Bmap.ext_add im h.none_next
    constructor
    · intro b o' jm hg hi
      by_cases e : b = st.next
      · subst e
        simp only [St.new, Tr.get_set_same, Option.some.injEq] at hg
        rw [Bmap.add_same] at hi; cases hi; subst hg; exact ho
      · simp only [St.new, Tr.get_set_ne _ _ e] at hg
        simp only [Bmap.add, if_neg e] at hi
        exact (h.obj b o' jm hg hi).mono hext (hw _ (h.lt _ _ hi).2)
    · intro b jm hi
      by_cases e : b = st.next
      · subst e; rw [Bmap.add_same] at hi; cases hi; exact ⟨Nat.lt_succ_self _, hb1⟩
      · simp only [Bmap.add, if_neg e] at hi
        have := h.lt _ _ hi
        exact ⟨Nat.lt_succ_of_lt this.1, Nat.lt_of_lt_of_le this.2 hs⟩
    · intro b1 b2 o1 o2 im1 im2 hne g1 g2 i1 i2 hblk d1 d2
      by_cases e1 : b1 = st.next
      · subst e1
        rw [Bmap.add_same] at i1; cases i1
        simp only [Bmap.add, if_neg (Ne.symm hne)] at i2
        have := (h.lt _ _ i2).2; omega
      · by_cases e2 : b2 = st.next
        · subst e2
          rw [Bmap.add_same] at i2; cases i2
          simp only [Bmap.add, if_neg e1] at i1
          have := (h.lt _ _ i1).2; omega
        · simp only [Bmap.add, if_neg e1, if_neg e2] at i1 i2
          simp only [St.new, Tr.get_set_ne _ _ e1, Tr.get_set_ne _ _ e2] at g1 g2
          exact h.sep b1 b2 o1 o2 im1 im2 hne g1 g2 i1 i2 hblk d1 d2
    · exact Nat.le_succ_of_le h.thr_le
  next := Nat.le_succ _
  thr := rfl
  log := fun _ h => h
  frame := ⟨hos, htp, hot, hs, fun k hk _ => hw k hk⟩
  stays := Stays.new _ _
  hold := fun b jm hge hi hs' => by
    by_cases e : b = st.next
    · subst e; rw [Bmap.add_same] at hi; cases hi; omega
    · simp only [Bmap.add, if_neg e] at hi
      exact absurd (h.lt _ _ hi).1 (Nat.not_lt.2 hge)
theorem Post.quiet {β0 β0' : Bmap} {st0 st0' : St} {w w' : World} (h0 : Rel β0 st0 w) (hp : Post β0 st0 w β0' st0' w') (hthr : st0.thr = st0.next) (hlog : st0'.log = []) :
    (∀ k, k < w.heap.size → w'.heap[k]? = w.heap[k]?) ∧ ∀ b im, st0.next ≤ b → β0' b = some im → w.heap.size ≤ im.blk ∧ im.blk < w'.heap.size := by
  have fresh : ∀ b im, st0.next ≤ b → β0' b = some im → w.heap.size ≤ im.blk := by
    intro b im hb hi
    rcases Nat.lt_or_ge im.blk w.heap.size with hs | hs
    · obtain ⟨b0, im0, q1, q2, q3, q4⟩ := hp.hold b im hb hi hs
      have := (h0.lt _ _ q1).1
      rcases q4 with q | q
      · rw [hlog] at q; cases q
      · rw [hthr] at q; omega
    · exact hs
  refine ⟨fun k hk => hp.frame.blk k hk fun b im hb e => ?_, fun b im hb hi => ⟨fresh b im hb hi, (hp.rel.lt b im hi).2⟩⟩
  rcases Nat.lt_or_ge b st0.next with hl | hl
  · exact ⟨by rw [hthr]; exact hl, by rw [hlog]; simp⟩
  · have := fresh b im hl hb; omega
end
end Go.RI
namespace Go.RI
mutual
def pureV : AV → Bool
  | .bool _ => true
  | .int _ _ => true
  | .str _ => true
  | .nilp => true
  | .nils => true
  | .nilm => true
  | .nilf => true
  | .nili => true
  | .func _ a b => pureL a && pureL b
  | .iface _ v => pureV v
  | .agg l => pureL l
  | .tuple l => pureL l
  | .ptr _ _ => false
  | .slice .. => false
  | .map _ => false
  | .yld _ => false
def pureL : List AV → Bool
  | [] => true
  | v :: l => pureV v && pureL l
end
mutual
theorem VRel.pure {β β' : Bmap} : ∀ {a : AV} {v : Value}, pureV a = true → VRel β a v → VRel β' a v
  | .bool _, _, _, hv => hv
  | .int _ _, _, _, hv => hv
  | .str _, _, _, hv => hv
  | .nilp, _, _, hv => hv
  | .nils, _, _, hv => hv
  | .nilm, _, _, hv => hv
  | .nilf, _, _, hv => hv
  | .nili, _, _, hv => hv
  | .func _ _ _, _, hp, hv => by
    simp only [pureV, Bool.and_eq_true] at hp
    simp only [VRel] at *; obtain ⟨f, c, hf, hc, e⟩ := hv; exact ⟨f, c, LRel.pure hp.1 hf, LRel.pure hp.2 hc, e⟩
  | .iface _ _, _, hp, hv => by
    simp only [pureV] at hp
    simp only [VRel] at *; obtain ⟨y, hy, e⟩ := hv; exact ⟨y, VRel.pure hp hy, e⟩
  | .agg l, _, hp, hv => by
    simp only [pureV] at hp
    simp only [VRel] at *; obtain ⟨c, hc, e⟩ := hv; exact ⟨c, LRel.pure hp hc, e⟩
  | .tuple l, _, hp, hv => by
    simp only [pureV] at hp
    simp only [VRel] at *; obtain ⟨c, hc, e⟩ := hv; exact ⟨c, LRel.pure hp hc, e⟩
  | .ptr _ _, _, hp, _ => by cases hp
  | .slice .., _, hp, _ => by cases hp
  | .map _, _, hp, _ => by cases hp
  | .yld _, _, hp, _ => by cases hp
theorem LRel.pure {β β' : Bmap} : ∀ {l : List AV} {c : List Value}, pureL l = true → LRel β l c → LRel β' l c
  | [], _, _, hv => hv
  | _ :: _, _, hp, hv => by
    simp only [pureL, Bool.and_eq_true] at hp
    simp only [LRel] at *; obtain ⟨y, ys, e, h1, h2⟩ := hv; exact ⟨y, ys, e, VRel.pure hp.1 h1, LRel.pure hp.2 h2⟩
end
theorem pureL_get : ∀ {l : List AV} {i : Nat} {v : AV}, pureL l = true → l[i]? = some v → pureV v = true
  | [], i, v, _, h => by simp at h
  | u :: l, 0, v, hp, h => by
    simp only [pureL, Bool.and_eq_true] at hp
    simp at h; subst h; exact hp.1
  | u :: l, i + 1, v, hp, h => by
    simp only [pureL, Bool.and_eq_true] at hp
    simp at h; exact pureL_get hp.2 h
section
variable [cx : Cx] {P : Program} {G : Nat} {tt : TT}
theorem ORel.pure {β β' : Bmap} {w : World} {e : Nat × Bool} {c : List AV} {fz : Nat} {k k' : Option Nat} {im : Img} (hp : pureL c = true) (h : ORel β w (.cells e (c.map some) fz k) im) : ORel β' w (.cells e (c.map some) fz k') im := by
  simp only [ORel] at *
  obtain ⟨cs, fr, h1, h2, h3, h4, h5⟩ := h
  refine ⟨cs, fr, h1, h2, h3, fun i v hi => ?_, h5⟩
  obtain ⟨x, hx, hr⟩ := h4 i v hi
  refine ⟨x, hx, hr.pure (pureL_get (l := c) (i := i) hp ?_)⟩
  rw [List.getElem?_map] at hi
  cases hq : c[i]? with
  | none => rw [hq] at hi; cases hi
  | some u => rw [hq] at hi; simp at hi; rw [hi]
theorem contract {cf : AV → List AV → St → Option (AV × St)} (hcf : SCall P G cf) {f : AV} {args0 : List AV} {st0 st0' : St} {v0 : AV} {b1 : Nat} {e1 : Nat × Bool} {c1 : List AV} {fz1 : Nat} {kin1 : Option Nat}
    (h : cf f args0 st0 = some (v0, st0')) (hthr : st0.thr = st0.next) (hGn : G ≤ st0.next) (hlog : st0'.log = []) (hb1 : st0.next ≤ b1) (ho1 : st0'.heap.get b1 = some (.cells e1 (c1.map some) fz1 kin1)) (hp1 : pureL c1 = true)
    (hmap : ∀ (β' : Bmap) (x : Value), VRel β' v0 x → ∃ im, β' b1 = some im)
    {β : Bmap} {st : St} {w : World} (hG : GRel G β) (hr : Rel β st w) (ι : Nat → Option Nat) (hι : ∀ b b', ι b = some b' → b < st0.next) (hιG : ∀ g, g < G → ι g = some g)
    (hobj : ∀ b o, st0.heap.get b = some o → ∀ b', ι b = some b' → ∃ e c fz k k', o = .cells e (c.map some) fz k ∧ st.heap.get b' = some (.cells e (c.map some) fz k') ∧ pureL c = true)
    (hone : ∀ b b2 o o2, st0.heap.get b = some o → st0.heap.get b2 = some o2 → b = b2)
    {F : Fence} {m : Nat} {fv : Value} {as : List Value} (hF1 : ∀ f, F.fn f) (hF2 : F.depth = none) (hf : VRel (fun b => (ι b).bind β) f fv) (has : LRel (fun b => (ι b).bind β) args0 as) {R : Value → World → Prop}
    (hR : ∀ v' w' im1 β0', VRel β0' v0 v' → β0' b1 = some im1 → Post β st w (β.add st.next im1) (st.new (.cells e1 (c1.map some) fz1 none)) w' → R v' w') : CallsFor P F m fv as.toArray w R := by
  have hr0 : Rel (fun b => (ι b).bind β) st0 w := by
    refine ⟨fun b o im hg hi => ?_, fun b im hi => ?_, fun b1 b2 o1 o2 im1 im2 hne g1 g2 => absurd (hone _ _ _ _ g1 g2) hne, by rw [hthr]; exact Nat.le_refl _⟩
    · cases hq : ι b with
      | none => simp only [hq] at hi; cases hi
      | some b' =>
        simp only [hq, Option.bind_some] at hi
        obtain ⟨e, c, fz, k, k', rfl, h2, h3⟩ := hobj b o hg b' hq
        exact (hr.obj _ _ _ h2 hi).pure h3
    · cases hq : ι b with
      | none => simp only [hq] at hi; cases hi
      | some b' =>
        simp only [hq, Option.bind_some] at hi
        exact ⟨hι b b' hq, (hr.lt _ _ hi).2⟩
  have hG0 : GRel G (fun b => (ι b).bind β) := fun g hg => by
    obtain ⟨r, h⟩ := hG g hg
    exact ⟨r, by simp only [hιG g hg, Option.bind_some, h]⟩
  have fin : ∀ v' w', (∃ β0', VRel β0' v0 v' ∧ Post (fun b => (ι b).bind β) st0 w β0' st0' w') → R v' w' := by
    rintro v' w' ⟨β0', hv, hp⟩
    obtain ⟨q1, q2⟩ := Post.quiet hr0 hp hthr hlog
    cases hq : β0' b1 with
    | none => obtain ⟨im, h⟩ := hmap β0' v' hv; rw [hq] at h; cases h
    | some im1 =>
      obtain ⟨r1, r2⟩ := q2 b1 im1 hb1 hq
      have ho := hp.rel.obj _ _ _ ho1 hq
      exact hR v' w' im1 β0' hv hq (hr.adopt _ im1 r1 r2 q1 hp.frame.size hp.frame.os hp.frame.tape hp.frame.output (ho.pure hp1))
  obtain ⟨d, hd1, hd2⟩ := hcf _ _ _ _ _ h F m _ w fv as hF1 hF2 hG0 hr0 hf has
  refine ⟨d, hd1, ?_⟩
  rcases hd2 with ⟨g', as', hi', hC⟩ | ⟨l, f', tmps, as', bd, hi', hC⟩ | ⟨v', w', hi', hC⟩
  · refine .inl ⟨g', as', hi', hC.mono fun e w' he => ?_⟩
    cases e with
    | returned v' => exact fin _ _ he
    | panicked _ => exact he.elim
    | outgrown => exact he.elim
  · refine .inr (.inl ⟨l, f', tmps, as', bd, hi', hC.mono fun e w' he => ?_⟩)
    cases e with
    | returned v' => exact fin _ _ he
    | panicked _ => exact he.elim
    | outgrown => exact he.elim
  · exact .inr (.inr ⟨v', w', hi', fin _ _ hC⟩)
end
end Go.RI
namespace Go.RI
def eqVB : AV → AV → Bool
  | .str a, .str b => eqL a b
  | .int k (.ofNat a), .int k' (.ofNat b) => Nat.beq a b && Nat.beq k.bits k'.bits && (k.signed == k'.signed)
  | _, _ => false
def eqVL : List AV → List AV → Bool
  | [], [] => true
  | a :: x, b :: y => match eqVB a b with
    | true => eqVL x y
    | false => false
  | _, _ => false
def eqOL : List (Option AV) → List AV → Bool
  | [], [] => true
  | some a :: x, b :: y => match eqVB a b with
    | true => eqOL x y
    | false => false
  | _, _ => false
theorem eqL_true : ∀ {a b : List Nat}, eqL a b = true → a = b
  | [], [], _ => rfl
  | [], _ :: _, h => by cases h
  | _ :: _, [], h => by cases h
  | x :: a, y :: b, h => by
    unfold eqL at h
    cases hq : Nat.beq x y with
    | true => rw [hq] at h; rw [Nat.eq_of_beq_eq_true hq, eqL_true h]
    | false => rw [hq] at h; cases h
theorem eqVB_eq {a b : AV} (h : eqVB a b = true) : a = b := by
  unfold eqVB at h
  split at h
  · rw [eqL_true h]
  · rename_i k a k' b
    simp only [Bool.and_eq_true] at h
    obtain ⟨⟨h1, h2⟩, h3⟩ := h
    have e1 := Nat.eq_of_beq_eq_true h1
    have e2 := Nat.eq_of_beq_eq_true h2
    subst e1
    have : k = k' := by cases k <;> cases k' <;> first | rfl | (simp [IntKind.bits] at e2; done) | (simp [IntKind.signed] at h3; done)
    subst this; rfl
  · cases h
theorem eqVL_eq : ∀ {a b : List AV}, eqVL a b = true → a = b
  | [], [], _ => rfl
  | [], _ :: _, h => by cases h
  | _ :: _, [], h => by cases h
  | x :: a, y :: b, h => by
    unfold eqVL at h
    cases hq : eqVB x y with
    | true => rw [hq] at h; rw [eqVB_eq hq, eqVL_eq h]
    | false => rw [hq] at h; cases h
theorem eqOL_eq : ∀ {a : List (Option AV)} {b : List AV}, eqOL a b = true → a = b.map some
  | [], [], _ => rfl
  | [], _ :: _, h => by cases h
  | y :: _, [], h => by cases y <;> cases h
  | none :: _, _ :: _, h => by cases h
  | some x :: a, y :: b, h => by
    unfold eqOL at h
    cases hq : eqVB x y with
    | true => rw [hq] at h; rw [eqVB_eq hq, eqOL_eq h]; rfl
    | false => rw [hq] at h; cases h
structure Row where
  n : Nat
  l : List AV
  o : List AV
  m : Nat
  r : List AV
def rowChk (nx e es : Nat) (row : Row) (v : AV) (st : St) : Bool := match v, st.log with
  | .tuple [.slice b1 0 m c es', .int .i64 (.ofNat 0)], [] => Nat.ble nx b1 && Nat.beq m row.m && Nat.ble row.m c && Nat.beq es' es && match st.heap.get b1 with
    | some (.cells (e', true) l 0 _) => Nat.beq e' e && eqOL l row.r
    | _ => false
  | _, _ => false
def okR : Option (AV × St) → Bool
  | some _ => true
  | none => false
noncomputable def rowSt (nx e : Nat) (row : Row) : St := ⟨setF (.cells (e, true) (mapSome row.l) 0 none) .e nx, Nat.succ nx, Nat.succ nx, []⟩
noncomputable def rowRun (tb : Tr Ent) (n g nx e es : Nat) (row : Row) : Bool :=
  okR (callK tb n (.func (.func g) [] []) [.slice nx 0 row.n row.n es, .agg row.o] (rowSt nx e row) fun v st => guardB (rowChk (Nat.succ nx) e es row v st) (some (v, st)))
section
variable [cx : Cx] {P : Program} {G : Nat} {tt : TT}
theorem row_contract (hT : TTok P tt) (hcx : CxOk G tt) (hmix : P.follows .mixedOrders = true) {tb : Tr Ent} (hfs : FnsOk P G tt (fsOf tb)) (horc : OrcOk P G (orcOf tb)) (hot : OrcTame (orcOf tb))
    {n g nx e es : Nat} {row : Row} (hG' : G ≤ nx) (hev : rowRun tb n g nx e es row = true) (hpl : pureL row.l = true) (hpo : pureL row.o = true) (hpr : pureL row.r = true)
    {β : Bmap} {st : St} {w : World} (hG : GRel G β) (hr : Rel β st w) {b c : Nat} {k : Option Nat} (hb : st.heap.get b = some (.cells (e, true) (row.l.map some) 0 k)) (hc : row.n ≤ c)
    {F : Fence} {m : Nat} {as : List Value} (hF1 : ∀ f, F.fn f) (hF2 : F.depth = none) (has : LRel β [.slice b 0 row.n c es, .agg row.o] as) :
    CallsFor P F m (.func (.func g) #[] #[]) as.toArray w fun v' w' => ∃ β', VRel β' (.tuple [.slice st.next 0 row.m row.m es, .int .i64 (.ofNat 0)]) v' ∧ Post β st w β' (st.new (.cells (e, true) (row.r.map some) 0 none)) w' := by
  unfold rowRun at hev
  cases hq : callK tb n (.func (.func g) [] []) [.slice nx 0 row.n row.n es, .agg row.o] (rowSt nx e row) (fun v st => guardB (rowChk (Nat.succ nx) e es row v st) (some (v, st))) with
  | none => rw [hq] at hev; cases hev
  | some x =>
  obtain ⟨q, v0, st0', h1, h2⟩ := (callK_ok tb n).call _ _ _ _ _ hq
  obtain ⟨hchk, h3⟩ := guardB_ok h2
  cases h3
  unfold rowChk at hchk
  split at hchk
  case h_2 => cases hchk
  rename_i b1 m' c' es' hlog
  simp only [Bool.and_eq_true] at hchk
  obtain ⟨⟨⟨⟨k1, k2⟩, k3⟩, k4⟩, k5⟩ := hchk
  have k1 := Nat.le_of_ble_eq_true k1
  have k2 := Nat.eq_of_beq_eq_true k2
  have k3 := Nat.le_of_ble_eq_true k3
  have k4 := Nat.eq_of_beq_eq_true k4
  subst k2; subst k4
  split at k5
  case h_2 => cases k5
  rename_i e' l' kin' hg1
  simp only [Bool.and_eq_true] at k5
  have k6 := Nat.eq_of_beq_eq_true k5.1
  have k7 := eqOL_eq k5.2
  subst k6; subst k7
  simp only [LRel] at has
  obtain ⟨y1, ys, rfl, hy1, y2, ys2, rfl, hy2, rfl⟩ := has
  have hheap : ∀ x, (rowSt nx e' row).heap.get x = if x = nx then some (.cells (e', true) (row.l.map some) 0 none) else none := by
    intro x
    show (setF _ (.e : Tr AObj) nx).get x = _
    rw [setF_eq, mapSome_eq, Tr.get_set, Tr.get_e]
  refine contract (cb_sound hT hcx hmix hfs horc hot q) h1 rfl (Nat.le_succ_of_le hG') hlog k1 hg1 hpr ?_ hG hr (fun x => if x < G then some x else if x = nx then some b else none) ?_ ?_ ?_ ?_ hF1 hF2 ?_ ?_ ?_
  · intro β' x hx
    simp only [VRel, LRel] at hx
    obtain ⟨_, ⟨_, _, _, ⟨im, hbm, _⟩, _⟩, _⟩ := hx
    exact ⟨im, hbm⟩
  · intro x x' hx
    split at hx
    · have : x < nx := by omega
      show x < Nat.succ nx; omega
    · split at hx
      · show x < Nat.succ nx; omega
      · cases hx
  · intro x hx; simp only [if_pos hx]
  · intro x o hx x' hx'
    rw [hheap] at hx
    split at hx
    · rename_i e1
      subst e1
      cases hx
      rw [if_neg (by omega), if_pos rfl] at hx'
      cases hx'
      exact ⟨_, row.l, 0, none, k, rfl, hb, hpl⟩
    · cases hx
  · intro x x2 o o2 h3 h4
    rw [hheap] at h3 h4
    split at h3
    · split at h4
      · rename_i a1 a2; rw [a1, a2]
      · cases h4
    · cases h3
  · exact ⟨[], [], rfl, rfl, rfl⟩
  · have e0 : ∀ im, β b = some im → (fun x => ((if x < G then some x else if x = nx then some b else none : Option Nat)).bind β) nx = some im := by
      intro im him
      show ((if nx < G then some nx else if nx = nx then some b else none : Option Nat)).bind β = some im
      rw [if_neg (by omega), if_pos rfl]; exact him
    refine ⟨y1, [y2], rfl, ?_, y2, [], rfl, VRel.pure (by simp only [pureV]; exact hpo) hy2, rfl⟩
    simp only [VRel] at hy1 ⊢
    obtain ⟨im, hbm, cap', o, ee, g1, g2, g3, g4⟩ := hy1
    exact ⟨im, by have := e0 im hbm; simpa using this, cap', o, ee, g1, by omega, g3, g4⟩
  · intro v' w' im1 β0' hv hb1' hp
    refine ⟨_, ?_, hp⟩
    simp only [VRel, LRel] at hv ⊢
    obtain ⟨cs, ⟨z1, zs, rfl, ⟨im, hbm, cap', o, rfl, g1, g2, g3, g4⟩, z2, zs2, rfl, rfl, rfl⟩, rfl⟩ := hv
    rw [hb1'] at hbm; cases hbm
    exact ⟨_, ⟨_, _, rfl, ⟨im1, Bmap.add_same _ _ _, cap', o, rfl, g1, by omega, g3, g4⟩, _, _, rfl, rfl, rfl⟩, rfl⟩
end
end Go.RI
namespace Go.RI
noncomputable def row0Run (tb : Tr Ent) (n g nx e es : Nat) (row : Row) : Bool :=
  okR (callK tb n (.func (.func g) [] []) [.nils, .agg row.o] ⟨.e, nx, nx, []⟩ fun v st => guardB (rowChk nx e es row v st) (some (v, st)))
def madeChk (nx e es : Nat) (row : Row) (v : AV) (st : St) : Bool := match v, st.log with
  | .slice b1 0 m c es', [] => Nat.ble nx b1 && Nat.beq m row.m && Nat.ble row.m c && Nat.beq es' es && match st.heap.get b1 with
    | some (.cells (e', true) l 0 _) => Nat.beq e' e && eqOL l row.r
    | _ => false
  | _, _ => false
noncomputable def madeRun (tb : Tr Ent) (n g nx e es : Nat) (row : Row) : Bool :=
  okR (callK tb n (.func (.func g) [] []) [] ⟨.e, nx, nx, []⟩ fun v st => guardB (madeChk nx e es row v st) (some (v, st)))
section
variable [cx : Cx] {P : Program} {G : Nat} {tt : TT}
theorem row0_contract (hT : TTok P tt) (hcx : CxOk G tt) (hmix : P.follows .mixedOrders = true) {tb : Tr Ent} (hfs : FnsOk P G tt (fsOf tb)) (horc : OrcOk P G (orcOf tb)) (hot : OrcTame (orcOf tb))
    {n g nx e es : Nat} {row : Row} (hG' : G ≤ nx) (hev : row0Run tb n g nx e es row = true) (hpo : pureL row.o = true) (hpr : pureL row.r = true)
    {β : Bmap} {st : St} {w : World} (hG : GRel G β) (hr : Rel β st w)
    {F : Fence} {m : Nat} {as : List Value} (hF1 : ∀ f, F.fn f) (hF2 : F.depth = none) (has : LRel β [.nils, .agg row.o] as) :
    CallsFor P F m (.func (.func g) #[] #[]) as.toArray w fun v' w' => ∃ β', VRel β' (.tuple [.slice st.next 0 row.m row.m es, .int .i64 (.ofNat 0)]) v' ∧ Post β st w β' (st.new (.cells (e, true) (row.r.map some) 0 none)) w' := by
  unfold row0Run at hev
  cases hq : callK tb n (.func (.func g) [] []) [.nils, .agg row.o] ⟨.e, nx, nx, []⟩ (fun v st => guardB (rowChk nx e es row v st) (some (v, st))) with
  | none => rw [hq] at hev; cases hev
  | some x =>
  obtain ⟨q, v0, st0', h1, h2⟩ := (callK_ok tb n).call _ _ _ _ _ hq
  obtain ⟨hchk, h3⟩ := guardB_ok h2
  cases h3
  unfold rowChk at hchk
  split at hchk
  case h_2 => cases hchk
  rename_i b1 m' c' es' hlog
  simp only [Bool.and_eq_true] at hchk
  obtain ⟨⟨⟨⟨k1, k2⟩, k3⟩, k4⟩, k5⟩ := hchk
  have k1 := Nat.le_of_ble_eq_true k1
  have k2 := Nat.eq_of_beq_eq_true k2
  have k3 := Nat.le_of_ble_eq_true k3
  have k4 := Nat.eq_of_beq_eq_true k4
  subst k2; subst k4
  split at k5
  case h_2 => cases k5
  rename_i e' l' kin' hg1
  simp only [Bool.and_eq_true] at k5
  have k6 := Nat.eq_of_beq_eq_true k5.1
  have k7 := eqOL_eq k5.2
  subst k6; subst k7
  simp only [LRel] at has
  obtain ⟨y1, ys, rfl, hy1, y2, ys2, rfl, hy2, rfl⟩ := has
  refine contract (cb_sound hT hcx hmix hfs horc hot q) h1 rfl hG' hlog k1 hg1 hpr ?_ hG hr (fun x => if x < G then some x else none) ?_ ?_ ?_ ?_ hF1 hF2 ?_ ?_ ?_
  · intro β' x hx
    simp only [VRel, LRel] at hx
    obtain ⟨_, ⟨_, _, _, ⟨im, hbm, _⟩, _⟩, _⟩ := hx
    exact ⟨im, hbm⟩
  · intro x x' hx
    split at hx
    · show x < nx; omega
    · cases hx
  · intro x hx; simp only [if_pos hx]
  · intro x o hx
    replace hx : (Tr.e : Tr AObj).get x = some o := hx
    rw [Tr.get_e] at hx; cases hx
  · intro x x2 o o2 h3
    replace h3 : (Tr.e : Tr AObj).get x = some o := h3
    rw [Tr.get_e] at h3; cases h3
  · exact ⟨[], [], rfl, rfl, rfl⟩
  · exact ⟨y1, [y2], rfl, hy1, y2, [], rfl, VRel.pure (by simp only [pureV]; exact hpo) hy2, rfl⟩
  · intro v' w' im1 β0' hv hb1' hp
    refine ⟨_, ?_, hp⟩
    simp only [VRel, LRel] at hv ⊢
    obtain ⟨cs, ⟨z1, zs, rfl, ⟨im, hbm, cap', o, rfl, g1, g2, g3, g4⟩, z2, zs2, rfl, rfl, rfl⟩, rfl⟩ := hv
    rw [hb1'] at hbm; cases hbm
    exact ⟨_, ⟨_, _, rfl, ⟨im1, Bmap.add_same _ _ _, cap', o, rfl, g1, by omega, g3, g4⟩, _, _, rfl, rfl, rfl⟩, rfl⟩
theorem made_contract (hT : TTok P tt) (hcx : CxOk G tt) (hmix : P.follows .mixedOrders = true) {tb : Tr Ent} (hfs : FnsOk P G tt (fsOf tb)) (horc : OrcOk P G (orcOf tb)) (hot : OrcTame (orcOf tb))
    {n g nx e es : Nat} {row : Row} (hG' : G ≤ nx) (hev : madeRun tb n g nx e es row = true) (hpr : pureL row.r = true)
    {β : Bmap} {st : St} {w : World} (hG : GRel G β) (hr : Rel β st w)
    {F : Fence} {m : Nat} {as : List Value} (hF1 : ∀ f, F.fn f) (hF2 : F.depth = none) (has : LRel β [] as) :
    CallsFor P F m (.func (.func g) #[] #[]) as.toArray w fun v' w' => ∃ β', VRel β' (.slice st.next 0 row.m row.m es) v' ∧ Post β st w β' (st.new (.cells (e, true) (row.r.map some) 0 none)) w' := by
  unfold madeRun at hev
  cases hq : callK tb n (.func (.func g) [] []) [] ⟨.e, nx, nx, []⟩ (fun v st => guardB (madeChk nx e es row v st) (some (v, st))) with
  | none => rw [hq] at hev; cases hev
  | some x =>
  obtain ⟨q, v0, st0', h1, h2⟩ := (callK_ok tb n).call _ _ _ _ _ hq
  obtain ⟨hchk, h3⟩ := guardB_ok h2
  cases h3
  unfold madeChk at hchk
  split at hchk
  case h_2 => cases hchk
  rename_i b1 m' c' es' hlog
  simp only [Bool.and_eq_true] at hchk
  obtain ⟨⟨⟨⟨k1, k2⟩, k3⟩, k4⟩, k5⟩ := hchk
  have k1 := Nat.le_of_ble_eq_true k1
  have k2 := Nat.eq_of_beq_eq_true k2
  have k3 := Nat.le_of_ble_eq_true k3
  have k4 := Nat.eq_of_beq_eq_true k4
  subst k2; subst k4
  split at k5
  case h_2 => cases k5
  rename_i e' l' kin' hg1
  simp only [Bool.and_eq_true] at k5
  have k6 := Nat.eq_of_beq_eq_true k5.1
  have k7 := eqOL_eq k5.2
  subst k6; subst k7
  simp only [LRel] at has
  subst has
  refine contract (cb_sound hT hcx hmix hfs horc hot q) h1 rfl hG' hlog k1 hg1 hpr ?_ hG hr (fun x => if x < G then some x else none) ?_ ?_ ?_ ?_ hF1 hF2 ?_ ?_ ?_
  · intro β' x hx
    simp only [VRel] at hx
    obtain ⟨im, hbm, _⟩ := hx
    exact ⟨im, hbm⟩
  · intro x x' hx
    split at hx
    · show x < nx; omega
    · cases hx
  · intro x hx; simp only [if_pos hx]
  · intro x o hx
    replace hx : (Tr.e : Tr AObj).get x = some o := hx
    rw [Tr.get_e] at hx; cases hx
  · intro x x2 o o2 h3
    replace h3 : (Tr.e : Tr AObj).get x = some o := h3
    rw [Tr.get_e] at h3; cases h3
  · exact ⟨[], [], rfl, rfl, rfl⟩
  · rfl
  · intro v' w' im1 β0' hv hb1' hp
    refine ⟨_, ?_, hp⟩
    simp only [VRel] at hv ⊢
    obtain ⟨im, hbm, cap', o, rfl, g1, g2, g3, g4⟩ := hv
    rw [hb1'] at hbm; cases hbm
    exact ⟨im1, Bmap.add_same _ _ _, cap', o, rfl, g1, by omega, g3, g4⟩
end
end Go.RI
