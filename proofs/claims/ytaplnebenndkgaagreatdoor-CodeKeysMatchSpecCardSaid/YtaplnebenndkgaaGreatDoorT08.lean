/- A compiler from bodies of Go functions into a small language of values and blocks, and the proof that a run of the compiled text is a run of the program. Conditions: none. -/
import Derived.Test.YtaplnebenndkgaaGreatDoorT07
set_option linter.all false
namespace Go.RI
def Alike (l : List Nat) (tm tm' : Tr AV) : Prop := ∀ t, t ∈ l → ev tm (.tmp t) = ev tm' (.tmp t)
theorem Alike.left {l r : List Nat} {tm tm' : Tr AV} (h : Alike (l ++ r) tm tm') : Alike l tm tm' := fun t ht => h t (List.mem_append_left _ ht)
theorem Alike.right {l r : List Nat} {tm tm' : Tr AV} (h : Alike (l ++ r) tm tm') : Alike r tm tm' := fun t ht => h t (List.mem_append_right _ ht)
section
variable {tm tm' : Tr AV}
theorem Alike.ev {r : Rnd} (h : Alike (rndT r) tm tm') : RI.ev tm r = RI.ev tm' r := by
  cases r with
  | tmp t => exact h t (by simp [rndT])
  | con v => rfl
  | fn f => rfl
theorem Alike.evL : ∀ {l : List Rnd}, Alike (rndsT l) tm tm' → RI.evL tm l = RI.evL tm' l
  | [], _ => rfl
  | r :: l, h => by simp only [RI.evL]; rw [Alike.ev (Alike.left h), Alike.evL (l := l) (Alike.right h)]
theorem Alike.optNat {r : Option Rnd} {d : Nat} (h : Alike (rndOT r) tm tm') : RI.optNat tm d r = RI.optNat tm' d r := by
  cases r with
  | none => rfl
  | some r => simp only [RI.optNat]; rw [Alike.ev h]
theorem Alike.fillA : ∀ {l : List (Nat × Nat × Rnd)} {cells : List AV}, Alike (partsT l) tm tm' → RI.fillA cells tm l = RI.fillA cells tm' l
  | [], _, _ => rfl
  | (off, size, r) :: l, cells, h => by
    simp only [RI.fillA]
    rw [Alike.ev (Alike.left h)]
    split
    · exact Alike.fillA (Alike.right h)
    · rfl
theorem aop_congr {op : AOp} (h : Alike op.tmps tm tm') (st : St) : aop op tm st = aop op tm' st := by
  cases op <;> simp only [AOp.tmps] at h <;> simp only [aop]
  all_goals try rfl
  case build => rw [Alike.fillA h]
  case buildSlice => rw [Alike.fillA h]
  case mkFunc => rw [Alike.evL h.left, Alike.evL h.right]
  case cutStr => rw [Alike.ev h.left, Alike.optNat h.right.left]; split <;> first | rfl | (rw [Alike.optNat h.right.right])
  case cutSl =>
    rw [Alike.ev h.left, Alike.optNat (d := 0) h.right.left]
    split
    · rw [Alike.optNat h.right.right.left, Alike.optNat h.right.right.right]
    · rw [Alike.optNat h.right.right.left, Alike.optNat h.right.right.right]
    · rfl
  case cutArr =>
    rw [Alike.ev h.left]
    split
    · rw [Alike.optNat h.right.left, Alike.optNat h.right.right]
    · rfl
  all_goals first
    | (rw [Alike.ev h]; done)
    | (rw [Alike.ev h.left, Alike.ev h.right]; done)
    | (rw [Alike.ev h.left, Alike.ev h.right.left, Alike.ev h.right.right]; done)
    | skip
end
theorem pure_spec {op : AOp} (hc : clsOf op = .pure) {tm : Tr AV} {st st1 : St} {v : AV} (h : aop op tm st = some (v, st1)) :
    (st1 = st ∧ ∀ st2, st2.next = st.next → aop op tm st2 = some (v, st2)) ∨ ∃ ob, st1 = st.new ob ∧ ∀ st2, st2.next = st.next → aop op tm st2 = some (v, st2.new ob) := by
  cases op
  case lookup kk z ok m k => cases kk <;> cases hc
  case len g x =>
    cases g <;> first | (cases hc; done) | skip
    all_goals
      simp only [aop] at h ⊢
      split at h <;> first | (cases h; done) | contradiction | skip
      all_goals first | contradiction | (cases h; exact .inl ⟨rfl, fun _ _ => by simp_all⟩)
  case minI x y =>
    simp only [aop] at h ⊢
    split at h
    · rename_i e1 e2; cases h; exact .inl ⟨rfl, fun _ _ => rfl⟩
    · cases h
  case maxI x y =>
    simp only [aop] at h ⊢
    split at h
    · rename_i e1 e2; cases h; exact .inl ⟨rfl, fun _ _ => rfl⟩
    · cases h
  all_goals first
    | (cases hc; done)
    | (simp only [aop] at h ⊢
       repeat' split at h
       all_goals first
         | (cases h; done)
         | (cases h; exact .inl ⟨rfl, fun _ _ => by simp_all⟩)
         | (cases h; exact .inr ⟨_, rfl, fun _ hn => by simp_all [newCells]⟩))
theorem makes_spec {op : AOp} (hc : clsOf op = .pure) (hm : makes op = false) {tm : Tr AV} {st st1 : St} {v : AV} (h : aop op tm st = some (v, st1)) : st1.next = st.next := by
  cases op
  case lookup kk z ok m k => cases kk <;> cases hc
  case len g x =>
    cases g <;> first | (cases hc; done) | skip
    all_goals
      simp only [aop] at h
      split at h <;> first | (cases h; done) | contradiction | skip
      all_goals first | contradiction | (cases h; rfl)
  all_goals first
    | (cases hc; done)
    | (cases hm; done)
    | (simp only [aop] at h
       repeat' split at h
       all_goals first
         | (cases h; done)
         | (cases h; rfl))
theorem eqKey_st {kk : KK} (hk : ∀ a b : AV, ∀ st st2 : St, eqKey st kk a b = eqKey st2 kk a b) (st st2 : St) (k : AV) : ∀ (es : List (AV × AV × Nat)) (i : Nat), findKeyA st kk k es i = findKeyA st2 kk k es i
  | [], _ => rfl
  | (k', v, n) :: es, i => by
    simp only [findKeyA]
    rw [hk k k' st st2, eqKey_st hk st st2 k es]
theorem load_spec {op : AOp} (hc : clsOf op = .load) {tm : Tr AV} {st st1 : St} {v : AV} (h : aop op tm st = some (v, st1)) :
    st1 = st ∧ ∀ st2 : St, (∀ b, b ∈ readsOf op tm → st2.heap.get b = st.heap.get b) → aop op tm st2 = some (v, st2) := by
  cases op
  case load1 a =>
    simp only [aop] at h ⊢
    split at h
    case h_2 => cases h
    rename_i b off e
    split at h
    case h_2 => cases h
    rename_i v hr
    cases h
    refine ⟨rfl, fun st2 hg => ?_⟩
    have hb : st2.heap.get b = st.heap.get b := hg b (by simp [readsOf, e, blockOf])
    have : st2.rd b off = some v := by unfold St.rd at hr ⊢; rw [hb]; exact hr
    simp only [e, this]
  case loadN n a =>
    simp only [aop] at h ⊢
    split at h
    case h_2 => cases h
    rename_i b off e
    split at h
    case h_2 => cases h
    rename_i v hr
    cases h
    refine ⟨rfl, fun st2 hg => ?_⟩
    have hb : st2.heap.get b = st.heap.get b := hg b (by simp [readsOf, e, blockOf])
    have : st2.rdN b off n = some v := by unfold St.rdN at hr ⊢; rw [hb]; exact hr
    simp only [e, this]
  case toStr x =>
    simp only [aop] at h ⊢
    split at h
    · rename_i e; cases h; exact ⟨rfl, fun _ _ => by simp only [e]⟩
    · rename_i e; cases h; exact ⟨rfl, fun _ _ => by simp only [e]⟩
    · rename_i b off len cap e
      split at h
      case h_2 => cases h
      rename_i l hr
      split at h
      case h_2 => cases h
      rename_i s hs
      cases h
      refine ⟨rfl, fun st2 hg => ?_⟩
      have hb : st2.heap.get b = st.heap.get b := hg b (by simp [readsOf, e, blockOf])
      have : st2.rdN b off len = some l := by unfold St.rdN at hr ⊢; rw [hb]; exact hr
      simp only [e, this, hs]
    · cases h
  case len g x =>
    cases g <;> first | (cases hc; done) | skip
    simp only [aop] at h ⊢
    split at h
    · contradiction
    · contradiction
    · contradiction
    · rename_i e; cases h; exact ⟨rfl, fun _ _ => by simp only [e]⟩
    · rename_i b _ e
      split at h
      case h_2 => cases h
      rename_i es c hr
      cases h
      refine ⟨rfl, fun st2 hg => ?_⟩
      have hb : st2.heap.get b = st.heap.get b := hg b (by simp [readsOf, e, blockOf])
      simp only [e, hb, hr]
    · cases h
  case lookup kk z ok m k =>
    have hk : ∀ a b : AV, ∀ st st2 : St, eqKey st kk a b = eqKey st2 kk a b := by
      intro a b st st2
      cases kk
      case ptr => cases hc
      all_goals (cases a <;> cases b <;> rfl)
    simp only [aop] at h ⊢
    split at h
    case h_2 => cases h
    rename_i r hr
    cases h
    refine ⟨rfl, fun st2 hg => ?_⟩
    have hf : ∀ es, findK st2 kk (ev tm k) es = findK st kk (ev tm k) es := by
      intro es; unfold findK; rw [eqKey_st hk st2 st]
    have : lookK st2 kk (ev tm m) (ev tm k) = some r := by
      rw [← hr]
      unfold lookK
      cases e : ev tm m with
      | map b =>
        have hb : st2.heap.get b = st.heap.get b := hg b (by simp [readsOf, e, blockOf])
        simp only [hb, hf]
      | nilm => simp only [hf]
      | _ => rfl
    simp only [this]
  all_goals cases hc
end Go.RI
namespace Go.RI
def Cls.isChain : Cls → Bool
  | .chain => true
  | _ => false
theorem stepOp_val {cf : AV → List AV → St → Option (AV × St)} {o : AOper} {fr fr1 : Fr} {st st1 : St} (h : stepOp cf o fr st = some (fr1, st1)) (lo hi : Nat) (log : List Nat) :
    ∃ v, fr1 = { fr with tm := putT fr.tm o.dst v } ∧ ∀ tm', Alike o.looks fr.tm tm' → wantedA tm' o.guard = wantedA fr.tm o.guard ∧
      ((effOf o fr lo hi log).cls = .chain → stepOp cf o { fr with tm := tm' } st = some ({ fr with tm := putT tm' o.dst v }, st1)) ∧
      ((effOf o fr lo hi log).cls = .load → st1 = st ∧ ∀ st2 : St, (∀ b, b ∈ (effOf o fr lo hi log).rd → st2.heap.get b = st.heap.get b) → stepOp cf o { fr with tm := tm' } st2 = some ({ fr with tm := putT tm' o.dst v }, st2)) ∧
      ((effOf o fr lo hi log).cls = .pure → (st1 = st ∧ ∀ st2, st2.next = st.next → stepOp cf o { fr with tm := tm' } st2 = some ({ fr with tm := putT tm' o.dst v }, st2)) ∨
        ∃ ob, st1 = st.new ob ∧ ∀ st2, st2.next = st.next → stepOp cf o { fr with tm := tm' } st2 = some ({ fr with tm := putT tm' o.dst v }, st2.new ob)) := by
  have hw : ∀ tm', Alike o.looks fr.tm tm' → wantedA tm' o.guard = wantedA fr.tm o.guard := by
    intro tm' ha
    unfold wantedA
    unfold AOper.looks at ha
    split
    · rfl
    · rename_i g w hg
      rw [hg] at ha
      rw [ha g (by simp)]
  have hop : ∀ tm', Alike o.looks fr.tm tm' → Alike o.op.tmps fr.tm tm' := by
    intro tm' ha t ht
    refine ha t ?_
    unfold AOper.looks
    split
    · exact List.mem_cons_of_mem _ ht
    · exact ht
  unfold stepOp at h
  split at h
  · rename_i hwf
    cases h
    refine ⟨undefA, rfl, fun tm' ha => ⟨hw tm' ha, ?_, ?_, fun _ => .inl ⟨rfl, fun st2 _ => ?_⟩⟩⟩
    · unfold effOf; rw [hwf]; intro h; cases h
    · unfold effOf; rw [hwf]; intro h; cases h
    · unfold stepOp; simp only [hw tm' ha, hwf]
  · rename_i hwt
    have heff : effOf o fr lo hi log = ⟨clsOf o.op, readsOf o.op fr.tm, log, lo, hi⟩ := by unfold effOf; rw [hwt]
    rw [heff]
    split at h
    · rename_i f args hof
      split at h
      case h_2 => cases h
      rename_i v s1 hcall
      cases h
      refine ⟨v, rfl, fun tm' ha => ⟨hw tm' ha, fun _ => ?_, ?_, ?_⟩⟩
      · have hal := hop tm' ha
        rw [hof] at hal
        simp only [AOp.tmps] at hal
        unfold stepOp
        simp only [hw tm' ha, hwt, hof, ← Alike.ev hal.left, ← Alike.evL hal.right, hcall]
      · rw [hof]; intro h; cases h
      · rw [hof]; intro h; cases h
    · rename_i hne
      split at h
      case h_2 => cases h
      rename_i v s1 hao
      cases h
      have go : ∀ tm', Alike o.looks fr.tm tm' → ∀ st2 st3, aop o.op fr.tm st2 = some (v, st3) → stepOp cf o { fr with tm := tm' } st2 = some ({ fr with tm := putT tm' o.dst v }, st3) := by
        intro tm' ha st2 st3 h2
        have h3 : aop o.op tm' st2 = some (v, st3) := by rw [← aop_congr (hop tm' ha)]; exact h2
        unfold stepOp
        simp only [hw tm' ha, hwt, h3]
      refine ⟨v, rfl, fun tm' ha => ⟨hw tm' ha, fun _ => go tm' ha _ _ hao, fun hc => ?_, fun hc => ?_⟩⟩
      · obtain ⟨rfl, q⟩ := load_spec hc hao
        exact ⟨rfl, fun st2 hg => go tm' ha _ _ (q st2 hg)⟩
      · rcases pure_spec hc hao with ⟨rfl, q⟩ | ⟨ob, rfl, q⟩
        · exact .inl ⟨rfl, fun st2 hn => go tm' ha _ _ (q st2 hn)⟩
        · exact .inr ⟨ob, rfl, fun st2 hn => go tm' ha _ _ (q st2 hn)⟩
structure StepAt (cf : AV → List AV → St → Option (AV × St)) (as : List AOper) (T : Nat → Fr × St) (S : Nat → St) (E : Nat → Eff) (k : Nat) : Prop where
  step : ∃ ao, as[k]? = some ao ∧ stepOp cf ao (T k).1 { (T k).2 with thr := (T k).2.next, log := [] } = some ((T (k + 1)).1, S k) ∧ E k = effOf ao (T k).1 (T k).2.next (S k).next (S k).log
  next : (T (k + 1)).2 = { S k with thr := (T k).2.thr, log := filtLt (T k).2.thr (S k).log ++ (T k).2.log }
theorem mem_memN : ∀ (l : List Nat) (n : Nat), memN n l = true ↔ n ∈ l := by
  intro l n
  induction l with
  | nil => simp [memN]
  | cons m l ih =>
    simp only [memN, List.mem_cons]
    split
    · rename_i h; simp [Nat.eq_of_beq_eq_true h]
    · rename_i h
      have : n ≠ m := fun e => by subst e; rw [Nat.beq_refl] at h; cases h
      simp [ih, this]
theorem clashes_spec {e : Eff} : ∀ {es : List (Nat × Eff)} {u : List Nat}, clashes e es u = false → ∀ j f, (j, f) ∈ es → j ∈ u → clash e f = false
  | [], u, _, j, f, hm, _ => by cases hm
  | (i, g) :: es, u, h, j, f, hm, hj => by
    simp only [clashes] at h
    rcases List.mem_cons.1 hm with he | hm
    · cases he
      rw [(mem_memN u _).2 hj] at h
      simp only at h
      split at h
      · cases h
      · rename_i hc; exact hc
    · split at h
      · split at h
        · cases h
        · exact clashes_spec h j f hm hj
      · exact clashes_spec h j f hm hj
theorem trace {cf : AV → List AV → St → Option (AV × St)} {as : List AOper} {un : List (List Nat)} : ∀ (l : List AOper) (us : List (List Nat)) (i : Nat) (es : List (Nat × Eff)) (fr fr' : Fr) (st st' : St), as.drop i = l → un.drop i = us → runDraw cf l us i es fr st = some (fr', st') →
    ∃ (T : Nat → Fr × St) (S : Nat → St) (E : Nat → Eff), T i = (fr, st) ∧ T (i + l.length) = (fr', st') ∧ ∀ k, i ≤ k → k < i + l.length → StepAt cf as T S E k ∧ (∀ j f, (j, f) ∈ es → j ∈ un.getD k [] → clash (E k) f = false) ∧ (∀ j, i ≤ j → j < k → j ∈ un.getD k [] → clash (E k) (E j) = false)
  | [], us, i, es, fr, fr', st, st', ha, hu, h => by
    simp only [runDraw, Option.some.injEq, Prod.mk.injEq] at h
    obtain ⟨rfl, rfl⟩ := h
    exact ⟨fun _ => (fr, st), fun _ => st, fun _ => ⟨.pure, [], [], 0, 0⟩, rfl, rfl, fun k h1 h2 => by simp at h2; omega⟩
  | o :: l, [], i, es, fr, fr', st, st', ha, hu, h => by simp [runDraw] at h
  | o :: l, u :: us, i, es, fr, fr', st, st', ha, hu, h => by
    have ha' : as.drop (i + 1) = l := by rw [← List.drop_drop, ha]; rfl
    have hu' : un.drop (i + 1) = us := by rw [← List.drop_drop, hu]; rfl
    have hao : as[i]? = some o := by
      have := congrArg (fun l : List AOper => l[0]?) ha
      simpa using this
    have hun : un.getD i [] = u := by
      have := congrArg (fun l : List (List Nat) => l[0]?) hu
      simp only [List.getElem?_drop, Nat.add_zero, List.getElem?_cons_zero] at this
      simp [List.getD_eq_getElem?_getD, this]
    simp only [runDraw] at h
    split at h
    case h_2 => cases h
    rename_i fr1 st1 hstep
    split at h
    · cases h
    · rename_i hcl
      obtain ⟨T, S, E, t0, t1, t2⟩ := trace l us (i + 1) _ fr1 fr' _ st' ha' hu' h
      refine ⟨fun k => if k = i then (fr, st) else T k, fun k => if k = i then st1 else S k, fun k => if k = i then effOf o fr st.next st1.next st1.log else E k, by simp, ?_, fun k h1 h2 => ?_⟩
      · have hne : ¬ (i + (o :: l).length = i) := by simp
        simp only [if_neg hne]
        rw [← t1, List.length_cons]; congr 1; omega
      · by_cases hk : k = i
        · subst hk
          refine ⟨⟨⟨o, hao, ?_, ?_⟩, ?_⟩, fun j f hm hj => ?_, fun j q1 q2 => by omega⟩
          · simp [t0, hstep]
          · simp
          · simp [t0]
          · simp only [if_true]; rw [hun] at hj; exact clashes_spec hcl j f hm hj
        · obtain ⟨⟨⟨ao, b1, b3, b4⟩, b5⟩, c1, c2⟩ := t2 k (by omega) (by simp at h2 ⊢; omega)
          have hk1 : k + 1 ≠ i := by omega
          refine ⟨⟨⟨ao, b1, ?_, ?_⟩, ?_⟩, fun j f hm hj => ?_, fun j q1 q2 hj => ?_⟩
          · simp only [if_neg hk, if_neg hk1]; exact b3
          · simp only [if_neg hk]; exact b4
          · simp only [if_neg hk, if_neg hk1]; exact b5
          · simp only [if_neg hk]; exact c1 j f (List.mem_cons_of_mem _ hm) hj
          · simp only [if_neg hk]
            by_cases hj' : j = i
            · subst hj'; simp only [if_true]; exact c1 j _ (by simp) hj
            · simp only [if_neg hj']; exact c2 j (by omega) q2 hj
def maskT (tm : Tr AV) : List Nat → Tr AV
  | [] => tm
  | t :: l => maskT (tm.set undefA t) l
def maskA (a : Act) : List Nat → Act
  | [] => a
  | t :: l => maskA (a.put (some t) undef) l
theorem ev_maskT : ∀ (l : List Nat) (tm : Tr AV) (t : Nat), ev (maskT tm l) (.tmp t) = if t ∈ l then undefA else ev tm (.tmp t)
  | [], tm, t => by simp [maskT]
  | s :: l, tm, t => by
    simp only [maskT]
    rw [ev_maskT l]
    by_cases h : t ∈ l
    · simp [h]
    · by_cases e : t = s
      · subst e; simp [h, ev]
      · simp only [if_neg h, List.mem_cons, e, false_or, ev]
        rw [Tr.get_set_ne _ _ e]
theorem put_getD (a : Act) (s t : Nat) (v : Value) : (a.put (some s) v).tmps.getD t undef = if t = s ∧ s < a.tmps.size then v else a.tmps.getD t undef := by
  simp only [Act.put, Array.getD_eq_getD_getElem?, Array.getElem?_setIfInBounds]
  by_cases e : s = t
  · subst e
    by_cases h : s < a.tmps.size
    · simp [h]
    · simp [h]
  · rw [if_neg e, if_neg (fun h => e h.1.symm)]
theorem maskA_getD : ∀ (l : List Nat) (a : Act) (t : Nat), (maskA a l).tmps.getD t undef = if t ∈ l then undef else a.tmps.getD t undef
  | [], a, t => by simp [maskA]
  | s :: l, a, t => by
    simp only [maskA]
    rw [maskA_getD l, put_getD]
    by_cases h : t ∈ l
    · simp [h]
    · by_cases e : t = s
      · subst e
        simp only [if_neg h, List.mem_cons, true_or, if_true, true_and]
        split
        · rfl
        · rename_i hs
          simp [hs]
      · simp [h, e]
theorem maskA_size : ∀ (l : List Nat) (a : Act), (maskA a l).tmps.size = a.tmps.size
  | [], _ => rfl
  | s :: l, a => by simp only [maskA]; rw [maskA_size l]; simp [Act.put]
theorem maskA_defers : ∀ (l : List Nat) (a : Act), (maskA a l).defers = a.defers
  | [], _ => rfl
  | s :: l, a => by simp only [maskA]; rw [maskA_defers l]; rfl
theorem maskA_exec {ops : Array Oper} {o : Oper} (hs : ∀ cs b, o.op ≠ .select cs b) : ∀ (l : List Nat) (a : Act), (∀ t, t ∈ l → t ∉ o.looksAt ops) → execOp (maskA a l).eval o = execOp a.eval o
  | [], _, _ => rfl
  | s :: l, a, h => by
    simp only [maskA]
    rw [maskA_exec hs l _ fun t ht => h t (List.mem_cons_of_mem _ ht)]
    exact execOp_put o hs a (some s) undef fun d hd => by cases hd; exact h s (by simp)
theorem maskA_wanted {ops : Array Oper} {o : Oper} : ∀ (l : List Nat) (a : Act), (∀ t, t ∈ l → t ∉ o.looksAt ops) → Region.wanted o (yielded ops (maskA a l).tmps) = Region.wanted o (yielded ops a.tmps)
  | [], _, _ => rfl
  | s :: l, a, h => by
    simp only [maskA]
    rw [maskA_wanted l _ fun t ht => h t (List.mem_cons_of_mem _ ht)]
    exact wanted_put o a (some s) undef fun d hd => by cases hd; exact h s (by simp)
def markH (h : Tr AObj) : List Nat → Tr AObj
  | [] => h
  | b :: l => markH (h.set .dead b) l
theorem get_markH : ∀ (l : List Nat) (h : Tr AObj) (b : Nat), (markH h l).get b = if b ∈ l then some .dead else h.get b
  | [], h, b => by simp [markH]
  | s :: l, h, b => by
    simp only [markH]
    rw [get_markH l]
    by_cases hb : b ∈ l
    · simp [hb]
    · by_cases e : b = s
      · subst e; simp [hb]
      · simp only [if_neg hb, List.mem_cons, e, false_or]
        rw [Tr.get_set_ne _ _ e]
end Go.RI
namespace Go.RI
variable [cx : Cx]
section
variable {G : Nat} {tt : TT} {P : Program} {cf : AV → List AV → St → Option (AV × St)}
theorem putT_inj {tm : Tr AV} {d : Option Nat} {v u : AV} (h : putT tm d v = putT tm d u) : ∀ t, d = some t → v = u := by
  intro t e; subst e
  simp only [putT] at h
  have := congrArg (fun x : Tr AV => x.get t) h
  simpa using this
theorem oper_val (hT : TTok P tt) (hcf : SCall P G cf) {N : Nat} {ops : Array Oper} {i : Nat} {o : Oper} {ao : AOper} (hi : ops[i]? = some o) (hc : compOper G tt N ops o = some ao) (hsel : ∀ cs b, o.op ≠ .select cs b)
    {fr : Fr} {st st' : St} {M : List Nat} (hM : ∀ t, t ∈ M → t ∉ o.looksAt ops) {v : AV} (hs : stepOp cf ao fr st = some ({ fr with tm := putT fr.tm ao.dst v }, st'))
    {F : Fence} {m : Nat} (hF1 : ∀ f, F.fn f) (hF2 : F.depth = none) {β : Bmap} {w : World} {a : Act} (hG : GRel G β) (hr : Rel β st w) (hf : FRl β N fr (maskA a M))
    {K : Act → World → Prop} {Q : Exit → Act → World → Prop} (hK : ∀ β' x w', Post β st w β' st' w' → (∀ t, ao.dst = some t → VRel β' v x) → K (a.put o.dst x) w') : wpOpIn F m P ops Q i K a w := by
  unfold compOper at hc
  split at hc
  case h_2 => cases hc
  rename_i g hg hdst
  cases hc
  unfold wpOpIn
  rw [hi]
  simp only
  rw [← maskA_wanted M a hM, wanted_rel hf hg]
  cases hwt : wantedA fr.tm g with
  | false =>
    rw [if_neg (by simp)]
    refine ⟨fun _ _ => hF1 _, ?_⟩
    unfold stepOp at hs
    simp only [hwt, Option.some.injEq, Prod.mk.injEq, Fr.mk.injEq, and_true] at hs
    obtain ⟨h1, rfl⟩ := hs
    exact hK β _ w (Post.refl hr) fun t ht => by rw [← putT_inj h1 t ht]; exact undef_rel β
  | true =>
    rw [if_pos rfl]
    cases hco : compOp G tt o with
    | none =>
      rw [hco] at hs
      unfold stepOp at hs
      simp only [hwt, Option.getD_none, aop] at hs
      cases hs
    | some aop' =>
      rw [hco] at hs
      refine ⟨fun _ _ => hF1 _, ?_⟩
      unfold stepOp at hs
      simp only [hwt] at hs
      have hnd : ∀ c, o.op ≠ .defer c := by
        intro c hc'
        simp [compOp, hc'] at hco
      rw [Oper.semAt_eq _ _ _ hnd, ← maskA_exec hsel M a hM]
      split at hs
      · rename_i rf rargs hcall0
        simp only [Option.getD_some] at hcall0
        subst hcall0
        split at hs
        case h_2 => cases hs
        rename_i u s1 hcall
        simp only [Option.some.injEq, Prod.mk.injEq, Fr.mk.injEq, and_true] at hs
        obtain ⟨h1, rfl⟩ := hs
        obtain ⟨f, args, ts, ho, q1, q2⟩ := compOp_call hco
        have hfv := rnd_rel (a := maskA a M) hG hf.tm q1
        have has := rndL_rel (a := maskA a M) hG hf.tm q2
        obtain ⟨d, hd1, hd2⟩ := hcf _ _ _ _ _ hcall F (m - 1) β w ((maskA a M).eval f) (args.toList.map (maskA a M).eval) hF1 hF2 hG hr hfv has
        have hex : (execOp (maskA a M).eval o).run P w = (invoke d.target d.args).run P w := by
          have : (args.toList.map (maskA a M).eval).toArray = args.map (maskA a M).eval := by rw [← Array.toList_map]
          rw [this] at hd1
          simp only [execOp, ho, resolve, Sem.run_bind, hd1, Result.andThen_ok]
        have fin : ∀ v' w', (∃ β', VRel β' u v' ∧ Post β st w β' s1 w') → K (a.put o.dst v') w' := by
          rintro v' w' ⟨β', hv', hp⟩
          exact hK β' _ _ hp fun t ht => by rw [← putT_inj h1 t ht]; exact hv'
        rw [hex]
        rcases hd2 with ⟨g', as', hi', hC⟩ | ⟨l, f', tmps, as', bd, hi', hC⟩ | ⟨v', w', hi', hC⟩
        · rw [hi', Oper.uponIn_enter]
          refine ⟨(fun h => by rw [hF2] at h; cases h), hC.mono fun e w' he => ?_⟩
          cases e with
          | returned v' => exact fin _ _ he
          | panicked _ => exact he.elim
          | outgrown => exact he.elim
        · rw [hi', Oper.uponIn_round]
          refine ⟨(fun h => by rw [hF2] at h; cases h), hC.mono fun e w' he => ?_⟩
          cases e with
          | returned v' => exact fin _ _ he
          | panicked _ => exact he.elim
          | outgrown => exact he.elim
        · rw [hi', Oper.uponIn_value]; exact fin _ _ hC
      · rename_i hne
        split at hs
        case h_2 => cases hs
        rename_i u s1 hao
        simp only [Option.some.injEq, Prod.mk.injEq, Fr.mk.injEq, and_true] at hs
        obtain ⟨h1, rfl⟩ := hs
        obtain ⟨β', v', w', hdone, hv', hp⟩ := aop_sound hT hG hr hf.tm hco _ _ hao
        have hput : ∀ t, o.dst = some t → VRel β' v v' := fun t ht => by rw [← putT_inj h1 t ht]; exact hv'
        rcases hdone with h | ⟨rfl, h⟩
        · rw [h, Oper.uponIn_value]; exact hK β' _ _ hp hput
        · rw [h, Oper.uponIn_skip]; exact hK β' _ _ hp hput
end
end Go.RI
namespace Go.RI
section
variable (T : Nat → Fr × St) (S : Nat → St)
abbrev nx (k : Nat) : Nat := (T k).2.next
abbrev hp (k b : Nat) : Option AObj := (T k).2.heap.get b
def wrote (k b : Nat) : Prop := (b ∈ (S k).log ∧ b < nx T k) ∨ (nx T k ≤ b ∧ b < nx T (k + 1))
def bcons (n : Nat) (L : Nat → Bool) (k b : Nat) : Prop := (∀ j, j < k → wrote T S j b → L j = true) ∧ (∀ j, k ≤ j → j < n → wrote T S j b → L j = false)
end
def dstAt (as : List AOper) (k : Nat) : Option Nat := (as[k]?).bind (·.dst)
def tcons (as : List AOper) (n : Nat) (L : Nat → Bool) (k t : Nat) : Prop := (∀ j, j < k → dstAt as j = some t → L j = true) ∧ (∀ j, k ≤ j → j < n → dstAt as j = some t → L j = false)
structure Reg (cf : AV → List AV → St → Option (AV × St)) (as : List AOper) (T : Nat → Fr × St) (S : Nat → St) (E : Nat → Eff) (n : Nat) : Prop where
  stepAt : ∀ k, k < n → StepAt cf as T S E k
  tame : TCall cf
theorem Alike.refl (l : List Nat) (tm : Tr AV) : Alike l tm tm := fun _ _ => rfl
section
variable {cf : AV → List AV → St → Option (AV × St)} {as : List AOper} {T : Nat → Fr × St} {S : Nat → St} {E : Nat → Eff} {n : Nat}
theorem Reg.heapS (R : Reg cf as T S E n) {k : Nat} (hk : k < n) (b : Nat) : hp T (k + 1) b = (S k).heap.get b := by
  have := (R.stepAt k hk).next; simp only [hp, this]
theorem Reg.nextS (R : Reg cf as T S E n) {k : Nat} (hk : k < n) : nx T (k + 1) = (S k).next := by
  have := (R.stepAt k hk).next; simp only [nx, this]
theorem Reg.tameS (R : Reg cf as T S E n) {k : Nat} (hk : k < n) : Tame { (T k).2 with thr := nx T k, log := [] } (S k) := by
  obtain ⟨ao, _, h, _⟩ := (R.stepAt k hk).step
  exact Tame.stepOp R.tame h
theorem Reg.mono1 (R : Reg cf as T S E n) {k : Nat} (hk : k < n) : nx T k ≤ nx T (k + 1) := by
  rw [R.nextS hk]; exact (R.tameS hk).keeps.next
theorem Reg.mono (R : Reg cf as T S E n) {k : Nat} : ∀ {l : Nat}, k ≤ l → l ≤ n → nx T k ≤ nx T l
  | 0, h, _ => by have : k = 0 := by omega
                  subst this; exact Nat.le_refl _
  | l + 1, h, hl => by
    rcases Nat.lt_or_ge l k with h' | h'
    · have : k = l + 1 := by omega
      subst this; exact Nat.le_refl _
    · exact Nat.le_trans (R.mono h' (by omega)) (R.mono1 (by omega))
theorem Reg.keep1 (R : Reg cf as T S E n) {k b : Nat} (hk : k < n) (hb : b < nx T k) (hl : b ∉ (S k).log) : hp T (k + 1) b = hp T k b := by
  rw [R.heapS hk]; exact (R.tameS hk).keeps.heap (Nat.le_refl _) b hb hl
theorem Reg.keep (R : Reg cf as T S E n) {k b : Nat} : ∀ {l : Nat}, k ≤ l → l ≤ n → b < nx T k → (∀ j, k ≤ j → j < l → ¬ wrote T S j b) → hp T l b = hp T k b
  | 0, h, _, _, _ => by have : k = 0 := by omega
                        subst this; rfl
  | l + 1, h, hl, hb, hw => by
    rcases Nat.lt_or_ge l k with h' | h'
    · have : k = l + 1 := by omega
      subst this; rfl
    · rw [R.keep1 (by omega) (Nat.lt_of_lt_of_le hb (R.mono h' (by omega))) fun hm => hw l h' (by omega) (.inl ⟨hm, Nat.lt_of_lt_of_le hb (R.mono h' (by omega))⟩)]
      exact R.keep h' (by omega) hb fun j h1 h2 => hw j h1 (by omega)
theorem Reg.stays (R : Reg cf as T S E n) {k b : Nat} : ∀ {l : Nat}, k ≤ l → l ≤ n → b < nx T k → Gone (hp T k b) → Gone (hp T l b)
  | 0, h, _, _, hg => by have : k = 0 := by omega
                         subst this; exact hg
  | l + 1, h, hl, hb, hg => by
    rcases Nat.lt_or_ge l k with h' | h'
    · have : k = l + 1 := by omega
      subst this; exact hg
    · rw [R.heapS (by omega)]
      exact (R.tameS (by omega)).stays b (Nat.lt_of_lt_of_le hb (R.mono h' (by omega))) (R.stays h' (by omega) hb hg)
theorem Reg.fr1 (R : Reg cf as T S E n) {k : Nat} (hk : k < n) : ∃ ao v, as[k]? = some ao ∧ (T (k + 1)).1 = { (T k).1 with tm := putT (T k).1.tm ao.dst v } := by
  obtain ⟨ao, h1, h, _⟩ := (R.stepAt k hk).step
  obtain ⟨v, hv, _⟩ := stepOp_val h 0 0 []
  exact ⟨ao, v, h1, hv⟩
theorem Reg.df (R : Reg cf as T S E n) : ∀ {k : Nat}, k ≤ n → (T k).1.df = (T 0).1.df
  | 0, _ => rfl
  | k + 1, hk => by
    obtain ⟨ao, v, _, hv⟩ := R.fr1 (k := k) (by omega)
    rw [hv]; exact R.df (k := k) (by omega)
theorem ev_putT_ne {tm : Tr AV} {d : Option Nat} {v : AV} {t : Nat} (h : d ≠ some t) : ev (putT tm d v) (.tmp t) = ev tm (.tmp t) := by
  cases d with
  | none => rfl
  | some s =>
    simp only [putT, ev]
    rw [Tr.get_set_ne _ _ (fun e => h (by rw [e]))]
theorem ev_putT_same {tm : Tr AV} {v : AV} {t : Nat} : ev (putT tm (some t) v) (.tmp t) = v := by simp [putT, ev]
theorem Reg.tmk (R : Reg cf as T S E n) {k t : Nat} : ∀ {l : Nat}, k ≤ l → l ≤ n → (∀ j, k ≤ j → j < l → dstAt as j ≠ some t) → ev (T l).1.tm (.tmp t) = ev (T k).1.tm (.tmp t)
  | 0, h, _, _ => by have : k = 0 := by omega
                     subst this; rfl
  | l + 1, h, hl, hw => by
    rcases Nat.lt_or_ge l k with h' | h'
    · have : k = l + 1 := by omega
      subst this; rfl
    · obtain ⟨ao, v, ha, hv⟩ := R.fr1 (k := l) (by omega)
      rw [hv]
      have hne : ao.dst ≠ some t := by
        have := hw l h' (by omega)
        unfold dstAt at this
        rw [ha] at this
        exact this
      show ev (putT (T l).1.tm ao.dst v) (.tmp t) = _
      rw [ev_putT_ne hne]
      exact R.tmk h' (by omega) fun j h1 h2 => hw j h1 (by omega)
theorem effOf_lo (o : AOper) (fr : Fr) (lo hi : Nat) (log : List Nat) : (effOf o fr lo hi log).lo = lo ∧ (effOf o fr lo hi log).hi = hi ∧ ((effOf o fr lo hi log).cls = .chain → (effOf o fr lo hi log).wr = log) := by
  unfold effOf; split
  · exact ⟨rfl, rfl, fun h => by cases h⟩
  · exact ⟨rfl, rfl, fun _ => rfl⟩
theorem Reg.eff (R : Reg cf as T S E n) {k : Nat} (hk : k < n) : (E k).lo = nx T k ∧ (E k).hi = nx T (k + 1) ∧ ((E k).cls = .chain → (E k).wr = (S k).log) := by
  obtain ⟨ao, _, _, h⟩ := (R.stepAt k hk).step
  rw [h, R.nextS hk]; exact effOf_lo _ _ _ _ _
theorem Reg.quiet (R : Reg cf as T S E n) {k : Nat} (hk : k < n) (hc : (E k).cls ≠ .chain) : (S k).log = [] := by
  obtain ⟨ao, _, hs, h⟩ := (R.stepAt k hk).step
  obtain ⟨v, _, q⟩ := stepOp_val hs (T k).2.next (S k).next (S k).log
  obtain ⟨_, _, q2, q3⟩ := q _ (Alike.refl _ _)
  rw [← h] at q2 q3
  cases e : (E k).cls with
  | chain => exact absurd e hc
  | load => rw [(q2 e).1]
  | pure =>
    rcases q3 e with ⟨h, _⟩ | ⟨ob, h, _⟩
    · rw [h]
    · rw [h]; rfl
theorem Reg.loadNx (R : Reg cf as T S E n) {k : Nat} (hk : k < n) (hc : (E k).cls = .load) : nx T (k + 1) = nx T k := by
  obtain ⟨ao, _, hs, h⟩ := (R.stepAt k hk).step
  obtain ⟨v, _, q⟩ := stepOp_val hs (T k).2.next (S k).next (S k).log
  obtain ⟨_, _, q2, q3⟩ := q _ (Alike.refl _ _)
  rw [← h] at q2
  rw [R.nextS hk, (q2 hc).1]
theorem Reg.pureNx (R : Reg cf as T S E n) {k : Nat} (hk : k < n) (hc : (E k).cls = .pure) : nx T (k + 1) ≤ nx T k + 1 := by
  obtain ⟨ao, _, hs, h⟩ := (R.stepAt k hk).step
  obtain ⟨v, _, q⟩ := stepOp_val hs (T k).2.next (S k).next (S k).log
  obtain ⟨_, _, q2, q3⟩ := q _ (Alike.refl _ _)
  rw [← h] at q3
  rw [R.nextS hk]
  rcases q3 hc with ⟨h, _⟩ | ⟨ob, h, _⟩
  · rw [h]; exact Nat.le_succ _
  · rw [h]; exact Nat.le_refl _
theorem Reg.irrelevant (R : Reg cf as T S E n) {i j : Nat} (hi : i < n) (hj : j < n) {a b : AOper} (ha : as[i]? = some a) (hb : as[j]? = some b) (hm : mayClash a b = false) : clash (E i) (E j) = false := by
  obtain ⟨a', ha', hsa, hea⟩ := (R.stepAt i hi).step
  obtain ⟨b', hb', hsb, heb⟩ := (R.stepAt j hj).step
  rw [ha] at ha'; cases ha'
  rw [hb] at hb'; cases hb'
  have cl : ∀ (o : AOper) (fr : Fr) lo hi log, (effOf o fr lo hi log).cls = .pure ∨ (effOf o fr lo hi log).cls = clsOf o.op := by
    intro o fr lo hi log
    unfold effOf; split
    · exact .inl rfl
    · exact .inr rfl
  have hca := cl a (T i).1 (T i).2.next (S i).next (S i).log
  have hcb := cl b (T j).1 (T j).2.next (S j).next (S j).log
  rw [← hea] at hca
  rw [← heb] at hcb
  have pureAny : ∀ w, clash (E i) (E j) = true → (E i).cls = .chain → (E j).cls = .pure → anyIn (E j).lo (E j).hi (E i).wr = w → w = true := by
    intro w h1 h2 h3 h4
    unfold clash at h1; rw [h2, h3] at h1; rw [← h4]; exact h1
  have empty : ∀ (lo hi : Nat) (l : List Nat), hi ≤ lo → anyIn lo hi l = false := by
    intro lo hi l h
    induction l with
    | nil => rfl
    | cons x l ih =>
      simp only [anyIn, ih, Bool.or_false]
      cases h1 : Nat.ble lo x with
      | false => rfl
      | true =>
        have := Nat.le_of_ble_eq_true h1
        have h2 : Nat.blt x hi = false := by
          cases hq : Nat.blt x hi with
          | false => rfl
          | true => have : x < hi := Nat.le_of_ble_eq_true hq; omega
        rw [h2]; rfl
  cases hq : clash (E i) (E j) with
  | false => rfl
  | true =>
    exfalso
    rcases hca with ha1 | ha1
    · unfold clash at hq; rw [ha1] at hq; cases hq
    · rcases hcb with hb1 | hb1
      ·
        cases hc : clsOf a.op with
        | pure => unfold clash at hq; rw [ha1, hc] at hq; cases hq
        | load => unfold clash at hq; rw [ha1, hc, hb1] at hq; cases hq
        | chain =>
          have hnx : (S j).next ≤ (T j).2.next := by
            by_cases hcb2 : clsOf b.op = .pure
            · have hmk : makes b.op = false := by unfold mayClash at hm; rw [hc, hcb2] at hm; exact hm
              unfold stepOp at hsb
              split at hsb
              · simp only [Option.some.injEq, Prod.mk.injEq] at hsb
                rw [← hsb.2]; exact Nat.le_refl _
              · split at hsb
                · rename_i e; rw [e] at hcb2; cases hcb2
                · split at hsb
                  · rename_i hao
                    simp only [Option.some.injEq, Prod.mk.injEq] at hsb
                    rw [← hsb.2, makes_spec hcb2 hmk hao]; exact Nat.le_refl _
                  · cases hsb
            ·
              unfold stepOp at hsb
              split at hsb
              · simp only [Option.some.injEq, Prod.mk.injEq] at hsb
                rw [← hsb.2]; exact Nat.le_refl _
              · rename_i hw
                rw [heb] at hb1
                unfold effOf at hb1
                rw [hw] at hb1
                exact absurd hb1 hcb2
          have hlo := (R.eff hj).1
          have hhi := (R.eff hj).2.1
          rw [R.nextS hj] at hhi
          have := pureAny _ hq (ha1.trans hc) hb1 rfl
          rw [hlo, hhi, empty _ _ _ hnx] at this; cases this
      · unfold mayClash at hm
        unfold clash at hq
        rw [ha1, hb1] at hq
        cases hc : clsOf a.op <;> cases hd : clsOf b.op <;> rw [hc, hd] at hm hq
        all_goals first | (cases hm; done) | (cases hq; done) | skip
        have hmk : makes b.op = false := hm
        have hnx : (S j).next ≤ (T j).2.next := by
          unfold stepOp at hsb
          split at hsb
          · simp only [Option.some.injEq, Prod.mk.injEq] at hsb
            rw [← hsb.2]; exact Nat.le_refl _
          · split at hsb
            · rename_i e; rw [e] at hd; cases hd
            · split at hsb
              · rename_i hao
                simp only [Option.some.injEq, Prod.mk.injEq] at hsb
                rw [← hsb.2, makes_spec hd hmk hao]; exact Nat.le_refl _
              · cases hsb
        have hlo := (R.eff hj).1
        have hhi := (R.eff hj).2.1
        rw [R.nextS hj] at hhi
        rw [hlo, hhi, empty _ _ _ hnx] at hq; cases hq
theorem Reg.maker (R : Reg cf as T S E n) {i j b : Nat} (hi : i < n) (hj : j < n) (h1 : nx T i ≤ b) (h2 : b < nx T (i + 1)) (h3 : nx T j ≤ b) (h4 : b < nx T (j + 1)) : i = j := by
  rcases Nat.lt_trichotomy i j with h | h | h
  · have := R.mono (k := i + 1) (l := j) h (by omega); omega
  · exact h
  · have := R.mono (k := j + 1) (l := i) h (by omega); omega
theorem Reg.consSame (R : Reg cf as T S E n) {L : Nat → Bool} {k1 k2 b : Nat} (h1 : k1 ≤ n) (h2 : k2 ≤ n) (c1 : bcons T S n L k1 b) (c2 : bcons T S n L k2 b) (b1 : b < nx T k1) (b2 : b < nx T k2) : hp T k1 b = hp T k2 b := by
  have key : ∀ k1 k2, k1 ≤ k2 → k2 ≤ n → bcons T S n L k1 b → bcons T S n L k2 b → b < nx T k1 → hp T k2 b = hp T k1 b := by
    intro k1 k2 hle h2 c1 c2 b1
    refine R.keep hle h2 b1 fun j h3 h4 hw => ?_
    have := c1.2 j h3 (by omega) hw
    rw [c2.1 j h4 hw] at this; cases this
  rcases Nat.le_total k1 k2 with h | h
  · exact (key k1 k2 h h2 c1 c2 b1).symm
  · exact key k2 k1 h h1 c2 c1 b2
end
end Go.RI
namespace Go.RI
variable [cx : Cx]
structure Inv (as : List AOper) (T : Nat → Fr × St) (S : Nat → St) (E : Nat → Eff) (n N : Nat) (β0 : Bmap) (w0 : World) (L : Nat → Bool) (β : Bmap) (a : Act) (W : World) : Prop where
  size : N ≤ a.tmps.size
  df : DRel β0 (T 0).1.df a.defers
  temps : ∀ t k, k ≤ n → tcons as n L k t → VRel (below (nx T k) β) (ev (T k).1.tm (.tmp t)) (a.tmps.getD t undef)
  ext : Ext β0 β
  old : ∀ b, b < nx T 0 → β b = β0 b
  made : ∀ b im, β b = some im → nx T 0 ≤ b → ∃ j, j < n ∧ L j = true ∧ nx T j ≤ b ∧ b < nx T (j + 1)
  lt : ∀ b im, β b = some im → im.blk < W.heap.size
  obj : ∀ k b o im, k ≤ n → bcons T S n L k b → b < nx T k → hp T k b = some o → β b = some im → ORel (below (nx T k) β) W o im
  sep : ∀ k b1 b2 o1 o2 im1 im2, k ≤ n → bcons T S n L k b1 → bcons T S n L k b2 → b1 < nx T k → b2 < nx T k → b1 ≠ b2 → hp T k b1 = some o1 → hp T k b2 = some o2 → β b1 = some im1 → β b2 = some im2 →
    im1.blk = im2.blk → o1 ≠ .dead → o2 ≠ .dead → (o1.kin = some b2 ∧ o2.kin = some b1 ∧ im1 = im2)
  iso : ∀ j b b' im im', j < n → L j = true → (E j).cls = .pure → nx T j ≤ b → b < nx T (j + 1) → (∀ k, j < k → k < n → (E k).cls = .chain → L k = false) → β b = some im → b' ≠ b → β b' = some im' → im'.blk ≠ im.blk
  hold : ∀ b im, nx T 0 ≤ b → β b = some im → im.blk < w0.heap.size → ∃ b0 im0, β0 b0 = some im0 ∧ im0.blk = im.blk ∧ ¬ Gone (hp T 0 b0) ∧ ((∃ j, j < n ∧ L j = true ∧ b0 ∈ (S j).log) ∨ (T 0).2.thr ≤ b0)
  os : W.os = w0.os
  tape : W.tape = w0.tape
  output : W.output = w0.output
  grows : w0.heap.size ≤ W.heap.size
  thr : (T 0).2.thr ≤ nx T 0
  blk : ∀ c, c < w0.heap.size → (∀ b im, β b = some im → im.blk = c → b < (T 0).2.thr ∧ ∀ j, j < n → L j = true → b ∉ (S j).log) → W.heap[c]? = w0.heap[c]?
section
variable {cf : AV → List AV → St → Option (AV × St)} {as : List AOper} {T : Nat → Fr × St} {S : Nat → St} {E : Nat → Eff} {n N : Nat} {β0 : Bmap} {w0 : World}
theorem Inv.start (R : Reg cf as T S E n) {a : Act} (hr : Rel β0 (T 0).2 w0) (hf : FRl β0 N (T 0).1 a) : Inv as T S E n N β0 w0 (fun _ => false) β0 a w0 := by
  have up : ∀ k, k ≤ n → Ext β0 (below (nx T k) β0) := fun k hk => below_all (fun b im hb => Nat.lt_of_lt_of_le (hr.lt b im hb).1 (R.mono (Nat.zero_le k) hk)) (Ext.refl _)
  have back : ∀ k b im, k ≤ n → bcons T S n (fun _ => false) k b → β0 b = some im → hp T k b = hp T 0 b := by
    intro k b im hk hc hb
    refine R.keep (Nat.zero_le k) hk (hr.lt b im hb).1 fun j _ h2 hw => ?_
    have := hc.1 j h2 hw; cases this
  refine { size := hf.size, df := hf.df, temps := ?_, ext := Ext.refl _, old := fun _ _ => rfl, made := fun b im hb hge => absurd (hr.lt b im hb).1 (Nat.not_lt.2 hge), lt := fun b im hb => (hr.lt b im hb).2, obj := ?_, sep := ?_,
           iso := fun j b b' im im' _ h => absurd h (by simp), hold := fun b im hge hb _ => absurd (hr.lt b im hb).1 (Nat.not_lt.2 hge), os := rfl, tape := rfl, output := rfl, grows := Nat.le_refl _, thr := hr.thr_le, blk := fun _ _ _ => rfl }
  · intro t k hk hc
    have : ev (T k).1.tm (.tmp t) = ev (T 0).1.tm (.tmp t) := R.tmk (Nat.zero_le k) hk fun j _ h2 hw => by
      have := hc.1 j h2 hw; cases this
    rw [this]
    exact (hf.tm t).mono (up k hk)
  · intro k b o im hk hc hb ho hi
    rw [back k b im hk hc hi] at ho
    exact (hr.obj b o im ho hi).mono (up k hk) rfl
  · intro k b1 b2 o1 o2 im1 im2 hk c1 c2 _ _ hne g1 g2 i1 i2 hblk d1 d2
    rw [back k b1 im1 hk c1 i1] at g1
    rw [back k b2 im2 hk c2 i2] at g2
    exact hr.sep b1 b2 o1 o2 im1 im2 hne g1 g2 i1 i2 hblk d1 d2
structure Next (as : List AOper) (T : Nat → Fr × St) (S : Nat → St) (E : Nat → Eff) (n : Nat) (L : Nat → Bool) (i : Nat) : Prop where
  lt : i < n
  new : L i = false
  early : ∀ j, j < i → L j = false → clash (E i) (E j) = false
  late : ∀ k, i < k → k < n → L k = true → clash (E k) (E i) = false
  apart : ∀ j t, j < n → (j < i ∧ L j = false ∨ i < j ∧ L j = true) → dstAt as j = some t → (∀ o, as[i]? = some o → t ∉ o.looks) ∧ dstAt as i ≠ some t
section
variable {L : Nat → Bool} {β : Bmap} {a : Act} {W : World} {i : Nat}
omit cx in
theorem Next.chainEarly (X : Next as T S E n L i) (hc : (E i).cls = .chain) {j : Nat} (hj : j < i) (hcj : (E j).cls = .chain) : L j = true := by
  cases h : L j with
  | true => rfl
  | false => have := X.early j hj h; unfold clash at this; rw [hc, hcj] at this; cases this
omit cx in
theorem Next.chainLate (X : Next as T S E n L i) (hc : (E i).cls = .chain) {k : Nat} (hk : i < k) (hkn : k < n) (hck : (E k).cls = .chain) : L k = false := by
  cases h : L k with
  | false => rfl
  | true => have := X.late k hk hkn h; unfold clash at this; rw [hc, hck] at this; cases this
theorem Inv.wroteL (I : Inv as T S E n N β0 w0 L β a W) (R : Reg cf as T S E n) {j b : Nat} {im : Img} (hj : j < n) (hb : β b = some im) (hw : wrote T S j b) : (E j).cls = .chain ∧ b ∈ (S j).log ∨ L j = true ∧ nx T j ≤ b ∧ b < nx T (j + 1) := by
  rcases hw with ⟨h, _⟩ | ⟨h1, h2⟩
  · refine .inl ⟨?_, h⟩
    cases hc : (E j).cls with
    | chain => rfl
    | load => rw [R.quiet hj (by rw [hc]; simp)] at h; cases h
    | pure => rw [R.quiet hj (by rw [hc]; simp)] at h; cases h
  · obtain ⟨j', hj', hL, h3, h4⟩ := I.made b im hb (Nat.le_trans (R.mono (Nat.zero_le j) (by omega)) h1)
    have := R.maker hj hj' h1 h2 h3 h4
    subst this
    exact .inr ⟨hL, h1, h2⟩
def outLogs (S : Nat → St) (n : Nat) (L : Nat → Bool) (i : Nat) : List Nat := (List.range n).flatMap fun j => if j < i ∧ L j = false ∨ i < j ∧ L j = true then (S j).log else []
omit cx in
theorem mem_outLogs {S : Nat → St} {n : Nat} {L : Nat → Bool} {i b : Nat} : b ∈ outLogs S n L i ↔ ∃ j, j < n ∧ (j < i ∧ L j = false ∨ i < j ∧ L j = true) ∧ b ∈ (S j).log := by
  unfold outLogs
  rw [List.mem_flatMap]
  constructor
  · rintro ⟨j, hj, hb⟩
    split at hb
    · rename_i h; exact ⟨j, List.mem_range.1 hj, h, hb⟩
    · cases hb
  · rintro ⟨j, hj, h, hb⟩
    exact ⟨j, List.mem_range.2 hj, by rw [if_pos h]; exact hb⟩
theorem Inv.consAt (I : Inv as T S E n N β0 w0 L β a W) (R : Reg cf as T S E n) (X : Next as T S E n L i) {b : Nat} {im : Img} (hb : β b = some im) (hlt : b < nx T i) (hout : b ∉ outLogs S n L i) : bcons T S n L i b := by
  constructor
  · intro j hj hw
    have := X.lt
    rcases I.wroteL R (by omega) hb hw with ⟨_, h⟩ | ⟨h, _⟩
    · cases hL : L j with
      | true => rfl
      | false => exact absurd (mem_outLogs.2 ⟨j, by omega, .inl ⟨hj, hL⟩, h⟩) hout
    · exact h
  · intro j hj hjn hw
    rcases Nat.lt_or_ge i j with h' | h'
    · cases hL : L j with
      | false => rfl
      | true =>
        rcases I.wroteL R hjn hb hw with ⟨_, h⟩ | ⟨_, h, _⟩
        · exact absurd (mem_outLogs.2 ⟨j, hjn, .inr ⟨h', hL⟩, h⟩) hout
        · have := R.mono (k := i) (l := j) hj (by omega); omega
    · have : j = i := by omega
      subst this; exact X.new
omit cx in
theorem chain_outLogs (R : Reg cf as T S E n) (X : Next as T S E n L i) (hc : (E i).cls = .chain) (b : Nat) : b ∉ outLogs S n L i := by
  intro hb
  obtain ⟨j, hj, h, hm⟩ := mem_outLogs.1 hb
  have hcj : (E j).cls = .chain := by
    cases hq : (E j).cls with
    | chain => rfl
    | load => rw [R.quiet hj (by rw [hq]; simp)] at hm; cases hm
    | pure => rw [R.quiet hj (by rw [hq]; simp)] at hm; cases hm
  rcases h with ⟨h1, h2⟩ | ⟨h1, h2⟩
  · rw [X.chainEarly hc h1 hcj] at h2; cases h2
  · rw [X.chainLate hc h1 hj hcj] at h2; cases h2
structure Ahead (cf : AV → List AV → St → Option (AV × St)) (T : Nat → Fr × St) (S : Nat → St) (E : Nat → Eff) (β : Bmap) (W : World) (i : Nat) (ao : AOper) (v : AV) (X X1 : St) : Prop where
  rel : Rel (below (nx T i) β) X W
  next : X.next = nx T i
  thr : X.thr = nx T i
  log : X.log = []
  step : ∀ tm', Alike ao.looks (T i).1.tm tm' → stepOp cf ao { (T i).1 with tm := tm' } X = some ({ (T i).1 with tm := putT tm' ao.dst v }, X1)
  next1 : X1.next = nx T (i + 1)
  log1 : X1.log = (S i).log
  wrote : ∀ b, wrote T S i b → X1.heap.get b = hp T (i + 1) b
  chain : (E i).cls = .chain → ∀ b, X.heap.get b = hp T i b ∧ X1.heap.get b = hp T (i + 1) b
  pure : (E i).cls = .pure → ∀ b, b < nx T i → Gone (X.heap.get b)
theorem Inv.ahead (I : Inv as T S E n N β0 w0 L β a W) (R : Reg cf as T S E n) (X : Next as T S E n L i) : ∃ ao v X0 X1, as[i]? = some ao ∧ (T (i + 1)).1 = { (T i).1 with tm := putT (T i).1.tm ao.dst v } ∧ Ahead cf T S E β W i ao v X0 X1 := by
  obtain ⟨ao, hao, hs, hE⟩ := (R.stepAt i X.lt).step
  obtain ⟨v, hv, q⟩ := stepOp_val hs (T i).2.next (S i).next (S i).log
  rw [← hE] at q
  have hlt : ∀ b im, below (nx T i) β b = some im → b < nx T i ∧ im.blk < W.heap.size := fun b im hb => ⟨(below_some.1 hb).1, I.lt b im (below_some.1 hb).2⟩
  have hn1 := R.nextS X.lt
  cases hc : (E i).cls with
  | chain =>
    refine ⟨ao, v, { (T i).2 with thr := (T i).2.next, log := [] }, S i, hao, hv, ⟨?_, hlt, ?_, Nat.le_refl _⟩, rfl, rfl, rfl, fun tm' ha => (q tm' ha).2.1 hc, hn1.symm, rfl, fun b _ => (R.heapS X.lt b).symm, fun _ b => ⟨rfl, (R.heapS X.lt b).symm⟩, fun h => by rw [hc] at h; cases h⟩
    · intro b o im hg hi
      obtain ⟨h1, h2⟩ := below_some.1 hi
      exact I.obj i b o im (Nat.le_of_lt X.lt) (I.consAt R X h2 h1 (chain_outLogs R X hc b)) h1 hg h2
    · intro b1 b2 o1 o2 im1 im2 hne g1 g2 i1 i2 hblk d1 d2
      obtain ⟨p1, p2⟩ := below_some.1 i1
      obtain ⟨r1, r2⟩ := below_some.1 i2
      exact I.sep i b1 b2 o1 o2 im1 im2 (Nat.le_of_lt X.lt) (I.consAt R X p2 p1 (chain_outLogs R X hc _)) (I.consAt R X r2 r1 (chain_outLogs R X hc _)) p1 r1 hne g1 g2 p2 r2 hblk d1 d2
  | load =>
    have hS := ((q _ (Alike.refl _ _)).2.2.1 hc).1
    have hrd : ∀ b, b ∈ (E i).rd → b ∉ outLogs S n L i := by
      intro b hb hm
      obtain ⟨j, hj, h, hl⟩ := mem_outLogs.1 hm
      have hcj : (E j).cls = .chain := by
        cases hq : (E j).cls with
        | chain => rfl
        | load => rw [R.quiet hj (by rw [hq]; simp)] at hl; cases hl
        | pure => rw [R.quiet hj (by rw [hq]; simp)] at hl; cases hl
      have hwr := (R.eff hj).2.2 hcj
      have meet : meets (E j).wr (E i).rd = true := by
        have : ∀ (l r : List Nat), b ∈ l → b ∈ r → meets l r = true := by
          intro l r h1 h2
          induction l with
          | nil => cases h1
          | cons x l ih =>
            simp only [meets]
            split
            · rfl
            · rename_i hx
              rcases List.mem_cons.1 h1 with rfl | h1
              · rw [(mem_memN r _).2 h2] at hx; cases hx
              · exact ih h1
        exact this _ _ (by rw [hwr]; exact hl) hb
      rcases h with ⟨h1, h2⟩ | ⟨h1, h2⟩
      · have := X.early j h1 h2
        unfold clash at this; rw [hc, hcj] at this
        rw [meet] at this; cases this
      · have := X.late j h1 hj h2
        unfold clash at this; rw [hc, hcj] at this
        rw [meet] at this; cases this
    refine ⟨ao, v, { heap := markH (T i).2.heap (outLogs S n L i), next := (T i).2.next, thr := (T i).2.next, log := [] }, { heap := markH (T i).2.heap (outLogs S n L i), next := (T i).2.next, thr := (T i).2.next, log := [] },
      hao, hv, ⟨?_, hlt, ?_, Nat.le_refl _⟩, rfl, rfl, rfl, fun tm' ha => ((q tm' ha).2.2.1 hc).2 _ ?_, ?_, ?_, ?_, ?_, ?_⟩
    · intro b o im hg hi
      obtain ⟨h1, h2⟩ := below_some.1 hi
      simp only [get_markH] at hg
      split at hg
      · cases hg; trivial
      · rename_i hn
        exact I.obj i b o im (Nat.le_of_lt X.lt) (I.consAt R X h2 h1 hn) h1 hg h2
    · intro b1 b2 o1 o2 im1 im2 hne g1 g2 i1 i2 hblk d1 d2
      obtain ⟨p1, p2⟩ := below_some.1 i1
      obtain ⟨r1, r2⟩ := below_some.1 i2
      simp only [get_markH] at g1 g2
      split at g1
      · cases g1; exact absurd rfl d1
      · rename_i n1
        split at g2
        · cases g2; exact absurd rfl d2
        · rename_i n2
          exact I.sep i b1 b2 o1 o2 im1 im2 (Nat.le_of_lt X.lt) (I.consAt R X p2 p1 n1) (I.consAt R X r2 r1 n2) p1 r1 hne g1 g2 p2 r2 hblk d1 d2
    · intro b hb
      simp only [get_markH]
      rw [if_neg (hrd b hb)]
    · rw [R.loadNx X.lt hc]
    · rw [R.quiet X.lt (by rw [hc]; simp)]
    · intro b hw
      rcases hw with ⟨h, _⟩ | ⟨h1, h2⟩
      · rw [R.quiet X.lt (by rw [hc]; simp)] at h; cases h
      · rw [R.loadNx X.lt hc] at h2; omega
    · intro h; rw [hc] at h; cases h
    · intro h; rw [hc] at h; cases h
  | pure =>
    have rel : Rel (below (nx T i) β) { heap := .e, next := (T i).2.next, thr := (T i).2.next, log := [] } W :=
      ⟨fun b o im hg _ => (by rw [Tr.get_e] at hg; cases hg), hlt, fun b1 b2 o1 o2 im1 im2 _ g1 => (by rw [Tr.get_e] at g1; cases g1), Nat.le_refl _⟩
    have hq : (S i).log = [] := R.quiet X.lt (by rw [hc]; simp)
    rcases (q _ (Alike.refl _ _)).2.2.2 hc with ⟨hS, _⟩ | ⟨ob, hS, _⟩
    · have hnx : nx T (i + 1) = nx T i := by rw [hn1, hS]
      refine ⟨ao, v, { heap := .e, next := (T i).2.next, thr := (T i).2.next, log := [] }, { heap := .e, next := (T i).2.next, thr := (T i).2.next, log := [] }, hao, hv, rel, rfl, rfl, rfl, fun tm' ha => ?_, ?_, ?_, ?_, ?_, ?_⟩
      · rcases (q tm' ha).2.2.2 hc with ⟨_, h⟩ | ⟨ob, h, _⟩
        · exact h _ rfl
        · have := congrArg St.next (hS.symm.trans h)
          simp [St.new] at this
      · exact hnx.symm
      · rw [hq]
      · intro b hw
        rcases hw with ⟨h, _⟩ | ⟨h1, h2⟩
        · rw [hq] at h; cases h
        · omega
      · intro h; rw [hc] at h; cases h
      · intro _ b _; rw [Tr.get_e]; trivial
    · refine ⟨ao, v, { heap := .e, next := (T i).2.next, thr := (T i).2.next, log := [] }, St.new { heap := .e, next := (T i).2.next, thr := (T i).2.next, log := [] } ob, hao, hv, rel, rfl, rfl, rfl, fun tm' ha => ?_, ?_, ?_, ?_, ?_, ?_⟩
      · rcases (q tm' ha).2.2.2 hc with ⟨h, _⟩ | ⟨ob', h, h'⟩
        · have := congrArg St.next (hS.symm.trans h)
          simp [St.new] at this
        · have he : ob' = ob := by
            have := congrArg (fun s : St => s.heap.get (T i).2.next) (hS.symm.trans h)
            simp [St.new] at this
            exact this.symm
          subst he
          exact h' _ rfl
      · rw [hn1, hS]; rfl
      · rw [hq]; rfl
      · intro b hw
        rcases hw with ⟨h, _⟩ | ⟨h1, h2⟩
        · rw [hq] at h; cases h
        · have : nx T (i + 1) = (T i).2.next + 1 := by rw [hn1, hS]; rfl
          have hb : b = (T i).2.next := by
            have h1' : (T i).2.next ≤ b := h1
            omega
          subst hb
          rw [R.heapS X.lt, hS]
          simp [St.new]
      · intro h; rw [hc] at h; cases h
      · intro _ b _; rw [Tr.get_e]; trivial
end
end
end Go.RI
