/- A compiler from bodies of Go functions into a small language of values and blocks, and the proof that a run of the compiled text is a run of the program. Conditions: none. -/
import Derived.Test.YtaplnebenndkgaaGreatDoorT06
set_option linter.all false
namespace Go.RI
variable [cx : Cx]
section
variable {G : Nat} {tt : TT} {P : Program}
theorem ops_sound (hT : TTok P tt) {cf : AV → List AV → St → Option (AV × St)} (hcf : SCall P G cf) {N : Nat} {ops : Array Oper} {F : Fence} {m : Nat} (hF1 : ∀ f, F.fn f) (hF2 : F.depth = none) {Q : Exit → Act → World → Prop} :
    ∀ (l : List Oper) (i : Nat) (as : List AOper), ops.toList.drop i = l → compOpers G tt N ops l = some as → ∀ (fr fr' : Fr) (st st' : St), runOps cf as fr st = some (fr', st') → ∀ (β : Bmap) (w : World) (a : Act), GRel G β → Rel β st w → FRl β N fr a →
      (∀ β' a' w', Post β st w β' st' w' → FRl β' N fr' a' → Q .normal a' w') → wpOpsIn F m P ops Q (List.range' i l.length) a w
  | [], i, as, hd, hc, fr, fr', st, st', h, β, w, a, hG, hr, hf, hQ => by
    simp only [compOpers, Option.some.injEq] at hc; subst hc
    simp only [runOps, Option.some.injEq, Prod.mk.injEq] at h
    obtain ⟨rfl, rfl⟩ := h
    exact hQ β a w (Post.refl hr) hf
  | o :: l, i, as, hd, hc, fr, fr', st, st', h, β, w, a, hG, hr, hf, hQ => by
    have hoi : ops[i]? = some o := by
      have := congrArg (fun l : List Oper => l[0]?) hd
      simpa using this
    have hd' : ops.toList.drop (i + 1) = l := by
      rw [← List.drop_drop, hd]; rfl
    simp only [compOpers] at hc
    split at hc
    case h_2 => cases hc
    rename_i ao as' hao has
    cases hc
    simp only [runOps] at h
    split at h
    case h_2 => cases h
    rename_i fr1 st1 hstep
    unfold compOper at hao
    split at hao
    case h_2 => cases hao
    rename_i g hg hdst
    cases hao
    rw [List.length_cons, List.range'_succ, wpOpsIn_cons]
    unfold wpOpIn
    rw [hoi]
    simp only
    have hwr := wanted_rel hf hg
    have next : ∀ β' a' w', Post β st w β' st1 w' → FRl β' N fr1 a' → wpOpsIn F m P ops Q (List.range' (i + 1) l.length) a' w' := by
      intro β' a' w' hp hfr
      exact ops_sound hT hcf hF1 hF2 l (i + 1) as' hd' has fr1 fr' st1 st' h β' w' a' (hG.mono hp.ext) hp.rel hfr fun β2 a2 w2 hp2 hf2 => hQ β2 a2 w2 (hp.trans hp2) hf2
    cases hwt : wantedA fr.tm g with
    | true =>
      rw [hwr, hwt, if_pos rfl]
      cases hco : compOp G tt o with
      | none =>
        rw [hco] at hstep
        unfold stepOp at hstep
        simp only [hwt, Option.getD_none, aop] at hstep
        cases hstep
      | some ao =>
        rw [hco] at hstep
        exact oper_wanted hT hcf hco hdst hstep hwt hF1 hF2 hG hr hf next
    | false =>
      rw [hwr, hwt, if_neg (by simp)]
      refine ⟨fun _ _ => hF1 _, ?_⟩
      unfold stepOp at hstep
      simp only [hwt, Option.some.injEq, Prod.mk.injEq] at hstep
      obtain ⟨rfl, rfl⟩ := hstep
      exact next β _ w (Post.refl hr) (hf.put hdst (undef_rel β))
def SDraw (P : Program) (G : Nat) (tt : TT) (cf : AV → List AV → St → Option (AV × St)) : Prop :=
  ∀ N (ops : Array Oper) as fr st fr' st', compOpers G tt N ops ops.toList = some as → (apartAll ops (unordered ops) && apartA as (unordered ops)) = true → runDraw cf as (relevant as (unordered ops)) 0 [] fr st = some (fr', st') →
    ∀ id (F : Fence) (m : Nat) (β : Bmap) (w : World) (a : Act), (∀ f, F.fn f) → F.depth = none → GRel G β → Rel β st w → FRl β N fr a → (Code.region id ops true).wpIn F m P (OutQ β st w N .normal fr' st') a w
def LoopIn (F : Fence) (n : Nat) (P : Program) (c : Code) (Q : Exit → Act → World → Prop) (a : Act) (w : World) : Prop :=
  ∀ (b : Frame) (k : List Item) (cs : List Frame), b.roundOf = F.round → F.fn b.fn → F.room (cs.length + 1 + n) →
    ∃ e a' w', Q e a' w' ∧ ArrivesIn (Machine.fenced P F) P (lone (b.atR a (.code c :: .inLoop c :: k)) cs w) b k cs e a' w'
omit cx in
theorem wpIn_of_loopIn {F : Fence} {n : Nat} {c : Code} {Q : Exit → Act → World → Prop} {a : Act} {w : World} (h : LoopIn F n P c Q a w) : (Code.loop c).wpIn F n P Q a w := by
  intro b k cs hro hb hr
  obtain ⟨e, a', w', hq, harr⟩ := h b k cs hro hb hr
  exact ⟨e, a', w', hq, .of_steps (.one (fenced_calm hb hr rfl) stepR_loop) harr⟩
omit cx in
theorem loopIn_step {F : Fence} {n : Nat} {c : Code} {Q : Exit → Act → World → Prop} {a : Act} {w : World} (h : c.wpIn F n P (Exit.then (LoopIn F n P c Q) Q) a w) : LoopIn F n P c Q a w := by
  intro b k cs hro hb hr
  obtain ⟨e, a₁, w₁, hq, harr⟩ := h b (.inLoop c :: k) cs hro hb hr
  cases e with
  | normal =>
    obtain ⟨e₂, a₂, w₂, hq₂, harr₂⟩ := hq b k cs hro hb hr
    exact ⟨e₂, a₂, w₂, hq₂, .of_steps (StepsIn.trans harr (.one (fenced_calm hb hr rfl) stepR_inLoop)) harr₂⟩
  | exit id => exact ⟨_, a₁, w₁, hq, .pass (x := .inLoop c) rfl (fun _ _ => .inl (by simp)) harr⟩
  | goto l => exact ⟨_, a₁, w₁, hq, .pass (x := .inLoop c) rfl (fun _ _ => .inl (by simp)) harr⟩
  | ret => exact ⟨_, a₁, w₁, hq, .pass (x := .inLoop c) rfl (fun _ _ => .inl (by simp)) harr⟩
  | panic ch => exact ⟨_, a₁, w₁, hq, .pass (x := .inLoop c) rfl (fun _ _ => .inl (by simp)) harr⟩
  | outgrown => exact ⟨_, a₁, w₁, hq, .pass (x := .inLoop c) rfl (fun _ _ => .inl (by simp)) harr⟩
def SLoop (P : Program) (G : Nat) (tt : TT) (R : ACode → Fr → St → Option (AOut × Fr × St)) : Prop :=
  ∀ N ir code c, compCode G tt N ir code = some c → ∀ fr st out fr' st', R (.loop c) fr st = some (out, fr', st') → ∀ (F : Fence) (m : Nat) (β : Bmap) (w : World) (a : Act), FenceOk F ir → GRel G β → Rel β st w → FRl β N fr a →
    LoopIn F m P code (OutQ β st w N out fr' st') a w
theorem OutQ.later {β β1 : Bmap} {st st1 : St} {w w1 : World} (hp : Post β st w β1 st1 w1) {N : Nat} {out : AOut} {fr' : Fr} {st' : St} {e : Exit} {a' : Act} {w' : World} (h : OutQ β1 st1 w1 N out fr' st' e a' w') : OutQ β st w N out fr' st' e a' w' := by
  obtain ⟨he, β2, h1, h2⟩ := h
  exact ⟨he, β2, hp.trans h1, h2⟩
theorem OutQ.then {β : Bmap} {st : St} {w : World} {N : Nat} {K : Act → World → Prop} {Q : Exit → Act → World → Prop} {fr1 : Fr} {st1 : St} {out : AOut} {e : Exit} {a1 : Act} {w1 : World} (h : OutQ β st w N out fr1 st1 e a1 w1)
    (hn : out = .normal → ∀ β1, Post β st w β1 st1 w1 → FRl β1 N fr1 a1 → K a1 w1) (he : out ≠ .normal → Q e a1 w1) : Exit.then K Q e a1 w1 := by
  obtain ⟨h1, β1, h2, h3⟩ := h
  cases out with
  | normal => cases e <;> first | exact h1.elim | exact hn rfl β1 h2 h3
  | exit i => cases e <;> first | exact h1.elim | exact he (by simp)
  | ret => cases e <;> first | exact h1.elim | exact he (by simp)
theorem range_sound (hT : TTok P tt) (hcx : CxOk G tt) {R : ACode → Fr → St → Option (AOut × Fr × St)} (ihR : SRun P G tt R) {N : Nat} {g : Operand} {ps : Array Tmp} {as bd : Code} {gf : Nat} {first cap : List AV} {ca cb : ACode}
    (h2 : compCode G tt N true as = some ca) (h3 : compCode G tt N true bd = some cb) {fr fr' : Fr} {st st' st3 : St} {out : AOut} {f : Func} {fn : AFn} (p1 : P.funcs[gf]? = some f) (p2 : compFn G tt f = some fn) (p3 : (f.name == "runtime.NumGoroutine") = false)
    {c : Code} (hbody : f.body = some c) {F : Fence} {m : Nat} {ir : Bool} {β : Bmap} {w : World} {a : Act} (hF : FenceOk F ir) (hro : F.round = none) (hG : GRel G β) (hr : Rel β st w) (hf : FRl β N fr a) {cf cc : List Value} (q1 : LRel β first cf) (q2 : LRel β cap cc)
    (q3 : a.eval g = .func (.func gf) cf.toArray cc.toArray) {v3 : AV}
    (hent : enterA R fn (first ++ [.yld (st.new (.dfr false)).next] ++ cap) ((st.new (.dfr false)).new (.loop .ready none N fr.tm ps.toList ca cb st.next)) = some (v3, st3))
    {s : LoopState} {pend : Option AOut} {N' : Nat} {tm : Tr AV} {ps' : List Nat} {as' bd' : ACode} {df : Nat} (hg3 : st3.heap.get (st.new (.dfr false)).next = some (.loop s pend N' tm ps' as' bd' df)) (hs : s ≠ .busy)
    (hm : goOn { fr with df := st.next :: fr.df } (st3.putObj (st.new (.dfr false)).next (.loop .exhausted pend N' tm ps' as' bd' df)) pend = some (out, fr', st')) :
    (Code.rangeFunc g ps as bd).wpIn F m P (OutQ β st w N out fr' st') a w := by
  refine wpIn_rangeFunc fun fnid _ => ?_
  have hp1 := hr.alloc (.dfr false) (.deferred (some [])) ⟨w.heap.size, 0, 0⟩ rfl ⟨rfl, heap_push_new _ _⟩
  have hnb : (β.add st.next ⟨w.heap.size, 0, 0⟩) st.next = some ⟨w.heap.size, 0, 0⟩ := Bmap.add_same _ _ _
  have hsz : (w.alloc (.deferred (some []))).heap.size = w.heap.size + 1 := by simp
  let L : Loop := { state := .ready, pending := none, fn := fnid, tmps := a.tmps, params := ps, assign := as, body := bd, defers := w.heap.size }
  have hL : ORel ((β.add st.next ⟨w.heap.size, 0, 0⟩).add (st.new (.dfr false)).next ⟨w.heap.size + 1, 0, 0⟩) ((w.alloc (.deferred (some []))).alloc (.loop L)) (.loop .ready none N fr.tm ps.toList ca cb st.next) ⟨w.heap.size + 1, 0, 0⟩ := by
    refine ⟨rfl, L, ?_, rfl, rfl, hf.size, (hf.tm.mono hp1.ext).mono (Bmap.ext_add _ hp1.rel.none_next), by simp [L], (hcx _ _ _).2 h2, (hcx _ _ _).2 h3, _, Bmap.ext_add _ hp1.rel.none_next _ _ hnb, rfl⟩
    show ((w.alloc (.deferred (some []))).alloc (.loop L)).heap[w.heap.size + 1]? = _
    rw [← hsz]; exact heap_push_new _ _
  have hp2 := hp1.rel.alloc (.loop .ready none N fr.tm ps.toList ca cb st.next) (.loop L) ⟨w.heap.size + 1, 0, 0⟩ hsz.symm hL
  have hp12 := hp1.trans hp2
  have hy : VRel ((β.add st.next ⟨w.heap.size, 0, 0⟩).add (st.new (.dfr false)).next ⟨w.heap.size + 1, 0, 0⟩) (.yld (st.new (.dfr false)).next) (.func (.yield (w.heap.size + 1)) #[] #[]) := ⟨_, Bmap.add_same _ _ _, rfl⟩
  have hargs : LRel ((β.add st.next ⟨w.heap.size, 0, 0⟩).add (st.new (.dfr false)).next ⟨w.heap.size + 1, 0, 0⟩) (first ++ [.yld (st.new (.dfr false)).next] ++ cap) (cf ++ [.func (.yield (w.heap.size + 1)) #[] #[]] ++ cc) :=
    ((q1.mono hp12.ext).append (by simp only [LRel]; exact ⟨_, _, rfl, hy, rfl⟩)).append (q2.mono hp12.ext)
  have hcall := enter_sound (F := F) (m := m - 1) hT ihR p1 p2 hent hF.fn hF.depth (hG.mono hp12.ext) hp2.rel hargs
  have hinv : invoke (.fn (.func gf) cc.toArray) (cf.toArray ++ #[Value.func (.yield (w.heap.size + 1)) #[] #[]]) = callFunc gf (cf ++ [Value.func (.yield (w.heap.size + 1)) #[] #[]] ++ cc).toArray := by simp [invoke]
  have hres : (resolve a.eval (rangeCall g (w.heap.size + 1)) 0).run P ((w.alloc (.deferred (some []))).alloc (.loop L)) = .ok { target := .fn (.func gf) cc.toArray, args := cf.toArray ++ #[.func (.yield (w.heap.size + 1)) #[] #[]] } ((w.alloc (.deferred (some []))).alloc (.loop L)) := by
    have e : (#[Operand.const (.func (.yield (w.heap.size + 1)) #[] #[])] : Array Operand).map a.eval = #[.func (.yield (w.heap.size + 1)) #[] #[]] := by simp [Act.eval]
    simp only [resolve, rangeCall, q3, e, Deferred.ofValue, Sem.run_pure]
  refine ⟨w.heap.size + 1, [{ target := .collected w.heap.size, args := #[] }], (w.alloc (.deferred (some []))).alloc (.loop L), { target := .fn (.func gf) cc.toArray, args := cf.toArray ++ #[.func (.yield (w.heap.size + 1)) #[] #[]] }, (w.alloc (.deferred (some []))).alloc (.loop L), gf,
    (cf ++ [Value.func (.yield (w.heap.size + 1)) #[] #[]] ++ cc).toArray, (w.alloc (.deferred (some []))).alloc (.loop L), ?_, hres, fun _ _ => hF.fn _, ?_, (fun h => by rw [hF.depth] at h; cases h), ?_⟩
  · rw [hro]; exact run_enterLoop_outer _ _ _ _ _
  · simp only [hinv]; exact callFunc_enter p1 hbody p3 _ _
  refine hcall.mono fun e w3 he => ?_
  cases e with
  | panicked _ => exact he.elim
  | outgrown => exact he.elim
  | returned v' =>
  obtain ⟨β3, hv3, hp3⟩ := he
  have hp123 := hp12.trans hp3
  have hbl : β3 (st.new (.dfr false)).next = some ⟨w.heap.size + 1, 0, 0⟩ := hp3.ext _ _ (Bmap.add_same _ _ _)
  have hbd : β3 st.next = some ⟨w.heap.size, 0, 0⟩ := hp3.ext _ _ (hp2.ext _ _ hnb)
  obtain ⟨k0, r, kw, ks, kpend, kn, ktm, kps, krel1, krel2, km, kj, kdf⟩ := hp3.rel.obj _ _ _ hg3 hbl
  have hpo := hp3.rel.putObj (co := .loop { r with state := .exhausted }) hbl hg3 rfl (by simp) (o' := .loop .exhausted pend N' tm ps' as' bd' df) rfl
    (fun w' hw' => ⟨k0, { r with state := .exhausted }, hw', rfl, kpend, kn, ktm, kps, krel1, krel2, km, kj, kdf⟩)
  have hpall := hp123.trans hpo
  have hfr' : FRl β3 N { fr with df := st.next :: fr.df } { a with defers := [{ target := .collected w.heap.size, args := #[] }] ++ a.defers } :=
    ⟨hf.tm.mono hpall.ext, hf.size, by simp only [DRel]; exact ⟨_, _, hbd, rfl, hf.df.mono hpall.ext⟩⟩
  refine ⟨_, _, run_endLoop kw (by rw [ks]; exact hs), ?_⟩
  cases pend with
  | none =>
    simp only [goOn, Option.some.injEq, Prod.mk.injEq] at hm
    obtain ⟨rfl, rfl, rfl⟩ := hm
    have : r.pending = none := kpend
    rw [this] at hpall ⊢
    exact ⟨trivial, β3, hpall, hfr'⟩
  | some o =>
    simp only [goOn, Option.some.injEq, Prod.mk.injEq] at hm
    obtain ⟨rfl, rfl, rfl⟩ := hm
    cases o with
    | normal => exact kpend.elim
    | exit i =>
      have : r.pending = some (.exit i) := kpend
      rw [this] at hpall ⊢
      exact wpIn_exit ⟨rfl, β3, hpall, hfr'⟩
    | ret =>
      have : r.pending = some .ret := kpend
      rw [this] at hpall ⊢
      exact wpIn_ret ⟨trivial, β3, hpall, hfr'⟩
theorem run_sound (hT : TTok P tt) (hcx : CxOk G tt) {fs : Fns} (hfs : FnsOk P G tt fs) {orc : Oracle} (horc : OrcOk P G orc) (hdr : ∀ n, SCall P G (callBy fs orc (run fs orc n)) → SDraw P G tt (callBy fs orc (run fs orc n))) :
    ∀ n, SRun P G tt (run fs orc n) ∧ SLoop P G tt (run fs orc n)
  | 0 => ⟨fun _ _ _ _ _ _ _ _ _ _ h => by simp [run] at h, fun _ _ _ _ _ _ _ _ _ _ h => by simp [run] at h⟩
  | n + 1 => by
    obtain ⟨ihR, ihL⟩ := run_sound hT hcx hfs horc hdr n
    have hcf := callBy_sound hT hcx hfs horc ihR
    have hL : SLoop P G tt (run fs orc (n + 1)) := by
      intro N ir code c hc fr st out fr' st' h F m β w a hF hG hr hf
      refine loopIn_step ?_
      simp only [run] at h
      split at h
      · rename_i fr1 st1 h1
        refine wpIn_mono (ihR _ _ _ _ hc _ _ _ _ _ h1 F m β w a hF hG hr hf) fun e a1 w1 hq => hq.then (fun _ β1 hp hf1 => ?_) (fun hne => absurd rfl hne)
        have := ihL _ _ _ _ hc _ _ _ _ _ h F m β1 w1 a1 hF (hG.mono hp.ext) hp.rel hf1
        intro b k cs hro hb hroom
        obtain ⟨e, a', w', q, r⟩ := this b k cs hro hb hroom
        exact ⟨e, a', w', q.later hp, r⟩
      · rename_i hne
        refine wpIn_mono (ihR _ _ _ _ hc _ _ _ _ _ h F m β w a hF hG hr hf) fun e a1 w1 hq => hq.then (fun ho => ?_) (fun _ => hq)
        subst ho
        exact absurd h (hne _ _)
    refine ⟨?_, hL⟩
    intro N ir code c hc fr st out fr' st' h F m β w a hF hG hr hf
    cases code with
    | skip => simp only [compCode, Option.some.injEq] at hc; subst hc; simp only [run, Option.some.injEq, Prod.mk.injEq] at h; obtain ⟨rfl, rfl, rfl⟩ := h; exact wpIn_skip ⟨trivial, β, Post.refl hr, hf⟩
    | label l => simp only [compCode, Option.some.injEq] at hc; subst hc; simp only [run, Option.some.injEq, Prod.mk.injEq] at h; obtain ⟨rfl, rfl, rfl⟩ := h; exact wpIn_label ⟨trivial, β, Post.refl hr, hf⟩
    | region id ops draw =>
      simp only [compCode] at hc
      split at hc
      case h_2 => cases hc
      rename_i l hl
      cases draw with
      | true =>
        simp only [if_true] at hc
        split at hc
        · rename_i hap
          cases hc
          simp only [run] at h
          split at h
          · rename_i fr1 st1 h1
            cases h
            exact hdr n hcf N ops l fr st fr' st' hl hap h1 id F m β w a hF.fn hF.depth hG hr hf
          · cases h
        · cases hc
      | false =>
        simp only [Bool.false_eq_true, if_false, Option.some.injEq] at hc
        subst hc
        simp only [run] at h
        split at h
        · rename_i fr1 st1 h1
          cases h
          refine wpIn_region ?_
          have := ops_sound hT hcf hF.fn hF.depth (F := F) (m := m) (Q := OutQ β st w N .normal fr' st') ops.toList 0 l rfl hl fr fr' st st' h1 β w a hG hr hf (fun β' a' w' hp hf' => ⟨trivial, β', hp, hf'⟩)
          rw [List.range_eq_range']
          simpa using this
        · cases h
    | seq x y =>
      simp only [compCode] at hc
      split at hc
      case h_2 => cases hc
      rename_i cx' cy' h1 h2
      cases hc
      simp only [run] at h
      split at h
      · rename_i fr1 st1 hx
        refine wpIn_seq (wpIn_mono (ihR _ _ _ _ h1 _ _ _ _ _ hx F m β w a hF hG hr hf) fun e a1 w1 hq => hq.then (fun _ β1 hp hf1 => ?_) (fun hne => absurd rfl hne))
        exact wpIn_mono (ihR _ _ _ _ h2 _ _ _ _ _ h F m β1 w1 a1 hF (hG.mono hp.ext) hp.rel hf1) fun e a2 w2 hq2 => hq2.later hp
      · rename_i hne
        refine wpIn_seq (wpIn_mono (ihR _ _ _ _ h1 _ _ _ _ _ h F m β w a hF hG hr hf) fun e a1 w1 hq => hq.then (fun ho => ?_) (fun _ => hq))
        subst ho
        exact absurd h (hne _ _)
    | cond c x y =>
      simp only [compCode] at hc
      split at hc
      case h_2 => cases hc
      rename_i rc cx' cy' h1 h2 h3
      cases hc
      have hv := rnd_rel (a := a) hG hf.tm h1
      simp only [run] at h
      split at h
      · rename_i hb
        rw [hb] at hv
        exact wpIn_cond_true hv (ihR _ _ _ _ h2 _ _ _ _ _ h F m β w a hF hG hr hf)
      · rename_i hb
        rw [hb] at hv
        exact wpIn_cond_false hv (ihR _ _ _ _ h3 _ _ _ _ _ h F m β w a hF hG hr hf)
      · cases h
    | block id b =>
      simp only [compCode] at hc
      obtain ⟨cb, h1, rfl⟩ := Option.map_eq_some_iff.1 hc
      simp only [run] at h
      refine wpIn_block ?_
      split at h
      · rename_i id' fr1 st1 hb
        split at h
        · rename_i hid
          have hid := Nat.eq_of_beq_eq_true hid
          subst hid
          cases h
          refine wpIn_mono (ihR _ _ _ _ h1 _ _ _ _ _ hb F m β w a hF hG hr hf) fun e a1 w1 hq => ?_
          obtain ⟨he, β1, hp, hf1⟩ := hq
          cases e <;> first | exact he.elim | skip
          have he : id' = _ := he
          subst he
          simp only [Exit.inBlock, if_true]
          exact ⟨trivial, β1, hp, hf1⟩
        · rename_i hid
          cases h
          refine wpIn_mono (ihR _ _ _ _ h1 _ _ _ _ _ hb F m β w a hF hG hr hf) fun e a1 w1 hq => ?_
          obtain ⟨he, β1, hp, hf1⟩ := hq
          cases e <;> first | exact he.elim | skip
          have he : id' = _ := he
          subst he
          have hne : id' ≠ id := fun e' => by subst e'; rw [Nat.beq_refl] at hid; cases hid
          simp only [Exit.inBlock, if_neg hne]
          exact ⟨rfl, β1, hp, hf1⟩
      · rename_i hne
        refine wpIn_mono (ihR _ _ _ _ h1 _ _ _ _ _ h F m β w a hF hG hr hf) fun e a1 w1 hq => ?_
        obtain ⟨he, β1, hp, hf1⟩ := hq
        cases out with
        | normal => cases e <;> first | exact he.elim | exact ⟨trivial, β1, hp, hf1⟩
        | exit i => exact absurd h (hne _ _ _)
        | ret => cases e <;> first | exact he.elim | exact ⟨trivial, β1, hp, hf1⟩
    | loop b =>
      simp only [compCode] at hc
      obtain ⟨cb, h1, rfl⟩ := Option.map_eq_some_iff.1 hc
      exact wpIn_of_loopIn (hL _ _ _ _ h1 _ _ _ _ _ h F m β w a hF hG hr hf)
    | scope b =>
      simp only [compCode] at hc
      obtain ⟨cb, h1, rfl⟩ := Option.map_eq_some_iff.1 hc
      simp only [run] at h
      refine wpIn_scope (fun l a w hq => ?_) (ihR _ _ _ _ h1 _ _ _ _ _ h F m β w a hF hG hr hf)
      obtain ⟨he, _⟩ := hq
      cases out <;> exact he.elim
    | exit id => simp only [compCode, Option.some.injEq] at hc; subst hc; simp only [run, Option.some.injEq, Prod.mk.injEq] at h; obtain ⟨rfl, rfl, rfl⟩ := h; exact wpIn_exit ⟨rfl, β, Post.refl hr, hf⟩
    | ret => simp only [compCode, Option.some.injEq] at hc; subst hc; simp only [run, Option.some.injEq, Prod.mk.injEq] at h; obtain ⟨rfl, rfl, rfl⟩ := h; exact wpIn_ret ⟨trivial, β, Post.refl hr, hf⟩
    | goto l => simp only [compCode, Option.some.injEq] at hc; subst hc; simp [run] at h
    | refuse u => simp only [compCode, Option.some.injEq] at hc; subst hc; simp [run] at h
    | rangeFunc g ps as bd =>
      cases ir with
      | true => simp only [compCode, Option.some.injEq] at hc; subst hc; simp [run] at h
      | false =>
      simp only [compCode] at hc
      split at hc
      case h_2 => cases hc
      rename_i rf ca cb h1 h2 h3 h4
      cases hc
      have hv := rnd_rel (a := a) hG hf.tm h1
      have hro : F.round = none := by
        cases hq : F.round with
        | none => rfl
        | some l => exact absurd (hF.round (by rw [hq]; rfl)) (by simp)
      simp only [run] at h
      split at h
      case h_2 => cases h
      rename_i gf first cap hev
      rw [hev] at hv
      obtain ⟨cf, cc, q1, q2, q3⟩ := hv
      split at h
      case h_2 => cases h
      rename_i fn hfn
      obtain ⟨f, p1, p2, p3⟩ := hfs _ _ hfn
      have hbody : ∃ c, f.body = some c := by
        unfold compFn at p2
        split at p2
        · rename_i c hc; exact ⟨c, hc⟩
        · cases p2
      obtain ⟨c, hbody⟩ := hbody
      split at h
      case h_2 => cases h
      rename_i v3 st3 hent
      split at h
      case h_2 => cases h
      rename_i s pend N' tm ps' as' bd' df hg3
      split at h
      · cases h
      · rename_i hs
        exact range_sound hT hcx ihR h2 h3 p1 p2 p3 hbody hF hro hG hr hf q1 q2 q3 hent hg3 (fun e => hs e) h
end
end Go.RI
namespace Go.RI
structure Keeps (st st' : St) : Prop where
  next : st.next ≤ st'.next
  thr : st'.thr = st.thr
  log : ∀ b, b ∈ st.log → b ∈ st'.log
  heap : st.thr ≤ st.next → ∀ b, b < st.thr → b ∉ st'.log → st'.heap.get b = st.heap.get b
theorem Keeps.refl (st : St) : Keeps st st := ⟨Nat.le_refl _, rfl, fun _ h => h, fun _ _ _ _ => rfl⟩
theorem Keeps.trans {a b c : St} (h : Keeps a b) (k : Keeps b c) : Keeps a c where
  next := Nat.le_trans h.next k.next
  thr := k.thr.trans h.thr
  log := fun x hx => k.log x (h.log x hx)
  heap := fun ht x hx hn => by
    rw [k.heap (by rw [h.thr]; exact Nat.le_trans ht h.next) x (by rw [h.thr]; exact hx) hn]
    exact h.heap ht x hx fun hm => hn (k.log x hm)
theorem Keeps.new (st : St) (o : AObj) : Keeps st (st.new o) := ⟨Nat.le_succ _, rfl, fun _ h => h, fun ht b hb _ => by
  simp only [St.new]; rw [Tr.get_set_ne _ _ (by omega)]⟩
theorem not_logw {thr b x : Nat} {log : List Nat} (hx : x < thr) (h : x ∉ logw thr b log) : x ≠ b ∧ x ∉ log := by
  refine ⟨fun e => ?_, fun hm => h (mem_logw hm)⟩
  subst e
  exact logw_self thr x log ⟨hx, h⟩
theorem Keeps.putObj (st : St) (b : Nat) (o : AObj) : Keeps st (st.putObj b o) := ⟨Nat.le_refl _, rfl, fun _ h => mem_logw h, fun _ x hx hn => by
  simp only [St.putObj] at hn ⊢
  rw [Tr.get_set_ne _ _ (not_logw hx hn).1]⟩
theorem Keeps.wr {st st' : St} {b i : Nat} {v : AV} (h : st.wr b i v = some st') : Keeps st st' := by
  unfold St.wr at h
  split at h
  case h_2 => cases h
  split at h
  case h_2 => cases h
  split at h
  · cases h
    refine ⟨Nat.le_refl _, rfl, fun _ h => mem_logw h, fun _ x hx hn => ?_⟩
    simp only at hn ⊢
    rw [Tr.get_set_ne _ _ (not_logw hx hn).1]
  · split at h
    · split at h
      case h_2 => cases h
      · cases h
        refine ⟨Nat.le_refl _, rfl, fun _ h => mem_logw (mem_logw h), fun _ x hx hn => ?_⟩
        simp only at hn ⊢
        obtain ⟨n1, n2⟩ := not_logw hx hn
        rw [Tr.get_set_ne _ _ n1, Tr.get_set_ne _ _ (not_logw hx n2).1]
    · cases h
      refine ⟨Nat.le_refl _, rfl, fun _ h => mem_logw h, fun _ x hx hn => ?_⟩
      simp only at hn ⊢
      rw [Tr.get_set_ne _ _ (not_logw hx hn).1]
    · cases h
theorem Keeps.wrL {b : Nat} : ∀ {l : List AV} {st st' : St} {i : Nat}, st.wrL b i l = some st' → Keeps st st'
  | [], st, st', i, h => by simp only [St.wrL, Option.some.injEq] at h; subst h; exact .refl _
  | v :: l, st, st', i, h => by
    simp only [St.wrL] at h
    split at h
    · rename_i s1 h1; exact (Keeps.wr h1).trans (Keeps.wrL h)
    · cases h
theorem Keeps.grow {st st' : St} {b elem off m : Nat} {x : List AV} (h : st.grow b elem off m x = some st') : Keeps st st' := by
  unfold St.grow at h
  split at h
  case h_2 => cases h
  rename_i e l fz kin hg
  split at h
  case h_2 => cases h
  cases h
  refine ⟨Nat.le_succ _, rfl, fun y hy => mem_logw (by unfold logKin; split <;> first | exact hy | exact mem_logw hy), fun ht y hy hn => ?_⟩
  simp only at hn ⊢
  obtain ⟨n1, n2⟩ := not_logw hy hn
  rw [get_growHeap, if_neg (by omega)]
  have hk : kin ≠ some y := by
    intro e; subst e
    simp only [logKin] at n2
    exact (not_logw hy n2).1 rfl
  rw [if_neg hk, if_neg n1]
theorem Keeps.upd {st st' : St} {kk : KK} {b : Nat} {k v : AV} (h : st.upd kk b k v = some st') : Keeps st st' := by
  unfold St.upd at h
  split at h
  case h_2 => cases h
  split at h
  · cases h; exact .putObj _ _ _
  · cases h; exact .putObj _ _ _
  · cases h
theorem Keeps.app {st st' : St} {elem es bytes : Nat} {s : AV} {x : List AV} {n : Nat} {v : AV} (h : appA st elem es bytes s x n = some (v, st')) : Keeps st st' := by
  unfold appA at h
  split at h
  · split at h
    · cases h; exact .refl _
    · split at h
      · cases h; exact .new _ _
      · cases h
  · split at h
    · split at h
      · rename_i hw; cases h; exact .wrL hw
      · cases h
    · split at h
      · split at h
        · rename_i hg; cases h; exact .grow hg
        · cases h
      · cases h
    · cases h
  · cases h
theorem Keeps.aop {op : AOp} {tm : Tr AV} {st st' : St} {v : AV} (h : aop op tm st = some (v, st')) : Keeps st st' := by
  cases op
  all_goals
    simp only [RI.aop] at h
    repeat' split at h
    all_goals first
      | (cases h; done)
      | (cases h; exact .refl _)
      | (cases h; exact .new _ _)
      | (cases h; exact .putObj _ _ _)
      | (cases h; exact .wrL ‹_›)
      | (cases h; exact .upd ‹_›)
      | exact .app h
      | (cases h; exact (Keeps.putObj _ _ _).trans (Keeps.putObj _ _ _))
def KCall (cf : AV → List AV → St → Option (AV × St)) : Prop := ∀ f args st v st', cf f args st = some (v, st') → Keeps st st'
def KRun (R : ACode → Fr → St → Option (AOut × Fr × St)) : Prop := ∀ c fr st out fr' st', R c fr st = some (out, fr', st') → Keeps st st'
theorem Keeps.stepOp {cf : AV → List AV → St → Option (AV × St)} (hcf : KCall cf) {o : AOper} {fr fr' : Fr} {st st' : St} (h : stepOp cf o fr st = some (fr', st')) : Keeps st st' := by
  unfold RI.stepOp at h
  split at h
  · cases h; exact .refl _
  · split at h
    · split at h
      · rename_i hc; cases h; exact hcf _ _ _ _ _ hc
      · cases h
    · split at h
      · rename_i ha; cases h; exact .aop ha
      · cases h
theorem Keeps.runOps {cf : AV → List AV → St → Option (AV × St)} (hcf : KCall cf) : ∀ {l : List AOper} {fr fr' : Fr} {st st' : St}, runOps cf l fr st = some (fr', st') → Keeps st st'
  | [], fr, fr', st, st', h => by simp only [RI.runOps, Option.some.injEq, Prod.mk.injEq] at h; obtain ⟨_, rfl⟩ := h; exact .refl _
  | o :: l, fr, fr', st, st', h => by
    simp only [RI.runOps] at h
    split at h
    · rename_i h1; exact (Keeps.stepOp hcf h1).trans (Keeps.runOps hcf h)
    · cases h
theorem mem_filtLt {n x : Nat} : ∀ {l : List Nat}, x ∈ filtLt n l ↔ x ∈ l ∧ x < n
  | [] => by simp [filtLt]
  | y :: l => by
    simp only [filtLt]
    split
    · rename_i hy
      have hy := Nat.le_of_ble_eq_true hy
      simp only [List.mem_cons, mem_filtLt (l := l)]
      constructor
      · rintro (rfl | ⟨h1, h2⟩)
        · exact ⟨.inl rfl, hy⟩
        · exact ⟨.inr h1, h2⟩
      · rintro ⟨rfl | h1, h2⟩
        · exact .inl rfl
        · exact .inr ⟨h1, h2⟩
    · rename_i hy
      have hy : ¬ y < n := fun h => by
        have : Nat.blt y n = true := Nat.ble_eq_true_of_le h
        rw [this] at hy; cases hy
      simp only [mem_filtLt (l := l), List.mem_cons]
      constructor
      · rintro ⟨h1, h2⟩; exact ⟨.inr h1, h2⟩
      · rintro ⟨rfl | h1, h2⟩
        · exact absurd h2 hy
        · exact ⟨h1, h2⟩
theorem Keeps.inner {st st1 : St} (h : Keeps { st with thr := st.next, log := [] } st1) : Keeps st { st1 with thr := st.thr, log := filtLt st.thr st1.log ++ st.log } where
  next := h.next
  thr := rfl
  log := fun b hb => List.mem_append.2 (.inr hb)
  heap := fun ht b hb hn => by
    refine h.heap (Nat.le_refl _) b (Nat.lt_of_lt_of_le hb ht) fun hm => hn ?_
    exact List.mem_append.2 (.inl (mem_filtLt.2 ⟨hm, hb⟩))
theorem Keeps.runDraw {cf : AV → List AV → St → Option (AV × St)} (hcf : KCall cf) : ∀ {l : List AOper} {us : List (List Nat)} {i : Nat} {es : List (Nat × Eff)} {fr fr' : Fr} {st st' : St}, runDraw cf l us i es fr st = some (fr', st') → Keeps st st'
  | [], us, i, es, fr, fr', st, st', h => by simp only [RI.runDraw, Option.some.injEq, Prod.mk.injEq] at h; obtain ⟨_, rfl⟩ := h; exact .refl _
  | _ :: _, [], i, es, fr, fr', st, st', h => by simp [RI.runDraw] at h
  | o :: l, u :: us, i, es, fr, fr', st, st', h => by
    simp only [RI.runDraw] at h
    split at h
    · rename_i h1
      split at h
      · cases h
      · exact (Keeps.inner (Keeps.stepOp hcf h1)).trans (Keeps.runDraw hcf h)
    · cases h
theorem Keeps.leaveA {res : List ARes} {tm : Tr AV} {v : AV} {st' : St} : ∀ {df : List Nat} {st : St}, leaveA res tm df st = some (v, st') → Keeps st st'
  | [], st, h => by
    simp only [RI.leaveA] at h
    split at h
    · cases h; exact .refl _
    · cases h
  | b :: df, st, h => by
    simp only [RI.leaveA] at h
    split at h
    · exact (Keeps.putObj _ _ _).trans (Keeps.leaveA h)
    · cases h
theorem Keeps.enterA {R : ACode → Fr → St → Option (AOut × Fr × St)} (hR : KRun R) {fn : AFn} {as : List AV} {st st' : St} {v : AV} (h : enterA R fn as st = some (v, st')) : Keeps st st' := by
  unfold RI.enterA at h
  split at h
  · rename_i h1; exact (hR _ _ _ _ _ _ h1).trans (.leaveA h)
  · rename_i h1; exact (hR _ _ _ _ _ _ h1).trans (.leaveA h)
  · cases h
theorem Keeps.roundA {R : ACode → Fr → St → Option (AOut × Fr × St)} (hR : KRun R) {l : Nat} {as : List AV} {st st' : St} {v : AV} (h : roundA R l as st = some (v, st')) : Keeps st st' := by
  unfold RI.roundA at h
  split at h
  case h_2 => cases h
  split at h
  case h_2 => cases h
  split at h
  case h_2 => cases h
  rename_i h1
  split at h
  case h_2 => cases h
  split at h
  case h_2 => cases h
  rename_i h2
  split at h
  case h_2 => cases h
  have key := ((hR _ _ _ _ _ _ h1).trans (Keeps.putObj _ _ _)).trans (hR _ _ _ _ _ _ h2)
  split at h
  · cases h; exact key.trans (.putObj _ _ _)
  · cases h; exact key.trans (.putObj _ _ _)
def OrcKeeps (orc : Oracle) : Prop := ∀ g args st v st', orc g args st = some (v, st') → Keeps st st'
theorem Keeps.callBy {fs : Fns} {orc : Oracle} (ho : OrcKeeps orc) {R : ACode → Fr → St → Option (AOut × Fr × St)} (hR : KRun R) : KCall (callBy fs orc R) := by
  intro f args st v st' h
  unfold RI.callBy at h
  split at h
  · split at h
    · rename_i hq; cases h; exact ho _ _ _ _ _ hq
    · split at h
      · exact .enterA hR h
      · cases h
  · exact .roundA hR h
  · cases h
theorem Keeps.run {fs : Fns} {orc : Oracle} (ho : OrcKeeps orc) : ∀ n, KRun (run fs orc n)
  | 0 => fun _ _ _ _ _ _ h => by simp [RI.run] at h
  | n + 1 => by
    have ih := Keeps.run (fs := fs) (orc := orc) ho n
    have hcf := Keeps.callBy (fs := fs) (orc := orc) ho ih
    intro c fr st out fr' st' h
    cases c with
    | skip => simp only [RI.run, Option.some.injEq, Prod.mk.injEq] at h; obtain ⟨_, _, rfl⟩ := h; exact .refl _
    | region ops =>
      simp only [RI.run] at h
      split at h
      · rename_i h1; cases h; exact .runOps hcf h1
      · cases h
    | draw ops un =>
      simp only [RI.run] at h
      split at h
      · rename_i h1; cases h; exact .runDraw hcf h1
      · cases h
    | seq a b =>
      simp only [RI.run] at h
      split at h
      · rename_i h1; exact (ih _ _ _ _ _ _ h1).trans (ih _ _ _ _ _ _ h)
      · exact ih _ _ _ _ _ _ h
    | cond x a b =>
      simp only [RI.run] at h
      split at h
      · exact ih _ _ _ _ _ _ h
      · exact ih _ _ _ _ _ _ h
      · cases h
    | block id b =>
      simp only [RI.run] at h
      split at h
      · rename_i h1
        split at h
        · cases h; exact ih _ _ _ _ _ _ h1
        · cases h; exact ih _ _ _ _ _ _ h1
      · exact ih _ _ _ _ _ _ h
    | loop b =>
      simp only [RI.run] at h
      split at h
      · rename_i h1; exact (ih _ _ _ _ _ _ h1).trans (ih _ _ _ _ _ _ h)
      · exact ih _ _ _ _ _ _ h
    | scope b => simp only [RI.run] at h; exact ih _ _ _ _ _ _ h
    | exit id => simp only [RI.run, Option.some.injEq, Prod.mk.injEq] at h; obtain ⟨_, _, rfl⟩ := h; exact .refl _
    | ret => simp only [RI.run, Option.some.injEq, Prod.mk.injEq] at h; obtain ⟨_, _, rfl⟩ := h; exact .refl _
    | bad => simp [RI.run] at h
    | range N f ps as bd =>
      simp only [RI.run] at h
      split at h
      case h_2 => cases h
      split at h
      case h_2 => cases h
      split at h
      case h_2 => cases h
      rename_i h1
      split at h
      case h_2 => cases h
      rename_i s pend N' tm ps' as' bd' df hg
      have key := ((Keeps.new st (.dfr false)).trans (Keeps.new _ _)).trans (Keeps.enterA ih h1)
      have fin : ∀ (st4 : St), Keeps st st4 → goOn { fr with df := st.next :: fr.df } st4 pend = some (out, fr', st') → Keeps st st' := by
        intro st4 hk hgo
        cases pend with
        | none => simp only [goOn, Option.some.injEq, Prod.mk.injEq] at hgo; obtain ⟨_, _, rfl⟩ := hgo; exact hk
        | some o => simp only [goOn, Option.some.injEq, Prod.mk.injEq] at hgo; obtain ⟨_, _, rfl⟩ := hgo; exact hk
      split at h
      · cases h
      · exact fin _ (key.trans (.putObj _ _ _)) h
end Go.RI
namespace Go.RI
theorem Stays.putObj {st : St} {b0 : Nat} {o : AObj} (h : ¬ Gone (st.heap.get b0)) : Stays st (st.putObj b0 o) := fun b _ hg => by
  have : b ≠ b0 := fun e => by subst e; exact h hg
  simp only [St.putObj]; rw [Tr.get_set_ne _ _ this]; exact hg
theorem Stays.wr {st st' : St} {b i : Nat} {v : AV} (h : st.wr b i v = some st') : Stays st st' := by
  unfold St.wr at h
  split at h
  case h_2 => cases h
  rename_i hg
  have hb : ¬ Gone (st.heap.get b) := not_gone hg (by simp)
  split at h
  case h_2 => cases h
  split at h
  · cases h; exact Stays.putObj hb
  · rename_i b2
    split at h
    · rename_i hg2
      split at h
      case h_2 => cases h
      cases h
      intro x hx hgx
      have n1 : x ≠ b := fun e => by subst e; exact hb hgx
      have n2 : x ≠ b2 := fun e => by subst e; exact not_gone hg2 (by simp) hgx
      simp only
      rw [Tr.get_set_ne _ _ n2, Tr.get_set_ne _ _ n1]; exact hgx
    · cases h; exact Stays.putObj hb
    · cases h
theorem Stays.wrL {b : Nat} : ∀ {l : List AV} {st st' : St} {i : Nat}, st.wrL b i l = some st' → Stays st st'
  | [], st, st', i, h => by simp only [St.wrL, Option.some.injEq] at h; subst h; exact .refl _
  | v :: l, st, st', i, h => by
    simp only [St.wrL] at h
    split at h
    · rename_i s1 h1; exact (Stays.wr h1).trans (Keeps.wr h1).next (Stays.wrL h)
    · cases h
theorem Stays.grow {st st' : St} {b elem off m : Nat} {x : List AV} (h : st.grow b elem off m x = some st') : Stays st st' := by
  unfold St.grow at h
  split at h
  case h_2 => cases h
  rename_i hg
  split at h
  case h_2 => cases h
  cases h
  intro y hy hgy
  have n1 : y ≠ b := fun e => by subst e; exact not_gone hg (by simp) hgy
  simp only
  rw [get_growHeap, if_neg (by omega)]
  split
  · trivial
  · first | exact hgy | (rw [if_neg n1]; exact hgy)
theorem Stays.upd {st st' : St} {kk : KK} {b : Nat} {k v : AV} (h : st.upd kk b k v = some st') : Stays st st' := by
  unfold St.upd at h
  split at h
  case h_2 => cases h
  rename_i hg
  split at h
  · cases h; exact .putObj (not_gone hg (by simp))
  · cases h; exact .putObj (not_gone hg (by simp))
  · cases h
theorem Stays.app {st st' : St} {elem es bytes : Nat} {s : AV} {x : List AV} {n : Nat} {v : AV} (h : appA st elem es bytes s x n = some (v, st')) : Stays st st' := by
  unfold appA at h
  split at h
  · split at h
    · cases h; exact .refl _
    · split at h
      · cases h; exact .new _ _
      · cases h
  · split at h
    · split at h
      · rename_i hw; cases h; exact .wrL hw
      · cases h
    · split at h
      · split at h
        · rename_i hg; cases h; exact .grow hg
        · cases h
      · cases h
    · cases h
  · cases h
theorem Stays.aop {op : AOp} {tm : Tr AV} {st st' : St} {v : AV} (h : aop op tm st = some (v, st')) : Stays st st' := by
  cases op
  all_goals
    simp only [RI.aop] at h
    repeat' split at h
    all_goals first
      | (cases h; done)
      | (cases h; exact .refl _)
      | (cases h; exact .new _ _)
      | (cases h; exact .putObj (not_gone (by assumption) (by simp)))
      | (cases h; exact .wrL ‹_›)
      | (cases h; exact .upd ‹_›)
      | exact .app h
structure Tame (st st' : St) : Prop where
  keeps : Keeps st st'
  stays : Stays st st'
theorem Keeps.le {st st' : St} (h : Keeps st st') (ht : st.thr ≤ st.next) : st'.thr ≤ st'.next := by rw [h.thr]; exact Nat.le_trans ht h.next
theorem Tame.refl (st : St) : Tame st st := ⟨.refl _, .refl _⟩
theorem Tame.trans {a b c : St} (h : Tame a b) (k : Tame b c) : Tame a c := ⟨h.keeps.trans k.keeps, h.stays.trans h.keeps.next k.stays⟩
theorem Tame.new (st : St) {o : AObj} (_ : o.kin = none) : Tame st (st.new o) := ⟨.new _ _, .new _ _⟩
theorem Tame.putObj {st : St} {b : Nat} {o x : AObj} (_ : o.kin = none) (hg : st.heap.get b = some x) (hx : x ≠ .dead) : Tame st (st.putObj b o) := ⟨.putObj _ _ _, .putObj (not_gone hg hx)⟩
theorem Tame.aop {op : AOp} {tm : Tr AV} {st st' : St} {v : AV} (h : aop op tm st = some (v, st')) : Tame st st' := ⟨.aop h, .aop h⟩
theorem Tame.inner {st st1 : St} (h : Tame { st with thr := st.next, log := [] } st1) : Tame st { st1 with thr := st.thr, log := filtLt st.thr st1.log ++ st.log } where
  keeps := h.keeps.inner
  stays := h.stays
def TCall (cf : AV → List AV → St → Option (AV × St)) : Prop := ∀ f args st v st', cf f args st = some (v, st') → Tame st st'
def TRun (R : ACode → Fr → St → Option (AOut × Fr × St)) : Prop := ∀ c fr st out fr' st', R c fr st = some (out, fr', st') → Tame st st'
theorem Tame.stepOp {cf : AV → List AV → St → Option (AV × St)} (hcf : TCall cf) {o : AOper} {fr fr' : Fr} {st st' : St} (h : stepOp cf o fr st = some (fr', st')) : Tame st st' := by
  unfold RI.stepOp at h
  split at h
  · cases h; exact .refl _
  · split at h
    · split at h
      · rename_i hc; cases h; exact hcf _ _ _ _ _ hc
      · cases h
    · split at h
      · rename_i ha; cases h; exact .aop ha
      · cases h
theorem Tame.runOps {cf : AV → List AV → St → Option (AV × St)} (hcf : TCall cf) : ∀ {l : List AOper} {fr fr' : Fr} {st st' : St}, runOps cf l fr st = some (fr', st') → Tame st st'
  | [], fr, fr', st, st', h => by simp only [RI.runOps, Option.some.injEq, Prod.mk.injEq] at h; obtain ⟨_, rfl⟩ := h; exact .refl _
  | o :: l, fr, fr', st, st', h => by
    simp only [RI.runOps] at h
    split at h
    · rename_i h1; exact (Tame.stepOp hcf h1).trans (Tame.runOps hcf h)
    · cases h
theorem Tame.runDraw {cf : AV → List AV → St → Option (AV × St)} (hcf : TCall cf) : ∀ {l : List AOper} {us : List (List Nat)} {i : Nat} {es : List (Nat × Eff)} {fr fr' : Fr} {st st' : St}, runDraw cf l us i es fr st = some (fr', st') → Tame st st'
  | [], us, i, es, fr, fr', st, st', h => by simp only [RI.runDraw, Option.some.injEq, Prod.mk.injEq] at h; obtain ⟨_, rfl⟩ := h; exact .refl _
  | _ :: _, [], i, es, fr, fr', st, st', h => by simp [RI.runDraw] at h
  | o :: l, u :: us, i, es, fr, fr', st, st', h => by
    simp only [RI.runDraw] at h
    split at h
    · rename_i h1
      split at h
      · cases h
      · exact (Tame.inner (Tame.stepOp hcf h1)).trans (Tame.runDraw hcf h)
    · cases h
theorem Tame.leaveA {res : List ARes} {tm : Tr AV} {v : AV} {st' : St} : ∀ {df : List Nat} {st : St}, leaveA res tm df st = some (v, st') → Tame st st'
  | [], st, h => by
    simp only [RI.leaveA] at h
    split at h
    · cases h; exact .refl _
    · cases h
  | b :: df, st, h => by
    simp only [RI.leaveA] at h
    split at h
    · rename_i hg; exact (Tame.putObj rfl hg (by simp)).trans (Tame.leaveA h)
    · cases h
theorem Tame.enterA {R : ACode → Fr → St → Option (AOut × Fr × St)} (hR : TRun R) {fn : AFn} {as : List AV} {st st' : St} {v : AV} (h : enterA R fn as st = some (v, st')) : Tame st st' := by
  unfold RI.enterA at h
  split at h
  · rename_i h1; exact (hR _ _ _ _ _ _ h1).trans (.leaveA h)
  · rename_i h1; exact (hR _ _ _ _ _ _ h1).trans (.leaveA h)
  · cases h
theorem Tame.roundA {R : ACode → Fr → St → Option (AOut × Fr × St)} (hR : TRun R) {l : Nat} {as : List AV} {st st' : St} {v : AV} (h : roundA R l as st = some (v, st')) : Tame st st' := by
  unfold RI.roundA at h
  split at h
  case h_2 => cases h
  split at h
  case h_2 => cases h
  split at h
  case h_2 => cases h
  rename_i h1
  split at h
  case h_2 => cases h
  rename_i hg1
  split at h
  case h_2 => cases h
  rename_i h2
  split at h
  case h_2 => cases h
  rename_i hg2
  have key := ((hR _ _ _ _ _ _ h1).trans (Tame.putObj (o := .loop .busy _ _ _ _ _ _ _) rfl hg1 (by simp))).trans (hR _ _ _ _ _ _ h2)
  split at h
  · cases h; exact key.trans (.putObj rfl hg2 (by simp))
  · cases h; exact key.trans (.putObj rfl hg2 (by simp))
def OrcTame (orc : Oracle) : Prop := ∀ g args st v st', orc g args st = some (v, st') → Tame st st'
theorem Tame.callBy {fs : Fns} {orc : Oracle} (ho : OrcTame orc) {R : ACode → Fr → St → Option (AOut × Fr × St)} (hR : TRun R) : TCall (callBy fs orc R) := by
  intro f args st v st' h
  unfold RI.callBy at h
  split at h
  · split at h
    · rename_i hq; cases h; exact ho _ _ _ _ _ hq
    · split at h
      · exact .enterA hR h
      · cases h
  · exact .roundA hR h
  · cases h
theorem Tame.run {fs : Fns} {orc : Oracle} (ho : OrcTame orc) : ∀ n, TRun (run fs orc n)
  | 0 => fun _ _ _ _ _ _ h => by simp [RI.run] at h
  | n + 1 => by
    have ih := Tame.run (fs := fs) (orc := orc) ho n
    have hcf := Tame.callBy (fs := fs) (orc := orc) ho ih
    intro c fr st out fr' st' h
    cases c with
    | skip => simp only [RI.run, Option.some.injEq, Prod.mk.injEq] at h; obtain ⟨_, _, rfl⟩ := h; exact .refl _
    | region ops =>
      simp only [RI.run] at h
      split at h
      · rename_i h1; cases h; exact .runOps hcf h1
      · cases h
    | draw ops un =>
      simp only [RI.run] at h
      split at h
      · rename_i h1; cases h; exact .runDraw hcf h1
      · cases h
    | seq a b =>
      simp only [RI.run] at h
      split at h
      · rename_i h1; exact (ih _ _ _ _ _ _ h1).trans (ih _ _ _ _ _ _ h)
      · exact ih _ _ _ _ _ _ h
    | cond x a b =>
      simp only [RI.run] at h
      split at h
      · exact ih _ _ _ _ _ _ h
      · exact ih _ _ _ _ _ _ h
      · cases h
    | block id b =>
      simp only [RI.run] at h
      split at h
      · rename_i h1
        split at h
        · cases h; exact ih _ _ _ _ _ _ h1
        · cases h; exact ih _ _ _ _ _ _ h1
      · exact ih _ _ _ _ _ _ h
    | loop b =>
      simp only [RI.run] at h
      split at h
      · rename_i h1; exact (ih _ _ _ _ _ _ h1).trans (ih _ _ _ _ _ _ h)
      · exact ih _ _ _ _ _ _ h
    | scope b => simp only [RI.run] at h; exact ih _ _ _ _ _ _ h
    | exit id => simp only [RI.run, Option.some.injEq, Prod.mk.injEq] at h; obtain ⟨_, _, rfl⟩ := h; exact .refl _
    | ret => simp only [RI.run, Option.some.injEq, Prod.mk.injEq] at h; obtain ⟨_, _, rfl⟩ := h; exact .refl _
    | bad => simp [RI.run] at h
    | range N f ps as bd =>
      simp only [RI.run] at h
      split at h
      case h_2 => cases h
      split at h
      case h_2 => cases h
      split at h
      case h_2 => cases h
      rename_i h1
      split at h
      case h_2 => cases h
      rename_i s pend N' tm ps' as' bd' df hg
      have key := ((Tame.new st (o := .dfr false) rfl).trans (Tame.new _ rfl)).trans (Tame.enterA ih h1)
      have fin : ∀ (st4 : St), Tame st st4 → goOn { fr with df := st.next :: fr.df } st4 pend = some (out, fr', st') → Tame st st' := by
        intro st4 hk hgo
        cases pend with
        | none => simp only [goOn, Option.some.injEq, Prod.mk.injEq] at hgo; obtain ⟨_, _, rfl⟩ := hgo; exact hk
        | some o => simp only [goOn, Option.some.injEq, Prod.mk.injEq] at hgo; obtain ⟨_, _, rfl⟩ := hgo; exact hk
      split at h
      · cases h
      · exact fin _ (key.trans (.putObj rfl hg (by simp))) h
end Go.RI
namespace Go.RI
theorem predsAll_get : ∀ (l : List Oper) (acc : List (List Nat)), (predsAll l acc).length = acc.length + l.length ∧ (∀ i, i < acc.length → (predsAll l acc).getD i [] = acc.getD i []) ∧
    ∀ k o, l[k]? = some o → (predsAll l acc).getD (acc.length + k) [] = predsOf ((predsAll l acc).take (acc.length + k)) o
  | [], acc => ⟨by simp [predsAll], fun _ _ => rfl, fun k o h => by simp at h⟩
  | o :: l, acc => by
    obtain ⟨h1, h2, h3⟩ := predsAll_get l (acc ++ [predsOf acc o])
    have hpre : (predsAll l (acc ++ [predsOf acc o])).take acc.length = acc := by
      apply List.ext_getElem?
      intro i
      rw [List.getElem?_take]
      split
      · rename_i hi
        have := h2 i (by simp; omega)
        have hlen : i < (predsAll l (acc ++ [predsOf acc o])).length := by rw [h1]; simp; omega
        simp only [List.getD_eq_getElem?_getD] at this
        rw [List.getElem?_eq_getElem hlen] at this ⊢
        rw [List.getElem?_eq_getElem hi]
        rw [List.getElem?_append_left hi, List.getElem?_eq_getElem hi] at this
        simpa using this
      · rename_i hi
        rw [List.getElem?_eq_none (by omega)]
    refine ⟨by simp only [predsAll]; rw [h1]; simp; omega, fun i hi => ?_, fun k o' hk => ?_⟩
    · simp only [predsAll]
      rw [h2 i (by simp; omega)]
      simp only [List.getD_eq_getElem?_getD]
      rw [List.getElem?_append_left hi]
    · simp only [predsAll]
      cases k with
      | zero =>
        simp only [List.getElem?_cons_zero, Option.some.injEq] at hk
        subst hk
        rw [Nat.add_zero, hpre, h2 acc.length (by simp)]
        simp [List.getD_eq_getElem?_getD]
      | succ k =>
        simp only [List.getElem?_cons_succ] at hk
        have := h3 k o' hk
        simp only [List.length_append, List.length_singleton] at this
        rw [show acc.length + (k + 1) = acc.length + 1 + k by omega]
        exact this
theorem preds_spec {ops : Array Oper} {i : Nat} {o : Oper} (ho : ops[i]? = some o) : ∀ j ∈ (preds ops).getD i [], ∃ d ∈ directs o, j = d ∨ j ∈ (preds ops).getD d [] := by
  intro j hj
  have := (predsAll_get ops.toList []).2.2 i o (by simpa using ho)
  simp only [List.length_nil, Nat.zero_add] at this
  unfold preds at hj ⊢
  rw [this] at hj
  unfold predsOf at hj
  obtain ⟨d, hd, hm⟩ := List.mem_flatMap.1 hj
  refine ⟨d, hd, ?_⟩
  rcases List.mem_cons.1 hm with h | h
  · exact .inl h
  · refine .inr ?_
    simp only [List.getD_eq_getElem?_getD, List.getElem?_take] at h ⊢
    split at h
    · exact h
    · simp at h
def ClosedS (ops : Array Oper) (S : Nat → Prop) : Prop := ∀ k, S k → ∀ j ∈ (preds ops).getD k [], S j
theorem ready_preds {ops : Array Oper} {listed : Array Bool} (hS : ClosedS ops fun j => listed.getD j false = true) {i : Nat} (hi : i ∈ Region.ready .any ops listed) : ∀ j ∈ (preds ops).getD i [], listed.getD j false = true := by
  obtain ⟨_, o, ho, he⟩ := mem_ready.1 hi
  intro j hj
  obtain ⟨d, hd, hjd⟩ := preds_spec ho j hj
  have hdl : listed.getD d false = true := by
    unfold directs at hd
    obtain ⟨e, he', rfl⟩ := List.mem_map.1 hd
    obtain ⟨h1, h2⟩ := List.mem_filter.1 he'
    exact he e (by simpa using h1) h2
  rcases hjd with rfl | hjd
  · exact hdl
  · exact hS d hdl j hjd
theorem closed_set {ops : Array Oper} {listed : Array Bool} (hS : ClosedS ops fun j => listed.getD j false = true) {i : Nat} (hi : i ∈ Region.ready .any ops listed) : ClosedS ops fun j => (listed.setIfInBounds i true).getD j false = true := by
  have hp := ready_preds hS hi
  intro k hk j hj
  by_cases hki : k = i
  · subst hki; exact getD_set_true (hp j hj)
  · rw [getD_set_ne false (Ne.symm hki)] at hk
    exact getD_set_true (hS k hk j hj)
theorem mem_unordered {ops : Array Oper} {i j : Nat} (hi : i < ops.size) : j ∈ (unordered ops).getD i [] ↔ j < i ∧ j ∉ (preds ops).getD i [] := by
  have hm : ∀ (l : List Nat) (n : Nat), memN n l = true ↔ n ∈ l := by
    intro l n
    induction l with
    | nil => simp [memN]
    | cons m l ih =>
      simp only [memN, List.mem_cons]
      split
      · rename_i h; simp [Nat.eq_of_beq_eq_true h]
      · rename_i h
        have : n ≠ m := fun e => by subst e; rw [Nat.beq_refl] at h; cases h
        simp [ih, this]
  unfold unordered
  simp only [List.getD_eq_getElem?_getD, List.getElem?_map, List.getElem?_range hi, Option.map_some, Option.getD_some, List.mem_filter, List.mem_range, Bool.not_eq_true']
  constructor
  · rintro ⟨h1, h2⟩; exact ⟨h1, fun h => by rw [(hm _ _).2 h] at h2; cases h2⟩
  · rintro ⟨h1, h2⟩
    refine ⟨h1, ?_⟩
    cases hq : memN j ((preds ops)[i]?.getD []) with
    | false => rfl
    | true => exact absurd ((hm _ _).1 hq) h2
theorem unordered_of {ops : Array Oper} {listed : Array Bool} (hS : ClosedS ops fun j => listed.getD j false = true) {i : Nat} (hi : i ∈ Region.ready .any ops listed) :
    (∀ j, j < i → listed.getD j false = false → j ∈ (unordered ops).getD i []) ∧ (∀ k, k < ops.size → i < k → listed.getD k false = true → i ∈ (unordered ops).getD k []) := by
  have hil : i < ops.size ∧ listed.getD i true = false := by
    obtain ⟨h1, o, ho, _⟩ := mem_ready.1 hi
    exact ⟨(Array.getElem?_eq_some_iff.1 ho).1, h1⟩
  have hnl : listed.getD i false = false := by
    have := hil.2
    simp only [Array.getD_eq_getD_getElem?] at this ⊢
    cases hq : listed[i]? with
    | none => rfl
    | some b => rw [hq] at this; simpa using this
  constructor
  · intro j hj hjl
    refine (mem_unordered hil.1).2 ⟨hj, fun hm => ?_⟩
    have := ready_preds hS hi j hm
    rw [hjl] at this; cases this
  · intro k hk hik hkl
    refine (mem_unordered hk).2 ⟨hik, fun hm => ?_⟩
    have : listed.getD i false = true := hS k hkl i hm
    rw [hnl] at this; cases this
end Go.RI
namespace Go.RI
def below (n : Nat) (β : Bmap) : Bmap := fun b => if b < n then β b else none
theorem below_some {n : Nat} {β : Bmap} {b : Nat} {im : Img} : below n β b = some im ↔ b < n ∧ β b = some im := by
  unfold below; split
  · rename_i h; simp [h]
  · rename_i h; simp [h]
theorem below_mono {n m : Nat} {β β' : Bmap} (hn : n ≤ m) (h : Ext β β') : Ext (below n β) (below m β') := fun b im hb => by
  obtain ⟨h1, h2⟩ := below_some.1 hb
  exact below_some.2 ⟨Nat.lt_of_lt_of_le h1 hn, h _ _ h2⟩
theorem below_all {n : Nat} {β β' : Bmap} (hlt : ∀ b im, β b = some im → b < n) (h : Ext β β') : Ext β (below n β') := fun b im hb => below_some.2 ⟨hlt _ _ hb, h _ _ hb⟩
section
variable {n : Nat} {β β' β'' : Bmap}
mutual
theorem VRel.within (h : Ext β' β'') : ∀ {v : AV} {x0 x : Value}, VRel (below n β) v x0 → VRel β' v x → VRel (below n β'') v x
  | .bool _, _, _, _, hv => hv
  | .int _ _, _, _, _, hv => hv
  | .str _, _, _, _, hv => hv
  | .ptr b off, _, _, h0, hv => by
    simp only [VRel] at *; obtain ⟨_, hb0, _⟩ := h0; obtain ⟨im, hb, e⟩ := hv; exact ⟨im, below_some.2 ⟨(below_some.1 hb0).1, h _ _ hb⟩, e⟩
  | .nilp, _, _, _, hv => hv
  | .slice .., _, _, h0, hv => by
    simp only [VRel] at *; obtain ⟨_, hb0, _⟩ := h0; obtain ⟨im, hb, e⟩ := hv; exact ⟨im, below_some.2 ⟨(below_some.1 hb0).1, h _ _ hb⟩, e⟩
  | .nils, _, _, _, hv => hv
  | .map b, _, _, h0, hv => by
    simp only [VRel] at *; obtain ⟨_, hb0, _⟩ := h0; obtain ⟨im, hb, e⟩ := hv; exact ⟨im, below_some.2 ⟨(below_some.1 hb0).1, h _ _ hb⟩, e⟩
  | .nilm, _, _, _, hv => hv
  | .func _ _ _, _, _, h0, hv => by
    simp only [VRel] at *; obtain ⟨f0, c0, p1, p2, _⟩ := h0; obtain ⟨f, c, hf, hc, e⟩ := hv; exact ⟨f, c, LRel.within h p1 hf, LRel.within h p2 hc, e⟩
  | .nilf, _, _, _, hv => hv
  | .yld l, _, _, h0, hv => by
    simp only [VRel] at *; obtain ⟨_, hb0, _⟩ := h0; obtain ⟨im, hb, e⟩ := hv; exact ⟨im, below_some.2 ⟨(below_some.1 hb0).1, h _ _ hb⟩, e⟩
  | .iface t x, _, _, h0, hv => by
    simp only [VRel] at *; obtain ⟨y0, p, _⟩ := h0; obtain ⟨y, hy, e⟩ := hv; exact ⟨y, VRel.within h p hy, e⟩
  | .nili, _, _, _, hv => hv
  | .agg l, _, _, h0, hv => by
    simp only [VRel] at *; obtain ⟨c0, p, _⟩ := h0; obtain ⟨c, hc, e⟩ := hv; exact ⟨c, LRel.within h p hc, e⟩
  | .tuple l, _, _, h0, hv => by
    simp only [VRel] at *; obtain ⟨c0, p, _⟩ := h0; obtain ⟨c, hc, e⟩ := hv; exact ⟨c, LRel.within h p hc, e⟩
theorem LRel.within (h : Ext β' β'') : ∀ {l : List AV} {c0 c : List Value}, LRel (below n β) l c0 → LRel β' l c → LRel (below n β'') l c
  | [], _, _, _, hv => hv
  | _ :: _, _, _, h0, hv => by
    simp only [LRel] at *; obtain ⟨_, _, _, p1, p2⟩ := h0; obtain ⟨y, ys, e, h1, h2⟩ := hv; exact ⟨y, ys, e, VRel.within h p1 h1, LRel.within h p2 h2⟩
end
theorem ERel.within (h : Ext β' β'') : ∀ {es : List (AV × AV × Nat)} {l0 l : List MapEntry}, ERel (below n β) es l0 → ERel β' es l → ERel (below n β'') es l
  | [], _, _, _, hv => hv
  | (_, _, _) :: _, _, _, h0, hv => by
    simp only [ERel] at *; obtain ⟨_, _, _, p1, p2, _, p4⟩ := h0; obtain ⟨e, r, rfl, h1, h2, h3, h4⟩ := hv
    exact ⟨e, r, rfl, VRel.within h p1 h1, VRel.within h p2 h2, h3, ERel.within h p4 h4⟩
theorem TRel.within (h : Ext β' β'') {tm : Tr AV} {a0 a : Array Value} (h0 : TRel (below n β) tm a0) (hv : TRel β' tm a) : TRel (below n β'') tm a := fun t => VRel.within h (h0 t) (hv t)
theorem ORel.within [Cx] (h : Ext β' β'') {w w' : World} {o : AObj} {im : Img} (h0 : ORel (below n β) w o im) (ho : ORel β' w' o im) : ORel (below n β'') w' o im := by
  cases o with
  | cells e l fz k =>
    simp only [ORel] at *
    obtain ⟨_, _, _, _, _, q4, _⟩ := h0
    obtain ⟨c, fr, h1, h2, h3, h4, h5⟩ := ho
    refine ⟨c, fr, h1, h2, h3, fun i v hi => ?_, h5⟩
    obtain ⟨x0, _, hr0⟩ := q4 i v hi
    obtain ⟨x, hx, hr⟩ := h4 i v hi
    exact ⟨x, hx, VRel.within h hr0 hr⟩
  | map es cl =>
    simp only [ORel] at *
    obtain ⟨_, _, _, q⟩ := h0
    obtain ⟨h0, c, h1, h2⟩ := ho; exact ⟨h0, c, h1, ERel.within h q h2⟩
  | miter m s se st =>
    simp only [ORel] at *
    obtain ⟨_, _, _, q⟩ := h0
    obtain ⟨h0, r, h1, h2⟩ := ho
    refine ⟨h0, r, h1, ?_⟩
    cases m with
    | none => exact h2
    | some b =>
      obtain ⟨j0, hj0, _⟩ := q
      obtain ⟨jm, hj, e⟩ := h2
      exact ⟨jm, below_some.2 ⟨(below_some.1 hj0).1, h _ _ hj⟩, e⟩
  | siter s p => exact ho
  | loop state pend fn tm params assign body defers =>
    simp only [ORel] at *
    obtain ⟨_, _, _, _, _, _, q5, _, _, _, j0, q9, _⟩ := h0
    obtain ⟨h0, r, h1, h2, h3, h4, h5, h6, h7, h8, jm, h9, h10⟩ := ho
    exact ⟨h0, r, h1, h2, h3, h4, TRel.within h q5 h5, h6, h7, h8, jm, below_some.2 ⟨(below_some.1 q9).1, h _ _ h9⟩, h10⟩
  | dfr t => exact ho
  | dead => trivial
end
end Go.RI
