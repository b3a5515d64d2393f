/- The closed call that a body makes first, run by the kernel. Conditions: none. Rules for runs of the small language over a partly known heap, and what the functions on the way of the law compute. Conditions: none. -/
import Derived.Test.YtaplnebenndkgaaGreatDoorT16
import Derived.Test.YtaplnebenndkgaaGreatDoorT17
import Derived.Test.YtaplnebenndkgaaGreatDoorT18
import Derived.Test.YtaplnebenndkgaaGreatDoorT19
import Derived.Test.YtaplnebenndkgaaGreatDoorT11
set_option linter.all false
namespace Go.RI.Rw
theorem noOrcC : noOrcB tabC = true := by kernel_rfl
theorem r0 : row0Run base0 1000 48 11 138 3 w0 = true := by kernel_rfl
theorem pureAll : (List.all (w0 :: rows) fun r => pureL r.l && (pureL r.o && pureL r.r)) = true := by kernel_rfl
theorem rows_ok : ∀ r, r ∈ rows → rowRun base0 1000 48 11 138 3 r = true := by
  intro r hr
  simp only [rows, List.mem_cons, List.mem_nil_iff, or_false] at hr
  rcases hr with rfl | rfl | rfl | rfl | rfl | rfl | rfl | rfl | rfl | rfl | rfl | rfl | rfl | rfl | rfl | rfl | rfl | rfl | rfl | rfl | rfl | rfl | rfl | rfl | rfl | rfl | rfl | rfl | rfl | rfl | rfl | rfl | rfl | rfl | rfl | rfl | rfl | rfl | rfl | rfl | rfl | rfl | rfl | rfl | rfl | rfl | rfl | rfl | rfl | rfl | rfl | rfl | rfl | rfl | rfl
  · exact r1
  · exact r2
  · exact r3
  · exact r4
  · exact r5
  · exact r6
  · exact r7
  · exact r8
  · exact r9
  · exact r10
  · exact r11
  · exact r12
  · exact r13
  · exact r14
  · exact r15
  · exact r16
  · exact r17
  · exact r18
  · exact r19
  · exact r20
  · exact r21
  · exact r22
  · exact r23
  · exact r24
  · exact r25
  · exact r26
  · exact r27
  · exact r28
  · exact r29
  · exact r30
  · exact r31
  · exact r32
  · exact r33
  · exact r34
  · exact r35
  · exact r36
  · exact r37
  · exact r38
  · exact r39
  · exact r40
  · exact r41
  · exact r42
  · exact r43
  · exact r44
  · exact r45
  · exact r46
  · exact r47
  · exact r48
  · exact r49
  · exact r50
  · exact r51
  · exact r52
  · exact r53
  · exact r54
  · exact r55
end Go.RI.Rw
namespace Go.RI
inductive Mb where
  | ro (f : Nat → Option AV)
  | own (e : Nat) (l : List AV)
  | app (e : Nat) (l : List AV) (lo : Nat)
abbrev Hp := Nat → Option Mb
abbrev Env := Nat → AV
def Mb.rd : Mb → Nat → Option AV
  | .ro f, i => f i
  | .own _ l, i => l[i]?
  | .app _ l _, i => l[i]?
def rdH (H : Hp) (b i : Nat) : Option AV := match H b with
  | some m => m.rd i
  | none => none
def rdNH (H : Hp) (b : Nat) : Nat → Nat → Option (List AV)
  | _, 0 => some []
  | i, n + 1 => match rdH H b i with
    | some v => match rdNH H b (i + 1) n with
      | some r => some (v :: r)
      | none => none
    | none => none
def MbOk (H : Hp) (st : St) (b : Nat) : Mb → Prop
  | .ro f => (∃ e l fz k, st.heap.get b = some (.cells e l fz k)) ∧ ∀ i v, f i = some v → st.rd b i = some v
  | .own e l => st.heap.get b = some (.cells (e, true) (l.map some) 0 none)
  | .app e l lo => ∃ k u, st.heap.get b = some (.cells (e, u) (l.map some) 0 k) ∧ ∀ b0, k = some b0 → H b0 = none ∧ b0 < st.next ∧ lo ≤ b0
def Sym (H : Hp) (st : St) : Prop := ∀ b m, H b = some m → b < st.next ∧ MbOk H st b m
def Le (H H' : Hp) : Prop := ∀ b m, H b = some m → H' b = some m
theorem Le.refl (H : Hp) : Le H H := fun _ _ h => h
theorem Le.trans {a b c : Hp} (h : Le a b) (k : Le b c) : Le a c := fun x m hx => k x m (h x m hx)
theorem Le.rd {H H' : Hp} (h : Le H H') {b i : Nat} {v : AV} (hr : rdH H b i = some v) : rdH H' b i = some v := by
  unfold rdH at *
  cases e : H b with
  | none => rw [e] at hr; cases hr
  | some m => rw [e] at hr; rw [h b m e]; exact hr
theorem Sym.cells {H : Hp} {st : St} (h : Sym H st) {b : Nat} {m : Mb} (hb : H b = some m) : ∃ e l fz k, st.heap.get b = some (.cells e l fz k) := by
  have h1 := (h b m hb).2
  cases m with
  | ro f => exact h1.1
  | own e l => exact ⟨_, _, _, _, h1⟩
  | app e l lo => obtain ⟨k, u, q, _⟩ := h1; exact ⟨_, _, _, _, q⟩
structure Quiet (st st' : St) : Prop where
  thr : st'.thr = st.thr
  log : st'.log = st.log
  next : st.next ≤ st'.next
theorem Quiet.refl (st : St) : Quiet st st := ⟨rfl, rfl, Nat.le_refl _⟩
theorem Quiet.trans {a b c : St} (h : Quiet a b) (k : Quiet b c) : Quiet a c := ⟨k.thr.trans h.thr, k.log.trans h.log, Nat.le_trans h.next k.next⟩
theorem Sym.rd {H : Hp} {st : St} (h : Sym H st) {b i : Nat} {v : AV} (hr : rdH H b i = some v) : st.rd b i = some v := by
  unfold rdH at hr
  cases e : H b with
  | none => rw [e] at hr; cases hr
  | some m =>
    rw [e] at hr
    have h1 := (h b m e).2
    have key : ∀ (l : List AV) (ee : Nat × Bool) fz k, st.heap.get b = some (.cells ee (l.map some) fz k) → l[i]? = some v → st.rd b i = some v := by
      intro l ee fz k q1 q2
      unfold St.rd; rw [q1]; simp only [List.getElem?_map, q2, Option.map_some]
    cases m with
    | ro f => exact h1.2 i v hr
    | own e' l => exact key _ _ _ _ h1 hr
    | app e' l lo => obtain ⟨k, u, q1, q2⟩ := h1; exact key _ _ _ _ q1 hr
theorem rd_takeVals {st : St} {b : Nat} : ∀ {n i : Nat} {r : List AV}, (∀ (j : Nat) (v : AV), r[j]? = some v → st.rd b (i + j) = some v) → r.length = n → (n = 0 → ∃ e l fz k, st.heap.get b = some (.cells e l fz k)) → st.rdN b i n = some r := by
  intro n i r h1 h2 h0
  have hex : ∃ e l fz k, st.heap.get b = some (.cells e l fz k) := by
    cases n with
    | zero => exact h0 rfl
    | succ n =>
      cases r with
      | nil => cases h2
      | cons v r =>
        have := h1 0 v rfl
        unfold St.rd at this
        split at this
        · rename_i e l fz k q; exact ⟨e, l, fz, k, q⟩
        · cases this
  obtain ⟨e, l, fz, k, hg⟩ := hex
  have h3 : ∀ (j : Nat) (v : AV), r[j]? = some v → l[i + j]? = some (some v) := by
    intro j v hj
    have := h1 j v hj
    unfold St.rd at this; rw [hg] at this
    simp only at this
    split at this
    · rename_i x q; cases this; exact q
    · cases this
  unfold St.rdN; rw [hg]; simp only
  clear h1 h0 hg
  induction r generalizing n i l with
  | nil => cases h2; simp [takeVals]
  | cons v r ih =>
    cases n with
    | zero => cases h2
    | succ n =>
      have q := h3 0 v rfl
      rw [Nat.add_zero] at q
      have hi : i < l.length := (List.getElem?_eq_some_iff.1 q).1
      rw [List.drop_eq_getElem_cons hi]
      have q2 : l[i] = some v := (List.getElem?_eq_some_iff.1 q).2
      rw [q2, takeVals]
      have := ih (n := n) (i := i + 1) (by simpa using h2) l (fun j w hj => by have := h3 (j + 1) w (by simpa using hj); rw [show i + 1 + j = i + (j + 1) by omega]; exact this)
      rw [this]
theorem rdNH_get {H : Hp} {b : Nat} : ∀ {n i : Nat} {r : List AV}, rdNH H b i n = some r → r.length = n ∧ ∀ (j : Nat) (v : AV), r[j]? = some v → rdH H b (i + j) = some v
  | 0, i, r, h => by simp [rdNH] at h; subst h; simp
  | n + 1, i, r, h => by
    unfold rdNH at h
    split at h
    · rename_i v hv
      split at h
      · rename_i r' hr
        cases h
        obtain ⟨h1, h2⟩ := rdNH_get hr
        refine ⟨by simp [h1], fun j w hj => ?_⟩
        cases j with
        | zero => simp at hj; subst hj; exact hv
        | succ j => have := h2 j w (by simpa using hj); rw [show i + (j + 1) = i + 1 + j by omega]; exact this
      · cases h
    · cases h
theorem rdNH_of {H : Hp} {b : Nat} : ∀ {i : Nat} {r : List AV}, (∀ (j : Nat) (v : AV), r[j]? = some v → rdH H b (i + j) = some v) → rdNH H b i r.length = some r
  | i, [], h => rfl
  | i, v :: r, h => by
    simp only [List.length_cons, rdNH]
    rw [show rdH H b i = some v from h 0 v rfl]
    simp only
    rw [rdNH_of (i := i + 1) (r := r) fun j w hj => by have := h (j + 1) w (by simpa using hj); rw [show i + 1 + j = i + (j + 1) by omega]; exact this]
theorem Sym.rdN {H : Hp} {st : St} (h : Sym H st) {b i n : Nat} {r : List AV} (hr : rdNH H b i n = some r) (hn : n ≠ 0) : st.rdN b i n = some r := by
  obtain ⟨h1, h2⟩ := rdNH_get hr
  exact rd_takeVals (fun j v hj => h.rd (h2 j v hj)) h1 (fun h => absurd h hn)
def evG (g : Env) : Rnd → AV
  | .tmp t => g t
  | .con v => v
  | .fn f => .func (.func f) [] []
def evGL (g : Env) : List Rnd → List AV
  | [] => []
  | x :: l => evG g x :: evGL g l
def up (g : Env) (d : Nat) (v : AV) : Env := fun t => if t = d then v else g t
def upO (g : Env) (d : Option Nat) (v : AV) : Env := match d with
  | some d => up g d v
  | none => g
def EnvOf (tm : Tr AV) (g : Env) : Prop := ∀ t, ev tm (.tmp t) = g t
theorem EnvOf.ev {tm : Tr AV} {g : Env} (h : EnvOf tm g) (x : Rnd) : ev tm x = evG g x := by
  cases x with
  | tmp t => exact h t
  | con v => rfl
  | fn f => rfl
theorem EnvOf.evL {tm : Tr AV} {g : Env} (h : EnvOf tm g) : ∀ l, evL tm l = evGL g l
  | [] => rfl
  | x :: l => by simp only [RI.evL, evGL, h.ev, EnvOf.evL h l]
theorem EnvOf.put {tm : Tr AV} {g : Env} (h : EnvOf tm g) (d : Nat) (v : AV) : EnvOf (tm.set v d) (up g d v) := by
  intro t
  have ht := h t
  simp only [RI.ev, up, Tr.get_set] at *
  by_cases e : t = d
  · rw [if_pos e, if_pos e]
  · rw [if_neg e, if_neg e]; exact ht
theorem EnvOf.putO {tm : Tr AV} {g : Env} (h : EnvOf tm g) (d : Option Nat) (v : AV) : EnvOf (putT tm d v) (upO g d v) := by
  cases d with
  | none => exact h
  | some d => exact h.put d v
def fillG (cells : List AV) (g : Env) : List (Nat × Nat × Rnd) → Option (List AV)
  | [] => some cells
  | (off, size, x) :: rest => match Nat.beq (evG g x).cells.length size, Nat.ble (off + size) cells.length with
    | true, true => fillG (cells.take off ++ (evG g x).cells ++ cells.drop (off + size)) g rest
    | _, _ => none
theorem EnvOf.fill {tm : Tr AV} {g : Env} (h : EnvOf tm g) : ∀ (l : List (Nat × Nat × Rnd)) (c : List AV), fillA c tm l = fillG c g l
  | [], c => rfl
  | (off, size, x) :: l, c => by
    simp only [fillA, fillG, h.ev]
    cases Nat.beq (evG g x).cells.length size <;> cases Nat.ble (off + size) c.length <;> first | rfl | exact EnvOf.fill h l _
def optNatG (g : Env) (d : Nat) : Option Rnd → Option Nat
  | none => some d
  | some x => natOf (evG g x)
theorem EnvOf.optNat {tm : Tr AV} {g : Env} (h : EnvOf tm g) (d : Nat) (o : Option Rnd) : RI.optNat tm d o = optNatG g d o := by
  cases o with
  | none => rfl
  | some x => simp only [RI.optNat, optNatG, h.ev]
def pv (op : AOp) (g : Env) (H : Hp) : Option AV :=
  match op with
  | .mv x => some (evG g x)
  | .pick c a b => match evG g c with
    | .bool true => some (evG g a)
    | .bool false => some (evG g b)
    | _ => none
  | .load1 a => match evG g a with
    | .ptr b off => rdH H b off
    | _ => none
  | .loadN n a => match n with
    | 0 => none
    | Nat.succ n => match evG g a with
      | .ptr b off => match rdNH H b off (Nat.succ n) with
        | some l => some (.agg l)
        | none => none
      | _ => none
  | .bin t op x y => binA t op (evG g x) (evG g y)
  | .un op x => unA op (evG g x)
  | .toInt k x => match evG g x with
    | .int _ n => some (.int k (k.wrap n))
    | _ => none
  | .fieldAddr off x => match evG g x with
    | .ptr b o => some (.ptr b (o + off))
    | _ => none
  | .build zero parts => match fillG zero g parts with
    | some l => some (.agg l)
    | none => none
  | .len t x => match t, evG g x with
    | .num, .str s => some (.int .i64 (.ofNat s.length))
    | .sl, .slice _ _ n _ _ => some (.int .i64 (.ofNat n))
    | .sl, .nils => some (.int .i64 (.ofNat 0))
    | _, _ => none
  | .maxI x y => match evG g x, evG g y with
    | .int k a, .int _ b => some (.int k (if b > a then b else a))
    | _, _ => none
  | .cutStr x lo hi => match evG g x with
    | .str s => match optNatG g 0 lo, optNatG g s.length hi with
      | some l, some h => match Nat.ble l h, Nat.ble h s.length with
        | true, true => some (.str ((s.drop l).take (h - l)))
        | _, _ => none
      | _, _ => none
    | _ => none
  | .runeStr x => match evG g x with
    | .int _ (.ofNat n) => match Nat.blt n 128 with
      | true => some (.str [n])
      | false => none
    | _ => none
  | _ => none
theorem pv_sound {op : AOp} {g : Env} {H : Hp} {v : AV} (h : pv op g H = some v) {tm : Tr AV} {st : St} (hg : EnvOf tm g) (hs : Sym H st) : aop op tm st = some (v, st) := by
  cases op <;> simp only [pv] at h <;> simp only [aop, hg.ev, hg.fill, hg.optNat] <;> try (cases h; done)
  case mv => cases h; rfl
  case pick => split at h <;> (first | (cases h; done) | (cases h; rename_i e; rw [e]))
  case load1 =>
    split at h
    · rename_i e; rw [e]; simp only [hs.rd h]
    · cases h
  case loadN n a =>
    cases n with
    | zero => cases h
    | succ n =>
      simp only at h
      split at h
      · rename_i e; rw [e]
        split at h
        · rename_i l q; cases h; simp only [hs.rdN q (Nat.succ_ne_zero n)]
        · cases h
      · cases h
  case build =>
    split at h
    · rename_i e; cases h; rw [e]
    · cases h
  case bin => rw [h]
  case un => rw [h]
  case toInt => split at h <;> (first | (cases h; done) | (cases h; rename_i e; rw [e]))
  case fieldAddr => split at h <;> (first | (cases h; done) | (cases h; rename_i e; rw [e]))
  case runeStr =>
    split at h
    · rename_i e; rw [e]; simp only
      split at h
      · rename_i q; cases h; rw [q]
      · cases h
    · cases h
  case cutStr =>
    split at h
    · rename_i e; rw [e]; simp only
      split at h
      · rename_i q1 q2; rw [q1, q2]; simp only
        split at h
        · rename_i q3 q4; cases h; rw [q3, q4]
        · cases h
      · cases h
    · cases h
  case len t x =>
    split at h <;> (first | (cases h; done) | (cases h; rename_i e; rw [e]))
  case maxI =>
    split at h
    · rename_i e1 e2; cases h; rw [e1, e2]
    · cases h
section
variable (fs : Fns) (orc : Oracle)
def CallS (f : AV) (args : List AV) (H : Hp) (P : AV → Hp → Prop) : Prop :=
  ∀ st, Sym H st → st.thr ≤ st.next → ∃ n v st' H', cb fs orc n f args st = some (v, st') ∧ Sym H' st' ∧ Le H H' ∧ Quiet st st' ∧ P v H'
def SOk (c : ACode) (g : Env) (H : Hp) (lo : Nat) (Q : AOut → Env → Hp → Prop) : Prop :=
  ∀ st tm, Sym H st → EnvOf tm g → st.thr ≤ lo → lo ≤ st.next →
    ∃ n out tm' st' g' H', run fs orc n c ⟨tm, []⟩ st = some (out, ⟨tm', []⟩, st') ∧ EnvOf tm' g' ∧ Sym H' st' ∧ Quiet st st' ∧ Q out g' H'
def SOps (l : List AOper) (g : Env) (H : Hp) (lo : Nat) (Q : Env → Hp → Prop) : Prop :=
  ∀ st tm, Sym H st → EnvOf tm g → st.thr ≤ lo → lo ≤ st.next →
    ∃ n tm' st' g' H', runOps (cb fs orc n) l ⟨tm, []⟩ st = some (⟨tm', []⟩, st') ∧ EnvOf tm' g' ∧ Sym H' st' ∧ Quiet st st' ∧ Q g' H'
def EsOk (qt : Bool) (i : Nat) (nc : List Nat) (es : List (Nat × Eff)) : Prop :=
  ∀ p, p ∈ es → p.1 < i ∧ (qt = true → p.2.wr = [] ∧ (p.1 ∈ nc → p.2.cls ≠ .chain))
def SDr (l : List AOper) (us : List (List Nat)) (qt : Bool) (i : Nat) (nc : List Nat) (g : Env) (H : Hp) (lo : Nat) (Q : Env → Hp → Prop) : Prop :=
  ∀ st tm es, Sym H st → EnvOf tm g → st.thr ≤ lo → lo ≤ st.next → EsOk qt i nc es →
    ∃ n tm' st' g' H', runDraw (cb fs orc n) l us i es ⟨tm, []⟩ st = some (⟨tm', []⟩, st') ∧ EnvOf tm' g' ∧ Sym H' st' ∧ Quiet st st' ∧ Q g' H'
def seqQ (K : Env → Hp → Prop) (Q : AOut → Env → Hp → Prop) : AOut → Env → Hp → Prop
  | .normal, g, H => K g H
  | o, g, H => Q o g H
def blkQ (id : Nat) (Q : AOut → Env → Hp → Prop) : AOut → Env → Hp → Prop
  | .exit i, g, H => bif Nat.beq i id then Q .normal g H else Q (.exit i) g H
  | o, g, H => Q o g H
def loopQ (I : Nat → Env → Hp → Prop) (k : Nat) (Q : AOut → Env → Hp → Prop) : AOut → Env → Hp → Prop
  | .normal, g, H => ∃ k', k' < k ∧ I k' g H
  | o, g, H => Q o g H
variable {fs orc}
theorem SOk.mono {c : ACode} {g : Env} {H : Hp} {lo : Nat} {Q R : AOut → Env → Hp → Prop} (h : SOk fs orc c g H lo Q) (k : ∀ o g' H', Q o g' H' → R o g' H') : SOk fs orc c g H lo R := by
  intro st tm hs hg h1 h2
  obtain ⟨n, out, tm', st', g', H', q1, q2, q3, q4, q5⟩ := h st tm hs hg h1 h2
  exact ⟨n, out, tm', st', g', H', q1, q2, q3, q4, k _ _ _ q5⟩
theorem CallS.mono {f : AV} {args : List AV} {H : Hp} {P R : AV → Hp → Prop} (h : CallS fs orc f args H P) (k : ∀ v H', Le H H' → P v H' → R v H') : CallS fs orc f args H R := by
  intro st hs ht
  obtain ⟨n, v, st', H', q1, q2, q3, q4, q5⟩ := h st hs ht
  exact ⟨n, v, st', H', q1, q2, q3, q4, k _ _ q3 q5⟩
theorem sok_skip {g : Env} {H : Hp} {lo : Nat} {Q : AOut → Env → Hp → Prop} (h : Q .normal g H) : SOk fs orc .skip g H lo Q :=
  fun st tm hs hg _ _ => ⟨1, .normal, tm, st, g, H, rfl, hg, hs, .refl _, h⟩
theorem sok_ret {g : Env} {H : Hp} {lo : Nat} {Q : AOut → Env → Hp → Prop} (h : Q .ret g H) : SOk fs orc .ret g H lo Q :=
  fun st tm hs hg _ _ => ⟨1, .ret, tm, st, g, H, rfl, hg, hs, .refl _, h⟩
theorem sok_exit {g : Env} {H : Hp} {lo i : Nat} {Q : AOut → Env → Hp → Prop} (h : Q (.exit i) g H) : SOk fs orc (.exit i) g H lo Q :=
  fun st tm hs hg _ _ => ⟨1, .exit i, tm, st, g, H, rfl, hg, hs, .refl _, h⟩
theorem sok_seq {a b : ACode} {g : Env} {H : Hp} {lo : Nat} {Q : AOut → Env → Hp → Prop} (h : SOk fs orc a g H lo (seqQ (fun g' H' => SOk fs orc b g' H' lo Q) Q)) : SOk fs orc (.seq a b) g H lo Q := by
  intro st tm hs hg h1 h2
  obtain ⟨n, out, tm', st', g', H', q1, q2, q3, q4, q5⟩ := h st tm hs hg h1 h2
  cases out with
  | normal =>
    obtain ⟨m, out2, tm2, st2, g2, H2, r1, r2, r3, r4, r5⟩ := q5 st' tm' q3 q2 (by rw [q4.thr]; exact h1) (Nat.le_trans h2 q4.next)
    refine ⟨Nat.max n m + 1, out2, tm2, st2, g2, H2, ?_, r2, r3, q4.trans r4, r5⟩
    simp only [run]
    rw [run_le (Nat.le_max_left n m) _ _ _ _ q1]
    exact run_le (Nat.le_max_right n m) _ _ _ _ r1
  | exit i => exact ⟨n + 1, _, tm', st', g', H', by simp only [run, q1], q2, q3, q4, q5⟩
  | ret => exact ⟨n + 1, _, tm', st', g', H', by simp only [run, q1], q2, q3, q4, q5⟩
theorem sok_cond {x : Rnd} {a b : ACode} {g : Env} {H : Hp} {lo : Nat} {Q : AOut → Env → Hp → Prop} (v : Bool) (hx : evG g x = .bool v) (ht : v = true → SOk fs orc a g H lo Q) (hf : v = false → SOk fs orc b g H lo Q) : SOk fs orc (.cond x a b) g H lo Q := by
  intro st tm hs hg h1 h2
  cases v with
  | true =>
    obtain ⟨n, q⟩ := ht rfl st tm hs hg h1 h2
    refine ⟨n + 1, ?_⟩
    simpa only [run, hg.ev, hx] using q
  | false =>
    obtain ⟨n, q⟩ := hf rfl st tm hs hg h1 h2
    refine ⟨n + 1, ?_⟩
    simpa only [run, hg.ev, hx] using q
theorem sok_block {id : Nat} {b : ACode} {g : Env} {H : Hp} {lo : Nat} {Q : AOut → Env → Hp → Prop} (h : SOk fs orc b g H lo (blkQ id Q)) : SOk fs orc (.block id b) g H lo Q := by
  intro st tm hs hg h1 h2
  obtain ⟨n, out, tm', st', g', H', q1, q2, q3, q4, q5⟩ := h st tm hs hg h1 h2
  cases out with
  | normal => exact ⟨n + 1, _, tm', st', g', H', by simp only [run, q1], q2, q3, q4, q5⟩
  | ret => exact ⟨n + 1, _, tm', st', g', H', by simp only [run, q1], q2, q3, q4, q5⟩
  | exit i =>
    simp only [blkQ] at q5
    cases e : Nat.beq i id with
    | true => rw [e] at q5; exact ⟨n + 1, .normal, tm', st', g', H', by simp only [run, q1, e], q2, q3, q4, q5⟩
    | false => rw [e] at q5; exact ⟨n + 1, .exit i, tm', st', g', H', by simp only [run, q1, e], q2, q3, q4, q5⟩
theorem sok_loop {b : ACode} {lo : Nat} {Q : AOut → Env → Hp → Prop} (I : Nat → Env → Hp → Prop) (hb : ∀ k g H, I k g H → SOk fs orc b g H lo (loopQ I k Q)) : ∀ (k : Nat) (g : Env) (H : Hp), I k g H → SOk fs orc (.loop b) g H lo Q := by
  intro k
  induction k using Nat.strongRecOn with
  | _ k ih =>
    intro g H hI st tm hs hg h1 h2
    obtain ⟨n, out, tm', st', g', H', q1, q2, q3, q4, q5⟩ := hb k g H hI st tm hs hg h1 h2
    cases out with
    | normal =>
      obtain ⟨k', hk, hI'⟩ := q5
      obtain ⟨m, out2, tm2, st2, g2, H2, r1, r2, r3, r4, r5⟩ := ih k' hk g' H' hI' st' tm' q3 q2 (by rw [q4.thr]; exact h1) (Nat.le_trans h2 q4.next)
      refine ⟨Nat.max n m + 1, out2, tm2, st2, g2, H2, ?_, r2, r3, q4.trans r4, r5⟩
      simp only [run]
      rw [run_le (Nat.le_max_left n m) _ _ _ _ q1]
      exact run_le (Nat.le_max_right n m) _ _ _ _ r1
    | exit i => exact ⟨n + 1, _, tm', st', g', H', by simp only [run, q1], q2, q3, q4, q5⟩
    | ret => exact ⟨n + 1, _, tm', st', g', H', by simp only [run, q1], q2, q3, q4, q5⟩
theorem sok_region {l : List AOper} {g : Env} {H : Hp} {lo : Nat} {Q : AOut → Env → Hp → Prop} (h : SOps fs orc l g H lo (Q .normal)) : SOk fs orc (.region l) g H lo Q := by
  intro st tm hs hg h1 h2
  obtain ⟨n, tm', st', g', H', q1, q2, q3, q4, q5⟩ := h st tm hs hg h1 h2
  exact ⟨n + 1, .normal, tm', st', g', H', by simp only [run]; rw [q1], q2, q3, q4, q5⟩
theorem sok_draw {l : List AOper} {us : List (List Nat)} {g : Env} {H : Hp} {lo : Nat} {Q : AOut → Env → Hp → Prop} (h : SDr fs orc l us true 0 [] g H lo (Q .normal)) : SOk fs orc (.draw l us) g H lo Q := by
  intro st tm hs hg h1 h2
  obtain ⟨n, tm', st', g', H', q1, q2, q3, q4, q5⟩ := h st tm [] hs hg h1 h2 (fun _ h => by cases h)
  exact ⟨n + 1, .normal, tm', st', g', H', by simp only [run]; rw [q1], q2, q3, q4, q5⟩
theorem sops_nil {g : Env} {H : Hp} {lo : Nat} {Q : Env → Hp → Prop} (h : Q g H) : SOps fs orc [] g H lo Q :=
  fun st tm hs hg _ _ => ⟨0, tm, st, g, H, rfl, hg, hs, .refl _, h⟩
theorem sops_step {o : AOper} {l : List AOper} {g : Env} {H : Hp} {lo : Nat} {Q : Env → Hp → Prop}
    (h : ∀ st tm, Sym H st → EnvOf tm g → st.thr ≤ lo → lo ≤ st.next → ∃ n tm' st' g' H', stepOp (cb fs orc n) o ⟨tm, []⟩ st = some (⟨tm', []⟩, st') ∧ EnvOf tm' g' ∧ Sym H' st' ∧ Quiet st st' ∧ SOps fs orc l g' H' lo Q) :
    SOps fs orc (o :: l) g H lo Q := by
  intro st tm hs hg h1 h2
  obtain ⟨n, tm', st', g', H', q1, q2, q3, q4, q5⟩ := h st tm hs hg h1 h2
  obtain ⟨m, tm2, st2, g2, H2, r1, r2, r3, r4, r5⟩ := q5 st' tm' q3 q2 (by rw [q4.thr]; exact h1) (Nat.le_trans h2 q4.next)
  refine ⟨Nat.max n m, tm2, st2, g2, H2, ?_, r2, r3, q4.trans r4, r5⟩
  simp only [runOps]
  rw [(cb_le (Nat.le_max_left n m)).stepOp q1]
  exact (cb_le (Nat.le_max_right n m)).runOps r1
theorem sops_aop {op : AOp} {d : Option Nat} {l : List AOper} {g : Env} {H : Hp} {lo : Nat} {Q : Env → Hp → Prop} (hc : op.calls = false)
    (h : ∀ st tm, Sym H st → EnvOf tm g → st.thr ≤ lo → lo ≤ st.next → ∃ v st' H', aop op tm st = some (v, st') ∧ Sym H' st' ∧ Quiet st st' ∧ SOps fs orc l (upO g d v) H' lo Q) :
    SOps fs orc (⟨op, d, none⟩ :: l) g H lo Q := by
  refine sops_step fun st tm hs hg h1 h2 => ?_
  obtain ⟨v, st', H', q1, q2, q3, q4⟩ := h st tm hs hg h1 h2
  refine ⟨0, putT tm d v, st', upO g d v, H', ?_, hg.putO d v, q2, q3, q4⟩
  unfold stepOp
  simp only [wantedA]
  cases op <;> first | (simp only [q1]; done) | cases hc
theorem sops_pv {op : AOp} {d : Nat} {l : List AOper} {g : Env} {H : Hp} {lo : Nat} {Q : Env → Hp → Prop} {v : AV} (h : pv op g H = some v) (k : SOps fs orc l (up g d v) H lo Q) : SOps fs orc (⟨op, some d, none⟩ :: l) g H lo Q := by
  refine sops_aop ?_ fun st tm hs hg _ _ => ⟨v, st, H, pv_sound h hg hs, hs, .refl _, k⟩
  cases op <;> first | rfl | cases h
theorem sops_on {op : AOp} {d : Option Nat} {t : Nat} {w : Bool} {l : List AOper} {g : Env} {H : Hp} {lo : Nat} {Q : Env → Hp → Prop} (h : g t = .bool w) (k : SOps fs orc (⟨op, d, none⟩ :: l) g H lo Q) : SOps fs orc (⟨op, d, some (t, w)⟩ :: l) g H lo Q := by
  intro st tm hs hg h1 h2
  obtain ⟨n, tm', st', g', H', q1, q2⟩ := k st tm hs hg h1 h2
  refine ⟨n, tm', st', g', H', ?_, q2⟩
  simp only [runOps, stepOp, wantedA, hg t, h, beq_self_eq_true] at q1 ⊢
  exact q1
theorem sops_off {op : AOp} {d : Nat} {t : Nat} {w w' : Bool} {l : List AOper} {g : Env} {H : Hp} {lo : Nat} {Q : Env → Hp → Prop} (h : g t = .bool w') (hne : (w' == w) = false) (k : SOps fs orc l (up g d undefA) H lo Q) : SOps fs orc (⟨op, some d, some (t, w)⟩ :: l) g H lo Q := by
  refine sops_step fun st tm hs hg _ _ => ⟨0, tm.set undefA d, st, up g d undefA, H, ?_, hg.put d _, hs, .refl _, k⟩
  simp only [stepOp, wantedA, hg t, h, hne, putT]
theorem sops_offU {op : AOp} {d : Nat} {t : Nat} {w : Bool} {l : List AOper} {g : Env} {H : Hp} {lo : Nat} {Q : Env → Hp → Prop} (h : g t = undefA) (k : SOps fs orc l (up g d undefA) H lo Q) : SOps fs orc (⟨op, some d, some (t, w)⟩ :: l) g H lo Q := by
  refine sops_step fun st tm hs hg _ _ => ⟨0, tm.set undefA d, st, up g d undefA, H, ?_, hg.put d _, hs, .refl _, k⟩
  simp only [stepOp, wantedA, hg t, h, undefA, putT]
def setH (H : Hp) (b : Nat) (m : Mb) : Hp := fun x => if x = b then some m else H x
theorem Sym.none_next {H : Hp} {st : St} (h : Sym H st) : H st.next = none := by
  cases e : H st.next with
  | none => rfl
  | some m => exact absurd (h _ _ e).1 (Nat.lt_irrefl _)
theorem le_setH {H : Hp} {b : Nat} {m : Mb} (h : H b = none) : Le H (setH H b m) := fun x n hx => by
  unfold setH
  by_cases e : x = b
  · subst e; rw [h] at hx; cases hx
  · rw [if_neg e]; exact hx
theorem Sym.newCells {H : Hp} {st : St} (h : Sym H st) (e : Nat) (l : List AV) : Sym (setH H st.next (.own e l)) (newCells st e l) := by
  intro b m hb
  unfold setH at hb
  by_cases eb : b = st.next
  · subst eb
    rw [if_pos rfl] at hb; cases hb
    refine ⟨Nat.lt_succ_self _, ?_⟩
    simp only [MbOk, RI.newCells, St.new, Tr.get_set_same]
  · rw [if_neg eb] at hb
    obtain ⟨h1, h2⟩ := h b m hb
    refine ⟨Nat.lt_succ_of_lt h1, ?_⟩
    have hg : (RI.newCells st e l).heap.get b = st.heap.get b := by simp only [RI.newCells, St.new, Tr.get_set_ne _ _ eb]
    cases m with
    | ro f => refine ⟨by rw [hg]; exact h2.1, fun i v hv => ?_⟩; have := h2.2 i v hv; unfold St.rd at *; rw [hg]; exact this
    | own e l => simp only [MbOk] at *; rw [hg]; exact h2
    | app e l lo =>
      obtain ⟨k, u, q1, q2⟩ := h2
      refine ⟨k, u, by rw [hg]; exact q1, fun b0 hk => ?_⟩
      obtain ⟨r1, r2, r3⟩ := q2 b0 hk
      refine ⟨?_, Nat.lt_succ_of_lt r2, r3⟩
      unfold setH; rw [if_neg (by omega)]; exact r1
theorem Quiet.newCells (st : St) (e : Nat) (l : List AV) : Quiet st (newCells st e l) := ⟨rfl, rfl, Nat.le_succ _⟩
structure Fresh (H : Hp) (lo : Nat) (b : Nat) (m : Mb) (H' : Hp) : Prop where
  le : Le H H'
  at' : H' b = some m
  new : H b = none
  lo : lo ≤ b
theorem Sym.fresh {H : Hp} {st : St} (h : Sym H st) {lo : Nat} (hlo : lo ≤ st.next) (m : Mb) : Fresh H lo st.next m (setH H st.next m) :=
  ⟨le_setH h.none_next, by unfold setH; rw [if_pos rfl], h.none_next, hlo⟩
theorem sops_box {e d : Nat} {x : Rnd} {l : List AOper} {g : Env} {H : Hp} {lo : Nat} {Q : Env → Hp → Prop} (c : List AV) (hc : (evG g x).cells = c) (k : ∀ b H', Fresh H lo b (.own e c) H' → SOps fs orc l (up g d (.ptr b 0)) H' lo Q) : SOps fs orc (⟨.box e x, some d, none⟩ :: l) g H lo Q :=
  sops_aop rfl fun st tm hs hg _ h2 => ⟨_, _, _, rfl, by rw [hg.ev, hc]; exact hs.newCells e _, Quiet.newCells _ _ _, k _ _ (hs.fresh h2 _)⟩
theorem sops_alloc {e d : Nat} {z : List AV} {l : List AOper} {g : Env} {H : Hp} {lo : Nat} {Q : Env → Hp → Prop} (k : ∀ b H', Fresh H lo b (.own e z) H' → SOps fs orc l (up g d (.ptr b 0)) H' lo Q) : SOps fs orc (⟨.alloc e z, some d, none⟩ :: l) g H lo Q :=
  sops_aop rfl fun st tm hs hg _ h2 => ⟨_, _, _, rfl, hs.newCells e _, Quiet.newCells _ _ _, k _ _ (hs.fresh h2 _)⟩
theorem sops_bs {e len es d : Nat} {z : List AV} {ps : List (Nat × Nat × Rnd)} {l : List AOper} {g : Env} {H : Hp} {lo : Nat} {Q : Env → Hp → Prop} (c : List AV) (hc : fillG z g ps = some c) (k : ∀ b H', Fresh H lo b (.own e c) H' → SOps fs orc l (up g d (.slice b 0 len len es)) H' lo Q) :
    SOps fs orc (⟨.buildSlice e len es z ps, some d, none⟩ :: l) g H lo Q :=
  sops_aop rfl fun st tm hs hg _ h2 => ⟨_, _, _, by simp only [aop, hg.fill, hc], hs.newCells e c, Quiet.newCells _ _ _, k _ _ (hs.fresh h2 _)⟩
theorem sops_mk {e es bytes d : Nat} {z : List AV} {x y : Rnd} {l : List AOper} {g : Env} {H : Hp} {lo : Nat} {Q : Env → Hp → Prop} (n : Nat) (hx : natOf (evG g x) = some n) (hy : natOf (evG g y) = some n) (hb : bytes * n ≤ 281474976710656) (hn : n ≤ 1000000)
    (k : ∀ b H', Fresh H lo b (.own e (List.replicate n z).flatten) H' → SOps fs orc l (up g d (.slice b 0 n n es)) H' lo Q) : SOps fs orc (⟨.mkSlice e es bytes z x y, some d, none⟩ :: l) g H lo Q :=
  sops_aop rfl fun st tm hs hg _ h2 => ⟨_, _, _, by
    simp only [aop, hg.ev, hx, hy]
    rw [Nat.ble_eq_true_of_le (Nat.le_refl n), Nat.ble_eq_true_of_le hb, Nat.ble_eq_true_of_le hn], hs.newCells e _, Quiet.newCells _ _ _, k _ _ (hs.fresh h2 _)⟩
end
end Go.RI
namespace Go.RI
def Rd (H : Hp) (es : Nat) (v : AV) (l : List AV) : Prop :=
  (v = .nils ∧ l = []) ∨ ∃ b off n cap, v = .slice b off n cap es ∧ l.length = n * es ∧ n ≤ cap ∧ (∃ m, H b = some m) ∧ ∀ (j : Nat) (x : AV), l[j]? = some x → rdH H b (off + j) = some x
theorem Rd.mono {H H' : Hp} (h : Le H H') {es : Nat} {v : AV} {l : List AV} (hr : Rd H es v l) : Rd H' es v l := by
  rcases hr with hr | ⟨b, off, n, cap, h1, h2, h3, ⟨m, hm⟩, h4⟩
  · exact .inl hr
  · exact .inr ⟨b, off, n, cap, h1, h2, h3, ⟨m, h _ _ hm⟩, fun j x hj => h.rd (h4 j x hj)⟩
theorem Rd.nil (H : Hp) (es : Nat) : Rd H es .nils [] := .inl ⟨rfl, rfl⟩
theorem Rd.one {H : Hp} {es : Nat} {v : AV} {l : List AV} (h : Rd H es v l) : v.one = true := by
  rcases h with ⟨rfl, _⟩ | ⟨b, off, n, cap, rfl, _⟩ <;> rfl
theorem AV.cells_one {v : AV} (h : v.one = true) : v.cells = [v] := by
  cases v <;> first | rfl | cases h
section
variable {fs : Fns} {orc : Oracle} {l : List AOper} {g : Env} {H : Hp} {lo : Nat} {Q : Env → Hp → Prop}
theorem sops_len {d es : Nat} {x : Rnd} {c : List AV} (n : Nat) (h : Rd H es (evG g x) c) (hn : c.length = n * es) (hes : 0 < es) (k : SOps fs orc l (up g d (.int .i64 (.ofNat n))) H lo Q) : SOps fs orc (⟨.len .sl x, some d, none⟩ :: l) g H lo Q := by
  rcases h with ⟨h1, h2⟩ | ⟨b, off, m, cap, h1, h2, _⟩
  · refine sops_pv (v := .int .i64 (.ofNat 0)) (by simp only [pv, h1]) ?_
    subst h2
    have : n = 0 := by
      rcases Nat.eq_zero_or_pos n with h | h
      · exact h
      · have := Nat.mul_pos h hes; simp only [List.length_nil] at hn; omega
    subst this; exact k
  · refine sops_pv (v := .int .i64 (.ofNat m)) (by simp only [pv, h1]) ?_
    have : n = m := Nat.eq_of_mul_eq_mul_right hes (hn.symm.trans h2)
    subst this; exact k
theorem sops_len1 {d : Nat} {x : Rnd} {c : List AV} (h : Rd H 1 (evG g x) c) (k : SOps fs orc l (up g d (.int .i64 (.ofNat c.length))) H lo Q) : SOps fs orc (⟨.len .sl x, some d, none⟩ :: l) g H lo Q :=
  sops_len c.length h (by rw [Nat.mul_one]) Nat.one_pos k
theorem sops_idx {d es n : Nat} {x i : Rnd} {c : List AV} (e : List AV) (h : Rd H es (evG g x) c) (hi : natOf (evG g i) = some n) (he : (c.drop (n * es)).take es = e) (hl : e.length = es) (hes : 0 < es)
    (k : ∀ b o, rdNH H b o es = some e → SOps fs orc l (up g d (.ptr b o)) H lo Q) : SOps fs orc (⟨.idxSl es x i, some d, none⟩ :: l) g H lo Q := by
  rcases h with ⟨h1, h2⟩ | ⟨b, off, m, cap, h1, h2, h3, hm, h4⟩
  · subst h2; simp at he; subst he; simp at hl; omega
  · have hlen : n * es + es ≤ c.length := by
      have := congrArg List.length he
      simp only [List.length_take, List.length_drop, hl] at this; omega
    have hn : n < m := by
      rcases Nat.lt_or_ge n m with q | q
      · exact q
      · have := Nat.mul_le_mul_right es q; omega
    refine sops_aop rfl fun st tm hs hg _ _ => ⟨.ptr b (off + n * es), st, H, ?_, hs, .refl _, k b (off + n * es) ?_⟩
    · simp only [aop, hg.ev, h1, hi]
      rw [show Nat.blt n m = true from Nat.ble_eq_true_of_le hn, Nat.beq_refl]
    · have := rdNH_of (H := H) (b := b) (i := off + n * es) (r := e) fun j v hj => by
        have hj' : c[n * es + j]? = some v := by
          rw [← he, List.getElem?_take] at hj
          split at hj
          · rw [List.getElem?_drop] at hj; exact hj
          · cases hj
        have := h4 _ _ hj'
        rw [show off + n * es + j = off + (n * es + j) by omega]; exact this
      rw [hl] at this; exact this
theorem sops_idx1 {d n : Nat} {x i : Rnd} {c : List AV} (e : AV) (h : Rd H 1 (evG g x) c) (hi : natOf (evG g i) = some n) (he : c[n]? = some e)
    (k : ∀ b o, rdH H b o = some e → SOps fs orc l (up g d (.ptr b o)) H lo Q) : SOps fs orc (⟨.idxSl 1 x i, some d, none⟩ :: l) g H lo Q := by
  refine sops_idx [e] h hi ?_ rfl Nat.one_pos fun b o hq => k b o ?_
  · obtain ⟨h1, h2⟩ := List.getElem?_eq_some_iff.1 he
    rw [Nat.mul_one, List.drop_eq_getElem_cons h1, h2]; rfl
  · simp only [rdNH] at hq
    split at hq
    · rename_i v hv; simp at hq; subst hq; exact hv
    · cases hq
theorem sops_cut {d n : Nat} {x y : Rnd} {c : List AV} (h : Rd H 1 (evG g x) c) (hi : natOf (evG g y) = some n) (hn : n ≤ c.length) (hc : c ≠ []) (k : ∀ v, Rd H 1 v (c.take n) → SOps fs orc l (up g d v) H lo Q) :
    SOps fs orc (⟨.cutSl 1 x none (some y) none, some d, none⟩ :: l) g H lo Q := by
  rcases h with ⟨h1, h2⟩ | ⟨b, off, m, cap, h1, h2, h3, hm, h4⟩
  · exact absurd h2 hc
  · rw [Nat.mul_one] at h2
    refine sops_aop rfl fun st tm hs hg _ _ => ⟨.slice b (off + 0 * 1) (n - 0) (cap - 0) 1, st, H, ?_, hs, .refl _, k _ (.inr ⟨b, _, _, _, rfl, ?_, by omega, hm, fun j v hj => ?_⟩)⟩
    · simp only [aop, hg.ev, h1, optNat, hi]
      rw [Nat.ble_eq_true_of_le (Nat.zero_le _), Nat.ble_eq_true_of_le (show n ≤ cap by omega), Nat.ble_eq_true_of_le (Nat.le_refl cap), Nat.beq_refl]
    · simp only [List.length_take]; omega
    · rw [List.getElem?_take] at hj
      split at hj
      · have := h4 j v hj; simpa using this
      · cases hj
theorem sops_call {f d : Nat} {args : List Rnd} {as : List AV} {P : AV → Hp → Prop} (ha : evGL g args = as) (h : CallS fs orc (.func (.func f) [] []) as H P) (k : ∀ v H', Le H H' → P v H' → SOps fs orc l (up g d v) H' lo Q) :
    SOps fs orc (⟨.call (.fn f) args, some d, none⟩ :: l) g H lo Q := by
  refine sops_step fun st tm hs hg h1 h2 => ?_
  obtain ⟨n, v, st', H', q1, q2, q3, q4, q5⟩ := h st hs (Nat.le_trans h1 h2)
  refine ⟨n, tm.set v d, st', up g d v, H', ?_, hg.put d v, q2, q4, k v H' q3 q5⟩
  simp only [stepOp, wantedA, hg.ev, hg.evL, evG, ha, q1, putT]
structure Stored (H : Hp) (b : Nat) (m : Mb) (H' : Hp) : Prop where
  at' : H' b = some m
  oth : ∀ x, x ≠ b → H' x = H x
theorem Stored.le {H H' H0 : Hp} {b : Nat} {m : Mb} (h : Stored H b m H') (h0 : Le H0 H) (hb : H0 b = none) : Le H0 H' := fun x n hx => by
  by_cases e : x = b
  · subst e; rw [hb] at hx; cases hx
  · rw [h.oth x e]; exact h0 x n hx
theorem wrL_own {b : Nat} {e : Nat × Bool} : ∀ {c l : List AV} {off : Nat} {st : St}, st.heap.get b = some (.cells e (l.map some) 0 none) → allOne c = true → off + c.length ≤ l.length →
    ∃ st', st.wrL b off c = some st' ∧ st'.heap.get b = some (.cells e ((l.take off ++ c ++ l.drop (off + c.length)).map some) 0 none) ∧ (∀ x, x ≠ b → st'.heap.get x = st.heap.get x) ∧ st'.next = st.next ∧ st'.thr = st.thr ∧
      (st.thr ≤ b → st'.log = st.log) ∧ ∀ x, x ∈ st'.log → x ∈ st.log ∨ x = b
  | [], l, off, st, h1, h3, h4 => ⟨st, by simp [St.wrL], by simpa using h1, fun _ _ => rfl, rfl, rfl, fun _ => rfl, fun _ h => .inl h⟩
  | v :: c, l, off, st, h1, h3, h4 => by
    simp only [allOne] at h3
    split at h3
    · rename_i hv
      simp only [List.length_cons] at h4
      have hw : st.wr b off v = some { st with heap := st.heap.set (.cells e ((l.set off v).map some) 0 none) b, log := logw st.thr b st.log } := by
        unfold St.wr; rw [h1]; simp only
        rw [Nat.ble_eq_true_of_le (Nat.zero_le off), show Nat.blt off (l.map some).length = true from Nat.ble_eq_true_of_le (by simp; omega), hv]
        simp only [List.map_set]
      have hlen : off < l.length := by omega
      obtain ⟨st', q1, q2, q3, q4, q5, q6, q7⟩ := wrL_own (b := b) (e := e) (c := c) (l := l.set off v) (off := off + 1) (st := { st with heap := st.heap.set (.cells e ((l.set off v).map some) 0 none) b, log := logw st.thr b st.log })
        (by simp only [Tr.get_set_same]) h3 (by simp; omega)
      refine ⟨st', ?_, ?_, fun x hx => ?_, q4, q5, fun h2 => ?_, fun x hx => ?_⟩
      · simp only [St.wrL]; rw [hw]; exact q1
      · rw [q2]
        congr 2
        have e1 : List.take (off + 1) (l.set off v) = List.take off l ++ [v] := by
          rw [List.take_succ_eq_append_getElem (by simp; omega)]
          rw [List.take_set, List.set_eq_of_length_le (by simp; omega), List.getElem_set_self]
        have e2 : List.drop (off + 1 + c.length) (l.set off v) = List.drop (off + (c.length + 1)) l := by
          rw [List.drop_set_of_lt (by omega)]
          congr 1; omega
        rw [e1, e2]
        simp
      · rw [q3 x hx]; simp only [Tr.get_set_ne _ _ hx]
      · rw [q6 h2]; simp only; unfold logw; rw [Nat.ble_eq_true_of_le h2]
      · rcases q7 x hx with h | h
        · simp only at h
          unfold logw at h
          split at h
          · exact .inl h
          · rcases List.mem_cons.1 h with rfl | h
            · exact .inr rfl
            · exact .inl h
        · exact .inr h
    · cases h3
theorem Sym.stored {H : Hp} {st st' : St} (h : Sym H st) {b e : Nat} {l l' : List AV} (hb : H b = some (.own e l)) (h1 : st'.heap.get b = some (.cells (e, true) (l'.map some) 0 none)) (h2 : ∀ x, x ≠ b → st'.heap.get x = st.heap.get x) (h3 : st'.next = st.next) :
    Sym (fun x => if x = b then some (.own e l') else H x) st' := by
  intro x m hx
  by_cases ex : x = b
  · subst ex
    simp only [if_true] at hx; cases hx
    exact ⟨by rw [h3]; exact (h _ _ hb).1, h1⟩
  · simp only [if_neg ex] at hx
    obtain ⟨q1, q2⟩ := h x m hx
    refine ⟨by rw [h3]; exact q1, ?_⟩
    have hg := h2 x ex
    cases m with
    | ro f => refine ⟨by rw [hg]; exact q2.1, fun i v hv => ?_⟩; have := q2.2 i v hv; unfold St.rd at *; rw [hg]; exact this
    | own e l => simp only [MbOk] at *; rw [hg]; exact q2
    | app e l lo =>
      obtain ⟨k, u, r1, r2⟩ := q2
      refine ⟨k, u, by rw [hg]; exact r1, fun b0 hk => ?_⟩
      obtain ⟨s1, s2, s3⟩ := r2 b0 hk
      have : b0 ≠ b := fun e => by subst e; rw [hb] at s1; cases s1
      exact ⟨by simp only [if_neg this]; exact s1, by rw [h3]; exact s2, s3⟩
theorem sops_store {n : Nat} {a x : Rnd} {b off e : Nat} {r c : List AV} (ha : evG g a = .ptr b off) (hb : H b = some (.own e r)) (hlo : lo ≤ b) (hc : (evG g x).cells = c) (hn : c.length = n) (h1 : allOne c = true) (hf : off + n ≤ r.length)
    (k : ∀ H', Stored H b (.own e (r.take off ++ c ++ r.drop (off + n))) H' → SOps fs orc l g H' lo Q) : SOps fs orc (⟨.store n a x, none, none⟩ :: l) g H lo Q := by
  refine sops_aop rfl fun st tm hs hg ht _ => ?_
  obtain ⟨st', q1, q2, q3, q4, q5, q6, _⟩ := wrL_own (c := c) (off := off) (hs _ _ hb).2 h1 (by rw [hn]; exact hf)
  refine ⟨undefA, st', _, ?_, hs.stored hb q2 q3 q4, ⟨q5, q6 (Nat.le_trans ht hlo), by rw [q4]; exact Nat.le_refl _⟩, k _ ⟨by simp [hn], fun x hx => by simp [hx]⟩⟩
  simp only [aop, hg.ev, ha, hc, q1]
  rw [show Nat.beq c.length n = true from by rw [hn]; exact Nat.beq_refl n]
end
end Go.RI
