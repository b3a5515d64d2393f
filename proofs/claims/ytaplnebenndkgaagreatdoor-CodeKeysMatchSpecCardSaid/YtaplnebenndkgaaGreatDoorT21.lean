/- Rules for runs of the small language over a partly known heap, and what the functions on the way of the law compute. Conditions: none. -/
import Derived.Test.YtaplnebenndkgaaGreatDoorT20
import Derived.Test.YtaplnebenndkgaaGreatDoorT13
set_option linter.all false
namespace Go.RI
def Feed (H : Hp) (v : AV) (xs : List AV) : Prop := Rd H 1 v xs ∨ ∃ s : List Nat, v = .str s ∧ xs = s.map fun n => .int .u8 (.ofNat n)
theorem Rd.own {H : Hp} {b e : Nat} {l : List AV} (h : H b = some (.own e l)) : Rd H 1 (.slice b 0 l.length l.length 1) l :=
  .inr ⟨b, 0, l.length, l.length, rfl, by simp, Nat.le_refl _, ⟨_, h⟩, fun j x hj => by unfold rdH; rw [h]; simpa [Mb.rd] using hj⟩
theorem Rd.ownN {H : Hp} {b e n : Nat} {l : List AV} (h : H b = some (.own e l)) (hn : l.length = n) : Rd H 1 (.slice b 0 n n 1) l := by subst hn; exact Rd.own h
theorem Rd.app {H : Hp} {b e lo : Nat} {l : List AV} (h : H b = some (.app e l lo)) : Rd H 1 (.slice b 0 l.length l.length 1) l :=
  .inr ⟨b, 0, l.length, l.length, rfl, by simp, Nat.le_refl _, ⟨_, h⟩, fun j x hj => by unfold rdH; rw [h]; simpa [Mb.rd] using hj⟩
def Buf (e : Nat) (H0 H : Hp) (lo : Nat) (v : AV) (l : List AV) : Prop :=
  (v = .nils ∧ l = []) ∨ ∃ b, v = .slice b 0 l.length l.length 1 ∧ (H b = some (.own e l) ∨ H b = some (.app e l lo)) ∧ H0 b = none ∧ lo ≤ b
theorem Buf.rd {e lo : Nat} {H0 H : Hp} {v : AV} {l : List AV} (h : Buf e H0 H lo v l) : Rd H 1 v l := by
  rcases h with h | ⟨b, rfl, h | h, _⟩
  · exact .inl h
  · exact Rd.own h
  · exact Rd.app h
theorem Buf.mono {e lo : Nat} {H0 H H' : Hp} (hle : Le H H') {v : AV} {l : List AV} (h : Buf e H0 H lo v l) : Buf e H0 H' lo v l := by
  rcases h with h | ⟨b, h1, h2, h3⟩
  · exact .inl h
  · exact .inr ⟨b, h1, h2.imp (hle _ _) (hle _ _), h3⟩
theorem Buf.nil (e : Nat) (H0 H : Hp) (lo : Nat) : Buf e H0 H lo .nils [] := .inl ⟨rfl, rfl⟩
theorem allOne_of {l : List AV} (h : ∀ v, v ∈ l → v.one = true) : allOne l = true := by
  induction l with
  | nil => rfl
  | cons v l ih => simp only [allOne]; rw [h v (by simp)]; exact ih fun w hw => h w (by simp [hw])
theorem Sym.grown {H : Hp} {st : St} (h : Sym H st) {b e lo : Nat} {l xs : List AV} (hb : H b = some (.own e l) ∨ H b = some (.app e l lo)) (hlo : lo ≤ b) (ht : st.thr ≤ lo) (h1 : allOne xs = true) :
    ∃ st', st.grow b e 0 l.length xs = some st' ∧ Quiet st st' ∧ Sym (fun x => if x = b then none else if x = st.next then some (.app e (l ++ xs) lo) else H x) st' := by
  obtain ⟨k, u, hg, hk⟩ : ∃ k u, st.heap.get b = some (.cells (e, u) (l.map some) 0 k) ∧ ∀ b0, k = some b0 → H b0 = none ∧ b0 < st.next ∧ lo ≤ b0 := by
    rcases hb with hb | hb
    · exact ⟨none, true, (h _ _ hb).2, fun b0 h => by cases h⟩
    · exact (h _ _ hb).2
  have hbn : b < st.next := by rcases hb with hb | hb <;> exact (h _ _ hb).1
  have hbs : H b ≠ none := by rcases hb with hb | hb <;> (rw [hb]; simp)
  have htk : takeVals ((l.map some).drop 0) l.length = some l := by
    rw [List.drop_zero]
    clear hb h1 hg hk hbs
    induction l with
    | nil => simp [takeVals]
    | cons v l ih => simp only [List.map_cons, List.length_cons, takeVals, ih]
  have hl : ∀ y, lo ≤ y → logw st.thr y st.log = st.log := fun y hy => by
    unfold logw; rw [Nat.ble_eq_true_of_le (Nat.le_trans ht hy)]
  have hlk : logKin st.thr k st.log = st.log := by
    cases k with
    | none => rfl
    | some b0 => exact hl b0 (hk b0 rfl).2.2
  refine ⟨_, by
    unfold St.grow; rw [hg]; simp only
    rw [Nat.beq_refl, show Nat.ble (fzOf 0 0) l.length = true from Nat.ble_eq_true_of_le (Nat.zero_le _), htk, h1, show Nat.blt b st.next = true from Nat.ble_eq_true_of_le hbn], ?_, ?_⟩
  · refine ⟨rfl, ?_, Nat.le_succ _⟩
    simp only [hlk]; exact hl b hlo
  · intro x m hx
    by_cases ex : x = b
    · subst ex; simp at hx
    · simp only [if_neg ex] at hx
      by_cases en : x = st.next
      · subst en
        simp only [if_true] at hx; cases hx
        refine ⟨Nat.lt_succ_self _, some b, baseOf 0 u, ?_, fun b0 hb0 => ?_⟩
        · simp only [get_growHeap, if_true]; rfl
        · cases hb0; exact ⟨by simp, Nat.lt_succ_of_lt hbn, hlo⟩
      · simp only [if_neg en] at hx
        obtain ⟨q1, q2⟩ := h x m hx
        refine ⟨Nat.lt_succ_of_lt q1, ?_⟩
        have hkx : ¬ (k = some x) := fun e => by have := (hk x e).1; rw [hx] at this; cases this
        have hgx : (growHeap st.heap b st.next (ownOf (e, u) (l.map some) 0 0 l.length st.next) k (.cells (e, baseOf 0 u) ((l ++ xs).map some) (fzOf 0 0) (kinOf 0 b))).get x = st.heap.get x := by
          rw [get_growHeap, if_neg en, if_neg hkx, if_neg ex]
        cases m with
        | ro f => refine ⟨by rw [hgx]; exact q2.1, fun i v hv => ?_⟩; have := q2.2 i v hv; unfold St.rd at *; simp only; rw [hgx]; exact this
        | own e l => simp only [MbOk] at *; rw [hgx]; exact q2
        | app e l lo2 =>
          obtain ⟨k2, u2, r1, r2⟩ := q2
          refine ⟨k2, u2, by rw [hgx]; exact r1, fun b0 hb0 => ?_⟩
          obtain ⟨s1, s2, s3⟩ := r2 b0 hb0
          refine ⟨?_, Nat.lt_succ_of_lt s2, s3⟩
          by_cases e1 : b0 = b
          · simp [e1]
          · simp only; rw [if_neg e1, if_neg (by omega)]; exact s1
section
variable {fs : Fns} {orc : Oracle} {l : List AOper} {g : Env} {H H0 : Hp} {lo : Nat} {Q : Env → Hp → Prop}
theorem aop_app_src {H : Hp} {st : St} {tm : Tr AV} (hs : Sym H st) (hg : EnvOf tm g) {e bytes : Nat} {z : List AV} {s x : Rnd} {xs : List AV} (hx : Feed H (evG g x) xs) (hne : xs ≠ []) :
    aop (.app e 1 bytes z s x) tm st = appA st e 1 bytes (evG g s) xs xs.length := by
  rcases hx with (⟨h1, h2⟩ | ⟨b, off, n, cap, h1, h2, h3, hm, h4⟩) | ⟨t, h1, h2⟩
  · exact absurd h2 hne
  · rw [Nat.mul_one] at h2
    have : st.rdN b off n = some xs := by
      rw [← h2]
      refine hs.rdN (rdNH_of h4) ?_
      intro h; exact hne (List.length_eq_zero_iff.1 h)
    simp only [aop, hg.ev, h1, Nat.beq_refl, Nat.mul_one, this, h2]
  · subst h2
    simp only [aop, hg.ev, h1, Nat.beq_refl, List.length_map]
theorem sops_app {e bytes d : Nat} {z : List AV} {s x : Rnd} {c xs : List AV} (hb : Buf e H0 H lo (evG g s) c) (hle : Le H0 H) (hx : Feed H (evG g x) xs) (hne : xs ≠ []) (h1 : allOne xs = true)
    (hby : 16 * (c.length + xs.length) * bytes ≤ 281474976710656) (hsz : c.length + xs.length ≤ 281474976710656)
    (k : ∀ v H', Buf e H0 H' lo v (c ++ xs) → Le H0 H' → (∀ y m, H y = some m → (∀ n q, evG g s ≠ .slice y 0 n q 1) → H' y = some m) → SOps fs orc l (up g d v) H' lo Q) :
    SOps fs orc (⟨.app e 1 bytes z s x, some d, none⟩ :: l) g H lo Q := by
  have hpos : 0 < xs.length := List.length_pos_iff.2 hne
  refine sops_aop rfl fun st tm hs hg ht h2 => ?_
  rw [aop_app_src hs hg hx hne]
  rcases hb with ⟨q1, q2⟩ | ⟨b, q1, q2, q3, q4⟩
  · subst q2
    rw [q1]
    simp only [List.length_nil, Nat.zero_add] at hby hsz
    have hF := hs.fresh h2 (.own e xs)
    refine ⟨.slice st.next 0 xs.length xs.length 1, newCells st e xs, _, ?_, hs.newCells e xs, Quiet.newCells _ _ _, k _ _ (.inr ⟨st.next, rfl, .inl hF.at', ?_, h2⟩) (hle.trans hF.le) fun y m hy _ => hF.le y m hy⟩
    · unfold appA
      obtain ⟨n, hn⟩ : ∃ n, xs.length = n + 1 := ⟨xs.length - 1, by omega⟩
      rw [hn] at hby hsz ⊢
      simp only
      rw [Nat.ble_eq_true_of_le hby, Nat.ble_eq_true_of_le hsz]
    · cases e0 : H0 st.next with
      | none => rfl
      | some m => have := hle _ _ e0; rw [hs.none_next] at this; cases this
  · rw [q1]
    obtain ⟨st', r1, r2, r3⟩ := hs.grown (xs := xs) q2 q4 ht h1
    have hnew : H0 st.next = none := by
      cases e0 : H0 st.next with
      | none => rfl
      | some m => have := hle _ _ e0; rw [hs.none_next] at this; cases this
    have hbn : b < st.next := by rcases q2 with hb | hb <;> exact (hs _ _ hb).1
    refine ⟨.slice st.next 0 (c.length + xs.length) (c.length + xs.length) 1, st', _, ?_, r3, r2, k _ _ (.inr ⟨st.next, by rw [List.length_append], .inr ?_, hnew, h2⟩) (fun y m hy => ?_) fun y m hy hn => ?_⟩
    · unfold appA
      simp only [Nat.beq_refl]
      have e1 : Nat.ble (c.length + xs.length) c.length = false := by
        cases e1 : Nat.ble (c.length + xs.length) c.length with
        | false => rfl
        | true => have := Nat.le_of_ble_eq_true e1; omega
      rw [e1]
      obtain ⟨n, hn⟩ : ∃ n, xs.length = n + 1 := ⟨xs.length - 1, by omega⟩
      rw [hn] at hby hsz ⊢
      simp only
      rw [Nat.ble_eq_true_of_le hby, Nat.ble_eq_true_of_le hsz]
      simp only [Nat.mul_one]; rw [r1]
    · simp only [if_neg (show st.next ≠ b by omega), if_true]
    · have e1 : y ≠ b := fun e => by subst e; rw [q3] at hy; cases hy
      have e2 : y ≠ st.next := fun e => by subst e; rw [hnew] at hy; cases hy
      simp only [if_neg e1, if_neg e2]; exact hle y m hy
    · have e1 : y ≠ b := fun e => by subst e; exact hn _ _ q1
      have e2 : y ≠ st.next := fun e => by subst e; rw [hs.none_next] at hy; cases hy
      simp only [if_neg e1, if_neg e2]; exact hy
theorem sops_app0 {e bytes d : Nat} {z : List AV} {s x : Rnd} {c : List AV} (hb : Buf e H0 H lo (evG g s) c) (hx : Feed H (evG g x) []) (k : SOps fs orc l (up g d (evG g s)) H lo Q) : SOps fs orc (⟨.app e 1 bytes z s x, some d, none⟩ :: l) g H lo Q := by
  refine sops_aop rfl fun st tm hs hg ht h2 => ⟨evG g s, st, H, ?_, hs, .refl _, k⟩
  have base : ∀ (y : List AV), y = [] → appA st e 1 bytes (evG g s) y 0 = some (evG g s, st) := fun y hy => by
    rcases hb with ⟨q1, q2⟩ | ⟨b, q1, q2, q3, q4⟩
    · rw [q1]; rfl
    · rw [q1]; subst hy
      unfold appA
      simp only [Nat.beq_refl]
      rw [Nat.ble_eq_true_of_le (show c.length + 0 ≤ c.length by omega)]
      simp only [St.wrL]; rfl
  rcases hx with (⟨h1, _⟩ | ⟨b, off, n, cap, h1, h3, _, ⟨m, hm⟩, _⟩) | ⟨t, h1, h3⟩
  · simp only [aop, hg.ev, h1]; exact base _ rfl
  · have hn : n = 0 := by simp at h3; omega
    subst hn
    obtain ⟨e', r, fz, k', hcell⟩ := hs.cells hm
    have h0 : st.rdN b off (0 * 1) = some [] := by unfold St.rdN; rw [hcell]; simp [takeVals]
    simp only [aop, hg.ev, h1, Nat.beq_refl, h0]
    exact base _ rfl
  · have : t = [] := by cases t with | nil => rfl | cons a t => cases h3
    subst this
    simp only [aop, hg.ev, h1, Nat.beq_refl]; exact base _ rfl
theorem bytesOf_map : ∀ {s : List Nat}, (∀ n, n ∈ s → n < 256) → bytesOf (s.map fun n => .int .u8 (.ofNat n)) = some s
  | [], _ => rfl
  | n :: s, h => by
    simp only [List.map_cons, bytesOf]
    rw [show Nat.blt n 256 = true from Nat.ble_eq_true_of_le (h n (by simp)), bytesOf_map fun m hm => h m (by simp [hm])]
theorem sops_toStr {d : Nat} {x : Rnd} {s : List Nat} (h : Rd H 1 (evG g x) (s.map fun n => .int .u8 (.ofNat n))) (hs : ∀ n, n ∈ s → n < 256) (hne : s ≠ []) (k : SOps fs orc l (up g d (.str s)) H lo Q) :
    SOps fs orc (⟨.toStr x, some d, none⟩ :: l) g H lo Q := by
  refine sops_aop rfl fun st tm hy hg _ _ => ⟨.str s, st, H, ?_, hy, .refl _, k⟩
  rcases h with ⟨h1, h2⟩ | ⟨b, off, n, cap, h1, h2, h3, hm, h4⟩
  · exact absurd (List.map_eq_nil_iff.1 h2) hne
  · rw [Nat.mul_one] at h2
    have : st.rdN b off n = some (s.map fun n => .int .u8 (.ofNat n)) := by
      rw [← h2]
      refine hy.rdN (rdNH_of h4) ?_
      intro h; exact hne (List.map_eq_nil_iff.1 (List.length_eq_zero_iff.1 h))
    simp only [aop, hg.ev, h1, this, bytesOf_map hs]
theorem sdr_nil {us : List (List Nat)} {qt : Bool} {i : Nat} {nc : List Nat} (h : Q g H) : SDr fs orc [] us qt i nc g H lo Q :=
  fun st tm es hs hg _ _ _ => ⟨0, tm, st, g, H, by cases us <;> rfl, hg, hs, .refl _, h⟩
theorem Sym.same {H : Hp} {st st' : St} (h : Sym H st) (h1 : st'.heap = st.heap) (h2 : st'.next = st.next) : Sym H st' := by
  intro b m hb
  obtain ⟨q1, q2⟩ := h b m hb
  refine ⟨by rw [h2]; exact q1, ?_⟩
  cases m with
  | ro f => refine ⟨by rw [h1]; exact q2.1, fun i v hv => ?_⟩; have := q2.2 i v hv; unfold St.rd at *; rw [h1]; exact this
  | own e l => simp only [MbOk] at *; rw [h1]; exact q2
  | app e l lo => simp only [MbOk] at *; rw [h1, h2]; exact q2
def loadlike : AOp → Bool
  | .load1 _ => true
  | .loadN .. => true
  | _ => false
theorem loadlike_cls {o : AOp} (h : loadlike o = true) : clsOf o = .load := by cases o <;> first | rfl | cases h
theorem clashes_none (e : Eff) : ∀ es, clashes e es [] = false
  | [] => rfl
  | (i, f) :: es => by simp only [clashes, memN]; exact clashes_none e es
theorem clash_load {e f : Eff} (h : e.cls = .load ∨ e.cls = .pure) (hf : f.wr = []) : clash e f = false := by
  unfold clash
  rcases h with h | h
  · rw [h]; cases f.cls <;> first | rfl | (simp only; rw [hf]; rfl)
  · rw [h]
theorem clash_quiet {e f : Eff} (he : e.wr = []) (hf : f.wr = []) (hc : f.cls ≠ .chain) : clash e f = false := by
  unfold clash
  cases h1 : e.cls <;> cases h2 : f.cls <;> first | rfl | exact absurd h2 hc | (simp only; rw [he]; rfl)
theorem clashes_all {e : Eff} (u : List Nat) : ∀ es : List (Nat × Eff), (∀ p, p ∈ es → p.1 ∈ u → clash e p.2 = false) → clashes e es u = false
  | [], _ => rfl
  | (i, f) :: es, hq => by
    have ih := clashes_all u es fun p hp => hq p (by simp [hp])
    simp only [clashes]
    cases hm : memN i u with
    | false => exact ih
    | true =>
      have hmem : ∀ (l : List Nat), memN i l = true → i ∈ l := by
        intro l
        induction l with
        | nil => intro h; cases h
        | cons x l ihl =>
          intro h
          simp only [memN] at h
          split at h
          · rename_i e; rw [Nat.eq_of_beq_eq_true e]; simp
          · exact List.mem_cons_of_mem _ (ihl h)
      have : clash e f = false := hq (i, f) (by simp) (hmem u hm)
      rw [this]; exact ih
theorem filtLt_of (n : Nat) : ∀ (l : List Nat), (∀ x, x ∈ l → n ≤ x) → filtLt n l = []
  | [], _ => rfl
  | x :: l, h => by
    simp only [filtLt]
    have : Nat.blt x n = false := by
      cases e : Nat.blt x n with
      | false => rfl
      | true => have := Nat.le_of_ble_eq_true e; have := h x (by simp); omega
    rw [this]; exact filtLt_of n l fun y hy => h y (by simp [hy])
theorem sdr_gen {o : AOper} {u : List Nat} {us : List (List Nat)} {qt : Bool} {i : Nat} {nc nc' : List Nat}
    (hcl : ∀ tm lo hi es, EsOk qt i nc es → clashes (effOf o ⟨tm, []⟩ lo hi []) es u = false) (hnc : ∀ tm lo hi, i ∈ nc' → (effOf o ⟨tm, []⟩ lo hi []).cls ≠ .chain) (hsub : ∀ x, x ∈ nc' → x = i ∨ x ∈ nc)
    (h : ∀ lo', lo ≤ lo' → SOps fs orc [o] g H lo' (fun g' H' => SDr fs orc l us qt (i + 1) nc' g' H' lo Q)) : SDr fs orc (o :: l) (u :: us) qt i nc g H lo Q := by
  intro st tm es hs hg h1 h2 hq
  obtain ⟨n, tm', st', g', H', q1, q2, q3, q4, q5⟩ := h st.next h2 { st with thr := st.next, log := [] } tm (hs.same rfl rfl) hg (Nat.le_refl _) (Nat.le_refl _)
  simp only [runOps] at q1
  have q1' : stepOp (cb fs orc n) o ⟨tm, []⟩ { st with thr := st.next, log := [] } = some (⟨tm', []⟩, st') := by
    cases e : stepOp (cb fs orc n) o ⟨tm, []⟩ { st with thr := st.next, log := [] } with
    | none => rw [e] at q1; cases q1
    | some p => obtain ⟨p1, p2⟩ := p; rw [e] at q1; simp at q1; rw [q1.1, q1.2]
  have hlog : st'.log = [] := q4.log
  have hn : st.next ≤ st'.next := q4.next
  obtain ⟨m, tm2, st2, g2, H2, r1, r2, r3, r4, r5⟩ := q5 { st' with thr := st.thr, log := filtLt st.thr st'.log ++ st.log } tm' ((i, effOf o ⟨tm, []⟩ st.next st'.next st'.log) :: es) (q3.same rfl rfl) q2 h1 (Nat.le_trans h2 hn)
    (fun p hp => by
      rcases List.mem_cons.1 hp with rfl | hp
      · refine ⟨Nat.lt_succ_self _, fun hqt => ⟨?_, fun hi => ?_⟩⟩
        · unfold effOf; split
          · rfl
          · exact hlog
        · rw [hlog]; exact hnc _ _ _ hi
      · obtain ⟨w1, w2⟩ := hq p hp
        refine ⟨Nat.lt_succ_of_lt w1, fun hqt => ⟨(w2 hqt).1, fun hi => (w2 hqt).2 ?_⟩⟩
        rcases hsub _ hi with e | e
        · omega
        · exact e)
  refine ⟨Nat.max n m, tm2, st2, g2, H2, ?_, r2, r3, ?_, r5⟩
  · simp only [runDraw]
    rw [(cb_le (Nat.le_max_left n m)).stepOp q1']
    simp only
    have hc : clashes (effOf o ⟨tm, []⟩ st.next st'.next st'.log) es u = false := by rw [hlog]; exact hcl _ _ _ _ hq
    rw [hc]
    exact (cb_le (Nat.le_max_right n m)).runDraw r1
  · refine ⟨r4.thr, ?_, Nat.le_trans hn r4.next⟩
    rw [r4.log]; simp only [hlog, filtLt, List.nil_append]
theorem effOf_wr (o : AOper) (fr : Fr) (lo hi : Nat) : (effOf o fr lo hi []).wr = [] := by unfold effOf; split <;> rfl
theorem effOf_load {o : AOper} (h : loadlike o.op = true) (fr : Fr) (lo hi : Nat) (log : List Nat) : (effOf o fr lo hi log).cls = .load ∨ (effOf o fr lo hi log).cls = .pure := by
  unfold effOf; split
  · exact .inr rfl
  · exact .inl (loadlike_cls h)
def isSt : AOp → Bool
  | .store .. => true
  | _ => false
theorem sdr_step {o : AOper} {us : List (List Nat)} {qt : Bool} {i : Nat} {nc : List Nat} (_hs : isSt o.op = false) (h : ∀ lo', lo ≤ lo' → SOps fs orc [o] g H lo' (fun g' H' => SDr fs orc l us qt (i + 1) (nc.filter (· != i)) g' H' lo Q)) : SDr fs orc (o :: l) ([] :: us) qt i nc g H lo Q :=
  sdr_gen (fun _ _ _ es _ => clashes_none _ es) (fun _ _ _ hi => by simp at hi) (fun x hx => .inr (List.mem_filter.1 hx).1) h
theorem sdr_load {o : AOper} {u : List Nat} {us : List (List Nat)} {i : Nat} {nc : List Nat} (hl : loadlike o.op = true) (h : ∀ lo', lo ≤ lo' → SOps fs orc [o] g H lo' (fun g' H' => SDr fs orc l us true (i + 1) (i :: nc) g' H' lo Q)) : SDr fs orc (o :: l) (u :: us) true i nc g H lo Q :=
  sdr_gen (fun _ _ _ es hq => clashes_all u es fun p hp _ => clash_load (effOf_load hl _ _ _ _) ((hq p hp).2 rfl).1)
    (fun _ _ _ _ => by rcases effOf_load hl ⟨_, []⟩ _ _ [] with h | h <;> (rw [h]; simp)) (fun x hx => by simpa using hx) h
theorem sdr_call {o : AOper} {u : List Nat} {us : List (List Nat)} {i : Nat} {nc : List Nat} (_hs : isSt o.op = false) (hu : ∀ x, x ∈ u → x ∈ nc) (h : ∀ lo', lo ≤ lo' → SOps fs orc [o] g H lo' (fun g' H' => SDr fs orc l us true (i + 1) (nc.filter (· != i)) g' H' lo Q)) : SDr fs orc (o :: l) (u :: us) true i nc g H lo Q :=
  sdr_gen (fun _ _ _ es hq => clashes_all u es fun p hp hpu => clash_quiet (effOf_wr _ _ _ _) ((hq p hp).2 rfl).1 (((hq p hp).2 rfl).2 (hu _ hpu)))
    (fun _ _ _ hi => by simp at hi) (fun x hx => .inr (List.mem_filter.1 hx).1) h
theorem sdr_store {n : Nat} {a x : Rnd} {us : List (List Nat)} {qt : Bool} {i : Nat} {nc : List Nat} {b off e : Nat} {r c : List AV} (ha : evG g a = .ptr b off) (hb : H b = some (.own e r)) (hlo : lo ≤ b) (hc : (evG g x).cells = c) (hn : c.length = n) (h1 : allOne c = true) (hf : off + n ≤ r.length)
    (k : ∀ H', Stored H b (.own e (r.take off ++ c ++ r.drop (off + n))) H' → SDr fs orc l us false (i + 1) [] g H' lo Q) : SDr fs orc (⟨.store n a x, none, none⟩ :: l) ([] :: us) qt i nc g H lo Q := by
  intro st tm es hs hg ht h2 hq
  have hs1 : Sym H { st with thr := st.next, log := [] } := hs.same rfl rfl
  obtain ⟨st', q1, q2, q3, q4, q5, _, q7⟩ := wrL_own (c := c) (off := off) (st := { st with thr := st.next, log := [] }) (hs1 _ _ hb).2 h1 (by rw [hn]; exact hf)
  have hs2 := hs1.stored hb q2 q3 q4
  have hfl : filtLt st.thr st'.log = [] := filtLt_of _ _ fun y hy => by
    rcases q7 y hy with h | rfl
    · cases h
    · exact Nat.le_trans ht hlo
  have hstep : ∀ m, stepOp (cb fs orc m) ⟨.store n a x, none, none⟩ ⟨tm, []⟩ { st with thr := st.next, log := [] } = some (⟨tm, []⟩, st') := by
    intro m
    unfold stepOp
    simp only [wantedA, aop, hg.ev, ha, hc, q1]
    rw [show Nat.beq c.length n = true from by rw [hn]; exact Nat.beq_refl n]; rfl
  have hn' : st'.next = st.next := q4
  obtain ⟨m, tm2, st2, g2, H2, r1, r2, r3, r4, r5⟩ := k _ ⟨by simp [hn], fun x hx => by simp [hx]⟩ { st' with thr := st.thr, log := filtLt st.thr st'.log ++ st.log } tm
    ((i, effOf ⟨.store n a x, none, none⟩ ⟨tm, []⟩ st.next st'.next st'.log) :: es) (hs2.same rfl rfl) hg ht (by simp only; omega) (fun p hp => by
      rcases List.mem_cons.1 hp with rfl | hp
      · exact ⟨Nat.lt_succ_self _, fun h => by cases h⟩
      · exact ⟨Nat.lt_succ_of_lt (hq p hp).1, fun h => by cases h⟩)
  refine ⟨m, tm2, st2, g2, H2, ?_, r2, r3, ⟨r4.thr, by rw [r4.log]; simp only [hfl, List.nil_append], by have := r4.next; simp only at this; omega⟩, r5⟩
  simp only [runDraw]
  rw [hstep]
  simp only
  rw [clashes_none]
  exact r1
structure Code (fs : Fns) (orc : Oracle) (f : Nat) (fn : AFn) : Prop where
  fn : fs f = some fn
  orc : ∀ as st, orc f as st = none
def envOf (as : List AV) : Env := fun t => match as[t]? with
  | some v => v
  | none => undefA
def resG (g : Env) (H : Hp) : List ARes → Option (List AV)
  | [] => some []
  | .tmp t :: l => match resG g H l with
    | some r => some (g t :: r)
    | none => none
  | .cell t n :: l => match g t with
    | .ptr b off => match n with
      | none => none
      | some 0 => none
      | some (Nat.succ n) => match rdNH H b off (Nat.succ n) with
        | some c => match resG g H l with
          | some r => some (.agg c :: r)
          | none => none
        | none => none
    | _ => none
theorem resG_ok {tm : Tr AV} {st : St} (hs : Sym H st) (hg : EnvOf tm g) : ∀ {l : List ARes} {r : List AV}, resG g H l = some r → resultsA tm st l = some r
  | [], r, h => by cases h; rfl
  | .tmp t :: l, r, h => by
    simp only [resG] at h
    split at h
    · rename_i q hq; cases h
      simp only [resultsA, resG_ok hs hg hq, hg t]
    · cases h
  | .cell t n :: l, r, h => by
    simp only [resG] at h
    split at h
    · rename_i b off hb
      split at h
      · cases h
      · cases h
      · rename_i m
        split at h
        · rename_i c hc
          split at h
          · rename_i q hq; cases h
            simp only [resultsA, hg t, hb, hs.rdN hc (Nat.succ_ne_zero m), resG_ok hs hg hq]
          · cases h
        · cases h
    · cases h
theorem seqQ_normal {K : Env → Hp → Prop} {Q : AOut → Env → Hp → Prop} (h : K g H) : seqQ K Q .normal g H := h
theorem seqQ_ret {K : Env → Hp → Prop} {Q : AOut → Env → Hp → Prop} (h : Q .ret g H) : seqQ K Q .ret g H := h
theorem seqQ_exit {K : Env → Hp → Prop} {Q : AOut → Env → Hp → Prop} {i : Nat} (h : Q (.exit i) g H) : seqQ K Q (.exit i) g H := h
theorem blkQ_normal {id : Nat} {Q : AOut → Env → Hp → Prop} (h : Q .normal g H) : blkQ id Q .normal g H := h
theorem blkQ_ret {id : Nat} {Q : AOut → Env → Hp → Prop} (h : Q .ret g H) : blkQ id Q .ret g H := h
theorem blkQ_hit {i : Nat} {Q : AOut → Env → Hp → Prop} (h : Q .normal g H) : blkQ i Q (.exit i) g H := by
  simp only [blkQ, Nat.beq_refl]; exact h
theorem loopQ_normal {I : Nat → Env → Hp → Prop} {k : Nat} {Q : AOut → Env → Hp → Prop} (k' : Nat) (h1 : k' < k) (h : I k' g H) : loopQ I k Q .normal g H := ⟨k', h1, h⟩
theorem loopQ_ret {I : Nat → Env → Hp → Prop} {k : Nat} {Q : AOut → Env → Hp → Prop} (h : Q .ret g H) : loopQ I k Q .ret g H := h
theorem loopQ_exit {I : Nat → Env → Hp → Prop} {k i : Nat} {Q : AOut → Env → Hp → Prop} (h : Q (.exit i) g H) : loopQ I k Q (.exit i) g H := h
def fnQ (fn : AFn) (H : Hp) (P : AV → Hp → Prop) (o : AOut) (g' : Env) (H' : Hp) : Prop := (o = .normal ∨ o = .ret) ∧ ∃ r, resG g' H' fn.results = some r ∧ Le H H' ∧ P (tupleA r) H'
theorem call_fn {f : Nat} {fn : AFn} {args : List AV} {P : AV → Hp → Prop} (hc : Code fs orc f fn) (h : ∀ lo, SOk fs orc fn.body (envOf args) H lo (fnQ fn H P)) : CallS fs orc (.func (.func f) [] []) args H P := by
  intro st hs ht
  have henv : EnvOf (initT args 0 .e) (envOf args) := by
    have key : ∀ (l : List AV) (i : Nat) (t : Tr AV) (j : Nat), (initT l i t).get j = if i ≤ j ∧ j < i + l.length then l[j - i]? else t.get j := by
      intro l
      induction l with
      | nil => intro i t j; simp only [initT]; rw [if_neg (by simp)]
      | cons v l ih =>
        intro i t j
        rw [initT, ih (i + 1) (t.set v i) j, Tr.get_set]
        by_cases hj : j = i
        · subst hj
          rw [if_neg (by omega), if_pos rfl, if_pos (by simp)]; simp
        · by_cases h2 : i + 1 ≤ j ∧ j < i + 1 + l.length
          · rw [if_pos h2, if_pos (by simp; omega)]
            rw [show j - i = (j - (i + 1)) + 1 by omega]; rfl
          · rw [if_neg h2, if_neg hj, if_neg (by simp; omega)]
    intro t
    have hk := key args 0 .e t
    simp only [Nat.zero_le, true_and, Nat.zero_add, Nat.sub_zero] at hk
    by_cases h : t < args.length
    · rw [if_pos h] at hk; simp only [ev, envOf, hk]; cases args[t]? <;> rfl
    · rw [if_neg h, Tr.get_e] at hk; simp only [ev, envOf, hk]; rw [List.getElem?_eq_none (by omega)]
  obtain ⟨n, out, tm', st', g', H', q1, q2, q3, q4, q5, r, q6, q7, q8⟩ := h st.next st (initT args 0 .e) hs henv ht (Nat.le_refl _)
  refine ⟨n, tupleA r, st', H', ?_, q3, q7, q4, q8⟩
  have hres := resG_ok q3 q2 q6
  unfold cb callBy
  simp only [hc.orc, hc.fn, List.nil_append, List.append_nil]
  unfold enterA
  rw [q1]
  rcases q5 with rfl | rfl <;> simp only [leaveA, hres]
end
end Go.RI
namespace Go.RI
noncomputable def gSt (nx a b e1 e3 : Nat) (c1 c3 : List AV) : St := ⟨setF (.cells (e1, true) (mapSome c1) 0 none) (setF (.cells (e3, true) (mapSome c3) 0 none) .e b) a, nx, nx, []⟩
def okTrue : Option (AV × St) → Bool
  | some (.bool true, ⟨_, _, _, []⟩) => true
  | _ => false
def Holds (a b : Nat) (c1 c3 : List AV) (st : St) : Prop := ∃ e1 e3, st.heap.get a = some (.cells (e1, true) (c1.map some) 0 none) ∧ st.heap.get b = some (.cells (e3, true) (c3.map some) 0 none)
open Classical in
noncomputable def orcTrue (a b : Nat) (c1 c3 : List AV) : OrcF := fun as st => match as with
  | [] => if Holds a b c1 c3 st then some (.bool true, st) else none
  | _ => none
theorem orcTrue_tame {a b : Nat} {c1 c3 : List AV} {as : List AV} {st st' : St} {v : AV} (h : orcTrue a b c1 c3 as st = some (v, st')) : Tame st st' := by
  unfold orcTrue at h
  split at h
  · split at h
    · cases h; exact .refl _
    · cases h
  · cases h
theorem CallsFor.weak {P : Program} {F : Fence} {m : Nat} {fv : Value} {as : Array Value} {w : World} {R R' : Value → World → Prop} (h : CallsFor P F m fv as w R) (k : ∀ v w', R v w' → R' v w') : CallsFor P F m fv as w R' := by
  obtain ⟨d, h1, h2⟩ := h
  refine ⟨d, h1, ?_⟩
  rcases h2 with ⟨g, as', q1, q2⟩ | ⟨l, f, tmps, as', bd, q1, q2⟩ | ⟨v, w', q1, q2⟩
  · refine .inl ⟨g, as', q1, q2.mono fun e w' he => ?_⟩
    unfold RV at *; split at he
    · exact k _ _ he
    · exact he
  · refine .inr (.inl ⟨l, f, tmps, as', bd, q1, ?_⟩)
    refine RoundIn.mono q2 fun e w' he => ?_
    unfold RV at *; split at he
    · exact k _ _ he
    · exact he
  · exact .inr (.inr ⟨v, w', q1, k _ _ q2⟩)
section
variable [cx : Cx] {P : Program} {G : Nat} {tt : TT}
theorem entOk_true (hT : TTok P tt) (hcx : CxOk G tt) (hmix : P.follows .mixedOrders = true) {tb : Tr Ent} (hfs : FnsOk P G tt (fsOf tb)) (horc : OrcOk P G (orcOf tb)) (hot : OrcTame (orcOf tb))
    {n g nx a b : Nat} {c1 c3 : List AV} (hG' : G ≤ nx) (ha : a < G) (hb : b < G) (hab : a ≠ b) (hev : ∀ e1 e3, okTrue (callK tb n (.func (.func g) [] []) [] (gSt nx a b e1 e3 c1 c3) fun v st => some (v, st)) = true) (hp1 : pureL c1 = true) (hp3 : pureL c3 = true) :
    EntOk P G g (orcTrue a b c1 c3) := by
  intro args st v st' h F m β w as hF1 hF2 hG hr has
  refine cases_of_callsFor ?_
  unfold orcTrue at h
  split at h
  case h_2 => cases h
  split at h
  case isFalse => cases h
  rename_i hh
  cases h
  obtain ⟨e1, e3, hga, hgb⟩ := hh
  have hev := hev e1 e3
  cases hq : callK tb n (.func (.func g) [] []) [] (gSt nx a b e1 e3 c1 c3) (fun v st => some (v, st)) with
  | none => rw [hq] at hev; cases hev
  | some p =>
  obtain ⟨v0, st0'⟩ := p
  rw [hq] at hev
  have hv0 : v0 = .bool true ∧ st0'.log = [] := by
    obtain ⟨h1, h2, h3, h4⟩ := st0'
    unfold okTrue at hev
    split at hev
    · rename_i q; cases q; exact ⟨rfl, rfl⟩
    · cases hev
  obtain ⟨rfl, hlog⟩ := hv0
  have get0 : ∀ k, (gSt nx a b e1 e3 c1 c3).heap.get k = if k = a then some (.cells (e1, true) (c1.map some) 0 none) else if k = b then some (.cells (e3, true) (c3.map some) 0 none) else none := by
    intro k
    unfold gSt
    simp only [setF_eq, mapSome_eq, Tr.get_set, Tr.get_e]
  have hr0 : Rel (fun k => if k < G then β k else none) (gSt nx a b e1 e3 c1 c3) w := by
    refine ⟨fun k o im hg hi => ?_, fun k im hi => ?_, fun b1 b2 o1 o2 im1 im2 hne g1 g2 i1 i2 hblk d1 d2 => ?_, Nat.le_refl _⟩
    · by_cases hk : k < G
      · simp only [if_pos hk] at hi
        rw [get0] at hg
        by_cases q1 : k = a
        · rw [if_pos q1] at hg; cases hg
          exact (hr.obj k _ im (by rw [q1]; exact hga) hi).pure hp1
        · rw [if_neg q1] at hg
          by_cases q2 : k = b
          · rw [if_pos q2] at hg; cases hg
            exact (hr.obj k _ im (by rw [q2]; exact hgb) hi).pure hp3
          · rw [if_neg q2] at hg; cases hg
      · simp only [if_neg hk] at hi; cases hi
    · by_cases hk : k < G
      · simp only [if_pos hk] at hi
        exact ⟨Nat.lt_of_lt_of_le hk hG', (hr.lt k im hi).2⟩
      · simp only [if_neg hk] at hi; cases hi
    · by_cases k1 : b1 < G
      · by_cases k2 : b2 < G
        · simp only [if_pos k1] at i1
          simp only [if_pos k2] at i2
          rw [get0] at g1 g2
          have hin : ∀ k o, (if k = a then some (AObj.cells (e1, true) (c1.map some) 0 none) else if k = b then some (.cells (e3, true) (c3.map some) 0 none) else none) = some o → st.heap.get k = some o ∧ o.kin = none := by
            intro k o hk
            by_cases q1 : k = a
            · rw [if_pos q1] at hk; cases hk; rw [q1]; exact ⟨hga, rfl⟩
            · rw [if_neg q1] at hk
              by_cases q2 : k = b
              · rw [if_pos q2] at hk; cases hk; rw [q2]; exact ⟨hgb, rfl⟩
              · rw [if_neg q2] at hk; cases hk
          have s := hr.sep b1 b2 o1 o2 im1 im2 hne (hin _ _ g1).1 (hin _ _ g2).1 i1 i2 hblk d1 d2
          rw [(hin _ _ g1).2] at s
          cases s.1
        · simp only [if_neg k2] at i2; cases i2
      · simp only [if_neg k1] at i1; cases i1
  have hG0 : GRel G (fun k => if k < G then β k else none) := fun k hk => by
    obtain ⟨r, q⟩ := hG k hk
    exact ⟨r, by simp only [if_pos hk]; exact q⟩
  have has0 : LRel (fun k => if k < G then β k else none) [] as := by
    cases as with
    | nil => simp [LRel]
    | cons x l => simp [LRel] at has
  have hfun : VRel (fun k => if k < G then β k else none) (.func (.func g) [] []) (.func (.func g) #[] #[]) := ⟨[], [], by simp [LRel], by simp [LRel], rfl⟩
  refine CallsFor.weak (fast_sound hT hcx hmix hfs horc hot hq hF1 hF2 hG0 hr0 hfun has0) fun v' w' hw => ?_
  obtain ⟨β', hv, hp⟩ := hw
  refine ⟨β, hv, ?_⟩
  obtain ⟨hold, _⟩ := Post.quiet hr0 hp rfl hlog
  exact {
    ext := Ext.refl _
    old := fun _ _ => rfl
    rel := ⟨fun k o im hg hi => (hr.obj k o im hg hi).mono (Ext.refl _) (hold _ (hr.lt k im hi).2), fun k im hi => ⟨(hr.lt k im hi).1, Nat.lt_of_lt_of_le (hr.lt k im hi).2 hp.frame.size⟩, hr.sep, hr.thr_le⟩
    next := Nat.le_refl _
    thr := rfl
    log := fun _ h => h
    frame := ⟨hp.frame.os, hp.frame.tape, hp.frame.output, hp.frame.size, fun k hk _ => hold k hk⟩
    stays := Stays.refl _
    hold := fun k im hk hi _ => absurd (hr.lt k im hi).1 (Nat.not_lt.2 hk) }
end
end Go.RI
