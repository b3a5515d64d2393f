/- Rules for runs of the small language over a partly known heap, and what the functions on the way of the law compute. Conditions: none. -/
import Derived.Test.YtaplnebenndkgaaGreatDoorT31
set_option linter.all false
namespace Go.RI
open Fx
def lblN (neg : Bool) (a b : Nat) : List Nat := 110 :: numText neg a b
def shp (l : List Nat) : List Nat := dec l.length ++ 58 :: l
theorem shp_inj {a b : List Nat} (h : shp a = shp b) : a = b := by
  unfold shp at h
  have := (split_inj (dec_byte _) (dec_byte _) (by simp) (by simp) h).2
  exact (List.cons.inj this).2
theorem numText_len (neg : Bool) (a b : Nat) (ha : (dec a).length ≤ 4096) (hb : (dec b).length ≤ 4096) : (numText neg a b).length ≤ 8194 := by
  unfold numText
  cases neg <;> by_cases h : b = 1 <;> simp [h] <;> omega
theorem byte_numText (neg : Bool) (a b x : Nat) (h : x ∈ numText neg a b) : x < 256 := by
  have d1 := dec_byte a x
  have d2 := dec_byte b x
  unfold numText at h
  by_cases hb : b = 1
  · rw [if_pos hb] at h
    cases neg
    · have := d1 (by simpa using h); omega
    · rcases List.mem_cons.1 (by simpa using h) with rfl | h
      · decide
      · have := d1 h; omega
  · rw [if_neg hb] at h
    rcases List.mem_append.1 h with h | h
    · cases neg
      · have := d1 (by simpa using h); omega
      · rcases List.mem_cons.1 (by simpa using h) with rfl | h
        · decide
        · have := d1 h; omega
    · rcases List.mem_cons.1 h with rfl | h
      · decide
      · have := d2 h; omega
theorem eqL_iff : ∀ {a b : List Nat}, eqL a b = true ↔ a = b
  | [], [] => by simp [eqL]
  | [], _ :: _ => by simp [eqL]
  | _ :: _, [] => by simp [eqL]
  | x :: a, y :: b => by
    simp only [eqL]
    cases h : Nat.beq x y with
    | true => have := Nat.eq_of_beq_eq_true h; subst this; simp [eqL_iff]
    | false => simp; intro e; subst e; rw [Nat.beq_refl] at h; cases h
theorem natL_val (x : Int) (l : List Int) : val (natL (x :: l)) = x + 4294967296 * val (natL l) := by
  have : natL (x :: l) = (x % 65536) :: (x / 65536) :: natL l := by simp [natL]
  rw [this, val_cons, val_cons]; omega
def CanU (l : List Int) : Prop := 0 < l.length → l.getD (l.length - 1) 0 ≠ 0
theorem CanU.tail {x y : Int} {l : List Int} (h : CanU (x :: y :: l)) : CanU (y :: l) := fun _ => by
  have := h (by simp)
  simpa [List.getD] using this
theorem natL_nonneg {l : List Int} (h : Lim l) : 0 ≤ val (natL l) := (val_bound (natL_dig h)).1
theorem CanU.pos : ∀ {l : List Int}, CanU l → Lim l → l ≠ [] → 0 < val (natL l)
  | [], _, _, h => absurd rfl h
  | [x], hc, hl, _ => by
    have := hc (by simp)
    have h2 := hl x (by simp)
    simp [List.getD] at this
    rw [natL_val]; simp [natL, val_nil]; omega
  | x :: y :: l, hc, hl, _ => by
    have := CanU.pos hc.tail (fun z hz => hl z (by simp [hz])) (by simp)
    have h2 := hl x (by simp)
    rw [natL_val]; omega
theorem natL_inj : ∀ {l m : List Int}, CanU l → CanU m → Lim l → Lim m → val (natL l) = val (natL m) → l = m
  | [], [], _, _, _, _, _ => rfl
  | [], y :: m, _, h2, _, h4, h => by have := h2.pos h4 (by simp); rw [← h] at this; exact absurd this (by decide)
  | x :: l, [], h1, _, h3, _, h => by have := h1.pos h3 (by simp); rw [h] at this; exact absurd this (by decide)
  | x :: l, y :: m, h1, h2, h3, h4, h => by
    rw [natL_val, natL_val] at h
    have a1 := h3 x (by simp)
    have a2 := h4 y (by simp)
    have hx : x = y := by omega
    subst hx
    have c1 : CanU l := by
      cases l with
      | nil => intro h; simp at h
      | cons z l => exact h1.tail
    have c2 : CanU m := by
      cases m with
      | nil => intro h; simp at h
      | cons z m => exact h2.tail
    rw [natL_inj c1 c2 (fun z hz => h3 z (by simp [hz])) (fun z hz => h4 z (by simp [hz])) (by omega)]
def nv (l : List Int) : Nat := (val (trimL (natL l))).toNat
theorem nv_inj {l m : List Int} (h1 : CanU l) (h2 : CanU m) (h3 : Lim l) (h4 : Lim m) (h : nv l = nv m) : l = m := by
  unfold nv at h
  rw [trim_val, trim_val] at h
  have a1 := natL_nonneg h3
  have a2 := natL_nonneg h4
  exact natL_inj h1 h2 h3 h4 (by omega)
section
variable {fs : Fns} {orc : Oracle} {H : Hp}
theorem v_ok (T : TxtC fs orc) (n : Int) : CallS fs orc (.func (.func 275) [] []) [.int .i64 n] H fun r _ => r = .agg [.int .i64 (.ofNat 1), .int .i64 n, .str [], .bool false, .nils, .nils, .nils] := by
  refine call_fn1 T.h275 fun lo g e0 => ?_
  repeat first | refine sok_seq ?_ | refine sok_region ?_
  refine sops_alloc fun b H1 hF => ?_
  repeat first | refine sops_pv (by simp only [↓pw, ↓ez, ↓reduceIte, Nat.reduceEqDiff, binA, numA, ibin, unA, pz, Bool.not_true, Bool.not_false, e0]; rfl) ?_ | refine sops_nil ?_ | refine seqQ_normal ?_ | refine sok_seq ?_ | refine sok_region ?_
  refine sops_build [.int .i64 (.ofNat 1), .int .i64 n, .str [], .bool false, .nils, .nils, .nils] (by simp only [fillG, ↓ez, ↓reduceIte, Nat.reduceEqDiff]; rfl) ?_
  refine sops_store (b := b) (off := 0) (e := 27) (r := z1) (c := [.int .i64 (.ofNat 1), .int .i64 n, .str [], .bool false, .nils, .nils, .nils]) (by simp only [↓ez, ↓reduceIte, Nat.reduceEqDiff]) hF.at' hF.lo (by simp only [↓ez, ↓reduceIte, Nat.reduceEqDiff, AV.cells]) rfl rfl (by decide) fun H2 hS => ?_
  have hat := stored_full hS rfl
  repeat first | refine sops_nil ?_ | refine seqQ_normal ?_ | refine sok_ret ?_
  refine fnQ_cell (.inr rfl) rfl (hS.le hF.le hF.new) ?_ hat rfl rfl
  exact by simp only [↓ez, ↓reduceIte, Nat.reduceEqDiff]
theorem label_var (C : NumC fs orc) (T : TxtC fs orc) {n : Nat} (hn : n < 65536) : CallS fs orc (.func (.func 220) [] []) [.agg [.int .i64 (.ofNat 1), .int .i64 (.ofNat n), .str [], .bool false, .nils, .nils, .nils]] H fun r _ => r = .str (118 :: dec n) := by
  refine call_fn1 T.h220 fun lo g e0 => ?_
  repeat first | refine sok_seq ?_ | refine sok_region ?_
  refine sops_box [.int .i64 (.ofNat 1), .int .i64 (.ofNat n), .str [], .bool false, .nils, .nils, .nils] (by simp only [↓evG_t, e0, AV.cells]) fun b H1 hF => ?_
  have m1 := rdH_own hF.at'
  have q1 : (Int.ofNat 1 == Int.ofNat 1) = true := rfl
  have q2 : IntKind.u64.wrap (Int.ofNat n) = Int.ofNat n := wrapU64 (by simp only [Int.ofNat_eq_natCast]; omega) (by simp only [Int.ofNat_eq_natCast]; omega)
  repeat first | refine sops_pv (by simp only [↓pw, ↓ez, ↓reduceIte, Nat.reduceEqDiff, binA, numA, ibin, unA, pz, Bool.not_true, Bool.not_false, m1, q1]; rfl) ?_ | refine sops_nil ?_ | refine seqQ_normal ?_ | refine sok_seq ?_ | refine sok_region ?_ | refine sok_block ?_
  refine sok_condT ?_ ?_
  · exact by simp only [↓ez, ↓reduceIte, Nat.reduceEqDiff]
  repeat first | refine sops_pv (by simp only [↓pw, ↓ez, ↓reduceIte, Nat.reduceEqDiff, binA, numA, ibin, unA, pz, Bool.not_true, Bool.not_false, m1, q2]; rfl) ?_ | refine sok_seq ?_ | refine sok_region ?_
  refine sops_call (as := [.int .u64 (.ofNat n)]) (by simp only [↓ez, ↓reduceIte, Nat.reduceEqDiff]) (ofInt_ok T.h58 hn) fun x H2 hl2 hx => ?_
  skip
  have hxl := hx.len
  refine sops_call (as := [x]) (by simp only [↓ez, ↓reduceIte, Nat.reduceEqDiff]) (dec_ok C.h82 T.h57 hx.rd hx.can (by omega)) fun y H3 hl3 hy => ?_
  rw [(dg_can hn).2, Int.toNat_natCast] at hy
  subst hy
  have l1 : (dec n).length ≤ 16 := dec_len hn (by decide)
  have q3 := sb_add [118] (dec n) (by simp; omega)
  repeat first | refine sops_pv (by simp only [↓pw, ↓ez, ↓reduceIte, Nat.reduceEqDiff, binA, numA, ibin, unA, pz, Bool.not_true, Bool.not_false, ↓q3]; rfl) ?_ | refine sops_nil ?_ | refine seqQ_normal ?_ | refine seqQ_ret ?_ | refine blkQ_ret ?_ | refine sok_ret ?_
  refine fnQ_tmp (.inr rfl) rfl ?_ (by simp only [↓ez, ↓reduceIte, Nat.reduceEqDiff]; rfl) ?_
  · exact (hF.le.trans hl2).trans hl3
  · rfl
theorem label_num (C : NumC fs orc) (T : TxtC fs orc) {neg : Bool} {vn vd : AV} {nu de : List Int} {var : Int} {name : List Nat} {va : AV} (h : NumAt H vn vd nu de) (hk : NumOk nu de) :
    CallS fs orc (.func (.func 220) [] []) [.agg [.int .i64 (.ofNat 2), .int .i64 var, .str name, .bool neg, vn, vd, va]] H fun r _ => r = .str (lblN neg (nv nu) (nv de)) ∧ (lblN neg (nv nu) (nv de)).length ≤ 8195 := by
  refine call_fn1 T.h220 fun lo g e0 => ?_
  repeat first | refine sok_seq ?_ | refine sok_region ?_
  refine sops_box [.int .i64 (.ofNat 2), .int .i64 var, .str name, .bool neg, vn, vd, va] (by simp only [↓evG_t, e0, AV.cells]) fun b H1 hF => ?_
  have m1 := rdH_own hF.at'
  have m3 := rdNH_sub hF.at' 3 3 [.bool neg, vn, vd] rfl rfl
  have q1 : (Int.ofNat 2 == Int.ofNat 1) = false := rfl
  have q2 : (Int.ofNat 2 == Int.ofNat 2) = true := rfl
  repeat first | refine sops_pv (by simp only [↓pw, ↓ez, ↓reduceIte, Nat.reduceEqDiff, binA, numA, ibin, unA, pz, Bool.not_true, Bool.not_false, m1, q1]; rfl) ?_ | refine sops_nil ?_ | refine seqQ_normal ?_ | refine sok_seq ?_ | refine sok_region ?_ | refine sok_block ?_
  refine sok_condF ?_ ?_
  · exact by simp only [↓ez, ↓reduceIte, Nat.reduceEqDiff]
  repeat first | refine sops_pv (by simp only [↓pw, ↓ez, ↓reduceIte, Nat.reduceEqDiff, binA, numA, ibin, unA, pz, Bool.not_true, Bool.not_false, q2]; rfl) ?_ | refine sops_nil ?_ | refine seqQ_normal ?_ | refine sok_seq ?_ | refine sok_region ?_
  refine sok_condT ?_ ?_
  · exact by simp only [↓ez, ↓reduceIte, Nat.reduceEqDiff]
  repeat first | refine sops_pv (by simp only [↓pw, ↓ez, ↓reduceIte, Nat.reduceEqDiff, binA, numA, ibin, unA, pz, Bool.not_true, Bool.not_false, m3]; rfl) ?_ | refine sok_seq ?_ | refine sok_region ?_
  refine sops_call (as := [.agg [.bool neg, vn, vd]]) (by simp only [↓ez, ↓reduceIte, Nat.reduceEqDiff]) (of_ok C T (h.mono hF.le) hk) fun x H2 hl2 hx => ?_
  obtain ⟨x, y, rfl, nx, ny⟩ := hx
  have l3 := numText_len neg (nv nu) (nv de) (dec_nu nx) (dec_nu ny)
  have q3 := sb_add [110] (numText neg (nv nu) (nv de)) (by simp; omega)
  skip
  refine sops_call (as := [.agg [.bool neg, x, y]]) (by simp only [↓ez, ↓reduceIte, Nat.reduceEqDiff]) (text_ok C T nx ny) fun z H3 hl3 hz => ?_
  replace hz : z = .str (numText neg (nv nu) (nv de)) := hz
  subst hz
  repeat first | refine sops_pv (by simp only [↓pw, ↓ez, ↓reduceIte, Nat.reduceEqDiff, binA, numA, ibin, unA, pz, Bool.not_true, Bool.not_false, ↓q3]; rfl) ?_ | refine sops_nil ?_ | refine seqQ_normal ?_ | refine seqQ_ret ?_ | refine blkQ_ret ?_ | refine sok_ret ?_
  refine fnQ_tmp (.inr rfl) rfl ?_ (by simp only [↓ez, ↓reduceIte, Nat.reduceEqDiff]; rfl) ?_
  · exact (hF.le.trans hl2).trans hl3
  · exact ⟨rfl, by unfold lblN; simp; omega⟩
theorem textN_ok (C : NumC fs orc) (T : TxtC fs orc) {n : Nat} (hn : n < 65536) : CallS fs orc (.func (.func 221) [] []) [.int .i64 (.ofNat n)] H fun r _ => r = .str (dec n) := by
  refine call_fn1 T.h221 fun lo g e0 => ?_
  repeat first | refine sops_pv (by simp only [↓pw, ↓ez, ↓reduceIte, Nat.reduceEqDiff, binA, numA, ibin, unA, pz, Bool.not_true, Bool.not_false, e0]; rfl) ?_ | refine sops_nil ?_ | refine seqQ_normal ?_ | refine sok_seq ?_ | refine sok_region ?_
  refine sops_call (as := [.int .i64 (.ofNat n)]) (by simp only [↓ez, ↓reduceIte, Nat.reduceEqDiff]) (v_ok T _) fun x H1 hl1 hx => ?_
  subst hx
  skip
  refine sops_call (as := [.agg [.int .i64 (.ofNat 1), .int .i64 (.ofNat n), .str [], .bool false, .nils, .nils, .nils]]) (by simp only [↓ez, ↓reduceIte, Nat.reduceEqDiff]) (label_var C T hn) fun x H2 hl2 hx => ?_
  subst hx
  refine sops_pv (v := .str (dec n)) ?_ ?_
  · simp only [↓pw, ↓ez, ↓reduceIte, Nat.reduceEqDiff, optNatG, natOf, List.length_cons]
    rw [Nat.ble_eq_true_of_le (show 1 ≤ (dec n).length + 1 by omega), Nat.ble_eq_true_of_le (Nat.le_refl _)]
    simp
  repeat first | refine sops_pv (by simp only [↓pw, ↓ez, ↓reduceIte, Nat.reduceEqDiff, binA, numA, ibin, unA, pz, Bool.not_true, Bool.not_false]; rfl) ?_ | refine sops_nil ?_ | refine seqQ_normal ?_ | refine sok_ret ?_
  refine fnQ_tmp (.inr rfl) rfl ?_ (by simp only [↓ez, ↓reduceIte, Nat.reduceEqDiff]; rfl) ?_
  · exact hl1.trans hl2
  · rfl
theorem shape_ok (C : NumC fs orc) (T : TxtC fs orc) {neg : Bool} {vn vd : AV} {nu de : List Int} {var : Int} {name : List Nat} (h : NumAt H vn vd nu de) (hk : NumOk nu de) :
    CallS fs orc (.func (.func 156) [] []) [.nils, .agg [.int .i64 (.ofNat 2), .int .i64 var, .str name, .bool neg, vn, vd, .nils]] H fun r H' => Rd H' 1 r (bytes (shp (lblN neg (nv nu) (nv de)))) := by
  refine call_fn2 T.h156 fun lo g e0 e1 => ?_
  repeat first | refine sok_seq ?_ | refine sok_region ?_
  refine sops_box [.int .i64 (.ofNat 2), .int .i64 var, .str name, .bool neg, vn, vd, .nils] (by simp only [↓evG_t, e1, AV.cells]) fun b H1 hF => ?_
  have m7 := rdNH_own (n := 7) hF.at' rfl
  repeat first | refine sops_pv (by simp only [↓pw, ↓ez, ↓reduceIte, Nat.reduceEqDiff, binA, numA, ibin, unA, pz, Bool.not_true, Bool.not_false, m7]; rfl) ?_ | refine sops_nil ?_ | refine seqQ_normal ?_ | refine sok_seq ?_ | refine sok_region ?_
  refine sops_call (as := [.agg [.int .i64 (.ofNat 2), .int .i64 var, .str name, .bool neg, vn, vd, .nils]]) (by simp only [↓ez, ↓reduceIte, Nat.reduceEqDiff]) (label_num C T (h.mono hF.le) hk) fun x H2 hl2 hx => ?_
  obtain ⟨rfl, hlen⟩ := hx
  generalize hL : lblN neg (nv nu) (nv de) = L at *
  repeat first | refine sops_pv (by simp only [↓pw, ↓ez, ↓reduceIte, Nat.reduceEqDiff, binA, numA, ibin, unA, pz, Bool.not_true, Bool.not_false, e0]; rfl) ?_ | refine sops_nil ?_ | refine seqQ_normal ?_ | refine sok_seq ?_ | refine sok_region ?_
  refine sops_call (as := [.int .i64 (.ofNat L.length)]) (by simp only [↓ez, ↓reduceIte, Nat.reduceEqDiff]) (textN_ok C T (by omega)) fun x H3 hl3 hx => ?_
  subst hx
  have l1 : (dec L.length).length ≤ 16 := dec_len (by omega) (by decide)
  refine sops_app (c := bytes []) (e := 5) (H0 := H3) (xs := bytes (dec L.length)) (by simp only [↓ez, ↓reduceIte, Nat.reduceEqDiff, e0]; exact Buf.nil 5 H3 H3 lo) (Le.refl _) (.inr ⟨dec L.length, by simp only [↓ez, ↓reduceIte, Nat.reduceEqDiff], rfl⟩) (by simp [bytes, dec_ne]) (allOne_of fun v hv => by obtain ⟨_, _, rfl⟩ := List.mem_map.1 hv; rfl)
    (by simp only [bytes_length, List.length_nil]; omega) (by simp only [bytes_length, List.length_nil]; omega) fun v4 H4 hb4 hle4 _ => ?_
  rw [bytes_append, List.nil_append] at hb4
  repeat first | refine sops_pv (by simp only [↓pw, ↓ez, ↓reduceIte, Nat.reduceEqDiff, binA, numA, ibin, unA, pz, Bool.not_true, Bool.not_false]; rfl) ?_ | refine sops_nil ?_ | refine seqQ_normal ?_ | refine sok_seq ?_ | refine sok_region ?_
  refine sops_bs (bytes [58]) rfl fun b5 H5 hF5 => ?_
  refine sops_app (c := bytes (dec L.length)) (e := 5) (H0 := H3) (xs := bytes [58]) (by simp only [↓ez, ↓reduceIte, Nat.reduceEqDiff]; exact hb4.mono hF5.le) (hle4.trans hF5.le) (.inl (by simp only [↓ez, ↓reduceIte, Nat.reduceEqDiff]; exact Rd.ownN hF5.at' rfl)) (by simp [bytes]) rfl
    (by simp only [bytes_length, List.length_cons, List.length_nil]; omega) (by simp only [bytes_length, List.length_cons, List.length_nil]; omega) fun v6 H6 hb6 hle6 _ => ?_
  rw [bytes_append] at hb6
  repeat first | refine sops_pv (by simp only [↓pw, ↓ez, ↓reduceIte, Nat.reduceEqDiff, binA, numA, ibin, unA, pz, Bool.not_true, Bool.not_false]; rfl) ?_ | refine sops_nil ?_ | refine seqQ_normal ?_ | refine sok_seq ?_ | refine sok_region ?_
  refine sops_app (c := bytes (dec L.length ++ [58])) (e := 5) (H0 := H3) (xs := bytes L) (by simp only [↓ez, ↓reduceIte, Nat.reduceEqDiff]; exact hb6) hle6 (.inr ⟨L, by simp only [↓ez, ↓reduceIte, Nat.reduceEqDiff], rfl⟩) (by rw [← hL]; simp [bytes, lblN]) (allOne_of fun v hv => by obtain ⟨_, _, rfl⟩ := List.mem_map.1 hv; rfl)
    (by simp only [bytes_length, List.length_append, List.length_cons, List.length_nil]; omega) (by simp only [bytes_length, List.length_append, List.length_cons, List.length_nil]; omega) fun v7 H7 hb7 hle7 _ => ?_
  rw [bytes_append, show dec L.length ++ [58] ++ L = shp L by unfold shp; simp] at hb7
  have m8 := rdH_own (hle7 _ _ (hl3 _ _ (hl2 _ _ hF.at')))
  repeat first | refine sops_pv (by simp only [↓pw, ↓ez, ↓reduceIte, Nat.reduceEqDiff, binA, numA, ibin, unA, pz, Bool.not_true, Bool.not_false, m8]; rfl) ?_ | refine sops_nil ?_ | refine seqQ_normal ?_ | refine sok_seq ?_ | refine sok_region ?_
  refine sops_len (es := 7) (c := []) 0 (by simp only [↓ez, ↓reduceIte, Nat.reduceEqDiff]; exact Rd.nil _ _) rfl (by decide) ?_
  repeat first | refine sops_pv (by simp only [↓pw, ↓ez, ↓reduceIte, Nat.reduceEqDiff, binA, numA, ibin, unA, pz, Bool.not_true, Bool.not_false]; rfl) ?_ | refine sops_nil ?_ | refine seqQ_normal ?_ | refine sok_block ?_
  refine sok_loop (fun k g' H' => g' 23 = .int .i64 (.ofNat 0) ∧ g' 24 = .int .i64 (.ofNat 0) ∧ g' 0 = v7 ∧ H' = H7) ?_ 0 _ _ ⟨by simp only [↓ez, ↓reduceIte, Nat.reduceEqDiff], by simp only [↓ez, ↓reduceIte, Nat.reduceEqDiff], by simp only [↓ez, ↓reduceIte, Nat.reduceEqDiff], rfl⟩
  rintro k g' H' ⟨f23, f24, f0, rfl⟩
  repeat first | refine sops_pv (by simp only [↓pw, ↓ez, ↓reduceIte, Nat.reduceEqDiff, binA, numA, ibin, unA, pz, Bool.not_true, Bool.not_false, f23, f24]; rfl) ?_ | refine sops_nil ?_ | refine seqQ_normal ?_ | refine sok_seq ?_ | refine sok_region ?_
  refine sok_condF ?_ ?_
  · simp only [↓ez, ↓reduceIte, Nat.reduceEqDiff]; rfl
  repeat first | refine sops_pv (by simp only [↓pw, ↓ez, ↓reduceIte, Nat.reduceEqDiff, binA, numA, ibin, unA, pz, Bool.not_true, Bool.not_false, f0]; rfl) ?_ | refine sops_nil ?_ | refine seqQ_normal ?_ | refine seqQ_exit ?_ | refine blkQ_hit ?_ | refine loopQ_exit ?_ | refine sok_seq ?_ | refine sok_region ?_ | refine sok_ret ?_ | refine sok_exit ?_
  refine fnQ_tmp (.inr rfl) rfl ?_ (by simp only [↓ez, ↓reduceIte, Nat.reduceEqDiff]; rfl) ?_
  · exact ((hF.le.trans hl2).trans hl3).trans hle7
  · exact hb7.rd
theorem Shape_ok (C : NumC fs orc) (T : TxtC fs orc) {neg : Bool} {vn vd : AV} {nu de : List Int} {var : Int} {name : List Nat} (h : NumAt H vn vd nu de) (hk : NumOk nu de) :
    CallS fs orc (.func (.func 81) [] []) [.agg [.int .i64 (.ofNat 2), .int .i64 var, .str name, .bool neg, vn, vd, .nils]] H fun r _ => r = .str (shp (lblN neg (nv nu) (nv de))) := by
  refine call_fn1 T.h81 fun lo g e0 => ?_
  repeat first | refine sok_seq ?_ | refine sok_region ?_
  refine sops_box [.int .i64 (.ofNat 2), .int .i64 var, .str name, .bool neg, vn, vd, .nils] (by simp only [↓evG_t, e0, AV.cells]) fun b H1 hF => ?_
  have m7 := rdNH_own (n := 7) hF.at' rfl
  repeat first | refine sops_pv (by simp only [↓pw, ↓ez, ↓reduceIte, Nat.reduceEqDiff, binA, numA, ibin, unA, pz, Bool.not_true, Bool.not_false, m7]; rfl) ?_ | refine sops_nil ?_ | refine seqQ_normal ?_ | refine sok_seq ?_ | refine sok_region ?_
  refine sops_call (as := [.nils, .agg [.int .i64 (.ofNat 2), .int .i64 var, .str name, .bool neg, vn, vd, .nils]]) (by simp only [↓ez, ↓reduceIte, Nat.reduceEqDiff]) (shape_ok C T (h.mono hF.le) hk) fun x H2 hl2 hx => ?_
  refine sops_toStr (s := shp (lblN neg (nv nu) (nv de))) (by simp only [↓ez, ↓reduceIte, Nat.reduceEqDiff]; exact hx) (fun x hx => ?_) (by unfold shp; simp) ?_
  · unfold shp at hx
    rcases List.mem_append.1 hx with hx | hx
    · have := dec_byte _ _ hx; omega
    · rcases List.mem_cons.1 hx with rfl | hx
      · decide
      · unfold lblN at hx
        rcases List.mem_cons.1 hx with rfl | hx
        · decide
        · exact byte_numText _ _ _ _ hx
  repeat first | refine sops_pv (by simp only [↓pw, ↓ez, ↓reduceIte, Nat.reduceEqDiff, binA, numA, ibin, unA, pz, Bool.not_true, Bool.not_false]; rfl) ?_ | refine sops_nil ?_ | refine seqQ_normal ?_ | refine sok_ret ?_
  refine fnQ_tmp (.inr rfl) rfl ?_ (by simp only [↓ez, ↓reduceIte, Nat.reduceEqDiff]; rfl) ?_
  · exact hF.le.trans hl2
  · rfl
end
end Go.RI
namespace Go.RI
open Fx
structure KeyC (fs : Fns) (orc : Oracle) : Prop where
  h40 : Code fs orc 40 F40
  h19 : Code fs orc 19 F19
  h17 : Code fs orc 17 F17
  h6 : Code fs orc 6 F6
  h9 : Code fs orc 9 F9
  h7 : Code fs orc 7 F7
  h8 : Code fs orc 8 F8
section
variable {fs : Fns} {orc : Oracle} {H : Hp}
theorem NumOk.canN {nu de : List Int} (h : NumOk nu de) : CanU nu := h.nz
theorem NumOk.canD {nu de : List Int} (h : NumOk nu de) : CanU de := fun _ => h.dz
theorem lblN_iff {n1 n2 : Bool} {nu1 de1 nu2 de2 : List Int} (h1 : NumOk nu1 de1) (h2 : NumOk nu2 de2) (l1 : Lim nu1) (l2 : Lim nu2) (l3 : Lim de1) (l4 : Lim de2) :
    shp (lblN n1 (nv nu1) (nv de1)) = shp (lblN n2 (nv nu2) (nv de2)) ↔ (n1 = n2 ∧ nu1 = nu2 ∧ de1 = de2) := by
  constructor
  · intro h
    obtain ⟨q1, q2, q3⟩ := numText_inj (List.cons.inj (shp_inj h)).2
    exact ⟨q1, nv_inj h1.canN h2.canN l1 l2 q2, nv_inj h1.canD h2.canD l3 l4 q3⟩
  · rintro ⟨rfl, rfl, rfl⟩; rfl
theorem same_ok (C : NumC fs orc) (T : TxtC fs orc) {neg1 neg2 : Bool} {vn1 vd1 vn2 vd2 : AV} {nu1 de1 nu2 de2 : List Int} (a1 : NumAt H vn1 vd1 nu1 de1) (a2 : NumAt H vn2 vd2 nu2 de2) (k1 : NumOk nu1 de1) (k2 : NumOk nu2 de2) :
    CallS fs orc (.func (.func 39) [] []) [.agg [.int .i64 (.ofNat 2), .int .i64 (.ofNat 0), .str [], .bool neg1, vn1, vd1, .nils], .agg [.int .i64 (.ofNat 2), .int .i64 (.ofNat 0), .str [], .bool neg2, vn2, vd2, .nils]] H
      fun r _ => ∃ b, r = .bool b ∧ (b = true ↔ (neg1 = neg2 ∧ nu1 = nu2 ∧ de1 = de2)) := by
  refine call_fn2 T.h39 fun lo g e0 e1 => ?_
  repeat first | refine sok_seq ?_ | refine sok_region ?_
  refine sops_box [.int .i64 (.ofNat 2), .int .i64 (.ofNat 0), .str [], .bool neg1, vn1, vd1, .nils] (by simp only [↓evG_t, e0, AV.cells]) fun b1 H1 hF1 => ?_
  refine sops_box [.int .i64 (.ofNat 2), .int .i64 (.ofNat 0), .str [], .bool neg2, vn2, vd2, .nils] (by simp only [↓ez, ↓reduceIte, Nat.reduceEqDiff, e1, AV.cells]) fun b2 H2 hF2 => ?_
  have m1 := rdNH_own (n := 7) (hF2.le _ _ hF1.at') rfl
  have hle := hF1.le.trans hF2.le
  repeat first | refine sops_pv (by simp only [↓pw, ↓ez, ↓reduceIte, Nat.reduceEqDiff, binA, numA, ibin, unA, pz, Bool.not_true, Bool.not_false, m1]; rfl) ?_ | refine sops_nil ?_ | refine seqQ_normal ?_ | refine sok_seq ?_ | refine sok_draw ?_ | refine sdr_load rfl fun _ _ => ?_ | refine sdr_step rfl fun _ _ => ?_
  refine sops_call (as := [.agg [.int .i64 (.ofNat 2), .int .i64 (.ofNat 0), .str [], .bool neg1, vn1, vd1, .nils]]) (by simp only [↓ez, ↓reduceIte, Nat.reduceEqDiff]) (Shape_ok C T (a1.mono hle) k1) fun x H3 hl3 hx => ?_
  subst hx
  have m2 := rdNH_own (n := 7) (hl3 _ _ hF2.at') rfl
  repeat first | refine sops_pv (by simp only [↓pw, ↓ez, ↓reduceIte, Nat.reduceEqDiff, binA, numA, ibin, unA, pz, Bool.not_true, Bool.not_false, m2]; rfl) ?_ | refine sops_nil ?_ | refine sdr_load rfl fun _ _ => ?_ | refine sdr_step rfl fun _ _ => ?_
  refine sops_call (as := [.agg [.int .i64 (.ofNat 2), .int .i64 (.ofNat 0), .str [], .bool neg2, vn2, vd2, .nils]]) (by simp only [↓ez, ↓reduceIte, Nat.reduceEqDiff]) (Shape_ok C T (a2.mono (hle.trans hl3)) k2) fun x H4 hl4 hx => ?_
  subst hx
  repeat first | refine sops_pv (by simp only [↓pw, ↓ez, ↓reduceIte, Nat.reduceEqDiff, binA, numA, ibin, unA, pz, Bool.not_true, Bool.not_false, sbin]; rfl) ?_ | refine sops_nil ?_ | refine seqQ_normal ?_ | refine sok_ret ?_ | refine sdr_step rfl fun _ _ => ?_ | refine sdr_nil ?_
  refine fnQ_tmp (.inr rfl) rfl ?_ (by simp only [↓ez, ↓reduceIte, Nat.reduceEqDiff]; rfl) ?_
  · exact (hle.trans hl3).trans hl4
  · exact ⟨_, rfl, by rw [eqL_iff]; exact lblN_iff k1 k2 a1.ln a2.ln a1.ld a2.ld⟩
theorem sameNumber_ok (C : NumC fs orc) (T : TxtC fs orc) {neg1 neg2 : Bool} {vn1 vd1 vn2 vd2 : AV} {nu1 de1 nu2 de2 : List Int} (a1 : NumAt H vn1 vd1 nu1 de1) (a2 : NumAt H vn2 vd2 nu2 de2) (k1 : NumOk nu1 de1) (k2 : NumOk nu2 de2) :
    CallS fs orc (.func (.func 18) [] []) [.agg [.bool neg1, vn1, vd1], .agg [.bool neg2, vn2, vd2]] H fun r _ => ∃ b, r = .bool b ∧ (b = true ↔ (neg1 = neg2 ∧ nu1 = nu2 ∧ de1 = de2)) := by
  refine call_fn2 T.h18 fun lo g e0 e1 => ?_
  repeat first | refine sok_seq ?_ | refine sok_region ?_
  refine sops_box [.bool neg1, vn1, vd1] (by simp only [↓evG_t, e0, AV.cells]) fun b1 H1 hF1 => ?_
  refine sops_box [.bool neg2, vn2, vd2] (by simp only [↓ez, ↓reduceIte, Nat.reduceEqDiff, e1, AV.cells]) fun b2 H2 hF2 => ?_
  have m1 := rdNH_own (n := 3) (hF2.le _ _ hF1.at') rfl
  have m2 := rdNH_own (n := 3) hF2.at' rfl
  have hle := hF1.le.trans hF2.le
  repeat first | refine sops_pv (by simp only [↓pw, ↓ez, ↓reduceIte, Nat.reduceEqDiff, binA, numA, ibin, unA, pz, Bool.not_true, Bool.not_false, m1]; rfl) ?_ | refine sops_nil ?_ | refine seqQ_normal ?_ | refine sok_seq ?_ | refine sok_region ?_
  refine sops_build [.int .i64 (.ofNat 2), .int .i64 (.ofNat 0), .str [], .bool neg1, vn1, vd1, .nils] (by simp only [fillG, ↓ez, ↓reduceIte, Nat.reduceEqDiff]; rfl) ?_
  repeat (refine sops_pv (by simp only [↓pw, ↓ez, ↓reduceIte, Nat.reduceEqDiff, binA, numA, ibin, unA, pz, Bool.not_true, Bool.not_false, m2]; rfl) ?_)
  refine sops_build [.int .i64 (.ofNat 2), .int .i64 (.ofNat 0), .str [], .bool neg2, vn2, vd2, .nils] (by simp only [fillG, ↓ez, ↓reduceIte, Nat.reduceEqDiff]; rfl) ?_
  refine sops_call (as := [.agg [.int .i64 (.ofNat 2), .int .i64 (.ofNat 0), .str [], .bool neg1, vn1, vd1, .nils], .agg [.int .i64 (.ofNat 2), .int .i64 (.ofNat 0), .str [], .bool neg2, vn2, vd2, .nils]]) (by simp only [↓ez, ↓reduceIte, Nat.reduceEqDiff]) (same_ok C T (a1.mono hle) (a2.mono hle) k1 k2) fun x H3 hl3 hx => ?_
  obtain ⟨b, rfl, hb⟩ := hx
  repeat first | refine sops_pv (by simp only [↓pw, ↓ez, ↓reduceIte, Nat.reduceEqDiff, binA, numA, ibin, unA, pz, Bool.not_true, Bool.not_false]; rfl) ?_ | refine sops_nil ?_ | refine seqQ_normal ?_ | refine sok_ret ?_
  refine fnQ_tmp (.inr rfl) rfl ?_ (by simp only [↓ez, ↓reduceIte, Nat.reduceEqDiff]; rfl) ?_
  · exact hle.trans hl3
  · exact ⟨b, rfl, hb⟩
theorem equal_ok (K : KeyC fs orc) {v w : AV} {l m : List Int} (h : Rd H 1 v (u32s l)) (h' : Rd H 1 w (u32s m)) (hl : l.length < 1000000) (hm : m.length < 1000000) :
    CallS fs orc (.func (.func 40) [] []) [v, w] H fun r _ => ∃ b, r = .bool b ∧ (b = true ↔ l = m) := by
  refine call_fn2 K.h40 fun lo g e0 e1 => ?_
  repeat first | refine sops_pv (by simp only [↓pw, ↓ez, ↓reduceIte, Nat.reduceEqDiff, binA, numA, ibin, unA, pz, Bool.not_true, Bool.not_false, e0, e1]; rfl) ?_ | refine sops_nil ?_ | refine seqQ_normal ?_ | refine sok_seq ?_ | refine sok_region ?_
  refine sops_len1 (c := u32s l) (by simp only [↓ez, ↓reduceIte, Nat.reduceEqDiff, e0]; exact h) ?_
  simp only [u32s_length]
  repeat (refine sops_pv (by simp only [↓pw, ↓ez, ↓reduceIte, Nat.reduceEqDiff, binA, numA, ibin, unA, pz, Bool.not_true, Bool.not_false, e0, e1]; rfl) ?_)
  refine sops_len1 (c := u32s m) (by simp only [↓ez, ↓reduceIte, Nat.reduceEqDiff, e1]; exact h') ?_
  simp only [u32s_length]
  repeat first | refine sops_pv (by simp only [↓pw, ↓ez, ↓reduceIte, Nat.reduceEqDiff, binA, numA, ibin, unA, pz, Bool.not_true, Bool.not_false]; rfl) ?_ | refine sops_nil ?_ | refine seqQ_normal ?_
  refine sok_cond _ (by simp only [↓ez, ↓reduceIte, Nat.reduceEqDiff]; rfl) (fun hb => ?_) (fun hb => ?_)
  ·
    repeat first | refine sops_pv (by simp only [↓pw, ↓ez, ↓reduceIte, Nat.reduceEqDiff, binA, numA, ibin, unA, pz, Bool.not_true, Bool.not_false]; rfl) ?_ | refine sops_nil ?_ | refine seqQ_normal ?_ | refine seqQ_ret ?_ | refine sok_seq ?_ | refine sok_region ?_ | refine sok_ret ?_
    refine fnQ_tmp (.inr rfl) rfl ?_ (by simp only [↓ez, ↓reduceIte, Nat.reduceEqDiff]; rfl) ?_
    · exact Le.refl _
    · refine ⟨false, rfl, ?_⟩
      have : Int.ofNat l.length ≠ Int.ofNat m.length := by simpa using hb
      constructor
      · intro h; cases h
      · rintro rfl; exact absurd rfl this
  have hlm : l.length = m.length := by
    have : Int.ofNat l.length = Int.ofNat m.length := by simpa using hb
    simp only [Int.ofNat_eq_natCast] at this; omega
  repeat first | refine sops_pv (by simp only [↓pw, ↓ez, ↓reduceIte, Nat.reduceEqDiff, binA, numA, ibin, unA, pz, Bool.not_true, Bool.not_false, e0]; rfl) ?_ | refine seqQ_normal ?_ | refine sok_seq ?_ | refine sok_region ?_ | refine sok_skip ?_
  refine sops_len1 (c := u32s l) (by simp only [↓ez, ↓reduceIte, Nat.reduceEqDiff, e0]; exact h) ?_
  simp only [u32s_length]
  repeat first | refine sops_pv (by simp only [↓pw, ↓ez, ↓reduceIte, Nat.reduceEqDiff, binA, numA, ibin, unA, pz, Bool.not_true, Bool.not_false]; rfl) ?_ | refine sops_nil ?_ | refine seqQ_normal ?_ | refine sok_block ?_
  refine sok_loop (fun k g' H' => ∃ i, k = l.length - i ∧ i ≤ l.length ∧ g' 0 = v ∧ g' 1 = w ∧ g' 12 = .int .i64 (.ofNat l.length) ∧ g' 13 = .int .i64 (.ofNat i) ∧ (∀ j, j < i → l.getD j 0 = m.getD j 0) ∧ H' = H) ?_ l.length _ _
    ⟨0, rfl, Nat.zero_le _, by simp only [↓ez, ↓reduceIte, Nat.reduceEqDiff, e0], by simp only [↓ez, ↓reduceIte, Nat.reduceEqDiff, e1], by simp only [↓ez, ↓reduceIte, Nat.reduceEqDiff], by simp only [↓ez, ↓reduceIte, Nat.reduceEqDiff], fun j hj => absurd hj (Nat.not_lt_zero _), rfl⟩
  rintro k g' H' ⟨i, rfl, hi, f0, f1, f12, f13, hj, rfl⟩
  repeat first | refine sops_pv (by simp only [↓pw, ↓ez, ↓reduceIte, Nat.reduceEqDiff, binA, numA, ibin, unA, pz, Bool.not_true, Bool.not_false, f12, f13]; rfl) ?_ | refine sops_nil ?_ | refine seqQ_normal ?_ | refine sok_seq ?_ | refine sok_region ?_
  refine sok_cond _ (by simp only [↓ez, ↓reduceIte, Nat.reduceEqDiff]; rfl) (fun hc => ?_) (fun hc => ?_)
  · have hi' : i < l.length := by simpa using hc
    have hw := wrap_add1 (n := i) (by omega)
    repeat first | refine sops_pv (by simp only [↓pw, ↓ez, ↓reduceIte, Nat.reduceEqDiff, binA, numA, ibin, unA, pz, Bool.not_true, Bool.not_false, f0, f1, f13]; rfl) ?_ | refine sops_nil ?_ | refine seqQ_normal ?_ | refine sok_seq ?_ | refine sok_region ?_ | refine sok_skip ?_ | refine sok_block ?_ | refine sok_draw ?_ | refine sdr_step rfl fun _ _ => ?_
    refine sops_idx1 (.int .u32 (l.getD i 0)) (c := u32s l) (n := i) (by simp only [↓ez, ↓reduceIte, Nat.reduceEqDiff, f0]; exact h) (by simp only [↓ez, ↓reduceIte, Nat.reduceEqDiff, natOf, f13]) (u32s_get hi') fun p o hq => ?_
    repeat first | refine sops_pv (by simp only [↓pw, ↓ez, ↓reduceIte, Nat.reduceEqDiff, binA, numA, ibin, unA, pz, Bool.not_true, Bool.not_false, f0, f1, f13, hq]; rfl) ?_ | refine sops_nil ?_ | refine sdr_load rfl fun _ _ => ?_ | refine sdr_step rfl fun _ _ => ?_
    refine sops_idx1 (.int .u32 (m.getD i 0)) (c := u32s m) (n := i) (by simp only [↓ez, ↓reduceIte, Nat.reduceEqDiff, f1]; exact h') (by simp only [↓ez, ↓reduceIte, Nat.reduceEqDiff, natOf, f13]) (u32s_get (by omega)) fun p2 o2 hq2 => ?_
    repeat first | refine sops_pv (by simp only [↓pw, ↓ez, ↓reduceIte, Nat.reduceEqDiff, binA, numA, ibin, unA, pz, Bool.not_true, Bool.not_false, hq2]; rfl) ?_ | refine sops_nil ?_ | refine seqQ_normal ?_ | refine sdr_load rfl fun _ _ => ?_ | refine sdr_step rfl fun _ _ => ?_ | refine sdr_nil ?_
    refine sok_cond _ (by simp only [↓ez, ↓reduceIte, Nat.reduceEqDiff]; rfl) (fun hb => ?_) (fun hb => ?_)
    ·
      repeat first | refine sops_pv (by simp only [↓pw, ↓ez, ↓reduceIte, Nat.reduceEqDiff, binA, numA, ibin, unA, pz, Bool.not_true, Bool.not_false]; rfl) ?_ | refine sops_nil ?_ | refine seqQ_normal ?_ | refine seqQ_ret ?_ | refine blkQ_ret ?_ | refine loopQ_ret ?_ | refine sok_seq ?_ | refine sok_region ?_ | refine sok_ret ?_
      refine fnQ_tmp (.inr rfl) rfl ?_ (by simp only [↓ez, ↓reduceIte, Nat.reduceEqDiff]; rfl) ?_
      · exact Le.refl _
      · refine ⟨false, rfl, ?_⟩
        have : l.getD i 0 ≠ m.getD i 0 := by simpa using hb
        constructor
        · intro h; cases h
        · rintro rfl; exact absurd rfl this
    · have heq : l.getD i 0 = m.getD i 0 := by simpa using hb
      repeat first | refine sops_pv (by simp only [↓pw, ↓ez, ↓reduceIte, Nat.reduceEqDiff, binA, numA, ibin, unA, pz, Bool.not_true, Bool.not_false, f13, hw]; rfl) ?_ | refine sops_nil ?_ | refine seqQ_normal ?_ | refine blkQ_normal ?_ | refine sok_region ?_ | refine sok_skip ?_
      refine loopQ_normal (l.length - (i + 1)) ?_ ?_
      · omega
      refine ⟨i + 1, rfl, hi', by simp only [↓ez, ↓reduceIte, Nat.reduceEqDiff, f0], by simp only [↓ez, ↓reduceIte, Nat.reduceEqDiff, f1], by simp only [↓ez, ↓reduceIte, Nat.reduceEqDiff, f12], by simp only [↓ez, ↓reduceIte, Nat.reduceEqDiff], fun j hj' => ?_, rfl⟩
      rcases Nat.lt_or_ge j i with q | q
      · exact hj j q
      · have : j = i := by omega
        subst this; exact heq
  · have hi' : i = l.length := by have : ¬ i < l.length := by simpa using hc
                                  omega
    subst hi'
    repeat first | refine sops_pv (by simp only [↓pw, ↓ez, ↓reduceIte, Nat.reduceEqDiff, binA, numA, ibin, unA, pz, Bool.not_true, Bool.not_false]; rfl) ?_ | refine sops_nil ?_ | refine seqQ_normal ?_ | refine seqQ_exit ?_ | refine blkQ_hit ?_ | refine loopQ_exit ?_ | refine sok_seq ?_ | refine sok_region ?_ | refine sok_ret ?_ | refine sok_exit ?_
    refine fnQ_tmp (.inr rfl) rfl ?_ (by simp only [↓ez, ↓reduceIte, Nat.reduceEqDiff]; rfl) ?_
    · exact Le.refl _
    · exact ⟨true, rfl, fun _ => ints_ext hlm fun j hjj => hj j (by omega), fun _ => rfl⟩
theorem SameNumber_ok (K : KeyC fs orc) {neg1 neg2 : Bool} {vn1 vd1 vn2 vd2 : AV} {nu1 de1 nu2 de2 : List Int} (a1 : NumAt H vn1 vd1 nu1 de1) (a2 : NumAt H vn2 vd2 nu2 de2)
    (l1 : nu1.length < 1000000) (l2 : nu2.length < 1000000) (l3 : de1.length < 1000000) (l4 : de2.length < 1000000) :
    CallS fs orc (.func (.func 19) [] []) [.agg [.bool neg1, vn1, vd1], .agg [.bool neg2, vn2, vd2]] H fun r _ => ∃ b, r = .bool b ∧ (b = true ↔ (neg1 = neg2 ∧ nu1 = nu2 ∧ de1 = de2)) := by
  refine call_fn2 K.h19 fun lo g e0 e1 => ?_
  repeat first | refine sok_seq ?_ | refine sok_region ?_
  refine sops_box [.bool neg1, vn1, vd1] (by simp only [↓evG_t, e0, AV.cells]) fun b1 H1 hF1 => ?_
  refine sops_box [.bool neg2, vn2, vd2] (by simp only [↓ez, ↓reduceIte, Nat.reduceEqDiff, e1, AV.cells]) fun b2 H2 hF2 => ?_
  have m1 := rdH_own (hF2.le _ _ hF1.at')
  have m2 := rdH_own hF2.at'
  have hle := hF1.le.trans hF2.le
  repeat first | refine sops_pv (by simp only [↓pw, ↓ez, ↓reduceIte, Nat.reduceEqDiff, binA, numA, ibin, unA, pz, Bool.not_true, Bool.not_false, m1, m2, eqA]; rfl) ?_ | refine sops_nil ?_ | refine seqQ_normal ?_ | refine sok_seq ?_ | refine sok_region ?_
  by_cases hn : neg1 = neg2
  · have dn : (neg1 == neg2) = true := by simpa using hn
    repeat first | refine sops_pv (by simp only [↓pw, ↓ez, ↓reduceIte, Nat.reduceEqDiff, binA, numA, ibin, unA, pz, Bool.not_true, Bool.not_false, dn, m1, m2]; rfl) ?_ | refine sops_on ?_ ?_; focus (simp only [↓ez, ↓reduceIte, Nat.reduceEqDiff, dn, m1, m2]; done)
    refine sops_call (as := [vn1, vn2]) (by simp only [↓ez, ↓reduceIte, Nat.reduceEqDiff]) (equal_ok K (a1.n.mono hle) (a2.n.mono hle) l1 l2) fun x H3 hl3 hx => ?_
    obtain ⟨b, rfl, hb⟩ := hx
    have m3 := rdH_own (hl3 _ _ (hF2.le _ _ hF1.at'))
    have m4 := rdH_own (hl3 _ _ hF2.at')
    rcases b with _ | _
    ·
      repeat first | refine sops_pv (by simp only [↓pw, ↓ez, ↓reduceIte, Nat.reduceEqDiff, binA, numA, ibin, unA, pz, Bool.not_true, Bool.not_false, dn]; rfl) ?_ | refine sops_off (w' := false) ?_ rfl ?_; focus (simp only [↓ez, ↓reduceIte, Nat.reduceEqDiff, dn]; done) | refine sops_nil ?_ | refine seqQ_normal ?_ | refine sok_ret ?_
      refine fnQ_tmp (.inr rfl) rfl ?_ (by simp only [↓ez, ↓reduceIte, Nat.reduceEqDiff, dn]; rfl) ?_
      · exact hle.trans hl3
      · exact ⟨false, rfl, fun h => (by cases h), fun h => absurd (hb.2 h.2.1) (by simp)⟩
    ·
      repeat first | refine sops_pv (by simp only [↓pw, ↓ez, ↓reduceIte, Nat.reduceEqDiff, binA, numA, ibin, unA, pz, Bool.not_true, Bool.not_false, dn, m3, m4]; rfl) ?_ | refine sops_on ?_ ?_; focus (simp only [↓ez, ↓reduceIte, Nat.reduceEqDiff, dn, m3, m4]; done)
      refine sops_call (as := [vd1, vd2]) (by simp only [↓ez, ↓reduceIte, Nat.reduceEqDiff]) (equal_ok K (a1.d.mono (hle.trans hl3)) (a2.d.mono (hle.trans hl3)) l3 l4) fun x H4 hl4 hx => ?_
      obtain ⟨b', rfl, hb'⟩ := hx
      repeat first | refine sops_pv (by simp only [↓pw, ↓ez, ↓reduceIte, Nat.reduceEqDiff, binA, numA, ibin, unA, pz, Bool.not_true, Bool.not_false, dn]; rfl) ?_ | refine sops_nil ?_ | refine seqQ_normal ?_ | refine sok_ret ?_
      refine fnQ_tmp (.inr rfl) rfl ?_ (by simp only [↓ez, ↓reduceIte, Nat.reduceEqDiff, dn]; rfl) ?_
      · exact (hle.trans hl3).trans hl4
      · exact ⟨b', rfl, fun h => ⟨hn, hb.1 rfl, hb'.1 h⟩, fun h => hb'.2 h.2.2⟩
  · have dn : (neg1 == neg2) = false := by simpa using hn
    repeat first | refine sops_pv (by simp only [↓pw, ↓ez, ↓reduceIte, Nat.reduceEqDiff, binA, numA, ibin, unA, pz, Bool.not_true, Bool.not_false, dn]; rfl) ?_ | refine sops_off (w' := false) ?_ rfl ?_; focus (simp only [↓ez, ↓reduceIte, Nat.reduceEqDiff, dn]; done) | refine sops_nil ?_ | refine seqQ_normal ?_ | refine sok_ret ?_
    refine fnQ_tmp (.inr rfl) rfl ?_ (by simp only [↓ez, ↓reduceIte, Nat.reduceEqDiff, dn]; rfl) ?_
    · exact hle
    · exact ⟨false, rfl, fun h => (by cases h), fun h => absurd h.1 hn⟩
theorem clone_ok (K : KeyC fs orc) {v : AV} {l : List Int} (h : Rd H 1 v (u32s l)) (hn : l.length < 1000000) : CallS fs orc (.func (.func 17) [] []) [v] H fun r H' => Rd H' 1 r (u32s l) := by
  refine call_fn1 K.h17 fun lo g e0 => ?_
  have hv : v = .nils ∧ l = [] ∨ ∃ b o n c, v = .slice b o n c 1 := by
    rcases h with ⟨h1, h2⟩ | ⟨b, o, n, c, h1, _⟩
    · exact .inl ⟨h1, by simpa [u32s] using h2⟩
    · exact .inr ⟨b, o, n, c, h1⟩
  rcases hv with ⟨rfl, rfl⟩ | ⟨b, o, n, c, rfl⟩
  ·
    repeat first | refine sops_pv (by simp only [↓pw, ↓ez, ↓reduceIte, Nat.reduceEqDiff, binA, numA, ibin, unA, pz, Bool.not_true, Bool.not_false, e0, eqA]; rfl) ?_ | refine sops_nil ?_ | refine seqQ_normal ?_ | refine sok_seq ?_ | refine sok_region ?_
    refine sok_condT ?_ ?_
    · exact by simp only [↓ez, ↓reduceIte, Nat.reduceEqDiff]
    repeat first | refine sops_pv (by simp only [↓pw, ↓ez, ↓reduceIte, Nat.reduceEqDiff, binA, numA, ibin, unA, pz, Bool.not_true, Bool.not_false]; rfl) ?_ | refine sops_nil ?_ | refine seqQ_normal ?_ | refine seqQ_ret ?_ | refine sok_seq ?_ | refine sok_region ?_ | refine sok_ret ?_
    refine fnQ_tmp (.inr rfl) rfl ?_ (by simp only [↓ez, ↓reduceIte, Nat.reduceEqDiff]; rfl) ?_
    · exact Le.refl _
    · exact Rd.nil _ _
  ·
    repeat first | refine sops_pv (by simp only [↓pw, ↓ez, ↓reduceIte, Nat.reduceEqDiff, binA, numA, ibin, unA, pz, Bool.not_true, Bool.not_false, e0, eqA]; rfl) ?_ | refine sops_nil ?_ | refine seqQ_normal ?_ | refine sok_seq ?_ | refine sok_region ?_
    refine sok_condF ?_ ?_
    · exact by simp only [↓ez, ↓reduceIte, Nat.reduceEqDiff]
    repeat first | refine seqQ_normal ?_ | refine sok_seq ?_ | refine sok_region ?_ | refine sok_skip ?_
    refine sops_bs [] rfl fun b1 H1 hF => ?_
    repeat (refine sops_pv (by simp only [↓pw, ↓ez, ↓reduceIte, Nat.reduceEqDiff, binA, numA, ibin, unA, pz, Bool.not_true, Bool.not_false, e0]; rfl) ?_)
    have hb : Buf 57 H H1 lo (.slice b1 0 0 0 1) [] := .inr ⟨b1, rfl, .inl hF.at', hF.new, hF.lo⟩
    by_cases h0 : l = []
    · subst h0
      refine sops_app0 (e := 57) (H0 := H) (c := []) (by simp only [↓ez, ↓reduceIte, Nat.reduceEqDiff]; exact hb) (.inl (by simp only [↓ez, ↓reduceIte, Nat.reduceEqDiff]; exact h.mono hF.le)) ?_
      simp only [↓ez, ↓reduceIte, Nat.reduceEqDiff]
      repeat first | refine sops_pv (by simp only [↓pw, ↓ez, ↓reduceIte, Nat.reduceEqDiff, binA, numA, ibin, unA, pz, Bool.not_true, Bool.not_false]; rfl) ?_ | refine sops_nil ?_ | refine seqQ_normal ?_ | refine sok_ret ?_
      refine fnQ_tmp (.inr rfl) rfl ?_ (by simp only [↓ez, ↓reduceIte, Nat.reduceEqDiff]; rfl) ?_
      · exact hF.le
      · exact hb.rd
    · have hl0 : 0 < l.length := List.length_pos_iff.2 h0
      refine sops_app (c := []) (e := 57) (H0 := H) (xs := u32s l) (by simp only [↓ez, ↓reduceIte, Nat.reduceEqDiff]; exact hb) hF.le (.inl (by simp only [↓ez, ↓reduceIte, Nat.reduceEqDiff, e0]; exact h.mono hF.le)) (by simpa [u32s] using h0) (allOne_of fun v hv => by obtain ⟨_, _, rfl⟩ := List.mem_map.1 hv; rfl)
        (by simp only [u32s_length, List.length_nil]; omega) (by simp only [u32s_length, List.length_nil]; omega) fun v2 H2 hb2 hle2 _ => ?_
      repeat first | refine sops_pv (by simp only [↓pw, ↓ez, ↓reduceIte, Nat.reduceEqDiff, binA, numA, ibin, unA, pz, Bool.not_true, Bool.not_false]; rfl) ?_ | refine sops_nil ?_ | refine seqQ_normal ?_ | refine sok_ret ?_
      refine fnQ_tmp (.inr rfl) rfl ?_ (by simp only [↓ez, ↓reduceIte, Nat.reduceEqDiff]; rfl) ?_
      · exact hle2
      · exact hb2.rd
end
end Go.RI
namespace Go.RI
open Fx
structure Root (H : Hp) (c : List AV) (k : Int) (name : List Nat) (neg : Bool) (nu de : List Int) (n : Nat) : Prop where
  ex : ∃ (var : Int) (vn vd va : AV) (fl : List AV), c = [.int .i64 k, .int .i64 var, .str name, .bool neg, vn, vd, va] ∧ NumAt H vn vd nu de ∧ Rd H 7 va fl ∧ fl.length = n * 7
theorem Root.mono {H H' : Hp} (hle : Le H H') {c : List AV} {k : Int} {name : List Nat} {neg : Bool} {nu de : List Int} {n : Nat} (h : Root H c k name neg nu de n) : Root H' c k name neg nu de n := by
  obtain ⟨var, vn, vd, va, fl, h1, h2, h3, h4⟩ := h.ex
  exact ⟨var, vn, vd, va, fl, h1, h2.mono hle, h3.mono hle, h4⟩
structure KeyAt (H : Hp) (c : List AV) (k : Int) (name : List Nat) (neg : Bool) (nu de : List Int) (n : Nat) : Prop where
  ex : ∃ vn vd, c = [.int .i64 k, .bool neg, vn, vd, .str name, .int .i64 (.ofNat n)] ∧ NumAt H vn vd nu de
theorem KeyAt.mono {H H' : Hp} (hle : Le H H') {c : List AV} {k : Int} {name : List Nat} {neg : Bool} {nu de : List Int} {n : Nat} (h : KeyAt H c k name neg nu de n) : KeyAt H' c k name neg nu de n := by
  obtain ⟨vn, vd, h1, h2⟩ := h.ex
  exact ⟨vn, vd, h1, h2.mono hle⟩
theorem KeyAt.len {H : Hp} {c : List AV} {k : Int} {name : List Nat} {neg : Bool} {nu de : List Int} {n : Nat} (h : KeyAt H c k name neg nu de n) : c.length = 6 := by
  obtain ⟨vn, vd, rfl, _⟩ := h.ex; rfl
theorem KeyAt.one {H : Hp} {c : List AV} {k : Int} {name : List Nat} {neg : Bool} {nu de : List Int} {n : Nat} (h : KeyAt H c k name neg nu de n) : allOne c = true := by
  obtain ⟨vn, vd, rfl, h2⟩ := h.ex; simp only [allOne, h2.n.one, h2.d.one]; rfl
def KeyOfR (H : Hp) (r : AV) (k : Int) (name : List Nat) (neg : Bool) (nu de : List Int) (n : Nat) : Prop :=
  ∃ c, r = .agg c ∧ (k = 1 ∧ KeyAt H c 0 [] false [] [] 0 ∨ k ≠ 1 ∧ KeyAt H c k name neg nu de n)
theorem key_zero (H : Hp) : KeyAt H z0 0 [] false [] [] 0 := ⟨.nils, .nils, rfl, ⟨Rd.nil _ _, Rd.nil _ _, fun x hx => by (cases hx), fun x hx => by (cases hx)⟩⟩
theorem Rd.notU {H : Hp} {v : AV} {l : List AV} {es : Nat} (h : Rd H es v l) (n : Int) : v ≠ .int .u32 n := by
  rcases h with ⟨rfl, _⟩ | ⟨b, o, m, c, rfl, _⟩ <;> simp
section
variable {fs : Fns} {orc : Oracle} {H : Hp}
theorem rkey_ok (K : KeyC fs orc) {c : List AV} {k : Int} {name : List Nat} {neg : Bool} {nu de : List Int} {n : Nat} (h : Root H c k name neg nu de n) :
    CallS fs orc (.func (.func 7) [] []) [.agg c] H fun r H' => KeyOfR H' r k name neg nu de n := by
  obtain ⟨var, vn, vd, va, fl, rfl, ha, hr, hn⟩ := h.ex
  refine call_fn1 K.h7 fun lo g e0 => ?_
  repeat first | refine sok_seq ?_ | refine sok_region ?_
  refine sops_box [.int .i64 k, .int .i64 var, .str name, .bool neg, vn, vd, va] (by simp only [↓evG_t, e0, AV.cells]) fun b H1 hF => ?_
  refine sops_alloc fun b2 H2 hF2 => ?_
  have m1 := rdH_own (hF2.le _ _ hF.at')
  have m3 := rdNH_sub (hF2.le _ _ hF.at') 3 3 [.bool neg, vn, vd] rfl rfl
  have hle := hF.le.trans hF2.le
  have hnew : H b2 = none := by
    cases e : H b2 with
    | none => rfl
    | some m => have := hF.le _ _ e; rw [hF2.new] at this; cases this
  repeat first | refine sops_pv (by simp only [↓pw, ↓ez, ↓reduceIte, Nat.reduceEqDiff, binA, numA, ibin, unA, pz, Bool.not_true, Bool.not_false, m1]; rfl) ?_ | refine sops_nil ?_ | refine seqQ_normal ?_ | refine sok_seq ?_ | refine sok_region ?_
  by_cases hk : k = 1
  · subst hk
    have q : ((1 : Int) == Int.ofNat 1) = true := rfl
    skip
    refine sok_condT ?_ ?_
    · exact by simp only [↓ez, ↓reduceIte, Nat.reduceEqDiff, q]
    repeat first | refine sok_seq ?_ | refine sok_region ?_
    refine sops_build z0 (by simp only [fillG]) ?_
    refine sops_store (b := b2) (off := 0) (e := 32) (r := z0) (c := z0) (by simp only [↓ez, ↓reduceIte, Nat.reduceEqDiff]) hF2.at' hF2.lo (by simp only [↓ez, ↓reduceIte, Nat.reduceEqDiff, AV.cells]) rfl rfl (by decide) fun H3 hS => ?_
    have hat := stored_full hS rfl
    repeat first | refine sops_nil ?_ | refine seqQ_normal ?_ | refine seqQ_ret ?_ | refine sok_ret ?_
    refine fnQ_cell (.inr rfl) rfl (hS.le hle hnew) ?_ hat rfl ⟨z0, rfl, .inl ⟨rfl, key_zero _⟩⟩
    exact by simp only [↓ez, ↓reduceIte, Nat.reduceEqDiff]
  · have q : (k == Int.ofNat 1) = false := by rw [beq_eq_false_iff_ne]; exact hk
    skip
    refine sok_condF ?_ ?_
    · exact by simp only [↓ez, ↓reduceIte, Nat.reduceEqDiff, q]
    repeat first | refine sops_pv (by simp only [↓pw, ↓ez, ↓reduceIte, Nat.reduceEqDiff, binA, numA, ibin, unA, pz, Bool.not_true, Bool.not_false, m1, m3]; rfl) ?_ | refine seqQ_normal ?_ | refine sok_seq ?_ | refine sok_region ?_ | refine sok_skip ?_
    refine sops_len (c := fl) n (by simp only [↓ez, ↓reduceIte, Nat.reduceEqDiff]; exact hr.mono hle) hn (by decide) ?_
    refine sops_build [.int .i64 k, .bool neg, vn, vd, .str name, .int .i64 (.ofNat n)] (by simp only [fillG, ↓ez, ↓reduceIte, Nat.reduceEqDiff]; rfl) ?_
    have hka : KeyAt H [.int .i64 k, .bool neg, vn, vd, .str name, .int .i64 (.ofNat n)] k name neg nu de n := ⟨vn, vd, rfl, ha⟩
    refine sops_store (b := b2) (off := 0) (e := 32) (r := z0) (c := [.int .i64 k, .bool neg, vn, vd, .str name, .int .i64 (.ofNat n)]) (by simp only [↓ez, ↓reduceIte, Nat.reduceEqDiff]) hF2.at' hF2.lo (by simp only [↓ez, ↓reduceIte, Nat.reduceEqDiff, AV.cells]) rfl hka.one (by decide) fun H3 hS => ?_
    have hat := stored_full hS rfl
    have hle3 := hS.le hle hnew
    repeat first | refine sops_nil ?_ | refine seqQ_normal ?_ | refine sok_ret ?_
    refine fnQ_cell (.inr rfl) rfl hle3 ?_ hat rfl ⟨_, rfl, .inr ⟨hk, hka.mono hle3⟩⟩
    exact by simp only [↓ez, ↓reduceIte, Nat.reduceEqDiff]
theorem key_ok (K : KeyC fs orc) {c : List AV} {k : Int} {name : List Nat} {neg : Bool} {nu de : List Int} {n : Nat} (h : Root H c k name neg nu de n) (hnl : nu.length < 1000000) (hdl : de.length < 1000000) :
    CallS fs orc (.func (.func 6) [] []) [.agg c] H fun r H' => KeyOfR H' r k name neg nu de n := by
  obtain ⟨var, vn, vd, va, fl, rfl, ha, hr, hn⟩ := h.ex
  refine call_fn1 K.h6 fun lo g e0 => ?_
  repeat first | refine sok_seq ?_ | refine sok_region ?_
  refine sops_box [.int .i64 k, .int .i64 var, .str name, .bool neg, vn, vd, va] (by simp only [↓evG_t, e0, AV.cells]) fun b H1 hF => ?_
  refine sops_alloc fun b2 H2 hF2 => ?_
  have m1 := rdH_own (hF2.le _ _ hF.at')
  have m3 := rdNH_sub (hF2.le _ _ hF.at') 3 3 [.bool neg, vn, vd] rfl rfl
  have hle := hF.le.trans hF2.le
  have hnew : H b2 = none := by
    cases e : H b2 with
    | none => rfl
    | some m => have := hF.le _ _ e; rw [hF2.new] at this; cases this
  repeat first | refine sops_pv (by simp only [↓pw, ↓ez, ↓reduceIte, Nat.reduceEqDiff, binA, numA, ibin, unA, pz, Bool.not_true, Bool.not_false, m1]; rfl) ?_ | refine sops_nil ?_ | refine seqQ_normal ?_ | refine sok_seq ?_ | refine sok_region ?_
  by_cases hk : k = 1
  · subst hk
    have q : ((1 : Int) == Int.ofNat 1) = true := rfl
    skip
    refine sok_condT ?_ ?_
    · exact by simp only [↓ez, ↓reduceIte, Nat.reduceEqDiff, q]
    repeat first | refine sok_seq ?_ | refine sok_region ?_
    refine sops_build z0 (by simp only [fillG]) ?_
    refine sops_store (b := b2) (off := 0) (e := 32) (r := z0) (c := z0) (by simp only [↓ez, ↓reduceIte, Nat.reduceEqDiff]) hF2.at' hF2.lo (by simp only [↓ez, ↓reduceIte, Nat.reduceEqDiff, AV.cells]) rfl rfl (by decide) fun H3 hS => ?_
    have hat := stored_full hS rfl
    repeat first | refine sops_nil ?_ | refine seqQ_normal ?_ | refine seqQ_ret ?_ | refine sok_ret ?_
    refine fnQ_cell (.inr rfl) rfl (hS.le hle hnew) ?_ hat rfl ⟨z0, rfl, .inl ⟨rfl, key_zero _⟩⟩
    exact by simp only [↓ez, ↓reduceIte, Nat.reduceEqDiff]
  · have q : (k == Int.ofNat 1) = false := by rw [beq_eq_false_iff_ne]; exact hk
    skip
    refine sok_condF ?_ ?_
    · exact by simp only [↓ez, ↓reduceIte, Nat.reduceEqDiff, q]
    repeat first | refine sops_pv (by simp only [↓pw, ↓ez, ↓reduceIte, Nat.reduceEqDiff, binA, numA, ibin, unA, pz, Bool.not_true, Bool.not_false, m3]; rfl) ?_ | refine seqQ_normal ?_ | refine sok_seq ?_ | refine sok_region ?_ | refine sok_skip ?_
    refine sops_alloc fun b3 H3 hF3 => ?_
    have hle3 := hle.trans hF3.le
    have hnew3 : H b3 = none := by
      cases e : H b3 with
      | none => rfl
      | some m => have := hle _ _ e; rw [hF3.new] at this; cases this
    refine sops_store (b := b3) (off := 0) (e := 24) (r := z4) (c := [.bool neg, vn, vd]) (by simp only [↓ez, ↓reduceIte, Nat.reduceEqDiff]) hF3.at' hF3.lo (by simp only [↓ez, ↓reduceIte, Nat.reduceEqDiff, AV.cells]) rfl (by simp only [allOne, ha.n.one, ha.d.one]; rfl) (by decide) fun H4 hS4 => ?_
    have hat4 := stored_full hS4 rfl
    have hle4 := hS4.le hle3 hnew3
    have b23 : b2 ≠ b3 := fun e => by subst e; have := hF3.new; rw [hF2.at'] at this; cases this
    have b13 : b ≠ b3 := fun e => by subst e; have := hF3.new; rw [hF2.le _ _ hF.at'] at this; cases this
    have hb1 : H4 b = some (.own 27 [.int .i64 k, .int .i64 var, .str name, .bool neg, vn, vd, va]) := by rw [hS4.oth _ b13]; exact hF3.le _ _ (hF2.le _ _ hF.at')
    have hb2 : H4 b2 = some (.own 32 z0) := by rw [hS4.oth _ b23]; exact hF3.le _ _ hF2.at'
    have m4 := rdH_own hat4
    repeat first | refine sops_pv (by simp only [↓pw, ↓ez, ↓reduceIte, Nat.reduceEqDiff, binA, numA, ibin, unA, pz, Bool.not_true, Bool.not_false, m4]; rfl) ?_ | refine sops_nil ?_ | refine seqQ_normal ?_ | refine sok_seq ?_ | refine sok_draw ?_ | refine sdr_load rfl fun _ _ => ?_ | refine sdr_step rfl fun _ _ => ?_
    refine sops_call (as := [vn]) (by simp only [↓ez, ↓reduceIte, Nat.reduceEqDiff]) (clone_ok K (ha.n.mono hle4) hnl) fun x H5 hl5 hx => ?_
    have m5 := rdH_own (hl5 _ _ hat4)
    repeat first | refine sops_pv (by simp only [↓pw, ↓ez, ↓reduceIte, Nat.reduceEqDiff, binA, numA, ibin, unA, pz, Bool.not_true, Bool.not_false, m5]; rfl) ?_ | refine sops_nil ?_ | refine sdr_load rfl fun _ _ => ?_ | refine sdr_step rfl fun _ _ => ?_
    refine sops_call (as := [vd]) (by simp only [↓ez, ↓reduceIte, Nat.reduceEqDiff]) (clone_ok K (ha.d.mono (hle4.trans hl5)) hdl) fun y H6 hl6 hy => ?_
    have hx := hx.mono hl6
    have hl46 := hl5.trans hl6
    repeat first | refine sops_pv (by simp only [↓pw, ↓ez, ↓reduceIte, Nat.reduceEqDiff, binA, numA, ibin, unA, pz, Bool.not_true, Bool.not_false]; rfl) ?_ | refine sops_nil ?_ | refine sdr_step rfl fun _ _ => ?_
    have hz : ∀ (i : Nat) (n : Int), ([.bool neg, vn, vd] : List AV)[i]? ≠ some (.int .u32 n) := fun i n => by
      rcases i with _ | _ | _ | i
      · simp
      · simpa using ha.n.notU n
      · simpa using ha.d.notU n
      · simp
    refine sdr_store (b := b3) (off := 1) (e := 24) (r := [.bool neg, vn, vd]) (c := [x]) (by simp only [↓ez, ↓reduceIte, Nat.reduceEqDiff]) (hl46 _ _ hat4) hF3.lo (by simp only [↓ez, ↓reduceIte, Nat.reduceEqDiff, AV.cells_one hx.one]) rfl (by simp only [allOne, hx.one]) (by simp) fun H7 hS7 => ?_
    have hat7 : H7 b3 = some (.own 24 [.bool neg, x, vd]) := hS7.at'
    have hx7 := hx.storedU (hl46 _ _ hat4) hz hS7
    have hy7 := hy.storedU (hl46 _ _ hat4) hz hS7
    have hle7 := hS7.le (hle4.trans hl46) hnew3
    repeat first | refine sops_pv (by simp only [↓pw, ↓ez, ↓reduceIte, Nat.reduceEqDiff, binA, numA, ibin, unA, pz, Bool.not_true, Bool.not_false]; rfl) ?_ | refine sops_nil ?_ | refine sdr_step rfl fun _ _ => ?_
    have hz7 : ∀ (i : Nat) (n : Int), ([.bool neg, x, vd] : List AV)[i]? ≠ some (.int .u32 n) := fun i n => by
      rcases i with _ | _ | _ | i
      · simp
      · simpa using hx.notU n
      · simpa using ha.d.notU n
      · simp
    refine sdr_store (b := b3) (off := 2) (e := 24) (r := [.bool neg, x, vd]) (c := [y]) (by simp only [↓ez, ↓reduceIte, Nat.reduceEqDiff]) hat7 hF3.lo (by simp only [↓ez, ↓reduceIte, Nat.reduceEqDiff, AV.cells_one hy.one]) rfl (by simp only [allOne, hy.one]) (by simp) fun H8 hS8 => ?_
    have hat8 : H8 b3 = some (.own 24 [.bool neg, x, y]) := hS8.at'
    have hx8 := hx7.storedU hat7 hz7 hS8
    have hy8 := hy7.storedU hat7 hz7 hS8
    have hle8 := hS8.le hle7 hnew3
    have hb18 : H8 b = some (.own 27 [.int .i64 k, .int .i64 var, .str name, .bool neg, vn, vd, va]) := by rw [hS8.oth _ b13, hS7.oth _ b13]; exact hl46 _ _ hb1
    have hb28 : H8 b2 = some (.own 32 z0) := by rw [hS8.oth _ b23, hS7.oth _ b23]; exact hl46 _ _ hb2
    have m8 := rdH_own hb18
    have m9 := rdNH_own (n := 3) hat8 rfl
    repeat first | refine sops_pv (by simp only [↓pw, ↓ez, ↓reduceIte, Nat.reduceEqDiff, binA, numA, ibin, unA, pz, Bool.not_true, Bool.not_false, m8, m9]; rfl) ?_ | refine seqQ_normal ?_ | refine sok_seq ?_ | refine sok_region ?_ | refine sdr_nil ?_
    refine sops_len (c := fl) n (by simp only [↓ez, ↓reduceIte, Nat.reduceEqDiff]; exact hr.mono hle8) hn (by decide) ?_
    refine sops_build [.int .i64 k, .bool neg, x, y, .str name, .int .i64 (.ofNat n)] (by simp only [fillG, ↓ez, ↓reduceIte, Nat.reduceEqDiff]; rfl) ?_
    refine sops_store (b := b2) (off := 0) (e := 32) (r := z0) (c := [.int .i64 k, .bool neg, x, y, .str name, .int .i64 (.ofNat n)]) (by simp only [↓ez, ↓reduceIte, Nat.reduceEqDiff]) hb28 hF2.lo (by simp only [↓ez, ↓reduceIte, Nat.reduceEqDiff, AV.cells]) rfl (by simp only [allOne, hx.one, hy.one]; rfl) (by decide) fun H9 hS9 => ?_
    have hat9 := stored_full hS9 rfl
    have hle9 := hS9.le hle8 hnew
    have hz0 : ∀ (i : Nat) (n : Int), z0[i]? ≠ some (.int .u32 n) := fun i n => by
      rcases i with _ | _ | _ | _ | _ | _ | i <;> simp [z0]
    repeat first | refine sops_nil ?_ | refine seqQ_normal ?_ | refine sok_ret ?_
    refine fnQ_cell (.inr rfl) rfl hle9 ?_ hat9 rfl ⟨_, rfl, .inr ⟨hk, x, y, rfl, hx8.storedU hb28 hz0 hS9, hy8.storedU hb28 hz0 hS9, ha.ln, ha.ld⟩⟩
    exact by simp only [↓ez, ↓reduceIte, Nat.reduceEqDiff]
end
end Go.RI
