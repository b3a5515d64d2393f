/- A compiler from bodies of Go functions into a small language of values and blocks, and the proof that a run of the compiled text is a run of the program. Conditions: none. -/
import Derived.WalkKit
import Derived.Fence
import Derived.AtR
set_option linter.all false
namespace Go.RI
inductive Tb (α : Type) where
  | e : Tb α
  | n : Tb α → Option α → Tb α → Tb α
namespace Tb
variable {α : Type}
def get : Tb α → Nat → Option α
  | .e, _ => none
  | .n l v r, k => match Nat.beq k 0 with
    | true => v
    | false => match Nat.beq (Nat.mod k 2) 1 with
      | true => get l (Nat.div k 2)
      | false => get r (Nat.pred (Nat.div k 2))
def sing (x : α) : Nat → Nat → Tb α
  | 0, _ => .e
  | f + 1, k => match Nat.beq k 0 with
    | true => .n .e (some x) .e
    | false => match Nat.beq (Nat.mod k 2) 1 with
      | true => .n (sing x f (Nat.div k 2)) none .e
      | false => .n .e none (sing x f (Nat.pred (Nat.div k 2)))
def set (x : α) : Tb α → Nat → Tb α
  | .e, k => sing x (k + 1) k
  | .n l v r, k => match Nat.beq k 0 with
    | true => .n l (some x) r
    | false => match Nat.beq (Nat.mod k 2) 1 with
      | true => .n (set x l (Nat.div k 2)) v r
      | false => .n l v (set x r (Nat.pred (Nat.div k 2)))
@[simp] theorem get_e (k : Nat) : (Tb.e : Tb α).get k = none := by unfold get; rfl
theorem get_n (l r : Tb α) (v : Option α) (k : Nat) : (Tb.n l v r).get k = if k = 0 then v else if k % 2 = 1 then l.get (k / 2) else r.get (k / 2 - 1) := by
  rw [get]
  rcases Nat.eq_zero_or_pos k with h | h
  · subst h; rfl
  · have h0 : Nat.beq k 0 = false := by cases k with | zero => omega | succ k => rfl
    rw [h0, if_neg (by omega)]
    rcases Nat.mod_two_eq_zero_or_one k with h1 | h1
    · have h2 : Nat.beq (Nat.mod k 2) 1 = false := by rw [show Nat.mod k 2 = 0 from h1]; rfl
      simp only [h2, h1]; rfl
    · have h2 : Nat.beq (Nat.mod k 2) 1 = true := by rw [show Nat.mod k 2 = 1 from h1]; rfl
      simp only [h2, h1, if_true]; rfl
theorem sing_succ (x : α) (f k : Nat) : sing x (f + 1) k = if k = 0 then .n .e (some x) .e else if k % 2 = 1 then .n (sing x f (k / 2)) none .e else .n .e none (sing x f (k / 2 - 1)) := by
  rw [sing]
  rcases Nat.eq_zero_or_pos k with h | h
  · subst h; rfl
  · have h0 : Nat.beq k 0 = false := by cases k with | zero => omega | succ k => rfl
    rw [h0, if_neg (by omega)]
    rcases Nat.mod_two_eq_zero_or_one k with h1 | h1
    · have h2 : Nat.beq (Nat.mod k 2) 1 = false := by rw [show Nat.mod k 2 = 0 from h1]; rfl
      simp only [h2, h1]; rfl
    · have h2 : Nat.beq (Nat.mod k 2) 1 = true := by rw [show Nat.mod k 2 = 1 from h1]; rfl
      simp only [h2, h1, if_true]; rfl
theorem set_n (x : α) (l r : Tb α) (v : Option α) (k : Nat) : (Tb.n l v r).set x k = if k = 0 then .n l (some x) r else if k % 2 = 1 then .n (l.set x (k / 2)) v r else .n l v (r.set x (k / 2 - 1)) := by
  rw [set]
  rcases Nat.eq_zero_or_pos k with h | h
  · subst h; rfl
  · have h0 : Nat.beq k 0 = false := by cases k with | zero => omega | succ k => rfl
    rw [h0, if_neg (by omega)]
    rcases Nat.mod_two_eq_zero_or_one k with h1 | h1
    · have h2 : Nat.beq (Nat.mod k 2) 1 = false := by rw [show Nat.mod k 2 = 0 from h1]; rfl
      simp only [h2, h1]; rfl
    · have h2 : Nat.beq (Nat.mod k 2) 1 = true := by rw [show Nat.mod k 2 = 1 from h1]; rfl
      simp only [h2, h1, if_true]; rfl
theorem get_sing (x : α) : ∀ (f k j : Nat), k < f → (sing x f k).get j = if j = k then some x else none := by
  intro f
  induction f with
  | zero => intro k j h; omega
  | succ f ih =>
    intro k j h
    rw [sing_succ]
    by_cases h0 : k = 0
    · rw [if_pos h0, get_n]; subst h0; by_cases hj : j = 0 <;> simp [hj]
    · rw [if_neg h0]
      by_cases h1 : k % 2 = 1
      · rw [if_pos h1, get_n]
        by_cases hj : j = 0
        · rw [if_pos hj, if_neg (by omega)]
        · rw [if_neg hj]
          by_cases hj1 : j % 2 = 1
          · rw [if_pos hj1, ih _ _ (by omega)]
            by_cases e : j = k
            · subst e; simp
            · rw [if_neg (by omega), if_neg e]
          · rw [if_neg hj1, if_neg (by intro e; subst e; exact hj1 h1)]; simp
      · rw [if_neg h1, get_n]
        by_cases hj : j = 0
        · rw [if_pos hj, if_neg (by omega)]
        · rw [if_neg hj]
          by_cases hj1 : j % 2 = 1
          · rw [if_pos hj1, if_neg (by intro e; subst e; exact h1 hj1)]; simp
          · rw [if_neg hj1, ih _ _ (by omega)]
            by_cases e : j = k
            · subst e; simp
            · rw [if_neg (by omega), if_neg e]
theorem get_set (x : α) : ∀ (t : Tb α) (k j : Nat), (t.set x k).get j = if j = k then some x else t.get j := by
  intro t
  induction t with
  | e => intro k j; rw [set, get_sing x _ _ _ (by omega)]; simp
  | n l v r ihl ihr =>
    intro k j
    rw [set_n]
    by_cases h0 : k = 0
    · rw [if_pos h0, get_n, get_n]; subst h0; by_cases hj : j = 0 <;> simp [hj]
    · rw [if_neg h0]
      by_cases h1 : k % 2 = 1
      · rw [if_pos h1, get_n, get_n]
        by_cases hj : j = 0
        · rw [if_pos hj, if_pos hj, if_neg (by omega)]
        · rw [if_neg hj, if_neg hj]
          by_cases hj1 : j % 2 = 1
          · rw [if_pos hj1, if_pos hj1, ihl]
            by_cases e : j = k
            · subst e; simp
            · rw [if_neg (by omega), if_neg e]
          · rw [if_neg hj1, if_neg hj1, if_neg (by intro e; subst e; exact hj1 h1)]
      · rw [if_neg h1, get_n, get_n]
        by_cases hj : j = 0
        · rw [if_pos hj, if_pos hj, if_neg (by omega)]
        · rw [if_neg hj, if_neg hj]
          by_cases hj1 : j % 2 = 1
          · rw [if_pos hj1, if_pos hj1, if_neg (by intro e; subst e; exact h1 hj1)]
          · rw [if_neg hj1, if_neg hj1, ihr]
            by_cases e : j = k
            · subst e; simp
            · rw [if_neg (by omega), if_neg e]
@[simp] theorem get_set_same (x : α) (t : Tb α) (k : Nat) : (t.set x k).get k = some x := by rw [get_set, if_pos rfl]
theorem get_set_ne (x : α) (t : Tb α) {k j : Nat} (h : j ≠ k) : (t.set x k).get j = t.get j := by rw [get_set, if_neg h]
end Tb
inductive S16 where
  | s0 | s1 | s2 | s3 | s4 | s5 | s6 | s7 | s8 | s9 | sa | sb | sc | sd | se | sf
  deriving DecidableEq
structure N16 (α : Type) where
  n ::
  a0 : α
  a1 : α
  a2 : α
  a3 : α
  a4 : α
  a5 : α
  a6 : α
  a7 : α
  a8 : α
  a9 : α
  aa : α
  ab : α
  ac : α
  ad : α
  ae : α
  af : α
def S16.s16_0_2 (k : Nat) : S16 := match Nat.ble 1 k with
  | true => .s1
  | false => .s0
def S16.s16_2_4 (k : Nat) : S16 := match Nat.ble 3 k with
  | true => .s3
  | false => .s2
def S16.s16_0_4 (k : Nat) : S16 := match Nat.ble 2 k with
  | true => (S16.s16_2_4 k)
  | false => (S16.s16_0_2 k)
def S16.s16_4_6 (k : Nat) : S16 := match Nat.ble 5 k with
  | true => .s5
  | false => .s4
def S16.s16_6_8 (k : Nat) : S16 := match Nat.ble 7 k with
  | true => .s7
  | false => .s6
def S16.s16_4_8 (k : Nat) : S16 := match Nat.ble 6 k with
  | true => (S16.s16_6_8 k)
  | false => (S16.s16_4_6 k)
def S16.s16_0_8 (k : Nat) : S16 := match Nat.ble 4 k with
  | true => (S16.s16_4_8 k)
  | false => (S16.s16_0_4 k)
def S16.s16_8_10 (k : Nat) : S16 := match Nat.ble 9 k with
  | true => .s9
  | false => .s8
def S16.s16_10_12 (k : Nat) : S16 := match Nat.ble 11 k with
  | true => .sb
  | false => .sa
def S16.s16_8_12 (k : Nat) : S16 := match Nat.ble 10 k with
  | true => (S16.s16_10_12 k)
  | false => (S16.s16_8_10 k)
def S16.s16_12_14 (k : Nat) : S16 := match Nat.ble 13 k with
  | true => .sd
  | false => .sc
def S16.s16_14_16 (k : Nat) : S16 := match Nat.ble 15 k with
  | true => .sf
  | false => .se
def S16.s16_12_16 (k : Nat) : S16 := match Nat.ble 14 k with
  | true => (S16.s16_14_16 k)
  | false => (S16.s16_12_14 k)
def S16.s16_8_16 (k : Nat) : S16 := match Nat.ble 12 k with
  | true => (S16.s16_12_16 k)
  | false => (S16.s16_8_12 k)
def S16.s16_0_16 (k : Nat) : S16 := match Nat.ble 8 k with
  | true => (S16.s16_8_16 k)
  | false => (S16.s16_0_8 k)
def S16.of (k : Nat) : S16 := S16.s16_0_16 k
theorem S16.of_inj (i j : Nat) (hi : i < 16) (hj : j < 16) (h : S16.of i = S16.of j) : i = j := by
  have key : ∀ a b : Fin 16, S16.of a.val = S16.of b.val → a = b := by decide
  exact congrArg Fin.val (key ⟨i, hi⟩ ⟨j, hj⟩ h)
namespace N16
variable {α : Type}
def get (t : N16 α) : S16 → α
  | .s0 => t.a0
  | .s1 => t.a1
  | .s2 => t.a2
  | .s3 => t.a3
  | .s4 => t.a4
  | .s5 => t.a5
  | .s6 => t.a6
  | .s7 => t.a7
  | .s8 => t.a8
  | .s9 => t.a9
  | .sa => t.aa
  | .sb => t.ab
  | .sc => t.ac
  | .sd => t.ad
  | .se => t.ae
  | .sf => t.af
def set0 (v : α) : N16 α → N16 α
  | .n _ a1 a2 a3 a4 a5 a6 a7 a8 a9 aa ab ac ad ae af => .n v a1 a2 a3 a4 a5 a6 a7 a8 a9 aa ab ac ad ae af
def set1 (v : α) : N16 α → N16 α
  | .n a0 _ a2 a3 a4 a5 a6 a7 a8 a9 aa ab ac ad ae af => .n a0 v a2 a3 a4 a5 a6 a7 a8 a9 aa ab ac ad ae af
def set2 (v : α) : N16 α → N16 α
  | .n a0 a1 _ a3 a4 a5 a6 a7 a8 a9 aa ab ac ad ae af => .n a0 a1 v a3 a4 a5 a6 a7 a8 a9 aa ab ac ad ae af
def set3 (v : α) : N16 α → N16 α
  | .n a0 a1 a2 _ a4 a5 a6 a7 a8 a9 aa ab ac ad ae af => .n a0 a1 a2 v a4 a5 a6 a7 a8 a9 aa ab ac ad ae af
def set4 (v : α) : N16 α → N16 α
  | .n a0 a1 a2 a3 _ a5 a6 a7 a8 a9 aa ab ac ad ae af => .n a0 a1 a2 a3 v a5 a6 a7 a8 a9 aa ab ac ad ae af
def set5 (v : α) : N16 α → N16 α
  | .n a0 a1 a2 a3 a4 _ a6 a7 a8 a9 aa ab ac ad ae af => .n a0 a1 a2 a3 a4 v a6 a7 a8 a9 aa ab ac ad ae af
def set6 (v : α) : N16 α → N16 α
  | .n a0 a1 a2 a3 a4 a5 _ a7 a8 a9 aa ab ac ad ae af => .n a0 a1 a2 a3 a4 a5 v a7 a8 a9 aa ab ac ad ae af
def set7 (v : α) : N16 α → N16 α
  | .n a0 a1 a2 a3 a4 a5 a6 _ a8 a9 aa ab ac ad ae af => .n a0 a1 a2 a3 a4 a5 a6 v a8 a9 aa ab ac ad ae af
def set8 (v : α) : N16 α → N16 α
  | .n a0 a1 a2 a3 a4 a5 a6 a7 _ a9 aa ab ac ad ae af => .n a0 a1 a2 a3 a4 a5 a6 a7 v a9 aa ab ac ad ae af
def set9 (v : α) : N16 α → N16 α
  | .n a0 a1 a2 a3 a4 a5 a6 a7 a8 _ aa ab ac ad ae af => .n a0 a1 a2 a3 a4 a5 a6 a7 a8 v aa ab ac ad ae af
def set10 (v : α) : N16 α → N16 α
  | .n a0 a1 a2 a3 a4 a5 a6 a7 a8 a9 _ ab ac ad ae af => .n a0 a1 a2 a3 a4 a5 a6 a7 a8 a9 v ab ac ad ae af
def set11 (v : α) : N16 α → N16 α
  | .n a0 a1 a2 a3 a4 a5 a6 a7 a8 a9 aa _ ac ad ae af => .n a0 a1 a2 a3 a4 a5 a6 a7 a8 a9 aa v ac ad ae af
def set12 (v : α) : N16 α → N16 α
  | .n a0 a1 a2 a3 a4 a5 a6 a7 a8 a9 aa ab _ ad ae af => .n a0 a1 a2 a3 a4 a5 a6 a7 a8 a9 aa ab v ad ae af
def set13 (v : α) : N16 α → N16 α
  | .n a0 a1 a2 a3 a4 a5 a6 a7 a8 a9 aa ab ac _ ae af => .n a0 a1 a2 a3 a4 a5 a6 a7 a8 a9 aa ab ac v ae af
def set14 (v : α) : N16 α → N16 α
  | .n a0 a1 a2 a3 a4 a5 a6 a7 a8 a9 aa ab ac ad _ af => .n a0 a1 a2 a3 a4 a5 a6 a7 a8 a9 aa ab ac ad v af
def set15 (v : α) : N16 α → N16 α
  | .n a0 a1 a2 a3 a4 a5 a6 a7 a8 a9 aa ab ac ad ae _ => .n a0 a1 a2 a3 a4 a5 a6 a7 a8 a9 aa ab ac ad ae v
def set (v : α) (t : N16 α) : S16 → N16 α
  | .s0 => t.set0 v
  | .s1 => t.set1 v
  | .s2 => t.set2 v
  | .s3 => t.set3 v
  | .s4 => t.set4 v
  | .s5 => t.set5 v
  | .s6 => t.set6 v
  | .s7 => t.set7 v
  | .s8 => t.set8 v
  | .s9 => t.set9 v
  | .sa => t.set10 v
  | .sb => t.set11 v
  | .sc => t.set12 v
  | .sd => t.set13 v
  | .se => t.set14 v
  | .sf => t.set15 v
def rep (v : α) : N16 α := .n v v v v v v v v v v v v v v v v
theorem get_set (v : α) (t : N16 α) (k j : S16) : (t.set v k).get j = if j = k then v else t.get j := by
  cases t; cases k <;> cases j <;> rfl
theorem set_set (x y : α) (t : N16 α) (k : S16) : (t.set x k).set y k = t.set y k := by
  cases t; cases k <;> rfl
theorem get_rep (v : α) (k : S16) : (rep v).get k = v := by cases k <;> rfl
end N16
structure Tr (α : Type) where
  lo : N16 (N16 (Option α))
  hi : N16 (N16 (N16 (N16 (Option α))))
  big : Tb α
namespace Tr
variable {α : Type}
def get2 (t : N16 (N16 (Option α))) (k : Nat) : Option α := (t.get (S16.of (Nat.div k 16))).get (S16.of (Nat.mod k 16))
def set2 (x : α) (t : N16 (N16 (Option α))) (k : Nat) : N16 (N16 (Option α)) := t.set ((t.get (S16.of (Nat.div k 16))).set (some x) (S16.of (Nat.mod k 16))) (S16.of (Nat.div k 16))
def get4 (t : N16 (N16 (N16 (N16 (Option α))))) (k : Nat) : Option α := get2 ((t.get (S16.of (Nat.div k 4096))).get (S16.of (Nat.mod (Nat.div k 256) 16))) (Nat.mod k 256)
def set4 (x : α) (t : N16 (N16 (N16 (N16 (Option α))))) (k : Nat) : N16 (N16 (N16 (N16 (Option α)))) :=
  t.set ((t.get (S16.of (Nat.div k 4096))).set (set2 x ((t.get (S16.of (Nat.div k 4096))).get (S16.of (Nat.mod (Nat.div k 256) 16))) (Nat.mod k 256)) (S16.of (Nat.mod (Nat.div k 256) 16))) (S16.of (Nat.div k 4096))
theorem get_set2 (x : α) (t : N16 (N16 (Option α))) {k j : Nat} (hk : k < 256) (hj : j < 256) : get2 (set2 x t k) j = if j = k then some x else get2 t j := by
  unfold get2 set2
  rw [N16.get_set]
  have d1 : Nat.div k 16 = k / 16 := rfl
  have d2 : Nat.div j 16 = j / 16 := rfl
  have d3 : Nat.mod k 16 = k % 16 := rfl
  have d4 : Nat.mod j 16 = j % 16 := rfl
  by_cases h : S16.of (Nat.div j 16) = S16.of (Nat.div k 16)
  · rw [if_pos h, N16.get_set]
    have h1 := S16.of_inj _ _ (by rw [d2]; omega) (by rw [d1]; omega) h
    by_cases h2 : S16.of (Nat.mod j 16) = S16.of (Nat.mod k 16)
    · have h3 := S16.of_inj _ _ (by rw [d4]; omega) (by rw [d3]; omega) h2
      rw [if_pos h2, if_pos (by rw [d1, d2] at h1; rw [d3, d4] at h3; omega)]
    · rw [if_neg h2, if_neg (fun e => h2 (by rw [e])), h]
  · rw [if_neg h, if_neg (fun e => h (by rw [e]))]
theorem get_set4 (x : α) (t : N16 (N16 (N16 (N16 (Option α))))) {k j : Nat} (hk : k < 65536) (hj : j < 65536) : get4 (set4 x t k) j = if j = k then some x else get4 t j := by
  unfold get4 set4
  rw [N16.get_set]
  have d1 : Nat.div k 4096 = k / 4096 := rfl
  have d2 : Nat.div j 4096 = j / 4096 := rfl
  have d3 : Nat.mod (Nat.div k 256) 16 = k / 256 % 16 := rfl
  have d4 : Nat.mod (Nat.div j 256) 16 = j / 256 % 16 := rfl
  have d5 : Nat.mod k 256 = k % 256 := rfl
  have d6 : Nat.mod j 256 = j % 256 := rfl
  by_cases h : S16.of (Nat.div j 4096) = S16.of (Nat.div k 4096)
  · rw [if_pos h, N16.get_set]
    have h1 := S16.of_inj _ _ (by rw [d2]; omega) (by rw [d1]; omega) h
    by_cases h2 : S16.of (Nat.mod (Nat.div j 256) 16) = S16.of (Nat.mod (Nat.div k 256) 16)
    · have h3 := S16.of_inj _ _ (by rw [d4]; omega) (by rw [d3]; omega) h2
      rw [if_pos h2, get_set2 x _ (by rw [d5]; omega) (by rw [d6]; omega)]
      rw [d1, d2] at h1; rw [d3, d4] at h3; rw [d5, d6]
      by_cases h4 : j = k
      · rw [if_pos h4, if_pos (by rw [h4])]
      · rw [if_neg h4, if_neg (by omega), h2, h]
    · rw [if_neg h2, if_neg (fun e => h2 (by rw [e])), h]
  · rw [if_neg h, if_neg (fun e => h (by rw [e]))]
def get : Tr α → Nat → Option α
  | ⟨lo, hi, big⟩, k => match Nat.blt k 256 with
    | true => get2 lo k
    | false => match Nat.blt k 65536 with
      | true => get4 hi k
      | false => big.get k
def set (x : α) : Tr α → Nat → Tr α
  | ⟨lo, hi, big⟩, k => match Nat.blt k 256 with
    | true => ⟨set2 x lo k, hi, big⟩
    | false => match Nat.blt k 65536 with
      | true => ⟨lo, set4 x hi k, big⟩
      | false => ⟨lo, hi, big.set x k⟩
def e : Tr α := ⟨.rep (.rep none), .rep (.rep (.rep (.rep none))), .e⟩
@[simp] theorem get_e (k : Nat) : (Tr.e : Tr α).get k = none := by
  show (match Nat.blt k 256 with | true => get2 (.rep (.rep none)) k | false => match Nat.blt k 65536 with | true => get4 (.rep (.rep (.rep (.rep none)))) k | false => (Tb.e : Tb α).get k) = none
  unfold get4 get2
  split
  · simp only [N16.get_rep]
  · split
    · simp only [N16.get_rep]
    · exact Tb.get_e k
theorem get_set (x : α) (t : Tr α) (k j : Nat) : (t.set x k).get j = if j = k then some x else t.get j := by
  have b : ∀ a n : Nat, Nat.blt a n = true ↔ a < n := fun a n => ⟨Nat.le_of_ble_eq_true, Nat.ble_eq_true_of_le⟩
  have nb : ∀ a n : Nat, Nat.blt a n = false ↔ ¬ a < n := fun a n => by
    rw [← b]; cases Nat.blt a n <;> simp
  obtain ⟨lo, hi, big⟩ := t
  have gl : ∀ (l : N16 (N16 (Option α))) (h : N16 (N16 (N16 (N16 (Option α))))) (g : Tb α), get ⟨l, h, g⟩ j = if j < 256 then get2 l j else if j < 65536 then get4 h j else g.get j := by
    intro l h g
    show (match Nat.blt j 256 with | true => get2 l j | false => match Nat.blt j 65536 with | true => get4 h j | false => g.get j) = _
    by_cases hj : j < 256
    · rw [(b j 256).2 hj, if_pos hj]
    · rw [(nb j 256).2 hj, if_neg hj]
      by_cases hj2 : j < 65536
      · rw [(b j 65536).2 hj2, if_pos hj2]
      · rw [(nb j 65536).2 hj2, if_neg hj2]
  have sl : set x ⟨lo, hi, big⟩ k = if k < 256 then ⟨set2 x lo k, hi, big⟩ else if k < 65536 then ⟨lo, set4 x hi k, big⟩ else ⟨lo, hi, big.set x k⟩ := by
    show (match Nat.blt k 256 with | true => (⟨set2 x lo k, hi, big⟩ : Tr α) | false => match Nat.blt k 65536 with | true => ⟨lo, set4 x hi k, big⟩ | false => ⟨lo, hi, big.set x k⟩) = _
    by_cases hk : k < 256
    · rw [(b k 256).2 hk, if_pos hk]
    · rw [(nb k 256).2 hk, if_neg hk]
      by_cases hk2 : k < 65536
      · rw [(b k 65536).2 hk2, if_pos hk2]
      · rw [(nb k 65536).2 hk2, if_neg hk2]
  rw [sl, gl]
  by_cases hk : k < 256
  · rw [if_pos hk, gl]
    by_cases hj : j < 256
    · rw [if_pos hj, if_pos hj]; exact get_set2 x _ hk hj
    · rw [if_neg hj, if_neg hj, if_neg (show ¬ j = k by omega)]
  · rw [if_neg hk]
    by_cases hk2 : k < 65536
    · rw [if_pos hk2, gl]
      by_cases hj : j < 256
      · rw [if_pos hj, if_pos hj, if_neg (show ¬ j = k by omega)]
      · rw [if_neg hj, if_neg hj]
        by_cases hj2 : j < 65536
        · rw [if_pos hj2, if_pos hj2]; exact get_set4 x _ hk2 hj2
        · rw [if_neg hj2, if_neg hj2, if_neg (show ¬ j = k by omega)]
    · rw [if_neg hk2, gl]
      by_cases hj : j < 256
      · rw [if_pos hj, if_pos hj, if_neg (show ¬ j = k by omega)]
      · rw [if_neg hj, if_neg hj]
        by_cases hj2 : j < 65536
        · rw [if_pos hj2, if_pos hj2, if_neg (show ¬ j = k by omega)]
        · rw [if_neg hj2, if_neg hj2]; exact Tb.get_set x _ k j
theorem set2_set2 (x y : α) (t : N16 (N16 (Option α))) (k : Nat) : set2 y (set2 x t k) k = set2 y t k := by
  unfold set2
  rw [N16.set_set, N16.get_set, if_pos rfl, N16.set_set]
theorem set4_set4 (x y : α) (t : N16 (N16 (N16 (N16 (Option α))))) (k : Nat) : set4 y (set4 x t k) k = set4 y t k := by
  unfold set4
  rw [N16.set_set, N16.get_set, if_pos rfl, N16.set_set, N16.get_set, if_pos rfl, set2_set2]
theorem set_set (x y : α) (t : Tr α) (k : Nat) (hk : k < 65536) : (t.set x k).set y k = t.set y k := by
  obtain ⟨lo, hi, big⟩ := t
  show set y (match Nat.blt k 256 with | true => (⟨set2 x lo k, hi, big⟩ : Tr α) | false => match Nat.blt k 65536 with | true => ⟨lo, set4 x hi k, big⟩ | false => ⟨lo, hi, big.set x k⟩) k = (match Nat.blt k 256 with | true => (⟨set2 y lo k, hi, big⟩ : Tr α) | false => match Nat.blt k 65536 with | true => ⟨lo, set4 y hi k, big⟩ | false => ⟨lo, hi, big.set y k⟩)
  have hb : Nat.blt k 65536 = true := Nat.ble_eq_true_of_le hk
  cases h : Nat.blt k 256 with
  | true =>
    show (match Nat.blt k 256 with | true => (⟨set2 y (set2 x lo k) k, hi, big⟩ : Tr α) | false => match Nat.blt k 65536 with | true => ⟨set2 x lo k, set4 y hi k, big⟩ | false => ⟨set2 x lo k, hi, big.set y k⟩) = _
    rw [h]
    show (⟨set2 y (set2 x lo k) k, hi, big⟩ : Tr α) = _
    rw [set2_set2]
  | false =>
    rw [hb]
    show (match Nat.blt k 256 with | true => (⟨set2 y lo k, set4 x hi k, big⟩ : Tr α) | false => match Nat.blt k 65536 with | true => ⟨lo, set4 y (set4 x hi k) k, big⟩ | false => ⟨lo, set4 x hi k, big.set y k⟩) = _
    rw [h, hb]
    show (⟨lo, set4 y (set4 x hi k) k, big⟩ : Tr α) = _
    rw [set4_set4]
@[simp] theorem get_set_same (x : α) (t : Tr α) (k : Nat) : (t.set x k).get k = some x := by rw [get_set, if_pos rfl]
theorem get_set_ne (x : α) (t : Tr α) {k j : Nat} (h : j ≠ k) : (t.set x k).get j = t.get j := by rw [get_set, if_neg h]
end Tr
inductive AV where
  | bool (b : Bool)
  | int (k : IntKind) (n : Int)
  | str (s : List Nat)
  | ptr (b off : Nat)
  | nilp
  | slice (b off len cap es : Nat)
  | nils
  | map (b : Nat)
  | nilm
  | func (fn : Fn) (first captured : List AV)
  | nilf
  | yld (l : Nat)
  | iface (t : Nat) (v : AV)
  | nili
  | agg (l : List AV)
  | tuple (l : List AV)
  deriving Inhabited
structure Img where
  blk : Nat
  off : Nat
  room : Nat
  deriving DecidableEq
abbrev Bmap := Nat → Option Img
mutual
def VRel (β : Bmap) : AV → Value → Prop
  | .bool b, v => v = .bool b
  | .int k n, v => v = .int k n
  | .str s, v => ∃ B : ByteArray, v = .string B ∧ B.data.toList.map UInt8.toNat = s
  | .ptr b off, v => ∃ im, β b = some im ∧ v = .pointer (some ⟨im.blk, im.off + off, none⟩)
  | .nilp, v => v = .pointer none
  | .slice b off len cap es, v => ∃ im, β b = some im ∧ ∃ cap' o, v = .slice (some o) len cap' ∧ (o = ⟨im.blk, im.off + off, none⟩ ∨ cap' = 0) ∧ cap ≤ cap' ∧ len ≤ cap' ∧ off + cap' * es ≤ im.room
  | .nils, v => v = .slice none 0 0
  | .map b, v => ∃ im, β b = some im ∧ v = .map (some im.blk)
  | .nilm, v => v = .map none
  | .func fn first captured, v => ∃ f c : List Value, LRel β first f ∧ LRel β captured c ∧ v = .func fn f.toArray c.toArray
  | .nilf, v => v = .nilFunc
  | .yld l, v => ∃ im, β l = some im ∧ v = .func (.yield im.blk) #[] #[]
  | .iface t x, v => ∃ y, VRel β x y ∧ v = .iface t y
  | .nili, v => v = .nilIface
  | .agg l, v => ∃ c : List Value, LRel β l c ∧ v = .agg c.toArray
  | .tuple l, v => ∃ c : List Value, LRel β l c ∧ v = .tuple c.toArray
def LRel (β : Bmap) : List AV → List Value → Prop
  | [], l => l = []
  | x :: xs, l => ∃ y ys, l = y :: ys ∧ VRel β x y ∧ LRel β xs ys
end
def Ext (β β' : Bmap) : Prop := ∀ b im, β b = some im → β' b = some im
theorem Ext.refl (β : Bmap) : Ext β β := fun _ _ h => h
theorem Ext.trans {a b c : Bmap} (h : Ext a b) (k : Ext b c) : Ext a c := fun x im hx => k x im (h x im hx)
mutual
theorem VRel.mono {β β' : Bmap} (h : Ext β β') : ∀ {a : AV} {v : Value}, VRel β a v → VRel β' a v
  | .bool _, _, hv => hv
  | .int _ _, _, hv => hv
  | .str _, _, hv => hv
  | .ptr b off, _, hv => by simp only [VRel] at *; obtain ⟨im, hb, e⟩ := hv; exact ⟨im, h _ _ hb, e⟩
  | .nilp, _, hv => hv
  | .slice .., _, hv => by simp only [VRel] at *; obtain ⟨im, hb, e⟩ := hv; exact ⟨im, h _ _ hb, e⟩
  | .nils, _, hv => hv
  | .map _, _, hv => by simp only [VRel] at *; obtain ⟨im, hb, e⟩ := hv; exact ⟨im, h _ _ hb, e⟩
  | .nilm, _, hv => hv
  | .func _ _ _, _, hv => by
    simp only [VRel] at *; obtain ⟨f, c, hf, hc, e⟩ := hv; exact ⟨f, c, LRel.mono h hf, LRel.mono h hc, e⟩
  | .nilf, _, hv => hv
  | .yld _, _, hv => by simp only [VRel] at *; obtain ⟨im, hb, e⟩ := hv; exact ⟨im, h _ _ hb, e⟩
  | .iface _ _, _, hv => by simp only [VRel] at *; obtain ⟨y, hy, e⟩ := hv; exact ⟨y, VRel.mono h hy, e⟩
  | .nili, _, hv => hv
  | .agg _, _, hv => by simp only [VRel] at *; obtain ⟨c, hc, e⟩ := hv; exact ⟨c, LRel.mono h hc, e⟩
  | .tuple _, _, hv => by simp only [VRel] at *; obtain ⟨c, hc, e⟩ := hv; exact ⟨c, LRel.mono h hc, e⟩
theorem LRel.mono {β β' : Bmap} (h : Ext β β') : ∀ {l : List AV} {c : List Value}, LRel β l c → LRel β' l c
  | [], _, hv => hv
  | _ :: _, _, hv => by simp only [LRel] at *; obtain ⟨y, ys, e, h1, h2⟩ := hv; exact ⟨y, ys, e, VRel.mono h h1, LRel.mono h h2⟩
end
theorem LRel.length {β : Bmap} : ∀ {l : List AV} {c : List Value}, LRel β l c → c.length = l.length
  | [], _, h => by simp only [LRel] at h; subst h; rfl
  | _ :: _, _, h => by simp only [LRel] at h; obtain ⟨y, ys, rfl, _, h2⟩ := h; simp [LRel.length h2]
theorem LRel.get {β : Bmap} : ∀ {l : List AV} {c : List Value}, LRel β l c → ∀ {i : Nat} {x : AV}, l[i]? = some x → ∃ y, c[i]? = some y ∧ VRel β x y
  | [], _, _, i, x, hx => by simp at hx
  | _ :: l, _, h, i, x, hx => by
    simp only [LRel] at h; obtain ⟨y, ys, rfl, h1, h2⟩ := h
    cases i with
    | zero => simp at hx; subst hx; exact ⟨y, by simp, h1⟩
    | succ i => simp at hx; obtain ⟨z, hz, hr⟩ := LRel.get h2 hx; exact ⟨z, by simpa using hz, hr⟩
theorem LRel.append {β : Bmap} : ∀ {l l' : List AV} {c c' : List Value}, LRel β l c → LRel β l' c' → LRel β (l ++ l') (c ++ c')
  | [], _, _, _, h, h' => by simp only [LRel] at h; subst h; simpa using h'
  | _ :: l, _, _, _, h, h' => by
    simp only [LRel] at h; obtain ⟨y, ys, rfl, h1, h2⟩ := h
    simp only [List.cons_append, LRel]; exact ⟨y, _, rfl, h1, LRel.append h2 h'⟩
theorem LRel.of_get {β : Bmap} : ∀ {l : List AV} {c : List Value}, c.length = l.length → (∀ (i : Nat) (x : AV), l[i]? = some x → ∃ y, c[i]? = some y ∧ VRel β x y) → LRel β l c
  | [], c, h, _ => by simp only [LRel]; exact List.length_eq_zero_iff.1 h
  | x :: l, c, h, hx => by
    cases c with
    | nil => simp at h
    | cons y ys =>
      simp only [LRel]
      refine ⟨y, ys, rfl, ?_, LRel.of_get (by simpa using h) fun i z hz => ?_⟩
      · obtain ⟨y', hy, hr⟩ := hx 0 x (by simp); simp at hy; subst hy; exact hr
      · obtain ⟨y', hy, hr⟩ := hx (i + 1) z (by simpa using hz); exact ⟨y', by simpa using hy, hr⟩
theorem LRel.take {β : Bmap} {l : List AV} {c : List Value} (h : LRel β l c) (n : Nat) : LRel β (l.take n) (c.take n) := by
  refine LRel.of_get (by simp [LRel.length h]) fun i x hx => ?_
  rw [List.getElem?_take] at hx ⊢
  split at hx
  · rename_i hi; rw [if_pos hi]; exact h.get hx
  · cases hx
theorem LRel.drop {β : Bmap} {l : List AV} {c : List Value} (h : LRel β l c) (n : Nat) : LRel β (l.drop n) (c.drop n) := by
  refine LRel.of_get (by simp [LRel.length h]) fun i x hx => ?_
  rw [List.getElem?_drop] at hx ⊢
  exact h.get hx
def AV.one : AV → Bool
  | .agg _ => false
  | .tuple _ => false
  | _ => true
def AV.cells : AV → List AV
  | .agg l => l
  | v => [v]
theorem VRel.cells {β : Bmap} {a : AV} {v : Value} (h : VRel β a v) : LRel β a.cells v.cells.toList := by
  cases a <;> simp only [VRel, AV.cells] at *
  case agg l => obtain ⟨c, hc, rfl⟩ := h; simpa [Value.cells] using hc
  all_goals first
    | (subst h; simp [LRel, VRel, Value.cells])
    | (obtain ⟨x, h⟩ := h; simp only [LRel, VRel])
  all_goals skip
  case str => obtain ⟨rfl, h⟩ := h; exact ⟨_, [], by simp [Value.cells], ⟨x, rfl, h⟩, rfl⟩
  case ptr => obtain ⟨hb, rfl⟩ := h; exact ⟨_, [], by simp [Value.cells], ⟨x, hb, rfl⟩, rfl⟩
  case slice => obtain ⟨hb, c, o, rfl, h⟩ := h; exact ⟨_, [], by simp [Value.cells], ⟨x, hb, c, o, rfl, h⟩, rfl⟩
  case map => obtain ⟨hb, rfl⟩ := h; exact ⟨_, [], by simp [Value.cells], ⟨x, hb, rfl⟩, rfl⟩
  case func => obtain ⟨c, hf, hc, rfl⟩ := h; exact ⟨_, [], by simp [Value.cells], ⟨x, c, hf, hc, rfl⟩, rfl⟩
  case iface => obtain ⟨hy, rfl⟩ := h; exact ⟨_, [], by simp [Value.cells], ⟨x, hy, rfl⟩, rfl⟩
  case yld => obtain ⟨hb, rfl⟩ := h; exact ⟨_, [], by simp [Value.cells], ⟨x, hb, rfl⟩, rfl⟩
  case tuple => obtain ⟨hy, rfl⟩ := h; exact ⟨_, [], by simp [Value.cells], ⟨x, hy, rfl⟩, rfl⟩
theorem VRel.one {β : Bmap} {a : AV} {v : Value} (h : VRel β a v) (ha : a.one = true) : v.oneCell' = true := by
  cases a <;> simp only [VRel, AV.one] at * <;> first | (subst h; rfl) | cases ha | skip
  case str => obtain ⟨x, rfl, h⟩ := h; rfl
  case ptr => obtain ⟨x, hb, rfl⟩ := h; rfl
  case slice => obtain ⟨x, hb, c, o, rfl, h⟩ := h; rfl
  case map => obtain ⟨x, hb, rfl⟩ := h; rfl
  case func => obtain ⟨x, c, hf, hc, rfl⟩ := h; rfl
  case iface => obtain ⟨x, hy, rfl⟩ := h; rfl
  case yld => obtain ⟨x, hb, rfl⟩ := h; rfl
inductive Rnd where
  | tmp (t : Nat)
  | con (v : AV)
  | fn (f : Nat)
inductive KK where
  | int | str | ptr
  | struct (ints : List Bool)
inductive BTag where
  | num | bool | ptr | sl | mp | fn | ifc
  | st (ints : List Bool)
inductive AOp where
  | mv (x : Rnd)
  | pick (c a b : Rnd)
  | alloc (elem : Nat) (zero : List AV)
  | box (elem : Nat) (x : Rnd)
  | build (zero : List AV) (parts : List (Nat × Nat × Rnd))
  | buildSlice (elem len es : Nat) (zero : List AV) (parts : List (Nat × Nat × Rnd))
  | load1 (a : Rnd)
  | loadN (n : Nat) (a : Rnd)
  | store (n : Nat) (a x : Rnd)
  | nilck (x : Rnd)
  | bin (g : BTag) (op : BinOp) (x y : Rnd)
  | un (op : UnOp) (x : Rnd)
  | toInt (k : IntKind) (x : Rnd)
  | toStr (x : Rnd)
  | runeStr (x : Rnd)
  | toBytes (elem : Nat) (x : Rnd)
  | strId (x : Rnd)
  | ptrUs (x : Rnd)
  | usPtr (oks : List (Nat × Nat)) (x : Rnd)
  | mkIface (t : Nat) (x : Rnd)
  | mkFunc (f : Fn) (first cap : List Rnd)
  | mkMap
  | mkSlice (elem es bytes : Nat) (zero : List AV) (len cap : Rnd)
  | cutStr (x : Rnd) (lo hi : Option Rnd)
  | cutSl (es : Nat) (x : Rnd) (lo hi mx : Option Rnd)
  | cutArr (n es : Nat) (x : Rnd) (lo hi : Option Rnd)
  | fieldAddr (off : Nat) (x : Rnd)
  | field (agg : Bool) (off size : Nat) (x : Rnd)
  | idxArr (len es : Nat) (x i : Rnd)
  | idxSl (es : Nat) (x i : Rnd)
  | idxStr (x i : Rnd)
  | idxAgg (agg : Bool) (len es : Nat) (x i : Rnd)
  | lookup (kk : KK) (zero : AV) (ok : Bool) (m k : Rnd)
  | mapUpd (kk : KK) (m k v : Rnd)
  | mapEnt (kk : KK) (zero : AV) (m k : Rnd)
  | entSt (m s v : Rnd)
  | rangeMap (x : Rnd)
  | rangeStr (x : Rnd)
  | nextMap (it : Rnd)
  | nextStr (it : Rnd)
  | entry (it : Rnd)
  | extract (i : Nat) (x : Rnd)
  | len (g : BTag) (x : Rnd)
  | lenC (n : Nat)
  | app (elem es bytes : Nat) (zero : List AV) (s x : Rnd)
  | copy (es : Nat) (d s : Rnd)
  | minI (x y : Rnd)
  | maxI (x y : Rnd)
  | clearSl (es : Nat) (zero : List AV) (x : Rnd)
  | delete (kk : KK) (m k : Rnd)
  | usData (x : Rnd)
  | usStr (elem : Nat) (x n : Rnd)
  | recov
  | call (f : Rnd) (args : List Rnd)
  | defer (f : Rnd) (args : List Rnd)
  | bad
structure AOper where
  op : AOp
  dst : Option Nat
  guard : Option (Nat × Bool)
inductive AOut where
  | normal
  | exit (id : Nat)
  | ret
inductive ACode where
  | skip
  | region (ops : List AOper)
  | draw (ops : List AOper) (un : List (List Nat))
  | seq (a b : ACode)
  | cond (c : Rnd) (a b : ACode)
  | block (id : Nat) (c : ACode)
  | loop (c : ACode)
  | scope (c : ACode)
  | exit (id : Nat)
  | ret
  | range (n : Nat) (f : Rnd) (params : List Nat) (assign body : ACode)
  | bad
end Go.RI
namespace Go.RI
inductive AObj where
  | cells (elem : Nat × Bool) (l : List (Option AV)) (fz : Nat) (kin : Option Nat)
  | map (es : List (AV × AV × Nat)) (clock : Nat)
  | miter (m : Option Nat) (since : Nat) (seen : List Nat) (stepped : Nat)
  | siter (s : List Nat) (pos : Nat)
  | loop (state : LoopState) (pend : Option AOut) (fn : Nat) (tm : Tr AV) (params : List Nat) (assign body : ACode) (defers : Nat)
  | dfr (taken : Bool)
  | dead
class Cx where
  rel : Nat → ACode → Code → Prop
variable [cx : Cx]
def undefA : AV := .tuple []
def TRel (β : Bmap) (tm : Tr AV) (a : Array Value) : Prop :=
  ∀ t, VRel β (match tm.get t with | some v => v | none => undefA) (a.getD t undef)
omit cx in
theorem TRel.mono {β β' : Bmap} (h : Ext β β') {tm : Tr AV} {a : Array Value} (ht : TRel β tm a) : TRel β' tm a := fun t => (ht t).mono h
def outCode : Option AOut → Option Code → Prop
  | none, c => c = none
  | some .normal, _ => False
  | some (.exit id), c => c = some (.exit id)
  | some .ret, c => c = some .ret
def AObj.kin : AObj → Option Nat
  | .cells _ _ _ k => k
  | _ => none
structure St where
  heap : Tr AObj
  next : Nat
  thr : Nat
  log : List Nat
def ERel (β : Bmap) : List (AV × AV × Nat) → List MapEntry → Prop
  | [], l => l = []
  | (k, v, n) :: es, l => ∃ e r, l = e :: r ∧ VRel β k e.key ∧ VRel β v e.val ∧ e.born = n ∧ ERel β es r
omit cx in
theorem ERel.mono {β β' : Bmap} (h : Ext β β') : ∀ {es : List (AV × AV × Nat)} {l : List MapEntry}, ERel β es l → ERel β' es l
  | [], _, he => he
  | (_, _, _) :: _, _, he => by
    simp only [ERel] at *; obtain ⟨e, r, rfl, h1, h2, h3, h4⟩ := he; exact ⟨e, r, rfl, h1.mono h, h2.mono h, h3, ERel.mono h h4⟩
def ORel (β : Bmap) (w : World) : AObj → Img → Prop
  | .cells elem l fz _, im => ∃ c fr, w.heap[im.blk]? = some (.cells c elem.1 fr) ∧ c.size = im.off + im.room ∧ l.length ≤ im.room ∧
      (∀ (i : Nat) (v : AV), l[i]? = some (some v) → ∃ x, c[im.off + i]? = some x ∧ VRel β v x) ∧
      (∀ i, fz ≤ i → i < im.room → ¬ (fr.1 ≤ im.off + i ∧ im.off + i < fr.2)) ∧ (fz = 0 → fr = (0, 0)) ∧ (elem.2 = true → im.off = 0)
  | .map es clock, im => im.off = 0 ∧ ∃ ces, w.heap[im.blk]? = some (.map ces clock) ∧ ERel β es ces.toList
  | .miter m since seen stepped, im => im.off = 0 ∧ ∃ r, w.heap[im.blk]? = some (.mapIter r since seen.toArray stepped) ∧
      (match m with | none => r = none | some b => ∃ jm, β b = some jm ∧ r = some jm.blk)
  | .siter s pos, im => im.off = 0 ∧ ∃ B : ByteArray, w.heap[im.blk]? = some (.stringIter B pos) ∧ B.data.toList.map UInt8.toNat = s
  | .loop state pend fn tm params assign body defers, im => im.off = 0 ∧ ∃ r : Loop, w.heap[im.blk]? = some (.loop r) ∧ r.state = state ∧ outCode pend r.pending ∧ fn ≤ r.tmps.size ∧
      TRel β tm r.tmps ∧ r.params = params.toArray ∧ Cx.rel fn assign r.assign ∧ Cx.rel fn body r.body ∧ ∃ jm, β defers = some jm ∧ r.defers = jm.blk
  | .dfr taken, im => im.off = 0 ∧ w.heap[im.blk]? = some (.deferred (if taken then none else some []))
  | .dead, _ => True
theorem ORel.mono {β β' : Bmap} (h : Ext β β') {w w' : World} {o : AObj} {im : Img} (hw : w'.heap[im.blk]? = w.heap[im.blk]?) (ho : ORel β w o im) : ORel β' w' o im := by
  cases o with
  | cells e l fz k =>
    simp only [ORel] at *
    obtain ⟨c, fr, h1, h2, h3, h4, h5⟩ := ho
    exact ⟨c, fr, hw.trans h1, h2, h3, fun i v hi => by obtain ⟨x, hx, hr⟩ := h4 i v hi; exact ⟨x, hx, hr.mono h⟩, h5⟩
  | map es cl => simp only [ORel] at *; obtain ⟨h0, c, h1, h2⟩ := ho; exact ⟨h0, c, hw.trans h1, h2.mono h⟩
  | miter m s se st =>
    simp only [ORel] at *; obtain ⟨h0, r, h1, h2⟩ := ho
    refine ⟨h0, r, hw.trans h1, ?_⟩
    cases m with
    | none => exact h2
    | some b => obtain ⟨jm, hj, e⟩ := h2; exact ⟨jm, h _ _ hj, e⟩
  | siter s p => simp only [ORel] at *; obtain ⟨h0, B, h1, h2⟩ := ho; exact ⟨h0, B, hw.trans h1, h2⟩
  | loop state pend fn tm params assign body defers =>
    simp only [ORel] at *
    obtain ⟨h0, r, h1, h2, h3, h4, h5, h6, h7, h8, jm, h9, h10⟩ := ho
    exact ⟨h0, r, hw.trans h1, h2, h3, h4, h5.mono h, h6, h7, h8, jm, h _ _ h9, h10⟩
  | dfr t => simp only [ORel] at *; exact ⟨ho.1, hw.trans ho.2⟩
  | dead => trivial
structure Rel (β : Bmap) (st : St) (w : World) : Prop where
  obj : ∀ b o im, st.heap.get b = some o → β b = some im → ORel β w o im
  lt : ∀ b im, β b = some im → b < st.next ∧ im.blk < w.heap.size
  sep : ∀ b1 b2 o1 o2 im1 im2, b1 ≠ b2 → st.heap.get b1 = some o1 → st.heap.get b2 = some o2 → β b1 = some im1 → β b2 = some im2 →
    im1.blk = im2.blk → o1 ≠ .dead → o2 ≠ .dead → (o1.kin = some b2 ∧ o2.kin = some b1 ∧ im1 = im2)
  thr_le : st.thr ≤ st.next
theorem Rel.congr {β : Bmap} {st st' : St} {w : World} (h : Rel β st w) (hh : ∀ b, st'.heap.get b = st.heap.get b) (hn : st'.next = st.next) (ht : st'.thr ≤ st'.next) : Rel β st' w where
  obj := fun b o im h1 h2 => h.obj b o im (by rw [← hh]; exact h1) h2
  lt := fun b im hb => by rw [hn]; exact h.lt b im hb
  sep := fun b1 b2 o1 o2 im1 im2 hne q1 q2 => h.sep b1 b2 o1 o2 im1 im2 hne (by rw [← hh]; exact q1) (by rw [← hh]; exact q2)
  thr_le := ht
def Gone : Option AObj → Prop
  | none => True
  | some .dead => True
  | _ => False
omit cx in
theorem not_gone {o : Option AObj} {x : AObj} (h : o = some x) (hx : x ≠ .dead) : ¬ Gone o := by
  subst h; cases x <;> first | exact absurd rfl hx | exact fun h => h
def Stays (st st' : St) : Prop := ∀ b, b < st.next → Gone (st.heap.get b) → Gone (st'.heap.get b)
omit cx in
theorem Stays.refl (st : St) : Stays st st := fun _ _ h => h
omit cx in
theorem Stays.trans {a b c : St} (hn : a.next ≤ b.next) (h : Stays a b) (k : Stays b c) : Stays a c := fun x hx hg => k x (Nat.lt_of_lt_of_le hx hn) (h x hx hg)
structure FrameC (thr : Nat) (log : List Nat) (β' : Bmap) (w w' : World) : Prop where
  os : w'.os = w.os
  tape : w'.tape = w.tape
  output : w'.output = w.output
  size : w.heap.size ≤ w'.heap.size
  blk : ∀ k, k < w.heap.size → (∀ b im, β' b = some im → im.blk = k → b < thr ∧ b ∉ log) → w'.heap[k]? = w.heap[k]?
structure Post (β : Bmap) (st : St) (w : World) (β' : Bmap) (st' : St) (w' : World) : Prop where
  ext : Ext β β'
  old : ∀ b, b < st.next → β' b = β b
  rel : Rel β' st' w'
  next : st.next ≤ st'.next
  thr : st'.thr = st.thr
  log : ∀ b, b ∈ st.log → b ∈ st'.log
  frame : FrameC st.thr st'.log β' w w'
  stays : Stays st st'
  hold : ∀ b im, st.next ≤ b → β' b = some im → im.blk < w.heap.size → ∃ b0 im0, β b0 = some im0 ∧ im0.blk = im.blk ∧ ¬ Gone (st.heap.get b0) ∧ (b0 ∈ st'.log ∨ st.thr ≤ b0)
theorem Post.refl {β : Bmap} {st : St} {w : World} (h : Rel β st w) : Post β st w β st w :=
  ⟨Ext.refl _, fun _ _ => rfl, h, Nat.le_refl _, rfl, fun _ h => h, ⟨rfl, rfl, rfl, Nat.le_refl _, fun _ _ _ => rfl⟩, Stays.refl _,
    fun b im hb hi _ => absurd (h.lt _ _ hi).1 (Nat.not_lt.2 hb)⟩
theorem Post.trans {β β1 β2 : Bmap} {st st1 st2 : St} {w w1 w2 : World} (h : Post β st w β1 st1 w1) (k : Post β1 st1 w1 β2 st2 w2) : Post β st w β2 st2 w2 where
  ext := h.ext.trans k.ext
  old := fun b hb => (k.old b (Nat.lt_of_lt_of_le hb h.next)).trans (h.old b hb)
  rel := k.rel
  next := Nat.le_trans h.next k.next
  thr := k.thr.trans h.thr
  log := fun b hb => k.log b (h.log b hb)
  frame := by
    refine ⟨k.frame.os.trans h.frame.os, k.frame.tape.trans h.frame.tape, k.frame.output.trans h.frame.output, Nat.le_trans h.frame.size k.frame.size, fun j hj hb => ?_⟩
    have h1 := k.frame.blk j (Nat.lt_of_lt_of_le hj h.frame.size) (fun b im hbi e => by rw [h.thr]; exact hb b im hbi e)
    refine h1.trans (h.frame.blk j hj fun b im hbi e => ?_)
    obtain ⟨h2, h3⟩ := hb b im (k.ext b im hbi) e
    exact ⟨h2, fun h4 => h3 (k.log b h4)⟩
  stays := h.stays.trans h.next k.stays
  hold := fun b im hb hi hs => by
    have first : ∀ b im, st.next ≤ b → β1 b = some im → im.blk < w.heap.size → ∃ b0 im0, β b0 = some im0 ∧ im0.blk = im.blk ∧ ¬ Gone (st.heap.get b0) ∧ (b0 ∈ st2.log ∨ st.thr ≤ b0) := fun b im q1 q2 q3 => by
      obtain ⟨b0, im0, r1, r2, r3, r4⟩ := h.hold b im q1 q2 q3
      exact ⟨b0, im0, r1, r2, r3, r4.imp (k.log b0) id⟩
    rcases Nat.lt_or_ge b st1.next with hlt | hge
    · exact first b im hb (by rw [← k.old b hlt]; exact hi) hs
    · obtain ⟨b1, im1, e1, e2, e3, e4⟩ := k.hold b im hge hi (Nat.lt_of_lt_of_le hs h.frame.size)
      rcases Nat.lt_or_ge b1 st.next with hl1 | hg1
      · exact ⟨b1, im1, by rw [← h.old b1 hl1]; exact e1, e2, fun hgn => e3 (h.stays b1 hl1 hgn), by rw [h.thr] at e4; exact e4⟩
      · obtain ⟨b0, im0, q1, q2, q3⟩ := first b1 im1 hg1 e1 (by rw [e2]; exact hs)
        exact ⟨b0, im0, q1, q2.trans e2, q3⟩
theorem Rel.drew {β : Bmap} {st : St} {w : World} (h : Rel β st w) : Rel β st w.drew where
  obj := fun b o im h1 h2 => (h.obj b o im h1 h2).mono (Ext.refl _) rfl
  lt := h.lt
  sep := h.sep
  thr_le := h.thr_le
theorem Post.drew {β β' : Bmap} {st st' : St} {w w' : World} (h : Post β st w β' st' w') : Post β st w β' st' w'.drew :=
  ⟨h.ext, h.old, h.rel.drew, h.next, h.thr, h.log, ⟨h.frame.os, h.frame.tape, h.frame.output, h.frame.size, h.frame.blk⟩, h.stays, h.hold⟩
def St.new (st : St) (o : AObj) : St := { st with heap := st.heap.set o st.next, next := Nat.succ st.next }
omit cx in
theorem heap_push_lt (w : World) (o : Obj) (k : Nat) (h : k < w.heap.size) : (w.alloc o).heap[k]? = w.heap[k]? := by
  simp only [World.alloc]; rw [Array.getElem?_push, if_neg (by omega)]
omit cx in
theorem heap_push_new (w : World) (o : Obj) : (w.alloc o).heap[w.heap.size]? = some o := by
  simp only [World.alloc]; rw [Array.getElem?_push, if_pos rfl]
def Bmap.add (β : Bmap) (b : Nat) (im : Img) : Bmap := fun x => if x = b then some im else β x
omit cx in
theorem Bmap.add_same (β : Bmap) (b : Nat) (im : Img) : β.add b im b = some im := by simp [Bmap.add]
omit cx in
theorem Bmap.ext_add {β : Bmap} {b : Nat} (im : Img) (h : β b = none) : Ext β (β.add b im) := fun x jm hx => by
  unfold Bmap.add
  by_cases e : x = b
  · subst e; rw [h] at hx; cases hx
  · rw [if_neg e]; exact hx
theorem Rel.none_next {β : Bmap} {st : St} {w : World} (h : Rel β st w) : β st.next = none := by
  cases e : β st.next with
  | none => rfl
  | some im => exact absurd (h.lt _ _ e).1 (Nat.lt_irrefl _)
omit cx in
theorem Stays.new (st : St) (o : AObj) : Stays st (st.new o) := fun b hb hg => by
  simp only [St.new]; rw [Tr.get_set_ne _ _ (by omega)]; exact hg
theorem Rel.allocW {β : Bmap} {st : St} {w w1 : World} (h : Rel β st w) (o : AObj) (im : Img) (hb : im.blk = w.heap.size) (hw : ∀ k, k < w.heap.size → w1.heap[k]? = w.heap[k]?)
    (hs : w.heap.size < w1.heap.size) (hos : w1.os = w.os) (htp : w1.tape = w.tape) (hot : w1.output = w.output)
    (ho : ORel (β.add st.next im) w1 o im) : Post β st w (β.add st.next im) (st.new o) w1 where
  ext := Bmap.ext_add im h.none_next
  old := fun b hb => by unfold Bmap.add; rw [if_neg (by omega)]
  rel := by
    have hext := Bmap.ext_add im h.none_next
    constructor
    · intro b o' jm hg hi
      by_cases e : b = st.next
      · subst e
        simp only [St.new, Tr.get_set_same, Option.some.injEq] at hg
        rw [Bmap.add_same] at hi; cases hi; subst hg; exact ho
      · simp only [St.new, Tr.get_set_ne _ _ e] at hg
        simp only [Bmap.add, if_neg e] at hi
        exact (h.obj b o' jm hg hi).mono hext (hw _ (h.lt _ _ hi).2)
    · intro b jm hi
      by_cases e : b = st.next
      · subst e; rw [Bmap.add_same] at hi; cases hi; rw [hb]; exact ⟨Nat.lt_succ_self _, hs⟩
      · simp only [Bmap.add, if_neg e] at hi
        have := h.lt _ _ hi
        exact ⟨Nat.lt_succ_of_lt this.1, Nat.lt_trans this.2 hs⟩
    · intro b1 b2 o1 o2 im1 im2 hne g1 g2 i1 i2 hblk d1 d2
      by_cases e1 : b1 = st.next
      · subst e1
        rw [Bmap.add_same] at i1; cases i1
        simp only [Bmap.add, if_neg (Ne.symm hne)] at i2
        have := (h.lt _ _ i2).2; omega
      · by_cases e2 : b2 = st.next
        · subst e2
          rw [Bmap.add_same] at i2; cases i2
          simp only [Bmap.add, if_neg e1] at i1
          have := (h.lt _ _ i1).2; omega
        · simp only [Bmap.add, if_neg e1, if_neg e2] at i1 i2
          simp only [St.new, Tr.get_set_ne _ _ e1, Tr.get_set_ne _ _ e2] at g1 g2
          exact h.sep b1 b2 o1 o2 im1 im2 hne g1 g2 i1 i2 hblk d1 d2
    · exact Nat.le_succ_of_le h.thr_le
  next := Nat.le_succ _
  thr := rfl
  log := fun _ h => h
  frame := ⟨hos, htp, hot, Nat.le_of_lt hs, fun k hk _ => hw k hk⟩
  stays := Stays.new _ _
  hold := fun b jm hge hi hs' => by
    by_cases e : b = st.next
    · subst e; rw [Bmap.add_same] at hi; cases hi; omega
    · simp only [Bmap.add, if_neg e] at hi
      exact absurd (h.lt _ _ hi).1 (Nat.not_lt.2 hge)
theorem Rel.alloc {β : Bmap} {st : St} {w : World} (h : Rel β st w) (o : AObj) (co : Obj) (im : Img) (hb : im.blk = w.heap.size)
    (ho : ORel (β.add st.next im) (w.alloc co) o im) : Post β st w (β.add st.next im) (st.new o) (w.alloc co) :=
  h.allocW o im hb (fun k hk => heap_push_lt _ _ _ hk) (by simp) rfl rfl rfl ho
theorem Rel.allocCells {β : Bmap} {st : St} {w : World} (h : Rel β st w) (elem : Nat) (l : List AV) (c : List Value) (hl : LRel β l c) (c' : List Value) :
    Post β st w (β.add st.next ⟨w.heap.size, 0, c.length + c'.length⟩) (st.new (.cells (elem, true) (l.map some) 0 none)) (w.alloc (.cells (c ++ c').toArray elem)) := by
  refine h.alloc _ _ _ rfl ?_
  simp only [ORel]
  refine ⟨(c ++ c').toArray, (0, 0), heap_push_new _ _, by simp, by have := hl.length; simp; omega, fun i v hi => ?_, fun i _ _ => by simp, fun _ => rfl, fun _ => by simp⟩
  rw [List.getElem?_map] at hi
  cases hx : l[i]? with
  | none => rw [hx] at hi; simp at hi
  | some x =>
    rw [hx] at hi; simp at hi; subst hi
    obtain ⟨y, hy, hr⟩ := hl.get hx
    refine ⟨y, ?_, hr.mono (Bmap.ext_add _ h.none_next)⟩
    have : i < c.length := (List.getElem?_eq_some_iff.1 hy).1
    simp [List.getElem?_append_left this, hy]
def St.rd (st : St) (b i : Nat) : Option AV :=
  match st.heap.get b with
  | some (.cells _ l _ _) => match l[i]? with
    | some (some v) => some v
    | _ => none
  | _ => none
theorem Rel.rd {β : Bmap} {st : St} {w : World} (h : Rel β st w) {b i : Nat} {v : AV} {im : Img} (hr : st.rd b i = some v) (hb : β b = some im) :
    ∃ x, w.cell? ⟨im.blk, im.off + i, none⟩ = some x ∧ VRel β v x := by
  unfold St.rd at hr
  split at hr
  · rename_i e l fz k hg
    split at hr
    · rename_i u hu
      cases hr
      obtain ⟨c, fr, h1, h2, h3, h4, h5⟩ := h.obj _ _ _ hg hb
      obtain ⟨x, hx, hv⟩ := h4 i v hu
      exact ⟨x, by simp [World.cell?, h1, hx], hv⟩
    · cases hr
  · cases hr
def takeVals : List (Option AV) → Nat → Option (List AV)
  | _, 0 => some []
  | some v :: l, n + 1 => match takeVals l n with
    | some r => some (v :: r)
    | none => none
  | _, _ + 1 => none
omit cx in
theorem takeVals_spec : ∀ {l : List (Option AV)} {n : Nat} {r : List AV}, takeVals l n = some r → r.length = n ∧ ∀ (i : Nat) (v : AV), r[i]? = some v → l[i]? = some (some v)
  | _, 0, r, h => by simp [takeVals] at h; subst h; simp
  | [], n + 1, r, h => by simp [takeVals] at h
  | none :: l, n + 1, r, h => by simp [takeVals] at h
  | some v :: l, n + 1, r, h => by
    simp only [takeVals] at h
    split at h
    · rename_i r' hr'
      cases h
      obtain ⟨h1, h2⟩ := takeVals_spec hr'
      refine ⟨by simp [h1], fun i u hu => ?_⟩
      cases i with
      | zero => simpa using hu
      | succ i => simp at hu ⊢; exact h2 i u hu
    · cases h
def St.rdN (st : St) (b i n : Nat) : Option (List AV) :=
  match st.heap.get b with
  | some (.cells _ l _ _) => takeVals (l.drop i) n
  | _ => none
theorem Rel.rdN {β : Bmap} {st : St} {w : World} (h : Rel β st w) {b i n : Nat} {r : List AV} {im : Img} (hr : st.rdN b i n = some r) (hb : β b = some im) :
    ∃ cs : List Value, cs.length = n ∧ LRel β r cs ∧ ∀ (j : Nat) (v : Value), cs[j]? = some v → w.cell? ⟨im.blk, im.off + i + j, none⟩ = some v := by
  unfold St.rdN at hr
  split at hr
  · rename_i e l fz k hg
    obtain ⟨h1, h2⟩ := takeVals_spec hr
    obtain ⟨c, fr, g1, g2, g3, g4, g5⟩ := h.obj _ _ _ hg hb
    have key : ∀ (j : Nat) (v : AV), r[j]? = some v → ∃ x, c[im.off + i + j]? = some x ∧ VRel β v x := fun j v hj => by
      have := h2 j v hj
      rw [List.getElem?_drop] at this
      rw [Nat.add_assoc]
      exact g4 (i + j) v this
    have hsz : ∀ j, j < n → im.off + i + j < c.size := fun j hj => by
      obtain ⟨v, hv⟩ : ∃ v, r[j]? = some v := ⟨r[j]'(by omega), List.getElem?_eq_getElem (by omega)⟩
      obtain ⟨x, hx, _⟩ := key j v hv
      exact (Array.getElem?_eq_some_iff.1 hx).1
    refine ⟨(List.range n).map fun j => c.getD (im.off + i + j) default, by simp, LRel.of_get (by simp [h1]) fun j v hj => ?_, fun j v hj => ?_⟩
    · have hjn : j < n := by have := (List.getElem?_eq_some_iff.1 hj).1; omega
      obtain ⟨x, hx, hv⟩ := key j v hj
      refine ⟨x, ?_, hv⟩
      simp [List.getElem?_map, List.getElem?_range hjn, hx]
    · rw [List.getElem?_map] at hj
      have hjn : j < n := by
        cases hq : (List.range n)[j]? with
        | none => rw [hq] at hj; simp at hj
        | some z => have := (List.getElem?_eq_some_iff.1 hq).1; simpa using this
      rw [List.getElem?_range hjn] at hj
      simp only [Option.map_some, Option.some.injEq] at hj
      have := hsz j hjn
      simp only [World.cell?, g1]
      rw [← hj]; simp [this]
  · cases hr
end Go.RI
