/- nat: the contracts at the level of numbers below 2^128. -/
import Derived.Test.YtaladbaeplgjgaaX01
set_option linter.unusedSimpArgs false
set_option linter.unusedVariables false
namespace Go.Proofs
open Go.RowKit
def M128 : Nat := 340282366920938463463374607431768211456
/-- The limb i of v. -/
def lb (v : Nat) (i : Nat) : Int := ((v / 4294967296 ^ i % 4294967296 : Nat) : Int)
theorem lb_U (v : Nat) : U32 (lb v) := fun i => by unfold lb; omega
theorem lb0 (v : Nat) : lb v 0 = ((v % 4294967296 : Nat) : Int) := by simp [lb]
theorem lb1 (v : Nat) : lb v 1 = ((v / 4294967296 % 4294967296 : Nat) : Int) := by simp [lb]
theorem lb2 (v : Nat) : lb v 2 = ((v / 18446744073709551616 % 4294967296 : Nat) : Int) := by simp [lb]
theorem lb3 (v : Nat) : lb v 3 = ((v / 79228162514264337593543950336 % 4294967296 : Nat) : Int) := by simp [lb]
theorem val_lb (v : Nat) (h : v < 340282366920938463463374607431768211456) : val4 (lb v) = v := by
  unfold val4; rw [lb0, lb1, lb2, lb3]; omega
theorem c32_of_val {a : Nat → Int} (ha : U32 a) {v : Nat} (h : val4 a = v) : c32 a = c32 (lb v) := by
  have h0 := ha 0; have h1 := ha 1; have h2 := ha 2; have h3 := ha 3
  unfold val4 at h
  have e0 : a 0 = lb v 0 := by rw [lb0]; omega
  have e1 : a 1 = lb v 1 := by rw [lb1]; omega
  have e2 : a 2 = lb v 2 := by rw [lb2]; omega
  have e3 : a 3 = lb v 3 := by rw [lb3]; omega
  unfold c32; rw [e0, e1, e2, e3]
def encN (v : Nat) : Value := .agg (c32 (lb v))
theorem sm_U (a b : Nat → Int) : U32 (sm a b) := fun i => by unfold sm; omega
theorem sm_val {a b : Nat → Int} (ha : U32 a) (hb : U32 b) : val4 (sm a b) + 340282366920938463463374607431768211456 * cy a b 4 = val4 a + val4 b := by
  simp only [val4, sm, cy]; omega
theorem df_U (a b : Nat → Int) : U32 (df a b) := fun i => by unfold df; omega
theorem df_val {a b : Nat → Int} (ha : U32 a) (hb : U32 b) : val4 (df a b) = val4 a - val4 b + 340282366920938463463374607431768211456 * bo a b 4 := by
  have a0 := ha 0; have a1 := ha 1; have a2 := ha 2; have a3 := ha 3
  have b0 := hb 0; have b1 := hb 1; have b2 := hb 2; have b3 := hb 3
  simp only [val4, df, bo]
  by_cases h0 : a 0 < b 0 + 0
  · simp only [h0, if_true]
    by_cases h1 : a 1 < b 1 + 1
    · simp only [h1, if_true]
      by_cases h2 : a 2 < b 2 + 1
      · simp only [h2, if_true]
        by_cases h3 : a 3 < b 3 + 1
        · simp only [h3, if_true]; omega
        · simp only [h3, if_false]; omega
      · simp only [h2, if_false]
        by_cases h3 : a 3 < b 3 + 0
        · simp only [h3, if_true]; omega
        · simp only [h3, if_false]; omega
    · simp only [h1, if_false]
      by_cases h2 : a 2 < b 2 + 0
      · simp only [h2, if_true]
        by_cases h3 : a 3 < b 3 + 1
        · simp only [h3, if_true]; omega
        · simp only [h3, if_false]; omega
      · simp only [h2, if_false]
        by_cases h3 : a 3 < b 3 + 0
        · simp only [h3, if_true]; omega
        · simp only [h3, if_false]; omega
  · simp only [h0, if_false]
    by_cases h1 : a 1 < b 1 + 0
    · simp only [h1, if_true]
      by_cases h2 : a 2 < b 2 + 1
      · simp only [h2, if_true]
        by_cases h3 : a 3 < b 3 + 1
        · simp only [h3, if_true]; omega
        · simp only [h3, if_false]; omega
      · simp only [h2, if_false]
        by_cases h3 : a 3 < b 3 + 0
        · simp only [h3, if_true]; omega
        · simp only [h3, if_false]; omega
    · simp only [h1, if_false]
      by_cases h2 : a 2 < b 2 + 0
      · simp only [h2, if_true]
        by_cases h3 : a 3 < b 3 + 1
        · simp only [h3, if_true]; omega
        · simp only [h3, if_false]; omega
      · simp only [h2, if_false]
        by_cases h3 : a 3 < b 3 + 0
        · simp only [h3, if_true]; omega
        · simp only [h3, if_false]; omega
/-- add: the sum, and what is carried out. -/
theorem add_v (a b : Nat) (w : World) (ha : a < 340282366920938463463374607431768211456) (hb : b < 340282366920938463463374607431768211456) :
    Calls Try.prog 82 #[encN a, encN b] w fun e w' => e = .returned (.tuple #[encN ((a + b) % M128), .int .u64 ((a + b) / M128 : Nat)]) ∧ Below w.heap.size w w' :=
  (add_x (lb a) (lb b) w (lb_U a) (lb_U b)).mono fun e w' ⟨he, hw⟩ => by
    refine ⟨?_, hw⟩
    subst he
    have h := sm_val (lb_U a) (lb_U b)
    rw [val_lb a ha, val_lb b hb] at h
    have hc := cy_bd (lb a) (lb b) (lb_U a) (lb_U b) 4
    have hs : 0 ≤ val4 (sm (lb a) (lb b)) ∧ val4 (sm (lb a) (lb b)) < 340282366920938463463374607431768211456 := by
      have h0 := sm_U (lb a) (lb b) 0; have h1 := sm_U (lb a) (lb b) 1; have h2 := sm_U (lb a) (lb b) 2; have h3 := sm_U (lb a) (lb b) 3
      unfold val4; omega
    rw [c32_of_val (sm_U _ _) (v := (a + b) % M128) (by unfold M128; omega)]
    rw [show cy (lb a) (lb b) 4 = ((a + b) / M128 : Nat) by unfold M128; omega]
    rfl
/-- sub: modulo 2^128. -/
theorem sub_v (a b : Nat) (w : World) (ha : a < 340282366920938463463374607431768211456) (hb : b < 340282366920938463463374607431768211456) :
    Calls Try.prog 99 #[encN a, encN b] w fun e w' => e = .returned (encN ((a + M128 - b) % M128)) ∧ Below w.heap.size w w' :=
  (sub_x (lb a) (lb b) w (lb_U a) (lb_U b)).mono fun e w' ⟨he, hw⟩ => by
    refine ⟨?_, hw⟩
    subst he
    have h := df_val (lb_U a) (lb_U b)
    rw [val_lb a ha, val_lb b hb] at h
    have hc := bo_bd (lb a) (lb b) 4
    have hs : 0 ≤ val4 (df (lb a) (lb b)) ∧ val4 (df (lb a) (lb b)) < 340282366920938463463374607431768211456 := by
      have h0 := df_U (lb a) (lb b) 0; have h1 := df_U (lb a) (lb b) 1; have h2 := df_U (lb a) (lb b) 2; have h3 := df_U (lb a) (lb b) 3
      unfold val4; omega
    rw [c32_of_val (df_U _ _) (v := (a + M128 - b) % M128) (by unfold M128; omega)]
    rfl
def cmpN (a b : Nat) : Int := if a < b then -1 else if b < a then 1 else 0
/-- Cmp. -/
theorem cmp_v (a b : Nat) (w : World) (ha : a < 340282366920938463463374607431768211456) (hb : b < 340282366920938463463374607431768211456) :
    Calls Try.prog 45 #[encN a, encN b] w fun e w' => e = .returned (.int .i64 (cmpN a b)) ∧ Below w.heap.size w w' :=
  (cmp_x (lb a) (lb b) w (lb_U a) (lb_U b)).mono fun e w' ⟨he, hw⟩ => by
    refine ⟨?_, hw⟩
    subst he
    rw [val_lb a ha, val_lb b hb]
    have : cmpI (a : Int) (b : Int) = cmpN a b := by
      unfold cmpI cmpN
      by_cases h : a < b
      · rw [if_pos h, if_pos (by omega)]
      · rw [if_neg h, if_neg (by omega)]
        by_cases h' : b < a
        · rw [if_pos h', if_pos (by omega)]
        · rw [if_neg h', if_neg (by omega)]
    rw [this]
end Go.Proofs

/- nat.mul: the product. -/
namespace Go.Proofs
open Go.RowKit
def V8 (f : Nat → Int) : Int := f 0 + 4294967296 * f 1 + 18446744073709551616 * f 2 + 79228162514264337593543950336 * f 3 + 340282366920938463463374607431768211456 * f 4 + 1461501637330902918203684832716283019655932542976 * f 5 + 6277101735386680763835789423207666416102355444464034512896 * f 6 + 26959946667150639794667015087019630673637144422540572481103610249216 * f 7
theorem mi_val0 (a b f : Nat → Int) : V8 (mi a b 0 f 4).1 + 340282366920938463463374607431768211456 * (mi a b 0 f 4).2 = V8 f + (a 0 * b 0 + 4294967296 * (a 0 * b 1) + 18446744073709551616 * (a 0 * b 2) + 79228162514264337593543950336 * (a 0 * b 3)) := by
  have s0 : (mi a b 0 f 0) = (f, 0) := rfl
  have t : ∀ j, (mi a b 0 f (j + 1)).2 = mx a b 0 j (mi a b 0 f j) / 4294967296 := fun _ => rfl
  have u : ∀ j, (mi a b 0 f (j + 1)).1 = upd (mi a b 0 f j).1 (0 + j) (mx a b 0 j (mi a b 0 f j) % 4294967296) := fun _ => rfl
  have v0 : V8 (mi a b 0 f 1).1 + 4294967296 * (mi a b 0 f 1).2 = V8 (mi a b 0 f 0).1 + 1 * ((mi a b 0 f 0).2 + a 0 * b 0) := by
    rw [t 0, u 0]
    generalize mi a b 0 f 0 = s
    simp only [V8, upd, mx, Nat.reduceAdd, Nat.reduceEqDiff, if_true, if_false, ↓reduceIte, Nat.one_ne_zero, Nat.zero_ne_one]
    omega
  have v1 : V8 (mi a b 0 f 2).1 + 18446744073709551616 * (mi a b 0 f 2).2 = V8 (mi a b 0 f 1).1 + 4294967296 * ((mi a b 0 f 1).2 + a 0 * b 1) := by
    rw [t 1, u 1]
    generalize mi a b 0 f 1 = s
    simp only [V8, upd, mx, Nat.reduceAdd, Nat.reduceEqDiff, if_true, if_false, ↓reduceIte, Nat.one_ne_zero, Nat.zero_ne_one]
    omega
  have v2 : V8 (mi a b 0 f 3).1 + 79228162514264337593543950336 * (mi a b 0 f 3).2 = V8 (mi a b 0 f 2).1 + 18446744073709551616 * ((mi a b 0 f 2).2 + a 0 * b 2) := by
    rw [t 2, u 2]
    generalize mi a b 0 f 2 = s
    simp only [V8, upd, mx, Nat.reduceAdd, Nat.reduceEqDiff, if_true, if_false, ↓reduceIte, Nat.one_ne_zero, Nat.zero_ne_one]
    omega
  have v3 : V8 (mi a b 0 f 4).1 + 340282366920938463463374607431768211456 * (mi a b 0 f 4).2 = V8 (mi a b 0 f 3).1 + 79228162514264337593543950336 * ((mi a b 0 f 3).2 + a 0 * b 3) := by
    rw [t 3, u 3]
    generalize mi a b 0 f 3 = s
    simp only [V8, upd, mx, Nat.reduceAdd, Nat.reduceEqDiff, if_true, if_false, ↓reduceIte, Nat.one_ne_zero, Nat.zero_ne_one]
    omega
  have e0 : (mi a b 0 f 0).2 = 0 := rfl
  have e1 : V8 (mi a b 0 f 0).1 = V8 f := rfl
  omega
theorem mi_val1 (a b f : Nat → Int) : V8 (mi a b 1 f 4).1 + 1461501637330902918203684832716283019655932542976 * (mi a b 1 f 4).2 = V8 f + (4294967296 * (a 1 * b 0) + 18446744073709551616 * (a 1 * b 1) + 79228162514264337593543950336 * (a 1 * b 2) + 340282366920938463463374607431768211456 * (a 1 * b 3)) := by
  have s0 : (mi a b 1 f 0) = (f, 0) := rfl
  have t : ∀ j, (mi a b 1 f (j + 1)).2 = mx a b 1 j (mi a b 1 f j) / 4294967296 := fun _ => rfl
  have u : ∀ j, (mi a b 1 f (j + 1)).1 = upd (mi a b 1 f j).1 (1 + j) (mx a b 1 j (mi a b 1 f j) % 4294967296) := fun _ => rfl
  have v0 : V8 (mi a b 1 f 1).1 + 18446744073709551616 * (mi a b 1 f 1).2 = V8 (mi a b 1 f 0).1 + 4294967296 * ((mi a b 1 f 0).2 + a 1 * b 0) := by
    rw [t 0, u 0]
    generalize mi a b 1 f 0 = s
    simp only [V8, upd, mx, Nat.reduceAdd, Nat.reduceEqDiff, if_true, if_false, ↓reduceIte, Nat.one_ne_zero, Nat.zero_ne_one]
    omega
  have v1 : V8 (mi a b 1 f 2).1 + 79228162514264337593543950336 * (mi a b 1 f 2).2 = V8 (mi a b 1 f 1).1 + 18446744073709551616 * ((mi a b 1 f 1).2 + a 1 * b 1) := by
    rw [t 1, u 1]
    generalize mi a b 1 f 1 = s
    simp only [V8, upd, mx, Nat.reduceAdd, Nat.reduceEqDiff, if_true, if_false, ↓reduceIte, Nat.one_ne_zero, Nat.zero_ne_one]
    omega
  have v2 : V8 (mi a b 1 f 3).1 + 340282366920938463463374607431768211456 * (mi a b 1 f 3).2 = V8 (mi a b 1 f 2).1 + 79228162514264337593543950336 * ((mi a b 1 f 2).2 + a 1 * b 2) := by
    rw [t 2, u 2]
    generalize mi a b 1 f 2 = s
    simp only [V8, upd, mx, Nat.reduceAdd, Nat.reduceEqDiff, if_true, if_false, ↓reduceIte, Nat.one_ne_zero, Nat.zero_ne_one]
    omega
  have v3 : V8 (mi a b 1 f 4).1 + 1461501637330902918203684832716283019655932542976 * (mi a b 1 f 4).2 = V8 (mi a b 1 f 3).1 + 340282366920938463463374607431768211456 * ((mi a b 1 f 3).2 + a 1 * b 3) := by
    rw [t 3, u 3]
    generalize mi a b 1 f 3 = s
    simp only [V8, upd, mx, Nat.reduceAdd, Nat.reduceEqDiff, if_true, if_false, ↓reduceIte, Nat.one_ne_zero, Nat.zero_ne_one]
    omega
  have e0 : (mi a b 1 f 0).2 = 0 := rfl
  have e1 : V8 (mi a b 1 f 0).1 = V8 f := rfl
  omega
theorem mi_val2 (a b f : Nat → Int) : V8 (mi a b 2 f 4).1 + 6277101735386680763835789423207666416102355444464034512896 * (mi a b 2 f 4).2 = V8 f + (18446744073709551616 * (a 2 * b 0) + 79228162514264337593543950336 * (a 2 * b 1) + 340282366920938463463374607431768211456 * (a 2 * b 2) + 1461501637330902918203684832716283019655932542976 * (a 2 * b 3)) := by
  have s0 : (mi a b 2 f 0) = (f, 0) := rfl
  have t : ∀ j, (mi a b 2 f (j + 1)).2 = mx a b 2 j (mi a b 2 f j) / 4294967296 := fun _ => rfl
  have u : ∀ j, (mi a b 2 f (j + 1)).1 = upd (mi a b 2 f j).1 (2 + j) (mx a b 2 j (mi a b 2 f j) % 4294967296) := fun _ => rfl
  have v0 : V8 (mi a b 2 f 1).1 + 79228162514264337593543950336 * (mi a b 2 f 1).2 = V8 (mi a b 2 f 0).1 + 18446744073709551616 * ((mi a b 2 f 0).2 + a 2 * b 0) := by
    rw [t 0, u 0]
    generalize mi a b 2 f 0 = s
    simp only [V8, upd, mx, Nat.reduceAdd, Nat.reduceEqDiff, if_true, if_false, ↓reduceIte, Nat.one_ne_zero, Nat.zero_ne_one]
    omega
  have v1 : V8 (mi a b 2 f 2).1 + 340282366920938463463374607431768211456 * (mi a b 2 f 2).2 = V8 (mi a b 2 f 1).1 + 79228162514264337593543950336 * ((mi a b 2 f 1).2 + a 2 * b 1) := by
    rw [t 1, u 1]
    generalize mi a b 2 f 1 = s
    simp only [V8, upd, mx, Nat.reduceAdd, Nat.reduceEqDiff, if_true, if_false, ↓reduceIte, Nat.one_ne_zero, Nat.zero_ne_one]
    omega
  have v2 : V8 (mi a b 2 f 3).1 + 1461501637330902918203684832716283019655932542976 * (mi a b 2 f 3).2 = V8 (mi a b 2 f 2).1 + 340282366920938463463374607431768211456 * ((mi a b 2 f 2).2 + a 2 * b 2) := by
    rw [t 2, u 2]
    generalize mi a b 2 f 2 = s
    simp only [V8, upd, mx, Nat.reduceAdd, Nat.reduceEqDiff, if_true, if_false, ↓reduceIte, Nat.one_ne_zero, Nat.zero_ne_one]
    omega
  have v3 : V8 (mi a b 2 f 4).1 + 6277101735386680763835789423207666416102355444464034512896 * (mi a b 2 f 4).2 = V8 (mi a b 2 f 3).1 + 1461501637330902918203684832716283019655932542976 * ((mi a b 2 f 3).2 + a 2 * b 3) := by
    rw [t 3, u 3]
    generalize mi a b 2 f 3 = s
    simp only [V8, upd, mx, Nat.reduceAdd, Nat.reduceEqDiff, if_true, if_false, ↓reduceIte, Nat.one_ne_zero, Nat.zero_ne_one]
    omega
  have e0 : (mi a b 2 f 0).2 = 0 := rfl
  have e1 : V8 (mi a b 2 f 0).1 = V8 f := rfl
  omega
theorem mi_val3 (a b f : Nat → Int) : V8 (mi a b 3 f 4).1 + 26959946667150639794667015087019630673637144422540572481103610249216 * (mi a b 3 f 4).2 = V8 f + (79228162514264337593543950336 * (a 3 * b 0) + 340282366920938463463374607431768211456 * (a 3 * b 1) + 1461501637330902918203684832716283019655932542976 * (a 3 * b 2) + 6277101735386680763835789423207666416102355444464034512896 * (a 3 * b 3)) := by
  have s0 : (mi a b 3 f 0) = (f, 0) := rfl
  have t : ∀ j, (mi a b 3 f (j + 1)).2 = mx a b 3 j (mi a b 3 f j) / 4294967296 := fun _ => rfl
  have u : ∀ j, (mi a b 3 f (j + 1)).1 = upd (mi a b 3 f j).1 (3 + j) (mx a b 3 j (mi a b 3 f j) % 4294967296) := fun _ => rfl
  have v0 : V8 (mi a b 3 f 1).1 + 340282366920938463463374607431768211456 * (mi a b 3 f 1).2 = V8 (mi a b 3 f 0).1 + 79228162514264337593543950336 * ((mi a b 3 f 0).2 + a 3 * b 0) := by
    rw [t 0, u 0]
    generalize mi a b 3 f 0 = s
    simp only [V8, upd, mx, Nat.reduceAdd, Nat.reduceEqDiff, if_true, if_false, ↓reduceIte, Nat.one_ne_zero, Nat.zero_ne_one]
    omega
  have v1 : V8 (mi a b 3 f 2).1 + 1461501637330902918203684832716283019655932542976 * (mi a b 3 f 2).2 = V8 (mi a b 3 f 1).1 + 340282366920938463463374607431768211456 * ((mi a b 3 f 1).2 + a 3 * b 1) := by
    rw [t 1, u 1]
    generalize mi a b 3 f 1 = s
    simp only [V8, upd, mx, Nat.reduceAdd, Nat.reduceEqDiff, if_true, if_false, ↓reduceIte, Nat.one_ne_zero, Nat.zero_ne_one]
    omega
  have v2 : V8 (mi a b 3 f 3).1 + 6277101735386680763835789423207666416102355444464034512896 * (mi a b 3 f 3).2 = V8 (mi a b 3 f 2).1 + 1461501637330902918203684832716283019655932542976 * ((mi a b 3 f 2).2 + a 3 * b 2) := by
    rw [t 2, u 2]
    generalize mi a b 3 f 2 = s
    simp only [V8, upd, mx, Nat.reduceAdd, Nat.reduceEqDiff, if_true, if_false, ↓reduceIte, Nat.one_ne_zero, Nat.zero_ne_one]
    omega
  have v3 : V8 (mi a b 3 f 4).1 + 26959946667150639794667015087019630673637144422540572481103610249216 * (mi a b 3 f 4).2 = V8 (mi a b 3 f 3).1 + 6277101735386680763835789423207666416102355444464034512896 * ((mi a b 3 f 3).2 + a 3 * b 3) := by
    rw [t 3, u 3]
    generalize mi a b 3 f 3 = s
    simp only [V8, upd, mx, Nat.reduceAdd, Nat.reduceEqDiff, if_true, if_false, ↓reduceIte, Nat.one_ne_zero, Nat.zero_ne_one]
    omega
  have e0 : (mi a b 3 f 0).2 = 0 := rfl
  have e1 : V8 (mi a b 3 f 0).1 = V8 f := rfl
  omega
theorem mi_high (a b f : Nat → Int) (i t : Nat) (ht : i + 4 ≤ t) : ∀ j, j ≤ 4 → (mi a b i f j).1 t = f t
  | 0, _ => rfl
  | j + 1, hj => by
    show upd (mi a b i f j).1 (i + j) _ t = _
    unfold upd
    rw [if_neg (by omega)]
    exact mi_high a b f i t ht j (by omega)
theorem mo_high (a b : Nat → Int) (t : Nat) : ∀ i, i + 4 ≤ t → mo a b i t = 0
  | 0, _ => rfl
  | i + 1, h => by
    show upd (mi a b i (mo a b i) 4).1 (i + 4) _ t = _
    unfold upd
    rw [if_neg (by omega), mi_high a b _ i t (by omega) 4 (by omega)]
    exact mo_high a b t i (by omega)
theorem mo_val0 (a b : Nat → Int) : V8 (mo a b 1) = V8 (mo a b 0) + (a 0 * b 0 + 4294967296 * (a 0 * b 1) + 18446744073709551616 * (a 0 * b 2) + 79228162514264337593543950336 * (a 0 * b 3)) := by
  have h := mi_val0 a b (mo a b 0)
  have z : (mi a b 0 (mo a b 0) 4).1 4 = 0 := by rw [mi_high a b _ 0 4 (by omega) 4 (by omega)]; exact mo_high a b 4 0 (by omega)
  have e : mo a b 1 = upd (mi a b 0 (mo a b 0) 4).1 4 (mi a b 0 (mo a b 0) 4).2 := rfl
  rw [e]
  generalize mi a b 0 (mo a b 0) 4 = s at *
  simp only [V8, upd, Nat.reduceAdd, Nat.reduceEqDiff, if_true, if_false, ↓reduceIte, Nat.one_ne_zero, Nat.zero_ne_one] at *
  omega
theorem mo_val1 (a b : Nat → Int) : V8 (mo a b 2) = V8 (mo a b 1) + (4294967296 * (a 1 * b 0) + 18446744073709551616 * (a 1 * b 1) + 79228162514264337593543950336 * (a 1 * b 2) + 340282366920938463463374607431768211456 * (a 1 * b 3)) := by
  have h := mi_val1 a b (mo a b 1)
  have z : (mi a b 1 (mo a b 1) 4).1 5 = 0 := by rw [mi_high a b _ 1 5 (by omega) 4 (by omega)]; exact mo_high a b 5 1 (by omega)
  have e : mo a b 2 = upd (mi a b 1 (mo a b 1) 4).1 5 (mi a b 1 (mo a b 1) 4).2 := rfl
  rw [e]
  generalize mi a b 1 (mo a b 1) 4 = s at *
  simp only [V8, upd, Nat.reduceAdd, Nat.reduceEqDiff, if_true, if_false, ↓reduceIte, Nat.one_ne_zero, Nat.zero_ne_one] at *
  omega
theorem mo_val2 (a b : Nat → Int) : V8 (mo a b 3) = V8 (mo a b 2) + (18446744073709551616 * (a 2 * b 0) + 79228162514264337593543950336 * (a 2 * b 1) + 340282366920938463463374607431768211456 * (a 2 * b 2) + 1461501637330902918203684832716283019655932542976 * (a 2 * b 3)) := by
  have h := mi_val2 a b (mo a b 2)
  have z : (mi a b 2 (mo a b 2) 4).1 6 = 0 := by rw [mi_high a b _ 2 6 (by omega) 4 (by omega)]; exact mo_high a b 6 2 (by omega)
  have e : mo a b 3 = upd (mi a b 2 (mo a b 2) 4).1 6 (mi a b 2 (mo a b 2) 4).2 := rfl
  rw [e]
  generalize mi a b 2 (mo a b 2) 4 = s at *
  simp only [V8, upd, Nat.reduceAdd, Nat.reduceEqDiff, if_true, if_false, ↓reduceIte, Nat.one_ne_zero, Nat.zero_ne_one] at *
  omega
theorem mo_val3 (a b : Nat → Int) : V8 (mo a b 4) = V8 (mo a b 3) + (79228162514264337593543950336 * (a 3 * b 0) + 340282366920938463463374607431768211456 * (a 3 * b 1) + 1461501637330902918203684832716283019655932542976 * (a 3 * b 2) + 6277101735386680763835789423207666416102355444464034512896 * (a 3 * b 3)) := by
  have h := mi_val3 a b (mo a b 3)
  have z : (mi a b 3 (mo a b 3) 4).1 7 = 0 := by rw [mi_high a b _ 3 7 (by omega) 4 (by omega)]; exact mo_high a b 7 3 (by omega)
  have e : mo a b 4 = upd (mi a b 3 (mo a b 3) 4).1 7 (mi a b 3 (mo a b 3) 4).2 := rfl
  rw [e]
  generalize mi a b 3 (mo a b 3) 4 = s at *
  simp only [V8, upd, Nat.reduceAdd, Nat.reduceEqDiff, if_true, if_false, ↓reduceIte, Nat.one_ne_zero, Nat.zero_ne_one] at *
  omega
theorem dist4 (x : Int) (b : Nat → Int) : x * val4 b = x * b 0 + 4294967296 * (x * b 1) + 18446744073709551616 * (x * b 2) + 79228162514264337593543950336 * (x * b 3) := by
  unfold val4
  rw [Int.mul_add, Int.mul_add, Int.mul_add, Int.mul_left_comm x 4294967296, Int.mul_left_comm x 18446744073709551616, Int.mul_left_comm x 79228162514264337593543950336]
theorem mo_val (a b : Nat → Int) : V8 (mo a b 4) = val4 a * val4 b := by
  have h0 := mo_val0 a b
  have h1 := mo_val1 a b
  have h2 := mo_val2 a b
  have h3 := mo_val3 a b
  have hz : V8 (mo a b 0) = 0 := by simp [V8, mo]
  have e : val4 a * val4 b = a 0 * val4 b + 4294967296 * (a 1 * val4 b) + 18446744073709551616 * (a 2 * val4 b) + 79228162514264337593543950336 * (a 3 * val4 b) := by
    conv => lhs; rw [show val4 a = a 0 + 4294967296 * a 1 + 18446744073709551616 * a 2 + 79228162514264337593543950336 * a 3 from rfl]
    rw [Int.add_mul, Int.add_mul, Int.add_mul, Int.mul_assoc, Int.mul_assoc, Int.mul_assoc]
  rw [e, dist4, dist4, dist4, dist4]
  omega
theorem V8_split (f : Nat → Int) : V8 f = val4 f + 340282366920938463463374607431768211456 * val4 (fun i => f (i + 4)) := by
  unfold V8 val4; simp only [Nat.reduceAdd, Nat.zero_add]; omega
theorem val4_bd {f : Nat → Int} (h : U32 f) : 0 ≤ val4 f ∧ val4 f < 340282366920938463463374607431768211456 := by
  have h0 := h 0; have h1 := h 1; have h2 := h 2; have h3 := h 3
  unfold val4; omega
theorem val4_zero {f : Nat → Int} (h : U32 f) : (f 0 == 0 && (f 1 == 0 && (f 2 == 0 && f 3 == 0))) = decide (val4 f = 0) := by
  have h0 := h 0; have h1 := h 1; have h2 := h 2; have h3 := h 3
  rw [Bool.eq_iff_iff]; simp only [Bool.and_eq_true, beq_iff_eq, decide_eq_true_eq]; unfold val4; omega
/-- mul: the product modulo 2^128, and whether it fits. -/
theorem mul_v (a b : Nat) (w : World) (ha : a < 340282366920938463463374607431768211456) (hb : b < 340282366920938463463374607431768211456) :
    Calls Try.prog 81 #[encN a, encN b] w fun e w' => e = .returned (.tuple #[encN (a * b % M128), .bool (decide (a * b < M128))]) ∧ Below w.heap.size w w' :=
  (mul_x (lb a) (lb b) w (lb_U a) (lb_U b)).mono fun e w' ⟨he, hw⟩ => by
    refine ⟨?_, hw⟩
    subst he
    have h := mo_val (lb a) (lb b)
    have hU := mo_bd (lb_U a) (lb_U b) 4
    have hU' : U32 (fun i => mo (lb a) (lb b) 4 (i + 4)) := fun i => hU (i + 4)
    rw [val_lb a ha, val_lb b hb, V8_split] at h
    have b1 := val4_bd hU
    have b2 := val4_bd hU'
    have hz := val4_zero hU'
    simp only [Nat.reduceAdd, Nat.zero_add] at hz
    have hp : (a : Int) * (b : Int) = ((a * b : Nat) : Int) := by simp
    rw [hp] at h
    rw [hz, c32_of_val hU (v := a * b % M128) (by unfold M128; omega)]
    have : decide (val4 (fun i => mo (lb a) (lb b) 4 (i + 4)) = 0) = decide (a * b < M128) := by
      rw [decide_eq_decide]; unfold M128; omega
    rw [this]
    rfl
end Go.Proofs
