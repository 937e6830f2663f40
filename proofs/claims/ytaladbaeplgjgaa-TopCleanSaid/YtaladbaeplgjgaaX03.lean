/- nat.div -/
import Derived.Test.YtaladbaeplgjgaaX02
import Derived.Deep.RegionWith
set_option linter.unusedSimpArgs false
set_option linter.unusedVariables false
namespace Go.Proofs
open Go.RowKit
theorem u32_and1 (x : Int) (h0 : 0 ≤ x) (h1 : x < 4294967296) : bits .and .u32 x 1 = x % 2 := by
  rw [u32_and x 1 h0 h1 (by omega) (by omega)]
  have : x.toNat &&& (1 : Int).toNat = x.toNat % 2 := Nat.and_one_is_mod _
  rw [this]; omega
theorem lb_bit (v i s r : Nat) (hi : i = 32 * s + r) (hr : r < 32) : lb v s / 2 ^ r % 2 = ((v / 2 ^ i % 2 : Nat) : Int) := by
  subst hi
  unfold lb
  have e : (v / 4294967296 ^ s % 4294967296) / 2 ^ r % 2 = v / 2 ^ (32 * s + r) % 2 := by
    rw [show (4294967296 : Nat) = 2 ^ 32 from rfl, ← Nat.pow_mul]
    rw [← Nat.toNat_testBit, ← Nat.toNat_testBit, Nat.testBit_mod_two_pow, Nat.testBit_div_two_pow]
    simp [hr, Nat.add_comm]
  rw [← e]; simp
theorem lb_div_bd (v s r : Nat) : 0 ≤ lb v s / 2 ^ r ∧ lb v s / 2 ^ r < 4294967296 := by
  have h := lb_U v s
  refine ⟨Int.ediv_nonneg h.1 (by exact_mod_cast Nat.zero_le _), ?_⟩
  have : lb v s / 2 ^ r ≤ lb v s := Int.ediv_le_self _ h.1
  omega
set_option maxHeartbeats 1000000 in
theorem bit_v (v : Nat) (i : Int) (w : World) (h0 : 0 ≤ i) (h1 : i < 128) :
    Calls Try.prog 101 #[encN v, .int .i64 i] w fun e w' => e = .returned (.int .u32 (v / 2 ^ i.toNat % 2 : Nat)) ∧ Below w.heap.size w w' := by
  have hs : i / 32 = 0 ∨ i / 32 = 1 ∨ i / 32 = 2 ∨ i / 32 = 3 := by omega
  have hr : 0 ≤ i % 32 := by omega
  have hr' : i % 32 < 32 := by omega
  have hl := lb_U v
  simp only [encN, c32]
  rcases hs with e | e | e | e
  all_goals
    have H0 := hl 0
    have H1 := hl 1
    have H2 := hl 2
    have H3 := hl 3
    clear hl
    go_enter Try.func101, Try.ntmps101
    go_wp2
    go_ret
    refine ⟨congrArg Ending.returned (congrArg (Value.int .u32) ?_), ?_⟩
    · first
      | (rw [u32_and1 _ (lb_div_bd v 0 _).1 (lb_div_bd v 0 _).2]; exact lb_bit v _ 0 _ (by omega) (by omega))
      | (rw [u32_and1 _ (lb_div_bd v 1 _).1 (lb_div_bd v 1 _).2]; exact lb_bit v _ 1 _ (by omega) (by omega))
      | (rw [u32_and1 _ (lb_div_bd v 2 _).1 (lb_div_bd v 2 _).2]; exact lb_bit v _ 2 _ (by omega) (by omega))
      | (rw [u32_and1 _ (lb_div_bd v 3 _).1 (lb_div_bd v 3 _).2]; exact lb_bit v _ 3 _ (by omega) (by omega))
    · simp only [World.alloc_gar, World.gar_gar, World.gar_drewN, World.gar_drew]; exact RowKit.Below.of_gar _ _ _

/-- add, the results under names. -/
theorem add_h (a b : Nat) (w : World) (ha : a < 340282366920938463463374607431768211456) (hb : b < 340282366920938463463374607431768211456) :
    Calls Try.prog 82 #[encN a, encN b] w fun e w' => ∃ s c : Nat, e = .returned (.tuple #[encN s, .int .u64 c]) ∧ c ≤ 1 ∧ Hid (s = (a + b) % M128 ∧ c = (a + b) / M128) ∧ Below w.heap.size w w' :=
  (add_v a b w ha hb).mono fun e w' ⟨he, hw⟩ => ⟨_, _, he, by unfold M128; omega, Lib.hid ⟨rfl, rfl⟩, hw⟩
theorem bit_h (v : Nat) (i : Int) (w : World) (h0 : 0 ≤ i) (h1 : i < 128) :
    Calls Try.prog 101 #[encN v, .int .i64 i] w fun e w' => ∃ t : Nat, e = .returned (.int .u32 t) ∧ t ≤ 1 ∧ Hid (t = v / 2 ^ i.toNat % 2) ∧ Below w.heap.size w w' :=
  (bit_v v i w h0 h1).mono fun e w' ⟨he, hw⟩ => ⟨_, he, by omega, Lib.hid rfl, hw⟩
theorem cmp_h (a b : Nat) (w : World) (ha : a < 340282366920938463463374607431768211456) (hb : b < 340282366920938463463374607431768211456) :
    Calls Try.prog 45 #[encN a, encN b] w fun e w' => ∃ r : Int, e = .returned (.int .i64 r) ∧ Hid (r = cmpN a b) ∧ Below w.heap.size w w' :=
  (cmp_v a b w ha hb).mono fun e w' ⟨he, hw⟩ => ⟨_, he, Lib.hid rfl, hw⟩
theorem sub_h (a b : Nat) (w : World) (ha : a < 340282366920938463463374607431768211456) (hb : b < 340282366920938463463374607431768211456) :
    Calls Try.prog 99 #[encN a, encN b] w fun e w' => ∃ s : Nat, e = .returned (encN s) ∧ Hid (s = (a + M128 - b) % M128) ∧ Below w.heap.size w w' :=
  (sub_v a b w ha hb).mono fun e w' ⟨he, hw⟩ => ⟨_, he, Lib.hid rfl, hw⟩
def dR (A B m : Nat) : Nat := (A / 2 ^ m) % B
def dQ (A B m : Nat) : Nat := (A / 2 ^ m) / B * 2 ^ m
theorem half_step (A m : Nat) : A / 2 ^ m = 2 * (A / 2 ^ (m + 1)) + A / 2 ^ m % 2 := by
  have : A / 2 ^ (m + 1) = A / 2 ^ m / 2 := by rw [Nat.pow_succ, Nat.div_div_eq_div_mul]
  rw [this]; omega
theorem dR_step (A B m : Nat) (hB : 0 < B) : dR A B m = if B ≤ 2 * dR A B (m + 1) + A / 2 ^ m % 2 then 2 * dR A B (m + 1) + A / 2 ^ m % 2 - B else 2 * dR A B (m + 1) + A / 2 ^ m % 2 := by
  unfold dR
  have h := half_step A m
  generalize A / 2 ^ (m + 1) = X at h
  generalize A / 2 ^ m = Y at h
  have hX := Nat.div_add_mod X B
  have hr := Nat.mod_lt X hB
  generalize hq : X / B = q at hX
  generalize hrr : X % B = r at hX hr
  have ht : Y % 2 < 2 := Nat.mod_lt _ (by omega)
  generalize Y % 2 = t at h ht
  have hY : Y = B * (2 * q) + (2 * r + t) := by rw [← Nat.mul_assoc, Nat.mul_comm B 2, Nat.mul_assoc]; omega
  rw [hY, Nat.mul_add_mod]
  split
  · rename_i hle
    rw [Nat.mod_eq_sub_mod hle, Nat.mod_eq_of_lt (by omega)]
  · rw [Nat.mod_eq_of_lt (by omega)]
theorem dQ_step (A B m : Nat) (hB : 0 < B) : dQ A B m = dQ A B (m + 1) + if B ≤ 2 * dR A B (m + 1) + A / 2 ^ m % 2 then 2 ^ m else 0 := by
  unfold dR dQ
  have h := half_step A m
  generalize A / 2 ^ (m + 1) = X at h
  generalize A / 2 ^ m = Y at h
  have hX := Nat.div_add_mod X B
  have hr := Nat.mod_lt X hB
  generalize hq : X / B = q at hX
  generalize hrr : X % B = r at hX hr
  have ht : Y % 2 < 2 := Nat.mod_lt _ (by omega)
  generalize Y % 2 = t at h ht
  have hY : Y = B * (2 * q) + (2 * r + t) := by rw [← Nat.mul_assoc, Nat.mul_comm B 2, Nat.mul_assoc]; omega
  rw [hY, Nat.mul_add_div hB]
  have e : q * 2 ^ (m + 1) = 2 * q * 2 ^ m := by rw [Nat.pow_succ]; rw [Nat.mul_comm 2 q, Nat.mul_assoc, Nat.mul_comm 2]
  rw [e]
  split
  · rename_i hle
    have : (2 * r + t) / B = 1 := by
      rw [Nat.div_eq_of_lt_le] <;> omega
    rw [this, Nat.add_mul, Nat.one_mul]
  · rw [Nat.div_eq_of_lt (by omega)]; rfl
theorem dQ_lt (A B m : Nat) : dQ A B m ≤ A := by
  unfold dQ
  calc (A / 2 ^ m) / B * 2 ^ m ≤ A / 2 ^ m * 2 ^ m := Nat.mul_le_mul_right _ (Nat.div_le_self _ _)
    _ ≤ A := Nat.div_mul_le_self _ _
theorem u32_or_nat' (a b : Nat) (ha : a < 4294967296) (hb : b < 4294967296) : bits .or .u32 (a : Int) (b : Int) = ((a ||| b : Nat) : Int) := u32_or_nat a b ha hb
theorem lb_even (s t : Nat) (hs : s % 2 = 0) (ht : t ≤ 1) (i : Nat) (hi : 1 ≤ i) : lb s i = lb (s + t) i := by
  unfold lb
  have : s / 4294967296 ^ i = (s + t) / 4294967296 ^ i := by
    obtain ⟨j, rfl⟩ : ∃ j, i = j + 1 := ⟨i - 1, by omega⟩
    rw [Nat.pow_succ, Nat.mul_comm, ← Nat.div_div_eq_div_mul, ← Nat.div_div_eq_div_mul]
    have : s / 4294967296 = (s + t) / 4294967296 := by omega
    rw [this]
  rw [this]
theorem lb_or0 (s t : Nat) (hs : s % 2 = 0) (ht : t ≤ 1) : bits .or .u32 (lb s 0) (t : Int) = lb (s + t) 0 := by
  rw [lb0, lb0, u32_or_nat _ _ (by omega) (by omega)]
  have h : s % 4294967296 = 2 ^ 1 * (s % 4294967296 / 2) := by omega
  have h2 := Nat.two_pow_add_eq_or_of_lt (i := 1) (b := t) (by omega) (s % 4294967296 / 2)
  rw [h, ← h2, ← h]; congr 1; omega

theorem limb_or (x y t : Nat) : (x ||| y) / 4294967296 ^ t % 4294967296 = (x / 4294967296 ^ t % 4294967296 ||| y / 4294967296 ^ t % 4294967296) := by
  rw [show (4294967296 : Nat) = 2 ^ 32 from rfl, ← Nat.pow_mul, ← Nat.shiftRight_eq_div_pow, ← Nat.shiftRight_eq_div_pow, ← Nat.shiftRight_eq_div_pow, Nat.shiftRight_or_distrib, Nat.or_mod_two_pow]
theorem limb_pow (m t : Nat) : 2 ^ m / 4294967296 ^ t % 4294967296 = if m / 32 = t then 2 ^ (m % 32) else 0 := by
  rw [show (4294967296 : Nat) = 2 ^ 32 from rfl, ← Nat.pow_mul]
  split
  · rename_i h
    have e : m = 32 * t + m % 32 := by omega
    conv => lhs; rw [e, Nat.pow_add, Nat.mul_div_cancel_left _ (Nat.two_pow_pos _)]
    exact Nat.mod_eq_of_lt (Nat.pow_lt_pow_right (by omega) (Nat.mod_lt _ (by omega)))
  · rename_i h
    by_cases hlt : m < 32 * t
    · rw [Nat.div_eq_of_lt (Nat.pow_lt_pow_right (by omega) hlt)]
    · have e : m = 32 * t + (32 + (m - 32 * t - 32)) := by omega
      conv => lhs; rw [e, Nat.pow_add, Nat.mul_div_cancel_left _ (Nat.two_pow_pos _), Nat.pow_add, Nat.mul_mod_right]
theorem add_or (Q m : Nat) (hQ : Q % 2 ^ (m + 1) = 0) : Q + 2 ^ m = Q ||| 2 ^ m := by
  have h := Nat.two_pow_add_eq_or_of_lt (i := m + 1) (b := 2 ^ m) (Nat.pow_lt_pow_right (by omega) (by omega)) (Q / 2 ^ (m + 1))
  have e : 2 ^ (m + 1) * (Q / 2 ^ (m + 1)) = Q := by have := Nat.div_add_mod Q (2 ^ (m + 1)); omega
  rw [e] at h; exact h
theorem lb_orQ (Q m s : Nat) (hQ : Q % 2 ^ (m + 1) = 0) (hs : m / 32 = s) : bits .or .u32 (lb Q s) ((2 : Int) ^ (m % 32) % 4294967296) = lb (Q + 2 ^ m) s := by
  have hp : 2 ^ (m % 32) < 4294967296 := Nat.pow_lt_pow_right (n := 32) (by omega) (Nat.mod_lt _ (by omega))
  have e : ((2 : Int) ^ (m % 32) % 4294967296) = ((2 ^ (m % 32) : Nat) : Int) := by
    have : ((2 ^ (m % 32) % 4294967296 : Nat) : Int) = ((2 ^ (m % 32) : Nat) : Int) := by rw [Nat.mod_eq_of_lt hp]
    rw [← this]; simp
  rw [e, add_or Q m hQ]
  unfold lb
  rw [limb_or, limb_pow, if_pos hs, u32_or_nat _ _ (Nat.mod_lt _ (by omega)) hp]
theorem lb_otherQ (Q m t : Nat) (hQ : Q % 2 ^ (m + 1) = 0) (hs : m / 32 ≠ t) : lb Q t = lb (Q + 2 ^ m) t := by
  rw [add_or Q m hQ]
  unfold lb
  rw [limb_or, limb_pow, if_neg hs, Nat.or_zero]
theorem dQ_mod (A B m : Nat) : dQ A B m % 2 ^ m = 0 := by unfold dQ; exact Nat.mul_mod_left _ _
end Go.Proofs
