/- math/bits.OnesCount64 -/
import Derived.Test.YtaladbaeplgjgaaX09
import Derived.Laws.BitsAllLaws
set_option linter.unusedSimpArgs false
set_option linter.unusedVariables false
namespace Go.Proofs
open Go.RowKit
theorem u64_and' (a b : Nat) (ha : a < 18446744073709551616) (hb : b < 18446744073709551616) (x y : Int) (hx : x = a) (hy : y = b) : bits .and .u64 x y = ((a &&& b : Nat) : Int) := by
  subst hx hy; exact u64_and_nat a b ha hb
theorem swar_int (x : Int) (h0 : 0 ≤ x) (h1 : x < 18446744073709551616) : ∃ a b c d t : Int,
    (0 ≤ a ∧ a ≤ 6148914691236517205) ∧ (0 ≤ b ∧ b ≤ 6148914691236517205) ∧ (0 ≤ c ∧ c ≤ 3689348814741910323) ∧ (0 ≤ d ∧ d ≤ 3689348814741910323) ∧ (0 ≤ t ∧ t ≤ 578721382704613384) ∧
    bits .and .u64 (x / 2) 6148914691236517205 = a ∧ bits .and .u64 x 6148914691236517205 = b ∧ bits .and .u64 ((a + b) / 4) 3689348814741910323 = c ∧ bits .and .u64 (a + b) 3689348814741910323 = d ∧
    bits .and .u64 ((c + d) / 16 + (c + d)) 1085102592571150095 = t ∧ (((t + t / 256) + (t + t / 256) / 65536) + ((t + t / 256) + (t + t / 256) / 65536) / 4294967296) % 128 = (pcn 64 x.toNat : Nat) := by
  obtain ⟨X, rfl⟩ := Int.eq_ofNat_of_zero_le h0
  have hX : X < 18446744073709551616 := by omega
  have q1 := swar1 X
  have q2 := swar2 (bw g1 8 X)
  have q3 := swar3 X
  have q4 := swar_sum X (bw (pcn 8) 8 X) _ _ rfl rfl rfl
  obtain ⟨a, ha⟩ : ∃ q0 : Nat, q0 = X / 2 &&& 6148914691236517205 := ⟨_, rfl⟩
  obtain ⟨b, hb⟩ : ∃ q0 : Nat, q0 = X &&& 6148914691236517205 := ⟨_, rfl⟩
  rw [← ha, ← hb] at q1
  rw [← q1] at q2 q3
  obtain ⟨c, hc⟩ : ∃ q0 : Nat, q0 = (a + b) / 4 &&& 3689348814741910323 := ⟨_, rfl⟩
  obtain ⟨d, hd⟩ : ∃ q0 : Nat, q0 = (a + b) &&& 3689348814741910323 := ⟨_, rfl⟩
  rw [← hc, ← hd] at q2
  rw [← q2] at q3
  obtain ⟨t, ht⟩ : ∃ t : Nat, t = bw (pcn 8) 8 X := ⟨_, rfl⟩
  rw [← ht] at q3 q4
  have ba : a ≤ 6148914691236517205 := by rw [ha]; exact Nat.and_le_right
  have bb : b ≤ 6148914691236517205 := by rw [hb]; exact Nat.and_le_right
  have bc : c ≤ 3689348814741910323 := by rw [hc]; exact Nat.and_le_right
  have bd : d ≤ 3689348814741910323 := by rw [hd]; exact Nat.and_le_right
  have e1 : bits .and .u64 ((X : Int) / 2) 6148914691236517205 = (a : Int) := by rw [ha]; exact u64_and' (X / 2) _ (by omega) (by omega) _ _ (by omega) (by rfl)
  have e2 : bits .and .u64 (X : Int) 6148914691236517205 = (b : Int) := by rw [hb]; exact u64_and' X _ (by omega) (by omega) _ _ rfl (by rfl)
  have e3 : bits .and .u64 (((a : Int) + b) / 4) 3689348814741910323 = (c : Int) := by rw [hc]; exact u64_and' ((a + b) / 4) _ (by omega) (by omega) _ _ (by omega) (by rfl)
  have e4 : bits .and .u64 ((a : Int) + b) 3689348814741910323 = (d : Int) := by rw [hd]; exact u64_and' (a + b) _ (by omega) (by omega) _ _ (by omega) (by rfl)
  have e5 : bits .and .u64 (((c : Int) + d) / 16 + ((c : Int) + d)) 1085102592571150095 = (t : Int) := by rw [← q3]; exact u64_and' ((c + d) / 16 + (c + d)) _ (by omega) (by omega) _ _ (by omega) (by rfl)
  have e6 : ((((t : Int) + t / 256) + ((t : Int) + t / 256) / 65536) + (((t : Int) + t / 256) + ((t : Int) + t / 256) / 65536) / 4294967296) % 128 = (pcn 64 X : Nat) := by
    rw [← q4.1]; simp
  have bt := q4.2
  exact ⟨a, b, c, d, t, by omega, by omega, by omega, by omega, by omega, e1, e2, e3, e4, e5, by rw [e6, Int.toNat_natCast]⟩
set_option maxRecDepth 100000 in
theorem ones_v (x : Int) (w : World) (h0 : 0 ≤ x) (h1 : x < 18446744073709551616) :
    Calls Try.prog 48 #[.int .u64 x] w fun e w' => e = .returned (.int .i64 (pcn 64 x.toNat : Nat)) ∧ w = w' := by
  obtain ⟨a, b, c, d, t, ⟨a0, a1⟩, ⟨b0, b1⟩, ⟨c0, c1⟩, ⟨d0, d1⟩, ⟨t0, t1⟩, e1, e2, e3, e4, e5, e6⟩ := swar_int x h0 h1
  have E6 := Lib.hid e6
  clear e6
  go_enter Try.func48, Try.ntmps48
  go_wp2
  go_ret
  exact ⟨ret_i64 ((i64_and127 _).trans E6.out), rfl⟩
end Go.Proofs

/- Sets of cards as numbers. -/
namespace Go.Proofs
open Go.RowKit
/-- a without b. -/
def andn (a b : Nat) : Nat := a &&& (18446744073709551615 - b)
theorem andn_bit (a b i : Nat) (hb : b < 18446744073709551616) (ha : a < 18446744073709551616) : (andn a b).testBit i = (a.testBit i && !b.testBit i) := by
  unfold andn
  rw [Nat.testBit_and]
  have h : (18446744073709551615 - b).testBit i = (decide (i < 64) && !b.testBit i) := by
    have := Nat.testBit_two_pow_sub_succ (n := 64) (x := b) hb i
    rw [← this]; congr 1; omega
  rw [h]
  by_cases hi : i < 64
  · simp [hi]
  · have : a.testBit i = false := Nat.testBit_lt_two_pow (Nat.lt_of_lt_of_le ha (Nat.pow_le_pow_right (n := 2) (by decide) (Nat.le_of_not_lt hi : 64 ≤ i)))
    simp [this]
theorem andn_le (a b : Nat) : andn a b ≤ a := Nat.and_le_left
class Msk (m : Nat) : Prop where
  lt : m < 4503599627370496
theorem Msk.lt64 (m : Nat) [h : Msk m] : m < 18446744073709551616 := Nat.lt_trans h.lt (by decide)
instance Msk.zero : Msk 0 := ⟨by decide⟩
instance Msk.full : Msk 4503599627370495 := ⟨by decide⟩
instance Msk.and (a b : Nat) [h : Msk a] : Msk (a &&& b) := ⟨Nat.lt_of_le_of_lt Nat.and_le_left h.lt⟩
instance Msk.andn (a b : Nat) [h : Msk a] : Msk (Proofs.andn a b) := ⟨Nat.lt_of_le_of_lt (andn_le a b) h.lt⟩
instance Msk.or (a b : Nat) [ha : Msk a] [hb : Msk b] : Msk (a ||| b) := ⟨Nat.or_lt_two_pow (n := 52) ha.lt hb.lt⟩
@[go_sem] theorem msk_and (a b : Nat) [Msk a] [Msk b] : bits .and .u64 (a : Int) (b : Int) = ((a &&& b : Nat) : Int) := u64_and_nat a b (Msk.lt64 a) (Msk.lt64 b)
@[go_sem] theorem msk_or (a b : Nat) [Msk a] [Msk b] : bits .or .u64 (a : Int) (b : Int) = ((a ||| b : Nat) : Int) := u64_or_nat a b (Msk.lt64 a) (Msk.lt64 b)
@[go_sem] theorem msk_andn (a b : Nat) [Msk a] [Msk b] : bits .andNot .u64 (a : Int) (b : Int) = ((andn a b : Nat) : Int) := u64_andNot_nat a b (Msk.lt64 a) (Msk.lt64 b)
@[go_sem] theorem msk_fulln (b : Nat) [Msk b] : bits .andNot .u64 4503599627370495 (b : Int) = ((andn 4503599627370495 b : Nat) : Int) := msk_andn 4503599627370495 b
theorem msk_bit (m i : Nat) (hi : 52 ≤ i) [h : Msk m] : m.testBit i = false := Nat.testBit_lt_two_pow (Nat.lt_of_lt_of_le h.lt (Nat.pow_le_pow_right (n := 2) (by decide) hi))
theorem full_bit (i : Nat) : (4503599627370495 : Nat).testBit i = decide (i < 52) := Nat.testBit_two_pow_sub_one 52 i
theorem andn_full (a : Nat) [Msk a] : andn a 4503599627370495 = 0 := by
  apply Nat.eq_of_testBit_eq; intro i
  rw [andn_bit _ _ _ (by decide) (Msk.lt64 a), full_bit]
  by_cases h : i < 52
  · simp [h]
  · rw [msk_bit a i (by omega)]; simp
@[go_sem] theorem msk_nfull (a : Nat) [Msk a] : bits .andNot .u64 (a : Int) 4503599627370495 = 0 := by
  have := msk_andn a 4503599627370495
  rw [andn_full] at this; exact this
@[go_sem] theorem msk_zor (a : Nat) [Msk a] : bits .or .u64 0 (a : Int) = a := by
  have := msk_or 0 a; rw [Nat.zero_or] at this; exact this
@[go_sem] theorem msk_andz (a : Nat) [Msk a] : bits .and .u64 (a : Int) 0 = 0 := by
  have := msk_and a 0; rw [Nat.and_zero] at this; exact this
/-- How many cards a set has. -/
def pc (m : Nat) : Nat := pcn 64 m
/-- The cards of a set, from the least one up. -/
def cds (m : Nat) : List Nat := (List.range 52).filter (m.testBit ·)
theorem pcn_count (n x : Nat) : pcn n x = (List.range n).countP (x.testBit ·) := by
  induction n with
  | zero => rfl
  | succ n ih =>
    rw [pcn_add, ih, List.range_succ, List.countP_append, List.countP_singleton]
    simp only [pcn, Nat.testBit_eq_decide_div_mod_eq, Nat.add_zero]
    have : x / 2 ^ n % 2 < 2 := Nat.mod_lt _ (by decide)
    congr 1
    by_cases h : x / 2 ^ n % 2 = 1
    · simp [h]
    · simp [h]; omega
theorem pc_cds (m : Nat) [Msk m] : pc m = (cds m).length := by
  unfold pc cds
  rw [pcn_count, ← List.countP_eq_length_filter]
  have e : List.range 64 = List.range 52 ++ (List.range 12).map (fun i => 52 + i) := by decide
  rw [e, List.countP_append, List.countP_map]
  have : List.countP ((fun i => m.testBit i) ∘ (52 + ·)) (List.range 12) = 0 := by
    rw [List.countP_eq_zero]; intro i _; simp [msk_bit m (52 + i) (by omega)]
  rw [this]; rfl
theorem mem_cds (m c : Nat) : c ∈ cds m ↔ c < 52 ∧ m.testBit c = true := by unfold cds; simp
theorem cds_nodup (m : Nat) : (cds m).Nodup := List.nodup_range.filter _
theorem countP_or {α : Type} (p q : α → Bool) (l : List α) (h : ∀ x ∈ l, ¬ (p x = true ∧ q x = true)) : l.countP (fun x => p x || q x) = l.countP p + l.countP q := by
  induction l with
  | nil => rfl
  | cons x l ih =>
    rw [List.countP_cons, List.countP_cons, List.countP_cons, ih (fun y hy => h y (List.mem_cons_of_mem _ hy))]
    have := h x List.mem_cons_self
    cases hp : p x <;> cases hq : q x <;> simp [hp, hq] at this ⊢ <;> omega
theorem pc_or (a b : Nat) (h : a &&& b = 0) : pc (a ||| b) = pc a + pc b := by
  unfold pc
  rw [pcn_count, pcn_count, pcn_count, ← countP_or]
  · congr 1; funext i; rw [Nat.testBit_or]
  · intro i _ hh
    have : (a &&& b).testBit i = false := by rw [h]; exact Nat.zero_testBit i
    rw [Nat.testBit_and, hh.1, hh.2] at this
    cases this
theorem pc_le (m : Nat) [Msk m] : pc m ≤ 52 := by
  rw [pc_cds]; exact Nat.le_trans (List.length_filter_le _ _) (by simp)
theorem pc_zero : pc 0 = 0 := by decide
theorem pc_full : pc 4503599627370495 = 52 := by decide
theorem full_split (a : Nat) [Msk a] : a ||| andn 4503599627370495 a = 4503599627370495 := by
  apply Nat.eq_of_testBit_eq; intro i
  rw [Nat.testBit_or, andn_bit _ _ _ (Msk.lt64 a) (by decide), full_bit]
  by_cases h : i < 52
  · simp [h]
  · rw [msk_bit a i (by omega)]; simp [h]
theorem and_andn (a b : Nat) [Msk a] [Msk b] : a &&& andn b a = 0 := by
  apply Nat.eq_of_testBit_eq; intro i
  rw [Nat.testBit_and, andn_bit _ _ _ (Msk.lt64 a) (Msk.lt64 b), Nat.zero_testBit]
  cases a.testBit i <;> simp
theorem pc_compl (a : Nat) [Msk a] : pc (andn 4503599627370495 a) = 52 - pc a := by
  have := pc_or a (andn 4503599627370495 a) (and_andn a _)
  rw [full_split, pc_full] at this; omega
attribute [irreducible] pc andn
end Go.Proofs

/- The least card of a set. -/
namespace Go.Proofs
open Go.RowKit
theorem bit_lt (c : Nat) (h : c < 52) : 2 ^ c < 4503599627370496 := Nat.pow_lt_pow_right (a := 2) (n := 52) (by decide) h
theorem bit_bit (c i : Nat) : (2 ^ c).testBit i = decide (c = i) := Nat.testBit_two_pow
theorem cds_sorted (m : Nat) : (cds m).Pairwise (· < ·) := List.Pairwise.filter _ List.pairwise_lt_range
theorem cds_cons {m c : Nat} {cs : List Nat} (h : cds m = c :: cs) : c < 52 ∧ m.testBit c = true ∧ ∀ i, i < c → m.testBit i = false := by
  have h1 : c ∈ cds m := by rw [h]; exact List.mem_cons_self
  have h2 := (mem_cds m c).1 h1
  refine ⟨h2.1, h2.2, fun i hi => ?_⟩
  have hs := cds_sorted m
  rw [h] at hs
  cases hb : m.testBit i with
  | false => rfl
  | true =>
    have : i ∈ cds m := (mem_cds m i).2 ⟨by omega, hb⟩
    rw [h] at this
    rcases List.mem_cons.1 this with rfl | hm
    · omega
    · have := (List.pairwise_cons.1 hs).1 i hm; omega
theorem cds_rest {m c : Nat} {cs : List Nat} [Msk m] (h : cds m = c :: cs) : cds (andn m (2 ^ c)) = cs := by
  have hc := (cds_cons h).1
  have hlt := bit_lt c hc
  have e : cds (andn m (2 ^ c)) = (cds m).filter (fun i => decide (i ≠ c)) := by
    unfold cds
    rw [List.filter_filter]
    congr 1; funext i
    rw [andn_bit _ _ _ (by omega) (Msk.lt64 m), bit_bit]
    by_cases hh : c = i
    · subst hh; simp
    · simp [hh, Ne.symm hh]
  rw [e, h, List.filter_cons]
  simp only [ne_eq, not_true_eq_false, decide_false, Bool.false_eq_true, if_false]
  rw [List.filter_eq_self]
  intro x hx
  have hs := cds_sorted m
  rw [h] at hs
  have := (List.pairwise_cons.1 hs).1 x hx
  simp; omega
theorem cds_nil (m : Nat) [Msk m] : cds m = [] ↔ m = 0 := by
  constructor
  · intro h
    apply Nat.eq_of_testBit_eq; intro i
    rw [Nat.zero_testBit]
    by_cases hi : i < 52
    · cases hb : m.testBit i with
      | false => rfl
      | true => have := (mem_cds m i).2 ⟨hi, hb⟩; rw [h] at this; cases this
    · exact msk_bit m i (by omega)
  · rintro rfl; decide
/-- m - 1, where c is the least bit of m. -/
theorem pred_bit {m c : Nat} (hc : m.testBit c = true) (hl : ∀ i, i < c → m.testBit i = false) (i : Nat) : (m - 1).testBit i = (if i < c then true else if i = c then false else m.testBit i) := by
  have h0 : m % 2 ^ c = 0 := by
    apply Nat.eq_of_testBit_eq; intro i
    rw [Nat.testBit_mod_two_pow, Nat.zero_testBit]
    by_cases hi : i < c
    · rw [hl i hi]; simp
    · simp [hi]
  obtain ⟨r, hr⟩ : ∃ r, m = 2 ^ c * r := ⟨m / 2 ^ c, by have := Nat.div_add_mod m (2 ^ c); omega⟩
  have hr1 : r.testBit 0 = true := by
    have : m.testBit c = r.testBit 0 := by
      rw [hr]
      have := Nat.testBit_two_pow_mul_add r (Nat.two_pow_pos c) c
      simpa using this
    rw [← this]; exact hc
  have hr2 : r % 2 = 1 := by rw [Nat.testBit_zero] at hr1; simpa using hr1
  have hm1 : m - 1 = 2 ^ c * (r - 1) + (2 ^ c - 1) := by
    have : 2 ^ c * r = 2 ^ c * (r - 1) + 2 ^ c := by
      have : r = (r - 1) + 1 := by omega
      rw [this, Nat.mul_add]; simp
    have := Nat.two_pow_pos c
    omega
  rw [hm1, Nat.testBit_two_pow_mul_add _ (by have := Nat.two_pow_pos c; omega)]
  by_cases hi : i < c
  · simp [hi, Nat.testBit_two_pow_sub_one]
  · rw [if_neg hi, if_neg hi]
    by_cases hic : i = c
    · subst hic; rw [if_pos rfl, Nat.sub_self, Nat.testBit_zero]; simp; omega
    · rw [if_neg hic, hr]
      have e1 : m.testBit i = r.testBit (i - c) := by
        have := Nat.testBit_two_pow_mul_add r (Nat.two_pow_pos c) i
        rw [if_neg hi] at this
        rw [hr]; simpa using this
      rw [← hr, e1]
      obtain ⟨j, hj⟩ : ∃ j, i - c = j + 1 := ⟨i - c - 1, by omega⟩
      rw [hj, Nat.testBit_succ, Nat.testBit_succ]
      congr 1; omega
theorem low_neg {m c : Nat} {cs : List Nat} [Msk m] (h : cds m = c :: cs) : m &&& (18446744073709551616 - m) = 2 ^ c := by
  obtain ⟨h1, h2, h3⟩ := cds_cons h
  have hm : 0 < m := by
    rcases Nat.eq_zero_or_pos m with rfl | hp
    · rw [Nat.zero_testBit] at h2; cases h2
    · exact hp
  have hlt := Msk.lt64 m
  apply Nat.eq_of_testBit_eq; intro i
  rw [Nat.testBit_and, bit_bit]
  have e : (18446744073709551616 - m).testBit i = (decide (i < 64) && !(m - 1).testBit i) := by
    have := Nat.testBit_two_pow_sub_succ (n := 64) (x := m - 1) (by omega) i
    rw [← this]; congr 1; omega
  rw [e, pred_bit h2 h3]
  by_cases hi : i < c
  · rw [h3 i hi, if_pos hi]; simp; omega
  · rw [if_neg hi]
    by_cases hic : i = c
    · subst hic; rw [if_pos rfl, h2]; simp; omega
    · rw [if_neg hic]
      have : decide (c = i) = false := by simp; omega
      rw [this]
      cases m.testBit i <;> simp
theorem low_pred {m c : Nat} {cs : List Nat} [Msk m] (h : cds m = c :: cs) : m &&& (m - 1) = andn m (2 ^ c) := by
  obtain ⟨h1, h2, h3⟩ := cds_cons h
  apply Nat.eq_of_testBit_eq; intro i
  rw [Nat.testBit_and, andn_bit _ _ _ (by have := bit_lt c h1; omega) (Msk.lt64 m), bit_bit, pred_bit h2 h3]
  by_cases hi : i < c
  · rw [h3 i hi]; simp
  · rw [if_neg hi]
    by_cases hic : i = c
    · subst hic; simp
    · rw [if_neg hic]
      have : decide (c = i) = false := by simp; omega
      rw [this]
      cases m.testBit i <;> simp
end Go.Proofs

/- deal: left, Partial, Right -/
namespace Go.Proofs
open Go.RowKit
@[go_sem] theorem idx26_0 (a b c d : Int) (w : World) : (Instr.index 26 (.agg #[.int .u64 a, .int .u64 b, .int .u64 c, .int .u64 d]) (.int .i64 0)).run Try.prog w = .ok (.int .u64 a) w := by kernel_rfl
@[go_sem] theorem idx26_1 (a b c d : Int) (w : World) : (Instr.index 26 (.agg #[.int .u64 a, .int .u64 b, .int .u64 c, .int .u64 d]) (.int .i64 1)).run Try.prog w = .ok (.int .u64 b) w := by kernel_rfl
@[go_sem] theorem idx26_2 (a b c d : Int) (w : World) : (Instr.index 26 (.agg #[.int .u64 a, .int .u64 b, .int .u64 c, .int .u64 d]) (.int .i64 2)).run Try.prog w = .ok (.int .u64 c) w := by kernel_rfl
@[go_sem] theorem idx26_3 (a b c d : Int) (w : World) : (Instr.index 26 (.agg #[.int .u64 a, .int .u64 b, .int .u64 c, .int .u64 d]) (.int .i64 3)).run Try.prog w = .ok (.int .u64 d) w := by kernel_rfl
theorem ones_m (m : Nat) (w : World) [h : Msk m] : Calls Try.prog 48 #[.int .u64 m] w fun e w' => ∃ n : Nat, e = .returned (.int .i64 n) ∧ Hid (n = pc m) ∧ w = w' := by
  have hm := Msk.lt64 m
  refine (ones_v (m : Int) w (by omega) (by omega)).mono ?_
  rintro e w' ⟨rfl, rfl⟩
  exact ⟨_, rfl, Lib.hid (by rw [Int.toNat_natCast]; unfold pc; rfl), rfl⟩
theorem left_v (a b c d : Nat) (w : World) [Msk a] [Msk b] [Msk c] [Msk d] :
    Calls Try.prog 39 #[.agg #[.int .u64 a, .int .u64 b, .int .u64 c, .int .u64 d]] w fun e w' => e = .returned (.int .u64 (andn 4503599627370495 (a ||| b ||| c ||| d) : Nat)) ∧ Below w.heap.size w w' := by
  go_enter Try.func39, Try.ntmps39
  go_wp2
  go_ret
  refine ⟨rfl, ?_⟩
  simp only [World.alloc_gar, World.gar_gar, World.gar_drewN, World.gar_drew]; exact RowKit.Below.of_gar _ _ _
/-- A deal of which no card is twice, and no hand has more than 13. -/
structure Part (a b c d : Nat) : Prop where
  ab : a &&& b = 0
  ac : (a ||| b) &&& c = 0
  ad : (a ||| b ||| c) &&& d = 0
  a13 : pc a ≤ 13
  b13 : pc b ≤ 13
  c13 : pc c ≤ 13
  d13 : pc d ≤ 13
set_option maxRecDepth 100000 in
theorem partial_v (a b c d : Nat) (w : World) [Msk a] [Msk b] [Msk c] [Msk d] (h : Part a b c d) :
    Calls Try.prog 38 #[.agg #[.int .u64 a, .int .u64 b, .int .u64 c, .int .u64 d]] w fun e w' => e = .returned (.bool true) ∧ Below w.heap.size w w' := by
  have h1 := h.ab
  have h2 := h.ac
  have h3 := h.ad
  have h4 := h.a13; have h5 := h.b13; have h6 := h.c13; have h7 := h.d13
  rw [Nat.and_comm] at h1 h2 h3
  go_enter Try.func38, Try.ntmps38
  go_wp2
  refine wp_loop_rounds 5 ?_
  rw [rounds_succ]
  go_wp2_with fail
  refine (ones_m a _).mono ?_
  rintro e w' ⟨n0, rfl, Hn0, rfl⟩
  have hn0 : n0 ≤ 13 := by rw [Hn0.out]; exact h4
  go_wp2_with fail
  rw [rounds_succ]
  go_wp2_with fail
  refine (ones_m b _).mono ?_
  rintro e w' ⟨n1, rfl, Hn1, rfl⟩
  have hn1 : n1 ≤ 13 := by rw [Hn1.out]; exact h5
  go_wp2_with fail
  rw [rounds_succ]
  go_wp2_with fail
  refine (ones_m c _).mono ?_
  rintro e w' ⟨n2, rfl, Hn2, rfl⟩
  have hn2 : n2 ≤ 13 := by rw [Hn2.out]; exact h6
  go_wp2_with fail
  rw [rounds_succ]
  go_wp2_with fail
  refine (ones_m d _).mono ?_
  rintro e w' ⟨n3, rfl, Hn3, rfl⟩
  have hn3 : n3 ≤ 13 := by rw [Hn3.out]; exact h7
  go_wp2_with fail
  rw [rounds_succ]
  go_wp2_with fail
  go_ret
  refine ⟨rfl, ?_⟩
  simp only [World.alloc_gar, World.gar_gar, World.gar_drewN, World.gar_drew]; exact RowKit.Below.of_gar _ _ _
theorem andn_self (a : Nat) [Msk a] : andn a a = 0 := by
  apply Nat.eq_of_testBit_eq; intro i
  rw [andn_bit _ _ _ (Msk.lt64 a) (Msk.lt64 a), Nat.zero_testBit]; cases a.testBit i <;> rfl
theorem right_v (a b c d : Nat) (w : World) [Msk a] [Msk b] [Msk c] [Msk d] (h : Part a b c d) (hf : a ||| b ||| c ||| d = 4503599627370495) :
    Calls Try.prog 17 #[.agg #[.int .u64 a, .int .u64 b, .int .u64 c, .int .u64 d]] w fun e w' => e = .returned (.bool true) ∧ Below w.heap.size w w' := by
  have hz : andn 4503599627370495 (a ||| b ||| c ||| d) = 0 := by rw [hf]; exact andn_self _
  clear hf
  have H := Lib.hid h
  clear h
  go_enter Try.func17, Try.ntmps17
  go_wp2_with fail
  refine (partial_v a b c d _ H.out).mono ?_
  rintro e w' ⟨rfl, hb⟩
  obtain ⟨l, d1, rfl⟩ := hb.gar
  clear hb
  go_wp2_with fail
  refine (left_v a b c d _).mono ?_
  rintro e w' ⟨rfl, hb⟩
  obtain ⟨l1, d2, rfl⟩ := hb.gar
  clear hb
  rw [hz]
  go_wp2_with fail
  go_ret
  refine ⟨rfl, ?_⟩
  simp only [World.alloc_gar, World.gar_gar, World.gar_drewN, World.gar_drew]; exact RowKit.Below.of_gar _ _ _
end Go.Proofs

/- card, slices of bytes that are read, trick.Right -/
namespace Go.Proofs
open Go.RowKit
/-- The slice of bytes with the address A holds xs. -/
def RdS (w : World) (A : Option Addr) (xs : List Nat) : Prop := xs = [] ∨ ∃ g o, A = some ⟨g, o, none⟩ ∧ ∀ j x : Nat, xs[j]? = some x → w.cell? ⟨g, o + j, none⟩ = some (.int .u8 (x : Int))
theorem RdS.pos {w : World} {A : Option Addr} {xs : List Nat} (h : RdS w A xs) (hp : 0 < xs.length) : ∃ g o, A = some ⟨g, o, none⟩ ∧ ∀ j x : Nat, xs[j]? = some x → w.cell? ⟨g, o + j, none⟩ = some (.int .u8 (x : Int)) := by
  rcases h with rfl | h
  · simp at hp
  · exact h
theorem RdS.take {w : World} {A : Option Addr} {xs : List Nat} (h : RdS w A xs) (n : Nat) : RdS w A (xs.take n) := by
  rcases h with rfl | ⟨g, o, hA, hc⟩
  · exact .inl (by simp)
  · exact .inr ⟨g, o, hA, fun j x hx => hc j x (by rw [List.getElem?_take] at hx; split at hx <;> simp_all)⟩
theorem cardRight_v (c : Nat) (w : World) (h : c < 52) : Calls Try.prog 114 #[.int .u8 c] w fun e w' => e = .returned (.bool true) ∧ w = w' := by
  go_enter Try.func114, Try.ntmps114
  go_wp2
  go_ret
  exact ⟨ret_bool (by simp; omega), rfl⟩
theorem cardSuit_v (c : Nat) (w : World) (h : c < 52) : Calls Try.prog 112 #[.int .u8 c] w fun e w' => e = .returned (.int .u8 (c / 13 : Nat)) ∧ w = w' := by
  go_enter Try.func112, Try.ntmps112
  go_wp2_with (go_at_call 114; refine (cardRight_v c _ h).mono ?_; rintro e w' ⟨rfl, rfl⟩)
  go_ret
  exact ⟨by simp, rfl⟩
theorem cardRank_v (c : Nat) (w : World) (h : c < 52) : Calls Try.prog 117 #[.int .u8 c] w fun e w' => e = .returned (.int .u8 (c % 13 : Nat)) ∧ w = w' := by
  go_enter Try.func117, Try.ntmps117
  go_wp2_with (go_at_call 114; refine (cardRight_v c _ h).mono ?_; rintro e w' ⟨rfl, rfl⟩)
  go_ret
  exact ⟨by simp, rfl⟩
set_option maxHeartbeats 400000 in
theorem index_no (A : Option Addr) (cap : Nat) (xs : List Nat) (c : Nat) (w : World) (hl : xs.length ≤ 1000) (h : RdS w A xs) (hn : c ∉ xs) :
    Calls Try.prog 118 #[.slice A xs.length cap, .int .u8 c] w fun e w' => e = .returned (.int .i64 (-1)) ∧ w = w' := by
  obtain ⟨n, hn'⟩ : ∃ n, n = xs.length := ⟨_, rfl⟩
  have HN := Lib.hid hn'
  rw [← hn'] at hl ⊢
  clear hn'
  have H := Lib.hid h
  have HC := Lib.hid hn
  clear h hn
  go_enter Try.func118, Try.ntmps118
  go_wp2
  go_loop [8] (fun i => ∃ k : Nat, k ≤ n ∧ i = .int .i64 k) (fun i => n - (intOf i).toNat)
  case atStart => exact ⟨0, Nat.zero_le _, rfl⟩
  case round =>
    obtain ⟨k, hk, rfl⟩ := hrel
    by_cases hlt : k < n
    · obtain ⟨g, o, rfl, hc⟩ := H.out.pos (by rw [← HN.out]; omega)
      have hx : ∃ x, xs[k]? = some x := ⟨_, List.getElem?_eq_getElem (by rw [← HN.out]; exact hlt)⟩
      obtain ⟨x, hx⟩ := hx
      have hcx := hc k x hx
      have hne : ((c : Int) == (x : Int)) = false := by
        have : x ∈ xs := List.mem_of_getElem? hx
        have hcx : c ≠ x := fun e => HC.out (e ▸ this)
        rw [beq_eq_false_iff_ne]; omega
      clear hc hx
      go_wp2
      go_round
      case rel => exact ⟨k + 1, by omega, by go_num⟩
      case measure => simp [intOf]; omega
    · go_wp2
      go_ret
      exact ⟨rfl, rfl⟩
theorem contains_no (A : Option Addr) (cap : Nat) (xs : List Nat) (c : Nat) (w : World) (hl : xs.length ≤ 1000) (h : RdS w A xs) (hn : c ∉ xs) :
    Calls Try.prog 115 #[.slice A xs.length cap, .int .u8 c] w fun e w' => e = .returned (.bool false) ∧ w = w' := by
  have H := Lib.hid h
  have HC := Lib.hid hn
  clear h hn
  go_enter Try.func115, Try.ntmps115
  go_wp2_with (go_at_call 118; refine (index_no A cap xs c _ hl H.out HC.out).mono ?_; rintro e w' ⟨rfl, rfl⟩)
  go_ret
  exact ⟨rfl, rfl⟩
/-- A list of one to four cards, none twice. -/
structure Trick (xs : List Nat) : Prop where
  pos : 0 < xs.length
  le : xs.length ≤ 4
  card : ∀ x ∈ xs, x < 52
  nodup : xs.Nodup
theorem not_mem_take {xs : List Nat} (h : xs.Nodup) {k x : Nat} (hx : xs[k]? = some x) : x ∉ xs.take k := by
  intro hm
  obtain ⟨j, hj⟩ := List.mem_iff_getElem?.1 hm
  rw [List.getElem?_take] at hj
  split at hj
  · rename_i hlt
    have h1 := (List.getElem?_eq_some_iff.1 hx)
    have h2 := (List.getElem?_eq_some_iff.1 hj)
    have := (List.getElem_inj h).1 (h1.2.trans h2.2.symm)
    omega
  · cases hj
set_option maxHeartbeats 800000 in
theorem trickRight_v (A : Option Addr) (cap : Nat) (xs : List Nat) (w : World) (hcap : xs.length ≤ cap) (h : RdS w A xs) (ht : Trick xs) :
    Calls Try.prog 109 #[.slice A xs.length cap] w fun e w' => e = .returned (.bool true) ∧ w = w' := by
  obtain ⟨g, o, rfl, hc⟩ := h.pos ht.pos
  obtain ⟨n, hn'⟩ : ∃ n, n = xs.length := ⟨_, rfl⟩
  have hp := ht.pos
  have hl := ht.le
  rw [← hn'] at hcap hp hl ⊢
  have HN := Lib.hid hn'
  have H := Lib.hid h
  have HT := Lib.hid ht
  have HC := Lib.hid hc
  clear h ht hc hn'
  go_enter Try.func109, Try.ntmps109
  go_wp2
  go_loop [15] (fun i => ∃ k : Nat, k ≤ n ∧ i = .int .i64 k) (fun i => n - (intOf i).toNat)
  case atStart => exact ⟨0, Nat.zero_le _, rfl⟩
  case round =>
    obtain ⟨k, hk, rfl⟩ := hrel
    by_cases hlt : k < n
    · have hx : ∃ x, xs[k]? = some x := ⟨_, List.getElem?_eq_getElem (by rw [← HN.out]; exact hlt)⟩
      obtain ⟨x, hx⟩ := hx
      have hcx := HC.out k x hx
      have hx52 := HT.out.card x (List.mem_of_getElem? hx)
      have hnm := not_mem_take HT.out.nodup hx
      have hlk : (xs.take k).length = k := by rw [List.length_take, ← HN.out]; omega
      have HNM := Lib.hid hnm
      have HLK := Lib.hid hlk
      clear hx hnm hlk
      have hct := fun W (h : RdS W (some ⟨g, o, none⟩) (xs.take k)) => contains_no (some ⟨g, o, none⟩) cap (xs.take k) x W (by rw [HLK.out]; omega) h HNM.out
      rw [HLK.out] at hct
      have HCT := Lib.hid hct
      clear hct
      go_wp2_with (first | (go_at_call 114; refine (cardRight_v x _ hx52).mono ?_; rintro e w' ⟨rfl, rfl⟩) | (go_at_call 115; refine (HCT.out _ (H.out.take k)).mono ?_; rintro e w' ⟨rfl, rfl⟩))
      go_round
      case rel => exact ⟨k + 1, by omega, by go_num⟩
      case measure => simp [intOf]; omega
    · go_wp2
      go_ret
      exact ⟨rfl, rfl⟩
end Go.Proofs
