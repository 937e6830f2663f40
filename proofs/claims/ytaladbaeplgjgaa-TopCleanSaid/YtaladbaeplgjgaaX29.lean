/- deal.Ways, deal.Random -/
import Derived.Test.YtaladbaeplgjgaaX28
import Derived.Test.YtaladbaeplgjgaaX09
set_option linter.unusedSimpArgs false
set_option linter.unusedVariables false
namespace Go.Proofs
open Go.RowKit
attribute [local irreducible] lb
attribute [local go_sem] encN c32
set_option maxHeartbeats 2000000 in
set_option maxRecDepth 100000 in
theorem ways10_v (a b c d : Nat) (w : World) [Msk a] [Msk b] [Msk c] [Msk d] (h : Part a b c d) :
    Calls Try.prog 10 #[.agg #[.int .u64 a, .int .u64 b, .int .u64 c, .int .u64 d]] w fun e w' => ∃ (A0 A1 A2 : Nat),
      e = .returned (.tuple #[encN A0, .int .i64 0]) ∧
      Hid (A2 = C (13 - pc c + (13 - pc d)) (13 - pc c)) ∧ Hid (A1 = C (13 - pc b + (13 - pc c + (13 - pc d))) (13 - pc b) * A2) ∧
      Hid (A0 = C (13 - pc a + (13 - pc b + (13 - pc c + (13 - pc d)))) (13 - pc a) * A1) ∧ Below w.heap.size w w' := by
  have H := Lib.hid h
  clear h
  go_enter Try.func10, Try.ntmps10
  go_wp2_with fail
  refine (partial_v a b c d _ H.out).mono ?_
  rintro e w' ⟨rfl, hb⟩
  obtain ⟨l, d1, rfl⟩ := hb.gar
  clear hb
  go_wp2_with fail
  refine (ways_v a b c d _ H.out).mono ?_
  rintro e w' ⟨m0, m1, m2, A0, A1, A2, rfl, H2, H1, H0, hb⟩
  obtain ⟨l1, d2, rfl⟩ := hb.gar
  clear hb
  unfold encN4
  go_wp2_with fail
  refine bodyPost_ret (v := .tuple #[encN A0, .int .i64 0]) ?_ rfl ⟨A0, A1, A2, rfl, H2, H1, H0, ?_⟩
  · simp [results, Try.results10, go_sem, encN, c32]
  · simp only [World.alloc_gar, World.gar_gar, World.gar_drewN, World.gar_drew]; exact RowKit.Below.of_gar _ _ _
theorem ways_bd {pa pb pq pd A0 A1 A2 : Nat} (H2 : A2 = C (13 - pq + (13 - pd)) (13 - pq)) (H1 : A1 = C (13 - pb + (13 - pq + (13 - pd))) (13 - pb) * A2) (H0 : A0 = C (13 - pa + (13 - pb + (13 - pq + (13 - pd)))) (13 - pa) * A1) :
    0 < A0 ∧ A0 ≤ 1329227995784915872903807060280344576 := by
  have h2 : A2 ≤ 67108864 := by rw [H2]; exact Nat.le_trans (C_le _ _) (Nat.pow_le_pow_right (n := 2) (by decide) (by omega : _ ≤ 26))
  have h1 : A1 ≤ 36893488147419103232 := by
    rw [H1]
    exact Nat.mul_le_mul (Nat.le_trans (C_le _ _) (Nat.pow_le_pow_right (n := 2) (by decide) (by omega : _ ≤ 39)) : _ ≤ 549755813888) h2
  have h0 : A0 ≤ 166153499473114484112975882535043072 := by
    rw [H0]
    exact Nat.mul_le_mul (Nat.le_trans (C_le _ _) (Nat.pow_le_pow_right (n := 2) (by decide) (by omega : _ ≤ 52)) : _ ≤ 4503599627370496) h1
  refine ⟨?_, by omega⟩
  rw [H0, H1, H2]
  exact Nat.mul_pos (C_pos _ _ (by omega)) (Nat.mul_pos (C_pos _ _ (by omega)) (C_pos _ _ (by omega)))
set_option maxHeartbeats 2000000 in
set_option maxRecDepth 100000 in
theorem random_v (s : Int) (a b c d : Nat) (w : World) [Msk a] [Msk b] [Msk c] [Msk d] (hs : Seed s) (h : Part a b c d) :
    Calls Try.prog 5 #[.int .i64 s, .agg #[.int .u64 a, .int .u64 b, .int .u64 c, .int .u64 d]] w fun e w' => ∃ (s' : Int) (A B C D : Nat),
      e = .returned (.tuple #[.int .i64 s', .agg #[.int .u64 A, .int .u64 B, .int .u64 C, .int .u64 D], .int .i64 0]) ∧ Hid (Seed s') ∧ Full A B C D ∧ Below w.heap.size w w' := by
  have H := Lib.hid h
  have HS := Lib.hid hs
  clear h hs
  go_enter Try.func5, Try.ntmps5
  go_wp2_with fail
  refine (seedRight_v s _ HS.out.1 HS.out.2).mono ?_
  rintro e w' ⟨rfl, rfl⟩
  go_wp2_with fail
  refine (ways10_v a b c d _ H.out).mono ?_
  rintro e w' ⟨A0, A1, A2, rfl, H2, H1, H0, hb⟩
  obtain ⟨l1, d1, rfl⟩ := hb.gar
  clear hb
  have HB := Lib.hid (ways_bd H2.out H1.out H0.out)
  simp only [encN, c32]
  go_wp2_with fail
  refine (belowNat_v s A0 _ HS.out HB.out.1 HB.out.2).mono ?_
  rintro e w' ⟨s', x, rfl, hs', Hx, hb⟩
  obtain ⟨l2, d2, rfl⟩ := hb.gar
  clear hb
  have HS' := Lib.hid hs'
  clear hs'
  simp only [encN, c32]
  go_wp2_with fail
  refine (complete_v a b c d x _ H.out (by have := Hx.out; rw [H0.out, H1.out, H2.out] at this; exact this)).mono ?_
  rintro e w' ⟨s0, R0, R1, R2, s1, s2, s3, B1, B2, rfl, -, -, -, -, -, -, -, -, -, hF, hb⟩
  obtain ⟨l3, d3, rfl⟩ := hb.gar
  clear hb
  generalize a ||| R0 = A at *
  generalize b ||| R1 = B at *
  generalize c ||| R2 = C' at *
  generalize d ||| s3 = D at *
  have HF := Lib.hid hF
  clear hF
  go_wp2_with fail
  go_region
  all_goals
    go_wp2_with fail
    refine bodyPost_ret (v := .tuple #[.int .i64 s', .agg #[.int .u64 A, .int .u64 B, .int .u64 C', .int .u64 D], .int .i64 0]) ?_ rfl ⟨s', A, B, C', D, rfl, HS', HF.out, ?_⟩
    · simp [results, Try.results5, go_sem]
    · simp only [World.alloc_gar, World.gar_gar, World.gar_drewN, World.gar_drew]; exact RowKit.Below.of_gar _ _ _
theorem part_zero : Part 0 0 0 0 := ⟨by decide, by decide, by decide, by rw [pc_zero]; omega, by rw [pc_zero]; omega, by rw [pc_zero]; omega, by rw [pc_zero]; omega⟩
theorem random0_v (s : Int) (w : World) (hs : Seed s) :
    Calls Try.prog 5 #[.int .i64 s, .agg #[.int .u64 0, .int .u64 0, .int .u64 0, .int .u64 0]] w fun e w' => ∃ (s' : Int) (A B C D : Nat),
      e = .returned (.tuple #[.int .i64 s', .agg #[.int .u64 A, .int .u64 B, .int .u64 C, .int .u64 D], .int .i64 0]) ∧ Hid (Seed s') ∧ Full A B C D ∧ Below w.heap.size w w' :=
  random_v s 0 0 0 0 w hs part_zero
end Go.Proofs
