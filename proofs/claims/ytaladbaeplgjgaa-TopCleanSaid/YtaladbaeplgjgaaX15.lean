/- deal.ways -/
import Derived.Test.YtaladbaeplgjgaaX10
import Derived.Test.YtaladbaeplgjgaaX14
import Derived.BigRegion
import Derived.Deep.DeepCutAuto
import Derived.Deep.CutBlock
set_option linter.unusedSimpArgs false
set_option linter.unusedVariables false
namespace Go.Proofs
open Go.RowKit
attribute [local irreducible] lb
attribute [local go_sem] encN c32
@[simp, go_sem] theorem World.heap_drew (w : World) : w.drew.heap = w.heap := rfl
@[simp, go_sem] theorem World.heap_drewN (w : World) (n : Nat) : (w.drewN n).heap = w.heap := rfl
def encN4 (a b c d : Nat) : Value := .agg #[.int .u32 (lb a 0), .int .u32 (lb a 1), .int .u32 (lb a 2), .int .u32 (lb a 3), .int .u32 (lb b 0), .int .u32 (lb b 1), .int .u32 (lb b 2), .int .u32 (lb b 3), .int .u32 (lb c 0), .int .u32 (lb c 1), .int .u32 (lb c 2), .int .u32 (lb c 3), .int .u32 (lb d 0), .int .u32 (lb d 1), .int .u32 (lb d 2), .int .u32 (lb d 3)]
theorem choose_i (n k : Int) (w : World) (hn0 : 0 ≤ n) (hn : n ≤ 62) (hk0 : 0 ≤ k) (hk2 : k ≤ 1000) :
    Calls Try.prog 49 #[.int .i64 n, .int .i64 k] w fun e w' => ∃ c : Int, e = .returned (.int .i64 c) ∧ Hid (c = (C n.toNat k.toNat : Nat)) ∧ Below w.heap.size w w' := by
  obtain ⟨n, rfl⟩ := Int.eq_ofNat_of_zero_le hn0
  obtain ⟨k, rfl⟩ := Int.eq_ofNat_of_zero_le hk0
  exact choose_v n k w (by omega) (by omega)
theorem dealOf_h (n : Int) (B : Nat) (w : World) (hB : Hid (n.toNat = B)) (h1 : 0 ≤ n) (h2 : n < 9223372036854775808) :
    Calls Try.prog 52 #[.int .i64 n] w fun e w' => e = .returned (encN B) ∧ Below w.heap.size w w' := by
  rw [← hB.out]; exact dealOf_v n w h1 h2
theorem Part.left {a b c d : Nat} [Msk a] [Msk b] [Msk c] [Msk d] (h : Part a b c d) : pc (andn 4503599627370495 (a ||| b ||| c ||| d)) = (13 - pc a) + (13 - pc b) + (13 - pc c) + (13 - pc d) := by
  rw [pc_compl, pc_or _ _ h.ad, pc_or _ _ h.ac, pc_or _ _ h.ab]
  have := h.a13; have := h.b13; have := h.c13; have := h.d13
  omega
set_option maxHeartbeats 0 in
set_option maxRecDepth 100000 in
theorem ways_v (a b c d : Nat) (w : World) [Msk a] [Msk b] [Msk c] [Msk d] (h : Part a b c d) :
    Calls Try.prog 40 #[.agg #[.int .u64 a, .int .u64 b, .int .u64 c, .int .u64 d]] w fun e w' => ∃ (m0 m1 m2 : Int) (A0 A1 A2 : Nat),
      e = .returned (.tuple #[.agg #[.int .i64 m0, .int .i64 m1, .int .i64 m2], encN4 A0 A1 A2 1]) ∧
      Hid (A2 = C (13 - pc c + (13 - pc d)) (13 - pc c)) ∧ Hid (A1 = C (13 - pc b + (13 - pc c + (13 - pc d))) (13 - pc b) * A2) ∧
      Hid (A0 = C (13 - pc a + (13 - pc b + (13 - pc c + (13 - pc d)))) (13 - pc a) * A1) ∧ Below w.heap.size w w' := by
  have hl := h.left
  have h4 := h.a13; have h5 := h.b13; have h6 := h.c13; have h7 := h.d13
  clear h
  have Hl := Lib.hid hl
  clear hl
  go_enter Try.func40, Try.ntmps40
  go_wp2_with fail
  refine (left_v a b c d _).mono ?_
  rintro e w' ⟨rfl, hb⟩
  obtain ⟨l, d1, rfl⟩ := hb.gar
  clear hb
  go_wp2_with fail
  refine (ones_m _ _).mono ?_
  rintro e w' ⟨n, rfl, Hn, rfl⟩
  have Hn1 : Hid (n = (13 - pc a) + (13 - pc b) + (13 - pc c) + (13 - pc d)) := Lib.hid (by rw [Hn.out, Hl.out])
  clear Hl Hn
  generalize hpa : pc a = pa at *
  generalize hpb : pc b = pb at *
  generalize hpc : pc c = pq at *
  generalize hpd : pc d = pd at *
  have Hpa := Lib.hid hpa; have Hpb := Lib.hid hpb; have Hpq := Lib.hid hpc; have Hpd := Lib.hid hpd
  clear hpa hpb hpc hpd
  obtain ⟨N, hN⟩ : ∃ N : Int, N = n := ⟨_, rfl⟩
  rw [← hN]
  have hN0 : 0 ≤ N := by omega
  have HN : Hid (N = (13 - pa : Nat) + (13 - pb : Nat) + (13 - pq : Nat) + (13 - pd : Nat)) := Lib.hid (by rw [hN, Hn1.out]; omega)
  have hN52 : N ≤ 52 := by have := HN.out; omega
  clear hN Hn1
  go_wp2_with fail
  refine wp_loop_rounds 4 ?_
  rw [rounds_succ]
  go_wp2_with fail
  refine (ones_m a _).mono ?_
  rintro e w' ⟨n0, rfl, Hn0, rfl⟩
  obtain ⟨q0, hq0⟩ : ∃ q : Int, q = 13 - (n0 : Int) := ⟨_, rfl⟩
  have Hq0 : Hid (q0 = (13 - pa : Nat)) := Lib.hid (by have h1 := Hn0.out; rw [Hpa.out] at h1; omega)
  have hq00 : 0 ≤ q0 := by have := Hq0.out; omega
  have hq01 : q0 ≤ 13 := by have := Hq0.out; omega
  have hn01 : n0 ≤ 13 := by omega
  have hq02 : q0 ≤ N := by have h1 := Hq0.out; have h2 := HN.out; omega
  go_wp2_with (rw [← hq0])
  clear hq0 Hn0
  refine (choose_i N q0 _ (by omega) (by omega) (by omega) (by omega)).mono ?_
  rintro e w' ⟨c0, rfl, Hc0, hb⟩
  obtain ⟨lc0, dc0, rfl⟩ := hb.gar
  clear hb
  go_wp2_with fail
  obtain ⟨N1, hN1⟩ : ∃ N' : Int, N' = N - q0 := ⟨_, rfl⟩
  have hN10 : 0 ≤ N1 := by omega
  have hN11 : N1 ≤ 52 := by omega
  rw [← hN1]
  have HN1 := Lib.hid hN1
  clear hN1
  rw [rounds_succ]
  go_wp2_with fail
  refine (ones_m b _).mono ?_
  rintro e w' ⟨n1, rfl, Hn1, rfl⟩
  obtain ⟨q1, hq1⟩ : ∃ q : Int, q = 13 - (n1 : Int) := ⟨_, rfl⟩
  have Hq1 : Hid (q1 = (13 - pb : Nat)) := Lib.hid (by have h1 := Hn1.out; rw [Hpb.out] at h1; omega)
  have hq10 : 0 ≤ q1 := by have := Hq1.out; omega
  have hq11 : q1 ≤ 13 := by have := Hq1.out; omega
  have hn11 : n1 ≤ 13 := by omega
  have hq12 : q1 ≤ N1 := by have h1 := Hq1.out; have h2 := HN.out; have h3 := HN1.out; have h4 := Hq0.out; omega
  go_wp2_with (rw [← hq1])
  clear hq1 Hn1
  refine (choose_i N1 q1 _ (by omega) (by omega) (by omega) (by omega)).mono ?_
  rintro e w' ⟨c1, rfl, Hc1, hb⟩
  obtain ⟨lc1, dc1, rfl⟩ := hb.gar
  clear hb
  go_wp2_with fail
  obtain ⟨N2, hN2⟩ : ∃ N' : Int, N' = N1 - q1 := ⟨_, rfl⟩
  have hN20 : 0 ≤ N2 := by omega
  have hN21 : N2 ≤ 52 := by omega
  rw [← hN2]
  have HN2 := Lib.hid hN2
  clear hN2
  rw [rounds_succ]
  go_wp2_with fail
  refine (ones_m c _).mono ?_
  rintro e w' ⟨n2, rfl, Hn2, rfl⟩
  obtain ⟨q2, hq2⟩ : ∃ q : Int, q = 13 - (n2 : Int) := ⟨_, rfl⟩
  have Hq2 : Hid (q2 = (13 - pq : Nat)) := Lib.hid (by have h1 := Hn2.out; rw [Hpq.out] at h1; omega)
  have hq20 : 0 ≤ q2 := by have := Hq2.out; omega
  have hq21 : q2 ≤ 13 := by have := Hq2.out; omega
  have hn21 : n2 ≤ 13 := by omega
  have hq22 : q2 ≤ N2 := by have h1 := Hq2.out; have h2 := HN.out; have h3 := HN2.out; have h4 := Hq1.out; have h5 := HN1.out; have h6 := Hq0.out; omega
  go_wp2_with (rw [← hq2])
  clear hq2 Hn2
  refine (choose_i N2 q2 _ (by omega) (by omega) (by omega) (by omega)).mono ?_
  rintro e w' ⟨c2, rfl, Hc2, hb⟩
  obtain ⟨lc2, dc2, rfl⟩ := hb.gar
  clear hb
  go_wp2_with fail
  obtain ⟨N3, hN3⟩ : ∃ N' : Int, N' = N2 - q2 := ⟨_, rfl⟩
  have hN30 : 0 ≤ N3 := by omega
  have hN31 : N3 ≤ 52 := by omega
  rw [← hN3]
  have HN3 := Lib.hid hN3
  clear hN3
  rw [rounds_succ]
  go_wp2_with fail
  have Hb2 : Hid (c2.toNat = C (13 - pq + (13 - pd)) (13 - pq)) := Lib.hid (by
    have e1 : N2.toNat = 13 - pq + (13 - pd) := by have := HN.out; have := HN1.out; have := HN2.out; have := Hq0.out; have := Hq1.out; omega
    have e2 : q2.toNat = 13 - pq := by have := Hq2.out; omega
    rw [Hc2.out, e1, e2, Int.toNat_natCast])
  have Hb1 : Hid (c1.toNat = C (13 - pb + (13 - pq + (13 - pd))) (13 - pb)) := Lib.hid (by
    have e1 : N1.toNat = 13 - pb + (13 - pq + (13 - pd)) := by have := HN.out; have := HN1.out; have := Hq0.out; omega
    have e2 : q1.toNat = 13 - pb := by have := Hq1.out; omega
    rw [Hc1.out, e1, e2, Int.toNat_natCast])
  have Hb0 : Hid (c0.toNat = C (13 - pa + (13 - pb + (13 - pq + (13 - pd)))) (13 - pa)) := Lib.hid (by
    have e1 : N.toNat = 13 - pa + (13 - pb + (13 - pq + (13 - pd))) := by have := HN.out; omega
    have e2 : q0.toNat = 13 - pa := by have := Hq0.out; omega
    rw [Hc0.out, e1, e2, Int.toNat_natCast])
  have Hs2 : Hid (0 ≤ c2 ∧ c2.toNat ≤ 67108864) := Lib.hid ⟨by rw [Hc2.out]; omega, by rw [Hb2.out]; exact Nat.le_trans (C_le _ _) (Nat.pow_le_pow_right (n := 2) (by decide) (by omega : _ ≤ 26))⟩
  have Hs1 : Hid (0 ≤ c1 ∧ c1.toNat ≤ 549755813888) := Lib.hid ⟨by rw [Hc1.out]; omega, by rw [Hb1.out]; exact Nat.le_trans (C_le _ _) (Nat.pow_le_pow_right (n := 2) (by decide) (by omega : _ ≤ 39))⟩
  have Hs0 : Hid (0 ≤ c0 ∧ c0.toNat ≤ 4503599627370496) := Lib.hid ⟨by rw [Hc0.out]; omega, by rw [Hb0.out]; exact Nat.le_trans (C_le _ _) (Nat.pow_le_pow_right (n := 2) (by decide) (by omega : _ ≤ 52))⟩
  clear Hc0 Hc1 Hc2
  obtain ⟨B0, hB0⟩ : ∃ B, c0.toNat = B := ⟨_, rfl⟩
  obtain ⟨B1, hB1⟩ : ∃ B, c1.toNat = B := ⟨_, rfl⟩
  obtain ⟨B2, hB2⟩ : ∃ B, c2.toNat = B := ⟨_, rfl⟩
  have HB0 := Lib.hid hB0; have HB1 := Lib.hid hB1; have HB2 := Lib.hid hB2
  clear hB0 hB1 hB2
  refine (dealOf_v 1 _ (by omega) (by omega)).mono ?_
  rintro e w' ⟨rfl, hb⟩
  obtain ⟨l3, d3, rfl⟩ := hb.gar
  clear hb
  rw [show (1 : Int).toNat = 1 from rfl]
  go_upto_block 2 with fail
  go_cut [9] (fun t9 wr => ∃ (X0 X1 X2 : Nat), Hid (X2 = B2 * 1) ∧ Hid (X1 = B1 * X2) ∧ Hid (X0 = B0 * X1) ∧ ∃ ll dd, wr = ((((((((w.alloc (.cells #[.int .u64 a, .int .u64 b, .int .u64 c, .int .u64 d] 26)).alloc (.cells #[.int .i64 0, .int .i64 0, .int .i64 0] 96)).alloc (.cells #[.int .u32 0, .int .u32 0, .int .u32 0, .int .u32 0, .int .u32 0, .int .u32 0, .int .u32 0, .int .u32 0, .int .u32 0, .int .u32 0, .int .u32 0, .int .u32 0, .int .u32 0, .int .u32 0, .int .u32 0, .int .u32 0] 97)).gar l d1).alloc (.cells #[.int .i64 c0, .int .i64 c1, .int .i64 c2] 96)).gar (lc0 ++ (lc1 ++ (lc2 ++ l3))) d3).alloc (.cells #[.int .u32 (lb X0 0), .int .u32 (lb X0 1), .int .u32 (lb X0 2), .int .u32 (lb X0 3), .int .u32 (lb X1 0), .int .u32 (lb X1 1), .int .u32 (lb X1 2), .int .u32 (lb X1 3), .int .u32 (lb X2 0), .int .u32 (lb X2 1), .int .u32 (lb X2 2), .int .u32 (lb X2 3), .int .u32 (lb 1 0), .int .u32 (lb 1 1), .int .u32 (lb 1 2), .int .u32 (lb 1 3)] 97)).gar ll dd))
  case first =>
    go_wp2_with fail
    go_loopw [9] (fun t9 wr => ∃ (k : Int) (X0 X1 X2 : Nat), t9 = .int .i64 k ∧ -1 ≤ k ∧ k ≤ 2 ∧ Hid (k < 2 → X2 = B2 * 1) ∧ Hid (k < 1 → X1 = B1 * X2) ∧ Hid (k < 0 → X0 = B0 * X1) ∧ ∃ ll dd, wr = ((((((((w.alloc (.cells #[.int .u64 a, .int .u64 b, .int .u64 c, .int .u64 d] 26)).alloc (.cells #[.int .i64 0, .int .i64 0, .int .i64 0] 96)).alloc (.cells #[.int .u32 0, .int .u32 0, .int .u32 0, .int .u32 0, .int .u32 0, .int .u32 0, .int .u32 0, .int .u32 0, .int .u32 0, .int .u32 0, .int .u32 0, .int .u32 0, .int .u32 0, .int .u32 0, .int .u32 0, .int .u32 0] 97)).gar l d1).alloc (.cells #[.int .i64 c0, .int .i64 c1, .int .i64 c2] 96)).gar (lc0 ++ (lc1 ++ (lc2 ++ l3))) d3).alloc (.cells #[.int .u32 (lb X0 0), .int .u32 (lb X0 1), .int .u32 (lb X0 2), .int .u32 (lb X0 3), .int .u32 (lb X1 0), .int .u32 (lb X1 1), .int .u32 (lb X1 2), .int .u32 (lb X1 3), .int .u32 (lb X2 0), .int .u32 (lb X2 1), .int .u32 (lb X2 2), .int .u32 (lb X2 3), .int .u32 (lb 1 0), .int .u32 (lb 1 1), .int .u32 (lb 1 2), .int .u32 (lb 1 3)] 97)).gar ll dd)) (fun t9 _ => (intOf t9 + 1).toNat)
    case atStart =>
      refine ⟨2, 0, 0, 0, rfl, by omega, by omega, Lib.hid (by omega), Lib.hid (by omega), Lib.hid (by omega), [], d3, ?_⟩
      have z0 : lb 0 0 = 0 := by rw [lb0]; rfl
      have z1 : lb 0 1 = 0 := by rw [lb1]; rfl
      have z2 : lb 0 2 = 0 := by rw [lb2]; rfl
      have z3 : lb 0 3 = 0 := by rw [lb3]; rfl
      rw [z0, z1, z2, z3]
      exact World.gar_nil.symm
    case round =>
      obtain ⟨k, X0, X1, X2, rfl, hk0, hk2, HX2, HX1, HX0, ll, dd, rfl⟩ := hrel
      rcases (show k = 2 ∨ k = 1 ∨ k = 0 ∨ k = -1 by omega) with rfl | rfl | rfl | rfl
      · have hA : (1 : Nat) ≤ 1 := Nat.le_refl 1
        have HA := Lib.hid hA
        clear hA
        have HM : Hid (1 * B2 ≤ 67108864) := Lib.hid (by
          have h1 := HA.out
          have h2 := Hs2.out.2
          rw [HB2.out] at h2
          exact Nat.mul_le_mul h1 h2)
        obtain ⟨P, hP⟩ : ∃ P, P = 1 * B2 := ⟨_, rfl⟩
        have HP := Lib.hid hP
        clear hP
        go_wp2_with fail
        go_region_with (first | (go_at_call 52; refine (dealOf_h c2 B2 _ HB2 Hs2.out.1 (by have := Hs2.out.1; have := Hs2.out.2; omega)).mono ?_; rintro e w' ⟨rfl, hb⟩; obtain ⟨lx, dx, rfl⟩ := hb.gar; clear hb) | (go_at_call 51; refine (Mul_new 1 B2 _ _ (by simp) (by have := HA.out; omega) (by have h1 := Hs2.out.2; rw [HB2.out] at h1; omega) (by have := HM.out; omega)).mono ?_; rw [← HP.out]; rintro e w' ⟨rfl, hb⟩; obtain ⟨ly, dy, rfl⟩ := hb.gar; clear hb))
        all_goals
          go_wp2_with fail
          go_roundw
          case rel =>
            refine ⟨1, X0, X1, P, rfl, by omega, by omega, Lib.hid (fun _ => by rw [HP.out, Nat.mul_comm]), Lib.hid (by omega), Lib.hid (by omega), ll ++ (lx ++ (.cells #[.int .u32 (lb 1 0), .int .u32 (lb 1 1), .int .u32 (lb 1 2), .int .u32 (lb 1 3), .int .u32 (lb B2 0), .int .u32 (lb B2 1), .int .u32 (lb B2 2), .int .u32 (lb B2 3)] 37 :: ly)), dy, ?_⟩
            simp [World.gar_alloc, World.gar_gar, World.gar_drewN, World.gar_drew]
          case measure => simp [intOf]
      · have hA : X2 ≤ 67108864 := by have h3 := Hs2.out.2; rw [HB2.out] at h3; have h4 := HX2.out (by omega); omega
        have HA := Lib.hid hA
        clear hA
        have HM : Hid (X2 * B1 ≤ 36893488147419103232) := Lib.hid (by
          have h1 := HA.out
          have h2 := Hs1.out.2
          rw [HB1.out] at h2
          exact Nat.mul_le_mul h1 h2)
        obtain ⟨P, hP⟩ : ∃ P, P = X2 * B1 := ⟨_, rfl⟩
        have HP := Lib.hid hP
        clear hP
        go_wp2_with fail
        go_region_with (first | (go_at_call 52; refine (dealOf_h c1 B1 _ HB1 Hs1.out.1 (by have := Hs1.out.1; have := Hs1.out.2; omega)).mono ?_; rintro e w' ⟨rfl, hb⟩; obtain ⟨lx, dx, rfl⟩ := hb.gar; clear hb) | (go_at_call 51; refine (Mul_new X2 B1 _ _ (by simp) (by have := HA.out; omega) (by have h1 := Hs1.out.2; rw [HB1.out] at h1; omega) (by have := HM.out; omega)).mono ?_; rw [← HP.out]; rintro e w' ⟨rfl, hb⟩; obtain ⟨ly, dy, rfl⟩ := hb.gar; clear hb))
        all_goals
          go_wp2_with fail
          go_roundw
          case rel =>
            refine ⟨0, X0, P, X2, rfl, by omega, by omega, Lib.hid (fun _ => HX2.out (by omega)), Lib.hid (fun _ => by rw [HP.out, Nat.mul_comm]), Lib.hid (by omega), ll ++ (lx ++ (.cells #[.int .u32 (lb X2 0), .int .u32 (lb X2 1), .int .u32 (lb X2 2), .int .u32 (lb X2 3), .int .u32 (lb B1 0), .int .u32 (lb B1 1), .int .u32 (lb B1 2), .int .u32 (lb B1 3)] 37 :: ly)), dy, ?_⟩
            simp [World.gar_alloc, World.gar_gar, World.gar_drewN, World.gar_drew]
          case measure => simp [intOf]
      · have hA : X1 ≤ 36893488147419103232 := by
          have h3 := Hs2.out.2
          rw [HB2.out] at h3
          have h4 := HX2.out (by omega)
          have h5 := HX1.out (by omega)
          have h6 := Hs1.out.2
          rw [HB1.out] at h6
          have h7 : X2 ≤ 67108864 := by omega
          rw [h5, Nat.mul_comm]
          exact Nat.mul_le_mul h7 h6
        have HA := Lib.hid hA
        clear hA
        have HM : Hid (X1 * B0 ≤ 166153499473114484112975882535043072) := Lib.hid (by
          have h1 := HA.out
          have h2 := Hs0.out.2
          rw [HB0.out] at h2
          exact Nat.mul_le_mul h1 h2)
        obtain ⟨P, hP⟩ : ∃ P, P = X1 * B0 := ⟨_, rfl⟩
        have HP := Lib.hid hP
        clear hP
        go_wp2_with fail
        go_region_with (first | (go_at_call 52; refine (dealOf_h c0 B0 _ HB0 Hs0.out.1 (by have := Hs0.out.1; have := Hs0.out.2; omega)).mono ?_; rintro e w' ⟨rfl, hb⟩; obtain ⟨lx, dx, rfl⟩ := hb.gar; clear hb) | (go_at_call 51; refine (Mul_new X1 B0 _ _ (by simp) (by have := HA.out; omega) (by have h1 := Hs0.out.2; rw [HB0.out] at h1; omega) (by have := HM.out; omega)).mono ?_; rw [← HP.out]; rintro e w' ⟨rfl, hb⟩; obtain ⟨ly, dy, rfl⟩ := hb.gar; clear hb))
        all_goals
          go_wp2_with fail
          go_roundw
          case rel =>
            refine ⟨-1, P, X1, X2, rfl, by omega, by omega, Lib.hid (fun _ => HX2.out (by omega)), Lib.hid (fun _ => HX1.out (by omega)), Lib.hid (fun _ => by rw [HP.out, Nat.mul_comm]), ll ++ (lx ++ (.cells #[.int .u32 (lb X1 0), .int .u32 (lb X1 1), .int .u32 (lb X1 2), .int .u32 (lb X1 3), .int .u32 (lb B0 0), .int .u32 (lb B0 1), .int .u32 (lb B0 2), .int .u32 (lb B0 3)] 37 :: ly)), dy, ?_⟩
            simp [World.gar_alloc, World.gar_gar, World.gar_drewN, World.gar_drew]
          case measure => simp [intOf]
      · go_wp2_with fail
        go_meet
        exact ⟨X0, X1, X2, Lib.hid (HX2.out (by omega)), Lib.hid (HX1.out (by omega)), Lib.hid (HX0.out (by omega)), ll, dd, rfl⟩
  case rest =>
    obtain ⟨X0, X1, X2, HX2, HX1, HX0, ll, dd, rfl⟩ := hcut
    go_wp2_with fail
    go_region
    all_goals
      go_wp2
      refine bodyPost_ret (v := .tuple #[.agg #[.int .i64 c0, .int .i64 c1, .int .i64 c2], encN4 X0 X1 X2 1]) ?_ rfl ⟨c0, c1, c2, X0, X1, X2, rfl, Lib.hid ?_, Lib.hid ?_, Lib.hid ?_, ?_⟩
      · unfold encN4
        exact results40_of _ _ _ _ _ _ rfl rfl (by simp only [World.heap_drew, World.heap_gar_past', World.heap_alloc_past, World.heap_alloc_at, World.size_gar, World.size_alloc, lt_of_ltC, ne_of_ltC]) (by simp only [World.heap_drew, World.heap_gar_past', World.heap_alloc_past, World.heap_alloc_at, World.size_gar, World.size_alloc, lt_of_ltC, ne_of_ltC]) rfl rfl
      · rw [HX2.out, ← HB2.out, Hb2.out, Nat.mul_one, Hpq.out, Hpd.out]
      · rw [HX1.out, ← HB1.out, Hb1.out, Hpb.out, Hpq.out, Hpd.out]
      · rw [HX0.out, ← HB0.out, Hb0.out, Hpa.out, Hpb.out, Hpq.out, Hpd.out]
      · simp only [World.alloc_gar, World.gar_gar, World.gar_drewN, World.gar_drew]; exact RowKit.Below.of_gar _ _ _
end Go.Proofs
