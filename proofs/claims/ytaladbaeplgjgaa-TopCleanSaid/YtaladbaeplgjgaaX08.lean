/- seed.BelowNat: the closure that makes one number, draw, and the whole. -/
import Derived.Test.YtaladbaeplgjgaaX07
set_option linter.unusedSimpArgs false
set_option linter.unusedVariables false
namespace Go.Proofs
open Go.RowKit
attribute [local irreducible] lb
attribute [local go_sem] encN c32
theorem Mul_new (a b g : Nat) (W : World) (hg : g = W.heap.size) (ha : a < 340282366920938463463374607431768211456) (hb : b < 340282366920938463463374607431768211456) (h : a * b < 340282366920938463463374607431768211456) :
    Calls Try.prog 51 #[.slice (some ⟨g, 0, none⟩) 2 2] (W.alloc (.cells #[.int .u32 (lb a 0), .int .u32 (lb a 1), .int .u32 (lb a 2), .int .u32 (lb a 3), .int .u32 (lb b 0), .int .u32 (lb b 1), .int .u32 (lb b 2), .int .u32 (lb b 3)] 37))
      fun e w' => e = .returned (.tuple #[encN (a * b), .int .i64 0]) ∧ Below (W.alloc (.cells #[.int .u32 (lb a 0), .int .u32 (lb a 1), .int .u32 (lb a 2), .int .u32 (lb a 3), .int .u32 (lb b 0), .int .u32 (lb b 1), .int .u32 (lb b 2), .int .u32 (lb b 3)] 37)).heap.size (W.alloc (.cells #[.int .u32 (lb a 0), .int .u32 (lb a 1), .int .u32 (lb a 2), .int .u32 (lb a 3), .int .u32 (lb b 0), .int .u32 (lb b 1), .int .u32 (lb b 2), .int .u32 (lb b 3)] 37)) w' := by
  subst hg
  exact Mul_v a b W.heap.size (W.alloc (.cells #[.int .u32 (lb a 0), .int .u32 (lb a 1), .int .u32 (lb a 2), .int .u32 (lb a 3), .int .u32 (lb b 0), .int .u32 (lb b 1), .int .u32 (lb b 2), .int .u32 (lb b 3)] 37)) ha hb h (by simp) (by simp) (by simp) (by simp) (by simp) (by simp) (by simp) (by simp) (by simp)
def VV : Nat := 2147483646
theorem VV_pow (i : Nat) (h : i ≤ 4) : VV ^ i < 21267647892944572736998860269687930880 := by
  rcases (show i = 0 ∨ i = 1 ∨ i = 2 ∨ i = 3 ∨ i = 4 by omega) with rfl | rfl | rfl | rfl | rfl <;> decide
theorem VV_pos (i : Nat) : 0 < VV ^ i := Nat.pow_pos (by decide)
theorem VV_succ (i : Nat) : VV ^ (i + 1) = 2147483646 * VV ^ i := by rw [Nat.pow_succ, Nat.mul_comm]; rfl
set_option maxHeartbeats 1000000 in
set_option maxRecDepth 100000 in
theorem one_v (s : Int) (k bk bv bn be N E : Nat) (w : World) (hs : Seed s) (hk : k ≤ 4) (hN0 : 0 < N) (hN : N < 340282366920938463463374607431768211456) (hE : E < 340282366920938463463374607431768211456)
    [LtC bk w.heap.size] [LtC bv w.heap.size] [LtC bn w.heap.size] [LtC be w.heap.size]
    (ck : w.cell? ⟨bk, 0, none⟩ = some (.int .i64 k))
    (v0 : w.cell? ⟨bv, 0, none⟩ = some (.int .u32 (lb 2147483646 0))) (v1 : w.cell? ⟨bv, 1, none⟩ = some (.int .u32 (lb 2147483646 1))) (v2 : w.cell? ⟨bv, 2, none⟩ = some (.int .u32 (lb 2147483646 2))) (v3 : w.cell? ⟨bv, 3, none⟩ = some (.int .u32 (lb 2147483646 3)))
    (n0 : w.cell? ⟨bn, 0, none⟩ = some (.int .u32 (lb N 0))) (n1 : w.cell? ⟨bn, 1, none⟩ = some (.int .u32 (lb N 1))) (n2 : w.cell? ⟨bn, 2, none⟩ = some (.int .u32 (lb N 2))) (n3 : w.cell? ⟨bn, 3, none⟩ = some (.int .u32 (lb N 3)))
    (e0 : w.cell? ⟨be, 0, none⟩ = some (.int .u32 (lb E 0))) (e1 : w.cell? ⟨be, 1, none⟩ = some (.int .u32 (lb E 1))) (e2 : w.cell? ⟨be, 2, none⟩ = some (.int .u32 (lb E 2))) (e3 : w.cell? ⟨be, 3, none⟩ = some (.int .u32 (lb E 3))) :
    Calls Try.prog 76 #[.int .i64 s, .pointer (some ⟨bk, 0, none⟩), .pointer (some ⟨bv, 0, none⟩), .pointer (some ⟨bn, 0, none⟩), .pointer (some ⟨be, 0, none⟩)] w fun e w' =>
      ∃ (s' : Int) (x : Nat) (f : Bool), e = .returned (.tuple #[.int .i64 s', encN x, .bool f]) ∧ Seed s' ∧ Hid (x < N) ∧ Below w.heap.size w w' := by
  have HN := Lib.hid hN; have HE := Lib.hid hE
  clear hN hE
  go_enter Try.func76, Try.ntmps76
  go_wp2
  go_loopw [0, 20] (fun t i wr => ∃ (q : Int) (j S : Nat), t = .int .i64 q ∧ i = .int .i64 j ∧ j ≤ k ∧ Seed q ∧ Hid (S < VV ^ j) ∧ ∃ l d, wr = World.gar (((w.alloc (.cells #[.int .u32 0, .int .u32 0, .int .u32 0, .int .u32 0] 37)).alloc (.cells (c32 (lb S)) 37)).alloc (.cells (c32 (lb (VV ^ j))) 37)) l d) (fun _ i _ => k - (intOf i).toNat)
  case atStart =>
    refine ⟨s, 0, 0, rfl, rfl, by omega, hs, Lib.hid (by decide), [], w.drawn, ?_⟩
    have h0 : c32 (lb 0) = #[.int .u32 0, .int .u32 0, .int .u32 0, .int .u32 0] := by unfold c32; rw [lb0, lb1, lb2, lb3]; rfl
    have h1 : c32 (lb (VV ^ 0)) = #[.int .u32 1, .int .u32 0, .int .u32 0, .int .u32 0] := by unfold c32; rw [lb0, lb1, lb2, lb3]; rfl
    rw [h0, h1]
    exact World.gar_nil.symm
  case round =>
    obtain ⟨q, j, S, rfl, rfl, hj, hq, HS, l, d, rfl⟩ := hrel
    by_cases hjk : j < k
    · have hq1 := hq.1
      have hq2 := hq.2
      obtain ⟨U, hU⟩ : ∃ U, U = VV ^ j := ⟨_, rfl⟩
      rw [← hU] at HS ⊢
      have HU := Lib.hid hU
      clear hU
      simp only [c32]
      go_wp2_with fail
      refine (next_v q _ hq1 hq2).mono ?_
      rintro e w' ⟨rfl, rfl⟩
      have hn := nextS_ok hq
      generalize nextS q = q' at hn
      obtain ⟨hn1, hn2⟩ := hn
      go_wp2_with fail
      refine (Of_v (q' - 1) _ (by omega) (by omega)).mono ?_
      rintro e w' ⟨rfl, hb⟩
      obtain ⟨l1, d1, rfl⟩ := hb.gar
      clear hb
      obtain ⟨v, hv⟩ : ∃ v, v = (q' - 1).toNat := ⟨_, rfl⟩
      rw [← hv]
      have hv' : v < 2147483646 := by omega
      clear hv
      go_wp2_with fail
      have hU124 : U < 21267647892944572736998860269687930880 := by rw [HU.out]; exact VV_pow j (by omega)
      have hSU : S < U := HS.out
      have hVU : v * U ≤ 2147483645 * U := Nat.mul_le_mul_right U (by omega)
      have hU5 : 2147483646 * U < 340282366920938463463374607431768211456 := by
        have := VV_pow (j + 1) (by omega); rw [VV_succ, ← HU.out] at this; omega
      have HUs := Lib.hid hU124; have HSU := Lib.hid hSU; have HVU := Lib.hid hVU; have HU5 := Lib.hid hU5
      clear hU124 hSU hVU hU5
      refine (Mul_new v U _ _ (by simp) (by omega) (by have := HUs.out; omega) (by have := HVU.out; have := HU5.out; omega)).mono ?_
      rintro e w' ⟨rfl, hb⟩
      obtain ⟨l2, d2, rfl⟩ := hb.gar
      clear hb
      obtain ⟨P, hP⟩ : ∃ P, P = v * U := ⟨_, rfl⟩
      rw [← hP]
      have HP := Lib.hid hP
      clear hP
      go_wp2_with fail
      refine (Add_v S P _ (by have := HSU.out; have := HUs.out; omega) (by have := HP.out; have := HVU.out; have := HU5.out; omega) (by have := HSU.out; have := HP.out; have := HVU.out; have := HU5.out; omega)).mono ?_
      rintro e w' ⟨rfl, hb⟩
      obtain ⟨l3, d3, rfl⟩ := hb.gar
      clear hb
      obtain ⟨T, hT⟩ : ∃ T, T = S + P := ⟨_, rfl⟩
      rw [← hT]
      have HT := Lib.hid hT
      clear hT
      go_wp2_with fail
      refine (Mul_new U 2147483646 _ _ (by simp) (by have := HUs.out; omega) (by omega) (by have := HU5.out; omega)).mono ?_
      rintro e w' ⟨rfl, hb⟩
      obtain ⟨l4, d4, rfl⟩ := hb.gar
      clear hb
      obtain ⟨U2, hU2⟩ : ∃ U2, U2 = U * 2147483646 := ⟨_, rfl⟩
      rw [← hU2]
      have HU2 := Lib.hid hU2
      clear hU2
      go_wp2_with fail
      go_roundw
      case rel =>
        have e1 : VV ^ (j + 1) = U2 := by rw [VV_succ, ← HU.out, HU2.out, Nat.mul_comm]
        refine ⟨q', j + 1, T, rfl, by go_num, by omega, ⟨hn1, hn2⟩, Lib.hid ?_, ?_⟩
        · rw [e1, HU2.out, HT.out, HP.out]; have := HSU.out; have := HVU.out; omega
        · rw [e1]
          simp only [World.gar_alloc, World.gar_gar, World.gar_drewN, World.gar_drew]
          exact ⟨_, _, rfl⟩
      case measure => simp [intOf]; omega
    · obtain rfl : j = k := by omega
      obtain ⟨U, hU⟩ : ∃ U, U = VV ^ j := ⟨_, rfl⟩
      have hS1 : S < 340282366920938463463374607431768211456 := by have := HS.out; have := VV_pow j hk; omega
      rw [← hU]
      clear hU HS
      simp only [c32]
      have HS1 := Lib.hid hS1
      clear hS1
      go_wp2_with fail
      refine (Div_v S N _ HS1.out HN.out hN0).mono ?_
      rintro e w' ⟨rfl, hb⟩
      obtain ⟨l1, d1, rfl⟩ := hb.gar
      clear hb
      obtain ⟨Q, hQ⟩ : ∃ Q, Q = S / N := ⟨_, rfl⟩
      obtain ⟨R, hR⟩ : ∃ R, R = S % N := ⟨_, rfl⟩
      rw [← hQ, ← hR]
      have HR : Hid (R < N) := by rw [hR]; exact Lib.hid (Nat.mod_lt _ hN0)
      clear hQ hR
      go_wp2_with fail
      go_region_with (go_at_call 45; refine (cmp_h S E _ HS1.out HE.out).mono ?_; rintro e w' ⟨r, rfl, Hr, hb⟩; obtain ⟨l2, d2, rfl⟩ := hb.gar; clear hb)
      all_goals
        go_wp2
        refine bodyPost_ret (v := .tuple #[.int .i64 q, encN R, .bool (decide (r < 0))]) ?_ rfl ⟨q, R, _, rfl, hq, HR, ?_⟩
        · simp [results, Try.results76, go_sem, encN, c32]
        · simp only [World.alloc_gar, World.gar_gar, World.gar_drewN, World.gar_drew]; exact RowKit.Below.of_gar _ _ _
end Go.Proofs
