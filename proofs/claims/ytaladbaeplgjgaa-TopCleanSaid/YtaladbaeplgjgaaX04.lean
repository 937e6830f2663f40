/- nat.div: the walk. -/
import Derived.Test.YtaladbaeplgjgaaX03
import Derived.Deep.RegionHeld3
set_option linter.unusedSimpArgs false
set_option linter.unusedVariables false
namespace Go.Proofs
open Go.RowKit
def Z4 : Array Value := #[.int .u32 0, .int .u32 0, .int .u32 0, .int .u32 0]
set_option maxHeartbeats 4000000 in
set_option maxRecDepth 100000 in
theorem div_x (A B : Nat) (w : World) (hA : A < 340282366920938463463374607431768211456) (hB : B < 340282366920938463463374607431768211456) (hB0 : 0 < B) :
   Calls Try.prog 80 #[encN A, encN B] w fun e w' => e = .returned (.tuple #[encN (A / B), encN (A % B)]) ∧ Below w.heap.size w w' := by
  simp only [encN, c32]
  go_enter Try.func80, Try.ntmps80
  go_wp2
  go_loopw [8] (fun i wr => ∃ m : Nat, m ≤ 128 ∧ i = .int .i64 ((m : Int) - 1) ∧ ∃ l d, wr = World.gar ((((((w.alloc (.cells (c32 (lb A)) 37)).alloc (.cells (c32 (lb B)) 37)).alloc (.cells Z4 37)).alloc (.cells Z4 37)).alloc (.cells (c32 (lb (dQ A B m))) 37)).alloc (.cells (c32 (lb (dR A B m))) 37)) l d) (fun i _ => (intOf i + 1).toNat)
  case atStart =>
    refine ⟨128, by omega, rfl, [], w.drawn, ?_⟩
    have e1 : dQ A B 128 = 0 := by unfold dQ; rw [Nat.div_eq_of_lt (by omega), Nat.zero_mul]
    have e2 : dR A B 128 = 0 := by unfold dR; rw [Nat.div_eq_of_lt (by omega)]; exact Nat.zero_mod _
    rw [e1, e2]
    exact World.gar_nil.symm
  case round =>
    obtain ⟨m, hm, rfl, l, d, rfl⟩ := hrel
    by_cases hm0 : m = 0
    · subst hm0
      simp only [c32, Z4]
      go_wp2
      go_region
      go_wp2
      refine bodyPost_ret (v := .tuple #[encN (dQ A B 0), encN (dR A B 0)]) ?_ rfl ⟨?_, ?_⟩
      · simp [results, Try.results80, go_sem, encN, c32]
      · rw [show dQ A B 0 = A / B by unfold dQ; rw [Nat.pow_zero, Nat.div_one, Nat.mul_one], show dR A B 0 = A % B by unfold dR; rw [Nat.pow_zero, Nat.div_one]]; rfl
      · simp only [World.alloc_gar, World.gar_gar, World.gar_drewN, World.gar_drew]; exact RowKit.Below.of_gar _ _ _
    · obtain ⟨m, rfl⟩ : ∃ q, m = q + 1 := ⟨m - 1, by omega⟩
      clear hm0
      have hi : ((m + 1 : Nat) : Int) - 1 = m := by omega
      rw [hi]
      clear hi
      have hR : dR A B (m + 1) < B := Nat.mod_lt _ hB0
      have hQ := dQ_lt A B (m + 1)
      obtain ⟨R, hRe⟩ : ∃ R, R = dR A B (m + 1) := ⟨_, rfl⟩
      obtain ⟨Q, hQe⟩ : ∃ Q, Q = dQ A B (m + 1) := ⟨_, rfl⟩
      rw [← hRe] at hR ⊢
      rw [← hQe] at hQ ⊢
      have HR := Lib.hid hRe; clear hRe
      have HQ := Lib.hid hQe; clear hQe
      have hm' : (m : Int) < 128 := by omega
      simp only [c32, Z4]
      go_wp2_with fail
      refine (add_h R R _ (by omega) (by omega)).mono ?_
      rintro e w' ⟨s, c, rfl, hc1, Hsc, hb⟩
      obtain ⟨l1, d1, rfl⟩ := hb.gar
      simp only [encN, c32]
      clear hb
      have U0 := lb_U s 0
      have U1 := lb_U s 1
      have U2 := lb_U s 2
      have U3 := lb_U s 3
      go_wp2_with fail
      go_region_with (go_at_call 101; refine (bit_h A (m : Int) _ (by omega) (by omega)).mono ?_; rintro e w' ⟨t, rfl, ht1, Ht, hb⟩; obtain ⟨l2, d2, rfl⟩ := hb.gar; clear hb)
      all_goals
        have hs2 : s % 2 = 0 := by rw [Hsc.out.1]; unfold M128; omega
        have hst : s + t < 340282366920938463463374607431768211456 := by have := Hsc.out.1; unfold M128 at this; omega
        simp only [lb_or0 s _ hs2 ht1]
        rw [lb_even s _ hs2 ht1 1 (by omega), lb_even s _ hs2 ht1 2 (by omega), lb_even s _ hs2 ht1 3 (by omega)]
        clear hs2
        generalize hD : s + t = D at *
        have HD := Lib.hid hD; clear hD
        by_cases hc0 : c = 0
        · subst hc0
          go_wp2_with fail
          refine (cmp_h D B _ (by omega) (by omega)).mono ?_
          rintro e w' ⟨r, rfl, Hr, hb⟩
          obtain ⟨l4, d4, rfl⟩ := hb.gar
          clear hb
          by_cases hBD : B ≤ D
          · have hr0 : 0 ≤ r := by rw [Hr.out]; unfold cmpN; rw [if_neg (by omega)]; split <;> omega
            clear Hr
            go_wp2_with fail
            refine (sub_h D B _ (by omega) (by omega)).mono ?_
            rintro e w' ⟨S, rfl, HS, hb⟩
            obtain ⟨l3, d3, rfl⟩ := hb.gar
            simp only [encN, c32]
            clear hb
            have hr : 0 ≤ (m : Int) % 32 := by omega
            have hr' : (m : Int) % 32 < 32 := by omega
            have hs : (m : Int) / 32 = 0 ∨ (m : Int) / 32 = 1 ∨ (m : Int) / 32 = 2 ∨ (m : Int) / 32 = 3 := by omega
            have V0 := lb_U Q 0
            have V1 := lb_U Q 1
            have V2 := lb_U Q 2
            have V3 := lb_U Q 3
            have HQm : Hid (Q % 2 ^ (m + 1) = 0) := by rw [HQ.out]; exact Lib.hid (dQ_mod A B (m + 1))
            have HDt : Hid (2 * dR A B (m + 1) + A / 2 ^ m % 2 = D ∧ B ≤ D) := by
              refine Lib.hid ?_
              have h1 := Hsc.out
              have h2 := Ht.out
              have h3 := HD.out
              have h4 := HR.out
              simp only [Int.toNat_natCast] at h2
              rw [← h4, ← h2]
              unfold M128 at *
              omega
            have HdR : Hid (dR A B m = S) := by
              refine Lib.hid ?_
              have h1 := HDt.out
              have h5 := HS.out
              have h4 := HR.out
              rw [dR_step A B m hB0, h1.1, if_pos h1.2]
              unfold M128 at *
              omega
            have HdQ : Hid (dQ A B m = Q + 2 ^ m) := by
              refine Lib.hid ?_
              have h1 := HDt.out
              rw [dQ_step A B m hB0, h1.1, if_pos h1.2, HQ.out]
            clear HDt HS Ht Hsc HD HR
            rcases hs with e | e | e | e
            · go_wp2_with fail
              go_region
              go_wp2
              all_goals
                refine ⟨⟨m, by omega, rfl, ?_⟩, by simp [intOf]⟩
                rw [HdR.out, HdQ.out, lb_orQ Q m 0 HQm.out (by omega)]
                rw [lb_otherQ Q m 1 HQm.out (by omega), lb_otherQ Q m 2 HQm.out (by omega), lb_otherQ Q m 3 HQm.out (by omega)]
                simp only [c32, Z4, World.gar_alloc, World.gar_gar, World.gar_drewN, World.gar_drew]
                exact ⟨_, _, rfl⟩
            · go_wp2_with fail
              go_region
              go_wp2
              all_goals
                refine ⟨⟨m, by omega, rfl, ?_⟩, by simp [intOf]⟩
                rw [HdR.out, HdQ.out, lb_orQ Q m 1 HQm.out (by omega)]
                rw [lb_otherQ Q m 0 HQm.out (by omega), lb_otherQ Q m 2 HQm.out (by omega), lb_otherQ Q m 3 HQm.out (by omega)]
                simp only [c32, Z4, World.gar_alloc, World.gar_gar, World.gar_drewN, World.gar_drew]
                exact ⟨_, _, rfl⟩
            · go_wp2_with fail
              go_region
              go_wp2
              all_goals
                refine ⟨⟨m, by omega, rfl, ?_⟩, by simp [intOf]⟩
                rw [HdR.out, HdQ.out, lb_orQ Q m 2 HQm.out (by omega)]
                rw [lb_otherQ Q m 0 HQm.out (by omega), lb_otherQ Q m 1 HQm.out (by omega), lb_otherQ Q m 3 HQm.out (by omega)]
                simp only [c32, Z4, World.gar_alloc, World.gar_gar, World.gar_drewN, World.gar_drew]
                exact ⟨_, _, rfl⟩
            · go_wp2_with fail
              go_region
              go_wp2
              all_goals
                refine ⟨⟨m, by omega, rfl, ?_⟩, by simp [intOf]⟩
                rw [HdR.out, HdQ.out, lb_orQ Q m 3 HQm.out (by omega)]
                rw [lb_otherQ Q m 0 HQm.out (by omega), lb_otherQ Q m 1 HQm.out (by omega), lb_otherQ Q m 2 HQm.out (by omega)]
                simp only [c32, Z4, World.gar_alloc, World.gar_gar, World.gar_drewN, World.gar_drew]
                exact ⟨_, _, rfl⟩
          · have hr0 : r < 0 := by rw [Hr.out]; unfold cmpN; rw [if_pos (by omega)]; omega
            clear Hr
            go_wp2_with fail
            have hDt : 2 * dR A B (m + 1) + A / 2 ^ m % 2 = D := by
              have h1 := Hsc.out
              have h2 := Ht.out
              have h3 := HD.out
              have h4 := HR.out
              simp only [Int.toNat_natCast] at h2
              rw [← h4, ← h2]
              unfold M128 at *
              omega
            refine ⟨⟨m, by omega, rfl, ?_⟩, by simp [intOf]⟩
            rw [dR_step A B m hB0, dQ_step A B m hB0, hDt, if_neg hBD, if_neg hBD, ← HQ.out, Nat.add_zero]
            simp only [c32, Z4, World.gar_alloc, World.gar_gar, World.gar_drewN, World.gar_drew]
            exact ⟨_, _, rfl⟩
        · obtain rfl : c = 1 := by omega
          clear hc0 hc1
          go_wp2_with fail
          refine (sub_h D B _ (by omega) (by omega)).mono ?_
          rintro e w' ⟨S, rfl, HS, hb⟩
          obtain ⟨l3, d3, rfl⟩ := hb.gar
          simp only [encN, c32]
          clear hb
          have hr : 0 ≤ (m : Int) % 32 := by omega
          have hr' : (m : Int) % 32 < 32 := by omega
          have hs : (m : Int) / 32 = 0 ∨ (m : Int) / 32 = 1 ∨ (m : Int) / 32 = 2 ∨ (m : Int) / 32 = 3 := by omega
          have V0 := lb_U Q 0
          have V1 := lb_U Q 1
          have V2 := lb_U Q 2
          have V3 := lb_U Q 3
          have HQm : Hid (Q % 2 ^ (m + 1) = 0) := by rw [HQ.out]; exact Lib.hid (dQ_mod A B (m + 1))
          have HDt : Hid (2 * dR A B (m + 1) + A / 2 ^ m % 2 = (M128 + D) ∧ B ≤ (M128 + D)) := by
            refine Lib.hid ?_
            have h1 := Hsc.out
            have h2 := Ht.out
            have h3 := HD.out
            have h4 := HR.out
            simp only [Int.toNat_natCast] at h2
            rw [← h4, ← h2]
            unfold M128 at *
            omega
          have HdR : Hid (dR A B m = S) := by
            refine Lib.hid ?_
            have h1 := HDt.out
            have h5 := HS.out
            have h4 := HR.out
            rw [dR_step A B m hB0, h1.1, if_pos h1.2]
            unfold M128 at *
            omega
          have HdQ : Hid (dQ A B m = Q + 2 ^ m) := by
            refine Lib.hid ?_
            have h1 := HDt.out
            rw [dQ_step A B m hB0, h1.1, if_pos h1.2, HQ.out]
          clear HDt HS Ht Hsc HD HR
          rcases hs with e | e | e | e
          · go_wp2_with fail
            go_region
            go_wp2
            all_goals
              refine ⟨⟨m, by omega, rfl, ?_⟩, by simp [intOf]⟩
              rw [HdR.out, HdQ.out, lb_orQ Q m 0 HQm.out (by omega)]
              rw [lb_otherQ Q m 1 HQm.out (by omega), lb_otherQ Q m 2 HQm.out (by omega), lb_otherQ Q m 3 HQm.out (by omega)]
              simp only [c32, Z4, World.gar_alloc, World.gar_gar, World.gar_drewN, World.gar_drew]
              exact ⟨_, _, rfl⟩
          · go_wp2_with fail
            go_region
            go_wp2
            all_goals
              refine ⟨⟨m, by omega, rfl, ?_⟩, by simp [intOf]⟩
              rw [HdR.out, HdQ.out, lb_orQ Q m 1 HQm.out (by omega)]
              rw [lb_otherQ Q m 0 HQm.out (by omega), lb_otherQ Q m 2 HQm.out (by omega), lb_otherQ Q m 3 HQm.out (by omega)]
              simp only [c32, Z4, World.gar_alloc, World.gar_gar, World.gar_drewN, World.gar_drew]
              exact ⟨_, _, rfl⟩
          · go_wp2_with fail
            go_region
            go_wp2
            all_goals
              refine ⟨⟨m, by omega, rfl, ?_⟩, by simp [intOf]⟩
              rw [HdR.out, HdQ.out, lb_orQ Q m 2 HQm.out (by omega)]
              rw [lb_otherQ Q m 0 HQm.out (by omega), lb_otherQ Q m 1 HQm.out (by omega), lb_otherQ Q m 3 HQm.out (by omega)]
              simp only [c32, Z4, World.gar_alloc, World.gar_gar, World.gar_drewN, World.gar_drew]
              exact ⟨_, _, rfl⟩
          · go_wp2_with fail
            go_region
            go_wp2
            all_goals
              refine ⟨⟨m, by omega, rfl, ?_⟩, by simp [intOf]⟩
              rw [HdR.out, HdQ.out, lb_orQ Q m 3 HQm.out (by omega)]
              rw [lb_otherQ Q m 0 HQm.out (by omega), lb_otherQ Q m 1 HQm.out (by omega), lb_otherQ Q m 2 HQm.out (by omega)]
              simp only [c32, Z4, World.gar_alloc, World.gar_gar, World.gar_drewN, World.gar_drew]
              exact ⟨_, _, rfl⟩
end Go.Proofs
