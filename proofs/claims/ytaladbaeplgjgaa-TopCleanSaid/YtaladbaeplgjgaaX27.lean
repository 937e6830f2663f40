/- revoke.Moved and revoke.Tricks, for an incomplete legal play: they tell that it is open -/
import Derived.Test.YtaladbaeplgjgaaX26
import Derived.Test.YtaladbaeplgjgaaX14
import Derived.Test.YtaladbaeplgjgaaX24
set_option linter.unusedSimpArgs false
set_option linter.unusedVariables false
namespace Go.Proofs
open Go.RowKit
set_option maxHeartbeats 4000000 in
set_option maxRecDepth 100000 in
theorem moved_o (a b c d tm dc N cp : Nat) (C : Option Addr) (cs : List Nat) (w : World) (hF : Full a b c d) (hN : Hid (N = cs.length)) (hN52 : N < 52) (hcp : N ≤ cp) (htm : tm ≤ 4) (hdc : dc ≤ 3)
    (hl : Leg tm (start a b c d ((dc + 1) % 4)) cs) (hcs : RdS w C cs) :
    Calls Try.prog 33 #[recV a b c d tm dc (.slice C N cp)] w fun e w' => e = .returned (.tuple #[.int .i64 0, .int .i64 0, .int .i64 132]) ∧ RowKit.Below w.heap.size w w' := by
  have hfn := fun W (h : RdS W C cs) => find_v a b c d tm dc N cp C cs W hF hN (by omega) hcp htm hdc hl h
  haveI := hF.ma; haveI := hF.mb; haveI := hF.mc; haveI := hF.md
  simp only [recV] at hfn ⊢
  have HFN := Lib.hid hfn; have HCS := Lib.hid hcs; have HFU := Lib.hid hF
  clear hfn hl hcs hF
  go_enter Try.func33, Try.ntmps33
  have hlf : ((N : Int) < 52) = True := by simp; omega
  go_wp2_with (go_at_call 30; refine (HFN.out _ (HCS.out.below (by simp only [World.alloc_gar]; exact RowKit.Below.of_gar _ _ _))).mono ?_; rintro e w' ⟨rfl, hb⟩; obtain ⟨l, d1, rfl⟩ := hb.gar; clear hb)
  have ha13 := HFU.out.a13
  go_quiet ((go_at_call 70; exact quiet_left (count13 _ _ (by assumption))))
  clear ha13
  go_wp2_with fail
  refine bodyPost_ret (v := .tuple #[.int .i64 0, .int .i64 0, .int .i64 132]) ?_ rfl ⟨rfl, ?_⟩
  · simp [results, Try.results33, go_sem]
  simp only [World.alloc_gar, World.gar_gar, World.gar_drewN, World.gar_drew]; exact RowKit.Below.of_gar _ _ _
set_option maxHeartbeats 4000000 in
set_option maxRecDepth 100000 in
theorem tricks34_o (a b c d tm dc N cp : Nat) (C : Option Addr) (cs : List Nat) (w : World) (hF : Full a b c d) (hN : Hid (N = cs.length)) (hN52 : N < 52) (hcp : N ≤ cp) (htm : tm ≤ 4) (hdc : dc ≤ 3)
    (hl : Leg tm (start a b c d ((dc + 1) % 4)) cs) (hcs : RdS w C cs) :
    Calls Try.prog 34 #[recV a b c d tm dc (.slice C N cp)] w fun e w' => e = .returned (.tuple #[.int .i64 0, .int .i64 0, .int .i64 132]) ∧ RowKit.Below w.heap.size w w' := by
  have hmv := fun W (h : RdS W C cs) => moved_o a b c d tm dc N cp C cs W hF hN hN52 hcp htm hdc hl h
  simp only [recV] at hmv ⊢
  have HMV := Lib.hid hmv; have HCS := Lib.hid hcs
  clear hmv hl hcs hF
  go_enter Try.func34, Try.ntmps34
  go_wp2_with fail
  go_at_call 33
  refine (HMV.out _ ?_).mono ?_
  · refine HCS.out.below ?_
    simp only [World.alloc_gar, World.gar_gar, World.gar_drewN, World.gar_drew]; exact RowKit.Below.of_gar _ _ _
  rintro e w' ⟨rfl, hb⟩; obtain ⟨l1, d1, rfl⟩ := hb.gar; clear hb
  go_wp2_with fail
  refine bodyPost_ret (v := .tuple #[.int .i64 0, .int .i64 0, .int .i64 132]) ?_ rfl ⟨rfl, ?_⟩
  · simp [results, Try.results34, go_sem]
  simp only [World.alloc_gar, World.gar_gar, World.gar_drewN, World.gar_drew]; exact RowKit.Below.of_gar _ _ _
end Go.Proofs

/- revoke.Moved and revoke.Tricks, for a complete legal play -/
namespace Go.Proofs
open Go.RowKit
theorem wins_lt (tm : Nat) (s0 : PS) (cs : List Nat) (h : Inv s0 0) (hh : Held tm s0 cs) (k : Nat) (hk : 4 * k ≤ cs.length) : ∀ q ∈ wins tm s0 cs k, q < 4 := by
  intro q hq
  unfold wins at hq
  rw [List.mem_map] at hq
  obtain ⟨j, hj, rfl⟩ := hq
  rw [List.mem_range] at hj
  have := (h.run hh (4 * (j + 1)) (by omega)).ld
  omega
set_option maxHeartbeats 4000000 in
set_option maxRecDepth 100000 in
theorem moved_v (a b c d tm dc N cp : Nat) (C : Option Addr) (cs : List Nat) (w : World) (hF : Full a b c d) (hN : Hid (N = cs.length)) (hN52 : Hid (N = 52)) (hcp : N ≤ cp) (htm : tm ≤ 4) (hdc : dc ≤ 3)
    (hl : Leg tm (start a b c d ((dc + 1) % 4)) cs) (hcs : RdS w C cs) :
    Calls Try.prog 33 #[recV a b c d tm dc (.slice C N cp)] w fun e w' => e = .returned (.tuple #[.int .i64 0, .int .i64 0, .int .i64 0]) ∧ RowKit.Below w.heap.size w w' := by
  have hs : Inv (start a b c d ((dc + 1) % 4)) 0 := Inv.start hF (by omega)
  have hh := hl.held hs
  have hle : N ≤ 52 := by rw [hN52.out]; omega
  have hfn := fun W (h : RdS W C cs) => find_v a b c d tm dc N cp C cs W hF hN hle hcp htm hdc hl h
  have hwn := fun W (h : RdS W C cs) => winners_v a b c d tm dc N cp C cs W hF hN hle hcp htm hdc hh h
  haveI := hF.ma; haveI := hF.mb; haveI := hF.mc; haveI := hF.md
  have hct : ∀ W, Calls Try.prog 70 #[.int .u64 a] W fun e w' => e = .returned (.int .i64 13) ∧ W = w' := fun W => (count_v a W).mono fun e w' ⟨n, h1, h2, h3⟩ => ⟨by rw [h1, h2.out, hF.a13]; rfl, h3⟩
  simp only [recV] at hfn hwn ⊢
  have HFN := Lib.hid hfn; have HWN := Lib.hid hwn; have HCT := Lib.hid hct; have HS := Lib.hid hs; have HH := Lib.hid hh; have HCS := Lib.hid hcs; have HFU := Lib.hid hF
  clear hfn hwn hct hs hh hl hcs hF hle
  go_enter Try.func33, Try.ntmps33
  have hlf : ((N : Int) < 52) = False := by have := hN52.out; simp; omega
  go_wp2_with (go_at_call 30; refine (HFN.out _ (HCS.out.below (by simp only [World.alloc_gar]; exact RowKit.Below.of_gar _ _ _))).mono ?_; rintro e w' ⟨rfl, hb⟩; obtain ⟨l, d1, rfl⟩ := hb.gar; clear hb)
  have ha13 := HFU.out.a13
  go_quiet ((go_at_call 70; exact quiet_left (count13 _ _ (by assumption))))
  clear ha13
  go_wp2_with fail
  go_at_call 31
  refine (HWN.out _ ?_).mono ?_
  · refine HCS.out.below ?_
    simp only [World.alloc_gar, World.gar_gar, World.gar_drewN, World.gar_drew]; exact RowKit.Below.of_gar _ _ _
  rintro e w' ⟨A, n, cap2, rfl, Hn, hnc, hrd, hb⟩; obtain ⟨l2, d2, rfl⟩ := hb.gar; clear hb
  have HRD := Lib.hid hrd
  clear hrd hlf
  go_wp2_with fail
  all_goals
    go_at_call 71
    refine (moves_v _ _ _ _ _ _).mono ?_
    rintro e w' ⟨rfl, hb⟩; obtain ⟨l3, d3, rfl⟩ := hb.gar; clear hb
    go_wp2_with fail
    go_at_call 71
    refine (moves_v _ _ _ _ _ _).mono ?_
    rintro e w' ⟨rfl, hb⟩; obtain ⟨l4, d4, rfl⟩ := hb.gar; clear hb
    go_wp2_with fail
    refine bodyPost_ret (v := .tuple #[.int .i64 0, .int .i64 0, .int .i64 0]) ?_ rfl ⟨rfl, ?_⟩
    · simp [results, Try.results33, go_sem]
    simp only [World.alloc_gar, World.gar_gar, World.gar_drewN, World.gar_drew]; exact RowKit.Below.of_gar _ _ _
end Go.Proofs

/- revoke.Tricks, for a complete legal play -/
namespace Go.Proofs
open Go.RowKit
set_option maxHeartbeats 4000000 in
set_option maxRecDepth 100000 in
theorem tricks34_v (a b c d tm dc N cp : Nat) (C : Option Addr) (cs : List Nat) (w : World) (hF : Full a b c d) (hN : Hid (N = cs.length)) (hN52 : Hid (N = 52)) (hcp : N ≤ cp) (htm : tm ≤ 4) (hdc : dc ≤ 3)
    (hl : Leg tm (start a b c d ((dc + 1) % 4)) cs) (hcs : RdS w C cs) :
    Calls Try.prog 34 #[recV a b c d tm dc (.slice C N cp)] w fun e w' => ∃ k : Nat, e = .returned (.tuple #[.int .i64 k, .int .i64 (13 - k), .int .i64 0]) ∧ Hid (k = sideN (dc % 2) (wins tm (start a b c d ((dc + 1) % 4)) cs 13)) ∧ RowKit.Below w.heap.size w w' := by
  have hs : Inv (start a b c d ((dc + 1) % 4)) 0 := Inv.start hF (by omega)
  have hh := hl.held hs
  have hle : N ≤ 52 := by rw [hN52.out]; omega
  have hmv := fun W (h : RdS W C cs) => moved_v a b c d tm dc N cp C cs W hF hN hN52 hcp htm hdc hl h
  have hwn := fun W (h : RdS W C cs) => winners_v a b c d tm dc N cp C cs W hF hN hle hcp htm hdc hh h
  obtain ⟨ws, hws⟩ : ∃ ws, ws = wins tm (start a b c d ((dc + 1) % 4)) cs (N / 4) := ⟨_, rfl⟩
  have h13 : N / 4 = 13 := by rw [hN52.out]
  have hwl : ws.length = 13 := by rw [hws, wins_length, h13]
  have hw4 : ∀ q ∈ ws, q < 4 := by rw [hws]; exact wins_lt tm _ cs hs hh (N / 4) (by rw [← hN.out]; omega)
  simp only [← hws] at hwn
  have hwe : wins tm (start a b c d ((dc + 1) % 4)) cs 13 = ws := by rw [hws, h13]
  rw [hwe]
  have hq1 : dc % 2 ≤ 1 := by omega
  obtain ⟨sd, hsd⟩ : ∃ sd, sd = dc % 2 := ⟨_, rfl⟩
  have hsdI : (dc : Int) % 2 = (sd : Int) := by omega
  rw [← hsd] at hq1 ⊢
  simp only [recV] at hmv hwn ⊢
  have HMV := Lib.hid hmv; have HWN := Lib.hid hwn; have HCS := Lib.hid hcs; have HWL := Lib.hid hwl; have HW4 := Lib.hid hw4; have H13 := Lib.hid h13; have HSD := Lib.hid hsd
  clear hmv hwn hs hh hl hcs hF hle hwl hw4 hws hwe h13 hsd
  go_enter Try.func34, Try.ntmps34
  go_wp2_with fail
  go_at_call 33
  refine (HMV.out _ ?_).mono ?_
  · refine HCS.out.below ?_
    simp only [World.alloc_gar, World.gar_gar, World.gar_drewN, World.gar_drew]; exact RowKit.Below.of_gar _ _ _
  rintro e w' ⟨rfl, hb⟩; obtain ⟨l1, d1, rfl⟩ := hb.gar; clear hb
  go_wp2_with fail
  go_at_call 31
  refine (HWN.out _ ?_).mono ?_
  · refine HCS.out.below ?_
    simp only [World.alloc_gar, World.gar_gar, World.gar_drewN, World.gar_drew]; exact RowKit.Below.of_gar _ _ _
  rintro e w' ⟨A, n, cap2, rfl, Hn, hnc, hrd, hb⟩; obtain ⟨l2, d2, rfl⟩ := hb.gar; clear hb
  have hn13 : n = 13 := by rw [Hn.out]; exact H13.out
  have HRD := Lib.hid hrd; have HN13 := Lib.hid hn13
  clear hrd hn13
  go_wp2_with fail
  go_at_call 72
  refine (from_v A n cap2 sd ws _ (Lib.hid (by rw [HN13.out, HWL.out])) (by rw [HN13.out]; decide) (by rw [HN13.out]; decide) hnc hq1 HW4.out ?_).mono ?_
  · have h2 := HRD.out; simp only [World.gar_gar] at h2; exact h2
  rintro e w' ⟨k, rfl, Hk, rfl⟩
  have hk13 : k ≤ 13 := by rw [Hk.out, ← HWL.out]; exact sideN_le _ _
  have hnI : (n : Int) = 13 := by rw [HN13.out]; rfl
  go_wp2_with fail
  refine bodyPost_ret (v := .tuple #[.int .i64 k, .int .i64 (13 - k), .int .i64 0]) ?_ rfl ⟨k, rfl, Hk, ?_⟩
  · simp [results, Try.results34, go_sem]
  simp only [World.alloc_gar, World.gar_gar, World.gar_drewN, World.gar_drew]; exact RowKit.Below.of_gar _ _ _
end Go.Proofs
