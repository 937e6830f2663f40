/- nat.Choose: how many ways. -/
import Derived.Test.YtaladbaeplgjgaaX06
import Derived.Test.YtaladbaeplgjgaaX00
set_option linter.unusedSimpArgs false
set_option linter.unusedVariables false
namespace Go.Proofs
open Go.RowKit
attribute [local irreducible] lb
attribute [local go_sem] Oper.semAt_some
attribute [local go_sem] encN c32
theorem rows_v (w : World) : Calls Try.prog 100 #[] w fun e w' => e = .returned (.func (.func 113) #[] #[]) ∧ w = w' := by
  go_enter Try.func100, Try.ntmps100
  go_wp2
  go_ret
  exact ⟨rfl, rfl⟩
set_option maxHeartbeats 1000000 in
set_option maxRecDepth 100000 in
theorem Choose_v (n k : Nat) (w : World) (hn : n ≤ 100) (hk : k ≤ n) :
    Calls Try.prog 79 #[.int .i64 n, .int .i64 k] w fun e w' => e = .returned (.tuple #[encN (C n k), .int .i64 0]) ∧ Below w.heap.size w w' := by
  refine (callsIn_wide (n := 3)).1 ?_
  refine callsIn_of_wp_marks Try.func79 rfl trivial ?_ rfl
  simp only [Try.ntmps79, List.size_toArray, List.length_cons, List.length_nil, Nat.reduceAdd, Nat.reduceSub, Array.replicate_succ, Array.replicate_zero, List.push_toArray, List.append_toArray, List.nil_append, List.cons_append]
  gi_wp2_with (gi_at_call 100; refine (callsIn_wide.2 (rows_v _)).mono ?_; rintro e w' ⟨rfl, rfl⟩)
  refine wpIn_range rfl (fun _ => trivial) rfl (gf := 113) (cap := #[]) rfl (fun args w => Try.call113 args w) ?_
  intro fn
  simp only [World.size_alloc, Nat.reduceSub]
  refine CallsIn.mono (rows1_in _ ?Y n _ _ hn ?hs ?hY1 ?hY2) ?post
  case hY2 =>
    intro v l d hown
    obtain ⟨g, cap, rfl⟩ := ownsRow_succ hown
    have x0 : ∀ Y : World, Y.heap.size = w.heap.size + 1 + 1 + 1 + 1 + 1 + 1 → (Y.gar l d).cell? ⟨g, k * 4, none⟩ = some (.int .u32 (lb (C n k) 0)) := fun Y hY => by
      have := rowC_cell (World.ownsRow.swap (Y := Y) (d' := d) (by rw [hY]; simp) (Nat.le_refl _) hown) k 0 (by omega) (by omega)
      rwa [Nat.add_zero] at this
    have x1 : ∀ Y : World, Y.heap.size = w.heap.size + 1 + 1 + 1 + 1 + 1 + 1 → (Y.gar l d).cell? ⟨g, k * 4 + 1, none⟩ = some (.int .u32 (lb (C n k) 1)) := fun Y hY => by
      have := rowC_cell (World.ownsRow.swap (Y := Y) (d' := d) (by rw [hY]; simp) (Nat.le_refl _) hown) k 1 (by omega) (by omega)
      exact this
    have x2 : ∀ Y : World, Y.heap.size = w.heap.size + 1 + 1 + 1 + 1 + 1 + 1 → (Y.gar l d).cell? ⟨g, k * 4 + 2, none⟩ = some (.int .u32 (lb (C n k) 2)) := fun Y hY => by
      have := rowC_cell (World.ownsRow.swap (Y := Y) (d' := d) (by rw [hY]; simp) (Nat.le_refl _) hown) k 2 (by omega) (by omega)
      exact this
    have x3 : ∀ Y : World, Y.heap.size = w.heap.size + 1 + 1 + 1 + 1 + 1 + 1 → (Y.gar l d).cell? ⟨g, k * 4 + 3, none⟩ = some (.int .u32 (lb (C n k) 3)) := fun Y hY => by
      have := rowC_cell (World.ownsRow.swap (Y := Y) (d' := d) (by rw [hY]; simp) (Nat.le_refl _) hown) k 3 (by omega) (by omega)
      exact this
    have hk1 : (0 : Int) ≤ k := by omega
    have hk2 : (k : Int) < (n : Int) + 1 := by omega
    refine yield_at (by rw [World.heap_gar_past (by simp)]; exact World.heap_alloc_at _ _ _ (by simp)) rfl ?_
    simp only [List.zip_toArray, List.zip_cons_cons, List.zip_nil_left, List.foldl_toArray', List.foldl_cons, List.foldl_nil, List.setIfInBounds_toArray, List.set_cons_succ, List.set_cons_zero, List.size_toArray, List.length_cons, List.length_nil]
    gi_wp2
    refine ⟨_, begin_at (by rw [World.heap_gar_past (by simp)]; exact World.heap_alloc_at _ _ _ (by simp)), ?_⟩
    rw [World.putObj_gar_past _ _ _ _ _ (by simp), World.putObj_alloc_at _ _ _ _ (by simp)]
    gi_wp2
    refine ⟨_, _, stop_at .ret (by rw [World.heap_gar_past (by simp)]; exact World.heap_alloc_at _ _ _ (by simp)), rfl, [], d, ?_⟩
    rw [World.putObj_gar_past _ _ _ _ _ (by simp), World.putObj_alloc_at _ _ _ _ (by simp)]
    rw [List.append_nil]
  case hY1 =>
    intro i hin v l d hown
    obtain ⟨g, cap, rfl⟩ := ownsRow_succ hown
    clear hown
    have hne : ((i : Int) == (n : Int)) = false := by rw [beq_eq_false_iff_ne]; omega
    refine yield_at (by rw [World.heap_gar_past (by simp)]; exact World.heap_alloc_at _ _ _ (by simp)) rfl ?_
    simp only [List.zip_toArray, List.zip_cons_cons, List.zip_nil_left, List.foldl_toArray', List.foldl_cons, List.foldl_nil, List.setIfInBounds_toArray, List.set_cons_succ, List.set_cons_zero, List.size_toArray, List.length_cons, List.length_nil]
    gi_wp2
    refine ⟨_, begin_at (by rw [World.heap_gar_past (by simp)]; exact World.heap_alloc_at _ _ _ (by simp)), ?_⟩
    rw [World.putObj_gar_past _ _ _ _ _ (by simp), World.putObj_alloc_at _ _ _ _ (by simp)]
    gi_wp2
    refine ⟨_, _, end_at (by rw [World.heap_gar_past (by simp)]; exact World.heap_alloc_at _ _ _ (by simp)), rfl, [], d, ?_⟩
    rw [World.putObj_gar_past _ _ _ _ _ (by simp), World.putObj_alloc_at _ _ _ _ (by simp)]
    rw [List.append_nil]
  case hs => simp
  case post =>
    rintro e w' ⟨⟨v, rfl⟩, l, d, rfl⟩
    refine ⟨_, _, done_at (by rw [World.heap_gar_past (by simp)]; exact World.heap_alloc_at _ _ _ (by simp)) (by decide), ?_⟩
    rw [World.putObj_gar_past _ _ _ _ _ (by simp), World.putObj_alloc_at _ _ _ _ (by simp)]
    show Code.wpIn _ _ _ Code.ret _ _ _
    gi_wp2
    refine ⟨by simp, .inl ⟨_, _, rfl, run_takeDeferred (by rw [World.heap_gar_past (by simp), World.heap_alloc_past _ _ _ (by simp)]; exact World.heap_alloc_at _ _ _ (by simp)), ?_⟩⟩
    rw [World.putObj_gar_past _ _ _ _ _ (by simp), World.putObj_alloc_past _ _ _ _ (by simp), World.putObj_alloc_at _ _ _ _ (by simp)]
    refine ⟨.tuple #[encN (C n k), .int .i64 0], ?_, rfl, ?_⟩
    · simp [results, Try.results79, go_sem, encN, c32]
    · simp only [World.alloc_gar, World.gar_gar, World.gar_drewN, World.gar_drew]; exact RowKit.Below.of_gar _ _ _
theorem Choose_gt (n k : Nat) (w : World) (hn : n ≤ 100) (hk : n < k) (hk2 : k ≤ 1000) :
    Calls Try.prog 79 #[.int .i64 n, .int .i64 k] w fun e w' => e = .returned (.tuple #[encN (C n k), .int .i64 0]) ∧ Below w.heap.size w w' := by
  have hz : encN (C n k) = .agg #[.int .u32 0, .int .u32 0, .int .u32 0, .int .u32 0] := by
    rw [C_above n k hk]; unfold encN c32; rw [lb0, lb1, lb2, lb3]; rfl
  have HZ := Lib.hid hz
  clear hz
  go_enter Try.func79, Try.ntmps79
  go_wp2
  refine bodyPost_ret (v := .tuple #[encN (C n k), .int .i64 0]) ?_ rfl ⟨rfl, ?_⟩
  · rw [HZ.out]; simp [results, Try.results79, go_sem]
  · simp only [World.alloc_gar, World.gar_gar, World.gar_drewN, World.gar_drew]; exact RowKit.Below.of_gar _ _ _
theorem Choose_any (n k : Nat) (w : World) (hn : n ≤ 100) (hk2 : k ≤ 1000) :
    Calls Try.prog 79 #[.int .i64 n, .int .i64 k] w fun e w' => e = .returned (.tuple #[encN (C n k), .int .i64 0]) ∧ Below w.heap.size w w' := by
  by_cases hk : k ≤ n
  · exact Choose_v n k w hn hk
  · exact Choose_gt n k w hn (by omega) hk2
theorem C_62 (n k : Nat) (h : n ≤ 62) : C n k < 9223372036854775808 := by
  have := C_le n k
  have : 2 ^ n ≤ 2 ^ 62 := Nat.pow_le_pow_right (by omega) h
  omega
theorem choose_v (n k : Nat) (w : World) (hn : n ≤ 62) (hk2 : k ≤ 1000) :
    Calls Try.prog 49 #[.int .i64 n, .int .i64 k] w fun e w' => ∃ c : Int, e = .returned (.int .i64 c) ∧ Hid (c = (C n k : Nat)) ∧ Below w.heap.size w w' := by
  go_enter Try.func49, Try.ntmps49
  go_wp2_with fail
  refine (Choose_any n k _ (by omega) hk2).mono ?_
  rintro e w' ⟨rfl, hb⟩
  obtain ⟨l, d, rfl⟩ := hb.gar
  clear hb
  go_wp2_with fail
  refine (Int_v (C n k) _ (C_62 n k hn)).mono ?_
  rintro e w' ⟨rfl, hb⟩
  obtain ⟨l1, d1, rfl⟩ := hb.gar
  clear hb
  obtain ⟨c, hc⟩ : ∃ c : Int, c = (C n k : Nat) := ⟨_, rfl⟩
  rw [← hc]
  have HC := Lib.hid hc
  clear hc
  go_wp2
  go_ret
  refine ⟨c, rfl, HC, ?_⟩
  simp only [World.alloc_gar, World.gar_gar, World.gar_drewN, World.gar_drew]; exact RowKit.Below.of_gar _ _ _
theorem dealOf_v (n : Int) (w : World) (h1 : 0 ≤ n) (h2 : n < 9223372036854775808) :
    Calls Try.prog 52 #[.int .i64 n] w fun e w' => e = .returned (encN n.toNat) ∧ Below w.heap.size w w' := by
  go_enter Try.func52, Try.ntmps52
  go_wp2_with fail
  refine (Of_v n _ h1 h2).mono ?_
  rintro e w' ⟨rfl, hb⟩
  obtain ⟨l, d, rfl⟩ := hb.gar
  clear hb
  go_wp2_with fail
  refine bodyPost_ret (v := encN n.toNat) ?_ rfl ⟨rfl, ?_⟩
  · simp [results, Try.results52, go_sem, encN, c32]
  · simp only [World.alloc_gar, World.gar_gar, World.gar_drewN, World.gar_drew]; exact RowKit.Below.of_gar _ _ _
end Go.Proofs

/- seed: Of, Right, next. -/
namespace Go.Proofs
open Go.RowKit
def Seed (s : Int) : Prop := 1 ≤ s ∧ s ≤ 2147483646
def nextS (s : Int) : Int := s * 48271 % 2147483647
theorem nextS_ok {s : Int} (h : Seed s) : Seed (nextS s) := by
  obtain ⟨h1, h2⟩ := h
  unfold nextS
  have hb : 0 ≤ s * 48271 % 2147483647 ∧ s * 48271 % 2147483647 < 2147483647 := by omega
  refine ⟨?_, by omega⟩
  rcases Int.lt_or_le 0 (s * 48271 % 2147483647) with h | h
  · omega
  · exfalso
    have h0 : s * 48271 % 2147483647 = 0 := by omega
    have hk : s * 48271 = 2147483647 * (s * 48271 / 2147483647) := by omega
    generalize s * 48271 / 2147483647 = k at hk
    have e : s = 2147483647 * (k * 1899818559 - s * 42705) := by omega
    omega
theorem tmod_bd (n : Int) : -2147483646 < n.tmod 2147483646 ∧ n.tmod 2147483646 < 2147483646 := by
  have h1 := Int.tmod_lt_of_pos n (show (0 : Int) < 2147483646 by omega)
  have h2 := Int.lt_tmod_of_pos n (show (0 : Int) < 2147483646 by omega)
  omega
theorem seedOf_v (n : Int) (w : World) (h1 : -9223372036854775808 ≤ n) (h2 : n ≤ 9223372036854775807) :
    Calls Try.prog 6 #[.int .i64 n] w fun e w' => ∃ s : Int, e = .returned (.int .i64 s) ∧ 1 ≤ s ∧ s ≤ 2147483646 ∧ w = w' := by
  have hb := tmod_bd n
  obtain ⟨b1, b2⟩ := hb
  by_cases hn : n.tmod 2147483646 < 0
  · go_enter Try.func6, Try.ntmps6
    go_wp2
    go_ret
    exact ⟨_, rfl, by omega, by omega, rfl⟩
  · have hn' : 0 ≤ n.tmod 2147483646 := by omega
    go_enter Try.func6, Try.ntmps6
    go_wp2
    go_ret
    exact ⟨_, rfl, by omega, by omega, rfl⟩
theorem seedRight_v (s : Int) (w : World) (h1 : 1 ≤ s) (h2 : s ≤ 2147483646) :
    Calls Try.prog 36 #[.int .i64 s] w fun e w' => e = .returned (.bool true) ∧ w = w' := by
  go_enter Try.func36, Try.ntmps36
  go_wp2
  go_ret
  exact ⟨by simp [h2], rfl⟩
theorem next_v (s : Int) (w : World) (h1 : 1 ≤ s) (h2 : s ≤ 2147483646) :
    Calls Try.prog 77 #[.int .i64 s] w fun e w' => e = .returned (.int .i64 (nextS s)) ∧ w = w' := by
  go_enter Try.func77, Try.ntmps77
  go_wp2
  go_ret
  exact ⟨rfl, rfl⟩
end Go.Proofs
