/- nat.rows: Pascal's rows, one after the other. -/
import Derived.Test.YtaladbaeplgjgaaX05
import Derived.RangeFuncBox
import Derived.Stop.RegionWithIn
import Derived.Sort.CutIn
import Derived.Deep.RegionWith
set_option linter.unusedSimpArgs false
set_option linter.unusedVariables false
namespace Go.Proofs
open Go.RowKit
attribute [local irreducible] lb
attribute [local go_sem] encN c32
attribute [local go_sem] Oper.semAt_some
def C : Nat → Nat → Nat
  | _, 0 => 1
  | 0, _ + 1 => 0
  | n + 1, k + 1 => C n k + C n (k + 1)
def entC (m j : Nat) : List Value := [.int .u32 (lb (C m j) 0), .int .u32 (lb (C m j) 1), .int .u32 (lb (C m j) 2), .int .u32 (lb (C m j) 3)]
def rowC (m k : Nat) : List Value := (List.range k).flatMap (entC m)
theorem rowC_len (m k : Nat) : (rowC m k).length = k * 4 := by
  unfold rowC
  induction k with
  | zero => rfl
  | succ k ih => rw [List.range_succ, List.flatMap_append, List.length_append, ih]; simp [entC]; omega
theorem rowC_succ (m k : Nat) : rowC m (k + 1) = rowC m k ++ entC m k := by
  unfold rowC; rw [List.range_succ, List.flatMap_append]; simp
theorem rowC_get (m k j t : Nat) (hj : j < k) (ht : t < 4) : (rowC m k)[j * 4 + t]? = some (.int .u32 (lb (C m j) t)) := by
  induction k with
  | zero => omega
  | succ k ih =>
    rw [rowC_succ]
    by_cases h : j < k
    · rw [List.getElem?_append_left (by rw [rowC_len]; omega)]; exact ih h
    · obtain rfl : j = k := by omega
      rw [List.getElem?_append_right (by rw [rowC_len]; omega), rowC_len]
      have e : j * 4 + t - j * 4 = t := by omega
      rw [e]
      rcases (show t = 0 ∨ t = 1 ∨ t = 2 ∨ t = 3 by omega) with rfl | rfl | rfl | rfl <;> rfl
theorem rowC_cell {W : World} {base g cap m k : Nat} (h : W.ownsRow base 37 4 (.slice (some ⟨g, 0, none⟩) k cap) k (rowC m k)) (j t : Nat) (hj : j < k) (ht : t < 4) :
    W.cell? ⟨g, j * 4 + t, none⟩ = some (.int .u32 (lb (C m j) t)) := by
  rw [h.cellAt (j * 4 + t) (by omega)]; exact rowC_get m k j t hj ht
theorem C_zero (n : Nat) : C n 0 = 1 := by cases n <;> rfl
theorem C_one (n : Nat) : C n 1 = n := by
  induction n with
  | zero => rfl
  | succ n ih => show C n 0 + C n 1 = n + 1; rw [C_zero, ih]; omega
theorem C_above (n k : Nat) (h : n < k) : C n k = 0 := by
  induction n generalizing k with
  | zero => cases k with | zero => omega | succ k => rfl
  | succ n ih => cases k with | zero => omega | succ k => show C n k + C n (k + 1) = 0; rw [ih k (by omega), ih (k + 1) (by omega)]
theorem C_self (n : Nat) : C n n = 1 := by
  induction n with
  | zero => rfl
  | succ n ih => show C n n + C n (n + 1) = 1; rw [ih, C_above n (n + 1) (by omega)]
theorem rows_ne {W : World} {base g cap m j : Nat} {v : Value} (h : W.ownsRow base 37 4 (.slice (some ⟨g, 0, none⟩) (m + 1) cap) (m + 1) (rowC m (m + 1)))
    (h' : W.ownsRow base 37 4 v (j + 1) (rowC (m + 1) (j + 1))) (hj : 1 ≤ j) (hm : 1 ≤ m) (hm' : m ≤ 100) : some g ≠ v.ownBlock := by
  obtain ⟨g', cap', rfl⟩ := ownsRow_succ h'
  intro e
  obtain rfl : g = g' := by simpa [Value.ownBlock] using e
  have a := rowC_cell h 1 0 (by omega) (by omega)
  have b := rowC_cell h' 1 0 (by omega) (by omega)
  rw [a] at b
  rw [C_one, C_one, lb0, lb0] at b
  simp at b
  omega
theorem C_le (n k : Nat) : C n k ≤ 2 ^ n := by
  induction n generalizing k with
  | zero => cases k <;> simp [C]
  | succ n ih =>
    cases k with
    | zero => simp [C]; exact Nat.one_le_two_pow
    | succ k => simp only [C]; have := ih k; have := ih (k + 1); rw [Nat.pow_succ]; omega
theorem C_lt (n k : Nat) (h : n ≤ 100) : C n k < 170141183460469231731687303715884105728 := by
  have := C_le n k
  have : 2 ^ n ≤ 2 ^ 100 := Nat.pow_le_pow_right (by omega) h
  omega
theorem Try.info37 : (Try.prog.info? 37).map (fun i => (i.zero, i.size, i.bytes)) = some (some (.agg #[.int .u32 0, .int .u32 0, .int .u32 0, .int .u32 0]), 4, 16) := by kernel_rfl
set_option maxHeartbeats 1000000 in
set_option maxRecDepth 100000 in
theorem rows1_in (X Y : World) (n L q : Nat) (hn : n ≤ 100) (hs : Y.heap.size = X.heap.size)
    (hY1 : ∀ i : Nat, i < n → ∀ (v : Value) (l : List Obj) (d : Nat), (X.gar l d).ownsRow X.heap.size 37 4 v (i + 1) (rowC i (i + 1)) → YieldAt Fence.wide (q - 1) Try.prog L #[.int .i64 i, v] (X.gar l d) (fun e w' => e = .returned (.bool true) ∧ ∃ l2 d2, w' = X.gar (l ++ l2) d2))
    (hY2 : ∀ (v : Value) (l : List Obj) (d : Nat), (X.gar l d).ownsRow X.heap.size 37 4 v (n + 1) (rowC n (n + 1)) → YieldAt Fence.wide (q - 1) Try.prog L #[.int .i64 n, v] (X.gar l d) (fun e w' => e = .returned (.bool false) ∧ ∃ l2 d2, w' = Y.gar (l ++ l2) d2)) :
    CallsIn Fence.wide q Try.prog 113 #[.func (.yield L) #[] #[]] X (fun e w' => (∃ v, e = .returned v) ∧ ∃ l d, w' = Y.gar l d) := by
  obtain ⟨i0, hi, hz0, hz1, hz2⟩ := info_parts Try.info37
  refine callsIn_of_wp Try.func113 rfl trivial ?_ rfl
  simp only [Try.ntmps113, List.size_toArray, List.length_cons, List.length_nil, Nat.reduceAdd, Nat.reduceSub, Array.replicate_succ, Array.replicate_zero, List.push_toArray, List.append_toArray, List.nil_append, List.cons_append]
  gi_wp2
  gi_loopw [2, 3] (fun v i wr => ∃ m : Nat, m ≤ n ∧ i = .int .i64 m ∧ ∃ l d, wr = X.gar l d ∧ wr.ownsRow X.heap.size 37 4 v (m + 1) (rowC m (m + 1))) (fun _ i _ => n - (intOf i).toNat)
  case atStart =>
    refine ⟨0, by omega, rfl, _, _, World.alloc_gar _, ?_⟩
    have he : rowC 0 (0 + 1) = [Value.int .u32 1, .int .u32 0, .int .u32 0, .int .u32 0] := by
      rw [rowC_succ]; unfold entC; rw [C_self, lb0, lb1, lb2, lb3]; rfl
    rw [he]
    exact own_new X X.heap.size 37 4 1 [.int .u32 1, .int .u32 0, .int .u32 0, .int .u32 0] _ rfl (Nat.le_refl _) (by simp) (by unfold maxLen; omega)
  case round =>
    obtain ⟨m, hm, rfl, l, d, rfl, hown⟩ := hrel
    obtain ⟨g, cap, rfl⟩ := ownsRow_succ hown
    by_cases hmn : m = n
    · subst hmn
      obtain ⟨fn, tmps, assign, body, hy, hR⟩ := hY2 _ l d hown
      gi_wp2
      refine hR.mono ?_
      clear hY1 hY2
      rintro e w' ⟨rfl, l2, d2, rfl⟩
      clear hown hR hy
      gi_wp2
      go_end0
      exact ⟨⟨_, rfl⟩, _, _, rfl⟩
    · obtain ⟨fn, tmps, assign, body, hy, hR⟩ := hY1 m (by omega) _ l d hown
      gi_wp2
      refine hR.mono ?_
      clear hY1 hY2
      rintro e w' ⟨rfl, l2, d2, rfl⟩
      have hown2 := hown.gar l2 d2
      rw [World.gar_gar] at hown2
      clear hown hR hy
      gi_wp2
      gi_loopw [4, 5] (fun v' i wr => ∃ j : Nat, j ≤ m ∧ i = .int .i64 ((j : Int) + 1) ∧ ∃ l d, wr = X.gar l d ∧ wr.ownsRow X.heap.size 37 4 (.slice (some ⟨g, 0, none⟩) (m + 1) cap) (m + 1) (rowC m (m + 1)) ∧ wr.ownsRow X.heap.size 37 4 v' (j + 1) (rowC (m + 1) (j + 1)) ∧ (j = 0 → some g ≠ v'.ownBlock)) (fun _ i _ => m + 1 - (intOf i).toNat)
      case atStart =>
        refine ⟨0, by omega, rfl, _, _, World.gar_alloc _, hown2.alloc _, ?_, ?_⟩
        · have he : rowC (m + 1) (0 + 1) = [Value.int .u32 1, .int .u32 0, .int .u32 0, .int .u32 0] := by
            rw [rowC_succ]; unfold entC; rw [C_zero, lb0, lb1, lb2, lb3]; rfl
          rw [he]
          exact own_new (X.gar (l ++ l2) d2) X.heap.size 37 4 1 [.int .u32 1, .int .u32 0, .int .u32 0, .int .u32 0] (X.heap.size + (l.length + l2.length)) (by simp) (by omega) (by simp) (by unfold maxLen; omega)
        · intro _
          have := (hown2.lt g rfl).2
          simp [Value.ownBlock] at this ⊢
          omega
      case round =>
        obtain ⟨j, hj, rfl, l, d, rfl, hown, hown', hne⟩ := hrel
        obtain ⟨g', cap', rfl⟩ := ownsRow_succ hown'
        by_cases hjm : j = m
        · obtain rfl := hjm
          gi_wp2_with (gi_at_builtin; refine wpListIn_append_own _ rfl (.tmp 45) (.tmp 47) 161 rfl X.heap.size 37 i0 _ 4 16 Try.underlying161 hi hz0 hz1 hz2 rfl (by decide) _ _ _ rfl (hown'.alloc _) ⟨X.heap.size + l.length, 0, none⟩ 1 1 [.int .u32 1, .int .u32 0, .int .u32 0, .int .u32 0] rfl rfl ?d1 ?d2 ?d3 ?d4 ?d5 ?_)
          case d1 => exact cells_new (X.gar l d) [.int .u32 1, .int .u32 0, .int .u32 0, .int .u32 0] 37 _ (by simp)
          case d2 => intro u hu; simp only [List.mem_cons, List.not_mem_nil, or_false] at hu; rcases hu with rfl | rfl | rfl | rfl <;> rfl
          case d3 => unfold maxLen; omega
          case d4 => omega
          case d5 => simp; omega
          intro v2 w1 hn1 hg1 _
          have hb1 := below_grown hg1 (B := X.heap.size) (by simp; omega) (fun k hk => (hown'.lt k hk).1)
          obtain ⟨l4, d4, rfl⟩ := ((RowKit.Below.of_gar X l d).trans (((RowKit.Below.refl X.heap.size (X.gar l d)).alloc (by simp) _).trans hb1)).gar
          have he : [Value.int .u32 1, .int .u32 0, .int .u32 0, .int .u32 0] = entC (j + 1) (j + 1) := by
            unfold entC; rw [C_self, lb0, lb1, lb2, lb3]; rfl
          rw [he, ← rowC_succ] at hn1
          clear he hg1 hb1 hown hown' hne hown2
          obtain ⟨g2, cap2, rfl⟩ := ownsRow_succ hn1
          gi_wp2
          go_roundw
          case rel => exact ⟨j + 1, by omega, by go_num, l4, d4, rfl, hn1⟩
          case measure => simp [intOf]; omega
        · have a1 : (j : Int) + 1 < (m : Int) + 1 := by omega
          have a2 : (0 : Int) ≤ j := by omega
          have a3 : (0 : Int) ≤ (j : Int) + 1 := by omega
          have a4 : (j : Int) < (m : Int) + 1 := by omega
          gi_wp2
          gi_cut [6] from 49 (fun p wc => ∃ (B : Nat) (l' : List Obj) (d' : Nat), p = .pointer (some ⟨B, 0, none⟩) ∧ wc = X.gar l' d' ∧
            wc.ownsRow X.heap.size 37 4 (.slice (some ⟨g, 0, none⟩) (m + 1) cap) (m + 1) (rowC m (m + 1)) ∧ wc.ownsRow X.heap.size 37 4 (.slice (some ⟨g', 0, none⟩) (j + 1) cap') (j + 1) (rowC (m + 1) (j + 1)) ∧
            wc.cell? ⟨B, 0, none⟩ = some (.int .u32 (lb (C (m + 1) (j + 1)) 0)) ∧ wc.cell? ⟨B, 1, none⟩ = some (.int .u32 (lb (C (m + 1) (j + 1)) 1)) ∧
            wc.cell? ⟨B, 2, none⟩ = some (.int .u32 (lb (C (m + 1) (j + 1)) 2)) ∧ wc.cell? ⟨B, 3, none⟩ = some (.int .u32 (lb (C (m + 1) (j + 1)) 3)))
          case first =>
            have e1 : IntKind.i64.wrap (j : Int) = j := IntWalk.i64_in _ (by omega)
            have e2 : ((j : Int) + 1).toNat = j + 1 := by omega
            have x0 := rowC_cell hown j 0 (by omega) (by omega)
            have x1 := rowC_cell hown j 1 (by omega) (by omega)
            have x2 := rowC_cell hown j 2 (by omega) (by omega)
            have x3 := rowC_cell hown j 3 (by omega) (by omega)
            have y0 := rowC_cell hown (j + 1) 0 (by omega) (by omega)
            have y1 := rowC_cell hown (j + 1) 1 (by omega) (by omega)
            have y2 := rowC_cell hown (j + 1) 2 (by omega) (by omega)
            have y3 := rowC_cell hown (j + 1) 3 (by omega) (by omega)
            rw [Nat.add_zero] at x0 y0
            haveI hgI : LtC g (X.heap.size + l.length) := ⟨by have := (hown.lt g rfl).2; rwa [World.size_gar] at this⟩
            gi_region_with (gi_at_call 82; refine (callsIn_wide.2 (add_h (C m j) (C m (j + 1)) _ (Nat.lt_trans (C_lt m j (by omega)) (by decide)) (Nat.lt_trans (C_lt m (j + 1) (by omega)) (by decide)))).mono ?_; rintro e w' ⟨s, c, rfl, hc1, Hsc, hb⟩; obtain ⟨l3, d3, rfl⟩ := hb.gar; clear hb)
            all_goals
              have hsv : s = C (m + 1) (j + 1) := by
                have h1 := C_lt m j (by omega)
                have h2 := C_lt m (j + 1) (by omega)
                rw [Hsc.out.1]
                exact Nat.mod_eq_of_lt (by unfold M128; omega)
              subst hsv
              clear Hsc x0 x1 x2 x3 y0 y1 y2 y3 e1 e2
              gi_wp2
              gi_meet
              case rel =>
                exact ⟨_, _, _, rfl, (by simp only [World.gar_alloc, World.gar_gar, World.gar_drew, World.gar_drewN, World.drew_gar, List.append_assoc]; rfl), (by simp only [World.gar_alloc, World.gar_gar, World.gar_drew, World.gar_drewN, World.drew_gar, List.append_assoc]; exact own_app hown _ _), (by simp only [World.gar_alloc, World.gar_gar, World.gar_drew, World.gar_drewN, World.drew_gar, List.append_assoc]; exact own_app hown' _ _), (by simp [go_sem]), (by simp [go_sem]), (by simp [go_sem]), (by simp [go_sem])⟩
          case rest =>
            obtain ⟨B, l', d', rfl, rfl, ho1, ho2, c0, c1, c2, c3⟩ := hcut
            have hBl := World.block_lt_of_cell? _ _ c0
            simp only [World.size_gar] at hBl
            haveI hBI : LtC B (X.heap.size + l'.length) := ⟨hBl⟩
            gi_wp2_with (gi_at_builtin; refine wpListIn_append_own _ rfl (.tmp 41) (.tmp 43) 161 rfl X.heap.size 37 i0 _ 4 16 Try.underlying161 hi hz0 hz1 hz2 rfl (by decide) _ _ _ rfl (ho2.alloc _) ⟨X.heap.size + l'.length, 0, none⟩ 1 1 (entC (m + 1) (j + 1)) rfl rfl ?c1 ?c2 ?c3 ?c4 ?c5 ?_)
            case c1 => exact cells_new (X.gar l' d') (entC (m + 1) (j + 1)) 37 _ (by simp)
            case c2 => intro u hu; simp only [entC, List.mem_cons, List.not_mem_nil, or_false] at hu; rcases hu with rfl | rfl | rfl | rfl <;> rfl
            case c3 => unfold maxLen; omega
            case c4 => omega
            case c5 => simp; omega
            intro v2 w1 hn1 hg1 _
            have hne' : some g ≠ (Value.slice (some ⟨g', 0, none⟩) (j + 1) cap').ownBlock := by
              rcases Nat.eq_zero_or_pos j with h0 | h0
              · exact hne h0
              · exact rows_ne ho1 ho2 h0 (by omega) (by omega)
            have ho3 := (ho1.alloc (.cells #[.int .u32 (lb (C (m + 1) (j + 1)) 0), .int .u32 (lb (C (m + 1) (j + 1)) 1), .int .u32 (lb (C (m + 1) (j + 1)) 2), .int .u32 (lb (C (m + 1) (j + 1)) 3)] 37)).kept hg1 (.inr hne')
            rw [← rowC_succ] at hn1
            have hb1 := below_grown hg1 (B := X.heap.size) (by simp; omega) (fun k hk => (ho2.lt k hk).1)
            obtain ⟨l4, d4, rfl⟩ := ((RowKit.Below.of_gar X l' d').trans (((RowKit.Below.refl X.heap.size (X.gar l' d')).alloc (by simp) _).trans hb1)).gar
            clear hg1 hb1 ho1 ho2 hne hne' c0 c1 c2 c3 hown hown'
            obtain ⟨g2, cap2, rfl⟩ := ownsRow_succ hn1
            gi_wp2
            go_roundw
            case rel => exact ⟨j + 1, by omega, by go_num, l4, d4, rfl, ho3, hn1, fun h => by omega⟩
            case measure => simp [intOf]; omega
end Go.Proofs
