import Derived.Test.YtaladbaeplgjgaaX00
set_option linter.unusedSimpArgs false
set_option linter.unusedVariables false
namespace Go.Proofs
open Go.RowKit
def upd (f : Nat → Int) (i : Nat) (v : Int) : Nat → Int := fun j => if j = i then v else f j
def mx (a b : Nat → Int) (i j : Nat) (s : (Nat → Int) × Int) : Int := s.2 + (a i * b j + s.1 (i + j))
def mi (a b : Nat → Int) (i : Nat) (f : Nat → Int) : Nat → (Nat → Int) × Int
  | 0 => (f, 0)
  | j + 1 => (upd (mi a b i f j).1 (i + j) (mx a b i j (mi a b i f j) % 4294967296), mx a b i j (mi a b i f j) / 4294967296)
def mo (a b : Nat → Int) : Nat → Nat → Int
  | 0 => fun _ => 0
  | i + 1 => upd (mi a b i (mo a b i) 4).1 (i + 4) (mi a b i (mo a b i) 4).2
def U32 (f : Nat → Int) : Prop := ∀ i, 0 ≤ f i ∧ f i < 4294967296
theorem upd_U {f : Nat → Int} (h : U32 f) (i : Nat) {v : Int} (hv : 0 ≤ v ∧ v < 4294967296) : U32 (upd f i v) := by
  intro j; unfold upd; split
  · exact hv
  · exact h j
theorem prod_bd {x y : Int} (hx : 0 ≤ x ∧ x < 4294967296) (hy : 0 ≤ y ∧ y < 4294967296) : 0 ≤ x * y ∧ x * y ≤ 18446744065119617025 := by
  refine ⟨Int.mul_nonneg hx.1 hy.1, ?_⟩
  have h1 : x * y ≤ 4294967295 * y := Int.mul_le_mul_of_nonneg_right (by omega) hy.1
  omega
theorem mi_bd {a b : Nat → Int} (ha : U32 a) (hb : U32 b) (i : Nat) {f : Nat → Int} (hf : U32 f) : ∀ j, U32 (mi a b i f j).1 ∧ 0 ≤ (mi a b i f j).2 ∧ (mi a b i f j).2 < 4294967296
  | 0 => ⟨hf, by simp [mi], by simp [mi]⟩
  | j + 1 => by
    obtain ⟨h1, h2, h3⟩ := mi_bd ha hb i hf j
    have hp := prod_bd (ha i) (hb j)
    have h4 := h1 (i + j)
    have hx : 0 ≤ mx a b i j (mi a b i f j) ∧ mx a b i j (mi a b i f j) < 18446744073709551616 := by unfold mx; omega
    refine ⟨upd_U h1 _ (by omega), ?_, ?_⟩
    · show 0 ≤ mx a b i j (mi a b i f j) / 4294967296; omega
    · show mx a b i j (mi a b i f j) / 4294967296 < 4294967296; omega
theorem mo_bd {a b : Nat → Int} (ha : U32 a) (hb : U32 b) : ∀ i, U32 (mo a b i)
  | 0 => fun _ => by simp [mo]
  | i + 1 => by
    have := mi_bd ha hb i (mo_bd ha hb i) 4
    exact upd_U this.1 _ this.2
def c8 (f : Nat → Int) : Array Value := #[.int .u32 (f 0), .int .u32 (f 1), .int .u32 (f 2), .int .u32 (f 3), .int .u32 (f 4), .int .u32 (f 5), .int .u32 (f 6), .int .u32 (f 7)]
set_option maxHeartbeats 4000000 in
theorem mul_x (a b : Nat → Int) (w : World) (ha : U32 a) (hb : U32 b) :
   Calls Try.prog 81 #[.agg (c32 a), .agg (c32 b)] w fun e w' => e = .returned (.tuple #[.agg (c32 (mo a b 4)), .bool (mo a b 4 4 == 0 && (mo a b 4 5 == 0 && (mo a b 4 6 == 0 && mo a b 4 7 == 0)))]) ∧ Below w.heap.size w w' := by
  simp only [c32]
  go_enter Try.func81, Try.ntmps81
  go_wp2
  go_loopw [10] (fun i wr => ∃ k : Int, 0 ≤ k ∧ k ≤ 4 ∧ i = .int .i64 k ∧ ∃ l d, wr = World.gar ((((w.alloc (.cells (c32 a) 37)).alloc (.cells (c32 b) 37)).alloc (.cells #[.int .u32 0, .int .u32 0, .int .u32 0, .int .u32 0] 37)).alloc (.cells (c8 (mo a b k.toNat)) 191)) l d) (fun i _ => 4 - (intOf i).toNat)
  case atStart => exact ⟨0, by omega, by omega, rfl, [], _, World.gar_nil.symm⟩
  case round =>
    obtain ⟨k, hk0, hk, rfl, l, d, rfl⟩ := hrel
    have hk5 : k = 0 ∨ k = 1 ∨ k = 2 ∨ k = 3 ∨ k = 4 := by omega
    rcases hk5 with rfl | rfl | rfl | rfl | rfl
    all_goals simp only [c32, c8, Int.reduceToNat]
    · go_wp2
      go_loopw [8, 13] (fun c j wr => ∃ q : Int, 0 ≤ q ∧ q ≤ 4 ∧ j = .int .i64 q ∧ c = .int .u64 (mi a b 0 (mo a b 0) q.toNat).2 ∧ ∃ l d, wr = World.gar ((((w.alloc (.cells (c32 a) 37)).alloc (.cells (c32 b) 37)).alloc (.cells #[.int .u32 0, .int .u32 0, .int .u32 0, .int .u32 0] 37)).alloc (.cells (c8 ((mi a b 0 (mo a b 0) q.toNat).1)) 191)) l d) (fun _ j _ => 4 - (intOf j).toNat)
      case atStart => exact ⟨0, by omega, by omega, rfl, rfl, l, d, rfl⟩
      case round =>
        obtain ⟨q, hq0, hq, rfl, rfl, l', d', rfl⟩ := hrel
        have hq5 : q = 0 ∨ q = 1 ∨ q = 2 ∨ q = 3 ∨ q = 4 := by omega
        have hm := mi_bd ha hb 0 (mo_bd ha hb 0) q.toNat
        have hc := hm.2
        have hf := hm.1 (0 + q.toNat)
        have hp := prod_bd (ha 0) (hb q.toNat)
        have hA := ha 0
        have hB := hb q.toNat
        clear hm
        rcases hq5 with rfl | rfl | rfl | rfl | rfl
        all_goals simp only [c32, c8, Int.reduceToNat, Nat.reduceAdd] at hc hf hp hB ⊢
        iterate 4
          · go_wp2
            go_quiet (fail)
            go_wp2
            exact ⟨⟨_, by omega, by omega, rfl, rfl, _, _, rfl⟩, by simp [intOf]⟩
        · go_wp2
          exact ⟨⟨_, by omega, by omega, rfl, _, _, rfl⟩, by simp [intOf]⟩
    · go_wp2
      go_loopw [8, 13] (fun c j wr => ∃ q : Int, 0 ≤ q ∧ q ≤ 4 ∧ j = .int .i64 q ∧ c = .int .u64 (mi a b 1 (mo a b 1) q.toNat).2 ∧ ∃ l d, wr = World.gar ((((w.alloc (.cells (c32 a) 37)).alloc (.cells (c32 b) 37)).alloc (.cells #[.int .u32 0, .int .u32 0, .int .u32 0, .int .u32 0] 37)).alloc (.cells (c8 ((mi a b 1 (mo a b 1) q.toNat).1)) 191)) l d) (fun _ j _ => 4 - (intOf j).toNat)
      case atStart => exact ⟨0, by omega, by omega, rfl, rfl, l, d, rfl⟩
      case round =>
        obtain ⟨q, hq0, hq, rfl, rfl, l', d', rfl⟩ := hrel
        have hq5 : q = 0 ∨ q = 1 ∨ q = 2 ∨ q = 3 ∨ q = 4 := by omega
        have hm := mi_bd ha hb 1 (mo_bd ha hb 1) q.toNat
        have hc := hm.2
        have hf := hm.1 (1 + q.toNat)
        have hp := prod_bd (ha 1) (hb q.toNat)
        have hA := ha 1
        have hB := hb q.toNat
        clear hm
        rcases hq5 with rfl | rfl | rfl | rfl | rfl
        all_goals simp only [c32, c8, Int.reduceToNat, Nat.reduceAdd] at hc hf hp hB ⊢
        iterate 4
          · go_wp2
            go_quiet (fail)
            go_wp2
            exact ⟨⟨_, by omega, by omega, rfl, rfl, _, _, rfl⟩, by simp [intOf]⟩
        · go_wp2
          exact ⟨⟨_, by omega, by omega, rfl, _, _, rfl⟩, by simp [intOf]⟩
    · go_wp2
      go_loopw [8, 13] (fun c j wr => ∃ q : Int, 0 ≤ q ∧ q ≤ 4 ∧ j = .int .i64 q ∧ c = .int .u64 (mi a b 2 (mo a b 2) q.toNat).2 ∧ ∃ l d, wr = World.gar ((((w.alloc (.cells (c32 a) 37)).alloc (.cells (c32 b) 37)).alloc (.cells #[.int .u32 0, .int .u32 0, .int .u32 0, .int .u32 0] 37)).alloc (.cells (c8 ((mi a b 2 (mo a b 2) q.toNat).1)) 191)) l d) (fun _ j _ => 4 - (intOf j).toNat)
      case atStart => exact ⟨0, by omega, by omega, rfl, rfl, l, d, rfl⟩
      case round =>
        obtain ⟨q, hq0, hq, rfl, rfl, l', d', rfl⟩ := hrel
        have hq5 : q = 0 ∨ q = 1 ∨ q = 2 ∨ q = 3 ∨ q = 4 := by omega
        have hm := mi_bd ha hb 2 (mo_bd ha hb 2) q.toNat
        have hc := hm.2
        have hf := hm.1 (2 + q.toNat)
        have hp := prod_bd (ha 2) (hb q.toNat)
        have hA := ha 2
        have hB := hb q.toNat
        clear hm
        rcases hq5 with rfl | rfl | rfl | rfl | rfl
        all_goals simp only [c32, c8, Int.reduceToNat, Nat.reduceAdd] at hc hf hp hB ⊢
        iterate 4
          · go_wp2
            go_quiet (fail)
            go_wp2
            exact ⟨⟨_, by omega, by omega, rfl, rfl, _, _, rfl⟩, by simp [intOf]⟩
        · go_wp2
          exact ⟨⟨_, by omega, by omega, rfl, _, _, rfl⟩, by simp [intOf]⟩
    · go_wp2
      go_loopw [8, 13] (fun c j wr => ∃ q : Int, 0 ≤ q ∧ q ≤ 4 ∧ j = .int .i64 q ∧ c = .int .u64 (mi a b 3 (mo a b 3) q.toNat).2 ∧ ∃ l d, wr = World.gar ((((w.alloc (.cells (c32 a) 37)).alloc (.cells (c32 b) 37)).alloc (.cells #[.int .u32 0, .int .u32 0, .int .u32 0, .int .u32 0] 37)).alloc (.cells (c8 ((mi a b 3 (mo a b 3) q.toNat).1)) 191)) l d) (fun _ j _ => 4 - (intOf j).toNat)
      case atStart => exact ⟨0, by omega, by omega, rfl, rfl, l, d, rfl⟩
      case round =>
        obtain ⟨q, hq0, hq, rfl, rfl, l', d', rfl⟩ := hrel
        have hq5 : q = 0 ∨ q = 1 ∨ q = 2 ∨ q = 3 ∨ q = 4 := by omega
        have hm := mi_bd ha hb 3 (mo_bd ha hb 3) q.toNat
        have hc := hm.2
        have hf := hm.1 (3 + q.toNat)
        have hp := prod_bd (ha 3) (hb q.toNat)
        have hA := ha 3
        have hB := hb q.toNat
        clear hm
        rcases hq5 with rfl | rfl | rfl | rfl | rfl
        all_goals simp only [c32, c8, Int.reduceToNat, Nat.reduceAdd] at hc hf hp hB ⊢
        iterate 4
          · go_wp2
            go_quiet (fail)
            go_wp2
            exact ⟨⟨_, by omega, by omega, rfl, rfl, _, _, rfl⟩, by simp [intOf]⟩
        · go_wp2
          exact ⟨⟨_, by omega, by omega, rfl, _, _, rfl⟩, by simp [intOf]⟩
    · go_wp2
      go_region
      go_wp2
      refine bodyPost_ret (v := .tuple #[.agg (c32 (mo a b 4)), .bool (mo a b 4 4 == 0 && (mo a b 4 5 == 0 && (mo a b 4 6 == 0 && mo a b 4 7 == 0)))]) ?_ rfl ⟨rfl, ?_⟩
      · simp [results, Try.results81, go_sem, c32]
      simp only [World.alloc_gar, World.gar_gar, World.gar_drewN, World.gar_drew]; exact RowKit.Below.of_gar _ _ _
end Go.Proofs
