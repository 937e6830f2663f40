/- The world after a call that only made new blocks: 'gar w l d': the blocks l behind w's, the draws' count d. -/
import Derived.WalkKit
import Derived.Deep.QuietTactic
import Derived.BigQuiet
import Derived.LoopN
import Derived.WalkSmall
import Derived.Lib.Hide
import Derived.Laws.Cover3
import Derived.RegionTactic
import Derived.Test.YtaladbaeplgjgaaProg
set_option linter.unusedSimpArgs false
set_option linter.unusedVariables false
namespace Go
open Go.RowKit
/-- 'a < b' by the form of the two terms, found by instances: so that a block's number is seen to lie below a world's size. -/
class LtC (a b : Nat) : Prop where
  lt : a < b
instance (priority := low) LtC.base (a : Nat) : LtC a (a + 1) := ⟨Nat.lt_succ_self a⟩
instance LtC.step (a b c : Nat) [h : LtC a b] : LtC a (b + c) := ⟨Nat.lt_of_lt_of_le h.lt (Nat.le_add_right _ _)⟩
@[go_sem] theorem lt_of_ltC {a b : Nat} [h : LtC a b] : (a < b) = True := eq_true h.lt
@[go_sem] theorem ne_of_ltC {a b : Nat} [h : LtC a b] : (a = b) = False := eq_false (Nat.ne_of_lt h.lt)
@[go_sem] theorem ne_of_ltC' {a b : Nat} [h : LtC a b] : (b = a) = False := eq_false (Nat.ne_of_gt h.lt)
/-- w with the blocks l behind its own, and the draws' count d. -/
def World.gar (w : World) (l : List Obj) (d : Nat) : World := { w with heap := w.heap ++ l.toArray, drawn := d }
section
variable {w : World} {l m : List Obj} {d e : Nat}
theorem World.gar_nil : w.gar [] w.drawn = w := by simp [World.gar]
@[go_sem] theorem World.gar_gar : (w.gar l d).gar m e = w.gar (l ++ m) e := by simp [World.gar]
theorem World.gar_alloc (o : Obj) : (w.gar l d).alloc o = w.gar (l ++ [o]) d := by
  unfold World.gar World.alloc
  congr 1
  simp
theorem World.alloc_gar (o : Obj) : w.alloc o = w.gar [o] w.drawn := by
  unfold World.gar World.alloc
  congr 1
@[simp, go_sem] theorem World.drew_gar : w.drew.gar l d = w.gar l d := rfl
@[simp, go_sem] theorem World.drewN_gar (n : Nat) : (w.drewN n).gar l d = w.gar l d := rfl
theorem World.gar_drew : (w.gar l d).drew = w.gar l (d + 1) := rfl
theorem World.gar_drewN (n : Nat) : (w.gar l d).drewN n = w.gar l (d + n) := rfl
@[simp, go_sem] theorem World.drew_alloc' (o : Obj) : w.drew.alloc o = (w.alloc o).drew := rfl
@[simp, go_sem] theorem World.drewN_alloc' (n : Nat) (o : Obj) : (w.drewN n).alloc o = (w.alloc o).drewN n := rfl
@[simp, go_sem] theorem World.size_gar : (w.gar l d).heap.size = w.heap.size + l.length := by simp [World.gar]
@[simp, go_sem] theorem World.size_drewN (n : Nat) : (w.drewN n).heap.size = w.heap.size := rfl
theorem World.heap_gar_past {n : Nat} (hn : n < w.heap.size) : (w.gar l d).heap[n]? = w.heap[n]? := by
  simp [World.gar, Array.getElem?_append, hn]
theorem World.heap_gar_at {n : Nat} : (w.gar l d).heap[w.heap.size + n]? = l[n]? := by
  simp only [World.gar, Array.getElem?_append]
  rw [if_neg (by omega)]
  simp
@[go_sem] theorem World.cell?_gar_past (n i : Nat) (hn : n < w.heap.size) : (w.gar l d).cell? ⟨n, i, none⟩ = w.cell? ⟨n, i, none⟩ := by
  simp [World.cell?, World.heap_gar_past hn]
@[go_sem] theorem World.frozen?_gar_past (n i : Nat) (hn : n < w.heap.size) : (w.gar l d).frozen? ⟨n, i, none⟩ = w.frozen? ⟨n, i, none⟩ := by
  simp [World.frozen?, World.heap_gar_past hn]
@[go_sem] theorem World.setCell_gar_past (n i : Nat) (v : Value) (hn : n < w.heap.size) : (w.gar l d).setCell ⟨n, i, none⟩ v = (w.setCell ⟨n, i, none⟩ v).gar l d := by
  unfold World.setCell World.gar
  congr 1
  apply Array.ext_getElem?
  intro k
  simp only [Array.getElem?_modify, Array.getElem?_append, Array.size_modify]
  by_cases hk : k < w.heap.size
  · simp [hk]
  · simp [hk]
    intro h; omega
@[simp, go_sem] theorem World.setCell_drewN (n : Nat) (a : Addr) (v : Value) : (w.drewN n).setCell a v = (w.setCell a v).drewN n := rfl
theorem RowKit.Below.gar {w' : World} (h : Below w.heap.size w w') : ∃ l d, w' = w.gar l d := by
  refine ⟨(w'.heap.toList.drop w.heap.size), w'.drawn, ?_⟩
  have hh : w'.heap = w.heap ++ (w'.heap.toList.drop w.heap.size).toArray := by
    apply Array.ext_getElem?
    intro k
    have hs := h.size
    rw [Array.getElem?_append]
    split
    · rename_i hk; exact h.block k hk
    · rename_i hk
      simp only [List.getElem?_toArray, List.getElem?_drop, Array.getElem?_toList]
      congr 1; omega
  cases w'
  simp only [World.gar]
  have h1 := h.os; have h2 := h.tape; have h3 := h.output
  simp only at h1 h2 h3 hh
  simp only [World.mk.injEq]
  exact ⟨hh, h2, trivial, h1, h3⟩
theorem RowKit.Below.of_gar (w : World) (l : List Obj) (d : Nat) : Below w.heap.size w (w.gar l d) :=
  ⟨rfl, rfl, rfl, by simp, fun k hk => World.heap_gar_past hk⟩
end
end Go

/- '==' between two arrays of four numbers of one kind; a slice as an array of four. -/
namespace Go
section
variable {P : Program} (w : World)
theorem run_isAgg_int {e : TypeId} {k : IntKind} (he : P.underlying e = some (.int k)) : (isAgg e).run P w = .ok false w := by
  simp [isAgg, run_underlying he]
theorem run_equalIn_array4 (d : Nat) (t e : TypeId) (k : IntKind) (a0 a1 a2 a3 b0 b1 b2 b3 : Int) (ht : P.underlying t = some (.array 4 e)) (he : P.underlying e = some (.int k)) (hs : (sizeOf e).run P w = .ok 1 w) :
    (Op.equalIn (d + 2) t (.agg #[.int k a0, .int k a1, .int k a2, .int k a3]) (.agg #[.int k b0, .int k b1, .int k b2, .int k b3])).run P w = .ok (a0 == b0 && (a1 == b1 && (a2 == b2 && a3 == b3))) w := by
  rw [Op.equalIn]
  simp only [Sem.run_bind, run_underlying ht, Result.andThen_ok, hs]
  have hq : ∀ x y : Int, (Op.equalIn (d + 1) e (.int k x) (.int k y)).run P w = .ok (x == y) w := fun x y => run_equalIn_int w d e k k x y he
  simp [part, run_isAgg_int w he, hq, show List.range' 0 4 = [0, 1, 2, 3] from rfl]
  by_cases h0 : a0 = b0 <;> by_cases h1 : a1 = b1 <;> by_cases h2 : a2 = b2 <;> by_cases h3 : a3 = b3 <;> simp [h0, h1, h2, h3]
end
end Go

/- The laws of this program's arrays, for the walk. -/
namespace Go.Proofs
open Go.RowKit
@[go_sem] theorem Try.eq36 (W : World) (a0 a1 a2 a3 b0 b1 b2 b3 : Int) : (Op.equalIn 10000 36 (.agg #[.int .u32 a0, .int .u32 a1, .int .u32 a2, .int .u32 a3]) (.agg #[.int .u32 b0, .int .u32 b1, .int .u32 b2, .int .u32 b3])).run Try.prog W = .ok (a0 == b0 && (a1 == b1 && (a2 == b2 && a3 == b3))) W :=
  run_equalIn_array4 (P := Try.prog) W 9998 36 35 .u32 a0 a1 a2 a3 b0 b1 b2 b3 Try.underlying36 Try.underlying35 (Try.sizeOf35 W)
@[go_sem] theorem Try.eq37 (W : World) (a0 a1 a2 a3 b0 b1 b2 b3 : Int) : (Op.equalIn 10000 37 (.agg #[.int .u32 a0, .int .u32 a1, .int .u32 a2, .int .u32 a3]) (.agg #[.int .u32 b0, .int .u32 b1, .int .u32 b2, .int .u32 b3])).run Try.prog W = .ok (a0 == b0 && (a1 == b1 && (a2 == b2 && a3 == b3))) W :=
  run_equalIn_array4 (P := Try.prog) W 9998 37 35 .u32 a0 a1 a2 a3 b0 b1 b2 b3 Try.underlying37 Try.underlying35 (Try.sizeOf35 W)
@[go_sem] theorem Try.eq26 (W : World) (a0 a1 a2 a3 b0 b1 b2 b3 : Int) : (Op.equalIn 10000 26 (.agg #[.int .u64 a0, .int .u64 a1, .int .u64 a2, .int .u64 a3]) (.agg #[.int .u64 b0, .int .u64 b1, .int .u64 b2, .int .u64 b3])).run Try.prog W = .ok (a0 == b0 && (a1 == b1 && (a2 == b2 && a3 == b3))) W :=
  run_equalIn_array4 (P := Try.prog) W 9998 26 24 .u64 a0 a1 a2 a3 b0 b1 b2 b3 Try.underlying26 Try.underlying24 (Try.sizeOf24 W)
@[go_sem] theorem Try.arrayAt37 (W : World) (A : Option Addr) (c : Nat) : (Instr.arrayAt 37 (.slice A 4 c)).run Try.prog W = .ok (.pointer A) W :=
  run_arrayAt (P := Try.prog) (w := W) 37 35 4 A 4 c Try.underlying37 (by decide)
@[go_sem] theorem Try.arrayAt36 (W : World) (A : Option Addr) (c : Nat) : (Instr.arrayAt 36 (.slice A 4 c)).run Try.prog W = .ok (.pointer A) W :=
  run_arrayAt (P := Try.prog) (w := W) 36 35 4 A 4 c Try.underlying36 (by decide)
theorem ret_i64 {a b : Int} (h : a = b) : Ending.returned (.int .i64 a) = .returned (.int .i64 b) := by rw [h]
theorem ret_bool {a b : Bool} (h : a = b) : Ending.returned (.bool a) = .returned (.bool b) := by rw [h]
end Go.Proofs

namespace Go.Proofs
open Go.RowKit
def cy (a b : Nat → Int) : Nat → Int | 0 => 0 | k+1 => (cy a b k + (a k + b k)) / 4294967296
def sm (a b : Nat → Int) (k : Nat) : Int := (cy a b k + (a k + b k)) % 4294967296
def c32 (f : Nat → Int) : Array Value := #[.int .u32 (f 0), .int .u32 (f 1), .int .u32 (f 2), .int .u32 (f 3)]
def mix (k : Nat) (f g : Nat → Int) (i : Nat) : Int := if i < k then f i else g i
theorem cy_bd (a b : Nat → Int) (ha : ∀ i, 0 ≤ a i ∧ a i < 4294967296) (hb : ∀ i, 0 ≤ b i ∧ b i < 4294967296) : ∀ k, 0 ≤ cy a b k ∧ cy a b k ≤ 1
  | 0 => by simp [cy]
  | k+1 => by have := cy_bd a b ha hb k; have := ha k; have := hb k; unfold cy; omega
theorem gar_end_example : True := trivial
set_option maxHeartbeats 1000000 in
theorem add_x (a b : Nat → Int) (w : World) (ha : ∀ i, 0 ≤ a i ∧ a i < 4294967296) (hb : ∀ i, 0 ≤ b i ∧ b i < 4294967296) :
   Calls Try.prog 82 #[.agg (c32 a), .agg (c32 b)] w fun e w' => e = .returned (.tuple #[.agg (c32 (sm a b)), .int .u64 (cy a b 4)]) ∧ Below w.heap.size w w' := by
  simp only [c32]
  go_enter Try.func82, Try.ntmps82
  go_wp2
  go_loopw [6, 7, 8] (fun c t i wr => ∃ k : Int, 0 ≤ k ∧ k ≤ 4 ∧ i = .int .i64 k ∧ c = .int .u64 (cy a b k.toNat) ∧ ∃ l d, wr = World.gar (((w.alloc (.cells (c32 (mix k.toNat (sm a b) a)) 37)).alloc (.cells (c32 b) 37)).alloc (.cells #[.int .u32 0, .int .u32 0, .int .u32 0, .int .u32 0] 37)) l d) (fun _ _ i _ => 4 - (intOf i).toNat)
  case atStart => exact ⟨0, by omega, by omega, rfl, rfl, [], _, World.gar_nil.symm⟩
  case round =>
    obtain ⟨k, hk0, hk, rfl, rfl, l, d, rfl⟩ := hrel
    have hk5 : k = 0 ∨ k = 1 ∨ k = 2 ∨ k = 3 ∨ k = 4 := by omega
    have hc := cy_bd a b ha hb k.toNat
    have hak := ha k.toNat
    have hbk := hb k.toNat
    rcases hk5 with rfl | rfl | rfl | rfl | rfl
    all_goals simp only [c32, mix, Int.reduceToNat, Nat.reduceLT, ↓reduceIte] at hc hak hbk ⊢
    iterate 4
      · go_wp2
        go_quiet (fail)
        go_wp2
        exact ⟨⟨_, by omega, by omega, rfl, rfl, _, _, rfl⟩, by simp [intOf]⟩
    · go_wp2
      refine bodyPost_ret (v := .tuple #[.agg (c32 (sm a b)), .int .u64 (cy a b 4)]) ?_ rfl ⟨rfl, ?_⟩
      · simp [results, Try.results82, go_sem, c32]
      simp only [World.alloc_gar, World.gar_gar, World.gar_drewN, World.gar_drew]; exact RowKit.Below.of_gar _ _ _
def val4 (a : Nat → Int) : Int := a 0 + 4294967296 * a 1 + 18446744073709551616 * a 2 + 79228162514264337593543950336 * a 3
def cmpI (x y : Int) : Int := if x < y then -1 else if y < x then 1 else 0
theorem cmpI_lt {x y : Int} (h : x < y) : cmpI x y = -1 := if_pos h
theorem cmpI_gt {x y : Int} (h : y < x) : cmpI x y = 1 := by unfold cmpI; rw [if_neg (by omega), if_pos h]
theorem cmpI_eq {x y : Int} (h : x = y) : cmpI x y = 0 := by unfold cmpI; rw [if_neg (by omega), if_neg (by omega)]
set_option maxHeartbeats 1000000 in
theorem cmp_x (a b : Nat → Int) (w : World) (ha : ∀ i, 0 ≤ a i ∧ a i < 4294967296) (hb : ∀ i, 0 ≤ b i ∧ b i < 4294967296) :
   Calls Try.prog 45 #[.agg (c32 a), .agg (c32 b)] w fun e w' => e = .returned (.int .i64 (cmpI (val4 a) (val4 b))) ∧ Below w.heap.size w w' := by
  simp only [c32]
  go_enter Try.func45, Try.ntmps45
  go_wp2
  go_loopw [5] (fun i wr => ∃ k : Int, -1 ≤ k ∧ k ≤ 3 ∧ i = .int .i64 k ∧ (k < 3 → Hid (a 3 = b 3)) ∧ (k < 2 → Hid (a 2 = b 2)) ∧ (k < 1 → Hid (a 1 = b 1)) ∧ (k < 0 → Hid (a 0 = b 0)) ∧ ∃ l d, wr = World.gar ((w.alloc (.cells (c32 a) 37)).alloc (.cells (c32 b) 37)) l d) (fun i _ => (intOf i + 1).toNat)
  case atStart => exact ⟨3, by omega, by omega, rfl, by omega, by omega, by omega, by omega, [], _, World.gar_nil.symm⟩
  case round =>
    obtain ⟨k, hk0, hk, rfl, h3, h2, h1, h0, l, d, rfl⟩ := hrel
    have hk5 : k = 3 ∨ k = 2 ∨ k = 1 ∨ k = 0 ∨ k = -1 := by omega
    have a0 := ha 0; have a1 := ha 1; have a2 := ha 2; have a3 := ha 3
    have b0 := hb 0; have b1 := hb 1; have b2 := hb 2; have b3 := hb 3
    have H3 := Lib.hid h3
    have H2 := Lib.hid h2
    have H1 := Lib.hid h1
    have H0 := Lib.hid h0
    clear h3 h2 h1 h0
    rcases hk5 with rfl | rfl | rfl | rfl | rfl
    all_goals simp only [c32]
    · rcases Int.lt_trichotomy (a 3) (b 3) with h | h | h
      · go_wp2
        go_quiet (fail)
        go_wp2
        go_ret
        refine ⟨?_, ?_⟩
        ·  rw [cmpI_lt (by unfold val4;  omega)]; rfl
        · simp only [World.alloc_gar, World.gar_gar, World.gar_drewN, World.gar_drew]; exact RowKit.Below.of_gar _ _ _
      · have hA : a 3 ≤ b 3 := by omega
        have hB : b 3 ≤ a 3 := by omega
        clear h
        go_wp2
        go_quiet (fail)
        go_wp2
        go_quiet (fail)
        go_wp2
        exact ⟨⟨_, by omega, by omega, rfl, fun h => Lib.hid (by omega), by omega, by omega, by omega, _, _, rfl⟩, by simp [intOf]⟩
      · go_wp2
        go_quiet (fail)
        go_wp2
        go_quiet (fail)
        go_wp2
        go_ret
        refine ⟨?_, ?_⟩
        · rw [cmpI_gt (by unfold val4;  omega)]; rfl
        · simp only [World.alloc_gar, World.gar_gar, World.gar_drewN, World.gar_drew]; exact RowKit.Below.of_gar _ _ _
    · rcases Int.lt_trichotomy (a 2) (b 2) with h | h | h
      · go_wp2
        go_quiet (fail)
        go_wp2
        go_ret
        refine ⟨?_, ?_⟩
        · rw [cmpI_lt (by unfold val4; have e3 := (H3.out (by omega)).out; omega)]; rfl
        · simp only [World.alloc_gar, World.gar_gar, World.gar_drewN, World.gar_drew]; exact RowKit.Below.of_gar _ _ _
      · have hA : a 2 ≤ b 2 := by omega
        have hB : b 2 ≤ a 2 := by omega
        clear h
        go_wp2
        go_quiet (fail)
        go_wp2
        go_quiet (fail)
        go_wp2
        exact ⟨⟨_, by omega, by omega, rfl, fun _ => H3.out (by omega), fun h => Lib.hid (by omega), by omega, by omega, _, _, rfl⟩, by simp [intOf]⟩
      · go_wp2
        go_quiet (fail)
        go_wp2
        go_quiet (fail)
        go_wp2
        go_ret
        refine ⟨?_, ?_⟩
        · rw [cmpI_gt (by unfold val4; have e3 := (H3.out (by omega)).out; omega)]; rfl
        · simp only [World.alloc_gar, World.gar_gar, World.gar_drewN, World.gar_drew]; exact RowKit.Below.of_gar _ _ _
    · rcases Int.lt_trichotomy (a 1) (b 1) with h | h | h
      · go_wp2
        go_quiet (fail)
        go_wp2
        go_ret
        refine ⟨?_, ?_⟩
        · rw [cmpI_lt (by unfold val4; have e3 := (H3.out (by omega)).out; have e2 := (H2.out (by omega)).out; omega)]; rfl
        · simp only [World.alloc_gar, World.gar_gar, World.gar_drewN, World.gar_drew]; exact RowKit.Below.of_gar _ _ _
      · have hA : a 1 ≤ b 1 := by omega
        have hB : b 1 ≤ a 1 := by omega
        clear h
        go_wp2
        go_quiet (fail)
        go_wp2
        go_quiet (fail)
        go_wp2
        exact ⟨⟨_, by omega, by omega, rfl, fun _ => H3.out (by omega), fun _ => H2.out (by omega), fun h => Lib.hid (by omega), by omega, _, _, rfl⟩, by simp [intOf]⟩
      · go_wp2
        go_quiet (fail)
        go_wp2
        go_quiet (fail)
        go_wp2
        go_ret
        refine ⟨?_, ?_⟩
        · rw [cmpI_gt (by unfold val4; have e3 := (H3.out (by omega)).out; have e2 := (H2.out (by omega)).out; omega)]; rfl
        · simp only [World.alloc_gar, World.gar_gar, World.gar_drewN, World.gar_drew]; exact RowKit.Below.of_gar _ _ _
    · rcases Int.lt_trichotomy (a 0) (b 0) with h | h | h
      · go_wp2
        go_quiet (fail)
        go_wp2
        go_ret
        refine ⟨?_, ?_⟩
        · rw [cmpI_lt (by unfold val4; have e3 := (H3.out (by omega)).out; have e2 := (H2.out (by omega)).out; have e1 := (H1.out (by omega)).out; omega)]; rfl
        · simp only [World.alloc_gar, World.gar_gar, World.gar_drewN, World.gar_drew]; exact RowKit.Below.of_gar _ _ _
      · have hA : a 0 ≤ b 0 := by omega
        have hB : b 0 ≤ a 0 := by omega
        clear h
        go_wp2
        go_quiet (fail)
        go_wp2
        go_quiet (fail)
        go_wp2
        exact ⟨⟨_, by omega, by omega, rfl, fun _ => H3.out (by omega), fun _ => H2.out (by omega), fun _ => H1.out (by omega), fun h => Lib.hid (by omega), _, _, rfl⟩, by simp [intOf]⟩
      · go_wp2
        go_quiet (fail)
        go_wp2
        go_quiet (fail)
        go_wp2
        go_ret
        refine ⟨?_, ?_⟩
        · rw [cmpI_gt (by unfold val4; have e3 := (H3.out (by omega)).out; have e2 := (H2.out (by omega)).out; have e1 := (H1.out (by omega)).out; omega)]; rfl
        · simp only [World.alloc_gar, World.gar_gar, World.gar_drewN, World.gar_drew]; exact RowKit.Below.of_gar _ _ _
    · go_wp2
      go_ret
      refine ⟨?_, ?_⟩
      · rw [cmpI_eq (by unfold val4; have e3 := (H3.out (by omega)).out; have e2 := (H2.out (by omega)).out; have e1 := (H1.out (by omega)).out; have e0 := (H0.out (by omega)).out; omega)]; rfl
      · simp only [World.alloc_gar, World.gar_gar, World.gar_drewN, World.gar_drew]; exact RowKit.Below.of_gar _ _ _
end Go.Proofs

namespace Go.Proofs
open Go.RowKit
def bo (a b : Nat → Int) : Nat → Int | 0 => 0 | k+1 => if a k < b k + bo a b k then 1 else 0
def df (a b : Nat → Int) (k : Nat) : Int := (a k - b k - bo a b k) % 4294967296
theorem bo_bd (a b : Nat → Int) : ∀ k, 0 ≤ bo a b k ∧ bo a b k ≤ 1
  | 0 => by simp [bo]
  | k+1 => by unfold bo; split <;> omega
theorem u64_def (n : Int) : IntKind.u64.wrap n = n % 18446744073709551616 := by simp [IntKind.wrap, IntKind.bits, IntKind.signed]
theorem sub_bo {x y z : Int} (hx : 0 ≤ x ∧ x < 4294967296) (hy : 0 ≤ y ∧ y < 4294967296) (hz : 0 ≤ z ∧ z ≤ 1) :
    IntKind.u64.wrap (IntKind.u64.wrap (x - y) - z) / 9223372036854775808 = if x < y + z then 1 else 0 := by
  simp only [u64_def]; split <;> omega
theorem sub_df {x y z : Int} (hx : 0 ≤ x ∧ x < 4294967296) (hy : 0 ≤ y ∧ y < 4294967296) (hz : 0 ≤ z ∧ z ≤ 1) :
    IntKind.u64.wrap (IntKind.u64.wrap (x - y) - z) % 4294967296 = (x - y - z) % 4294967296 := by
  simp only [u64_def]; omega
set_option maxHeartbeats 1000000 in
theorem sub_x (a b : Nat → Int) (w : World) (ha : ∀ i, 0 ≤ a i ∧ a i < 4294967296) (hb : ∀ i, 0 ≤ b i ∧ b i < 4294967296) :
   Calls Try.prog 99 #[.agg (c32 a), .agg (c32 b)] w fun e w' => e = .returned (.agg (c32 (df a b))) ∧ Below w.heap.size w w' := by
  simp only [c32]
  go_enter Try.func99, Try.ntmps99
  go_wp2
  go_loopw [5, 8] (fun c i wr => ∃ k : Int, 0 ≤ k ∧ k ≤ 4 ∧ i = .int .i64 k ∧ c = .int .u64 (bo a b k.toNat) ∧ ∃ l d, wr = World.gar (((w.alloc (.cells (c32 (mix k.toNat (df a b) a)) 37)).alloc (.cells (c32 b) 37)).alloc (.cells #[.int .u32 0, .int .u32 0, .int .u32 0, .int .u32 0] 37)) l d) (fun _ i _ => 4 - (intOf i).toNat)
  case atStart => exact ⟨0, by omega, by omega, rfl, rfl, [], _, World.gar_nil.symm⟩
  case round =>
    obtain ⟨k, hk0, hk, rfl, rfl, l, d, rfl⟩ := hrel
    have hk5 : k = 0 ∨ k = 1 ∨ k = 2 ∨ k = 3 ∨ k = 4 := by omega
    have hc := bo_bd a b k.toNat
    have hak := ha k.toNat
    have hbk := hb k.toNat
    rcases hk5 with rfl | rfl | rfl | rfl | rfl
    all_goals simp only [c32, mix, Int.reduceToNat, Nat.reduceLT, ↓reduceIte] at hc hak hbk ⊢
    iterate 4
      · go_wp2
        go_quiet (fail)
        go_wp2
        rw [sub_bo hak hbk hc, sub_df hak hbk hc]
        exact ⟨⟨_, by omega, by omega, rfl, rfl, _, _, rfl⟩, by simp [intOf]⟩
    · go_wp2
      refine bodyPost_ret (v := .agg (c32 (df a b))) ?_ rfl ⟨rfl, ?_⟩
      · simp [results, Try.results99, go_sem, c32]
      simp only [World.alloc_gar, World.gar_gar, World.gar_drewN, World.gar_drew]; exact RowKit.Below.of_gar _ _ _
end Go.Proofs
