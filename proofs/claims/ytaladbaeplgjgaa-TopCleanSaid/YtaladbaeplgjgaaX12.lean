/- The set of cards with an index. -/
import Derived.Test.YtaladbaeplgjgaaX11
import Derived.Test.YtaladbaeplgjgaaX05
set_option linter.unusedSimpArgs false
set_option linter.unusedVariables false
namespace Go.Proofs
open Go.RowKit
/-- The i-th card of a set, as a set. -/
def crd (r i : Nat) : Nat := 2 ^ ((cds r).getD i 0)
/-- Of the first j cards of r the k that have the index y. -/
def unr (r : Nat) : Nat → Nat → Nat → Nat
  | 0, _, _ => 0
  | j + 1, k, y => if k = 0 then 0 else if C j k ≤ y then crd r j ||| unr r j (k - 1) (y - C j k) else unr r j k y
theorem unr_zero (r j y : Nat) : unr r j 0 y = 0 := by cases j <;> simp [unr]
theorem crd_lt (r i : Nat) : crd r i < 4503599627370496 := by
  unfold crd
  apply bit_lt
  rw [List.getD_eq_getElem?_getD]
  cases h : (cds r)[i]? with
  | none => simp
  | some c => exact ((mem_cds r c).1 (List.mem_of_getElem? h)).1
instance Msk.crd (r i : Nat) : Msk (Proofs.crd r i) := ⟨crd_lt r i⟩
theorem unr_msk (r j k y : Nat) : Msk (unr r j k y) := by
  induction j generalizing k y with
  | zero => exact Msk.zero
  | succ j ih =>
    unfold unr
    split
    · exact Msk.zero
    · split
      · haveI := ih (k - 1) (y - C j k); infer_instance
      · exact ih k y
theorem andn_andn (r a b : Nat) [Msk r] [Msk a] [Msk b] : andn (andn r a) b = andn r (a ||| b) := by
  apply Nat.eq_of_testBit_eq; intro i
  rw [andn_bit _ _ _ (Msk.lt64 b) (Msk.lt64 _), andn_bit _ _ _ (Msk.lt64 a) (Msk.lt64 r), andn_bit _ _ _ (Msk.lt64 _) (Msk.lt64 r), Nat.testBit_or]
  cases r.testBit i <;> cases a.testBit i <;> cases b.testBit i <;> rfl
theorem andn_zero (r : Nat) [Msk r] : andn r 0 = r := by
  apply Nat.eq_of_testBit_eq; intro i
  rw [andn_bit _ _ _ (by decide) (Msk.lt64 r), Nat.zero_testBit]; simp
theorem unr_take (r j k y : Nat) (hk : k ≠ 0) (h : C j k ≤ y) : unr r (j + 1) k y = crd r j ||| unr r j (k - 1) (y - C j k) := by
  rw [unr, if_neg hk, if_pos h]
theorem unr_skip (r j k y : Nat) (hk : k ≠ 0) (h : ¬ C j k ≤ y) : unr r (j + 1) k y = unr r j k y := by
  rw [unr, if_neg hk, if_neg h]
theorem C_pascal (j k : Nat) (hk : k ≠ 0) : C (j + 1) k = C j (k - 1) + C j k := by
  obtain ⟨k, rfl⟩ : ∃ q, k = q + 1 := ⟨k - 1, by omega⟩
  rfl
theorem C_zero_of (k : Nat) (hk : k ≠ 0) : C 0 k = 0 := C_above 0 k (by omega)
theorem choose_j (n k : Nat) (w : World) (hn : n ≤ 52) (hk2 : k ≤ 1000) :
    Calls Try.prog 49 #[.int .i64 n, .int .i64 k] w fun e w' => ∃ c : Nat, e = .returned (.int .i64 c) ∧ Hid (c = C n k) ∧ Hid (c ≤ 4503599627370496) ∧ Below w.heap.size w w' := by
  refine (choose_v n k w (by omega) hk2).mono ?_
  rintro e w' ⟨c, rfl, hc, hb⟩
  refine ⟨C n k, by rw [hc.out], Lib.hid rfl, Lib.hid (Nat.le_trans (C_le n k) (Nat.pow_le_pow_right (n := 2) (by decide) hn)), hb⟩
end Go.Proofs

/- A range over a function: the loop's assignment and body as letters, with what they are. -/
namespace Go
theorem wpIn_range' {F : Fence} {n : Nat} {P : Program} (hro : F.round = none) (hfn : ∀ f, F.fn f) (hdep : F.depth = none) {g : Operand} {ps : Array Tmp} {assign body : Code} {Q : Exit → Act → World → Prop} {a : Act} {w : World} {gf : Nat} {cap : Array Value}
    (hg : a.eval g = .func (.func gf) #[] cap) (eg : ∀ args w, (callFunc gf args).run P w = .ok (.enter gf args) w)
    (h : ∀ fn asg bd, asg = assign → bd = body → CallsIn F (n - 1) P gf (#[.func (.yield (w.heap.size + 1)) #[] #[]] ++ cap) ((w.alloc (.deferred (some []))).alloc (loopRec .ready none fn a.tmps ps asg bd w.heap.size))
      (rangePost F n P (w.heap.size + 1) Q { tmps := a.tmps, defers := [{ target := .collected w.heap.size, args := #[] }] ++ a.defers })) :
    (Code.rangeFunc g ps assign body).wpIn F n P Q a w :=
  wpIn_range hro hfn hdep hg eg fun fn => h fn assign body rfl rfl
end Go
