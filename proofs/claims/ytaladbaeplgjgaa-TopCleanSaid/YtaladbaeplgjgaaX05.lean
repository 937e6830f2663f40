/- nat: Of, Int, Add, Sub, Div. -/
import Derived.Test.YtaladbaeplgjgaaX04
import Derived.Test.YtaladbaeplgjgaaX00
import Derived.RangeFuncLeaves
import Derived.RangeFuncRecord
import Derived.RangeFuncSeq
import Derived.OwnWalkIn
import Derived.TacticsInMore
import Derived.LoopNIn
import Derived.LoopIn
set_option linter.unusedSimpArgs false
set_option linter.unusedVariables false
namespace Go.Proofs
open Go.RowKit
attribute [local irreducible] lb
theorem of_v (n : Int) (w : World) (h1 : 0 ≤ n) (h2 : n < 18446744073709551616) :
    Calls Try.prog 44 #[.int .u64 n] w fun e w' => e = .returned (encN n.toNat) ∧ Below w.heap.size w w' := by
  go_enter Try.func44, Try.ntmps44
  go_wp2
  refine bodyPost_ret (v := encN n.toNat) ?_ rfl ⟨rfl, ?_⟩
  · simp [results, Try.results44, go_sem, encN, c32]
    rw [lb0, lb1, lb2, lb3]
    omega
  · simp only [World.alloc_gar, World.gar_gar, World.gar_drewN, World.gar_drew]; exact RowKit.Below.of_gar _ _ _
theorem Of_v (n : Int) (w : World) (h1 : 0 ≤ n) (h2 : n < 9223372036854775808) :
    Calls Try.prog 14 #[.int .i64 n] w fun e w' => e = .returned (.tuple #[encN n.toNat, .int .i64 0]) ∧ Below w.heap.size w w' := by
  go_enter Try.func14, Try.ntmps14
  go_wp2_with fail
  refine (of_v n _ (by omega) (by omega)).mono ?_
  rintro e w' ⟨rfl, hb⟩
  obtain ⟨l, d, rfl⟩ := hb.gar
  clear hb
  simp only [encN, c32]
  go_wp2_with fail
  refine bodyPost_ret (v := .tuple #[encN n.toNat, .int .i64 0]) ?_ rfl ⟨rfl, ?_⟩
  · simp [results, Try.results14, go_sem, encN, c32]
  · simp only [World.alloc_gar, World.gar_gar, World.gar_drewN, World.gar_drew]; exact RowKit.Below.of_gar _ _ _
theorem i64_or (x y : Int) (hx : 0 ≤ x ∧ x < 2147483648) (hy : 0 ≤ y ∧ y < 4294967296) : bits .or .i64 (x * 4294967296) y = x * 4294967296 + y := by
  exact bits_join .i64 63 (by decide) (fun n h0 h1 => IntWalk.i64_in n ⟨by omega, by omega⟩) 32 (x * 4294967296) y (by omega) (by omega) (by omega) hy.1 (by omega) (by omega)
set_option maxRecDepth 100000 in
theorem Int_v (n : Nat) (w : World) (h : n < 9223372036854775808) :
    Calls Try.prog 11 #[encN n] w fun e w' => e = .returned (.tuple #[.int .i64 n, .int .i64 0]) ∧ Below w.heap.size w w' := by
  have h3 : lb n 3 = 0 := by rw [lb3]; omega
  have h2 : lb n 2 = 0 := by rw [lb2]; omega
  have h1 : lb n 1 < 2147483648 := by rw [lb1]; omega
  have h1' : 0 ≤ lb n 1 := (lb_U n 1).1
  have h0 := lb_U n 0
  have hv : (n : Int) = lb n 1 * 4294967296 + lb n 0 := by rw [lb1, lb0]; omega
  have HV := Lib.hid hv
  clear hv h
  simp only [encN, c32, h3, h2]
  clear h3 h2
  go_enter Try.func11, Try.ntmps11
  go_wp2
  go_ret2
  refine ⟨?_, ?_⟩
  · rw [HV.out, ← i64_or _ _ ⟨h1', h1⟩ h0]; rfl
  · simp only [World.alloc_gar, World.gar_gar, World.gar_drewN, World.gar_drew]; exact RowKit.Below.of_gar _ _ _
theorem Add_v (a b : Nat) (w : World) (ha : a < 340282366920938463463374607431768211456) (hb : b < 340282366920938463463374607431768211456) (hs : a + b < 340282366920938463463374607431768211456) :
    Calls Try.prog 53 #[encN a, encN b] w fun e w' => e = .returned (.tuple #[encN (a + b), .int .i64 0]) ∧ Below w.heap.size w w' := by
  simp only [encN, c32]
  go_enter Try.func53, Try.ntmps53
  go_wp2_with fail
  refine (add_v a b _ ha hb).mono ?_
  rw [show (a + b) % M128 = a + b from Nat.mod_eq_of_lt hs, show (a + b) / M128 = 0 from Nat.div_eq_of_lt hs]
  rintro e w' ⟨rfl, hb⟩
  obtain ⟨l, d, rfl⟩ := hb.gar
  clear hb ha hs
  simp only [encN, c32]
  go_wp2_with fail
  refine bodyPost_ret (v := .tuple #[encN (a + b), .int .i64 0]) ?_ rfl ⟨rfl, ?_⟩
  · simp [results, Try.results53, go_sem, encN, c32]
  · simp only [World.alloc_gar, World.gar_gar, World.gar_drewN, World.gar_drew]; exact RowKit.Below.of_gar _ _ _
theorem Sub_v (a b : Nat) (w : World) (ha : a < 340282366920938463463374607431768211456) (hb : b < 340282366920938463463374607431768211456) (hs : b ≤ a) :
    Calls Try.prog 74 #[encN a, encN b] w fun e w' => e = .returned (.tuple #[encN (a - b), .int .i64 0]) ∧ Below w.heap.size w w' := by
  simp only [encN, c32]
  go_enter Try.func74, Try.ntmps74
  go_wp2_with fail
  refine (cmp_h a b _ ha hb).mono ?_
  rintro e w' ⟨r, rfl, Hr, hb1⟩
  obtain ⟨l, d, rfl⟩ := hb1.gar
  clear hb1
  have hr : 0 ≤ r := by rw [Hr.out]; unfold cmpN; rw [if_neg (by omega)]; split <;> omega
  clear Hr
  go_wp2_with fail
  refine (sub_v a b _ ha hb).mono ?_
  rw [show (a + M128 - b) % M128 = a - b by unfold M128; omega]
  rintro e w' ⟨rfl, hb1⟩
  obtain ⟨l, d, rfl⟩ := hb1.gar
  clear hb1 hb ha hs
  simp only [encN, c32]
  go_wp2_with fail
  refine bodyPost_ret (v := .tuple #[encN (a - b), .int .i64 0]) ?_ rfl ⟨rfl, ?_⟩
  · simp [results, Try.results74, go_sem, encN, c32]
  · simp only [World.alloc_gar, World.gar_gar, World.gar_drewN, World.gar_drew]; exact RowKit.Below.of_gar _ _ _
theorem Div_v (a b : Nat) (w : World) (ha : a < 340282366920938463463374607431768211456) (hb : b < 340282366920938463463374607431768211456) (hb0 : 0 < b) :
    Calls Try.prog 50 #[encN a, encN b] w fun e w' => e = .returned (.tuple #[encN (a / b), encN (a % b), .int .i64 0]) ∧ Below w.heap.size w w' := by
  have hz : (lb b 0 == 0 && (lb b 1 == 0 && (lb b 2 == 0 && lb b 3 == 0))) = false := by
    rw [val4_zero (lb_U b), val_lb b hb]; simp; omega
  simp only [encN, c32]
  go_enter Try.func50, Try.ntmps50
  go_wp2_with fail
  clear hz
  refine (div_x a b _ ha hb hb0).mono ?_
  rintro e w' ⟨rfl, hb1⟩
  obtain ⟨l, d, rfl⟩ := hb1.gar
  clear hb1 hb ha
  simp only [encN, c32]
  go_wp2_with fail
  go_region
  go_wp2
  refine bodyPost_ret (v := .tuple #[encN (a / b), encN (a % b), .int .i64 0]) ?_ rfl ⟨rfl, ?_⟩
  · simp [results, Try.results50, go_sem, encN, c32]
  · simp only [World.alloc_gar, World.gar_gar, World.gar_drewN, World.gar_drew]; exact RowKit.Below.of_gar _ _ _
end Go.Proofs

/- nat: Mul of two numbers that lie in a slice. -/
namespace Go.Proofs
open Go.RowKit
attribute [local irreducible] lb
theorem mul_h (a b : Nat) (w : World) (ha : a < 340282366920938463463374607431768211456) (hb : b < 340282366920938463463374607431768211456) (h : a * b < 340282366920938463463374607431768211456) :
    Calls Try.prog 81 #[encN a, encN b] w fun e w' => e = .returned (.tuple #[encN (a * b), .bool true]) ∧ Below w.heap.size w w' :=
  (mul_v a b w ha hb).mono fun e w' ⟨he, hw⟩ => ⟨by rw [he, show a * b % M128 = a * b from Nat.mod_eq_of_lt h, show decide (a * b < M128) = true from decide_eq_true h], hw⟩
theorem lbz (a : Nat) (ha : a < 340282366920938463463374607431768211456) : (lb a 0 == 0 && (lb a 1 == 0 && (lb a 2 == 0 && lb a 3 == 0))) = decide (a = 0) := by
  rw [val4_zero (lb_U a), val_lb a ha, decide_eq_decide]; omega
set_option maxHeartbeats 1000000 in
theorem Mul_v (a b : Nat) (g : Nat) (w : World) (ha : a < 340282366920938463463374607431768211456) (hb : b < 340282366920938463463374607431768211456) (h : a * b < 340282366920938463463374607431768211456) (hg : g < w.heap.size)
    (c0 : w.cell? ⟨g, 0, none⟩ = some (.int .u32 (lb a 0))) (c1 : w.cell? ⟨g, 1, none⟩ = some (.int .u32 (lb a 1))) (c2 : w.cell? ⟨g, 2, none⟩ = some (.int .u32 (lb a 2))) (c3 : w.cell? ⟨g, 3, none⟩ = some (.int .u32 (lb a 3)))
    (c4 : w.cell? ⟨g, 4, none⟩ = some (.int .u32 (lb b 0))) (c5 : w.cell? ⟨g, 5, none⟩ = some (.int .u32 (lb b 1))) (c6 : w.cell? ⟨g, 6, none⟩ = some (.int .u32 (lb b 2))) (c7 : w.cell? ⟨g, 7, none⟩ = some (.int .u32 (lb b 3))) :
    Calls Try.prog 51 #[.slice (some ⟨g, 0, none⟩) 2 2] w fun e w' => e = .returned (.tuple #[encN (a * b), .int .i64 0]) ∧ Below w.heap.size w w' := by
  have za := lbz a ha
  have zb := lbz b hb
  haveI hg1 : LtC g w.heap.size := ⟨hg⟩
  by_cases ha0 : a = 0
  · rw [decide_eq_true ha0] at za
    have hp : encN (a * b) = .agg #[.int .u32 0, .int .u32 0, .int .u32 0, .int .u32 0] := by rw [ha0, Nat.zero_mul]; unfold encN c32; rw [lb0, lb1, lb2, lb3]; rfl
    have HP := Lib.hid hp
    clear ha0 hp ha hb h
    go_enter Try.func51, Try.ntmps51
    go_wp2
    refine wp_loop_rounds 3 ?_
    rw [rounds_succ]
    go_wp2
    refine bodyPost_ret (v := .tuple #[encN (a * b), .int .i64 0]) ?_ rfl ⟨rfl, ?_⟩
    · rw [HP.out]; simp [results, Try.results51, go_sem]
    · simp only [World.alloc_gar, World.gar_gar, World.gar_drewN, World.gar_drew]; exact RowKit.Below.of_gar _ _ _
  · rw [decide_eq_false ha0] at za
    by_cases hb0 : b = 0
    · rw [decide_eq_true hb0] at zb
      have hp : encN (a * b) = .agg #[.int .u32 0, .int .u32 0, .int .u32 0, .int .u32 0] := by rw [hb0, Nat.mul_zero]; unfold encN c32; rw [lb0, lb1, lb2, lb3]; rfl
      have HP := Lib.hid hp
      clear hb0 ha0 hp ha hb h
      go_enter Try.func51, Try.ntmps51
      go_wp2
      refine wp_loop_rounds 3 ?_
      rw [rounds_succ]
      go_wp2
      rw [rounds_succ]
      go_wp2
      refine bodyPost_ret (v := .tuple #[encN (a * b), .int .i64 0]) ?_ rfl ⟨rfl, ?_⟩
      · rw [HP.out]; simp [results, Try.results51, go_sem]
      · simp only [World.alloc_gar, World.gar_gar, World.gar_drewN, World.gar_drew]; exact RowKit.Below.of_gar _ _ _
    · rw [decide_eq_false hb0] at zb
      clear ha0 hb0
      have HA := Lib.hid ha; have HB := Lib.hid hb; have HH := Lib.hid h
      clear ha hb h
      go_enter Try.func51, Try.ntmps51
      go_wp2
      refine wp_loop_rounds 3 ?_
      rw [rounds_succ]
      go_wp2
      rw [rounds_succ]
      go_wp2
      rw [rounds_succ]
      go_wp2
      refine wp_loop_rounds 3 ?_
      rw [rounds_succ]
      go_wp2_with fail
      have e1 : (Value.agg #[.int .u32 1, .int .u32 0, .int .u32 0, .int .u32 0]) = encN 1 := by unfold encN c32; rw [lb0, lb1, lb2, lb3]; rfl
      rw [e1]
      clear e1
      refine (mul_h 1 a _ (by omega) HA.out (by have := HA.out; omega)).mono ?_
      rw [Nat.one_mul]
      rintro e w' ⟨rfl, hb1⟩
      obtain ⟨l, d, rfl⟩ := hb1.gar
      clear hb1
      simp only [encN, c32]
      go_wp2_with fail
      rw [rounds_succ]
      go_wp2_with fail
      refine (mul_h a b _ HA.out HB.out HH.out).mono ?_
      rintro e w' ⟨rfl, hb1⟩
      obtain ⟨l1, d1, rfl⟩ := hb1.gar
      clear hb1
      simp only [encN, c32]
      go_wp2_with fail
      rw [rounds_succ]
      go_wp2_with fail
      refine bodyPost_ret (v := .tuple #[encN (a * b), .int .i64 0]) ?_ rfl ⟨rfl, ?_⟩
      · simp [results, Try.results51, go_sem, encN, c32]
      · simp only [World.alloc_gar, World.gar_gar, World.gar_drewN, World.gar_drew]; exact RowKit.Below.of_gar _ _ _
end Go.Proofs

/- A range over a function, at the wide fence: the record is laid, the iterator is called. And rows of the call's own behind 'gar'. -/
namespace Go
open Go.RowKit
theorem Below.toGrown {B : Nat} {w w' : World} (h : RowKit.Below B w w') (hB : w.heap.size = B) : w.grownBy w' none :=
  ⟨h.os, h.tape, h.output, h.size, fun k hk _ => h.block k (by omega)⟩
theorem World.ownsRow.gar {w : World} {base : Nat} {e : TypeId} {size : Nat} {v : Value} {n : Nat} {xs : List Value} (h : w.ownsRow base e size v n xs) (l : List Obj) (d : Nat) : (w.gar l d).ownsRow base e size v n xs :=
  h.kept (Below.toGrown (RowKit.Below.of_gar w l d) rfl) (by cases hv : v.ownBlock <;> simp)
theorem own_app {X : World} {l : List Obj} {d : Nat} {base : Nat} {e : TypeId} {size : Nat} {v : Value} {n : Nat} {xs : List Value} (h : (X.gar l d).ownsRow base e size v n xs) (l2 : List Obj) (d2 : Nat) : (X.gar (l ++ l2) d2).ownsRow base e size v n xs := by
  have := h.gar l2 d2; rwa [World.gar_gar] at this
theorem cells_new (W : World) (cs : List Value) (t : TypeId) (B : Nat) (hB : B = W.heap.size) : ∀ (j : Nat) (u : Value), cs[j]? = some u → (W.alloc (.cells cs.toArray t)).cell? ((⟨B, 0, none⟩ : Addr).add j) = some u := by
  intro j u h
  subst hB
  have e : ((⟨W.heap.size, 0, none⟩ : Addr).add j) = ⟨W.heap.size, j, none⟩ := by
    unfold Addr.add; split
    · rename_i h0; subst h0; rfl
    · simp
  rw [e, World.cell?_alloc_new]; simpa using h
theorem own_new (W : World) (base : Nat) (e : TypeId) (size k : Nat) (cs : List Value) (B : Nat) (hB : B = W.heap.size) (hb : base ≤ B) (hl : cs.length = k * size) (hk : k ≤ maxLen) : (W.alloc (.cells cs.toArray e)).ownsRow base e size (.slice (some ⟨B, 0, none⟩) k k) k cs := by
  subst hB
  refine ⟨hl, .inr ⟨W.heap.size, k, cs.toArray, rfl, hb, ?_, Nat.le_refl _, hk, by simpa using hl, ?_⟩⟩
  · exact World.alloc_heap_new W _
  · rw [← hl]; simp
/-- What lies behind X's own blocks does not hang on what X's blocks hold. -/
theorem World.ownsRow.swap {X Y : World} (hs : Y.heap.size = X.heap.size) {base : Nat} (hb : X.heap.size ≤ base) {e : TypeId} {size : Nat} {v : Value} {n : Nat} {xs : List Value} {l : List Obj} {d d' : Nat}
    (h : (X.gar l d).ownsRow base e size v n xs) : (Y.gar l d').ownsRow base e size v n xs := by
  refine ⟨h.1, ?_⟩
  rcases h.2 with hn | ⟨g, cap, cur, rfl, hg, hh, rest⟩
  · exact .inl hn
  · refine .inr ⟨g, cap, cur, rfl, hg, ?_, rest⟩
    obtain ⟨q, rfl⟩ : ∃ q, g = X.heap.size + q := ⟨g - X.heap.size, by omega⟩
    rw [World.heap_gar_at] at hh
    rw [← hs, World.heap_gar_at]; exact hh
theorem below_grown {w w' : World} {row : Option Nat} (h : w.grownBy w' row) {B : Nat} (hB : B ≤ w.heap.size) (hr : ∀ k, row = some k → B ≤ k) : RowKit.Below B w w' :=
  (RowKit.Below.refl B w).grown h hB hr
/-- A world that is as X.gar l d below X's size. -/
theorem RowKit.Below.gar' {X w' : World} {l : List Obj} {d : Nat} (h : RowKit.Below X.heap.size (X.gar l d) w') : ∃ l' d', w' = X.gar l' d' := by
  have : RowKit.Below X.heap.size X w' := (RowKit.Below.of_gar X l d).trans h
  exact this.gar
section
variable {P : Program} {n : Nat}
/-- The record of a loop over a function. -/
def loopRec (st : LoopState) (pend : Option Code) (fn : FuncId) (tmps : Array Value) (ps : Array Tmp) (assign body : Code) (D : Nat) : Obj :=
  .loop { state := st, pending := pend, fn := fn, tmps := tmps, params := ps, assign := assign, body := body, defers := D }
theorem wpIn_range {F : Fence} (hro : F.round = none) (hfn : ∀ f, F.fn f) (hdep : F.depth = none) {g : Operand} {ps : Array Tmp} {assign body : Code} {Q : Exit → Act → World → Prop} {a : Act} {w : World} {gf : Nat} {cap : Array Value}
    (hg : a.eval g = .func (.func gf) #[] cap) (eg : ∀ args w, (callFunc gf args).run P w = .ok (.enter gf args) w)
    (h : ∀ fn, CallsIn F (n - 1) P gf (#[.func (.yield (w.heap.size + 1)) #[] #[]] ++ cap) ((w.alloc (.deferred (some []))).alloc (loopRec .ready none fn a.tmps ps assign body w.heap.size))
      (rangePost F n P (w.heap.size + 1) Q { tmps := a.tmps, defers := [{ target := .collected w.heap.size, args := #[] }] ++ a.defers })) :
    (Code.rangeFunc g ps assign body).wpIn F n P Q a w := by
  refine wpIn_rangeFunc fun fn _ => ?_
  have hf := h fn
  obtain ⟨W1, hW1⟩ : ∃ W1, (w.alloc (.deferred (some []))).alloc (loopRec .ready none fn a.tmps ps assign body w.heap.size) = W1 := ⟨_, rfl⟩
  rw [hW1] at hf
  refine ⟨w.heap.size + 1, [{ target := .collected w.heap.size, args := #[] }], W1, { target := .fn (.func gf) cap, args := #[.func (.yield (w.heap.size + 1)) #[] #[]] }, W1, gf,
    #[.func (.yield (w.heap.size + 1)) #[] #[]] ++ cap, W1, ?_, ?_, ?_, ?_, ?_, ?_⟩
  · rw [← hW1, hro]; exact run_enterLoop_outer fn a.tmps ps assign body
  · simp only [resolve, hg]
    simp [go_sem]
  · intro f' _; exact hfn f'
  · simp [invoke, go_sem, eg]
  · intro h; rw [hdep] at h; simp at h
  · exact hf
theorem yield_at {W : World} {l m : Nat} {fn : FuncId} {tmps : Array Value} {ps : Array Tmp} {assign body : Code} {D : Nat} {args : Array Value} {R : Ending → World → Prop}
    (h : W.heap[l]? = some (loopRec .ready none fn tmps ps assign body D)) (hs : args.size = ps.size)
    (hr : assign.wpIn (Fence.wide.inRound l) m P (Exit.then (fun a₁ w₁ => ∃ w₂, (Instr.beginRound l).run P w₁ = .ok () w₂ ∧ body.wpIn (Fence.wide.inRound l) m P (roundPost P l R) a₁ w₂) (fun _ _ _ => False))
      { tmps := (ps.zip args).foldl (fun t (p, v) => t.setIfInBounds p v) tmps, defers := [] } W) : YieldAt Fence.wide m P l args W R :=
  ⟨fn, _, assign, body, run_yield h hs, roundIn_of_wpIn trivial hr⟩
theorem begin_at {W : World} {l : Nat} {fn : FuncId} {tmps : Array Value} {ps : Array Tmp} {assign body : Code} {D : Nat}
    (h : W.heap[l]? = some (loopRec .ready none fn tmps ps assign body D)) : (Instr.beginRound l).run P W = .ok () (W.putObj l (loopRec .busy none fn tmps ps assign body D)) := run_beginRound h rfl
theorem end_at {W : World} {l : Nat} {fn : FuncId} {tmps : Array Value} {ps : Array Tmp} {assign body : Code} {D : Nat}
    (h : W.heap[l]? = some (loopRec .busy none fn tmps ps assign body D)) : (Instr.endRound l none).run P W = .ok (.bool true) (W.putObj l (loopRec .ready none fn tmps ps assign body D)) := run_endRound none h
theorem stop_at {W : World} {l : Nat} {fn : FuncId} {tmps : Array Value} {ps : Array Tmp} {assign body : Code} {D : Nat} (c : Code)
    (h : W.heap[l]? = some (loopRec .busy none fn tmps ps assign body D)) : (Instr.endRound l (some c)).run P W = .ok (.bool false) (W.putObj l (loopRec .done (some c) fn tmps ps assign body D)) := run_endRound (some c) h
theorem done_at {W : World} {l : Nat} {st : LoopState} {pend : Option Code} {fn : FuncId} {tmps : Array Value} {ps : Array Tmp} {assign body : Code} {D : Nat}
    (h : W.heap[l]? = some (loopRec st pend fn tmps ps assign body D)) (hs : st ≠ .busy) : (Instr.endLoop l).run P W = .ok pend (W.putObj l (loopRec .exhausted pend fn tmps ps assign body D)) := run_endLoop h hs
end
@[go_sem] theorem wide_fn (f : FuncId) : Fence.wide.fn f = True := rfl
@[go_sem] theorem wide_depth : Fence.wide.depth = none := rfl
@[go_sem] theorem wide_round_fn (l : Nat) (f : FuncId) : (Fence.wide.inRound l).fn f = True := rfl
@[go_sem] theorem wide_round_depth (l : Nat) : (Fence.wide.inRound l).depth = none := rfl
@[go_sem] theorem World.heap_alloc_at (w : World) (o : Obj) (n : Nat) (hn : n = w.heap.size) : (w.alloc o).heap[n]? = some o := by
  subst hn; exact World.alloc_heap_new w o
@[go_sem] theorem World.heap_alloc_past (w : World) (o : Obj) (n : Nat) (hn : n < w.heap.size) : (w.alloc o).heap[n]? = w.heap[n]? := RowKit.Below.heap_alloc w o n hn
@[go_sem] theorem World.heap_gar_past' (w : World) (l : List Obj) (d : Nat) (n : Nat) (hn : n < w.heap.size) : (w.gar l d).heap[n]? = w.heap[n]? := World.heap_gar_past hn
@[go_sem] theorem World.putObj_alloc_at (w : World) (o o' : Obj) (n : Nat) (hn : n = w.heap.size) : (w.alloc o).putObj n o' = w.alloc o' := by
  subst hn
  unfold World.putObj World.alloc
  congr 1
  apply Array.ext_getElem?
  intro k
  simp only [Array.getElem?_setIfInBounds, Array.getElem?_push, Array.size_push]
  by_cases hk : w.heap.size = k
  · subst hk; simp
  · simp [hk, Ne.symm hk]
@[go_sem] theorem World.putObj_alloc_past (w : World) (o o' : Obj) (n : Nat) (hn : n < w.heap.size) : (w.alloc o).putObj n o' = (w.putObj n o').alloc o := by
  unfold World.putObj World.alloc
  congr 1
  apply Array.ext_getElem?
  intro k
  simp only [Array.getElem?_setIfInBounds, Array.getElem?_push, Array.size_push, Array.size_setIfInBounds]
  by_cases hk : n = k
  · subst hk
    have : n ≠ w.heap.size := by omega
    simp [this, hn]; omega
  · simp [hk]
@[go_sem] theorem World.putObj_gar_past (w : World) (l : List Obj) (d : Nat) (o' : Obj) (n : Nat) (hn : n < w.heap.size) : (w.gar l d).putObj n o' = (w.putObj n o').gar l d := by
  unfold World.putObj World.gar
  congr 1
  apply Array.ext_getElem?
  intro k
  simp only [Array.getElem?_setIfInBounds, Array.getElem?_append, Array.size_append, Array.size_setIfInBounds]
  by_cases hk : n = k
  · subst hk
    simp [hn]; omega
  · simp [hk]
@[go_sem] theorem World.putObj_drew (w : World) (o' : Obj) (n : Nat) : w.drew.putObj n o' = (w.putObj n o').drew := rfl
@[go_sem] theorem World.putObj_drewN (w : World) (o' : Obj) (n k : Nat) : (w.drewN k).putObj n o' = (w.putObj n o').drewN k := rfl
end Go
