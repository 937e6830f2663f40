/- revoke.Find, for a legal play -/
import Derived.Test.YtaladbaeplgjgaaX23
import Derived.Test.YtaladbaeplgjgaaX25
import Derived.Sort.CutIn
set_option linter.unusedSimpArgs false
set_option linter.unusedVariables false
namespace Go.Proofs
open Go.RowKit
attribute [local go_sem] Oper.semAt_some
set_option maxHeartbeats 8000000 in
set_option maxRecDepth 100000 in
theorem find_v (a b c d tm dc N cp : Nat) (C : Option Addr) (cs : List Nat) (w : World) (hF : Full a b c d) (hN : Hid (N = cs.length)) (hN52 : N ≤ 52) (hcp : N ≤ cp) (htm : tm ≤ 4) (hdc : dc ≤ 3)
    (hl : Leg tm (start a b c d ((dc + 1) % 4)) cs) (hcs : RdS w C cs) :
    Calls Try.prog 30 #[recV a b c d tm dc (.slice C N cp)] w fun e w' => e = .returned (.tuple #[.slice none 0 0, .int .i64 0]) ∧ RowKit.Below w.heap.size w w' := by
  have hs : Inv (start a b c d ((dc + 1) % 4)) 0 := Inv.start hF (by omega)
  have hh := hl.held hs
  have hrt := fun W (h : RdS W C cs) => right79_v a b c d tm dc N cp C cs W hF hN hN52 hcp htm hdc hh h
  haveI := hF.ma; haveI := hF.mb; haveI := hF.mc; haveI := hF.md
  have hrn := fun W => rounds_v a b c d tm dc C N cp W
  simp only [recV] at hrt hrn ⊢
  have HR := Lib.hid hrt; have HRN := Lib.hid hrn; have HS := Lib.hid hs; have HH := Lib.hid hh; have HL := Lib.hid hl; have HCS := Lib.hid hcs
  clear hrt hrn hs hh hl hcs hF
  obtain ⟨s0, hs0⟩ : ∃ s0, s0 = start a b c d ((dc + 1) % 4) := ⟨_, rfl⟩
  rw [← hs0] at HS HH HL
  have HS0 := Lib.hid hs0
  clear hs0
  refine (callsIn_wide (n := 3)).1 ?_
  refine callsIn_of_wp_marks Try.func30 rfl trivial ?_ rfl
  simp only [Try.ntmps30, List.size_toArray, List.length_cons, List.length_nil, Nat.reduceAdd, Nat.reduceSub, Array.replicate_succ, Array.replicate_zero, List.push_toArray, List.append_toArray, List.nil_append, List.cons_append]
  gi_wp2_with (first | (gi_at_call 29; refine (callsIn_wide.2 (HR.out _ (HCS.out.below (by simp only [World.alloc_gar]; exact RowKit.Below.of_gar _ _ _)))).mono ?_; rintro e w' ⟨rfl, hb⟩; obtain ⟨l, d1, rfl⟩ := hb.gar; clear hb) | (gi_at_call 66; refine (callsIn_wide.2 (HRN.out _)).mono ?_; rintro e w' ⟨rfl, rfl⟩))
  refine wpIn_range' rfl (fun _ => trivial) rfl (gf := 97) (cap := #[.pointer (some ⟨w.heap.size + 1 + l.length + 1, 0, none⟩)]) rfl (fun args w => Try.call97 args w) ?_
  intro fn asg body hasg hbody
  have HAS := Lib.hid hasg; have HBO := Lib.hid hbody
  clear hasg hbody
  simp only [World.size_alloc, World.size_gar, Nat.reduceSub]
  obtain ⟨I, hI⟩ : ∃ I : Nat → World → Prop, I = (fun (_ : Nat) (wr : World) => ∃ (fr : Nat → Value) (l2 : List Obj) (d2 : Nat), wr = ((((((w.alloc (.cells #[.int .u64 a, .int .u64 b, .int .u64 c, .int .u64 d, .int .u8 tm, .int .u8 dc, .slice C N cp] 79)).gar l d1).alloc (.cells #[.slice none 0 0] 81)).alloc (.cells #[.int .u64 a, .int .u64 b, .int .u64 c, .int .u64 d, .int .u8 tm, .int .u8 dc, .slice C N cp] 79)).alloc (.deferred (some []))).alloc (loopRec .ready none fn #[.agg #[.int .u64 a, .int .u64 b, .int .u64 c, .int .u64 d, .int .u8 tm, .int .u8 dc, .slice C N cp], .pointer (some ⟨w.heap.size, 0, none⟩), .slice none 0 0, .int .i64 0, .int .i64 (-1), .int .i64 0, .pointer (some ⟨w.heap.size + 1 + l.length, 0, none⟩), fr 7, fr 8, fr 9, fr 10, fr 11, fr 12, fr 13, .tuple #[.int .i64 (-1), .int .i64 0], .agg #[.int .u64 a, .int .u64 b, .int .u64 c, .int .u64 d, .int .u8 tm, .int .u8 dc, .slice C N cp], .tuple #[.int .i64 (-1), .int .i64 0], .int .i64 (-1), .int .i64 0, .int .i64 0, .bool false, undef, .agg #[.int .u64 a, .int .u64 b, .int .u64 c, .int .u64 d, .int .u8 tm, .int .u8 dc, .slice C N cp], .func (.func 97) #[] #[.pointer (some ⟨w.heap.size + 1 + l.length + 1, 0, none⟩)], fr 24, fr 25, fr 26, fr 27, fr 28, fr 29, fr 30, fr 31, fr 32, fr 33, fr 34, fr 35, fr 36, fr 37, fr 38, fr 39, fr 40, fr 41, fr 42, fr 43, fr 44, fr 45, fr 46, fr 47, fr 48, fr 49, fr 50, fr 51, fr 52, fr 53, fr 54, fr 55, fr 56, fr 57, fr 58, fr 59, fr 60, fr 61, fr 62, fr 63, fr 64, fr 65, fr 66, fr 67, fr 68, fr 69, fr 70, fr 71, fr 72, fr 73, fr 74, fr 75, fr 76, fr 77, fr 78, fr 79, fr 80, fr 81, fr 82, fr 83, fr 84, fr 85, fr 86, fr 87, fr 88, fr 89, fr 90, fr 91, fr 92, fr 93, fr 94, fr 95, fr 96, fr 97, fr 98, fr 99, fr 100, fr 101, fr 102, fr 103, fr 104, fr 105, fr 106, fr 107, undef] #[24, 25] asg body (w.heap.size + 1 + l.length + 1 + 1))).gar l2 d2) := ⟨_, rfl⟩
  have hmk : ∀ (k : Nat) (wr : World) (t7 t8 t9 t10 t11 t12 t13 t24 t25 t26 t27 t28 t29 t30 t31 t32 t33 t34 t35 t36 t37 t38 t39 t40 t41 t42 t43 t44 t45 t46 t47 t48 t49 t50 t51 t52 t53 t54 t55 t56 t57 t58 t59 t60 t61 t62 t63 t64 t65 t66 t67 t68 t69 t70 t71 t72 t73 t74 t75 t76 t77 t78 t79 t80 t81 t82 t83 t84 t85 t86 t87 t88 t89 t90 t91 t92 t93 t94 t95 t96 t97 t98 t99 t100 t101 t102 t103 t104 t105 t106 t107 : Value) (l2 : List Obj) (d2 : Nat), wr = ((((((w.alloc (.cells #[.int .u64 a, .int .u64 b, .int .u64 c, .int .u64 d, .int .u8 tm, .int .u8 dc, .slice C N cp] 79)).gar l d1).alloc (.cells #[.slice none 0 0] 81)).alloc (.cells #[.int .u64 a, .int .u64 b, .int .u64 c, .int .u64 d, .int .u8 tm, .int .u8 dc, .slice C N cp] 79)).alloc (.deferred (some []))).alloc (loopRec .ready none fn #[.agg #[.int .u64 a, .int .u64 b, .int .u64 c, .int .u64 d, .int .u8 tm, .int .u8 dc, .slice C N cp], .pointer (some ⟨w.heap.size, 0, none⟩), .slice none 0 0, .int .i64 0, .int .i64 (-1), .int .i64 0, .pointer (some ⟨w.heap.size + 1 + l.length, 0, none⟩), t7, t8, t9, t10, t11, t12, t13, .tuple #[.int .i64 (-1), .int .i64 0], .agg #[.int .u64 a, .int .u64 b, .int .u64 c, .int .u64 d, .int .u8 tm, .int .u8 dc, .slice C N cp], .tuple #[.int .i64 (-1), .int .i64 0], .int .i64 (-1), .int .i64 0, .int .i64 0, .bool false, undef, .agg #[.int .u64 a, .int .u64 b, .int .u64 c, .int .u64 d, .int .u8 tm, .int .u8 dc, .slice C N cp], .func (.func 97) #[] #[.pointer (some ⟨w.heap.size + 1 + l.length + 1, 0, none⟩)], t24, t25, t26, t27, t28, t29, t30, t31, t32, t33, t34, t35, t36, t37, t38, t39, t40, t41, t42, t43, t44, t45, t46, t47, t48, t49, t50, t51, t52, t53, t54, t55, t56, t57, t58, t59, t60, t61, t62, t63, t64, t65, t66, t67, t68, t69, t70, t71, t72, t73, t74, t75, t76, t77, t78, t79, t80, t81, t82, t83, t84, t85, t86, t87, t88, t89, t90, t91, t92, t93, t94, t95, t96, t97, t98, t99, t100, t101, t102, t103, t104, t105, t106, t107, undef] #[24, 25] asg body (w.heap.size + 1 + l.length + 1 + 1))).gar l2 d2 → I k wr := by
    intro k wr t7 t8 t9 t10 t11 t12 t13 t24 t25 t26 t27 t28 t29 t30 t31 t32 t33 t34 t35 t36 t37 t38 t39 t40 t41 t42 t43 t44 t45 t46 t47 t48 t49 t50 t51 t52 t53 t54 t55 t56 t57 t58 t59 t60 t61 t62 t63 t64 t65 t66 t67 t68 t69 t70 t71 t72 t73 t74 t75 t76 t77 t78 t79 t80 t81 t82 t83 t84 t85 t86 t87 t88 t89 t90 t91 t92 t93 t94 t95 t96 t97 t98 t99 t100 t101 t102 t103 t104 t105 t106 t107 l2 d2 h
    rw [hI]
    exact ⟨fun i => [undef, undef, undef, undef, undef, undef, undef, t7, t8, t9, t10, t11, t12, t13, undef, undef, undef, undef, undef, undef, undef, undef, undef, undef, t24, t25, t26, t27, t28, t29, t30, t31, t32, t33, t34, t35, t36, t37, t38, t39, t40, t41, t42, t43, t44, t45, t46, t47, t48, t49, t50, t51, t52, t53, t54, t55, t56, t57, t58, t59, t60, t61, t62, t63, t64, t65, t66, t67, t68, t69, t70, t71, t72, t73, t74, t75, t76, t77, t78, t79, t80, t81, t82, t83, t84, t85, t86, t87, t88, t89, t90, t91, t92, t93, t94, t95, t96, t97, t98, t99, t100, t101, t102, t103, t104, t105, t106, t107].getD i undef, l2, d2, h⟩
  have HI := Lib.hid hI; have HMK := Lib.hid hmk
  clear hI hmk
  refine CallsIn.mono (rounds_in I (w.heap.size + 1 + l.length + 1 + 1 + 1) _ (w.heap.size + 1 + l.length + 1) N cp tm dc a b c d C cs _ hN.out (by omega) hcp htm hdc (HS0.out ▸ HS.out) (HS0.out ▸ HH.out) ?hrec ?hcs ?hY ?h0) ?post
  case hrec => simp only [World.heap_alloc_past, World.heap_alloc_at, World.size_alloc, World.size_gar, lt_of_ltC]
  case hcs =>
    refine HCS.out.below ?_
    simp only [World.alloc_gar, World.gar_gar]; exact RowKit.Below.of_gar _ _ _
  case h0 =>
    exact HMK.out _ _ undef undef undef undef undef undef undef undef undef undef undef undef undef undef undef undef undef undef undef undef undef undef undef undef undef undef undef undef undef undef undef undef undef undef undef undef undef undef undef undef undef undef undef undef undef undef undef undef undef undef undef undef undef undef undef undef undef undef undef undef undef undef undef undef undef undef undef undef undef undef undef undef undef undef undef undef undef undef undef undef undef undef undef undef undef undef undef undef undef undef undef [] _ World.gar_nil.symm
  case hY =>
    intro k m cap A xs w0 W hk hxs hm hcap hrd hA hI hO hsz
    rw [HI.out] at hI
    obtain ⟨fr, l2, d2, rfl⟩ := hI
    simp only [World.size_alloc, World.size_gar] at hO hA hsz
    obtain ⟨l3, d3, rfl⟩ := RowKit.Below.gar' (X := (((((w.alloc (.cells #[.int .u64 a, .int .u64 b, .int .u64 c, .int .u64 d, .int .u8 tm, .int .u8 dc, .slice C N cp] 79)).gar l d1).alloc (.cells #[.slice none 0 0] 81)).alloc (.cells #[.int .u64 a, .int .u64 b, .int .u64 c, .int .u64 d, .int .u8 tm, .int .u8 dc, .slice C N cp] 79)).alloc (.deferred (some []))).alloc (loopRec .ready none fn #[.agg #[.int .u64 a, .int .u64 b, .int .u64 c, .int .u64 d, .int .u8 tm, .int .u8 dc, .slice C N cp], .pointer (some ⟨w.heap.size, 0, none⟩), .slice none 0 0, .int .i64 0, .int .i64 (-1), .int .i64 0, .pointer (some ⟨w.heap.size + 1 + l.length, 0, none⟩), fr 7, fr 8, fr 9, fr 10, fr 11, fr 12, fr 13, .tuple #[.int .i64 (-1), .int .i64 0], .agg #[.int .u64 a, .int .u64 b, .int .u64 c, .int .u64 d, .int .u8 tm, .int .u8 dc, .slice C N cp], .tuple #[.int .i64 (-1), .int .i64 0], .int .i64 (-1), .int .i64 0, .int .i64 0, .bool false, undef, .agg #[.int .u64 a, .int .u64 b, .int .u64 c, .int .u64 d, .int .u8 tm, .int .u8 dc, .slice C N cp], .func (.func 97) #[] #[.pointer (some ⟨w.heap.size + 1 + l.length + 1, 0, none⟩)], fr 24, fr 25, fr 26, fr 27, fr 28, fr 29, fr 30, fr 31, fr 32, fr 33, fr 34, fr 35, fr 36, fr 37, fr 38, fr 39, fr 40, fr 41, fr 42, fr 43, fr 44, fr 45, fr 46, fr 47, fr 48, fr 49, fr 50, fr 51, fr 52, fr 53, fr 54, fr 55, fr 56, fr 57, fr 58, fr 59, fr 60, fr 61, fr 62, fr 63, fr 64, fr 65, fr 66, fr 67, fr 68, fr 69, fr 70, fr 71, fr 72, fr 73, fr 74, fr 75, fr 76, fr 77, fr 78, fr 79, fr 80, fr 81, fr 82, fr 83, fr 84, fr 85, fr 86, fr 87, fr 88, fr 89, fr 90, fr 91, fr 92, fr 93, fr 94, fr 95, fr 96, fr 97, fr 98, fr 99, fr 100, fr 101, fr 102, fr 103, fr 104, fr 105, fr 106, fr 107, undef] #[24, 25] asg body (w.heap.size + 1 + l.length + 1 + 1))) (l := l2) (d := d2) (w' := W) ⟨hO.os, hO.tape, hO.output, hO.size, fun q hq => hO.block q (by simp at hq ⊢; omega) (by simp at hq; omega) (by simp at hq; omega)⟩
    simp only [World.size_gar, World.size_alloc] at hsz
    refine yield_at (by rw [World.heap_gar_past (by simp)]; exact World.heap_alloc_at _ _ _ (by simp)) rfl ?_
    simp only [List.zip_toArray, List.zip_cons_cons, List.zip_nil_left, List.foldl_toArray', List.foldl_cons, List.foldl_nil, List.setIfInBounds_toArray, List.set_cons_succ, List.set_cons_zero, List.size_toArray, List.length_cons, List.length_nil]
    have hkN : 4 * k < N := by rw [hN.out]; exact hk
    have hmN : m = min 4 (N - 4 * k) := by
      rw [hm, hxs, List.length_take, List.length_drop, ← hN.out]
    rw [← HS0.out]
    obtain ⟨y, hy⟩ : ∃ y, cs[4 * k]? = some y := ⟨_, List.getElem?_eq_getElem hk⟩
    have hfol : ∀ j x : Nat, xs[j]? = some x → cs[4 * k + j]? = some x ∧ j ≤ 3 := fun j x hx => by
      rw [hxs, List.getElem?_take] at hx
      split at hx
      · rw [List.getElem?_drop] at hx; exact ⟨hx, by omega⟩
      · cases hx
    have hfo : ∀ j x : Nat, xs[j]? = some x → (suitm y).testBit x = true ∨ (runP tm s0 (cs.take (4 * k))).h (((runP tm s0 (cs.take (4 * k))).ld + j) % 4) &&& suitm y = 0 := fun j x hx => follows HS.out HL.out k j x y (hfol j x hx).2 (hfol j x hx).1 hy
    have hx52 : ∀ j x : Nat, xs[j]? = some x → x < 52 := fun j x hx => by
      have h1 := (hfol j x hx).1
      exact (HS.out.run HH.out (4 * k + j) (by have := (List.getElem?_eq_some_iff.1 h1).1; omega)).lt52 (PS.turn_lt _) (HH.out _ _ h1)
    have hy0 : xs[0]? = some y := by rw [hxs, List.getElem?_take, if_pos (by omega), List.getElem?_drop]; exact hy
    have hy52 := hx52 0 y hy0
    haveI : LtC y 52 := ⟨hy52⟩
    have hSinv := HS.out.run HH.out (4 * k) (by omega)
    obtain ⟨S, hS⟩ : ∃ S, S = runP tm s0 (cs.take (4 * k)) := ⟨_, rfl⟩
    rw [← hS] at hSinv hfo ⊢
    have hSld := hSinv.ld
    haveI := hSinv.msk 0 (by omega); haveI := hSinv.msk 1 (by omega); haveI := hSinv.msk 2 (by omega); haveI := hSinv.msk 3 (by omega)
    have hm4 : m ≤ 4 := by omega
    have hm0 : 0 < m := by omega
    have hmne : xs ≠ [] := by rintro rfl; simp at hy0
    obtain ⟨gA, oA, rfl, hcA⟩ := hrd.pos (by rw [← hm]; exact hm0)
    have hk60 : k ≤ 60 := by omega
    have HXS := Lib.hid hxs; have HM := Lib.hid hm; have HRD := Lib.hid hrd; have HA := Lib.hid hA; have HFO := Lib.hid hfo; have HX := Lib.hid hx52; have HCA := Lib.hid hcA; have HY0 := Lib.hid hy0; have HSI := Lib.hid hSinv
    clear hO hxs hm hk hmN hrd hA hS hSinv hfo hfol hx52 hcA hy hy0 hmne hy52 hkN
    simp only [rndV]
    rw [wpIn_eq HAS.out]
    gi_wp2
    refine ⟨_, begin_at (by rw [World.heap_alloc_past _ _ _ (by simp only [World.size_gar, World.size_alloc]; omega), World.heap_gar_past (by simp)]; exact World.heap_alloc_at _ _ _ (by simp)), ?_⟩
    rw [World.putObj_alloc_past _ _ _ _ (by simp only [World.size_gar, World.size_alloc]; omega), World.putObj_gar_past _ _ _ _ _ (by simp), World.putObj_alloc_at _ _ _ _ (by simp)]
    rw [wpIn_eq HBO.out]
    generalize hOe : loopRec .busy _ _ _ _ _ _ _ = O
    obtain ⟨B, hB⟩ : ∃ B, B = (((((w.alloc (.cells #[.int .u64 a, .int .u64 b, .int .u64 c, .int .u64 d, .int .u8 tm, .int .u8 dc, .slice C N cp] 79)).gar l d1).alloc (.cells #[.slice none 0 0] 81)).alloc (.cells #[.int .u64 a, .int .u64 b, .int .u64 c, .int .u64 d, .int .u8 tm, .int .u8 dc, .slice C N cp] 79)).alloc (.deferred (some []))).alloc O := ⟨_, rfl⟩
    have hBs : B.heap.size = w.heap.size + 1 + l.length + 1 + 1 + 1 + 1 := by rw [hB]; simp
    have hB6 : B.heap[w.heap.size + 1 + l.length]? = some (.cells #[.slice none 0 0] 81 (0, 0)) := by rw [hB]; simp only [World.heap_alloc_past, World.heap_gar_past', World.heap_alloc_at, World.size_alloc, World.size_gar, lt_of_ltC]
    have hrdB : RdS (B.gar l3 d3) (some ⟨gA, oA, none⟩) xs := by
      rw [hB]
      exact HRD.out.block fun g o e => by
        have h1 := (HA.out g o e).2.1
        exact gar_keep0 (by simp) _ _ _ _ (by simp only [World.size_gar, World.size_alloc]; omega)
    have hrdY : RdS ((B.gar l3 d3).alloc (.cells #[.int .u8 S.ld, .slice (some ⟨gA, oA, none⟩) m cap, .int .u64 S.a, .int .u64 S.b, .int .u64 S.c, .int .u64 S.d] 145)) (some ⟨gA, oA, none⟩) xs := hrdB.below (by simp only [World.alloc_gar]; exact RowKit.Below.of_gar _ _ _)
    have hgA : gA < ((B.gar l3 d3).alloc (.cells #[.int .u8 S.ld, .slice (some ⟨gA, oA, none⟩) m cap, .int .u64 S.a, .int .u64 S.b, .int .u64 S.c, .int .u64 S.d] 145)).heap.size := by have := (HA.out gA oA rfl).2.2; simp only [World.size_gar, World.size_alloc] at this ⊢; rw [hBs]; omega
    have hYs : ((B.gar l3 d3).alloc (.cells #[.int .u8 S.ld, .slice (some ⟨gA, oA, none⟩) m cap, .int .u64 S.a, .int .u64 S.b, .int .u64 S.c, .int .u64 S.d] 145)).heap.size = w.heap.size + 1 + l.length + 1 + 1 + 1 + 1 + l3.length + 1 := by rw [World.size_alloc, World.size_gar, hBs]
    have hY8 : ((B.gar l3 d3).alloc (.cells #[.int .u8 S.ld, .slice (some ⟨gA, oA, none⟩) m cap, .int .u64 S.a, .int .u64 S.b, .int .u64 S.c, .int .u64 S.d] 145)).heap[w.heap.size + 1 + l.length + 1 + 1 + 1 + 1 + l3.length]? = some (.cells #[.int .u8 S.ld, .slice (some ⟨gA, oA, none⟩) m cap, .int .u64 S.a, .int .u64 S.b, .int .u64 S.c, .int .u64 S.d] 145 (0, 0)) := World.heap_alloc_at _ _ _ (by rw [World.size_gar, hBs])
    have hY6 : ((B.gar l3 d3).alloc (.cells #[.int .u8 S.ld, .slice (some ⟨gA, oA, none⟩) m cap, .int .u64 S.a, .int .u64 S.b, .int .u64 S.c, .int .u64 S.d] 145)).heap[w.heap.size + 1 + l.length]? = some (.cells #[.slice none 0 0] 81 (0, 0)) := by rw [World.heap_alloc_past _ _ _ (by rw [World.size_gar, hBs]; omega), World.heap_gar_past (by rw [hBs]; omega)]; exact hB6
    rw [← hB]
    obtain ⟨Y, hYe⟩ : ∃ Y, Y = ((B.gar l3 d3).alloc (.cells #[.int .u8 S.ld, .slice (some ⟨gA, oA, none⟩) m cap, .int .u64 S.a, .int .u64 S.b, .int .u64 S.c, .int .u64 S.d] 145)) := ⟨_, rfl⟩
    rw [← hYe] at hrdY hgA hYs hY8 hY6 ⊢
    obtain ⟨y8, hy8⟩ : ∃ n, n = w.heap.size + 1 + l.length + 1 + 1 + 1 + 1 + l3.length := ⟨_, rfl⟩
    rw [← hy8] at hYs hY8 ⊢
    have h68 : w.heap.size + 1 + l.length < Y.heap.size := by rw [hYs]; omega
    obtain ⟨b6, hb6⟩ : ∃ n, n = w.heap.size + 1 + l.length := ⟨_, rfl⟩
    rw [← hb6] at h68 hY6
    have HOE := Lib.hid hOe; have HBE := Lib.hid hB; have HBS := Lib.hid hBs; have HYE := Lib.hid hYe; have HY8 := Lib.hid hy8; have HB6 := Lib.hid hb6
    haveI hLa : LtC gA Y.heap.size := ⟨hgA⟩
    haveI hLb : LtC y8 Y.heap.size := ⟨by rw [hYs]; omega⟩
    haveI hLc : LtC b6 Y.heap.size := ⟨h68⟩
    have c0 : Y.cell? ⟨y8, 0, none⟩ = some (.int .u8 S.ld) := cell_blk hY8 rfl
    have c1 : Y.cell? ⟨y8, 1, none⟩ = some (.slice (some ⟨gA, oA, none⟩) m cap) := cell_blk hY8 rfl
    have c2 : Y.cell? ⟨y8, 2, none⟩ = some (.int .u64 S.a) := cell_blk hY8 rfl
    have c3 : Y.cell? ⟨y8, 3, none⟩ = some (.int .u64 S.b) := cell_blk hY8 rfl
    have c4 : Y.cell? ⟨y8, 4, none⟩ = some (.int .u64 S.c) := cell_blk hY8 rfl
    have c5 : Y.cell? ⟨y8, 5, none⟩ = some (.int .u64 S.d) := cell_blk hY8 rfl
    have c6 : Y.cell? ⟨b6, 0, none⟩ = some (.slice none 0 0) := cell_blk hY6 rfl
    have HYB := Lib.hid hY8; have HYS := Lib.hid hYs
    have HRY := Lib.hid hrdY
    have cy : Y.cell? ⟨gA, oA, none⟩ = some (.int .u8 y) := by
      obtain ⟨g, o, e, hc⟩ := hrdY.pos (by rw [← HM.out]; exact hm0)
      cases e
      exact hc 0 y HY0.out
    clear hOe hB hBs hB6 hrdB hrdY hgA hYs hY8 hY6 hYe hy8 hb6 h68
    rw [← HB6.out]
    gi_wp2_with fail
    gi_loopw [29] (fun t29 wr => ∃ i : Nat, i ≤ m ∧ t29 = .int .i64 i ∧ Y = wr) (fun t29 _ => m - (intOf t29).toNat)
    case atStart => exact ⟨0, Nat.zero_le _, rfl, rfl⟩
    case round =>
      obtain ⟨i, hi, rfl, rfl⟩ := hrel
      by_cases hlt : i < m
      · gi_wp2_with fail
        gi_loopw [34] (fun t34 wr => t34 = .int .i64 0 ∧ Y = wr) (fun _ _ => 0)
        case atStart => exact ⟨rfl, rfl⟩
        case round =>
          obtain ⟨rfl, rfl⟩ := hrel
          gi_wp2_with fail
          go_roundw
          case rel => exact ⟨i + 1, by omega, by go_num, by first | rfl | trivial⟩
          case measure => simp [intOf]; omega
      · have hlf : ((i : Int) < m) = False := by simp; omega
        gi_wp2_with (gi_at_call 68; refine (callsIn_wide.2 (suit_v y _ LtC.lt)).mono ?_; rintro e w' ⟨rfl, rfl⟩)
        clear hlf hlt hi
        gi_loopw [72] (fun t72 wr => ∃ (i : Nat) (l4 : List Obj) (d4 : Nat), i ≤ m ∧ t72 = .int .i64 i ∧ Y.gar l4 d4 = wr) (fun t72 _ => m - (intOf t72).toNat)
        case atStart => exact ⟨0, [], _, Nat.zero_le _, rfl, World.gar_nil⟩
        case round =>
          obtain ⟨i, l4, d4, hi, rfl, rfl⟩ := hrel
          by_cases hlt : i < m
          · obtain ⟨x, hx⟩ : ∃ x, xs[i]? = some x := ⟨_, List.getElem?_eq_getElem (by rw [← HM.out]; exact hlt)⟩
            haveI : LtC x 52 := ⟨HX.out i x hx⟩
            have hf := HFO.out i x hx
            obtain ⟨tn, htn⟩ : ∃ t, t = (S.ld + i) % 4 := ⟨_, rfl⟩
            rw [← htn] at hf
            have ht3 : tn ≤ 3 := by omega
            have ht4 : (tn : Int) < 4 := by omega
            have ht0 : (0 : Int) ≤ (tn : Int) := by omega
            obtain ⟨h, hh⟩ : ∃ h, h = S.h tn := ⟨_, rfl⟩
            haveI : Msk h := by rw [hh]; exact HSI.out.msk _ (by omega)
            rw [← hh] at hf
            have hcx : Y.cell? ⟨gA, oA + i, none⟩ = some (.int .u8 x) := by
              obtain ⟨g, o, e, hc⟩ := HRY.out.pos (by rw [← HM.out]; exact hm0)
              cases e
              exact hc i x hx
            have ct : Y.cell? ⟨y8, 2 + tn, none⟩ = some (.int .u64 h) := by
              refine cell_blk HYB.out ?_
              rw [hh]; unfold PS.h hsel
              rcases (show tn = 0 ∨ tn = 1 ∨ tn = 2 ∨ tn = 3 by omega) with e | e | e | e <;> rw [e] <;> rfl
            have hrs := fun W => rseat_v S.ld S.a S.b S.c S.d i (.slice (some ⟨gA, oA, none⟩) m cap) W hSld (by omega)
            rw [← htn] at hrs
            simp only [rndV] at hrs
            have HRS := Lib.hid hrs; have HTN := Lib.hid htn; have HH2 := Lib.hid hh
            clear hrs htn hh hx
            by_cases htb : (suitm y).testBit x = true
            · have hbit : ((bitn (suitm y) x : Nat) : Int) = 1 := by rw [bitn_yes htb]; rfl
              clear hf htb
              gi_wp2_with fail
              go_roundw
              case rel => exact ⟨i + 1, l4, d4, by omega, by go_num, rfl⟩
              case measure => simp [intOf]; omega
            · have hbit : ((bitn (suitm y) x : Nat) : Int) = 0 := by rw [bitn_no (by simpa using htb)]; rfl
              have hz : h &&& suitm y = 0 := by rcases hf with hf | hf; exact absurd hf htb; exact hf
              clear hf htb
              gi_wp2_with (gi_at_call 67; refine (callsIn_wide.2 (HRS.out _)).mono ?_; rintro e w' ⟨rfl, hb⟩; obtain ⟨l5, d5, rfl⟩ := hb.gar; clear hb)
              go_roundw
              case rel => exact ⟨i + 1, l4 ++ l5, d5, by omega, by go_num, rfl⟩
              case measure => simp [intOf]; omega
          · have hlf : ((i : Int) < m) = False := by simp; omega
            gi_wp2_with fail
            clear hlf hlt c0 c1 c2 c3 c4 c5 c6 cy
            have e0 : Y.gar l4 d4 = B.gar (l3 ++ [.cells #[.int .u8 S.ld, .slice (some ⟨gA, oA, none⟩) m cap, .int .u64 S.a, .int .u64 S.b, .int .u64 S.c, .int .u64 S.d] 145] ++ l4) d4 := by rw [HYE.out, World.gar_alloc, World.gar_gar]
            rw [e0]
            clear e0
            have e1 := HYE.out; have e2 := HBE.out; have e3 := HOE.out; have e4 := HY8.out; have e5 := HB6.out
            clear HYE HBE HOE HYB HRY HYS hLa hLb hLc HY8 HBS HB6
            subst e1 e2 e3 e4 e5
            refine ⟨_, _, end_at (by rw [World.heap_gar_past (by simp)]; exact World.heap_alloc_at _ _ _ (by simp)), rfl, ?_⟩
            rw [World.putObj_gar_past _ _ _ _ _ (by simp), World.putObj_alloc_at _ _ _ _ (by simp)]
            refine ⟨HMK.out _ _ _ _ _ _ _ _ _ _ _ _ _ _ _ _ _ _ _ _ _ _ _ _ _ _ _ _ _ _ _ _ _ _ _ _ _ _ _ _ _ _ _ _ _ _ _ _ _ _ _ _ _ _ _ _ _ _ _ _ _ _ _ _ _ _ _ _ _ _ _ _ _ _ _ _ _ _ _ _ _ _ _ _ _ _ _ _ _ _ _ _ _ _ _ rfl, ?_, ?_⟩
            · simp only [World.size_gar, World.size_alloc, List.length_append]; omega
            · intro g hg
              have hne : cs ≠ [] := by rintro rfl; have h1 := HM.out; have h2 := HXS.out; rw [h2] at h1; simp at h1; omega
              by_cases hgb : w.heap.size + 1 + l.length + 1 + 1 + 1 + 1 ≤ g
              · rw [List.append_assoc]
                refine gar_keep (by simp) _ _ _ _ _ (by simp only [World.size_gar, World.size_alloc]; omega) ?_
                simp only [World.size_gar, World.size_alloc]
                rcases hg with rfl | rfl | rfl | ⟨o, h⟩ | ⟨o, h⟩
                · omega
                · try simp only [World.size_gar, World.size_alloc]
                  omega
                · try simp only [World.size_gar, World.size_alloc]
                  omega
                · have := HCS.out.lt hne h; omega
                · have := (HA.out g o h).2.2; simp only [World.size_gar, World.size_alloc] at this; omega
              · rcases hg with rfl | rfl | rfl | ⟨o, h⟩ | ⟨o, h⟩
                · simp only [World.heap_alloc_past, World.heap_gar_past', World.heap_alloc_at, World.size_alloc, World.size_gar, lt_of_ltC]
                · try simp only [World.size_gar, World.size_alloc] at hgb
                  omega
                · try simp only [World.size_gar, World.size_alloc] at hgb
                  omega
                · have hgl := HCS.out.lt hne h
                  haveI : LtC g w.heap.size := ⟨hgl⟩
                  simp only [World.heap_alloc_past, World.heap_gar_past', World.heap_alloc_at, World.size_alloc, World.size_gar, lt_of_ltC]
                · have := (HA.out g o h).2.1; omega
  case post =>
    rintro e wr ⟨⟨ev, rfl⟩, w0, hI, hO⟩
    rw [HI.out] at hI
    obtain ⟨fr, l2, d2, rfl⟩ := hI
    simp only [World.size_alloc, World.size_gar] at hO
    obtain ⟨l3, d3, rfl⟩ := RowKit.Below.gar' (X := (((((w.alloc (.cells #[.int .u64 a, .int .u64 b, .int .u64 c, .int .u64 d, .int .u8 tm, .int .u8 dc, .slice C N cp] 79)).gar l d1).alloc (.cells #[.slice none 0 0] 81)).alloc (.cells #[.int .u64 a, .int .u64 b, .int .u64 c, .int .u64 d, .int .u8 tm, .int .u8 dc, .slice C N cp] 79)).alloc (.deferred (some []))).alloc (loopRec .ready none fn #[.agg #[.int .u64 a, .int .u64 b, .int .u64 c, .int .u64 d, .int .u8 tm, .int .u8 dc, .slice C N cp], .pointer (some ⟨w.heap.size, 0, none⟩), .slice none 0 0, .int .i64 0, .int .i64 (-1), .int .i64 0, .pointer (some ⟨w.heap.size + 1 + l.length, 0, none⟩), fr 7, fr 8, fr 9, fr 10, fr 11, fr 12, fr 13, .tuple #[.int .i64 (-1), .int .i64 0], .agg #[.int .u64 a, .int .u64 b, .int .u64 c, .int .u64 d, .int .u8 tm, .int .u8 dc, .slice C N cp], .tuple #[.int .i64 (-1), .int .i64 0], .int .i64 (-1), .int .i64 0, .int .i64 0, .bool false, undef, .agg #[.int .u64 a, .int .u64 b, .int .u64 c, .int .u64 d, .int .u8 tm, .int .u8 dc, .slice C N cp], .func (.func 97) #[] #[.pointer (some ⟨w.heap.size + 1 + l.length + 1, 0, none⟩)], fr 24, fr 25, fr 26, fr 27, fr 28, fr 29, fr 30, fr 31, fr 32, fr 33, fr 34, fr 35, fr 36, fr 37, fr 38, fr 39, fr 40, fr 41, fr 42, fr 43, fr 44, fr 45, fr 46, fr 47, fr 48, fr 49, fr 50, fr 51, fr 52, fr 53, fr 54, fr 55, fr 56, fr 57, fr 58, fr 59, fr 60, fr 61, fr 62, fr 63, fr 64, fr 65, fr 66, fr 67, fr 68, fr 69, fr 70, fr 71, fr 72, fr 73, fr 74, fr 75, fr 76, fr 77, fr 78, fr 79, fr 80, fr 81, fr 82, fr 83, fr 84, fr 85, fr 86, fr 87, fr 88, fr 89, fr 90, fr 91, fr 92, fr 93, fr 94, fr 95, fr 96, fr 97, fr 98, fr 99, fr 100, fr 101, fr 102, fr 103, fr 104, fr 105, fr 106, fr 107, undef] #[24, 25] asg body (w.heap.size + 1 + l.length + 1 + 1))) (l := l2) (d := d2) (w' := wr) ⟨hO.os, hO.tape, hO.output, hO.size, fun q hq => hO.block q (by simp at hq ⊢; omega) (by simp at hq; omega) (by simp at hq; omega)⟩
    clear hO
    refine ⟨_, _, done_at (by rw [World.heap_gar_past (by simp)]; exact World.heap_alloc_at _ _ _ (by simp)) (by decide), ?_⟩
    rw [World.putObj_gar_past _ _ _ _ _ (by simp), World.putObj_alloc_at _ _ _ _ (by simp)]
    generalize loopRec .exhausted _ _ _ _ _ _ _ = O
    show Exit.inBlock 0 _ Exit.normal _ _
    gi_wp2
    refine ⟨by simp, .inl ⟨_, _, rfl, run_takeDeferred (by rw [World.heap_gar_past (by simp), World.heap_alloc_past _ _ _ (by simp)]; exact World.heap_alloc_at _ _ _ (by simp)), ?_⟩⟩
    rw [World.putObj_gar_past _ _ _ _ _ (by simp), World.putObj_alloc_past _ _ _ _ (by simp), World.putObj_alloc_at _ _ _ _ (by simp)]
    refine ⟨.tuple #[.slice none 0 0, .int .i64 0], ?_, rfl, ?_⟩
    · simp [results, Try.results30, go_sem]
    · simp only [World.alloc_gar, World.gar_gar, World.gar_drewN, World.gar_drew]; exact RowKit.Below.of_gar _ _ _
end Go.Proofs
