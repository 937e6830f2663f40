/- revoke.Winners -/
import Derived.Test.YtaladbaeplgjgaaX23
import Derived.Sort.CutIn
set_option linter.unusedSimpArgs false
set_option linter.unusedVariables false
namespace Go.Proofs
open Go.RowKit
attribute [local go_sem] Oper.semAt_some
attribute [local go_sem ↓ high] builtin_app
/-- The winners of the first k tricks. -/
def wins (tm : Nat) (s0 : PS) (cs : List Nat) (k : Nat) : List Nat := (List.range k).map (fun j => (runP tm s0 (cs.take (4 * (j + 1)))).ld)
theorem wins_succ (tm : Nat) (s0 : PS) (cs : List Nat) (k : Nat) : wins tm s0 cs (k + 1) = wins tm s0 cs k ++ [(runP tm s0 (cs.take (4 * (k + 1)))).ld] := by
  unfold wins; rw [List.range_succ, List.map_append]; rfl
theorem wins_length (tm : Nat) (s0 : PS) (cs : List Nat) (k : Nat) : (wins tm s0 cs k).length = k := by simp [wins]
theorem own_rd {W : World} {base n : Nat} {v : Value} {xs : List Nat} (h : W.ownsRow base 5 1 v n (u8s xs)) (hn : n = xs.length) : ∃ A n2 cap, v = .slice A n2 cap ∧ n2 = n ∧ n2 ≤ cap ∧ RdS W A xs := by
  rcases h.2 with ⟨rfl, h2⟩ | ⟨g, cap, cur, rfl, h2, h3, h4, h5⟩
  · exact ⟨none, 0, 0, rfl, h2.symm, Nat.le_refl _, .inl (List.length_eq_zero_iff.1 (by omega))⟩
  · exact ⟨some ⟨g, 0, none⟩, n, cap, rfl, rfl, h4, (rd_own h hn).2.2⟩
set_option maxHeartbeats 8000000 in
set_option maxRecDepth 100000 in
theorem winners_v (a b c d tm dc N cp : Nat) (C : Option Addr) (cs : List Nat) (w : World) (hF : Full a b c d) (hN : Hid (N = cs.length)) (hN52 : N ≤ 52) (hcp : N ≤ cp) (htm : tm ≤ 4) (hdc : dc ≤ 3)
    (hh : Held tm (start a b c d ((dc + 1) % 4)) cs) (hcs : RdS w C cs) :
    Calls Try.prog 31 #[recV a b c d tm dc (.slice C N cp)] w fun e w' => ∃ (A : Option Addr) (n cap : Nat), e = .returned (.tuple #[.slice A n cap, .int .i64 0]) ∧ Hid (n = N / 4) ∧ n ≤ cap ∧ RdS w' A (wins tm (start a b c d ((dc + 1) % 4)) cs (N / 4)) ∧ RowKit.Below w.heap.size w w' := by
  have hrt := fun W (h : RdS W C cs) => right79_v a b c d tm dc N cp C cs W hF hN hN52 hcp htm hdc hh h
  haveI := hF.ma; haveI := hF.mb; haveI := hF.mc; haveI := hF.md
  have hs : Inv (start a b c d ((dc + 1) % 4)) 0 := Inv.start hF (by omega)
  have hrn := fun W => rounds_v a b c d tm dc C N cp W
  simp only [recV] at hrt hrn ⊢
  have HR := Lib.hid hrt; have HRN := Lib.hid hrn; have HS := Lib.hid hs; have HH := Lib.hid hh; have HCS := Lib.hid hcs
  clear hrt hrn hs hh hcs hF
  obtain ⟨s0, hs0⟩ : ∃ s0, s0 = start a b c d ((dc + 1) % 4) := ⟨_, rfl⟩
  rw [← hs0]
  have HS0 := Lib.hid hs0
  clear hs0
  refine (callsIn_wide (n := 3)).1 ?_
  refine callsIn_of_wp_marks Try.func31 rfl trivial ?_ rfl
  simp only [Try.ntmps31, List.size_toArray, List.length_cons, List.length_nil, Nat.reduceAdd, Nat.reduceSub, Array.replicate_succ, Array.replicate_zero, List.push_toArray, List.append_toArray, List.nil_append, List.cons_append]
  gi_wp2_with (first | (gi_at_call 29; refine (callsIn_wide.2 (HR.out _ (HCS.out.below (by simp only [World.alloc_gar]; exact RowKit.Below.of_gar _ _ _)))).mono ?_; rintro e w' ⟨rfl, hb⟩; obtain ⟨l, d1, rfl⟩ := hb.gar; clear hb) | (gi_at_call 66; refine (callsIn_wide.2 (HRN.out _)).mono ?_; rintro e w' ⟨rfl, rfl⟩))
  refine wpIn_range' rfl (fun _ => trivial) rfl (gf := 97) (cap := #[.pointer (some ⟨w.heap.size + 1 + l.length + 1, 0, none⟩)]) rfl (fun args w => Try.call97 args w) ?_
  intro fn asg body hasg hbody
  have HAS := Lib.hid hasg; have HBO := Lib.hid hbody
  clear hasg hbody
  simp only [World.size_alloc, World.size_gar, Nat.reduceSub]
  obtain ⟨I, hI⟩ : ∃ I : Nat → World → Prop, I = (fun (k : Nat) (wr : World) => ∃ (v t8 t19 t20 t21 t22 t23 t24 t25 t26 t27 t28 t29 t30 t31 : Value) (l2 : List Obj) (d2 : Nat), wr = ((((((w.alloc (.cells #[.int .u64 a, .int .u64 b, .int .u64 c, .int .u64 d, .int .u8 tm, .int .u8 dc, .slice C N cp] 79)).gar l d1).alloc (.cells #[v] 22)).alloc (.cells #[.int .u64 a, .int .u64 b, .int .u64 c, .int .u64 d, .int .u8 tm, .int .u8 dc, .slice C N cp] 79)).alloc (.deferred (some []))).alloc (loopRec .ready none fn #[.agg #[.int .u64 a, .int .u64 b, .int .u64 c, .int .u64 d, .int .u8 tm, .int .u8 dc, .slice C N cp], .pointer (some ⟨w.heap.size, 0, none⟩), .slice none 0 0, .int .i64 0, .int .i64 (-1), .int .i64 0, .pointer (some ⟨w.heap.size + 1 + l.length, 0, none⟩), undef, t8, .tuple #[.int .i64 (-1), .int .i64 0], .agg #[.int .u64 a, .int .u64 b, .int .u64 c, .int .u64 d, .int .u8 tm, .int .u8 dc, .slice C N cp], .tuple #[.int .i64 (-1), .int .i64 0], .int .i64 (-1), .int .i64 0, .int .i64 0, .bool false, undef, .agg #[.int .u64 a, .int .u64 b, .int .u64 c, .int .u64 d, .int .u8 tm, .int .u8 dc, .slice C N cp], .func (.func 97) #[] #[.pointer (some ⟨w.heap.size + 1 + l.length + 1, 0, none⟩)], t19, t20, t21, t22, t23, t24, t25, t26, t27, t28, t29, t30, t31, undef] #[19, 20] asg body (w.heap.size + 1 + l.length + 1 + 1))).gar l2 d2 ∧ wr.ownsRow (w.heap.size + 1 + l.length + 1 + 1 + 1 + 1 + 2) 5 1 v (min k (N / 4)) (u8s (wins tm s0 cs (min k (N / 4))))) := ⟨_, rfl⟩
  have HI := Lib.hid hI
  clear hI
  refine CallsIn.mono (rounds_in I (w.heap.size + 1 + l.length + 1 + 1 + 1) _ (w.heap.size + 1 + l.length + 1) N cp tm dc a b c d C cs _ hN.out (by omega) hcp htm hdc HS.out HH.out ?hrec ?hcs ?hY ?h0) ?post
  case hrec => simp only [World.heap_alloc_past, World.heap_alloc_at, World.size_alloc, World.size_gar, lt_of_ltC]
  case hcs =>
    refine HCS.out.below ?_
    simp only [World.alloc_gar, World.gar_gar]; exact RowKit.Below.of_gar _ _ _
  case h0 =>
    rw [HI.out]
    refine ⟨.slice none 0 0, undef, undef, undef, undef, undef, undef, undef, undef, undef, undef, undef, undef, undef, undef, [], _, World.gar_nil.symm, ?_⟩
    rw [Nat.zero_min]
    exact World.ownsRow_nil _ _ _ _
  case hY =>
    intro k m cap A xs w0 W hk hxs hm hcap hrd hA hI hO hsz
    rw [HI.out] at hI
    obtain ⟨v, t8, t19, t20, t21, t22, t23, t24, t25, t26, t27, t28, t29, t30, t31, l2, d2, rfl, hown⟩ := hI
    simp only [World.size_alloc, World.size_gar] at hO hA hsz
    have hown2 : W.ownsRow (w.heap.size + 1 + l.length + 1 + 1 + 1 + 1 + 2) 5 1 v (min k (N / 4)) (u8s (wins tm s0 cs (min k (N / 4)))) := by
      refine ⟨hown.1, ?_⟩
      rcases hown.2 with h2 | ⟨g, cp', cur, h1, h2, h3, h4⟩
      · exact .inl h2
      · exact .inr ⟨g, cp', cur, h1, h2, by rw [hO.block g (lt_blk h3) (by omega) (by omega)]; exact h3, h4⟩
    have hvA : ∀ g o, A = some ⟨g, o, none⟩ → v.ownBlock ≠ some g := fun g o e h => by
      have h1 := (hown.lt g h).2
      have h2 := (hA g o e).1
      simp only [World.size_gar, World.size_alloc] at h1; omega
    obtain ⟨l3, d3, rfl⟩ := RowKit.Below.gar' (X := (((((w.alloc (.cells #[.int .u64 a, .int .u64 b, .int .u64 c, .int .u64 d, .int .u8 tm, .int .u8 dc, .slice C N cp] 79)).gar l d1).alloc (.cells #[v] 22)).alloc (.cells #[.int .u64 a, .int .u64 b, .int .u64 c, .int .u64 d, .int .u8 tm, .int .u8 dc, .slice C N cp] 79)).alloc (.deferred (some []))).alloc (loopRec .ready none fn #[.agg #[.int .u64 a, .int .u64 b, .int .u64 c, .int .u64 d, .int .u8 tm, .int .u8 dc, .slice C N cp], .pointer (some ⟨w.heap.size, 0, none⟩), .slice none 0 0, .int .i64 0, .int .i64 (-1), .int .i64 0, .pointer (some ⟨w.heap.size + 1 + l.length, 0, none⟩), undef, t8, .tuple #[.int .i64 (-1), .int .i64 0], .agg #[.int .u64 a, .int .u64 b, .int .u64 c, .int .u64 d, .int .u8 tm, .int .u8 dc, .slice C N cp], .tuple #[.int .i64 (-1), .int .i64 0], .int .i64 (-1), .int .i64 0, .int .i64 0, .bool false, undef, .agg #[.int .u64 a, .int .u64 b, .int .u64 c, .int .u64 d, .int .u8 tm, .int .u8 dc, .slice C N cp], .func (.func 97) #[] #[.pointer (some ⟨w.heap.size + 1 + l.length + 1, 0, none⟩)], t19, t20, t21, t22, t23, t24, t25, t26, t27, t28, t29, t30, t31, undef] #[19, 20] asg body (w.heap.size + 1 + l.length + 1 + 1))) (l := l2) (d := d2) (w' := W) ⟨hO.os, hO.tape, hO.output, hO.size, fun q hq => hO.block q (by simp at hq ⊢; omega) (by simp at hq; omega) (by simp at hq; omega)⟩
    simp only [World.size_gar, World.size_alloc] at hsz
    refine yield_at (by rw [World.heap_gar_past (by simp)]; exact World.heap_alloc_at _ _ _ (by simp)) rfl ?_
    simp only [List.zip_toArray, List.zip_cons_cons, List.zip_nil_left, List.foldl_toArray', List.foldl_cons, List.foldl_nil, List.setIfInBounds_toArray, List.set_cons_succ, List.set_cons_zero, List.size_toArray, List.length_cons, List.length_nil]
    have hkN : 4 * k < N := by rw [hN.out]; exact hk
    have hmN : m = min 4 (N - 4 * k) := by
      rw [hm, hxs, List.length_take, List.length_drop, ← hN.out]
    have htf := trick_full HS.out HH.out k
    rw [← HS0.out] at htf
    obtain ⟨S, hS⟩ : ∃ S, S = runP tm s0 (cs.take (4 * k)) := ⟨_, rfl⟩
    rw [← HS0.out, ← hS]
    rw [← hS, ← hxs, ← hN.out] at htf
    have hSinv := HS.out.run HH.out (4 * k) (by omega)
    rw [← HS0.out, ← hS] at hSinv
    have hSld := hSinv.ld
    have HMN := Lib.hid hmN; have HTF := Lib.hid htf; have HXS := Lib.hid hxs; have HM := Lib.hid hm; have HOW := Lib.hid hown2; have HVA := Lib.hid hvA; have HRD := Lib.hid hrd; have HA := Lib.hid hA
    clear hO hxs hm hk hmN htf hown hown2 hvA hrd hA hS hSinv
    simp only [rndV]
    by_cases h4 : m = 4
    · have h4b : ((m : Int) == 4) = true := by rw [beq_iff_eq]; omega
      have hk4 : 4 * k + 4 ≤ N := by have := HMN.out; omega
      have H4 := Lib.hid h4
      clear h4
      rw [wpIn_eq HAS.out]
      gi_wp2
      refine ⟨_, begin_at (by rw [World.heap_alloc_past _ _ _ (by simp only [World.size_gar, World.size_alloc]; omega), World.heap_gar_past (by simp)]; exact World.heap_alloc_at _ _ _ (by simp)), ?_⟩
      rw [World.putObj_alloc_past _ _ _ _ (by simp only [World.size_gar, World.size_alloc]; omega), World.putObj_gar_past _ _ _ _ _ (by simp), World.putObj_alloc_at _ _ _ _ (by simp)]
      rw [wpIn_eq HBO.out]
      gi_wp2_with fail
      have hrw := fun W (h : RdS W A xs) => rwinner_v S.ld S.a S.b S.c S.d tm m cap A xs W hSld HM hcap h (HTF.out hk4).1 htm
      simp only [rndV] at hrw
      have HRW := Lib.hid hrw
      clear hrw
      obtain ⟨B, hB⟩ : ∃ B, B = (((((w.alloc (.cells #[.int .u64 a, .int .u64 b, .int .u64 c, .int .u64 d, .int .u8 tm, .int .u8 dc, .slice C N cp] 79)).gar l d1).alloc (.cells #[v] 22)).alloc (.cells #[.int .u64 a, .int .u64 b, .int .u64 c, .int .u64 d, .int .u8 tm, .int .u8 dc, .slice C N cp] 79)).alloc (.deferred (some []))).alloc (loopRec .busy none fn #[.agg #[.int .u64 a, .int .u64 b, .int .u64 c, .int .u64 d, .int .u8 tm, .int .u8 dc, .slice C N cp], .pointer (some ⟨w.heap.size, 0, none⟩), .slice none 0 0, .int .i64 0, .int .i64 (-1), .int .i64 0, .pointer (some ⟨w.heap.size + 1 + l.length, 0, none⟩), undef, t8, .tuple #[.int .i64 (-1), .int .i64 0], .agg #[.int .u64 a, .int .u64 b, .int .u64 c, .int .u64 d, .int .u8 tm, .int .u8 dc, .slice C N cp], .tuple #[.int .i64 (-1), .int .i64 0], .int .i64 (-1), .int .i64 0, .int .i64 0, .bool false, undef, .agg #[.int .u64 a, .int .u64 b, .int .u64 c, .int .u64 d, .int .u8 tm, .int .u8 dc, .slice C N cp], .func (.func 97) #[] #[.pointer (some ⟨w.heap.size + 1 + l.length + 1, 0, none⟩)], t19, t20, t21, t22, t23, t24, t25, t26, t27, t28, t29, t30, t31, undef] #[19, 20] asg body (w.heap.size + 1 + l.length + 1 + 1)) := ⟨_, rfl⟩
      have hBs : B.heap.size = w.heap.size + 1 + l.length + 1 + 1 + 1 + 1 := by rw [hB]; simp
      have hownB : (B.gar l3 d3).ownsRow (w.heap.size + 1 + l.length + 1 + 1 + 1 + 1 + 2) 5 1 v (min k (N / 4)) (u8s (wins tm s0 cs (min k (N / 4)))) := by rw [hB]; exact World.ownsRow.swap (by simp) (by simp) HOW.out
      have hB6 : B.heap[w.heap.size + 1 + l.length]? = some (.cells #[v] 22 (0, 0)) := by rw [hB]; simp only [World.heap_alloc_past, World.heap_gar_past', World.heap_alloc_at, World.size_alloc, World.size_gar, lt_of_ltC]
      have hB1 : B.heap[w.heap.size]? = some (.cells #[.int .u64 a, .int .u64 b, .int .u64 c, .int .u64 d, .int .u8 tm, .int .u8 dc, .slice C N cp] 79 (0, 0)) := by rw [hB]; simp only [World.heap_alloc_past, World.heap_gar_past', World.heap_alloc_at, World.size_alloc, World.size_gar, lt_of_ltC]
      have hrdB : ∀ l d, RdS ((B.gar l3 d3).gar l d) A xs := fun l d => by
        refine RdS.below ?_ (RowKit.Below.of_gar _ _ _)
        rw [hB]
        exact HRD.out.block fun g o e => by
          have h1 := (HA.out g o e).2.1
          exact gar_keep0 (by simp) _ _ _ _ (by simp only [World.size_gar, World.size_alloc]; omega)
      rw [← hB, ← hBs]
      have HBE := Lib.hid hB; have HBS := Lib.hid hBs; have HOB := Lib.hid hownB; have HRB := Lib.hid hrdB
      haveI hLtA : LtC (w.heap.size + 1 + l.length) B.heap.size := ⟨by rw [hBs]; omega⟩
      haveI hLtB : LtC w.heap.size B.heap.size := ⟨by rw [hBs]; omega⟩
      have c6 : B.cell? ⟨w.heap.size + 1 + l.length, 0, none⟩ = some v := cell_blk hB6 rfl
      have f6 : B.frozen? ⟨w.heap.size + 1 + l.length, 0, none⟩ = false := frozen_blk hB6
      have c14 : B.cell? ⟨w.heap.size, 4, none⟩ = some (.int .u8 tm) := cell_blk hB1 rfl
      have hbn : (B.gar l3 d3).heap.size = w.heap.size + 1 + l.length + 1 + 1 + 1 + 1 + l3.length := by rw [World.size_gar, hBs]
      have HBN := Lib.hid hbn
      clear hB hBs hownB hrdB hB6 hB1 hbn
      have hkn : min k (N / 4) = k := by omega
      have hkn1 : min (k + 1) (N / 4) = k + 1 := by omega
      have hBx : w.heap.size + 1 + l.length + 1 + 1 + 1 + 1 + 2 ≤ B.heap.size + l3.length := by rw [HBS.out]; omega
      rw [hkn] at HOB
      have HKN := Lib.hid hkn1; have HBX := Lib.hid hBx
      have hk60 : k ≤ 60 := by omega
      have hrx : RdS ((B.gar l3 d3).alloc (.cells #[.int .u8 S.ld, .slice A m cap, .int .u64 S.a, .int .u64 S.b, .int .u64 S.c, .int .u64 S.d] 145)) A xs := (HRB.out [] (B.gar l3 d3).drawn).below (by rw [World.gar_nil]; simp only [World.alloc_gar]; exact RowKit.Below.of_gar _ _ _)
      have HRX := Lib.hid hrx
      clear hrx hkn hkn1 hBx
      gi_region_with (gi_at_call 69; refine (callsIn_wide.2 (HRW.out _ (by exact HRX.out))).mono ?_; rintro e w' ⟨q, rfl, Hq, hb⟩; obtain ⟨l6, d6, rfl⟩ := hb.gar; clear hb; obtain ⟨v2, w2, hr, hn1, hg1, hl4, hkp⟩ := app_own (X := (B.gar l3 d3).alloc (.cells #[.int .u8 S.ld, .slice A m cap, .int .u64 S.a, .int .u64 S.b, .int .u64 S.c, .int .u64 S.d] 145)) (HOB.out.alloc _) l6 d6 q hk60 (by have := HBX.out; simp; omega); obtain ⟨g2, cap2, rfl⟩ := ownsRow_succ hn1; simp only [World.size_alloc, World.size_gar] at hr; obtain ⟨l4, d4, rfl⟩ : ∃ l d, w2 = B.gar l d := (by have hb1 := below_grown hg1 (B := B.heap.size) (by simp; omega) (fun g hg => by have := (HOB.out.lt g hg).1; rw [HBS.out]; omega); simp only [World.gar_alloc, World.gar_gar] at hb1; exact hb1.gar'); have HN1 := Lib.hid hn1; have HQ := Lib.hid Hq; have HKP := Lib.hid hkp; have HL4 := Lib.hid hl4; clear hg1 hn1 Hq hkp hl4)
      all_goals
        clear hr c6 f6 c14
        rename_i q l6 d6 g2 cap2 l4 d4
        have hB := HBE.out
        have hown3 := HN1.out
        have hl4 := HL4.out
        have hkeep : ∀ g, g < B.heap.size + l3.length → v.ownBlock ≠ some g → (B.gar l4 d4).heap[g]? = (B.gar l3 d3).heap[g]? := fun g h1 h2 =>
          (HKP.out g (by simp; omega) h2).trans (World.heap_alloc_past _ _ _ (by simp; omega))
        simp only [World.size_alloc, World.size_gar] at hl4
        subst hB
        gi_wp2_with fail
        refine ⟨_, _, end_at (by rw [World.heap_gar_past (by simp)]; exact World.heap_alloc_at _ _ _ (by simp)), rfl, ?_⟩
        rw [World.putObj_gar_past _ _ _ _ _ (by simp), World.putObj_alloc_at _ _ _ _ (by simp)]
        rw [HI.out]
        refine ⟨?_, ?_, ?_⟩
        · dsimp only
          rw [HKN.out, wins_succ, (HTF.out hk4).2, ← HQ.out]
          exact ⟨_, _, _, _, _, _, _, _, _, _, _, _, _, _, _, l4, d4, rfl, World.ownsRow.swap (by simp) (by simp) hown3⟩
        · simp only [World.size_gar, World.size_alloc] at hl4 ⊢; omega
        · intro g hg
          have hne : cs ≠ [] := by rintro rfl; have := hN.out; simp at this; omega
          by_cases hgb : w.heap.size + 1 + l.length + 1 + 1 + 1 + 1 ≤ g
          · refine (gar_keep0 (B := (((((w.alloc (.cells #[.int .u64 a, .int .u64 b, .int .u64 c, .int .u64 d, .int .u8 tm, .int .u8 dc, .slice C N cp] 79)).gar l d1).alloc (.cells #[v] 22)).alloc (.cells #[.int .u64 a, .int .u64 b, .int .u64 c, .int .u64 d, .int .u8 tm, .int .u8 dc, .slice C N cp] 79)).alloc (.deferred (some []))).alloc (loopRec .busy none fn #[.agg #[.int .u64 a, .int .u64 b, .int .u64 c, .int .u64 d, .int .u8 tm, .int .u8 dc, .slice C N cp], .pointer (some ⟨w.heap.size, 0, none⟩), .slice none 0 0, .int .i64 0, .int .i64 (-1), .int .i64 0, .pointer (some ⟨w.heap.size + 1 + l.length, 0, none⟩), undef, t8, .tuple #[.int .i64 (-1), .int .i64 0], .agg #[.int .u64 a, .int .u64 b, .int .u64 c, .int .u64 d, .int .u8 tm, .int .u8 dc, .slice C N cp], .tuple #[.int .i64 (-1), .int .i64 0], .int .i64 (-1), .int .i64 0, .int .i64 0, .bool false, undef, .agg #[.int .u64 a, .int .u64 b, .int .u64 c, .int .u64 d, .int .u8 tm, .int .u8 dc, .slice C N cp], .func (.func 97) #[] #[.pointer (some ⟨w.heap.size + 1 + l.length + 1, 0, none⟩)], t19, t20, t21, t22, t23, t24, t25, t26, t27, t28, t29, t30, t31, undef] #[19, 20] asg body (w.heap.size + 1 + l.length + 1 + 1))) (by simp) l4 d4 _ _ (by simp only [World.size_gar, World.size_alloc]; omega)).trans ?_
            refine (hkeep g ?_ ?_).trans (gar_keep0 (by simp) _ _ _ _ (by simp only [World.size_gar, World.size_alloc]; omega))
            · simp only [World.size_gar, World.size_alloc]
              rcases hg with rfl | rfl | rfl | ⟨o, h⟩ | ⟨o, h⟩
              · omega
              · try simp only [World.size_gar, World.size_alloc]
                omega
              · try simp only [World.size_gar, World.size_alloc]
                omega
              · have := HCS.out.lt hne h; omega
              · have := (HA.out g o h).2.2; simp only [World.size_gar, World.size_alloc] at this; omega
            · rcases hg with rfl | rfl | rfl | ⟨o, h⟩ | ⟨o, h⟩
              · omega
              · intro e; have := (HOW.out.lt _ e).1; try simp only [World.size_gar, World.size_alloc] at this
                omega
              · intro e; have := (HOW.out.lt _ e).1; try simp only [World.size_gar, World.size_alloc] at this
                omega
              · have := HCS.out.lt hne h; omega
              · exact HVA.out g o h
          · rcases hg with rfl | rfl | rfl | ⟨o, h⟩ | ⟨o, h⟩
            · simp only [World.heap_alloc_past, World.heap_gar_past', World.heap_alloc_at, World.size_alloc, World.size_gar, lt_of_ltC]
            · try simp only [World.size_gar, World.size_alloc] at hgb
              omega
            · try simp only [World.size_gar, World.size_alloc] at hgb
              omega
            · have hgl := HCS.out.lt hne h
              haveI : LtC g w.heap.size := ⟨hgl⟩
              simp only [World.heap_alloc_past, World.heap_gar_past', World.heap_alloc_at, World.size_alloc, World.size_gar, lt_of_ltC]
            · have := (HA.out g o h).2.1; omega
    · have h4b : ((m : Int) == 4) = false := by rw [beq_eq_false_iff_ne]; omega
      have hkn : min k (N / 4) = min (k + 1) (N / 4) := by have := HMN.out; omega
      have HKN := Lib.hid hkn
      clear h4 hkn
      rw [wpIn_eq HAS.out]
      gi_wp2
      refine ⟨_, begin_at (by rw [World.heap_alloc_past _ _ _ (by simp only [World.size_gar, World.size_alloc]; omega), World.heap_gar_past (by simp)]; exact World.heap_alloc_at _ _ _ (by simp)), ?_⟩
      rw [World.putObj_alloc_past _ _ _ _ (by simp only [World.size_gar, World.size_alloc]; omega), World.putObj_gar_past _ _ _ _ _ (by simp), World.putObj_alloc_at _ _ _ _ (by simp)]
      rw [wpIn_eq HBO.out]
      gi_wp2_with fail
      refine ⟨_, _, end_at (by rw [World.heap_alloc_past _ _ _ (by simp only [World.size_gar, World.size_alloc]; omega), World.heap_gar_past (by simp)]; exact World.heap_alloc_at _ _ _ (by simp)), rfl, ?_⟩
      rw [World.putObj_alloc_past _ _ _ _ (by simp only [World.size_gar, World.size_alloc]; omega), World.putObj_gar_past _ _ _ _ _ (by simp), World.putObj_alloc_at _ _ _ _ (by simp)]
      rw [HI.out]
      refine ⟨?_, ?_, ?_⟩
      · dsimp only
        rw [← HKN.out]
        exact ⟨v, _, _, _, _, _, _, _, _, _, _, _, _, _, _, _, _, World.gar_alloc _, (World.ownsRow.swap (by simp) (by simp) HOW.out).alloc _⟩
      · try simp only [World.size_gar, World.size_alloc]
        omega
      · intro g hg
        have hne : cs ≠ [] := by rintro rfl; have := hN.out; simp at this; omega
        by_cases hgb : w.heap.size + 1 + l.length + 1 + 1 + 1 + 1 ≤ g
        · refine (congrArg (fun W : World => W.heap[g]?) (World.gar_alloc _)).trans (gar_keep (by simp) _ _ _ _ _ (by simp only [World.size_gar, World.size_alloc]; omega) ?_)
          simp only [World.size_gar, World.size_alloc]
          rcases hg with rfl | rfl | rfl | ⟨o, h⟩ | ⟨o, h⟩
          · omega
          · try simp only [World.size_gar, World.size_alloc]
            omega
          · try simp only [World.size_gar, World.size_alloc]
            omega
          · have := HCS.out.lt hne h; omega
          · have := (HA.out g o h).2.2; simp only [World.size_gar, World.size_alloc] at this; omega
        · rcases hg with rfl | rfl | rfl | ⟨o, h⟩ | ⟨o, h⟩
          · simp only [World.heap_alloc_past, World.heap_gar_past', World.heap_alloc_at, World.size_alloc, World.size_gar, lt_of_ltC]
          · try simp only [World.size_gar, World.size_alloc] at hgb
            omega
          · try simp only [World.size_gar, World.size_alloc] at hgb
            omega
          · have hgl := HCS.out.lt hne h
            haveI : LtC g w.heap.size := ⟨hgl⟩
            simp only [World.heap_alloc_past, World.heap_gar_past', World.heap_alloc_at, World.size_alloc, World.size_gar, lt_of_ltC]
          · have := (HA.out g o h).2.1; omega
  case post =>
    rintro e wr ⟨⟨ev, rfl⟩, w0, hI, hO⟩
    rw [HI.out] at hI
    obtain ⟨v, t8, t19, t20, t21, t22, t23, t24, t25, t26, t27, t28, t29, t30, t31, l2, d2, rfl, hown⟩ := hI
    simp only [World.size_alloc, World.size_gar] at hO
    have hm : min ((N + 3) / 4) (N / 4) = N / 4 := by omega
    rw [hm] at hown
    have hown2 : wr.ownsRow (w.heap.size + 1 + l.length + 1 + 1 + 1 + 1 + 2) 5 1 v (N / 4) (u8s (wins tm s0 cs (N / 4))) := by
      refine ⟨hown.1, ?_⟩
      rcases hown.2 with h2 | ⟨g, cp', cur, h1, h2, h3, h4⟩
      · exact .inl h2
      · exact .inr ⟨g, cp', cur, h1, h2, by rw [hO.block g (lt_blk h3) (by omega) (by omega)]; exact h3, h4⟩
    obtain ⟨l3, d3, rfl⟩ := RowKit.Below.gar' (X := (((((w.alloc (.cells #[.int .u64 a, .int .u64 b, .int .u64 c, .int .u64 d, .int .u8 tm, .int .u8 dc, .slice C N cp] 79)).gar l d1).alloc (.cells #[v] 22)).alloc (.cells #[.int .u64 a, .int .u64 b, .int .u64 c, .int .u64 d, .int .u8 tm, .int .u8 dc, .slice C N cp] 79)).alloc (.deferred (some []))).alloc (loopRec .ready none fn #[.agg #[.int .u64 a, .int .u64 b, .int .u64 c, .int .u64 d, .int .u8 tm, .int .u8 dc, .slice C N cp], .pointer (some ⟨w.heap.size, 0, none⟩), .slice none 0 0, .int .i64 0, .int .i64 (-1), .int .i64 0, .pointer (some ⟨w.heap.size + 1 + l.length, 0, none⟩), undef, t8, .tuple #[.int .i64 (-1), .int .i64 0], .agg #[.int .u64 a, .int .u64 b, .int .u64 c, .int .u64 d, .int .u8 tm, .int .u8 dc, .slice C N cp], .tuple #[.int .i64 (-1), .int .i64 0], .int .i64 (-1), .int .i64 0, .int .i64 0, .bool false, undef, .agg #[.int .u64 a, .int .u64 b, .int .u64 c, .int .u64 d, .int .u8 tm, .int .u8 dc, .slice C N cp], .func (.func 97) #[] #[.pointer (some ⟨w.heap.size + 1 + l.length + 1, 0, none⟩)], t19, t20, t21, t22, t23, t24, t25, t26, t27, t28, t29, t30, t31, undef] #[19, 20] asg body (w.heap.size + 1 + l.length + 1 + 1))) (l := l2) (d := d2) (w' := wr) ⟨hO.os, hO.tape, hO.output, hO.size, fun q hq => hO.block q (by simp at hq ⊢; omega) (by simp at hq; omega) (by simp at hq; omega)⟩
    clear hO hown
    obtain ⟨A, n, cap, rfl, hn, hcap, hrd⟩ := own_rd hown2 (wins_length _ _ _ _).symm
    have hlt : ∀ g o, A = some ⟨g, o, none⟩ → w.heap.size + 1 + l.length + 1 + 1 + 1 + 1 + 2 ≤ g := fun g o e => (hown2.lt g (by rw [e]; rfl)).1
    have HRD := Lib.hid hrd; have HN2 := Lib.hid hn; have HLT := Lib.hid hlt
    clear hrd hown2 hn hlt
    refine ⟨_, _, done_at (by rw [World.heap_gar_past (by simp)]; exact World.heap_alloc_at _ _ _ (by simp)) (by decide), ?_⟩
    rw [World.putObj_gar_past _ _ _ _ _ (by simp), World.putObj_alloc_at _ _ _ _ (by simp)]
    generalize loopRec .exhausted _ _ _ _ _ _ _ = O
    show Exit.inBlock 0 _ Exit.normal _ _
    gi_wp2
    refine ⟨by simp, .inl ⟨_, _, rfl, run_takeDeferred (by rw [World.heap_gar_past (by simp), World.heap_alloc_past _ _ _ (by simp)]; exact World.heap_alloc_at _ _ _ (by simp)), ?_⟩⟩
    rw [World.putObj_gar_past _ _ _ _ _ (by simp), World.putObj_alloc_past _ _ _ _ (by simp), World.putObj_alloc_at _ _ _ _ (by simp)]
    refine ⟨.tuple #[.slice A n cap, .int .i64 0], ?_, A, n, cap, rfl, HN2, hcap, ?_, ?_⟩
    · simp [results, Try.results31, go_sem]
    · refine HRD.out.block fun g o e => ?_
      have h1 := HLT.out g o e
      exact gar_keep0 (by simp) _ _ _ _ (by simp; omega)
    · simp only [World.alloc_gar, World.gar_gar, World.gar_drewN, World.gar_drew]; exact RowKit.Below.of_gar _ _ _
end Go.Proofs
