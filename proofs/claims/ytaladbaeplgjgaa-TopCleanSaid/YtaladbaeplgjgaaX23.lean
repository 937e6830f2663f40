/- revoke.Right -/
import Derived.Test.YtaladbaeplgjgaaX22
set_option linter.unusedSimpArgs false
set_option linter.unusedVariables false
namespace Go.Proofs
open Go.RowKit
attribute [local go_sem] Oper.semAt_some
set_option maxHeartbeats 4000000 in
set_option maxRecDepth 100000 in
theorem right79_v (a b c d tm dc N cp : Nat) (C : Option Addr) (cs : List Nat) (w : World) (hF : Full a b c d) (hN : Hid (N = cs.length)) (hN52 : N ≤ 52) (hcp : N ≤ cp) (htm : tm ≤ 4) (hdc : dc ≤ 3)
    (hh : Held tm (start a b c d ((dc + 1) % 4)) cs) (hcs : RdS w C cs) :
    Calls Try.prog 29 #[recV a b c d tm dc (.slice C N cp)] w fun e w' => e = .returned (.tuple #[.int .i64 (-1), .int .i64 0]) ∧ RowKit.Below w.heap.size w w' := by
  haveI := hF.ma; haveI := hF.mb; haveI := hF.mc; haveI := hF.md
  have hs : Inv (start a b c d ((dc + 1) % 4)) 0 := Inv.start hF (by omega)
  have hdl := fun W => dealt_v a b c d tm dc C N cp W hF htm hdc
  have hrn := fun W => rounds_v a b c d tm dc C N cp W
  simp only [recV] at hdl hrn ⊢
  have HD := Lib.hid hdl; have HRN := Lib.hid hrn; have HS := Lib.hid hs; have HH := Lib.hid hh; have HCS := Lib.hid hcs
  clear hdl hrn hs hh hcs hF
  refine (callsIn_wide (n := 3)).1 ?_
  refine callsIn_of_wp_marks Try.func29 rfl trivial ?_ rfl
  simp only [Try.ntmps29, List.size_toArray, List.length_cons, List.length_nil, Nat.reduceAdd, Nat.reduceSub, Array.replicate_succ, Array.replicate_zero, List.push_toArray, List.append_toArray, List.nil_append, List.cons_append]
  gi_wp2_with (first | (gi_at_call 65; refine (callsIn_wide.2 (HD.out _)).mono ?_; rintro e w' ⟨rfl, hb⟩; obtain ⟨l, d1, rfl⟩ := hb.gar; clear hb) | (gi_at_call 66; refine (callsIn_wide.2 (HRN.out _)).mono ?_; rintro e w' ⟨rfl, rfl⟩))
  refine wpIn_range' rfl (fun _ => trivial) rfl (gf := 97) (cap := #[.pointer (some ⟨w.heap.size + 1 + l.length + 1, 0, none⟩)]) rfl (fun args w => Try.call97 args w) ?_
  intro fn asg body hasg hbody
  simp only [World.size_alloc, World.size_gar, Nat.reduceSub]
  obtain ⟨I, hI⟩ : ∃ I : Nat → World → Prop, I = (fun (k : Nat) (wr : World) => ∃ (t6 t12 t13 t14 t15 t16 t17 t18 : Value) (l2 : List Obj) (d2 : Nat), wr = ((((((w.alloc (.cells #[.int .u64 a, .int .u64 b, .int .u64 c, .int .u64 d, .int .u8 tm, .int .u8 dc, .slice C N cp] 79)).gar l d1).alloc (.cells #[.int .i64 (min (4 * k) N : Nat)] 3)).alloc (.cells #[.int .u64 a, .int .u64 b, .int .u64 c, .int .u64 d, .int .u8 tm, .int .u8 dc, .slice C N cp] 79)).alloc (.deferred (some []))).alloc (loopRec .ready none fn #[.agg #[.int .u64 a, .int .u64 b, .int .u64 c, .int .u64 d, .int .u8 tm, .int .u8 dc, .slice C N cp], .pointer (some ⟨w.heap.size, 0, none⟩), .int .i64 0, .int .i64 0, .pointer (some ⟨w.heap.size + 1 + l.length, 0, none⟩), undef, t6, .agg #[.int .u64 a, .int .u64 b, .int .u64 c, .int .u64 d, .int .u8 tm, .int .u8 dc, .slice C N cp], .bool true, .bool false, .agg #[.int .u64 a, .int .u64 b, .int .u64 c, .int .u64 d, .int .u8 tm, .int .u8 dc, .slice C N cp], .func (.func 97) #[] #[.pointer (some ⟨w.heap.size + 1 + l.length + 1, 0, none⟩)], t12, t13, t14, t15, t16, t17, t18, undef, undef, undef, undef, undef, undef] #[12, 13] asg body (w.heap.size + 1 + l.length + 1 + 1))).gar l2 d2) := ⟨_, rfl⟩
  have HI := Lib.hid hI
  clear hI
  refine CallsIn.mono (rounds_in I (w.heap.size + 1 + l.length + 1 + 1 + 1) _ (w.heap.size + 1 + l.length + 1) N cp tm dc a b c d C cs _ hN.out (by omega) hcp htm hdc HS.out HH.out ?hrec ?hcs ?hY ?h0) ?post
  case hrec => simp only [World.heap_alloc_past, World.heap_alloc_at, World.size_alloc, World.size_gar, lt_of_ltC]
  case hcs =>
    refine HCS.out.below ?_
    simp only [World.alloc_gar, World.gar_gar]; exact RowKit.Below.of_gar _ _ _
  case h0 =>
    rw [HI.out]
    exact ⟨undef, undef, undef, undef, undef, undef, undef, undef, [], _, World.gar_nil.symm⟩
  case hY =>
    intro k m cap A xs w0 W hk hxs hm hcap hrd hA hI hO hsz
    rw [HI.out] at hI
    obtain ⟨t6, t12, t13, t14, t15, t16, t17, t18, l2, d2, rfl⟩ := hI
    simp only [World.size_alloc, World.size_gar] at hO hA hsz
    obtain ⟨l3, d3, rfl⟩ := RowKit.Below.gar' (X := (((((w.alloc (.cells #[.int .u64 a, .int .u64 b, .int .u64 c, .int .u64 d, .int .u8 tm, .int .u8 dc, .slice C N cp] 79)).gar l d1).alloc (.cells #[.int .i64 (min (4 * k) N : Nat)] 3)).alloc (.cells #[.int .u64 a, .int .u64 b, .int .u64 c, .int .u64 d, .int .u8 tm, .int .u8 dc, .slice C N cp] 79)).alloc (.deferred (some []))).alloc (loopRec .ready none fn #[.agg #[.int .u64 a, .int .u64 b, .int .u64 c, .int .u64 d, .int .u8 tm, .int .u8 dc, .slice C N cp], .pointer (some ⟨w.heap.size, 0, none⟩), .int .i64 0, .int .i64 0, .pointer (some ⟨w.heap.size + 1 + l.length, 0, none⟩), undef, t6, .agg #[.int .u64 a, .int .u64 b, .int .u64 c, .int .u64 d, .int .u8 tm, .int .u8 dc, .slice C N cp], .bool true, .bool false, .agg #[.int .u64 a, .int .u64 b, .int .u64 c, .int .u64 d, .int .u8 tm, .int .u8 dc, .slice C N cp], .func (.func 97) #[] #[.pointer (some ⟨w.heap.size + 1 + l.length + 1, 0, none⟩)], t12, t13, t14, t15, t16, t17, t18, undef, undef, undef, undef, undef, undef] #[12, 13] asg body (w.heap.size + 1 + l.length + 1 + 1))) (l := l2) (d := d2) (w' := W) ⟨hO.os, hO.tape, hO.output, hO.size, fun q hq => hO.block q (by simp at hq ⊢; omega) (by simp at hq; omega) (by simp at hq; omega)⟩
    simp only [World.size_gar, World.size_alloc] at hsz
    subst hasg hbody
    refine yield_at (by rw [World.heap_gar_past (by simp)]; exact World.heap_alloc_at _ _ _ (by simp)) rfl ?_
    simp only [List.zip_toArray, List.zip_cons_cons, List.zip_nil_left, List.foldl_toArray', List.foldl_cons, List.foldl_nil, List.setIfInBounds_toArray, List.set_cons_succ, List.set_cons_zero, List.size_toArray, List.length_cons, List.length_nil]
    have hm4 : m ≤ 4 := by rw [hm, hxs]; exact List.length_take_le _ _
    have hN52' := hN52
    have hkN : 4 * k < N := by rw [hN.out]; exact hk
    have hmN : min (4 * (k + 1)) N = 4 * k + m := by
      rw [hm, hxs, List.length_take, List.length_drop, ← hN.out]; omega
    have hmk : min (4 * k) N = 4 * k := by omega
    rw [hmk]
    have HMN := Lib.hid hmN
    clear hO hxs hm hk hmN hmk
    simp only [rndV]
    generalize runP tm (start a b c d ((dc + 1) % 4)) (cs.take (4 * k)) = S at *
    gi_wp2
    refine ⟨_, begin_at (by rw [World.heap_alloc_past _ _ _ (by simp only [World.size_gar, World.size_alloc]; omega), World.heap_gar_past (by simp)]; exact World.heap_alloc_at _ _ _ (by simp)), ?_⟩
    rw [World.putObj_alloc_past _ _ _ _ (by simp only [World.size_gar, World.size_alloc]; omega), World.putObj_gar_past _ _ _ _ _ (by simp), World.putObj_alloc_at _ _ _ _ (by simp)]
    gi_wp2
    refine ⟨_, _, end_at (by rw [World.heap_alloc_past _ _ _ (by simp only [World.size_gar, World.size_alloc]; omega), World.heap_gar_past (by simp)]; exact World.heap_alloc_at _ _ _ (by simp)), rfl, ?_⟩
    rw [World.putObj_alloc_past _ _ _ _ (by simp only [World.size_gar, World.size_alloc]; omega), World.putObj_gar_past _ _ _ _ _ (by simp), World.putObj_alloc_at _ _ _ _ (by simp)]
    rw [HI.out]
    refine ⟨?_, ?_, ?_⟩
    · have e : ((min (4 * (k + 1)) N : Nat) : Int) = 4 * (k : Int) + m := by have := HMN.out; omega
      dsimp only
      rw [e]
      exact ⟨_, _, _, _, _, _, _, _, _, _, World.gar_alloc _⟩
    · simp only [World.size_gar, World.size_alloc]; omega
    · intro g hg
      have hne : cs ≠ [] := by rintro rfl; have := hN.out; simp at this; omega
      by_cases hgb : w.heap.size + 1 + l.length + 1 + 1 + 1 + 1 ≤ g
      · refine (congrArg (fun W : World => W.heap[g]?) (World.gar_alloc _)).trans (gar_keep (by simp) _ _ _ _ _ (by simp only [World.size_gar, World.size_alloc]; omega) ?_)
        simp only [World.size_gar, World.size_alloc]
        rcases hg with rfl | rfl | rfl | ⟨o, h⟩ | ⟨o, h⟩
        · omega
        · simp only [World.size_gar, World.size_alloc]; omega
        · simp only [World.size_gar, World.size_alloc]; omega
        · have := HCS.out.lt hne h; omega
        · have := (hA g o h).2.2; simp only [World.size_gar, World.size_alloc] at this; omega
      · rcases hg with rfl | rfl | rfl | ⟨o, h⟩ | ⟨o, h⟩
        · simp only [World.heap_alloc_past, World.heap_gar_past', World.heap_alloc_at, World.size_alloc, World.size_gar, lt_of_ltC]
        · simp only [World.size_gar, World.size_alloc] at hgb; omega
        · simp only [World.size_gar, World.size_alloc] at hgb; omega
        · have hgl := HCS.out.lt hne h
          haveI : LtC g w.heap.size := ⟨hgl⟩
          simp only [World.heap_alloc_past, World.heap_gar_past', World.heap_alloc_at, World.size_alloc, World.size_gar, lt_of_ltC]
        · have := (hA g o h).2.1; omega
  case post =>
    rintro e wr ⟨⟨ev, rfl⟩, w0, hI, hO⟩
    rw [HI.out] at hI
    obtain ⟨t6, t12, t13, t14, t15, t16, t17, t18, l2, d2, rfl⟩ := hI
    simp only [World.size_alloc, World.size_gar] at hO
    have hm : min (4 * ((N + 3) / 4)) N = N := by omega
    rw [hm] at hO
    obtain ⟨l3, d3, rfl⟩ := RowKit.Below.gar' (X := (((((w.alloc (.cells #[.int .u64 a, .int .u64 b, .int .u64 c, .int .u64 d, .int .u8 tm, .int .u8 dc, .slice C N cp] 79)).gar l d1).alloc (.cells #[.int .i64 (N : Nat)] 3)).alloc (.cells #[.int .u64 a, .int .u64 b, .int .u64 c, .int .u64 d, .int .u8 tm, .int .u8 dc, .slice C N cp] 79)).alloc (.deferred (some []))).alloc (loopRec .ready none fn #[.agg #[.int .u64 a, .int .u64 b, .int .u64 c, .int .u64 d, .int .u8 tm, .int .u8 dc, .slice C N cp], .pointer (some ⟨w.heap.size, 0, none⟩), .int .i64 0, .int .i64 0, .pointer (some ⟨w.heap.size + 1 + l.length, 0, none⟩), undef, t6, .agg #[.int .u64 a, .int .u64 b, .int .u64 c, .int .u64 d, .int .u8 tm, .int .u8 dc, .slice C N cp], .bool true, .bool false, .agg #[.int .u64 a, .int .u64 b, .int .u64 c, .int .u64 d, .int .u8 tm, .int .u8 dc, .slice C N cp], .func (.func 97) #[] #[.pointer (some ⟨w.heap.size + 1 + l.length + 1, 0, none⟩)], t12, t13, t14, t15, t16, t17, t18, undef, undef, undef, undef, undef, undef] #[12, 13] asg body (w.heap.size + 1 + l.length + 1 + 1))) (l := l2) (d := d2) (w' := wr) ⟨hO.os, hO.tape, hO.output, hO.size, fun q hq => hO.block q (by simp at hq ⊢; omega) (by simp at hq; omega) (by simp at hq; omega)⟩
    subst hasg hbody
    clear hO
    refine ⟨_, _, done_at (by rw [World.heap_gar_past (by simp)]; exact World.heap_alloc_at _ _ _ (by simp)) (by decide), ?_⟩
    rw [World.putObj_gar_past _ _ _ _ _ (by simp), World.putObj_alloc_at _ _ _ _ (by simp)]
    generalize loopRec .exhausted _ _ _ _ _ _ _ = O
    show Exit.inBlock 0 _ Exit.normal _ _
    gi_wp2
    refine ⟨by simp, .inl ⟨_, _, rfl, run_takeDeferred (by rw [World.heap_gar_past (by simp), World.heap_alloc_past _ _ _ (by simp)]; exact World.heap_alloc_at _ _ _ (by simp)), ?_⟩⟩
    rw [World.putObj_gar_past _ _ _ _ _ (by simp), World.putObj_alloc_past _ _ _ _ (by simp), World.putObj_alloc_at _ _ _ _ (by simp)]
    refine ⟨.tuple #[.int .i64 (-1), .int .i64 0], ?_, rfl, ?_⟩
    · simp [results, Try.results29, go_sem]
    · simp only [World.alloc_gar, World.gar_gar, World.gar_drewN, World.gar_drew]; exact RowKit.Below.of_gar _ _ _
end Go.Proofs

/- append as an opaque operation, for regions that draw inside a fence. -/
namespace Go
/-- Builtin.append_ behind a name that the walk does not open. -/
def App (ats : Array TypeId) (ty : TypeId) (args : Array Value) : Sem Value := Builtin.append_ ats ty args
theorem builtin_app (ats : Array TypeId) (ty : TypeId) (cs : Array Bool) (args : Array Value) : builtin .append ats ty cs args = (do pure (.value (← App ats ty args))) := rfl
attribute [irreducible] App
theorem wpIn_eq {F : Fence} {n : Nat} {P : Program} {c c' : Code} {Q : Exit → Act → World → Prop} {a : Act} {w : World} (h : c = c') : Code.wpIn F n P c Q a w = Code.wpIn F n P c' Q a w := by rw [h]
end Go
namespace Go.Proofs
open Go.RowKit
theorem gar_keep0 {B B' : World} (hs : B'.heap.size = B.heap.size) (l : List Obj) (d d' g : Nat) (h1 : B.heap.size ≤ g) : (B'.gar l d').heap[g]? = (B.gar l d).heap[g]? := by
  obtain ⟨n, rfl⟩ : ∃ n, g = B.heap.size + n := ⟨g - B.heap.size, by omega⟩
  rw [World.heap_gar_at, ← hs, World.heap_gar_at]
theorem app_own {X : World} {base n : Nat} {v : Value} {ys : List Nat} (h : X.ownsRow base 5 1 v n (u8s ys)) (l : List Obj) (d q : Nat) (hn : n ≤ 60) (hb : base ≤ X.heap.size) :
    ∃ v2 w2, (App #[22, 22] 22 #[v, .slice (some ⟨X.heap.size + l.length, 0, none⟩) 1 1]).run Try.prog ((X.gar l d).alloc (.cells #[.int .u8 q] 5)) = .ok v2 w2 ∧ w2.ownsRow base 5 1 v2 (n + 1) (u8s (ys ++ [q])) ∧ ((X.gar l d).alloc (.cells #[.int .u8 q] 5)).grownBy w2 v.ownBlock ∧ X.heap.size ≤ w2.heap.size ∧ (∀ g, g < X.heap.size → v.ownBlock ≠ some g → w2.heap[g]? = X.heap[g]?) := by
  obtain ⟨i5, hj, hk0, hk1, hk2⟩ := info_parts Try.info5
  obtain ⟨v2, w2, hr, h1, h2, _⟩ := run_append_own (P := Try.prog) ((X.gar l d).alloc (.cells #[.int .u8 (q : Int)] 5)) base 22 22 5 i5 _ 1 1 Try.underlying22 hj hk0 hk1 hk2 rfl (by decide) v n (u8s ys) ((h.gar l d).alloc _) ⟨X.heap.size + l.length, 0, none⟩ 1 1 [.int .u8 (q : Int)] rfl
    (cells_new _ [.int .u8 (q : Int)] 5 _ (by simp)) (by intro u hu; simp only [List.mem_cons, List.not_mem_nil, or_false] at hu; rcases hu with rfl; rfl) (by unfold maxLen; omega) (by omega) (by simp; omega)
  rw [u8s_snoc] at h1
  refine ⟨v2, w2, by unfold App; exact hr, h1, h2, by have := h2.size; simp at this; omega, fun g hg hne => ?_⟩
  rw [h2.block g (by simp; omega) (fun e => hne e.symm), World.heap_alloc_past _ _ _ (by simp; omega), World.heap_gar_past hg]
end Go.Proofs
