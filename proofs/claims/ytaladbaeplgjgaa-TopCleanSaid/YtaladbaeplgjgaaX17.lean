/- slices.Clone of bytes; play.none, Legal -/
import Derived.Test.YtaladbaeplgjgaaX16
import Derived.Lib.SliceRun
import Derived.Deep.AppendLies
import Derived.Deep.RegionLaw
set_option linter.unusedSimpArgs false
set_option linter.unusedVariables false
namespace Go.Proofs
open Go.RowKit
def u8s (xs : List Nat) : List Value := xs.map (fun c : Nat => Value.int .u8 (c : Int))
theorem u8s_len (xs : List Nat) : (u8s xs).length = xs.length := by unfold u8s; simp
theorem u8s_snoc (xs : List Nat) (c : Nat) : u8s xs ++ [.int .u8 (c : Int)] = u8s (xs ++ [c]) := by unfold u8s; simp
@[go_sem] theorem Try.eqNil22 (w : World) (A : Option Addr) (n c : Nat) : (binOp .eql 22 (.slice A n c) (.slice none 0 0)).run Try.prog w = .ok (.bool A.isNone) w := Lib.run_eql_slice_nil (P := Try.prog) w 22 5 A n c 0 0 Try.underlying22
theorem clone_nil (w : World) : Calls Try.prog 107 #[.slice none 0 0] w fun e w' => e = .returned (.slice none 0 0) ∧ w = w' := by
  go_enter Try.func107, Try.ntmps107
  go_wp2
  go_ret
  exact ⟨rfl, rfl⟩
set_option maxHeartbeats 1000000 in
set_option maxRecDepth 100000 in
theorem clone_v (g o cap : Nat) (xs : List Nat) (w : World) (hl : xs.length ≤ 1000) (h : ∀ j x : Nat, xs[j]? = some x → w.cell? ⟨g, o + j, none⟩ = some (.int .u8 (x : Int))) :
    Calls Try.prog 107 #[.slice (some ⟨g, o, none⟩) xs.length cap] w fun e w' => ∃ v l d, e = .returned v ∧ w' = w.gar l d ∧ w'.ownsRow w.heap.size 5 1 v xs.length (u8s xs) := by
  obtain ⟨i0, hi, hz0, hz1, hz2⟩ := info_parts Try.info5
  have H := Lib.hid h
  clear h
  obtain ⟨n, hn⟩ : ∃ n, n = xs.length := ⟨_, rfl⟩
  rw [← hn] at hl ⊢
  have HN := Lib.hid hn
  clear hn
  go_enter Try.func107, Try.ntmps107
  have hcell : ∀ (W : World), RowKit.Below w.heap.size w W → ∀ j u, (u8s xs)[j]? = some u → W.cell? ((⟨g, o, none⟩ : Addr).add j) = some u := by
    intro W hb j u hu
    unfold u8s at hu
    rw [List.getElem?_map] at hu
    cases hx : xs[j]? with
    | none => rw [hx] at hu; cases hu
    | some x =>
      rw [hx] at hu
      have hc := H.out j x hx
      have hadd : (⟨g, o, none⟩ : Addr).add j = ⟨g, o + j, none⟩ := by unfold Addr.add; split <;> simp_all
      rw [hadd, hb.cell (p := ⟨g, o + j, none⟩) (cell_lt hc), hc]
      simpa using hu
  have HC := Lib.hid hcell
  clear hcell
  have h0 : (w.alloc (.cells #[] 5)).ownsRow w.heap.size 5 1 (.slice (some ⟨w.heap.size, 0, none⟩) 0 0) 0 [] := ⟨rfl, .inr ⟨_, 0, #[], rfl, Nat.le_refl _, World.heap_alloc_at _ _ _ rfl, Nat.le_refl _, by unfold maxLen; omega, rfl, rfl⟩⟩
  have H0 := Lib.hid h0
  clear h0
  have HL : Hid ((u8s xs).length = n * 1) := Lib.hid (by rw [u8s_len, HN.out]; omega)
  go_wp2_with (at_builtin; refine wpList_append_own _ rfl (.tmp 5) (.tmp 6) 22 rfl w.heap.size 5 i0 _ 1 1 Try.underlying22 hi hz0 hz1 hz2 rfl (by decide) _ 0 [] rfl H0.out ⟨g, o, none⟩ n cap (u8s xs) rfl HL.out ?c1 ?c2 ?c3 ?c4 ?c5 ?_)
  case c1 => exact HC.out _ (by simp only [World.alloc_gar]; exact RowKit.Below.of_gar _ _ _)
  case c2 => intro u hu; unfold u8s at hu; obtain ⟨x, _, rfl⟩ := List.mem_map.1 hu; rfl
  case c3 => unfold maxLen; omega
  case c4 => omega
  case c5 => simp
  intro v2 w1 hn1 hg1 _
  have hb1 := below_grown hg1 (B := w.heap.size) (by simp) (fun q hq => by simp [Value.ownBlock] at hq; omega)
  obtain ⟨l4, d4, rfl⟩ := gar_of (l := []) (d := w.drawn) rfl (by rw [World.gar_nil]; exact hb1)
  clear hg1 hb1
  go_wp2
  go_ret
  exact ⟨v2, l4, d4, rfl, rfl, hn1⟩
end Go.Proofs

/- play: none, Legal, Tricks, Result -/
namespace Go.Proofs
open Go.RowKit
/-- The cells of a block. -/
theorem cell_blk {w : World} {g j : Nat} {cs : Array Value} {T : TypeId} {v : Value} (h : w.heap[g]? = some (.cells cs T (0, 0))) (hj : cs[j]? = some v) : w.cell? ⟨g, j, none⟩ = some v := by
  rw [World.cell?, h]; exact hj
theorem frozen_blk {w : World} {g j : Nat} {cs : Array Value} {T : TypeId} (h : w.heap[g]? = some (.cells cs T (0, 0))) : w.frozen? ⟨g, j, none⟩ = false := by
  rw [World.frozen?, h]; simp
theorem lt_blk {w : World} {g : Nat} {o : Obj} (h : w.heap[g]? = some o) : g < w.heap.size := (Array.getElem?_eq_some_iff.1 h).1
theorem none_v (bp : Nat) (w : World) (h : w.cell? ⟨bp, 14, none⟩ = some (.bool true)) :
    Calls Try.prog 64 #[.pointer (some ⟨bp, 0, none⟩)] w fun e w' => e = .returned (.bool false) ∧ w = w' := by
  go_enter Try.func64, Try.ntmps64
  go_wp2
  go_ret
  exact ⟨rfl, rfl⟩
set_option maxHeartbeats 1000000 in
set_option maxRecDepth 100000 in
theorem Legal_v (bp a b c d w0 w1 ld lv dn rk dc : Nat) (A : Option Addr) (n cap : Nat) (xs : List Nat) (dv uv : Value) (w : World) [Msk a] [Msk b] [Msk c] [Msk d]
    (hblk : w.heap[bp]? = some (.cells (playC a b c d w0 w1 ld (.slice A n cap) lv dn rk dc dv uv) 134 (0, 0))) (hz : ¬ (a = 0 ∧ b = 0 ∧ c = 0 ∧ d = 0))
    (hld : ld ≤ 3) (hn : Hid (n = xs.length)) (hcap : n ≤ cap) (hu : Under xs) (hr : RdS w A xs) :
    Calls Try.prog 62 #[.pointer (some ⟨bp, 0, none⟩)] w fun e w' => e = .returned (.int .u64 (playable (hsel a b c d ((ld + n) % 4)) xs : Nat)) ∧ RowKit.Below w.heap.size w w' := by
  have hlt := lt_blk hblk
  haveI : LtC bp w.heap.size := ⟨hlt⟩
  have hx0 : w.cell? ⟨bp, 0, none⟩ = some (.int .u64 a) := cell_blk hblk rfl
  have hx1 : w.cell? ⟨bp, 1, none⟩ = some (.int .u64 b) := cell_blk hblk rfl
  have hx2 : w.cell? ⟨bp, 2, none⟩ = some (.int .u64 c) := cell_blk hblk rfl
  have hx3 : w.cell? ⟨bp, 3, none⟩ = some (.int .u64 d) := cell_blk hblk rfl
  have hx4 : w.cell? ⟨bp, 4, none⟩ = some (.int .i64 w0) := cell_blk hblk rfl
  have hx5 : w.cell? ⟨bp, 5, none⟩ = some (.int .i64 w1) := cell_blk hblk rfl
  have hx6 : w.cell? ⟨bp, 6, none⟩ = some (.int .u8 ld) := cell_blk hblk rfl
  have hx7 : w.cell? ⟨bp, 7, none⟩ = some (.slice A n cap) := cell_blk hblk rfl
  have hx14 : w.cell? ⟨bp, 14, none⟩ = some (.bool true) := cell_blk hblk rfl
  have hov := fun W => over_no a b c d w0 w1 ld (.slice A n cap) W hz
  have hlg := fun W (hr : RdS W A xs) => legal_v a b c d w0 w1 ld A n cap xs W hld hn hcap hu hr
  have hS : ∀ l d, RdS (w.gar l d) A xs := fun l d => hr.below (RowKit.Below.of_gar _ _ _)
  simp only [stV] at hov hlg
  obtain ⟨p, hp⟩ : ∃ p, p = playable (hsel a b c d ((ld + n) % 4)) xs := ⟨_, rfl⟩
  rw [← hp] at hlg ⊢
  have HO := Lib.hid hov; have HL := Lib.hid hlg; have HS := Lib.hid hS
  clear hblk hz hu hr hov hlg hS hp hlt
  go_enter Try.func62, Try.ntmps62
  go_wp2_with fail
  refine (none_v bp _ hx14).mono ?_
  rintro e w' ⟨rfl, rfl⟩
  go_wp2_with fail
  refine (HO.out _).mono ?_
  rintro e w' ⟨rfl, hb⟩
  obtain ⟨l4, d5, rfl⟩ := hb.gar
  clear hb
  go_wp2_with fail
  refine (HL.out _ (HS.out _ _)).mono ?_
  rintro e w' ⟨rfl, hb⟩
  obtain ⟨l6, d6, rfl⟩ := hb.gar
  clear hb
  go_wp2_with fail
  go_ret
  exact ⟨rfl, RowKit.Below.of_gar _ _ _⟩
end Go.Proofs

/- play.put: laws on the world -/
namespace Go
open Go.RowKit
theorem World.heap_set_at {w : World} {g j : Nat} {cs : Array Value} {T : TypeId} {fr : Nat × Nat} {v : Value} (h : w.heap[g]? = some (.cells cs T fr)) : (w.setCell ⟨g, j, none⟩ v).heap[g]? = some (.cells (cs.setIfInBounds j v) T fr) := by
  simp only [World.setCell, Array.getElem?_modify, if_true, h]; rfl
theorem World.heap_set_ne {w : World} {g j k : Nat} {v : Value} (h : g ≠ k) : (w.setCell ⟨g, j, none⟩ v).heap[k]? = w.heap[k]? := by
  simp only [World.setCell, Array.getElem?_modify]
  rw [if_neg h]
theorem World.ownsRow.set {w : World} {base : Nat} {e : TypeId} {size : Nat} {v : Value} {n : Nat} {xs : List Value} (h : w.ownsRow base e size v n xs) {b j : Nat} {u : Value} (hb : b < base) : (w.setCell ⟨b, j, none⟩ u).ownsRow base e size v n xs := by
  refine ⟨h.1, ?_⟩
  rcases h.2 with h2 | ⟨g, cap, cur, h1, h2, h3, h4⟩
  · exact .inl h2
  · exact .inr ⟨g, cap, cur, h1, h2, by rw [World.heap_set_ne (by omega)]; exact h3, h4⟩
theorem World.ownsRow.below {w w' : World} {base : Nat} {e : TypeId} {size : Nat} {v : Value} {n : Nat} {xs : List Value} (h : w.ownsRow base e size v n xs) (hb : Below w.heap.size w w') : w'.ownsRow base e size v n xs := by
  refine ⟨h.1, ?_⟩
  rcases h.2 with h2 | ⟨g, cap, cur, h1, h2, h3, h4⟩
  · exact .inl h2
  · exact .inr ⟨g, cap, cur, h1, h2, by rw [hb.block g ((Array.getElem?_eq_some_iff.1 h3).1)]; exact h3, h4⟩
theorem RowKit.Below.blk {w w' : World} {g : Nat} {o : Obj} (hb : Below w.heap.size w w') (h : w.heap[g]? = some o) : w'.heap[g]? = some o := by
  rw [hb.block g ((Array.getElem?_eq_some_iff.1 h).1)]; exact h
namespace Proofs
theorem RdS.block {w w' : World} {A : Option Addr} {xs : List Nat} (h : RdS w A xs) (hb : ∀ g o, A = some ⟨g, o, none⟩ → w'.heap[g]? = w.heap[g]?) : RdS w' A xs := by
  rcases h with h | ⟨g, o, hA, hc⟩
  · exact .inl h
  · exact .inr ⟨g, o, hA, fun j x hx => by rw [World.cell?, hb g o hA]; exact hc j x hx⟩
theorem RdS.lt {w : World} {A : Option Addr} {xs : List Nat} (h : RdS w A xs) (hne : xs ≠ []) {g o : Nat} (hA : A = some ⟨g, o, none⟩) : g < w.heap.size := by
  rcases h with h | ⟨g', o', hA', hc⟩
  · exact (hne h).elim
  · rw [hA] at hA'
    obtain ⟨rfl, rfl⟩ : g = g' ∧ o = o' := by simpa using hA'
    cases hx : xs[0]? with
    | none => rw [List.getElem?_eq_none_iff] at hx; exact (hne (List.eq_nil_of_length_eq_zero (by omega))).elim
    | some x => exact cell_lt (hc 0 x hx)
theorem put_A {w wy : World} {bp g cp N : Nat} {A : Option Addr} {xs : List Nat} {o : Obj} {dv v2 : Value} {cs : Array Value} {ys : List Value}
    (hblk : w.heap[bp]? = some (.cells cs 134 (0, 0))) (hr : RdS w A xs) (hal : ∀ g o, A = some ⟨g, o, none⟩ → bp < g ∧ dv.ownBlock ≠ some g) (hnil : xs = [] → A = none)
    (hg1 : (w.alloc o).drew.grownBy wy dv.ownBlock) (hn1 : wy.ownsRow (bp + 1) 139 9 (.slice (some ⟨g, 0, none⟩) (N + 1) cp) (N + 1) ys) (hat : dv.ownBlock = some g ∨ g = w.heap.size + 1) (hrow : ∀ q, dv.ownBlock = some q → bp + 1 ≤ q) :
    (wy.setCell ⟨bp, 12, none⟩ v2).heap[bp]? = some (.cells (cs.setIfInBounds 12 v2) 134 (0, 0)) ∧ (wy.setCell ⟨bp, 12, none⟩ v2).ownsRow (bp + 1) 139 9 (.slice (some ⟨g, 0, none⟩) (N + 1) cp) (N + 1) ys ∧ RdS (wy.setCell ⟨bp, 12, none⟩ v2) A xs ∧ (∀ o, A ≠ some ⟨g, o, none⟩) ∧ RowKit.Below bp w (wy.setCell ⟨bp, 12, none⟩ v2) := by
  have hlt := lt_blk hblk
  have hb : ∀ k, k < w.heap.size → some k ≠ dv.ownBlock → wy.heap[k]? = w.heap[k]? := fun k hk hne => by
    rw [hg1.block k (by simp; omega) hne, World.heap_drew]
    exact World.heap_alloc_past _ _ _ hk
  have hbp : wy.heap[bp]? = some (.cells cs 134 (0, 0)) := by
    rw [hb bp hlt (fun e => by have := hrow bp e.symm; omega)]; exact hblk
  refine ⟨World.heap_set_at hbp, hn1.set (by omega), ?_, ?_, ?_⟩
  · refine hr.block fun g' o' hA => ?_
    have h1 := hal g' o' hA
    rw [World.heap_set_ne (by omega)]
    by_cases hx : xs = []
    · rw [hnil hx] at hA; cases hA
    · exact hb g' (hr.lt hx hA) (fun e => h1.2 e.symm)
  · intro o' hA
    rcases hat with h | h
    · exact (hal g o' hA).2 h
    · by_cases hx : xs = []
      · rw [hnil hx] at hA; cases hA
      · have := hr.lt hx hA; omega
  · refine ⟨?_, ?_, ?_, ?_, ?_⟩
    · exact hg1.os
    · exact hg1.tape
    · exact hg1.output
    · have := hg1.size
      simp [World.setCell] at this ⊢; omega
    · intro k hk
      rw [World.heap_set_ne (by omega)]
      exact hb k (by omega) (fun e => by have := hrow k e.symm; omega)
/-- Eight cells stored. -/
def set8 (w : World) (b : Nat) (v0 v1 v2 v3 v4 v5 v6 v7 : Value) : World := (((((((w.setCell ⟨b, 0, none⟩ v0).setCell ⟨b, 1, none⟩ v1).setCell ⟨b, 2, none⟩ v2).setCell ⟨b, 3, none⟩ v3).setCell ⟨b, 4, none⟩ v4).setCell ⟨b, 5, none⟩ v5).setCell ⟨b, 6, none⟩ v6).setCell ⟨b, 7, none⟩ v7
theorem set8_at {w : World} {b : Nat} {v0 v1 v2 v3 v4 v5 v6 v7 o0 o1 o2 o3 o4 o5 o6 o7 : Value} {r : List Value} {T : TypeId} (h : w.heap[b]? = some (.cells (o0 :: o1 :: o2 :: o3 :: o4 :: o5 :: o6 :: o7 :: r).toArray T (0, 0))) :
    (set8 w b v0 v1 v2 v3 v4 v5 v6 v7).heap[b]? = some (.cells (v0 :: v1 :: v2 :: v3 :: v4 :: v5 :: v6 :: v7 :: r).toArray T (0, 0)) := by
  have h0 := World.heap_set_at (j := 0) (v := v0) h
  have h1 := World.heap_set_at (j := 1) (v := v1) h0
  have h2 := World.heap_set_at (j := 2) (v := v2) h1
  have h3 := World.heap_set_at (j := 3) (v := v3) h2
  have h4 := World.heap_set_at (j := 4) (v := v4) h3
  have h5 := World.heap_set_at (j := 5) (v := v5) h4
  have h6 := World.heap_set_at (j := 6) (v := v6) h5
  have h7 := World.heap_set_at (j := 7) (v := v7) h6
  unfold set8
  rw [h7]
  simp
theorem set8_ne {w : World} {b k : Nat} {v0 v1 v2 v3 v4 v5 v6 v7 : Value} (h : b ≠ k) : (set8 w b v0 v1 v2 v3 v4 v5 v6 v7).heap[k]? = w.heap[k]? := by
  unfold set8
  rw [World.heap_set_ne h, World.heap_set_ne h, World.heap_set_ne h, World.heap_set_ne h, World.heap_set_ne h, World.heap_set_ne h, World.heap_set_ne h, World.heap_set_ne h]
theorem set8_below {w X : World} {b : Nat} {v0 v1 v2 v3 v4 v5 v6 v7 : Value} (h : RowKit.Below b w X) : RowKit.Below b w (set8 X b v0 v1 v2 v3 v4 v5 v6 v7) := by
  have hs : ∀ (W : World) (p : Addr) (u : Value), (W.setCell p u).heap.size = W.heap.size := fun W p u => by simp [World.setCell]
  have ho : ∀ (W : World) (p : Addr) (u : Value), (W.setCell p u).os = W.os := fun W p u => rfl
  have ht : ∀ (W : World) (p : Addr) (u : Value), (W.setCell p u).tape = W.tape := fun W p u => rfl
  have hu : ∀ (W : World) (p : Addr) (u : Value), (W.setCell p u).output = W.output := fun W p u => rfl
  refine ⟨?_, ?_, ?_, ?_, ?_⟩
  · unfold set8
    rw [ho, ho, ho, ho, ho, ho, ho, ho]; exact h.os
  · unfold set8
    rw [ht, ht, ht, ht, ht, ht, ht, ht]; exact h.tape
  · unfold set8
    rw [hu, hu, hu, hu, hu, hu, hu, hu]; exact h.output
  · have := h.size
    unfold set8
    rw [hs, hs, hs, hs, hs, hs, hs, hs]; exact this
  · intro k hk
    rw [set8_ne (by omega)]; exact h.block k hk
theorem set8_own {w : World} {b : Nat} {v0 v1 v2 v3 v4 v5 v6 v7 : Value} {base : Nat} {e : TypeId} {size : Nat} {v : Value} {n : Nat} {xs : List Value} (h : w.ownsRow base e size v n xs) (hb : b < base) :
    (set8 w b v0 v1 v2 v3 v4 v5 v6 v7).ownsRow base e size v n xs := by
  have h0 := World.ownsRow.set (j := 0) (u := v0) h hb
  have h1 := World.ownsRow.set (j := 1) (u := v1) h0 hb
  have h2 := World.ownsRow.set (j := 2) (u := v2) h1 hb
  have h3 := World.ownsRow.set (j := 3) (u := v3) h2 hb
  have h4 := World.ownsRow.set (j := 4) (u := v4) h3 hb
  have h5 := World.ownsRow.set (j := 5) (u := v5) h4 hb
  have h6 := World.ownsRow.set (j := 6) (u := v6) h5 hb
  have h7 := World.ownsRow.set (j := 7) (u := v7) h6 hb
  exact h7
end Proofs
end Go
