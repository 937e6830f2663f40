/- play.put -/
import Derived.Test.YtaladbaeplgjgaaX17
import Derived.Deep.CutRange
import Derived.Deep.DeepCutAuto
set_option linter.unusedSimpArgs false
set_option linter.unusedVariables false
namespace Go.Proofs
open Go.RowKit
theorem Try.info139 : (Try.prog.info? 139).map (fun i => (i.zero, i.size, i.bytes)) = some (some (.agg #[.int .u64 0, .int .u64 0, .int .u64 0, .int .u64 0, .int .i64 0, .int .i64 0, .int .u8 0, .slice none 0 0, .int .u8 0]), 9, 88) := by kernel_rfl
/-- The cells of a step. -/
def stepC (a b c d w0 w1 ld : Nat) (tr : Value) (x : Nat) : List Value := [.int .u64 a, .int .u64 b, .int .u64 c, .int .u64 d, .int .i64 w0, .int .i64 w1, .int .u8 ld, tr, .int .u8 x]
/-- A hand without a card, if it is the turn's. -/
def rmv (m t i x : Nat) : Nat := if t = i then andn m (b1 x) else m
theorem clone_any (A : Option Addr) (n cap : Nat) (xs : List Nat) (w : World) (hn : Hid (n = xs.length)) (hl : xs.length ≤ 1000) (hnil : n = 0 → A = none ∧ cap = 0) (h : RdS w A xs) :
    Calls Try.prog 107 #[.slice A n cap] w fun e w' => ∃ v l d, e = .returned v ∧ w' = w.gar l d ∧ w'.ownsRow w.heap.size 5 1 v n (u8s xs) := by
  have hn' := hn.out
  subst hn'
  by_cases h0 : xs.length = 0
  · obtain ⟨rfl, rfl⟩ := hnil h0
    have hx : xs = [] := List.eq_nil_of_length_eq_zero h0
    subst hx
    refine (clone_nil w).mono ?_
    rintro e w' ⟨rfl, rfl⟩
    exact ⟨_, [], _, rfl, World.gar_nil.symm, World.ownsRow_nil _ _ _ _⟩
  · obtain ⟨g, o, rfl, hc⟩ := h.pos (by omega)
    exact clone_v g o cap xs w hl hc
theorem rd_own {W : World} {base n g cap : Nat} {xs : List Nat} (h : W.ownsRow base 5 1 (.slice (some ⟨g, 0, none⟩) n cap) n (u8s xs)) (hn : n = xs.length) : n ≤ cap ∧ base ≤ g ∧ RdS W (some ⟨g, 0, none⟩) xs := by
  rcases h.2 with ⟨h1, _⟩ | ⟨g', cap', cur, h1, h2, h3, h4, _⟩
  · cases h1
  · obtain ⟨rfl, rfl⟩ : g = g' ∧ cap = cap' := by simpa using h1
    refine ⟨h4, h2, .inr ⟨g, 0, rfl, fun j x hx => ?_⟩⟩
    have := World.ownsRow.cells h (g := g) rfl j (.int .u8 (x : Int)) (by unfold u8s; rw [List.getElem?_map, hx]; rfl)
    have hadd : (⟨g, 0, none⟩ : Addr).add j = ⟨g, 0 + j, none⟩ := by unfold Addr.add; split <;> simp_all
    rw [hadd] at this; exact this
theorem seat_h (A : Option Addr) (cap t ld m : Nat) (xs : List Nat) (w : World) (hm : Hid (m = xs.length)) (hcap : m ≤ cap) (hr : RdS w A xs) (ht : Trick xs) (h4 : t ≤ 4) (hld : ld ≤ 3) :
    Calls Try.prog 108 #[.int .u8 t, .int .u8 ld, .slice A m cap] w fun e w' => ∃ n : Nat, e = .returned (.tuple #[.int .u8 n, .int .i64 0]) ∧ Hid (n = (ld + winI t xs) % 4) ∧ RowKit.Below w.heap.size w w' := by
  have := hm.out
  subst this
  exact seat_v A cap t ld xs w hcap hr ht h4 hld
/-- What stands behind the 'if' that ends a trick. -/
def AfterD (n ld dn w0 w1 H : Nat) (ys : List Nat) (w0' w1' ld' : Nat) (A' : Option Addr) (n' cap' : Nat) (wx : World) : Prop :=
  (n + 1 < 4 ∧ w0' = w0 ∧ w1' = w1 ∧ ld' = ld ∧ n' = n + 1 ∧ n + 1 ≤ cap' ∧ ∃ g2, A' = some ⟨g2, 0, none⟩ ∧ H < g2 ∧ RdS wx (some ⟨g2, 0, none⟩) ys) ∨
  (n + 1 = 4 ∧ ld' = (ld + winI dn ys) % 4 ∧ w0' = (if ld' % 2 = 0 then w0 + 1 else w0) ∧ w1' = (if ld' % 2 = 0 then w1 else w1 + 1) ∧ A' = none ∧ n' = 0 ∧ cap' = 0)
/-- What put leaves. -/
def PutPost (bp a b c d w0 w1 ld lv dn rk dc x n cap N : Nat) (A : Option Addr) (xs : List Nat) (uv : Value) (ds : List Value) (w w' : World) : Prop :=
  ∃ (w0' w1' ld' : Nat) (A' : Option Addr) (n' cap' : Nat) (xs' : List Nat) (g cp : Nat),
    w'.heap[bp]? = some (.cells (playC (rmv a ((ld + n) % 4) 0 x) (rmv b ((ld + n) % 4) 1 x) (rmv c ((ld + n) % 4) 2 x) (rmv d ((ld + n) % 4) 3 x) w0' w1' ld' (.slice A' n' cap') lv dn rk dc (.slice (some ⟨g, 0, none⟩) (N + 1) cp) uv) 134 (0, 0)) ∧
    n' = xs'.length ∧ n' ≤ cap' ∧ (n' = 0 → A' = none ∧ cap' = 0) ∧ RdS w' A' xs' ∧ (∀ g' o, A' = some ⟨g', o, none⟩ → bp < g' ∧ g ≠ g') ∧
    w'.ownsRow (bp + 1) 139 9 (.slice (some ⟨g, 0, none⟩) (N + 1) cp) (N + 1) (ds ++ stepC a b c d w0 w1 ld (.slice A n cap) x) ∧ RowKit.Below bp w w' ∧
    ((n + 1 < 4 ∧ w0' = w0 ∧ w1' = w1 ∧ ld' = ld ∧ xs' = xs ++ [x]) ∨ (n + 1 = 4 ∧ ld' = (ld + winI dn (xs ++ [x])) % 4 ∧ w0' = (if ld' % 2 = 0 then w0 + 1 else w0) ∧ w1' = (if ld' % 2 = 0 then w1 else w1 + 1) ∧ xs' = []))
theorem put_E {bp a b c d w0 w1 ld lv dn rk dc x n cap N : Nat} {A : Option Addr} {xs : List Nat} {uv : Value} {ds : List Value} {w X : World} {w0' w1' ld' : Nat} {A' : Option Addr} {n' cap' g cp H : Nat}
    (hn : n = xs.length) (hX : X.heap[bp]? = some (.cells (playC a b c d w0 w1 ld (.slice A n cap) lv dn rk dc (.slice (some ⟨g, 0, none⟩) (N + 1) cp) uv) 134 (0, 0))) (hO : X.ownsRow (bp + 1) 139 9 (.slice (some ⟨g, 0, none⟩) (N + 1) cp) (N + 1) (ds ++ stepC a b c d w0 w1 ld (.slice A n cap) x))
    (hB : RowKit.Below bp w X) (hg : g < H) (hH : bp < H) (hAD : AfterD n ld dn w0 w1 H (xs ++ [x]) w0' w1' ld' A' n' cap' X) (a' b' c' d' : Nat) (ha : a' = rmv a ((ld + n) % 4) 0 x) (hb : b' = rmv b ((ld + n) % 4) 1 x) (hc : c' = rmv c ((ld + n) % 4) 2 x) (hd : d' = rmv d ((ld + n) % 4) 3 x) :
    PutPost bp a b c d w0 w1 ld lv dn rk dc x n cap N A xs uv ds w (set8 X bp (.int .u64 a') (.int .u64 b') (.int .u64 c') (.int .u64 d') (.int .i64 w0') (.int .i64 w1') (.int .u8 ld') (.slice A' n' cap')) := by
  subst ha hb hc hd
  rcases hAD with ⟨h1, rfl, rfl, rfl, rfl, h2, g2, rfl, h3, h4⟩ | ⟨h1, h2, h3, h4, rfl, rfl, rfl⟩
  · refine ⟨_, _, _, _, _, _, xs ++ [x], g, cp, set8_at hX, by simp [hn], h2, fun h => by omega, ?_, ?_, set8_own hO (by omega), set8_below hB, .inl ⟨h1, rfl, rfl, rfl, rfl⟩⟩
    · exact h4.block fun g' o e => by
        obtain ⟨rfl, rfl⟩ : g2 = g' ∧ 0 = o := by simpa using e
        exact set8_ne (by omega)
    · intro g' o e
      obtain ⟨rfl, rfl⟩ : g2 = g' ∧ 0 = o := by simpa using e
      exact ⟨by omega, by omega⟩
  · exact ⟨_, _, _, _, _, _, [], g, cp, set8_at hX, rfl, Nat.le_refl _, fun _ => ⟨rfl, rfl⟩, .inl rfl, (fun g' o e => by cases e), set8_own hO (by omega), set8_below hB, .inr ⟨h1, h2, h3, h4, rfl⟩⟩
set_option maxHeartbeats 4000000 in
set_option maxRecDepth 100000 in
theorem put_v (bp a b c d w0 w1 ld lv dn rk dc x : Nat) (A : Option Addr) (n cap N : Nat) (xs : List Nat) (dv uv : Value) (ds : List Value) (w : World) [Msk a] [Msk b] [Msk c] [Msk d]
    (hblk : w.heap[bp]? = some (.cells (playC a b c d w0 w1 ld (.slice A n cap) lv dn rk dc dv uv) 134 (0, 0)))
    (hld : ld ≤ 3) (hdn : dn ≤ 4) (hw0 : w0 ≤ 100) (hw1 : w1 ≤ 100) (hn : Hid (n = xs.length)) (hcap : n ≤ cap) (hnil : n = 0 → A = none ∧ cap = 0) (hu : Trick (xs ++ [x])) (hr : RdS w A xs) (hal : ∀ g o, A = some ⟨g, o, none⟩ → bp < g ∧ dv.ownBlock ≠ some g)
    (hown : w.ownsRow (bp + 1) 139 9 dv N ds) (hN : N ≤ 60) :
    Calls Try.prog 96 #[.pointer (some ⟨bp, 0, none⟩), .int .u8 x] w fun e w' => (∃ v, e = .returned v) ∧ Hid (PutPost bp a b c d w0 w1 ld lv dn rk dc x n cap N A xs uv ds w w') := by
  obtain ⟨i0, hi, hz0, hz1, hz2⟩ := info_parts Try.info139
  have hlt := lt_blk hblk
  have hn3 : n ≤ 3 := by have := hu.le; rw [List.length_append] at this; simp at this; rw [hn.out]; omega
  have hx52 : x < 52 := hu.card x (by simp)
  have hrow : ∀ q, dv.ownBlock = some q → bp + 1 ≤ q := fun q hq => (hown.lt q hq).1
  have HBLK := Lib.hid hblk; have HR := Lib.hid hr; have HAL := Lib.hid hal; have HU := Lib.hid hu; have HNIL := Lib.hid hnil; have HROW := Lib.hid hrow
  clear hblk hr hal hu hnil hrow
  go_enter Try.func96, Try.ntmps96
  go_upto_region 0 with fail
  go_cut [] (fun wx => ∃ (g cp : Nat), wx.heap[bp]? = some (.cells (playC a b c d w0 w1 ld (.slice A n cap) lv dn rk dc (.slice (some ⟨g, 0, none⟩) (N + 1) cp) uv) 134 (0, 0)) ∧ wx.ownsRow (bp + 1) 139 9 (.slice (some ⟨g, 0, none⟩) (N + 1) cp) (N + 1) (ds ++ stepC a b c d w0 w1 ld (.slice A n cap) x) ∧ RdS wx A xs ∧ (∀ o, A ≠ some ⟨g, o, none⟩) ∧ RowKit.Below bp w wx)
  case first =>
    haveI : LtC bp w.heap.size := ⟨hlt⟩
    have hx0 : w.cell? ⟨bp, 0, none⟩ = some (.int .u64 a) := cell_blk HBLK.out rfl
    have hx1 : w.cell? ⟨bp, 1, none⟩ = some (.int .u64 b) := cell_blk HBLK.out rfl
    have hx2 : w.cell? ⟨bp, 2, none⟩ = some (.int .u64 c) := cell_blk HBLK.out rfl
    have hx3 : w.cell? ⟨bp, 3, none⟩ = some (.int .u64 d) := cell_blk HBLK.out rfl
    have hx4 : w.cell? ⟨bp, 4, none⟩ = some (.int .i64 w0) := cell_blk HBLK.out rfl
    have hx5 : w.cell? ⟨bp, 5, none⟩ = some (.int .i64 w1) := cell_blk HBLK.out rfl
    have hx6 : w.cell? ⟨bp, 6, none⟩ = some (.int .u8 ld) := cell_blk HBLK.out rfl
    have hx7 : w.cell? ⟨bp, 7, none⟩ = some (.slice A n cap) := cell_blk HBLK.out rfl
    have hx12 : w.cell? ⟨bp, 12, none⟩ = some dv := cell_blk HBLK.out rfl
    have hf12 : w.frozen? ⟨bp, 12, none⟩ = false := frozen_blk HBLK.out
    have HOWN := Lib.hid hown
    have hne : some bp ≠ dv.ownBlock := fun e => by have := HROW.out bp e.symm; omega
    have HNE := Lib.hid hne
    clear hown hne
    go_region_law (first | (refine step_append_lies _ (by rfl) (.tmp 9) (.tmp 16) 132 (by rfl) (bp + 1) 139 i0 _ 9 88 Try.underlying132 hi hz0 hz1 hz2 rfl (by decide) dv N ds (by rfl) (by exact HOWN.out.alloc _) ⟨w.heap.size, 0, none⟩ 1 1 (stepC a b c d w0 w1 ld (.slice A n cap) x) (by rfl) (by rfl) (World.news_of_block (cs := (stepC a b c d w0 w1 ld (.slice A n cap) x).toArray) (World.heap_alloc_at _ _ _ rfl)) (by intro u hu; simp only [stepC, List.mem_cons, List.not_mem_nil, or_false] at hu; rcases hu with rfl | rfl | rfl | rfl | rfl | rfl | rfl | rfl | rfl <;> rfl) (by decide) (by unfold maxLen; omega) (by omega) (by simp; omega) _ rfl ?_; intro g cp wy hn1 hg1 hat hlt1; have hy12 := hg1.cell (a := ⟨bp, 12, none⟩) (v := dv) (by simpa [go_sem] using hx12) HNE.out; have hf12' : wy.frozen? ⟨bp, 12, none⟩ = false := (hg1.frozen_far ⟨bp, 12, none⟩ (by simp; omega) HNE.out).trans (by simpa [go_sem] using hf12)))
    all_goals
      clear hx0 hx1 hx2 hx3 hx4 hx5 hx6 hx7 hx12 hf12 hy12 hf12'
      go_wp2_with fail
      go_meet
      exact ⟨_, _, put_A HBLK.out HR.out HAL.out (fun e => (HNIL.out (by rw [hn.out, e]; rfl)).1) hg1 hn1 (by simpa using hat) HROW.out⟩
  case rest =>
    obtain ⟨gd, cpd, hB, hO, hR, hA, hBe⟩ := hcut
    have hltc := lt_blk hB
    haveI : LtC bp wc.heap.size := ⟨hltc⟩
    have HB := Lib.hid hB; have HO := Lib.hid hO; have HRC := Lib.hid hR; have HAC := Lib.hid hA; have HBE := Lib.hid hBe
    clear hB hO hR hA hBe hown HBLK HR HAL HROW hlt hi hz0 hz1 hz2
    haveI : LtC x 52 := ⟨hx52⟩
    obtain ⟨tn, htn⟩ : ∃ t, t = (ld + n) % 4 := ⟨_, rfl⟩
    have ht3 : tn ≤ 3 := by omega
    have HTN := Lib.hid htn
    clear htn
    obtain ⟨a', ha'⟩ : ∃ q, q = rmv a tn 0 x := ⟨_, rfl⟩
    obtain ⟨b', hb'⟩ : ∃ q, q = rmv b tn 1 x := ⟨_, rfl⟩
    obtain ⟨c', hc'⟩ : ∃ q, q = rmv c tn 2 x := ⟨_, rfl⟩
    obtain ⟨d', hd'⟩ : ∃ q, q = rmv d tn 3 x := ⟨_, rfl⟩
    have HA' := Lib.hid ha'; have HB' := Lib.hid hb'; have HC' := Lib.hid hc'; have HD' := Lib.hid hd'
    clear ha' hb' hc' hd'
    have hx0 : wc.cell? ⟨bp, 0, none⟩ = some (.int .u64 a) := cell_blk HB.out rfl
    have hx1 : wc.cell? ⟨bp, 1, none⟩ = some (.int .u64 b) := cell_blk HB.out rfl
    have hx2 : wc.cell? ⟨bp, 2, none⟩ = some (.int .u64 c) := cell_blk HB.out rfl
    have hx3 : wc.cell? ⟨bp, 3, none⟩ = some (.int .u64 d) := cell_blk HB.out rfl
    have hx4 : wc.cell? ⟨bp, 4, none⟩ = some (.int .i64 w0) := cell_blk HB.out rfl
    have hx5 : wc.cell? ⟨bp, 5, none⟩ = some (.int .i64 w1) := cell_blk HB.out rfl
    have hx6 : wc.cell? ⟨bp, 6, none⟩ = some (.int .u8 ld) := cell_blk HB.out rfl
    have hx7 : wc.cell? ⟨bp, 7, none⟩ = some (.slice A n cap) := cell_blk HB.out rfl
    go_upto_region 2 with fail
    go_cut [] (fun wx => ∃ l2 dd2, wx = (wc.alloc (.cells #[.int .u64 a', .int .u64 b', .int .u64 c', .int .u64 d', .int .i64 w0, .int .i64 w1, .int .u8 ld, .slice A n cap] 131)).gar l2 dd2)
    case first =>
      have htv := fun W => turn_h a b c d w0 w1 ld A n cap tn W hn3 hld HTN
      simp only [stV] at htv
      clear hx0 hx1 hx2 hx3 hx4 hx5 hx6 hx7
      rcases (show tn = 0 ∨ tn = 1 ∨ tn = 2 ∨ tn = 3 by omega) with rfl | rfl | rfl | rfl
      all_goals
        have HTV := Lib.hid htv
        clear htv
        go_wp2_with (go_at_call 106; refine (HTV.out _).mono ?_; rintro e w' ⟨rfl, hb⟩; obtain ⟨l4, d5, rfl⟩ := hb.gar; clear hb)
        go_meet
        refine ⟨l4, d5, ?_⟩
        rw [HA'.out, HB'.out, HC'.out, HD'.out]
        rfl
    case rest =>
      obtain ⟨l2, dd2, rfl⟩ := hcut
      obtain ⟨i5, hj, hk0, hk1, hk2⟩ := info_parts Try.info5
      clear hx0 hx1 hx2 hx3 hx4 hx5 hx6 hx7
      go_upto_region 3 with fail
      go_cut [] (fun wx => ∃ g2 cap2 l3 dd3, wx = (wc.alloc (.cells #[.int .u64 a', .int .u64 b', .int .u64 c', .int .u64 d', .int .i64 w0, .int .i64 w1, .int .u8 ld, .slice (some ⟨g2, 0, none⟩) (n + 1) cap2] 131)).gar l3 dd3 ∧ n + 1 ≤ cap2 ∧ wc.heap.size < g2 ∧ RdS wx (some ⟨g2, 0, none⟩) (xs ++ [x]))
      case first =>
        go_wp2_with fail
        refine (clone_any A n cap xs _ hn (by have := hn.out; omega) HNIL.out (HRC.out.below (by simp only [World.alloc_gar, World.gar_gar]; exact RowKit.Below.of_gar _ _ _))).mono ?_
        rintro e w' ⟨v, l3, d3, rfl, rfl, hv⟩
        have hv2 : ((wc.alloc (.cells #[.int .u64 a', .int .u64 b', .int .u64 c', .int .u64 d', .int .i64 w0, .int .i64 w1, .int .u8 ld, .slice A n cap] 131)).gar (l2 ++ l3) d3).ownsRow (wc.heap.size + 1) 5 1 v n (u8s xs) := by
          rw [← World.gar_gar]
          refine ⟨hv.1, ?_⟩
          rcases hv.2 with h2 | ⟨g, cp, cur, h1, h2, h3⟩
          · exact .inl h2
          · exact .inr ⟨g, cp, cur, h1, by simp at h2; omega, h3⟩
        have hvl : ∀ q, v.ownBlock = some q → wc.heap.size + 1 ≤ q := fun q hq => (hv2.lt q hq).1
        clear hv
        go_wp2_with (at_builtin; refine wpList_append_own _ rfl (.tmp 36) (.tmp 38) 22 rfl (wc.heap.size + 1) 5 i5 _ 1 1 Try.underlying22 hj hk0 hk1 hk2 rfl (by decide) v n (u8s xs) rfl (hv2.alloc _) ⟨wc.heap.size + 1 + (l2 ++ l3).length, 0, none⟩ 1 1 [.int .u8 x] (by simp [Act.eval]) rfl ?c1 ?c2 ?c3 ?c4 ?c5 ?_)
        case c1 => exact cells_new _ [.int .u8 x] 5 _ (by simp)
        case c2 => intro u hu; simp only [List.mem_cons, List.not_mem_nil, or_false] at hu; rcases hu with rfl; rfl
        case c3 => unfold maxLen; omega
        case c4 => omega
        case c5 => simp; omega
        intro v2 w1 hn1 hg1 _
        have hb1 := below_grown hg1 (B := wc.heap.size + 1) (by simp; omega) hvl
        obtain ⟨l4, d4, rfl⟩ := gar_of (by simp) hb1
        clear hg1 hb1 hvl hv2
        obtain ⟨g2, cap2, rfl⟩ := ownsRow_succ hn1
        rw [u8s_snoc] at hn1
        have HN1 := Lib.hid hn1
        clear hn1
        go_wp2_with fail
        go_meet
        have hn2 := World.ownsRow.swap (Y := wc.alloc (.cells #[.int .u64 a', .int .u64 b', .int .u64 c', .int .u64 d', .int .i64 w0, .int .i64 w1, .int .u8 ld, .slice (some ⟨g2, 0, none⟩) (n + 1) cap2] 131)) (d' := d4) (by simp) (by simp) HN1.out
        obtain ⟨e1, e2, e3⟩ := rd_own hn2 (by rw [hn.out]; simp)
        exact ⟨g2, cap2, l4, d4, rfl, e1, by omega, e3⟩
      case rest =>
        obtain ⟨g2, cap2, l3, dd3, rfl, hc2, hg2, hrd⟩ := hcut
        have HRD := Lib.hid hrd
        clear hrd
        have hx9 : wc.cell? ⟨bp, 9, none⟩ = some (.int .u8 dn) := cell_blk HB.out rfl
        go_upto_if 44 with fail
        go_cut [] (fun wx => ∃ (w0' w1' ld' : Nat) (A' : Option Addr) (n' cap' : Nat) (l5 : List Obj) (dd5 : Nat), wx = (wc.alloc (.cells #[.int .u64 a', .int .u64 b', .int .u64 c', .int .u64 d', .int .i64 w0', .int .i64 w1', .int .u8 ld', .slice A' n' cap'] 131)).gar l5 dd5 ∧ Hid (AfterD n ld dn w0 w1 wc.heap.size (xs ++ [x]) w0' w1' ld' A' n' cap' wx))
        case first =>
          by_cases hk : n + 1 = 4
          · have hk4 : ((n : Int) + 1 == 4) = true := by rw [beq_iff_eq]; omega
            have HK := Lib.hid hk
            clear hk
            have HL : Hid (n + 1 = (xs ++ [x]).length) := Lib.hid (by rw [List.length_append, hn.out]; rfl)
            go_upto_region 5 with fail
            go_cut [] (fun wx => ∃ (q : Nat) (l6 : List Obj) (d6 : Nat), Hid (q = (ld + winI dn (xs ++ [x])) % 4) ∧ wx = (wc.alloc (.cells #[.int .u64 a', .int .u64 b', .int .u64 c', .int .u64 d', .int .i64 w0, .int .i64 w1, .int .u8 q, .slice (some ⟨g2, 0, none⟩) (n + 1) cap2] 131)).gar l6 d6)
            case first =>
              go_region_with (go_at_call 108; refine (seat_h _ cap2 dn ld (n + 1) (xs ++ [x]) _ HL hc2 (by exact HRD.out) HU.out hdn hld).mono ?_; rintro e w' ⟨q, rfl, Hq, hb⟩; obtain ⟨l6, d6, rfl⟩ := hb.gar; clear hb)
              all_goals
                go_wp2_with fail
                go_meet
                exact ⟨q, _, _, Hq, rfl⟩
            case rest =>
              obtain ⟨q, l6, d6, Hq, rfl⟩ := hcut
              rcases (show q % 2 = 0 ∨ q % 2 = 1 by omega) with hq | hq
              · have hqi : (q : Int) % 2 = 0 := by omega
                have HQ := Lib.hid hq
                clear hq
                go_wp2_with fail
                go_meet
                exact ⟨w0 + 1, w1, q, _, _, _, l6, d6, rfl, Lib.hid (.inr ⟨HK.out, Hq.out, by rw [if_pos HQ.out], by rw [if_pos HQ.out], rfl, rfl, rfl⟩)⟩
              · have hqi : (q : Int) % 2 = 1 := by omega
                have HQ := Lib.hid hq
                clear hq
                go_wp2_with fail
                go_meet
                exact ⟨w0, w1 + 1, q, _, _, _, l6, d6, rfl, Lib.hid (.inr ⟨HK.out, Hq.out, by rw [if_neg (by rw [HQ.out]; decide)], by rw [if_neg (by rw [HQ.out]; decide)], rfl, rfl, rfl⟩)⟩
          · have hk4 : ((n : Int) + 1 == 4) = false := by rw [beq_eq_false_iff_ne]; omega
            go_wp2_with fail
            go_meet
            exact ⟨w0, w1, ld, _, _, _, l3, dd3, rfl, Lib.hid (.inl ⟨by omega, rfl, rfl, rfl, rfl, hc2, g2, rfl, hg2, HRD.out⟩)⟩
        case rest =>
          obtain ⟨w0', w1', ld', A', n', cap', l5, dd5, rfl, HAD⟩ := hcut
          clear hx9
          have hBe : RowKit.Below wc.heap.size wc ((wc.alloc (.cells #[.int .u64 a', .int .u64 b', .int .u64 c', .int .u64 d', .int .i64 w0', .int .i64 w1', .int .u8 ld', .slice A' n' cap'] 131)).gar l5 dd5) := by
            simp only [World.alloc_gar, World.gar_gar]; exact RowKit.Below.of_gar _ _ _
          have h4 : ((wc.alloc (.cells #[.int .u64 a', .int .u64 b', .int .u64 c', .int .u64 d', .int .i64 w0', .int .i64 w1', .int .u8 ld', .slice A' n' cap'] 131)).gar l5 dd5).heap[wc.heap.size]? = some (.cells #[.int .u64 a', .int .u64 b', .int .u64 c', .int .u64 d', .int .i64 w0', .int .i64 w1', .int .u8 ld', .slice A' n' cap'] 131 (0, 0)) := by
            rw [World.heap_gar_past (by simp)]; exact World.heap_alloc_at _ _ _ rfl
          have hgd : gd < wc.heap.size := by
            have := HO.out.lt gd rfl; exact this.2
          generalize (wc.alloc (.cells #[.int .u64 a', .int .u64 b', .int .u64 c', .int .u64 d', .int .i64 w0', .int .i64 w1', .int .u8 ld', .slice A' n' cap'] 131)).gar l5 dd5 = X at *
          have hXB := hBe.blk HB.out
          have hXO := HO.out.below hBe
          have hBX : RowKit.Below bp w X := HBE.out.trans (hBe.mono (by omega))
          have hy0 : X.cell? ⟨wc.heap.size, 0, none⟩ = some (.int .u64 a') := cell_blk h4 rfl
          have hy1 : X.cell? ⟨wc.heap.size, 1, none⟩ = some (.int .u64 b') := cell_blk h4 rfl
          have hy2 : X.cell? ⟨wc.heap.size, 2, none⟩ = some (.int .u64 c') := cell_blk h4 rfl
          have hy3 : X.cell? ⟨wc.heap.size, 3, none⟩ = some (.int .u64 d') := cell_blk h4 rfl
          have hy4 : X.cell? ⟨wc.heap.size, 4, none⟩ = some (.int .i64 w0') := cell_blk h4 rfl
          have hy5 : X.cell? ⟨wc.heap.size, 5, none⟩ = some (.int .i64 w1') := cell_blk h4 rfl
          have hy6 : X.cell? ⟨wc.heap.size, 6, none⟩ = some (.int .u8 ld') := cell_blk h4 rfl
          have hy7 : X.cell? ⟨wc.heap.size, 7, none⟩ = some (.slice A' n' cap') := cell_blk h4 rfl
          have hx0 : X.cell? ⟨bp, 0, none⟩ = some (.int .u64 a) := cell_blk hXB rfl
          have hx1 : X.cell? ⟨bp, 1, none⟩ = some (.int .u64 b) := cell_blk hXB rfl
          have hx2 : X.cell? ⟨bp, 2, none⟩ = some (.int .u64 c) := cell_blk hXB rfl
          have hx3 : X.cell? ⟨bp, 3, none⟩ = some (.int .u64 d) := cell_blk hXB rfl
          have hx4 : X.cell? ⟨bp, 4, none⟩ = some (.int .i64 w0) := cell_blk hXB rfl
          have hx5 : X.cell? ⟨bp, 5, none⟩ = some (.int .i64 w1) := cell_blk hXB rfl
          have hx6 : X.cell? ⟨bp, 6, none⟩ = some (.int .u8 ld) := cell_blk hXB rfl
          have hx7 : X.cell? ⟨bp, 7, none⟩ = some (.slice A n cap) := cell_blk hXB rfl
          have hf : ∀ j, X.frozen? ⟨bp, j, none⟩ = false := fun j => frozen_blk hXB
          have hf0 := hf 0; have hf1 := hf 1; have hf2 := hf 2; have hf3 := hf 3; have hf4 := hf 4; have hf5 := hf 5; have hf6 := hf 6; have hf7 := hf 7
          have HXB := Lib.hid hXB; have HXO := Lib.hid hXO; have HBX := Lib.hid hBX
          clear hf hXB hXO hBX h4 hBe
          go_wp2_with fail
          go_end0
          refine ⟨⟨_, rfl⟩, Lib.hid ?_⟩
          exact put_E hn.out HXB.out HXO.out HBX.out hgd hltc HAD.out a' b' c' d' (by rw [HA'.out, HTN.out]) (by rw [HB'.out, HTN.out]) (by rw [HC'.out, HTN.out]) (by rw [HD'.out, HTN.out])
end Go.Proofs
