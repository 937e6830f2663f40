/- play: Do -/
import Derived.Test.YtaladbaeplgjgaaX18
import Derived.Test.YtaladbaeplgjgaaX16
set_option linter.unusedSimpArgs false
set_option linter.unusedVariables false
namespace Go.Proofs
open Go.RowKit
structure PS where
  a : Nat
  b : Nat
  c : Nat
  d : Nat
  w0 : Nat
  w1 : Nat
  ld : Nat
  tr : List Nat
def PS.turn (s : PS) : Nat := (s.ld + s.tr.length) % 4
def PS.hand (s : PS) : Nat := hsel s.a s.b s.c s.d s.turn
def PS.legal (s : PS) : Nat := playable s.hand s.tr
/-- The state behind a card. -/
def PS.put (dn : Nat) (s : PS) (x : Nat) : PS :=
  if s.tr.length + 1 < 4 then ⟨rmv s.a s.turn 0 x, rmv s.b s.turn 1 x, rmv s.c s.turn 2 x, rmv s.d s.turn 3 x, s.w0, s.w1, s.ld, s.tr ++ [x]⟩
  else ⟨rmv s.a s.turn 0 x, rmv s.b s.turn 1 x, rmv s.c s.turn 2 x, rmv s.d s.turn 3 x, if (s.ld + winI dn (s.tr ++ [x])) % 4 % 2 = 0 then s.w0 + 1 else s.w0,
    if (s.ld + winI dn (s.tr ++ [x])) % 4 % 2 = 0 then s.w1 else s.w1 + 1, (s.ld + winI dn (s.tr ++ [x])) % 4, []⟩
structure PS.Ok (s : PS) : Prop where
  ma : Msk s.a
  mb : Msk s.b
  mc : Msk s.c
  md : Msk s.d
  ld : s.ld ≤ 3
  w0 : s.w0 ≤ 100
  w1 : s.w1 ≤ 100
  un : Under s.tr
/-- The cells of the steps behind the cards dl. -/
def Steps (dl : List Nat) (ds : List Value) : Prop :=
  ∀ j x : Nat, dl[j]? = some x → ∃ (a b c d w0 w1 ld : Nat) (A : Option Addr) (n cap : Nat), ∀ t, t < 9 → ds[9 * j + t]? = (stepC a b c d w0 w1 ld (.slice A n cap) x)[t]?
def PlayAt (w : World) (bp : Nat) (s : PS) (lv dn rk dc : Nat) (dl : List Nat) : Prop :=
  ∃ (A : Option Addr) (cap : Nat) (dv uv : Value) (ds : List Value), w.heap[bp]? = some (.cells (playC s.a s.b s.c s.d s.w0 s.w1 s.ld (.slice A s.tr.length cap) lv dn rk dc dv uv) 134 (0, 0)) ∧ s.tr.length ≤ cap ∧ (s.tr.length = 0 → A = none ∧ cap = 0) ∧ RdS w A s.tr ∧
    (∀ g o, A = some ⟨g, o, none⟩ → bp < g ∧ dv.ownBlock ≠ some g) ∧ w.ownsRow (bp + 1) 139 9 dv dl.length ds ∧ Steps dl ds
theorem PlayAt.lt {w : World} {bp lv dn rk dc : Nat} {s : PS} {dl : List Nat} (h : PlayAt w bp s lv dn rk dc dl) : bp < w.heap.size := by
  obtain ⟨A, cap, dv, uv, ds, h1, _⟩ := h; exact lt_blk h1
theorem PlayAt.below {w w' : World} {bp lv dn rk dc : Nat} {s : PS} {dl : List Nat} (h : PlayAt w bp s lv dn rk dc dl) (hb : RowKit.Below w.heap.size w w') : PlayAt w' bp s lv dn rk dc dl := by
  obtain ⟨A, cap, dv, uv, ds, h1, h2, h3, h4, h5, h6, h7⟩ := h
  exact ⟨A, cap, dv, uv, ds, hb.blk h1, h2, h3, h4.below hb, h5, h6.below hb, h7⟩
theorem PlayAt.set13 {w : World} {bp lv dn rk dc : Nat} {s : PS} {dl : List Nat} (h : PlayAt w bp s lv dn rk dc dl) (v : Value) : PlayAt (w.setCell ⟨bp, 13, none⟩ v) bp s lv dn rk dc dl := by
  obtain ⟨A, cap, dv, uv, ds, h1, h2, h3, h4, h5, h6, h7⟩ := h
  refine ⟨A, cap, dv, v, ds, World.heap_set_at h1, h2, h3, h4.block fun g o hA => ?_, h5, h6.set (by omega), h7⟩
  have := (h5 g o hA).1
  exact World.heap_set_ne (by omega)
theorem step_get {ds : List Value} {dl : List Nat} {a b c d w0 w1 ld x n cap : Nat} {A : Option Addr} (hl : ds.length = dl.length * 9) (h : Steps dl ds) : Steps (dl ++ [x]) (ds ++ stepC a b c d w0 w1 ld (.slice A n cap) x) := by
  intro j y hy
  by_cases hj : j < dl.length
  · rw [List.getElem?_append_left hj] at hy
    obtain ⟨a', b', c', d', w0', w1', ld', A', n', cap', hh⟩ := h j y hy
    exact ⟨a', b', c', d', w0', w1', ld', A', n', cap', fun t ht => by rw [List.getElem?_append_left (by omega)]; exact hh t ht⟩
  · have hlt : j < (dl ++ [x]).length := (List.getElem?_eq_some_iff.1 hy).1
    rw [List.length_append] at hlt
    have : j = dl.length := by simp at hlt; omega
    subst this
    rw [List.getElem?_append_right (by omega), Nat.sub_self] at hy
    simp at hy
    subst hy
    exact ⟨a, b, c, d, w0, w1, ld, A, n, cap, fun t ht => by rw [List.getElem?_append_right (by omega), show 9 * dl.length + t - ds.length = t by omega]⟩
theorem put_h (bp lv dn rk dc x : Nat) (s : PS) (dl : List Nat) (w : World) (ho : s.Ok) (h : PlayAt w bp s lv dn rk dc dl) (hdn : dn ≤ 4) (ht : Trick (s.tr ++ [x])) (hN : dl.length ≤ 60) :
    Calls Try.prog 96 #[.pointer (some ⟨bp, 0, none⟩), .int .u8 x] w fun e w' => (∃ v, e = .returned v) ∧ Hid (PlayAt w' bp (s.put dn x) lv dn rk dc (dl ++ [x])) ∧ RowKit.Below bp w w' := by
  obtain ⟨A, cap, dv, uv, ds, h1, h2, h3, h4, h5, h6, h7⟩ := h
  haveI := ho.ma; haveI := ho.mb; haveI := ho.mc; haveI := ho.md
  refine (put_v bp s.a s.b s.c s.d s.w0 s.w1 s.ld lv dn rk dc x A s.tr.length cap dl.length s.tr dv uv ds w h1 ho.ld hdn ho.w0 ho.w1 (Lib.hid rfl) h2 h3 ht h4 h5 h6 hN).mono ?_
  rintro e w' ⟨hv, hp⟩
  obtain ⟨w0', w1', ld', A', n', cap', xs', g, cp, q1, q2, q3, q4, q5, q6, q7, q8, q9⟩ := hp.out
  refine ⟨hv, Lib.hid ?_, q8⟩
  have hlen : (dl ++ [x]).length = dl.length + 1 := by simp
  rcases q9 with ⟨k1, rfl, rfl, rfl, rfl⟩ | ⟨k1, rfl, rfl, rfl, rfl⟩
  · unfold PS.put
    rw [if_pos k1]
    refine ⟨A', cap', .slice (some ⟨g, 0, none⟩) (dl.length + 1) cp, uv, ds ++ stepC s.a s.b s.c s.d s.w0 s.w1 s.ld (.slice A s.tr.length cap) x, ?_, ?_, ?_, q5, ?_, ?_, step_get h6.1 h7⟩
    · rw [← q2]; exact q1
    · rw [← q2]; exact q3
    · rw [← q2]; exact q4
    · intro g' o hA
      exact ⟨(q6 g' o hA).1, fun e => (q6 g' o hA).2 (by simpa [Value.ownBlock] using e)⟩
    · rw [hlen]; exact q7
  · unfold PS.put
    rw [if_neg (by omega)]
    refine ⟨A', cap', .slice (some ⟨g, 0, none⟩) (dl.length + 1) cp, uv, ds ++ stepC s.a s.b s.c s.d s.w0 s.w1 s.ld (.slice A s.tr.length cap) x, ?_, ?_, ?_, q5, ?_, ?_, step_get h6.1 h7⟩
    · rw [← q2]; exact q1
    · rw [← q2]; exact q3
    · rw [← q2]; exact q4
    · intro g' o hA
      exact ⟨(q6 g' o hA).1, fun e => (q6 g' o hA).2 (by simpa [Value.ownBlock] using e)⟩
    · rw [hlen]; exact q7
set_option maxHeartbeats 1000000 in
set_option maxRecDepth 100000 in
theorem Do_v (bp lv dn rk dc x : Nat) (s : PS) (dl : List Nat) (w : World) (ho : s.Ok) (h : PlayAt w bp s lv dn rk dc dl) (hdn : dn ≤ 4) (hx52 : x < 52) (hz : ¬ (s.a = 0 ∧ s.b = 0 ∧ s.c = 0 ∧ s.d = 0)) (hl : s.legal.testBit x = true) (ht : Trick (s.tr ++ [x])) (hN : dl.length ≤ 60) :
    Calls Try.prog 63 #[.pointer (some ⟨bp, 0, none⟩), .int .u8 x] w fun e w' => e = .returned (.int .i64 0) ∧ Hid (PlayAt w' bp (s.put dn x) lv dn rk dc (dl ++ [x])) ∧ RowKit.Below bp w w' := by
  haveI := ho.ma; haveI := ho.mb; haveI := ho.mc; haveI := ho.md
  have hpu := fun W (h : PlayAt W bp s lv dn rk dc dl) => put_h bp lv dn rk dc x s dl W ho h hdn ht hN
  have HPU := Lib.hid hpu
  have HP := Lib.hid h
  obtain ⟨A, cap, dv, uv, ds, h1, h2, h3, h4, h5, h6, h7⟩ := h
  have hlt := lt_blk h1
  haveI : LtC bp w.heap.size := ⟨hlt⟩
  haveI : LtC x 52 := ⟨hx52⟩
  have hx0 : w.cell? ⟨bp, 0, none⟩ = some (.int .u64 s.a) := cell_blk h1 rfl
  have hx1 : w.cell? ⟨bp, 1, none⟩ = some (.int .u64 s.b) := cell_blk h1 rfl
  have hx2 : w.cell? ⟨bp, 2, none⟩ = some (.int .u64 s.c) := cell_blk h1 rfl
  have hx3 : w.cell? ⟨bp, 3, none⟩ = some (.int .u64 s.d) := cell_blk h1 rfl
  have hx4 : w.cell? ⟨bp, 4, none⟩ = some (.int .i64 s.w0) := cell_blk h1 rfl
  have hx5 : w.cell? ⟨bp, 5, none⟩ = some (.int .i64 s.w1) := cell_blk h1 rfl
  have hx6 : w.cell? ⟨bp, 6, none⟩ = some (.int .u8 s.ld) := cell_blk h1 rfl
  have hx7 : w.cell? ⟨bp, 7, none⟩ = some (.slice A s.tr.length cap) := cell_blk h1 rfl
  have hx14 : w.cell? ⟨bp, 14, none⟩ = some (.bool true) := cell_blk h1 rfl
  have hov := fun W => over_no s.a s.b s.c s.d s.w0 s.w1 s.ld (.slice A s.tr.length cap) W hz
  have hlg := fun W (hr : RdS W A s.tr) => legal_v s.a s.b s.c s.d s.w0 s.w1 s.ld A s.tr.length cap s.tr W ho.ld (Lib.hid rfl) h2 ho.un hr
  have hS : ∀ l d, RdS (w.gar l d) A s.tr := fun l d => h4.below (RowKit.Below.of_gar _ _ _)
  simp only [stV] at hov hlg
  haveI : Msk s.legal := by unfold PS.legal PS.hand; haveI := hsel_msk s.a s.b s.c s.d s.turn; exact playable_msk _ _
  obtain ⟨p, hp⟩ : ∃ p, p = s.legal := ⟨_, rfl⟩
  have hp' : p = playable (hsel s.a s.b s.c s.d ((s.ld + s.tr.length) % 4)) s.tr := hp
  rw [← hp'] at hlg
  rw [← hp] at hl
  haveI : Msk p := by rw [hp]; infer_instance
  have hbit : ((bitn p x : Nat) : Int) = 1 := by rw [bitn_yes hl]; rfl
  have HO := Lib.hid hov; have HL := Lib.hid hlg; have HS := Lib.hid hS
  clear h1 hz h2 h3 h4 h5 h6 h7 hov hlg hS hp hp' hl hpu hlt ht ho
  generalize s.tr.length = n at *
  generalize s.a = a at *
  generalize s.b = b at *
  generalize s.c = c at *
  generalize s.d = d at *
  generalize s.w0 = w0 at *
  generalize s.w1 = w1 at *
  generalize s.ld = ld at *
  go_enter Try.func63, Try.ntmps63
  go_wp2_with fail
  refine (none_v bp _ hx14).mono ?_
  rintro e w' ⟨rfl, rfl⟩
  go_wp2_with fail
  refine (HO.out _).mono ?_
  rintro e w' ⟨rfl, hb⟩
  obtain ⟨l4, d5, rfl⟩ := hb.gar
  clear hb
  go_wp2_with fail
  refine (HL.out _ (HS.out _ _)).mono ?_
  rintro e w' ⟨rfl, hb⟩
  obtain ⟨l6, d6, rfl⟩ := hb.gar
  clear hb
  go_wp2_with fail
  refine (HPU.out _ (HP.out.below (RowKit.Below.of_gar _ _ _))).mono ?_
  rintro e W ⟨⟨v, rfl⟩, HQ, hb⟩
  have hbw : RowKit.Below bp w W := ((RowKit.Below.of_gar w _ _).mono (by have := HP.out.lt; omega)).trans hb
  have hq13 : ∃ u, W.cell? ⟨bp, 13, none⟩ = some u := by
    obtain ⟨A, cap, dv, uv, ds, h1, _⟩ := HQ.out
    exact ⟨uv, cell_blk h1 rfl⟩
  have hf13 : W.frozen? ⟨bp, 13, none⟩ = false := by
    obtain ⟨A, cap, dv, uv, ds, h1, _⟩ := HQ.out
    exact frozen_blk h1
  obtain ⟨u13, hq13⟩ := hq13
  have HBW := Lib.hid hbw
  clear hb hbw
  go_wp2_with fail
  go_ret
  refine ⟨rfl, Lib.hid (HQ.out.set13 _), HBW.out.trans ⟨rfl, rfl, rfl, by simp [World.setCell], fun k hk => World.heap_set_ne (by omega)⟩⟩
end Go.Proofs

/- The play as a plain machine: what holds behind each card. -/
namespace Go.Proofs
open Go.RowKit
theorem hsel0 (a b c d : Nat) : hsel a b c d 0 = a := rfl
theorem hsel1 (a b c d : Nat) : hsel a b c d 1 = b := rfl
theorem hsel2 (a b c d : Nat) : hsel a b c d 2 = c := rfl
theorem hsel3 (a b c d : Nat) : hsel a b c d 3 = d := rfl
/-- The hand of a seat in a state. -/
def PS.h (s : PS) (i : Nat) : Nat := hsel s.a s.b s.c s.d i
theorem PS.turn_lt (s : PS) : s.turn < 4 := Nat.mod_lt _ (by omega)
theorem put_h_sel (dn : Nat) (s : PS) (x i : Nat) (hi : i < 4) : (s.put dn x).h i = rmv (s.h i) s.turn i x := by
  unfold PS.put PS.h
  rcases (show i = 0 ∨ i = 1 ∨ i = 2 ∨ i = 3 by omega) with rfl | rfl | rfl | rfl <;> split <;> rfl
structure Inv (s : PS) (k : Nat) : Prop where
  msk : ∀ i, i < 4 → Msk (s.h i)
  ld : s.ld ≤ 3
  len : s.tr.length = k % 4
  wins : s.w0 + s.w1 = k / 4
  disj : ∀ i j, i < 4 → j < 4 → i ≠ j → s.h i &&& s.h j = 0
  card : ∀ x ∈ s.tr, x < 52
  nodup : s.tr.Nodup
  out : ∀ x ∈ s.tr, ∀ i, i < 4 → (s.h i).testBit x = false
  cnt : ∀ i, i < 4 → pc (s.h i) + k / 4 + (if (i + 4 - s.ld) % 4 < k % 4 then 1 else 0) = 13
theorem pc_rmv (m x : Nat) [Msk m] (h : m.testBit x = true) : pc (andn m (b1 x)) + 1 = pc m := by
  have hx : x < 52 := by
    rcases Nat.lt_or_ge x 52 with h1 | h1
    · exact h1
    · rw [msk_bit m x h1] at h; cases h
  haveI : LtC x 52 := ⟨hx⟩
  have hb : ∀ c, (b1 x).testBit c = true → m.testBit c = true := fun c hc => by
    rw [b1_eq, bit_bit] at hc
    have : x = c := by simpa using hc
    rw [← this]; exact h
  have h1 := pc_diff m (b1 x) hb
  have h2 : pc (b1 x) = 1 := by rw [b1_eq]; exact pc_bit x hx
  have h3 : 0 < pc m := by
    rw [pc_cds]
    exact List.length_pos_of_mem ((mem_cds m x).2 ⟨hx, h⟩)
  omega
theorem andn_b1_bit (m x i : Nat) [Msk m] [LtC x 52] : (andn m (b1 x)).testBit i = (m.testBit i && !decide (x = i)) := by
  rw [andn_bit _ _ _ (Msk.lt64 _) (Msk.lt64 _), b1_eq, bit_bit]
theorem Inv.lt52 {s : PS} {k x i : Nat} (h : Inv s k) (hi : i < 4) (hx : (s.h i).testBit x = true) : x < 52 := by
  haveI := h.msk i hi
  rcases Nat.lt_or_ge x 52 with h1 | h1
  · exact h1
  · rw [msk_bit _ x h1] at hx; cases hx
theorem Inv.trick {s : PS} {k x : Nat} (h : Inv s k) (hx : (s.h s.turn).testBit x = true) : Trick (s.tr ++ [x]) := by
  have hl := h.len
  have hm : k % 4 < 4 := Nat.mod_lt _ (by omega)
  refine ⟨by simp, by rw [List.length_append, List.length_singleton]; omega, ?_, ?_⟩
  · intro y hy
    rw [List.mem_append, List.mem_singleton] at hy
    rcases hy with hy | rfl
    · exact h.card y hy
    · exact h.lt52 s.turn_lt hx
  · rw [List.nodup_append]
    refine ⟨h.nodup, by simp, fun y hy z hz => ?_⟩
    rw [List.mem_singleton] at hz
    subst hz
    rintro rfl
    rw [h.out y hy s.turn s.turn_lt] at hx; cases hx
theorem Inv.under {s : PS} {k : Nat} (h : Inv s k) : Under s.tr := by
  have hl := h.len
  have hm : k % 4 < 4 := Nat.mod_lt _ (by omega)
  refine ⟨by omega, ?_⟩
  rcases hn : s.tr with _ | ⟨y, ys⟩
  · exact .inl rfl
  · refine .inr ⟨by simp, by rw [hn] at hl; omega, fun z hz => h.card z (by rw [hn]; exact hz), by rw [← hn]; exact h.nodup⟩
theorem Inv.ok {s : PS} {k : Nat} (h : Inv s k) (hk : k ≤ 52) : s.Ok :=
  ⟨h.msk 0 (by omega), h.msk 1 (by omega), h.msk 2 (by omega), h.msk 3 (by omega), h.ld, by have := h.wins; omega, by have := h.wins; omega, h.under⟩
theorem rmv_bit (m t i x y : Nat) [Msk m] [LtC x 52] : (rmv m t i x).testBit y = true → m.testBit y = true := by
  unfold rmv
  split
  · rw [andn_b1_bit]; simp; exact fun h _ => h
  · exact id
theorem Inv.put {s : PS} {k x : Nat} (dn : Nat) (h : Inv s k) (hx : (s.h s.turn).testBit x = true) : Inv (s.put dn x) (k + 1) := by
  have hx52 := h.lt52 s.turn_lt hx
  haveI : LtC x 52 := ⟨hx52⟩
  have hl := h.len
  have hld := h.ld
  have hw := h.wins
  have htl : s.turn = (s.ld + k % 4) % 4 := by unfold PS.turn; rw [hl]
  have hrm : ∀ i, i < 4 → (s.put dn x).h i = rmv (s.h i) s.turn i x := fun i hi => put_h_sel dn s x i hi
  have hmsk : ∀ i, i < 4 → Msk ((s.put dn x).h i) := fun i hi => by
    rw [hrm i hi]; haveI := h.msk i hi
    unfold rmv; split <;> infer_instance
  have hsub : ∀ i, i < 4 → ∀ y, ((s.put dn x).h i).testBit y = true → (s.h i).testBit y = true := fun i hi y hy => by
    haveI := h.msk i hi
    rw [hrm i hi] at hy; exact rmv_bit _ _ _ _ _ hy
  have hdis : ∀ i j, i < 4 → j < 4 → i ≠ j → (s.put dn x).h i &&& (s.put dn x).h j = 0 := fun i j hi hj hne =>
    and_zero_of _ _ fun y h1 h2 => bit_and0 (h.disj i j hi hj hne) y (hsub i hi y h1) (hsub j hj y h2)
  have hxout : ∀ i, i < 4 → ((s.put dn x).h i).testBit x = false := fun i hi => by
    haveI := h.msk i hi
    rw [hrm i hi]
    unfold rmv
    split
    · rw [andn_b1_bit]; simp
    · rename_i hne
      cases hb : (s.h i).testBit x with
      | false => rfl
      | true => exact (bit_and0 (h.disj s.turn i s.turn_lt hi hne) x hx hb).elim
  have hcnt : ∀ i, i < 4 → pc ((s.put dn x).h i) + (if s.turn = i then 1 else 0) = pc (s.h i) := fun i hi => by
    haveI := h.msk i hi
    rw [hrm i hi]
    unfold rmv
    split
    · rename_i he; subst he; exact pc_rmv _ x hx
    · rfl
  have htr := h.trick hx
  by_cases hk : s.tr.length + 1 < 4
  · have e1 : (s.put dn x).ld = s.ld := by unfold PS.put; rw [if_pos hk]
    have e2 : (s.put dn x).tr = s.tr ++ [x] := by unfold PS.put; rw [if_pos hk]
    have e3 : (s.put dn x).w0 = s.w0 := by unfold PS.put; rw [if_pos hk]
    have e4 : (s.put dn x).w1 = s.w1 := by unfold PS.put; rw [if_pos hk]
    refine ⟨hmsk, by rw [e1]; exact hld, by rw [e2, List.length_append, List.length_singleton]; omega, by rw [e3, e4]; omega, hdis, by rw [e2]; exact htr.card, by rw [e2]; exact htr.nodup, ?_, ?_⟩
    · rw [e2]
      intro y hy i hi
      rw [List.mem_append, List.mem_singleton] at hy
      rcases hy with hy | rfl
      · cases hb : ((s.put dn x).h i).testBit y with
        | false => rfl
        | true => have := hsub i hi y hb; rw [h.out y hy i hi] at this; cases this
      · exact hxout i hi
    · intro i hi
      have h1 := h.cnt i hi
      have h2 := hcnt i hi
      rw [e1]
      rw [htl] at h2
      rw [hl] at hk
      split at h1 <;> split at h2 <;> split <;> omega
  · have e1 : (s.put dn x).ld = (s.ld + winI dn (s.tr ++ [x])) % 4 := by unfold PS.put; rw [if_neg hk]
    have e2 : (s.put dn x).tr = [] := by unfold PS.put; rw [if_neg hk]
    have e3 : (s.put dn x).w0 + (s.put dn x).w1 = s.w0 + s.w1 + 1 := by
      unfold PS.put; rw [if_neg hk]
      by_cases hp : (s.ld + winI dn (s.tr ++ [x])) % 4 % 2 = 0
      · simp only [hp, if_true]; omega
      · simp only [hp, if_false]; omega
    have hm : k % 4 < 4 := Nat.mod_lt _ (by omega)
    refine ⟨hmsk, by rw [e1]; omega, by rw [e2, List.length_nil]; omega, by rw [e3]; omega, hdis, by rw [e2]; simp, by rw [e2]; simp, by rw [e2]; simp, ?_⟩
    intro i hi
    have h1 := h.cnt i hi
    have h2 := hcnt i hi
    rw [htl] at h2
    rw [hl] at hk
    rw [if_neg (by omega)]
    split at h1 <;> split at h2 <;> omega
/-- The start of a play. -/
def start (a b c d ld : Nat) : PS := ⟨a, b, c, d, 0, 0, ld, []⟩
theorem Inv.start {a b c d ld : Nat} (hF : Full a b c d) (hld : ld ≤ 3) : Inv (Proofs.start a b c d ld) 0 := by
  have hh : ∀ i, i < 4 → (Proofs.start a b c d ld).h i = a ∧ i = 0 ∨ (Proofs.start a b c d ld).h i = b ∧ i = 1 ∨ (Proofs.start a b c d ld).h i = c ∧ i = 2 ∨ (Proofs.start a b c d ld).h i = d ∧ i = 3 := fun i hi => by
    rcases (show i = 0 ∨ i = 1 ∨ i = 2 ∨ i = 3 by omega) with rfl | rfl | rfl | rfl
    · exact .inl ⟨rfl, rfl⟩
    · exact .inr (.inl ⟨rfl, rfl⟩)
    · exact .inr (.inr (.inl ⟨rfl, rfl⟩))
    · exact .inr (.inr (.inr ⟨rfl, rfl⟩))
  refine ⟨fun i hi => ?_, hld, rfl, rfl, fun i j hi hj hne => ?_, by simp [Proofs.start], by simp [Proofs.start], by simp [Proofs.start], fun i hi => ?_⟩
  · rcases hh i hi with ⟨e, _⟩ | ⟨e, _⟩ | ⟨e, _⟩ | ⟨e, _⟩ <;> rw [e]
    · exact hF.ma
    · exact hF.mb
    · exact hF.mc
    · exact hF.md
  · rcases hh i hi with ⟨e, h1⟩ | ⟨e, h1⟩ | ⟨e, h1⟩ | ⟨e, h1⟩ <;> rcases hh j hj with ⟨e', h2⟩ | ⟨e', h2⟩ | ⟨e', h2⟩ | ⟨e', h2⟩ <;> rw [e, e'] <;>
      first | (exfalso; omega) | exact hF.ab | exact hF.ac | exact hF.ad | exact hF.bc | exact hF.bd | exact hF.cd | (rw [Nat.and_comm]; first | exact hF.ab | exact hF.ac | exact hF.ad | exact hF.bc | exact hF.bd | exact hF.cd)
  · rcases hh i hi with ⟨e, _⟩ | ⟨e, _⟩ | ⟨e, _⟩ | ⟨e, _⟩ <;> rw [e]
    · rw [hF.a13]; simp
    · rw [hF.b13]; simp
    · rw [hF.c13]; simp
    · rw [hF.d13]; simp
end Go.Proofs

/- finessetop.some -/
namespace Go.Proofs
open Go.RowKit
theorem rmk_self (h : Nat) [Msk h] (xs : List Nat) (hc : ∀ x ∈ xs, x < 52 ∧ h.testBit x = false) (k : Nat) (hk : k ≤ xs.length) : rmk h xs k = h := by
  induction k with
  | zero => rfl
  | succ k ih =>
    rw [rmk, ih (by omega)]
    obtain ⟨x, hx⟩ : ∃ x, xs[k]? = some x := ⟨_, List.getElem?_eq_getElem (by omega)⟩
    rw [List.getD_eq_getElem?_getD, hx]
    have hh := hc x (List.mem_of_getElem? hx)
    haveI : LtC x 52 := ⟨hh.1⟩
    apply Nat.eq_of_testBit_eq
    intro i
    rw [Option.getD_some, andn_b1_bit]
    by_cases he : x = i
    · subst he; rw [hh.2]; rfl
    · simp [he]
theorem Inv.playable {s : PS} {k : Nat} (h : Inv s k) : s.legal = if s.tr.length = 0 then s.h s.turn else if s.h s.turn &&& suitm (s.tr.getD 0 0) = 0 then s.h s.turn else s.h s.turn &&& suitm (s.tr.getD 0 0) := by
  haveI := h.msk s.turn s.turn_lt
  unfold PS.legal Proofs.playable
  have : rmk s.hand s.tr s.tr.length = s.h s.turn := rmk_self (s.h s.turn) s.tr (fun x hx => ⟨h.card x hx, h.out x hx _ s.turn_lt⟩) _ (Nat.le_refl _)
  rw [this]; rfl
theorem Inv.legal_sub {s : PS} {k x : Nat} (h : Inv s k) (hx : s.legal.testBit x = true) : (s.h s.turn).testBit x = true := by
  rw [h.playable] at hx
  split at hx
  · exact hx
  · split at hx
    · exact hx
    · rw [Nat.testBit_and] at hx
      cases hb : (s.h s.turn).testBit x with
      | true => rfl
      | false => rw [hb] at hx; cases hx
theorem Inv.turn_pos {s : PS} {k : Nat} (h : Inv s k) (hk : k < 52) : s.h s.turn ≠ 0 := by
  have hc := h.cnt s.turn s.turn_lt
  have htl : s.turn = (s.ld + k % 4) % 4 := by unfold PS.turn; rw [h.len]
  have hld := h.ld
  intro h0
  rw [h0, pc_zero, htl] at hc
  split at hc <;> omega
theorem Inv.legal_pos {s : PS} {k : Nat} (h : Inv s k) (hk : k < 52) : s.legal ≠ 0 := by
  have := h.turn_pos hk
  rw [h.playable]
  split
  · exact this
  · split
    · exact this
    · assumption
theorem Inv.hands {s : PS} {k : Nat} (h : Inv s k) (hk : k < 52) : ¬ (s.a = 0 ∧ s.b = 0 ∧ s.c = 0 ∧ s.d = 0) := by
  rintro ⟨h1, h2, h3, h4⟩
  have := h.turn_pos hk
  apply this
  have ht := s.turn_lt
  unfold PS.h
  rcases (show s.turn = 0 ∨ s.turn = 1 ∨ s.turn = 2 ∨ s.turn = 3 by omega) with e | e | e | e <;> rw [e]
  · exact h1
  · exact h2
  · exact h3
  · exact h4
/-- The state behind some cards. -/
def runP (dn : Nat) (s : PS) (cs : List Nat) : PS := cs.foldl (PS.put dn) s
theorem runP_snoc (dn : Nat) (s : PS) (cs : List Nat) (x : Nat) : runP dn s (cs ++ [x]) = (runP dn s cs).put dn x := by unfold runP; rw [List.foldl_append]; rfl
/-- Each card is held by the seat whose turn it is. -/
def Held (dn : Nat) (s : PS) (cs : List Nat) : Prop := ∀ k x, cs[k]? = some x → ((runP dn s (cs.take k)).h (runP dn s (cs.take k)).turn).testBit x = true
/-- Each card is legal. -/
def Leg (dn : Nat) (s : PS) (cs : List Nat) : Prop := ∀ k x : Nat, cs[k]? = some x → (runP dn s (cs.take k)).legal.testBit x = true
theorem snoc_get {P : List Nat → Nat → Prop} {cs : List Nat} {x : Nat} (h : ∀ k y : Nat, cs[k]? = some y → P (cs.take k) y) (hx : P cs x) : ∀ k y : Nat, (cs ++ [x])[k]? = some y → P ((cs ++ [x]).take k) y := by
  intro k y hy
  by_cases hk : k < cs.length
  · rw [List.getElem?_append_left hk] at hy
    rw [List.take_append_of_le_length (by omega)]; exact h k y hy
  · have hlt : k < (cs ++ [x]).length := (List.getElem?_eq_some_iff.1 hy).1
    rw [List.length_append, List.length_singleton] at hlt
    have : k = cs.length := by omega
    subst this
    rw [List.getElem?_append_right (by omega), Nat.sub_self] at hy
    have : x = y := by simpa using hy
    subst this
    rw [List.take_left]; exact hx
theorem Leg.snoc {dn : Nat} {s : PS} {cs : List Nat} {x : Nat} (h : Leg dn s cs) (hx : (runP dn s cs).legal.testBit x = true) : Leg dn s (cs ++ [x]) :=
  snoc_get (P := fun l y => (runP dn s l).legal.testBit y = true) h hx
theorem Inv.run {dn : Nat} {s : PS} {cs : List Nat} (h : Inv s 0) (hh : Held dn s cs) (k : Nat) (hk : k ≤ cs.length) : Inv (runP dn s (cs.take k)) k := by
  induction k with
  | zero => exact h
  | succ k ih =>
    obtain ⟨x, hx⟩ : ∃ x, cs[k]? = some x := ⟨_, List.getElem?_eq_getElem (by omega)⟩
    rw [List.take_add_one, hx]
    show Inv (runP dn s (cs.take k ++ [x])) (k + 1)
    rw [runP_snoc]
    exact (ih (by omega)).put dn (hh k x hx)
theorem Inv.run_all {dn : Nat} {s : PS} {cs : List Nat} (h : Inv s 0) (hh : Held dn s cs) : Inv (runP dn s cs) cs.length := by
  have := h.run hh cs.length (Nat.le_refl _)
  rwa [List.take_length] at this
theorem Leg.held {dn : Nat} {s : PS} {cs : List Nat} (h : Inv s 0) (hl : Leg dn s cs) : Held dn s cs := by
  have key : ∀ k, k ≤ cs.length → Inv (runP dn s (cs.take k)) k := by
    intro k
    induction k with
    | zero => intro _; exact h
    | succ k ih =>
      intro hk
      obtain ⟨x, hx⟩ : ∃ x, cs[k]? = some x := ⟨_, List.getElem?_eq_getElem (by omega)⟩
      rw [List.take_add_one, hx]
      show Inv (runP dn s (cs.take k ++ [x])) (k + 1)
      rw [runP_snoc]
      have hi := ih (by omega)
      exact hi.put dn (hi.legal_sub (hl k x hx))
  intro k x hx
  exact (key k (Nat.le_of_lt (List.getElem?_eq_some_iff.1 hx).1)).legal_sub (hl k x hx)
theorem run_tr {dn : Nat} {s : PS} {cs : List Nat} (h : Inv s 0) (hh : Held dn s cs) (i : Nat) (hi : i ≤ cs.length) :
    (runP dn s (cs.take i)).tr = (cs.take i).drop (4 * (i / 4)) ∧ (runP dn s (cs.take i)).ld = (runP dn s (cs.take (4 * (i / 4)))).ld := by
  induction i with
  | zero =>
    refine ⟨?_, rfl⟩
    show s.tr = _
    have := h.len
    rw [List.eq_nil_of_length_eq_zero (show s.tr.length = 0 by omega)]; simp
  | succ i ih =>
    obtain ⟨ih1, ih2⟩ := ih (by omega)
    have hinv := h.run hh i (by omega)
    have hlen := hinv.len
    obtain ⟨x, hx⟩ : ∃ x, cs[i]? = some x := ⟨_, List.getElem?_eq_getElem (by omega)⟩
    have htk : cs.take (i + 1) = cs.take i ++ [x] := by rw [List.take_add_one, hx]; rfl
    by_cases h4 : i % 4 + 1 < 4
    · have e : (i + 1) / 4 = i / 4 := by omega
      rw [e, htk, runP_snoc]
      unfold PS.put
      rw [if_pos (by rw [hlen]; omega)]
      refine ⟨?_, ih2⟩
      show (runP dn s (cs.take i)).tr ++ [x] = _
      rw [ih1, List.drop_append_of_le_length (by rw [List.length_take]; omega)]
    · have e : 4 * ((i + 1) / 4) = i + 1 := by omega
      rw [e]
      refine ⟨?_, rfl⟩
      rw [htk, runP_snoc]
      unfold PS.put
      rw [if_neg (by rw [hlen]; omega), List.drop_eq_nil_of_le (by rw [List.length_append, List.length_take, List.length_singleton]; omega)]
theorem trick_full {dn : Nat} {s : PS} {cs : List Nat} (h : Inv s 0) (hh : Held dn s cs) (k : Nat) (hk : 4 * k + 4 ≤ cs.length) :
    Trick ((cs.drop (4 * k)).take 4) ∧ (runP dn s (cs.take (4 * (k + 1)))).ld = ((runP dn s (cs.take (4 * k))).ld + winI dn ((cs.drop (4 * k)).take 4)) % 4 := by
  obtain ⟨x, hx⟩ : ∃ x, cs[4 * k + 3]? = some x := ⟨_, List.getElem?_eq_getElem (by omega)⟩
  have hinv := h.run hh (4 * k + 3) (by omega)
  have htr := run_tr h hh (4 * k + 3) (by omega)
  have htk : cs.take (4 * (k + 1)) = cs.take (4 * k + 3) ++ [x] := by rw [show 4 * (k + 1) = 4 * k + 3 + 1 by omega, List.take_add_one, hx]; rfl
  have hlen := hinv.len
  have hxs : (runP dn s (cs.take (4 * k + 3))).tr ++ [x] = (cs.drop (4 * k)).take 4 := by
    rw [htr.1, show 4 * ((4 * k + 3) / 4) = 4 * k by omega, ← List.drop_append_of_le_length (by rw [List.length_take]; omega), ← htk, List.drop_take, show 4 * (k + 1) - 4 * k = 4 by omega]
  have hld := htr.2
  rw [show 4 * ((4 * k + 3) / 4) = 4 * k by omega] at hld
  refine ⟨?_, ?_⟩
  · rw [← hxs]; exact hinv.trick (hh _ x hx)
  · rw [htk, runP_snoc]
    unfold PS.put
    rw [if_neg (by rw [hlen]; omega)]
    show ((runP dn s (cs.take (4 * k + 3))).ld + winI dn ((runP dn s (cs.take (4 * k + 3))).tr ++ [x])) % 4 = _
    rw [hxs, hld]
theorem Legal_h (bp lv dn rk dc : Nat) (s : PS) (dl : List Nat) (w : World) (ho : s.Ok) (h : PlayAt w bp s lv dn rk dc dl) (hz : ¬ (s.a = 0 ∧ s.b = 0 ∧ s.c = 0 ∧ s.d = 0)) :
    Calls Try.prog 62 #[.pointer (some ⟨bp, 0, none⟩)] w fun e w' => e = .returned (.int .u64 (s.legal : Nat)) ∧ RowKit.Below w.heap.size w w' := by
  haveI := ho.ma; haveI := ho.mb; haveI := ho.mc; haveI := ho.md
  obtain ⟨A, cap, dv, uv, ds, h1, h2, h3, h4, h5, h6, h7⟩ := h
  exact Legal_v bp s.a s.b s.c s.d s.w0 s.w1 s.ld lv dn rk dc A s.tr.length cap s.tr dv uv w h1 hz ho.ld (Lib.hid rfl) h2 ho.un h4
end Go.Proofs
