/- finessetop: bits, pick, contract -/
import Derived.Test.YtaladbaeplgjgaaX11
import Derived.Test.YtaladbaeplgjgaaX13
import Derived.Carry
import Derived.Test.YtaladbaeplgjgaaX05
import Derived.Deep.WholeRow
import Derived.Test.YtaladbaeplgjgaaX10
set_option linter.unusedSimpArgs false
set_option linter.unusedVariables false
namespace Go.Proofs
open Go.RowKit
def rowB (m k : Nat) : List Value := ((List.range k).filter (m.testBit ·)).map (fun c : Nat => Value.int .u8 (c : Int))
def lenB (m k : Nat) : Nat := ((List.range k).filter (m.testBit ·)).length
theorem rowB_yes {m k : Nat} (h : m.testBit k = true) : rowB m (k + 1) = rowB m k ++ [.int .u8 (k : Int)] := by
  unfold rowB; rw [List.range_succ, List.filter_append, List.map_append]; simp [h]
theorem lenB_yes {m k : Nat} (h : m.testBit k = true) : lenB m (k + 1) = lenB m k + 1 := by
  unfold lenB; rw [List.range_succ, List.filter_append, List.length_append]; simp [h]
theorem rowB_no {m k : Nat} (h : m.testBit k = false) : rowB m (k + 1) = rowB m k := by
  unfold rowB; rw [List.range_succ, List.filter_append, List.map_append]; simp [h]
theorem lenB_no {m k : Nat} (h : m.testBit k = false) : lenB m (k + 1) = lenB m k := by
  unfold lenB; rw [List.range_succ, List.filter_append, List.length_append]; simp [h]
theorem lenB_le (m k : Nat) : lenB m k ≤ k := by
  unfold lenB; exact Nat.le_trans (List.length_filter_le _ _) (by simp)
theorem Try.info5 : (Try.prog.info? 5).map (fun i => (i.zero, i.size, i.bytes)) = some (some (.int .u8 0), 1, 1) := by kernel_rfl
/-- An owned row of bytes is read. -/
theorem rds_own {W : World} {base n : Nat} {v : Value} {xs : List Nat} (h : W.ownsRow base 5 1 v n (xs.map (fun c : Nat => Value.int .u8 (c : Int)))) (hn : n = xs.length) : ∃ A cap, v = .slice A xs.length cap ∧ xs.length ≤ cap ∧ RdS W A xs := by
  subst hn
  rcases h.2 with ⟨rfl, h0⟩ | ⟨g, cap, cur, rfl, _, _, h2, _⟩
  · have : xs = [] := by simpa using h0
    subst this
    exact ⟨none, 0, rfl, Nat.le_refl _, .inl rfl⟩
  · refine ⟨some ⟨g, 0, none⟩, cap, rfl, h2, .inr ⟨g, 0, rfl, fun j x hx => ?_⟩⟩
    have := World.ownsRow.cells h (g := g) rfl j (.int .u8 (x : Int)) (by rw [List.getElem?_map, hx]; rfl)
    have hadd : (⟨g, 0, none⟩ : Addr).add j = ⟨g, 0 + j, none⟩ := by unfold Addr.add; split <;> simp_all
    rw [hadd] at this; exact this
theorem lenB_52 (m : Nat) [Msk m] : lenB m 52 = pc m := by rw [pc_cds]; rfl
theorem rowB_52 (m : Nat) : rowB m 52 = (cds m).map (fun c : Nat => Value.int .u8 (c : Int)) := rfl
set_option maxHeartbeats 1000000 in
set_option maxRecDepth 100000 in
theorem bits_v (m : Nat) (w : World) [hm : Msk m] :
    Calls Try.prog 7 #[.int .u64 m] w fun e w' => ∃ A cap n, e = .returned (.slice A n cap) ∧ Hid (n = pc m) ∧ n ≤ cap ∧ RdS w' A (cds m) ∧ RowKit.Below w.heap.size w w' := by
  obtain ⟨i0, hi, hz0, hz1, hz2⟩ := info_parts Try.info5
  go_enter Try.func7, Try.ntmps7
  go_wp2
  go_loopw [3, 4] (fun t i wr => ∃ (k : Nat) (v : Value), k ≤ 52 ∧ i = .int .u8 k ∧ v = t ∧ ∃ l d, wr = w.gar l d ∧ wr.ownsRow w.heap.size 5 1 v (lenB m k) (rowB m k)) (fun _ i _ => 52 - (intOf i).toNat)
  case atStart => exact ⟨0, _, Nat.zero_le _, rfl, rfl, [], _, World.gar_nil.symm, World.ownsRow_nil _ _ _ _⟩
  case round =>
    obtain ⟨k, v, hk, rfl, hv, l, d, rfl, hown⟩ := hrel
    subst hv
    by_cases hlt : k < 52
    · haveI : LtC k 52 := ⟨hlt⟩
      have hle := lenB_le m k
      cases hb : m.testBit k with
      | true =>
        have HB := Lib.hid hb
        have hbit : ((bitn m k : Nat) : Int) = 1 := by rw [bitn_yes hb]; rfl
        clear hb
        have hlt2 : ∀ q, v.ownBlock = some q → w.heap.size ≤ q := fun q hq => (hown.lt q hq).1
        have hrow := rowB_yes HB.out
        have hlen := lenB_yes HB.out
        have HR := Lib.hid hrow; have HL := Lib.hid hlen
        clear hrow hlen
        obtain ⟨n, hn⟩ : ∃ n, n = lenB m k := ⟨_, rfl⟩
        rw [← hn] at hown hle HL
        have HN := Lib.hid hn
        clear hn
        go_wp2_with (at_builtin; refine wpList_append_own _ rfl (.tmp 14) (.tmp 16) 22 rfl w.heap.size 5 i0 _ 1 1 Try.underlying22 hi hz0 hz1 hz2 rfl (by decide) _ _ _ rfl (hown.alloc _) ⟨w.heap.size + l.length, 0, none⟩ 1 1 [.int .u8 k] rfl rfl ?c1 ?c2 ?c3 ?c4 ?c5 ?_)
        case c1 => exact cells_new _ [.int .u8 k] 5 _ (by simp)
        case c2 => intro u hu; simp only [List.mem_cons, List.not_mem_nil, or_false] at hu; rcases hu with rfl; rfl
        case c3 => unfold maxLen; omega
        case c4 => omega
        case c5 => simp; omega
        intro v2 w1 hn1 hg1 _
        have hb1 := below_grown hg1 (B := w.heap.size) (by simp; omega) hlt2
        obtain ⟨l4, d4, rfl⟩ := gar_of rfl hb1
        clear hg1 hb1 hlt2 hown
        rw [← HR.out, ← HL.out] at hn1
        go_wp2
        go_roundw
        case rel => exact ⟨k + 1, _, by omega, by go_num, rfl, l4, d4, rfl, hn1⟩
        case measure => simp [intOf]; omega
      | false =>
        have hbit : ((bitn m k : Nat) : Int) = 0 := by rw [bitn_no hb]; rfl
        rw [← rowB_no hb, ← lenB_no hb] at hown
        clear hb
        go_wp2
        go_roundw
        case rel => exact ⟨k + 1, _, by omega, by go_num, rfl, l, d, rfl, hown⟩
        case measure => simp [intOf]; omega
    · obtain rfl : k = 52 := by omega
      rw [lenB_52, rowB_52] at hown
      obtain ⟨A, cap, rfl, hcap, hr⟩ := rds_own hown (by rw [pc_cds])
      clear hown
      rw [← pc_cds] at hcap ⊢
      obtain ⟨n, hn⟩ : ∃ n, n = pc m := ⟨_, rfl⟩
      rw [← hn] at hcap ⊢
      have HN := Lib.hid hn
      have HS := Lib.hid hr
      clear hn hr
      go_wp2
      go_ret
      exact ⟨A, cap, n, rfl, HN, hcap, HS.out, RowKit.Below.of_gar _ _ _⟩
/-- A number that a list chooses. -/
def pk (xs : List Nat) (i : Nat) : Nat := if xs.length = 0 then 0 else xs.getD (i % xs.length) 0
theorem pk_lt (xs : List Nat) (h : ∀ x ∈ xs, x < 256) (i : Nat) : pk xs i < 256 := by
  unfold pk
  split
  · decide
  · rename_i hp
    have hlt : i % xs.length < xs.length := Nat.mod_lt _ (by omega)
    rw [List.getD_eq_getElem?_getD, List.getElem?_eq_getElem hlt]
    exact h _ (List.getElem_mem hlt)
set_option maxHeartbeats 400000 in
theorem pick_v (A : Option Addr) (cap : Nat) (xs : List Nat) (i : Int) (w : World) (hlen : xs.length ≤ 4611686018427387904) (h : RdS w A xs) (h0 : 0 ≤ i) (hi : i ≤ 4611686018427387904) (hx : ∀ x ∈ xs, x < 256) :
    Calls Try.prog 8 #[.slice A xs.length cap, .int .i64 i] w fun e w' => e = .returned (.int .i64 (pk xs i.toNat : Nat)) ∧ w = w' := by
  obtain ⟨i, rfl⟩ := Int.eq_ofNat_of_zero_le h0
  rw [Int.toNat_natCast]
  by_cases hz : xs.length = 0
  · have hp : Hid (pk xs i = 0) := Lib.hid (by unfold pk; rw [if_pos hz])
    rw [hz]
    clear hz h0
    go_enter Try.func8, Try.ntmps8
    go_wp2
    go_ret
    exact ⟨ret_i64 (by rw [hp.out]; rfl), rfl⟩
  · obtain ⟨g, o, rfl, hc⟩ := h.pos (by omega)
    obtain ⟨n, hn⟩ : ∃ n, n = xs.length := ⟨_, rfl⟩
    have hlt : i % n < n := Nat.mod_lt _ (by omega)
    obtain ⟨x, hxk⟩ : ∃ x, xs[i % n]? = some x := ⟨_, List.getElem?_eq_getElem (by rw [← hn]; exact hlt)⟩
    have hp : Hid (pk xs i = x) := Lib.hid (by unfold pk; rw [if_neg hz, ← hn, List.getD_eq_getElem?_getD, hxk]; rfl)
    have hcx := hc _ x hxk
    have hx256 := hx x (List.mem_of_getElem? hxk)
    rw [← hn] at hlen hz ⊢
    have hn0 : 0 < n := by omega
    have hnb : ((n : Int) == 0) = false := by rw [beq_eq_false_iff_ne]; omega
    clear hc hx hxk hn h0 h hz
    go_enter Try.func8, Try.ntmps8
    go_wp2
    go_ret
    exact ⟨ret_i64 (by rw [hp.out]), rfl⟩
end Go.Proofs

/- revoke.from, revoke.moves (on an empty list) -/
namespace Go.Proofs
open Go.RowKit
/-- How many winners are of a side. -/
def sideN (sd : Nat) (xs : List Nat) : Nat := (xs.filter (fun q => q % 2 == sd)).length
theorem sideN_snoc (sd : Nat) (xs : List Nat) (x : Nat) : sideN sd (xs ++ [x]) = sideN sd xs + (if x % 2 = sd then 1 else 0) := by
  unfold sideN
  rw [List.filter_append, List.length_append]
  by_cases h : x % 2 = sd
  · simp [h]
  · simp [h]
theorem sideN_le (sd : Nat) (xs : List Nat) : sideN sd xs ≤ xs.length := List.length_filter_le _ _
set_option maxHeartbeats 1000000 in
set_option maxRecDepth 100000 in
theorem from_v (A : Option Addr) (n cap sd : Nat) (xs : List Nat) (w : World) (hn : Hid (n = xs.length)) (hn0 : 0 < n) (hn60 : n ≤ 60) (hcap : n ≤ cap) (hsd : sd ≤ 1) (hq : ∀ q ∈ xs, q < 4) (hr : RdS w A xs) :
    Calls Try.prog 72 #[.slice A n cap, .int .i64 0, .int .u8 sd] w fun e w' => ∃ c : Nat, e = .returned (.int .i64 c) ∧ Hid (c = sideN sd xs) ∧ w = w' := by
  obtain ⟨g, o, rfl, hc⟩ := hr.pos (by rw [← hn.out]; exact hn0)
  have HC := Lib.hid hc; have HQ := Lib.hid hq
  clear hc hq hr
  go_enter Try.func72, Try.ntmps72
  go_wp2
  go_loopw [7, 14] (fun t7 t14 wr => ∃ k c : Nat, k ≤ n ∧ t14 = .int .i64 k ∧ t7 = .int .i64 c ∧ Hid (c = sideN sd (xs.take k)) ∧ c ≤ 60 ∧ w = wr) (fun _ t14 _ => n - (intOf t14).toNat)
  case atStart => exact ⟨0, 0, Nat.zero_le _, rfl, rfl, Lib.hid rfl, Nat.zero_le _, rfl⟩
  case round =>
    obtain ⟨k, c, hk, rfl, rfl, Hc, hc60, rfl⟩ := hrel
    by_cases hlt : k < n
    · obtain ⟨x, hx⟩ : ∃ x, xs[k]? = some x := ⟨_, List.getElem?_eq_getElem (by rw [← hn.out]; exact hlt)⟩
      have hx4 := HQ.out x (List.mem_of_getElem? hx)
      have hcx := HC.out k x hx
      have htk : xs.take (k + 1) = xs.take k ++ [x] := by rw [List.take_add_one, hx]; rfl
      have hs := sideN_snoc sd (xs.take k) x
      rw [← htk] at hs
      have hle := sideN_le sd (xs.take (k + 1))
      rw [List.length_take] at hle
      have HS := Lib.hid hs; have HLE := Lib.hid hle
      clear hs hle htk hx
      by_cases he : x % 2 = sd
      · have heb : ((x : Int) % 2 == (sd : Int)) = true := by rw [beq_iff_eq]; omega
        have hS := HS.out
        rw [if_pos he] at hS
        have HS2 := Lib.hid hS
        clear hS he HS
        go_wp2_with fail
        go_roundw
        case rel => exact ⟨k + 1, c + 1, by omega, by go_num, by go_num, Lib.hid (by rw [HS2.out, Hc.out]), by have h1 := HS2.out; have h2 := HLE.out; have h3 := Hc.out; omega, by first | rfl | trivial⟩
        case measure => simp [intOf]; omega
      · have heb : ((x : Int) % 2 == (sd : Int)) = false := by rw [beq_eq_false_iff_ne]; omega
        have hS := HS.out
        rw [if_neg he] at hS
        have HS2 := Lib.hid hS
        clear hS he HS
        go_wp2_with fail
        go_roundw
        case rel => exact ⟨k + 1, c, by omega, by go_num, rfl, Lib.hid (by rw [HS2.out, Hc.out]; rfl), hc60, by first | rfl | trivial⟩
        case measure => simp [intOf]; omega
    · obtain rfl : k = n := by omega
      go_wp2_with fail
      go_ret
      exact ⟨c, rfl, Lib.hid (by rw [Hc.out, hn.out, List.take_length]), rfl⟩
set_option maxHeartbeats 1000000 in
set_option maxRecDepth 100000 in
theorem moves_v (A : Option Addr) (n cap : Nat) (p q : Int) (w : World) :
    Calls Try.prog 71 #[.slice none 0 0, .slice A n cap, .int .u8 p, .int .u8 q] w fun e w' => e = .returned (.int .i64 0) ∧ RowKit.Below w.heap.size w w' := by
  have hmm := @run_makeMap Try.prog
  go_enter Try.func71, Try.ntmps71
  go_wp2
  refine wp_loop_rounds 1 ?_
  rw [rounds_succ]
  go_wp2
  go_ret
  simp only [World.alloc_gar, World.gar_gar, World.gar_drewN, World.gar_drew]
  exact ⟨rfl, RowKit.Below.of_gar _ _ _⟩
end Go.Proofs

/- finessetop.contract; auction.Leader -/
namespace Go.Proofs
open Go.RowKit
set_option maxHeartbeats 1000000 in
set_option maxRecDepth 100000 in
theorem contract_v (A : Option Addr) (cap : Nat) (xs : List Nat) (w : World) (hlen : xs.length ≤ 4611686018427387904) (h : RdS w A xs) (hx : ∀ x ∈ xs, x < 256) :
    Calls Try.prog 25 #[.slice A xs.length cap] w fun e w' => ∃ lv dn rk dc : Nat, e = .returned (.agg #[.int .u8 lv, .int .u8 dn, .int .u8 rk, .int .u8 dc]) ∧ 1 ≤ lv ∧ lv ≤ 7 ∧ dn ≤ 4 ∧ rk ≤ 2 ∧ dc ≤ 3 ∧ RowKit.Below w.heap.size w w' := by
  have hp := fun i W (h : RdS W A xs) h0 h1 => pick_v A cap xs i W hlen h h0 h1 hx
  have hb := fun i => pk_lt xs hx i
  obtain ⟨n, hn⟩ : ∃ n, n = xs.length := ⟨_, rfl⟩
  obtain ⟨p, hpk⟩ : ∃ p, p = pk xs := ⟨_, rfl⟩
  rw [← hn] at hp ⊢
  rw [← hpk] at hp hb
  have HP := Lib.hid hp
  have HS := Lib.hid h
  have h0 := hb 0; have h1 := hb 1; have h2 := hb 2; have h3 := hb 3
  clear hp hb hpk hn h
  obtain ⟨p0, hp0⟩ : ∃ q, q = p 0 := ⟨_, rfl⟩
  obtain ⟨p1, hp1⟩ : ∃ q, q = p 1 := ⟨_, rfl⟩
  obtain ⟨p2, hp2⟩ : ∃ q, q = p 2 := ⟨_, rfl⟩
  obtain ⟨p3, hp3⟩ : ∃ q, q = p 3 := ⟨_, rfl⟩
  rw [← hp0] at h0; rw [← hp1] at h1; rw [← hp2] at h2; rw [← hp3] at h3
  have P0 := Lib.hid hp0; have P1 := Lib.hid hp1; have P2 := Lib.hid hp2; have P3 := Lib.hid hp3
  clear hp0 hp1 hp2 hp3
  have hS : ∀ l d, RdS (w.gar l d) A xs := fun l d => HS.out.below (RowKit.Below.of_gar _ _ _)
  have HS2 := Lib.hid hS
  clear hS
  go_enter Try.func25, Try.ntmps25
  go_wp2_with fail
  rw [World.alloc_gar]
  refine (HP.out 0 _ (HS2.out _ _) (by omega) (by omega)).mono ?_
  rintro e w' ⟨rfl, rfl⟩
  rw [show (0 : Int).toNat = 0 from rfl, ← P0.out]
  go_wp2_with fail
  refine (HP.out 1 _ (HS2.out _ _) (by omega) (by omega)).mono ?_
  rintro e w' ⟨rfl, rfl⟩
  rw [show (1 : Int).toNat = 1 from rfl, ← P1.out]
  go_wp2_with fail
  refine (HP.out 2 _ (HS2.out _ _) (by omega) (by omega)).mono ?_
  rintro e w' ⟨rfl, rfl⟩
  rw [show (2 : Int).toNat = 2 from rfl, ← P2.out]
  go_wp2_with fail
  refine (HP.out 3 _ (HS2.out _ _) (by omega) (by omega)).mono ?_
  rintro e w' ⟨rfl, rfl⟩
  rw [show (3 : Int).toNat = 3 from rfl, ← P3.out]
  rw [← World.alloc_gar]
  go_wp2_with fail
  refine bodyPost_ret (v := .agg #[.int .u8 (1 + p0 % 7 : Nat), .int .u8 (p1 % 5 : Nat), .int .u8 (p2 % 3 : Nat), .int .u8 (p3 % 4 : Nat)]) ?_ rfl ⟨_, _, _, _, rfl, by omega, by omega, by omega, by omega, by omega, ?_⟩
  · simp [results, Try.results25, go_sem]
  · simp only [World.alloc_gar, World.gar_gar, World.gar_drewN, World.gar_drew]; exact RowKit.Below.of_gar _ _ _
theorem leader_v (lv dn rk dc : Nat) (w : World) (h1 : 1 ≤ lv) (h2 : lv ≤ 7) (h3 : dn ≤ 4) (h4 : rk ≤ 2) (h5 : dc ≤ 3) :
    Calls Try.prog 61 #[.agg #[.int .u8 lv, .int .u8 dn, .int .u8 rk, .int .u8 dc]] w fun e w' => e = .returned (.tuple #[.int .u8 ((dc + 1) % 4 : Nat), .int .i64 0]) ∧ RowKit.Below w.heap.size w w' := by
  have hb : ((lv : Int) == 0) = false := by rw [beq_eq_false_iff_ne]; omega
  have d1 : decide ((7 : Int) < lv) = false := by simp; omega
  have d2 : decide ((4 : Int) < dn) = false := by simp; omega
  have d3 : decide ((2 : Int) < rk) = false := by simp; omega
  have d4 : decide ((3 : Int) < dc) = false := by simp; omega
  go_enter Try.func61, Try.ntmps61
  go_wp2
  go_ret2
  refine ⟨by simp, ?_⟩
  simp only [World.alloc_gar, World.gar_gar, World.gar_drewN, World.gar_drew]; exact RowKit.Below.of_gar _ _ _
end Go.Proofs

/- Sixteen cells at once. -/
namespace Go
theorem World.setRow_putObj (W : World) (g : Nat) (c c' : Array Value) (t : TypeId) (h : W.heap[g]? = some (.cells c t (0, 0))) : W.setRow g c' = W.putObj g (.cells c' t) := by
  simp only [World.setRow, World.putObj]
  congr 1
  apply Array.ext_getElem?
  intro i
  rw [Array.getElem?_modify, Array.getElem?_setIfInBounds]
  by_cases hi : g = i
  · subst hi
    have hlt : g < W.heap.size := (Array.getElem?_eq_some_iff.1 h).1
    rw [h]; simp [hlt]
  · simp [hi]
@[go_sem high] theorem run_store16 {P : Program} (W : World) (g : Nat) (t : TypeId) (v0 v1 v2 v3 v4 v5 v6 v7 v8 v9 v10 v11 v12 v13 v14 v15 : Int) (o0 o1 o2 o3 o4 o5 o6 o7 o8 o9 o10 o11 o12 o13 o14 o15 : Value) (h : W.heap[g]? = some (.cells #[o0, o1, o2, o3, o4, o5, o6, o7, o8, o9, o10, o11, o12, o13, o14, o15] t (0, 0))) :
    (storeCells ⟨g, 0, none⟩ [.int .u32 v0, .int .u32 v1, .int .u32 v2, .int .u32 v3, .int .u32 v4, .int .u32 v5, .int .u32 v6, .int .u32 v7, .int .u32 v8, .int .u32 v9, .int .u32 v10, .int .u32 v11, .int .u32 v12, .int .u32 v13, .int .u32 v14, .int .u32 v15]).run P W = .ok () (W.putObj g (.cells #[.int .u32 v0, .int .u32 v1, .int .u32 v2, .int .u32 v3, .int .u32 v4, .int .u32 v5, .int .u32 v6, .int .u32 v7, .int .u32 v8, .int .u32 v9, .int .u32 v10, .int .u32 v11, .int .u32 v12, .int .u32 v13, .int .u32 v14, .int .u32 v15] t)) := by
  rw [run_storeCells_from g t _ 0 _ W h (by rfl) (by intro v hv; simp only [List.mem_cons, List.not_mem_nil, or_false] at hv; rcases hv with rfl | rfl | rfl | rfl | rfl | rfl | rfl | rfl | rfl | rfl | rfl | rfl | rfl | rfl | rfl | rfl <;> rfl)]
  rw [World.setRow_putObj _ _ _ _ t h]; rfl
@[go_sem high] theorem run_load16 {P : Program} (W : World) (g : Nat) (t : TypeId) (fr : Nat × Nat) (o0 o1 o2 o3 o4 o5 o6 o7 o8 o9 o10 o11 o12 o13 o14 o15 : Value) (h : W.heap[g]? = some (.cells #[o0, o1, o2, o3, o4, o5, o6, o7, o8, o9, o10, o11, o12, o13, o14, o15] t fr)) :
    (loadCellsFrom ⟨g, 0, none⟩ 0 16 #[]).run P W = .ok #[o0, o1, o2, o3, o4, o5, o6, o7, o8, o9, o10, o11, o12, o13, o14, o15] W := by
  have := run_loadCells_list (P := P) W ⟨g, 0, none⟩ [o0, o1, o2, o3, o4, o5, o6, o7, o8, o9, o10, o11, o12, o13, o14, o15] (fun j v hv => by
    have hadd : (⟨g, 0, none⟩ : Addr).add j = ⟨g, j, none⟩ := by unfold Addr.add; split <;> simp_all
    rw [hadd, cell_of_row _ _ j _ t fr h]
    simpa using hv)
  exact this
@[go_sem high] theorem run_load16' {P : Program} (W : World) (g : Nat) (t : TypeId) (fr : Nat × Nat) (o0 o1 o2 o3 o4 o5 o6 o7 o8 o9 o10 o11 o12 o13 o14 o15 : Value) (h : W.heap[g]? = some (.cells #[o0, o1, o2, o3, o4, o5, o6, o7, o8, o9, o10, o11, o12, o13, o14, o15] t fr)) :
    (loadCells ⟨g, 0, none⟩ 16).run P W = .ok #[o0, o1, o2, o3, o4, o5, o6, o7, o8, o9, o10, o11, o12, o13, o14, o15] W := run_load16 W g t fr o0 o1 o2 o3 o4 o5 o6 o7 o8 o9 o10 o11 o12 o13 o14 o15 h
end Go

namespace Go.Proofs
open Go.RowKit
theorem Try.info97s : (Try.prog.info? 97).map (·.size) = some 16 := by kernel_rfl
theorem Try.info96s : (Try.prog.info? 96).map (·.size) = some 3 := by kernel_rfl
theorem results40_of (tmps : Array Value) (W : World) (g1 g2 : Nat) (c1 c2 : Array Value) (h1 : tmps.getD 2 undef = .pointer (some ⟨g1, 0, none⟩)) (h2 : tmps.getD 3 undef = .pointer (some ⟨g2, 0, none⟩))
    (hc1 : W.heap[g1]? = some (.cells c1 96 (0, 0))) (hc2 : W.heap[g2]? = some (.cells c2 97 (0, 0))) (s1 : c1.size = 3) (s2 : c2.size = 16) :
    (results Try.f40 tmps).run Try.prog W = .ok (.tuple #[.agg c1, .agg c2]) W := by
  have l1 := run_loadVar_row (P := Try.prog) W g1 96 96 c1 (0, 0) _ hc1 Try.underlying96 rfl (by rw [s1]; exact Try.info96s)
  have l2 := run_loadVar_row (P := Try.prog) W g2 97 97 c2 (0, 0) _ hc2 Try.underlying97 rfl (by rw [s2]; exact Try.info97s)
  have h1' : tmps[2]?.getD undef = .pointer (some ⟨g1, 0, none⟩) := by simpa using h1
  have h2' : tmps[3]?.getD undef = .pointer (some ⟨g2, 0, none⟩) := by simpa using h2
  simp only [results, Try.results40]
  simp [h1', h2', l1, l2, asAddr, Sem.run_bind, Result.andThen]
end Go.Proofs
