/- finessetop.some: the walk -/
import Derived.Test.YtaladbaeplgjgaaX19
set_option linter.unusedSimpArgs false
set_option linter.unusedVariables false
namespace Go.Proofs
open Go.RowKit
theorem RdS.low {w w' : World} {A : Option Addr} {xs : List Nat} {B : Nat} (h : RdS w A xs) (hA : ∀ g o, A = some ⟨g, o, none⟩ → g < B) (hb : RowKit.Below B w w') : RdS w' A xs :=
  h.block fun g o e => hb.block g (hA g o e)
theorem RdS.low' {w w' : World} {A : Option Addr} {xs : List Nat} {B : Nat} (h : RdS w A xs) (hA : xs ≠ [] → ∀ g o, A = some ⟨g, o, none⟩ → g < B) (hb : RowKit.Below B w w') : RdS w' A xs := by
  by_cases h0 : xs = []
  · exact .inl h0
  · exact h.low (hA h0) hb
theorem pick_h (A : Option Addr) (cap n : Nat) (xs : List Nat) (i : Int) (w : World) (hn : Hid (n = xs.length)) (hlen : n ≤ 4611686018427387904) (h : RdS w A xs) (h0 : 0 ≤ i) (hi : i ≤ 4611686018427387904) (hx : ∀ x ∈ xs, x < 256) :
    Calls Try.prog 8 #[.slice A n cap, .int .i64 i] w fun e w' => ∃ p : Nat, e = .returned (.int .i64 p) ∧ p < 256 ∧ Hid (p = pk xs i.toNat) ∧ w = w' := by
  have := hn.out
  subst this
  exact (pick_v A cap xs i w hlen h h0 hi hx).mono fun e w' ⟨he, hw⟩ => ⟨_, he, pk_lt xs hx _, Lib.hid rfl, hw⟩
theorem Inv.legal_msk {s : PS} {k : Nat} (h : Inv s k) : Msk s.legal := by
  haveI := h.msk s.turn s.turn_lt
  exact playable_msk (s.h s.turn) s.tr
set_option maxHeartbeats 2000000 in
set_option maxRecDepth 100000 in
theorem some_v (bp lv dn rk dc m n cap : Nat) (A : Option Addr) (xs : List Nat) (s : PS) (w : World) (hs : Inv s 0) (h : PlayAt w bp s lv dn rk dc []) (hdn : dn ≤ 4) (hm : m ≤ 52)
    (hn : Hid (n = xs.length)) (hlen : n ≤ 4611686018427387904) (hr : RdS w A xs) (hA : xs ≠ [] → ∀ g o, A = some ⟨g, o, none⟩ → g < bp) (hx : ∀ x ∈ xs, x < 256) :
    Calls Try.prog 27 #[.pointer (some ⟨bp, 0, none⟩), .int .i64 m, .slice A n cap, .int .i64 0] w fun e w' => e = .returned (.bool true) ∧ ∃ cs : List Nat, Hid (cs.length = m) ∧ Hid (Leg dn s cs) ∧ Hid (PlayAt w' bp (runP dn s cs) lv dn rk dc cs) ∧ RowKit.Below bp w w' := by
  have HP := Lib.hid h; have HR := Lib.hid hr; have HA := Lib.hid hA; have HX := Lib.hid hx; have HS := Lib.hid hs
  clear h hr hA hx hs
  go_enter Try.func27, Try.ntmps27
  go_wp2
  go_loopw [12] (fun i wr => ∃ (k : Nat) (cs : List Nat), k ≤ m ∧ i = .int .i64 k ∧ Hid (cs.length = k) ∧ Hid (Leg dn s cs) ∧ Hid (PlayAt wr bp (runP dn s cs) lv dn rk dc cs) ∧ Hid (RowKit.Below bp w wr)) (fun i _ => m - (intOf i).toNat)
  case atStart => exact ⟨0, [], Nat.zero_le _, rfl, Lib.hid rfl, Lib.hid (fun k x hx => by simp at hx), HP, Lib.hid (RowKit.Below.refl _ _)⟩
  case round =>
    obtain ⟨k, cs, hk, rfl, Hlen, HL, HPA, HB⟩ := hrel
    by_cases hlt : k < m
    · have hi := HS.out.run_all (HL.out.held HS.out)
      rw [Hlen.out] at hi
      have hk52 : k < 52 := by omega
      obtain ⟨q, hq⟩ : ∃ q, q = (runP dn s cs).legal := ⟨_, rfl⟩
      have hq0 := hi.legal_pos hk52
      rw [← hq] at hq0
      haveI : Msk q := by rw [hq]; exact hi.legal_msk
      have hLg := fun W (h : PlayAt W bp (runP dn s cs) lv dn rk dc cs) => Legal_h bp lv dn rk dc (runP dn s cs) cs W (hi.ok (by omega)) h (hi.hands hk52)
      rw [← hq] at hLg
      have hDo := fun x W (h : PlayAt W bp (runP dn s cs) lv dn rk dc cs) (hx : q.testBit x = true) => Do_v bp lv dn rk dc x (runP dn s cs) cs W (hi.ok (by omega)) h hdn
        (hi.lt52 (runP dn s cs).turn_lt (hi.legal_sub (by rw [← hq]; exact hx))) (hi.hands hk52) (by rw [← hq]; exact hx) (hi.trick (hi.legal_sub (by rw [← hq]; exact hx))) (by rw [Hlen.out]; omega)
      have hsn := fun x (hx : q.testBit x = true) => HL.out.snoc (x := x) (by rw [← hq]; exact hx)
      have HLG := Lib.hid hLg; have HDO := Lib.hid hDo; have HSN := Lib.hid hsn; have HI := Lib.hid hi
      have hq1 : 1 ≤ pc q := by
        rw [pc_cds]
        rcases hc : cds q with _ | ⟨y, ys⟩
        · exact (hq0 ((cds_nil q).1 hc)).elim
        · simp
      have hq2 : pc q ≤ 52 := pc_le q
      have HQ1 := Lib.hid hq1; have HQ2 := Lib.hid hq2
      clear hLg hDo hsn hi hq hq0 hq1 hq2
      go_wp2_with fail
      refine (HLG.out _ HPA.out).mono ?_
      rintro e w' ⟨rfl, hb⟩
      have HP2 := Lib.hid (HPA.out.below hb)
      have HB2 := Lib.hid (HB.out.trans (hb.mono (by have := HPA.out.lt; omega)))
      clear hb
      go_wp2_with fail
      refine (bits_v q _).mono ?_
      rintro e w2 ⟨A2, cap2, n2, rfl, Hn2, hcap2, hr2, hb⟩
      have HP3 := Lib.hid (HP2.out.below hb)
      have HB3 := Lib.hid (HB2.out.trans (hb.mono (by have := HP2.out.lt; omega)))
      have HR2 := Lib.hid hr2
      have hn2 : 1 ≤ n2 := by rw [Hn2.out]; exact HQ1.out
      have hn52 : n2 ≤ 52 := by rw [Hn2.out]; exact HQ2.out
      clear hb hr2
      have hnz : ((n2 : Int) == 0) = false := by rw [beq_eq_false_iff_ne]; omega
      go_wp2_with fail
      refine (pick_h A cap n xs _ _ hn hlen ((HR.out.low' HA.out HB3.out)) (by omega) (by omega) HX.out).mono ?_
      rintro e w' ⟨p, rfl, hp, Hp, rfl⟩
      have hpn : p % n2 < n2 := Nat.mod_lt _ (by omega)
      obtain ⟨g3, o3, rfl, hc3⟩ := HR2.out.pos (by rw [← pc_cds]; exact HQ1.out)
      obtain ⟨y, hy⟩ : ∃ y, (cds q)[p % n2]? = some y := ⟨_, List.getElem?_eq_getElem (by rw [← pc_cds, ← Hn2.out]; exact hpn)⟩
      have hcy := hc3 _ y hy
      have hyq := ((mem_cds q y).1 (List.mem_of_getElem? hy)).2
      have HYQ := Lib.hid hyq
      clear hc3 hy hyq
      go_wp2_with fail
      refine (HDO.out y _ HP3.out HYQ.out).mono ?_
      rintro e w4 ⟨rfl, HP4, hb4⟩
      have HB4 := Lib.hid (HB3.out.trans hb4)
      clear hb4
      go_wp2_with fail
      go_roundw
      case rel => exact ⟨k + 1, cs ++ [y], by omega, by go_num, Lib.hid (by rw [List.length_append, Hlen.out]; rfl), Lib.hid (HSN.out y HYQ.out), Lib.hid (by rw [runP_snoc]; exact HP4.out), HB4⟩
      case measure => simp [intOf]; omega
    · obtain rfl : k = m := by omega
      go_wp2_with fail
      go_ret
      exact ⟨rfl, cs, Hlen, HL, HPA, HB.out⟩
end Go.Proofs

/- play: Cards, Tricks, Result -/
namespace Go.Proofs
open Go.RowKit
theorem tricks_v (bp lv dn rk dc : Nat) (s : PS) (dl : List Nat) (w : World) (h : PlayAt w bp s lv dn rk dc dl) :
    Calls Try.prog 32 #[.pointer (some ⟨bp, 0, none⟩)] w fun e w' => e = .returned (.tuple #[.int .i64 s.w0, .int .i64 s.w1]) ∧ RowKit.Below w.heap.size w w' := by
  obtain ⟨A, cap, dv, uv, ds, h1, h2, h3, h4, h5, h6, h7⟩ := h
  have hx4 : w.cell? ⟨bp, 4, none⟩ = some (.int .i64 s.w0) := cell_blk h1 rfl
  have hx5 : w.cell? ⟨bp, 5, none⟩ = some (.int .i64 s.w1) := cell_blk h1 rfl
  have hx14 : w.cell? ⟨bp, 14, none⟩ = some (.bool true) := cell_blk h1 rfl
  clear h1 h2 h3 h4 h5 h6 h7
  go_enter Try.func32, Try.ntmps32
  go_wp2_with fail
  refine (none_v bp _ hx14).mono ?_
  rintro e w' ⟨rfl, rfl⟩
  go_wp2_with fail
  go_quiet (fail)
  go_wp2_with fail
  go_ret2
  exact ⟨rfl, rfl, rfl, rfl, by simp, fun _ _ => rfl⟩
theorem result_v (bp lv dn rk dc : Nat) (s : PS) (dl : List Nat) (w : World) (h : PlayAt w bp s lv dn rk dc dl) (hz : s.a = 0 ∧ s.b = 0 ∧ s.c = 0 ∧ s.d = 0) :
    Calls Try.prog 35 #[.pointer (some ⟨bp, 0, none⟩)] w fun e w' => e = .returned (.tuple #[.int .i64 (if dc % 2 = 0 then s.w0 else s.w1 : Nat), .int .i64 0]) ∧ RowKit.Below w.heap.size w w' := by
  obtain ⟨A, cap, dv, uv, ds, h1, h2, h3, h4, h5, h6, h7⟩ := h
  obtain ⟨z1, z2, z3, z4⟩ := hz
  rw [z1, z2, z3, z4] at h1
  have hlt := lt_blk h1
  haveI : LtC bp w.heap.size := ⟨hlt⟩
  have hx0 : w.cell? ⟨bp, 0, none⟩ = some (.int .u64 0) := cell_blk h1 rfl
  have hx1 : w.cell? ⟨bp, 1, none⟩ = some (.int .u64 0) := cell_blk h1 rfl
  have hx2 : w.cell? ⟨bp, 2, none⟩ = some (.int .u64 0) := cell_blk h1 rfl
  have hx3 : w.cell? ⟨bp, 3, none⟩ = some (.int .u64 0) := cell_blk h1 rfl
  have hx4 : w.cell? ⟨bp, 4, none⟩ = some (.int .i64 s.w0) := cell_blk h1 rfl
  have hx5 : w.cell? ⟨bp, 5, none⟩ = some (.int .i64 s.w1) := cell_blk h1 rfl
  have hx6 : w.cell? ⟨bp, 6, none⟩ = some (.int .u8 s.ld) := cell_blk h1 rfl
  have hx7 : w.cell? ⟨bp, 7, none⟩ = some (.slice A s.tr.length cap) := cell_blk h1 rfl
  have hx11 : w.cell? ⟨bp, 11, none⟩ = some (.int .u8 dc) := cell_blk h1 rfl
  have hx14 : w.cell? ⟨bp, 14, none⟩ = some (.bool true) := cell_blk h1 rfl
  have hov := fun W => over_yes s.w0 s.w1 s.ld (.slice A s.tr.length cap) W
  simp only [stV] at hov
  have HO := Lib.hid hov
  clear h1 h2 h3 h4 h5 h6 h7 z1 z2 z3 z4 hlt hov
  generalize s.tr.length = n at *
  generalize s.w0 = w0 at *
  generalize s.w1 = w1 at *
  generalize s.ld = ld at *
  rcases (show dc % 2 = 0 ∨ dc % 2 = 1 by omega) with hq | hq
  all_goals
    have hqi : (dc : Int) % 2 = (dc % 2 : Nat) := by omega
    rw [hq] at hqi
    have HQ := Lib.hid hq
    clear hq
    go_enter Try.func35, Try.ntmps35
    go_wp2_with fail
    refine (none_v bp _ hx14).mono ?_
    rintro e w' ⟨rfl, rfl⟩
    go_wp2_with fail
    refine (HO.out _).mono ?_
    rintro e w' ⟨rfl, hb⟩
    obtain ⟨l4, d5, rfl⟩ := hb.gar
    clear hb
    go_wp2_with fail
    go_quiet (fail)
    go_wp2_with fail
    go_ret2
    refine ⟨?_, ?_⟩
    · first | rfl | (rw [HQ.out]; rfl)
    · simp only [World.gar_drewN, World.gar_drew]; exact RowKit.Below.of_gar _ _ _
set_option maxHeartbeats 2000000 in
set_option maxRecDepth 100000 in
theorem cards_v (bp lv dn rk dc : Nat) (s : PS) (dl : List Nat) (w : World) (h : PlayAt w bp s lv dn rk dc dl) (hN : dl.length ≤ 60) :
    Calls Try.prog 28 #[.pointer (some ⟨bp, 0, none⟩)] w fun e w' => ∃ (A : Option Addr) (cap n : Nat), e = .returned (.slice A n cap) ∧ Hid (n = dl.length) ∧ n ≤ cap ∧ RdS w' A dl ∧ (∀ g o, A = some ⟨g, o, none⟩ → w.heap.size ≤ g) ∧ RowKit.Below w.heap.size w w' := by
  obtain ⟨A, cap, dv, uv, ds, h1, h2, h3, h4, h5, h6, h7⟩ := h
  obtain ⟨i5, hj, hk0, hk1, hk2⟩ := info_parts Try.info5
  have hlt := lt_blk h1
  have hx12 : w.cell? ⟨bp, 12, none⟩ = some dv := cell_blk h1 rfl
  have hx14 : w.cell? ⟨bp, 14, none⟩ = some (.bool true) := cell_blk h1 rfl
  obtain ⟨n, hn⟩ : ∃ n, n = dl.length := ⟨_, rfl⟩
  rw [← hn] at h6 hN
  obtain ⟨B, cp, rfl⟩ : ∃ B cp, dv = .slice B n cp := by
    rcases h6.2 with ⟨rfl, h0⟩ | ⟨g, cap, cur, rfl, _⟩
    · exact ⟨none, 0, by rw [h0]⟩
    · exact ⟨_, cap, rfl⟩
  have HN := Lib.hid hn; have HO := Lib.hid h6; have HST := Lib.hid h7
  clear h1 h2 h3 h4 h5 h6 h7 hn
  go_enter Try.func28, Try.ntmps28
  go_wp2_with fail
  refine (none_v bp _ hx14).mono ?_
  rintro e w' ⟨rfl, rfl⟩
  go_wp2_with fail
  go_loopw [3, 13] (fun t i wr => ∃ (k : Nat) (v : Value), k ≤ n ∧ i = .int .i64 k ∧ v = t ∧ ∃ l d, wr = w.gar l d ∧ wr.ownsRow w.heap.size 5 1 v k (u8s (dl.take k))) (fun _ i _ => n - (intOf i).toNat)
  case atStart => exact ⟨0, _, Nat.zero_le _, rfl, rfl, [], _, World.gar_nil.symm, World.ownsRow_nil _ _ _ _⟩
  case round =>
    obtain ⟨k, v, hk, rfl, rfl, l, d, rfl, hown⟩ := hrel
    by_cases hlt : k < n
    · obtain ⟨x, hx⟩ : ∃ x, dl[k]? = some x := ⟨_, List.getElem?_eq_getElem (by rw [← HN.out]; exact hlt)⟩
      obtain ⟨a', b', c', d', w0', w1', ld', A', n', cap', hst⟩ := HST.out k x hx
      obtain ⟨g, rfl, hgl⟩ : ∃ g, B = some ⟨g, 0, none⟩ ∧ g < w.heap.size := by
        rcases HO.out.2 with ⟨h1, h0⟩ | ⟨g, cap, cur, h1, _, h2, _⟩
        · omega
        · obtain ⟨rfl, _⟩ : B = some ⟨g, 0, none⟩ ∧ cp = cap := by simpa using h1
          exact ⟨g, rfl, lt_blk h2⟩
      have hc : ∀ t, t < 9 → ∀ u, (stepC a' b' c' d' w0' w1' ld' (.slice A' n' cap') x)[t]? = some u → (w.gar l d).cell? ⟨g, k * 9 + t, none⟩ = some u := by
        intro t ht u hu
        have := World.ownsRow.cells HO.out (g := g) rfl (9 * k + t) u (by rw [hst t ht]; exact hu)
        have hadd : (⟨g, 0, none⟩ : Addr).add (9 * k + t) = ⟨g, k * 9 + t, none⟩ := by
          unfold Addr.add; split <;> simp_all
          omega
        rw [hadd] at this
        rw [World.cell?_gar_past _ _ hgl]; exact this
      have c0 := hc 0 (by omega) _ rfl
      have c1 := hc 1 (by omega) _ rfl
      have c2 := hc 2 (by omega) _ rfl
      have c3 := hc 3 (by omega) _ rfl
      have c4 := hc 4 (by omega) _ rfl
      have c5 := hc 5 (by omega) _ rfl
      have c6 := hc 6 (by omega) _ rfl
      have c7 := hc 7 (by omega) _ rfl
      have c8 := hc 8 (by omega) _ rfl
      rw [Nat.add_zero] at c0
      clear hc hst
      have hlt2 : ∀ q, v.ownBlock = some q → w.heap.size ≤ q := fun q hq => (hown.lt q hq).1
      have hrow : Hid (u8s (dl.take k) ++ [.int .u8 (x : Int)] = u8s (dl.take (k + 1))) := Lib.hid (by rw [u8s_snoc, List.take_add_one, hx]; rfl)
      clear hx
      go_wp2_with (at_builtin; refine wpList_append_own _ rfl (.tmp 17) (.tmp 20) 22 rfl w.heap.size 5 i5 _ 1 1 Try.underlying22 hj hk0 hk1 hk2 rfl (by decide) v k (u8s (dl.take k)) rfl ((hown.alloc _).alloc _) ⟨w.heap.size + l.length + 1, 0, none⟩ 1 1 [.int .u8 x] (by simp [Act.eval]) rfl ?c1 ?c2 ?c3 ?c4 ?c5 ?_)
      case c1 => exact cells_new _ [.int .u8 x] 5 _ (by simp)
      case c2 => intro u hu; simp only [List.mem_cons, List.not_mem_nil, or_false] at hu; rcases hu with rfl; rfl
      case c3 => unfold maxLen; omega
      case c4 => omega
      case c5 => simp; omega
      intro v2 w1 hn1 hg1 _
      have hb1 := below_grown hg1 (B := w.heap.size) (by simp; omega) hlt2
      have hb2 : RowKit.Below w.heap.size (w.gar l d) w1 := by
        refine RowKit.Below.trans ?_ hb1
        rw [World.gar_alloc, World.gar_alloc]
        exact ⟨rfl, rfl, rfl, by simp, fun q hq => by rw [World.heap_gar_past hq, World.heap_gar_past hq]⟩
      obtain ⟨l4, d4, rfl⟩ := RowKit.Below.gar' hb2
      clear hg1 hb1 hb2 hlt2 hown
      rw [hrow.out] at hn1
      go_wp2
      go_roundw
      case rel => exact ⟨k + 1, v2, by omega, by go_num, rfl, l4, d4, rfl, hn1⟩
      case measure => simp [intOf]; omega
    · obtain rfl : k = n := by omega
      rw [HN.out, List.take_length] at hown
      have hlow := fun q hq => (hown.lt q hq).1
      obtain ⟨A2, cap2, rfl, hcap2, hr2⟩ := rds_own hown rfl
      have HLOW : Hid (∀ g o, A2 = some ⟨g, o, none⟩ → w.heap.size ≤ g) := Lib.hid fun g o e => hlow g (by rw [e]; rfl)
      clear hlow
      rw [← HN.out] at hcap2 ⊢
      have HR2 := Lib.hid hr2
      clear hr2 hown
      go_wp2_with fail
      go_ret
      exact ⟨A2, cap2, k, rfl, HN, hcap2, HR2.out, HLOW.out, RowKit.Below.of_gar _ _ _⟩
end Go.Proofs

/- revoke: count, dealt, seat, winner, rounds -/
namespace Go.Proofs
open Go.RowKit
theorem cds_drop_low {m m' k : Nat} [Msk m] [Msk m'] (h : cds m' = (cds m).drop k) (h0 : m' ≠ 0) : ∃ c, c < 52 ∧ m' &&& (m' - 1) = andn m' (b1 c) ∧ cds (andn m' (b1 c)) = (cds m).drop (k + 1) ∧ k < (cds m).length := by
  cases hc : cds m' with
  | nil => exact (h0 ((cds_nil m').1 hc)).elim
  | cons c cs =>
    refine ⟨c, (cds_cons hc).1, by rw [low_pred hc, b1_eq], ?_, ?_⟩
    · rw [b1_eq, cds_rest hc, ← List.drop_drop, ← h, hc]; rfl
    · have : (cds m').length = (cds m).length - k := by rw [h, List.length_drop]
      rw [hc] at this; simp at this; omega
set_option maxHeartbeats 1000000 in
theorem count_v (m : Nat) (w : World) [hm : Msk m] : Calls Try.prog 70 #[.int .u64 m] w fun e w' => ∃ n : Nat, e = .returned (.int .i64 n) ∧ Hid (n = pc m) ∧ w = w' := by
  have hl52 : (cds m).length ≤ 52 := by rw [← pc_cds]; exact pc_le m
  obtain ⟨N, hN⟩ : ∃ N, N = (cds m).length := ⟨_, rfl⟩
  rw [← hN] at hl52
  have HN := Lib.hid hN
  clear hN
  go_enter Try.func70, Try.ntmps70
  go_wp2
  go_loop [0, 3] (fun v i => ∃ k m' : Nat, k ≤ N ∧ i = .int .i64 k ∧ v = .int .u64 m' ∧ Msk m' ∧ Hid (cds m' = (cds m).drop k)) (fun _ i => 53 - (intOf i).toNat)
  case atStart => exact ⟨0, m, Nat.zero_le _, rfl, rfl, hm, Lib.hid (by simp)⟩
  case round =>
    obtain ⟨k, m', hk, rfl, rfl, hm', Hc⟩ := hrel
    by_cases hz : m' = 0
    · subst hz
      have hkN : k = pc m := by
        have h1 : (cds 0).length = (cds m).length - k := by rw [Hc.out, List.length_drop]
        have h0 : (cds 0).length = 0 := by decide
        rw [pc_cds, ← HN.out]; have := HN.out; omega
      have HK := Lib.hid hkN
      clear hkN
      go_wp2
      go_ret
      exact ⟨k, rfl, HK, rfl⟩
    · obtain ⟨c, hc52, h1, h2, h3⟩ := cds_drop_low Hc.out hz
      haveI : LtC c 52 := ⟨hc52⟩
      have hm1 := Msk.lt64 m'
      have hlt : k < N := by rw [HN.out]; exact h3
      have hand : bits .and .u64 (m' : Int) ((m' : Int) - 1) = ((andn m' (b1 c) : Nat) : Int) := by
        have e : (m' : Int) - 1 = ((m' - 1 : Nat) : Int) := by omega
        rw [e, u64_and_nat m' _ hm1 (by omega), h1]
      have H2 := Lib.hid h2
      clear h1 h2 h3
      have hpos : 0 < m' := by omega
      have hp : (1 : Int) ≤ (m' : Int) := by omega
      clear hz
      go_wp2
      go_round
      case rel => exact ⟨k + 1, andn m' (b1 c), by omega, by go_num, rfl, inferInstance, H2⟩
      case measure => simp [intOf]; omega
theorem count13 (m : Nat) (w : World) [Msk m] (h : pc m = 13) : Calls Try.prog 70 #[.int .u64 m] w fun e w' => e = .returned (.int .i64 13) ∧ w = w' :=
  (count_v m w).mono (by rintro e w' ⟨n, rfl, Hn, rfl⟩; rw [Hn.out, h]; exact ⟨rfl, rfl⟩)
/-- A record as a value. -/
def recV (a b c d tm dc : Nat) (C : Value) : Value := .agg #[.int .u64 a, .int .u64 b, .int .u64 c, .int .u64 d, .int .u8 tm, .int .u8 dc, C]
/-- A round as a value. -/
def rndV (ld : Nat) (C : Value) (a b c d : Nat) : Value := .agg #[.int .u8 ld, C, .int .u64 a, .int .u64 b, .int .u64 c, .int .u64 d]
theorem rseat_v (ld a b c d i : Nat) (C : Value) (w : World) (hld : ld ≤ 3) (hi : i ≤ 4) :
    Calls Try.prog 67 #[rndV ld C a b c d, .int .i64 i] w fun e w' => e = .returned (.int .u8 ((ld + i) % 4 : Nat)) ∧ RowKit.Below w.heap.size w w' := by
  unfold rndV
  go_enter Try.func67, Try.ntmps67
  go_wp2
  go_ret
  refine ⟨by simp, ?_⟩
  simp only [World.alloc_gar, World.gar_gar, World.gar_drewN, World.gar_drew]; exact RowKit.Below.of_gar _ _ _
theorem winner_h (A : Option Addr) (cap t m : Nat) (xs : List Nat) (w : World) (hm : Hid (m = xs.length)) (hcap : m ≤ cap) (hr : RdS w A xs) (ht : Trick xs) (h4 : t ≤ 4) :
    Calls Try.prog 98 #[.int .u8 t, .slice A m cap] w fun e w' => ∃ n : Nat, e = .returned (.tuple #[.int .i64 n, .int .i64 0]) ∧ n ≤ 3 ∧ Hid (n = winI t xs) ∧ RowKit.Below w.heap.size w w' := by
  have := hm.out
  subst this
  refine (winner_v A cap t xs w hcap hr ht h4).mono ?_
  rintro e w' ⟨n, rfl, Hn, hb⟩
  exact ⟨n, rfl, by have := winI_lt t ht.pos; have := ht.le; rw [Hn.out]; omega, Hn, hb⟩
theorem rwinner_v (ld a b c d t m cap : Nat) (A : Option Addr) (xs : List Nat) (w : World) (hld : ld ≤ 3) (hm : Hid (m = xs.length)) (hcap : m ≤ cap) (hr : RdS w A xs) (ht : Trick xs) (h4 : t ≤ 4) :
    Calls Try.prog 69 #[rndV ld (.slice A m cap) a b c d, .int .u8 t] w fun e w' => ∃ n : Nat, e = .returned (.int .u8 n) ∧ Hid (n = (ld + winI t xs) % 4) ∧ RowKit.Below w.heap.size w w' := by
  have hwn := fun W (h : RdS W A xs) => winner_h A cap t m xs W hm hcap h ht h4
  have HW := Lib.hid hwn
  have HR : Hid (∀ l d, RdS (w.gar l d) A xs) := Lib.hid fun l d => hr.below (RowKit.Below.of_gar _ _ _)
  clear hwn hr
  unfold rndV
  go_enter Try.func69, Try.ntmps69
  go_wp2_with fail
  rw [World.alloc_gar]
  refine (HW.out _ (HR.out _ _)).mono ?_
  rintro e w' ⟨n, rfl, hn3, Hn, hb⟩
  rw [← World.alloc_gar] at hb
  obtain ⟨l, d1, rfl⟩ := hb.gar
  clear hb
  go_wp2_with fail
  refine (rseat_v ld a b c d n (.slice A m cap) _ hld (by omega)).mono ?_
  rintro e w' ⟨rfl, hb⟩
  obtain ⟨l2, d2, rfl⟩ := hb.gar
  clear hb
  go_wp2_with fail
  go_ret
  refine ⟨(ld + n) % 4, by simp, Lib.hid (by rw [Hn.out]), ?_⟩
  simp only [World.alloc_gar, World.gar_gar, World.gar_drewN, World.gar_drew]; exact RowKit.Below.of_gar _ _ _
theorem rounds_v (a b c d tm dc : Nat) (C : Option Addr) (n cap : Nat) (w : World) :
    Calls Try.prog 66 #[recV a b c d tm dc (.slice C n cap)] w fun e w' => e = .returned (.func (.func 97) #[] #[.pointer (some ⟨w.heap.size, 0, none⟩)]) ∧ w' = w.alloc (.cells #[.int .u64 a, .int .u64 b, .int .u64 c, .int .u64 d, .int .u8 tm, .int .u8 dc, .slice C n cap] 79) := by
  unfold recV
  go_enter Try.func66, Try.ntmps66
  go_wp2
  go_ret
  exact ⟨rfl, rfl⟩
set_option maxHeartbeats 2000000 in
set_option maxRecDepth 100000 in
theorem dealt_v (a b c d tm dc : Nat) (C : Option Addr) (n cap : Nat) (w : World) (hF : Full a b c d) (htm : tm ≤ 4) (hdc : dc ≤ 3) :
    Calls Try.prog 65 #[recV a b c d tm dc (.slice C n cap)] w fun e w' => e = .returned (.bool true) ∧ RowKit.Below w.heap.size w w' := by
  haveI := hF.ma; haveI := hF.mb; haveI := hF.mc; haveI := hF.md
  have nz : ∀ m, pc m = 13 → m ≠ 0 := fun m h e => by rw [e, pc_zero] at h; omega
  have za := nz a hF.a13; have zb := nz b hF.b13; have zc := nz c hF.c13; have zd := nz d hF.d13
  have ea : ((a : Int) == 0) = false := by rw [beq_eq_false_iff_ne]; omega
  have eb : ((b : Int) == 0) = false := by rw [beq_eq_false_iff_ne]; omega
  have ec : ((c : Int) == 0) = false := by rw [beq_eq_false_iff_ne]; omega
  have ed : ((d : Int) == 0) = false := by rw [beq_eq_false_iff_ne]; omega
  have ga : decide ((4503599627370496 : Int) ≤ a) = false := by have := (inferInstance : Msk a).lt; simp; omega
  have gb : decide ((4503599627370496 : Int) ≤ b) = false := by have := (inferInstance : Msk b).lt; simp; omega
  have gc : decide ((4503599627370496 : Int) ≤ c) = false := by have := (inferInstance : Msk c).lt; simp; omega
  have gd : decide ((4503599627370496 : Int) ≤ d) = false := by have := (inferInstance : Msk d).lt; simp; omega
  have e0 : b &&& a = 0 := by rw [Nat.and_comm]; exact hF.ab
  have e1 : c &&& (a ||| b) = 0 := by rw [Nat.and_or_distrib_left, Nat.and_comm c a, Nat.and_comm c b, hF.ac, hF.bc]; rfl
  have e2 : d &&& (a ||| b ||| c) = 0 := by rw [Nat.and_or_distrib_left, Nat.and_or_distrib_left, Nat.and_comm d a, Nat.and_comm d b, Nat.and_comm d c, hF.ad, hF.bd, hF.cd]; rfl
  have ha := hF.a13; have hb := hF.b13; have hc := hF.c13; have hd := hF.d13
  clear hF nz za zb zc zd
  have d1 : decide ((tm : Int) ≤ 4) = true := by simp; omega
  have d2 : decide ((dc : Int) ≤ 3) = true := by simp; omega
  unfold recV
  go_enter Try.func65, Try.ntmps65
  go_wp2_with fail
  refine wp_loop_rounds 5 ?_
  rw [rounds_succ]
  go_wp2_with fail
  go_quiet ((go_at_call 70; exact quiet_left (count13 _ _ (by assumption))))
  go_wp2_with fail
  rw [rounds_succ]
  go_wp2_with fail
  go_quiet ((go_at_call 70; exact quiet_add_left (count13 _ _ (by assumption))))
  go_wp2_with fail
  rw [rounds_succ]
  go_wp2_with fail
  go_quiet ((go_at_call 70; exact quiet_add_left (count13 _ _ (by assumption))))
  go_wp2_with fail
  rw [rounds_succ]
  go_wp2_with fail
  go_quiet ((go_at_call 70; exact quiet_add_left (count13 _ _ (by assumption))))
  go_wp2_with fail
  rw [rounds_succ]
  go_wp2_with fail
  go_ret
  refine ⟨rfl, ?_⟩
  simp only [World.alloc_gar, World.gar_gar, World.gar_drewN, World.gar_drew]; exact RowKit.Below.of_gar _ _ _
end Go.Proofs
