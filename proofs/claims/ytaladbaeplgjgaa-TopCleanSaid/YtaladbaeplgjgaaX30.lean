/- finessetop.TopClean: the walk -/
import Derived.Test.YtaladbaeplgjgaaX25
import Derived.Test.YtaladbaeplgjgaaX27
import Derived.Test.YtaladbaeplgjgaaX14
import Derived.Test.YtaladbaeplgjgaaX29
import Derived.Test.YtaladbaeplgjgaaX20
set_option linter.unusedSimpArgs false
set_option linter.unusedVariables false
namespace Go.Proofs
open Go.RowKit
theorem sideN_cons (sd x : Nat) (xs : List Nat) : sideN sd (x :: xs) = sideN sd xs + (if x % 2 = sd then 1 else 0) := by
  unfold sideN
  by_cases h : x % 2 = sd
  · simp [h]
  · simp [h]
theorem World.drew_gar (w : World) (l : List Obj) (d : Nat) : w.drew.gar l d = w.gar l d := rfl
theorem playAt_new (a b c d ld lv dn rk dc : Nat) (Y : World) : PlayAt (Y.alloc (.cells (playC a b c d 0 0 ld (.slice none 0 0) lv dn rk dc (.slice none 0 0) (.slice none 0 0)) 134)) Y.heap.size (start a b c d ld) lv dn rk dc [] := by
  refine ⟨none, 0, .slice none 0 0, .slice none 0 0, [], ?_, Nat.zero_le _, fun _ => ⟨rfl, rfl⟩, .inl rfl, fun g o h => by simp at h, World.ownsRow_nil _ _ _ _, fun j x h => by simp at h⟩
  exact World.heap_alloc_at (hn := rfl) ..

theorem contract_h (A : Option Addr) (n cap : Nat) (xs : List Nat) (w : World) (hn : Hid (n = xs.length)) (hlen : n ≤ 4611686018427387904) (h : RdS w A xs) (hx : ∀ x ∈ xs, x < 256) :
    Calls Try.prog 25 #[.slice A n cap] w fun e w' => ∃ lv dn rk dc : Nat, e = .returned (.agg #[.int .u8 lv, .int .u8 dn, .int .u8 rk, .int .u8 dc]) ∧ 1 ≤ lv ∧ lv ≤ 7 ∧ dn ≤ 4 ∧ rk ≤ 2 ∧ dc ≤ 3 ∧ RowKit.Below w.heap.size w w' := by
  have := hn.out
  subst this
  exact contract_v A cap xs w hlen h hx
set_option maxHeartbeats 4000000 in
set_option maxRecDepth 100000 in
theorem clean_v (n : Int) (mn nb nc cb cc : Nat) (A B : Option Addr) (bid cards : List Nat) (w : World) (h1 : -9223372036854775808 ≤ n) (h2 : n ≤ 9223372036854775807) (hm : mn < 256)
    (hnb : Hid (nb = bid.length)) (hlb : nb ≤ 4611686018427387904) (hrb : RdS w A bid) (hxb : ∀ x ∈ bid, x < 256)
    (hnc : Hid (nc = cards.length)) (hlc : nc ≤ 4611686018427387904) (hrc : RdS w B cards) (hxc : ∀ x ∈ cards, x < 256) (hB : cards ≠ [] → ∀ g o, B = some ⟨g, o, none⟩ → g < w.heap.size) :
    Calls Try.prog 4 #[.int .i64 n, .slice A nb cb, .slice B nc cc, .int .u8 mn] w fun e w' => e = .returned (.bool true) ∧ RowKit.Below w.heap.size w w' := by
  have HRB := Lib.hid hrb; have HRC := Lib.hid hrc; have HXB := Lib.hid hxb; have HXC := Lib.hid hxc; have HB := Lib.hid hB
  clear hrb hrc hxb hxc hB
  go_enter Try.func4, Try.ntmps4
  go_wp2_with fail
  refine (seedOf_v n _ h1 h2).mono ?_
  rintro e w' ⟨s, rfl, hs1, hs2, rfl⟩
  have HSD : Hid (Seed s) := Lib.hid ⟨hs1, hs2⟩
  clear h1 h2 hs1 hs2
  go_wp2_with fail
  refine (random0_v s _ HSD.out).mono ?_
  rintro e w' ⟨s', a, b, c, d, rfl, _, hF, hb⟩
  obtain ⟨l1, d1, rfl⟩ := hb.gar
  have HF := Lib.hid hF
  clear hb hF HSD
  go_wp2_with fail
  go_at_call 25
  refine (contract_h A nb cb bid _ hnb hlb ?_ HXB.out).mono ?_
  · refine HRB.out.below ?_
    simp only [World.alloc_gar, World.gar_gar]; exact RowKit.Below.of_gar _ _ _
  rintro e w' ⟨lv, dn, rk, dc, rfl, q1, q2, q3, q4, q5, hb⟩
  obtain ⟨l2, d2, rfl⟩ := hb.gar
  clear hb
  have HQ : Hid (1 ≤ lv ∧ lv ≤ 7 ∧ dn ≤ 4 ∧ rk ≤ 2 ∧ dc ≤ 3) := Lib.hid ⟨q1, q2, q3, q4, q5⟩
  clear q1 q2 q3 q4 q5
  go_wp2_with fail
  go_at_call 26
  refine (new_v a b c d lv dn rk dc _ HF.out HQ.out.1 HQ.out.2.1 HQ.out.2.2.1 HQ.out.2.2.2.1 HQ.out.2.2.2.2).mono ?_
  rintro e w' ⟨g, Y, rfl, hb, rfl, hg⟩
  have hPA := playAt_new a b c d ((dc + 1) % 4) lv dn rk dc Y
  rw [← hg] at hPA
  obtain ⟨X, hX⟩ : ∃ X, X = Y.alloc (.cells (playC a b c d 0 0 ((dc + 1) % 4) (.slice none 0 0) lv dn rk dc (.slice none 0 0) (.slice none 0 0)) 134) := ⟨_, rfl⟩
  rw [← hX] at hPA ⊢
  obtain ⟨l3, d3, rfl⟩ := hb.gar
  clear hb
  have hBX : RowKit.Below w.heap.size w X := by
    rw [hX]; simp only [World.alloc_gar, World.gar_gar]; exact RowKit.Below.of_gar _ _ _
  generalize hb1 : w.heap.size + l1.length = b1
  generalize hb2 : b1 + 1 + l2.length = b2
  have hx0 : X.cell? ⟨b1, 0, none⟩ = some (.int .u64 a) := by rw [hX, ← hb1]; simp [go_sem]
  have hx1 : X.cell? ⟨b1, 1, none⟩ = some (.int .u64 b) := by rw [hX, ← hb1]; simp [go_sem]
  have hx2 : X.cell? ⟨b1, 2, none⟩ = some (.int .u64 c) := by rw [hX, ← hb1]; simp [go_sem]
  have hx3 : X.cell? ⟨b1, 3, none⟩ = some (.int .u64 d) := by rw [hX, ← hb1]; simp [go_sem]
  have hy1 : X.cell? ⟨b2, 1, none⟩ = some (.int .u8 dn) := by rw [hX, ← hb2, ← hb1]; simp [go_sem]
  have hy3 : X.cell? ⟨b2, 3, none⟩ = some (.int .u8 dc) := by rw [hX, ← hb2, ← hb1]; simp [go_sem]
  have hs1 : b1 < g := by rw [hg, ← hb1]; simp; omega
  have hs2 : b2 < g := by rw [hg, ← hb2, ← hb1]; simp; omega
  have hs0 : w.heap.size ≤ g := by rw [hg]; simp; omega
  have HPA := Lib.hid hPA
  have HBX := Lib.hid hBX
  have HS : Hid (b1 < g ∧ b2 < g ∧ w.heap.size ≤ g) := Lib.hid ⟨hs1, hs2, hs0⟩
  have HX : Hid (X.cell? ⟨b1, 0, none⟩ = some (.int .u64 a) ∧ X.cell? ⟨b1, 1, none⟩ = some (.int .u64 b) ∧ X.cell? ⟨b1, 2, none⟩ = some (.int .u64 c) ∧ X.cell? ⟨b1, 3, none⟩ = some (.int .u64 d) ∧ X.cell? ⟨b2, 1, none⟩ = some (.int .u8 dn) ∧ X.cell? ⟨b2, 3, none⟩ = some (.int .u8 dc)) := Lib.hid ⟨hx0, hx1, hx2, hx3, hy1, hy3⟩
  clear hPA hBX hs0 hs1 hs2 hx0 hx1 hx2 hx3 hy1 hy3 hX hb1 hb2 hg l1 l2 l3 d1 d2 d3 hnb hlb HRB HXB
  go_upto_if 50 with fail
  go_cut [15] (fun t15 wx => ∃ pl : Nat, pl ≤ 52 ∧ t15 = .int .i64 pl ∧ X = wx)
  case first =>
    by_cases h200 : mn < 200
    · have h200' : (mn : Int) < 200 := by omega
      go_wp2_with fail
      go_meet
      exact ⟨mn % 53, by omega, by go_num, rfl⟩
    · have h200' : ¬ ((mn : Int) < 200) := by omega
      go_wp2_with fail
      go_meet
      exact ⟨52, by omega, rfl, rfl⟩
  case rest =>
    obtain ⟨pl, hpl, rfl, rfl⟩ := hcut
    go_wp2_with fail
    refine (some_v g lv dn rk dc pl nc cc B cards _ X (Inv.start HF.out (by omega)) HPA.out HQ.out.2.2.1 hpl hnc hlc (HRC.out.below HBX.out) (fun h0 g' o e => Nat.lt_of_lt_of_le (HB.out h0 g' o e) HS.out.2.2) HXC.out).mono ?_
    rintro e w4 ⟨rfl, cs, Hcs, HL, HP4, hb4⟩
    have hx0 : w4.cell? ⟨b1, 0, none⟩ = some (.int .u64 a) := by rw [hb4.cell (p := ⟨b1, _, none⟩) HS.out.1]; exact HX.out.1
    have hx1 : w4.cell? ⟨b1, 1, none⟩ = some (.int .u64 b) := by rw [hb4.cell (p := ⟨b1, _, none⟩) HS.out.1]; exact HX.out.2.1
    have hx2 : w4.cell? ⟨b1, 2, none⟩ = some (.int .u64 c) := by rw [hb4.cell (p := ⟨b1, _, none⟩) HS.out.1]; exact HX.out.2.2.1
    have hx3 : w4.cell? ⟨b1, 3, none⟩ = some (.int .u64 d) := by rw [hb4.cell (p := ⟨b1, _, none⟩) HS.out.1]; exact HX.out.2.2.2.1
    have hy1 : w4.cell? ⟨b2, 1, none⟩ = some (.int .u8 dn) := by rw [hb4.cell (p := ⟨b2, _, none⟩) HS.out.2.1]; exact HX.out.2.2.2.2.1
    have hy3 : w4.cell? ⟨b2, 3, none⟩ = some (.int .u8 dc) := by rw [hb4.cell (p := ⟨b2, _, none⟩) HS.out.2.1]; exact HX.out.2.2.2.2.2
    have HB4 : Hid (RowKit.Below w.heap.size w w4) := Lib.hid (HBX.out.trans (hb4.mono HS.out.2.2))
    have hg4 := HP4.out.lt
    haveI : LtC b1 w4.heap.size := ⟨by have := HS.out.1; omega⟩
    haveI : LtC b2 w4.heap.size := ⟨by have := HS.out.2.1; omega⟩
    haveI : LtC g w4.heap.size := ⟨by omega⟩
    have hlen : cs.length ≤ 60 := by rw [Hcs.out]; omega
    have hcv := fun W (h : PlayAt W g (runP dn (start a b c d ((dc + 1) % 4)) cs) lv dn rk dc cs) => cards_v g lv dn rk dc (runP dn (start a b c d ((dc + 1) % 4)) cs) cs W h hlen
    have HCV := Lib.hid hcv
    have HPG : Hid (∀ l q, PlayAt (w4.gar l q) g (runP dn (start a b c d ((dc + 1) % 4)) cs) lv dn rk dc cs) := Lib.hid fun l q => HP4.out.below (RowKit.Below.of_gar _ _ _)
    clear hb4 hg4 hlen hcv HX HS HPA HBX HRC HXC HB
    go_upto_region 9 with fail
    go_cut [16] (fun t16 wx => ∃ (g2 N cp : Nat) (C : Option Addr), t16 = .pointer (some ⟨g2, 0, none⟩) ∧ Hid (N = cs.length) ∧ N ≤ cp ∧ Hid (wx.heap[g2]? = some (.cells #[.int .u64 a, .int .u64 b, .int .u64 c, .int .u64 d, .int .u8 dn, .int .u8 dc, .slice C N cp] 79)) ∧ Hid (RdS wx C cs) ∧ Hid (RowKit.Below w4.heap.size w4 wx))
    case first =>
      go_region_held3 (fun w' => w'.cell? ⟨b1, 0, none⟩ = some (.int .u64 a) ∧ w'.cell? ⟨b1, 1, none⟩ = some (.int .u64 b) ∧ w'.cell? ⟨b1, 2, none⟩ = some (.int .u64 c) ∧ w'.cell? ⟨b1, 3, none⟩ = some (.int .u64 d) ∧ w'.cell? ⟨b2, 1, none⟩ = some (.int .u8 dn) ∧ w'.cell? ⟨b2, 3, none⟩ = some (.int .u8 dc))
        (first | exact ⟨hx0, hx1, hx2, hx3, hy1, hy3⟩ | (simp [go_sem, hx0, hx1, hx2, hx3, hy1, hy3]; done))
        (first | (go_at_call 28; refine (HCV.out _ (by first | exact HP4.out | exact HPG.out _ _ | (simp only [World.alloc_gar, World.gar_gar, World.gar_drewN, World.gar_drew]; exact HPG.out _ _))).mono ?_; rintro e w' ⟨C, cp, N, rfl, HN, hcp, hrd, hlow, hb⟩; obtain ⟨l4, d5, rfl⟩ := hb.gar; clear hb))
      all_goals
        clear hx0 hx1 hx2 hx3 hy1 hy3
        have HRD := Lib.hid hrd
        have HLOW := Lib.hid hlow
        clear hrd hlow
        go_wp2_with fail
        go_meet
        refine ⟨_, N, cp, C, rfl, HN, hcp, Lib.hid ?_, Lib.hid ?_, Lib.hid ?_⟩
        · simp only [World.heap_drew, World.heap_gar_past', World.heap_alloc_past, World.heap_alloc_at, World.size_gar, World.size_alloc, lt_of_ltC, ne_of_ltC]
        · first
            | exact HRD.out
            | (have h : RdS (w4.gar l4 d5) C cs := HRD.out
               refine h.below ?_; simp only [World.alloc_gar, World.gar_drewN, World.gar_drew]; exact RowKit.Below.of_gar _ _ _)
            | (refine HRD.out.block fun g' o' e => ?_
               have h := HLOW.out g' o' e
               obtain ⟨q, rfl⟩ : ∃ q, g' = w4.heap.size + (q + 1) := ⟨g' - w4.heap.size - 1, by simp at h; omega⟩
               simp only [World.alloc_gar, World.drew_gar, World.gar_gar, World.heap_gar_at, List.singleton_append, List.getElem?_cons_succ])
        · simp only [World.alloc_gar, World.gar_gar, World.gar_drewN, World.gar_drew]; exact RowKit.Below.of_gar _ _ _
    case rest =>
      obtain ⟨g2, N, cp, C, rfl, HN, hcp, HG2, HRD, HB5⟩ := hcut
      have HP6 := Lib.hid (HP4.out.below HB5.out)
      have HB6 := Lib.hid (HB4.out.trans (HB5.out.mono (by have := HB4.out.size; omega)))
      clear HPG HP4 HB4 HB5 HCV hx0 hx1 hx2 hx3 hy1 hy3
      obtain rfl : N = pl := by rw [HN.out, Hcs.out]
      haveI : LtC g2 wc.heap.size := ⟨lt_blk HG2.out⟩
      have hs : Inv (start a b c d ((dc + 1) % 4)) 0 := Inv.start HF.out (by omega)
      have hh := HL.out.held hs
      have hrec : wc.cell? ⟨g2, 0, none⟩ = some (.int .u64 a) ∧ wc.cell? ⟨g2, 1, none⟩ = some (.int .u64 b) ∧ wc.cell? ⟨g2, 2, none⟩ = some (.int .u64 c) ∧ wc.cell? ⟨g2, 3, none⟩ = some (.int .u64 d) ∧ wc.cell? ⟨g2, 4, none⟩ = some (.int .u8 dn) ∧ wc.cell? ⟨g2, 5, none⟩ = some (.int .u8 dc) ∧ wc.cell? ⟨g2, 6, none⟩ = some (.slice C N cp) :=
        ⟨cell_blk HG2.out rfl, cell_blk HG2.out rfl, cell_blk HG2.out rfl, cell_blk HG2.out rfl, cell_blk HG2.out rfl, cell_blk HG2.out rfl, cell_blk HG2.out rfl⟩
      obtain ⟨r0, r1, r2, r3, r4, r5, r6⟩ := hrec
      have hrt := fun W (h : RdS W C cs) => right79_v a b c d dn dc N cp C cs W HF.out HN hpl hcp HQ.out.2.2.1 HQ.out.2.2.2.2 hh h
      have hfn := fun W (h : RdS W C cs) => find_v a b c d dn dc N cp C cs W HF.out HN hpl hcp HQ.out.2.2.1 HQ.out.2.2.2.2 HL.out h
      have hwn := fun W (h : RdS W C cs) => winners_v a b c d dn dc N cp C cs W HF.out HN hpl hcp HQ.out.2.2.1 HQ.out.2.2.2.2 hh h
      have hmo := fun (h52 : N < 52) W (h : RdS W C cs) => moved_o a b c d dn dc N cp C cs W HF.out HN h52 hcp HQ.out.2.2.1 HQ.out.2.2.2.2 HL.out h
      have hto := fun (h52 : N < 52) W (h : RdS W C cs) => tricks34_o a b c d dn dc N cp C cs W HF.out HN h52 hcp HQ.out.2.2.1 HQ.out.2.2.2.2 HL.out h
      have hmv := fun (h52 : Hid (N = 52)) W (h : RdS W C cs) => moved_v a b c d dn dc N cp C cs W HF.out HN h52 hcp HQ.out.2.2.1 HQ.out.2.2.2.2 HL.out h
      have htr := fun (h52 : Hid (N = 52)) W (h : RdS W C cs) => tricks34_v a b c d dn dc N cp C cs W HF.out HN h52 hcp HQ.out.2.2.1 HQ.out.2.2.2.2 HL.out h
      have hww := run_won hs hh N (by rw [HN.out]; omega)
      rw [List.take_of_length_le (show cs.length ≤ N by rw [HN.out]; omega)] at hww
      have hinv := hs.run_all hh
      obtain ⟨sE, hsE⟩ : ∃ q, q = runP dn (start a b c d ((dc + 1) % 4)) cs := ⟨_, rfl⟩
      obtain ⟨ws, hws⟩ : ∃ q, q = wins dn (start a b c d ((dc + 1) % 4)) cs (N / 4) := ⟨_, rfl⟩
      have hwl : ws.length = N / 4 := by rw [hws, wins_length]
      have h13 : Hid (N = 52) → wins dn (start a b c d ((dc + 1) % 4)) cs 13 = ws := fun h => by rw [hws, h.out]
      have hw4 : ∀ q ∈ ws, q < 4 := by rw [hws]; exact winsL_lt dn _ cs hs hh (N / 4) (by rw [← HN.out]; omega)
      have htr' := fun (h52 : Hid (N = 52)) W (h : RdS W C cs) => by have := htr h52 W h; rw [h13 h52] at this; exact this
      rw [← hsE, ← hws] at hww
      rw [← hws] at hwn
      rw [← hsE] at hinv HP6
      have hz : Hid (N = 52) → sE.a = 0 ∧ sE.b = 0 ∧ sE.c = 0 ∧ sE.d = 0 := fun h => Inv.empty (by rw [← HN.out, h.out] at hinv; exact hinv)
      have hwa : sE.w0 = sideN 0 ws ∧ sE.w1 = sideN 1 ws := ⟨by rw [hww.1]; show 0 + _ = _; omega, by rw [hww.2]; show 0 + _ = _; omega⟩
      simp only [recV] at hrt hfn hwn hmo hto hmv htr'
      have HRT := Lib.hid hrt; have HFN := Lib.hid hfn; have HWN := Lib.hid hwn; have HMO := Lib.hid hmo; have HTO := Lib.hid hto; have HMV := Lib.hid hmv; have HTR := Lib.hid htr'
      have HWL := Lib.hid hwl; have HW4 := Lib.hid hw4; have HZ := Lib.hid hz; have HWA := Lib.hid hwa
      have HDC := Lib.hid HQ.out.2.2.2.2
      clear hrt hfn hwn hmo hto hmv htr htr' hwl hw4 hz hwa hww hinv h13 hs hh hsE hws HQ HF HL hm
      clear HG2 Hcs hnc hlc
      go_wp2_with fail
      go_at_call 29
      refine (HRT.out _ HRD.out).mono ?_
      rintro e w' ⟨rfl, hb⟩; obtain ⟨l1, d1, rfl⟩ := hb.gar; clear hb
      go_wp2_with fail
      go_at_call 30
      refine (HFN.out _ (HRD.out.below (RowKit.Below.of_gar _ _ _))).mono ?_
      rintro e w' ⟨rfl, hb⟩; obtain ⟨l2, d2, rfl⟩ := hb.gar; clear hb
      simp only [World.gar_gar]
      go_wp2_with fail
      go_at_call 31
      refine (HWN.out _ (HRD.out.below (RowKit.Below.of_gar _ _ _))).mono ?_
      rintro e w' ⟨A5, n5, cap5, rfl, Hn5, hcap5, hrd5, hb⟩; obtain ⟨l3, d3, rfl⟩ := hb.gar; clear hb
      have HRD5 := Lib.hid hrd5
      clear hrd5
      simp only [World.gar_gar] at HRD5 ⊢
      go_wp2_with fail
      go_at_call 32
      refine (tricks_v g lv dn rk dc sE cs _ (HP6.out.below (RowKit.Below.of_gar _ _ _))).mono ?_
      rintro e w' ⟨rfl, hb⟩; obtain ⟨l4, d4, rfl⟩ := hb.gar; clear hb
      simp only [World.gar_gar]
      have hq5 : ((n5 : Int) != (N : Int) / 4) = false := by rw [bne_eq_false_iff_eq, Hn5.out]; omega
      have hn13 : n5 ≤ 13 := by rw [Hn5.out]; omega
      have hwn5 : Hid (n5 = ws.length) := Lib.hid (by rw [HWL.out, Hn5.out])
      have hD : ∀ sd k, sideN sd (ws.drop k) ≤ 13 := fun sd k => Nat.le_trans (sideN_le _ _) (by rw [List.length_drop, HWL.out]; omega)
      have HD := Lib.hid hD
      have HRD6 : Hid (RdS (wc.gar (l1 ++ (l2 ++ (l3 ++ l4))) d4) A5 ws) := Lib.hid (by have h := HRD5.out.below (RowKit.Below.of_gar _ l4 d4); simp only [World.gar_gar, List.append_assoc] at h; exact h)
      clear hD Hn5 HRD5
      go_upto_block 0 with fail
      go_cut [21, 22] (fun t21 t22 wx => t21 = .int .i64 0 ∧ t22 = .int .i64 0 ∧ wx = wc.gar (l1 ++ (l2 ++ (l3 ++ l4))) d4)
      case first =>
        clear hq5
        go_wp2_with fail
        rcases HRD6.out with h0 | ⟨g5, o5, rfl, hc5⟩
        · obtain rfl : n5 = 0 := by rw [hwn5.out, h0]; rfl
          refine wp_loop_rounds 1 ?_
          rw [rounds_succ]
          go_wp2_with fail
          go_meet
          refine ⟨?_, ?_, rfl⟩
          · rw [HWA.out.1, h0]; rfl
          · rw [HWA.out.2, h0]; rfl
        · have HC5 := Lib.hid hc5
          clear hc5
          go_loopw [21, 22, 121] (fun t21 t22 t121 wr => ∃ k x y : Nat, k ≤ n5 ∧ t121 = .int .i64 k ∧ t21 = .int .i64 x ∧ t22 = .int .i64 y ∧ x ≤ 13 ∧ y ≤ 13 ∧ Hid (x = sideN 0 (ws.drop k)) ∧ Hid (y = sideN 1 (ws.drop k)) ∧ wr = wc.gar (l1 ++ (l2 ++ (l3 ++ l4))) d4) (fun _ _ t121 _ => n5 - (intOf t121).toNat)
          case atStart =>
            refine ⟨0, sE.w0, sE.w1, Nat.zero_le _, rfl, rfl, rfl, ?_, ?_, Lib.hid HWA.out.1, Lib.hid HWA.out.2, rfl⟩
            · rw [HWA.out.1]; exact HD.out 0 0
            · rw [HWA.out.2]; exact HD.out 1 0
          case round =>
            obtain ⟨k, x, y, hk, rfl, rfl, rfl, hx13, hy13, Hx, Hy, rfl⟩ := hrel
            by_cases hlt : k < n5
            · obtain ⟨q, hq⟩ : ∃ q, ws[k]? = some q := ⟨_, List.getElem?_eq_getElem (by rw [← hwn5.out]; exact hlt)⟩
              have hq4 := HW4.out q (List.mem_of_getElem? hq)
              have hcq := HC5.out k q hq
              have hdr : ws.drop k = q :: ws.drop (k + 1) := by
                rw [List.getElem?_eq_some_iff] at hq
                obtain ⟨hq1, rfl⟩ := hq
                exact List.drop_eq_getElem_cons hq1
              have e0 : sideN 0 (ws.drop k) = sideN 0 (ws.drop (k + 1)) + (if q % 2 = 0 then 1 else 0) := by rw [hdr]; exact sideN_cons ..
              have e1 : sideN 1 (ws.drop k) = sideN 1 (ws.drop (k + 1)) + (if q % 2 = 1 then 1 else 0) := by rw [hdr]; exact sideN_cons ..
              clear hdr hq
              by_cases h2 : q % 2 = 0
              · have hb2 : ((q : Int) % 2 == 0) = true := by rw [beq_iff_eq]; omega
                rw [if_pos h2] at e0; rw [if_neg (by omega)] at e1
                obtain ⟨x, rfl⟩ : ∃ z, x = z + 1 := ⟨x - 1, by rw [Hx.out, e0]; rfl⟩
                have Hx' : Hid (x = sideN 0 (ws.drop (k + 1))) := Lib.hid (by have := Hx.out; omega)
                have Hy' : Hid (y = sideN 1 (ws.drop (k + 1))) := Lib.hid (by have := Hy.out; omega)
                clear e0 e1 h2 Hx Hy
                go_wp2_with fail
                go_roundw
                case rel => exact ⟨k + 1, x, y, by omega, by go_num, by go_num, rfl, by omega, hy13, Hx', Hy', trivial⟩
                case measure => simp [intOf]; omega
              · have hb2 : ((q : Int) % 2 == 0) = false := by rw [beq_eq_false_iff_ne]; omega
                rw [if_neg h2] at e0; rw [if_pos (by omega)] at e1
                obtain ⟨y, rfl⟩ : ∃ z, y = z + 1 := ⟨y - 1, by rw [Hy.out, e1]; rfl⟩
                have Hx' : Hid (x = sideN 0 (ws.drop (k + 1))) := Lib.hid (by have := Hx.out; omega)
                have Hy' : Hid (y = sideN 1 (ws.drop (k + 1))) := Lib.hid (by have := Hy.out; omega)
                clear e0 e1 h2 Hx Hy
                go_wp2_with fail
                go_roundw
                case rel => exact ⟨k + 1, x, y, by omega, by go_num, rfl, by go_num, hx13, by omega, Hx', Hy', trivial⟩
                case measure => simp [intOf]; omega
            · obtain rfl : k = n5 := by omega
              have hxz : x = 0 := by rw [Hx.out, hwn5.out, List.drop_length]; rfl
              have hyz : y = 0 := by rw [Hy.out, hwn5.out, List.drop_length]; rfl
              subst hxz hyz
              go_wp2_with fail
              go_meet
              exact ⟨rfl, rfl, rfl⟩
      case rest =>
        obtain ⟨rfl, rfl, rfl⟩ := hcut
        by_cases h52 : N = 52
        · have H52 : Hid (N = 52) := Lib.hid h52
          have hlf : ((N : Int) < 52) = False := by simp; omega
          clear h52
          go_wp2_with fail
          go_at_call 33
          refine (HMV.out H52 _ (HRD.out.below (RowKit.Below.of_gar _ _ _))).mono ?_
          rintro e w' ⟨rfl, hb⟩; obtain ⟨l5, d5, rfl⟩ := hb.gar; clear hb
          simp only [World.gar_gar]
          go_wp2_with fail
          go_at_call 34
          refine (HTR.out H52 _ (HRD.out.below (RowKit.Below.of_gar _ _ _))).mono ?_
          rintro e w' ⟨k, rfl, Hk, hb⟩; obtain ⟨l6, d6, rfl⟩ := hb.gar; clear hb
          simp only [World.gar_gar]
          have hk13 : k ≤ 13 := by rw [Hk.out]; exact HD.out _ 0
          have hrv := fun W (h : PlayAt W g sE lv dn rk dc cs) => result_v g lv dn rk dc sE cs W h (HZ.out H52)
          have hres : (if dc % 2 = 0 then sE.w0 else sE.w1) = k := by
            rw [Hk.out, HWA.out.1, HWA.out.2]
            by_cases h : dc % 2 = 0
            · rw [if_pos h, h]
            · rw [if_neg h, show dc % 2 = 1 by omega]
          rw [hres] at hrv
          have HRV := Lib.hid hrv
          clear hrv hres
          go_wp2_with fail
          go_at_call 35
          refine (HRV.out _ (HP6.out.below (RowKit.Below.of_gar _ _ _))).mono ?_
          rintro e w' ⟨rfl, hb⟩; obtain ⟨l7, d7, rfl⟩ := hb.gar; clear hb
          simp only [World.gar_gar]
          go_wp2_with fail
          go_ret
          exact ⟨rfl, HB6.out.trans ((RowKit.Below.of_gar wc _ _).mono HB6.out.size)⟩
        · have h52' : N < 52 := by omega
          have hlf : ((N : Int) < 52) = True := by simp; omega
          have H52 := Lib.hid h52'
          clear h52 h52'
          go_wp2_with fail
          go_at_call 33
          refine (HMO.out H52.out _ (HRD.out.below (RowKit.Below.of_gar _ _ _))).mono ?_
          rintro e w' ⟨rfl, hb⟩; obtain ⟨l5, d5, rfl⟩ := hb.gar; clear hb
          simp only [World.gar_gar]
          go_wp2_with fail
          go_at_call 34
          refine (HTO.out H52.out _ (HRD.out.below (RowKit.Below.of_gar _ _ _))).mono ?_
          rintro e w' ⟨rfl, hb⟩; obtain ⟨l6, d6, rfl⟩ := hb.gar; clear hb
          simp only [World.gar_gar]
          go_wp2_with fail
          go_ret
          exact ⟨rfl, HB6.out.trans ((RowKit.Below.of_gar wc _ _).mono HB6.out.size)⟩
end Go.Proofs
