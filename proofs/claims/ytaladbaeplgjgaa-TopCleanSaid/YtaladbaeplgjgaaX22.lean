/- revoke.rounds: the iterator -/
import Derived.Test.YtaladbaeplgjgaaX21
import Derived.RegionIn
import Derived.Stop.RegionWithIn
set_option linter.unusedSimpArgs false
set_option linter.unusedVariables false
namespace Go.Proofs
open Go.RowKit
attribute [local go_sem] Oper.semAt_some
/-- What the loop's body must leave alone. -/
def Kept (br H : Nat) (C A : Option Addr) (w w' : World) : Prop := ∀ g, (g = br ∨ g = H ∨ g = H + 1 ∨ (∃ o, C = some ⟨g, o, none⟩) ∨ (∃ o, A = some ⟨g, o, none⟩)) → w'.heap[g]? = w.heap[g]?
set_option maxHeartbeats 4000000 in
set_option maxRecDepth 100000 in
theorem rounds_in (I : Nat → World → Prop) (L q br N cp tm dc a b c d : Nat) (C : Option Addr) (cs : List Nat) (X : World) (hN : N = cs.length) (hN52 : N ≤ 60) (hcp : N ≤ cp) (htm : tm ≤ 4) (hdc : dc ≤ 3)
    (hs : Inv (start a b c d ((dc + 1) % 4)) 0) (hh : Held tm (start a b c d ((dc + 1) % 4)) cs)
    (hrec : X.heap[br]? = some (.cells #[.int .u64 a, .int .u64 b, .int .u64 c, .int .u64 d, .int .u8 tm, .int .u8 dc, .slice C N cp] 79 (0, 0))) (hcs : RdS X C cs)
    (hY : ∀ (k m cap : Nat) (A : Option Addr) (xs : List Nat) (w0 w : World), 4 * k < cs.length → xs = (cs.drop (4 * k)).take 4 → m = xs.length → m ≤ cap → RdS w A xs → (∀ g o, A = some ⟨g, o, none⟩ → w0.heap.size ≤ g ∧ X.heap.size + 2 ≤ g ∧ g < w.heap.size) →
      I k w0 → Only2 X.heap.size w0 w → X.heap.size + 2 ≤ w.heap.size → YieldAt Fence.wide (q - 1) Try.prog L #[.int .i64 k, rndV (runP tm (start a b c d ((dc + 1) % 4)) (cs.take (4 * k))).ld (.slice A m cap) (runP tm (start a b c d ((dc + 1) % 4)) (cs.take (4 * k))).a (runP tm (start a b c d ((dc + 1) % 4)) (cs.take (4 * k))).b (runP tm (start a b c d ((dc + 1) % 4)) (cs.take (4 * k))).c (runP tm (start a b c d ((dc + 1) % 4)) (cs.take (4 * k))).d] w
        (fun e w' => e = .returned (.bool true) ∧ I (k + 1) w' ∧ w.heap.size ≤ w'.heap.size ∧ Kept br X.heap.size C A w w'))
    (h0 : I 0 X) :
    CallsIn Fence.wide q Try.prog 97 #[.func (.yield L) #[] #[], .pointer (some ⟨br, 0, none⟩)] X (fun e w' => (∃ v, e = .returned v) ∧ ∃ w0, I ((N + 3) / 4) w0 ∧ Only2 X.heap.size w0 w') := by
  haveI := hs.msk 0 (by omega); haveI := hs.msk 1 (by omega); haveI := hs.msk 2 (by omega); haveI := hs.msk 3 (by omega)
  have hbrl := lt_blk hrec
  haveI : LtC br X.heap.size := ⟨hbrl⟩
  have r0 : X.cell? ⟨br, 0, none⟩ = some (.int .u64 a) := cell_blk hrec rfl
  have r1 : X.cell? ⟨br, 1, none⟩ = some (.int .u64 b) := cell_blk hrec rfl
  have r2 : X.cell? ⟨br, 2, none⟩ = some (.int .u64 c) := cell_blk hrec rfl
  have r3 : X.cell? ⟨br, 3, none⟩ = some (.int .u64 d) := cell_blk hrec rfl
  have r5 : X.cell? ⟨br, 5, none⟩ = some (.int .u8 dc) := cell_blk hrec rfl
  have r6 : X.cell? ⟨br, 6, none⟩ = some (.slice C N cp) := cell_blk hrec rfl
  have HREC := Lib.hid hrec; have HCS := Lib.hid hcs; have HS := Lib.hid hs; have HH := Lib.hid hh; have HY := Lib.hid hY; have HN := Lib.hid hN; have H0 := Lib.hid h0
  clear hrec hcs hs hh hY hN h0
  refine callsIn_of_wp Try.func97 rfl trivial ?_ rfl
  simp only [Try.ntmps97, List.size_toArray, List.length_cons, List.length_nil, Nat.reduceAdd, Nat.reduceSub, Array.replicate_succ, Array.replicate_zero, List.push_toArray, List.append_toArray, List.nil_append, List.cons_append]
  gi_wp2
  obtain ⟨s0, hs0⟩ : ∃ s0, s0 = start a b c d ((dc + 1) % 4) := ⟨_, rfl⟩
  rw [← hs0] at HS HH HY
  have HS0 := Lib.hid hs0
  clear hs0
  obtain ⟨H, hH⟩ : ∃ H, H = X.heap.size := ⟨_, rfl⟩
  rw [← hH] at HY hbrl ⊢
  have HHS := Lib.hid hH
  have HC : Hid (cs ≠ [] → ∀ g o, C = some ⟨g, o, none⟩ → g < H) := Lib.hid fun hne g o e => by rw [HHS.out]; exact HCS.out.lt hne e
  clear hH
  gi_loopw [5, 21] (fun t5 t21 wr => ∃ (i k cap base : Nat) (A : Option Addr) (w0 : World), i ≤ N ∧ t21 = .int .i64 i ∧ t5 = .int .i64 k ∧ Hid (k = i / 4) ∧
    Hid (RI H br #[.int .u64 a, .int .u64 b, .int .u64 c, .int .u64 d, .int .u8 tm, .int .u8 dc, .slice C N cp] C cs (runP tm s0 (cs.take i)) (runP tm s0 (cs.take (4 * (i / 4)))) base A cap wr) ∧ Hid (Only2 H w0 wr) ∧ Hid (I (i / 4) w0) ∧ Hid (w0.heap.size ≤ base ∧ H + 2 ≤ base ∧ base ≤ wr.heap.size)) (fun _ t21 _ => N - (intOf t21).toNat)
  case atStart =>
    refine ⟨0, 0, 0, H + 2, none, X, Nat.zero_le _, rfl, rfl, Lib.hid rfl, Lib.hid ?_, Lib.hid ?_, H0, Lib.hid ?_⟩
    · rw [HHS.out]
      refine ⟨?_, ?_, ?_, ?_, ?_⟩
      · simp only [World.heap_alloc_past, World.size_alloc, lt_of_ltC]; exact HREC.out
      · refine HCS.out.below ?_
        simp only [World.alloc_gar, World.gar_gar]; exact RowKit.Below.of_gar _ _ _
      · rw [HS0.out]; simp only [World.heap_alloc_at, World.size_alloc]; rfl
      · rw [HS0.out]; simp only [World.heap_alloc_past, World.heap_alloc_at, World.size_alloc, lt_of_ltC]; simp [start, runP]
      · rw [HS0.out]; exact World.ownsRow_nil _ _ _ _
    · refine Only2.below ?_
      simp only [World.alloc_gar, World.gar_gar]; exact RowKit.Below.of_gar _ _ _
    · rw [HHS.out]; simp
  case round =>
    obtain ⟨i, k, cap, base, A, w0, hi, rfl, rfl, Hk, HRI, HO, HI, HB⟩ := hrel
    clear r0 r1 r2 r3 r5 r6
    by_cases hlt : i < N
    · obtain ⟨x, hx⟩ : ∃ x, cs[i]? = some x := ⟨_, List.getElem?_eq_getElem (by rw [← HN.out]; exact hlt)⟩
      have hne : cs ≠ [] := by rintro rfl; simp at hx
      have hCl := HC.out hne
      have hinv := HS.out.run HH.out i (by rw [← HN.out]; omega)
      have hxh := HH.out i x hx
      have hbf := HS.out.run HH.out (4 * (i / 4)) (by rw [← HN.out]; omega)
      have htk : cs.take (i + 1) = cs.take i ++ [x] := by rw [List.take_add_one, hx]; rfl
      obtain ⟨s, hs⟩ : ∃ s, s = runP tm s0 (cs.take i) := ⟨_, rfl⟩
      obtain ⟨bf, hbfe⟩ : ∃ s, s = runP tm s0 (cs.take (4 * (i / 4))) := ⟨_, rfl⟩
      rw [← hs] at hinv hxh HRI
      rw [← hbfe] at hbf HRI
      have HSE := Lib.hid hs; have HBF := Lib.hid hbfe; have HTK := Lib.hid htk
      clear hs hbfe htk
      haveI := hinv.msk 0 (by omega); haveI := hinv.msk 1 (by omega); haveI := hinv.msk 2 (by omega); haveI := hinv.msk 3 (by omega)
      have hx52 := hinv.lt52 s.turn_lt hxh
      haveI : LtC x 52 := ⟨hx52⟩
      have hld := hinv.ld
      have hlen := hinv.len
      have hbm : bits .and .u64 ((shrn (s.h s.turn) x : Nat) : Int) 1 = 1 := by
        haveI := hinv.msk s.turn s.turn_lt
        rw [and_bit, bitn_yes hxh]; rfl
      obtain ⟨tn, htn⟩ : ∃ t, t = s.turn := ⟨_, rfl⟩
      obtain ⟨h, hh⟩ : ∃ h, h = s.h s.turn := ⟨_, rfl⟩
      obtain ⟨n, hn⟩ : ∃ n, n = s.tr.length := ⟨_, rfl⟩
      haveI : Msk h := by rw [hh]; exact hinv.msk _ s.turn_lt
      have ht3 : tn ≤ 3 := by rw [htn]; have := s.turn_lt; omega
      have ht4 : (tn : Int) < 4 := by omega
      have ht0 : (0 : Int) ≤ (tn : Int) := by omega
      have hn3 : n ≤ 3 := by rw [hn, hlen]; omega
      have hbit : ((bitn h x : Nat) : Int) = 1 := by rw [hh, bitn_yes hxh]; rfl
      have hturn : (s.ld + n) % 4 = tn := by rw [htn, hn]; rfl
      have hHlt := lt_blk HRI.out.rnd
      have hH1lt := lt_blk HRI.out.hands
      have hbrlt := lt_blk HRI.out.rec_
      haveI : LtC H wr.heap.size := ⟨hHlt⟩
      haveI : LtC (H + 1) wr.heap.size := ⟨hH1lt⟩
      haveI : LtC br wr.heap.size := ⟨hbrlt⟩
      have r1 : wr.cell? ⟨br, 4, none⟩ = some (.int .u8 tm) := cell_blk HRI.out.rec_ rfl
      have r6 : wr.cell? ⟨br, 6, none⟩ = some (.slice C N cp) := cell_blk HRI.out.rec_ rfl
      have rnd := HRI.out.rnd
      rw [← hn] at rnd
      have c0 : wr.cell? ⟨H, 0, none⟩ = some (.int .u8 s.ld) := cell_blk rnd rfl
      have c1 : wr.cell? ⟨H, 1, none⟩ = some (.slice A n cap) := cell_blk rnd rfl
      have c2 : wr.cell? ⟨H, 2, none⟩ = some (.int .u64 bf.a) := cell_blk rnd rfl
      have c3 : wr.cell? ⟨H, 3, none⟩ = some (.int .u64 bf.b) := cell_blk rnd rfl
      have c4 : wr.cell? ⟨H, 4, none⟩ = some (.int .u64 bf.c) := cell_blk rnd rfl
      have c5 : wr.cell? ⟨H, 5, none⟩ = some (.int .u64 bf.d) := cell_blk rnd rfl
      have cf : wr.frozen? ⟨H + 1, tn, none⟩ = false := frozen_blk HRI.out.hands
      have ct : wr.cell? ⟨H + 1, tn, none⟩ = some (.int .u64 h) := by
        refine cell_blk HRI.out.hands ?_
        rw [hh, ← htn]; unfold PS.h hsel
        rcases (show tn = 0 ∨ tn = 1 ∨ tn = 2 ∨ tn = 3 by omega) with rfl | rfl | rfl | rfl <;> rfl
      obtain ⟨gC, oC, rfl, hcC⟩ := HRI.out.cards.pos (by rw [← HN.out]; omega)
      have hcx := hcC i x hx
      have HINV := Lib.hid hinv; have HBFI := Lib.hid hbf; have HXH := Lib.hid hxh; have HTN := Lib.hid htn; have HHE := Lib.hid hh; have HNE := Lib.hid hn; have HTU := Lib.hid hturn; have HCL := Lib.hid hCl
      clear hinv hbf hxh htn hh hn hturn hCl hlen hbm rnd hcC hx hne
      have hrs := fun W => rseat_v s.ld bf.a bf.b bf.c bf.d n (.slice A n cap) W hld (by omega)
      rw [HTU.out] at hrs
      simp only [rndV] at hrs
      have HRS := Lib.hid hrs
      clear hrs
      obtain ⟨i5, hj, hk0, hk1, hk2⟩ := info_parts Try.info5
      have hb0 := HB.out
      have hrow : wr.ownsRow base 5 1 (.slice A n cap) n (u8s s.tr) := by rw [HNE.out]; exact HRI.out.row
      have hown : ∀ v l d, ((wr.setCell ⟨H + 1, tn, none⟩ v).gar l d).ownsRow base 5 1 (.slice A n cap) n (u8s s.tr) := fun v l d => (hrow.set (by omega)).gar l d
      have hrn : some H ≠ (Value.slice A n cap).ownBlock := fun e => by have := (hrow.lt H e.symm).1; omega
      have HOWN := Lib.hid hown; have HRN := Lib.hid hrn
      clear hown hrn hrow
      gi_wp2_with (first | (gi_at_call 67; refine (callsIn_wide.2 (HRS.out _)).mono ?_; rintro e w' ⟨rfl, hb⟩; obtain ⟨l, d1, rfl⟩ := hb.gar; clear hb) | (gi_at_builtin; refine wpListIn_append_own _ rfl (.tmp 49) (.tmp 51) 22 rfl base 5 i5 _ 1 1 Try.underlying22 hj hk0 hk1 hk2 rfl (by decide) (.slice A n cap) n (u8s s.tr) rfl ((HOWN.out _ _ _).alloc _) ⟨wr.heap.size + l.length, 0, none⟩ 1 1 [.int .u8 x] rfl rfl ?d1 ?d2 ?d3 ?d4 ?d5 ?_))
      case d1 => exact cells_new _ [.int .u8 x] 5 _ (by simp [World.setCell])
      case d2 => intro u hu; simp only [List.mem_cons, List.not_mem_nil, or_false] at hu; rcases hu with rfl; rfl
      case d3 => unfold maxLen; omega
      case d4 => omega
      case d5 => simp [World.setCell]; omega
      intro v2 w2 hn1 hg1 _
      obtain ⟨g2, cap2, rfl⟩ := ownsRow_succ hn1
      rw [u8s_snoc] at hn1
      have hstep := RI.step HRI.out (by omega) HCL.out hb0.2.1 HTN.out (W := w2) (x := x) (g2 := g2) (cap2 := cap2) hb0.2.2 HO.out hb0.1 (by rw [HTN.out, ← HHE.out, ← HNE.out, ← HTN.out]; exact hg1) (by rw [← HNE.out]; exact hn1)
      rw [← HNE.out] at hstep
      have hg2 : base ≤ g2 := (hn1.lt g2 rfl).1
      have h21 := hg1.cell (a := ⟨H, 1, none⟩) (v := .slice A n cap) (by simpa [go_sem] using c1) HRN.out
      have h2f : w2.frozen? ⟨H, 1, none⟩ = false := (hg1.frozen_far ⟨H, 1, none⟩ (by simp [World.setCell]; omega) HRN.out).trans (by simp [go_sem]; exact frozen_blk HRI.out.rnd)
      have HST := Lib.hid hstep
      clear hstep hn1 hg1 r1 r6 c0 c1 c2 c3 c4 c5 cf ct hcx hHlt hH1lt hbrlt
      gi_upto_region 9 with fail
      clear h21 h2f
      generalize hW : w2.setCell ⟨H, 1, none⟩ (.slice (some ⟨g2, 0, none⟩) (n + 1) cap2) = W at *
      clear hW
      have hlt3 := lt_blk HST.out.1.rnd
      haveI : LtC H W.heap.size := ⟨hlt3⟩
      haveI : LtC (H + 1) W.heap.size := ⟨lt_blk HST.out.1.hands⟩
      haveI : LtC br W.heap.size := ⟨lt_blk HST.out.1.rec_⟩
      have rnd := HST.out.1.rnd
      have hln : (s.took x).tr.length = n + 1 := by show (s.tr ++ [x]).length = _; rw [List.length_append, ← HNE.out]; rfl
      rw [hln] at rnd
      have c0 : W.cell? ⟨H, 0, none⟩ = some (.int .u8 s.ld) := cell_blk rnd rfl
      have c1 : W.cell? ⟨H, 1, none⟩ = some (.slice (some ⟨g2, 0, none⟩) (n + 1) cap2) := cell_blk rnd rfl
      have c2 : W.cell? ⟨H, 2, none⟩ = some (.int .u64 bf.a) := cell_blk rnd rfl
      have c3 : W.cell? ⟨H, 3, none⟩ = some (.int .u64 bf.b) := cell_blk rnd rfl
      have c4 : W.cell? ⟨H, 4, none⟩ = some (.int .u64 bf.c) := cell_blk rnd rfl
      have c5 : W.cell? ⟨H, 5, none⟩ = some (.int .u64 bf.d) := cell_blk rnd rfl
      have hsz3 := HST.out.2.2
      have HLN := Lib.hid hln
      clear rnd hlt3 hln
      by_cases hk4 : n + 1 = 4
      · have hk4b : ((n : Int) + 1 == 4) = true := by rw [beq_iff_eq]; omega
        have hlen := HINV.out.len
        rw [← HNE.out] at hlen
        have htr := run_tr HS.out HH.out i (by rw [← HN.out]; omega)
        rw [← HSE.out, ← HBF.out] at htr
        have hrd := rd_own HST.out.1.row rfl
        have htrick := HINV.out.trick HXH.out
        have hxs : s.tr ++ [x] = (cs.drop (4 * (i / 4))).take 4 := by
          rw [htr.1, ← List.drop_append_of_le_length (by rw [List.length_take, ← HN.out]; omega), ← HTK.out, List.drop_take, show i + 1 - 4 * (i / 4) = 4 by omega]
        have hy := HY.out (i / 4) (n + 1) cap2 (some ⟨g2, 0, none⟩) (s.tr ++ [x]) w0 W (by rw [← HN.out]; omega) hxs (by rw [← HLN.out]; rfl) (by rw [← HLN.out]; exact hrd.1) hrd.2.2 (fun g o e => by
          obtain ⟨rfl, rfl⟩ : g2 = g ∧ 0 = o := by simpa using e
          have := HST.out.1.row.lt g2 rfl
          exact ⟨by omega, by omega, this.2⟩) HI.out HST.out.2.1 (by omega)
        rw [← HBF.out, ← htr.2, ← Hk.out] at hy
        have HTRI := Lib.hid htrick; have HRD := Lib.hid hrd; have HLEN := Lib.hid hlen; have HK4 := Lib.hid hk4
        clear hrd htrick hxs htr hlen hk4
        simp only [rndV] at hy
        obtain ⟨fn, tmps, assign, body, hy, hR⟩ := hy
        gi_wp2
        refine hR.mono ?_
        rintro e w5 ⟨rfl, hI5, hsz5, hkeep⟩
        clear hR hy c0 c1 c2 c3 c4 c5
        have HRI5 := Lib.hid (HST.out.1.keep fun g hg => hkeep g (by
          rcases hg with h | h | h | h | h
          · exact .inl h
          · exact .inr (.inl (by rw [h]))
          · exact .inr (.inr (.inl (by rw [h])))
          · exact .inr (.inr (.inr (.inl h)))
          · exact .inr (.inr (.inr (.inr h)))))
        have HI5 := Lib.hid hI5
        clear hI5 hkeep
        have hlt5 := lt_blk HRI5.out.rnd
        haveI : LtC H w5.heap.size := ⟨hlt5⟩
        haveI : LtC (H + 1) w5.heap.size := ⟨lt_blk HRI5.out.hands⟩
        haveI : LtC br w5.heap.size := ⟨lt_blk HRI5.out.rec_⟩
        have rnd := HRI5.out.rnd
        rw [HLN.out] at rnd
        have r4 : w5.cell? ⟨br, 4, none⟩ = some (.int .u8 tm) := cell_blk HRI5.out.rec_ rfl
        have c0 : w5.cell? ⟨H, 0, none⟩ = some (.int .u8 s.ld) := cell_blk rnd rfl
        have c1 : w5.cell? ⟨H, 1, none⟩ = some (.slice (some ⟨g2, 0, none⟩) (n + 1) cap2) := cell_blk rnd rfl
        have c2 : w5.cell? ⟨H, 2, none⟩ = some (.int .u64 bf.a) := cell_blk rnd rfl
        have c3 : w5.cell? ⟨H, 3, none⟩ = some (.int .u64 bf.b) := cell_blk rnd rfl
        have c4 : w5.cell? ⟨H, 4, none⟩ = some (.int .u64 bf.c) := cell_blk rnd rfl
        have c5 : w5.cell? ⟨H, 5, none⟩ = some (.int .u64 bf.d) := cell_blk rnd rfl
        have f0 : w5.frozen? ⟨H, 0, none⟩ = false := frozen_blk rnd
        have f1 : w5.frozen? ⟨H, 1, none⟩ = false := frozen_blk rnd
        have f2 : w5.frozen? ⟨H, 2, none⟩ = false := frozen_blk rnd
        have f3 : w5.frozen? ⟨H, 3, none⟩ = false := frozen_blk rnd
        have f4 : w5.frozen? ⟨H, 4, none⟩ = false := frozen_blk rnd
        have f5 : w5.frozen? ⟨H, 5, none⟩ = false := frozen_blk rnd
        have k0 : w5.cell? ⟨H + 1, 0, none⟩ = some (.int .u64 (s.took x).a) := cell_blk HRI5.out.hands rfl
        have k1 : w5.cell? ⟨H + 1, 1, none⟩ = some (.int .u64 (s.took x).b) := cell_blk HRI5.out.hands rfl
        have k2 : w5.cell? ⟨H + 1, 2, none⟩ = some (.int .u64 (s.took x).c) := cell_blk HRI5.out.hands rfl
        have k3 : w5.cell? ⟨H + 1, 3, none⟩ = some (.int .u64 (s.took x).d) := cell_blk HRI5.out.hands rfl
        have hwn := fun W' (h : RdS W' (some ⟨g2, 0, none⟩) (s.tr ++ [x])) => rwinner_v s.ld bf.a bf.b bf.c bf.d tm (n + 1) cap2 (some ⟨g2, 0, none⟩) (s.tr ++ [x]) W' hld (Lib.hid (by rw [← HLN.out]; rfl)) (by rw [← HLN.out]; exact HRD.out.1) h HTRI.out htm
        have hrd5 : ∀ l d, RdS (w5.gar l d) (some ⟨g2, 0, none⟩) (s.tr ++ [x]) := fun l d => (rd_own HRI5.out.row rfl).2.2.below (RowKit.Below.of_gar _ _ _)
        simp only [rndV] at hwn
        have HWN := Lib.hid hwn; have HRD5 := Lib.hid hrd5
        clear rnd hlt5 hwn hrd5
        have hk60 : k ≤ 60 := by rw [Hk.out]; omega
        gi_wp2_with fail
        gi_region_with (gi_at_call 69; refine (callsIn_wide.2 (HWN.out _ (by exact HRD5.out [] w5.drawn))).mono ?_; rintro e w' ⟨q, rfl, Hq, hb⟩; obtain ⟨l6, d6, rfl⟩ := hb.gar; clear hb)
        all_goals
          clear r4 c0 c1 c2 c3 c4 c5 f0 f1 f2 f3 f4 f5 k0 k1 k2 k3
          gi_wp2_with fail
          go_roundw
          case rel =>
            have e4 : (i + 1) / 4 = i / 4 + 1 := by have := HLEN.out; have := HK4.out; omega
            have e5 : 4 * (i / 4 + 1) = i + 1 := by have := HLEN.out; have := HK4.out; omega
            refine ⟨i + 1, k + 1, 0, _, none, w5, by omega, by go_num, by go_num, Lib.hid (by rw [e4, Hk.out]), Lib.hid ?_, Lib.hid ((set6_only (Only2.refl H w5)).gar l6 d6), Lib.hid (by rw [e4, ← Hk.out]; exact HI5.out), Lib.hid ⟨?_, ?_, Nat.le_refl _⟩⟩
            · rw [e4, e5, HTK.out, runP_snoc, ← HSE.out]
              exact RI.next HRI5.out (by omega) HCL.out (by rw [← HNE.out]; have := HK4.out; omega) Hq.out _
            · rw [World.size_gar]; simp [World.setCell]
            · rw [World.size_gar]; have := hb0.2; simp [World.setCell]; omega
          case measure => simp [intOf]; omega
      · have hk4b : ((n : Int) + 1 == 4) = false := by rw [beq_eq_false_iff_ne]; omega
        gi_wp2_with fail
        go_roundw
        case rel =>
          have hlen := HINV.out.len
          rw [← HNE.out] at hlen
          have e4 : (i + 1) / 4 = i / 4 := by omega
          have ep : s.put tm x = s.took x := by unfold PS.put PS.took; rw [if_pos (by rw [← HNE.out]; omega)]
          refine ⟨i + 1, k, cap2, base, some ⟨g2, 0, none⟩, w0, by omega, by go_num, rfl, Lib.hid (by rw [e4]; exact Hk.out), Lib.hid ?_, Lib.hid HST.out.2.1, ?_, Lib.hid ⟨hb0.1, hb0.2.1, by omega⟩⟩
          · rw [e4, HTK.out, runP_snoc, ← HSE.out, ← HBF.out, ep]; exact HST.out.1
          · rw [e4]; exact HI
        case measure => simp [intOf]; omega
    · obtain rfl : i = N := by omega
      have htk : cs.take i = cs := by rw [HN.out, List.take_length]
      have hinv := HS.out.run HH.out i (by rw [← HN.out]; omega)
      have htr := run_tr HS.out HH.out i (by rw [← HN.out]; omega)
      obtain ⟨s, hs⟩ : ∃ s, s = runP tm s0 (cs.take i) := ⟨_, rfl⟩
      obtain ⟨bf, hbfe⟩ : ∃ s, s = runP tm s0 (cs.take (4 * (i / 4))) := ⟨_, rfl⟩
      rw [← hs] at hinv htr HRI
      rw [← hbfe] at htr HRI
      have HSE := Lib.hid hs; have HBF := Lib.hid hbfe; have HTK := Lib.hid htk
      clear hs hbfe htk
      have hlen := hinv.len
      obtain ⟨n, hn⟩ : ∃ n, n = s.tr.length := ⟨_, rfl⟩
      rw [← hn] at hlen
      have hlt3 := lt_blk HRI.out.rnd
      haveI : LtC H wr.heap.size := ⟨hlt3⟩
      have rnd := HRI.out.rnd
      rw [← hn] at rnd
      have c0 : wr.cell? ⟨H, 0, none⟩ = some (.int .u8 s.ld) := cell_blk rnd rfl
      have c1 : wr.cell? ⟨H, 1, none⟩ = some (.slice A n cap) := cell_blk rnd rfl
      have c2 : wr.cell? ⟨H, 2, none⟩ = some (.int .u64 bf.a) := cell_blk rnd rfl
      have c3 : wr.cell? ⟨H, 3, none⟩ = some (.int .u64 bf.b) := cell_blk rnd rfl
      have c4 : wr.cell? ⟨H, 4, none⟩ = some (.int .u64 bf.c) := cell_blk rnd rfl
      have c5 : wr.cell? ⟨H, 5, none⟩ = some (.int .u64 bf.d) := cell_blk rnd rfl
      have HNE := Lib.hid hn; have HINV := Lib.hid hinv; have HLEN := Lib.hid hlen; have HTR := Lib.hid htr
      clear hn hinv hlen htr rnd
      by_cases hn0 : n = 0
      · have hng : n ≤ 0 := by omega
        have HN0 := Lib.hid hn0
        clear hn0
        gi_wp2_with fail
        go_end0
        refine ⟨⟨_, rfl⟩, w0, ?_, by rw [← HHS.out]; exact HO.out⟩
        have : (i + 3) / 4 = i / 4 := by have := HLEN.out; have := HN0.out; omega
        rw [this]; exact HI.out
      · have hpos : 0 < n := by omega
        have hne : s.tr ≠ [] := by intro e; rw [HNE.out, e] at hpos; simp at hpos
        have hxs : s.tr = (cs.drop (4 * (i / 4))).take 4 := by
          rw [HTR.out.1, HTK.out, List.take_of_length_le (by rw [List.length_drop, ← HN.out]; have := HLEN.out; omega)]
        obtain ⟨g2, rfl⟩ : ∃ g, A = some ⟨g, 0, none⟩ := by
          rcases HRI.out.row.2 with ⟨h2, h3⟩ | ⟨g, cp', cur, h1, _⟩
          · exact (hne (List.eq_nil_of_length_eq_zero h3)).elim
          · exact ⟨g, by simp at h1; exact h1.1⟩
        have hb0 := HB.out
        have hrow := HRI.out.row.lt g2 rfl
        have hrd2 : RdS wr (some ⟨g2, 0, none⟩) s.tr := (rd_own HRI.out.row rfl).2.2
        have hy := HY.out (i / 4) n cap (some ⟨g2, 0, none⟩) s.tr w0 wr (by rw [← HN.out]; have := HLEN.out; omega) hxs HNE.out (by have := (rd_own HRI.out.row rfl).1; rw [HNE.out]; exact this) hrd2 (fun g o e => by
          obtain ⟨rfl, rfl⟩ : g2 = g ∧ 0 = o := by simpa using e
          exact ⟨by omega, by omega, hrow.2⟩) HI.out HO.out (by omega)
        rw [← HBF.out, ← HTR.out.2, ← Hk.out] at hy
        have HN0 := Lib.hid hn0
        clear hne hxs hrow hrd2 hn0 hb0
        simp only [rndV] at hy
        obtain ⟨fn, tmps, assign, body, hy, hR⟩ := hy
        gi_wp2
        refine hR.mono ?_
        rintro e w5 ⟨rfl, hI5, hsz5, hkeep⟩
        clear hR hy c0 c1 c2 c3 c4 c5
        have HI5 := Lib.hid hI5
        clear hI5 hkeep
        gi_wp2_with fail
        go_end0
        refine ⟨⟨_, rfl⟩, w5, ?_, Only2.refl _ _⟩
        have : (i + 3) / 4 = k + 1 := by have := HLEN.out; have := HN0.out; have := HINV.out.len; rw [Hk.out]; omega
        rw [this]; exact HI5.out
end Go.Proofs
