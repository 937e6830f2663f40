/- trick: strengths, best, Winner, Seat -/
import Derived.Test.YtaladbaeplgjgaaX10
import Derived.Test.YtaladbaeplgjgaaX06
import Derived.Test.YtaladbaeplgjgaaX00
set_option linter.unusedSimpArgs false
set_option linter.unusedVariables false
namespace Go.Proofs
open Go.RowKit
theorem quiet_left {P : Program} {f : FuncId} {args : Array Value} {w : World} {n : Nat} {v : Value}
    (h : Calls P f args (w.drewN n) fun e w' => e = .returned v ∧ w.drewN n = w') : Calls P f args (w.drewN n) fun e w' => e = .returned v ∧ ∃ m, w' = w.drewN m :=
  h.mono fun _ _ ⟨he, hm⟩ => ⟨he, n, hm.symm⟩
theorem quiet_same {P : Program} {f : FuncId} {args : Array Value} {w : World} {v : Value}
    (h : Calls P f args w fun e w' => e = .returned v ∧ w = w') : Calls P f args w fun e w' => e = .returned v ∧ ∃ m, w' = w.drewN m :=
  h.mono fun _ _ ⟨he, hm⟩ => ⟨he, 0, hm.symm⟩
theorem quiet_add_left {P : Program} {f : FuncId} {args : Array Value} {w : World} {a n : Nat} {v : Value}
    (h : Calls P f args (w.drewN (a + n)) fun e w' => e = .returned v ∧ w.drewN (a + n) = w') :
    Calls P f args (w.drewN (a + n)) fun e w'' => e = .returned v ∧ ∃ m, w'' = w.drewN (a + m) :=
  h.mono fun _ _ ⟨he, hm⟩ => ⟨he, n, hm.symm⟩
/-- How strong a card is in a trick. -/
def strength (t l c : Nat) : Nat := if c / 13 = t then 14 + c % 13 else if c / 13 = l then 1 + c % 13 else 0
/-- The first of the greatest, of the first k. -/
def bestI (f : Nat → Nat) (xs : List Nat) : Nat → Nat
  | 0 => 0
  | k + 1 => if f (xs.getD (bestI f xs k) 0) < f (xs.getD k 0) then k else bestI f xs k
theorem bestI_lt (f : Nat → Nat) (xs : List Nat) (k : Nat) : bestI f xs k ≤ k - 1 := by
  induction k with
  | zero => simp [bestI]
  | succ k ih => rw [bestI]; split <;> omega
set_option maxHeartbeats 400000 in
theorem str_v (c t l bt bl : Nat) (w : World) (hc : c < 52) (ht : w.cell? ⟨bt, 0, none⟩ = some (.int .u8 (t : Int))) (hl : w.cell? ⟨bl, 0, none⟩ = some (.int .u8 (l : Int))) :
    Calls Try.prog 116 #[.int .u8 c, .pointer (some ⟨bt, 0, none⟩), .pointer (some ⟨bl, 0, none⟩)] w fun e w' => e = .returned (.int .i64 (strength t l c : Nat)) ∧ w = w' := by
  by_cases h1 : c / 13 = t
  · have e1 : (((c / 13 : Nat) : Int) == (t : Int)) = true := by rw [beq_iff_eq]; omega
    have e1' : ((c : Int) / 13 == (t : Int)) = true := by rw [beq_iff_eq]; omega
    have hs : Hid (strength t l c = 14 + c % 13) := Lib.hid (by unfold strength; rw [if_pos h1])
    clear h1
    go_enter Try.func116, Try.ntmps116
    go_wp2_with (first | (go_at_call 112; refine (cardSuit_v c _ hc).mono ?_; rintro e w' ⟨rfl, rfl⟩) | (go_at_call 117; refine (cardRank_v c _ hc).mono ?_; rintro e w' ⟨rfl, rfl⟩))
    go_ret
    exact ⟨ret_i64 (by rw [hs.out]; simp), rfl⟩
  · have e1 : (((c / 13 : Nat) : Int) == (t : Int)) = false := by rw [beq_eq_false_iff_ne]; omega
    have e1' : ((c : Int) / 13 == (t : Int)) = false := by rw [beq_eq_false_iff_ne]; omega
    by_cases h2 : c / 13 = l
    · have e2 : (((c / 13 : Nat) : Int) == (l : Int)) = true := by rw [beq_iff_eq]; omega
      have e2' : ((c : Int) / 13 == (l : Int)) = true := by rw [beq_iff_eq]; omega
      have hs : Hid (strength t l c = 1 + c % 13) := Lib.hid (by unfold strength; rw [if_neg h1, if_pos h2])
      clear h1 h2
      go_enter Try.func116, Try.ntmps116
      go_wp2_with (first | (go_at_call 112; refine (cardSuit_v c _ hc).mono ?_; rintro e w' ⟨rfl, rfl⟩) | (go_at_call 117; refine (cardRank_v c _ hc).mono ?_; rintro e w' ⟨rfl, rfl⟩))
      go_ret
      exact ⟨ret_i64 (by rw [hs.out]; simp), rfl⟩
    · have e2 : (((c / 13 : Nat) : Int) == (l : Int)) = false := by rw [beq_eq_false_iff_ne]; omega
      have e2' : ((c : Int) / 13 == (l : Int)) = false := by rw [beq_eq_false_iff_ne]; omega
      have hs : Hid (strength t l c = 0) := Lib.hid (by unfold strength; rw [if_neg h1, if_neg h2])
      clear h1 h2
      go_enter Try.func116, Try.ntmps116
      go_wp2_with (first | (go_at_call 112; refine (cardSuit_v c _ hc).mono ?_; rintro e w' ⟨rfl, rfl⟩) | (go_at_call 117; refine (cardRank_v c _ hc).mono ?_; rintro e w' ⟨rfl, rfl⟩))
      go_ret
      exact ⟨ret_i64 (by rw [hs.out]; simp), rfl⟩
theorem strength_lt (t l c : Nat) : strength t l c < 27 := by
  unfold strength
  have := Nat.mod_lt c (show 0 < 13 by omega)
  split
  · omega
  · split <;> omega
attribute [local irreducible] strength
set_option maxHeartbeats 1000000 in
set_option maxRecDepth 100000 in
theorem best_v (A : Option Addr) (cap t l bt bl : Nat) (xs : List Nat) (w : World) (hlen : xs.length ≤ 1000) (hcard : ∀ x ∈ xs, x < 52) (h : RdS w A xs)
    (ht : w.cell? ⟨bt, 0, none⟩ = some (.int .u8 (t : Int))) (hl : w.cell? ⟨bl, 0, none⟩ = some (.int .u8 (l : Int))) :
    Calls Try.prog 110 #[.slice A xs.length cap, .func (.func 116) #[] #[.pointer (some ⟨bt, 0, none⟩), .pointer (some ⟨bl, 0, none⟩)]] w fun e w' => e = .returned (.int .i64 (bestI (strength t l) xs xs.length : Nat)) ∧ ∃ d, w' = w.drewN d := by
  obtain ⟨n, hn'⟩ : ∃ n, n = xs.length := ⟨_, rfl⟩
  rw [← hn'] at hlen ⊢
  have HN := Lib.hid hn'
  have H := Lib.hid h
  have HC := Lib.hid hcard
  clear h hcard hn'
  go_enter Try.func110, Try.ntmps110
  go_wp2
  go_loopw [5, 10] (fun v5 i wr => ∃ k : Nat, k ≤ n ∧ i = .int .i64 k ∧ v5 = .int .i64 (bestI (strength t l) xs k : Nat) ∧ ∃ d, wr = w.drewN d) (fun _ i _ => n - (intOf i).toNat)
  case atStart => exact ⟨0, Nat.zero_le _, rfl, rfl, 0, rfl⟩
  case round =>
    obtain ⟨k, hk, rfl, rfl, d, rfl⟩ := hrel
    have hb := bestI_lt (strength t l) xs k
    obtain ⟨b, hb'⟩ : ∃ b, b = bestI (strength t l) xs k := ⟨_, rfl⟩
    rw [← hb'] at hb ⊢
    by_cases hlt : k < n
    · obtain ⟨g, o, rfl, hc⟩ := H.out.pos (by rw [← HN.out]; omega)
      have hx : ∃ x, xs[k]? = some x := ⟨_, List.getElem?_eq_getElem (by rw [← HN.out]; exact hlt)⟩
      obtain ⟨x, hx⟩ := hx
      have hy : ∃ y, xs[b]? = some y := ⟨_, List.getElem?_eq_getElem (by rw [← HN.out]; omega)⟩
      obtain ⟨y, hy⟩ := hy
      have hcx := hc k x hx
      have hcy := hc b y hy
      have hx52 := HC.out x (List.mem_of_getElem? hx)
      have hy52 := HC.out y (List.mem_of_getElem? hy)
      have hs : Hid (bestI (strength t l) xs (k + 1) = if strength t l y < strength t l x then k else b) := Lib.hid (by
        rw [bestI, ← hb', List.getD_eq_getElem?_getD, List.getD_eq_getElem?_getD, hx, hy]; rfl)
      have HB := Lib.hid hb'
      clear hc hx hy hb'
      have hbn : b < n := by omega
      have bx := strength_lt t l x
      have by' := strength_lt t l y
      go_wp2_with fail
      go_quiet ((go_at_call 116; exact quiet_add_left (str_v _ t l bt bl _ (by assumption) ht hl)))
      go_wp2_with fail
      all_goals
        go_roundw
        case rel =>
          refine ⟨k + 1, by omega, by go_num, ?_, _, rfl⟩
          rw [hs.out]
          first | rw [if_pos (by assumption)] | rw [if_neg (by omega)]
        case measure => simp [intOf]; omega
    · go_wp2
      go_ret
      obtain rfl : k = n := by omega
      exact ⟨by rw [hb']; rfl, d, rfl⟩
end Go.Proofs

/- deal.free: the cards of a set, one by one. -/
namespace Go.Proofs
open Go.RowKit
attribute [local go_sem] Oper.semAt_some
instance Msk.bit (c : Nat) [h : LtC c 52] : Msk (2 ^ c) := ⟨bit_lt c h.lt⟩
theorem free_v (m : Nat) (w : World) : Calls Try.prog 47 #[.int .u64 m] w fun e w' => e = .returned (.func (.func 78) #[] #[.pointer (some ⟨w.heap.size, 0, none⟩)]) ∧ w' = w.alloc (.cells #[.int .u64 m] 24) := by
  go_enter Try.func47, Try.ntmps47
  go_wp2
  go_ret
  exact ⟨rfl, rfl⟩
set_option maxRecDepth 100000 in
theorem free_in (I : Nat → Nat → World → Prop) (g L q m0 : Nat) (X : World) [hm0 : Msk m0]
    (hc : ∀ i m w, I i m w → w.cell? ⟨g, 0, none⟩ = some (.int .u64 m) ∧ w.frozen? ⟨g, 0, none⟩ = false)
    (hY : ∀ (i m c : Nat) (cs : List Nat) (w : World), Msk m → cds m = c :: cs → i < 52 → I i m w → YieldAt Fence.wide (q - 1) Try.prog L #[.int .i64 i, .int .u64 (2 ^ c : Nat)] w
      (fun e w' => e = .returned (.bool true) ∧ w'.cell? ⟨g, 0, none⟩ = some (.int .u64 m) ∧ w'.frozen? ⟨g, 0, none⟩ = false ∧ I (i + 1) (andn m (2 ^ c)) (w'.setCell ⟨g, 0, none⟩ (.int .u64 (andn m (2 ^ c) : Nat)))))
    (h0 : I 0 m0 X) :
    CallsIn Fence.wide q Try.prog 78 #[.func (.yield L) #[] #[], .pointer (some ⟨g, 0, none⟩)] X (fun e w' => (∃ v, e = .returned v) ∧ ∃ i, I i 0 w') := by
  refine callsIn_of_wp Try.func78 rfl trivial ?_ rfl
  simp only [Try.ntmps78, List.size_toArray, List.length_cons, List.length_nil, Nat.reduceAdd, Nat.reduceSub, Array.replicate_succ, Array.replicate_zero, List.push_toArray, List.append_toArray, List.nil_append, List.cons_append]
  gi_wp2
  gi_loopw [3] (fun v wr => ∃ i m : Nat, v = .int .i64 i ∧ i + (cds m).length ≤ 52 ∧ Msk m ∧ I i m wr) (fun v _ => 60 - (intOf v).toNat)
  case atStart => exact ⟨0, m0, rfl, by rw [Nat.zero_add, ← pc_cds]; exact pc_le m0, hm0, h0⟩
  case round =>
    obtain ⟨i, m, rfl, hi, hm, hI⟩ := hrel
    obtain ⟨hc1, hc2⟩ := hc i m _ hI
    by_cases hz : m = 0
    · subst hz
      gi_wp2
      go_end0
      exact ⟨⟨_, rfl⟩, i, hI⟩
    · cases hcs : cds m with
      | nil => exact (hz ((cds_nil m).1 hcs)).elim
      | cons c cs =>
        have hlen : i + (cs.length + 1) ≤ 52 := by rw [hcs] at hi; exact hi
        clear hi
        have hm1 := Msk.lt64 m
        have hbc := bit_lt c (cds_cons hcs).1
        haveI : LtC c 52 := ⟨(cds_cons hcs).1⟩
        have hlow : bits .and .u64 (m : Int) (IntKind.u64.wrap (-(m : Int))) = ((2 ^ c : Nat) : Int) := by
          have e : IntKind.u64.wrap (-(m : Int)) = ((18446744073709551616 - m : Nat) : Int) := by
            simp [IntKind.wrap, IntKind.bits, IntKind.signed]; omega
          rw [e, u64_and_nat m _ hm1 (by omega), low_neg hcs]
        have hy := hY i m c cs _ hm hcs (by omega) hI
        clear hY hc
        obtain ⟨M, hM⟩ : ∃ M : Nat, M = 2 ^ c := ⟨_, rfl⟩
        haveI : Msk M := by rw [hM]; infer_instance
        rw [← hM] at hlow hy hbc
        have HM := Lib.hid hM
        clear hM
        obtain ⟨fn, tmps, assign, body, hy, hR⟩ := hy
        gi_wp2
        refine hR.mono ?_
        rintro e w' ⟨rfl, hw1, hw2, hI2⟩
        clear hR hy hc1 hc2
        gi_wp2
        go_roundw
        case rel =>
          refine ⟨i + 1, andn m M, by go_num, ?_, inferInstance, hI2⟩
          rw [HM.out, cds_rest hcs]; omega
        case measure => simp [intOf]; omega
end Go.Proofs

/- Shifts of sets of cards. -/
namespace Go.Proofs
open Go.RowKit
/-- The set of one card. -/
def b1 (c : Nat) : Nat := 2 ^ c
/-- The cards of the suit of a card. -/
def suitm (c : Nat) : Nat := 8191 * 2 ^ (c / 13 * 13)
def shrn (m c : Nat) : Nat := m / 2 ^ c
/-- Is the card in the set? -/
def bitn (m c : Nat) : Nat := if m.testBit c then 1 else 0
theorem b1_eq (c : Nat) : b1 c = 2 ^ c := rfl
instance Msk.b1 (c : Nat) [h : LtC c 52] : Msk (b1 c) := ⟨bit_lt c h.lt⟩
theorem suitm_lt (c : Nat) (h : c < 52) : suitm c < 4503599627370496 := by
  unfold suitm
  have h1 : c / 13 ≤ 3 := by omega
  have h2 : (2 : Nat) ^ (c / 13 * 13) ≤ 2 ^ 39 := Nat.pow_le_pow_right (by decide) (by omega)
  have h3 : (2 : Nat) ^ 39 = 549755813888 := by decide
  omega
instance Msk.suitm (c : Nat) [h : LtC c 52] : Msk (suitm c) := ⟨suitm_lt c h.lt⟩
theorem wrap_nat (n : Nat) (h : n < 18446744073709551616) : IntKind.u64.wrap ((n : Nat) : Int) = (n : Int) := by
  simp [IntKind.wrap, IntKind.bits, IntKind.signed]; omega
@[go_sem ↓ high] theorem shl_one (c : Nat) (yk : IntKind) [h : LtC c 52] : Op.shift .shl .u64 1 yk (c : Int) = pure (.int .u64 (b1 c : Nat)) := by
  rw [shift_shl .u64 yk 1 c (by omega) (by have := h.lt; show (c : Int) ≤ 64; omega)]
  have : (1 : Int) * 2 ^ ((c : Int).toNat) = ((2 ^ c : Nat) : Int) := by simp
  rw [this, wrap_nat _ (Nat.lt_trans (bit_lt c h.lt) (by decide))]; rfl
@[go_sem ↓ high] theorem shl_suit (c : Nat) (yk : IntKind) [h : LtC c 52] : Op.shift .shl .u64 8191 yk ((c : Int) / 13 * 13) = pure (.int .u64 (suitm c : Nat)) := by
  have hc := h.lt
  rw [shift_shl .u64 yk 8191 _ (by omega) (by show (c : Int) / 13 * 13 ≤ 64; omega)]
  have e : ((c : Int) / 13 * 13).toNat = c / 13 * 13 := by omega
  have : (8191 : Int) * 2 ^ (((c : Int) / 13 * 13).toNat) = ((8191 * 2 ^ (c / 13 * 13) : Nat) : Int) := by rw [e]; simp
  rw [this, wrap_nat (8191 * 2 ^ (c / 13 * 13)) (Nat.lt_trans (suitm_lt c h.lt) (by decide))]; rfl
@[go_sem ↓ high] theorem shl_suit' (c : Nat) (yk : IntKind) [h : LtC c 52] : Op.shift .shl .u64 8191 yk (13 * ((c : Int) / 13)) = pure (.int .u64 (suitm c : Nat)) := by
  rw [Int.mul_comm]; exact shl_suit c yk
@[go_sem ↓ high] theorem shr_msk (m c : Nat) (yk : IntKind) [Msk m] [h : LtC c 52] : Op.shift .shr .u64 (m : Int) yk (c : Int) = pure (.int .u64 (shrn m c : Nat)) := by
  rw [shift_shr .u64 yk m c (by omega) (by have := h.lt; show (c : Int) ≤ 64; omega)]
  unfold shrn; simp
@[go_sem ↓ high] theorem shr_52 (m : Nat) (yk : IntKind) [h : Msk m] : Op.shift .shr .u64 (m : Int) yk 52 = pure (.int .u64 0) := by
  rw [shift_shr .u64 yk m 52 (by omega) (by decide)]
  have := h.lt
  have : (m : Int) / 2 ^ ((52 : Int).toNat) = 0 := by
    have e : ((2 : Int) ^ ((52 : Int).toNat)) = 4503599627370496 := by decide
    rw [e]; omega
  rw [this]
theorem shrn_le (m c : Nat) : shrn m c ≤ m := Nat.div_le_self _ _
@[go_sem high] theorem and_bit (m c : Nat) [h : Msk m] : bits .and .u64 ((shrn m c : Nat) : Int) 1 = ((bitn m c : Nat) : Int) := by
  rw [show (1 : Int) = ((1 : Nat) : Int) from rfl, u64_and_nat _ _ (Nat.lt_of_le_of_lt (shrn_le m c) (Msk.lt64 m)) (by decide)]
  congr 1
  unfold shrn bitn
  rw [Nat.and_one_is_mod, Nat.testBit_eq_decide_div_mod_eq]
  by_cases hh : m / 2 ^ c % 2 = 1
  · simp [hh]
  · simp [hh]; omega
theorem bitn_yes {m c : Nat} (h : m.testBit c = true) : bitn m c = 1 := by unfold bitn; rw [if_pos h]
theorem bitn_no {m c : Nat} (h : m.testBit c = false) : bitn m c = 0 := by unfold bitn; rw [if_neg (by rw [h]; decide)]
attribute [irreducible] b1 suitm shrn bitn
/-- revoke.suit -/
theorem suit_v (c : Nat) (w : World) (h : c < 52) : Calls Try.prog 68 #[.int .u8 c] w fun e w' => e = .returned (.int .u64 (suitm c : Nat)) ∧ w = w' := by
  haveI : LtC c 52 := ⟨h⟩
  go_enter Try.func68, Try.ntmps68
  go_wp2
  go_ret
  exact ⟨rfl, rfl⟩
end Go.Proofs

/- trick.Playable, Winner, Seat -/
namespace Go.Proofs
open Go.RowKit
def rmk (h : Nat) (xs : List Nat) : Nat → Nat
  | 0 => h
  | k + 1 => andn (rmk h xs k) (b1 (xs.getD k 0))
/-- The cards that can be played. -/
def playable (h : Nat) (xs : List Nat) : Nat :=
  if xs.length = 0 then h else if rmk h xs xs.length &&& suitm (xs.getD 0 0) = 0 then rmk h xs xs.length else rmk h xs xs.length &&& suitm (xs.getD 0 0)
theorem rmk_msk (h : Nat) [hm : Msk h] (xs : List Nat) (k : Nat) : Msk (rmk h xs k) := by
  induction k with
  | zero => exact hm
  | succ k ih => haveI := ih; exact ⟨Nat.lt_of_le_of_lt (andn_le _ _) ih.lt⟩
theorem playable_msk (h : Nat) [hm : Msk h] (xs : List Nat) : Msk (playable h xs) := by
  unfold playable
  split
  · exact hm
  · haveI := rmk_msk h xs xs.length
    split
    · infer_instance
    · infer_instance
theorem bne_zero {n : Nat} (h : n = 0) : ((n : Int) != 0) = false := by subst h; rfl
theorem bne_pos {n : Nat} (h : n ≠ 0) : ((n : Int) != 0) = true := by rw [bne_iff_ne]; omega
theorem playable0_v (A : Option Addr) (cap h : Nat) (w : World) [Msk h] :
    Calls Try.prog 105 #[.int .u64 h, .slice A 0 cap] w fun e w' => e = .returned (.tuple #[.int .u64 (playable h [] : Nat), .int .i64 0]) ∧ w = w' := by
  go_enter Try.func105, Try.ntmps105
  go_wp2
  go_ret2
  exact ⟨rfl, rfl⟩
set_option maxHeartbeats 1000000 in
set_option maxRecDepth 100000 in
theorem playable_v (A : Option Addr) (cap h : Nat) (xs : List Nat) (w : World) [hm : Msk h] (hcap : xs.length ≤ cap) (hl : xs.length ≤ 3) (hr : RdS w A xs) (ht : Trick xs) :
    Calls Try.prog 105 #[.int .u64 h, .slice A xs.length cap] w fun e w' => e = .returned (.tuple #[.int .u64 (playable h xs : Nat), .int .i64 0]) ∧ w = w' := by
  obtain ⟨g, o, rfl, hc⟩ := hr.pos ht.pos
  have hp := ht.pos
  obtain ⟨x0, hx0⟩ : ∃ x, xs[0]? = some x := ⟨_, List.getElem?_eq_getElem hp⟩
  have hc0 := hc 0 x0 hx0
  have hx052 := ht.card x0 (List.mem_of_getElem? hx0)
  obtain ⟨R, hR⟩ : ∃ R, R = rmk h xs xs.length := ⟨_, rfl⟩
  haveI : Msk R := by rw [hR]; exact rmk_msk h xs _
  have hP : Hid (playable h xs = if R &&& suitm x0 = 0 then R else R &&& suitm x0) := Lib.hid (by
    unfold playable
    rw [if_neg (by omega), ← hR, List.getD_eq_getElem?_getD, hx0]; rfl)
  have HR := Lib.hid hR
  obtain ⟨n, hn'⟩ : ∃ n, n = xs.length := ⟨_, rfl⟩
  have HRv := fun W (h : RdS W (some ⟨g, o, none⟩) xs) => trickRight_v (some ⟨g, o, none⟩) cap xs W hcap h ht
  rw [← hn'] at HRv hp hl hcap ⊢
  have HTR := Lib.hid HRv
  have HN := Lib.hid hn'
  have HS := Lib.hid hr
  have HT := Lib.hid ht
  have HC := Lib.hid hc
  clear hr ht hc hn' hR HRv hx0
  rw [Nat.add_zero] at hc0
  haveI : LtC x0 52 := ⟨hx052⟩
  by_cases hz : R &&& suitm x0 = 0
  all_goals
    have hzb := hz
    first | replace hzb := bne_zero hzb | replace hzb := bne_pos hzb
    have HZ := Lib.hid hz
    clear hz
    go_enter Try.func105, Try.ntmps105
    go_wp2_with (go_at_call 109; refine (HTR.out _ HS.out).mono ?_; rintro e w' ⟨rfl, rfl⟩)
    go_loop [0, 33] (fun v i => ∃ k m : Nat, k ≤ n ∧ i = .int .i64 k ∧ v = .int .u64 m ∧ Hid (m = rmk h xs k) ∧ Msk m) (fun _ i => n - (intOf i).toNat)
    case atStart => exact ⟨0, h, Nat.zero_le _, rfl, rfl, Lib.hid rfl, hm⟩
    case round =>
      obtain ⟨k, m, hk, rfl, rfl, Hm, hmm⟩ := hrel
      by_cases hlt : k < n
      · have hx : ∃ x, xs[k]? = some x := ⟨_, List.getElem?_eq_getElem (by rw [← HN.out]; exact hlt)⟩
        obtain ⟨x, hx⟩ := hx
        have hcx := HC.out k x hx
        have hx52 := HT.out.card x (List.mem_of_getElem? hx)
        haveI : LtC x 52 := ⟨hx52⟩
        have hs : Hid (rmk h xs (k + 1) = andn m (b1 x)) := Lib.hid (by
          rw [rmk, ← Hm.out, List.getD_eq_getElem?_getD, hx]; rfl)
        clear hx
        go_wp2
        go_round
        case rel => exact ⟨k + 1, andn m (b1 x), by omega, by go_num, rfl, Lib.hid hs.out.symm, inferInstance⟩
        case measure => simp [intOf]; omega
      · obtain rfl : k = n := by omega
        obtain rfl : m = R := by rw [Hm.out, HR.out, HN.out]
        go_wp2_with (go_at_call 112; refine (cardSuit_v x0 _ hx052).mono ?_; rintro e w' ⟨rfl, rfl⟩)
        go_ret2
        refine ⟨?_, rfl⟩
        rw [hP.out]
        first | (rw [if_pos HZ.out]; rfl) | (rw [if_neg HZ.out]; rfl)
/-- The index of the winning card. -/
def winI (t : Nat) (xs : List Nat) : Nat := bestI (strength t (xs.getD 0 0 / 13)) xs xs.length
theorem winI_lt (t : Nat) {xs : List Nat} (h : 0 < xs.length) : winI t xs < xs.length := by
  have := bestI_lt (strength t (xs.getD 0 0 / 13)) xs xs.length
  unfold winI; omega
theorem strengths_v (t l : Nat) (w : World) :
    Calls Try.prog 111 #[.int .u8 t, .int .u8 l] w fun e w' => e = .returned (.func (.func 116) #[] #[.pointer (some ⟨w.heap.size, 0, none⟩), .pointer (some ⟨w.heap.size + 1, 0, none⟩)]) ∧ w' = (w.alloc (.cells #[.int .u8 t] 5)).alloc (.cells #[.int .u8 l] 5) := by
  go_enter Try.func111, Try.ntmps111
  go_wp2
  go_ret
  exact ⟨rfl, rfl⟩
theorem cell_lt {w : World} {g o : Nat} {v : Value} (h : w.cell? ⟨g, o, none⟩ = some v) : g < w.heap.size := by
  rcases Nat.lt_or_ge g w.heap.size with h1 | h1
  · exact h1
  · simp [World.cell?, Array.getElem?_eq_none h1] at h
theorem RdS.below {w w' : World} {A : Option Addr} {xs : List Nat} (h : RdS w A xs) (hb : RowKit.Below w.heap.size w w') : RdS w' A xs := by
  rcases h with h | ⟨g, o, hA, hc⟩
  · exact .inl h
  · exact .inr ⟨g, o, hA, fun j x hx => by rw [hb.cell (p := ⟨g, o + j, none⟩) (cell_lt (hc j x hx))]; exact hc j x hx⟩
attribute [local irreducible] strength bestI
set_option maxHeartbeats 1000000 in
theorem winner_v (A : Option Addr) (cap t : Nat) (xs : List Nat) (w : World) (hcap : xs.length ≤ cap) (hr : RdS w A xs) (ht : Trick xs) (h4 : t ≤ 4) :
    Calls Try.prog 98 #[.int .u8 t, .slice A xs.length cap] w fun e w' => ∃ n : Nat, e = .returned (.tuple #[.int .i64 n, .int .i64 0]) ∧ Hid (n = winI t xs) ∧ RowKit.Below w.heap.size w w' := by
  obtain ⟨g, o, rfl, hc⟩ := hr.pos ht.pos
  have hp := ht.pos
  obtain ⟨x0, hx0⟩ : ∃ x, xs[0]? = some x := ⟨_, List.getElem?_eq_getElem hp⟩
  have hc0 := hc 0 x0 hx0
  rw [Nat.add_zero] at hc0
  have hx052 := ht.card x0 (List.mem_of_getElem? hx0)
  have hW : Hid (winI t xs = bestI (strength t (x0 / 13)) xs xs.length) := Lib.hid (by
    unfold winI; rw [List.getD_eq_getElem?_getD, hx0]; rfl)
  have htr := fun W (h : RdS W (some ⟨g, o, none⟩) xs) => trickRight_v (some ⟨g, o, none⟩) cap xs W hcap h ht
  have hbe := fun bt bl W (h : RdS W (some ⟨g, o, none⟩) xs) h1 h2 => best_v (some ⟨g, o, none⟩) cap t (x0 / 13) bt bl xs W (by have := ht.le; omega) ht.card h h1 h2
  have hl4 := ht.le
  have HS := Lib.hid hr
  have HT := Lib.hid ht
  have HC := Lib.hid hc
  clear hr ht hc hx0
  obtain ⟨n, hn'⟩ : ∃ n, n = xs.length := ⟨_, rfl⟩
  obtain ⟨r, hr⟩ : ∃ r, r = bestI (strength t (x0 / 13)) xs n := ⟨_, rfl⟩
  rw [← hn'] at htr hp hcap hl4 hbe hW ⊢
  simp only [← hr] at hbe
  rw [← hr] at hW
  have HTR := Lib.hid htr; have HBE := Lib.hid hbe; have HN := Lib.hid hn'
  clear htr hbe hn' hr
  obtain ⟨l, hl⟩ : ∃ l, l = x0 / 13 := ⟨_, rfl⟩
  have hsu := fun W => cardSuit_v x0 W hx052
  rw [← hl] at HBE hsu
  have HSU := Lib.hid hsu
  clear hsu hl
  go_enter Try.func98, Try.ntmps98
  go_wp2_with (first | (go_at_call 109; refine (HTR.out _ HS.out).mono ?_; rintro e w' ⟨rfl, rfl⟩) | (go_at_call 112; refine (HSU.out _).mono ?_; rintro e w' ⟨rfl, rfl⟩))
  refine (strengths_v t l _).mono ?_
  rintro e w' ⟨rfl, rfl⟩
  go_wp2_with fail
  refine (HBE.out _ _ _ ?_ ?_ ?_).mono ?_
  · refine HS.out.below ?_
    simp only [World.alloc_gar, World.gar_gar, World.gar_drewN, World.gar_drew]; exact RowKit.Below.of_gar _ _ _
  · simp [go_sem]
  · simp [go_sem]
  rintro e w' ⟨rfl, d, rfl⟩
  go_wp2_with fail
  go_ret2
  refine ⟨r, rfl, Lib.hid hW.out.symm, ?_⟩
  simp only [World.alloc_gar, World.gar_gar, World.gar_drewN, World.gar_drew]; exact RowKit.Below.of_gar _ _ _
set_option maxHeartbeats 1000000 in
theorem seat_v (A : Option Addr) (cap t ld : Nat) (xs : List Nat) (w : World) (hcap : xs.length ≤ cap) (hr : RdS w A xs) (ht : Trick xs) (h4 : t ≤ 4) (hld : ld ≤ 3) :
    Calls Try.prog 108 #[.int .u8 t, .int .u8 ld, .slice A xs.length cap] w fun e w' => ∃ n : Nat, e = .returned (.tuple #[.int .u8 n, .int .i64 0]) ∧ Hid (n = (ld + winI t xs) % 4) ∧ RowKit.Below w.heap.size w w' := by
  have hw := winI_lt t ht.pos
  have h4' := ht.le
  have hwv := fun W (h : RdS W A xs) => winner_v A cap t xs W hcap h ht h4
  obtain ⟨n, hn'⟩ : ∃ n, n = xs.length := ⟨_, rfl⟩
  rw [← hn'] at hwv hw h4' hcap ⊢
  have HW := Lib.hid hwv
  have HS := Lib.hid hr
  clear hwv hn' hr ht
  obtain ⟨r, hr⟩ : ∃ r, r = winI t xs := ⟨_, rfl⟩
  rw [← hr] at hw HW ⊢
  have HR := Lib.hid hr
  clear hr
  go_enter Try.func108, Try.ntmps108
  go_wp2_with fail
  refine (HW.out _ HS.out).mono ?_
  rintro e w' ⟨q, rfl, Hq, hb⟩
  obtain rfl : q = r := Hq.out
  obtain ⟨l, d, rfl⟩ := hb.gar
  clear hb Hq
  go_wp2_with fail
  go_ret2
  exact ⟨(ld + q) % 4, by simp, Lib.hid rfl, RowKit.Below.of_gar _ _ _⟩
end Go.Proofs

/- A world of which two cells are other ones. -/
namespace Go
open Go.RowKit
theorem World.setCell_self {w : World} {a : Addr} {v : Value} (h : w.cell? a = some v) : w.setCell a v = w := by
  unfold World.setCell
  have : (w.heap.modify a.block fun
      | .cells c elem frozen => .cells (if a.spot.isSome then c else c.setIfInBounds a.off v) elem frozen
      | o => o) = w.heap := by
    apply Array.ext_getElem?
    intro k
    rw [Array.getElem?_modify]
    split
    · rename_i hk
      subst hk
      unfold World.cell? at h
      cases hb : w.heap[a.block]? with
      | none => rfl
      | some o =>
        rw [hb] at h
        cases o <;> try rfl
        rename_i c e f
        simp only at h
        split at h
        · cases h
        · rename_i hs
          simp only [Option.map_some, hs]
          congr 2
          apply Array.ext_getElem?
          intro j
          by_cases hj : a.off = j
          · subst hj; simp [h]; 
            have := (Array.getElem?_eq_some_iff.1 h).1
            simp [this]
          · rw [if_neg (by simp), Array.getElem?_setIfInBounds_ne hj]
    · rfl
  exact congrArg (fun h => ({ w with heap := h } : World)) this
theorem World.setCell_setCell (w : World) (a : Addr) (u v : Value) : (w.setCell a u).setCell a v = w.setCell a v := by
  unfold World.setCell
  congr 1
  apply Array.ext_getElem?
  intro k
  simp only [Array.getElem?_modify]
  by_cases hk : a.block = k
  · rw [if_pos hk, if_pos hk, if_pos hk, Option.map_map]
    cases w.heap[k]? with
    | none => rfl
    | some o =>
      cases o <;> try rfl
      rename_i c e f
      simp only [Option.map_some, Function.comp]
      by_cases hs : a.spot.isSome = true
      · simp [hs]
      · simp [hs]
  · simp [hk]
theorem World.setCell_comm (w : World) (a b : Addr) (u v : Value) (h : a.block ≠ b.block) : (w.setCell a u).setCell b v = (w.setCell b v).setCell a u := by
  unfold World.setCell
  congr 1
  apply Array.ext_getElem?
  intro k
  simp only [Array.getElem?_modify]
  by_cases hk : a.block = k
  · have : ¬ b.block = k := by omega
    simp [hk, this]
  · by_cases hb : b.block = k <;> simp [hk, hb]
def World.two (w : World) (br bp s r p : Nat) : World := (w.setCell ⟨br, 0, none⟩ (.int .u64 r)).setCell ⟨bp, s, none⟩ (.int .u64 p)
section
variable {w : World} {br bp s r p : Nat}
@[simp, go_sem] theorem World.size_two : (w.two br bp s r p).heap.size = w.heap.size := by simp [World.two]
@[go_sem] theorem World.frozen_two (a : Addr) : (w.two br bp s r p).frozen? a = w.frozen? a := by simp [World.two]
theorem World.two_br [h : LtC bp br] (hc : (w.cell? ⟨br, 0, none⟩).isSome = true) : (w.two br bp s r p).cell? ⟨br, 0, none⟩ = some (.int .u64 r) := by
  unfold World.two
  have hne : bp ≠ br := Nat.ne_of_lt h.lt
  exact (World.cell?_setCell_other _ _ _ _ (by simp [hne])).trans (World.cell?_setCell_same' _ _ _ hc)
theorem World.two_bp [h : LtC bp br] (hc : (w.cell? ⟨bp, s, none⟩).isSome = true) : (w.two br bp s r p).cell? ⟨bp, s, none⟩ = some (.int .u64 p) := by
  unfold World.two
  have hne : bp ≠ br := Nat.ne_of_lt h.lt
  apply World.cell?_setCell_same'
  exact (congrArg Option.isSome (World.cell?_setCell_other _ _ _ _ (by simp [Ne.symm hne]))).trans hc
theorem World.two_set_br [h : LtC bp br] (r' : Nat) : (w.two br bp s r p).setCell ⟨br, 0, none⟩ (.int .u64 r') = w.two br bp s r' p := by
  unfold World.two
  have hne : bp ≠ br := Nat.ne_of_lt h.lt
  rw [World.setCell_comm _ _ _ _ _ (by exact hne), World.setCell_setCell]
theorem World.two_set_bp (p' : Nat) : (w.two br bp s r p).setCell ⟨bp, s, none⟩ (.int .u64 p') = w.two br bp s r p' := by
  unfold World.two
  rw [World.setCell_setCell]
theorem World.two_self (h1 : w.cell? ⟨br, 0, none⟩ = some (.int .u64 r)) (h2 : w.cell? ⟨bp, s, none⟩ = some (.int .u64 p)) : w.two br bp s r p = w := by
  unfold World.two
  rw [World.setCell_self h1, World.setCell_self h2]
end
attribute [go_sem] World.two_br World.two_bp World.two_set_br World.two_set_bp
end Go
