/- The winners of a legal play are the tricks of the play. -/
import Derived.Test.YtaladbaeplgjgaaX14
import Derived.Test.YtaladbaeplgjgaaX24
import Derived.Test.YtaladbaeplgjgaaX19
set_option linter.unusedSimpArgs false
set_option linter.unusedVariables false
namespace Go.Proofs
open Go.RowKit
theorem winsL_lt (tm : Nat) (s0 : PS) (cs : List Nat) (h : Inv s0 0) (hh : Held tm s0 cs) (k : Nat) (hk : 4 * k ≤ cs.length) : ∀ q ∈ wins tm s0 cs k, q < 4 := by
  intro q hq
  unfold wins at hq
  rw [List.mem_map] at hq
  obtain ⟨j, hj, rfl⟩ := hq
  rw [List.mem_range] at hj
  have := (h.run hh (4 * (j + 1)) (by omega)).ld
  omega
theorem run_won {dn : Nat} {s : PS} {cs : List Nat} (h : Inv s 0) (hh : Held dn s cs) (i : Nat) (hi : i ≤ cs.length) :
    (runP dn s (cs.take i)).w0 = s.w0 + sideN 0 (wins dn s cs (i / 4)) ∧ (runP dn s (cs.take i)).w1 = s.w1 + sideN 1 (wins dn s cs (i / 4)) := by
  induction i with
  | zero => exact ⟨rfl, rfl⟩
  | succ i ih =>
    obtain ⟨ih1, ih2⟩ := ih (by omega)
    have hlen := (h.run hh i (by omega)).len
    obtain ⟨x, hx⟩ : ∃ x, cs[i]? = some x := ⟨_, List.getElem?_eq_getElem (by omega)⟩
    have htk : cs.take (i + 1) = cs.take i ++ [x] := by rw [List.take_add_one, hx]; rfl
    by_cases h4 : i % 4 + 1 < 4
    · have e : (i + 1) / 4 = i / 4 := by omega
      rw [e, htk, runP_snoc]
      unfold PS.put
      rw [if_pos (by rw [hlen]; omega)]
      exact ⟨ih1, ih2⟩
    · have e : (i + 1) / 4 = i / 4 + 1 := by omega
      have e4 : 4 * (i / 4 + 1) = i + 1 := by omega
      rw [e, wins_succ, sideN_snoc, sideN_snoc, e4]
      obtain ⟨L, hL⟩ : ∃ L, L = (runP dn s (cs.take (i + 1))).ld := ⟨_, rfl⟩
      rw [← hL, htk, runP_snoc]
      rw [htk, runP_snoc] at hL
      unfold PS.put at hL ⊢
      rw [if_neg (by rw [hlen]; omega)] at hL ⊢
      simp only at hL ⊢
      rw [← hL, ih1, ih2]
      by_cases h2 : L % 2 = 0
      · rw [if_pos h2, if_pos h2, if_pos h2, if_neg (by omega)]; exact ⟨rfl, rfl⟩
      · rw [if_neg h2, if_neg h2, if_neg h2, if_pos (by omega)]; exact ⟨rfl, rfl⟩
/-- At the end of all cards nothing is held. -/
theorem Inv.empty {s : PS} (h : Inv s 52) : s.a = 0 ∧ s.b = 0 ∧ s.c = 0 ∧ s.d = 0 := by
  have e : ∀ i, i < 4 → s.h i = 0 := by
    intro i hi
    have hc := h.cnt i hi
    haveI := h.msk i hi
    have h0 : pc (s.h i) = 0 := by split at hc <;> omega
    rw [pc_cds] at h0
    exact (cds_nil _).1 (List.eq_nil_of_length_eq_zero h0)
  exact ⟨e 0 (by omega), e 1 (by omega), e 2 (by omega), e 3 (by omega)⟩
end Go.Proofs

/- A legal card follows suit, or its seat had none of the suit at the trick's start. -/
namespace Go.Proofs
theorem suit_self (x : Nat) (h : x < 52) : (suitm x).testBit x = true := by
  have : ∀ x : Fin 52, (8191 * 2 ^ (x.val / 13 * 13)).testBit x.val = true := by decide
  unfold suitm
  exact this ⟨x, h⟩
theorem run_hand {dn : Nat} {s : PS} {cs : List Nat} (h : Inv s 0) (hh : Held dn s cs) (k : Nat) : ∀ j, j ≤ 3 → 4 * k + j ≤ cs.length → ∀ q, q < 4 → (∀ i, i < j → ((runP dn s (cs.take (4 * k))).ld + i) % 4 ≠ q) →
    (runP dn s (cs.take (4 * k + j))).h q = (runP dn s (cs.take (4 * k))).h q := by
  intro j
  induction j with
  | zero => intro _ _ q _ _; rfl
  | succ j ih =>
    intro hj hc q hq hne
    obtain ⟨x, hx⟩ : ∃ x, cs[4 * k + j]? = some x := ⟨_, List.getElem?_eq_getElem (by omega)⟩
    have htk : cs.take (4 * k + (j + 1)) = cs.take (4 * k + j) ++ [x] := by rw [← Nat.add_assoc, List.take_add_one, hx]; rfl
    have hinv := h.run hh (4 * k + j) (by omega)
    have htr := run_tr h hh (4 * k + j) (by omega)
    rw [show (4 * k + j) / 4 = k by omega] at htr
    have htn : (runP dn s (cs.take (4 * k + j))).turn = ((runP dn s (cs.take (4 * k))).ld + j) % 4 := by
      unfold PS.turn; rw [hinv.len, htr.2, show (4 * k + j) % 4 = j by omega]
    rw [htk, runP_snoc, put_h_sel _ _ _ _ hq, htn]
    unfold rmv
    rw [if_neg (hne j (by omega))]
    exact ih (by omega) (by omega) q hq fun i hi => hne i (by omega)
theorem follows {dn : Nat} {s : PS} {cs : List Nat} (h : Inv s 0) (hl : Leg dn s cs) (k j x y : Nat) (hj : j ≤ 3) (hx : cs[4 * k + j]? = some x) (hy : cs[4 * k]? = some y) :
    (suitm y).testBit x = true ∨ (runP dn s (cs.take (4 * k))).h (((runP dn s (cs.take (4 * k))).ld + j) % 4) &&& suitm y = 0 := by
  have hh := hl.held h
  have hlen : 4 * k + j < cs.length := (List.getElem?_eq_some_iff.1 hx).1
  have hinv := h.run hh (4 * k + j) (by omega)
  have htr := run_tr h hh (4 * k + j) (by omega)
  have hleg := hl (4 * k + j) x hx
  rw [show (4 * k + j) / 4 = k by omega] at htr
  have htn : (runP dn s (cs.take (4 * k + j))).turn = ((runP dn s (cs.take (4 * k))).ld + j) % 4 := by
    unfold PS.turn; rw [hinv.len, htr.2, show (4 * k + j) % 4 = j by omega]
  have hld := (h.run hh (4 * k) (by omega)).ld
  by_cases hj0 : j = 0
  · subst hj0
    have e : x = y := by rw [Nat.add_zero, hy] at hx; exact (Option.some.inj hx).symm
    subst e
    left
    have hx52 := hinv.lt52 (PS.turn_lt _) (hinv.legal_sub hleg)
    exact suit_self x hx52
  · rw [hinv.playable, hinv.len, if_neg (by omega)] at hleg
    have hget : (runP dn s (cs.take (4 * k + j))).tr.getD 0 0 = y := by
      rw [htr.1, List.getD_eq_getElem?_getD, List.getElem?_drop, Nat.add_zero, List.getElem?_take, if_pos (by omega), hy]; rfl
    rw [hget, htn, run_hand h hh k j hj (by omega) _ (Nat.mod_lt _ (by omega)) (fun i hi e => by omega)] at hleg
    split at hleg
    · right; assumption
    · left
      rw [Nat.testBit_and, Bool.and_eq_true] at hleg
      exact hleg.2
end Go.Proofs
