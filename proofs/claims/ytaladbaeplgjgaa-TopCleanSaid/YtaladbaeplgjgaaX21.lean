/- revoke.rounds: the iterator's own memory -/
import Derived.Test.YtaladbaeplgjgaaX20
import Derived.Test.YtaladbaeplgjgaaX12
set_option linter.unusedSimpArgs false
set_option linter.unusedVariables false
namespace Go.Proofs
open Go.RowKit
theorem gar_keep {B B' : World} (hs : B'.heap.size = B.heap.size) (l m : List Obj) (d d' g : Nat) (h1 : B.heap.size ≤ g) (h2 : g < (B.gar l d).heap.size) : (B'.gar (l ++ m) d').heap[g]? = (B.gar l d).heap[g]? := by
  rw [World.size_gar] at h2
  obtain ⟨n, rfl⟩ : ∃ n, g = B.heap.size + n := ⟨g - B.heap.size, by omega⟩
  rw [World.heap_gar_at, ← hs, World.heap_gar_at, List.getElem?_append_left (by omega)]
/-- The iterator's memory: the record, its cards, the hands, the round. -/
structure RI (H br : Nat) (rc : Array Value) (C : Option Addr) (cs : List Nat) (s bf : PS) (base : Nat) (A : Option Addr) (cap : Nat) (w : World) : Prop where
  rec_ : w.heap[br]? = some (.cells rc 79 (0, 0))
  cards : RdS w C cs
  hands : w.heap[H + 1]? = some (.cells #[.int .u64 s.a, .int .u64 s.b, .int .u64 s.c, .int .u64 s.d] 26 (0, 0))
  rnd : w.heap[H]? = some (.cells #[.int .u8 s.ld, .slice A s.tr.length cap, .int .u64 bf.a, .int .u64 bf.b, .int .u64 bf.c, .int .u64 bf.d] 145 (0, 0))
  row : w.ownsRow base 5 1 (.slice A s.tr.length cap) s.tr.length (u8s s.tr)
/-- Nothing that existed has changed but the blocks H and H + 1. -/
structure Only2 (H : Nat) (w w' : World) : Prop where
  os : w'.os = w.os
  tape : w'.tape = w.tape
  output : w'.output = w.output
  size : w.heap.size ≤ w'.heap.size
  block : ∀ b, b < w.heap.size → b ≠ H → b ≠ H + 1 → w'.heap[b]? = w.heap[b]?
theorem Only2.refl (H : Nat) (w : World) : Only2 H w w := ⟨rfl, rfl, rfl, Nat.le_refl _, fun _ _ _ _ => rfl⟩
theorem Only2.trans {H : Nat} {a b c : World} (h : Only2 H a b) (k : Only2 H b c) : Only2 H a c :=
  ⟨k.os.trans h.os, k.tape.trans h.tape, k.output.trans h.output, Nat.le_trans h.size k.size, fun x hx h1 h2 => (k.block x (Nat.lt_of_lt_of_le hx h.size) h1 h2).trans (h.block x hx h1 h2)⟩
theorem Only2.below {H : Nat} {a b : World} (h : RowKit.Below a.heap.size a b) : Only2 H a b := ⟨h.os, h.tape, h.output, h.size, fun x hx _ _ => h.block x hx⟩
theorem Only2.set {H j : Nat} (w : World) (v : Value) (b : Nat) (hb : b = H ∨ b = H + 1) : Only2 H w (w.setCell ⟨b, j, none⟩ v) :=
  ⟨rfl, rfl, rfl, by simp [World.setCell], fun x _ h1 h2 => World.heap_set_ne (by omega)⟩
/-- A card has been taken out of the hand of the turn. -/
def PS.took (s : PS) (x : Nat) : PS := ⟨rmv s.a s.turn 0 x, rmv s.b s.turn 1 x, rmv s.c s.turn 2 x, rmv s.d s.turn 3 x, s.w0, s.w1, s.ld, s.tr ++ [x]⟩
theorem hands_set (s : PS) (x t : Nat) (ht : t = s.turn) : (#[.int .u64 s.a, .int .u64 s.b, .int .u64 s.c, .int .u64 s.d] : Array Value).setIfInBounds t (.int .u64 ((andn (s.h t) (b1 x) : Nat) : Int)) =
    #[.int .u64 ((s.took x).a : Nat), .int .u64 ((s.took x).b : Nat), .int .u64 ((s.took x).c : Nat), .int .u64 ((s.took x).d : Nat)] := by
  have hlt := s.turn_lt
  unfold PS.took PS.h rmv
  rw [← ht] at hlt ⊢
  rcases (show t = 0 ∨ t = 1 ∨ t = 2 ∨ t = 3 by omega) with rfl | rfl | rfl | rfl <;> rfl
theorem RI.step {H br : Nat} {rc : Array Value} {C : Option Addr} {cs : List Nat} {s bf : PS} {base : Nat} {A : Option Addr} {cap : Nat} {w w0 : World} (h : RI H br rc C cs s bf base A cap w) (hbr : br < H) (hC : ∀ g o, C = some ⟨g, o, none⟩ → g < H) (hH : H + 2 ≤ base)
    {x t : Nat} (ht : t = s.turn) {W : World} {cap2 g2 : Nat} {l : List Obj} {d : Nat} {o : Obj} (hsz : base ≤ w.heap.size) (hO : Only2 H w0 w) (h0 : w0.heap.size ≤ base)
    (hg : (((w.setCell ⟨H + 1, t, none⟩ (.int .u64 ((andn (s.h t) (b1 x) : Nat) : Int))).gar l d).alloc o).grownBy W (Value.slice A s.tr.length cap).ownBlock)
    (hn : W.ownsRow base 5 1 (.slice (some ⟨g2, 0, none⟩) (s.tr.length + 1) cap2) (s.tr.length + 1) (u8s (s.tr ++ [x]))) :
    RI H br rc C cs (s.took x) bf base (some ⟨g2, 0, none⟩) cap2 (W.setCell ⟨H, 1, none⟩ (.slice (some ⟨g2, 0, none⟩) (s.tr.length + 1) cap2)) ∧ Only2 H w0 (W.setCell ⟨H, 1, none⟩ (.slice (some ⟨g2, 0, none⟩) (s.tr.length + 1) cap2)) ∧ w.heap.size ≤ (W.setCell ⟨H, 1, none⟩ (.slice (some ⟨g2, 0, none⟩) (s.tr.length + 1) cap2)).heap.size := by
  have hs : ∀ (W : World) (p : Addr) (u : Value), (W.setCell p u).heap.size = W.heap.size := fun W p u => by simp [World.setCell]
  have hrow : ∀ q, (Value.slice A s.tr.length cap).ownBlock = some q → base ≤ q := fun q hq => (h.row.lt q hq).1
  have hb : ∀ b, b < base → W.heap[b]? = (w.setCell ⟨H + 1, t, none⟩ (.int .u64 ((andn (s.h t) (b1 x) : Nat) : Int))).heap[b]? := fun b hb => by
    rw [hg.block b (by simp [hs]; omega) (fun e => by have := hrow b e.symm; omega)]
    rw [World.heap_alloc_past _ _ _ (by simp [hs]; omega), World.heap_gar_past (by rw [hs]; omega)]
  have hb2 : ∀ b, b < base → b ≠ H + 1 → W.heap[b]? = w.heap[b]? := fun b h1 h2 => by
    rw [hb b h1, World.heap_set_ne (by omega)]
  have hlen : (s.took x).tr.length = s.tr.length + 1 := by show (s.tr ++ [x]).length = _; simp
  have hwsz : w.heap.size ≤ W.heap.size := by have := hg.size; simp [hs] at this; omega
  refine ⟨⟨?_, ?_, ?_, ?_, ?_⟩, ⟨?_, ?_, ?_, ?_, ?_⟩, by rw [hs]; exact hwsz⟩
  · rw [World.heap_set_ne (by omega), hb2 br (by omega) (by omega)]; exact h.rec_
  · refine h.cards.block fun g o' e => ?_
    have := hC g o' e
    rw [World.heap_set_ne (by omega), hb2 g (by omega) (by omega)]
  · rw [World.heap_set_ne (by omega), hb (H + 1) (by omega), World.heap_set_at h.hands, hands_set s x t ht]
  · rw [hlen]
    have := World.heap_set_at (j := 1) (v := .slice (some ⟨g2, 0, none⟩) (s.tr.length + 1) cap2) (show W.heap[H]? = _ by rw [hb2 H (by omega) (by omega)]; exact h.rnd)
    rw [this]; rfl
  · rw [hlen]
    exact hn.set (by omega)
  · exact hg.os.trans hO.os
  · exact hg.tape.trans hO.tape
  · exact hg.output.trans hO.output
  · rw [hs]; have := hO.size; omega
  · intro b h1 h2 h3
    rw [World.heap_set_ne (by omega), hb2 b (by omega) h3]
    exact hO.block b h1 h2 h3
theorem RI.keep {H br : Nat} {rc : Array Value} {C : Option Addr} {cs : List Nat} {s bf : PS} {base : Nat} {A : Option Addr} {cap : Nat} {w w' : World} (h : RI H br rc C cs s bf base A cap w)
    (hk : ∀ b, (b = br ∨ b = H ∨ b = H + 1 ∨ (∃ o, C = some ⟨b, o, none⟩) ∨ (∃ o, A = some ⟨b, o, none⟩)) → w'.heap[b]? = w.heap[b]?) : RI H br rc C cs s bf base A cap w' := by
  refine ⟨?_, ?_, ?_, ?_, ?_⟩
  · rw [hk br (.inl rfl)]; exact h.rec_
  · exact h.cards.block fun g o e => hk g (.inr (.inr (.inr (.inl ⟨o, e⟩))))
  · rw [hk (H + 1) (.inr (.inr (.inl rfl)))]; exact h.hands
  · rw [hk H (.inr (.inl rfl))]; exact h.rnd
  · refine ⟨h.row.1, ?_⟩
    rcases h.row.2 with h2 | ⟨g, cp, cur, h1, h2, h3, h4⟩
    · exact .inl h2
    · refine .inr ⟨g, cp, cur, h1, h2, ?_, h4⟩
      rw [hk g (.inr (.inr (.inr (.inr ⟨0, by simp at h1; exact h1.1⟩))))]; exact h3
/-- Six cells stored. -/
def set6 (w : World) (b : Nat) (v0 v1 v2 v3 v4 v5 : Value) : World := (((((w.setCell ⟨b, 0, none⟩ v0).setCell ⟨b, 1, none⟩ v1).setCell ⟨b, 2, none⟩ v2).setCell ⟨b, 3, none⟩ v3).setCell ⟨b, 4, none⟩ v4).setCell ⟨b, 5, none⟩ v5
theorem set6_at {w : World} {b : Nat} {v0 v1 v2 v3 v4 v5 o0 o1 o2 o3 o4 o5 : Value} {T : TypeId} (h : w.heap[b]? = some (.cells #[o0, o1, o2, o3, o4, o5] T (0, 0))) :
    (set6 w b v0 v1 v2 v3 v4 v5).heap[b]? = some (.cells #[v0, v1, v2, v3, v4, v5] T (0, 0)) := by
  have h0 := World.heap_set_at (j := 0) (v := v0) h
  have h1 := World.heap_set_at (j := 1) (v := v1) h0
  have h2 := World.heap_set_at (j := 2) (v := v2) h1
  have h3 := World.heap_set_at (j := 3) (v := v3) h2
  have h4 := World.heap_set_at (j := 4) (v := v4) h3
  have h5 := World.heap_set_at (j := 5) (v := v5) h4
  unfold set6
  rw [h5]
  rfl
theorem set6_ne {w : World} {b k : Nat} {v0 v1 v2 v3 v4 v5 : Value} (h : b ≠ k) : (set6 w b v0 v1 v2 v3 v4 v5).heap[k]? = w.heap[k]? := by
  unfold set6
  rw [World.heap_set_ne h, World.heap_set_ne h, World.heap_set_ne h, World.heap_set_ne h, World.heap_set_ne h, World.heap_set_ne h]
theorem set6_size (w : World) (b : Nat) (v0 v1 v2 v3 v4 v5 : Value) : (set6 w b v0 v1 v2 v3 v4 v5).heap.size = w.heap.size := by
  have hs : ∀ (W : World) (p : Addr) (u : Value), (W.setCell p u).heap.size = W.heap.size := fun W p u => by simp [World.setCell]
  unfold set6
  rw [hs, hs, hs, hs, hs, hs]
theorem set6_only {H : Nat} {a w : World} {v0 v1 v2 v3 v4 v5 : Value} (h : Only2 H a w) : Only2 H a (set6 w H v0 v1 v2 v3 v4 v5) := by
  have ho : ∀ (W : World) (p : Addr) (u : Value), (W.setCell p u).os = W.os := fun W p u => rfl
  have ht : ∀ (W : World) (p : Addr) (u : Value), (W.setCell p u).tape = W.tape := fun W p u => rfl
  have hu : ∀ (W : World) (p : Addr) (u : Value), (W.setCell p u).output = W.output := fun W p u => rfl
  refine ⟨?_, ?_, ?_, ?_, ?_⟩
  · unfold set6
    rw [ho, ho, ho, ho, ho, ho]; exact h.os
  · unfold set6
    rw [ht, ht, ht, ht, ht, ht]; exact h.tape
  · unfold set6
    rw [hu, hu, hu, hu, hu, hu]; exact h.output
  · rw [set6_size]; exact h.size
  · intro b h1 h2 h3
    rw [set6_ne (by omega)]; exact h.block b h1 h2 h3
/-- The next round begins. -/
theorem RI.next {H br : Nat} {rc : Array Value} {C : Option Addr} {cs : List Nat} {s bf : PS} {base : Nat} {A : Option Addr} {cap x tm : Nat} {w : World} (h : RI H br rc C cs (s.took x) bf base A cap w) (hbr : br < H) (hC : ∀ g o, C = some ⟨g, o, none⟩ → g < H)
    (h4 : ¬ s.tr.length + 1 < 4) {l : List Obj} {d q : Nat} (hq : q = (s.ld + winI tm (s.tr ++ [x])) % 4) (base' : Nat) :
    RI H br rc C cs (s.put tm x) (s.put tm x) base' none 0 ((set6 w H (.int .u8 q) (.slice none 0 0) (.int .u64 (s.took x).a) (.int .u64 (s.took x).b) (.int .u64 (s.took x).c) (.int .u64 (s.took x).d)).gar l d) := by
  have hH : H < w.heap.size := lt_blk h.rnd
  have hH1 : H + 1 < w.heap.size := lt_blk h.hands
  have e : s.put tm x = ⟨rmv s.a s.turn 0 x, rmv s.b s.turn 1 x, rmv s.c s.turn 2 x, rmv s.d s.turn 3 x, if (s.ld + winI tm (s.tr ++ [x])) % 4 % 2 = 0 then s.w0 + 1 else s.w0,
    if (s.ld + winI tm (s.tr ++ [x])) % 4 % 2 = 0 then s.w1 else s.w1 + 1, (s.ld + winI tm (s.tr ++ [x])) % 4, []⟩ := by unfold PS.put; rw [if_neg h4]
  rw [e]
  refine ⟨?_, ?_, ?_, ?_, World.ownsRow_nil _ _ _ _⟩
  · rw [World.heap_gar_past (by rw [set6_size]; exact lt_blk h.rec_), set6_ne (by omega)]; exact h.rec_
  · refine h.cards.block fun g o e' => ?_
    have := hC g o e'
    rw [World.heap_gar_past (by rw [set6_size]; omega), set6_ne (by omega)]
  · rw [World.heap_gar_past (by rw [set6_size]; exact hH1), set6_ne (by omega)]; exact h.hands
  · rw [World.heap_gar_past (by rw [set6_size]; exact hH)]
    have := set6_at (v0 := .int .u8 q) (v1 := .slice none 0 0) (v2 := .int .u64 (s.took x).a) (v3 := .int .u64 (s.took x).b) (v4 := .int .u64 (s.took x).c) (v5 := .int .u64 (s.took x).d) h.rnd
    rw [this, hq]; rfl
theorem Only2.gar {H : Nat} {a w : World} (h : Only2 H a w) (l : List Obj) (d : Nat) : Only2 H a (w.gar l d) :=
  h.trans (Only2.below (RowKit.Below.of_gar _ _ _))
end Go.Proofs
