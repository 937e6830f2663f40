/- A block that lies among the new blocks, at a place that is not told. -/
import Derived.Test.YtaladbaeplgjgaaX15
import Derived.Test.YtaladbaeplgjgaaX12
import Derived.Test.YtaladbaeplgjgaaX13
import Derived.Test.YtaladbaeplgjgaaX14
import Derived.Deep.RegionHeld3
set_option linter.unusedSimpArgs false
set_option linter.unusedVariables false
namespace Go
/-- Among the blocks l, laid behind s others, the block g holds the cells cs. -/
class InG (l : List Obj) (g : Nat) (s : outParam Nat) (cs : outParam (Array Value)) (T : outParam TypeId) : Prop where
  le : s ≤ g
  at_ : l[g - s]? = some (.cells cs T (0, 0))
instance InG.app (l m : List Obj) (g s : Nat) (cs : Array Value) (T : TypeId) [h : InG l g s cs T] : InG (l ++ m) g s cs T :=
  ⟨h.le, by
    have := h.at_
    have hlt := (List.getElem?_eq_some_iff.1 this).1
    rw [List.getElem?_append_left hlt]; exact this⟩
theorem InG.heap (B : World) (l : List Obj) (g s d : Nat) (cs : Array Value) (T : TypeId) [h : InG l g s cs T] (hs : B.heap.size = s) : (B.gar l d).heap[g]? = some (.cells cs T (0, 0)) := by
  have h1 := h.le
  obtain ⟨n, rfl⟩ : ∃ n, g = B.heap.size + n := ⟨g - B.heap.size, by omega⟩
  rw [World.heap_gar_at]
  have := h.at_
  rw [← hs, Nat.add_sub_cancel_left] at this; exact this
@[go_sem] theorem InG.cell (B : World) (l : List Obj) (g j s d : Nat) (cs : Array Value) (T : TypeId) [h : InG l g s cs T] (hs : B.heap.size = s) : (B.gar l d).cell? ⟨g, j, none⟩ = cs[j]? := by
  rw [World.cell?, InG.heap B l g s d cs T hs]; rfl
theorem InG.of {B W : World} {l : List Obj} {g s d : Nat} {cs : Array Value} {T : TypeId} (hw : W = B.gar l d) (hs : B.heap.size = s) (hg : s ≤ g) (h : W.heap[g]? = some (.cells cs T (0, 0))) : InG l g s cs T := by
  refine ⟨hg, ?_⟩
  subst hw hs
  obtain ⟨n, rfl⟩ : ∃ n, g = B.heap.size + n := ⟨g - B.heap.size, by omega⟩
  rw [World.heap_gar_at] at h
  rw [Nat.add_sub_cancel_left]; exact h
theorem gar_ext {B X W : World} {ll l : List Obj} {dd d : Nat} (hX : B.gar ll dd = X) (h : W = X.gar l d) : W = B.gar (ll ++ l) d := by
  subst hX h; rw [World.gar_gar]
theorem two_in {B X W : World} {ll : List Obj} {dd s g1 g2 : Nat} {c1 c2 : Array Value} {T : TypeId} (hX : B.gar ll dd = X) (hw : ∃ L D, W = X.gar L D) (hs : B.heap.size = s) (h1 : s ≤ g1) (h2 : s ≤ g2)
    (q1 : W.heap[g1]? = some (.cells c1 T (0, 0))) (q2 : W.heap[g2]? = some (.cells c2 T (0, 0))) : ∃ ll' dd', W = B.gar ll' dd' ∧ InG ll' g1 s c1 T ∧ InG ll' g2 s c2 T := by
  obtain ⟨L, D, hw⟩ := hw
  exact ⟨_, _, gar_ext hX hw, InG.of (gar_ext hX hw) hs h1 q1, InG.of (gar_ext hX hw) hs h2 q2⟩
end Go

/- The set of cards with an index has so many cards, all from the set. -/
namespace Go.Proofs
open Go.RowKit
theorem crd_mem {r i : Nat} (hi : i < (cds r).length) : ∃ c, (cds r)[i]? = some c ∧ crd r i = 2 ^ c ∧ c < 52 ∧ r.testBit c = true := by
  obtain ⟨c, hc⟩ : ∃ c, (cds r)[i]? = some c := ⟨_, List.getElem?_eq_getElem hi⟩
  have hm := (mem_cds r c).1 (List.mem_of_getElem? hc)
  refine ⟨c, hc, ?_, hm⟩
  unfold crd
  rw [List.getD_eq_getElem?_getD, hc]; rfl
theorem unr_sub (r : Nat) [Msk r] (j k y c : Nat) (hj : j ≤ (cds r).length) (h : (unr r j k y).testBit c = true) : ∃ i, i < j ∧ (cds r)[i]? = some c := by
  induction j generalizing k y with
  | zero => simp [unr] at h
  | succ j ih =>
    rw [unr] at h
    split at h
    · simp at h
    · split at h
      · rw [Nat.testBit_or, Bool.or_eq_true] at h
        rcases h with h | h
        · obtain ⟨c', hc', he, _⟩ := crd_mem (r := r) (i := j) (by omega)
          rw [he, bit_bit] at h
          have : c' = c := by simpa using h
          subst this
          exact ⟨j, by omega, hc'⟩
        · obtain ⟨i, hi, hc⟩ := ih (k - 1) (y - C j k) (by omega) h
          exact ⟨i, by omega, hc⟩
      · obtain ⟨i, hi, hc⟩ := ih k y (by omega) h
        exact ⟨i, by omega, hc⟩
theorem pc_bit (c : Nat) (h : c < 52) : pc (2 ^ c) = 1 := by
  haveI : Msk (2 ^ c) := ⟨bit_lt c h⟩
  rw [pc_cds]
  have : cds (2 ^ c) = [c] := by
    have : ∀ c, c < 52 → cds (2 ^ c) = [c] := by decide +kernel
    exact this c h
  rw [this]; rfl
theorem and_zero_of (a b : Nat) (h : ∀ i, a.testBit i = true → b.testBit i = true → False) : a &&& b = 0 := by
  apply Nat.eq_of_testBit_eq; intro i
  rw [Nat.testBit_and, Nat.zero_testBit]
  cases ha : a.testBit i with
  | false => rfl
  | true => cases hb : b.testBit i with
    | false => rfl
    | true => exact (h i ha hb).elim
theorem unr_pc (r : Nat) [Msk r] (j k y : Nat) (hj : j ≤ (cds r).length) (h : y < C j k) : pc (unr r j k y) = k := by
  induction j generalizing k y with
  | zero =>
    cases k with
    | zero => exact pc_zero
    | succ k => rw [C_zero_of (k + 1) (by omega)] at h; omega
  | succ j ih =>
    by_cases hk : k = 0
    · subst hk; rw [unr_zero]; exact pc_zero
    · by_cases hc : C j k ≤ y
      · rw [unr_take r j k y hk hc]
        obtain ⟨c, hc1, he, hc52, _⟩ := crd_mem (r := r) (i := j) (by omega)
        rw [pc_or]
        · rw [he, pc_bit c hc52, ih (k - 1) (y - C j k) (by omega) (by rw [C_pascal j k hk] at h; omega)]; omega
        · apply and_zero_of
          intro i h1 h2
          rw [he, bit_bit] at h1
          have : c = i := by simpa using h1
          subst this
          obtain ⟨i, hi, hci⟩ := unr_sub r j _ _ _ (by omega) h2
          have hnd := cds_nodup r
          have h3 := (List.getElem?_eq_some_iff.1 hc1)
          have h4 := (List.getElem?_eq_some_iff.1 hci)
          have := (List.getElem_inj hnd).1 (h3.2.trans h4.2.symm)
          omega
      · rw [unr_skip r j k y hk hc]
        exact ih k y (by omega) (by omega)
theorem unr_in (r : Nat) [Msk r] (j k y c : Nat) (hj : j ≤ (cds r).length) (h : (unr r j k y).testBit c = true) : r.testBit c = true := by
  obtain ⟨i, _, hc⟩ := unr_sub r j k y c hj h
  exact ((mem_cds r c).1 (List.mem_of_getElem? hc)).2
theorem pc_diff (r a : Nat) [Msk r] [Msk a] (h : ∀ c, a.testBit c = true → r.testBit c = true) : pc (andn r a) = pc r - pc a := by
  have e : a ||| andn r a = r := by
    apply Nat.eq_of_testBit_eq; intro i
    rw [Nat.testBit_or, andn_bit _ _ _ (Msk.lt64 a) (Msk.lt64 r)]
    cases ha : a.testBit i with
    | false => simp
    | true => simp [h i ha]
  have := pc_or a (andn r a) (and_andn a r)
  rw [e] at this; omega
end Go.Proofs

/- deal.Complete: the plain facts: what is drawn for each hand, and that all hands are full. -/
namespace Go.Proofs
open Go.RowKit
theorem C_pos (n k : Nat) (h : k ≤ n) : 0 < C n k := by
  induction n generalizing k with
  | zero => obtain rfl : k = 0 := by omega
            decide
  | succ n ih =>
    cases k with
    | zero => rw [C_zero]; decide
    | succ k =>
      have := ih k (by omega)
      show 0 < C n k + C n (k + 1)
      omega
/-- Four hands of thirteen cards, of which none is twice. -/
structure Full (a b c d : Nat) : Prop where
  ma : Msk a
  mb : Msk b
  mc : Msk c
  md : Msk d
  ab : a &&& b = 0
  ac : a &&& c = 0
  ad : a &&& d = 0
  bc : b &&& c = 0
  bd : b &&& d = 0
  cd : c &&& d = 0
  a13 : pc a = 13
  b13 : pc b = 13
  c13 : pc c = 13
  d13 : pc d = 13
theorem bit_and0 {a b : Nat} (h : a &&& b = 0) (i : Nat) (h1 : a.testBit i = true) (h2 : b.testBit i = true) : False := by
  have : (a &&& b).testBit i = true := by rw [Nat.testBit_and, h1, h2]; rfl
  rw [h, Nat.zero_testBit] at this; cases this
theorem pc_unr (s k y : Nat) [Msk s] (h : y < C (pc s) k) : pc (unr s (pc s) k y) = k := unr_pc s (pc s) k y (by rw [pc_cds]; omega) h
theorem unr_sub' (s k y i : Nat) [Msk s] (h : (unr s (pc s) k y).testBit i = true) : s.testBit i = true := unr_in s (pc s) k y i (by rw [pc_cds]; omega) h
theorem pc_left (s k y : Nat) [Msk s] (h : y < C (pc s) k) : pc (andn s (unr s (pc s) k y)) = pc s - k := by
  haveI := unr_msk s (pc s) k y
  rw [pc_diff _ _ (fun c hc => unr_sub' s k y c hc), pc_unr s k y h]
theorem div_lt' {n c A : Nat} (h : n < c * A) : n / A < c := by
  rcases Nat.eq_zero_or_pos A with rfl | hA
  · simp at h
  · exact (Nat.div_lt_iff_lt_mul hA).2 h
structure CompFacts (a b c d s0 y0 y1 y2 : Nat) : Prop where
  h0 : y0 < C (pc s0) (13 - pc a)
  h1 : y1 < C (pc (andn s0 (unr s0 (pc s0) (13 - pc a) y0))) (13 - pc b)
  h2 : y2 < C (pc (andn (andn s0 (unr s0 (pc s0) (13 - pc a) y0)) (unr (andn s0 (unr s0 (pc s0) (13 - pc a) y0)) (pc (andn s0 (unr s0 (pc s0) (13 - pc a) y0))) (13 - pc b) y1))) (13 - pc c)
theorem comp_facts (a b c d n A0 A1 A2 s0 : Nat) [Msk a] [Msk b] [Msk c] [Msk d] (h : Part a b c d) (H2 : A2 = C (13 - pc c + (13 - pc d)) (13 - pc c)) (H1 : A1 = C (13 - pc b + (13 - pc c + (13 - pc d))) (13 - pc b) * A2)
    (H0 : A0 = C (13 - pc a + (13 - pc b + (13 - pc c + (13 - pc d)))) (13 - pc a) * A1) (hn : n < A0) (hs : s0 = andn 4503599627370495 (a ||| b ||| c ||| d)) : CompFacts a b c d s0 (n / A1) (n % A1 / A2) (n % A1 % A2 / 1) := by
  have hl := h.left
  rw [← hs] at hl
  haveI : Msk s0 := by rw [hs]; infer_instance
  have hA2 : 0 < A2 := by rw [H2]; exact C_pos _ _ (by omega)
  have hA1 : 0 < A1 := by rw [H1]; exact Nat.mul_pos (C_pos _ _ (by omega)) hA2
  have e0 : n / A1 < C (pc s0) (13 - pc a) := by
    rw [hl, show 13 - pc a + (13 - pc b) + (13 - pc c) + (13 - pc d) = 13 - pc a + (13 - pc b + (13 - pc c + (13 - pc d))) by omega]
    rw [H0] at hn; exact div_lt' hn
  have p0 := pc_left s0 _ _ e0
  haveI := unr_msk s0 (pc s0) (13 - pc a) (n / A1)
  have e1 : n % A1 / A2 < C (pc (andn s0 (unr s0 (pc s0) (13 - pc a) (n / A1)))) (13 - pc b) := by
    rw [p0, hl, show 13 - pc a + (13 - pc b) + (13 - pc c) + (13 - pc d) - (13 - pc a) = 13 - pc b + (13 - pc c + (13 - pc d)) by omega]
    have := Nat.mod_lt n hA1
    rw [H1] at this; rw [H1]; exact div_lt' this
  refine ⟨e0, e1, ?_⟩
  rw [pc_left _ _ _ e1, p0, hl, show 13 - pc a + (13 - pc b) + (13 - pc c) + (13 - pc d) - (13 - pc a) - (13 - pc b) = 13 - pc c + (13 - pc d) by omega, Nat.div_one, ← H2]
  exact Nat.mod_lt _ hA2
theorem bools : ∀ x0 r0 r1 r2 ba bb bc bd : Bool, ((ba = true → bb = false ∧ bc = false ∧ bd = false) ∧ (bb = true → bc = false ∧ bd = false) ∧ (bc = true → bd = false)) → (r0 = true → x0 = true) → (r1 = true → (x0 && !r0) = true) → (r2 = true → (x0 && !r0 && !r1) = true) →
    (x0 = true → ba = false ∧ bb = false ∧ bc = false ∧ bd = false) →
    ((ba || r0) = true → (bb || r1) = false ∧ (bc || r2) = false ∧ (bd || (x0 && !r0 && !r1 && !r2)) = false) ∧ ((bb || r1) = true → (bc || r2) = false ∧ (bd || (x0 && !r0 && !r1 && !r2)) = false) ∧ ((bc || r2) = true → (bd || (x0 && !r0 && !r1 && !r2)) = false) := by
  intro x0 r0 r1 r2 ba bb bc bd h1 h2 h3 h4 h5
  cases x0 <;> cases r0 <;> cases r1 <;> cases r2 <;> simp_all
/-- What each hand gets. -/
theorem comp_full (a b c d s0 y0 y1 y2 R0 R1 R2 s1 s2 s3 : Nat) [Msk a] [Msk b] [Msk c] [Msk d] (h : Part a b c d) (hs : s0 = andn 4503599627370495 (a ||| b ||| c ||| d)) (F : CompFacts a b c d s0 y0 y1 y2)
    (hR0 : R0 = unr s0 (pc s0) (13 - pc a) y0) (hs1 : s1 = andn s0 R0) (hR1 : R1 = unr s1 (pc s1) (13 - pc b) y1) (hs2 : s2 = andn s1 R1) (hR2 : R2 = unr s2 (pc s2) (13 - pc c) y2) (hs3 : s3 = andn s2 R2) :
    Full (a ||| R0) (b ||| R1) (c ||| R2) (d ||| s3) := by
  obtain ⟨f0, f1, f2⟩ := F
  haveI m0 : Msk s0 := by rw [hs]; infer_instance
  haveI n0 : Msk R0 := by rw [hR0]; exact unr_msk _ _ _ _
  haveI m1 : Msk s1 := by rw [hs1]; infer_instance
  haveI n1 : Msk R1 := by rw [hR1]; exact unr_msk _ _ _ _
  haveI m2 : Msk s2 := by rw [hs2]; infer_instance
  haveI n2 : Msk R2 := by rw [hR2]; exact unr_msk _ _ _ _
  haveI m3 : Msk s3 := by rw [hs3]; infer_instance
  rw [← hR0, ← hs1] at f1 f2
  rw [← hR1, ← hs2] at f2
  have hl := h.left
  rw [← hs] at hl
  have q0 : pc R0 = 13 - pc a := by rw [hR0]; exact pc_unr _ _ _ f0
  have q1 : pc R1 = 13 - pc b := by rw [hR1]; exact pc_unr _ _ _ f1
  have q2 : pc R2 = 13 - pc c := by rw [hR2]; exact pc_unr _ _ _ f2
  have p1 : pc s1 = pc s0 - (13 - pc a) := by rw [hs1, hR0]; exact pc_left _ _ _ f0
  have p2 : pc s2 = pc s1 - (13 - pc b) := by rw [hs2, hR1]; exact pc_left _ _ _ f1
  have p3 : pc s3 = pc s2 - (13 - pc c) := by rw [hs3, hR2]; exact pc_left _ _ _ f2
  have i0 : ∀ i, R0.testBit i = true → s0.testBit i = true := fun i => by rw [hR0]; exact unr_sub' _ _ _ _
  have i1 : ∀ i, R1.testBit i = true → s1.testBit i = true := fun i => by rw [hR1]; exact unr_sub' _ _ _ _
  have i2 : ∀ i, R2.testBit i = true → s2.testBit i = true := fun i => by rw [hR2]; exact unr_sub' _ _ _ _
  have t1 : ∀ i, s1.testBit i = (s0.testBit i && !R0.testBit i) := fun i => by rw [hs1, andn_bit _ _ _ (Msk.lt64 _) (Msk.lt64 _)]
  have t2 : ∀ i, s2.testBit i = (s1.testBit i && !R1.testBit i) := fun i => by rw [hs2, andn_bit _ _ _ (Msk.lt64 _) (Msk.lt64 _)]
  have t3 : ∀ i, s3.testBit i = (s2.testBit i && !R2.testBit i) := fun i => by rw [hs3, andn_bit _ _ _ (Msk.lt64 _) (Msk.lt64 _)]
  have t0 : ∀ i, s0.testBit i = true → a.testBit i = false ∧ b.testBit i = false ∧ c.testBit i = false ∧ d.testBit i = false := fun i hi => by
    rw [hs, andn_bit _ _ _ (Msk.lt64 _) (by decide)] at hi
    simp only [Nat.testBit_or, Bool.and_eq_true, Bool.not_eq_true', Bool.or_eq_false_iff] at hi
    exact ⟨hi.2.1.1.1, hi.2.1.1.2, hi.2.1.2, hi.2.2⟩
  have dab := bit_and0 h.ab
  have dac : ∀ i, (a.testBit i || b.testBit i) = true → c.testBit i = true → False := fun i hi => by
    rw [← Nat.testBit_or] at hi; exact bit_and0 h.ac i hi
  have dad : ∀ i, (a.testBit i || b.testBit i || c.testBit i) = true → d.testBit i = true → False := fun i hi => by
    rw [← Nat.testBit_or, ← Nat.testBit_or] at hi; exact bit_and0 h.ad i hi
  have key : ∀ i, (a.testBit i = true → b.testBit i = false ∧ c.testBit i = false ∧ d.testBit i = false) ∧ (b.testBit i = true → c.testBit i = false ∧ d.testBit i = false) ∧ (c.testBit i = true → d.testBit i = false) := fun i => by
    have h1 := dab i; have h2 := dac i; have h3 := dad i
    revert h1 h2 h3
    cases a.testBit i <;> cases b.testBit i <;> cases c.testBit i <;> cases d.testBit i <;> simp
  have all : ∀ i, ((a ||| R0).testBit i = true → (b ||| R1).testBit i = false ∧ (c ||| R2).testBit i = false ∧ (d ||| s3).testBit i = false) ∧ ((b ||| R1).testBit i = true → (c ||| R2).testBit i = false ∧ (d ||| s3).testBit i = false) ∧ ((c ||| R2).testBit i = true → (d ||| s3).testBit i = false) := fun i => by
    have k := key i; have u0 := i0 i; have u1 := i1 i; have u2 := i2 i; have v1 := t1 i; have v2 := t2 i; have v3 := t3 i; have v0 := t0 i
    simp only [Nat.testBit_or]
    rw [v2, v1] at v3
    rw [v1] at v2
    rw [v1] at u1
    rw [v2] at u2
    rw [v3]
    exact bools _ _ _ _ _ _ _ _ k u0 u1 u2 v0
  have h4 := h.a13; have h5 := h.b13; have h6 := h.c13; have h7 := h.d13
  have z : ∀ x y : Nat, (∀ i, x.testBit i = true → y.testBit i = false) → x &&& y = 0 := fun x y hh => and_zero_of x y fun i h1 h2 => by rw [hh i h1] at h2; cases h2
  have w0 : a &&& R0 = 0 := z _ _ fun i hi => by
    cases hr : R0.testBit i with
    | false => rfl
    | true => rw [(t0 i (i0 i hr)).1] at hi; cases hi
  have g1 : ∀ i, s1.testBit i = true → s0.testBit i = true := fun i hi => by rw [t1 i] at hi; simp at hi; exact hi.1
  have g2 : ∀ i, s2.testBit i = true → s0.testBit i = true := fun i hi => by rw [t2 i] at hi; simp at hi; exact g1 i hi.1
  have g3 : ∀ i, s3.testBit i = true → s0.testBit i = true := fun i hi => by rw [t3 i] at hi; simp at hi; exact g2 i hi.1
  have w1 : b &&& R1 = 0 := z _ _ fun i hi => by
    cases hr : R1.testBit i with
    | false => rfl
    | true => rw [(t0 i (g1 i (i1 i hr))).2.1] at hi; cases hi
  have w2 : c &&& R2 = 0 := z _ _ fun i hi => by
    cases hr : R2.testBit i with
    | false => rfl
    | true => rw [(t0 i (g2 i (i2 i hr))).2.2.1] at hi; cases hi
  have w3 : d &&& s3 = 0 := z _ _ fun i hi => by
    cases hr : s3.testBit i with
    | false => rfl
    | true => rw [(t0 i (g3 i hr)).2.2.2] at hi; cases hi
  exact ⟨inferInstance, inferInstance, inferInstance, inferInstance, z _ _ fun i hi => ((all i).1 hi).1, z _ _ fun i hi => ((all i).1 hi).2.1, z _ _ fun i hi => ((all i).1 hi).2.2, z _ _ fun i hi => ((all i).2.1 hi).1, z _ _ fun i hi => ((all i).2.1 hi).2, z _ _ fun i hi => (all i).2.2 hi,
    by rw [pc_or _ _ w0, q0]; omega, by rw [pc_or _ _ w1, q1]; omega, by rw [pc_or _ _ w2, q2]; omega, by rw [pc_or _ _ w3, p3, p2, p1, hl]; omega⟩
end Go.Proofs

/- play.New -/
namespace Go.Proofs
open Go.RowKit
/-- The cells of a play. -/
def playC (a b c d w0 w1 ld : Nat) (tr : Value) (lv dn rk dc : Nat) (dv uv : Value) : Array Value :=
  #[.int .u64 a, .int .u64 b, .int .u64 c, .int .u64 d, .int .i64 w0, .int .i64 w1, .int .u8 ld, tr, .int .u8 lv, .int .u8 dn, .int .u8 rk, .int .u8 dc, dv, uv, .bool true]
theorem ones13 (m : Nat) (w : World) [h : Msk m] (h13 : pc m = 13) : Calls Try.prog 48 #[.int .u64 m] w fun e w' => e = .returned (.int .i64 13) ∧ w = w' :=
  (ones_m m w).mono (by rintro e w' ⟨n, rfl, Hn, rfl⟩; rw [Hn.out, h13]; exact ⟨rfl, rfl⟩)
@[go_sem] theorem msk_zand (a : Nat) [Msk a] : bits .and .u64 0 (a : Int) = 0 := by
  have := msk_and 0 a; rw [Nat.zero_and] at this; exact this
set_option maxHeartbeats 2000000 in
set_option maxRecDepth 100000 in
theorem new_v (a b c d lv dn rk dc : Nat) (w : World) (hF : Full a b c d) (h1 : 1 ≤ lv) (h2 : lv ≤ 7) (h3 : dn ≤ 4) (h4 : rk ≤ 2) (h5 : dc ≤ 3) :
    Calls Try.prog 26 #[.agg #[.int .u64 a, .int .u64 b, .int .u64 c, .int .u64 d], .agg #[.int .u8 lv, .int .u8 dn, .int .u8 rk, .int .u8 dc]] w fun e w' => ∃ g Y, e = .returned (.tuple #[.pointer (some ⟨g, 0, none⟩), .int .i64 0]) ∧
      RowKit.Below w.heap.size w Y ∧ w' = Y.alloc (.cells (playC a b c d 0 0 ((dc + 1) % 4) (.slice none 0 0) lv dn rk dc (.slice none 0 0) (.slice none 0 0)) 134) ∧ g = Y.heap.size := by
  haveI := hF.ma; haveI := hF.mb; haveI := hF.mc; haveI := hF.md
  have e1 : (a ||| b) &&& c = 0 := by rw [Nat.and_comm, Nat.and_or_distrib_left, Nat.and_comm c a, Nat.and_comm c b, hF.ac, hF.bc]; rfl
  have e2 : (a ||| b ||| c) &&& d = 0 := by rw [Nat.and_comm, Nat.and_or_distrib_left, Nat.and_or_distrib_left, Nat.and_comm d a, Nat.and_comm d b, Nat.and_comm d c, hF.ad, hF.bd, hF.cd]; rfl
  have e0 := hF.ab
  have HF := Lib.hid hF
  clear hF
  obtain ⟨ld, hld⟩ : ∃ q, q = (dc + 1) % 4 := ⟨_, rfl⟩
  have hlv := fun w => leader_v lv dn rk dc w h1 h2 h3 h4 h5
  rw [← hld] at hlv ⊢
  have HL := Lib.hid hlv
  have HLD := Lib.hid hld
  clear hlv hld
  unfold playC
  go_enter Try.func26, Try.ntmps26
  go_wp2_with fail
  refine (HL.out _).mono ?_
  rintro e w' ⟨rfl, hb⟩
  obtain ⟨l, d1, rfl⟩ := hb.gar
  clear hb
  go_wp2_with (go_at_call 48; refine (ones13 a _ HF.out.a13).mono ?_; rintro e w' ⟨rfl, rfl⟩)
  refine wp_loop_rounds 5 ?_
  rw [rounds_succ]
  go_wp2_with (go_at_call 48; refine (ones13 a _ HF.out.a13).mono ?_; rintro e w' ⟨rfl, rfl⟩)
  rw [rounds_succ]
  go_wp2_with (go_at_call 48; refine (ones13 b _ HF.out.b13).mono ?_; rintro e w' ⟨rfl, rfl⟩)
  rw [rounds_succ]
  go_wp2_with (go_at_call 48; refine (ones13 c _ HF.out.c13).mono ?_; rintro e w' ⟨rfl, rfl⟩)
  rw [rounds_succ]
  go_wp2_with (go_at_call 48; refine (ones13 d _ HF.out.d13).mono ?_; rintro e w' ⟨rfl, rfl⟩)
  rw [rounds_succ]
  go_wp2
  go_ret2
  refine ⟨_, _, rfl, ?_, rfl, by simp⟩
  simp only [World.alloc_gar, World.gar_gar, World.gar_drewN, World.gar_drew]; exact RowKit.Below.of_gar _ _ _
end Go.Proofs

/- play: turn, over, legal, none, Legal -/
namespace Go.Proofs
open Go.RowKit
/-- The hand of a seat. -/
def hsel (a b c d i : Nat) : Nat := if i = 0 then a else if i = 1 then b else if i = 2 then c else d
theorem hsel_msk (a b c d i : Nat) [Msk a] [Msk b] [Msk c] [Msk d] : Msk (hsel a b c d i) := by
  unfold hsel
  split
  · infer_instance
  · split
    · infer_instance
    · split <;> infer_instance
/-- A state as a value. -/
def stV (a b c d w0 w1 ld : Nat) (tr : Value) : Value := .agg #[.int .u64 a, .int .u64 b, .int .u64 c, .int .u64 d, .int .i64 w0, .int .i64 w1, .int .u8 ld, tr]
/-- The cards of a trick that is under way. -/
def Under (xs : List Nat) : Prop := xs.length ≤ 3 ∧ (xs = [] ∨ Trick xs)
theorem turn_v (a b c d w0 w1 ld : Nat) (A : Option Addr) (k cap : Nat) (w : World) (hk : k ≤ 3) (hld : ld ≤ 3) :
    Calls Try.prog 106 #[stV a b c d w0 w1 ld (.slice A k cap)] w fun e w' => e = .returned (.int .u8 ((ld + k) % 4 : Nat)) ∧ RowKit.Below w.heap.size w w' := by
  unfold stV
  go_enter Try.func106, Try.ntmps106
  go_wp2
  go_ret
  refine ⟨by simp, ?_⟩
  simp only [World.alloc_gar, World.gar_gar, World.gar_drewN, World.gar_drew]; exact RowKit.Below.of_gar _ _ _
theorem over_no (a b c d w0 w1 ld : Nat) (tr : Value) (w : World) (h : ¬ (a = 0 ∧ b = 0 ∧ c = 0 ∧ d = 0)) :
    Calls Try.prog 73 #[stV a b c d w0 w1 ld tr] w fun e w' => e = .returned (.bool false) ∧ RowKit.Below w.heap.size w w' := by
  unfold stV
  have hb : Hid (((a : Int) == 0 && ((b : Int) == 0 && ((c : Int) == 0 && (d : Int) == 0))) = false) := Lib.hid (by simp; omega)
  clear h
  go_enter Try.func73, Try.ntmps73
  go_wp2
  go_ret
  refine ⟨ret_bool hb.out, ?_⟩
  simp only [World.alloc_gar, World.gar_gar, World.gar_drewN, World.gar_drew]; exact RowKit.Below.of_gar _ _ _
theorem over_yes (w0 w1 ld : Nat) (tr : Value) (w : World) :
    Calls Try.prog 73 #[stV 0 0 0 0 w0 w1 ld tr] w fun e w' => e = .returned (.bool true) ∧ RowKit.Below w.heap.size w w' := by
  unfold stV
  go_enter Try.func73, Try.ntmps73
  go_wp2
  go_ret
  refine ⟨rfl, ?_⟩
  simp only [World.alloc_gar, World.gar_gar, World.gar_drewN, World.gar_drew]; exact RowKit.Below.of_gar _ _ _
theorem turn_h (a b c d w0 w1 ld : Nat) (A : Option Addr) (k cap tn : Nat) (w : World) (hk : k ≤ 3) (hld : ld ≤ 3) (ht : Hid (tn = (ld + k) % 4)) :
    Calls Try.prog 106 #[stV a b c d w0 w1 ld (.slice A k cap)] w fun e w' => e = .returned (.int .u8 tn) ∧ RowKit.Below w.heap.size w w' := by
  rw [ht.out]; exact turn_v a b c d w0 w1 ld A k cap w hk hld
theorem playable_h (A : Option Addr) (cap h n : Nat) (xs : List Nat) (w : World) [hm : Msk h] (hn : Hid (n = xs.length)) (hcap : n ≤ cap) (hu : Under xs) (hr : RdS w A xs) :
    Calls Try.prog 105 #[.int .u64 h, .slice A n cap] w fun e w' => e = .returned (.tuple #[.int .u64 (playable h xs : Nat), .int .i64 0]) ∧ w = w' := by
  obtain ⟨h3, rfl | ht⟩ := hu
  · have : n = 0 := hn.out
    subst this
    exact playable0_v A cap h w
  · have := hn.out
    subst this
    exact playable_v A cap h xs w hcap h3 hr ht
set_option maxHeartbeats 2000000 in
set_option maxRecDepth 100000 in
theorem legal_v (a b c d w0 w1 ld : Nat) (A : Option Addr) (n cap : Nat) (xs : List Nat) (w : World) [Msk a] [Msk b] [Msk c] [Msk d] (hld : ld ≤ 3) (hn : Hid (n = xs.length)) (hcap : n ≤ cap) (hu : Under xs) (hr : RdS w A xs) :
    Calls Try.prog 95 #[stV a b c d w0 w1 ld (.slice A n cap)] w fun e w' => e = .returned (.int .u64 (playable (hsel a b c d ((ld + n) % 4)) xs : Nat)) ∧ RowKit.Below w.heap.size w w' := by
  have hn3 : n ≤ 3 := by rw [hn.out]; exact hu.1
  have HU := Lib.hid hu
  have HR := Lib.hid hr
  clear hu hr
  obtain ⟨tn, htn⟩ : ∃ t, t = (ld + n) % 4 := ⟨_, rfl⟩
  have ht3 : tn ≤ 3 := by omega
  have ht4 : (tn : Int) < 4 := by omega
  have ht0 : (0 : Int) ≤ (tn : Int) := by omega
  rw [← htn]
  have HT := Lib.hid htn
  clear htn
  obtain ⟨h, hh⟩ : ∃ h, h = hsel a b c d tn := ⟨_, rfl⟩
  haveI : Msk h := by rw [hh]; exact hsel_msk a b c d tn
  rw [← hh]
  have HH := Lib.hid hh
  clear hh
  obtain ⟨p, hp⟩ : ∃ p, p = playable h xs := ⟨_, rfl⟩
  have hpl := fun W (hr : RdS W A xs) => playable_h A cap h n xs W hn hcap HU.out hr
  rw [← hp] at hpl ⊢
  have HPL := Lib.hid hpl
  clear hpl hp
  have htv := fun W => turn_h a b c d w0 w1 ld A n cap tn W hn3 hld HT
  simp only [stV] at htv ⊢
  have HTV := Lib.hid htv
  clear htv
  go_enter Try.func95, Try.ntmps95
  go_upto_region 1 with fail
  go_cut [3] (fun t3 wx => t3 = .int .u64 p ∧ RowKit.Below w.heap.size w wx)
  case first =>
    generalize hX : w.alloc _ = X
    generalize hb : w.heap.size = b1
    haveI : LtC b1 X.heap.size := ⟨by rw [← hX, ← hb]; simp⟩
    have hx0 : X.cell? ⟨b1, 0, none⟩ = some (.int .u64 a) := by rw [← hX, ← hb]; simp [go_sem]
    have hx1 : X.cell? ⟨b1, 1, none⟩ = some (.int .u64 b) := by rw [← hX, ← hb]; simp [go_sem]
    have hx2 : X.cell? ⟨b1, 2, none⟩ = some (.int .u64 c) := by rw [← hX, ← hb]; simp [go_sem]
    have hx3 : X.cell? ⟨b1, 3, none⟩ = some (.int .u64 d) := by rw [← hX, ← hb]; simp [go_sem]
    have hx4 : X.cell? ⟨b1, 4, none⟩ = some (.int .i64 w0) := by rw [← hX, ← hb]; simp [go_sem]
    have hx5 : X.cell? ⟨b1, 5, none⟩ = some (.int .i64 w1) := by rw [← hX, ← hb]; simp [go_sem]
    have hx6 : X.cell? ⟨b1, 6, none⟩ = some (.int .u8 ld) := by rw [← hX, ← hb]; simp [go_sem]
    have hx7 : X.cell? ⟨b1, 7, none⟩ = some (.slice A n cap) := by rw [← hX, ← hb]; simp [go_sem]
    have hxt : X.cell? ⟨b1, tn, none⟩ = some (.int .u64 h) := by
      rw [HH.out]; unfold hsel
      rcases (show tn = 0 ∨ tn = 1 ∨ tn = 2 ∨ tn = 3 by omega) with rfl | rfl | rfl | rfl
      · exact hx0
      · exact hx1
      · exact hx2
      · exact hx3
    have hS : ∀ l d, RdS (X.gar l d) A xs := fun l d => by
      rw [← hX]
      refine HR.out.below ?_
      simp only [World.alloc_gar, World.gar_gar]; exact RowKit.Below.of_gar _ _ _
    have HS := Lib.hid hS
    have HB : Hid (∀ l d, RowKit.Below b1 w (X.gar l d)) := Lib.hid fun l d => by
      rw [← hX, ← hb]
      simp only [World.alloc_gar, World.gar_gar]; exact RowKit.Below.of_gar _ _ _
    have HX := Lib.hid hX
    have Hb := Lib.hid hb
    clear hX hb hS
    go_region_held3 (fun w' => w'.cell? ⟨b1, 0, none⟩ = some (.int .u64 a) ∧ w'.cell? ⟨b1, 1, none⟩ = some (.int .u64 b) ∧ w'.cell? ⟨b1, 2, none⟩ = some (.int .u64 c) ∧ w'.cell? ⟨b1, 3, none⟩ = some (.int .u64 d) ∧ w'.cell? ⟨b1, 4, none⟩ = some (.int .i64 w0) ∧ w'.cell? ⟨b1, 5, none⟩ = some (.int .i64 w1) ∧ w'.cell? ⟨b1, 6, none⟩ = some (.int .u8 ld) ∧ w'.cell? ⟨b1, 7, none⟩ = some (.slice A n cap) ∧ w'.cell? ⟨b1, tn, none⟩ = some (.int .u64 h))
      (first | exact ⟨hx0, hx1, hx2, hx3, hx4, hx5, hx6, hx7, hxt⟩ | (simp only [go_sem]; exact ⟨hx0, hx1, hx2, hx3, hx4, hx5, hx6, hx7, hxt⟩))
      (first | (go_at_call 106; refine (HTV.out _).mono ?_; rintro e w' ⟨rfl, hb⟩; obtain ⟨l4, d5, rfl⟩ := hb.gar; clear hb) | (go_at_call 105; refine (HPL.out _ (HS.out _ _)).mono ?_; rintro e w' ⟨rfl, rfl⟩))
    all_goals
      clear hx0 hx1 hx2 hx3 hx4 hx5 hx6 hx7 hxt
      have hb := Hb.out
      subst hb
      go_wp2_with fail
      go_meet
      exact ⟨rfl, HB.out _ _⟩
  case rest =>
    obtain ⟨rfl, hb⟩ := hcut
    have HB := Lib.hid hb
    clear hb
    go_wp2_with fail
    go_ret
    exact ⟨rfl, HB.out⟩
end Go.Proofs
