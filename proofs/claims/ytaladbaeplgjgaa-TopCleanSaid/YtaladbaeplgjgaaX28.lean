/- deal.Complete -/
import Derived.Test.YtaladbaeplgjgaaX16
import Derived.Test.YtaladbaeplgjgaaX13
import Derived.Test.YtaladbaeplgjgaaX14
import Derived.BigRegion
import Derived.Deep.DeepCutAuto
import Derived.Deep.CutBlock
import Derived.Deep.RegionHeld3
set_option linter.unusedSimpArgs false
set_option linter.unusedVariables false
namespace Go.Proofs
open Go.RowKit
attribute [local irreducible] lb
attribute [local go_sem] encN c32
theorem lt128 {n A : Nat} (h : Hid (n < A)) (hA : Hid (A ≤ 166153499473114484112975882535043072)) : n < 340282366920938463463374607431768211456 := by have := h.out; have := hA.out; omega
theorem lt128' {A : Nat} (hA : Hid (A ≤ 36893488147419103232)) : A < 340282366920938463463374607431768211456 := by have := hA.out; omega
theorem lt128'' {A : Nat} (hA : Hid (A ≤ 67108864)) : A < 340282366920938463463374607431768211456 := by have := hA.out; omega
theorem lt128a {A n m : Nat} (hA : Hid (A ≤ 36893488147419103232)) (hp : Hid (0 < A)) (h : Hid (m = n % A)) : m < 340282366920938463463374607431768211456 := by have := hA.out; have := Nat.mod_lt n hp.out; rw [h.out]; omega
theorem lt128b {A n m : Nat} (hA : Hid (A ≤ 67108864)) (hp : Hid (0 < A)) (h : Hid (m = n % A)) : m < 340282366920938463463374607431768211456 := by have := hA.out; have := Nat.mod_lt n hp.out; rw [h.out]; omega
theorem Div_h (a b q r : Nat) (w : World) (ha : a < 340282366920938463463374607431768211456) (hb : b < 340282366920938463463374607431768211456) (hb0 : 0 < b) (hq : Hid (q = a / b)) (hr : Hid (r = a % b)) :
    Calls Try.prog 50 #[encN a, encN b] w fun e w' => e = .returned (.tuple #[encN q, encN r, .int .i64 0]) ∧ Below w.heap.size w w' := by
  rw [hq.out, hr.out]; exact Div_v a b w ha hb hb0
theorem fill_w (s br bp r p y0 : Nat) (w : World) (hs : s ≤ 2) (h1 : bp < br) (h2 : br < w.heap.size) (h3 : bp < w.heap.size) [hmr : Msk r] [hmp : Msk p]
    (hr : w.cell? ⟨br, 0, none⟩ = some (.int .u64 r)) (hfr : w.frozen? ⟨br, 0, none⟩ = false) (hp : w.cell? ⟨bp, s, none⟩ = some (.int .u64 p)) (hfp : w.frozen? ⟨bp, s, none⟩ = false)
    (hp13 : Hid (pc p ≤ 13)) (hy : Hid (y0 < C (pc r) (13 - pc p))) :
    Calls Try.prog 46 #[.int .i64 s, .int .i64 y0, .pointer (some ⟨br, 0, none⟩), .pointer (some ⟨bp, 0, none⟩)] w fun e w' => (∃ v, e = .returned v) ∧
      ∃ A : Nat, Hid (A = unr r (pc r) (13 - pc p) y0) ∧ Msk A ∧ ∃ l d, w' = (w.two br bp s (andn r A) (p ||| A)).gar l d := by
  haveI : LtC bp br := ⟨h1⟩
  haveI : LtC br w.heap.size := ⟨h2⟩
  haveI : LtC bp w.heap.size := ⟨h3⟩
  exact fill_v s br bp r p y0 w hs hr hfr hp hfp hp13.out hy.out
theorem HY63 {y n k : Nat} [Msk n] (h : Hid (y < C (pc n) k)) : y < 9223372036854775808 := by
  have h1 := h.out
  have h2 := C_le (pc n) k
  have h3 : 2 ^ pc n ≤ 2 ^ 52 := Nat.pow_le_pow_right (by decide) (pc_le n)
  have : (2 : Nat) ^ 52 = 4503599627370496 := by decide
  omega
structure H13 (a b c : Nat) : Prop where
  a : Hid (pc a ≤ 13)
  b : Hid (pc b ≤ 13)
  c : Hid (pc c ≤ 13)
theorem wrap_1 : IntKind.i64.wrap 1 = 1 := by decide
theorem wrap_2 : IntKind.i64.wrap 2 = 2 := by decide
theorem wrap_3 : IntKind.i64.wrap 3 = 3 := by decide
attribute [local go_sem] wrap_1 wrap_2 wrap_3
set_option maxHeartbeats 8000000 in
set_option maxRecDepth 100000 in
theorem complete_v (a b c d n : Nat) (w : World) [Msk a] [Msk b] [Msk c] [Msk d] (h : Part a b c d) (hn : n < C (13 - pc a + (13 - pc b + (13 - pc c + (13 - pc d)))) (13 - pc a) * (C (13 - pc b + (13 - pc c + (13 - pc d))) (13 - pc b) * C (13 - pc c + (13 - pc d)) (13 - pc c))) :
    Calls Try.prog 15 #[.agg #[.int .u64 a, .int .u64 b, .int .u64 c, .int .u64 d], encN n] w fun e w' => ∃ s0 R0 R1 R2 s1 s2 s3 A1 A2 : Nat,
      e = .returned (.tuple #[.agg #[.int .u64 (a ||| R0 : Nat), .int .u64 (b ||| R1 : Nat), .int .u64 (c ||| R2 : Nat), .int .u64 (d ||| s3 : Nat)], .int .i64 0]) ∧
      Hid (A2 = C (13 - pc c + (13 - pc d)) (13 - pc c)) ∧ Hid (A1 = C (13 - pc b + (13 - pc c + (13 - pc d))) (13 - pc b) * A2) ∧
      Hid (s0 = andn 4503599627370495 (a ||| b ||| c ||| d)) ∧ Hid (R0 = unr s0 (pc s0) (13 - pc a) (n / A1)) ∧ Hid (s1 = andn s0 R0) ∧ Hid (R1 = unr s1 (pc s1) (13 - pc b) (n % A1 / A2)) ∧ Hid (s2 = andn s1 R1) ∧ Hid (R2 = unr s2 (pc s2) (13 - pc c) (n % A1 % A2 / 1)) ∧ Hid (s3 = andn s2 R2) ∧
      Full (a ||| R0) (b ||| R1) (c ||| R2) (d ||| s3) ∧ Below w.heap.size w w' := by
  have H := Lib.hid h
  have HN := Lib.hid hn
  have h13 : H13 a b c := ⟨Lib.hid h.a13, Lib.hid h.b13, Lib.hid h.c13⟩
  clear h hn
  simp only [encN, c32]
  go_enter Try.func15, Try.ntmps15
  go_wp2_with fail
  refine (partial_v a b c d _ H.out).mono ?_
  rintro e w' ⟨rfl, hb⟩
  obtain ⟨l, d1, rfl⟩ := hb.gar
  clear hb
  go_wp2_with fail
  refine (ways_v a b c d _ H.out).mono ?_
  rintro e w' ⟨m0, m1, m2, A0, A1, A2, rfl, H2, H1, H0, hb⟩
  obtain ⟨l1, d2, rfl⟩ := hb.gar
  clear hb
  have HA2 : Hid (A2 ≤ 67108864) := Lib.hid (by rw [H2.out]; exact Nat.le_trans (C_le _ _) (Nat.pow_le_pow_right (n := 2) (by decide) (by omega : _ ≤ 26)))
  have HA1 : Hid (A1 ≤ 36893488147419103232) := Lib.hid (by
    have h2 := HA2.out
    rw [H1.out]
    exact Nat.mul_le_mul (Nat.le_trans (C_le _ _) (Nat.pow_le_pow_right (n := 2) (by decide) (by omega : _ ≤ 39)) : _ ≤ 549755813888) h2)
  have HA0 : Hid (A0 ≤ 166153499473114484112975882535043072) := Lib.hid (by
    have h2 := HA1.out
    rw [H0.out]
    exact Nat.mul_le_mul (Nat.le_trans (C_le _ _) (Nat.pow_le_pow_right (n := 2) (by decide) (by omega : _ ≤ 52)) : _ ≤ 4503599627370496) h2)
  have HN0 : Hid (n < A0) := Lib.hid (by rw [H0.out, H1.out, H2.out]; exact HN.out)
  have HA2p : Hid (0 < A2) := Lib.hid (by rw [H2.out]; exact C_pos _ _ (by omega))
  have HA1p : Hid (0 < A1) := Lib.hid (by rw [H1.out]; exact Nat.mul_pos (C_pos _ _ (by omega)) HA2p.out)
  clear HN
  unfold encN4
  go_wp2_with fail
  refine (cmp_h n A0 _ (by have := HA0.out; have := HN0.out; omega) (by have := HA0.out; omega)).mono ?_
  rintro e w' ⟨r0, rfl, Hr, hb⟩
  obtain ⟨l2, d3, rfl⟩ := hb.gar
  clear hb
  have hr : r0 < 0 := by
    have h2 := HN0.out
    rw [Hr.out]; unfold cmpN
    rw [if_pos h2]; omega
  clear Hr
  go_wp2_with fail
  refine (left_v a b c d _).mono ?_
  rintro e w' ⟨rfl, hb⟩
  obtain ⟨l3, d4, rfl⟩ := hb.gar
  clear hb
  obtain ⟨s0, hs0⟩ : ∃ s0, s0 = andn 4503599627370495 (a ||| b ||| c ||| d) := ⟨_, rfl⟩
  haveI : Msk s0 := by rw [hs0]; infer_instance
  rw [← hs0]
  have HS0 := Lib.hid hs0
  clear hs0
  go_upto_block 0 with fail
  have CF := comp_facts a b c d n A0 A1 A2 s0 H.out H2.out H1.out H0.out HN0.out HS0.out
  obtain ⟨y0, hy0⟩ : ∃ y, y = n / A1 := ⟨_, rfl⟩
  obtain ⟨n1, hn1⟩ : ∃ m, m = n % A1 := ⟨_, rfl⟩
  obtain ⟨y1, hy1⟩ : ∃ y, y = n1 / A2 := ⟨_, rfl⟩
  obtain ⟨n2, hn2⟩ : ∃ m, m = n1 % A2 := ⟨_, rfl⟩
  obtain ⟨y2, hy2⟩ : ∃ y, y = n2 / 1 := ⟨_, rfl⟩
  obtain ⟨n3, hn3⟩ : ∃ m, m = n2 % 1 := ⟨_, rfl⟩
  rw [← hy0, ← hn1, ← hy1, ← hn2, ← hy2] at CF
  obtain ⟨R0, hR0⟩ : ∃ R, R = unr s0 (pc s0) (13 - pc a) y0 := ⟨_, rfl⟩
  haveI : Msk R0 := by rw [hR0]; exact unr_msk _ _ _ _
  obtain ⟨s1, hs1⟩ : ∃ s, s = andn s0 R0 := ⟨_, rfl⟩
  haveI : Msk s1 := by rw [hs1]; infer_instance
  obtain ⟨R1, hR1⟩ : ∃ R, R = unr s1 (pc s1) (13 - pc b) y1 := ⟨_, rfl⟩
  haveI : Msk R1 := by rw [hR1]; exact unr_msk _ _ _ _
  obtain ⟨s2, hs2⟩ : ∃ s, s = andn s1 R1 := ⟨_, rfl⟩
  haveI : Msk s2 := by rw [hs2]; infer_instance
  obtain ⟨R2, hR2⟩ : ∃ R, R = unr s2 (pc s2) (13 - pc c) y2 := ⟨_, rfl⟩
  haveI : Msk R2 := by rw [hR2]; exact unr_msk _ _ _ _
  obtain ⟨s3, hs3⟩ : ∃ s, s = andn s2 R2 := ⟨_, rfl⟩
  haveI : Msk s3 := by rw [hs3]; infer_instance
  have FU := Lib.hid (comp_full a b c d s0 y0 y1 y2 R0 R1 R2 s1 s2 s3 H.out HS0.out CF hR0 hs1 hR1 hs2 hR2 hs3)
  have HF0 := Lib.hid CF.h0
  have HF1 := CF.h1
  have HF2 := CF.h2
  rw [← hR0, ← hs1] at HF1 HF2
  rw [← hR1, ← hs2] at HF2
  replace HF1 := Lib.hid HF1
  replace HF2 := Lib.hid HF2
  have HR0 := Lib.hid hR0; have HR1 := Lib.hid hR1; have HR2 := Lib.hid hR2
  have HS1 := Lib.hid hs1; have HS2 := Lib.hid hs2; have HS3 := Lib.hid hs3
  have HN1 := Lib.hid hn1; have HN2 := Lib.hid hn2; have HN3 := Lib.hid hn3
  have HY0 := Lib.hid hy0; have HY1 := Lib.hid hy1; have HY2 := Lib.hid hy2
  clear hR0 hR1 hR2 hs1 hs2 hs3 hn1 hn2 hn3 hy0 hy1 hy2 CF
  go_wp2_with fail
  go_loopw [34] (fun t wr => ∃ (P0 P1 P2 m s : Nat), ((t = .int .i64 0 ∧ a = P0 ∧ b = P1 ∧ c = P2 ∧ n = m ∧ s0 = s) ∨ (t = .int .i64 1 ∧ a ||| R0 = P0 ∧ b = P1 ∧ c = P2 ∧ n1 = m ∧ s1 = s) ∨ (t = .int .i64 2 ∧ a ||| R0 = P0 ∧ b ||| R1 = P1 ∧ c = P2 ∧ n2 = m ∧ s2 = s) ∨ (t = .int .i64 3 ∧ a ||| R0 = P0 ∧ b ||| R1 = P1 ∧ c ||| R2 = P2 ∧ n3 = m ∧ s3 = s)) ∧
    ∃ ll dd, wr = ((((((((w.alloc (.cells #[.int .u64 P0, .int .u64 P1, .int .u64 P2, .int .u64 d] 26)).alloc (.cells #[.int .u32 (lb m 0), .int .u32 (lb m 1), .int .u32 (lb m 2), .int .u32 (lb m 3)] 37)).alloc (.cells #[.int .u64 0, .int .u64 0, .int .u64 0, .int .u64 0] 26)).gar (l ++ l1) d2).alloc (.cells #[.int .i64 m0, .int .i64 m1, .int .i64 m2] 96)).alloc (.cells #[.int .u32 (lb A0 0), .int .u32 (lb A0 1), .int .u32 (lb A0 2), .int .u32 (lb A0 3), .int .u32 (lb A1 0), .int .u32 (lb A1 1), .int .u32 (lb A1 2), .int .u32 (lb A1 3), .int .u32 (lb A2 0), .int .u32 (lb A2 1), .int .u32 (lb A2 2), .int .u32 (lb A2 3), .int .u32 (lb 1 0), .int .u32 (lb 1 1), .int .u32 (lb 1 2), .int .u32 (lb 1 3)] 97)).gar (l2 ++ l3) d4).alloc (.cells #[.int .u64 s] 24)).gar ll dd) (fun t _ => 3 - (intOf t).toNat)
  case atStart =>
    refine ⟨a, b, c, n, s0, .inl ⟨rfl, rfl, rfl, rfl, rfl, rfl⟩, [], d4, ?_⟩
    exact World.gar_nil.symm
  case round =>
    obtain ⟨P0, P1, P2, m, s, hst, ll, dd, rfl⟩ := hrel
    rcases hst with ⟨rfl, rfl, rfl, rfl, rfl, rfl⟩ | ⟨rfl, rfl, rfl, rfl, rfl, rfl⟩ | ⟨rfl, rfl, rfl, rfl, rfl, rfl⟩ | ⟨rfl, rfl, rfl, rfl, rfl, rfl⟩
    · go_upto_region 11 with fail
      go_cut [11, 12] (fun t11 t12 wx => ∃ g1 g2 : Nat, t11 = .pointer (some ⟨g1, 0, none⟩) ∧ t12 = .pointer (some ⟨g2, 0, none⟩) ∧ ∃ (ll' : List Obj) (dd' : Nat), wx = ((((((((w.alloc (.cells #[.int .u64 a, .int .u64 b, .int .u64 c, .int .u64 d] 26)).alloc (.cells #[.int .u32 (lb n 0), .int .u32 (lb n 1), .int .u32 (lb n 2), .int .u32 (lb n 3)] 37)).alloc (.cells #[.int .u64 0, .int .u64 0, .int .u64 0, .int .u64 0] 26)).gar (l ++ l1) d2).alloc (.cells #[.int .i64 m0, .int .i64 m1, .int .i64 m2] 96)).alloc (.cells #[.int .u32 (lb A0 0), .int .u32 (lb A0 1), .int .u32 (lb A0 2), .int .u32 (lb A0 3), .int .u32 (lb A1 0), .int .u32 (lb A1 1), .int .u32 (lb A1 2), .int .u32 (lb A1 3), .int .u32 (lb A2 0), .int .u32 (lb A2 1), .int .u32 (lb A2 2), .int .u32 (lb A2 3), .int .u32 (lb 1 0), .int .u32 (lb 1 1), .int .u32 (lb 1 2), .int .u32 (lb 1 3)] 97)).gar (l2 ++ l3) d4).alloc (.cells #[.int .u64 s0] 24)).gar ll' dd' ∧
        InG ll' g1 (w.heap.size + 1 + 1 + 1 + (l.length + l1.length) + 1 + 1 + (l2.length + l3.length) + 1) #[.int .u32 (lb y0 0), .int .u32 (lb y0 1), .int .u32 (lb y0 2), .int .u32 (lb y0 3)] 37 ∧ InG ll' g2 (w.heap.size + 1 + 1 + 1 + (l.length + l1.length) + 1 + 1 + (l2.length + l3.length) + 1) #[.int .u32 (lb n1 0), .int .u32 (lb n1 1), .int .u32 (lb n1 2), .int .u32 (lb n1 3)] 37)
      case first =>
        generalize hX : ((((((((w.alloc (.cells #[.int .u64 a, .int .u64 b, .int .u64 c, .int .u64 d] 26)).alloc (.cells #[.int .u32 (lb n 0), .int .u32 (lb n 1), .int .u32 (lb n 2), .int .u32 (lb n 3)] 37)).alloc (.cells #[.int .u64 0, .int .u64 0, .int .u64 0, .int .u64 0] 26)).gar (l ++ l1) d2).alloc (.cells #[.int .i64 m0, .int .i64 m1, .int .i64 m2] 96)).alloc (.cells #[.int .u32 (lb A0 0), .int .u32 (lb A0 1), .int .u32 (lb A0 2), .int .u32 (lb A0 3), .int .u32 (lb A1 0), .int .u32 (lb A1 1), .int .u32 (lb A1 2), .int .u32 (lb A1 3), .int .u32 (lb A2 0), .int .u32 (lb A2 1), .int .u32 (lb A2 2), .int .u32 (lb A2 3), .int .u32 (lb 1 0), .int .u32 (lb 1 1), .int .u32 (lb 1 2), .int .u32 (lb 1 3)] 97)).gar (l2 ++ l3) d4).alloc (.cells #[.int .u64 s0] 24)).gar ll dd = X
        generalize hb7 : w.heap.size + 1 + 1 + 1 + (l.length + l1.length) + 1 = b7
        generalize hb3 : w.heap.size + 1 = b3
        have hb37 := hb7
        rw [hb3] at hb37
        have hx0 : X.cell? ⟨b3, 0, none⟩ = some (.int .u32 (lb n 0)) := by rw [← hX, ← hb3]; simp [go_sem]
        have hx1 : X.cell? ⟨b3, 1, none⟩ = some (.int .u32 (lb n 1)) := by rw [← hX, ← hb3]; simp [go_sem]
        have hx2 : X.cell? ⟨b3, 2, none⟩ = some (.int .u32 (lb n 2)) := by rw [← hX, ← hb3]; simp [go_sem]
        have hx3 : X.cell? ⟨b3, 3, none⟩ = some (.int .u32 (lb n 3)) := by rw [← hX, ← hb3]; simp [go_sem]
        have hy0 : X.cell? ⟨b7, 4, none⟩ = some (.int .u32 (lb A1 0)) := by rw [← hX, ← hb7]; simp [go_sem]
        have hy1 : X.cell? ⟨b7, 5, none⟩ = some (.int .u32 (lb A1 1)) := by rw [← hX, ← hb7]; simp [go_sem]
        have hy2 : X.cell? ⟨b7, 6, none⟩ = some (.int .u32 (lb A1 2)) := by rw [← hX, ← hb7]; simp [go_sem]
        have hy3 : X.cell? ⟨b7, 7, none⟩ = some (.int .u32 (lb A1 3)) := by rw [← hX, ← hb7]; simp [go_sem]
        haveI : LtC b3 X.heap.size := ⟨by rw [← hX, ← hb3]; simp; omega⟩
        haveI : LtC b7 X.heap.size := ⟨by rw [← hX, ← hb7]; simp; omega⟩
        have hsz : (w.heap.size + 1 + 1 + 1 + (l.length + l1.length) + 1 + 1 + (l2.length + l3.length) + 1) ≤ X.heap.size := by rw [← hX]; simp
        have Hb7 := Lib.hid hb37; have Hb3 := Lib.hid hb3; have HX := Lib.hid hX; have HSZ := Lib.hid hsz
        clear hb7 hb37 hb3 hX hr hsz
        go_region_held3 (fun w' => w'.cell? ⟨b3, 0, none⟩ = some (.int .u32 (lb n 0)) ∧ w'.cell? ⟨b3, 1, none⟩ = some (.int .u32 (lb n 1)) ∧ w'.cell? ⟨b3, 2, none⟩ = some (.int .u32 (lb n 2)) ∧ w'.cell? ⟨b3, 3, none⟩ = some (.int .u32 (lb n 3)) ∧ w'.cell? ⟨b7, 4, none⟩ = some (.int .u32 (lb A1 0)) ∧ w'.cell? ⟨b7, 5, none⟩ = some (.int .u32 (lb A1 1)) ∧ w'.cell? ⟨b7, 6, none⟩ = some (.int .u32 (lb A1 2)) ∧ w'.cell? ⟨b7, 7, none⟩ = some (.int .u32 (lb A1 3))) (first | exact ⟨hx0, hx1, hx2, hx3, hy0, hy1, hy2, hy3⟩ | (simp only [go_sem]; exact ⟨hx0, hx1, hx2, hx3, hy0, hy1, hy2, hy3⟩) | (simp [go_sem, hx0, hx1, hx2, hx3, hy0, hy1, hy2, hy3]; done))
          (first | (go_at_call 50; refine (Div_h n A1 y0 n1 _ (lt128 HN0 HA0) (lt128' HA1) HA1p.out HY0 HN1).mono ?_; rintro e w' ⟨rfl, hb⟩; obtain ⟨l4, d5, rfl⟩ := hb.gar; clear hb; simp only [encN, c32]))
        all_goals
          clear hx0 hx1 hx2 hx3 hy0 hy1 hy2 hy3
          have hb7 := Hb7.out
          have hb3 := Hb3.out
          subst hb7
          subst hb3
          go_wp2_with fail
          go_meet
          refine ⟨_, _, rfl, rfl, two_in HX.out ?_ ?_ ?_ ?_ ?_ ?_⟩
          · apply Exists.intro
            apply Exists.intro
            simp only [World.alloc_gar, World.gar_gar, World.gar_drewN, World.gar_drew]
            rfl
          · simp
          · have := HSZ.out; omega
          · have := HSZ.out; omega
          · simp only [World.heap_drew, World.heap_gar_past', World.heap_alloc_past, World.heap_alloc_at, World.size_gar, World.size_alloc, lt_of_ltC, ne_of_ltC]
          · simp only [World.heap_drew, World.heap_gar_past', World.heap_alloc_past, World.heap_alloc_at, World.size_gar, World.size_alloc, lt_of_ltC, ne_of_ltC]
      case rest =>
        obtain ⟨g1, g2, rfl, rfl, ll', dd', rfl, hg1, hg2⟩ := hcut
        go_wp2_with fail
        refine (Int_v y0 _ (HY63 HF0)).mono ?_
        rintro e w' ⟨rfl, hb⟩
        obtain ⟨l5, d6, rfl⟩ := hb.gar
        clear hb
        go_wp2_with fail
        refine (fill_w 0 (w.heap.size + 1 + 1 + 1 + (l.length + l1.length) + 1 + 1 + (l2.length + l3.length)) w.heap.size s0 a y0 _ (by omega) (by omega) (by simp; omega) (by simp; omega) (by simp [go_sem]) (by simp [go_sem]) (by simp [go_sem]) (by simp [go_sem]) h13.a HF0).mono ?_
        rintro e w' ⟨⟨v, rfl⟩, A, HA, hmA, l6, d7, rfl⟩
        obtain rfl : R0 = A := by rw [HR0.out, HA.out]
        clear HA
        simp only [World.two]
        go_wp2_with fail
        rw [← HS1.out]
        go_roundw
        case rel =>
          refine ⟨(a ||| R0), b, c, n1, s1, .inr (.inl ⟨rfl, rfl, rfl, rfl, rfl, rfl⟩), _, _, rfl⟩
        case measure => simp [intOf]
    · go_upto_region 11 with fail
      go_cut [11, 12] (fun t11 t12 wx => ∃ g1 g2 : Nat, t11 = .pointer (some ⟨g1, 0, none⟩) ∧ t12 = .pointer (some ⟨g2, 0, none⟩) ∧ ∃ (ll' : List Obj) (dd' : Nat), wx = ((((((((w.alloc (.cells #[.int .u64 ((a ||| R0) : Nat), .int .u64 b, .int .u64 c, .int .u64 d] 26)).alloc (.cells #[.int .u32 (lb n1 0), .int .u32 (lb n1 1), .int .u32 (lb n1 2), .int .u32 (lb n1 3)] 37)).alloc (.cells #[.int .u64 0, .int .u64 0, .int .u64 0, .int .u64 0] 26)).gar (l ++ l1) d2).alloc (.cells #[.int .i64 m0, .int .i64 m1, .int .i64 m2] 96)).alloc (.cells #[.int .u32 (lb A0 0), .int .u32 (lb A0 1), .int .u32 (lb A0 2), .int .u32 (lb A0 3), .int .u32 (lb A1 0), .int .u32 (lb A1 1), .int .u32 (lb A1 2), .int .u32 (lb A1 3), .int .u32 (lb A2 0), .int .u32 (lb A2 1), .int .u32 (lb A2 2), .int .u32 (lb A2 3), .int .u32 (lb 1 0), .int .u32 (lb 1 1), .int .u32 (lb 1 2), .int .u32 (lb 1 3)] 97)).gar (l2 ++ l3) d4).alloc (.cells #[.int .u64 s1] 24)).gar ll' dd' ∧
        InG ll' g1 (w.heap.size + 1 + 1 + 1 + (l.length + l1.length) + 1 + 1 + (l2.length + l3.length) + 1) #[.int .u32 (lb y1 0), .int .u32 (lb y1 1), .int .u32 (lb y1 2), .int .u32 (lb y1 3)] 37 ∧ InG ll' g2 (w.heap.size + 1 + 1 + 1 + (l.length + l1.length) + 1 + 1 + (l2.length + l3.length) + 1) #[.int .u32 (lb n2 0), .int .u32 (lb n2 1), .int .u32 (lb n2 2), .int .u32 (lb n2 3)] 37)
      case first =>
        generalize hX : ((((((((w.alloc (.cells #[.int .u64 ((a ||| R0) : Nat), .int .u64 b, .int .u64 c, .int .u64 d] 26)).alloc (.cells #[.int .u32 (lb n1 0), .int .u32 (lb n1 1), .int .u32 (lb n1 2), .int .u32 (lb n1 3)] 37)).alloc (.cells #[.int .u64 0, .int .u64 0, .int .u64 0, .int .u64 0] 26)).gar (l ++ l1) d2).alloc (.cells #[.int .i64 m0, .int .i64 m1, .int .i64 m2] 96)).alloc (.cells #[.int .u32 (lb A0 0), .int .u32 (lb A0 1), .int .u32 (lb A0 2), .int .u32 (lb A0 3), .int .u32 (lb A1 0), .int .u32 (lb A1 1), .int .u32 (lb A1 2), .int .u32 (lb A1 3), .int .u32 (lb A2 0), .int .u32 (lb A2 1), .int .u32 (lb A2 2), .int .u32 (lb A2 3), .int .u32 (lb 1 0), .int .u32 (lb 1 1), .int .u32 (lb 1 2), .int .u32 (lb 1 3)] 97)).gar (l2 ++ l3) d4).alloc (.cells #[.int .u64 s1] 24)).gar ll dd = X
        generalize hb7 : w.heap.size + 1 + 1 + 1 + (l.length + l1.length) + 1 = b7
        generalize hb3 : w.heap.size + 1 = b3
        have hb37 := hb7
        rw [hb3] at hb37
        have hx0 : X.cell? ⟨b3, 0, none⟩ = some (.int .u32 (lb n1 0)) := by rw [← hX, ← hb3]; simp [go_sem]
        have hx1 : X.cell? ⟨b3, 1, none⟩ = some (.int .u32 (lb n1 1)) := by rw [← hX, ← hb3]; simp [go_sem]
        have hx2 : X.cell? ⟨b3, 2, none⟩ = some (.int .u32 (lb n1 2)) := by rw [← hX, ← hb3]; simp [go_sem]
        have hx3 : X.cell? ⟨b3, 3, none⟩ = some (.int .u32 (lb n1 3)) := by rw [← hX, ← hb3]; simp [go_sem]
        have hy0 : X.cell? ⟨b7, 8, none⟩ = some (.int .u32 (lb A2 0)) := by rw [← hX, ← hb7]; simp [go_sem]
        have hy1 : X.cell? ⟨b7, 9, none⟩ = some (.int .u32 (lb A2 1)) := by rw [← hX, ← hb7]; simp [go_sem]
        have hy2 : X.cell? ⟨b7, 10, none⟩ = some (.int .u32 (lb A2 2)) := by rw [← hX, ← hb7]; simp [go_sem]
        have hy3 : X.cell? ⟨b7, 11, none⟩ = some (.int .u32 (lb A2 3)) := by rw [← hX, ← hb7]; simp [go_sem]
        haveI : LtC b3 X.heap.size := ⟨by rw [← hX, ← hb3]; simp; omega⟩
        haveI : LtC b7 X.heap.size := ⟨by rw [← hX, ← hb7]; simp; omega⟩
        have hsz : (w.heap.size + 1 + 1 + 1 + (l.length + l1.length) + 1 + 1 + (l2.length + l3.length) + 1) ≤ X.heap.size := by rw [← hX]; simp
        have Hb7 := Lib.hid hb37; have Hb3 := Lib.hid hb3; have HX := Lib.hid hX; have HSZ := Lib.hid hsz
        clear hb7 hb37 hb3 hX hr hsz
        go_region_held3 (fun w' => w'.cell? ⟨b3, 0, none⟩ = some (.int .u32 (lb n1 0)) ∧ w'.cell? ⟨b3, 1, none⟩ = some (.int .u32 (lb n1 1)) ∧ w'.cell? ⟨b3, 2, none⟩ = some (.int .u32 (lb n1 2)) ∧ w'.cell? ⟨b3, 3, none⟩ = some (.int .u32 (lb n1 3)) ∧ w'.cell? ⟨b7, 8, none⟩ = some (.int .u32 (lb A2 0)) ∧ w'.cell? ⟨b7, 9, none⟩ = some (.int .u32 (lb A2 1)) ∧ w'.cell? ⟨b7, 10, none⟩ = some (.int .u32 (lb A2 2)) ∧ w'.cell? ⟨b7, 11, none⟩ = some (.int .u32 (lb A2 3))) (first | exact ⟨hx0, hx1, hx2, hx3, hy0, hy1, hy2, hy3⟩ | (simp only [go_sem]; exact ⟨hx0, hx1, hx2, hx3, hy0, hy1, hy2, hy3⟩) | (simp [go_sem, hx0, hx1, hx2, hx3, hy0, hy1, hy2, hy3]; done))
          (first | (go_at_call 50; refine (Div_h n1 A2 y1 n2 _ (lt128a HA1 HA1p HN1) (lt128'' HA2) HA2p.out HY1 HN2).mono ?_; rintro e w' ⟨rfl, hb⟩; obtain ⟨l4, d5, rfl⟩ := hb.gar; clear hb; simp only [encN, c32]))
        all_goals
          clear hx0 hx1 hx2 hx3 hy0 hy1 hy2 hy3
          have hb7 := Hb7.out
          have hb3 := Hb3.out
          subst hb7
          subst hb3
          go_wp2_with fail
          go_meet
          refine ⟨_, _, rfl, rfl, two_in HX.out ?_ ?_ ?_ ?_ ?_ ?_⟩
          · apply Exists.intro
            apply Exists.intro
            simp only [World.alloc_gar, World.gar_gar, World.gar_drewN, World.gar_drew]
            rfl
          · simp
          · have := HSZ.out; omega
          · have := HSZ.out; omega
          · simp only [World.heap_drew, World.heap_gar_past', World.heap_alloc_past, World.heap_alloc_at, World.size_gar, World.size_alloc, lt_of_ltC, ne_of_ltC]
          · simp only [World.heap_drew, World.heap_gar_past', World.heap_alloc_past, World.heap_alloc_at, World.size_gar, World.size_alloc, lt_of_ltC, ne_of_ltC]
      case rest =>
        obtain ⟨g1, g2, rfl, rfl, ll', dd', rfl, hg1, hg2⟩ := hcut
        go_wp2_with fail
        refine (Int_v y1 _ (HY63 HF1)).mono ?_
        rintro e w' ⟨rfl, hb⟩
        obtain ⟨l5, d6, rfl⟩ := hb.gar
        clear hb
        go_wp2_with fail
        refine (fill_w 1 (w.heap.size + 1 + 1 + 1 + (l.length + l1.length) + 1 + 1 + (l2.length + l3.length)) w.heap.size s1 b y1 _ (by omega) (by omega) (by simp; omega) (by simp; omega) (by simp [go_sem]) (by simp [go_sem]) (by simp [go_sem]) (by simp [go_sem]) h13.b HF1).mono ?_
        rintro e w' ⟨⟨v, rfl⟩, A, HA, hmA, l6, d7, rfl⟩
        obtain rfl : R1 = A := by rw [HR1.out, HA.out]
        clear HA
        simp only [World.two]
        go_wp2_with fail
        rw [← HS2.out]
        go_roundw
        case rel =>
          refine ⟨(a ||| R0), (b ||| R1), c, n2, s2, .inr (.inr (.inl ⟨rfl, rfl, rfl, rfl, rfl, rfl⟩)), _, _, rfl⟩
        case measure => simp [intOf]
    · go_upto_region 11 with fail
      go_cut [11, 12] (fun t11 t12 wx => ∃ g1 g2 : Nat, t11 = .pointer (some ⟨g1, 0, none⟩) ∧ t12 = .pointer (some ⟨g2, 0, none⟩) ∧ ∃ (ll' : List Obj) (dd' : Nat), wx = ((((((((w.alloc (.cells #[.int .u64 ((a ||| R0) : Nat), .int .u64 ((b ||| R1) : Nat), .int .u64 c, .int .u64 d] 26)).alloc (.cells #[.int .u32 (lb n2 0), .int .u32 (lb n2 1), .int .u32 (lb n2 2), .int .u32 (lb n2 3)] 37)).alloc (.cells #[.int .u64 0, .int .u64 0, .int .u64 0, .int .u64 0] 26)).gar (l ++ l1) d2).alloc (.cells #[.int .i64 m0, .int .i64 m1, .int .i64 m2] 96)).alloc (.cells #[.int .u32 (lb A0 0), .int .u32 (lb A0 1), .int .u32 (lb A0 2), .int .u32 (lb A0 3), .int .u32 (lb A1 0), .int .u32 (lb A1 1), .int .u32 (lb A1 2), .int .u32 (lb A1 3), .int .u32 (lb A2 0), .int .u32 (lb A2 1), .int .u32 (lb A2 2), .int .u32 (lb A2 3), .int .u32 (lb 1 0), .int .u32 (lb 1 1), .int .u32 (lb 1 2), .int .u32 (lb 1 3)] 97)).gar (l2 ++ l3) d4).alloc (.cells #[.int .u64 s2] 24)).gar ll' dd' ∧
        InG ll' g1 (w.heap.size + 1 + 1 + 1 + (l.length + l1.length) + 1 + 1 + (l2.length + l3.length) + 1) #[.int .u32 (lb y2 0), .int .u32 (lb y2 1), .int .u32 (lb y2 2), .int .u32 (lb y2 3)] 37 ∧ InG ll' g2 (w.heap.size + 1 + 1 + 1 + (l.length + l1.length) + 1 + 1 + (l2.length + l3.length) + 1) #[.int .u32 (lb n3 0), .int .u32 (lb n3 1), .int .u32 (lb n3 2), .int .u32 (lb n3 3)] 37)
      case first =>
        generalize hX : ((((((((w.alloc (.cells #[.int .u64 ((a ||| R0) : Nat), .int .u64 ((b ||| R1) : Nat), .int .u64 c, .int .u64 d] 26)).alloc (.cells #[.int .u32 (lb n2 0), .int .u32 (lb n2 1), .int .u32 (lb n2 2), .int .u32 (lb n2 3)] 37)).alloc (.cells #[.int .u64 0, .int .u64 0, .int .u64 0, .int .u64 0] 26)).gar (l ++ l1) d2).alloc (.cells #[.int .i64 m0, .int .i64 m1, .int .i64 m2] 96)).alloc (.cells #[.int .u32 (lb A0 0), .int .u32 (lb A0 1), .int .u32 (lb A0 2), .int .u32 (lb A0 3), .int .u32 (lb A1 0), .int .u32 (lb A1 1), .int .u32 (lb A1 2), .int .u32 (lb A1 3), .int .u32 (lb A2 0), .int .u32 (lb A2 1), .int .u32 (lb A2 2), .int .u32 (lb A2 3), .int .u32 (lb 1 0), .int .u32 (lb 1 1), .int .u32 (lb 1 2), .int .u32 (lb 1 3)] 97)).gar (l2 ++ l3) d4).alloc (.cells #[.int .u64 s2] 24)).gar ll dd = X
        generalize hb7 : w.heap.size + 1 + 1 + 1 + (l.length + l1.length) + 1 = b7
        generalize hb3 : w.heap.size + 1 = b3
        have hb37 := hb7
        rw [hb3] at hb37
        have hx0 : X.cell? ⟨b3, 0, none⟩ = some (.int .u32 (lb n2 0)) := by rw [← hX, ← hb3]; simp [go_sem]
        have hx1 : X.cell? ⟨b3, 1, none⟩ = some (.int .u32 (lb n2 1)) := by rw [← hX, ← hb3]; simp [go_sem]
        have hx2 : X.cell? ⟨b3, 2, none⟩ = some (.int .u32 (lb n2 2)) := by rw [← hX, ← hb3]; simp [go_sem]
        have hx3 : X.cell? ⟨b3, 3, none⟩ = some (.int .u32 (lb n2 3)) := by rw [← hX, ← hb3]; simp [go_sem]
        have hy0 : X.cell? ⟨b7, 12, none⟩ = some (.int .u32 (lb 1 0)) := by rw [← hX, ← hb7]; simp [go_sem]
        have hy1 : X.cell? ⟨b7, 13, none⟩ = some (.int .u32 (lb 1 1)) := by rw [← hX, ← hb7]; simp [go_sem]
        have hy2 : X.cell? ⟨b7, 14, none⟩ = some (.int .u32 (lb 1 2)) := by rw [← hX, ← hb7]; simp [go_sem]
        have hy3 : X.cell? ⟨b7, 15, none⟩ = some (.int .u32 (lb 1 3)) := by rw [← hX, ← hb7]; simp [go_sem]
        haveI : LtC b3 X.heap.size := ⟨by rw [← hX, ← hb3]; simp; omega⟩
        haveI : LtC b7 X.heap.size := ⟨by rw [← hX, ← hb7]; simp; omega⟩
        have hsz : (w.heap.size + 1 + 1 + 1 + (l.length + l1.length) + 1 + 1 + (l2.length + l3.length) + 1) ≤ X.heap.size := by rw [← hX]; simp
        have Hb7 := Lib.hid hb37; have Hb3 := Lib.hid hb3; have HX := Lib.hid hX; have HSZ := Lib.hid hsz
        clear hb7 hb37 hb3 hX hr hsz
        go_region_held3 (fun w' => w'.cell? ⟨b3, 0, none⟩ = some (.int .u32 (lb n2 0)) ∧ w'.cell? ⟨b3, 1, none⟩ = some (.int .u32 (lb n2 1)) ∧ w'.cell? ⟨b3, 2, none⟩ = some (.int .u32 (lb n2 2)) ∧ w'.cell? ⟨b3, 3, none⟩ = some (.int .u32 (lb n2 3)) ∧ w'.cell? ⟨b7, 12, none⟩ = some (.int .u32 (lb 1 0)) ∧ w'.cell? ⟨b7, 13, none⟩ = some (.int .u32 (lb 1 1)) ∧ w'.cell? ⟨b7, 14, none⟩ = some (.int .u32 (lb 1 2)) ∧ w'.cell? ⟨b7, 15, none⟩ = some (.int .u32 (lb 1 3))) (first | exact ⟨hx0, hx1, hx2, hx3, hy0, hy1, hy2, hy3⟩ | (simp only [go_sem]; exact ⟨hx0, hx1, hx2, hx3, hy0, hy1, hy2, hy3⟩) | (simp [go_sem, hx0, hx1, hx2, hx3, hy0, hy1, hy2, hy3]; done))
          (first | (go_at_call 50; refine (Div_h n2 1 y2 n3 _ (lt128b HA2 HA2p HN2) (by omega) (by omega) HY2 HN3).mono ?_; rintro e w' ⟨rfl, hb⟩; obtain ⟨l4, d5, rfl⟩ := hb.gar; clear hb; simp only [encN, c32]))
        all_goals
          clear hx0 hx1 hx2 hx3 hy0 hy1 hy2 hy3
          have hb7 := Hb7.out
          have hb3 := Hb3.out
          subst hb7
          subst hb3
          go_wp2_with fail
          go_meet
          refine ⟨_, _, rfl, rfl, two_in HX.out ?_ ?_ ?_ ?_ ?_ ?_⟩
          · apply Exists.intro
            apply Exists.intro
            simp only [World.alloc_gar, World.gar_gar, World.gar_drewN, World.gar_drew]
            rfl
          · simp
          · have := HSZ.out; omega
          · have := HSZ.out; omega
          · simp only [World.heap_drew, World.heap_gar_past', World.heap_alloc_past, World.heap_alloc_at, World.size_gar, World.size_alloc, lt_of_ltC, ne_of_ltC]
          · simp only [World.heap_drew, World.heap_gar_past', World.heap_alloc_past, World.heap_alloc_at, World.size_gar, World.size_alloc, lt_of_ltC, ne_of_ltC]
      case rest =>
        obtain ⟨g1, g2, rfl, rfl, ll', dd', rfl, hg1, hg2⟩ := hcut
        go_wp2_with fail
        refine (Int_v y2 _ (HY63 HF2)).mono ?_
        rintro e w' ⟨rfl, hb⟩
        obtain ⟨l5, d6, rfl⟩ := hb.gar
        clear hb
        go_wp2_with fail
        refine (fill_w 2 (w.heap.size + 1 + 1 + 1 + (l.length + l1.length) + 1 + 1 + (l2.length + l3.length)) w.heap.size s2 c y2 _ (by omega) (by omega) (by simp; omega) (by simp; omega) (by simp [go_sem]) (by simp [go_sem]) (by simp [go_sem]) (by simp [go_sem]) h13.c HF2).mono ?_
        rintro e w' ⟨⟨v, rfl⟩, A, HA, hmA, l6, d7, rfl⟩
        obtain rfl : R2 = A := by rw [HR2.out, HA.out]
        clear HA
        simp only [World.two]
        go_wp2_with fail
        rw [← HS3.out]
        go_roundw
        case rel =>
          refine ⟨(a ||| R0), (b ||| R1), (c ||| R2), n3, s3, .inr (.inr (.inr ⟨rfl, rfl, rfl, rfl, rfl, rfl⟩)), _, _, rfl⟩
        case measure => simp [intOf]
    · go_wp2_with fail
      refine bodyPost_ret (v := .tuple #[.agg #[.int .u64 (a ||| R0 : Nat), .int .u64 (b ||| R1 : Nat), .int .u64 (c ||| R2 : Nat), .int .u64 (d ||| s3 : Nat)], .int .i64 0]) ?_ rfl
        ⟨s0, R0, R1, R2, s1, s2, s3, A1, A2, rfl, H2, H1, HS0, Lib.hid (by rw [HR0.out, HY0.out]), HS1, Lib.hid (by rw [HR1.out, HY1.out, HN1.out]), HS2, Lib.hid (by rw [HR2.out, HY2.out, HN2.out, HN1.out]), HS3, FU.out, ?_⟩
      · simp [results, Try.results15, go_sem]
      · simp only [World.alloc_gar, World.gar_gar, World.gar_drewN, World.gar_drew]; exact RowKit.Below.of_gar _ _ _
end Go.Proofs
