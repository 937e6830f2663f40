/- seed.draw at the closure of BelowNat, and BelowNat. -/
import Derived.Test.YtaladbaeplgjgaaX08
import Derived.RegionTactic
import Derived.Test.YtaladbaeplgjgaaX00
set_option linter.unusedSimpArgs false
set_option linter.unusedVariables false
namespace Go.Proofs
open Go.RowKit
attribute [local irreducible] lb
attribute [local go_sem] encN c32
/-- What the closure has captured: k, the number of values, N, and the end. -/
structure Env (w : World) (bk bv bn be k N E : Nat) : Prop where
  lk : bk < w.heap.size
  lv : bv < w.heap.size
  ln : bn < w.heap.size
  le : be < w.heap.size
  ck : w.cell? ⟨bk, 0, none⟩ = some (.int .i64 k)
  v0 : w.cell? ⟨bv, 0, none⟩ = some (.int .u32 (lb 2147483646 0))
  v1 : w.cell? ⟨bv, 1, none⟩ = some (.int .u32 (lb 2147483646 1))
  v2 : w.cell? ⟨bv, 2, none⟩ = some (.int .u32 (lb 2147483646 2))
  v3 : w.cell? ⟨bv, 3, none⟩ = some (.int .u32 (lb 2147483646 3))
  n0 : w.cell? ⟨bn, 0, none⟩ = some (.int .u32 (lb N 0))
  n1 : w.cell? ⟨bn, 1, none⟩ = some (.int .u32 (lb N 1))
  n2 : w.cell? ⟨bn, 2, none⟩ = some (.int .u32 (lb N 2))
  n3 : w.cell? ⟨bn, 3, none⟩ = some (.int .u32 (lb N 3))
  e0 : w.cell? ⟨be, 0, none⟩ = some (.int .u32 (lb E 0))
  e1 : w.cell? ⟨be, 1, none⟩ = some (.int .u32 (lb E 1))
  e2 : w.cell? ⟨be, 2, none⟩ = some (.int .u32 (lb E 2))
  e3 : w.cell? ⟨be, 3, none⟩ = some (.int .u32 (lb E 3))
theorem Env.below {w w' : World} {bk bv bn be k N E : Nat} (h : Env w bk bv bn be k N E) (hb : Below w.heap.size w w') : Env w' bk bv bn be k N E :=
  ⟨Nat.lt_of_lt_of_le h.lk hb.size, Nat.lt_of_lt_of_le h.lv hb.size, Nat.lt_of_lt_of_le h.ln hb.size, Nat.lt_of_lt_of_le h.le hb.size,
   (hb.cell h.lk).trans h.ck, (hb.cell h.lv).trans h.v0, (hb.cell h.lv).trans h.v1, (hb.cell h.lv).trans h.v2, (hb.cell h.lv).trans h.v3,
   (hb.cell h.ln).trans h.n0, (hb.cell h.ln).trans h.n1, (hb.cell h.ln).trans h.n2, (hb.cell h.ln).trans h.n3,
   (hb.cell h.le).trans h.e0, (hb.cell h.le).trans h.e1, (hb.cell h.le).trans h.e2, (hb.cell h.le).trans h.e3⟩
theorem one_env (s : Int) (k bk bv bn be N E : Nat) (w : World) (hs : Seed s) (hk : k ≤ 4) (hN0 : 0 < N) (hN : N < 340282366920938463463374607431768211456) (hE : E < 340282366920938463463374607431768211456) (h : Env w bk bv bn be k N E) :
    Calls Try.prog 76 #[.int .i64 s, .pointer (some ⟨bk, 0, none⟩), .pointer (some ⟨bv, 0, none⟩), .pointer (some ⟨bn, 0, none⟩), .pointer (some ⟨be, 0, none⟩)] w fun e w' =>
      ∃ (s' : Int) (x : Nat) (f : Bool), e = .returned (.tuple #[.int .i64 s', encN x, .bool f]) ∧ Seed s' ∧ Hid (x < N) ∧ Below w.heap.size w w' :=
  haveI : LtC bk w.heap.size := ⟨h.lk⟩
  haveI : LtC bv w.heap.size := ⟨h.lv⟩
  haveI : LtC bn w.heap.size := ⟨h.ln⟩
  haveI : LtC be w.heap.size := ⟨h.le⟩
  one_v s k bk bv bn be N E w hs hk hN0 hN hE h.ck h.v0 h.v1 h.v2 h.v3 h.n0 h.n1 h.n2 h.n3 h.e0 h.e1 h.e2 h.e3
set_option maxHeartbeats 1000000 in
theorem draw_v (s : Int) (k bk bv bn be N E : Nat) (w : World) (hs : Seed s) (hk : k ≤ 4) (hN0 : 0 < N) (hN : N < 340282366920938463463374607431768211456) (hE : E < 340282366920938463463374607431768211456) (h : Env w bk bv bn be k N E) :
    Calls Try.prog 75 #[.int .i64 s, .func (.func 76) #[] #[.pointer (some ⟨bk, 0, none⟩), .pointer (some ⟨bv, 0, none⟩), .pointer (some ⟨bn, 0, none⟩), .pointer (some ⟨be, 0, none⟩)]] w fun e w' =>
      ∃ (s' : Int) (x : Nat), e = .returned (.tuple #[.int .i64 s', encN x]) ∧ Seed s' ∧ Hid (x < N) ∧ Below w.heap.size w w' := by
  have HN := Lib.hid hN; have HE := Lib.hid hE; have HENV := Lib.hid h; have HN0 := Lib.hid hN0
  clear hN hE h hN0
  go_enter Try.func75, Try.ntmps75
  go_wp2
  go_loopw [0, 7, 8] (fun t f i wr => ∃ (q j : Int) (X : Nat) (b : Bool), t = .int .i64 q ∧ f = .bool b ∧ i = .int .i64 j ∧ 0 ≤ j ∧ j ≤ 101 ∧ Seed q ∧ Hid (X < N) ∧ ∃ l d, wr = World.gar ((w.alloc (.cells #[.int .u32 0, .int .u32 0, .int .u32 0, .int .u32 0] 37)).alloc (.cells (c32 (lb X)) 37)) l d) (fun _ _ i _ => 101 - (intOf i).toNat)
  case atStart =>
    refine ⟨s, 0, 0, false, rfl, rfl, rfl, by omega, by omega, hs, HN0, [], w.drawn, ?_⟩
    have h0 : c32 (lb 0) = #[.int .u32 0, .int .u32 0, .int .u32 0, .int .u32 0] := by unfold c32; rw [lb0, lb1, lb2, lb3]; rfl
    rw [h0]
    exact World.gar_nil.symm
  case round =>
    obtain ⟨q, j, X, b, rfl, rfl, rfl, hj0, hj1, hq, HX, l, d, rfl⟩ := hrel
    by_cases hgo : j ≤ 100 ∧ b = false
    · obtain ⟨hj2, rfl⟩ := hgo
      simp only [c32]
      go_wp2_with fail
      refine (one_env q k bk bv bn be N E _ hq hk HN0.out HN.out HE.out (HENV.out.below ?_)).mono ?_
      · simp only [World.alloc_gar, World.gar_gar, World.gar_drewN, World.gar_drew]; exact RowKit.Below.of_gar _ _ _
      rintro e w' ⟨s', x, f, rfl, hs', Hx, hb⟩
      obtain ⟨l1, d1, rfl⟩ := hb.gar
      clear hb
      go_wp2_with fail
      go_roundw
      case rel => exact ⟨s', j + 1, x, f, rfl, rfl, rfl, by omega, by omega, hs', Hx, _, _, rfl⟩
      case measure => simp [intOf]; omega
    · simp only [c32]
      by_cases hj : j ≤ 100
      · obtain rfl : b = true := by cases b with | true => rfl | false => exact (hgo ⟨hj, rfl⟩).elim
        clear hgo
        go_wp2_with fail
        go_region
        all_goals
          go_wp2
          refine bodyPost_ret (v := .tuple #[.int .i64 q, encN X]) ?_ rfl ⟨q, X, rfl, hq, HX, ?_⟩
          · simp [results, Try.results75, go_sem, encN, c32]
          · simp only [World.alloc_gar, World.gar_gar, World.gar_drewN, World.gar_drew]; exact RowKit.Below.of_gar _ _ _
      · clear hgo
        go_wp2_with fail
        go_region
        all_goals
          go_wp2
          refine bodyPost_ret (v := .tuple #[.int .i64 q, encN X]) ?_ rfl ⟨q, X, rfl, hq, HX, ?_⟩
          · simp [results, Try.results75, go_sem, encN, c32]
          · simp only [World.alloc_gar, World.gar_gar, World.gar_drewN, World.gar_drew]; exact RowKit.Below.of_gar _ _ _
end Go.Proofs

/- seed.BelowNat -/
namespace Go.Proofs
open Go.RowKit
attribute [local irreducible] lb
attribute [local go_sem] encN c32
def kOf : Option Value → Nat
  | some (.int _ n) => n.toNat
  | _ => 0
theorem VV4 : 1329227995784915872903807060280344576 < VV ^ 4 := by decide
set_option maxHeartbeats 1000000 in
set_option maxRecDepth 100000 in
theorem belowNat_v (s : Int) (N : Nat) (w : World) (hs : Seed s) (hN0 : 0 < N) (hN : N ≤ 1329227995784915872903807060280344576) :
    Calls Try.prog 37 #[.int .i64 s, encN N] w fun e w' => ∃ (s' : Int) (x : Nat), e = .returned (.tuple #[.int .i64 s', encN x, .int .i64 0]) ∧ Seed s' ∧ Hid (x < N) ∧ Below w.heap.size w w' := by
  have hz : (lb N 0 == 0 && (lb N 1 == 0 && (lb N 2 == 0 && lb N 3 == 0))) = false := by
    rw [lbz N (by omega)]; simp; omega
  have hs1 := hs.1
  have hs2 := hs.2
  have HN := Lib.hid hN; have HN0 := Lib.hid hN0
  clear hN hN0
  simp only [encN, c32]
  go_enter Try.func37, Try.ntmps37
  go_wp2_with fail
  refine (seedRight_v s _ hs1 hs2).mono ?_
  rintro e w' ⟨rfl, rfl⟩
  go_wp2_with fail
  have e1 : (Value.agg #[.int .u32 0, .int .u32 0, .int .u32 0, .int .u32 16777216]) = encN 1329227995784915872903807060280344576 := by unfold encN c32; rw [lb0, lb1, lb2, lb3]; rfl
  rw [e1]
  clear e1
  refine (cmp_h N 1329227995784915872903807060280344576 _ (by have := HN.out; omega) (by omega)).mono ?_
  rintro e w' ⟨r, rfl, Hr, hb⟩
  obtain ⟨l, d, rfl⟩ := hb.gar
  clear hb
  have hr : r ≤ 0 := by
    have h2 := HN.out
    rw [Hr.out]; unfold cmpN
    split
    · omega
    · rw [if_neg (by omega)]; omega
  clear Hr
  go_wp2_with fail
  refine (Of_v 2147483646 _ (by omega) (by omega)).mono ?_
  rintro e w' ⟨rfl, hb⟩
  obtain ⟨l1, d1, rfl⟩ := hb.gar
  clear hb
  rw [show (2147483646 : Int).toNat = 2147483646 from rfl]
  go_wp2_with fail
  go_region
  · go_wp2_with fail
    go_loopw [] (fun wr => ∃ (j A : Nat), 1 ≤ j ∧ j ≤ 4 ∧ Hid (A = VV ^ j) ∧ ∃ ll dd, wr = World.gar ((((((w.alloc (.cells #[.int .u32 (lb N 0), .int .u32 (lb N 1), .int .u32 (lb N 2), .int .u32 (lb N 3)] 37)).alloc (.cells #[.int .u32 0, .int .u32 0, .int .u32 0, .int .u32 0] 37)).gar (l ++ l1) d1).alloc (.cells #[.int .u32 (lb 2147483646 0), .int .u32 (lb 2147483646 1), .int .u32 (lb 2147483646 2), .int .u32 (lb 2147483646 3)] 37)).alloc (.cells #[.int .i64 (j : Nat)] 3)).alloc (.cells #[.int .u32 (lb A 0), .int .u32 (lb A 1), .int .u32 (lb A 2), .int .u32 (lb A 3)] 37)) ll dd) (fun wr => 4 - kOf (wr.cell? ⟨w.heap.size + 1 + 1 + (l.length + l1.length) + 1, 0, none⟩))
    case atStart =>
      refine ⟨1, 2147483646, by omega, by omega, Lib.hid (by decide), [], d1 + 1, ?_⟩
      exact World.gar_nil.symm
    case round =>
      obtain ⟨j, A, hj1, hj4, HA, ll, dd, rfl⟩ := hrel
      have hA : A < 21267647892944572736998860269687930880 := by have h9 := VV_pow j hj4; rw [← HA.out] at h9; exact h9
      have HA1 := Lib.hid hA
      clear hA
      go_wp2_with fail
      refine (cmp_h A N _ (by have := HA1.out; omega) (by have := HN.out; omega)).mono ?_
      rintro e w' ⟨r2, rfl, Hr, hb⟩
      obtain ⟨l2, d2, rfl⟩ := hb.gar
      clear hb
      by_cases hr2 : r2 < 0
      · have hj3 : j ≤ 3 := by
          have h2 := Hr.out
          by_cases h3 : j ≤ 3
          · exact h3
          · exfalso
            obtain rfl : j = 4 := by omega
            have := HA.out
            have h4 := VV4
            have h5 := HN.out
            rw [← this] at h4
            unfold cmpN at h2
            rw [if_neg (by omega)] at h2
            split at h2 <;> omega
        clear Hr
        go_wp2_with fail
        have hA93 : 2147483646 * A < 340282366920938463463374607431768211456 := by
          rw [HA.out, ← VV_succ]; have := VV_pow (j + 1) (by omega); omega
        have HA93 := Lib.hid hA93
        clear hA93
        refine (Mul_new A 2147483646 _ _ (by simp) (by have := HA1.out; omega) (by omega) (by have := HA93.out; omega)).mono ?_
        rintro e w' ⟨rfl, hb⟩
        obtain ⟨l4, d4, rfl⟩ := hb.gar
        clear hb
        obtain ⟨A2, hA2⟩ : ∃ A2, A2 = A * 2147483646 := ⟨_, rfl⟩
        rw [← hA2]
        have HA2 := Lib.hid hA2
        clear hA2
        go_wp2_with fail
        go_roundw
        case rel =>
          refine ⟨j + 1, A2, by omega, by omega, Lib.hid (by rw [VV_succ, HA2.out, HA.out, Nat.mul_comm]), ll ++ (l2 ++ (Obj.cells #[.int .u32 (lb A 0), .int .u32 (lb A 1), .int .u32 (lb A 2), .int .u32 (lb A 3), .int .u32 (lb 2147483646 0), .int .u32 (lb 2147483646 1), .int .u32 (lb 2147483646 2), .int .u32 (lb 2147483646 3)] 37 :: l4)), d4, ?_⟩
          simp [World.gar_alloc, World.gar_gar, World.gar_drewN, World.gar_drew]
        case measure => simp [kOf, go_sem]; omega
      · clear Hr
        go_wp2_with fail
        have HN1 : Hid (N < 340282366920938463463374607431768211456) := Lib.hid (by have := HN.out; omega)
        refine (Div_v A N _ (by have := HA1.out; omega) HN1.out HN0.out).mono ?_
        rintro e w' ⟨rfl, hb⟩
        obtain ⟨l3, d3, rfl⟩ := hb.gar
        clear hb
        obtain ⟨Q, hQ⟩ : ∃ Q, Q = A / N := ⟨_, rfl⟩
        obtain ⟨R, hR⟩ : ∃ R, R = A % N := ⟨_, rfl⟩
        rw [← hQ, ← hR]
        have HR : Hid (R ≤ A) := by rw [hR]; exact Lib.hid (Nat.mod_le _ _)
        clear hQ hR
        go_wp2_with fail
        refine (Sub_v A R _ (by have := HA1.out; omega) (by have := HA1.out; have := HR.out; omega) HR.out).mono ?_
        rintro e w' ⟨rfl, hb⟩
        obtain ⟨l4, d4, rfl⟩ := hb.gar
        clear hb
        obtain ⟨E, hE⟩ : ∃ E, E = A - R := ⟨_, rfl⟩
        rw [← hE]
        have HE : Hid (E < 340282366920938463463374607431768211456) := by rw [hE]; exact Lib.hid (by have := HA1.out; omega)
        clear hE
        go_wp2_with fail
        refine (draw_v s j _ _ _ _ N E _ hs (by omega) HN0.out HN1.out HE.out ?_).mono ?_
        · constructor <;> simp [go_sem] <;> omega
        rintro e w' ⟨s', x, rfl, hs', Hx, hb⟩
        obtain ⟨l5, d5, rfl⟩ := hb.gar
        clear hb
        go_wp2_with fail
        go_region
        all_goals
          go_wp2
          refine bodyPost_ret (v := .tuple #[.int .i64 s', encN x, .int .i64 0]) ?_ rfl ⟨s', x, rfl, hs', Hx, ?_⟩
          · simp [results, Try.results37, go_sem, encN, c32]
          · simp only [World.alloc_gar, World.gar_gar, World.gar_drewN, World.gar_drew]; exact RowKit.Below.of_gar _ _ _
  · go_wp2_with fail
    go_loopw [] (fun wr => ∃ (j A : Nat), 1 ≤ j ∧ j ≤ 4 ∧ Hid (A = VV ^ j) ∧ ∃ ll dd, wr = World.gar ((((((w.alloc (.cells #[.int .u32 (lb N 0), .int .u32 (lb N 1), .int .u32 (lb N 2), .int .u32 (lb N 3)] 37)).alloc (.cells #[.int .u32 0, .int .u32 0, .int .u32 0, .int .u32 0] 37)).gar (l ++ l1) d1).alloc (.cells #[.int .u32 (lb 2147483646 0), .int .u32 (lb 2147483646 1), .int .u32 (lb 2147483646 2), .int .u32 (lb 2147483646 3)] 37)).alloc (.cells #[.int .u32 (lb A 0), .int .u32 (lb A 1), .int .u32 (lb A 2), .int .u32 (lb A 3)] 37)).alloc (.cells #[.int .i64 (j : Nat)] 3)) ll dd) (fun wr => 4 - kOf (wr.cell? ⟨w.heap.size + 1 + 1 + (l.length + l1.length) + 1 + 1, 0, none⟩))
    case atStart =>
      refine ⟨1, 2147483646, by omega, by omega, Lib.hid (by decide), [], d1 + 1, ?_⟩
      exact World.gar_nil.symm
    case round =>
      obtain ⟨j, A, hj1, hj4, HA, ll, dd, rfl⟩ := hrel
      have hA : A < 21267647892944572736998860269687930880 := by have h9 := VV_pow j hj4; rw [← HA.out] at h9; exact h9
      have HA1 := Lib.hid hA
      clear hA
      go_wp2_with fail
      refine (cmp_h A N _ (by have := HA1.out; omega) (by have := HN.out; omega)).mono ?_
      rintro e w' ⟨r2, rfl, Hr, hb⟩
      obtain ⟨l2, d2, rfl⟩ := hb.gar
      clear hb
      by_cases hr2 : r2 < 0
      · have hj3 : j ≤ 3 := by
          have h2 := Hr.out
          by_cases h3 : j ≤ 3
          · exact h3
          · exfalso
            obtain rfl : j = 4 := by omega
            have := HA.out
            have h4 := VV4
            have h5 := HN.out
            rw [← this] at h4
            unfold cmpN at h2
            rw [if_neg (by omega)] at h2
            split at h2 <;> omega
        clear Hr
        go_wp2_with fail
        have hA93 : 2147483646 * A < 340282366920938463463374607431768211456 := by
          rw [HA.out, ← VV_succ]; have := VV_pow (j + 1) (by omega); omega
        have HA93 := Lib.hid hA93
        clear hA93
        refine (Mul_new A 2147483646 _ _ (by simp) (by have := HA1.out; omega) (by omega) (by have := HA93.out; omega)).mono ?_
        rintro e w' ⟨rfl, hb⟩
        obtain ⟨l4, d4, rfl⟩ := hb.gar
        clear hb
        obtain ⟨A2, hA2⟩ : ∃ A2, A2 = A * 2147483646 := ⟨_, rfl⟩
        rw [← hA2]
        have HA2 := Lib.hid hA2
        clear hA2
        go_wp2_with fail
        go_roundw
        case rel =>
          refine ⟨j + 1, A2, by omega, by omega, Lib.hid (by rw [VV_succ, HA2.out, HA.out, Nat.mul_comm]), ll ++ (l2 ++ (Obj.cells #[.int .u32 (lb A 0), .int .u32 (lb A 1), .int .u32 (lb A 2), .int .u32 (lb A 3), .int .u32 (lb 2147483646 0), .int .u32 (lb 2147483646 1), .int .u32 (lb 2147483646 2), .int .u32 (lb 2147483646 3)] 37 :: l4)), d4, ?_⟩
          simp [World.gar_alloc, World.gar_gar, World.gar_drewN, World.gar_drew]
        case measure => simp [kOf, go_sem]; omega
      · clear Hr
        go_wp2_with fail
        have HN1 : Hid (N < 340282366920938463463374607431768211456) := Lib.hid (by have := HN.out; omega)
        refine (Div_v A N _ (by have := HA1.out; omega) HN1.out HN0.out).mono ?_
        rintro e w' ⟨rfl, hb⟩
        obtain ⟨l3, d3, rfl⟩ := hb.gar
        clear hb
        obtain ⟨Q, hQ⟩ : ∃ Q, Q = A / N := ⟨_, rfl⟩
        obtain ⟨R, hR⟩ : ∃ R, R = A % N := ⟨_, rfl⟩
        rw [← hQ, ← hR]
        have HR : Hid (R ≤ A) := by rw [hR]; exact Lib.hid (Nat.mod_le _ _)
        clear hQ hR
        go_wp2_with fail
        refine (Sub_v A R _ (by have := HA1.out; omega) (by have := HA1.out; have := HR.out; omega) HR.out).mono ?_
        rintro e w' ⟨rfl, hb⟩
        obtain ⟨l4, d4, rfl⟩ := hb.gar
        clear hb
        obtain ⟨E, hE⟩ : ∃ E, E = A - R := ⟨_, rfl⟩
        rw [← hE]
        have HE : Hid (E < 340282366920938463463374607431768211456) := by rw [hE]; exact Lib.hid (by have := HA1.out; omega)
        clear hE
        go_wp2_with fail
        refine (draw_v s j _ _ _ _ N E _ hs (by omega) HN0.out HN1.out HE.out ?_).mono ?_
        · constructor <;> simp [go_sem] <;> omega
        rintro e w' ⟨s', x, rfl, hs', Hx, hb⟩
        obtain ⟨l5, d5, rfl⟩ := hb.gar
        clear hb
        go_wp2_with fail
        go_region
        all_goals
          go_wp2
          refine bodyPost_ret (v := .tuple #[.int .i64 s', encN x, .int .i64 0]) ?_ rfl ⟨s', x, rfl, hs', Hx, ?_⟩
          · simp [results, Try.results37, go_sem, encN, c32]
          · simp only [World.alloc_gar, World.gar_gar, World.gar_drewN, World.gar_drew]; exact RowKit.Below.of_gar _ _ _
end Go.Proofs

/- The number of a number's bits that are 1, and Go's way to count them. -/
namespace Go.Proofs
open Go.RowKit
/-- How many of the n lowest bits of x are 1. -/
def pcn : Nat → Nat → Nat
  | 0, _ => 0
  | n + 1, x => x % 2 + pcn n (x / 2)
theorem pcn_add (n m x : Nat) : pcn (n + m) x = pcn n x + pcn m (x / 2 ^ n) := by
  induction n generalizing x with
  | zero => simp [pcn]
  | succ n ih => rw [Nat.add_right_comm]; simp only [pcn]; rw [ih, Nat.div_div_eq_div_mul, Nat.pow_succ, Nat.mul_comm 2]; omega
theorem pcn_mod (n x : Nat) : pcn n (x % 2 ^ n) = pcn n x := by
  induction n generalizing x with
  | zero => rfl
  | succ n ih =>
    simp only [pcn]
    have e1 : x % 2 ^ (n + 1) % 2 = x % 2 := Nat.mod_mod_of_dvd x ⟨2 ^ n, by rw [Nat.pow_succ, Nat.mul_comm]⟩
    have e2 : x % 2 ^ (n + 1) / 2 = x / 2 % 2 ^ n := by
      rw [Nat.pow_succ, Nat.mul_comm, Nat.mod_mul_right_div_self]
    rw [e1, e2, ih]
theorem pcn_le (n x : Nat) : pcn n x ≤ n := by
  induction n generalizing x with
  | zero => exact Nat.le_refl _
  | succ n ih => simp only [pcn]; have := ih (x / 2); omega
/-- A mask of n bytes m. -/
def msk (m : Nat) : Nat → Nat
  | 0 => 0
  | n + 1 => m + 256 * msk m n
/-- What f makes of each of n bytes. -/
def bw (f : Nat → Nat) : Nat → Nat → Nat
  | 0, _ => 0
  | n + 1, x => f (x % 256) + 256 * bw f n (x / 256)
theorem and_split (a m b : Nat) (hm : m < 256) : a &&& (m + 256 * b) = (a % 256 &&& m) + 256 * (a / 256 &&& b) := by
  have h1 := Nat.div_add_mod (a &&& (m + 256 * b)) 256
  have h2 : (a &&& (m + 256 * b)) % 256 = a % 256 &&& m := by
    rw [show (256 : Nat) = 2 ^ 8 from rfl, Nat.and_mod_two_pow, show (m + 2 ^ 8 * b) % 2 ^ 8 = m by omega]
  have h3 : (a &&& (m + 256 * b)) / 256 = a / 256 &&& b := by
    rw [show (256 : Nat) = 2 ^ 8 from rfl, Nat.and_div_two_pow, show (m + 2 ^ 8 * b) / 2 ^ 8 = b by omega]
  rw [h2, h3] at h1; omega
theorem and_le_right' (a b : Nat) : a &&& b ≤ b := Nat.and_le_right
/-- x shifted down by k, masked: byte by byte, where the mask keeps off what comes from the next byte. -/
theorem shift_bytes (k m : Nat) (hk : k ≤ 8) (hm : m < 2 ^ (8 - k)) (n x : Nat) : x / 2 ^ k &&& msk m n = bw (fun b => b / 2 ^ k &&& m) n x := by
  have hm' : m < 256 := Nat.lt_of_lt_of_le hm (Nat.pow_le_pow_right (n := 2) (by omega) (by omega : 8 - k ≤ 8))
  induction n generalizing x with
  | zero => simp [msk, bw]
  | succ n ih =>
    simp only [msk, bw]
    rw [and_split _ _ _ hm']
    have e1 : x / 2 ^ k / 256 = x / 256 / 2 ^ k := by rw [Nat.div_div_eq_div_mul, Nat.div_div_eq_div_mul, Nat.mul_comm]
    rw [e1, ih]
    have e2 : x / 2 ^ k % 256 &&& m = x % 256 / 2 ^ k &&& m := by
      apply Nat.eq_of_testBit_eq
      intro i
      rw [Nat.testBit_and, Nat.testBit_and, show (256 : Nat) = 2 ^ 8 from rfl, Nat.testBit_mod_two_pow, Nat.testBit_div_two_pow, Nat.testBit_div_two_pow, Nat.testBit_mod_two_pow]
      by_cases hi : i < 8 - k
      · have h1 : i < 8 := by omega
        have h2 : i + k < 8 := by omega
        simp [h1, h2]
      · have : m.testBit i = false := Nat.testBit_lt_two_pow (Nat.lt_of_lt_of_le hm (Nat.pow_le_pow_right (by omega) (by omega)))
        simp [this]
    rw [e2]
theorem bw_add (f g : Nat → Nat) (n x : Nat) : bw f n x + bw g n x = bw (fun b => f b + g b) n x := by
  induction n generalizing x with
  | zero => rfl
  | succ n ih => simp only [bw]; rw [← ih]; omega
theorem bw_comp (f g : Nat → Nat) (hg : ∀ b, b < 256 → g b < 256) (n x : Nat) : bw f n (bw g n x) = bw (fun b => f (g b)) n x := by
  induction n generalizing x with
  | zero => rfl
  | succ n ih =>
    simp only [bw]
    have h := hg (x % 256) (Nat.mod_lt _ (by omega))
    have e1 : (g (x % 256) + 256 * bw g n (x / 256)) % 256 = g (x % 256) := by omega
    have e2 : (g (x % 256) + 256 * bw g n (x / 256)) / 256 = bw g n (x / 256) := by omega
    rw [e1, e2, ih]
theorem bw_congr (f g : Nat → Nat) (h : ∀ b, b < 256 → f b = g b) (n x : Nat) : bw f n x = bw g n x := by
  induction n generalizing x with
  | zero => rfl
  | succ n ih => simp only [bw]; rw [ih, h _ (Nat.mod_lt _ (by omega))]

theorem nib_bytes (h : Nat → Nat) (hh : ∀ b, b < 256 → h b ≤ 68 ∧ h b % 16 ≤ 4) (n x : Nat) : (bw h n x / 16 + bw h n x) &&& msk 15 n = bw (fun b => (h b / 16 + h b) % 16) n x := by
  induction n generalizing x with
  | zero => simp [msk, bw]
  | succ n ih =>
    simp only [msk, bw]
    rw [and_split _ _ _ (by omega), ← ih]
    have h0 := hh (x % 256) (Nat.mod_lt _ (by omega))
    have h1 : bw h n (x / 256) % 16 ≤ 4 := by
      cases n with
      | zero => simp [bw]
      | succ n =>
        simp only [bw]
        have := hh (x / 256 % 256) (Nat.mod_lt _ (by omega))
        omega
    generalize bw h n (x / 256) = z at h1
    generalize h (x % 256) = q at h0
    have e1 : ((q + 256 * z) / 16 + (q + 256 * z)) % 256 = q / 16 + q + 16 * (z % 16) := by omega
    have e2 : ((q + 256 * z) / 16 + (q + 256 * z)) / 256 = z / 16 + z := by omega
    rw [e1, e2, show (15 : Nat) = 2 ^ 4 - 1 from rfl, Nat.and_two_pow_sub_one_eq_mod]
    omega
def g1 (b : Nat) : Nat := (b / 2 &&& 85) + (b &&& 85)
def g2 (b : Nat) : Nat := (b / 4 &&& 51) + (b &&& 51)
theorem g1_lt : ∀ b, b < 256 → g1 b < 256 := by decide +kernel
theorem g21_nib : ∀ b, b < 256 → g2 (g1 b) ≤ 68 ∧ g2 (g1 b) % 16 ≤ 4 := by decide +kernel
theorem g21_pop : ∀ b, b < 256 → (g2 (g1 b) / 16 + g2 (g1 b)) % 16 = pcn 8 b := by decide +kernel
theorem swar1 (x : Nat) : (x / 2 &&& 6148914691236517205) + (x &&& 6148914691236517205) = bw g1 8 x := by
  have h1 := shift_bytes 1 85 (by decide) (by decide) 8 x
  have h2 := shift_bytes 0 85 (by decide) (by decide) 8 x
  have e : msk 85 8 = 6148914691236517205 := by decide
  rw [e] at h1 h2
  rw [Nat.pow_zero, Nat.div_one] at h2
  rw [Nat.pow_one] at h1
  rw [h1, h2, bw_add]
  exact bw_congr _ _ (fun b _ => by simp [g1]) 8 x
theorem swar2 (x : Nat) : (x / 4 &&& 3689348814741910323) + (x &&& 3689348814741910323) = bw g2 8 x := by
  have h1 := shift_bytes 2 51 (by decide) (by decide) 8 x
  have h2 := shift_bytes 0 51 (by decide) (by decide) 8 x
  have e : msk 51 8 = 3689348814741910323 := by decide
  rw [e] at h1 h2
  rw [Nat.pow_zero, Nat.div_one] at h2
  rw [show (2 : Nat) ^ 2 = 4 from rfl] at h1
  rw [h1, h2, bw_add]
  exact bw_congr _ _ (fun b _ => by simp [g2]) 8 x
theorem swar3 (x : Nat) : (bw g2 8 (bw g1 8 x) / 16 + bw g2 8 (bw g1 8 x)) &&& 1085102592571150095 = bw (pcn 8) 8 x := by
  have e : msk 15 8 = 1085102592571150095 := by decide
  rw [← e, bw_comp g2 g1 g1_lt, nib_bytes _ g21_nib]
  exact bw_congr _ _ g21_pop 8 x
theorem sum8_u (p0 p1 p2 p3 p4 p5 p6 p7 t u : Nat) (h0 : p0 ≤ 8) (h1 : p1 ≤ 8) (h2 : p2 ≤ 8) (h3 : p3 ≤ 8) (h4 : p4 ≤ 8) (h5 : p5 ≤ 8) (h6 : p6 ≤ 8) (h7 : p7 ≤ 8)
    (ht : t = p0 + 256 * p1 + 65536 * p2 + 16777216 * p3 + 4294967296 * p4 + 1099511627776 * p5 + 281474976710656 * p6 + 72057594037927936 * p7) (hu : u = t + t / 256) :
    u = (p0 + p1) + 256 * (p1 + p2) + 65536 * (p2 + p3) + 16777216 * (p3 + p4) + 4294967296 * (p4 + p5) + 1099511627776 * (p5 + p6) + 281474976710656 * (p6 + p7) + 72057594037927936 * p7 := by
  have e : t / 256 = p1 + 256 * p2 + 65536 * p3 + 16777216 * p4 + 4294967296 * p5 + 1099511627776 * p6 + 281474976710656 * p7 := by omega
  rw [hu, e, ht]; omega
theorem sum8_v (p0 p1 p2 p3 p4 p5 p6 p7 u v : Nat) (h0 : p0 ≤ 8) (h1 : p1 ≤ 8) (h2 : p2 ≤ 8) (h3 : p3 ≤ 8) (h4 : p4 ≤ 8) (h5 : p5 ≤ 8) (h6 : p6 ≤ 8) (h7 : p7 ≤ 8)
    (hu : u = (p0 + p1) + 256 * (p1 + p2) + 65536 * (p2 + p3) + 16777216 * (p3 + p4) + 4294967296 * (p4 + p5) + 1099511627776 * (p5 + p6) + 281474976710656 * (p6 + p7) + 72057594037927936 * p7) (hv : v = u + u / 65536) :
    v = (p0 + p1 + p2 + p3) + 256 * (p1 + p2 + p3 + p4) + 65536 * (p2 + p3 + p4 + p5) + 16777216 * (p3 + p4 + p5 + p6) + 4294967296 * (p4 + p5 + p6 + p7) + 1099511627776 * (p5 + p6 + p7) + 281474976710656 * (p6 + p7) + 72057594037927936 * p7 := by
  have e : u / 65536 = (p2 + p3) + 256 * (p3 + p4) + 65536 * (p4 + p5) + 16777216 * (p5 + p6) + 4294967296 * (p6 + p7) + 1099511627776 * p7 := by omega
  rw [hv, e, hu]; omega
theorem sum8_r (p0 p1 p2 p3 p4 p5 p6 p7 v : Nat) (h0 : p0 ≤ 8) (h1 : p1 ≤ 8) (h2 : p2 ≤ 8) (h3 : p3 ≤ 8) (h4 : p4 ≤ 8) (h5 : p5 ≤ 8) (h6 : p6 ≤ 8) (h7 : p7 ≤ 8)
    (hv : v = (p0 + p1 + p2 + p3) + 256 * (p1 + p2 + p3 + p4) + 65536 * (p2 + p3 + p4 + p5) + 16777216 * (p3 + p4 + p5 + p6) + 4294967296 * (p4 + p5 + p6 + p7) + 1099511627776 * (p5 + p6 + p7) + 281474976710656 * (p6 + p7) + 72057594037927936 * p7) :
    (v + v / 4294967296) % 128 = p0 + (p1 + (p2 + (p3 + (p4 + (p5 + (p6 + p7)))))) := by
  have e : v / 4294967296 = (p4 + p5 + p6 + p7) + 256 * (p5 + p6 + p7) + 65536 * (p6 + p7) + 16777216 * p7 := by omega
  rw [e]
  have e2 : v = (p0 + p1 + p2 + p3) + 128 * (2 * ((p1 + p2 + p3 + p4) + 256 * (p2 + p3 + p4 + p5) + 65536 * (p3 + p4 + p5 + p6) + 16777216 * (p4 + p5 + p6 + p7) + 4294967296 * (p5 + p6 + p7) + 1099511627776 * (p6 + p7) + 281474976710656 * p7)) := by rw [hv]; omega
  generalize 2 * ((p1 + p2 + p3 + p4) + 256 * (p2 + p3 + p4 + p5) + 65536 * (p3 + p4 + p5 + p6) + 16777216 * (p4 + p5 + p6 + p7) + 4294967296 * (p5 + p6 + p7) + 1099511627776 * (p6 + p7) + 281474976710656 * p7) = K at e2
  rw [e2]
  clear hv e e2
  omega
theorem sum8 (p0 p1 p2 p3 p4 p5 p6 p7 t u v : Nat) (h0 : p0 ≤ 8) (h1 : p1 ≤ 8) (h2 : p2 ≤ 8) (h3 : p3 ≤ 8) (h4 : p4 ≤ 8) (h5 : p5 ≤ 8) (h6 : p6 ≤ 8) (h7 : p7 ≤ 8)
    (ht : t = p0 + 256 * p1 + 65536 * p2 + 16777216 * p3 + 4294967296 * p4 + 1099511627776 * p5 + 281474976710656 * p6 + 72057594037927936 * p7) (hu : u = t + t / 256) (hv : v = u + u / 65536) :
    (v + v / 4294967296) % 128 = p0 + (p1 + (p2 + (p3 + (p4 + (p5 + (p6 + p7)))))) ∧ t ≤ 578721382704613384 :=
  ⟨sum8_r p0 p1 p2 p3 p4 p5 p6 p7 v h0 h1 h2 h3 h4 h5 h6 h7 (sum8_v p0 p1 p2 p3 p4 p5 p6 p7 u v h0 h1 h2 h3 h4 h5 h6 h7 (sum8_u p0 p1 p2 p3 p4 p5 p6 p7 t u h0 h1 h2 h3 h4 h5 h6 h7 ht hu) hv), by rw [ht]; omega⟩
theorem swar_sum (x t u v : Nat) (ht : t = bw (pcn 8) 8 x) (hu : u = t + t / 256) (hv : v = u + u / 65536) : (v + v / 4294967296) % 128 = pcn 64 x ∧ t ≤ 578721382704613384 := by
  have hp : ∀ y, pcn 8 (y % 256) ≤ 8 := fun y => pcn_le 8 _
  have e : pcn 64 x = pcn 8 (x % 256) + (pcn 8 (x / 256 % 256) + (pcn 8 (x / 256 / 256 % 256) + (pcn 8 (x / 256 / 256 / 256 % 256) + (pcn 8 (x / 256 / 256 / 256 / 256 % 256) + (pcn 8 (x / 256 / 256 / 256 / 256 / 256 % 256) + (pcn 8 (x / 256 / 256 / 256 / 256 / 256 / 256 % 256) + pcn 8 (x / 256 / 256 / 256 / 256 / 256 / 256 / 256 % 256))))))) := by
    have a := fun y m => pcn_add 8 m y
    have b := fun y => pcn_mod 8 y
    simp only [show (2 : Nat) ^ 8 = 256 from rfl] at a b
    simp only [b]
    rw [show (64 : Nat) = 8 + (8 + (8 + (8 + (8 + (8 + (8 + 8)))))) from rfl, a, a, a, a, a, a, a]
  rw [e]
  simp only [bw] at ht
  have h0 := hp x
  have h1 := hp (x / 256)
  have h2 := hp (x / 256 / 256)
  have h3 := hp (x / 256 / 256 / 256)
  have h4 := hp (x / 256 / 256 / 256 / 256)
  have h5 := hp (x / 256 / 256 / 256 / 256 / 256)
  have h6 := hp (x / 256 / 256 / 256 / 256 / 256 / 256)
  have h7 := hp (x / 256 / 256 / 256 / 256 / 256 / 256 / 256)
  generalize pcn 8 (x % 256) = p0 at *
  generalize pcn 8 (x / 256 % 256) = p1 at *
  generalize pcn 8 (x / 256 / 256 % 256) = p2 at *
  generalize pcn 8 (x / 256 / 256 / 256 % 256) = p3 at *
  generalize pcn 8 (x / 256 / 256 / 256 / 256 % 256) = p4 at *
  generalize pcn 8 (x / 256 / 256 / 256 / 256 / 256 % 256) = p5 at *
  generalize pcn 8 (x / 256 / 256 / 256 / 256 / 256 / 256 % 256) = p6 at *
  generalize pcn 8 (x / 256 / 256 / 256 / 256 / 256 / 256 / 256 % 256) = p7 at *
  clear e hp
  exact sum8 p0 p1 p2 p3 p4 p5 p6 p7 t u v h0 h1 h2 h3 h4 h5 h6 h7 (by rw [ht]; omega) hu hv
end Go.Proofs
