/- deal.Complete's closure: a hand is given the set of its missing cards with an index. -/
import Derived.Test.YtaladbaeplgjgaaX12
import Derived.RegionIn
set_option linter.unusedSimpArgs false
set_option linter.unusedVariables false
namespace Go.Proofs
open Go.RowKit
attribute [local go_sem] Oper.semAt_some
theorem gar_of {B : Nat} {X w' : World} {l : List Obj} {o : Obj} {d : Nat} (hB : B = X.heap.size) (h : RowKit.Below B ((X.gar l d).alloc o) w') : ∃ l' d', w' = X.gar l' d' := by
  subst hB
  rw [World.gar_alloc] at h
  exact h.gar'
def rowM (r i : Nat) : List Value := ((cds r).take i).map (fun c => .int .u64 (2 ^ c : Nat))
theorem rowM_get (r n j : Nat) (hj : j < n) (hn : n ≤ (cds r).length) : (rowM r n)[j]? = some (.int .u64 (crd r j)) := by
  unfold rowM crd
  rw [List.getElem?_map, List.getElem?_take, if_pos hj, List.getD_eq_getElem?_getD]
  rw [List.getElem?_eq_getElem (by omega)]; rfl
theorem Try.info24 : (Try.prog.info? 24).map (fun i => (i.zero, i.size, i.bytes)) = some (some (.int .u64 0), 1, 8) := by kernel_rfl
set_option maxRecDepth 100000 in
set_option maxHeartbeats 1000000 in
theorem fill_v (s br bp r p y0 : Nat) (w : World) (hs : s ≤ 2) [LtC bp br] [LtC br w.heap.size] [LtC bp w.heap.size] [hmr : Msk r] [hmp : Msk p]
    (hr : w.cell? ⟨br, 0, none⟩ = some (.int .u64 r)) (hfr : w.frozen? ⟨br, 0, none⟩ = false) (hp : w.cell? ⟨bp, s, none⟩ = some (.int .u64 p)) (hfp : w.frozen? ⟨bp, s, none⟩ = false)
    (hp13 : pc p ≤ 13) (hy : y0 < C (pc r) (13 - pc p)) :
    Calls Try.prog 46 #[.int .i64 s, .int .i64 y0, .pointer (some ⟨br, 0, none⟩), .pointer (some ⟨bp, 0, none⟩)] w fun e w' => (∃ v, e = .returned v) ∧
      ∃ A : Nat, Hid (A = unr r (pc r) (13 - pc p) y0) ∧ Msk A ∧ ∃ l d, w' = (w.two br bp s (andn r A) (p ||| A)).gar l d := by
  have HP := Lib.hid hp13
  have HY := Lib.hid hy
  clear hp13 hy
  obtain ⟨i0, hi, hz0, hz1, hz2⟩ := info_parts Try.info24
  refine (callsIn_wide (n := 3)).1 ?_
  refine callsIn_of_wp_marks Try.func46 rfl trivial ?_ rfl
  simp only [Try.ntmps46, List.size_toArray, List.length_cons, List.length_nil, Nat.reduceAdd, Nat.reduceSub, Array.replicate_succ, Array.replicate_zero, List.push_toArray, List.append_toArray, List.nil_append, List.cons_append]
  gi_wp2_with (gi_at_call 47; refine (callsIn_wide.2 (free_v _ _)).mono ?_; rintro e w' ⟨rfl, rfl⟩)
  refine wpIn_range' rfl (fun _ => trivial) rfl (gf := 78) (cap := #[.pointer (some ⟨w.heap.size + 1, 0, none⟩)]) rfl (fun args w => Try.call78 args w) ?_
  intro fn asg body hasg hbody
  simp only [World.size_alloc, Nat.reduceSub]
  obtain ⟨I, hI⟩ : ∃ I : Nat → Nat → World → Prop, I = (fun (i m : Nat) (wr : World) => ∃ (v t8 t14 t15 t16 t17 t18 t19 : Value) (l : List Obj) (d : Nat), wr = (((((w.alloc (.cells #[v] 108)).alloc (.cells #[.int .u64 m] 24)).alloc (.deferred (some []))).alloc (loopRec .ready none fn #[(.int .i64 s), (.int .i64 y0), (.pointer (some ⟨br, 0, none⟩)), (.pointer (some ⟨bp, 0, none⟩)), undef, undef, (.pointer (some ⟨w.heap.size, 0, none⟩)), undef, t8, undef, undef, undef, (.int .u64 r), (.func (.func 78) #[] #[.pointer (some ⟨w.heap.size + 1, 0, none⟩)]), t14, t15, t16, t17, t18, t19, undef, undef, undef, undef, undef, undef, undef, undef, undef, undef, undef, undef, undef, undef, undef, undef, undef, undef, undef, undef, undef, undef, undef, undef, undef, undef, undef, undef, undef, undef, undef, undef, undef, undef, undef, undef, undef, undef] #[14, 15] asg body (w.heap.size + 1 + 1))).gar l d) ∧
    wr.ownsRow (w.heap.size + 1 + 1 + 1 + 1) 24 1 v i (rowM r i) ∧ Msk m ∧ cds m = (cds r).drop i ∧ i ≤ (cds r).length) := ⟨_, rfl⟩
  have HI := Lib.hid hI
  clear hI
  refine CallsIn.mono (free_in I (w.heap.size + 1) _ _ r _ (hm0 := hmr) ?hc ?hY ?h0) ?post
  case hc =>
    intro i m wr hI
    rw [HI.out] at hI
    obtain ⟨v, t8, t14, t15, t16, t17, t18, t19, l, d, rfl, _⟩ := hI
    constructor <;> simp [go_sem]
  case h0 =>
    rw [HI.out]
    refine ⟨.slice none 0 0, undef, undef, undef, undef, undef, undef, undef, [], _, World.gar_nil.symm, World.ownsRow_nil _ _ _ _, hmr, by simp, by omega⟩
  case hY =>
    intro i m c cs wr hm hcs hi52 hI
    rw [HI.out] at hI
    obtain ⟨v, t8, t14, t15, t16, t17, t18, t19, l, d, rfl, hown, _, hcd, hil⟩ := hI
    subst hasg hbody
    refine yield_at (by rw [World.heap_gar_past (by simp)]; exact World.heap_alloc_at _ _ _ (by simp)) rfl ?_
    simp only [List.zip_toArray, List.zip_cons_cons, List.zip_nil_left, List.foldl_toArray', List.foldl_cons, List.foldl_nil, List.setIfInBounds_toArray, List.set_cons_succ, List.set_cons_zero, List.size_toArray, List.length_cons, List.length_nil]
    have hle := hown.1
    obtain ⟨M, hM⟩ : ∃ M : Nat, M = 2 ^ c := ⟨_, rfl⟩
    have hrow : rowM r i ++ [.int .u64 M] = rowM r (i + 1) := by
      unfold rowM
      have h1 : (cds r)[i]? = some c := by
        have : ((cds r).drop i)[0]? = some c := by rw [← hcd, hcs]; rfl
        rw [List.getElem?_drop] at this; exact this
      rw [List.take_add_one, h1, List.map_append, hM]; rfl
    have hcd2 : cds (andn m M) = (cds r).drop (i + 1) ∧ i + 1 ≤ (cds r).length := by
      rw [hM, cds_rest hcs]
      constructor
      · rw [← List.drop_drop, ← hcd, hcs]; rfl
      · have : (cds m).length = (cds r).length - i := by rw [hcd, List.length_drop]
        rw [hcs] at this; simp at this; omega
    haveI : Msk M := by rw [hM]; exact ⟨bit_lt c (cds_cons hcs).1⟩
    rw [← hM]
    clear hM hcd hcs
    gi_wp2
    refine ⟨_, begin_at (by rw [World.heap_gar_past (by simp)]; exact World.heap_alloc_at _ _ _ (by simp)), ?_⟩
    rw [World.putObj_gar_past _ _ _ _ _ (by simp), World.putObj_alloc_at _ _ _ _ (by simp)]
    have hown2 : ∀ Y : World, Y.heap.size = w.heap.size + 1 + 1 + 1 + 1 → (Y.gar l d).ownsRow (w.heap.size + 1 + 1 + 1 + 1) 24 1 v i (rowM r i) := fun Y hY =>
      World.ownsRow.swap (by rw [hY]; simp) (by simp) hown
    have hlt : ∀ k, v.ownBlock = some k → w.heap.size + 1 + 1 + 1 + 1 ≤ k := fun k hk => (hown.lt k hk).1
    clear hown
    gi_wp2_with (gi_at_builtin; refine wpListIn_append_own _ rfl (.tmp 16) (.tmp 18) 108 rfl (w.heap.size + 1 + 1 + 1 + 1) 24 i0 _ 1 8 Try.underlying108 hi hz0 hz1 hz2 rfl (by decide) _ _ _ rfl ((hown2 _ (by simp)).alloc _) ⟨w.heap.size + 1 + 1 + 1 + 1 + l.length, 0, none⟩ 1 1 [.int .u64 M] rfl rfl ?d1 ?d2 ?d3 ?d4 ?d5 ?_)
    case d1 => exact cells_new _ [.int .u64 M] 24 _ (by simp)
    case d2 => intro u hu; simp only [List.mem_cons, List.not_mem_nil, or_false] at hu; rcases hu with rfl; rfl
    case d3 => unfold maxLen; omega
    case d4 => omega
    case d5 => simp; omega
    intro v2 w1 hn1 hg1 _
    have hb1 := below_grown hg1 (B := w.heap.size + 1 + 1 + 1 + 1) (by simp; omega) hlt
    obtain ⟨l4, d4, rfl⟩ := gar_of (by simp) hb1
    clear hg1 hb1 hown2 hlt
    obtain ⟨g2, cap2, rfl⟩ := ownsRow_succ hn1
    gi_wp2
    refine ⟨_, _, end_at (by rw [World.heap_gar_past (by simp)]; exact World.heap_alloc_at _ _ _ (by simp)), rfl, ?_⟩
    rw [World.putObj_gar_past _ _ _ _ _ (by simp), World.putObj_alloc_at _ _ _ _ (by simp)]
    refine ⟨by simp [go_sem], by simp [go_sem], ?_⟩
    rw [HI.out]
    suffices h : _ = (((((w.alloc (.cells #[.slice (some ⟨g2, 0, none⟩) (i + 1) cap2] 108)).alloc (.cells #[.int .u64 (andn m M : Nat)] 24)).alloc (.deferred (some []))).alloc (loopRec .ready none fn #[(.int .i64 s), (.int .i64 y0), (.pointer (some ⟨br, 0, none⟩)), (.pointer (some ⟨bp, 0, none⟩)), undef, undef, (.pointer (some ⟨w.heap.size, 0, none⟩)), undef, t8, undef, undef, undef, (.int .u64 r), (.func (.func 78) #[] #[.pointer (some ⟨w.heap.size + 1, 0, none⟩)]), t14, t15, t16, t17, t18, t19, undef, undef, undef, undef, undef, undef, undef, undef, undef, undef, undef, undef, undef, undef, undef, undef, undef, undef, undef, undef, undef, undef, undef, undef, undef, undef, undef, undef, undef, undef, undef, undef, undef, undef, undef, undef, undef, undef] #[14, 15] _ _ (w.heap.size + 1 + 1))).gar l4 d4) from ⟨.slice (some ⟨g2, 0, none⟩) (i + 1) cap2, t8, t14, t15, t16, t17, t18, t19, l4, d4, h, by
      rw [h]; exact World.ownsRow.swap (by simp) (by simp) hn1, inferInstance, hcd2.1, hcd2.2⟩
    simp [go_sem]
  case post =>
    clear hi hz0 hz1 hz2
    rintro e wr ⟨⟨ev, rfl⟩, i, hI⟩
    rw [HI.out] at hI
    clear HI
    obtain ⟨v, t8, t14, t15, t16, t17, t18, t19, l, d, rfl, hown, _, hcd, hil⟩ := hI
    have hlen : i = (cds r).length := by
      have : (cds 0).length = (cds r).length - i := by rw [hcd, List.length_drop]
      have h0 : (cds 0).length = 0 := by decide
      omega
    subst hlen
    clear hcd hil
    subst hasg hbody
    obtain ⟨b, cap, rfl⟩ : ∃ b cap, v = .slice b (cds r).length cap := by
      rcases hown.2 with ⟨rfl, h0⟩ | ⟨g, cap, cur, rfl, _⟩
      · exact ⟨none, 0, by rw [h0]⟩
      · exact ⟨_, cap, rfl⟩
    rw [← pc_cds] at hown ⊢
    refine ⟨_, _, done_at (by rw [World.heap_gar_past (by simp)]; exact World.heap_alloc_at _ _ _ (by simp)) (by decide), ?_⟩
    rw [World.putObj_gar_past _ _ _ _ _ (by simp), World.putObj_alloc_at _ _ _ _ (by simp)]
    generalize loopRec .exhausted _ _ _ _ _ _ _ = O
    have hown2 : ∀ (Y : World) (d' : Nat), Y.heap.size = w.heap.size + 1 + 1 + 1 + 1 → (Y.gar l d').ownsRow (w.heap.size + 1 + 1 + 1 + 1) 24 1 (.slice b (pc r) cap) (pc r) (rowM r (pc r)) := fun Y d' hY =>
      World.ownsRow.swap (by rw [hY]; simp) (by simp) hown
    clear hown
    have hn52 : pc r ≤ 52 := pc_le r
    obtain ⟨n, hn⟩ : ∃ n, n = pc r := ⟨_, rfl⟩
    rw [← hn] at hown2 HY hn52 ⊢
    have HN := Lib.hid hn
    clear hn
    show Exit.inBlock 0 _ Exit.normal _ _
    gi_wp2_with (gi_at_call 48; refine (callsIn_wide.2 (ones_m _ _)).mono ?_; rintro e w' ⟨q, rfl, Hq, rfl⟩; have hq : q ≤ 13 := by rw [Hq.out]; exact HP.out)
    obtain ⟨R0, hR0⟩ : ∃ R0, R0 = unr r n (13 - pc p) y0 := ⟨_, rfl⟩
    have HR0 := Lib.hid hR0
    clear hR0
    gi_loopw [1, 9, 10, 11] (fun t1 t9 t10 _ wr => ∃ (k j y A : Nat), t9 = .int .i64 k ∧ t10 = .int .i64 ((j : Int) - 1) ∧ t1 = .int .i64 y ∧ k ≤ 13 ∧ j ≤ n ∧ Hid (y < C j k) ∧ Hid (y ≤ 4503599627370496) ∧ Msk A ∧ Hid (A ||| unr r j k y = R0) ∧
      ∃ l d, wr = (((((((w.two br bp s (andn r A) (p ||| A)).alloc (.cells #[.slice b n cap] 108)).alloc (.cells #[.int .u64 0] 24)).alloc (.deferred (some []))).alloc O).gar l d)) ∧
      wr.ownsRow (w.heap.size + 1 + 1 + 1 + 1) 24 1 (.slice b n cap) n (rowM r n)) (fun _ _ t10 _ _ => (intOf t10 + 1).toNat)
    case atStart =>
      refine ⟨13 - pc p, n, y0, 0, ?_, rfl, rfl, by omega, Nat.le_refl n, HY, ?_, Msk.zero, ?_, l, d, ?_, ?_⟩
      · have h1 := Hq.out; have h2 := HP.out; congr 1; omega
      · exact Lib.hid (by have h1 := HY.out; have h2 := C_le n (13 - pc p); have h3 : 2 ^ n ≤ 2 ^ 52 := Nat.pow_le_pow_right (by decide) hn52; omega)
      · exact Lib.hid (by rw [Nat.zero_or]; exact HR0.out.symm)
      · rw [andn_zero, Nat.or_zero, World.two_self hr hp]
      · exact hown2 _ _ (by simp)
    case round =>
      clear hown2
      obtain ⟨k, j, y, A, rfl, rfl, rfl, hk13, hjn, Hy, Hy52, hA, HA, l, d, rfl, hown⟩ := hrel
      by_cases hk : k = 0
      · subst hk
        gi_wp2
        refine ⟨by simp, .inl ⟨_, _, rfl, run_takeDeferred (by rw [World.heap_gar_past (by simp), World.heap_alloc_past _ _ _ (by simp)]; exact World.heap_alloc_at _ _ _ (by simp)), ?_⟩⟩
        rw [World.putObj_gar_past _ _ _ _ _ (by simp), World.putObj_alloc_past _ _ _ _ (by simp), World.putObj_alloc_at _ _ _ _ (by simp)]
        refine ⟨.tuple #[], by simp [results, Try.results46, go_sem], ⟨_, rfl⟩, A, Lib.hid ?_, hA, ?_⟩
        · have h1 := HA.out
          rw [unr_zero, Nat.or_zero] at h1
          rw [h1, HR0.out, HN.out]
        · simp only [World.alloc_gar, World.gar_gar, World.gar_drewN, World.gar_drew]; exact ⟨_, _, rfl⟩
      · obtain ⟨j, rfl⟩ : ∃ j', j = j' + 1 := by
          cases j with
          | zero => have := Hy.out; rw [C_zero_of k hk] at this; omega
          | succ j => exact ⟨j, rfl⟩
        obtain ⟨g, rfl⟩ : ∃ g, b = some ⟨g, 0, none⟩ := by
          rcases hown.2 with ⟨_, h0⟩ | ⟨g, cap', cur, hv, _⟩
          · omega
          · injection hv with hv1 _ _; exact ⟨g, hv1⟩
        gi_wp2
        gi_at_call 49
        refine (callsIn_wide.2 (choose_j j k _ (by omega) (by omega))).mono ?_
        rintro e w' ⟨c, rfl, Hc, Hc52, hb⟩
        obtain ⟨l1, d1, rfl⟩ := hb.gar
        clear hb
        have hown2 := hown.gar l1 d1
        rw [World.gar_gar] at hown2
        have hcell := hown2.cellAt j (by omega)
        rw [rowM_get r n j (by omega) (by have := HN.out; rw [pc_cds] at this; omega)] at hcell
        have hown3 : ∀ (Y : World) (l' : List Obj) (d' : Nat), Y.heap.size = w.heap.size + 1 + 1 + 1 + 1 → l' = l ++ l1 → (Y.gar l' d').ownsRow (w.heap.size + 1 + 1 + 1 + 1) 24 1 (.slice (some ⟨g, 0, none⟩) n cap) n (rowM r n) := fun Y l' d' hY hl => by
          subst hl
          exact World.ownsRow.swap (by rw [hY]; simp) (by simp) hown2
        clear hown hown2
        by_cases hcy : c ≤ y
        · have hy52 := Hy52.out
          have hc52 := Hc52.out
          gi_wp2
          gi_region
          all_goals gi_wp2
          have hcell2 := (hown3 (((((w.two br bp s (andn r A) (p ||| A ||| crd r j)).alloc (.cells #[.slice (some ⟨g, 0, none⟩) n cap] 108)).alloc (.cells #[.int .u64 0] 24)).alloc (.deferred (some []))).alloc O) _ d1 (by simp) rfl).cellAt j (by omega)
          rw [rowM_get r n j (by omega) (by have := HN.out; rw [pc_cds] at this; omega)] at hcell2
          all_goals gi_region
          all_goals
            gi_wp2
            go_roundw
            case rel =>
              refine ⟨k - 1, j, y - c, A ||| crd r j, by go_num, rfl, by go_num, by omega, by omega, Lib.hid ?_, Lib.hid ?_, inferInstance, Lib.hid ?_, l ++ l1, d1 + 1 + 1, ?_, ?_⟩
              · have h1 := Hy.out; have h2 := Hc.out; rw [C_pascal j k hk] at h1; omega
              · omega
              · have h1 := HA.out
                rw [unr_take r j k y hk (by have := Hc.out; omega)] at h1
                rw [Nat.or_assoc, Hc.out]; exact h1
              · rw [← andn_andn, ← Nat.or_assoc]
                rfl
              · rw [World.gar_drew, World.gar_drew]; exact hown3 _ _ _ (by simp) rfl
            case measure => simp [intOf]
        · gi_wp2
          go_roundw
          case rel =>
            refine ⟨k, j, y, A, rfl, rfl, rfl, hk13, by omega, Lib.hid (by have := Hc.out; omega), Hy52, hA, Lib.hid ?_, _, _, rfl, ?_⟩
            · have h1 := HA.out
              rw [unr_skip r j k y hk (by have := Hc.out; omega)] at h1
              exact h1
            · exact hown3 _ _ _ (by simp) rfl
          case measure => simp [intOf]
end Go.Proofs
