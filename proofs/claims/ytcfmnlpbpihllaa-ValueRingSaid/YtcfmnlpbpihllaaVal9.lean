/- The walk of ValueRing. -/
import Derived.Test.YtcfmnlpbpihllaaVal8
import Derived.Test.YtcfmnlpbpihllaaInv
import Derived.Test.YtcfmnlpbpihllaaRing1
import Derived.Test.YtcfmnlpbpihllaaRingLaw
import Derived.WalkKit
import Derived.WalkLawsBesides
import Derived.WalkSpells
import Derived.Lib.Hide
import Derived.Laws.ComplexArith
import Derived.Lib.Bytealg
import Derived.StillTailTactics
import Derived.Deep.DeepMust
import Derived.Deep.RegionHeld3
import Derived.Deep.DeepCutAuto
import Derived.Deep.QuietTactic
import Derived.BigQuiet
import Derived.Outline
namespace Go.Proofs.Ytcfmnlpbpihllaa
open Go.RowKit
set_option linter.unusedVariables false
set_option linter.unusedSimpArgs false
structure InR (a b : Int) : Prop where
  h1 : -1048576 ≤ a
  h2 : a < 1048576
  h3 : -1048576 ≤ b
  h4 : b < 1048576
theorem InR.w (a b : Int) : InR (Wv.wrapI a) (Wv.wrapI b) := ⟨(Wv.wrapI_range a).1, (Wv.wrapI_range a).2, (Wv.wrapI_range b).1, (Wv.wrapI_range b).2⟩
theorem InR.pt {a b : Int} (h : InR a b) : Pt (F a) (F b) a b := Pt.ofF h.h1 h.h2 h.h3 h.h4
theorem times_pv {a b c d : Int} (h : InR a b) (k : InR c d) : ∃ m n, InR m n ∧ m = Wv.tr a b c d ∧ n = Wv.ti a b c d ∧ ∀ (g cc : Nat) (w : World), g < w.heap.size → PtsAt w g [(F a, F b), (F c, F d)] →
    Calls Try.prog 9 #[.slice (some ⟨g, 0, none⟩) 2 cc] w fun e w' => e = .returned (.tuple #[PV m n, .int .i64 0]) ∧ Below w.heap.size w w' :=
  ⟨_, _, InR.w _ _, rfl, rfl, fun g cc w hg hc => Times_2 h.pt k.pt g cc w hg hc⟩
theorem plus_pv {a b c d : Int} (h : InR a b) (k : InR c d) : ∃ m n, InR m n ∧ m = Wv.wrapI (a + c) ∧ n = Wv.wrapI (b + d) ∧ ∀ (g cc : Nat) (w : World), g < w.heap.size → PtsAt w g [(F a, F b), (F c, F d)] →
    Calls Try.prog 10 #[.slice (some ⟨g, 0, none⟩) 2 cc] w fun e w' => e = .returned (.tuple #[PV m n, .int .i64 0]) ∧ Below w.heap.size w w' :=
  ⟨_, _, InR.w _ _, rfl, rfl, fun g cc w hg hc => Plus_2 h.pt k.pt g cc w hg hc⟩
theorem conj_pv {a b : Int} (h : InR a b) : ∃ n, InR a n ∧ n = Wv.wrapI (-b) ∧ ∀ (w : World),
    Calls Try.prog 11 #[PV a b] w fun e w' => e = .returned (.tuple #[PV a n, .int .i64 0]) ∧ Below w.heap.size w w' :=
  ⟨_, ⟨h.h1, h.h2, (Wv.wrapI_range _).1, (Wv.wrapI_range _).2⟩, rfl, fun w => Conj_point h.pt w⟩
theorem comp_pv {a b c d : Int} (h : InR a b) (k : InR c d) (e1 : a = c) (e2 : b = d) (w : World) :
    Calls Try.prog 6 #[PV a b, PV c d] w fun e w' => e = .returned (.tuple #[.int .i64 0, .int .i64 0]) ∧ Below w.heap.size w w' := by
  have := Compare_point h.pt k.pt w
  subst e1 e2
  rwa [cmpPt_self] at this
theorem AtPt.below {w w1 : World} {g x y : Nat} (h : AtPt w g x y) (hb : Below w.heap.size w w1) : AtPt w1 g x y := by
  obtain ⟨hg, a, b, c, d, e⟩ := h
  exact ⟨Nat.lt_of_lt_of_le hg hb.size, (hb.cell hg).trans a, (hb.cell hg).trans b, (hb.cell hg).trans c, (hb.cell hg).trans d, (hb.cell hg).trans e⟩
theorem AtPt.new (w : World) (x y : Nat) : AtPt (w.alloc (.cells (ptCells x y) 26)) w.heap.size x y :=
  ⟨(Blk.new w _ _).lt, (Blk.new w (ptCells x y) 26).cell 0, (Blk.new w (ptCells x y) 26).cell 1, (Blk.new w (ptCells x y) 26).cell 2, (Blk.new w (ptCells x y) 26).cell 3, (Blk.new w (ptCells x y) 26).cell 4⟩
theorem newAt {w : World} {n : Nat} {cs : Array Value} {t : TypeId} (h : n = w.heap.size) : Blk (w.alloc (.cells cs t)) n cs t := by subst h; exact Blk.new w cs t
theorem tmpOf {a : Act} {t : Nat} {v : Value} (h : a.eval (.tmp t) = v) : a.tmps[t]?.getD undef = v := by
  rw [← h]
  simp [Act.eval, Array.getD_eq_getD_getElem?]
theorem getDf {l : Array Bool} {i : Nat} (h : l.getD i true = false) (hs : l.size = 21) (hi : i < 21) : l.getD i false = false := by
  have : i < l.size := by omega
  simpa [this] using h
set_option maxRecDepth 100000 in
set_option maxHeartbeats 8000000 in
theorem ValueRing_any (a0 a1 b0 b1 c0 c1 : Int) (w : World) (ha0 : -9223372036854775808 ≤ a0 ∧ a0 ≤ 9223372036854775807) (ha1 : -9223372036854775808 ≤ a1 ∧ a1 ≤ 9223372036854775807)
    (hb0 : -9223372036854775808 ≤ b0 ∧ b0 ≤ 9223372036854775807) (hb1 : -9223372036854775808 ≤ b1 ∧ b1 ≤ 9223372036854775807) (hc0 : -9223372036854775808 ≤ c0 ∧ c0 ≤ 9223372036854775807) (hc1 : -9223372036854775808 ≤ c1 ∧ c1 ≤ 9223372036854775807) :
    Calls Try.prog 4 #[.agg #[.int .i64 a0, .int .i64 a1], .agg #[.int .i64 b0, .int .i64 b1], .agg #[.int .i64 c0, .int .i64 c1]] w fun e w' => e = .returned (.bool true) ∧ Below w.heap.size w w' := by
  go_enter Try.func4, Try.ntmps4
  go_wp2_with fail
  have B1 := ((Blk.new w #[.int .i64 a0, .int .i64 a1] 22).alloc (o := .cells #[.int .i64 b0, .int .i64 b1] 22)).alloc (o := .cells #[.int .i64 c0, .int .i64 c1] 22)
  have B2 := (Blk.new (w.alloc (.cells #[.int .i64 a0, .int .i64 a1] 22)) #[.int .i64 b0, .int .i64 b1] 22).alloc (o := .cells #[.int .i64 c0, .int .i64 c1] 22)
  have B3 := Blk.new ((w.alloc (.cells #[.int .i64 a0, .int .i64 a1] 22)).alloc (.cells #[.int .i64 b0, .int .i64 b1] 22)) #[.int .i64 c0, .int .i64 c1] 22
  have HB : Below w.heap.size w (((w.alloc (.cells #[.int .i64 a0, .int .i64 a1] 22)).alloc (.cells #[.int .i64 b0, .int .i64 b1] 22)).alloc (.cells #[.int .i64 c0, .int .i64 c1] 22)) := bl_alloc (bl_alloc (bl_alloc (Below.refl _ _)))
  simp only [World.size_alloc] at B1 B2 B3
  generalize (((w.alloc (.cells #[.int .i64 a0, .int .i64 a1] 22)).alloc (.cells #[.int .i64 b0, .int .i64 b1] 22)).alloc (.cells #[.int .i64 c0, .int .i64 c1] 22)) = W at *
  have L : ∀ wx, Below W.heap.size W wx → wx.cell? ⟨w.heap.size, 0, none⟩ = some (.int .i64 a0) ∧ wx.cell? ⟨w.heap.size, 1, none⟩ = some (.int .i64 a1) ∧ wx.cell? ⟨w.heap.size + 1, 0, none⟩ = some (.int .i64 b0) ∧ wx.cell? ⟨w.heap.size + 1, 1, none⟩ = some (.int .i64 b1) ∧ wx.cell? ⟨w.heap.size + 1 + 1, 0, none⟩ = some (.int .i64 c0) ∧ wx.cell? ⟨w.heap.size + 1 + 1, 1, none⟩ = some (.int .i64 c1) := fun wx h =>
    ⟨(h.cell (p := ⟨w.heap.size, 0, none⟩) B1.lt).trans (B1.cell 0), (h.cell (p := ⟨w.heap.size, 1, none⟩) B1.lt).trans (B1.cell 1), (h.cell (p := ⟨w.heap.size + 1, 0, none⟩) B2.lt).trans (B2.cell 0), (h.cell (p := ⟨w.heap.size + 1, 1, none⟩) B2.lt).trans (B2.cell 1), (h.cell (p := ⟨w.heap.size + 1 + 1, 0, none⟩) B3.lt).trans (B3.cell 0), (h.cell (p := ⟨w.heap.size + 1 + 1, 1, none⟩) B3.lt).trans (B3.cell 1)⟩
  have HL := Lib.hid L
  clear L
  go_cut [7, 8, 9] (fun s7 s8 s9 wx => ∃ p q r : Nat, s7 = .pointer (some ⟨p, 0, none⟩) ∧ s8 = .pointer (some ⟨q, 0, none⟩) ∧ s9 = .pointer (some ⟨r, 0, none⟩) ∧ AtPt wx p (F (Wv.wrapI a0)) (F (Wv.wrapI a1)) ∧ AtPt wx q (F (Wv.wrapI b0)) (F (Wv.wrapI b1)) ∧ AtPt wx r (F (Wv.wrapI c0)) (F (Wv.wrapI c1)) ∧ Below W.heap.size W wx)
  case first =>
    refine wp_region_held (S := fun wx => Below W.heap.size W wx) (by kernel_rfl) ?_
    refine wpAnyH_take (i := 0) (v := .pointer (some ⟨w.heap.size, 0, none⟩)) rfl (by kernel_rfl) (by kernel_rfl) (by kernel_rfl) (fun _ _ _ h => h) (.inl ⟨by kernel_rfl, fun wx hS => by go_simp⟩) ⟨rfl, rfl, rfl, Nat.le_refl _, fun _ _ => rfl⟩ ?_
    refine wpAnyH_take (i := 1) (v := .int .i64 a0) rfl (by kernel_rfl) (by kernel_rfl) (by kernel_rfl) (fun _ _ _ h => h) (.inl ⟨by kernel_rfl, fun wx hS => by obtain ⟨h0, h1, h2, h3, h4, h5⟩ := HL.out wx hS; go_simp⟩) ⟨rfl, rfl, rfl, Nat.le_refl _, fun _ _ => rfl⟩ ?_
    refine wpAnyH_take (i := 2) (v := .pointer (some ⟨w.heap.size, 1, none⟩)) rfl (by kernel_rfl) (by kernel_rfl) (by kernel_rfl) (fun _ _ _ h => h) (.inl ⟨by kernel_rfl, fun wx hS => by go_simp⟩) ⟨rfl, rfl, rfl, Nat.le_refl _, fun _ _ => rfl⟩ ?_
    refine wpAnyH_take (i := 3) (v := .int .i64 a1) rfl (by kernel_rfl) (by kernel_rfl) (by kernel_rfl) (fun _ _ _ h => h) (.inl ⟨by kernel_rfl, fun wx hS => by obtain ⟨h0, h1, h2, h3, h4, h5⟩ := HL.out wx hS; go_simp⟩) ⟨rfl, rfl, rfl, Nat.le_refl _, fun _ _ => rfl⟩ ?_
    refine wpAnyH_take (i := 5) (v := .pointer (some ⟨w.heap.size + 1, 0, none⟩)) rfl (by kernel_rfl) (by kernel_rfl) (by kernel_rfl) (fun _ _ _ h => h) (.inl ⟨by kernel_rfl, fun wx hS => by go_simp⟩) ⟨rfl, rfl, rfl, Nat.le_refl _, fun _ _ => rfl⟩ ?_
    refine wpAnyH_take (i := 6) (v := .int .i64 b0) rfl (by kernel_rfl) (by kernel_rfl) (by kernel_rfl) (fun _ _ _ h => h) (.inl ⟨by kernel_rfl, fun wx hS => by obtain ⟨h0, h1, h2, h3, h4, h5⟩ := HL.out wx hS; go_simp⟩) ⟨rfl, rfl, rfl, Nat.le_refl _, fun _ _ => rfl⟩ ?_
    refine wpAnyH_take (i := 7) (v := .pointer (some ⟨w.heap.size + 1, 1, none⟩)) rfl (by kernel_rfl) (by kernel_rfl) (by kernel_rfl) (fun _ _ _ h => h) (.inl ⟨by kernel_rfl, fun wx hS => by go_simp⟩) ⟨rfl, rfl, rfl, Nat.le_refl _, fun _ _ => rfl⟩ ?_
    refine wpAnyH_take (i := 8) (v := .int .i64 b1) rfl (by kernel_rfl) (by kernel_rfl) (by kernel_rfl) (fun _ _ _ h => h) (.inl ⟨by kernel_rfl, fun wx hS => by obtain ⟨h0, h1, h2, h3, h4, h5⟩ := HL.out wx hS; go_simp⟩) ⟨rfl, rfl, rfl, Nat.le_refl _, fun _ _ => rfl⟩ ?_
    refine wpAnyH_take (i := 10) (v := .pointer (some ⟨w.heap.size + 1 + 1, 0, none⟩)) rfl (by kernel_rfl) (by kernel_rfl) (by kernel_rfl) (fun _ _ _ h => h) (.inl ⟨by kernel_rfl, fun wx hS => by go_simp⟩) ⟨rfl, rfl, rfl, Nat.le_refl _, fun _ _ => rfl⟩ ?_
    refine wpAnyH_take (i := 11) (v := .int .i64 c0) rfl (by kernel_rfl) (by kernel_rfl) (by kernel_rfl) (fun _ _ _ h => h) (.inl ⟨by kernel_rfl, fun wx hS => by obtain ⟨h0, h1, h2, h3, h4, h5⟩ := HL.out wx hS; go_simp⟩) ⟨rfl, rfl, rfl, Nat.le_refl _, fun _ _ => rfl⟩ ?_
    refine wpAnyH_take (i := 12) (v := .pointer (some ⟨w.heap.size + 1 + 1, 1, none⟩)) rfl (by kernel_rfl) (by kernel_rfl) (by kernel_rfl) (fun _ _ _ h => h) (.inl ⟨by kernel_rfl, fun wx hS => by go_simp⟩) ⟨rfl, rfl, rfl, Nat.le_refl _, fun _ _ => rfl⟩ ?_
    refine wpAnyH_take (i := 13) (v := .int .i64 c1) rfl (by kernel_rfl) (by kernel_rfl) (by kernel_rfl) (fun _ _ _ h => h) (.inl ⟨by kernel_rfl, fun wx hS => by obtain ⟨h0, h1, h2, h3, h4, h5⟩ := HL.out wx hS; go_simp⟩) ⟨rfl, rfl, rfl, Nat.le_refl _, fun _ _ => rfl⟩ ?_
    generalize hT : Act.put _ _ _ = T
    have e43 : T.eval (.tmp 43) = .int .i64 a0 := by subst hT; kernel_rfl
    have e45 : T.eval (.tmp 45) = .int .i64 a1 := by subst hT; kernel_rfl
    have e48 : T.eval (.tmp 48) = .int .i64 b0 := by subst hT; kernel_rfl
    have e50 : T.eval (.tmp 50) = .int .i64 b1 := by subst hT; kernel_rfl
    have e53 : T.eval (.tmp 53) = .int .i64 c0 := by subst hT; kernel_rfl
    have e55 : T.eval (.tmp 55) = .int .i64 c1 := by subst hT; kernel_rfl
    have hTs : T.tmps.size = 184 := by subst hT; kernel_rfl
    have hT0 : T = ringAct T undef undef undef undef undef undef := by subst hT; kernel_rfl
    refine anyH_inv (RI W T (Wv.wrapI a0) (Wv.wrapI a1) (Wv.wrapI b0) (Wv.wrapI b1) (Wv.wrapI c0) (Wv.wrapI c1)) ?_ ?_ _ _ _ _ (by decide) ?_
    · intro listed a w1 i o ⟨u1, u2, u3, v1, v2, v3, ha, hI⟩ ho h1 hdep
      have hi : i < 21 := by
        have := (Array.getElem?_eq_some_iff.1 ho).1
        simpa using this
      have hnt : ∀ j ∈ [0, 1, 2, 3, 5, 6, 7, 8, 10, 11, 12, 13], i ≠ j := fun j hj hij => by
        have := hI.taken j hj
        rw [← hij, getDf h1 hI.size hi] at this
        cases this
      have hcase : i = 4 ∨ i = 9 ∨ i = 14 ∨ i = 15 ∨ i = 16 ∨ i = 17 ∨ i = 18 ∨ i = 19 ∨ i = 20 := by
        simp only [List.mem_cons, List.not_mem_nil, or_false, forall_eq_or_imp, forall_eq] at hnt
        omega
      have HA := Lib.hid ha
      clear hnt ho hT0 HL ha
      rcases hcase with rfl | rfl | rfl | rfl | rfl | rfl | rfl | rfl | rfl
      · have e1 : a.tmps[43]?.getD undef = .int .i64 a0 := tmpOf (by rw [HA.out, re_old _ _ _ _ _ _ _ _ (by decide)]; exact e43)
        have e2 : a.tmps[45]?.getD undef = .int .i64 a1 := tmpOf (by rw [HA.out, re_old _ _ _ _ _ _ _ _ (by decide)]; exact e45)
        refine wpOp_of rfl rfl ?_
        go_simp
        refine (Point_any a0 a1 _ ha0.1 ha0.2 ha1.1 ha1.2).mono ?_
        rintro e w' ⟨rfl, hb⟩
        exact ⟨bl_call hI.below hb, _, _, _, _, _, _, by rw [HA.out]; exact ra1 _ _ _ _ _ _ _ _, hI.call1 hb⟩
      · have e1 : a.tmps[48]?.getD undef = .int .i64 b0 := tmpOf (by rw [HA.out, re_old _ _ _ _ _ _ _ _ (by decide)]; exact e48)
        have e2 : a.tmps[50]?.getD undef = .int .i64 b1 := tmpOf (by rw [HA.out, re_old _ _ _ _ _ _ _ _ (by decide)]; exact e50)
        refine wpOp_of rfl rfl ?_
        go_simp
        refine (Point_any b0 b1 _ hb0.1 hb0.2 hb1.1 hb1.2).mono ?_
        rintro e w' ⟨rfl, hb⟩
        exact ⟨bl_call hI.below hb, _, _, _, _, _, _, by rw [HA.out]; exact ra2 _ _ _ _ _ _ _ _, hI.call2 hb⟩
      · have e1 : a.tmps[53]?.getD undef = .int .i64 c0 := tmpOf (by rw [HA.out, re_old _ _ _ _ _ _ _ _ (by decide)]; exact e53)
        have e2 : a.tmps[55]?.getD undef = .int .i64 c1 := tmpOf (by rw [HA.out, re_old _ _ _ _ _ _ _ _ (by decide)]; exact e55)
        refine wpOp_of rfl rfl ?_
        go_simp
        refine (Point_any c0 c1 _ hc0.1 hc0.2 hc1.1 hc1.2).mono ?_
        rintro e w' ⟨rfl, hb⟩
        exact ⟨bl_call hI.below hb, _, _, _, _, _, _, by rw [HA.out]; exact ra3 _ _ _ _ _ _ _ _, hI.call3 hb⟩
      · refine wpOp_of rfl rfl ?_
        go_simp
        exact ⟨bl_alloc hI.below, _, _, _, _, _, _, by rw [HA.out]; exact ra4 _ _ _ _ _ _ _ _, hI.alloc1 (getDf h1 hI.size (by decide))⟩
      · refine wpOp_of rfl rfl ?_
        go_simp
        exact ⟨bl_alloc hI.below, _, _, _, _, _, _, by rw [HA.out]; exact ra5 _ _ _ _ _ _ _ _, hI.alloc2 (getDf h1 hI.size (by decide))⟩
      · refine wpOp_of rfl rfl ?_
        go_simp
        exact ⟨bl_alloc hI.below, _, _, _, _, _, _, by rw [HA.out]; exact ra6 _ _ _ _ _ _ _ _, hI.alloc3 (getDf h1 hI.size (by decide))⟩
      · have l1 := hdep 15 (by kernel_rfl)
        have l2 := hdep 4 (by kernel_rfl)
        have lf := getDf h1 hI.size (by decide)
        obtain ⟨p, ep, hp, hB⟩ := hI.t1.2 l1
        rw [if_neg (by rw [lf]; decide)] at hB
        have eu := hI.k1 l2
        have e1 : a.tmps[7]?.getD undef = .pointer (some ⟨p, 0, none⟩) := tmpOf (by rw [HA.out, re4 _ _ _ _ _ _ _ hTs]; exact ep)
        have e2 : a.tmps[46]?.getD undef = PV (Wv.wrapI a0) (Wv.wrapI a1) := tmpOf (by rw [HA.out, re1 _ _ _ _ _ _ _ hTs]; exact eu)
        have hcl := hB.cell
        have hfr := hB.free
        refine wpOp_of rfl rfl ?_
        have hfin : Below W.heap.size W (setPt w1 p (F (Wv.wrapI a0)) (F (Wv.wrapI a1))) ∧ RI W T (Wv.wrapI a0) (Wv.wrapI a1) (Wv.wrapI b0) (Wv.wrapI b1) (Wv.wrapI c0) (Wv.wrapI c1) (listed.setIfInBounds 18 true) a (setPt w1 p (F (Wv.wrapI a0)) (F (Wv.wrapI a1))) := ⟨setPt_below hI.below hp, _, _, _, _, _, _, HA.out, by subst ep; exact hI.store1 l1 lf hp⟩
        have HF := Lib.hid hfin
        clear hfin hI eu ep
        go_simp
        exact HF.out
      · have l1 := hdep 16 (by kernel_rfl)
        have l2 := hdep 9 (by kernel_rfl)
        have lf := getDf h1 hI.size (by decide)
        obtain ⟨p, ep, hp, hB⟩ := hI.t2.2 l1
        rw [if_neg (by rw [lf]; decide)] at hB
        have eu := hI.k2 l2
        have e1 : a.tmps[8]?.getD undef = .pointer (some ⟨p, 0, none⟩) := tmpOf (by rw [HA.out, re5 _ _ _ _ _ _ _ hTs]; exact ep)
        have e2 : a.tmps[51]?.getD undef = PV (Wv.wrapI b0) (Wv.wrapI b1) := tmpOf (by rw [HA.out, re2 _ _ _ _ _ _ _ hTs]; exact eu)
        have hcl := hB.cell
        have hfr := hB.free
        refine wpOp_of rfl rfl ?_
        have hfin : Below W.heap.size W (setPt w1 p (F (Wv.wrapI b0)) (F (Wv.wrapI b1))) ∧ RI W T (Wv.wrapI a0) (Wv.wrapI a1) (Wv.wrapI b0) (Wv.wrapI b1) (Wv.wrapI c0) (Wv.wrapI c1) (listed.setIfInBounds 19 true) a (setPt w1 p (F (Wv.wrapI b0)) (F (Wv.wrapI b1))) := ⟨setPt_below hI.below hp, _, _, _, _, _, _, HA.out, by subst ep; exact hI.store2 l1 lf hp⟩
        have HF := Lib.hid hfin
        clear hfin hI eu ep
        go_simp
        exact HF.out
      · have l1 := hdep 17 (by kernel_rfl)
        have l2 := hdep 14 (by kernel_rfl)
        have lf := getDf h1 hI.size (by decide)
        obtain ⟨p, ep, hp, hB⟩ := hI.t3.2 l1
        rw [if_neg (by rw [lf]; decide)] at hB
        have eu := hI.k3 l2
        have e1 : a.tmps[9]?.getD undef = .pointer (some ⟨p, 0, none⟩) := tmpOf (by rw [HA.out, re6 _ _ _ _ _ _ _ hTs]; exact ep)
        have e2 : a.tmps[56]?.getD undef = PV (Wv.wrapI c0) (Wv.wrapI c1) := tmpOf (by rw [HA.out, re3 _ _ _ _ _ _ _ hTs]; exact eu)
        have hcl := hB.cell
        have hfr := hB.free
        refine wpOp_of rfl rfl ?_
        have hfin : Below W.heap.size W (setPt w1 p (F (Wv.wrapI c0)) (F (Wv.wrapI c1))) ∧ RI W T (Wv.wrapI a0) (Wv.wrapI a1) (Wv.wrapI b0) (Wv.wrapI b1) (Wv.wrapI c0) (Wv.wrapI c1) (listed.setIfInBounds 20 true) a (setPt w1 p (F (Wv.wrapI c0)) (F (Wv.wrapI c1))) := ⟨setPt_below hI.below hp, _, _, _, _, _, _, HA.out, by subst ep; exact hI.store3 l1 lf hp⟩
        have HF := Lib.hid hfin
        clear hfin hI eu ep
        go_simp
        exact HF.out
    · intro listed a w1 ⟨u1, u2, u3, v1, v2, v3, ha, hI⟩ hr
      have hall := all_listed (by kernel_rfl) (by rw [hI.size]; rfl) hr
      obtain ⟨p, ep, hp⟩ := hI.t1.pt (hall 18 (by decide))
      obtain ⟨q, eq, hq⟩ := hI.t2.pt (hall 19 (by decide))
      obtain ⟨r, er, hr'⟩ := hI.t3.pt (hall 20 (by decide))
      subst ep eq er
      have hbelow := hI.below
      rw [ha, ← hT]
      clear hI ha hall hr hT0 hTs e43 e45 e48 e50 e53 e55 hT HL
      unfold ringAct
      go_simp
      go_wp2_with fail
      go_meet
      exact ⟨p, q, r, rfl, rfl, rfl, hp, hq, hr', hbelow⟩
    · exact ⟨undef, undef, undef, undef, undef, undef, hT0, { size := by decide, taken := by decide, below := ⟨rfl, rfl, rfl, Nat.le_refl _, fun _ _ => rfl⟩, k1 := fun h => (by cases h), k2 := fun h => (by cases h), k3 := fun h => (by cases h), t1 := ⟨fun h => (by cases h), fun h => (by cases h)⟩, t2 := ⟨fun h => (by cases h), fun h => (by cases h)⟩, t3 := ⟨fun h => (by cases h), fun h => (by cases h)⟩, d12 := fun h => (by cases h), d13 := fun h => (by cases h), d23 := fun h => (by cases h) }⟩
  case rest =>
    obtain ⟨p, q, r, rfl, rfl, rfl, Ax, Ay, Az, hbW⟩ := hcut
    have Rx := InR.w a0 a1
    have Ry := InR.w b0 b1
    have Rz := InR.w c0 c1
    have hbl := Lib.hid (HB.trans (hbW.mono HB.size))
    clear HB hbW HL B1 B2 B3 ha0 ha1 hb0 hb1 hc0 hc1
    generalize Wv.wrapI a0 = a at *
    generalize Wv.wrapI a1 = b at *
    generalize Wv.wrapI b0 = c at *
    generalize Wv.wrapI b1 = d at *
    generalize Wv.wrapI c0 = e at *
    generalize Wv.wrapI c1 = f at *
    obtain ⟨m0, n0, Rxy, q0, s0, cxy⟩ := times_pv Rx Ry
    have Cxy := Lib.hid cxy
    clear cxy
    obtain ⟨m1, n1, Ryx, q1, s1, cyx⟩ := times_pv Ry Rx
    have Cyx := Lib.hid cyx
    clear cyx
    obtain ⟨m2, n2, Rleft, q2, s2, cleft⟩ := times_pv Rxy Rz
    have Cleft := Lib.hid cleft
    clear cleft
    obtain ⟨m3, n3, Ryz, q3, s3, cyz⟩ := times_pv Ry Rz
    have Cyz := Lib.hid cyz
    clear cyz
    obtain ⟨m4, n4, Rright, q4, s4, cright⟩ := times_pv Rx Ryz
    have Cright := Lib.hid cright
    clear cright
    obtain ⟨m5, n5, Rsum, q5, s5, csum⟩ := plus_pv Ry Rz
    have Csum := Lib.hid csum
    clear csum
    obtain ⟨m6, n6, Rover, q6, s6, cover⟩ := times_pv Rx Rsum
    have Cover := Lib.hid cover
    clear cover
    obtain ⟨m7, n7, Rxz, q7, s7, cxz⟩ := times_pv Rx Rz
    have Cxz := Lib.hid cxz
    clear cxz
    obtain ⟨m8, n8, Rapart, q8, s8, capart⟩ := plus_pv Rxy Rxz
    have Capart := Lib.hid capart
    clear capart
    obtain ⟨n9, Rcx, s9, ccx⟩ := conj_pv Rx
    have Ccx := Lib.hid ccx
    clear ccx
    obtain ⟨n10, Rcy, s10, ccy⟩ := conj_pv Ry
    have Ccy := Lib.hid ccy
    clear ccy
    obtain ⟨n11, Rturned, s11, cturned⟩ := conj_pv Rxy
    have Cturned := Lib.hid cturned
    clear cturned
    obtain ⟨m12, n12, Rboth, q12, s12, cboth⟩ := times_pv Rcx Rcy
    have Cboth := Lib.hid cboth
    clear cboth
    obtain ⟨n13, Ragain, s13, cagain⟩ := conj_pv Rcx
    have Cagain := Lib.hid cagain
    clear cagain
    have g01 : m0 = m1 := by rw [q0, q1, Wv.tr_comm]
    have g02 : n0 = n1 := by rw [s0, s1, Wv.ti_comm]
    have G0 := Lib.hid (comp_pv Rxy Ryx g01 g02)
    have g11 : m2 = m4 := by rw [q2, q4, q0, s0, q3, s3, Wv.tr_assoc]
    have g12 : n2 = n4 := by rw [s2, s4, q0, s0, q3, s3, Wv.ti_assoc]
    have G1 := Lib.hid (comp_pv Rleft Rright g11 g12)
    have g21 : m6 = m8 := by rw [q6, q5, s5, q8, q0, q7, Wv.tr_over]
    have g22 : n6 = n8 := by rw [s6, q5, s5, s8, s0, s7, Wv.ti_over]
    have G2 := Lib.hid (comp_pv Rover Rapart g21 g22)
    have g31 : m0 = m12 := by rw [q0, q12, s9, s10, ← Wv.tr_conj]
    have g32 : n11 = n12 := by rw [s11, s0, s12, s9, s10, ← Wv.ti_conj]
    have G3 := Lib.hid (comp_pv Rturned Rboth g31 g32)
    have g41 : a = a := rfl
    have g42 : n13 = b := by rw [s13, s9]; exact Wv.conj_again Rx.h3 Rx.h4
    have G4 := Lib.hid (comp_pv Ragain Rx g41 g42)
    clear g01 g02 g11 g12 g21 g22 g31 g32 g41 g42 s0 s1 s2 s3 s4 s5 s6 s7 s8 s9 s10 s11 s12 s13 q0 q1 q2 q3 q4 q5 q6 q7 q8 q12 Rx Ry Rz Rxy Ryx Rleft Ryz Rright Rsum Rover Rxz Rapart Rcx Rcy Rturned Rboth Ragain
    obtain ⟨lx, x0, x1, x2, x3, x4⟩ := id Ax
    obtain ⟨ly, y0, y1, y2, y3, y4⟩ := id Ay
    go_wp2_with fail
    refine (Cxy.out _ _ _ ?_ ?_).mono ?_
    · simp
    · exact ptsAt_two (newAt (by simp))
    rintro e0 w0 ⟨rfl, hb⟩
    clear lx x0 x1 x2 x3 x4 ly y0 y1 y2 y3 y4
    have hB := (below_new hb)
    have Ax' := Ax.below hB
    have Ay' := Ay.below hB
    have Az' := Az.below hB
    clear Ax Ay Az
    have Ax := Ax'
    clear Ax'
    have Ay := Ay'
    clear Ay'
    have Az := Az'
    clear Az'
    have hbl' := Lib.hid (bl_call hbl.out hB)
    clear hbl hB hb
    have hbl := hbl'
    clear hbl'
    obtain ⟨ly, y0, y1, y2, y3, y4⟩ := id Ay
    obtain ⟨lx, x0, x1, x2, x3, x4⟩ := id Ax
    go_wp2_with fail
    refine (Cyx.out _ _ _ ?_ ?_).mono ?_
    · simp
    · exact ptsAt_two (newAt (by simp))
    rintro e0 w1 ⟨rfl, hb⟩
    clear ly y0 y1 y2 y3 y4 lx x0 x1 x2 x3 x4
    have Axy := (AtPt.new w0 _ _).below (below_new hb)
    have hB := below_new (below_new hb)
    have Ax' := Ax.below hB
    have Ay' := Ay.below hB
    have Az' := Az.below hB
    clear Ax Ay Az
    have Ax := Ax'
    clear Ax'
    have Ay := Ay'
    clear Ay'
    have Az := Az'
    clear Az'
    have hbl' := Lib.hid (bl_call hbl.out hB)
    clear hbl hB hb
    have hbl := hbl'
    clear hbl'
    obtain ⟨lxy, xy0, xy1, xy2, xy3, xy4⟩ := id Axy
    obtain ⟨lz, z0, z1, z2, z3, z4⟩ := id Az
    go_wp2_with fail
    refine (Cleft.out _ _ _ ?_ ?_).mono ?_
    · simp
    · exact ptsAt_two (newAt (by simp))
    rintro e0 w2 ⟨rfl, hb⟩
    clear lxy xy0 xy1 xy2 xy3 xy4 lz z0 z1 z2 z3 z4
    have Ayx := (AtPt.new w1 _ _).below (below_new hb)
    have hB := below_new (below_new hb)
    have Ax' := Ax.below hB
    have Ay' := Ay.below hB
    have Az' := Az.below hB
    have Axy' := Axy.below hB
    clear Ax Ay Az Axy
    have Ax := Ax'
    clear Ax'
    have Ay := Ay'
    clear Ay'
    have Az := Az'
    clear Az'
    have Axy := Axy'
    clear Axy'
    have hbl' := Lib.hid (bl_call hbl.out hB)
    clear hbl hB hb
    have hbl := hbl'
    clear hbl'
    obtain ⟨ly, y0, y1, y2, y3, y4⟩ := id Ay
    obtain ⟨lz, z0, z1, z2, z3, z4⟩ := id Az
    go_wp2_with fail
    refine (Cyz.out _ _ _ ?_ ?_).mono ?_
    · simp
    · exact ptsAt_two (newAt (by simp))
    rintro e0 w3 ⟨rfl, hb⟩
    clear ly y0 y1 y2 y3 y4 lz z0 z1 z2 z3 z4
    have Aleft := (AtPt.new w2 _ _).below (below_new hb)
    have hB := below_new (below_new hb)
    have Ax' := Ax.below hB
    have Ay' := Ay.below hB
    have Az' := Az.below hB
    have Axy' := Axy.below hB
    have Ayx' := Ayx.below hB
    clear Ax Ay Az Axy Ayx
    have Ax := Ax'
    clear Ax'
    have Ay := Ay'
    clear Ay'
    have Az := Az'
    clear Az'
    have Axy := Axy'
    clear Axy'
    have Ayx := Ayx'
    clear Ayx'
    have hbl' := Lib.hid (bl_call hbl.out hB)
    clear hbl hB hb
    have hbl := hbl'
    clear hbl'
    obtain ⟨lx, x0, x1, x2, x3, x4⟩ := id Ax
    go_wp2_with fail
    refine (Cright.out _ _ _ ?_ ?_).mono ?_
    · simp
    · exact ptsAt_two (newAt (by simp))
    rintro e0 w4 ⟨rfl, hb⟩
    clear lx x0 x1 x2 x3 x4
    have Ayz := (AtPt.new w3 _ _).below (below_new hb)
    have hB := below_new (below_new hb)
    have Ax' := Ax.below hB
    have Ay' := Ay.below hB
    have Az' := Az.below hB
    have Axy' := Axy.below hB
    have Ayx' := Ayx.below hB
    have Aleft' := Aleft.below hB
    clear Ax Ay Az Axy Ayx Aleft
    have Ax := Ax'
    clear Ax'
    have Ay := Ay'
    clear Ay'
    have Az := Az'
    clear Az'
    have Axy := Axy'
    clear Axy'
    have Ayx := Ayx'
    clear Ayx'
    have Aleft := Aleft'
    clear Aleft'
    clear Ayz
    have hbl' := Lib.hid (bl_call hbl.out hB)
    clear hbl hB hb
    have hbl := hbl'
    clear hbl'
    obtain ⟨ly, y0, y1, y2, y3, y4⟩ := id Ay
    obtain ⟨lz, z0, z1, z2, z3, z4⟩ := id Az
    go_wp2_with fail
    refine (Csum.out _ _ _ ?_ ?_).mono ?_
    · simp
    · exact ptsAt_two (newAt (by simp))
    rintro e0 w5 ⟨rfl, hb⟩
    clear ly y0 y1 y2 y3 y4 lz z0 z1 z2 z3 z4
    have Aright := (AtPt.new w4 _ _).below (below_new hb)
    have hB := below_new (below_new hb)
    have Ax' := Ax.below hB
    have Ay' := Ay.below hB
    have Az' := Az.below hB
    have Axy' := Axy.below hB
    have Ayx' := Ayx.below hB
    have Aleft' := Aleft.below hB
    clear Ax Ay Az Axy Ayx Aleft
    have Ax := Ax'
    clear Ax'
    have Ay := Ay'
    clear Ay'
    have Az := Az'
    clear Az'
    have Axy := Axy'
    clear Axy'
    have Ayx := Ayx'
    clear Ayx'
    have Aleft := Aleft'
    clear Aleft'
    have hbl' := Lib.hid (bl_call hbl.out hB)
    clear hbl hB hb
    have hbl := hbl'
    clear hbl'
    obtain ⟨lx, x0, x1, x2, x3, x4⟩ := id Ax
    go_wp2_with fail
    refine (Cover.out _ _ _ ?_ ?_).mono ?_
    · simp
    · exact ptsAt_two (newAt (by simp))
    rintro e0 w6 ⟨rfl, hb⟩
    clear lx x0 x1 x2 x3 x4
    have Asum := (AtPt.new w5 _ _).below (below_new hb)
    have hB := below_new (below_new hb)
    have Ax' := Ax.below hB
    have Ay' := Ay.below hB
    have Az' := Az.below hB
    have Axy' := Axy.below hB
    have Ayx' := Ayx.below hB
    have Aleft' := Aleft.below hB
    have Aright' := Aright.below hB
    clear Ax Ay Az Axy Ayx Aleft Aright
    have Ax := Ax'
    clear Ax'
    have Ay := Ay'
    clear Ay'
    have Az := Az'
    clear Az'
    have Axy := Axy'
    clear Axy'
    have Ayx := Ayx'
    clear Ayx'
    have Aleft := Aleft'
    clear Aleft'
    have Aright := Aright'
    clear Aright'
    clear Asum
    have hbl' := Lib.hid (bl_call hbl.out hB)
    clear hbl hB hb
    have hbl := hbl'
    clear hbl'
    obtain ⟨lx, x0, x1, x2, x3, x4⟩ := id Ax
    obtain ⟨lz, z0, z1, z2, z3, z4⟩ := id Az
    go_wp2_with fail
    refine (Cxz.out _ _ _ ?_ ?_).mono ?_
    · simp
    · exact ptsAt_two (newAt (by simp))
    rintro e0 w7 ⟨rfl, hb⟩
    clear lx x0 x1 x2 x3 x4 lz z0 z1 z2 z3 z4
    have Aover := (AtPt.new w6 _ _).below (below_new hb)
    have hB := below_new (below_new hb)
    have Ax' := Ax.below hB
    have Ay' := Ay.below hB
    have Axy' := Axy.below hB
    have Ayx' := Ayx.below hB
    have Aleft' := Aleft.below hB
    have Aright' := Aright.below hB
    clear Ax Ay Az Axy Ayx Aleft Aright
    have Ax := Ax'
    clear Ax'
    have Ay := Ay'
    clear Ay'
    have Axy := Axy'
    clear Axy'
    have Ayx := Ayx'
    clear Ayx'
    have Aleft := Aleft'
    clear Aleft'
    have Aright := Aright'
    clear Aright'
    have hbl' := Lib.hid (bl_call hbl.out hB)
    clear hbl hB hb
    have hbl := hbl'
    clear hbl'
    obtain ⟨lxy, xy0, xy1, xy2, xy3, xy4⟩ := id Axy
    go_wp2_with fail
    refine (Capart.out _ _ _ ?_ ?_).mono ?_
    · simp
    · exact ptsAt_two (newAt (by simp))
    rintro e0 w8 ⟨rfl, hb⟩
    clear lxy xy0 xy1 xy2 xy3 xy4
    have Axz := (AtPt.new w7 _ _).below (below_new hb)
    have hB := below_new (below_new hb)
    have Ax' := Ax.below hB
    have Ay' := Ay.below hB
    have Axy' := Axy.below hB
    have Ayx' := Ayx.below hB
    have Aleft' := Aleft.below hB
    have Aright' := Aright.below hB
    have Aover' := Aover.below hB
    clear Ax Ay Axy Ayx Aleft Aright Aover
    have Ax := Ax'
    clear Ax'
    have Ay := Ay'
    clear Ay'
    have Axy := Axy'
    clear Axy'
    have Ayx := Ayx'
    clear Ayx'
    have Aleft := Aleft'
    clear Aleft'
    have Aright := Aright'
    clear Aright'
    have Aover := Aover'
    clear Aover'
    clear Axz
    have hbl' := Lib.hid (bl_call hbl.out hB)
    clear hbl hB hb
    have hbl := hbl'
    clear hbl'
    obtain ⟨lx, x0, x1, x2, x3, x4⟩ := id Ax
    go_wp2_with fail
    refine (Ccx.out _).mono ?_
    rintro e0 w9 ⟨rfl, hb⟩
    clear lx x0 x1 x2 x3 x4
    have Aapart := (AtPt.new w8 _ _).below hb
    have hB := below_new hb
    have Ax' := Ax.below hB
    have Ay' := Ay.below hB
    have Axy' := Axy.below hB
    have Ayx' := Ayx.below hB
    have Aleft' := Aleft.below hB
    have Aright' := Aright.below hB
    have Aover' := Aover.below hB
    clear Ax Ay Axy Ayx Aleft Aright Aover
    have Ax := Ax'
    clear Ax'
    have Ay := Ay'
    clear Ay'
    have Axy := Axy'
    clear Axy'
    have Ayx := Ayx'
    clear Ayx'
    have Aleft := Aleft'
    clear Aleft'
    have Aright := Aright'
    clear Aright'
    have Aover := Aover'
    clear Aover'
    have hbl' := Lib.hid (bl_call hbl.out hB)
    clear hbl hB hb
    have hbl := hbl'
    clear hbl'
    obtain ⟨ly, y0, y1, y2, y3, y4⟩ := id Ay
    go_wp2_with fail
    refine (Ccy.out _).mono ?_
    rintro e0 w10 ⟨rfl, hb⟩
    clear ly y0 y1 y2 y3 y4
    have Acx := (AtPt.new w9 _ _).below hb
    have hB := below_new hb
    have Ax' := Ax.below hB
    have Axy' := Axy.below hB
    have Ayx' := Ayx.below hB
    have Aleft' := Aleft.below hB
    have Aright' := Aright.below hB
    have Aover' := Aover.below hB
    have Aapart' := Aapart.below hB
    clear Ax Ay Axy Ayx Aleft Aright Aover Aapart
    have Ax := Ax'
    clear Ax'
    have Axy := Axy'
    clear Axy'
    have Ayx := Ayx'
    clear Ayx'
    have Aleft := Aleft'
    clear Aleft'
    have Aright := Aright'
    clear Aright'
    have Aover := Aover'
    clear Aover'
    have Aapart := Aapart'
    clear Aapart'
    have hbl' := Lib.hid (bl_call hbl.out hB)
    clear hbl hB hb
    have hbl := hbl'
    clear hbl'
    obtain ⟨lxy, xy0, xy1, xy2, xy3, xy4⟩ := id Axy
    go_wp2_with fail
    refine (Cturned.out _).mono ?_
    rintro e0 w11 ⟨rfl, hb⟩
    clear lxy xy0 xy1 xy2 xy3 xy4
    have Acy := (AtPt.new w10 _ _).below hb
    have hB := below_new hb
    have Ax' := Ax.below hB
    have Axy' := Axy.below hB
    have Ayx' := Ayx.below hB
    have Aleft' := Aleft.below hB
    have Aright' := Aright.below hB
    have Aover' := Aover.below hB
    have Aapart' := Aapart.below hB
    have Acx' := Acx.below hB
    clear Ax Axy Ayx Aleft Aright Aover Aapart Acx
    have Ax := Ax'
    clear Ax'
    have Axy := Axy'
    clear Axy'
    have Ayx := Ayx'
    clear Ayx'
    have Aleft := Aleft'
    clear Aleft'
    have Aright := Aright'
    clear Aright'
    have Aover := Aover'
    clear Aover'
    have Aapart := Aapart'
    clear Aapart'
    have Acx := Acx'
    clear Acx'
    have hbl' := Lib.hid (bl_call hbl.out hB)
    clear hbl hB hb
    have hbl := hbl'
    clear hbl'
    obtain ⟨lcx, cx0, cx1, cx2, cx3, cx4⟩ := id Acx
    obtain ⟨lcy, cy0, cy1, cy2, cy3, cy4⟩ := id Acy
    go_wp2_with fail
    refine (Cboth.out _ _ _ ?_ ?_).mono ?_
    · simp
    · exact ptsAt_two (newAt (by simp))
    rintro e0 w12 ⟨rfl, hb⟩
    clear lcx cx0 cx1 cx2 cx3 cx4 lcy cy0 cy1 cy2 cy3 cy4
    have Aturned := (AtPt.new w11 _ _).below (below_new hb)
    have hB := below_new (below_new hb)
    have Ax' := Ax.below hB
    have Axy' := Axy.below hB
    have Ayx' := Ayx.below hB
    have Aleft' := Aleft.below hB
    have Aright' := Aright.below hB
    have Aover' := Aover.below hB
    have Aapart' := Aapart.below hB
    have Acx' := Acx.below hB
    clear Ax Axy Ayx Aleft Aright Aover Aapart Acx Acy
    have Ax := Ax'
    clear Ax'
    have Axy := Axy'
    clear Axy'
    have Ayx := Ayx'
    clear Ayx'
    have Aleft := Aleft'
    clear Aleft'
    have Aright := Aright'
    clear Aright'
    have Aover := Aover'
    clear Aover'
    have Aapart := Aapart'
    clear Aapart'
    have Acx := Acx'
    clear Acx'
    have hbl' := Lib.hid (bl_call hbl.out hB)
    clear hbl hB hb
    have hbl := hbl'
    clear hbl'
    obtain ⟨lcx, cx0, cx1, cx2, cx3, cx4⟩ := id Acx
    go_wp2_with fail
    refine (Cagain.out _).mono ?_
    rintro e0 w13 ⟨rfl, hb⟩
    clear lcx cx0 cx1 cx2 cx3 cx4
    have Aboth := (AtPt.new w12 _ _).below hb
    have hB := below_new hb
    have Ax' := Ax.below hB
    have Axy' := Axy.below hB
    have Ayx' := Ayx.below hB
    have Aleft' := Aleft.below hB
    have Aright' := Aright.below hB
    have Aover' := Aover.below hB
    have Aapart' := Aapart.below hB
    have Aturned' := Aturned.below hB
    clear Ax Axy Ayx Aleft Aright Aover Aapart Acx Aturned
    have Ax := Ax'
    clear Ax'
    have Axy := Axy'
    clear Axy'
    have Ayx := Ayx'
    clear Ayx'
    have Aleft := Aleft'
    clear Aleft'
    have Aright := Aright'
    clear Aright'
    have Aover := Aover'
    clear Aover'
    have Aapart := Aapart'
    clear Aapart'
    have Aturned := Aturned'
    clear Aturned'
    have hbl' := Lib.hid (bl_call hbl.out hB)
    clear hbl hB hb
    have hbl := hbl'
    clear hbl'
    obtain ⟨lx, x0, x1, x2, x3, x4⟩ := id Ax
    obtain ⟨lxy, xy0, xy1, xy2, xy3, xy4⟩ := id Axy
    obtain ⟨lyx, yx0, yx1, yx2, yx3, yx4⟩ := id Ayx
    obtain ⟨lleft, left0, left1, left2, left3, left4⟩ := id Aleft
    obtain ⟨lright, right0, right1, right2, right3, right4⟩ := id Aright
    obtain ⟨lover, over0, over1, over2, over3, over4⟩ := id Aover
    obtain ⟨lapart, apart0, apart1, apart2, apart3, apart4⟩ := id Aapart
    obtain ⟨lturned, turned0, turned1, turned2, turned3, turned4⟩ := id Aturned
    obtain ⟨lboth, both0, both1, both2, both3, both4⟩ := id Aboth
    go_wp2_with fail
    refine wp_loop_rounds 6 ?_
    rw [rounds_succ]
    go_wp2_with fail
    refine (G0.out _).mono ?_
    rintro e0 v0 ⟨rfl, hb⟩
    have BK0 := ((Blk.new _ _ _).alloc).below hb
    simp only [World.size_alloc] at BK0
    have hbl0 := Lib.hid (bl_call hbl.out (below_new (below_new (below_new hb))))
    clear hbl hb
    have hk := BK0.cell
    go_wp2_with fail
    rw [rounds_succ]
    go_wp2_with fail
    refine (G1.out _).mono ?_
    rintro e0 v1 ⟨rfl, hb⟩
    have BK1 := BK0.below (below_new hb)
    have hbl1 := Lib.hid (bl_call hbl0.out (below_new hb))
    clear hbl0 hb hk BK0
    have hk := BK1.cell
    go_wp2_with fail
    rw [rounds_succ]
    go_wp2_with fail
    refine (G2.out _).mono ?_
    rintro e0 v2 ⟨rfl, hb⟩
    have BK2 := BK1.below (below_new hb)
    have hbl2 := Lib.hid (bl_call hbl1.out (below_new hb))
    clear hbl1 hb hk BK1
    have hk := BK2.cell
    go_wp2_with fail
    rw [rounds_succ]
    go_wp2_with fail
    refine (G3.out _).mono ?_
    rintro e0 v3 ⟨rfl, hb⟩
    have BK3 := BK2.below (below_new hb)
    have hbl3 := Lib.hid (bl_call hbl2.out (below_new hb))
    clear hbl2 hb hk BK2
    have hk := BK3.cell
    go_wp2_with fail
    rw [rounds_succ]
    go_wp2_with fail
    refine (G4.out _).mono ?_
    rintro e0 v4 ⟨rfl, hb⟩
    have BK4 := BK3.below (below_new hb)
    have hbl4 := Lib.hid (bl_call hbl3.out (below_new hb))
    clear hbl3 hb hk BK3
    have hk := BK4.cell
    go_wp2_with fail
    rw [rounds_succ]
    go_wp2_with fail
    refine (awake_any _).mono ?_
    rintro e0 v5 ⟨rfl, hb⟩
    go_wp2_with fail
    go_ret
    exact ⟨rfl, bl_call hbl4.out hb⟩
end Go.Proofs.Ytcfmnlpbpihllaa
