/- The walks of value.Times, value.Plus, value.Conj. -/
import Derived.Test.YtcfmnlpbpihllaaVal5
import Derived.WalkKit
import Derived.WalkLawsBesides
import Derived.WalkSpells
import Derived.Lib.Hide
import Derived.Laws.ComplexArith
import Derived.Lib.Bytealg
import Derived.StillTailTactics
import Derived.Deep.DeepMust
import Derived.Deep.QuietTactic
import Derived.BigQuiet
import Derived.Outline
namespace Go.Proofs.Ytcfmnlpbpihllaa
open Go.RowKit
set_option linter.unusedVariables false
theorem mul_small {a b : Int} (h1 : -1048576 ≤ a) (h2 : a ≤ 1048576) (h3 : -1048576 ≤ b) (h4 : b ≤ 1048576) : -1099511627776 ≤ a * b ∧ a * b ≤ 1099511627776 := by
  have h : (a * b).natAbs ≤ 1048576 * 1048576 := by
    rw [Int.natAbs_mul]
    exact Nat.mul_le_mul (by omega) (by omega)
  generalize a * b = c at *
  omega
theorem fbits_mul {x y : Nat} {a b : Int} (hx : Wfl.FInt x a) (hy : Wfl.FInt y b) (h : (a * b).natAbs < 2 ^ 53) : ∃ z, floatBits .mul .f64 x y = some z ∧ Wfl.FInt z (a * b) := hx.mul hy h
theorem fbits_add {x y : Nat} {a b : Int} (hx : Wfl.FInt x a) (hy : Wfl.FInt y b) (h : (a + b).natAbs < 2 ^ 53) : ∃ z, floatBits .add .f64 x y = some z ∧ Wfl.FInt z (a + b) := hx.add hy h
theorem fbits_sub {x y : Nat} {a b : Int} (hx : Wfl.FInt x a) (hy : Wfl.FInt y b) (h : (a - b).natAbs < 2 ^ 53) : ∃ z, floatBits .sub .f64 x y = some z ∧ Wfl.FInt z (a - b) := hx.sub hy h
theorem cmul_int {x y z t : Nat} {a b c d : Int} (h : Pt x y a b) (k : Pt z t c d) : ∃ re im, cMulBits x y z t = some (re, im) ∧ Wfl.FInt re (a * c - b * d) ∧ Wfl.FInt im (a * d + b * c) := by
  have b1 := mul_small h.h1 (Int.le_of_lt h.h2) k.h1 (Int.le_of_lt k.h2)
  have b2 := mul_small h.h3 (Int.le_of_lt h.h4) k.h3 (Int.le_of_lt k.h4)
  have b3 := mul_small h.h1 (Int.le_of_lt h.h2) k.h3 (Int.le_of_lt k.h4)
  have b4 := mul_small h.h3 (Int.le_of_lt h.h4) k.h1 (Int.le_of_lt k.h2)
  obtain ⟨u1, e1, f1⟩ := fbits_mul h.re k.re (by omega)
  obtain ⟨u2, e2, f2⟩ := fbits_mul h.im k.im (by omega)
  obtain ⟨u3, e3, f3⟩ := fbits_sub f1 f2 (by omega)
  obtain ⟨u4, e4, f4⟩ := fbits_mul h.re k.im (by omega)
  obtain ⟨u5, e5, f5⟩ := fbits_mul h.im k.re (by omega)
  obtain ⟨u6, e6, f6⟩ := fbits_add f4 f5 (by omega)
  exact ⟨u3, u6, by simp [cMulBits, e1, e2, e3, e4, e5, e6], f3, f6⟩
theorem cadd_int {x y z t : Nat} {a b c d : Int} (h : Pt x y a b) (k : Pt z t c d) : ∃ re im, cSumBits .add .f64 x y z t = some (re, im) ∧ Wfl.FInt re (a + c) ∧ Wfl.FInt im (b + d) := by
  have q1 := h.h1; have q2 := h.h2; have q3 := h.h3; have q4 := h.h4
  have r1 := k.h1; have r2 := k.h2; have r3 := k.h3; have r4 := k.h4
  obtain ⟨u1, e1, f1⟩ := fbits_add h.re k.re (by omega)
  obtain ⟨u2, e2, f2⟩ := fbits_add h.im k.im (by omega)
  exact ⟨u1, u2, by simp [cSumBits, e1, e2], f1, f2⟩
theorem Pt.ofF {a b : Int} (h1 : -1048576 ≤ a) (h2 : a < 1048576) (h3 : -1048576 ≤ b) (h4 : b < 1048576) : Pt (F a) (F b) a b :=
  ⟨F_int (by omega), F_int (by omega), h1, h2, h3, h4⟩
theorem Pt.ofW (a b : Int) : Pt (F (Wv.wrapI a)) (F (Wv.wrapI b)) (Wv.wrapI a) (Wv.wrapI b) :=
  Pt.ofF (Wv.wrapI_range a).1 (Wv.wrapI_range a).2 (Wv.wrapI_range b).1 (Wv.wrapI_range b).2

/-- one step of a product, as the walk meets it -/
theorem mul_step {x y z t : Nat} {a b c d : Int} (h : Pt x y a b) (k : Pt z t c d) : ∃ re im, (∀ w, (binOp .mul 23 (.complex .f64 x y) (.complex .f64 z t)).run Try.prog w = .ok (.complex .f64 re im) w) ∧
    ∀ w, Calls Try.prog 17 #[.complex .f64 re im] w fun e w' => e = .returned (PV (Wv.wrapI (a * c - b * d)) (Wv.wrapI (a * d + b * c))) ∧ Below w.heap.size w w' := by
  obtain ⟨re, im, h1, h2, h3⟩ := cmul_int h k
  have b1 := mul_small h.h1 (Int.le_of_lt h.h2) k.h1 (Int.le_of_lt k.h2)
  have b2 := mul_small h.h3 (Int.le_of_lt h.h4) k.h3 (Int.le_of_lt k.h4)
  have b3 := mul_small h.h1 (Int.le_of_lt h.h2) k.h3 (Int.le_of_lt k.h4)
  have b4 := mul_small h.h3 (Int.le_of_lt h.h4) k.h1 (Int.le_of_lt k.h2)
  exact ⟨re, im, fun w => run_complex_mul w _ x y z t re im h1, fun w => fold_int h2 h3 (by omega) (by omega) (by omega) (by omega) w⟩
theorem add_step {x y z t : Nat} {a b c d : Int} (h : Pt x y a b) (k : Pt z t c d) : ∃ re im, (∀ w, (binOp .add 23 (.complex .f64 x y) (.complex .f64 z t)).run Try.prog w = .ok (.complex .f64 re im) w) ∧
    ∀ w, Calls Try.prog 17 #[.complex .f64 re im] w fun e w' => e = .returned (PV (Wv.wrapI (a + c)) (Wv.wrapI (b + d))) ∧ Below w.heap.size w w' := by
  obtain ⟨re, im, h1, h2, h3⟩ := cadd_int h k
  have q1 := h.h1; have q2 := h.h2; have q3 := h.h3; have q4 := h.h4
  have r1 := k.h1; have r2 := k.h2; have r3 := k.h3; have r4 := k.h4
  exact ⟨re, im, fun w => run_complex_sum w .add (.inl rfl) _ .f64 x y z t re im h1, fun w => fold_int h2 h3 (by omega) (by omega) (by omega) (by omega) w⟩

set_option maxHeartbeats 1000000 in
theorem Times_2 {x y z t : Nat} {a b c d : Int} (h : Pt x y a b) (k : Pt z t c d) (g cc : Nat) (w : World) (hg : g < w.heap.size) (hc : PtsAt w g [(x, y), (z, t)]) :
    Calls Try.prog 9 #[.slice (some ⟨g, 0, none⟩) 2 cc] w fun e w' => e = .returned (.tuple #[PV (Wv.wrapI (a * c - b * d)) (Wv.wrapI (a * d + b * c)), .int .i64 0]) ∧ Below w.heap.size w w' := by
  have N := Lib.hid (numbers_any [(x, y), (z, t)] (pts_2 h k) g 2 cc rfl (by omega))
  obtain ⟨r1, i1, s1, s1'⟩ := mul_step (Pt.ofW 1 0) h
  have E1 := Lib.hid s1'
  have w1e : Wv.wrapI 1 = 1 := rfl
  have w0e : Wv.wrapI 0 = 0 := rfl
  have ea : Wv.wrapI (Wv.wrapI 1 * a - Wv.wrapI 0 * b) = a := by
    rw [w1e, w0e, Wv.wrapI_id] <;> have := h.h1 <;> have := h.h2 <;> omega
  have eb : Wv.wrapI (Wv.wrapI 1 * b + Wv.wrapI 0 * a) = b := by
    rw [w1e, w0e, Wv.wrapI_id] <;> have := h.h3 <;> have := h.h4 <;> omega
  rw [ea, eb] at s1'
  rw [w1e, w0e] at s1
  have F1 := Lib.hid s1'
  have HC := Lib.hid hc
  obtain ⟨r2, i2, s2, s2'⟩ := mul_step (Pt.ofF h.h1 h.h2 h.h3 h.h4) k
  have F2 := Lib.hid s2'
  clear s1' s2' h k ea eb hc E1
  go_enter Try.func9, Try.ntmps9
  go_wp2_with fail
  refine (N.out _ (by simp; omega) (HC.out.below hg (bl_alloc (Below.refl _ _)))).mono ?_
  rintro e w1 ⟨v, rfl, ho, hb1⟩
  obtain ⟨g', c', rfl, hg1, hg2, hcc, hcell⟩ := own_cell ho (by omega)
  have hx := hcell 0 (by simp [cplx])
  have hy := hcell 1 (by simp [cplx])
  simp only [cplx, List.map_cons, List.map_nil, List.getElem_cons_zero, List.getElem_cons_succ] at hx hy
  simp only [World.size_alloc] at hg1
  clear hcell ho
  have hz1 := hb1.size
  simp only [World.size_alloc] at hz1
  go_wp2_with fail
  refine (Point_any 1 0 _ (by omega) (by omega) (by omega) (by omega)).mono ?_
  rintro e w2 ⟨rfl, hb2⟩
  have hx2 := (hb2.cell (p := ⟨g', 0, none⟩) hg2).trans hx
  have hy2 := (hb2.cell (p := ⟨g', 1, none⟩) hg2).trans hy
  have hz2 := hb2.size
  have hg3 : g' < w2.heap.size := by omega
  clear hx hy
  go_wp2_with fail
  refine wp_loop_rounds 3 ?_
  rw [rounds_succ]
  go_wp2_with fail
  refine (F1.out _).mono ?_
  rintro e w3 ⟨rfl, hb3⟩
  have B3 := (Blk.new w2 _ _).below hb3
  have hc3 := B3.cell
  have hf3 := B3.free
  have hb3' := below_new hb3
  have hx3 := (hb3'.cell (p := ⟨g', 0, none⟩) hg3).trans hx2
  have hy3 := (hb3'.cell (p := ⟨g', 1, none⟩) hg3).trans hy2
  have hz3 := hb3'.size
  go_wp2_with fail
  rw [rounds_succ]
  go_wp2_with fail
  refine (F2.out _).mono ?_
  rintro e w4 ⟨rfl, hb4⟩
  have B4 : Blk w4 w2.heap.size #[.int .i64 5, .int .i64 0, .string ⟨#[]⟩, .complex .f64 (F a) (F b), .slice none 0 0] 26 := ((((((B3.set 0 (.int .i64 5)).set 1 (.int .i64 0)).set 2 (.string ⟨#[]⟩)).set 3 (.complex .f64 (F a) (F b))).set 4 (.slice none 0 0))).below hb4
  clear hc3 hf3
  have hc4 := B4.cell
  have hf4 := B4.free
  have hz4 := hb4.size
  simp only [World.size_setCell] at hz4
  have hne : w.heap.size ≠ w2.heap.size := by omega
  have R4 := ((((((((Blk.new w _ _).below hb1).below hb2).below hb3').setOther (p := ⟨w2.heap.size, 0, none⟩) hne (.int .i64 5)).setOther (p := ⟨w2.heap.size, 1, none⟩) hne (.int .i64 0)).setOther (p := ⟨w2.heap.size, 2, none⟩) hne (.string ⟨#[]⟩)).setOther (p := ⟨w2.heap.size, 3, none⟩) hne (.complex .f64 (F a) (F b))).setOther (p := ⟨w2.heap.size, 4, none⟩) hne (.slice none 0 0)
  have R5 := R4.below hb4
  clear R4
  have hbw3 : Below w.heap.size w w3 := bl_call (bl_call (below_new hb1) hb2) hb3'
  have hle : w.heap.size ≤ w2.heap.size := by omega
  have hbw4 : Below w.heap.size w w4 := bl_call (bl_set (bl_set (bl_set (bl_set (bl_set hbw3 hle) hle) hle) hle) hle) hb4
  have hr4 := R5.cell
  have hrf4 := R5.free
  go_wp2_with fail
  rw [rounds_succ]
  go_wp2_with fail
  exact bodyPost_ret (v := .tuple #[PV (Wv.wrapI (a * c - b * d)) (Wv.wrapI (a * d + b * c)), .int .i64 0]) (by simp [results, Try.results9, go_sem, hr4]) rfl ⟨rfl, by repeat (first | (refine bl_set ?_ (Nat.le_refl _)) | (refine bl_set ?_ hle) | exact hbw4)⟩
set_option maxHeartbeats 1000000 in
theorem Plus_2 {x y z t : Nat} {a b c d : Int} (h : Pt x y a b) (k : Pt z t c d) (g cc : Nat) (w : World) (hg : g < w.heap.size) (hc : PtsAt w g [(x, y), (z, t)]) :
    Calls Try.prog 10 #[.slice (some ⟨g, 0, none⟩) 2 cc] w fun e w' => e = .returned (.tuple #[PV (Wv.wrapI (a + c)) (Wv.wrapI (b + d)), .int .i64 0]) ∧ Below w.heap.size w w' := by
  have N := Lib.hid (numbers_any [(x, y), (z, t)] (pts_2 h k) g 2 cc rfl (by omega))
  obtain ⟨r1, i1, s1, s1'⟩ := add_step (Pt.ofW 0 0) h
  have E1 := Lib.hid s1'
  have w0e : Wv.wrapI 0 = 0 := rfl
  have ea : Wv.wrapI (Wv.wrapI 0 + a) = a := by
    rw [w0e, Wv.wrapI_id] <;> have := h.h1 <;> have := h.h2 <;> omega
  have eb : Wv.wrapI (Wv.wrapI 0 + b) = b := by
    rw [w0e, Wv.wrapI_id] <;> have := h.h3 <;> have := h.h4 <;> omega
  rw [ea, eb] at s1'
  rw [w0e] at s1
  have F1 := Lib.hid s1'
  have HC := Lib.hid hc
  obtain ⟨r2, i2, s2, s2'⟩ := add_step (Pt.ofF h.h1 h.h2 h.h3 h.h4) k
  have F2 := Lib.hid s2'
  clear s1' s2' h k ea eb hc E1
  go_enter Try.func10, Try.ntmps10
  go_wp2_with fail
  refine (N.out _ (by simp; omega) (HC.out.below hg (bl_alloc (Below.refl _ _)))).mono ?_
  rintro e w1 ⟨v, rfl, ho, hb1⟩
  obtain ⟨g', c', rfl, hg1, hg2, hcc, hcell⟩ := own_cell ho (by omega)
  have hx := hcell 0 (by simp [cplx])
  have hy := hcell 1 (by simp [cplx])
  simp only [cplx, List.map_cons, List.map_nil, List.getElem_cons_zero, List.getElem_cons_succ] at hx hy
  simp only [World.size_alloc] at hg1
  clear hcell ho
  have hz1 := hb1.size
  simp only [World.size_alloc] at hz1
  go_wp2_with fail
  refine (Point_any 0 0 _ (by omega) (by omega) (by omega) (by omega)).mono ?_
  rintro e w2 ⟨rfl, hb2⟩
  have hx2 := (hb2.cell (p := ⟨g', 0, none⟩) hg2).trans hx
  have hy2 := (hb2.cell (p := ⟨g', 1, none⟩) hg2).trans hy
  have hz2 := hb2.size
  have hg3 : g' < w2.heap.size := by omega
  clear hx hy
  go_wp2_with fail
  refine wp_loop_rounds 3 ?_
  rw [rounds_succ]
  go_wp2_with fail
  refine (F1.out _).mono ?_
  rintro e w3 ⟨rfl, hb3⟩
  have B3 := (Blk.new w2 _ _).below hb3
  have hc3 := B3.cell
  have hf3 := B3.free
  have hb3' := below_new hb3
  have hx3 := (hb3'.cell (p := ⟨g', 0, none⟩) hg3).trans hx2
  have hy3 := (hb3'.cell (p := ⟨g', 1, none⟩) hg3).trans hy2
  have hz3 := hb3'.size
  go_wp2_with fail
  rw [rounds_succ]
  go_wp2_with fail
  refine (F2.out _).mono ?_
  rintro e w4 ⟨rfl, hb4⟩
  have B4 : Blk w4 w2.heap.size #[.int .i64 5, .int .i64 0, .string ⟨#[]⟩, .complex .f64 (F a) (F b), .slice none 0 0] 26 := ((((((B3.set 0 (.int .i64 5)).set 1 (.int .i64 0)).set 2 (.string ⟨#[]⟩)).set 3 (.complex .f64 (F a) (F b))).set 4 (.slice none 0 0))).below hb4
  clear hc3 hf3
  have hc4 := B4.cell
  have hf4 := B4.free
  have hz4 := hb4.size
  simp only [World.size_setCell] at hz4
  have hne : w.heap.size ≠ w2.heap.size := by omega
  have R4 := ((((((((Blk.new w _ _).below hb1).below hb2).below hb3').setOther (p := ⟨w2.heap.size, 0, none⟩) hne (.int .i64 5)).setOther (p := ⟨w2.heap.size, 1, none⟩) hne (.int .i64 0)).setOther (p := ⟨w2.heap.size, 2, none⟩) hne (.string ⟨#[]⟩)).setOther (p := ⟨w2.heap.size, 3, none⟩) hne (.complex .f64 (F a) (F b))).setOther (p := ⟨w2.heap.size, 4, none⟩) hne (.slice none 0 0)
  have R5 := R4.below hb4
  clear R4
  have hbw3 : Below w.heap.size w w3 := bl_call (bl_call (below_new hb1) hb2) hb3'
  have hle : w.heap.size ≤ w2.heap.size := by omega
  have hbw4 : Below w.heap.size w w4 := bl_call (bl_set (bl_set (bl_set (bl_set (bl_set hbw3 hle) hle) hle) hle) hle) hb4
  have hr4 := R5.cell
  have hrf4 := R5.free
  go_wp2_with fail
  rw [rounds_succ]
  go_wp2_with fail
  exact bodyPost_ret (v := .tuple #[PV (Wv.wrapI (a + c)) (Wv.wrapI (b + d)), .int .i64 0]) (by simp [results, Try.results10, go_sem, hr4]) rfl ⟨rfl, by repeat (first | (refine bl_set ?_ (Nat.le_refl _)) | (refine bl_set ?_ hle) | exact hbw4)⟩
/-- the point on the other side of the real line -/
theorem Conj_point {x y : Nat} {a b : Int} (h : Pt x y a b) (w : World) :
    Calls Try.prog 11 #[.agg #[.int .i64 5, .int .i64 0, .string ⟨#[]⟩, .complex .f64 x y, .slice none 0 0]] w fun e w' => e = .returned (.tuple #[PV a (Wv.wrapI (-b)), .int .i64 0]) ∧ Below w.heap.size w w' := by
  have q1 := h.h1; have q2 := h.h2; have q3 := h.h3; have q4 := h.h4
  have c1 := conv_int h.re (by omega) (by omega)
  have c2 := conv_int h.im (by omega) (by omega)
  have N := Lib.hid (numbers_any [(x, y)] (pts_1 h))
  have P := Lib.hid (Point_any a (-b))
  have ea := Lib.hid (Wv.wrapI_id q1 q2)
  clear h
  go_enter Try.func11, Try.ntmps11
  go_wp2_with fail
  refine (N.out _ 1 1 rfl (by omega) _ (by simp) ?_).mono ?_
  · intro j hj
    obtain rfl : j = 0 := by simpa using hj
    refine ⟨?_, ?_, ?_, ?_, ?_⟩ <;> go_simp
  rintro e w1 ⟨v, rfl, ho, hb1⟩
  obtain ⟨g', cc, rfl, hg1, hg2, hcc, hcell⟩ := own_cell ho (by omega)
  have hx := hcell 0 (by simp [cplx])
  simp only [cplx, List.map_cons, List.getElem_cons_zero] at hx
  clear hcell ho
  go_wp2_with fail
  refine region_tail 11 (by kernel_rfl) (by kernel_rfl) ?_
  simp only [List.take_succ_cons, List.take_zero, List.drop_succ_cons, List.drop_zero]
  repeat still_step
  refine wpStill_nil ?_
  have R1 := (((Blk.new (w.alloc _) _ _).alloc).below hb1)
  simp only [World.size_alloc] at R1
  have hs1 : w.heap.size + 1 < w1.heap.size := R1.lt
  go_wp2_with fail
  refine (P.out _ (by omega) (by omega) (by omega) (by omega)).mono ?_
  rintro e w2 ⟨rfl, hb2⟩
  rw [ea.out]
  have R2 := R1.below (undrew hb2)
  have hr := R2.cell
  have hf := R2.free
  go_wp2_with fail
  exact bodyPost_ret (v := .tuple #[PV a (Wv.wrapI (-b)), .int .i64 0]) (by simp [results, Try.results11, go_sem, hr]) rfl ⟨rfl, by repeat (first | (refine bl_set ?_ (Nat.le_succ _)) | exact bl_call (below_new (below_new (below_new hb1))) (undrew hb2))⟩
end Go.Proofs.Ytcfmnlpbpihllaa
