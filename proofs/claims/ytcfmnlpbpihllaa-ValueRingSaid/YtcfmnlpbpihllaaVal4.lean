/- The walks of value.all, value.order, value.Compare, value.numbers at points. -/
import Derived.Test.YtcfmnlpbpihllaaVal3
import Derived.WalkKit
import Derived.WalkLawsBesides
import Derived.WalkSpells
import Derived.Lib.Hide
import Derived.Laws.ComplexArith
import Derived.Lib.Bytealg
import Derived.StillTailTactics
import Derived.Outline
namespace Go.Proofs.Ytcfmnlpbpihllaa
open Go.RowKit
set_option linter.unusedVariables false
theorem Or_3 (x y z : Int) (g : Nat) (w : World) (c0 : w.cell? ⟨g, 0, none⟩ = some (.int .i64 x)) (c1 : w.cell? ⟨g, 1, none⟩ = some (.int .i64 y)) (c2 : w.cell? ⟨g, 2, none⟩ = some (.int .i64 z)) :
    Calls Try.prog 20 #[.slice (some ⟨g, 0, none⟩) 3 3] w fun e w' => e = .returned (.int .i64 (firstNZ [x, y, z])) ∧ w = w' := by
  refine Or_any [x, y, z] ⟨g, 0, none⟩ 3 3 rfl w (by omega) ?_
  intro j hj
  match j, hj with
  | 0, _ => exact c0
  | 1, _ => exact c1
  | 2, _ => exact c2
theorem Or_2 (x y : Int) (g : Nat) (w : World) (c0 : w.cell? ⟨g, 0, none⟩ = some (.int .i64 x)) (c1 : w.cell? ⟨g, 1, none⟩ = some (.int .i64 y)) :
    Calls Try.prog 20 #[.slice (some ⟨g, 0, none⟩) 2 2] w fun e w' => e = .returned (.int .i64 (firstNZ [x, y])) ∧ w = w' := by
  refine Or_any [x, y] ⟨g, 0, none⟩ 2 2 rfl w (by omega) ?_
  intro j hj
  match j, hj with
  | 0, _ => exact c0
  | 1, _ => exact c1
/-- the words of a point in its range -/
structure Pt (x y : Nat) (a b : Int) : Prop where
  re : Wfl.FInt x a
  im : Wfl.FInt y b
  h1 : -1048576 ≤ a
  h2 : a < 1048576
  h3 : -1048576 ≤ b
  h4 : b < 1048576
theorem Pt.check {x y : Nat} {a b : Int} (h : Pt x y a b) (w : World) :
    Calls Try.prog 16 #[.agg #[.int .i64 5, .int .i64 0, .string ⟨#[]⟩, .complex .f64 x y, .slice none 0 0]] w fun e w' => e = .returned (.int .i64 0) ∧ Below w.heap.size w w' :=
  Check_point x y a b h.re h.im h.h1 h.h2 h.h3 h.h4 w
theorem all1_point {x y : Nat} {a b : Int} (h : Pt x y a b) (w : World) :
    Calls Try.prog 19 #[.agg #[.int .i64 5, .int .i64 0, .string ⟨#[]⟩, .complex .f64 x y, .slice none 0 0]] w fun e w' => e = .returned (.bool false) ∧ Below w.heap.size w w' := by
  have H := Lib.hid h.check
  clear h
  go_enter Try.func19, Try.ntmps19
  go_wp2_with fail
  refine (H.out _).mono ?_
  rintro e w1 ⟨rfl, hb1⟩
  go_wp2_with fail
  go_ret
  exact ⟨rfl, below_new hb1⟩
theorem IndexFunc_2 {x1 y1 x2 y2 : Nat} {a1 b1 a2 b2 : Int} (h : Pt x1 y1 a1 b1) (k : Pt x2 y2 a2 b2) (g : Nat) (w : World) (hg : g < w.heap.size)
    (c0 : w.cell? ⟨g, 0, none⟩ = some (.int .i64 5))
    (c1 : w.cell? ⟨g, 1, none⟩ = some (.int .i64 0))
    (c2 : w.cell? ⟨g, 2, none⟩ = some (.string ⟨#[]⟩))
    (c3 : w.cell? ⟨g, 3, none⟩ = some (.complex .f64 x1 y1))
    (c4 : w.cell? ⟨g, 4, none⟩ = some (.slice none 0 0))
    (c5 : w.cell? ⟨g, 5, none⟩ = some (.int .i64 5))
    (c6 : w.cell? ⟨g, 6, none⟩ = some (.int .i64 0))
    (c7 : w.cell? ⟨g, 7, none⟩ = some (.string ⟨#[]⟩))
    (c8 : w.cell? ⟨g, 8, none⟩ = some (.complex .f64 x2 y2))
    (c9 : w.cell? ⟨g, 9, none⟩ = some (.slice none 0 0)) :
    Calls Try.prog 26 #[.slice (some ⟨g, 0, none⟩) 2 2, .func (.func 19) #[] #[]] w fun e w' => e = .returned (.int .i64 (-1)) ∧ Below w.heap.size w w' := by
  have H := Lib.hid (all1_point h)
  have K := Lib.hid (all1_point k)
  clear h k
  go_enter Try.func26, Try.ntmps26
  go_wp2_with fail
  refine wp_loop_rounds 3 ?_
  rw [rounds_succ]
  go_wp2_with fail
  refine (H.out _).mono ?_
  rintro e w1 ⟨rfl, hb1⟩
  have d5 := (hb1.cell (p := ⟨g, 5, none⟩) hg).trans c5
  have d6 := (hb1.cell (p := ⟨g, 6, none⟩) hg).trans c6
  have d7 := (hb1.cell (p := ⟨g, 7, none⟩) hg).trans c7
  have d8 := (hb1.cell (p := ⟨g, 8, none⟩) hg).trans c8
  have d9 := (hb1.cell (p := ⟨g, 9, none⟩) hg).trans c9
  clear c0 c1 c2 c3 c4 c5 c6 c7 c8 c9
  go_wp2_with fail
  rw [rounds_succ]
  go_wp2_with fail
  refine (K.out _).mono ?_
  rintro e w2 ⟨rfl, hb2⟩
  go_wp2_with fail
  rw [rounds_succ]
  go_wp2_with fail
  go_ret
  exact ⟨rfl, hb1.trans (hb2.mono hb1.size)⟩
theorem ContainsFunc_2 {x1 y1 x2 y2 : Nat} {a1 b1 a2 b2 : Int} (h : Pt x1 y1 a1 b1) (k : Pt x2 y2 a2 b2) (g : Nat) (w : World) (hg : g < w.heap.size)
    (c0 : w.cell? ⟨g, 0, none⟩ = some (.int .i64 5))
    (c1 : w.cell? ⟨g, 1, none⟩ = some (.int .i64 0))
    (c2 : w.cell? ⟨g, 2, none⟩ = some (.string ⟨#[]⟩))
    (c3 : w.cell? ⟨g, 3, none⟩ = some (.complex .f64 x1 y1))
    (c4 : w.cell? ⟨g, 4, none⟩ = some (.slice none 0 0))
    (c5 : w.cell? ⟨g, 5, none⟩ = some (.int .i64 5))
    (c6 : w.cell? ⟨g, 6, none⟩ = some (.int .i64 0))
    (c7 : w.cell? ⟨g, 7, none⟩ = some (.string ⟨#[]⟩))
    (c8 : w.cell? ⟨g, 8, none⟩ = some (.complex .f64 x2 y2))
    (c9 : w.cell? ⟨g, 9, none⟩ = some (.slice none 0 0)) :
    Calls Try.prog 18 #[.slice (some ⟨g, 0, none⟩) 2 2, .func (.func 19) #[] #[]] w fun e w' => e = .returned (.bool false) ∧ Below w.heap.size w w' := by
  have H := Lib.hid (IndexFunc_2 h k g w hg c0 c1 c2 c3 c4 c5 c6 c7 c8 c9)
  clear h k c0 c1 c2 c3 c4 c5 c6 c7 c8 c9
  go_enter Try.func18, Try.ntmps18
  go_wp2_with fail
  refine H.out.mono ?_
  rintro e w1 ⟨rfl, hb1⟩
  go_wp2_with fail
  go_ret
  exact ⟨rfl, hb1⟩
theorem all_2 {x1 y1 x2 y2 : Nat} {a1 b1 a2 b2 : Int} (h : Pt x1 y1 a1 b1) (k : Pt x2 y2 a2 b2) (g : Nat) (w : World) (hg : g < w.heap.size)
    (c0 : w.cell? ⟨g, 0, none⟩ = some (.int .i64 5))
    (c1 : w.cell? ⟨g, 1, none⟩ = some (.int .i64 0))
    (c2 : w.cell? ⟨g, 2, none⟩ = some (.string ⟨#[]⟩))
    (c3 : w.cell? ⟨g, 3, none⟩ = some (.complex .f64 x1 y1))
    (c4 : w.cell? ⟨g, 4, none⟩ = some (.slice none 0 0))
    (c5 : w.cell? ⟨g, 5, none⟩ = some (.int .i64 5))
    (c6 : w.cell? ⟨g, 6, none⟩ = some (.int .i64 0))
    (c7 : w.cell? ⟨g, 7, none⟩ = some (.string ⟨#[]⟩))
    (c8 : w.cell? ⟨g, 8, none⟩ = some (.complex .f64 x2 y2))
    (c9 : w.cell? ⟨g, 9, none⟩ = some (.slice none 0 0)) :
    Calls Try.prog 13 #[.slice (some ⟨g, 0, none⟩) 2 2] w fun e w' => e = .returned (.int .i64 0) ∧ Below w.heap.size w w' := by
  have H := Lib.hid (ContainsFunc_2 h k g w hg c0 c1 c2 c3 c4 c5 c6 c7 c8 c9)
  clear h k c0 c1 c2 c3 c4 c5 c6 c7 c8 c9
  go_enter Try.func13, Try.ntmps13
  go_wp2_with fail
  refine H.out.mono ?_
  rintro e w1 ⟨rfl, hb1⟩
  go_wp2_with fail
  go_ret
  exact ⟨rfl, hb1⟩

theorem CompareFunc_nil (f : Value) (w : World) :
    Calls Try.prog 24 #[.slice none 0 0, .slice none 0 0, f] w fun e w' => e = .returned (.int .i64 0) ∧ w = w' := by
  go_enter Try.func24, Try.ntmps24
  go_wp2_with fail
  refine wp_loop_rounds 1 ?_
  rw [rounds_succ]
  go_wp2_with fail
  go_ret
  exact ⟨rfl, rfl⟩

/-- the order of points: by the parts -/
def cmpPt (a b c d : Int) : Int := if cmpI a c = 0 then cmpI b d else cmpI a c
theorem firstNZ_2 (a b c d : Int) : firstNZ [cmpI a c, cmpI b d] = cmpPt a b c d := by
  simp only [firstNZ, cmpPt]
  by_cases h : cmpI a c = 0
  · simp only [h, if_true]
    by_cases h2 : cmpI b d = 0 <;> simp [h2]
  · simp [h]
theorem order_point {x1 y1 x2 y2 : Nat} {a1 b1 a2 b2 : Int} (h : Pt x1 y1 a1 b1) (k : Pt x2 y2 a2 b2) (w : World) :
    Calls Try.prog 14 #[.agg #[.int .i64 5, .int .i64 0, .string ⟨#[]⟩, .complex .f64 x1 y1, .slice none 0 0], .agg #[.int .i64 5, .int .i64 0, .string ⟨#[]⟩, .complex .f64 x2 y2, .slice none 0 0]] w fun e w' => e = .returned (.int .i64 (cmpPt a1 b1 a2 b2)) ∧ Below w.heap.size w w' := by
  have e5 : cmpI 5 5 = 0 := rfl
  have e0 : cmpI 0 0 = 0 := rfl
  have eb : Lib.compareBytes [] [] = 0 := rfl
  have F1 := Lib.hid (CompareFloat_int x1 x2 a1 a2 h.re k.re)
  have F2 := Lib.hid (CompareFloat_int y1 y2 b1 b2 h.im k.im)
  clear h k
  have H2 := Lib.hid (firstNZ_2 a1 b1 a2 b2)
  go_enter Try.func14, Try.ntmps14
  go_wp2_with fail
  refine region_tail 15 (by kernel_rfl) (by kernel_rfl) ?_
  simp only [List.take_succ_cons, List.take_zero, List.drop_succ_cons, List.drop_zero]
  repeat still_step
  still_call (same_call (CompareInt_any _ _ _))
  repeat still_step
  still_call (same_call (CompareInt_any _ _ _))
  repeat still_step
  still_call (same_call (CompareStr_any _ _ _))
  refine wpStill_nil ?_
  go_wp2_with fail
  refine (Or_3 0 0 0 _ _ (by go_simp) (by go_simp) (by go_simp)).mono ?_
  rintro e w' ⟨rfl, rfl⟩
  go_wp2_with fail
  refine region_tail 14 (by kernel_rfl) (by kernel_rfl) ?_
  simp only [List.take_succ_cons, List.take_zero, List.drop_succ_cons, List.drop_zero]
  repeat still_step
  still_call (same_call (F1.out _))
  repeat still_step
  still_call (same_call (F2.out _))
  refine wpStill_nil ?_
  go_wp2_with fail
  refine (Or_2 (cmpI a1 a2) (cmpI b1 b2) _ _ (by go_simp) (by go_simp)).mono ?_
  rintro e w' ⟨rfl, rfl⟩
  rw [H2.out]
  by_cases hz : cmpPt a1 b1 a2 b2 = 0
  · rw [hz]
    go_wp2_with fail
    refine (CompareFunc_nil _ _).mono ?_
    rintro e w' ⟨rfl, rfl⟩
    go_wp2_with fail
    go_ret
    exact ⟨by rw [hz]; rfl, (by repeat (first | exact Below.refl _ _ | apply bl_drew | apply bl_alloc))⟩
  · have hz' : (cmpPt a1 b1 a2 b2 != 0) = true := by simp [hz]
    go_wp2_with fail
    go_ret
    exact ⟨rfl, (by repeat (first | exact Below.refl _ _ | apply bl_drew | apply bl_alloc))⟩

theorem Compare_point {x1 y1 x2 y2 : Nat} {a1 b1 a2 b2 : Int} (h : Pt x1 y1 a1 b1) (k : Pt x2 y2 a2 b2) (w : World) :
    Calls Try.prog 6 #[.agg #[.int .i64 5, .int .i64 0, .string ⟨#[]⟩, .complex .f64 x1 y1, .slice none 0 0], .agg #[.int .i64 5, .int .i64 0, .string ⟨#[]⟩, .complex .f64 x2 y2, .slice none 0 0]] w fun e w' => e = .returned (.tuple #[.int .i64 (cmpPt a1 b1 a2 b2), .int .i64 0]) ∧ Below w.heap.size w w' := by
  have H1 := Lib.hid (all_2 h k)
  have H2 := Lib.hid (order_point h k)
  clear h k
  go_enter Try.func6, Try.ntmps6
  go_wp2_with fail
  refine (H1.out _ _ (by simp) (by go_simp) (by go_simp) (by go_simp) (by go_simp) (by go_simp) (by go_simp) (by go_simp) (by go_simp) (by go_simp) (by go_simp)).mono ?_
  rintro e w1 ⟨rfl, hb1⟩
  obtain ⟨hc, hf⟩ := bcell hb1
  go_wp2_with fail
  refine (H2.out _).mono ?_
  rintro e w2 ⟨rfl, hb2⟩
  go_wp2_with fail
  go_ret2
  exact ⟨rfl, bl_call (below_new (below_new (below_new hb1))) hb2⟩

end Go.Proofs.Ytcfmnlpbpihllaa
