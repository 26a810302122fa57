/- The walk of awake. -/
import Derived.Test.YtcfmnlpbpihllaaVal6
import Derived.WalkKit
import Derived.WalkLawsBesides
import Derived.WalkSpells
import Derived.Lib.Hide
import Derived.Laws.ComplexArith
import Derived.Lib.Bytealg
import Derived.StillTailTactics
import Derived.Deep.DeepMust
import Derived.Deep.QuietTactic
import Derived.BigQuiet
import Derived.Outline
namespace Go.Proofs.Ytcfmnlpbpihllaa
open Go.RowKit
set_option linter.unusedVariables false
theorem own_zero (w : World) :
    Calls Try.prog 30 #[.agg #[.int .i64 0, .int .i64 0, .string ⟨#[]⟩, .complex .f64 0 0, .slice none 0 0]] w fun e w' => e = .returned (.bool false) ∧ Below w.heap.size w w' := by
  go_enter Try.func30, Try.ntmps30
  go_wp2_with fail
  go_ret
  exact ⟨rfl, bl_alloc (Below.refl _ _)⟩
theorem measure_zero (w : World) :
    Calls Try.prog 25 #[.agg #[.int .i64 0, .int .i64 0, .string ⟨#[]⟩, .complex .f64 0 0, .slice none 0 0]] w fun e w' => e = .returned (.tuple #[.int .i64 0, .int .i64 0, .bool false]) ∧ Below w.heap.size w w' := by
  go_enter Try.func25, Try.ntmps25
  go_wp2_with fail
  go_step3
  go_wp2_with fail
  go_step3
  go_wp2_with fail
  refine wp_loop_rounds 2 ?_
  rw [rounds_succ]
  go_wp2_with fail
  refine (own_zero _).mono ?_
  rintro e w1 ⟨rfl, hb1⟩
  have hc1 := hb1.cell (p := ⟨w.heap.size + 1 + 1, 4, none⟩) (by simp)
  go_wp2_with fail
  try rw [Exit.noGoto_ret]
  go_ret3
  exact ⟨rfl, below_new (below_new (below_new hb1))⟩
theorem Check_zero (w : World) :
    Calls Try.prog 16 #[.agg #[.int .i64 0, .int .i64 0, .string ⟨#[]⟩, .complex .f64 0 0, .slice none 0 0]] w fun e w' => e = .returned (.int .i64 10) ∧ Below w.heap.size w w' := by
  go_enter Try.func16, Try.ntmps16
  go_wp2_with fail
  refine (measure_zero _).mono ?_
  rintro e w1 ⟨rfl, hb1⟩
  go_wp2_with fail
  go_ret
  exact ⟨rfl, below_new hb1⟩
/-- two points side by side in a new block -/
theorem ptsAt_two {w : World} {g : Nat} {x y z t : Nat} {ty : TypeId} (B : Blk w g #[.int .i64 5, .int .i64 0, .string ⟨#[]⟩, .complex .f64 x y, .slice none 0 0, .int .i64 5, .int .i64 0, .string ⟨#[]⟩, .complex .f64 z t, .slice none 0 0] ty) : PtsAt w g [(x, y), (z, t)] := by
  intro j hj
  match j, hj with
  | 0, _ => exact ⟨B.cell 0, B.cell 1, B.cell 2, B.cell 3, B.cell 4⟩
  | 1, _ => exact ⟨B.cell 5, B.cell 6, B.cell 7, B.cell 8, B.cell 9⟩
theorem awake_any (w : World) :
    Calls Try.prog 8 #[] w fun e w' => e = .returned (.bool true) ∧ Below w.heap.size w w' := by
  have P1 := Pt.ofF (a := 0) (b := 1) (by omega) (by omega) (by omega) (by omega)
  have e1 : Wv.wrapI 0 = 0 := rfl
  have e2 : Wv.wrapI 1 = 1 := rfl
  have e3 : Wv.wrapI (0 * 0 - 1 * 1) = -1 := rfl
  have e4 : Wv.wrapI (0 * 1 + 1 * 0) = 0 := rfl
  have P2 := Lib.hid (Parts_point (Pt.ofF (a := -1) (b := 0) (by omega) (by omega) (by omega) (by omega)))
  have T := Lib.hid (Times_2 P1 P1)
  clear P1
  have E := Lib.hid (And.intro e1 (And.intro e2 (And.intro e3 e4)))
  clear e1 e2 e3 e4
  go_enter Try.func8, Try.ntmps8
  go_wp2_with fail
  refine (Point_any 0 1 _ (by omega) (by omega) (by omega) (by omega)).mono ?_
  rintro e w1 ⟨rfl, hb1⟩
  rw [E.out.1, E.out.2.1]
  go_wp2_with fail
  refine (Point_any 0 1 _ (by omega) (by omega) (by omega) (by omega)).mono ?_
  rintro e w2 ⟨rfl, hb2⟩
  rw [E.out.1, E.out.2.1]
  go_wp2_with fail
  refine (T.out _ _ _ (by simp) (ptsAt_two (Blk.new _ _ _))).mono ?_
  rintro e w3 ⟨rfl, hb3⟩
  rw [E.out.2.2.1, E.out.2.2.2]
  have hbw3 := bl_call (bl_call hb1 hb2) (below_new hb3)
  clear hb1 hb2 hb3
  go_wp2_with fail
  refine (P2.out _).mono ?_
  rintro e w4 ⟨rfl, hb4⟩
  go_wp2_with fail
  refine (Check_zero _).mono ?_
  rintro e w5 ⟨rfl, hb5⟩
  go_wp2_with fail
  go_ret
  exact ⟨rfl, bl_call (bl_call (bl_alloc hbw3) hb4) hb5⟩
end Go.Proofs.Ytcfmnlpbpihllaa
