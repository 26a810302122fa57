/- The walks of value.whole, value.bare, value.own, value.measure and value.Check at points. -/
import Derived.Test.YtcfmnlpbpihllaaVal2
import Derived.WalkKit
import Derived.WalkLawsBesides
import Derived.WalkSpells
import Derived.Lib.Hide
import Derived.Laws.ComplexArith
import Derived.Lib.Bytealg
import Derived.Outline
namespace Go.Proofs.Ytcfmnlpbpihllaa
open Go.RowKit
set_option linter.unusedVariables false
theorem toI {x : Nat} {n : Int} (h : Wfl.FInt x n) (h1 : -9223372036854775808 ≤ n) (h2 : n ≤ 9223372036854775807) : floatToIntVal .f64 x .i64 = some n := by
  unfold floatToIntVal
  rw [show FloatKind.f64.decode x = Ieee.double.read x from rfl, h.toInt]
  have : IntKind.i64.min ≤ n ∧ n ≤ IntKind.i64.max := ⟨h1, h2⟩
  simp only [this]
  simp
theorem conv_int {x : Nat} {n : Int} (h : Wfl.FInt x n) (h1 : -9223372036854775808 ≤ n) (h2 : n ≤ 9223372036854775807) (w : World) : (convert 41 3 (.float .f64 x)).run Try.prog w = .ok (.int .i64 n) w :=
  run_convert_float_int w 41 3 .f64 .i64 x n (by rw [Try.underlying41]; rfl) Try.underlying3 (toI h h1 h2)
theorem low_int : Wfl.FInt 13920626448202203136 (-1048576) :=
  ⟨true, 4503599627370496, -32, by kernel_rfl, by decide, 32, by decide, by decide⟩
theorem high_int : Wfl.FInt 4697254411347427328 1048576 :=
  ⟨false, 4503599627370496, -32, by kernel_rfl, by decide, 32, by decide, by decide⟩

theorem whole_int (x : Nat) (n : Int) (h : Wfl.FInt x n) (h1 : -1048576 ≤ n) (h2 : n < 1048576) (w : World) :
    Calls Try.prog 33 #[.float .f64 x] w fun e w' => e = .returned (.bool true) ∧ w = w' := by
  have c1 := conv_int h (by omega) (by omega)
  have c2 := order_fint h (F_int (n := n) (by omega))
  have c3 := order_fint h high_int
  rw [if_neg (by omega), if_neg (by omega)] at c2
  rw [if_pos h2] at c3
  have c4 := order_fint h low_int
  rw [if_neg (by omega)] at c4
  by_cases h3 : -1048576 < n
  · rw [if_pos h3] at c4
    clear h h1 h2 h3
    go_enter Try.func33, Try.ntmps33
    go_wp2
    go_ret
    exact ⟨rfl, rfl⟩
  · rw [if_neg h3] at c4
    clear h h1 h2 h3
    go_enter Try.func33, Try.ntmps33
    go_wp2
    go_ret
    exact ⟨rfl, rfl⟩

/-- value.bare at a point that may bear its point alone -/
theorem bare_point (x y : Nat) (w : World) :
    Calls Try.prog 32 #[.agg #[.int .i64 5, .int .i64 0, .string ⟨#[]⟩, .complex .f64 x y, .slice none 0 0], .bool false, .bool false, .bool true, .bool false] w fun e w' => e = .returned (.bool true) ∧ Below w.heap.size w w' := by
  go_enter Try.func32, Try.ntmps32
  go_wp2
  go_ret
  exact ⟨rfl, (Below.refl _ _).alloc (Nat.le_refl _) _⟩

theorem own_point (x y : Nat) (a b : Int) (hx : Wfl.FInt x a) (hy : Wfl.FInt y b) (h1 : -1048576 ≤ a) (h2 : a < 1048576) (h3 : -1048576 ≤ b) (h4 : b < 1048576) (w : World) :
    Calls Try.prog 30 #[.agg #[.int .i64 5, .int .i64 0, .string ⟨#[]⟩, .complex .f64 x y, .slice none 0 0]] w fun e w' => e = .returned (.bool true) ∧ Below w.heap.size w w' := by
  have n1 := Lib.hid (whole_int x a hx h1 h2)
  have n2 := Lib.hid (whole_int y b hy h3 h4)
  clear hx hy h1 h2 h3 h4
  go_enter Try.func30, Try.ntmps30
  go_wp2_with fail
  refine (bare_point x y _).mono ?_
  rintro e w1 ⟨rfl, hb1⟩
  have hc := fun j => hb1.cell (p := ⟨w.heap.size, j, none⟩) (by simp)
  go_wp2_with fail
  refine (n1.out _).mono ?_
  rintro e w' ⟨rfl, rfl⟩
  go_wp2_with fail
  refine (n2.out _).mono ?_
  rintro e w' ⟨rfl, rfl⟩
  go_wp2_with fail
  go_ret
  exact ⟨rfl, below_new hb1⟩

theorem measure_point (x y : Nat) (a b : Int) (hx : Wfl.FInt x a) (hy : Wfl.FInt y b) (h1 : -1048576 ≤ a) (h2 : a < 1048576) (h3 : -1048576 ≤ b) (h4 : b < 1048576) (w : World) :
    Calls Try.prog 25 #[.agg #[.int .i64 5, .int .i64 0, .string ⟨#[]⟩, .complex .f64 x y, .slice none 0 0]] w fun e w' => e = .returned (.tuple #[.int .i64 1, .int .i64 1, .bool true]) ∧ Below w.heap.size w w' := by
  have n1 := Lib.hid (own_point x y a b hx hy h1 h2 h3 h4)
  clear hx hy h1 h2 h3 h4
  go_enter Try.func25, Try.ntmps25
  go_wp2_with fail
  go_step3
  go_wp2_with fail
  go_step3
  go_wp2_with fail
  refine wp_loop_rounds 2 ?_
  rw [rounds_succ]
  go_wp2_with fail
  refine (n1.out _).mono ?_
  rintro e w1 ⟨rfl, hb1⟩
  have hc1 := hb1.cell (p := ⟨w.heap.size + 1 + 1, 4, none⟩) (by simp)
  go_wp2_with fail
  rw [rounds_succ]
  go_wp2_with fail
  rw [Exit.noGoto_ret]
  go_ret3
  exact ⟨rfl, below_new (below_new (below_new hb1))⟩

theorem Check_point (x y : Nat) (a b : Int) (hx : Wfl.FInt x a) (hy : Wfl.FInt y b) (h1 : -1048576 ≤ a) (h2 : a < 1048576) (h3 : -1048576 ≤ b) (h4 : b < 1048576) (w : World) :
    Calls Try.prog 16 #[.agg #[.int .i64 5, .int .i64 0, .string ⟨#[]⟩, .complex .f64 x y, .slice none 0 0]] w fun e w' => e = .returned (.int .i64 0) ∧ Below w.heap.size w w' := by
  have n1 := Lib.hid (measure_point x y a b hx hy h1 h2 h3 h4)
  clear hx hy h1 h2 h3 h4
  go_enter Try.func16, Try.ntmps16
  go_wp2_with fail
  refine (n1.out _).mono ?_
  rintro e w1 ⟨rfl, hb1⟩
  go_wp2_with fail
  go_ret
  exact ⟨rfl, below_new hb1⟩
end Go.Proofs.Ytcfmnlpbpihllaa
