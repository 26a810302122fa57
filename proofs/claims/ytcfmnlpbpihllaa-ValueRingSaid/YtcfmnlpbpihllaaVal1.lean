/- The walks of value.wrap and value.Point. -/
import Derived.Test.YtcfmnlpbpihllaaRows
import Derived.Test.YtcfmnlpbpihllaaAp
import Derived.Test.YtcfmnlpbpihllaaFl
import Derived.Test.YtcfmnlpbpihllaaWrapI
import Derived.WalkKit
import Derived.WalkLawsBesides
import Derived.WalkSpells
import Derived.Lib.Hide
import Derived.Laws.ComplexArith
import Derived.Outline
namespace Go.Proofs.Ytcfmnlpbpihllaa
open Go.RowKit
set_option linter.unusedVariables false
/-- the float word of an integer -/
abbrev F (n : Int) : Nat := floatOfInt .f64 n
theorem F_int {n : Int} (hn : n.natAbs < 2 ^ 53) : Wfl.FInt (F n) n := Wfl.FInt.nearest hn
/-- a point's value -/
abbrev PV (a b : Int) : Value := .agg #[.int .i64 5, .int .i64 0, .string ⟨#[]⟩, .complex .f64 (F a) (F b), .slice none 0 0]

theorem ret_float {k : FloatKind} {a b : Nat} (h : a = b) : Ending.returned (.float k a) = .returned (.float k b) := by rw [h]

theorem wrap_any (n : Int) (w : World) (h1 : -9223372036854775808 ≤ n) (h2 : n ≤ 9223372036854775807) :
    Calls Try.prog 12 #[.int .i64 n] w fun e w' => e = .returned (.float .f64 (F (Wv.wrapI n))) ∧ w = w' := by
  have hb := Wv.bits_and_mask21 n
  go_enter Try.func12, Try.ntmps12
  go_wp2
  · have h : 1048576 ≤ n % 2097152 := by assumption
    go_ret
    exact ⟨ret_float (by rw [show Wv.wrapI n = n % 2097152 - 2097152 from if_pos h]), rfl⟩
  · have h : n % 2097152 < 1048576 := by assumption
    go_ret
    exact ⟨ret_float (by rw [show Wv.wrapI n = n % 2097152 from if_neg (by omega)]), rfl⟩

theorem Point_any (a b : Int) (w : World) (h1 : -9223372036854775808 ≤ a) (h2 : a ≤ 9223372036854775807) (h3 : -9223372036854775808 ≤ b) (h4 : b ≤ 9223372036854775807) :
    Calls Try.prog 5 #[.int .i64 a, .int .i64 b] w fun e w' => e = .returned (PV (Wv.wrapI a) (Wv.wrapI b)) ∧ Below w.heap.size w w' := by
  go_enter Try.func5, Try.ntmps5
  go_wp2_with fail
  refine (wrap_any a _ h1 h2).mono ?_
  rintro e w' ⟨rfl, rfl⟩
  go_wp2_with fail
  refine (wrap_any b _ h3 h4).mono ?_
  rintro e w' ⟨rfl, rfl⟩
  go_wp2_with fail
  exact bodyPost_ret (v := PV (Wv.wrapI a) (Wv.wrapI b)) (by simp [results, Try.results5, go_sem]) rfl ⟨rfl, (Below.refl _ _).alloc (Nat.le_refl _) _⟩
end Go.Proofs.Ytcfmnlpbpihllaa
