/- The walks of cmp.Compare, cmp.Or, strings.Compare and value.whole. -/
import Derived.Test.YtcfmnlpbpihllaaVal1
import Derived.WalkKit
import Derived.WalkLawsBesides
import Derived.WalkSpells
import Derived.Lib.Hide
import Derived.Laws.ComplexArith
import Derived.Lib.Bytealg
import Derived.Outline
namespace Go.Proofs.Ytcfmnlpbpihllaa
open Go.RowKit
set_option linter.unusedVariables false
/-- less, equal or greater, as Go says it -/
def cmpI (a b : Int) : Int := if a < b then -1 else if b < a then 1 else 0

theorem isNaNInt_any (a : Int) (w : World) : Calls Try.prog 27 #[.int .i64 a] w fun e w' => e = .returned (.bool false) ∧ w = w' := by
  go_enter Try.func27, Try.ntmps27
  go_wp2
  go_ret
  exact ⟨rfl, rfl⟩

theorem CompareInt_any (a b : Int) (w : World) : Calls Try.prog 21 #[.int .i64 a, .int .i64 b] w fun e w' => e = .returned (.int .i64 (cmpI a b)) ∧ w = w' := by
  by_cases h1 : a < b
  · have e : cmpI a b = -1 := if_pos h1
    rw [e]; clear e
    go_enter Try.func21, Try.ntmps21
    go_wp2_with (go_at_call 27; refine (isNaNInt_any _ _).mono ?_; rintro e w' ⟨rfl, rfl⟩)
    go_ret
    exact ⟨rfl, rfl⟩
  · by_cases h2 : b < a
    · have e : cmpI a b = 1 := by unfold cmpI; rw [if_neg h1, if_pos h2]
      rw [e]; clear e
      go_enter Try.func21, Try.ntmps21
      go_wp2_with (go_at_call 27; refine (isNaNInt_any _ _).mono ?_; rintro e w' ⟨rfl, rfl⟩)
      go_ret
      exact ⟨rfl, rfl⟩
    · have e : cmpI a b = 0 := by unfold cmpI; rw [if_neg h1, if_neg h2]
      rw [e]; clear e
      go_enter Try.func21, Try.ntmps21
      go_wp2_with (go_at_call 27; refine (isNaNInt_any _ _).mono ?_; rintro e w' ⟨rfl, rfl⟩)
      go_ret
      exact ⟨rfl, rfl⟩

theorem order_self {x : Nat} {a : Int} (h : Wfl.FInt x a) : FloatKind.f64.format.order x x = some .eq := by
  have := h.order h
  rw [show FloatKind.f64.format = Ieee.double from rfl, this]
  simp [compare, compareOfLessAndEq]
theorem isNaNFloat_int (x : Nat) (a : Int) (h : Wfl.FInt x a) (w : World) : Calls Try.prog 29 #[.float .f64 x] w fun e w' => e = .returned (.bool false) ∧ w = w' := by
  have hs := order_self h
  go_enter Try.func29, Try.ntmps29
  go_wp2
  go_ret
  exact ⟨rfl, rfl⟩
theorem order_fint {x y : Nat} {a b : Int} (h : Wfl.FInt x a) (k : Wfl.FInt y b) : FloatKind.f64.format.order x y = some (if a < b then .lt else if b < a then .gt else .eq) := by
  have := h.order k
  rw [show FloatKind.f64.format = Ieee.double from rfl, this]
  congr 1
  simp only [compare, compareOfLessAndEq]
  by_cases h1 : a < b
  · rw [if_pos h1, if_pos h1]
  · rw [if_neg h1, if_neg h1]
    by_cases h2 : b < a
    · rw [if_neg (by omega), if_pos h2]
    · rw [if_pos (by omega), if_neg h2]
theorem CompareFloat_int (x y : Nat) (a b : Int) (h : Wfl.FInt x a) (k : Wfl.FInt y b) (w : World) : Calls Try.prog 23 #[.float .f64 x, .float .f64 y] w fun e w' => e = .returned (.int .i64 (cmpI a b)) ∧ w = w' := by
  have ho := order_fint h k
  have n1 := Lib.hid (isNaNFloat_int x a h)
  have n2 := Lib.hid (isNaNFloat_int y b k)
  clear h k
  unfold cmpI
  by_cases h1 : a < b
  · rw [if_pos h1] at ho ⊢
    go_enter Try.func23, Try.ntmps23
    go_wp2_with fail
    refine (n1.out _).mono ?_; rintro e w' ⟨rfl, rfl⟩
    go_wp2_with fail
    refine (n2.out _).mono ?_; rintro e w' ⟨rfl, rfl⟩
    go_wp2_with fail
    go_ret
    exact ⟨rfl, rfl⟩
  · rw [if_neg h1] at ho ⊢
    by_cases h2 : b < a
    · rw [if_pos h2] at ho ⊢
      go_enter Try.func23, Try.ntmps23
      go_wp2_with fail
      refine (n1.out _).mono ?_; rintro e w' ⟨rfl, rfl⟩
      go_wp2_with fail
      refine (n2.out _).mono ?_; rintro e w' ⟨rfl, rfl⟩
      go_wp2_with fail
      go_ret
      exact ⟨rfl, rfl⟩
    · rw [if_neg h2] at ho ⊢
      go_enter Try.func23, Try.ntmps23
      go_wp2_with fail
      refine (n1.out _).mono ?_; rintro e w' ⟨rfl, rfl⟩
      go_wp2_with fail
      refine (n2.out _).mono ?_; rintro e w' ⟨rfl, rfl⟩
      go_wp2_with fail
      go_ret
      exact ⟨rfl, rfl⟩

theorem CompareString_any (a b : ByteArray) (w : World) : Calls Try.prog 28 #[.string a, .string b] w fun e w' => e = .returned (.int .i64 (Lib.compareBytes a.data.toList b.data.toList)) ∧ w = w' := by
  go_enter Try.func28, Try.ntmps28
  go_wp2
  rw [run_callFunc_extern Try.func31 (by kernel_rfl) (by kernel_rfl) (by kernel_rfl) (e := Extern.BytealgCompare.compare) (by kernel_rfl), Lib.run_compareString]
  simp only [Result.andThen]
  rw [Oper.upon_value]
  go_wp2
  go_ret
  exact ⟨rfl, rfl⟩
theorem CompareStr_any (a b : ByteArray) (w : World) : Calls Try.prog 22 #[.string a, .string b] w fun e w' => e = .returned (.int .i64 (Lib.compareBytes a.data.toList b.data.toList)) ∧ w = w' := by
  go_enter Try.func22, Try.ntmps22
  go_wp2_with (go_at_call 28; refine (CompareString_any _ _ _).mono ?_; rintro e w' ⟨rfl, rfl⟩)
  go_ret
  exact ⟨rfl, rfl⟩

/-! ### cmp.Or over numbers in memory -/
def firstNZ : List Int → Int
  | [] => 0
  | x :: r => if x = 0 then firstNZ r else x
theorem firstNZ_drop (xs : List Int) (k : Nat) (h : k < xs.length) : firstNZ (xs.drop k) = if xs[k] = 0 then firstNZ (xs.drop (k + 1)) else xs[k] := by
  rw [List.drop_eq_getElem_cons h]
  rfl
theorem Or_any (xs : List Int) (a : Addr) (n c : Nat) (hn : xs.length = n) (w : World) (hm : n ≤ 9223372036854775807)
    (hc : ∀ j (h : j < xs.length), w.cell? (a.add j) = some (.int .i64 xs[j])) :
    Calls Try.prog 20 #[.slice (some a) n c] w fun e w' => e = .returned (.int .i64 (firstNZ xs)) ∧ w = w' := by
  subst hn
  have HC := Lib.hid hc
  clear hc
  go_enter Try.func20, Try.ntmps20
  go_wp2
  go_loop [8] (fun i => ∃ k : Nat, k ≤ xs.length ∧ i = .int .i64 k ∧ Hid (firstNZ (xs.drop k) = firstNZ xs)) (fun i => xs.length - (intOf i).toNat)
  case atStart => exact ⟨0, Nat.zero_le _, rfl, Lib.hid (by simp)⟩
  case round =>
    obtain ⟨k, hk, rfl, hf⟩ := hrel
    by_cases hlt : k < xs.length
    · have hcell := HC.out k hlt
      have hd := Lib.hid (firstNZ_drop xs k hlt)
      obtain ⟨x, hx⟩ : ∃ x, x = xs[k] := ⟨_, rfl⟩
      rw [← hx] at hcell
      have HX := Lib.hid hx
      clear hx
      by_cases h0 : x = 0
      · have hb : (x != 0) = false := by simp [h0]
        have H0 := Lib.hid h0
        clear h0
        go_wp2
        go_round
        case rel => exact ⟨k + 1, by omega, by go_num, by have := hd.out; rw [← HX.out, if_pos H0.out] at this; exact Lib.hid (this.symm.trans hf.out)⟩
        case measure => simp [intOf]; omega
      · have hb : (x != 0) = true := by simp [h0]
        go_wp2
        go_ret
        exact ⟨by rw [← hf.out, hd.out, ← HX.out, if_neg h0]; rfl, rfl⟩
    · go_wp2
      go_ret
      have hk' : k = xs.length := by omega
      exact ⟨by rw [← hf.out, hk', List.drop_length]; rfl, rfl⟩
end Go.Proofs.Ytcfmnlpbpihllaa
