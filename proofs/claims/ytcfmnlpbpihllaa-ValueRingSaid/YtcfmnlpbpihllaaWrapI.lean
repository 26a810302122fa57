/- A whole number modulo 2^21, as a plain function. -/
import Derived.Laws.BitsLemmas
namespace Go.Proofs.Ytcfmnlpbpihllaa.Wv
/-- a whole number brought into -2^20 .. 2^20 - 1 -/
def wrapI (n : Int) : Int := if n % 2097152 ≥ 1048576 then n % 2097152 - 2097152 else n % 2097152
theorem bits_and_mask21 (n : Int) : bits .and .i64 n 2097151 = n % 2097152 := by
  have e : (BitVec.ofInt 64 n &&& BitVec.ofInt 64 2097151).toNat = (n % 2097152).toNat := by
    rw [BitVec.toNat_and]
    have h1 : (BitVec.ofInt 64 n).toNat = (n % 18446744073709551616).toNat := by simp [BitVec.toNat_ofInt]
    have h2 : (BitVec.ofInt 64 2097151).toNat = 2 ^ 21 - 1 := by decide
    rw [h1, h2, Nat.and_two_pow_sub_one_eq_mod]
    omega
  show IntKind.i64.wrap ((BitVec.ofInt 64 n &&& BitVec.ofInt 64 2097151).toNat : Int) = _
  rw [e, IntKind.wrap_i64]
  omega
theorem wrapI_range (n : Int) : -1048576 ≤ wrapI n ∧ wrapI n < 1048576 := by unfold wrapI; split <;> omega
theorem wrapI_id {n : Int} (h1 : -1048576 ≤ n) (h2 : n < 1048576) : wrapI n = n := by unfold wrapI; split <;> omega
theorem wrapI_mod (n : Int) : (n - wrapI n) % 2097152 = 0 := by unfold wrapI; split <;> omega
theorem wrapI_unique {n m : Int} (h1 : -1048576 ≤ m) (h2 : m < 1048576) (h : (n - m) % 2097152 = 0) : wrapI n = m := by unfold wrapI; split <;> omega
theorem wrapI_congr {n m : Int} (h : (n - m) % 2097152 = 0) : wrapI n = wrapI m := by unfold wrapI; split <;> split <;> omega
end Go.Proofs.Ytcfmnlpbpihllaa.Wv
