/- Pairs of whole numbers modulo 2^21 are a ring with a conjugation: the plain law behind ValueRing. -/
import Derived.Test.YtcfmnlpbpihllaaWrapI
namespace Go.Proofs.Ytcfmnlpbpihllaa.Wv
set_option linter.unusedVariables false
def tr (a b c d : Int) : Int := wrapI (a * c - b * d)
def ti (a b c d : Int) : Int := wrapI (a * d + b * c)
theorem wk (n : Int) : ∃ k, wrapI n = n - 2097152 * k := by
  obtain ⟨k, hk⟩ := Int.dvd_of_emod_eq_zero (wrapI_mod n)
  exact ⟨k, by omega⟩
theorem wrapI_eq_of {n m : Int} (k : Int) (h : n = m + 2097152 * k) : wrapI n = wrapI m := by
  refine wrapI_congr ?_
  rw [show n - m = 2097152 * k by omega]
  exact Int.mul_emod_right _ _
theorem tr_comm (a b c d : Int) : tr a b c d = tr c d a b := by
  unfold tr
  exact wrapI_eq_of 0 (by grind)
theorem ti_comm (a b c d : Int) : ti a b c d = ti c d a b := by
  unfold ti
  exact wrapI_eq_of 0 (by grind)
theorem tr_assoc (a b c d e f : Int) : tr (tr a b c d) (ti a b c d) e f = tr a b (tr c d e f) (ti c d e f) := by
  unfold tr ti
  obtain ⟨k1, h1⟩ := wk (a * c - b * d)
  obtain ⟨k2, h2⟩ := wk (a * d + b * c)
  obtain ⟨k3, h3⟩ := wk (c * e - d * f)
  obtain ⟨k4, h4⟩ := wk (c * f + d * e)
  rw [h1, h2, h3, h4]
  exact wrapI_eq_of (-k1 * e + k2 * f + a * k3 - b * k4) (by grind)
theorem ti_assoc (a b c d e f : Int) : ti (tr a b c d) (ti a b c d) e f = ti a b (tr c d e f) (ti c d e f) := by
  unfold tr ti
  obtain ⟨k1, h1⟩ := wk (a * c - b * d)
  obtain ⟨k2, h2⟩ := wk (a * d + b * c)
  obtain ⟨k3, h3⟩ := wk (c * e - d * f)
  obtain ⟨k4, h4⟩ := wk (c * f + d * e)
  rw [h1, h2, h3, h4]
  exact wrapI_eq_of (-k1 * f - k2 * e + a * k4 + b * k3) (by grind)
theorem tr_over (a b c d e f : Int) : tr a b (wrapI (c + e)) (wrapI (d + f)) = wrapI (tr a b c d + tr a b e f) := by
  unfold tr
  obtain ⟨k1, h1⟩ := wk (c + e)
  obtain ⟨k2, h2⟩ := wk (d + f)
  obtain ⟨k3, h3⟩ := wk (a * c - b * d)
  obtain ⟨k4, h4⟩ := wk (a * e - b * f)
  rw [h1, h2, h3, h4]
  exact wrapI_eq_of (-a * k1 + b * k2 + k3 + k4) (by grind)
theorem ti_over (a b c d e f : Int) : ti a b (wrapI (c + e)) (wrapI (d + f)) = wrapI (ti a b c d + ti a b e f) := by
  unfold ti
  obtain ⟨k1, h1⟩ := wk (c + e)
  obtain ⟨k2, h2⟩ := wk (d + f)
  obtain ⟨k3, h3⟩ := wk (a * d + b * c)
  obtain ⟨k4, h4⟩ := wk (a * f + b * e)
  rw [h1, h2, h3, h4]
  exact wrapI_eq_of (-a * k2 - b * k1 + k3 + k4) (by grind)
theorem tr_conj (a b c d : Int) : tr a b c d = tr a (wrapI (-b)) c (wrapI (-d)) := by
  unfold tr
  obtain ⟨k1, h1⟩ := wk (-b)
  obtain ⟨k2, h2⟩ := wk (-d)
  rw [h1, h2]
  exact wrapI_eq_of (b * k2 + k1 * d + 2097152 * k1 * k2) (by grind)
theorem ti_conj (a b c d : Int) : wrapI (-(ti a b c d)) = ti a (wrapI (-b)) c (wrapI (-d)) := by
  unfold ti
  obtain ⟨k1, h1⟩ := wk (-b)
  obtain ⟨k2, h2⟩ := wk (-d)
  obtain ⟨k3, h3⟩ := wk (a * d + b * c)
  rw [h1, h2, h3]
  exact wrapI_eq_of (k3 + a * k2 + k1 * c) (by grind)
theorem conj_again {b : Int} (h1 : -1048576 ≤ b) (h2 : b < 1048576) : wrapI (-(wrapI (-b))) = b := by
  obtain ⟨k1, e1⟩ := wk (-b)
  rw [e1, wrapI_eq_of (m := b) k1 (by grind)]
  exact wrapI_id h1 h2
end Go.Proofs.Ytcfmnlpbpihllaa.Wv
