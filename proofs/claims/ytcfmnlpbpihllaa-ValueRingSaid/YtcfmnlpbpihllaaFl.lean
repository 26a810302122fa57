/- Whole numbers in the words of double precision: sums, differences, products below 2^53 are exact. -/
import Ieee.Arith
namespace Go.Proofs.Ytcfmnlpbpihllaa.Wfl
open Ieee
/-- a sign and a magnitude as an integer -/
def sg (s : Bool) (m : Nat) : Int := if s then -(m : Int) else (m : Int)
theorem sg_natAbs (s : Bool) (m : Nat) : (sg s m).natAbs = m := by unfold sg; split <;> simp
/-- 'sg s m * 2 ^ i' is the integer n; E is any bound below which i doesn't go -/
def Val (s : Bool) (m : Nat) (i : Int) (n : Int) : Prop := ∃ E : Nat, -(E : Int) ≤ i ∧ sg s m * 2 ^ (i + E).toNat = n * 2 ^ E
theorem two_pow_pos' (k : Nat) : (0 : Int) < 2 ^ k := by have := Nat.two_pow_pos k; exact_mod_cast this
theorem Val.more {s m i n} {E : Nat} (hE : -(E : Int) ≤ i) (h : sg s m * 2 ^ (i + E).toNat = n * 2 ^ E) (k : Nat) : sg s m * 2 ^ (i + (E + k : Nat)).toNat = n * 2 ^ (E + k) := by
  have e : (i + (E + k : Nat)).toNat = (i + E).toNat + k := by omega
  rw [e, Int.pow_add, Int.pow_add, ← Int.mul_assoc, h, Int.mul_assoc]
theorem Val.less {s m i n} {E k : Nat} (hE : -(E : Int) ≤ i) (h : sg s m * 2 ^ (i + (E + k : Nat)).toNat = n * 2 ^ (E + k)) : sg s m * 2 ^ (i + E).toNat = n * 2 ^ E := by
  have e : (i + (E + k : Nat)).toNat = (i + E).toNat + k := by omega
  rw [e, Int.pow_add, Int.pow_add, ← Int.mul_assoc, ← Int.mul_assoc] at h
  exact Int.eq_of_mul_eq_mul_right (Int.ne_of_gt (two_pow_pos' k)) h
theorem Val.at_ {s m i n} (h : Val s m i n) (E : Nat) (hE : -(E : Int) ≤ i) : sg s m * 2 ^ (i + E).toNat = n * 2 ^ E := by
  obtain ⟨D, hD, hd⟩ := h
  rcases Nat.le_total D E with hle | hle
  · obtain ⟨k, rfl⟩ := Nat.exists_eq_add_of_le hle
    exact Val.more hD hd k
  · obtain ⟨k, rfl⟩ := Nat.exists_eq_add_of_le hle
    exact Val.less hE hd
/-- in magnitudes -/
theorem Val.abs {s m i n} (h : Val s m i n) (E : Nat) (hE : -(E : Int) ≤ i) : m * 2 ^ (i + E).toNat = n.natAbs * 2 ^ E := by
  have := congrArg Int.natAbs (h.at_ E hE)
  simpa [Int.natAbs_mul, sg_natAbs, Int.natAbs_pow] using this
theorem Val.sgn {s m i n} (h : Val s m i n) : n = sg s n.natAbs := by
  obtain ⟨E, hE, he⟩ := h
  have h2 : (0 : Int) < 2 ^ (i + E).toNat := two_pow_pos' _
  have h3 : (0 : Int) < 2 ^ E := two_pow_pos' _
  cases s with
  | false =>
    have : 0 ≤ n * 2 ^ E := by rw [← he]; exact Int.mul_nonneg (by simp [sg]) (Int.le_of_lt h2)
    have : 0 ≤ n := by
      rcases Int.lt_or_le n 0 with hn | hn
      · have := Int.mul_neg_of_neg_of_pos hn h3; omega
      · exact hn
    simp [sg]; omega
  | true =>
    have : n * 2 ^ E ≤ 0 := by rw [← he]; exact Int.mul_nonpos_of_nonpos_of_nonneg (by simp [sg]) (Int.le_of_lt h2)
    have : n ≤ 0 := by
      rcases Int.lt_or_le 0 n with hn | hn
      · have := Int.mul_pos hn h3; omega
      · exact hn
    simp [sg]; omega
theorem Val.of_nat {s m i n} (E : Nat) (hE : -(E : Int) ≤ i) (h : m * 2 ^ (i + E).toNat = n * 2 ^ E) : Val s m i (sg s n) := by
  refine ⟨E, hE, ?_⟩
  have h' : (m : Int) * 2 ^ (i + E).toNat = (n : Int) * 2 ^ E := by exact_mod_cast h
  cases s
  · simp [sg, h']
  · simp only [sg, if_true, Int.neg_mul, h']
/-- the word x stands for the integer n -/
def FInt (x : Nat) (n : Int) : Prop := ∃ s m i, double.read x = .number s m i ∧ -1074 ≤ i ∧ Val s m i n

theorem lt_pow_log2 (m : Nat) : m < 2 ^ (m.log2 + 1) := Nat.lt_log2_self
theorem log2_unique {a k : Nat} (h1 : 2 ^ k ≤ a) (h2 : a < 2 ^ (k + 1)) : a.log2 = k := by
  have ha : a ≠ 0 := by have := Nat.two_pow_pos k; omega
  have l1 : k ≤ a.log2 := (Nat.le_log2 ha).2 h1
  have l2 : a.log2 < k + 1 := (Nat.log2_lt ha).2 h2
  omega
theorem log2_mul_pow (a k : Nat) (ha : a ≠ 0) : (a * 2 ^ k).log2 = a.log2 + k := by
  apply log2_unique
  · rw [Nat.pow_add]; exact Nat.mul_le_mul_right _ (Nat.log2_self_le ha)
  · rw [show a.log2 + k + 1 = (a.log2 + 1) + k by omega, Nat.pow_add]
    exact Nat.mul_lt_mul_of_pos_right (lt_pow_log2 a) (Nat.two_pow_pos k)
theorem cut_exact (way : Toward) (neg : Bool) (q d : Nat) (h : q = 0 ∨ d ≤ (q * 2 ^ d).log2 + 2) : way.cut neg (q * 2 ^ d) d = q := by
  unfold Toward.cut
  rcases h with h | h
  · subst h
    simp only [Nat.zero_mul, Nat.zero_div, Nat.zero_mod, Nat.mul_zero]
    cases way <;> simp
  · have hg : 1 <<< min d ((q * 2 ^ d).log2 + 2) = 2 ^ d := by rw [Nat.min_eq_left h, Nat.shiftLeft_eq, Nat.one_mul]
    simp only [hg]
    have hp := Nat.two_pow_pos d
    have e1 : q * 2 ^ d / 2 ^ d = q := Nat.mul_div_cancel _ hp
    have e2 : q * 2 ^ d % 2 ^ d = 0 := Nat.mul_mod_left _ _
    rw [e1, e2]
    have h0 : ((2 ^ d : Nat) == 2 * 0) = false := by simp
    cases way <;> simp [h0]
theorem read_word (s : Bool) (r : Nat) (h : r < double.infRung) : double.read (double.word s r) = if r < double.binade then .number s r double.leastPlace else .number s (double.binade + r % double.binade) (double.leastPlace + (r / double.binade - 1 : Nat)) := by
  have hs : double.signWeight = 2 ^ 63 := rfl
  have hi : double.infRung = 2047 * 2 ^ 52 := rfl
  have e1 : (double.word s r / double.signWeight % 2 == 1) = s := by
    unfold Format.word
    rw [hs]
    cases s
    · simp; omega
    · simp; omega
  have e2 : double.word s r % double.signWeight = r := by
    unfold Format.word
    rw [hs]
    cases s
    · simp; omega
    · simp; omega
  unfold Format.read
  simp only [e1, e2]
  rw [if_pos h]
theorem place_eq (d : Nat) (h : d ≤ 52) : (-1074 : Int) + ((1074 - d + 1 - 1 : Nat) : Int) = -(d : Int) := by omega
theorem rung_facts (R q : Nat) (hR : R ≤ 1074) (h1 : 4503599627370496 ≤ q) (h2 : q < 9007199254740992) : R * 4503599627370496 + q < 2047 * 4503599627370496 ∧ ¬ (R * 4503599627370496 + q < 4503599627370496) ∧ (R * 4503599627370496 + q) % 4503599627370496 = q - 4503599627370496 ∧ (R * 4503599627370496 + q) / 4503599627370496 = R + 1 := by
  refine ⟨?_, ?_, ?_, ?_⟩ <;> omega
theorem write_val {s m i n} (h : Val s m i n) (hn : n.natAbs < 2 ^ 53) : FInt (double.write (.number s m i)) n := by
  have hb : double.binade = 2 ^ 52 := rfl
  have hl : double.leastPlace = -1074 := rfl
  have hi : double.infRung = 2047 * 2 ^ 52 := rfl
  have hf : double.fractionBits = 52 := rfl
  obtain ⟨E0, hE0, _⟩ := id h
  have hE : -((E0 + 1074 : Nat) : Int) ≤ i := by omega
  have habs := h.abs (E0 + 1074) hE
  generalize hEE : E0 + 1074 = E at *
  have hsg := h.sgn
  show FInt (double.nearest s m i) n
  unfold Format.nearest
  by_cases hm : m = 0
  · rw [if_pos hm]
    subst hm
    have h0 : n.natAbs = 0 := by
      have := Nat.two_pow_pos E
      rw [Nat.zero_mul] at habs
      rcases Nat.mul_eq_zero.1 habs.symm with h | h
      · exact h
      · omega
    refine ⟨s, 0, -1074, ?_, by omega, ?_⟩
    · rw [read_word _ _ (by rw [hi]; omega), if_pos (by rw [hb]; omega), hl]
    · have : n = 0 := by omega
      subst this
      refine ⟨1074, by omega, ?_⟩
      rw [show sg s 0 = 0 by cases s <;> rfl, Int.zero_mul, Int.zero_mul]
  · rw [if_neg hm]
    have hna : n.natAbs ≠ 0 := by
      intro h0
      rw [h0, Nat.zero_mul] at habs
      rcases Nat.mul_eq_zero.1 habs with h | h
      · exact hm h
      · have := Nat.two_pow_pos (i + (E : Int)).toNat; omega
    have hlog : m.log2 + (i + (E : Int)).toNat = n.natAbs.log2 + E := by
      rw [← log2_mul_pow m _ hm, ← log2_mul_pow n.natAbs _ hna, habs]
    have hnl : n.natAbs.log2 ≤ 52 := by
      have := (Nat.log2_lt hna).2 hn
      omega
    have hsum : i + (m.log2 : Int) = (n.natAbs.log2 : Int) := by omega
    -- the last place
    obtain ⟨d, hd⟩ : ∃ d : Nat, d = 52 - n.natAbs.log2 := ⟨_, rfl⟩
    have hlast : max (i + (m.log2 : Int) - (double.fractionBits : Nat)) double.leastPlace = -(d : Int) := by
      rw [hf, hl, hsum]; omega
    have hk1 : 2 ^ 52 ≤ n.natAbs * 2 ^ d := by
      have h1 := Nat.log2_self_le hna
      have : 2 ^ n.natAbs.log2 * 2 ^ d = 2 ^ 52 := by rw [← Nat.pow_add]; congr 1; omega
      rw [← this]; exact Nat.mul_le_mul_right _ h1
    have hk2 : n.natAbs * 2 ^ d < 2 ^ 53 := by
      have h1 := lt_pow_log2 n.natAbs
      have : 2 ^ (n.natAbs.log2 + 1) * 2 ^ d = 2 ^ 53 := by rw [← Nat.pow_add]; congr 1; omega
      rw [← this]; exact Nat.mul_lt_mul_of_pos_right h1 (Nat.two_pow_pos _)
    have hkept : Toward.even.cut s (m <<< (i - -(d : Int)).toNat) (-(d : Int) - i).toNat = n.natAbs * 2 ^ d := by
      rw [Nat.shiftLeft_eq]
      rcases Int.le_total (-(d : Int)) i with hle | hle
      · have e0 : (-(d : Int) - i).toNat = 0 := by omega
        rw [e0]
        have e1 : m * 2 ^ (i - -(d : Int)).toNat = n.natAbs * 2 ^ d := by
          have hh := h.abs d (by omega)
          rw [show (i - -(d : Int)) = i + d by omega]
          exact hh
        rw [e1]
        have := cut_exact .even s (n.natAbs * 2 ^ d) 0 (.inr (by omega))
        simpa using this
      · have e0 : (i - -(d : Int)).toNat = 0 := by omega
        rw [e0, Nat.pow_zero, Nat.mul_one]
        obtain ⟨j, hj⟩ : ∃ j : Nat, i = -(j : Int) := ⟨(-i).toNat, by omega⟩
        have e2 : m = n.natAbs * 2 ^ d * 2 ^ (-(d : Int) - i).toNat := by
          have hh := h.abs j (by omega)
          rw [show (i + (j : Int)).toNat = 0 by omega, Nat.pow_zero, Nat.mul_one] at hh
          rw [hh, Nat.mul_assoc, ← Nat.pow_add]
          congr 2
          omega
        have hle2 : (-(d : Int) - i).toNat ≤ m.log2 + 2 := by
          have : m.log2 = n.natAbs.log2 + d + (-(d : Int) - i).toNat := by omega
          omega
        have hc := cut_exact .even s (n.natAbs * 2 ^ d) (-(d : Int) - i).toNat (.inr (by rw [← e2]; exact hle2))
        rw [← e2] at hc
        exact hc
    simp only [hlast, hkept]
    have hR : 1074 - d ≤ 1074 := Nat.sub_le _ _
    have P52 : (2 : Nat) ^ 52 = 4503599627370496 := by decide
    have P53 : (2 : Nat) ^ 53 = 9007199254740992 := by decide
    rw [P52] at hk1 hb hi
    rw [P53] at hk2
    obtain ⟨f1, f2, f3, f4⟩ := rung_facts (1074 - d) (n.natAbs * 2 ^ d) hR hk1 hk2
    have hd52 : d ≤ 52 := by omega
    have hmin : min ((-(d : Int) - double.leastPlace).toNat * double.binade + n.natAbs * 2 ^ d) double.infRung = (1074 - d) * 4503599627370496 + n.natAbs * 2 ^ d := by
      have : (-(d : Int) - -1074).toNat = 1074 - d := by omega
      rw [hl, hb, hi, this]
      exact Nat.min_eq_left (Nat.le_of_lt f1)
    rw [hmin]
    refine ⟨s, n.natAbs * 2 ^ d, -(d : Int), ?_, by omega, ?_⟩
    · rw [read_word _ _ (by rw [hi]; exact f1), if_neg (by rw [hb]; exact f2), hb, hl, f3, f4]
      have e1 : 4503599627370496 + (n.natAbs * 2 ^ d - 4503599627370496) = n.natAbs * 2 ^ d := Nat.add_sub_of_le hk1
      rw [e1]
      rw [place_eq d hd52]
    · rw [hsg]
      have e : (-(d : Int) + (d : Int)).toNat = 0 := by omega
      have := Val.of_nat (s := s) (m := n.natAbs * 2 ^ d) (i := -(d : Int)) (n := n.natAbs) d (by omega) (by rw [e]; simp)
      simpa [sg_natAbs] using this
/-- reading gives whole places only -/
theorem FInt.nearest {n : Int} (hn : n.natAbs < 2 ^ 53) : FInt (double.write (.number (decide (n < 0)) n.natAbs 0)) n := by
  refine write_val ?_ hn
  refine ⟨0, by omega, ?_⟩
  simp [sg]
  omega
theorem signed_eq (s : Bool) (m k : Nat) : signed s m k = sg s m * 2 ^ k := by
  unfold signed sg
  rw [Nat.shiftLeft_eq]
  split <;> simp [Int.neg_mul]
theorem FInt.total {s m i a t n j b} (h1 : -1074 ≤ i) (ha : Val s m i a) (h2 : -1074 ≤ j) (hb : Val t n j b) :
    (signed s m (i - min i j).toNat + signed t n (j - min i j).toNat) * 2 ^ (min i j + (1074 : Nat)).toNat = (a + b) * 2 ^ 1074 := by
  have ea := ha.at_ 1074 (by omega)
  have eb := hb.at_ 1074 (by omega)
  rw [signed_eq, signed_eq, Int.add_mul, Int.mul_assoc, Int.mul_assoc, ← Int.pow_add, ← Int.pow_add, Int.add_mul]
  have x1 : (i - min i j).toNat + (min i j + (1074 : Nat)).toNat = (i + (1074 : Nat)).toNat := by omega
  have x2 : (j - min i j).toNat + (min i j + (1074 : Nat)).toNat = (j + (1074 : Nat)).toNat := by omega
  rw [x1, x2, ea, eb]
theorem sg_of_int (T : Int) (s : Bool) (h : s = decide (T < 0) ∨ T = 0) : sg s T.natAbs = T := by
  unfold sg
  rcases h with rfl | rfl
  · by_cases h : T < 0
    · simp [h]; omega
    · simp [h]; omega
  · simp
theorem FInt.add {x y a b} (hx : FInt x a) (hy : FInt y b) (h : (a + b).natAbs < 2 ^ 53) : ∃ z, double.add x y = some z ∧ FInt z (a + b) := by
  obtain ⟨s, m, i, hr, hi, ha⟩ := hx
  obtain ⟨t, n, j, hq, hj, hb⟩ := hy
  refine ⟨_, by simp only [Format.add, hr, hq, Datum.sum, Option.map_some]; rfl, ?_⟩
  refine write_val ⟨1074, by omega, ?_⟩ h
  rw [sg_of_int _ _ (by by_cases h0 : signed s m (i - min i j).toNat + signed t n (j - min i j).toNat = 0
                        · exact .inr h0
                        · exact .inl (by rw [if_neg h0]))]
  exact FInt.total hi ha hj hb
theorem Val.opp {s m i n} (h : Val s m i n) : Val (!s) m i (-n) := by
  obtain ⟨E, hE, he⟩ := h
  refine ⟨E, hE, ?_⟩
  have : sg (!s) m = -sg s m := by cases s <;> simp [sg]
  rw [this, Int.neg_mul, Int.neg_mul, he]
theorem FInt.sub {x y a b} (hx : FInt x a) (hy : FInt y b) (h : (a - b).natAbs < 2 ^ 53) : ∃ z, double.sub x y = some z ∧ FInt z (a - b) := by
  obtain ⟨s, m, i, hr, hi, ha⟩ := hx
  obtain ⟨t, n, j, hq, hj, hb⟩ := hy
  refine ⟨_, by simp only [Format.sub, hr, hq, Datum.opposite, Datum.sum, Option.map_some]; rfl, ?_⟩
  refine write_val ⟨1074, by omega, ?_⟩ h
  rw [sg_of_int _ _ (by by_cases h0 : signed s m (i - min i j).toNat + signed (!t) n (j - min i j).toNat = 0
                        · exact .inr h0
                        · exact .inl (by rw [if_neg h0]))]
  exact FInt.total hi ha hj hb.opp
theorem FInt.mul {x y a b} (hx : FInt x a) (hy : FInt y b) (h : (a * b).natAbs < 2 ^ 53) : ∃ z, double.mul x y = some z ∧ FInt z (a * b) := by
  obtain ⟨s, m, i, hr, hi, ha⟩ := hx
  obtain ⟨t, n, j, hq, hj, hb⟩ := hy
  refine ⟨_, by simp only [Format.mul, hr, hq, Datum.product, Option.map_some]; rfl, ?_⟩
  refine write_val ⟨1074 + 1074, by omega, ?_⟩ h
  have ea := ha.at_ 1074 (by omega)
  have eb := hb.at_ 1074 (by omega)
  have e : (i + j + (1074 + 1074 : Nat)).toNat = (i + (1074 : Nat)).toNat + (j + (1074 : Nat)).toNat := by omega
  have es : sg (s ^^ t) (m * n) = sg s m * sg t n := by cases s <;> cases t <;> simp [sg, Int.neg_mul, Int.mul_neg]
  rw [e, es, Int.pow_add, Int.pow_add]
  have : sg s m * sg t n * (2 ^ (i + (1074 : Nat)).toNat * 2 ^ (j + (1074 : Nat)).toNat) = (sg s m * 2 ^ (i + (1074 : Nat)).toNat) * (sg t n * 2 ^ (j + (1074 : Nat)).toNat) := by ac_rfl
  rw [this, ea, eb]
  generalize (2 : Int) ^ 1074 = q
  ac_rfl
theorem FInt.order {x y a b} (hx : FInt x a) (hy : FInt y b) : double.order x y = some (compare a b) := by
  obtain ⟨s, m, i, hr, hi, ha⟩ := hx
  obtain ⟨t, n, j, hq, hj, hb⟩ := hy
  simp only [Format.order, hr, hq, Datum.order]
  have ea := ha.at_ 1074 (by omega)
  have eb := hb.at_ 1074 (by omega)
  rw [signed_eq, signed_eq]
  have x1 : (i - min i j).toNat + (min i j + (1074 : Nat)).toNat = (i + (1074 : Nat)).toNat := by omega
  have x2 : (j - min i j).toNat + (min i j + (1074 : Nat)).toNat = (j + (1074 : Nat)).toNat := by omega
  rw [← x1, Int.pow_add, ← Int.mul_assoc] at ea
  rw [← x2, Int.pow_add, ← Int.mul_assoc] at eb
  generalize sg s m * 2 ^ (i - min i j).toNat = A at *
  generalize sg t n * 2 ^ (j - min i j).toNat = B at *
  have p1 := two_pow_pos' (min i j + (1074 : Nat)).toNat
  have p2 := two_pow_pos' 1074
  generalize (2 : Int) ^ (min i j + (1074 : Nat)).toNat = p at *
  generalize (2 : Int) ^ 1074 = q at *
  congr 1
  rcases Int.lt_trichotomy a b with hab | hab | hab
  · have h1 : A * p < B * p := by rw [ea, eb]; exact Int.mul_lt_mul_of_pos_right hab p2
    have h2 : A < B := Int.lt_of_mul_lt_mul_right h1 (Int.le_of_lt p1)
    simp [compare, compareOfLessAndEq, hab, h2]
  · subst hab
    have h2 : A = B := Int.eq_of_mul_eq_mul_right (Int.ne_of_gt p1) (ea.trans eb.symm)
    simp [compare, compareOfLessAndEq, h2]
  · have h1 : B * p < A * p := by rw [ea, eb]; exact Int.mul_lt_mul_of_pos_right hab p2
    have h2 : B < A := Int.lt_of_mul_lt_mul_right h1 (Int.le_of_lt p1)
    have h3 : ¬ A < B := by omega
    have h4 : ¬ A = B := by omega
    have h5 : ¬ a < b := by omega
    have h6 : ¬ a = b := by omega
    simp [compare, compareOfLessAndEq, h3, h4, h5, h6]
theorem FInt.toInt {x a} (hx : FInt x a) : (double.read x).toInt .zero = some a := by
  obtain ⟨s, m, i, hr, hi, ha⟩ := hx
  rw [hr]
  simp only [Datum.toInt, Datum.integral]
  congr 1
  have hs := ha.sgn
  have key : Toward.zero.cut s (m <<< i.toNat) (-i).toNat = a.natAbs := by
    rw [Nat.shiftLeft_eq]
    rcases Int.le_total 0 i with h0 | h0
    · have e0 : (-i).toNat = 0 := by omega
      have hh := ha.abs 0 (by omega)
      simp only [Int.natCast_zero, Int.add_zero, Nat.pow_zero, Nat.mul_one] at hh
      rw [e0, hh]
      have := cut_exact .zero s a.natAbs 0 (.inr (by omega))
      simpa using this
    · obtain ⟨j, hj⟩ : ∃ j : Nat, i = -(j : Int) := ⟨(-i).toNat, by omega⟩
      have e0 : i.toNat = 0 := by omega
      have e1 : (-i).toNat = j := by omega
      have hh := ha.abs j (by omega)
      rw [show (i + (j : Int)).toNat = 0 by omega, Nat.pow_zero, Nat.mul_one] at hh
      rw [e0, e1, Nat.pow_zero, Nat.mul_one, hh]
      refine cut_exact .zero s a.natAbs j ?_
      by_cases hz : a.natAbs = 0
      · exact .inl hz
      · exact .inr (by rw [log2_mul_pow _ _ hz]; omega)
  rw [key, signed_eq, Int.pow_zero, Int.mul_one]
  exact hs.symm
end Go.Proofs.Ytcfmnlpbpihllaa.Wfl
