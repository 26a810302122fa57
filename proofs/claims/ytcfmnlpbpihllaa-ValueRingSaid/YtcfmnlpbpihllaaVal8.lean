/- The walk of ValueTurns. -/
import Derived.Test.YtcfmnlpbpihllaaVal7
import Derived.WalkKit
import Derived.WalkLawsBesides
import Derived.WalkSpells
import Derived.Lib.Hide
import Derived.Laws.ComplexArith
import Derived.Lib.Bytealg
import Derived.StillTailTactics
import Derived.Deep.DeepMust
import Derived.Deep.RegionHeld3
import Derived.Deep.DeepCutAuto
import Derived.Deep.QuietTactic
import Derived.BigQuiet
import Derived.Outline
namespace Go.Proofs.Ytcfmnlpbpihllaa
open Go.RowKit
set_option linter.unusedVariables false
set_option linter.unusedSimpArgs false
/-- Go's remainder of a by 2^40 -/
def r40 (a : Int) : Int := a.tmod 1099511627776
theorem r40_range (a : Int) : -1099511627776 < r40 a ∧ r40 a < 1099511627776 := by
  unfold r40
  have h1 := Int.tmod_lt_of_pos a (show (0 : Int) < 1099511627776 by decide)
  have h2 := Int.lt_tmod_of_pos a (show (0 : Int) < 1099511627776 by decide)
  exact ⟨h2, h1⟩
def kOf (t : Int) : Int := t.tmod 1000 * 2097152
theorem kOf_range (t : Int) : -2097152000 < kOf t ∧ kOf t < 2097152000 := by
  unfold kOf
  have h1 := Int.tmod_lt_of_pos t (show (0 : Int) < 1000 by decide)
  have h2 := Int.lt_tmod_of_pos t (show (0 : Int) < 1000 by decide)
  omega
theorem cmpI_self (a : Int) : cmpI a a = 0 := by unfold cmpI; rw [if_neg (by omega), if_neg (by omega)]
theorem cmpI_zero {a b : Int} : cmpI a b = 0 ↔ a = b := by
  unfold cmpI
  by_cases h1 : a < b
  · rw [if_pos h1]; omega
  · rw [if_neg h1]
    by_cases h2 : b < a
    · rw [if_pos h2]; omega
    · rw [if_neg h2]; omega
theorem cmpPt_self (a b : Int) : cmpPt a b a b = 0 := by unfold cmpPt; rw [cmpI_self, if_pos rfl, cmpI_self]
theorem cmpPt_zero {a b c d : Int} : cmpPt a b c d = 0 ↔ a = c ∧ b = d := by
  unfold cmpPt
  by_cases h : cmpI a c = 0
  · rw [if_pos h, cmpI_zero]
    exact ⟨fun k => ⟨cmpI_zero.1 h, k⟩, fun k => k.2⟩
  · rw [if_neg h]
    exact ⟨fun k => absurd k h, fun k => absurd (cmpI_zero.2 k.1) h⟩
theorem rem_zero (n : Int) : (n - Wv.wrapI n).tmod 2097152 = 0 := Int.tmod_eq_zero_of_dvd (Int.dvd_of_emod_eq_zero (Wv.wrapI_mod n))
theorem turn_same (n k : Int) : Wv.wrapI (n + k * 2097152) = Wv.wrapI n ∧ Wv.wrapI (n - k * 2097152) = Wv.wrapI n :=
  ⟨Wv.wrapI_congr (by omega), Wv.wrapI_congr (by omega)⟩
/-- a point lies in a block of its own -/
def AtPt (w : World) (g x y : Nat) : Prop :=
  g < w.heap.size ∧ w.cell? ⟨g, 0, none⟩ = some (.int .i64 5) ∧ w.cell? ⟨g, 1, none⟩ = some (.int .i64 0) ∧ w.cell? ⟨g, 2, none⟩ = some (.string ⟨#[]⟩) ∧ w.cell? ⟨g, 3, none⟩ = some (.complex .f64 x y) ∧ w.cell? ⟨g, 4, none⟩ = some (.slice none 0 0)
theorem keepS {W wx : World} {g : Nat} {u v : Value} (h0 : W.cell? ⟨g, 0, none⟩ = some u) (h1 : W.cell? ⟨g, 1, none⟩ = some v) (hg : g < W.heap.size) (hb : Below W.heap.size W wx) :
    wx.cell? ⟨g, 0, none⟩ = some u ∧ wx.cell? ⟨g, 1, none⟩ = some v ∧ Below W.heap.size W wx := ⟨(hb.cell (p := ⟨g, 0, none⟩) hg).trans h0, (hb.cell (p := ⟨g, 1, none⟩) hg).trans h1, hb⟩
set_option maxRecDepth 100000 in
set_option maxHeartbeats 1000000 in
theorem ValueTurns_any (a0 a1 b0 b1 t : Int) (w : World) (h1 : -9223372036854775808 ≤ b0) (h2 : b0 ≤ 9223372036854775807) (h3 : -9223372036854775808 ≤ b1) (h4 : b1 ≤ 9223372036854775807)
    (h5 : -9223372036854775808 ≤ a0) (h6 : a0 ≤ 9223372036854775807) (h7 : -9223372036854775808 ≤ a1) (h8 : a1 ≤ 9223372036854775807) (h9 : -9223372036854775808 ≤ t) (h10 : t ≤ 9223372036854775807) :
    Calls Try.prog 3 #[.agg #[.int .i64 a0, .int .i64 a1], .agg #[.int .i64 b0, .int .i64 b1], .int .i64 t] w fun e w' => e = .returned (.bool true) ∧ Below w.heap.size w w' := by
  have k1 := (kOf_range t).1
  have k2 := (kOf_range t).2
  have k3 := Int.tmod_lt_of_pos t (show (0 : Int) < 1000 by decide)
  have k4 := Int.lt_tmod_of_pos t (show (0 : Int) < 1000 by decide)
  have m1 := (r40_range a0).1
  have m2 := (r40_range a0).2
  have m3 := (r40_range a1).1
  have m4 := (r40_range a1).2
  have E := Lib.hid (show kOf t = t.tmod 1000 * 2097152 from rfl)
  unfold kOf at k1 k2
  unfold r40 at m1 m2 m3 m4
  go_enter Try.func3, Try.ntmps3
  go_wp2_with fail
  have B1 := (Blk.new w #[.int .i64 (a0.tmod 1099511627776), .int .i64 (a1.tmod 1099511627776)] 22).alloc (o := .cells #[.int .i64 b0, .int .i64 b1] 22)
  have B2 := Blk.new (w.alloc (.cells #[.int .i64 (a0.tmod 1099511627776), .int .i64 (a1.tmod 1099511627776)] 22)) #[.int .i64 b0, .int .i64 b1] 22
  have HB : Below w.heap.size w ((w.alloc (.cells #[.int .i64 (a0.tmod 1099511627776), .int .i64 (a1.tmod 1099511627776)] 22)).alloc (.cells #[.int .i64 b0, .int .i64 b1] 22)) := bl_alloc (bl_alloc (Below.refl _ _))
  simp only [World.size_alloc] at B1 B2
  generalize (w.alloc (.cells #[.int .i64 (a0.tmod 1099511627776), .int .i64 (a1.tmod 1099511627776)] 22)).alloc (.cells #[.int .i64 b0, .int .i64 b1] 22) = W at *
  generalize a0.tmod 1099511627776 = A at *
  generalize a1.tmod 1099511627776 = B at *
  generalize t.tmod 1000 = T at *
  have hc0 : W.cell? ⟨w.heap.size, 0, none⟩ = some (.int .i64 A) := B1.cell 0
  have hc1 : W.cell? ⟨w.heap.size, 1, none⟩ = some (.int .i64 B) := B1.cell 1
  have hlt0 := B1.lt
  go_cut [7, 8, 9] (fun s7 s8 s9 wx => ∃ p q : Nat, s7 = .int .i64 (T * 2097152) ∧ s8 = .pointer (some ⟨p, 0, none⟩) ∧ s9 = .pointer (some ⟨q, 0, none⟩) ∧ AtPt wx p (F (Wv.wrapI A)) (F (Wv.wrapI B)) ∧ AtPt wx q (F (Wv.wrapI A)) (F (Wv.wrapI B)) ∧ Below W.heap.size W wx)
  case first =>
    have PA := Lib.hid (fun w => Point_any A B w (by omega) (by omega) (by omega) (by omega))
    have PB := fun w => Point_any (A + T * 2097152) (B - T * 2097152) w (by omega) (by omega) (by omega) (by omega)
    rw [(turn_same A T).1, (turn_same B T).2] at PB
    have PB := Lib.hid PB
    have ws1 : IntKind.i64.wrap (A + T * 2097152) = A + T * 2097152 := IntWalk.i64_in _ (by omega)
    have ws2 : IntKind.i64.wrap (B - T * 2097152) = B - T * 2097152 := IntWalk.i64_in _ (by omega)
    go_region_held3 (fun wx => wx.cell? ⟨w.heap.size, 0, none⟩ = some (.int .i64 A) ∧ wx.cell? ⟨w.heap.size, 1, none⟩ = some (.int .i64 B) ∧ Below W.heap.size W wx) (first | with_reducible exact ⟨hc0, hc1, Below.refl _ _⟩ | (with_reducible (refine keepS hc0 hc1 hlt0 ?_; repeat (first | assumption | exact Below.refl _ _ | apply bl_alloc | apply bl_drew | (refine bl_set ?_ (by dsimp only; omega)) | (refine bl_call ?_ (by assumption))))))
      (first | (go_at_call_of 5 (Value.int .i64 A); refine (PA.out _).mono ?_; rintro e w' ⟨rfl, hb⟩; obtain ⟨hc, hf⟩ := bcell hb; have hsz := hb.size; simp (failIfUnchanged := false) only [World.size_alloc, World.size_drew] at hsz; (try have hs1 := Nat.lt_of_succ_le hsz); (try have hs2 := Nat.lt_of_succ_lt (Nat.lt_of_succ_le hsz)); (try have hs5 : W.heap.size < w'.heap.size := by omega); (try have hs6 : W.heap.size + 1 < w'.heap.size := by omega); (try have hs7 : W.heap.size ≤ w'.heap.size := by omega); (try have hcW := fun o => hb.cell (p := ⟨W.heap.size, o, none⟩) (by simp only [World.size_alloc, World.size_drew]; omega))) | (go_at_call 5; refine (PB.out _).mono ?_; rintro e w' ⟨rfl, hb⟩; obtain ⟨hc, hf⟩ := bcell hb; have hsz := hb.size; simp (failIfUnchanged := false) only [World.size_alloc, World.size_drew] at hsz; (try have hs1 := Nat.lt_of_succ_le hsz); (try have hs2 := Nat.lt_of_succ_lt (Nat.lt_of_succ_le hsz)); (try have hs5 : W.heap.size < w'.heap.size := by omega); (try have hs6 : W.heap.size + 1 < w'.heap.size := by omega); (try have hs7 : W.heap.size ≤ w'.heap.size := by omega); (try have hcW := fun o => hb.cell (p := ⟨W.heap.size, o, none⟩) (by simp only [World.size_alloc, World.size_drew]; omega))))
    all_goals (go_wp2_with fail; go_meet; refine ⟨_, _, rfl, rfl, rfl, ?_, ?_, ?_⟩ <;> (try unfold AtPt))
    all_goals have hn2 : ∀ n : Nat, n < n + 1 + 1 := fun n => by omega
    all_goals first | (refine ⟨?_, by go_simp, by go_simp, by go_simp, by go_simp, by go_simp⟩; simp only [World.size_alloc, World.size_setCell]; omega) | (with_reducible (repeat (first | assumption | exact Below.refl _ _ | apply bl_alloc | apply bl_drew | (refine bl_set ?_ (by dsimp only; omega)) | (refine bl_call ?_ (by assumption)))))
  case rest =>
    obtain ⟨p, q, rfl, rfl, rfl, ⟨hp, p0, p1, p2, p3, p4⟩, ⟨hq, q0, q1, q2, q3, q4⟩, hbW⟩ := hcut
    have ha0 := (hbW.cell (p := ⟨w.heap.size, 0, none⟩) hlt0).trans hc0
    have ha1 := (hbW.cell (p := ⟨w.heap.size, 1, none⟩) hlt0).trans hc1
    have hb0 : wc.cell? ⟨w.heap.size + 1, 0, none⟩ = some (.int .i64 b0) := (hbW.cell (p := ⟨w.heap.size + 1, 0, none⟩) B2.lt).trans (B2.cell 0)
    have hb1 : wc.cell? ⟨w.heap.size + 1, 1, none⟩ = some (.int .i64 b1) := (hbW.cell (p := ⟨w.heap.size + 1, 1, none⟩) B2.lt).trans (B2.cell 1)
    have hlt1 : w.heap.size < wc.heap.size := Nat.lt_of_lt_of_le hlt0 hbW.size
    have hlt2 : w.heap.size + 1 < wc.heap.size := Nat.lt_of_lt_of_le B2.lt hbW.size
    have hbl := Lib.hid (HB.trans (hbW.mono HB.size))
    clear hbW HB B1 B2 hc0 hc1 hlt0 E
    have X := Pt.ofW A B
    have Z := Pt.ofW b0 b1
    have cx := Lib.hid (Compare_point X X)
    have px := Lib.hid (Parts_point X)
    have cz := Lib.hid (Compare_point X Z)
    have pz := Lib.hid (Parts_point Z)
    have n1 := Lib.hid (cmpPt_self (Wv.wrapI A) (Wv.wrapI B))
    have t1 : ((A - Wv.wrapI A).tmod 2097152 != 0) = false := by rw [rem_zero]; rfl
    have t2 : ((B - Wv.wrapI B).tmod 2097152 != 0) = false := by rw [rem_zero]; rfl
    have r1 := X.h1
    have r2 := X.h2
    have r3 := X.h3
    have r4 := X.h4
    have last : (((cmpPt (Wv.wrapI A) (Wv.wrapI B) (Wv.wrapI b0) (Wv.wrapI b1) == 0) == (Wv.wrapI b0 == Wv.wrapI A && Wv.wrapI b1 == Wv.wrapI B)) = true) := by
      rw [beq_iff_eq, Bool.eq_iff_iff]
      simp only [beq_iff_eq, Bool.and_eq_true, cmpPt_zero]
      exact ⟨fun k => ⟨k.1.symm, k.2.symm⟩, fun k => ⟨k.1.symm, k.2.symm⟩⟩
    have LAST := Lib.hid last
    have PB2 := Lib.hid (Point_any b0 b1)
    clear X Z last
    generalize Wv.wrapI A = x1 at *
    generalize Wv.wrapI B = x2 at *
    generalize Wv.wrapI b0 = z1 at *
    generalize Wv.wrapI b1 = z2 at *
    go_wp2_with fail
    refine (cx.out _).mono ?_
    rintro e w1 ⟨rfl, hbl1⟩
    rw [n1.out]
    obtain ⟨c1, f1⟩ := bcell hbl1
    have s1 := hbl1.size
    have s2 := Nat.lt_of_lt_of_le hlt1 s1
    have s3 := Nat.lt_of_lt_of_le hlt2 s1
    have s4 := Nat.lt_of_lt_of_le hp s1
    go_wp2_with fail
    refine (px.out _).mono ?_
    rintro e w2 ⟨rfl, hbl2⟩
    obtain ⟨c2, f2⟩ := bcell hbl2
    have s5 := hbl2.size
    have s6 := Nat.lt_of_lt_of_le s4 s5
    go_wp2_with fail
    refine (PB2.out _ h1 h2 h3 h4).mono ?_
    rintro e w3 ⟨rfl, hbl3⟩
    obtain ⟨c3, f3⟩ := bcell hbl3
    have s7 := Nat.lt_of_lt_of_le s6 hbl3.size
    go_wp2_with fail
    refine (pz.out _).mono ?_
    rintro e w4 ⟨rfl, hbl4⟩
    obtain ⟨c4, f4⟩ := bcell hbl4
    go_wp2_with fail
    refine (cz.out _).mono ?_
    rintro e w5 ⟨rfl, hbl5⟩
    have hL := LAST.out
    generalize cmpPt x1 x2 z1 z2 = d at *
    by_cases g1 : z1 = x1
    · have e1 : (z1 == x1) = true := by simp [g1]
      by_cases g2 : z2 = x2
      · have e2 : (z2 == x2) = true := by simp [g2]
        have e3 : (d == 0) = true := by simpa [e1, e2] using hL
        clear g1 g2 hL
        go_wp2_with fail
        refine (awake_any _).mono ?_
        rintro e w6 ⟨rfl, hbl6⟩
        go_wp2_with fail
        go_ret
        exact ⟨rfl, bl_call (bl_call (bl_call (bl_alloc (bl_call (bl_call (bl_call hbl.out hbl1) hbl2) hbl3)) hbl4) hbl5) hbl6⟩
      · have e2 : (z2 == x2) = false := by simp [g2]
        have e3 : (d == 0) = false := by simpa [e1, e2] using hL
        clear g1 g2 hL
        go_wp2_with fail
        refine (awake_any _).mono ?_
        rintro e w6 ⟨rfl, hbl6⟩
        go_wp2_with fail
        go_ret
        exact ⟨rfl, bl_call (bl_call (bl_call (bl_alloc (bl_call (bl_call (bl_call hbl.out hbl1) hbl2) hbl3)) hbl4) hbl5) hbl6⟩
    · have e1 : (z1 == x1) = false := by simp [g1]
      have e3 : (d == 0) = false := by simpa [e1] using hL
      clear g1 hL
      go_wp2_with fail
      refine (awake_any _).mono ?_
      rintro e w6 ⟨rfl, hbl6⟩
      go_wp2_with fail
      go_ret
      exact ⟨rfl, bl_call (bl_call (bl_call (bl_alloc (bl_call (bl_call (bl_call hbl.out hbl1) hbl2) hbl3)) hbl4) hbl5) hbl6⟩
end Go.Proofs.Ytcfmnlpbpihllaa
