/- The walks of value.numbers, value.Parts, value.fold, value.Plus, value.Times, value.Conj. -/
import Derived.Test.YtcfmnlpbpihllaaVal4
import Derived.WalkKit
import Derived.WalkLawsBesides
import Derived.WalkSpells
import Derived.Lib.Hide
import Derived.Laws.ComplexArith
import Derived.Lib.Bytealg
import Derived.StillTailTactics
import Derived.Deep.DeepMust
import Derived.Deep.QuietTactic
import Derived.BigQuiet
import Derived.Outline
namespace Go.Proofs.Ytcfmnlpbpihllaa
open Go.RowKit
set_option linter.unusedVariables false
/-- points as they lie in memory, five cells each -/
def PtsAt (w : World) (g : Nat) (ps : List (Nat × Nat)) : Prop :=
  ∀ j (h : j < ps.length), w.cell? ⟨g, j * 5, none⟩ = some (.int .i64 5) ∧ w.cell? ⟨g, j * 5 + 1, none⟩ = some (.int .i64 0) ∧ w.cell? ⟨g, j * 5 + 2, none⟩ = some (.string ⟨#[]⟩) ∧
    w.cell? ⟨g, j * 5 + 3, none⟩ = some (.complex .f64 ps[j].1 ps[j].2) ∧ w.cell? ⟨g, j * 5 + 4, none⟩ = some (.slice none 0 0)
theorem PtsAt.below {w w1 : World} {g : Nat} {ps : List (Nat × Nat)} (h : PtsAt w g ps) (hg : g < w.heap.size) (hb : Below w.heap.size w w1) : PtsAt w1 g ps := by
  intro j hj
  obtain ⟨a, b, c, d, e⟩ := h j hj
  exact ⟨(hb.cell hg).trans a, (hb.cell hg).trans b, (hb.cell hg).trans c, (hb.cell hg).trans d, (hb.cell hg).trans e⟩
def cplx (ps : List (Nat × Nat)) : List Value := ps.map fun p => .complex .f64 p.1 p.2
theorem cplx_len (ps : List (Nat × Nat)) : (cplx ps).length = ps.length := by simp [cplx]
theorem cplx_take (ps : List (Nat × Nat)) (k : Nat) (h : k < ps.length) : cplx (ps.take k) ++ [.complex .f64 ps[k].1 ps[k].2] = cplx (ps.take (k + 1)) := by
  unfold cplx
  rw [List.take_succ_eq_append_getElem h, List.map_append]
  rfl
theorem info_complex : (Try.prog.info? 23).map (fun i => (i.zero, i.size, i.bytes)) = some (some (.complex .f64 0 0), 1, 16) := by kernel_rfl

set_option maxHeartbeats 400000 in
theorem numbers_any (ps : List (Nat × Nat)) (hp : ∀ j (h : j < ps.length), ∃ a b, Pt ps[j].1 ps[j].2 a b) (g n c : Nat) (hn : ps.length = n) (hm : n ≤ 1000) (w : World) (hg : g < w.heap.size) (hc : PtsAt w g ps) :
    Calls Try.prog 15 #[.slice (some ⟨g, 0, none⟩) n c] w fun e w' => ∃ v, e = .returned (.tuple #[v, .int .i64 0]) ∧ w'.ownsRow w.heap.size 23 1 v n (cplx ps) ∧ Below w.heap.size w w' := by
  subst hn
  have HC := Lib.hid hc
  have HP := Lib.hid hp
  clear hc hp
  go_enter Try.func15, Try.ntmps15
  go_wp2_with fail
  go_loopw [4, 9] (fun v i wr => ∃ k : Nat, k ≤ ps.length ∧ i = .int .i64 k ∧ wr.ownsRow w.heap.size 23 1 v k (cplx (ps.take k)) ∧ Below w.heap.size w wr) (fun _ i _ => ps.length - (intOf i).toNat)
  case atStart => exact ⟨0, Nat.zero_le _, rfl, by simpa [cplx] using World.ownsRow_nil w w.heap.size 23 1, Below.refl _ _⟩
  case round =>
    obtain ⟨k, hk, rfl, hown, hbl⟩ := hrel
    by_cases hlt : k < ps.length
    · obtain ⟨a, b, hpt⟩ := HP.out k hlt
      obtain ⟨d0, d1, d2, d3, d4⟩ := HC.out.below hg hbl k hlt
      have HS := Lib.hid (cplx_take ps k hlt)
      generalize ps[k].1 = x at *
      generalize ps[k].2 = y at *
      have CK := Lib.hid hpt.check
      clear hpt
      go_wp2_with fail
      refine (CK.out _).mono ?_
      rintro e w1 ⟨rfl, hb1⟩
      obtain ⟨hc1, hf1⟩ := bcell hb1
      have hb2 := below_new hb1
      have hown1 := own_below hown hb2
      have hbl1 := bl_call hbl hb2
      clear hb1 hb2 hown hbl
      have hsz := hbl1.size
      go_wp2_with (at_builtin; refine append_cells rfl _ _ 45 23 rfl (.complex .f64 0 0) 1 16 Try.underlying45 info_complex rfl (by decide) _ rfl w1.heap.size rfl w.heap.size k _ [.complex .f64 x y] (hown1.alloc _) (heap_alloc_new _ _) rfl (by simp [Value.oneCell']) (by simp; omega) (by unfold maxLen; omega) (by omega) ?_; intro v' w2 hown2 hgr)
      rw [HS.out] at hown2
      have hbl2 := bl_grown (bl_alloc hbl1) (hown1.alloc _) hgr
      clear hgr hown1 hbl1 HS
      go_roundw
      case rel => exact ⟨k + 1, by omega, by go_num, hown2, hbl2⟩
      case measure => simp [intOf]; omega
    · have hk' : k = ps.length := by omega
      subst hk'
      rw [List.take_length] at hown
      have hO := Lib.hid hown
      clear hown
      go_wp2_with fail
      go_ret2
      exact ⟨_, rfl, hO.out, hbl⟩

theorem own_cell {w : World} {base : Nat} {e : TypeId} {v : Value} {n : Nat} {xs : List Value} (h : w.ownsRow base e 1 v n xs) (hn : 0 < n) : ∃ g c, v = .slice (some ⟨g, 0, none⟩) n c ∧ base ≤ g ∧ g < w.heap.size ∧ n ≤ c ∧ ∀ j (hj : j < xs.length), w.cell? ⟨g, j, none⟩ = some xs[j] := by
  obtain ⟨h1, h2⟩ := h
  rcases h2 with ⟨_, h0⟩ | ⟨g, cap, cur, rfl, hb, hh, hle, hm, hs, ht⟩
  · omega
  · refine ⟨g, cap, rfl, hb, (Array.getElem?_eq_some_iff.1 hh).1, hle, fun j hj => ?_⟩
    rw [cell_of_row w g j cur e (0, 0) hh]
    have : (cur.toList.take (n * 1))[j]? = some xs[j] := by rw [ht]; exact List.getElem?_eq_getElem hj
    rw [List.getElem?_take] at this
    split at this
    · simpa using this
    · cases this

theorem pts_1 {x y : Nat} {a b : Int} (h : Pt x y a b) : ∀ j (hj : j < [(x, y)].length), ∃ a b, Pt [(x, y)][j].1 [(x, y)][j].2 a b := by
  intro j hj
  match j, hj with
  | 0, _ => exact ⟨a, b, h⟩
theorem pts_2 {x y z t : Nat} {a b c d : Int} (h : Pt x y a b) (k : Pt z t c d) : ∀ j (hj : j < [(x, y), (z, t)].length), ∃ a b, Pt [(x, y), (z, t)][j].1 [(x, y), (z, t)][j].2 a b := by
  intro j hj
  match j, hj with
  | 0, _ => exact ⟨a, b, h⟩
  | 1, _ => exact ⟨c, d, k⟩
/-- the parts of a point -/
theorem Parts_point {x y : Nat} {a b : Int} (h : Pt x y a b) (w : World) :
    Calls Try.prog 7 #[.agg #[.int .i64 5, .int .i64 0, .string ⟨#[]⟩, .complex .f64 x y, .slice none 0 0]] w fun e w' => e = .returned (.tuple #[.int .i64 a, .int .i64 b, .int .i64 0]) ∧ Below w.heap.size w w' := by
  have c1 := conv_int h.re (by have := h.h1; omega) (by have := h.h2; omega)
  have c2 := conv_int h.im (by have := h.h3; omega) (by have := h.h4; omega)
  have N := Lib.hid (numbers_any [(x, y)] (pts_1 h))
  clear h
  go_enter Try.func7, Try.ntmps7
  go_wp2_with fail
  refine (N.out _ 1 1 rfl (by omega) _ (by simp) ?_).mono ?_
  · intro j hj
    obtain rfl : j = 0 := by simpa using hj
    refine ⟨?_, ?_, ?_, ?_, ?_⟩ <;> go_simp
  rintro e w1 ⟨v, rfl, ho, hb1⟩
  obtain ⟨g', cc, rfl, hg1, hg2, hcc, hcell⟩ := own_cell ho (by omega)
  have hx := hcell 0 (by simp [cplx])
  simp only [cplx, List.map_cons, List.getElem_cons_zero] at hx
  clear hcell ho
  go_wp2_with fail
  go_quiet (fail)
  go_wp2_with fail
  go_ret3
  exact ⟨rfl, bl_drewN (below_new (below_new hb1))⟩

theorem fold_int {x y : Nat} {a b : Int} (hx : Wfl.FInt x a) (hy : Wfl.FInt y b) (h1 : -9223372036854775808 ≤ a) (h2 : a ≤ 9223372036854775807) (h3 : -9223372036854775808 ≤ b) (h4 : b ≤ 9223372036854775807) (w : World) :
    Calls Try.prog 17 #[.complex .f64 x y] w fun e w' => e = .returned (PV (Wv.wrapI a) (Wv.wrapI b)) ∧ Below w.heap.size w w' := by
  have c1 := conv_int hx h1 h2
  have c2 := conv_int hy h3 h4
  clear hx hy
  go_enter Try.func17, Try.ntmps17
  go_wp2_with fail
  refine (Point_any a b _ h1 h2 h3 h4).mono ?_
  rintro e w1 ⟨rfl, hb1⟩
  have hs1 := hb1.size
  simp only [World.size_alloc] at hs1
  obtain ⟨hc, hf⟩ := bcell hb1
  go_wp2_with fail

  exact bodyPost_ret (v := PV (Wv.wrapI a) (Wv.wrapI b)) (by simp [results, Try.results17, go_sem, hc]) rfl ⟨rfl, by repeat (first | (refine bl_set ?_ (Nat.le_refl _)) | exact below_new hb1)⟩
end Go.Proofs.Ytcfmnlpbpihllaa
