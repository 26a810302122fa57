/- The first statement of ValueRing: its invariant. -/
import Derived.Test.YtcfmnlpbpihllaaVal8
import Derived.Test.YtcfmnlpbpihllaaInv
import Derived.WalkKit
import Derived.WalkLawsBesides
import Derived.WalkSpells
import Derived.Lib.Hide
import Derived.Laws.ComplexArith
import Derived.Lib.Bytealg
import Derived.StillTailTactics
import Derived.Deep.DeepMust
import Derived.Deep.RegionHeld3
import Derived.Deep.DeepCutAuto
import Derived.Deep.QuietTactic
import Derived.BigQuiet
import Derived.Outline
namespace Go.Proofs.Ytcfmnlpbpihllaa
open Go.RowKit
set_option linter.unusedVariables false
set_option linter.unusedSimpArgs false
theorem put_size (a : Act) (d : Nat) (v : Value) : (a.put (some d) v).tmps.size = a.tmps.size := by simp [Act.put]
theorem eval_put_ne (a : Act) (d t : Nat) (v : Value) (h : d ≠ t) : (a.put (some d) v).eval (.tmp t) = a.eval (.tmp t) := by
  simp only [Act.put, Act.eval, Array.getD_eq_getD_getElem?, Array.getElem?_setIfInBounds]
  rw [if_neg h]
theorem eval_put_eq (a : Act) (d : Nat) (v : Value) (h : d < a.tmps.size) : (a.put (some d) v).eval (.tmp d) = v := by
  simp [Act.put, Act.eval, Array.getD_eq_getD_getElem?, Array.getElem?_setIfInBounds, h]
theorem put_put (a : Act) (d : Nat) (v v' : Value) : (a.put (some d) v).put (some d) v' = a.put (some d) v' := by
  simp [Act.put]
theorem put_comm (a : Act) (d d' : Nat) (v v' : Value) (h : d ≠ d') : (a.put (some d) v).put (some d') v' = (a.put (some d') v').put (some d) v := by
  simp only [Act.put, Act.mk.injEq, and_true]
  exact Array.setIfInBounds_comm _ _ h

abbrev zeroCells : Array Value := #[.int .i64 0, .int .i64 0, .string ⟨#[]⟩, .complex .f64 0 0, .slice none 0 0]
abbrev ptCells (x y : Nat) : Array Value := #[.int .i64 5, .int .i64 0, .string ⟨#[]⟩, .complex .f64 x y, .slice none 0 0]
/-- what is known of a variable that the region makes (operation al) and fills (operation st) -/
def Track (W w : World) (l : Array Bool) (al st : Nat) (u : Value) (x y : Nat) : Prop :=
  (l.getD st false = true → l.getD al false = true) ∧
  (l.getD al false = true → ∃ p, u = .pointer (some ⟨p, 0, none⟩) ∧ W.heap.size ≤ p ∧ Blk w p (if l.getD st false = true then ptCells x y else zeroCells) 26)
theorem getD_set (l : Array Bool) (i j : Nat) : (l.setIfInBounds i true).getD j false = if i = j ∧ i < l.size then true else l.getD j false := by
  simp only [Array.getD_eq_getD_getElem?, Array.getElem?_setIfInBounds]
  by_cases h : i = j
  · subst h
    by_cases h2 : i < l.size
    · simp [h2]
    · simp [h2]
  · simp [h]
theorem getD_set_ne' (l : Array Bool) (i j : Nat) (h : i ≠ j) : (l.setIfInBounds i true).getD j false = l.getD j false := by rw [getD_set, if_neg (fun k => h k.1)]
theorem getD_set_eq' (l : Array Bool) (i : Nat) (h : i < l.size) : (l.setIfInBounds i true).getD i false = true := by rw [getD_set, if_pos ⟨rfl, h⟩]
theorem Track.keep {W w w' : World} {l : Array Bool} {al st : Nat} {u : Value} {x y : Nat} (h : Track W w l al st u x y) (hb : Below w.heap.size w w') (i : Nat) (h1 : i ≠ al) (h2 : i ≠ st) : Track W w' (l.setIfInBounds i true) al st u x y := by
  unfold Track at *
  rw [getD_set_ne' l i al h1, getD_set_ne' l i st h2]
  exact ⟨h.1, fun ha => by
    obtain ⟨p, e, hp, hB⟩ := h.2 ha
    exact ⟨p, e, hp, hB.below hb⟩⟩
theorem Track.new {W w : World} {l : Array Bool} {al st : Nat} {u : Value} {x y : Nat} (h : Track W w l al st u x y) (hal : l.getD al false = false) (hsz : al < l.size) (hne : al ≠ st) (hW : W.heap.size ≤ w.heap.size) :
    Track W (w.alloc (.cells zeroCells 26)) (l.setIfInBounds al true) al st (.pointer (some ⟨w.heap.size, 0, none⟩)) x y := by
  unfold Track at *
  rw [getD_set_ne' l al st hne, getD_set_eq' l al hsz]
  have hst : ¬ l.getD st false = true := fun k => by have := h.1 k; rw [hal] at this; cases this
  refine ⟨fun _ => rfl, fun _ => ⟨_, rfl, hW, ?_⟩⟩
  rw [if_neg hst]
  exact Blk.new _ _ _
/-- a store of a whole point -/
def setPt (w : World) (p x y : Nat) : World := ((((w.setCell ⟨p, 0, none⟩ (.int .i64 5)).setCell ⟨p, 1, none⟩ (.int .i64 0)).setCell ⟨p, 2, none⟩ (.string ⟨#[]⟩)).setCell ⟨p, 3, none⟩ (.complex .f64 x y)).setCell ⟨p, 4, none⟩ (.slice none 0 0)
theorem Track.fill {W w : World} {l : Array Bool} {al st p : Nat} {x y : Nat} (h : Track W w l al st (.pointer (some ⟨p, 0, none⟩)) x y) (hal : l.getD al false = true) (hst : l.getD st false = false) (hsz : st < l.size) (hne : al ≠ st) :
    Track W (setPt w p x y) (l.setIfInBounds st true) al st (.pointer (some ⟨p, 0, none⟩)) x y := by
  unfold Track at *
  rw [getD_set_ne' l st al (Ne.symm hne), getD_set_eq' l st hsz]
  obtain ⟨p', e, hp, hB⟩ := h.2 hal
  simp only [Value.pointer.injEq, Option.some.injEq, Addr.mk.injEq, and_true] at e
  subst e
  rw [if_neg (by rw [hst]; decide)] at hB
  refine ⟨fun _ => hal, fun _ => ⟨p, rfl, hp, ?_⟩⟩
  rw [if_pos rfl]
  exact ((((hB.set 0 (.int .i64 5)).set 1 (.int .i64 0)).set 2 (.string ⟨#[]⟩)).set 3 (.complex .f64 x y)).set 4 (.slice none 0 0)
theorem Track.other {W w : World} {l : Array Bool} {al st p i : Nat} {u : Value} {x y x' y' : Nat} (h : Track W w l al st u x y) (hu : l.getD al false = true → u ≠ .pointer (some ⟨p, 0, none⟩)) (h1 : i ≠ al) (h2 : i ≠ st) :
    Track W (setPt w p x' y') (l.setIfInBounds i true) al st u x y := by
  unfold Track at *
  rw [getD_set_ne' l i al h1, getD_set_ne' l i st h2]
  refine ⟨h.1, fun ha => ?_⟩
  obtain ⟨q, e, hp, hB⟩ := h.2 ha
  have hne : q ≠ p := fun k => hu ha (by rw [e, k])
  exact ⟨q, e, hp, ((((hB.setOther (p := ⟨p, 0, none⟩) hne _).setOther (p := ⟨p, 1, none⟩) hne _).setOther (p := ⟨p, 2, none⟩) hne _).setOther (p := ⟨p, 3, none⟩) hne _).setOther (p := ⟨p, 4, none⟩) hne _⟩
theorem Track.pt {W w : World} {l : Array Bool} {al st : Nat} {u : Value} {x y : Nat} (h : Track W w l al st u x y) (hst : l.getD st false = true) : ∃ p, u = .pointer (some ⟨p, 0, none⟩) ∧ AtPt w p x y := by
  obtain ⟨p, e, hp, hB⟩ := h.2 (h.1 hst)
  rw [if_pos hst] at hB
  exact ⟨p, e, hB.lt, hB.cell 0, hB.cell 1, hB.cell 2, hB.cell 3, hB.cell 4⟩
theorem setPt_below {W w : World} {p x y : Nat} (h : Below W.heap.size W w) (hp : W.heap.size ≤ p) : Below W.heap.size W (setPt w p x y) :=
  bl_set (bl_set (bl_set (bl_set (bl_set h hp) hp) hp) hp) hp
/-- what holds while the first statement of ValueRing goes on, in whatever order -/
structure RingInv (W : World) (T : Act) (x1 y1 x2 y2 x3 y3 : Int) (l : Array Bool) (w : World) (u1 u2 u3 v1 v2 v3 : Value) : Prop where
  size : l.size = 21
  taken : ∀ i ∈ [0, 1, 2, 3, 5, 6, 7, 8, 10, 11, 12, 13], l.getD i false = true
  below : Below W.heap.size W w
  k1 : l.getD 4 false = true → u1 = PV x1 y1
  k2 : l.getD 9 false = true → u2 = PV x2 y2
  k3 : l.getD 14 false = true → u3 = PV x3 y3
  t1 : Track W w l 15 18 v1 (F x1) (F y1)
  t2 : Track W w l 16 19 v2 (F x2) (F y2)
  t3 : Track W w l 17 20 v3 (F x3) (F y3)
  d12 : l.getD 15 false = true → l.getD 16 false = true → v1 ≠ v2
  d13 : l.getD 15 false = true → l.getD 17 false = true → v1 ≠ v3
  d23 : l.getD 16 false = true → l.getD 17 false = true → v2 ≠ v3
def ringAct (T : Act) (u1 u2 u3 v1 v2 v3 : Value) : Act := (((((T.put (some 46) u1).put (some 51) u2).put (some 56) u3).put (some 7) v1).put (some 8) v2).put (some 9) v3
def RI (W : World) (T : Act) (x1 y1 x2 y2 x3 y3 : Int) (l : Array Bool) (a : Act) (w : World) : Prop :=
  ∃ u1 u2 u3 v1 v2 v3, a = ringAct T u1 u2 u3 v1 v2 v3 ∧ RingInv W T x1 y1 x2 y2 x3 y3 l w u1 u2 u3 v1 v2 v3
theorem ra1 (T : Act) (u1 u2 u3 v1 v2 v3 v : Value) : (ringAct T u1 u2 u3 v1 v2 v3).put (some 46) v = ringAct T v u2 u3 v1 v2 v3 := by
  unfold ringAct
  rw [put_comm _ 9 46 _ _ (by decide), put_comm _ 8 46 _ _ (by decide), put_comm _ 7 46 _ _ (by decide), put_comm _ 56 46 _ _ (by decide), put_comm _ 51 46 _ _ (by decide), put_put]
theorem ra2 (T : Act) (u1 u2 u3 v1 v2 v3 v : Value) : (ringAct T u1 u2 u3 v1 v2 v3).put (some 51) v = ringAct T u1 v u3 v1 v2 v3 := by
  unfold ringAct
  rw [put_comm _ 9 51 _ _ (by decide), put_comm _ 8 51 _ _ (by decide), put_comm _ 7 51 _ _ (by decide), put_comm _ 56 51 _ _ (by decide), put_put]
theorem ra3 (T : Act) (u1 u2 u3 v1 v2 v3 v : Value) : (ringAct T u1 u2 u3 v1 v2 v3).put (some 56) v = ringAct T u1 u2 v v1 v2 v3 := by
  unfold ringAct
  rw [put_comm _ 9 56 _ _ (by decide), put_comm _ 8 56 _ _ (by decide), put_comm _ 7 56 _ _ (by decide), put_put]
theorem ra4 (T : Act) (u1 u2 u3 v1 v2 v3 v : Value) : (ringAct T u1 u2 u3 v1 v2 v3).put (some 7) v = ringAct T u1 u2 u3 v v2 v3 := by
  unfold ringAct
  rw [put_comm _ 9 7 _ _ (by decide), put_comm _ 8 7 _ _ (by decide), put_put]
theorem ra5 (T : Act) (u1 u2 u3 v1 v2 v3 v : Value) : (ringAct T u1 u2 u3 v1 v2 v3).put (some 8) v = ringAct T u1 u2 u3 v1 v v3 := by
  unfold ringAct
  rw [put_comm _ 9 8 _ _ (by decide), put_put]
theorem ra6 (T : Act) (u1 u2 u3 v1 v2 v3 v : Value) : (ringAct T u1 u2 u3 v1 v2 v3).put (some 9) v = ringAct T u1 u2 u3 v1 v2 v := by
  unfold ringAct
  rw [put_put]
theorem re_old (T : Act) (u1 u2 u3 v1 v2 v3 : Value) (t : Nat) (h : t ≠ 46 ∧ t ≠ 51 ∧ t ≠ 56 ∧ t ≠ 7 ∧ t ≠ 8 ∧ t ≠ 9) : (ringAct T u1 u2 u3 v1 v2 v3).eval (.tmp t) = T.eval (.tmp t) := by
  unfold ringAct
  rw [eval_put_ne _ _ _ _ (by omega), eval_put_ne _ _ _ _ (by omega), eval_put_ne _ _ _ _ (by omega), eval_put_ne _ _ _ _ (by omega), eval_put_ne _ _ _ _ (by omega), eval_put_ne _ _ _ _ (by omega)]
theorem re1 (T : Act) (u1 u2 u3 v1 v2 v3 : Value) (h : T.tmps.size = 184) : (ringAct T u1 u2 u3 v1 v2 v3).eval (.tmp 46) = u1 := by
  unfold ringAct
  rw [eval_put_ne _ _ _ _ (by decide), eval_put_ne _ _ _ _ (by decide), eval_put_ne _ _ _ _ (by decide), eval_put_ne _ _ _ _ (by decide), eval_put_ne _ _ _ _ (by decide), eval_put_eq _ _ _ (by omega)]
theorem re2 (T : Act) (u1 u2 u3 v1 v2 v3 : Value) (h : T.tmps.size = 184) : (ringAct T u1 u2 u3 v1 v2 v3).eval (.tmp 51) = u2 := by
  unfold ringAct
  rw [eval_put_ne _ _ _ _ (by decide), eval_put_ne _ _ _ _ (by decide), eval_put_ne _ _ _ _ (by decide), eval_put_ne _ _ _ _ (by decide), eval_put_eq _ _ _ (by simp only [put_size]; omega)]
theorem re3 (T : Act) (u1 u2 u3 v1 v2 v3 : Value) (h : T.tmps.size = 184) : (ringAct T u1 u2 u3 v1 v2 v3).eval (.tmp 56) = u3 := by
  unfold ringAct
  rw [eval_put_ne _ _ _ _ (by decide), eval_put_ne _ _ _ _ (by decide), eval_put_ne _ _ _ _ (by decide), eval_put_eq _ _ _ (by simp only [put_size]; omega)]
theorem re4 (T : Act) (u1 u2 u3 v1 v2 v3 : Value) (h : T.tmps.size = 184) : (ringAct T u1 u2 u3 v1 v2 v3).eval (.tmp 7) = v1 := by
  unfold ringAct
  rw [eval_put_ne _ _ _ _ (by decide), eval_put_ne _ _ _ _ (by decide), eval_put_eq _ _ _ (by simp only [put_size]; omega)]
theorem re5 (T : Act) (u1 u2 u3 v1 v2 v3 : Value) (h : T.tmps.size = 184) : (ringAct T u1 u2 u3 v1 v2 v3).eval (.tmp 8) = v2 := by
  unfold ringAct
  rw [eval_put_ne _ _ _ _ (by decide), eval_put_eq _ _ _ (by simp only [put_size]; omega)]
theorem re6 (T : Act) (u1 u2 u3 v1 v2 v3 : Value) (h : T.tmps.size = 184) : (ringAct T u1 u2 u3 v1 v2 v3).eval (.tmp 9) = v3 := by
  unfold ringAct
  rw [eval_put_eq _ _ _ (by simp only [put_size]; omega)]

theorem RingInv.call1 {W : World} {T : Act} {x1 y1 x2 y2 x3 y3 : Int} {l : Array Bool} {w w' : World} {u1 u2 u3 v1 v2 v3 : Value} (h : RingInv W T x1 y1 x2 y2 x3 y3 l w u1 u2 u3 v1 v2 v3) (hb : Below w.heap.size w w') :
    RingInv W T x1 y1 x2 y2 x3 y3 (l.setIfInBounds 4 true) w' (PV x1 y1) u2 u3 v1 v2 v3 where
  size := by simp [h.size]
  taken := fun j hj => by
    rw [getD_set]
    split
    · rfl
    · exact h.taken j hj
  below := bl_call h.below hb
  k1 := fun _ => rfl
  k2 := fun hh => h.k2 (by rwa [getD_set_ne' l 4 9 (by decide)] at hh)
  k3 := fun hh => h.k3 (by rwa [getD_set_ne' l 4 14 (by decide)] at hh)
  t1 := h.t1.keep hb 4 (by decide) (by decide)
  t2 := h.t2.keep hb 4 (by decide) (by decide)
  t3 := h.t3.keep hb 4 (by decide) (by decide)
  d12 := fun p q => h.d12 (by rwa [getD_set_ne' l 4 15 (by decide)] at p) (by rwa [getD_set_ne' l 4 16 (by decide)] at q)
  d13 := fun p q => h.d13 (by rwa [getD_set_ne' l 4 15 (by decide)] at p) (by rwa [getD_set_ne' l 4 17 (by decide)] at q)
  d23 := fun p q => h.d23 (by rwa [getD_set_ne' l 4 16 (by decide)] at p) (by rwa [getD_set_ne' l 4 17 (by decide)] at q)
theorem RingInv.call2 {W : World} {T : Act} {x1 y1 x2 y2 x3 y3 : Int} {l : Array Bool} {w w' : World} {u1 u2 u3 v1 v2 v3 : Value} (h : RingInv W T x1 y1 x2 y2 x3 y3 l w u1 u2 u3 v1 v2 v3) (hb : Below w.heap.size w w') :
    RingInv W T x1 y1 x2 y2 x3 y3 (l.setIfInBounds 9 true) w' u1 (PV x2 y2) u3 v1 v2 v3 where
  size := by simp [h.size]
  taken := fun j hj => by
    rw [getD_set]
    split
    · rfl
    · exact h.taken j hj
  below := bl_call h.below hb
  k1 := fun hh => h.k1 (by rwa [getD_set_ne' l 9 4 (by decide)] at hh)
  k2 := fun _ => rfl
  k3 := fun hh => h.k3 (by rwa [getD_set_ne' l 9 14 (by decide)] at hh)
  t1 := h.t1.keep hb 9 (by decide) (by decide)
  t2 := h.t2.keep hb 9 (by decide) (by decide)
  t3 := h.t3.keep hb 9 (by decide) (by decide)
  d12 := fun p q => h.d12 (by rwa [getD_set_ne' l 9 15 (by decide)] at p) (by rwa [getD_set_ne' l 9 16 (by decide)] at q)
  d13 := fun p q => h.d13 (by rwa [getD_set_ne' l 9 15 (by decide)] at p) (by rwa [getD_set_ne' l 9 17 (by decide)] at q)
  d23 := fun p q => h.d23 (by rwa [getD_set_ne' l 9 16 (by decide)] at p) (by rwa [getD_set_ne' l 9 17 (by decide)] at q)
theorem RingInv.call3 {W : World} {T : Act} {x1 y1 x2 y2 x3 y3 : Int} {l : Array Bool} {w w' : World} {u1 u2 u3 v1 v2 v3 : Value} (h : RingInv W T x1 y1 x2 y2 x3 y3 l w u1 u2 u3 v1 v2 v3) (hb : Below w.heap.size w w') :
    RingInv W T x1 y1 x2 y2 x3 y3 (l.setIfInBounds 14 true) w' u1 u2 (PV x3 y3) v1 v2 v3 where
  size := by simp [h.size]
  taken := fun j hj => by
    rw [getD_set]
    split
    · rfl
    · exact h.taken j hj
  below := bl_call h.below hb
  k1 := fun hh => h.k1 (by rwa [getD_set_ne' l 14 4 (by decide)] at hh)
  k2 := fun hh => h.k2 (by rwa [getD_set_ne' l 14 9 (by decide)] at hh)
  k3 := fun _ => rfl
  t1 := h.t1.keep hb 14 (by decide) (by decide)
  t2 := h.t2.keep hb 14 (by decide) (by decide)
  t3 := h.t3.keep hb 14 (by decide) (by decide)
  d12 := fun p q => h.d12 (by rwa [getD_set_ne' l 14 15 (by decide)] at p) (by rwa [getD_set_ne' l 14 16 (by decide)] at q)
  d13 := fun p q => h.d13 (by rwa [getD_set_ne' l 14 15 (by decide)] at p) (by rwa [getD_set_ne' l 14 17 (by decide)] at q)
  d23 := fun p q => h.d23 (by rwa [getD_set_ne' l 14 16 (by decide)] at p) (by rwa [getD_set_ne' l 14 17 (by decide)] at q)
theorem RingInv.alloc1 {W : World} {T : Act} {x1 y1 x2 y2 x3 y3 : Int} {l : Array Bool} {w : World} {u1 u2 u3 v1 v2 v3 : Value} (h : RingInv W T x1 y1 x2 y2 x3 y3 l w u1 u2 u3 v1 v2 v3) (hal : l.getD 15 false = false) :
    RingInv W T x1 y1 x2 y2 x3 y3 (l.setIfInBounds 15 true) (w.alloc (.cells zeroCells 26)) u1 u2 u3 (.pointer (some ⟨w.heap.size, 0, none⟩)) v2 v3 where
  size := by simp [h.size]
  taken := fun j hj => by
    rw [getD_set]
    split
    · rfl
    · exact h.taken j hj
  below := bl_alloc h.below
  k1 := fun hh => h.k1 (by rwa [getD_set_ne' l 15 4 (by decide)] at hh)
  k2 := fun hh => h.k2 (by rwa [getD_set_ne' l 15 9 (by decide)] at hh)
  k3 := fun hh => h.k3 (by rwa [getD_set_ne' l 15 14 (by decide)] at hh)
  t1 := h.t1.new hal (by rw [h.size]; decide) (by decide) h.below.size
  t2 := h.t2.keep (bl_alloc (Below.refl _ _)) 15 (by decide) (by decide)
  t3 := h.t3.keep (bl_alloc (Below.refl _ _)) 15 (by decide) (by decide)
  d12 := fun p q => by
    rw [getD_set_ne' l 15 16 (by decide)] at q
    obtain ⟨g, e, _, hB⟩ := h.t2.2 q
    rw [e]
    have := hB.lt
    intro k
    simp only [Value.pointer.injEq, Option.some.injEq, Addr.mk.injEq] at k
    omega
  d13 := fun p q => by
    rw [getD_set_ne' l 15 17 (by decide)] at q
    obtain ⟨g, e, _, hB⟩ := h.t3.2 q
    rw [e]
    have := hB.lt
    intro k
    simp only [Value.pointer.injEq, Option.some.injEq, Addr.mk.injEq] at k
    omega
  d23 := fun p q => h.d23 (by rwa [getD_set_ne' l 15 16 (by decide)] at p) (by rwa [getD_set_ne' l 15 17 (by decide)] at q)
theorem RingInv.alloc2 {W : World} {T : Act} {x1 y1 x2 y2 x3 y3 : Int} {l : Array Bool} {w : World} {u1 u2 u3 v1 v2 v3 : Value} (h : RingInv W T x1 y1 x2 y2 x3 y3 l w u1 u2 u3 v1 v2 v3) (hal : l.getD 16 false = false) :
    RingInv W T x1 y1 x2 y2 x3 y3 (l.setIfInBounds 16 true) (w.alloc (.cells zeroCells 26)) u1 u2 u3 v1 (.pointer (some ⟨w.heap.size, 0, none⟩)) v3 where
  size := by simp [h.size]
  taken := fun j hj => by
    rw [getD_set]
    split
    · rfl
    · exact h.taken j hj
  below := bl_alloc h.below
  k1 := fun hh => h.k1 (by rwa [getD_set_ne' l 16 4 (by decide)] at hh)
  k2 := fun hh => h.k2 (by rwa [getD_set_ne' l 16 9 (by decide)] at hh)
  k3 := fun hh => h.k3 (by rwa [getD_set_ne' l 16 14 (by decide)] at hh)
  t1 := h.t1.keep (bl_alloc (Below.refl _ _)) 16 (by decide) (by decide)
  t2 := h.t2.new hal (by rw [h.size]; decide) (by decide) h.below.size
  t3 := h.t3.keep (bl_alloc (Below.refl _ _)) 16 (by decide) (by decide)
  d12 := fun p q => by
    rw [getD_set_ne' l 16 15 (by decide)] at p
    obtain ⟨g, e, _, hB⟩ := h.t1.2 p
    rw [e]
    have := hB.lt
    intro k
    simp only [Value.pointer.injEq, Option.some.injEq, Addr.mk.injEq] at k
    omega
  d13 := fun p q => h.d13 (by rwa [getD_set_ne' l 16 15 (by decide)] at p) (by rwa [getD_set_ne' l 16 17 (by decide)] at q)
  d23 := fun p q => by
    rw [getD_set_ne' l 16 17 (by decide)] at q
    obtain ⟨g, e, _, hB⟩ := h.t3.2 q
    rw [e]
    have := hB.lt
    intro k
    simp only [Value.pointer.injEq, Option.some.injEq, Addr.mk.injEq] at k
    omega
theorem RingInv.alloc3 {W : World} {T : Act} {x1 y1 x2 y2 x3 y3 : Int} {l : Array Bool} {w : World} {u1 u2 u3 v1 v2 v3 : Value} (h : RingInv W T x1 y1 x2 y2 x3 y3 l w u1 u2 u3 v1 v2 v3) (hal : l.getD 17 false = false) :
    RingInv W T x1 y1 x2 y2 x3 y3 (l.setIfInBounds 17 true) (w.alloc (.cells zeroCells 26)) u1 u2 u3 v1 v2 (.pointer (some ⟨w.heap.size, 0, none⟩)) where
  size := by simp [h.size]
  taken := fun j hj => by
    rw [getD_set]
    split
    · rfl
    · exact h.taken j hj
  below := bl_alloc h.below
  k1 := fun hh => h.k1 (by rwa [getD_set_ne' l 17 4 (by decide)] at hh)
  k2 := fun hh => h.k2 (by rwa [getD_set_ne' l 17 9 (by decide)] at hh)
  k3 := fun hh => h.k3 (by rwa [getD_set_ne' l 17 14 (by decide)] at hh)
  t1 := h.t1.keep (bl_alloc (Below.refl _ _)) 17 (by decide) (by decide)
  t2 := h.t2.keep (bl_alloc (Below.refl _ _)) 17 (by decide) (by decide)
  t3 := h.t3.new hal (by rw [h.size]; decide) (by decide) h.below.size
  d12 := fun p q => h.d12 (by rwa [getD_set_ne' l 17 15 (by decide)] at p) (by rwa [getD_set_ne' l 17 16 (by decide)] at q)
  d13 := fun p q => by
    rw [getD_set_ne' l 17 15 (by decide)] at p
    obtain ⟨g, e, _, hB⟩ := h.t1.2 p
    rw [e]
    have := hB.lt
    intro k
    simp only [Value.pointer.injEq, Option.some.injEq, Addr.mk.injEq] at k
    omega
  d23 := fun p q => by
    rw [getD_set_ne' l 17 16 (by decide)] at p
    obtain ⟨g, e, _, hB⟩ := h.t2.2 p
    rw [e]
    have := hB.lt
    intro k
    simp only [Value.pointer.injEq, Option.some.injEq, Addr.mk.injEq] at k
    omega
theorem RingInv.store1 {W : World} {T : Act} {x1 y1 x2 y2 x3 y3 : Int} {l : Array Bool} {w : World} {u1 u2 u3 v2 v3 : Value} {p : Nat} (h : RingInv W T x1 y1 x2 y2 x3 y3 l w u1 u2 u3 (.pointer (some ⟨p, 0, none⟩)) v2 v3) (hal : l.getD 15 false = true) (hst : l.getD 18 false = false) (hp : W.heap.size ≤ p) :
    RingInv W T x1 y1 x2 y2 x3 y3 (l.setIfInBounds 18 true) (setPt w p (F x1) (F y1)) u1 u2 u3 (.pointer (some ⟨p, 0, none⟩)) v2 v3 where
  size := by simp [h.size]
  taken := fun j hj => by
    rw [getD_set]
    split
    · rfl
    · exact h.taken j hj
  below := setPt_below h.below hp
  k1 := fun hh => h.k1 (by rwa [getD_set_ne' l 18 4 (by decide)] at hh)
  k2 := fun hh => h.k2 (by rwa [getD_set_ne' l 18 9 (by decide)] at hh)
  k3 := fun hh => h.k3 (by rwa [getD_set_ne' l 18 14 (by decide)] at hh)
  t1 := h.t1.fill hal hst (by rw [h.size]; decide) (by decide)
  t2 := h.t2.other (fun hh => Ne.symm (h.d12 hal hh)) (by decide) (by decide)
  t3 := h.t3.other (fun hh => Ne.symm (h.d13 hal hh)) (by decide) (by decide)
  d12 := fun p q => h.d12 (by rwa [getD_set_ne' l 18 15 (by decide)] at p) (by rwa [getD_set_ne' l 18 16 (by decide)] at q)
  d13 := fun p q => h.d13 (by rwa [getD_set_ne' l 18 15 (by decide)] at p) (by rwa [getD_set_ne' l 18 17 (by decide)] at q)
  d23 := fun p q => h.d23 (by rwa [getD_set_ne' l 18 16 (by decide)] at p) (by rwa [getD_set_ne' l 18 17 (by decide)] at q)
theorem RingInv.store2 {W : World} {T : Act} {x1 y1 x2 y2 x3 y3 : Int} {l : Array Bool} {w : World} {u1 u2 u3 v1 v3 : Value} {p : Nat} (h : RingInv W T x1 y1 x2 y2 x3 y3 l w u1 u2 u3 v1 (.pointer (some ⟨p, 0, none⟩)) v3) (hal : l.getD 16 false = true) (hst : l.getD 19 false = false) (hp : W.heap.size ≤ p) :
    RingInv W T x1 y1 x2 y2 x3 y3 (l.setIfInBounds 19 true) (setPt w p (F x2) (F y2)) u1 u2 u3 v1 (.pointer (some ⟨p, 0, none⟩)) v3 where
  size := by simp [h.size]
  taken := fun j hj => by
    rw [getD_set]
    split
    · rfl
    · exact h.taken j hj
  below := setPt_below h.below hp
  k1 := fun hh => h.k1 (by rwa [getD_set_ne' l 19 4 (by decide)] at hh)
  k2 := fun hh => h.k2 (by rwa [getD_set_ne' l 19 9 (by decide)] at hh)
  k3 := fun hh => h.k3 (by rwa [getD_set_ne' l 19 14 (by decide)] at hh)
  t1 := h.t1.other (fun hh => h.d12 hh hal) (by decide) (by decide)
  t2 := h.t2.fill hal hst (by rw [h.size]; decide) (by decide)
  t3 := h.t3.other (fun hh => Ne.symm (h.d23 hal hh)) (by decide) (by decide)
  d12 := fun p q => h.d12 (by rwa [getD_set_ne' l 19 15 (by decide)] at p) (by rwa [getD_set_ne' l 19 16 (by decide)] at q)
  d13 := fun p q => h.d13 (by rwa [getD_set_ne' l 19 15 (by decide)] at p) (by rwa [getD_set_ne' l 19 17 (by decide)] at q)
  d23 := fun p q => h.d23 (by rwa [getD_set_ne' l 19 16 (by decide)] at p) (by rwa [getD_set_ne' l 19 17 (by decide)] at q)
theorem RingInv.store3 {W : World} {T : Act} {x1 y1 x2 y2 x3 y3 : Int} {l : Array Bool} {w : World} {u1 u2 u3 v1 v2 : Value} {p : Nat} (h : RingInv W T x1 y1 x2 y2 x3 y3 l w u1 u2 u3 v1 v2 (.pointer (some ⟨p, 0, none⟩))) (hal : l.getD 17 false = true) (hst : l.getD 20 false = false) (hp : W.heap.size ≤ p) :
    RingInv W T x1 y1 x2 y2 x3 y3 (l.setIfInBounds 20 true) (setPt w p (F x3) (F y3)) u1 u2 u3 v1 v2 (.pointer (some ⟨p, 0, none⟩)) where
  size := by simp [h.size]
  taken := fun j hj => by
    rw [getD_set]
    split
    · rfl
    · exact h.taken j hj
  below := setPt_below h.below hp
  k1 := fun hh => h.k1 (by rwa [getD_set_ne' l 20 4 (by decide)] at hh)
  k2 := fun hh => h.k2 (by rwa [getD_set_ne' l 20 9 (by decide)] at hh)
  k3 := fun hh => h.k3 (by rwa [getD_set_ne' l 20 14 (by decide)] at hh)
  t1 := h.t1.other (fun hh => h.d13 hh hal) (by decide) (by decide)
  t2 := h.t2.other (fun hh => h.d23 hh hal) (by decide) (by decide)
  t3 := h.t3.fill hal hst (by rw [h.size]; decide) (by decide)
  d12 := fun p q => h.d12 (by rwa [getD_set_ne' l 20 15 (by decide)] at p) (by rwa [getD_set_ne' l 20 16 (by decide)] at q)
  d13 := fun p q => h.d13 (by rwa [getD_set_ne' l 20 15 (by decide)] at p) (by rwa [getD_set_ne' l 20 17 (by decide)] at q)
  d23 := fun p q => h.d23 (by rwa [getD_set_ne' l 20 16 (by decide)] at p) (by rwa [getD_set_ne' l 20 17 (by decide)] at q)
end Go.Proofs.Ytcfmnlpbpihllaa
