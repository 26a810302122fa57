/- A region whose order is open, walked by an invariant: what each operation does whenever it may come up. -/
import Derived.WalkKit
import Derived.OrdersHeld
import Derived.StillTail
namespace Go.Proofs.Ytcfmnlpbpihllaa
open Go.RowKit
set_option linter.unusedVariables false
section
variable {P : Program} {md : Region.Mode} {ops : Array Oper} {Q : Exit → Act → World → Prop} {S : World → Prop}
theorem count_set_lt (l : Array Bool) (i : Nat) (h : l.getD i true = false) : (l.setIfInBounds i true).toList.count false + 1 = l.toList.count false := by
  have hi : i < l.size := by
    rcases Nat.lt_or_ge i l.size with h' | h'
    · exact h'
    · simp [Array.getElem?_eq_none h'] at h
  have hv : l.toList[i]'(by simpa using hi) = false := by simpa [hi] using h
  rw [Array.toList_setIfInBounds, List.count_set (by simpa using hi), hv]
  have hpos : 0 < l.toList.count false := List.count_pos_iff.2 (hv ▸ List.getElem_mem _)
  have e1 : (true == false) = false := rfl
  have e2 : (false == false) = true := rfl
  rw [e1, e2]
  simp only [if_true, Bool.false_eq_true, if_false, Nat.add_zero]
  omega
theorem anyH_inv (I : Array Bool → Act → World → Prop)
    (hstep : ∀ listed a w i o, I listed a w → ops[i]? = some o → listed.getD i true = false → (∀ d, Region.waitsFor md ops i d = true → listed.getD d false = true) →
      wpOp P ops Q i (fun a' w' => S w' ∧ I (listed.setIfInBounds i true) a' w') a w)
    (hend : ∀ listed a w, I listed a w → Region.ready md ops listed = [] → Q .normal a w) :
    ∀ fuel listed a w, listed.toList.count false ≤ fuel → I listed a w → wpAnyH P md ops Q S fuel listed a w := by
  intro fuel
  induction fuel with
  | zero =>
    intro listed a w hc hI
    have hr : Region.ready md ops listed = [] := by
      cases hh : Region.ready md ops listed with
      | nil => rfl
      | cons i r =>
        have hm : i ∈ Region.ready md ops listed := by rw [hh]; exact List.mem_cons_self
        have := count_set_lt listed i (mem_ready.1 hm).1
        omega
    exact ⟨hr, hend _ _ _ hI hr⟩
  | succ fuel ih =>
    intro listed a w hc hI
    refine ⟨fun hr => hend _ _ _ hI hr, fun i hi => ?_⟩
    obtain ⟨h1, o, ho, hall⟩ := mem_ready.1 hi
    have hlt := count_set_lt listed i h1
    exact wpOp_mono (fun a' w' h => ⟨h.1, ih _ _ _ (by omega) h.2⟩) (hstep listed a w i o hI ho h1 fun d hd => by
      obtain ⟨oj, hoj, e, he, hb, hon⟩ := Region.waitsFor_spec hd
      obtain rfl : o = oj := Option.some.inj (ho.symm.trans hoj)
      rw [← hon]
      exact hall e he hb)
/-- each operation waits for earlier ones alone -/
def onBelow (ops : Array Oper) : Bool := (List.range ops.size).all fun i => match ops[i]? with
  | some o => o.after.all fun e => decide (e.on < i)
  | none => true
theorem all_listed {l : Array Bool} (hon : onBelow ops = true) (hs : l.size = ops.size) (hr : Region.ready md ops l = []) : ∀ i, i < ops.size → l.getD i false = true := by
  intro i
  induction i using Nat.strongRecOn with
  | _ i ih =>
    intro hi
    cases hl : l.getD i false with
    | true => rfl
    | false =>
      have hm : i ∈ Region.ready md ops l := by
        refine mem_ready.2 ⟨?_, ops[i], Array.getElem?_eq_getElem hi, fun e he _ => ?_⟩
        · have : i < l.size := by omega
          simpa [this] using hl
        · have h1 := List.all_eq_true.1 hon i (List.mem_range.2 hi)
          rw [Array.getElem?_eq_getElem hi] at h1
          simp only [Array.all_eq_true_iff_forall_mem, decide_eq_true_eq] at h1
          have hlt := h1 e he
          exact ih e.on hlt (by omega)
      rw [hr] at hm
      cases hm
theorem wpOp_of {i : Nat} {o : Oper} {K : Act → World → Prop} {a : Act} {w : World} (hi : ops[i]? = some o) (hg : o.guard = none) (h : o.wp P a w K Q) : wpOp P ops Q i K a w := by
  unfold wpOp
  simp only [hi, Region.wanted, hg, if_true]
  exact .inl h
end
end Go.Proofs.Ytcfmnlpbpihllaa
