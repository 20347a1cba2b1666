/- A region that draws its order and stores nothing: each operation's value is told by a relation that stands as the world grows. -/
import Derived.Test.YtcilabemglbhbaaDoorPurRegion
import Derived.Test.YtcilabemglbhbaaDoorPurLib2
namespace Go.Pur
open Go Go.RowKit

section
variable {P : Program} {ops : Array Oper} {Q : Exit → Act → World → Prop}
theorem wp_region_told {id : Nat} {a0 : Act} {w0 : World} (hm : P.follows .mixedOrders = true) (hB : lowB ops = true) (ds : List Nat) (hds : ops.toList.map (·.dst) = ds.map some) (hnd : ds.Nodup) (n : Nat) (hn : a0.tmps.size = n) (hlt' : (ds.all fun j => decide (j < n)) = true)
    (T : Nat → Value → World → Prop) (hT : ∀ i v w w', Below w.heap.size w w' → T i v w → T i v w')
    (hstep : ∀ (i : Nat) (o : Oper), ops[i]? = some o → ∀ (a : Act) (w : World), Frm a0 a ds → Below w0.heap.size w0 w → (∀ e ∈ o.after, Region.binds .any e = true → ∃ v, a.tmps[ds.getD e.on 0]? = some v ∧ T e.on v w) →
      if Region.wanted o (yielded ops a.tmps) then o.wp P a w (fun b w' => ∃ v, b = a.put o.dst v ∧ T i v w' ∧ Below w.heap.size w w') Q else T i undef w)
    (hend : ∀ (a : Act) (w : World), Frm a0 a ds → Below w0.heap.size w0 w → (∀ i, i < ops.size → ∃ v, a.tmps[ds.getD i 0]? = some v ∧ T i v w) → Q .normal a w) : (Code.region id ops true).wp P Q a0 w0 := by
  have hlt : ∀ j ∈ ds, j < a0.tmps.size := fun j hj => by rw [hn]; exact of_decide_eq_true (List.all_eq_true.1 hlt' j hj)
  have hdst : ∀ (i : Nat) (o : Oper), ops[i]? = some o → o.dst = some (ds.getD i 0) ∧ ds[i]? = some (ds.getD i 0) := by
    intro i o ho
    have h1 : (ops.toList.map (·.dst))[i]? = some o.dst := by rw [List.getElem?_map, Array.getElem?_toList, ho]; rfl
    rw [hds, List.getElem?_map] at h1
    cases hj : ds[i]? with
    | none => rw [hj] at h1; cases h1
    | some j =>
      rw [hj] at h1
      injection h1 with h1
      have e : ds.getD i 0 = j := by rw [List.getD_eq_getElem?_getD, hj]; rfl
      exact ⟨by rw [e]; exact h1.symm, by rw [e]⟩
  refine wp_region_inv hm hB (fun L a w => Frm a0 a ds ∧ Below w0.heap.size w0 w ∧ ∀ i, i < ops.size → L i = true → ∃ v, a.tmps[ds.getD i 0]? = some v ∧ T i v w) ⟨Frm.refl _ _, Below.drew_ _, fun i _ h => by cases h⟩ ?_ ?_
  · intro i o ho L a w hi0 hdeps hJ
    obtain ⟨hF, hW, hL⟩ := hJ
    obtain ⟨hd1, hd2⟩ := hdst i o ho
    have hi : i < ops.size := (Array.getElem?_eq_some_iff.1 ho).1
    have hil := List.mem_of_getElem? hd2
    have hlow : ∀ e ∈ o.after, Region.binds .any e = true → e.on < i := by
      have h1 := List.all_eq_true.1 hB i (List.mem_range.2 hi)
      rw [ho] at h1
      simp only [Array.all_eq_true_iff_forall_mem, Bool.or_eq_true, Bool.not_eq_true', decide_eq_true_eq] at h1
      exact fun e he hb => (h1 e he).resolve_left (by rw [hb]; simp)
    have hst := hstep i o ho a w hF hW (fun e he hb => hL e.on (Nat.lt_trans (hlow e he hb) hi) (hdeps e he hb))
    have hnew : ∀ v w', T i v w' → Below w.heap.size w w' → Frm a0 (a.put o.dst v) ds ∧ Below w0.heap.size w0 w' ∧ ∀ k, k < ops.size → (decide (k = i) || L k) = true → ∃ v', (a.put o.dst v).tmps[ds.getD k 0]? = some v' ∧ T k v' w' := by
      intro v w' hTi hb
      rw [hd1]
      refine ⟨hF.put hil v, hW.trans (hb.mono hW.size), fun k hk hkL => ?_⟩
      by_cases hki : k = i
      · subst hki
        exact ⟨v, put_same v (by rw [hF.2.1]; exact hlt _ hil), hTi⟩
      · simp only [hki, decide_false, Bool.false_or] at hkL
        obtain ⟨v', h1, h2⟩ := hL k hk hkL
        refine ⟨v', ?_, hT _ _ _ _ hb h2⟩
        rw [put_other v (fun e => ?_)]
        · exact h1
        · obtain ⟨_, hk2⟩ := hdst k ops[k] (Array.getElem?_eq_getElem hk)
          rw [e] at hd2
          have hl1 := (List.getElem?_eq_some_iff.1 hd2)
          have hl2 := (List.getElem?_eq_some_iff.1 hk2)
          obtain ⟨a1, a2⟩ := hl1
          obtain ⟨b1, b2⟩ := hl2
          have hp := List.pairwise_iff_getElem.1 hnd
          rcases Nat.lt_or_gt_of_ne hki with h | h
          · exact hp _ _ b1 a1 h (b2.trans a2.symm)
          · exact hp _ _ a1 b1 h (a2.trans b2.symm)
    split
    · rename_i hw
      rw [if_pos hw] at hst
      refine Oper.wp_mono ?_ hst
      rintro b w' ⟨v, rfl, h1, h2⟩
      exact hnew v w' h1 h2
    · rename_i hw
      rw [if_neg hw] at hst
      exact hnew undef w hst ⟨rfl, rfl, rfl, Nat.le_refl _, fun _ _ => rfl⟩
  · intro L a w hall hJ
    exact hend a w hJ.1 hJ.2.1 (fun i hi => hJ.2.2 i hi (hall i hi))
theorem told_wanted {c : Bool} {p q : Prop} (h : c = true) (hp : p) : if c = true then p else q := by rw [if_pos h]; exact hp
theorem told_unwanted {c : Bool} {p q : Prop} (h : c = false) (hq : q) : if c = true then p else q := by rw [if_neg (by rw [h]; simp)]; exact hq
/-- what an operation's slot holds. -/
theorem told_eval {a : Act} {j : Nat} {v : Value} (h : a.tmps[j]? = some v) : a.tmps.getD j undef = v := by simp [h]
end
end Go.Pur
