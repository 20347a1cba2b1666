/- A region that draws its order, by a statement that each operation keeps. -/
import Derived.Orders
import Derived.Test.YtcilabemglbhbaaGreatDoorK2
namespace Go.Pur
open Go Go.RowKit

def lowB (ops : Array Oper) : Bool := (List.range ops.size).all fun i => match ops[i]? with | some o => o.after.all (fun e => !Region.binds .any e || decide (e.on < i)) | none => true

section
variable {P : Program} {ops : Array Oper} {Q : Exit → Act → World → Prop}
theorem all_listed (hB : lowB ops = true) {listed : Array Bool} (hs : listed.size = ops.size) (hr : Region.ready .any ops listed = []) : ∀ i, i < ops.size → listed.getD i false = true := by
  intro i
  induction i using Nat.strongRecOn with
  | _ i ih =>
    intro hi
    cases hl : listed.getD i false with
    | true => rfl
    | false =>
      exfalso
      have hi' : i < listed.size := by omega
      have hlt : listed.getD i true = false := by simp [hi'] at hl ⊢; exact hl
      have hmem : i ∈ Region.ready .any ops listed := by
        refine mem_ready.2 ⟨hlt, ops[i], Array.getElem?_eq_getElem hi, fun e he hbd => ?_⟩
        have h1 := List.all_eq_true.1 hB i (List.mem_range.2 hi)
        rw [Array.getElem?_eq_getElem hi] at h1
        simp only [Array.all_eq_true_iff_forall_mem, Bool.or_eq_true, Bool.not_eq_true', decide_eq_true_eq] at h1
        have h2 := (h1 e he).resolve_left (by rw [hbd]; simp)
        exact ih e.on h2 (by omega)
      rw [hr] at hmem
      cases hmem

theorem wpAny_of_inv (hB : lowB ops = true) (J : (Nat → Bool) → Act → World → Prop)
    (hstep : ∀ i o, ops[i]? = some o → ∀ (L : Nat → Bool) a w, L i = false → (∀ e ∈ o.after, Region.binds .any e = true → L e.on = true) → J L a w →
      if Region.wanted o (yielded ops a.tmps) then o.wp P a w (J fun j => decide (j = i) || L j) Q else J (fun j => decide (j = i) || L j) (a.put o.dst undef) w)
    (hend : ∀ L a w, (∀ i, i < ops.size → L i = true) → J L a w → Q .normal a w) :
    ∀ (fuel : Nat) (listed : Array Bool) (a : Act) (w : World), listed.size = ops.size → listed.count false ≤ fuel → J (fun j => listed.getD j false) a w → wpAny P .any ops Q fuel listed a w := by
  intro fuel
  induction fuel with
  | zero =>
    intro listed a w hs hc hJ
    have hall : ∀ i, i < ops.size → listed.getD i false = true := by
      intro i hi
      have hi' : i < listed.size := by omega
      have h0 : listed.count false = 0 := by omega
      rw [Array.count_eq_zero] at h0
      cases hl : listed.getD i false with
      | true => rfl
      | false =>
        exfalso
        refine h0 ?_
        have : listed[i] = false := by simpa [hi'] using hl
        rw [← this]
        exact Array.getElem_mem hi'
    refine ⟨?_, hend _ _ _ hall hJ⟩
    rw [List.eq_nil_iff_forall_not_mem]
    intro i hi
    obtain ⟨h1, o, ho, _⟩ := mem_ready.1 hi
    have hi' := (Array.getElem?_eq_some_iff.1 ho).1
    have h2 := hall i hi'
    have hi2 : i < listed.size := by omega
    simp [hi2] at h1 h2
    rw [h1] at h2
    cases h2
  | succ fuel ih =>
    intro listed a w hs hc hJ
    refine ⟨fun hr => hend _ _ _ (all_listed hB hs hr) hJ, fun i hi => ?_⟩
    obtain ⟨h1, o, ho, hall⟩ := mem_ready.1 hi
    have hi' := (Array.getElem?_eq_some_iff.1 ho).1
    have hi2 : i < listed.size := by omega
    have hLi : listed.getD i false = false := by simp [hi2] at h1 ⊢; exact h1
    have hst := hstep i o ho (fun j => listed.getD j false) a w hLi hall hJ
    have hJ' : (fun j => (listed.setIfInBounds i true).getD j false) = (fun j => decide (j = i) || listed.getD j false) := by
      funext j
      by_cases hj : j = i
      · subst hj
        simp [hi2]
      · simp only [hj, decide_false, Bool.false_or]
        rw [getD_set_ne false (Ne.symm hj)]
    have hcnt : (listed.setIfInBounds i true).count false ≤ fuel := by
      rw [Array.setIfInBounds_def, dif_pos hi2, Array.count_set]
      have : listed[i] = false := by simpa [hi2] using h1
      simp only [this, beq_self_eq_true, if_true]
      simp
      omega
    have hk : ∀ a w, J (fun j => decide (j = i) || listed.getD j false) a w → wpAny P .any ops Q fuel (listed.setIfInBounds i true) a w := fun a w h =>
      ih _ a w (by simp [hs]) hcnt (by rw [hJ']; exact h)
    unfold wpOp
    simp only [ho]
    split
    · rename_i hw
      rw [if_pos hw] at hst
      exact .inl (Oper.wp_mono hk hst)
    · rename_i hw
      rw [if_neg hw] at hst
      exact hk _ _ hst

theorem wp_region_inv {id : Nat} {a : Act} {w : World} (hm : P.follows .mixedOrders = true) (hB : lowB ops = true) (J : (Nat → Bool) → Act → World → Prop) (h0 : J (fun _ => false) a w.drew)
    (hstep : ∀ i o, ops[i]? = some o → ∀ (L : Nat → Bool) a w, L i = false → (∀ e ∈ o.after, Region.binds .any e = true → L e.on = true) → J L a w →
      if Region.wanted o (yielded ops a.tmps) then o.wp P a w (J fun j => decide (j = i) || L j) Q else J (fun j => decide (j = i) || L j) (a.put o.dst undef) w)
    (hend : ∀ L a w, (∀ i, i < ops.size → L i = true) → J L a w → Q .normal a w) : (Code.region id ops true).wp P Q a w := by
  refine wp_region_any hm (wpAny_of_inv hB J hstep hend ops.size _ a w.drew (by simp) ?_ ?_)
  · simp
  · have e : (fun j => (Array.replicate ops.size false).getD j false) = fun _ => false := by
      funext j
      rcases Nat.lt_or_ge j ops.size with h | h <;> simp [h]
    rw [e]
    exact h0
end

/-- the frame is as it was, but for the listed slots. -/
def Frm (a0 a : Act) (ds : List Nat) : Prop := a.defers = a0.defers ∧ a.tmps.size = a0.tmps.size ∧ ∀ j, j ∉ ds → a.tmps[j]? = a0.tmps[j]?
theorem Frm.refl (a : Act) (ds : List Nat) : Frm a a ds := ⟨rfl, rfl, fun _ _ => rfl⟩
theorem Frm.put {a0 a : Act} {ds : List Nat} (h : Frm a0 a ds) {j : Nat} (hj : j ∈ ds) (v : Value) : Frm a0 (a.put (some j) v) ds := by
  refine ⟨h.1, by simp [Act.put, h.2.1], fun k hk => ?_⟩
  have : j ≠ k := fun e => hk (e ▸ hj)
  simp only [Act.put]
  rw [Array.getElem?_setIfInBounds_ne this]
  exact h.2.2 k hk
theorem Frm.put_none {a0 a : Act} {ds : List Nat} (h : Frm a0 a ds) (v : Value) : Frm a0 (a.put none v) ds := h
theorem put_same {a : Act} {j : Nat} (v : Value) (hj : j < a.tmps.size) : (a.put (some j) v).tmps[j]? = some v := by
  simp [Act.put, hj]
theorem put_other {a : Act} {j k : Nat} (v : Value) (h : j ≠ k) : (a.put (some j) v).tmps[k]? = a.tmps[k]? := by
  simp only [Act.put]
  rw [Array.getElem?_setIfInBounds_ne h]
theorem eval_tmp {a : Act} {j : Nat} {v : Value} (h : a.tmps[j]? = some v) : a.eval (.tmp j) = v := by
  simp [Act.eval, h]
theorem foldl_set (f : Nat → Value) (k : Nat) : ∀ (ds : List Nat) (t : Array Value), (ds.foldl (fun t j => t.setIfInBounds j (f j)) t)[k]? = if k ∈ ds ∧ k < t.size then some (f k) else t[k]?
  | [], t => by simp
  | d :: ds, t => by
    rw [List.foldl_cons, foldl_set f k ds]
    by_cases hkt : k < t.size
    · by_cases hd : d = k
      · subst hd
        simp [hkt]
      · rw [Array.getElem?_setIfInBounds_ne hd]
        simp [hkt, Ne.symm hd, List.mem_cons]
    · simp [hkt]
theorem Frm.lit {a0 a : Act} {ds : List Nat} (h : Frm a0 a ds) : a = { tmps := ds.foldl (fun t j => t.setIfInBounds j (a.tmps.getD j undef)) a0.tmps, defers := a0.defers } := by
  obtain ⟨t, d⟩ := a
  obtain ⟨h1, h2, h3⟩ := h
  simp only at h1 h2 h3
  subst h1
  congr 1
  apply Array.ext_getElem?
  intro k
  rw [foldl_set (fun j => t.getD j undef)]
  split
  · rename_i hk
    have : k < t.size := by omega
    simp [this]
  · rename_i hk
    by_cases hkd : k ∈ ds
    · have : ¬ k < a0.tmps.size := fun h => hk ⟨hkd, h⟩
      rw [Array.getElem?_eq_none (by omega), Array.getElem?_eq_none (by omega)]
    · exact h3 k hkd
section
variable {P : Program} {ops : Array Oper} {Q : Exit → Act → World → Prop}
theorem wp_region_frm {id : Nat} {a : Act} {w : World} (hm : P.follows .mixedOrders = true) (hB : lowB ops = true) (hg : (ops.all fun o => o.guard.isNone) = true) (ds : List Nat) (J : (Nat → Bool) → Act → World → Prop) (h0 : J (fun _ => false) a w.drew)
    (hstep : ∀ (i : Nat) (o : Oper), ops[i]? = some o → ∀ (L : Nat → Bool) (a' : Act) (w' : World), L i = false → (∀ e ∈ o.after, Region.binds .any e = true → L e.on = true) → Frm a a' ds → J L a' w' →
      o.wp P a' w' (fun b w'' => Frm a b ds ∧ J (fun j => decide (j = i) || L j) b w'') Q)
    (hend : ∀ L a' w', (∀ i, i < ops.size → L i = true) → Frm a a' ds → J L a' w' → Q .normal a' w') : (Code.region id ops true).wp P Q a w :=
  wp_region_inv hm hB (fun L b w'' => Frm a b ds ∧ J L b w'') ⟨Frm.refl _ _, h0⟩ (fun i o ho L a' w' hi0 hd hJ => by
    have h1 : o.guard = none := by
      have h2 := (Array.all_eq_true_iff_forall_mem.1 hg) o (Array.mem_of_getElem? ho)
      simpa using h2
    rw [if_pos (by simp [Region.wanted, h1])]
    exact hstep i o ho L a' w' hi0 hd hJ.1 hJ.2) (fun L a' w' hall hJ => hend L a' w' hall hJ.1 hJ.2)
theorem wpList_copy_run {w : World} {rest : List Oper} {o : Oper} {a : Act} (hgd : o.guard = none) (d s : Operand) (t t' : TypeId)
    (ho : o.op = .call { callee := .builtin .copy, args := #[d, s], argTypes := #[t, t'] }) (v u : Value) (hd : a.eval d = v) (hs : a.eval s = u) {v' : Value} {w' : World}
    (hr : (Builtin.copy_ #[t, t'] o.type #[v, u]).run P w = .ok v' w') (h : wpList P ops Q rest (a.put o.dst v') w') : wpList P ops Q (o :: rest) a w :=
  wpList_plain hgd fun _ hK => by
    unfold Oper.wp execOp
    simp only [ho, resolve, invoke, builtin, Sem.run_bind, Sem.run_pure, Result.andThen_ok, List.map_toArray, List.map_cons, List.map_nil, hd, hs, hr]
    exact hK _ _ h
theorem wp_via {o : Oper} {a : Act} {w : World} {K0 : Act → World → Prop} (h : ∀ K : Act → World → Prop, (∀ b w', K0 b w' → K b w') → o.wp P a w K Q) : o.wp P a w K0 Q := h K0 (fun _ _ h => h)
theorem Below.drew_ (w : World) : Below w.heap.size w w.drew := ⟨rfl, rfl, rfl, Nat.le_refl _, fun _ _ => rfl⟩
theorem wp_load_at {o : Oper} {a : Act} {w : World} {K : Act → World → Prop} (ty : TypeId) (x : Operand) (ho : o.op = .load ty x)
    (b off : Nat) (hx : a.eval x = .pointer (some ⟨b, off, none⟩)) (cs : List Value) (d : TypeDesc) (hc : ∀ j u, cs[j]? = some u → w.cell? ⟨b, off + j, none⟩ = some u)
    (hu : P.underlying ty = some d) (hd : (match d with | .struct _ | .array _ _ => true | _ => false) = true) (hi : (P.info? ty).map (·.size) = some cs.length)
    (h : K (a.put o.dst (.agg cs.toArray)) w) : o.wp P a w K Q := by
  unfold Oper.wp execOp
  simp only [ho, hx, Instr.loadAt, Instr.sureAddr, Sem.run_bind, Sem.run_pure, Result.andThen_ok, run_loadVar_at w b off ty cs d hc hu hd hi]
  exact h
end
/-- where operation i is done slot j holds v. -/
def Has (L : Nat → Bool) (i : Nat) (a : Act) (j : Nat) (v : Value) : Prop := L i = true → a.tmps[j]? = some v
def upd (L : Nat → Bool) (i : Nat) : Nat → Bool := fun j => decide (j = i) || L j
theorem upd_ne {L : Nat → Bool} {i j : Nat} (h : upd L i j = true) (hj : j ≠ i) : L j = true := by simpa [upd, hj] using h
theorem Has.begin_ (i : Nat) (a : Act) (j : Nat) (v : Value) : Has (fun _ => false) i a j v := fun h => by cases h
theorem Has.other {L : Nat → Bool} {i : Nat} {a : Act} {j : Nat} {v : Value} (h : Has L i a j v) {i0 k : Nat} (u : Value) (hi : i ≠ i0) (hk : k ≠ j) : Has (upd L i0) i (a.put (some k) u) j v :=
  fun hl => (put_other u hk).trans (h (upd_ne hl hi))
theorem Has.still {L : Nat → Bool} {i : Nat} {a : Act} {j : Nat} {v : Value} (h : Has L i a j v) {i0 : Nat} (u : Value) (hi : i ≠ i0) : Has (upd L i0) i (a.put none u) j v :=
  fun hl => h (upd_ne hl hi)
theorem Has.same {L : Nat → Bool} {i : Nat} {a : Act} {j : Nat} (v : Value) (hj : j < a.tmps.size) : Has (upd L i) i (a.put (some j) v) j v := fun _ => put_same v hj
/-- operation i2 waits for operation i. -/
def Waits (L : Nat → Bool) (i2 i : Nat) : Prop := L i2 = true → L i = true
theorem Waits.begin_ (i2 i : Nat) : Waits (fun _ => false) i2 i := fun h => by cases h
theorem Waits.other {L : Nat → Bool} {i2 i : Nat} (h : Waits L i2 i) {i0 : Nat} (hi : i2 ≠ i0) : Waits (upd L i0) i2 i := fun hl => by
  have := h (upd_ne hl hi)
  simp [upd, this]
theorem Waits.done {L : Nat → Bool} {i2 i : Nat} (h : L i = true) : Waits (upd L i2) i2 i := fun _ => by simp [upd, h]
theorem Waits.not {L : Nat → Bool} {i2 i : Nat} (h : Waits L i2 i) (hi : L i = false) (hne : i2 ≠ i) (hl : upd L i i2 = true) : False := by
  have := h (upd_ne hl hne)
  rw [hi] at this
  cases this
/-- where operation i is done slot j points to a new block of n cells; where operation i2 is done it reads as fin. -/
def Lays (L : Nat → Bool) (i i2 : Nat) (a : Act) (w : World) (j base : Nat) (t : TypeId) (n : Nat) (fin : Array Value) : Prop :=
  L i = true → ∃ g cs, a.tmps[j]? = some (.pointer (some ⟨g, 0, none⟩)) ∧ base ≤ g ∧ Blk w g t cs ∧ cs.size = n ∧ (L i2 = true → cs = fin)
theorem Lays.begin_ (i i2 : Nat) (a : Act) (w : World) (j base : Nat) (t : TypeId) (n : Nat) (fin : Array Value) : Lays (fun _ => false) i i2 a w j base t n fin := fun h => by cases h
theorem Lays.other {L : Nat → Bool} {i i2 : Nat} {a : Act} {w w' : World} {j base n : Nat} {t : TypeId} {fin : Array Value} (h : Lays L i i2 a w j base t n fin) {i0 k : Nat} (u : Value) (hi : i ≠ i0) (hi2 : i2 ≠ i0) (hk : k ≠ j)
    (hw : ∀ g cs, Blk w g t cs → Blk w' g t cs) : Lays (upd L i0) i i2 (a.put (some k) u) w' j base t n fin := fun hl => by
  obtain ⟨g, cs, h1, h2, h3, h4, h5⟩ := h (upd_ne hl hi)
  exact ⟨g, cs, (put_other u hk).trans h1, h2, hw _ _ h3, h4, fun hl2 => h5 (upd_ne hl2 hi2)⟩
theorem Lays.still {L : Nat → Bool} {i i2 : Nat} {a : Act} {w w' : World} {j base n : Nat} {t : TypeId} {fin : Array Value} (h : Lays L i i2 a w j base t n fin) {i0 : Nat} (u : Value) (hi : i ≠ i0) (hi2 : i2 ≠ i0)
    (hw : ∀ g cs, Blk w g t cs → Blk w' g t cs) : Lays (upd L i0) i i2 (a.put none u) w' j base t n fin := fun hl => by
  obtain ⟨g, cs, h1, h2, h3, h4, h5⟩ := h (upd_ne hl hi)
  exact ⟨g, cs, h1, h2, hw _ _ h3, h4, fun hl2 => h5 (upd_ne hl2 hi2)⟩
theorem setRow_blk {w : World} {g : Nat} {t : TypeId} {cs cs' : Array Value} (h : Blk w g t cs) : Blk (w.setRow g cs') g t cs' := by
  unfold Blk at h ⊢
  unfold World.setRow
  rw [Array.getElem?_modify, if_pos rfl, h]
  rfl
theorem setRow_far {w : World} {g g' : Nat} {t : TypeId} {cs cs' : Array Value} (h : Blk w g t cs) (hg : g' ≠ g) : Blk (w.setRow g' cs') g t cs := by
  unfold Blk at h ⊢
  unfold World.setRow
  rw [Array.getElem?_modify, if_neg hg]
  exact h
theorem setRow_below {w0 w : World} {g B : Nat} {cs' : Array Value} (h : Below B w0 w) (hg : B ≤ g) : Below B w0 (w.setRow g cs') := by
  refine ⟨h.os, h.tape, h.output, by simpa [World.setRow] using h.size, fun k hk => ?_⟩
  unfold World.setRow
  simp only
  rw [Array.getElem?_modify, if_neg (by omega)]
  exact h.block k hk
end Go.Pur
