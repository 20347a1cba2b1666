/- Rows of inputs and outputs of the call's own: words for memory. -/
import Derived.Test.YtcilabemglbhbaaGreatDoorK8
import Derived.Test.YtcilabemglbhbaaGreatDoorK4
namespace Go.Proofs.YtcilabemglbhbaaGreatDoor
open Go Go.RowKit Go.Pur

theorem txinfo26 : (Tryz.prog.info? 52).map (·.size) = some 4 := by kernel_rfl
theorem byt_blk {w : World} {g : Nat} {t : TypeId} {cs : Array Value} (h : Blk w g t cs) (B : Nat) (hB : g < B) (l : Bytes) (hl : l.length ≤ maxLen) (hc : cs = (bvs l).toArray) : Byt w B (.slice (some ⟨g, 0, none⟩) l.length l.length) l := by
  subst hc
  refine ⟨_, _, rfl, Nat.le_refl _, hl, by simp [bvs], fun _ => ⟨_, rfl, hB, fun j u hu => ?_⟩⟩
  have e : (⟨g, 0, none⟩ : Addr).add j = ⟨g, j, none⟩ := by unfold Addr.add; split <;> simp_all
  rw [e, h.cell j]
  simpa using hu
theorem in_info : (Tryz.prog.info? 89).map (fun i => (i.zero.map (·.cells.size), i.size, i.bytes)) = some (some 35, 35, 72) := by kernel_rfl
theorem out_info : (Tryz.prog.info? 91).map (fun i => (i.zero.map (·.cells.size), i.size, i.bytes)) = some (some 2, 2, 32) := by kernel_rfl
theorem info_zparts {P : Program} {e : TypeId} {zs size bytes : Nat} (h : (P.info? e).map (fun i => (i.zero.map (·.cells.size), i.size, i.bytes)) = some (some zs, size, bytes)) :
    ∃ i z, P.info? e = some i ∧ i.zero = some z ∧ z.cells.size = zs ∧ i.size = size ∧ i.bytes = bytes := by
  obtain ⟨i, hi, hzz⟩ := Option.map_eq_some_iff.1 h
  simp only [Prod.mk.injEq] at hzz
  obtain ⟨z, hz, hzs⟩ := Option.map_eq_some_iff.1 hzz.1
  exact ⟨i, z, hi, hz, hzs, hzz.2.1, hzz.2.2⟩

/-- parts of one size, one behind the other. -/
theorem flat_get {α : Type} (f : α → List Value) (sz : Nat) (hsz : 0 < sz) : ∀ (ps : List α) (_ : ∀ p ∈ ps, (f p).length = sz) (j : Nat), (ps.flatMap f)[j]? = (ps[j / sz]?).bind (fun p => (f p)[j % sz]?)
  | [], _, j => by simp
  | p :: ps, hf, j => by
    have hp := hf p (by simp)
    rw [List.flatMap_cons]
    rcases Nat.lt_or_ge j sz with h | h
    · rw [List.getElem?_append_left (by rw [hp]; exact h), Nat.div_eq_of_lt h, Nat.mod_eq_of_lt h]
      simp
    · rw [List.getElem?_append_right (by rw [hp]; exact h), hp, flat_get f sz hsz ps (fun q hq => hf q (by simp [hq])) (j - sz)]
      have e1 : j / sz = (j - sz) / sz + 1 := by
        rw [← Nat.sub_add_cancel h, Nat.add_div_right _ hsz, Nat.add_sub_cancel]
      have e2 : j % sz = (j - sz) % sz := by
        rw [Nat.mod_eq_sub_mod h]
      rw [e1, e2]
      simp
theorem flat_len {α : Type} (f : α → List Value) (sz : Nat) : ∀ (ps : List α) (_ : ∀ p ∈ ps, (f p).length = sz), (ps.flatMap f).length = ps.length * sz
  | [], _ => by simp
  | p :: ps, hf => by
    rw [List.flatMap_cons, List.length_append, hf p (by simp), flat_len f sz ps (fun q hq => hf q (by simp [hq])), List.length_cons, Nat.succ_mul, Nat.add_comm]

/-- the row of inputs at A is the call's own; the scripts up to place m are, too, the others lie below B. -/
def InsUp (w : World) (base B : Nat) (A : Option Addr) (xs : List TIn) (m : Nat) : Prop := 0 < xs.length → ∃ g cs, A = some ⟨g, 0, none⟩ ∧ base ≤ g ∧ Blk w g 89 cs ∧
  ∀ k x, xs[k]? = some x → ∃ sv, ((k < m → OwnB w base 5 sv x.script) ∧ (m ≤ k → Byt w B sv x.script)) ∧ (x.tx.length = 32 ∧ Lt32 x.n ∧ Lt32 x.seq) ∧ ∀ j u, (inCells x sv)[j]? = some u → cs[k * 35 + j]? = some u
def OutsUp (w : World) (base B : Nat) (A : Option Addr) (xs : List TOut) (m : Nat) : Prop := 0 < xs.length → ∃ g cs, A = some ⟨g, 0, none⟩ ∧ base ≤ g ∧ Blk w g 91 cs ∧
  ∀ k x, xs[k]? = some x → ∃ sv, ((k < m → OwnB w base 5 sv x.script) ∧ (m ≤ k → Byt w B sv x.script)) ∧ Int64 x.value ∧ ∀ j u, (outCells x sv)[j]? = some u → cs[k * 2 + j]? = some u
section
variable {w w' : World} {base base' B m : Nat} {A : Option Addr} {xs : List TIn} {ys : List TOut}
theorem InsUp.below (h : InsUp w base B A xs m) (hB : B ≤ w.heap.size) (hb : Below w.heap.size w w') : InsUp w' base B A xs m := fun hn => by
  obtain ⟨g, cs, hA, hg, hbk, hx⟩ := h hn
  refine ⟨g, cs, hA, hg, hbk.below hb hbk.lt, fun k x hk => ?_⟩
  obtain ⟨sv, ⟨h1, h2⟩, h3, h4⟩ := hx k x hk
  exact ⟨sv, ⟨fun h => own_below (h1 h) hb, fun h => (h2 h).below (hb.mono hB)⟩, h3, h4⟩
theorem OutsUp.below (h : OutsUp w base B A ys m) (hB : B ≤ w.heap.size) (hb : Below w.heap.size w w') : OutsUp w' base B A ys m := fun hn => by
  obtain ⟨g, cs, hA, hg, hbk, hx⟩ := h hn
  refine ⟨g, cs, hA, hg, hbk.below hb hbk.lt, fun k x hk => ?_⟩
  obtain ⟨sv, ⟨h1, h2⟩, h3, h4⟩ := hx k x hk
  exact ⟨sv, ⟨fun h => own_below (h1 h) hb, fun h => (h2 h).below (hb.mono hB)⟩, h3, h4⟩
theorem InsUp.far (h : InsUp w base B A xs m) {g' : Nat} {t : TypeId} {cs' : Array Value} (hg : Blk w g' t cs') (hB : B ≤ g') (h1 : 89 ≠ t) (h2 : 5 ≠ t) (i : Nat) (u : Value) : InsUp (w.setCell ⟨g', i, none⟩ u) base B A xs m := fun hn => by
  obtain ⟨g, cs, hA, hgb, hbk, hx⟩ := h hn
  refine ⟨g, cs, hA, hgb, hbk.far (p := ⟨g', i, none⟩) (hbk.ne_ hg h1) u, fun k x hk => ?_⟩
  obtain ⟨sv, ⟨h3, h4⟩, h5, h6⟩ := hx k x hk
  exact ⟨sv, ⟨fun h => own_far (h3 h) (a := ⟨g', i, none⟩) (own_blk_ne (h3 h) hg h2) u, fun h => by
    obtain ⟨A', c', e1, e2, e3, e4⟩ := h4 h
    exact ⟨A', c', e1, e2, e3, e4.setCell (p := ⟨g', i, none⟩) hB u⟩⟩, h5, h6⟩
theorem OutsUp.far (h : OutsUp w base B A ys m) {g' : Nat} {t : TypeId} {cs' : Array Value} (hg : Blk w g' t cs') (hB : B ≤ g') (h1 : 91 ≠ t) (h2 : 5 ≠ t) (i : Nat) (u : Value) : OutsUp (w.setCell ⟨g', i, none⟩ u) base B A ys m := fun hn => by
  obtain ⟨g, cs, hA, hgb, hbk, hx⟩ := h hn
  refine ⟨g, cs, hA, hgb, hbk.far (p := ⟨g', i, none⟩) (hbk.ne_ hg h1) u, fun k x hk => ?_⟩
  obtain ⟨sv, ⟨h3, h4⟩, h5, h6⟩ := hx k x hk
  exact ⟨sv, ⟨fun h => own_far (h3 h) (a := ⟨g', i, none⟩) (own_blk_ne (h3 h) hg h2) u, fun h => by
    obtain ⟨A', c', e1, e2, e3, e4⟩ := h4 h
    exact ⟨A', c', e1, e2, e3, e4.setCell (p := ⟨g', i, none⟩) hB u⟩⟩, h5, h6⟩
/-- the script at place m is stored anew. -/
theorem InsUp.step {g : Nat} {x : TIn} {v : Value} (h : InsUp w base B (some ⟨g, 0, none⟩) xs m) (hB : B ≤ base) (hx : xs[m]? = some x) (hv : OwnB w base 5 v x.script) :
    InsUp (w.setCell ⟨g, m * 35 + 33, none⟩ v) base B (some ⟨g, 0, none⟩) xs (m + 1) := fun hn => by
  obtain ⟨g', cs, hA, hgb, hbk, hc⟩ := h hn
  injection hA with hA
  injection hA with hA
  subst hA
  refine ⟨g, _, rfl, hgb, hbk.set_ _ _, fun k y hk => ?_⟩
  obtain ⟨sv, ⟨h3, h4⟩, h5, h6⟩ := hc k y hk
  by_cases hkm : k = m
  · subst hkm
    rw [hx] at hk
    injection hk with hk
    subst hk
    refine ⟨v, ⟨fun _ => own_far hv (a := ⟨g, k * 35 + 33, none⟩) (own_blk_ne hv hbk (by decide)) v, fun h => absurd h (by omega)⟩, h5, fun j u hu => ?_⟩
    have hj := h6 33 sv (by simp [inCells, bvs_length, h5.1])
    have hlt : k * 35 + 33 < cs.size := by
      rcases Nat.lt_or_ge (k * 35 + 33) cs.size with h | h
      · exact h
      · rw [Array.getElem?_eq_none h] at hj; cases hj
    by_cases hj33 : j = 33
    · subst hj33
      have e : u = v := by
        simp [inCells, bvs_length, h5.1] at hu
        exact hu.symm
      rw [e, Array.getElem?_setIfInBounds_self_of_lt hlt]
    · rw [Array.getElem?_setIfInBounds_ne (by omega)]
      refine h6 j u ?_
      rw [← hu]
      unfold inCells
      rcases Nat.lt_or_ge j 32 with h | h
      · rw [List.getElem?_append_left (by rw [bvs_length, h5.1]; exact h), List.getElem?_append_left (by rw [bvs_length, h5.1]; exact h)]
      · rw [List.getElem?_append_right (by rw [bvs_length, h5.1]; exact h), List.getElem?_append_right (by rw [bvs_length, h5.1]; exact h), bvs_length, h5.1]
        obtain ⟨d, rfl⟩ : ∃ d, j = 32 + d := ⟨j - 32, by omega⟩
        rw [Nat.add_sub_cancel_left]
        rcases d with _ | _ | d
        · rfl
        · exact absurd rfl hj33
        · rfl
  · refine ⟨sv, ⟨fun h => own_far (h3 (by omega)) (a := ⟨g, m * 35 + 33, none⟩) (own_blk_ne (h3 (by omega)) hbk (by decide)) v, fun h => by
      obtain ⟨A', c', e1, e2, e3, e4⟩ := h4 (by omega)
      exact ⟨A', c', e1, e2, e3, e4.setCell (p := ⟨g, m * 35 + 33, none⟩) (Nat.le_trans hB hgb) v⟩⟩, h5, fun j u hu => ?_⟩
    have hj : j < 35 := by
      rw [← inCells_length y sv h5.1]
      rcases Nat.lt_or_ge j (inCells y sv).length with h | h
      · exact h
      · rw [List.getElem?_eq_none h] at hu; cases hu
    rw [Array.getElem?_setIfInBounds_ne (by omega)]
    exact h6 j u hu
theorem OutsUp.step {g : Nat} {x : TOut} {v : Value} (h : OutsUp w base B (some ⟨g, 0, none⟩) ys m) (hB : B ≤ base) (hx : ys[m]? = some x) (hv : OwnB w base 5 v x.script) :
    OutsUp (w.setCell ⟨g, m * 2 + 1, none⟩ v) base B (some ⟨g, 0, none⟩) ys (m + 1) := fun hn => by
  obtain ⟨g', cs, hA, hgb, hbk, hc⟩ := h hn
  injection hA with hA
  injection hA with hA
  subst hA
  refine ⟨g, _, rfl, hgb, hbk.set_ _ _, fun k y hk => ?_⟩
  obtain ⟨sv, ⟨h3, h4⟩, h5, h6⟩ := hc k y hk
  by_cases hkm : k = m
  · subst hkm
    rw [hx] at hk
    injection hk with hk
    subst hk
    refine ⟨v, ⟨fun _ => own_far hv (a := ⟨g, k * 2 + 1, none⟩) (own_blk_ne hv hbk (by decide)) v, fun h => absurd h (by omega)⟩, h5, fun j u hu => ?_⟩
    have hj := h6 1 sv rfl
    have hlt : k * 2 + 1 < cs.size := by
      rcases Nat.lt_or_ge (k * 2 + 1) cs.size with h | h
      · exact h
      · rw [Array.getElem?_eq_none h] at hj; cases hj
    rcases j with _ | _ | j
    · rw [Array.getElem?_setIfInBounds_ne (by omega)]
      exact h6 0 u (by rw [← hu]; rfl)
    · have e : u = v := by
        simp [outCells] at hu
        exact hu.symm
      rw [e, Array.getElem?_setIfInBounds_self_of_lt hlt]
    · simp [outCells] at hu
  · refine ⟨sv, ⟨fun h => own_far (h3 (by omega)) (a := ⟨g, m * 2 + 1, none⟩) (own_blk_ne (h3 (by omega)) hbk (by decide)) v, fun h => by
      obtain ⟨A', c', e1, e2, e3, e4⟩ := h4 (by omega)
      exact ⟨A', c', e1, e2, e3, e4.setCell (p := ⟨g, m * 2 + 1, none⟩) (Nat.le_trans hB hgb) v⟩⟩, h5, fun j u hu => ?_⟩
    have hj : j < 2 := by
      rcases j with _ | _ | j
      · omega
      · omega
      · simp [outCells] at hu
    rw [Array.getElem?_setIfInBounds_ne (by omega)]
    exact h6 j u hu
theorem InsUp.done (h : InsUp w base B A xs m) (hm : xs.length = m) : InsUp w base 0 A xs m := fun hn => by
  obtain ⟨g, cs, hA, hg, hbk, hx⟩ := h hn
  refine ⟨g, cs, hA, hg, hbk, fun k x hk => ?_⟩
  obtain ⟨sv, ⟨h1, h2⟩, h3, h4⟩ := hx k x hk
  have hkm : k < m := by
    rcases Nat.lt_or_ge k m with h | h
    · exact h
    · rw [List.getElem?_eq_none (by omega)] at hk; cases hk
  exact ⟨sv, ⟨h1, fun h => absurd h (by omega)⟩, h3, h4⟩
theorem OutsUp.done (h : OutsUp w base B A ys m) (hm : ys.length = m) : OutsUp w base 0 A ys m := fun hn => by
  obtain ⟨g, cs, hA, hg, hbk, hx⟩ := h hn
  refine ⟨g, cs, hA, hg, hbk, fun k x hk => ?_⟩
  obtain ⟨sv, ⟨h1, h2⟩, h3, h4⟩ := hx k x hk
  have hkm : k < m := by
    rcases Nat.lt_or_ge k m with h | h
    · exact h
    · rw [List.getElem?_eq_none (by omega)] at hk; cases hk
  exact ⟨sv, ⟨h1, fun h => absurd h (by omega)⟩, h3, h4⟩
end
/-- the copy: its rows, and its scripts, are the call's own. -/
def TxMine (w : World) (base : Nat) (v : Value) (t : TTx) : Prop := ∃ Ai ci Ao co, v = .agg #[.int .u32 (t.ver : Int), .slice Ai t.ins.length ci, .slice Ao t.outs.length co, .int .u32 (t.lock : Int)] ∧ Lt32 t.ver ∧ Lt32 t.lock ∧
  t.ins.length ≤ ci ∧ ci ≤ maxLen ∧ t.outs.length ≤ co ∧ co ≤ maxLen ∧ InsUp w base 0 Ai t.ins t.ins.length ∧ OutsUp w base 0 Ao t.outs t.outs.length
end Go.Proofs.YtcilabemglbhbaaGreatDoor
