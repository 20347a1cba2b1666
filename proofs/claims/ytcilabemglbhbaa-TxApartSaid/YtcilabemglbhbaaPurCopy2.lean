/- tx.Copy, whole. -/
import Derived.Test.YtcilabemglbhbaaPurCopy
import Derived.Test.YtcilabemglbhbaaPurSome
namespace Go.Proofs.Ytcilabemglbhbaa
open Go Go.RowKit Go.Pur

/-- the row of inputs at A is the call's own; the scripts up to place m are, too, the others lie below B. -/
def InsUp (w : World) (base B : Nat) (A : Option Addr) (xs : List TIn) (m : Nat) : Prop := 0 < xs.length → ∃ g cs, A = some ⟨g, 0, none⟩ ∧ base ≤ g ∧ Blk w g 47 cs ∧
  ∀ k x, xs[k]? = some x → ∃ sv, ((k < m → OwnB w base 5 sv x.script) ∧ (m ≤ k → Byt w B sv x.script)) ∧ (x.tx.length = 32 ∧ Lt32 x.n ∧ Lt32 x.seq) ∧ ∀ j u, (inCells x sv)[j]? = some u → cs[k * 35 + j]? = some u
def OutsUp (w : World) (base B : Nat) (A : Option Addr) (xs : List TOut) (m : Nat) : Prop := 0 < xs.length → ∃ g cs, A = some ⟨g, 0, none⟩ ∧ base ≤ g ∧ Blk w g 49 cs ∧
  ∀ k x, xs[k]? = some x → ∃ sv, ((k < m → OwnB w base 5 sv x.script) ∧ (m ≤ k → Byt w B sv x.script)) ∧ Int64 x.value ∧ ∀ j u, (outCells x sv)[j]? = some u → cs[k * 2 + j]? = some u
section
variable {w w' : World} {base base' B m : Nat} {A : Option Addr} {xs : List TIn} {ys : List TOut}
theorem InsUp.below (h : InsUp w base B A xs m) (hB : B ≤ w.heap.size) (hb : Below w.heap.size w w') : InsUp w' base B A xs m := fun hn => by
  obtain ⟨g, cs, hA, hg, hbk, hx⟩ := h hn
  refine ⟨g, cs, hA, hg, hbk.below hb hbk.lt, fun k x hk => ?_⟩
  obtain ⟨sv, ⟨h1, h2⟩, h3, h4⟩ := hx k x hk
  exact ⟨sv, ⟨fun h => own_below (h1 h) hb, fun h => (h2 h).below (hb.mono hB)⟩, h3, h4⟩
theorem OutsUp.below (h : OutsUp w base B A ys m) (hB : B ≤ w.heap.size) (hb : Below w.heap.size w w') : OutsUp w' base B A ys m := fun hn => by
  obtain ⟨g, cs, hA, hg, hbk, hx⟩ := h hn
  refine ⟨g, cs, hA, hg, hbk.below hb hbk.lt, fun k x hk => ?_⟩
  obtain ⟨sv, ⟨h1, h2⟩, h3, h4⟩ := hx k x hk
  exact ⟨sv, ⟨fun h => own_below (h1 h) hb, fun h => (h2 h).below (hb.mono hB)⟩, h3, h4⟩
theorem InsUp.far (h : InsUp w base B A xs m) {g' : Nat} {t : TypeId} {cs' : Array Value} (hg : Blk w g' t cs') (hB : B ≤ g') (h1 : 47 ≠ t) (h2 : 5 ≠ t) (i : Nat) (u : Value) : InsUp (w.setCell ⟨g', i, none⟩ u) base B A xs m := fun hn => by
  obtain ⟨g, cs, hA, hgb, hbk, hx⟩ := h hn
  refine ⟨g, cs, hA, hgb, hbk.far (p := ⟨g', i, none⟩) (hbk.ne_ hg h1) u, fun k x hk => ?_⟩
  obtain ⟨sv, ⟨h3, h4⟩, h5, h6⟩ := hx k x hk
  exact ⟨sv, ⟨fun h => own_far (h3 h) (a := ⟨g', i, none⟩) (own_blk_ne (h3 h) hg h2) u, fun h => by
    obtain ⟨A', c', e1, e2, e3, e4⟩ := h4 h
    exact ⟨A', c', e1, e2, e3, e4.setCell (p := ⟨g', i, none⟩) hB u⟩⟩, h5, h6⟩
theorem OutsUp.far (h : OutsUp w base B A ys m) {g' : Nat} {t : TypeId} {cs' : Array Value} (hg : Blk w g' t cs') (hB : B ≤ g') (h1 : 49 ≠ t) (h2 : 5 ≠ t) (i : Nat) (u : Value) : OutsUp (w.setCell ⟨g', i, none⟩ u) base B A ys m := fun hn => by
  obtain ⟨g, cs, hA, hgb, hbk, hx⟩ := h hn
  refine ⟨g, cs, hA, hgb, hbk.far (p := ⟨g', i, none⟩) (hbk.ne_ hg h1) u, fun k x hk => ?_⟩
  obtain ⟨sv, ⟨h3, h4⟩, h5, h6⟩ := hx k x hk
  exact ⟨sv, ⟨fun h => own_far (h3 h) (a := ⟨g', i, none⟩) (own_blk_ne (h3 h) hg h2) u, fun h => by
    obtain ⟨A', c', e1, e2, e3, e4⟩ := h4 h
    exact ⟨A', c', e1, e2, e3, e4.setCell (p := ⟨g', i, none⟩) hB u⟩⟩, h5, h6⟩
/-- the script at place m is stored anew. -/
theorem InsUp.step {g : Nat} {x : TIn} {v : Value} (h : InsUp w base B (some ⟨g, 0, none⟩) xs m) (hB : B ≤ base) (hx : xs[m]? = some x) (hv : OwnB w base 5 v x.script) :
    InsUp (w.setCell ⟨g, m * 35 + 33, none⟩ v) base B (some ⟨g, 0, none⟩) xs (m + 1) := fun hn => by
  obtain ⟨g', cs, hA, hgb, hbk, hc⟩ := h hn
  injection hA with hA
  injection hA with hA
  subst hA
  refine ⟨g, _, rfl, hgb, hbk.set_ _ _, fun k y hk => ?_⟩
  obtain ⟨sv, ⟨h3, h4⟩, h5, h6⟩ := hc k y hk
  by_cases hkm : k = m
  · subst hkm
    rw [hx] at hk
    injection hk with hk
    subst hk
    refine ⟨v, ⟨fun _ => own_far hv (a := ⟨g, k * 35 + 33, none⟩) (own_blk_ne hv hbk (by decide)) v, fun h => absurd h (by omega)⟩, h5, fun j u hu => ?_⟩
    have hj := h6 33 sv (by simp [inCells, bvs_length, h5.1])
    have hlt : k * 35 + 33 < cs.size := by
      rcases Nat.lt_or_ge (k * 35 + 33) cs.size with h | h
      · exact h
      · rw [Array.getElem?_eq_none h] at hj; cases hj
    by_cases hj33 : j = 33
    · subst hj33
      have e : u = v := by
        simp [inCells, bvs_length, h5.1] at hu
        exact hu.symm
      rw [e, Array.getElem?_setIfInBounds_self_of_lt hlt]
    · rw [Array.getElem?_setIfInBounds_ne (by omega)]
      refine h6 j u ?_
      rw [← hu]
      unfold inCells
      rcases Nat.lt_or_ge j 32 with h | h
      · rw [List.getElem?_append_left (by rw [bvs_length, h5.1]; exact h), List.getElem?_append_left (by rw [bvs_length, h5.1]; exact h)]
      · rw [List.getElem?_append_right (by rw [bvs_length, h5.1]; exact h), List.getElem?_append_right (by rw [bvs_length, h5.1]; exact h), bvs_length, h5.1]
        obtain ⟨d, rfl⟩ : ∃ d, j = 32 + d := ⟨j - 32, by omega⟩
        rw [Nat.add_sub_cancel_left]
        rcases d with _ | _ | d
        · rfl
        · exact absurd rfl hj33
        · rfl
  · refine ⟨sv, ⟨fun h => own_far (h3 (by omega)) (a := ⟨g, m * 35 + 33, none⟩) (own_blk_ne (h3 (by omega)) hbk (by decide)) v, fun h => by
      obtain ⟨A', c', e1, e2, e3, e4⟩ := h4 (by omega)
      exact ⟨A', c', e1, e2, e3, e4.setCell (p := ⟨g, m * 35 + 33, none⟩) (Nat.le_trans hB hgb) v⟩⟩, h5, fun j u hu => ?_⟩
    have hj : j < 35 := by
      rw [← inCells_length y sv h5.1]
      rcases Nat.lt_or_ge j (inCells y sv).length with h | h
      · exact h
      · rw [List.getElem?_eq_none h] at hu; cases hu
    rw [Array.getElem?_setIfInBounds_ne (by omega)]
    exact h6 j u hu
theorem OutsUp.step {g : Nat} {x : TOut} {v : Value} (h : OutsUp w base B (some ⟨g, 0, none⟩) ys m) (hB : B ≤ base) (hx : ys[m]? = some x) (hv : OwnB w base 5 v x.script) :
    OutsUp (w.setCell ⟨g, m * 2 + 1, none⟩ v) base B (some ⟨g, 0, none⟩) ys (m + 1) := fun hn => by
  obtain ⟨g', cs, hA, hgb, hbk, hc⟩ := h hn
  injection hA with hA
  injection hA with hA
  subst hA
  refine ⟨g, _, rfl, hgb, hbk.set_ _ _, fun k y hk => ?_⟩
  obtain ⟨sv, ⟨h3, h4⟩, h5, h6⟩ := hc k y hk
  by_cases hkm : k = m
  · subst hkm
    rw [hx] at hk
    injection hk with hk
    subst hk
    refine ⟨v, ⟨fun _ => own_far hv (a := ⟨g, k * 2 + 1, none⟩) (own_blk_ne hv hbk (by decide)) v, fun h => absurd h (by omega)⟩, h5, fun j u hu => ?_⟩
    have hj := h6 1 sv rfl
    have hlt : k * 2 + 1 < cs.size := by
      rcases Nat.lt_or_ge (k * 2 + 1) cs.size with h | h
      · exact h
      · rw [Array.getElem?_eq_none h] at hj; cases hj
    rcases j with _ | _ | j
    · rw [Array.getElem?_setIfInBounds_ne (by omega)]
      exact h6 0 u (by rw [← hu]; rfl)
    · have e : u = v := by
        simp [outCells] at hu
        exact hu.symm
      rw [e, Array.getElem?_setIfInBounds_self_of_lt hlt]
    · simp [outCells] at hu
  · refine ⟨sv, ⟨fun h => own_far (h3 (by omega)) (a := ⟨g, m * 2 + 1, none⟩) (own_blk_ne (h3 (by omega)) hbk (by decide)) v, fun h => by
      obtain ⟨A', c', e1, e2, e3, e4⟩ := h4 (by omega)
      exact ⟨A', c', e1, e2, e3, e4.setCell (p := ⟨g, m * 2 + 1, none⟩) (Nat.le_trans hB hgb) v⟩⟩, h5, fun j u hu => ?_⟩
    have hj : j < 2 := by
      rcases j with _ | _ | j
      · omega
      · omega
      · simp [outCells] at hu
    rw [Array.getElem?_setIfInBounds_ne (by omega)]
    exact h6 j u hu
theorem InsUp.done (h : InsUp w base B A xs m) (hm : xs.length = m) : InsUp w base 0 A xs m := fun hn => by
  obtain ⟨g, cs, hA, hg, hbk, hx⟩ := h hn
  refine ⟨g, cs, hA, hg, hbk, fun k x hk => ?_⟩
  obtain ⟨sv, ⟨h1, h2⟩, h3, h4⟩ := hx k x hk
  have hkm : k < m := by
    rcases Nat.lt_or_ge k m with h | h
    · exact h
    · rw [List.getElem?_eq_none (by omega)] at hk; cases hk
  exact ⟨sv, ⟨h1, fun h => absurd h (by omega)⟩, h3, h4⟩
theorem OutsUp.done (h : OutsUp w base B A ys m) (hm : ys.length = m) : OutsUp w base 0 A ys m := fun hn => by
  obtain ⟨g, cs, hA, hg, hbk, hx⟩ := h hn
  refine ⟨g, cs, hA, hg, hbk, fun k x hk => ?_⟩
  obtain ⟨sv, ⟨h1, h2⟩, h3, h4⟩ := hx k x hk
  have hkm : k < m := by
    rcases Nat.lt_or_ge k m with h | h
    · exact h
    · rw [List.getElem?_eq_none (by omega)] at hk; cases hk
  exact ⟨sv, ⟨h1, fun h => absurd h (by omega)⟩, h3, h4⟩
end
/-- the copy: its rows, and its scripts, are the call's own. -/
def TxMine (w : World) (base : Nat) (v : Value) (t : TTx) : Prop := ∃ Ai ci Ao co, v = .agg #[.int .u32 (t.ver : Int), .slice Ai t.ins.length ci, .slice Ao t.outs.length co, .int .u32 (t.lock : Int)] ∧ Lt32 t.ver ∧ Lt32 t.lock ∧
  t.ins.length ≤ ci ∧ ci ≤ maxLen ∧ t.outs.length ≤ co ∧ co ≤ maxLen ∧ InsUp w base 0 Ai t.ins t.ins.length ∧ OutsUp w base 0 Ao t.outs t.outs.length

set_option maxRecDepth 100000 in
set_option maxHeartbeats 3200000 in
theorem copy_any (v : Value) (t : TTx) (B : Nat) (w : World) (hB : B ≤ w.heap.size) (h : TxAt w B v t) (hs : Small t) :
    Calls Try.prog 14 #[v] w fun e w' => ∃ v', e = .returned v' ∧ TxMine w' w.heap.size v' t ∧ Below w.heap.size w w' := by
  obtain ⟨iv, ov, rfl, hver, hlock, hi, ho⟩ := h
  obtain ⟨Ai, ni, ci, rfl⟩ : ∃ A n c, iv = .slice A n c := by obtain ⟨A, c, h, _⟩ := hi; exact ⟨A, _, c, h⟩
  obtain ⟨Ao, no, co, rfl⟩ : ∃ A n c, ov = .slice A n c := by obtain ⟨A, c, h, _⟩ := ho; exact ⟨A, _, c, h⟩
  obtain ⟨W1, hW1⟩ : ∃ W1, (w.alloc (.cells #[.int .u32 (t.ver : Int), .slice Ai ni ci, .slice Ao no co, .int .u32 (t.lock : Int)] 26)).alloc (.cells #[.int .u32 0, .slice none 0 0, .slice none 0 0, .int .u32 0] 26) = W1 := ⟨_, rfl⟩
  have hbw : Below w.heap.size w W1 := by rw [← hW1]; exact ((Below.refl _ _).alloc (Nat.le_refl _) _).alloc (by simp) _
  have hbx : Blk W1 w.heap.size 26 #[.int .u32 (t.ver : Int), .slice Ai ni ci, .slice Ao no co, .int .u32 (t.lock : Int)] := by rw [← hW1]; exact (Blk.new w _ _).alloc _
  have hbr : Blk W1 (w.heap.size + 1) 26 #[.int .u32 0, .slice none 0 0, .slice none 0 0, .int .u32 0] := by
    rw [← hW1]
    have := Blk.new (w.alloc (.cells #[.int .u32 (t.ver : Int), .slice Ai ni ci, .slice Ao no co, .int .u32 (t.lock : Int)] 26)) 26 #[.int .u32 0, .slice none 0 0, .slice none 0 0, .int .u32 0]
    simpa using this
  have hi1 := hi.below (hbw.mono hB)
  have ho1 := ho.below (hbw.mono hB)
  have hBW := Nat.le_trans hB hbw.size
  have hc1 := hbx.cell 1
  have hc2 := hbx.cell 2
  have hf1 := hbx.frozen 1
  have hf2 := hbx.frozen 2
  go_enter Try.func14, Try.ntmps14
  go_wp2_with fail
  clear hW1
  go_region_law (first
      | (go_simp; go_at_call 34; refine (cloneIns_any _ t.ins B _ (by exact hBW) (by have := hs.1; omega) (by exact hi1)).mono ?_; rintro e w2 ⟨v2, rfl, ⟨A2, c2, rfl, ha2, hk2, hm2⟩, hb20⟩; have hb2 : Below W1.heap.size W1 w2 := ⟨hb20.os, hb20.tape, hb20.output, hb20.size, hb20.block⟩; have hx2 := hbx.below hb2 hbx.lt; have d1 := hx2.cell 1; have d2 := hx2.cell 2)
      | (go_simp; go_at_call 35; refine (cloneOuts_any _ t.outs B _ (Nat.le_trans hBW hb2.size) (by have := hs.2.1; omega) (ho1.below (hb2.mono hBW))).mono ?_; rintro e w3 ⟨v3, rfl, ⟨A3, c3, rfl, ha3, hk3, hm3⟩, hb3⟩; have hx3 := hx2.below hb3 hx2.lt; have e1 := hx3.cell 1; have e2 := hx3.cell 2; have e3 := hx3.frozen 1; have e4 := hx3.frozen 2))
  all_goals
    go_wp2_with fail
  all_goals
    obtain ⟨n, hn⟩ : ∃ n, t.ins.length = n := ⟨_, rfl⟩
    obtain ⟨m, hm⟩ : ∃ m, t.outs.length = m := ⟨_, rfl⟩
    have hn6 : n ≤ 60 := by have := hs.1; omega
    have hm6 : m ≤ 60 := by have := hs.2.1; omega
    obtain ⟨W4, hW4⟩ : ∃ W4, (w3.setCell ⟨w.heap.size, 1, none⟩ (.slice A2 t.ins.length c2)).setCell ⟨w.heap.size, 2, none⟩ (.slice A3 t.outs.length c3) = W4 := ⟨_, rfl⟩
    have hb13 : Below W1.heap.size W1 w3 := hb2.trans (hb3.mono hb2.size)
    have hx4 : Blk W4 w.heap.size 26 #[.int .u32 (t.ver : Int), .slice A2 t.ins.length c2, .slice A3 t.outs.length c3, .int .u32 (t.lock : Int)] := by
      rw [← hW4]
      exact (hx3.set_ 1 _).set_ 2 _
    have hr3 := hbr.below hb13 hbr.lt
    have hr4 : Blk W4 (w.heap.size + 1) 26 #[.int .u32 0, .slice none 0 0, .slice none 0 0, .int .u32 0] := by
      rw [← hW4]
      exact (hr3.far (by simp) _).far (by simp) _
    have hb4 : Below w.heap.size w W4 := by
      rw [← hW4]
      exact (((hbw.trans (hb13.mono hbw.size)).setCell (p := ⟨w.heap.size, 1, none⟩) (Nat.le_refl _) _).setCell (p := ⟨w.heap.size, 2, none⟩) (Nat.le_refl _) _)
    have hI3 : InsUp w3 w.heap.size B A2 t.ins 0 := fun hn => by
      obtain ⟨g, cs, hA, hg, hbk, hc⟩ := hm2 hn
      refine ⟨g, cs, hA, Nat.le_trans hbw.size hg, hbk.below hb3 hbk.lt, fun k x hx => ?_⟩
      obtain ⟨sv, ⟨h1, h2⟩, h3⟩ := hc k x hx
      exact ⟨sv, ⟨fun h => absurd h (by omega), fun _ => h1.below (hb3.mono (Nat.le_trans hBW hb2.size))⟩, h2, h3⟩
    have hO3 : OutsUp w3 w.heap.size B A3 t.outs 0 := fun hn => by
      obtain ⟨g, cs, hA, hg, hbk, hc⟩ := hm3 hn
      refine ⟨g, cs, hA, Nat.le_trans (Nat.le_trans hbw.size hb2.size) hg, hbk, fun k x hx => ?_⟩
      obtain ⟨sv, ⟨h1, h2⟩, h3⟩ := hc k x hx
      exact ⟨sv, ⟨fun h => absurd h (by omega), fun _ => h1⟩, h2, h3⟩
    have hI4 : InsUp W4 w.heap.size B A2 t.ins 0 := by
      rw [← hW4]
      exact (hI3.far hx3 hB (by decide) (by decide) 1 _).far (hx3.set_ 1 _) hB (by decide) (by decide) 2 _
    have hO4 : OutsUp W4 w.heap.size B A3 t.outs 0 := by
      rw [← hW4]
      exact (hO3.far hx3 hB (by decide) (by decide) 1 _).far (hx3.set_ 1 _) hB (by decide) (by decide) 2 _
    have hg1 := hx4.cell 1
    clear hI3 hO3 hr3 hb13 hx3 e1 e2 e3 e4 d1 d2 hm2 hm3 hb2 hb3 hb20 hx2 hc1 hc2 hf1 hf2 hi1 ho1 hbr hbx hbw hi ho hBW
    rw [hW4]
    rw [hn] at hx4 hg1 ⊢
    rw [hm] at hx4 hg1 ⊢
    have hn' := Lib.hid hn
    have hm' := Lib.hid hm
    clear hn hm hW4
    go_wp2_with fail
    go_loopw [16] (fun i wr => ∃ k : Nat, k ≤ n ∧ i = .int .i64 (k : Int) ∧ Blk wr w.heap.size 26 #[.int .u32 (t.ver : Int), .slice A2 n c2, .slice A3 m c3, .int .u32 (t.lock : Int)] ∧ Blk wr (w.heap.size + 1) 26 #[.int .u32 0, .slice none 0 0, .slice none 0 0, .int .u32 0] ∧ InsUp wr w.heap.size B A2 t.ins k ∧ OutsUp wr w.heap.size B A3 t.outs 0 ∧ Below w.heap.size w wr) (fun i _ => n - (intOf i).toNat)
    case atStart => exact ⟨0, Nat.zero_le _, rfl, hx4, hr4, hI4, hO4, hb4⟩
    case round =>
      obtain ⟨k, hk, rfl, hx, hr, hI, hO, hb⟩ := hrel
      clear hx4 hr4 hI4 hO4 hb4 hg1
      by_cases hlt : k < n
      · have hkl : k < t.ins.length := by rw [hn'.out]; exact hlt
        have hBwr : B ≤ wr.heap.size := Nat.le_trans hB hb.size
        have hI0 := hI
        obtain ⟨g, cs, hA, hgb, hbk, hc⟩ := hI (by omega)
        subst hA
        obtain ⟨sv, ⟨-, hsv⟩, hok, hcc⟩ := hc k t.ins[k] (List.getElem?_eq_getElem hkl)
        have hsv := hsv (Nat.le_refl _)
        have hx33 := hcc 33 sv (by simp [inCells, bvs_length, hok.1])
        obtain ⟨As, ns, cs', rfl⟩ := slice_of_byt hsv
        have hxs := hs.2.2.1 t.ins[k] (List.getElem_mem hkl)
        have hkx := Lib.hid (List.getElem?_eq_getElem hkl)
        generalize t.ins[k] = x at *
        have hgc1 := hx.cell 1
        have hgk := (hbk.cell (k * 35 + 33)).trans hx33
        have hglt := hbk.lt
        have hxlt := hx.lt
        have hrlt := hr.lt
        clear hc hcc hI hkl
        go_wp2_with fail
        go_region_law (first
          | (go_simp; go_at_call 36; refine (clone_any _ x.script B _ (by omega) (by exact hsv)).mono ?_; rintro e w5 ⟨v5, rfl, ho5, hb50⟩; obtain ⟨A5, n5, c5, rfl⟩ := slice_of_own ho5; have hb5 : Below wr.heap.size wr w5 := ⟨hb50.os, hb50.tape, hb50.output, hb50.size, hb50.block⟩; have hx5 := hx.below hb5 hxlt; have q1 := hx5.cell 1; have hk5 := hbk.below hb5 hglt; have q2 := (hk5.cell (k * 35 + 33)).trans hx33; have q3 := hk5.frozen (k * 35 + 33)))
        all_goals
          go_wp2_with fail
          go_round
          case rel => exact ⟨k + 1, by omega, by go_num, (hx.below hb5 hxlt).far (p := ⟨g, k * 35 + 33, none⟩) (hx.ne_ hbk (by decide)) _, (hr.below hb5 hrlt).far (p := ⟨g, k * 35 + 33, none⟩) (hr.ne_ hbk (by decide)) _, (hI0.below hBwr hb5).step hB hkx.out (World.ownsRow_base ho5 (fun k hk => Nat.le_trans hb.size (ho5.lt k hk).1)), (hO.below hBwr hb5).far hk5 (Nat.le_trans hB hgb) (by decide) (by decide) _ _, (hb.trans (hb5.mono hb.size)).setCell (p := ⟨g, k * 35 + 33, none⟩) hgb _⟩
          case measure => simp [intOf]; omega
      · have hkn : k = n := by omega
        subst hkn
        have hIn := Lib.hid hI
        clear hI
        obtain ⟨W6, rfl⟩ : ∃ W6 : World, W6 = wr := ⟨_, rfl⟩
        have hg2 := hx.cell 2
        go_wp2_with fail
        go_loopw [35] (fun i wr => ∃ j : Nat, j ≤ m ∧ i = .int .i64 (j : Int) ∧ Blk wr w.heap.size 26 #[.int .u32 (t.ver : Int), .slice A2 k c2, .slice A3 m c3, .int .u32 (t.lock : Int)] ∧ Blk wr (w.heap.size + 1) 26 #[.int .u32 0, .slice none 0 0, .slice none 0 0, .int .u32 0] ∧ Hid (InsUp wr w.heap.size B A2 t.ins k) ∧ OutsUp wr w.heap.size B A3 t.outs j ∧ Below w.heap.size w wr) (fun i _ => m - (intOf i).toNat)
        case atStart => exact ⟨0, Nat.zero_le _, rfl, hx, hr, hIn, hO, hb⟩
        case round =>
          clear hx hr hIn hO hb hg2
          obtain ⟨j, hj, rfl, hx, hr, hI, hO, hb⟩ := hrel
          by_cases hlt2 : j < m
          · have hkl : j < t.outs.length := by rw [hm'.out]; exact hlt2
            have hBwr : B ≤ wr.heap.size := Nat.le_trans hB hb.size
            have hO0 := hO
            obtain ⟨g, cs, hA, hgb, hbk, hc⟩ := hO (by omega)
            subst hA
            obtain ⟨sv, ⟨-, hsv⟩, hok, hcc⟩ := hc j t.outs[j] (List.getElem?_eq_getElem hkl)
            have hsv := hsv (Nat.le_refl _)
            have hx33 := hcc 1 sv rfl
            obtain ⟨As, ns, cs', rfl⟩ := slice_of_byt hsv
            have hxs := hs.2.2.2 t.outs[j] (List.getElem_mem hkl)
            have hkx := Lib.hid (List.getElem?_eq_getElem hkl)
            generalize t.outs[j] = x at *
            have hgc1 := hx.cell 2
            have hgk := (hbk.cell (j * 2 + 1)).trans hx33
            have hglt := hbk.lt
            have hxlt := hx.lt
            have hrlt := hr.lt
            clear hc hcc hO hkl
            go_wp2_with fail
            go_region_law (first
              | (go_simp; go_at_call 36; refine (clone_any _ x.script B _ (by omega) (by exact hsv)).mono ?_; rintro e w5 ⟨v5, rfl, ho5, hb50⟩; obtain ⟨A5, n5, c5, rfl⟩ := slice_of_own ho5; have hb5 : Below wr.heap.size wr w5 := ⟨hb50.os, hb50.tape, hb50.output, hb50.size, hb50.block⟩; have hx5 := hx.below hb5 hxlt; have q1 := hx5.cell 2; have hk5 := hbk.below hb5 hglt; have q2 := (hk5.cell (j * 2 + 1)).trans hx33; have q3 := hk5.frozen (j * 2 + 1)))
            all_goals
              go_wp2_with fail
              go_round
              case rel => exact ⟨j + 1, by omega, by go_num, (hx.below hb5 hxlt).far (p := ⟨g, j * 2 + 1, none⟩) (hx.ne_ hbk (by decide)) _, (hr.below hb5 hrlt).far (p := ⟨g, j * 2 + 1, none⟩) (hr.ne_ hbk (by decide)) _, Lib.hid ((hI.out.below hBwr hb5).far hk5 (Nat.le_trans hB hgb) (by decide) (by decide) _ _), (hO0.below hBwr hb5).step hB hkx.out (World.ownsRow_base ho5 (fun k hk => Nat.le_trans hb.size (ho5.lt k hk).1)), (hb.trans (hb5.mono hb.size)).setCell (p := ⟨g, j * 2 + 1, none⟩) hgb _⟩
              case measure => simp [intOf]; omega
          · have hjm : j = m := by omega
            subst hjm
            have hOn := Lib.hid hO
            clear hO
            have x0 := hx.cell 0
            have x1 := hx.cell 1
            have x2 := hx.cell 2
            have x3 := hx.cell 3
            have r0 := hr.cell 0
            have r1 := hr.cell 1
            have r2 := hr.cell 2
            have r3 := hr.cell 3
            have f0 := hr.frozen 0
            have f1 := hr.frozen 1
            have f2 := hr.frozen 2
            have f3 := hr.frozen 3
            go_wp2_with fail
            (try simp only [Exit.inBlock, Exit.then])
            have hB1 : B ≤ w.heap.size + 1 := by omega
            have g1 := hr.set_ 0 (.int .u32 (t.ver : Int))
            have g2 := g1.set_ 1 (.slice A2 k c2)
            have g3 := g2.set_ 2 (.slice A3 j c3)
            have g4 := g3.set_ 3 (.int .u32 (t.lock : Int))
            have hfin := fun (cs : List Value) (hcs : cs.toArray = ((((#[Value.int .u32 0, Value.slice none 0 0, Value.slice none 0 0, Value.int .u32 0].setIfInBounds 0 (.int .u32 (t.ver : Int))).setIfInBounds 1 (.slice A2 k c2)).setIfInBounds 2 (.slice A3 j c3)).setIfInBounds 3 (.int .u32 (t.lock : Int)))) => cells_of_blk (cs := cs) (by rw [hcs]; exact g4)
            refine bodyPost_ret (results_cell_at rfl _ _ (w.heap.size + 1) [.int .u32 (t.ver : Int), .slice A2 k c2, .slice A3 j c3, .int .u32 (t.lock : Int)] _ rfl (hfin _ rfl) Try.underlying26 rfl txinfo26) rfl ⟨_, rfl, ?_, ?_⟩
            · have hI5 := (((hI.out.far hr hB1 (by decide) (by decide) 0 (.int .u32 (t.ver : Int))).far g1 hB1 (by decide) (by decide) 1 (.slice A2 k c2)).far g2 hB1 (by decide) (by decide) 2 (.slice A3 j c3)).far g3 hB1 (by decide) (by decide) 3 (.int .u32 (t.lock : Int))
              have hO5 := (((hOn.out.far hr hB1 (by decide) (by decide) 0 (.int .u32 (t.ver : Int))).far g1 hB1 (by decide) (by decide) 1 (.slice A2 k c2)).far g2 hB1 (by decide) (by decide) 2 (.slice A3 j c3)).far g3 hB1 (by decide) (by decide) 3 (.int .u32 (t.lock : Int))
              exact ⟨A2, c2, A3, c3, by rw [hn'.out, hm'.out], hver, hlock, by rw [hn'.out]; rw [← hn'.out]; exact ha2, hk2, ha3, hk3, by rw [hn'.out]; exact hI5.done hn'.out, by rw [hm'.out]; exact hO5.done hm'.out⟩
            · exact (((hb.setCell (p := ⟨w.heap.size + 1, 0, none⟩) (by simp) _).setCell (p := ⟨w.heap.size + 1, 1, none⟩) (by simp) _).setCell (p := ⟨w.heap.size + 1, 2, none⟩) (by simp) _).setCell (p := ⟨w.heap.size + 1, 3, none⟩) (by simp) _
end Go.Proofs.Ytcilabemglbhbaa
