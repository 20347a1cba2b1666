/- purserref07.Great: whether a block is more than the statements go through. -/
import Derived.Test.YtcilabemglbhbaaGreatDoorK39
namespace Go.Proofs.YtcilabemglbhbaaGreatDoor
open Go Go.RowKit Go.Pur

def SmallB (x : TBlk) : Prop := x.txs.length ≤ 30 ∧ ∀ t ∈ x.txs, Small t
def GreatBPost (x : TBlk) (w : World) (e : Ending) (w' : World) : Prop := ∃ r : Int, e = .returned (.int .i64 r) ∧ (r = 1 ∨ (r = 0 ∧ SmallB x)) ∧ Below w.heap.size w w'
def SmallTo (xs : List TTx) (k : Nat) : Prop := ∀ j t, xs[j]? = some t → j < k → Small t
set_option maxRecDepth 100000 in
set_option maxHeartbeats 1600000 in
theorem greatB_any (v : Value) (x : TBlk) (B : Nat) (w : World) (hB : B ≤ w.heap.size) (h : BlkAt w B v x) :
    Calls Tryz.prog 5 #[v] w (GreatBPost x w) := by
  obtain ⟨sv, rfl, hh, ht⟩ := h
  obtain ⟨At, nt, ct, rfl⟩ : ∃ A n c, sv = .slice A n c := by obtain ⟨A, c, h, _⟩ := ht; exact ⟨A, _, c, h⟩
  have hnt : nt = x.txs.length := by
    obtain ⟨A, c, h, _⟩ := ht
    injection h
  have hnm : nt ≤ 9223372036854775807 := by
    obtain ⟨A, c, h, h1, h2, _⟩ := ht
    unfold maxLen at h2
    omega
  have hnt' := Lib.hid hnt
  clear hnt
  have hx : Blk (w.alloc (.cells (bcells x.head (Value.slice At nt ct)).toArray 29)) w.heap.size 29 (bcells x.head (Value.slice At nt ct)).toArray := Blk.new w _ _
  have hbw : Below w.heap.size w (w.alloc (.cells (bcells x.head (Value.slice At nt ct)).toArray 29)) := (Below.refl _ _).alloc (Nat.le_refl _) _
  have h68 := bcells_at hh (.slice At nt ct)
  have c68 := (hx.cell 68).trans h68
  have hbe : bcells x.head (Value.slice At nt ct) = headCells x.head ++ [Value.slice At nt ct] := rfl
  have hbe' := Lib.hid hbe
  rw [← hbe]
  clear hbe
  generalize bcells x.head (Value.slice At nt ct) = cb at *
  by_cases h30 : 30 < nt
  · go_enter Tryz.func5, Tryz.ntmps5
    go_wp2
    go_ret
    exact ⟨1, rfl, .inl rfl, hbw⟩
  · go_enter Tryz.func5, Tryz.ntmps5
    go_wp2
    obtain ⟨W1, hW1⟩ : ∃ W1, W1 = w.alloc (.cells cb.toArray 29) := ⟨_, rfl⟩
    rw [← hW1] at hx hbw c68 ⊢
    clear hW1
    go_loopw [3] (fun i wr => ∃ k : Nat, k ≤ nt ∧ i = .int .i64 (k : Int) ∧ SmallTo x.txs k ∧ Blk wr w.heap.size 29 cb.toArray ∧ Below w.heap.size w wr) (fun i _ => nt - (intOf i).toNat)
    case atStart => exact ⟨0, by omega, rfl, fun j t _ h => by omega, hx, hbw⟩
    case round =>
      clear hx hbw c68
      obtain ⟨k, hk, rfl, hall, hx, hbw⟩ := hrel
      have c68 := (hx.cell 68).trans h68
      have hxl := hx.lt
      by_cases hlt : k < nt
      · have hkl : k < x.txs.length := by rw [← hnt'.out]; exact hlt
        obtain ⟨At', ct', hsl, h1, h2, h3⟩ := ht
        obtain ⟨b, o, hA, hbB, hxx⟩ := h3 (by omega)
        have hAt : At = some ⟨b, o, none⟩ := by injection hsl with h1; rw [h1, hA]
        subst hAt
        obtain ⟨iv, ov, hc, htx⟩ := hxx k x.txs[k] (List.getElem?_eq_getElem hkl)
        have hbB2 := hbw.mono hB
        have hcw : ∀ j u, (tcells x.txs[k] iv ov)[j]? = some u → wr.cell? ⟨b, o + k * 4 + j, none⟩ = some u := fun j u hu => (hbB2.cell hbB).trans (hc j u hu)
        have htw := htx.below hbB2
        have hk? : x.txs[k]? = some x.txs[k] := List.getElem?_eq_getElem hkl
        generalize x.txs[k] = t at *
        have hk?' := Lib.hid hk?
        have d0 := hcw 0 _ rfl
        have d1 := hcw 1 _ rfl
        have d2 := hcw 2 _ rfl
        have d3 := hcw 3 _ rfl
        rw [Nat.add_zero] at d0
        have htw2 := htw
        obtain ⟨iv', ov', hvv, _, _, hi, ho⟩ := htw2
        have e1 : iv = iv' := by
          have := congrArg (fun v => match v with | .agg a => a[1]? | _ => none) hvv
          simpa [tcells] using this
        have e2 : ov = ov' := by
          have := congrArg (fun v => match v with | .agg a => a[2]? | _ => none) hvv
          simpa [tcells] using this
        subst e1; subst e2
        obtain ⟨Ai, ni, ci, rfl⟩ : ∃ A n c, iv = .slice A n c := by obtain ⟨A, c, h, _⟩ := hi; exact ⟨A, _, c, h⟩
        obtain ⟨Ao, no, co, rfl⟩ : ∃ A n c, ov = .slice A n c := by obtain ⟨A, c, h, _⟩ := ho; exact ⟨A, _, c, h⟩
        have hBr : B ≤ wr.heap.size := Nat.le_trans hB hbw.size
        clear hvv hi ho hcw hc hk? hsl h1 h2 h3 hxx htx
        go_wp2_with fail
        refine (great_any _ t B _ hBr htw).mono ?_
        rintro e w2 ⟨r, rfl, (rfl | ⟨rfl, hsm⟩), hb2⟩
        · go_wp2_with fail
          go_ret
          exact ⟨1, rfl, .inl rfl, hbw.trans (hb2.mono hbw.size)⟩
        · have hx2 := hx.below hb2 hx.lt
          have hsm' := Lib.hid hsm
          clear hsm
          go_wp2_with fail
          refine ⟨⟨k + 1, by omega, by go_num, fun j t' hj hjk => ?_, hx2, hbw.trans (hb2.mono hbw.size)⟩, by simp [intOf]; omega⟩
          by_cases e : j = k
          · subst e
            rw [hk?'.out] at hj
            injection hj with hj
            rw [← hj]; exact hsm'.out
          · exact hall j t' hj (by omega)
      · go_wp2
        go_ret
        refine ⟨0, rfl, .inr ⟨rfl, by rw [← hnt'.out]; omega, fun t ht => ?_⟩, hbw⟩
        obtain ⟨j, hj, rfl⟩ := List.getElem_of_mem ht
        exact hall j _ (List.getElem?_eq_getElem hj) (by rw [← hnt'.out] at hj; omega)
end Go.Proofs.YtcilabemglbhbaaGreatDoor

/- A block that came in and may be: plain facts. -/
namespace Go.Proofs.YtcilabemglbhbaaGreatDoor
open Go Go.RowKit Go.Pur

theorem blkOk_of {w : World} {B : Nat} {v : Value} {x : TBlk} (h : BlkAt w B v x) (hs : SmallB x) (hok : ∀ t ∈ x.txs, okTx t = true) : BlkOk x := by
  obtain ⟨sv, _, hh, At, c, _, _, _, hx⟩ := h
  refine ⟨hh, by have := hs.1; unfold Lt64; omega, fun t ht => ⟨hok t ht, ?_⟩⟩
  obtain ⟨k, hk, rfl⟩ := List.getElem_of_mem ht
  obtain ⟨b, o, _, _, hxx⟩ := hx (by omega)
  obtain ⟨iv, ov, _, htx⟩ := hxx k _ (List.getElem?_eq_getElem hk)
  exact htx.ok (hs.2 _ ht)
theorem encTxs_small (xs : List TTx) (h : ∀ t ∈ xs, TxOk t ∧ Small t) : (encTxs xs).length ≤ xs.length * 270000 := by
  induction xs with
  | nil => simp [encTxs]
  | cons t r ih =>
    have h1 := h t (by simp)
    have := enc_len h1.2 (fun y hy => (h1.1.2.2.2.2.1 y hy).1)
    have ih := ih (fun t ht => h t (by simp [ht]))
    simp only [encTxs, List.flatMap_cons, List.length_append, List.length_cons] at ih ⊢
    omega
theorem encBlk_small {x : TBlk} (hh : HeadOk x.head) (hok : ∀ t ∈ x.txs, TxOk t) (hs : SmallB x) : 80 ≤ (encBlk x).length ∧ (encBlk x).length ≤ 9000000 ∧ (encTxs x.txs).length ≤ 8100000 := by
  have h1 := encHd_length hh
  have h2 := szB_length x.txs.length
  have h3 := encTxs_small x.txs (fun t ht => ⟨hok t ht, hs.2 t ht⟩)
  have h4 := hs.1
  unfold encBlk
  simp only [List.length_append]
  omega
theorem txOk_at {w : World} {B : Nat} {v : Value} {x : TBlk} (h : BlkAt w B v x) (hs : SmallB x) : ∀ t ∈ x.txs, TxOk t := by
  obtain ⟨sv, _, hh, At, c, _, _, _, hx⟩ := h
  intro t ht
  obtain ⟨k, hk, rfl⟩ := List.getElem_of_mem ht
  obtain ⟨b, o, _, _, hxx⟩ := hx (by omega)
  obtain ⟨iv, ov, _, htx⟩ := hxx k _ (List.getElem?_eq_getElem hk)
  exact htx.ok (hs.2 _ ht)
end Go.Proofs.YtcilabemglbhbaaGreatDoor
