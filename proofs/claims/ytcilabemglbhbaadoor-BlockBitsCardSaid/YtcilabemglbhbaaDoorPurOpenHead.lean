/- A header that came in, opened. -/
import Derived.Test.YtcilabemglbhbaaDoorPurOpen
import Derived.Test.YtcilabemglbhbaaDoorPurHead1
namespace Go.Proofs.YtcilabemglbhbaaDoor
open Go Go.RowKit Go.Pur Go.ChangeShapes Go.WideShapes Go.ChangeAt

section
variable {H : Type} {enc : TypeId × Value → H} {w : World} {base : Nat} {held : Bool}
theorem cellsHead : Tryd.prog.cellsOf 26 = 68 := by kernel_rfl
theorem open_headc {fuel : Nat} {cs : List Value} {x : DataW H × List MemPlace} (h : DataW.trod enc Tryd.prog w base (fun _ => true) held fuel 26 cs = some x) : ∃ h : Head, cs = headCells h ∧ HeadOk h := by
  have hl := trod_size Tryd.underlying26 h
  rw [cellsHead] at hl
  obtain ⟨n0, y0, h0⟩ := trod_field Tryd.underlying26 h 0 _ rfl
  obtain ⟨n1, y1, h1⟩ := trod_field Tryd.underlying26 h 1 _ rfl
  obtain ⟨n2, y2, h2⟩ := trod_field Tryd.underlying26 h 2 _ rfl
  obtain ⟨n3, y3, h3⟩ := trod_field Tryd.underlying26 h 3 _ rfl
  obtain ⟨n4, y4, h4⟩ := trod_field Tryd.underlying26 h 4 _ rfl
  obtain ⟨n5, y5, h5⟩ := trod_field Tryd.underlying26 h 5 _ rfl
  simp only [cellsU32, cellsH, List.getElem_toArray, List.getElem_cons_zero, List.getElem_cons_succ] at h0 h1 h2 h3 h4 h5
  obtain ⟨ver, hv, hv'⟩ := open_u32 h0
  obtain ⟨l1, g1, k1⟩ := open_arr Tryd.underlying24 Tryd.underlying5 cellsU8 cellsH h1
  obtain ⟨l2, g2, k2⟩ := open_arr Tryd.underlying24 Tryd.underlying5 cellsU8 cellsH h2
  obtain ⟨time, ht, ht'⟩ := open_u32 h3
  obtain ⟨bits, hb, hb'⟩ := open_u32 h4
  obtain ⟨nonce, hn, hn'⟩ := open_u32 h5
  refine ⟨⟨ver, l1, l2, time, bits, nonce⟩, ?_, hv', k1, k2, ht', hb', hn'⟩
  rw [List.getElem?_eq_getElem (by omega)] at hv ht hb hn
  simp only [Option.some.injEq] at hv ht hb hn
  have e65 : cs.drop 65 = [Value.int .u32 (time : Int), Value.int .u32 (bits : Int), Value.int .u32 (nonce : Int)] := by
    rw [List.drop_eq_getElem_cons (by omega : 65 < cs.length), List.drop_eq_getElem_cons (by omega : 66 < cs.length), List.drop_eq_getElem_cons (by omega : 67 < cs.length), List.drop_eq_nil_of_le (by omega), ht, hb, hn]
  have e33 : cs.drop 33 = bvs l2 ++ cs.drop 65 := by
    have := List.take_append_drop 32 (cs.drop 33)
    rw [g2, List.drop_drop] at this
    exact this.symm
  have e1 : cs.drop 1 = bvs l1 ++ cs.drop 33 := by
    have := List.take_append_drop 32 (cs.drop 1)
    rw [g1, List.drop_drop] at this
    exact this.symm
  have e0 : cs = Value.int .u32 (ver : Int) :: cs.drop 1 := by
    have := List.drop_eq_getElem_cons (by omega : 0 < cs.length)
    rw [List.drop_zero, hv] at this
    exact this
  rw [e0, e1, e33, e65]
  rfl
set_option maxRecDepth 100000 in
theorem open_head {b0 : Nat} {v : Value} {d : DataW H} {p : List MemPlace} (hv : Value.okWide Tryd.prog w .any b0 26 v) (h : DataW.Trod enc Tryd.prog w base (fun _ => true) held 26 v d p) : ∃ h : Head, v = .agg (headCells h).toArray ∧ HeadOk h := by
  obtain ⟨cs, rfl, _⟩ := okWide_struct Tryd.underlying26 hv
  obtain ⟨fuel, hf⟩ := h
  obtain ⟨t, ht, ho⟩ := open_headc hf
  exact ⟨t, by simp only [Value.cells] at ht; rw [← ht], ho⟩
end
end Go.Proofs.YtcilabemglbhbaaDoor
