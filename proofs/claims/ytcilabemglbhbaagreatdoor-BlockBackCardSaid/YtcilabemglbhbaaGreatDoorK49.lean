/- A header that came in, opened. -/
import Derived.Test.YtcilabemglbhbaaGreatDoorK48
import Derived.Test.YtcilabemglbhbaaGreatDoorK18
import Derived.Test.YtcilabemglbhbaaGreatDoorK27
import Derived.Test.YtcilabemglbhbaaGreatDoorRows
import Derived.ChangeSame
import Derived.ChangeVars
import Derived.LaidLaws
import Derived.LaidMore
import Derived.LaidHandle
import Derived.RowKit
namespace Go.Proofs.YtcilabemglbhbaaGreatDoor
open Go Go.RowKit Go.Pur Go.ChangeShapes Go.WideShapes Go.ChangeAt

section
variable {H : Type} {enc : TypeId × Value → H} {w : World} {base : Nat} {held : Bool}
theorem cellsHead : Tryz.prog.cellsOf 26 = 68 := by kernel_rfl
theorem open_headc {fuel : Nat} {cs : List Value} {x : DataW H × List MemPlace} (h : DataW.trod enc Tryz.prog w base (fun _ => true) held fuel 26 cs = some x) : ∃ h : Head, cs = headCells h ∧ HeadOk h := by
  have hl := trod_size Tryz.underlying26 h
  rw [cellsHead] at hl
  obtain ⟨n0, y0, h0⟩ := trod_field Tryz.underlying26 h 0 _ rfl
  obtain ⟨n1, y1, h1⟩ := trod_field Tryz.underlying26 h 1 _ rfl
  obtain ⟨n2, y2, h2⟩ := trod_field Tryz.underlying26 h 2 _ rfl
  obtain ⟨n3, y3, h3⟩ := trod_field Tryz.underlying26 h 3 _ rfl
  obtain ⟨n4, y4, h4⟩ := trod_field Tryz.underlying26 h 4 _ rfl
  obtain ⟨n5, y5, h5⟩ := trod_field Tryz.underlying26 h 5 _ rfl
  simp only [cellsU32, cellsH, List.getElem_toArray, List.getElem_cons_zero, List.getElem_cons_succ] at h0 h1 h2 h3 h4 h5
  obtain ⟨ver, hv, hv'⟩ := open_u32 h0
  obtain ⟨l1, g1, k1⟩ := open_arr Tryz.underlying24 Tryz.underlying5 cellsU8 cellsH h1
  obtain ⟨l2, g2, k2⟩ := open_arr Tryz.underlying24 Tryz.underlying5 cellsU8 cellsH h2
  obtain ⟨time, ht, ht'⟩ := open_u32 h3
  obtain ⟨bits, hb, hb'⟩ := open_u32 h4
  obtain ⟨nonce, hn, hn'⟩ := open_u32 h5
  refine ⟨⟨ver, l1, l2, time, bits, nonce⟩, ?_, hv', k1, k2, ht', hb', hn'⟩
  rw [List.getElem?_eq_getElem (by omega)] at hv ht hb hn
  simp only [Option.some.injEq] at hv ht hb hn
  have e65 : cs.drop 65 = [Value.int .u32 (time : Int), Value.int .u32 (bits : Int), Value.int .u32 (nonce : Int)] := by
    rw [List.drop_eq_getElem_cons (by omega : 65 < cs.length), List.drop_eq_getElem_cons (by omega : 66 < cs.length), List.drop_eq_getElem_cons (by omega : 67 < cs.length), List.drop_eq_nil_of_le (by omega), ht, hb, hn]
  have e33 : cs.drop 33 = bvs l2 ++ cs.drop 65 := by
    have := List.take_append_drop 32 (cs.drop 33)
    rw [g2, List.drop_drop] at this
    exact this.symm
  have e1 : cs.drop 1 = bvs l1 ++ cs.drop 33 := by
    have := List.take_append_drop 32 (cs.drop 1)
    rw [g1, List.drop_drop] at this
    exact this.symm
  have e0 : cs = Value.int .u32 (ver : Int) :: cs.drop 1 := by
    have := List.drop_eq_getElem_cons (by omega : 0 < cs.length)
    rw [List.drop_zero, hv] at this
    exact this
  rw [e0, e1, e33, e65]
  rfl
set_option maxRecDepth 100000 in
theorem open_head {b0 : Nat} {v : Value} {d : DataW H} {p : List MemPlace} (hv : Value.okWide Tryz.prog w .any b0 26 v) (h : DataW.Trod enc Tryz.prog w base (fun _ => true) held 26 v d p) : ∃ h : Head, v = .agg (headCells h).toArray ∧ HeadOk h := by
  obtain ⟨cs, rfl, _⟩ := okWide_struct Tryz.underlying26 hv
  obtain ⟨fuel, hf⟩ := h
  obtain ⟨t, ht, ho⟩ := open_headc hf
  exact ⟨t, by simp only [Value.cells] at ht; rw [← ht], ho⟩
end
end Go.Proofs.YtcilabemglbhbaaGreatDoor

/- A block that came in, opened. -/
namespace Go.Proofs.YtcilabemglbhbaaGreatDoor
open Go Go.RowKit Go.Pur Go.ChangeShapes Go.WideShapes Go.ChangeAt Go.Deep

section
variable {H : Type} {enc : TypeId × Value → H} {w : World} {base : Nat} {held : Bool}
theorem cellsTs : Tryz.prog.cellsOf 27 = 1 := by kernel_rfl
theorem cellsBlk : Tryz.prog.cellsOf 29 = 69 := by kernel_rfl
def TAt (w : World) (b o : Nat) (y : TTx) : Prop := ∃ iv ov, (∀ j u, (tcells y iv ov)[j]? = some u → w.cell? ⟨b, o + j, none⟩ = some u) ∧ TxAt w w.heap.size (.agg (tcells y iv ov).toArray) y
theorem open_txs {fuel : Nat} {cv : Value} {x : DataW H × List MemPlace} (h : DataW.trod enc Tryz.prog w base (fun _ => true) held fuel 27 [cv] = some x) : ∃ xs, TxsAt w w.heap.size cv xs := by
  rcases open_slice Tryz.underlying27 h with ⟨hcs, _⟩ | ⟨a, len, cap, m, n, D, Pl, hcs, _, hl, hm, hmm, _, hi⟩
  · simp only [List.cons.injEq, and_true] at hcs
    subst hcs
    exact ⟨[], none, 0, rfl, Nat.le_refl _, by simp [maxLen], fun h => absurd h (by simp)⟩
  · simp only [List.cons.injEq, and_true] at hcs
    subst hcs
    simp only [if_true] at hmm
    rw [hmm] at hi
    simp only [cellsTx] at hi
    obtain ⟨b, o, sp⟩ := a
    have hsp : 0 < len → sp = none := fun hpos => by
      obtain ⟨cs', hc, ht⟩ := hi 0 (by omega)
      obtain ⟨_, hcl, hat⟩ := World.cells?_some hc
      have h0 := hat 0 (by omega)
      rw [List.getElem?_eq_getElem (show 0 < cs'.length by omega)] at h0
      simpa [Addr.add] using spot_none h0
    obtain ⟨xs, hxl, hx⟩ := list_choice (fun i y => TAt w b (o + i * 4) y ∧ b < w.heap.size) len (fun i hil => by
      have hsp' := hsp (by omega)
      obtain ⟨cs', hc, ht⟩ := hi i (by omega)
      obtain ⟨_, hcl, hat⟩ := World.cells?_some hc
      obtain ⟨y, iv, ov, hv, h1, h2, h3, h4⟩ := open_txc ht
      have he : cs' = tcells y iv ov := by
        injection hv with hv
        have := congrArg Array.toList hv
        simpa [tcells] using this
      subst he
      have h0 := hat 0 (by omega)
      rw [List.getElem?_eq_getElem (by simp [tcells])] at h0
      subst hsp'
      have hb := World.block_lt_of_cell? _ _ h0
      rw [block_of_add, block_of_add] at hb
      refine ⟨y, ⟨iv, ov, fun j u hu => ?_, iv, ov, rfl, h1, h2, h3, h4⟩, hb⟩
      have hj : j < 4 := by
        rcases Nat.lt_or_ge j 4 with h | h
        · exact h
        · rw [List.getElem?_eq_none (by exact h)] at hu; cases hu
      have := hat j hj
      rw [hu, addr_add, addr_add] at this
      exact this)
    refine ⟨xs, some ⟨b, o, sp⟩, cap, by rw [hxl], by omega, hm, fun hpos => ?_⟩
    obtain ⟨_, hb⟩ := hx 0 _ (List.getElem?_eq_getElem hpos)
    have hsp' := hsp (by omega)
    subst hsp'
    exact ⟨b, o, rfl, hb, fun k x hk => (hx k x hk).1⟩
theorem open_blkc {fuel : Nat} {cs : List Value} {x : DataW H × List MemPlace} (h : DataW.trod enc Tryz.prog w base (fun _ => true) held fuel 29 cs = some x) : ∃ x, BlkAt w w.heap.size (.agg cs.toArray) x := by
  have hl := trod_size Tryz.underlying29 h
  rw [cellsBlk] at hl
  obtain ⟨n0, y0, h0⟩ := trod_field Tryz.underlying29 h 0 _ rfl
  obtain ⟨n1, y1, h1⟩ := trod_field Tryz.underlying29 h 1 _ rfl
  simp only [cellsHead, cellsTs, List.drop_zero, List.getElem_toArray, List.getElem_cons_zero, List.getElem_cons_succ] at h0 h1
  obtain ⟨hd, hh, hok⟩ := open_headc h0
  rw [one_of (by omega)] at h1
  obtain ⟨xs, hxs⟩ := open_txs h1
  refine ⟨⟨hd, xs⟩, _, ?_, hok, hxs⟩
  rw [← hh]
  congr 1
  apply Array.ext'
  simp only
  conv => lhs; rw [← List.take_append_drop 68 cs]
  rw [List.drop_eq_getElem_cons (by omega : 68 < cs.length), List.drop_eq_nil_of_le (by omega)]
set_option maxRecDepth 100000 in
theorem open_blk {b0 : Nat} {v : Value} {d : DataW H} {p : List MemPlace} (hv : Value.okWide Tryz.prog w .any b0 29 v) (h : DataW.Trod enc Tryz.prog w base (fun _ => true) held 29 v d p) : ∃ x, BlkAt w w.heap.size v x := by
  obtain ⟨cs, rfl, _⟩ := okWide_struct Tryz.underlying29 hv
  obtain ⟨fuel, hf⟩ := h
  obtain ⟨t, ht⟩ := open_blkc hf
  exact ⟨t, by simpa [Value.cells] using ht⟩
end
section
variable {H : Type} {enc : TypeId × Value → H} {w : World} {base : Nat} {held : Bool}
set_option maxRecDepth 100000 in
theorem open_bytes {b0 : Nat} {v : Value} {d : DataW H} {p : List MemPlace} (hv : Value.okWide Tryz.prog w .any b0 30 v) (h : DataW.Trod enc Tryz.prog w base (fun _ => true) held 30 v d p) : ∃ l, Byt w w.heap.size v l := by
  obtain ⟨a, n, c, rfl⟩ := okWide_slice Tryz.underlying30 hv
  obtain ⟨fuel, hf⟩ := h
  exact open_byt Tryz.underlying30 Tryz.underlying5 cellsU8 (by simpa [Value.cells] using hf)
end
end Go.Proofs.YtcilabemglbhbaaGreatDoor

/- the tables that the row lists, as the program's own start lays them. -/
namespace Go.Proofs.YtcilabemglbhbaaGreatDoor
open Go Go.RowKit

abbrev laid2 : List (String × DataW Unit) := [("unicode/utf8.acceptRanges", Rows.laid_unicode_utf8_acceptRanges), ("unicode/utf8.first", Rows.laid_unicode_utf8_first)]
/-- a world that meets the condition: the start's heap, the pinned table laid in its variable. -/
noncomputable def laidWorld (os : Os) : World :=
  let w0 := World.doorLaid Tryz.prog 400 os
  { w0 with heap := w0.heap.modify 1 fun
      | .cells _ t frozen => .cells ((Pinned.utf8FirstZ.map fun (n : Nat) => Value.int .u8 (n : Int)).toArray) t frozen
      | o => o }
set_option maxRecDepth 100000 in
theorem door_met (os : Os) (args : Array Value) : laidMetH Tryz.prog laid2 ((laidWorld os).forCall (fun _ _ => 0) ⟨#[], args, []⟩).memory :=
  laidMetH_of_parts3 (fuel := 8) (laidMet_of_run' 8 (by kernel_rfl) (by kernel_rfl)) (by kernel_rfl) (by kernel_rfl)
set_option maxRecDepth 100000 in
theorem door_shaped (os : Os) (args : Array Value) : ((laidWorld os).forCall (fun _ _ => 0) ⟨#[], args, []⟩).Shaped Tryz.prog := World.shaped_of_RefB (by kernel_rfl) (by kernel_rfl)
end Go.Proofs.YtcilabemglbhbaaGreatDoor
