/- sha's New and Copy. -/
import Derived.Test.YtcilabemglbhbaaDoorPurSha2
namespace Go.Proofs.YtcilabemglbhbaaDoor
open Go Go.RowKit Go.Pur

def sumCells (s : S8) (rv : Value) (n : Int) : List Value := s.cells ++ [rv, .int .u64 n]
theorem suminfo : (Tryd.prog.info? 166).map (·.size) = some 10 := by kernel_rfl
set_option maxRecDepth 100000 in
theorem new_any (w : World) : Calls Tryd.prog 83 #[] w fun e w' => ∃ p, e = .returned (.pointer (some ⟨p, 0, none⟩)) ∧ w.heap.size ≤ p ∧ SumBlk w' p squareS (.slice none 0 0) 0 ∧ Below w.heap.size w w' := by
  go_enter Tryd.func83, Tryd.ntmps83
  go_wp2_with fail
  refine (squares_any w).mono ?_
  rintro e w1 ⟨rfl, hb1⟩
  go_wp2_with fail
  go_ret
  exact ⟨w1.heap.size, rfl, hb1.size, Blk.new w1 _ _, hb1.alloc hb1.size _⟩

set_option maxRecDepth 100000 in
set_option maxHeartbeats 800000 in
theorem sumcopy_any (p : Nat) (s : S8) (rv : Value) (n : Int) (rest : Bytes) (B : Nat) (w : World) (hB : B ≤ w.heap.size) (h : SumBlk w p s rv n) (hs : noneS s = false) (hr : Byt w B rv rest) (hl : rest.length ≤ 1000) :
    Calls Tryd.prog 105 #[.pointer (some ⟨p, 0, none⟩)] w fun e w' => ∃ p2 rv2, e = .returned (.pointer (some ⟨p2, 0, none⟩)) ∧ w.heap.size ≤ p2 ∧ SumBlk w' p2 s rv2 n ∧ OwnB w' w.heap.size 5 rv2 rest ∧ Below w.heap.size w w' := by
  obtain ⟨A, m, c, rfl⟩ := slice_of_byt hr
  have hn := none_any p s (.slice A m c) n w h
  rw [hs] at hn
  have h0 := h
  have h : Blk w p 166 (sumCells s (.slice A m c) n).toArray := h
  have hcells : ∀ j u, (sumCells s (.slice A m c) n)[j]? = some u → w.cell? ⟨p, 0 + j, none⟩ = some u := fun j u hu => by rw [Nat.zero_add]; exact cells_of_blk h j u hu
  have hone : (sumCells s (.slice A m c) n).toArray.all (·.oneCell') = true := by kernel_rfl
  have hlen : Hid ((sumCells s (.slice A m c) n).length = 10) := Lib.hid rfl
  obtain ⟨W1, hW1⟩ : ∃ W1, w.alloc (.cells (sumCells s (.slice A m c) n).toArray 166) = W1 := ⟨_, rfl⟩
  have hp1 : Blk W1 p 166 (sumCells s (.slice A m c) n).toArray := by rw [← hW1]; exact h.alloc _
  have hb1 : Below w.heap.size w W1 := by rw [← hW1]; exact (Below.refl _ _).alloc (Nat.le_refl _) _
  have hq1 : Blk W1 w.heap.size 166 (sumCells s (.slice A m c) n).toArray := by rw [← hW1]; exact Blk.new w _ _
  have hrc : W1.cell? ⟨p, 8, none⟩ = some (.slice A m c) := hp1.cell 8
  have hc8 : (sumCells s (.slice A m c) n).toArray[8]? = some (.slice A m c) := rfl
  have hq8 : ∀ v : Value, (sumCells s (.slice A m c) n).toArray.setIfInBounds 8 v = (sumCells s v n).toArray := fun v => rfl
  have hq8' := Lib.hid hq8
  clear hq8
  generalize hcc : sumCells s (.slice A m c) n = cs at *
  have hcc' := Lib.hid hcc
  clear hcc h
  have tok1 : True := trivial
  have tok2 : True := trivial
  go_enter Tryd.func105, Tryd.ntmps105
  go_wp2_with (first
    | (go_at_call 102; refine hn.mono ?_; rintro e w' ⟨rfl, rfl⟩)
    | (have _t := tok1; refine wpList_load_at rfl 166 (.tmp 7) rfl p 0 rfl cs _ hcells Tryd.underlying166 rfl (by rw [suminfo, hlen.out]) ?_; clear tok1)
    | (have _t := tok2; refine wpList_store_new rfl 166 (.tmp 3) (.tmp 8) rfl cs.toArray rfl rfl _ _ (by rw [suminfo]; simp [hlen.out]) (by simp [hlen.out]) hone ?_; clear tok2))
  refine (clone_any _ rest B W1 (by omega) (hr.below (hb1.mono hB))).mono ?_
  rintro e w2 ⟨rv2, rfl, ho2, hb2⟩
  obtain ⟨A2, m2, c2, rfl⟩ := slice_of_own ho2
  have hq2 := hq1.below hb2 hq1.lt
  have g8 := (hq2.cell 8).trans hc8
  have f8 := hq2.frozen 8
  have hne := own_blk_ne ho2 hq2 (by decide)
  go_wp2_with fail
  go_ret
  refine ⟨_, _, rfl, Nat.le_refl _, ?_, own_far (World.ownsRow_base ho2 (fun k hk => Nat.le_trans hb1.size (ho2.lt k hk).1)) (a := ⟨w'.heap.size, 8, none⟩) hne _, (hb1.trans (hb2.mono hb1.size)).setCell (p := ⟨w'.heap.size, 8, none⟩) (Nat.le_refl _) _⟩
  have := hq2.set_ 8 (.slice A2 m2 c2)
  rw [hq8'.out] at this
  exact this
end Go.Proofs.YtcilabemglbhbaaDoor
