/- sha's Twice. -/
import Derived.Test.YtcilabemglbhbaaDoorPurShaOf
namespace Go.Proofs.YtcilabemglbhbaaDoor
open Go Go.RowKit Go.Pur

set_option maxRecDepth 100000 in
set_option maxHeartbeats 1600000 in
theorem twice_any (v : Value) (l : Bytes) (B : Nat) (w : World) (hB : B ≤ w.heap.size) (h : Byt w B v l) (hl : l.length ≤ 1000000) :
    Calls Tryd.prog 35 #[v] w fun e w' => e = .returned (.agg (bvs (twice l)).toArray) ∧ Below w.heap.size w w' := by
  obtain ⟨A, m, c, rfl⟩ := slice_of_byt h
  obtain ⟨W1, hW1⟩ : ∃ W1, w.alloc (.cells #[.int .u8 0, .int .u8 0, .int .u8 0, .int .u8 0, .int .u8 0, .int .u8 0, .int .u8 0, .int .u8 0, .int .u8 0, .int .u8 0, .int .u8 0, .int .u8 0, .int .u8 0, .int .u8 0, .int .u8 0, .int .u8 0, .int .u8 0, .int .u8 0, .int .u8 0, .int .u8 0, .int .u8 0, .int .u8 0, .int .u8 0, .int .u8 0, .int .u8 0, .int .u8 0, .int .u8 0, .int .u8 0, .int .u8 0, .int .u8 0, .int .u8 0, .int .u8 0] 24) = W1 := ⟨_, rfl⟩
  have hz : (#[.int .u8 0, .int .u8 0, .int .u8 0, .int .u8 0, .int .u8 0, .int .u8 0, .int .u8 0, .int .u8 0, .int .u8 0, .int .u8 0, .int .u8 0, .int .u8 0, .int .u8 0, .int .u8 0, .int .u8 0, .int .u8 0, .int .u8 0, .int .u8 0, .int .u8 0, .int .u8 0, .int .u8 0, .int .u8 0, .int .u8 0, .int .u8 0, .int .u8 0, .int .u8 0, .int .u8 0, .int .u8 0, .int .u8 0, .int .u8 0, .int .u8 0, .int .u8 0] : Array Value) = zero32 := rfl
  have hb1 : Below w.heap.size w W1 := by rw [← hW1]; exact (Below.refl _ _).alloc (Nat.le_refl _) _
  have hr1 : Blk W1 w.heap.size 24 zero32 := by rw [← hW1, hz]; exact Blk.new w _ _
  clear hz
  go_enter Tryd.func35, Tryd.ntmps35
  go_wp2_with fail
  clear hW1
  refine (of_any _ l B W1 (Nat.le_trans hB hb1.size) (h.below (hb1.mono hB)) hl).mono ?_
  rintro e w2 ⟨rfl, hb2⟩
  have hone : ∀ l : Bytes, (bvs l).toArray.all (·.oneCell') = true := by
    intro l
    rw [Array.all_eq_true_iff_forall_mem]
    intro u hu
    exact bvs_one _ u (by simpa using hu)
  have hl1 : (bvs (shaOf l)).length = 32 := by rw [bvs_length, shaOf_length]
  have ho1 := hone (shaOf l)
  have ho2 := hone (twice l)
  have hl2 : (bvs (twice l)).length = 32 := by rw [bvs_length, twice, shaOf_length]
  have hl1' := Lib.hid hl1
  have hl2' := Lib.hid hl2
  clear hone hl1 hl2
  have tok1 : True := trivial
  go_wp2_with (have _t := tok1; refine wpList_store_new rfl 24 (.tmp 3) (.tmp 5) rfl (bvs (shaOf l)).toArray rfl rfl _ _ (by rw [hashinfo]; simp [hl1'.out]) (by simp [hl1'.out]) ho1 ?_; clear tok1)
  have hby : Byt (w2.alloc (.cells (bvs (shaOf l)).toArray 24)) (w2.heap.size + 1) (.slice (some ⟨w2.heap.size, 0, none⟩) 32 32) (shaOf l) := by
    have := byt_built w2 24 (shaOf l) _ rfl (by rw [shaOf_length]; simp [maxLen])
    rwa [shaOf_length] at this
  have hr2 := hr1.below hb2 hr1.lt
  have hb3 : Below w.heap.size w (w2.alloc (.cells (bvs (shaOf l)).toArray 24)) := (hb1.trans (hb2.mono hb1.size)).alloc (Nat.le_trans hb1.size hb2.size) _
  have hr3 := hr2.alloc (.cells (bvs (shaOf l)).toArray 24)
  refine (of_any _ (shaOf l) (w2.heap.size + 1) _ (by simp) hby (by rw [shaOf_length]; omega)).mono ?_
  rintro e w4 ⟨rfl, hb4⟩
  have hr4 := hr3.below hb4 hr3.lt
  have htw : shaOf (shaOf l) = twice l := rfl
  rw [htw]
  have tok2 : True := trivial
  go_wp2_with (have _t := tok2; refine wpList_store_row rfl 24 (.tmp 2) (.tmp 7) rfl w.heap.size (bvs (twice l)).toArray rfl rfl _ _ hr4 (by rw [hashinfo]; simp [hl2'.out]) (by rw [show zero32.size = 32 from rfl]; simpa using hl2'.out.symm) ho2 ?_; clear tok2)
  (try simp only [Exit.inBlock, Exit.then])
  refine bodyPost_ret (results_cell_at rfl _ _ w.heap.size (bvs (twice l)) _ rfl (cells_of_blk (setRow_blk hr4)) Tryd.underlying24 rfl (by rw [hashinfo, hl2'.out])) rfl ⟨rfl, setRow_below (hb3.trans (hb4.mono hb3.size)) (Nat.le_refl _)⟩
end Go.Proofs.YtcilabemglbhbaaDoor
