/- sha's Of and Twice. -/
import Derived.Test.YtcilabemglbhbaaGreatDoorK15
namespace Go.Proofs.YtcilabemglbhbaaGreatDoor
open Go Go.RowKit Go.Pur

def shaOf (l : Bytes) : Bytes := endB (absorb squareS l (l.length / 64)) (l.drop (64 * (l.length / 64))) l.length
theorem squares_some : noneS squareS = false := by decide
set_option maxRecDepth 100000 in
set_option maxHeartbeats 1600000 in
theorem of_any (v : Value) (l : Bytes) (B : Nat) (w : World) (hB : B ≤ w.heap.size) (h : Byt w B v l) (hl : l.length ≤ 1000000) :
    Calls Tryz.prog 60 #[v] w fun e w' => e = .returned (.agg (bvs (shaOf l)).toArray) ∧ Below w.heap.size w w' := by
  obtain ⟨A, m, c, rfl⟩ := slice_of_byt h
  obtain ⟨W1, hW1⟩ : ∃ W1, w.alloc (.cells #[.int .u8 0, .int .u8 0, .int .u8 0, .int .u8 0, .int .u8 0, .int .u8 0, .int .u8 0, .int .u8 0, .int .u8 0, .int .u8 0, .int .u8 0, .int .u8 0, .int .u8 0, .int .u8 0, .int .u8 0, .int .u8 0, .int .u8 0, .int .u8 0, .int .u8 0, .int .u8 0, .int .u8 0, .int .u8 0, .int .u8 0, .int .u8 0, .int .u8 0, .int .u8 0, .int .u8 0, .int .u8 0, .int .u8 0, .int .u8 0, .int .u8 0, .int .u8 0] 24) = W1 := ⟨_, rfl⟩
  have hz : (#[.int .u8 0, .int .u8 0, .int .u8 0, .int .u8 0, .int .u8 0, .int .u8 0, .int .u8 0, .int .u8 0, .int .u8 0, .int .u8 0, .int .u8 0, .int .u8 0, .int .u8 0, .int .u8 0, .int .u8 0, .int .u8 0, .int .u8 0, .int .u8 0, .int .u8 0, .int .u8 0, .int .u8 0, .int .u8 0, .int .u8 0, .int .u8 0, .int .u8 0, .int .u8 0, .int .u8 0, .int .u8 0, .int .u8 0, .int .u8 0, .int .u8 0, .int .u8 0] : Array Value) = zero32 := rfl
  have hb1 : Below w.heap.size w W1 := by rw [← hW1]; exact (Below.refl _ _).alloc (Nat.le_refl _) _
  have hr1 : Blk W1 w.heap.size 24 zero32 := by rw [← hW1, hz]; exact Blk.new w _ _
  clear hz
  go_enter Tryz.func60, Tryz.ntmps60
  go_wp2_with fail
  clear hW1
  refine (new_any W1).mono ?_
  rintro e w2 ⟨p, rfl, hp, hS2, hb2⟩
  have hv2 := (h.below (hb1.mono hB)).below (hb2.mono (Nat.le_trans hB hb1.size))
  have hBp : B ≤ p := Nat.le_trans (Nat.le_trans hB hb1.size) hp
  have hwr := Lib.hid (write_any p squareS (.slice none 0 0) (.slice A m c) [] l 0 w2 hS2 squares_some (World.ownsRow_nil _ _ _ _) (fun u => by
    obtain ⟨A', c', e1, e2, e3, e4⟩ := hv2.here
    exact ⟨A', c', e1, e2, e3, (by obtain ⟨A'', c'', f1, f2, f3, f4⟩ := hv2; injection e1.symm.trans f1 with g1; subst g1; exact (f4.setCell (p := ⟨p, 9, none⟩) hBp u).more (Nat.le_trans (Nat.le_trans hB hb1.size) hb2.size))⟩) (by simp) (by omega) (by omega))
  go_wp2_with fail
  refine hwr.out.mono ?_
  rintro e w3 ⟨rfl, ⟨rv3, hS3, ho3⟩, hu3⟩
  simp only [List.nil_append, Nat.zero_add] at hS3 ho3
  have hend := Lib.hid (end_any p _ rv3 _ l.length w3 hS3 ho3 (by rw [List.length_drop]; omega) (by omega))
  have hlt : w.heap.size < W1.heap.size := hr1.lt
  have hr2 := hr1.below hb2 hr1.lt
  have hr3 := hu3.blk hr2 (by omega) (by simp)
  clear hwr
  go_wp2_with fail
  refine hend.out.mono ?_
  rintro e w4 ⟨rfl, hb4⟩
  have hr4 := hr3.below hb4 hr3.lt
  have hsh : endB (absorb squareS l (l.length / 64)) (l.drop (64 * (l.length / 64))) l.length = shaOf l := rfl
  rw [hsh]
  have hlen : Hid ((bvs (shaOf l)).length = 32) := Lib.hid (by
    rw [bvs_length, shaOf, endB]
    split
    · simp
    · exact hashB_length _)
  have hone : (bvs (shaOf l)).toArray.all (·.oneCell') = true := by
    rw [Array.all_eq_true_iff_forall_mem]
    intro u hu
    exact bvs_one _ u (by simpa using hu)
  generalize hH : bvs (shaOf l) = H at *
  have hH' := Lib.hid hH
  clear hH
  have hbf : Below w.heap.size w w4 := (hb1.trans (hb2.mono hb1.size)).trans ((hu3.below (Nat.le_trans hb1.size hb2.size) (by omega) (fun k hk => by cases hk)).trans (hb4.mono (Nat.le_trans (Nat.le_trans hb1.size hb2.size) hu3.size)))
  have tok2 : True := trivial
  clear hsh hend hS2 hS3 ho3 hu3
  go_wp2_with (have _t := tok2; refine wpList_store_row rfl 24 (.tmp 2) (.tmp 6) rfl w.heap.size H.toArray rfl rfl _ _ hr4 (by rw [hashinfo]; simp [hlen.out]) (by simp [hlen.out, zero32, bvs]) hone ?_; clear tok2)
  (try simp only [Exit.inBlock, Exit.then])
  refine bodyPost_ret (results_cell_at rfl _ _ w.heap.size H _ rfl (cells_of_blk (setRow_blk hr4)) Tryz.underlying24 rfl (by rw [hashinfo, hlen.out])) rfl ⟨by rw [hH'.out], setRow_below hbf (Nat.le_refl _)⟩

theorem shaOf_length (l : Bytes) : (shaOf l).length = 32 := by
  rw [shaOf, endB]
  split
  · simp
  · exact hashB_length _
def twice (l : Bytes) : Bytes := shaOf (shaOf l)
end Go.Proofs.YtcilabemglbhbaaGreatDoor

/- sha's Twice. -/
namespace Go.Proofs.YtcilabemglbhbaaGreatDoor
open Go Go.RowKit Go.Pur

set_option maxRecDepth 100000 in
set_option maxHeartbeats 1600000 in
theorem twice_any (v : Value) (l : Bytes) (B : Nat) (w : World) (hB : B ≤ w.heap.size) (h : Byt w B v l) (hl : l.length ≤ 1000000) :
    Calls Tryz.prog 34 #[v] w fun e w' => e = .returned (.agg (bvs (twice l)).toArray) ∧ Below w.heap.size w w' := by
  obtain ⟨A, m, c, rfl⟩ := slice_of_byt h
  obtain ⟨W1, hW1⟩ : ∃ W1, w.alloc (.cells #[.int .u8 0, .int .u8 0, .int .u8 0, .int .u8 0, .int .u8 0, .int .u8 0, .int .u8 0, .int .u8 0, .int .u8 0, .int .u8 0, .int .u8 0, .int .u8 0, .int .u8 0, .int .u8 0, .int .u8 0, .int .u8 0, .int .u8 0, .int .u8 0, .int .u8 0, .int .u8 0, .int .u8 0, .int .u8 0, .int .u8 0, .int .u8 0, .int .u8 0, .int .u8 0, .int .u8 0, .int .u8 0, .int .u8 0, .int .u8 0, .int .u8 0, .int .u8 0] 24) = W1 := ⟨_, rfl⟩
  have hz : (#[.int .u8 0, .int .u8 0, .int .u8 0, .int .u8 0, .int .u8 0, .int .u8 0, .int .u8 0, .int .u8 0, .int .u8 0, .int .u8 0, .int .u8 0, .int .u8 0, .int .u8 0, .int .u8 0, .int .u8 0, .int .u8 0, .int .u8 0, .int .u8 0, .int .u8 0, .int .u8 0, .int .u8 0, .int .u8 0, .int .u8 0, .int .u8 0, .int .u8 0, .int .u8 0, .int .u8 0, .int .u8 0, .int .u8 0, .int .u8 0, .int .u8 0, .int .u8 0] : Array Value) = zero32 := rfl
  have hb1 : Below w.heap.size w W1 := by rw [← hW1]; exact (Below.refl _ _).alloc (Nat.le_refl _) _
  have hr1 : Blk W1 w.heap.size 24 zero32 := by rw [← hW1, hz]; exact Blk.new w _ _
  clear hz
  go_enter Tryz.func34, Tryz.ntmps34
  go_wp2_with fail
  clear hW1
  refine (of_any _ l B W1 (Nat.le_trans hB hb1.size) (h.below (hb1.mono hB)) hl).mono ?_
  rintro e w2 ⟨rfl, hb2⟩
  have hone : ∀ l : Bytes, (bvs l).toArray.all (·.oneCell') = true := by
    intro l
    rw [Array.all_eq_true_iff_forall_mem]
    intro u hu
    exact bvs_one _ u (by simpa using hu)
  have hl1 : (bvs (shaOf l)).length = 32 := by rw [bvs_length, shaOf_length]
  have ho1 := hone (shaOf l)
  have ho2 := hone (twice l)
  have hl2 : (bvs (twice l)).length = 32 := by rw [bvs_length, twice, shaOf_length]
  have hl1' := Lib.hid hl1
  have hl2' := Lib.hid hl2
  clear hone hl1 hl2
  have tok1 : True := trivial
  go_wp2_with (have _t := tok1; refine wpList_store_new rfl 24 (.tmp 3) (.tmp 5) rfl (bvs (shaOf l)).toArray rfl rfl _ _ (by rw [hashinfo]; simp [hl1'.out]) (by simp [hl1'.out]) ho1 ?_; clear tok1)
  have hby : Byt (w2.alloc (.cells (bvs (shaOf l)).toArray 24)) (w2.heap.size + 1) (.slice (some ⟨w2.heap.size, 0, none⟩) 32 32) (shaOf l) := by
    have := byt_built w2 24 (shaOf l) _ rfl (by rw [shaOf_length]; simp [maxLen])
    rwa [shaOf_length] at this
  have hr2 := hr1.below hb2 hr1.lt
  have hb3 : Below w.heap.size w (w2.alloc (.cells (bvs (shaOf l)).toArray 24)) := (hb1.trans (hb2.mono hb1.size)).alloc (Nat.le_trans hb1.size hb2.size) _
  have hr3 := hr2.alloc (.cells (bvs (shaOf l)).toArray 24)
  refine (of_any _ (shaOf l) (w2.heap.size + 1) _ (by simp) hby (by rw [shaOf_length]; omega)).mono ?_
  rintro e w4 ⟨rfl, hb4⟩
  have hr4 := hr3.below hb4 hr3.lt
  have htw : shaOf (shaOf l) = twice l := rfl
  rw [htw]
  have tok2 : True := trivial
  go_wp2_with (have _t := tok2; refine wpList_store_row rfl 24 (.tmp 2) (.tmp 7) rfl w.heap.size (bvs (twice l)).toArray rfl rfl _ _ hr4 (by rw [hashinfo]; simp [hl2'.out]) (by rw [show zero32.size = 32 from rfl]; simpa using hl2'.out.symm) ho2 ?_; clear tok2)
  (try simp only [Exit.inBlock, Exit.then])
  refine bodyPost_ret (results_cell_at rfl _ _ w.heap.size (bvs (twice l)) _ rfl (cells_of_blk (setRow_blk hr4)) Tryz.underlying24 rfl (by rw [hashinfo, hl2'.out])) rfl ⟨rfl, setRow_below (hb3.trans (hb4.mono hb3.size)) (Nat.le_refl _)⟩
end Go.Proofs.YtcilabemglbhbaaGreatDoor
