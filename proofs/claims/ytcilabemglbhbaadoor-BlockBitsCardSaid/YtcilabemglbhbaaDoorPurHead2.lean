/- block.Hash: a header's hash. -/
import Derived.Test.YtcilabemglbhbaaDoorPurHead1
namespace Go.Proofs.YtcilabemglbhbaaDoor
open Go Go.RowKit Go.Pur

theorem headinfo : (Tryd.prog.info? 26).map (·.size) = some 68 := by kernel_rfl
set_option maxRecDepth 100000 in
set_option maxHeartbeats 1600000 in
theorem hash_any (h : Head) (w : World) (hh : HeadOk h) :
    Calls Tryd.prog 14 #[.agg (headCells h).toArray] w fun e w' => e = .returned (.agg (bvs (twice (encHd h))).toArray) ∧ Below w.heap.size w w' := by
  have hlen := headCells_length hh
  have hel := encHd_length hh
  obtain ⟨cl, hcl⟩ : ∃ cl, cl = headCells h := ⟨_, rfl⟩
  have hc := hcl
  rw [← hcl] at hlen ⊢
  have hx : Blk (w.alloc (.cells cl.toArray 26)) w.heap.size 26 cl.toArray := Blk.new w _ _
  have hz : (#[.int .u8 0, .int .u8 0, .int .u8 0, .int .u8 0, .int .u8 0, .int .u8 0, .int .u8 0, .int .u8 0, .int .u8 0, .int .u8 0, .int .u8 0, .int .u8 0, .int .u8 0, .int .u8 0, .int .u8 0, .int .u8 0, .int .u8 0, .int .u8 0, .int .u8 0, .int .u8 0, .int .u8 0, .int .u8 0, .int .u8 0, .int .u8 0, .int .u8 0, .int .u8 0, .int .u8 0, .int .u8 0, .int .u8 0, .int .u8 0, .int .u8 0, .int .u8 0] : Array Value) = zero32 := rfl
  obtain ⟨W1, hW1⟩ : ∃ W1, W1 = (w.alloc (.cells cl.toArray 26)).alloc (.cells zero32 24) := ⟨_, rfl⟩
  have hr1 : Blk W1 (w.heap.size + 1) 24 zero32 := by
    have := Blk.new (w.alloc (.cells cl.toArray 26)) 24 zero32
    rw [hW1]
    simpa using this
  have hb1 : Below w.heap.size w W1 := by rw [hW1]; exact ((Below.refl _ _).alloc (Nat.le_refl _) _).alloc (by simp) _
  have hx1 : Blk W1 w.heap.size 26 cl.toArray := by rw [hW1]; exact hx.alloc _
  have hcells : ∀ j u, cl[j]? = some u → ((w.alloc (.cells cl.toArray 26)).alloc (.cells zero32 24)).cell? ⟨w.heap.size, 0 + j, none⟩ = some u := fun j u hu => by
    rw [← hW1, Nat.zero_add, hx1.cell j]; simpa using hu
  have hcl' := Lib.hid hcl
  have hel' := Lib.hid hel
  have hlen' := Lib.hid hlen
  clear hcl hel hlen hx hc
  have tok1 : True := trivial
  go_enter Tryd.func14, Tryd.ntmps14
  go_wp2_with (have _t := tok1; refine wpList_load_at rfl 26 (.tmp 1) rfl w.heap.size 0 rfl cl _ hcells Tryd.underlying26 rfl (by rw [headinfo, hlen'.out]) ?_; clear tok1)
  rw [← hW1, hcl'.out]
  refine (encodeHeader_any h W1 hh).mono ?_
  rintro e w2 ⟨v2, rfl, ho2, hb2⟩
  obtain ⟨A2, n2, c2', rfl⟩ := slice_of_own ho2
  have hr2 := hr1.below hb2 hr1.lt
  have hb02 := hb1.trans (hb2.mono hb1.size)
  clear hcells hx1 hW1 hz
  go_wp2_with fail
  refine (twice_any _ (encHd h) w2.heap.size w2 (Nat.le_refl _) (Byt.of_own ho2) (by rw [hel'.out]; omega)).mono ?_
  rintro e w3 ⟨rfl, hb3⟩
  have hone : (bvs (twice (encHd h))).toArray.all (·.oneCell') = true := by
    rw [Array.all_eq_true_iff_forall_mem]
    intro u hu
    exact bvs_one _ u (by simpa using hu)
  have hlen : Hid ((bvs (twice (encHd h))).length = 32) := Lib.hid (by rw [bvs_length, twice, shaOf_length])
  have hr3 := hr2.below hb3 hr2.lt
  have hbf : Below w.heap.size w w3 := hb02.trans (hb3.mono hb02.size)
  generalize hH : bvs (twice (encHd h)) = H at *
  have hH' := Lib.hid hH
  clear hH
  have tok2 : True := trivial
  go_wp2_with (have _t := tok2; refine wpList_store_row rfl 24 (.tmp 2) (.tmp 5) rfl (w.heap.size + 1) H.toArray rfl rfl _ _ hr3 (by rw [hashinfo]; simp [hlen.out]) (by simp [hlen.out, zero32, bvs]) hone ?_; clear tok2)
  (try simp only [Exit.inBlock, Exit.then])
  refine bodyPost_ret (results_cell_at rfl _ _ (w.heap.size + 1) H _ rfl (cells_of_blk (setRow_blk hr3)) Tryd.underlying24 rfl (by rw [hashinfo, hlen.out])) rfl ⟨by first | rfl | rw [hH'.out], setRow_below hbf (by omega)⟩
end Go.Proofs.YtcilabemglbhbaaDoor
