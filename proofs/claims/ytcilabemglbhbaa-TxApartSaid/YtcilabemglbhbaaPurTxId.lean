/- tx.Id: the double hash of the bytes, or the error. -/
import Derived.Test.YtcilabemglbhbaaPurTwice
import Derived.Test.YtcilabemglbhbaaPurTxEnc
namespace Go.Proofs.Ytcilabemglbhbaa
open Go Go.RowKit Go.Pur

def IdPost (t : TTx) (w : World) (e : Ending) (w' : World) : Prop := Below w.heap.size w w' ∧
  ((okTx t = true ∧ e = .returned (.tuple #[.agg (bvs (twice (enc t))).toArray, .int .i64 0])) ∨ (okTx t = false ∧ e = .returned (.tuple #[.agg (bvs (List.replicate 32 0)).toArray, .int .i64 60])))
theorem enc_len {t : TTx} (hs : Small t) (h32 : ∀ x ∈ t.ins, x.tx.length = 32) : (enc t).length ≤ 270000 := by
  have h1 := flat_length encIn t.ins (fun y hy => encIn_length y (hs.2.2.1 y hy) (h32 y hy))
  have h2 := flat_length encOut t.outs (fun y hy => encOut_length y (hs.2.2.2 y hy))
  have h3 := szB_length t.ins.length
  have h4 := szB_length t.outs.length
  have h5 := hs.1
  have h6 := hs.2.1
  unfold enc encIns encOuts
  simp only [List.length_append, le_length]
  omega

set_option maxRecDepth 100000 in
set_option maxHeartbeats 1600000 in
theorem id_any (v : Value) (t : TTx) (B : Nat) (w : World) (hB : B ≤ w.heap.size) (h : TxAt w B v t) (hs : Small t) :
    Calls Try.prog 10 #[v] w (IdPost t w) := by
  have h0 := h
  obtain ⟨iv, ov, rfl, hver, hlock, hi, ho⟩ := h
  have h32 := hi.tx32
  have hel := enc_len hs h32
  obtain ⟨Ai, ni, ci, rfl⟩ : ∃ A n c, iv = .slice A n c := by obtain ⟨A, c, h, _⟩ := hi; exact ⟨A, _, c, h⟩
  obtain ⟨Ao, no, co, rfl⟩ : ∃ A n c, ov = .slice A n c := by obtain ⟨A, c, h, _⟩ := ho; exact ⟨A, _, c, h⟩
  obtain ⟨W1, hW1⟩ : ∃ W1, (w.alloc (.cells #[.int .u32 (t.ver : Int), .slice Ai ni ci, .slice Ao no co, .int .u32 (t.lock : Int)] 26)).alloc (.cells #[.int .u8 0, .int .u8 0, .int .u8 0, .int .u8 0, .int .u8 0, .int .u8 0, .int .u8 0, .int .u8 0, .int .u8 0, .int .u8 0, .int .u8 0, .int .u8 0, .int .u8 0, .int .u8 0, .int .u8 0, .int .u8 0, .int .u8 0, .int .u8 0, .int .u8 0, .int .u8 0, .int .u8 0, .int .u8 0, .int .u8 0, .int .u8 0, .int .u8 0, .int .u8 0, .int .u8 0, .int .u8 0, .int .u8 0, .int .u8 0, .int .u8 0, .int .u8 0] 36) = W1 := ⟨_, rfl⟩
  have hz : (#[.int .u8 0, .int .u8 0, .int .u8 0, .int .u8 0, .int .u8 0, .int .u8 0, .int .u8 0, .int .u8 0, .int .u8 0, .int .u8 0, .int .u8 0, .int .u8 0, .int .u8 0, .int .u8 0, .int .u8 0, .int .u8 0, .int .u8 0, .int .u8 0, .int .u8 0, .int .u8 0, .int .u8 0, .int .u8 0, .int .u8 0, .int .u8 0, .int .u8 0, .int .u8 0, .int .u8 0, .int .u8 0, .int .u8 0, .int .u8 0, .int .u8 0, .int .u8 0] : Array Value) = zero32 := rfl
  have hbw : Below w.heap.size w W1 := by rw [← hW1]; exact ((Below.refl _ _).alloc (Nat.le_refl _) _).alloc (by simp) _
  have hbx : Blk W1 w.heap.size 26 #[.int .u32 (t.ver : Int), .slice Ai ni ci, .slice Ao no co, .int .u32 (t.lock : Int)] := by rw [← hW1]; exact (Blk.new w _ _).alloc _
  have hr1 : Blk W1 (w.heap.size + 1) 36 zero32 := by
    have := Blk.new (w.alloc (.cells #[.int .u32 (t.ver : Int), .slice Ai ni ci, .slice Ao no co, .int .u32 (t.lock : Int)] 26)) 36 #[.int .u8 0, .int .u8 0, .int .u8 0, .int .u8 0, .int .u8 0, .int .u8 0, .int .u8 0, .int .u8 0, .int .u8 0, .int .u8 0, .int .u8 0, .int .u8 0, .int .u8 0, .int .u8 0, .int .u8 0, .int .u8 0, .int .u8 0, .int .u8 0, .int .u8 0, .int .u8 0, .int .u8 0, .int .u8 0, .int .u8 0, .int .u8 0, .int .u8 0, .int .u8 0, .int .u8 0, .int .u8 0, .int .u8 0, .int .u8 0, .int .u8 0, .int .u8 0]
    rw [hW1, hz] at this
    simpa using this
  clear hz hi ho h32
  have c0 := hbx.cell 0
  have c1 := hbx.cell 1
  have c2 := hbx.cell 2
  have c3 := hbx.cell 3
  go_enter Try.func10, Try.ntmps10
  go_wp2_with fail
  clear hW1
  refine (encode_any _ t B W1 (Nat.le_trans hB hbw.size) (h0.below (hbw.mono hB)) hs).mono ?_
  rintro e w2 ⟨hb2, ⟨hok, v2, rfl, ho2⟩ | ⟨hok, rfl⟩⟩
  · have hok' := Lib.hid hok
    clear hok
    obtain ⟨A2, n2, c2', rfl⟩ := slice_of_own ho2
    have hr2 := hr1.below hb2 hr1.lt
    have hb02 := hbw.trans (hb2.mono hbw.size)
    go_wp2_with fail
    refine (twice_any _ (enc t) w2.heap.size w2 (Nat.le_refl _) (Byt.of_own ho2) (by omega)).mono ?_
    rintro e w3 ⟨rfl, hb3⟩
    have hone : (bvs (twice (enc t))).toArray.all (·.oneCell') = true := by
      rw [Array.all_eq_true_iff_forall_mem]
      intro u hu
      exact bvs_one _ u (by simpa using hu)
    have hlen : Hid ((bvs (twice (enc t))).length = 32) := Lib.hid (by rw [bvs_length, twice, shaOf_length])
    have hr3 := hr2.below hb3 hr2.lt
    have hbf : Below w.heap.size w w3 := hb02.trans (hb3.mono hb02.size)
    generalize hH : bvs (twice (enc t)) = H at *
    have hH' := Lib.hid hH
    clear hH c0 c1 c2 c3
    have tok2 : True := trivial
    go_wp2_with (have _t := tok2; refine wpList_store_row rfl 36 (.tmp 2) (.tmp 16) rfl (w.heap.size + 1) H.toArray rfl rfl _ _ hr3 (by rw [hashinfo]; simp [hlen.out]) (by simp [hlen.out, zero32, bvs]) hone ?_; clear tok2)
    (try simp only [Exit.inBlock, Exit.then])
    refine bodyPost_ret (results_cell_tmp_at rfl _ _ (w.heap.size + 1) H _ rfl (cells_of_blk (setRow_blk hr3)) Try.underlying36 rfl (by rw [hashinfo, hlen.out])) rfl ⟨setRow_below hbf (by omega), .inl ⟨hok'.out, by rw [hH'.out]; rfl⟩⟩
  · have hok' := Lib.hid hok
    clear hok
    have hr2 := hr1.below hb2 hr1.lt
    have hbf : Below w.heap.size w w2 := hbw.trans (hb2.mono hbw.size)
    have hone : zero32.all (·.oneCell') = true := by kernel_rfl
    clear c0 c1 c2 c3
    have tok2 : True := trivial
    go_wp2_with (have _t := tok2; refine wpList_store_row rfl 36 (.tmp 2) (.tmp 13) rfl (w.heap.size + 1) zero32 rfl rfl _ _ hr2 (by rw [hashinfo]; rfl) rfl hone ?_; clear tok2)
    (try simp only [Exit.inBlock, Exit.then])
    refine bodyPost_ret (results_cell_tmp_at rfl _ _ (w.heap.size + 1) (bvs (List.replicate 32 0)) _ rfl (cells_of_blk (setRow_blk hr2)) Try.underlying36 rfl (by rw [hashinfo]; rfl)) rfl ⟨setRow_below hbf (by omega), .inr ⟨hok'.out, rfl⟩⟩
end Go.Proofs.Ytcilabemglbhbaa
