/- The chapter's transaction, and its first example. -/
import Derived.Test.YtcilabemglbhbaaPurCoin
import Derived.Test.YtcilabemglbhbaaPurLib2
import Derived.Test.YtcilabemglbhbaaPurShelf
namespace Go.Proofs.Ytcilabemglbhbaa
open Go Go.RowKit Go.Pur

def someIn : TIn := ⟨List.replicate 32 0, 4294967295, [42], 7⟩
def someOut : TOut := ⟨5, [106]⟩
def someTx : TTx := ⟨1, [someIn], [someOut], 0⟩

theorem txinfo26 : (Try.prog.info? 26).map (·.size) = some 4 := by kernel_rfl
theorem byt_blk {w : World} {g : Nat} {t : TypeId} {cs : Array Value} (h : Blk w g t cs) (B : Nat) (hB : g < B) (l : Bytes) (hl : l.length ≤ maxLen) (hc : cs = (bvs l).toArray) : Byt w B (.slice (some ⟨g, 0, none⟩) l.length l.length) l := by
  subst hc
  refine ⟨_, _, rfl, Nat.le_refl _, hl, by simp [bvs], fun _ => ⟨_, rfl, hB, fun j u hu => ?_⟩⟩
  have e : (⟨g, 0, none⟩ : Addr).add j = ⟨g, j, none⟩ := by unfold Addr.add; split <;> simp_all
  rw [e, h.cell j]
  simpa using hu
set_option maxRecDepth 100000 in
set_option maxHeartbeats 800000 in
theorem some_any (w : World) : Calls Try.prog 21 #[] w fun e w' => ∃ v, e = .returned v ∧ TxAt w' w'.heap.size v someTx ∧ Below w.heap.size w w' := by
  go_enter Try.func21, Try.ntmps21
  go_wp2
  (try simp only [Exit.inBlock, Exit.then])
  have e0 : (inCells someIn (.slice (some ⟨w.heap.size + 1, 0, none⟩) 1 1)).toArray = #[.int .u8 0, .int .u8 0, .int .u8 0, .int .u8 0, .int .u8 0, .int .u8 0, .int .u8 0, .int .u8 0, .int .u8 0, .int .u8 0, .int .u8 0, .int .u8 0, .int .u8 0, .int .u8 0, .int .u8 0, .int .u8 0, .int .u8 0, .int .u8 0, .int .u8 0, .int .u8 0, .int .u8 0, .int .u8 0, .int .u8 0, .int .u8 0, .int .u8 0, .int .u8 0, .int .u8 0, .int .u8 0, .int .u8 0, .int .u8 0, .int .u8 0, .int .u8 0, .int .u32 4294967295, .slice (some ⟨w.heap.size + 1, 0, none⟩) 1 1, .int .u32 7] := rfl
  rw [← e0]
  generalize hca : (inCells someIn (.slice (some ⟨w.heap.size + 1, 0, none⟩) 1 1)) = ca
  obtain ⟨W1, hW1⟩ : ∃ W1, w.alloc (.cells #[.int .u32 1, .slice (some ⟨w.heap.size + 1 + 1, 0, none⟩) 1 1, .slice (some ⟨w.heap.size + 1 + 1 + 1 + 1, 0, none⟩) 1 1, .int .u32 0] 26) = W1 := ⟨_, rfl⟩
  obtain ⟨W2, hW2⟩ : ∃ W2, W1.alloc (.cells #[.int .u8 42] 5) = W2 := ⟨_, rfl⟩
  obtain ⟨W3, hW3⟩ : ∃ W3, W2.alloc (.cells ca.toArray 47) = W3 := ⟨_, rfl⟩
  obtain ⟨W4, hW4⟩ : ∃ W4, W3.alloc (.cells #[.int .u8 106] 5) = W4 := ⟨_, rfl⟩
  obtain ⟨W5, hW5⟩ : ∃ W5, W4.alloc (.cells #[.int .i64 5, .slice (some ⟨w.heap.size + 1 + 1 + 1, 0, none⟩) 1 1] 49) = W5 := ⟨_, rfl⟩
  rw [hW1, hW2, hW3, hW4, hW5]
  have s1 : W1.heap.size = w.heap.size + 1 := by rw [← hW1]; simp
  have s2 : W2.heap.size = w.heap.size + 2 := by rw [← hW2]; simp [s1]
  have s3 : W3.heap.size = w.heap.size + 3 := by rw [← hW3]; simp [s2]
  have s4 : W4.heap.size = w.heap.size + 4 := by rw [← hW4]; simp [s3]
  have s5 : W5.heap.size = w.heap.size + 5 := by rw [← hW5]; simp [s4]
  have b1 : Blk W5 w.heap.size 26 #[.int .u32 1, .slice (some ⟨w.heap.size + 1 + 1, 0, none⟩) 1 1, .slice (some ⟨w.heap.size + 1 + 1 + 1 + 1, 0, none⟩) 1 1, .int .u32 0] := by
    rw [← hW5, ← hW4, ← hW3, ← hW2, ← hW1]
    exact ((((Blk.new w _ _).alloc _).alloc _).alloc _).alloc _
  have b2 : Blk W5 (w.heap.size + 1) 5 #[.int .u8 42] := by
    rw [← s1, ← hW5, ← hW4, ← hW3, ← hW2]
    exact (((Blk.new W1 _ _).alloc _).alloc _).alloc _
  have b3 : Blk W5 (w.heap.size + 2) 47 ca.toArray := by
    rw [← s2, ← hW5, ← hW4, ← hW3]
    exact ((Blk.new W2 _ _).alloc _).alloc _
  have b4 : Blk W5 (w.heap.size + 3) 5 #[.int .u8 106] := by
    rw [← s3, ← hW5, ← hW4]
    exact (Blk.new W3 _ _).alloc _
  have b5 : Blk W5 (w.heap.size + 4) 49 #[.int .i64 5, .slice (some ⟨w.heap.size + 1 + 1 + 1, 0, none⟩) 1 1] := by
    rw [← s4, ← hW5]
    exact Blk.new W4 _ _
  have hb : Below w.heap.size w W5 := by
    rw [← hW5, ← hW4, ← hW3, ← hW2, ← hW1]
    exact (((((Below.refl _ w).alloc (Nat.le_refl _) _).alloc (by simp) _).alloc (by simp; omega) _).alloc (by simp; omega) _).alloc (by simp; omega) _
  refine bodyPost_ret (results_cell_at rfl _ _ w.heap.size [.int .u32 1, .slice (some ⟨w.heap.size + 1 + 1, 0, none⟩) 1 1, .slice (some ⟨w.heap.size + 1 + 1 + 1 + 1, 0, none⟩) 1 1, .int .u32 0] _ rfl (cells_of_blk b1) Try.underlying26 rfl txinfo26) rfl ⟨_, rfl, ?_, hb⟩
  refine ⟨.slice (some ⟨w.heap.size + 1 + 1, 0, none⟩) 1 1, .slice (some ⟨w.heap.size + 1 + 1 + 1 + 1, 0, none⟩) 1 1, rfl, by unfold Lt32 someTx; decide, by unfold Lt32 someTx; decide, ?_, ?_⟩
  · refine ⟨_, 1, rfl, Nat.le_refl _, by simp [maxLen], fun _ => ⟨_, _, rfl, by omega, fun k x hx => ?_⟩⟩
    have hk : k = 0 := by
      rcases k with _ | k
      · rfl
      · simp [someTx] at hx
    subst hk
    have hx' : x = someIn := by simpa [someTx] using hx.symm
    subst hx'
    refine ⟨.slice (some ⟨w.heap.size + 1, 0, none⟩) 1 1, byt_blk b2 _ (by omega) [42] (by simp [maxLen]) rfl, by simp [someIn], by unfold Lt32 someIn; decide, by unfold Lt32 someIn; decide, fun j u hu => ?_⟩
    rw [hca] at hu
    simpa using cells_of_blk b3 j u hu
  · refine ⟨_, 1, rfl, Nat.le_refl _, by simp [maxLen], fun _ => ⟨_, _, rfl, by omega, fun k x hx => ?_⟩⟩
    have hk : k = 0 := by
      rcases k with _ | k
      · rfl
      · simp [someTx] at hx
    subst hk
    have hx' : x = someOut := by simpa [someTx] using hx.symm
    subst hx'
    exact ⟨.slice (some ⟨w.heap.size + 1 + 1 + 1, 0, none⟩) 1 1, byt_blk b4 _ (by omega) [106] (by simp [maxLen]) rfl, by unfold Int64 someOut; decide, by simpa [someOut] using b5.cell 0, by simpa using b5.cell 1⟩
end Go.Proofs.Ytcilabemglbhbaa
