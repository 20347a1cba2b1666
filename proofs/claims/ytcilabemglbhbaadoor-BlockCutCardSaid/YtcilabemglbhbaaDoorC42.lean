/- block.about: a hash, turned about (slices.Reverse). -/
import Derived.Test.YtcilabemglbhbaaDoorC5
import Derived.Test.YtcilabemglbhbaaDoorC15
import Derived.Test.YtcilabemglbhbaaDoorC4
import Derived.Test.YtcilabemglbhbaaDoorC41
import Derived.Test.YtcilabemglbhbaaDoorC22
namespace Go.Proofs.YtcilabemglbhbaaDoor
open Go Go.RowKit Go.Pur

/-- the 32 bytes of cs are those of l, the first k and the last k turned about. -/
def RevAt (cs : Array Value) (l : Bytes) (k : Nat) : Prop := cs.size = 32 ∧ ∀ j, j < 32 → cs[j]? = some (bv (l.getD (if j < k ∨ 32 - k ≤ j then 31 - j else j) 0))
theorem RevAt.begin_ (l : Bytes) (h : l.length = 32) : RevAt (bvs l).toArray l 0 := by
  refine ⟨by simp [bvs_length, h], fun j hj => ?_⟩
  rw [if_neg (by omega)]
  simp [bvs, List.getD_eq_getElem?_getD, List.getElem?_eq_getElem (show j < l.length by omega)]
theorem RevAt.end_ {cs : Array Value} {l : Bytes} (h : RevAt cs l 16) (hl : l.length = 32) : cs = (bvs l.reverse).toArray := by
  apply Array.ext_getElem?
  intro j
  by_cases hj : j < 32
  · rw [h.2 j hj, if_pos (by omega)]
    simp only [List.getElem?_toArray, bvs, List.getElem?_map]
    rw [List.getElem?_reverse (by omega), List.getD_eq_getElem?_getD, hl]
    rw [show 32 - 1 - j = 31 - j by omega, List.getElem?_eq_getElem (show 31 - j < l.length by omega)]
    rfl
  · rw [Array.getElem?_eq_none (by have := h.1; omega), Array.getElem?_eq_none (by simp [bvs_length, hl]; omega)]
theorem RevAt.step {cs : Array Value} {l : Bytes} {k : Nat} (h : RevAt cs l k) (hk : k < 16) :
    RevAt ((cs.setIfInBounds k (bv (l.getD (31 - k) 0))).setIfInBounds (31 - k) (bv (l.getD k 0))) l (k + 1) := by
  refine ⟨by simp [h.1], fun j hj => ?_⟩
  by_cases h1 : j = 31 - k
  · subst h1
    rw [Array.getElem?_setIfInBounds_self_of_lt (by simp [h.1]; omega), if_pos (by omega), show 31 - (31 - k) = k by omega]
  · rw [Array.getElem?_setIfInBounds_ne (Ne.symm h1)]
    by_cases h2 : j = k
    · subst h2
      rw [Array.getElem?_setIfInBounds_self_of_lt (by rw [h.1]; omega), if_pos (by omega)]
    · rw [Array.getElem?_setIfInBounds_ne (Ne.symm h2), h.2 j hj]
      by_cases h3 : j < k ∨ 32 - k ≤ j
      · rw [if_pos h3, if_pos (by omega)]
      · rw [if_neg h3, if_neg (by omega)]
set_option maxRecDepth 100000 in
set_option maxHeartbeats 1600000 in
theorem reverse_any (g : Nat) (t : TypeId) (l : Bytes) (w : World) (hl : l.length = 32) (hb : Blk w g t (bvs l).toArray) :
    Calls Tryd.prog 60 #[.slice (some ⟨g, 0, none⟩) 32 32] w fun e w' => e = .returned (.tuple #[]) ∧ Blk w' g t (bvs l.reverse).toArray ∧ Upd g none w w' none := by
  go_enter Tryd.func60, Tryd.ntmps60
  go_wp2_with fail
  go_loopw [2, 3] (fun i j wr => ∃ (k m : Nat) (cs : Array Value), k ≤ 16 ∧ k + m = 31 ∧ i = .int .i64 (k : Int) ∧ j = .int .i64 (m : Int) ∧ Blk wr g t cs ∧ RevAt cs l k ∧ Upd g none w wr none) (fun i _ _ => 16 - (intOf i).toNat)
  case atStart => exact ⟨0, 31, _, by omega, rfl, rfl, rfl, hb, RevAt.begin_ l hl, Upd.refl _ _ _⟩
  case round =>
    obtain ⟨k, m, cs, hk, hkm, rfl, rfl, hbk, hr, hu⟩ := hrel
    have hm : 31 - k = m := by omega
    by_cases hlt : k < 16
    · have d1 := (hbk.cell k).trans (hr.2 k (by omega))
      have d2 := (hbk.cell m).trans (hr.2 m (by omega))
      rw [if_neg (by omega)] at d1 d2
      have hst := hr.step hlt
      rw [hm] at hst
      generalize l.getD k 0 = x at *
      generalize l.getD m 0 = y at *
      unfold bv at d1 d2
      have f1 := hbk.frozen k
      have f2 := hbk.frozen m
      have f3 := (hbk.set_ k (bv y)).frozen m
      unfold bv at f3
      have hne : m ≠ k := by omega
      have k1 : k < m := by omega
      have hst' := Lib.hid hst
      clear hst hr hm hl
      go_wp2_with fail
      go_region_with fail
      all_goals
        go_wp2_with fail
        go_roundw
        case rel => exact ⟨k + 1, m - 1, _, by omega, by omega, by go_num, by go_num, ((hbk.set_ k _).set_ m _).drew, hst'.out, ((hu.setCell k _).setCell m _).drew⟩
        case measure => simp [intOf]; omega
    · have hk16 : k = 16 := by omega
      subst hk16
      have hm15 : m = 15 := by omega
      subst hm15
      have e := hr.end_ hl
      subst e
      have hl' := Lib.hid hl
      clear hr hl
      simp only [Int.cast_ofNat_Int] at *
      go_wp2_with fail
      go_end0
      exact ⟨rfl, hbk, hu⟩

theorem hash_one (l : Bytes) : (bvs l).toArray.all (·.oneCell') = true := by
  rw [Array.all_eq_true_iff_forall_mem]
  intro u hu
  exact bvs_one _ u (by simpa using hu)
set_option maxRecDepth 100000 in
set_option maxHeartbeats 1600000 in
theorem about_any (l : Bytes) (w : World) (hl : l.length = 32) :
    Calls Tryd.prog 29 #[.agg (bvs l).toArray] w fun e w' => e = .returned (.agg (bvs l.reverse).toArray) ∧ Below w.heap.size w w' := by
  obtain ⟨W1, hW1⟩ : ∃ W1, W1 = (w.alloc (.cells (bvs l).toArray 24)).alloc (.cells zero32 24) := ⟨_, rfl⟩
  have hz : (#[.int .u8 0, .int .u8 0, .int .u8 0, .int .u8 0, .int .u8 0, .int .u8 0, .int .u8 0, .int .u8 0, .int .u8 0, .int .u8 0, .int .u8 0, .int .u8 0, .int .u8 0, .int .u8 0, .int .u8 0, .int .u8 0, .int .u8 0, .int .u8 0, .int .u8 0, .int .u8 0, .int .u8 0, .int .u8 0, .int .u8 0, .int .u8 0, .int .u8 0, .int .u8 0, .int .u8 0, .int .u8 0, .int .u8 0, .int .u8 0, .int .u8 0, .int .u8 0] : Array Value) = zero32 := rfl
  have hr1 : Blk W1 (w.heap.size + 1) 24 zero32 := by
    have := Blk.new (w.alloc (.cells (bvs l).toArray 24)) 24 zero32
    rw [hW1]
    simpa using this
  have hx1 : Blk W1 w.heap.size 24 (bvs l).toArray := by rw [hW1]; exact (Blk.new w _ _).alloc _
  have hb1 : Below w.heap.size w W1 := by rw [hW1]; exact ((Below.refl _ _).alloc (Nat.le_refl _) _).alloc (by simp) _
  have hs1 := hr1.lt
  go_enter Tryd.func29, Tryd.ntmps29
  go_wp2_with fail
  rw [← hW1]
  clear hW1 hz
  refine (reverse_any w.heap.size _ l W1 hl hx1).mono ?_
  rintro e w2 ⟨rfl, hx2, hu2⟩
  have hr2 := hu2.blk hr1 (by omega) (by simp)
  have hb2 : Below w.heap.size w w2 := hb1.trans (hu2.below (by omega) (Nat.le_refl _) (by simp))
  have hcells : ∀ j u, (bvs l.reverse)[j]? = some u → w2.cell? ⟨w.heap.size, 0 + j, none⟩ = some u := fun j u hu => by
    rw [Nat.zero_add, hx2.cell j]; simpa using hu
  have hlen : Hid ((bvs l.reverse).length = 32) := Lib.hid (by rw [bvs_length, List.length_reverse, hl])
  have hone := hash_one l.reverse
  clear hl hx1 hr1 hu2 hb1
  generalize hH : bvs l.reverse = H at *
  have hH' := Lib.hid hH
  clear hH
  have tok1 : True := trivial
  have tok2 : True := trivial
  go_wp2_with (first
    | (have _t := tok1; refine wpList_load_at rfl 24 (.tmp 1) rfl w.heap.size 0 rfl H _ hcells Tryd.underlying24 rfl (by rw [hashinfo, hlen.out]) ?_; clear tok1)
    | (have _t := tok2; refine wpList_store_row rfl 24 (.tmp 2) (.tmp 5) rfl (w.heap.size + 1) H.toArray rfl rfl _ _ hr2 (by rw [hashinfo]; simp [hlen.out]) (by simp [hlen.out, zero32, bvs]) hone ?_; clear tok2))
  (try simp only [Exit.inBlock, Exit.then])
  refine bodyPost_ret (results_cell_at rfl _ _ (w.heap.size + 1) H _ rfl (cells_of_blk (setRow_blk hr2)) Tryd.underlying24 rfl (by rw [hashinfo, hlen.out])) rfl ⟨by rw [← hH'.out], setRow_below hb2 (by omega)⟩
end Go.Proofs.YtcilabemglbhbaaDoor

/- block.Show: a hash's digits. -/
namespace Go.Proofs.YtcilabemglbhbaaDoor
open Go Go.RowKit Go.Pur

def hexL : Bytes := [48, 49, 50, 51, 52, 53, 54, 55, 56, 57, 97, 98, 99, 100, 101, 102]
def hexD (n : Nat) : UInt8 := hexL.getD n 0
def showC (c : UInt8) : Bytes := [hexD (c.toNat / 16), hexD (c.toNat % 16)]
def showB (l : Bytes) : Bytes := l.flatMap showC
theorem showB_snoc (l : Bytes) (k : Nat) (hk : k < l.length) : showB (l.take (k + 1)) = (showB (l.take k) ++ [hexD ((l.getD k 0).toNat / 16)]) ++ [hexD ((l.getD k 0).toNat % 16)] := by
  have e : l.getD k 0 = l[k] := by rw [List.getD_eq_getElem?_getD, List.getElem?_eq_getElem hk]; rfl
  rw [e, List.take_succ_eq_append_getElem hk, showB, List.flatMap_append]
  simp only [List.flatMap_cons, List.flatMap_nil, List.append_nil, List.append_assoc]
  rfl
theorem showB_length (l : Bytes) : (showB l).length = 2 * l.length := by
  induction l with
  | nil => rfl
  | cons c l ih => simp [showB, showC] at ih ⊢; omega
theorem run_index_hash (l : Bytes) (k : Nat) (hl : l.length = 32) (hk : k < 32) (w : World) :
    (Instr.index 24 (.agg (bvs l).toArray) (.int .i64 (k : Int))).run Tryd.prog w = .ok (bv (l.getD k 0)) w := by
  have hc : (bvs l).toArray[k * 1]? = some (bv (l.getD k 0)) := by
    simp [bvs, List.getD_eq_getElem?_getD, List.getElem?_eq_getElem (show k < l.length by omega)]
  have hp := run_part_int (P := Tryd.prog) (w := w) 5 .u8 (bvs l).toArray (k * 1) (bv (l.getD k 0)) Tryd.underlying5 hc
  have hi : (0 : Int) ≤ (k : Int) ∧ (k : Int) < ((32 : Nat) : Int) := by omega
  simp only [Instr.index, asIntOf, Sem.run_bind, Sem.run_pure, Result.andThen_ok, run_underlying Tryd.underlying24, if_pos hi, sizeU8]
  exact hp
theorem hexE (n : Nat) (h : n < 16) (hh : n < (⟨#[48, 49, 50, 51, 52, 53, 54, 55, 56, 57, 97, 98, 99, 100, 101, 102]⟩ : ByteArray).size) : (⟨#[48, 49, 50, 51, 52, 53, 54, 55, 56, 57, 97, 98, 99, 100, 101, 102]⟩ : ByteArray)[n]'hh = hexD n := by
  match n, h with
  | 0, _ => rfl
  | 1, _ => rfl
  | 2, _ => rfl
  | 3, _ => rfl
  | 4, _ => rfl
  | 5, _ => rfl
  | 6, _ => rfl
  | 7, _ => rfl
  | 8, _ => rfl
  | 9, _ => rfl
  | 10, _ => rfl
  | 11, _ => rfl
  | 12, _ => rfl
  | 13, _ => rfl
  | 14, _ => rfl
  | 15, _ => rfl
  | n + 16, h => exact absurd h (by omega)
set_option maxRecDepth 100000 in
set_option maxHeartbeats 1600000 in
theorem show_any (l : Bytes) (w : World) (hl : l.length = 32) :
    Calls Tryd.prog 16 #[.agg (bvs l).toArray] w fun e w' => e = .returned (.string (strB (showB l.reverse))) ∧ Below w.heap.size w w' := by
  obtain ⟨W1, hW1⟩ : ∃ W1, W1 = (w.alloc (.cells (bvs l).toArray 24)).alloc (.cells #[.pointer none, .slice none 0 0] 82) := ⟨_, rfl⟩
  have hx1 : Blk W1 w.heap.size 24 (bvs l).toArray := by rw [hW1]; exact (Blk.new w _ _).alloc _
  have hB1 : BldAt W1 (w.heap.size + 1) none [] := by
    have := BldAt.new (w.alloc (.cells (bvs l).toArray 24))
    rw [hW1]
    simpa using this
  have hb1 : Below w.heap.size w W1 := by rw [hW1]; exact ((Below.refl _ _).alloc (Nat.le_refl _) _).alloc (by simp) _
  have hcells : ∀ j u, (bvs l)[j]? = some u → ((w.alloc (.cells (bvs l).toArray 24)).alloc (.cells #[.pointer none, .slice none 0 0] 82)).cell? ⟨w.heap.size, 0 + j, none⟩ = some u := fun j u hu => by
    rw [← hW1, Nat.zero_add, hx1.cell j]; simpa using hu
  have hlen : Hid ((bvs l).length = 32) := Lib.hid (by rw [bvs_length, hl])
  have tok1 : True := trivial
  go_enter Tryd.func16, Tryd.ntmps16
  go_wp2_with (have _t := tok1; refine wpList_load_at rfl 24 (.tmp 1) rfl w.heap.size 0 rfl (bvs l) _ hcells Tryd.underlying24 rfl (by rw [hashinfo, hlen.out]) ?_; clear tok1)
  rw [← hW1]
  clear hcells hW1 hx1
  refine (about_any l W1 hl).mono ?_
  rintro e w2 ⟨rfl, hb2⟩
  have hr : l.reverse.length = 32 := by rw [List.length_reverse, hl]
  have hB2 : BldAt w2 (w.heap.size + 1) none [] := by
    obtain ⟨p, v, h1, h2, h3, h4⟩ := hB1
    exact ⟨p, v, h1, h2.below hb2 h2.lt, own_below h3 hb2, h4⟩
  have hb02 := hb1.trans (hb2.mono hb1.size)
  have hs2 := hB2.lt.1
  generalize hrv : l.reverse = r at *
  have hrv' := Lib.hid hrv
  clear hrv
  clear hlen hl
  go_wp2_with fail
  go_loopw [8] (fun i wr => ∃ (k : Nat) (q : Option Nat), k ≤ 32 ∧ i = .int .i64 (k : Int) ∧ BldAt wr (w.heap.size + 1) q (showB (r.take k)) ∧ Upd (w.heap.size + 1) none w2 wr q) (fun i _ => 32 - (intOf i).toNat)
  case atStart => exact ⟨0, none, by omega, rfl, by simpa [showB] using hB2, Upd.refl _ _ _⟩
  case round =>
    obtain ⟨k, q, hk, rfl, hB, hu⟩ := hrel
    by_cases hlt : k < 32
    · have hix := fun w => run_index_hash r k hr hlt w
      have hsn := showB_snoc r k (by omega)
      have hln : (showB (r.take k)).length ≤ 100 := by rw [showB_length, List.length_take]; omega
      generalize r.getD k 0 = c at *
      generalize showB (r.take k) = L at *
      have hc := c.toNat_lt
      have hsn' := Lib.hid hsn
      clear hsn
      unfold bv at hix
      go_wp2_with fail
      refine (writeByte_any (w.heap.size + 1) q L _ wr (by omega) hB).mono ?_
      rintro e w5 ⟨rfl, q5, hB5, hu5⟩
      rw [hexE (c.toNat / 16) (by omega)] at hB5
      go_wp2_with fail
      refine (writeByte_any (w.heap.size + 1) q5 _ _ w5 (by simp; omega) hB5).mono ?_
      rintro e w6 ⟨rfl, q6, hB6, hu6⟩
      rw [hexE (c.toNat % 16) (by omega), ← hsn'.out] at hB6
      go_wp2_with fail
      go_roundw
      case rel => exact ⟨k + 1, q6, by omega, by go_num, hB6, (hu.trans hu5).trans hu6⟩
      case measure => simp [intOf]; omega
    · have hk32 : k = 32 := by omega
      subst hk32
      have ht : r.take 32 = r := List.take_of_length_le (by omega)
      rw [ht] at hB
      simp only [Int.cast_ofNat_Int] at *
      have hqb : ∀ k, q = some k → w.heap.size + 1 ≤ k := by
        rcases hu.fresh with e | ⟨j, e, hj⟩
        · rw [e]; simp
        · rw [e]; intro k hk; injection hk with hk; omega
      clear ht
      go_wp2_with fail
      refine (string_any (w.heap.size + 1) q _ wr hB hqb).mono ?_
      rintro e w5 ⟨rfl, hb5⟩
      go_wp2_with fail
      go_ret
      exact ⟨by rw [hrv'.out]; rfl, (hb02.trans (hu.below (by omega) (by omega) (by simp))).trans (hb5.mono (by omega))⟩
end Go.Proofs.YtcilabemglbhbaaDoor
