/- block.Show: a hash's digits. -/
import Derived.Test.YtcilabemglbhbaaGreatDoorK44
import Derived.Test.YtcilabemglbhbaaGreatDoorK21
namespace Go.Proofs.YtcilabemglbhbaaGreatDoor
open Go Go.RowKit Go.Pur

def hexL : Bytes := [48, 49, 50, 51, 52, 53, 54, 55, 56, 57, 97, 98, 99, 100, 101, 102]
def hexD (n : Nat) : UInt8 := hexL.getD n 0
def showC (c : UInt8) : Bytes := [hexD (c.toNat / 16), hexD (c.toNat % 16)]
def showB (l : Bytes) : Bytes := l.flatMap showC
theorem showB_snoc (l : Bytes) (k : Nat) (hk : k < l.length) : showB (l.take (k + 1)) = (showB (l.take k) ++ [hexD ((l.getD k 0).toNat / 16)]) ++ [hexD ((l.getD k 0).toNat % 16)] := by
  have e : l.getD k 0 = l[k] := by rw [List.getD_eq_getElem?_getD, List.getElem?_eq_getElem hk]; rfl
  rw [e, List.take_succ_eq_append_getElem hk, showB, List.flatMap_append]
  simp only [List.flatMap_cons, List.flatMap_nil, List.append_nil, List.append_assoc]
  rfl
theorem showB_length (l : Bytes) : (showB l).length = 2 * l.length := by
  induction l with
  | nil => rfl
  | cons c l ih => simp [showB, showC] at ih ⊢; omega
theorem run_index_hash (l : Bytes) (k : Nat) (hl : l.length = 32) (hk : k < 32) (w : World) :
    (Instr.index 24 (.agg (bvs l).toArray) (.int .i64 (k : Int))).run Tryz.prog w = .ok (bv (l.getD k 0)) w := by
  have hc : (bvs l).toArray[k * 1]? = some (bv (l.getD k 0)) := by
    simp [bvs, List.getD_eq_getElem?_getD, List.getElem?_eq_getElem (show k < l.length by omega)]
  have hp := run_part_int (P := Tryz.prog) (w := w) 5 .u8 (bvs l).toArray (k * 1) (bv (l.getD k 0)) Tryz.underlying5 hc
  have hi : (0 : Int) ≤ (k : Int) ∧ (k : Int) < ((32 : Nat) : Int) := by omega
  simp only [Instr.index, asIntOf, Sem.run_bind, Sem.run_pure, Result.andThen_ok, run_underlying Tryz.underlying24, if_pos hi, sizeU8]
  exact hp
theorem hexE (n : Nat) (h : n < 16) (hh : n < (⟨#[48, 49, 50, 51, 52, 53, 54, 55, 56, 57, 97, 98, 99, 100, 101, 102]⟩ : ByteArray).size) : (⟨#[48, 49, 50, 51, 52, 53, 54, 55, 56, 57, 97, 98, 99, 100, 101, 102]⟩ : ByteArray)[n]'hh = hexD n := by
  match n, h with
  | 0, _ => rfl
  | 1, _ => rfl
  | 2, _ => rfl
  | 3, _ => rfl
  | 4, _ => rfl
  | 5, _ => rfl
  | 6, _ => rfl
  | 7, _ => rfl
  | 8, _ => rfl
  | 9, _ => rfl
  | 10, _ => rfl
  | 11, _ => rfl
  | 12, _ => rfl
  | 13, _ => rfl
  | 14, _ => rfl
  | 15, _ => rfl
  | n + 16, h => exact absurd h (by omega)
set_option maxRecDepth 100000 in
set_option maxHeartbeats 1600000 in
theorem show_any (l : Bytes) (w : World) (hl : l.length = 32) :
    Calls Tryz.prog 9 #[.agg (bvs l).toArray] w fun e w' => e = .returned (.string (strB (showB l.reverse))) ∧ Below w.heap.size w w' := by
  obtain ⟨W1, hW1⟩ : ∃ W1, W1 = (w.alloc (.cells (bvs l).toArray 24)).alloc (.cells #[.pointer none, .slice none 0 0] 69) := ⟨_, rfl⟩
  have hx1 : Blk W1 w.heap.size 24 (bvs l).toArray := by rw [hW1]; exact (Blk.new w _ _).alloc _
  have hB1 : BldAt W1 (w.heap.size + 1) none [] := by
    have := BldAt.new (w.alloc (.cells (bvs l).toArray 24))
    rw [hW1]
    simpa using this
  have hb1 : Below w.heap.size w W1 := by rw [hW1]; exact ((Below.refl _ _).alloc (Nat.le_refl _) _).alloc (by simp) _
  have hcells : ∀ j u, (bvs l)[j]? = some u → ((w.alloc (.cells (bvs l).toArray 24)).alloc (.cells #[.pointer none, .slice none 0 0] 69)).cell? ⟨w.heap.size, 0 + j, none⟩ = some u := fun j u hu => by
    rw [← hW1, Nat.zero_add, hx1.cell j]; simpa using hu
  have hlen : Hid ((bvs l).length = 32) := Lib.hid (by rw [bvs_length, hl])
  have tok1 : True := trivial
  go_enter Tryz.func9, Tryz.ntmps9
  go_wp2_with (have _t := tok1; refine wpList_load_at rfl 24 (.tmp 1) rfl w.heap.size 0 rfl (bvs l) _ hcells Tryz.underlying24 rfl (by rw [hashinfo, hlen.out]) ?_; clear tok1)
  rw [← hW1]
  clear hcells hW1 hx1
  refine (about_any l W1 hl).mono ?_
  rintro e w2 ⟨rfl, hb2⟩
  have hr : l.reverse.length = 32 := by rw [List.length_reverse, hl]
  have hB2 : BldAt w2 (w.heap.size + 1) none [] := by
    obtain ⟨p, v, h1, h2, h3, h4⟩ := hB1
    exact ⟨p, v, h1, h2.below hb2 h2.lt, own_below h3 hb2, h4⟩
  have hb02 := hb1.trans (hb2.mono hb1.size)
  have hs2 := hB2.lt.1
  generalize hrv : l.reverse = r at *
  have hrv' := Lib.hid hrv
  clear hrv
  clear hlen hl
  go_wp2_with fail
  go_loopw [8] (fun i wr => ∃ (k : Nat) (q : Option Nat), k ≤ 32 ∧ i = .int .i64 (k : Int) ∧ BldAt wr (w.heap.size + 1) q (showB (r.take k)) ∧ Upd (w.heap.size + 1) none w2 wr q) (fun i _ => 32 - (intOf i).toNat)
  case atStart => exact ⟨0, none, by omega, rfl, by simpa [showB] using hB2, Upd.refl _ _ _⟩
  case round =>
    obtain ⟨k, q, hk, rfl, hB, hu⟩ := hrel
    by_cases hlt : k < 32
    · have hix := fun w => run_index_hash r k hr hlt w
      have hsn := showB_snoc r k (by omega)
      have hln : (showB (r.take k)).length ≤ 100 := by rw [showB_length, List.length_take]; omega
      generalize r.getD k 0 = c at *
      generalize showB (r.take k) = L at *
      have hc := c.toNat_lt
      have hsn' := Lib.hid hsn
      clear hsn
      unfold bv at hix
      go_wp2_with fail
      refine (writeByte_any (w.heap.size + 1) q L _ wr (by omega) hB).mono ?_
      rintro e w5 ⟨rfl, q5, hB5, hu5⟩
      rw [hexE (c.toNat / 16) (by omega)] at hB5
      go_wp2_with fail
      refine (writeByte_any (w.heap.size + 1) q5 _ _ w5 (by simp; omega) hB5).mono ?_
      rintro e w6 ⟨rfl, q6, hB6, hu6⟩
      rw [hexE (c.toNat % 16) (by omega), ← hsn'.out] at hB6
      go_wp2_with fail
      go_roundw
      case rel => exact ⟨k + 1, q6, by omega, by go_num, hB6, (hu.trans hu5).trans hu6⟩
      case measure => simp [intOf]; omega
    · have hk32 : k = 32 := by omega
      subst hk32
      have ht : r.take 32 = r := List.take_of_length_le (by omega)
      rw [ht] at hB
      simp only [Int.cast_ofNat_Int] at *
      have hqb : ∀ k, q = some k → w.heap.size + 1 ≤ k := by
        rcases hu.fresh with e | ⟨j, e, hj⟩
        · rw [e]; simp
        · rw [e]; intro k hk; injection hk with hk; omega
      clear ht
      go_wp2_with fail
      refine (string_any (w.heap.size + 1) q _ wr hB hqb).mono ?_
      rintro e w5 ⟨rfl, hb5⟩
      go_wp2_with fail
      go_ret
      exact ⟨by rw [hrv'.out]; rfl, (hb02.trans (hu.below (by omega) (by omega) (by simp))).trans (hb5.mono (by omega))⟩
end Go.Proofs.YtcilabemglbhbaaGreatDoor

/- block.Read: digits' hash. -/
namespace Go.Proofs.YtcilabemglbhbaaGreatDoor
open Go Go.RowKit Go.Pur

def isHex (c : UInt8) : Bool := hexL.contains c
def hexV (c : UInt8) : Nat := (Lib.indexByte hexL c).toNat
theorem hex_cases {c : UInt8} (h : isHex c = true) : c = 48 ∨ c = 49 ∨ c = 50 ∨ c = 51 ∨ c = 52 ∨ c = 53 ∨ c = 54 ∨ c = 55 ∨ c = 56 ∨ c = 57 ∨ c = 97 ∨ c = 98 ∨ c = 99 ∨ c = 100 ∨ c = 101 ∨ c = 102 := by
  have : c ∈ hexL := by simpa [isHex] using h
  simpa [hexL] using this
theorem hexV_of {c : UInt8} (h : isHex c = true) : Lib.indexByte hexL c = (hexV c : Int) ∧ hexV c < 16 := by
  rcases hex_cases h with rfl | rfl | rfl | rfl | rfl | rfl | rfl | rfl | rfl | rfl | rfl | rfl | rfl | rfl | rfl | rfl
  all_goals decide
def nib (l : Bytes) (k : Nat) : UInt8 := UInt8.ofNat (hexV (l.getD (2 * k) 0) * 16 + hexV (l.getD (2 * k + 1) 0))
def rdL (l : Bytes) (k : Nat) : Bytes := (List.range k).map (nib l) ++ List.replicate (32 - k) 0
def readB (l : Bytes) : Bytes := (rdL l 32).reverse
theorem rdL_length (l : Bytes) (k : Nat) (hk : k ≤ 32) : (rdL l k).length = 32 := by simp [rdL]; omega
theorem rdL_set (l : Bytes) (k : Nat) (hk : k < 32) : (bvs (rdL l k)).toArray.setIfInBounds k (bv (nib l k)) = (bvs (rdL l (k + 1))).toArray := by
  have e : 32 - k = (32 - (k + 1)) + 1 := by omega
  apply Array.ext'
  simp only [rdL, bvs_append, List.range_succ, List.map_append, e, List.replicate_succ, List.map_cons, List.map_nil]
  have h1 : (bvs ((List.range k).map (nib l))).length = k := by simp [bvs]
  rw [Array.toList_setIfInBounds, List.set_append_right _ _ (by simp [bvs])]
  simp [bvs]
theorem nib_or (a b : Nat) (ha : a < 16) (hb : b < 16) : bits .or .i64 ((a : Int) * 16) (b : Int) = ((a * 16 + b : Nat) : Int) := by
  have h : ∀ a : Fin 16, ∀ b : Fin 16, bits .or .i64 ((a.val : Int) * 16) (b.val : Int) = ((a.val * 16 + b.val : Nat) : Int) := by decide +kernel
  exact h ⟨a, ha⟩ ⟨b, hb⟩
theorem dropWhile_all {α : Type} (p : α → Bool) : ∀ l : List α, (∀ c ∈ l, p c = true) → l.dropWhile p = []
  | [], _ => rfl
  | c :: l, h => by rw [List.dropWhile_cons_of_pos (h c (by simp))]; exact dropWhile_all p l (fun x hx => h x (by simp [hx]))
theorem trim_hex (l : Bytes) (h : ∀ c ∈ l, isHex c = true) : Lib.trimS l hexL = [] := by
  have h1 : Lib.trimRightS l hexL = [] := by
    unfold Lib.trimRightS
    rw [dropWhile_all (hexL.contains ·) _ (fun c hc => h c (by simpa using hc))]
    rfl
  unfold Lib.trimS
  rw [h1]
  rfl
theorem hexL_ascii (j : Nat) (b : UInt8) (h : hexL[j]? = some b) : b.toNat < 128 := by
  have hm := List.mem_of_getElem? h
  have : ∀ c ∈ hexL, c.toNat < 128 := by decide
  exact this b hm
theorem strB_at (l : Bytes) (i : Nat) (h : i < (strB l).size) : (strB l)[i] = l.getD i 0 := by
  have h' : i < l.length := h
  rw [List.getD_eq_getElem?_getD, List.getElem?_eq_getElem h']
  rfl
set_option maxRecDepth 100000 in
set_option maxHeartbeats 1600000 in
theorem read_any (l : Bytes) (w : World) (hl : l.length = 64) (hx : ∀ c ∈ l, isHex c = true) :
    Calls Tryz.prog 8 #[.string (strB l)] w fun e w' => e = .returned (.tuple #[.agg (bvs (readB l)).toArray, .int .i64 0]) ∧ Below w.heap.size w w' := by
  have hs : (strB l).size = 64 := hl
  have htr : ∀ W : World, Calls Tryz.prog 21 #[.string (strB l), .string ⟨#[48, 49, 50, 51, 52, 53, 54, 55, 56, 57, 97, 98, 99, 100, 101, 102]⟩] W fun e w' => e = .returned (.string ⟨#[]⟩) ∧ Below W.heap.size W w' := fun W =>
    (Tryz.strings_Trim (strB l) (strB hexL) W (by rw [hs]; omega) (by decide) hexL_ascii).mono fun e w' h => ⟨by
      have ht : Lib.trimS (strB l).data.toList (strB hexL).data.toList = [] := trim_hex l hx
      rw [h.1, ht], h.2⟩
  obtain ⟨W1, hW1⟩ : ∃ W1, W1 = (w.alloc (.cells zero32 24)).alloc (.cells zero32 24) := ⟨_, rfl⟩
  have hz : (#[.int .u8 0, .int .u8 0, .int .u8 0, .int .u8 0, .int .u8 0, .int .u8 0, .int .u8 0, .int .u8 0, .int .u8 0, .int .u8 0, .int .u8 0, .int .u8 0, .int .u8 0, .int .u8 0, .int .u8 0, .int .u8 0, .int .u8 0, .int .u8 0, .int .u8 0, .int .u8 0, .int .u8 0, .int .u8 0, .int .u8 0, .int .u8 0, .int .u8 0, .int .u8 0, .int .u8 0, .int .u8 0, .int .u8 0, .int .u8 0, .int .u8 0, .int .u8 0] : Array Value) = zero32 := rfl
  have hz1 : Blk W1 w.heap.size 24 zero32 := by rw [hW1]; exact (Blk.new w _ _).alloc _
  have hh1 : Blk W1 (w.heap.size + 1) 24 zero32 := by
    have := Blk.new (w.alloc (.cells zero32 24)) 24 zero32
    rw [hW1]
    simpa using this
  have hb1 : Below w.heap.size w W1 := by rw [hW1]; exact ((Below.refl _ _).alloc (Nat.le_refl _) _).alloc (by simp) _
  go_enter Tryz.func8, Tryz.ntmps8
  go_wp2_with fail
  rw [← hW1]
  refine (htr W1).mono ?_
  rintro e w2 ⟨rfl, hb2⟩
  have hz2 := hz1.below hb2 hz1.lt
  have hh2 := hh1.below hb2 hh1.lt
  have hb02 := hb1.trans (hb2.mono hb1.size)
  have hs1 := hh2.lt
  clear hW1 hz1 hh1 hb1 hb2 hz htr
  go_wp2_with fail
  go_loopw [15] (fun i wr => ∃ k : Nat, k ≤ 32 ∧ i = .int .i64 (k : Int) ∧ Blk wr (w.heap.size + 1) 24 (bvs (rdL l k)).toArray ∧ Upd (w.heap.size + 1) none w2 wr none) (fun i _ => 32 - (intOf i).toNat)
  case atStart => exact ⟨0, by omega, rfl, hh2, Upd.refl _ _ _⟩
  case round =>
    obtain ⟨k, hk, rfl, hhk, hu⟩ := hrel
    by_cases hlt : k < 32
    · have hset := rdL_set l k hlt
      have hck : (bvs (rdL l k)).toArray[k]? = some (bv ((rdL l k).getD k 0)) := by
        have := rdL_length l k hk
        simp [bvs, List.getD_eq_getElem?_getD, List.getElem?_eq_getElem (show k < (rdL l k).length by omega)]
      have d0 := (hhk.cell k).trans hck
      have f0 := hhk.frozen k
      have i0 := hx (l.getD (2 * k) 0) (by rw [List.getD_eq_getElem?_getD, List.getElem?_eq_getElem (show 2 * k < l.length by omega)]; exact List.getElem_mem _)
      have i1 := hx (l.getD (2 * k + 1) 0) (by rw [List.getD_eq_getElem?_getD, List.getElem?_eq_getElem (show 2 * k + 1 < l.length by omega)]; exact List.getElem_mem _)
      have e0 := strB_at l (2 * k) (by omega)
      have e1 := strB_at l (2 * k + 1) (by omega)
      have hnib : nib l k = UInt8.ofNat (hexV (l.getD (2 * k) 0) * 16 + hexV (l.getD (2 * k + 1) 0)) := rfl
      generalize l.getD (2 * k) 0 = ca at *
      generalize l.getD (2 * k + 1) 0 = cb at *
      obtain ⟨va, ha⟩ := hexV_of i0
      obtain ⟨vb, hb⟩ := hexV_of i1
      have hor := nib_or _ _ ha hb
      generalize hexV ca = na at *
      generalize hexV cb = nb at *
      have hm : na * 16 + nb < 256 := by omega
      generalize na * 16 + nb = m at *
      have wn : IntKind.i64.wrap ((na : Int) * 16) = (na : Int) * 16 := by rw [IntKind.wrap_i64]; omega
      have wm : IntKind.u8.wrap (m : Int) = (m : Int) := by rw [IntKind.wrap_u8]; omega
      have hset' := Lib.hid hset
      have hnib' := Lib.hid hnib
      have hl' := Lib.hid hl
      have va' := Lib.hid va
      have vb' := Lib.hid vb
      have w0 : IntKind.i64.wrap (2 * (k : Int)) = 2 * (k : Int) := by rw [IntKind.wrap_i64]; omega
      have w1 : IntKind.i64.wrap (2 * (k : Int) + 1) = 2 * (k : Int) + 1 := by rw [IntKind.wrap_i64]; omega
      have n0 : (2 * (k : Int)).toNat = 2 * k := by omega
      have n1 : (2 * (k : Int) + 1).toNat = 2 * k + 1 := by omega
      have p0 : (0 : Int) ≤ 2 * (k : Int) := by omega
      have p1 : (0 : Int) ≤ 2 * (k : Int) + 1 := by omega
      have l0 : 2 * (k : Int) < 64 := by omega
      have l1 : 2 * (k : Int) + 1 < 64 := by omega
      have hck' := Lib.hid hck
      clear hset hck hl hnib i0 i1 va vb hx
      go_wp2_with fail
      refine wp_region_tail 15 (by kernel_rfl) (by kernel_rfl) ?_
      intro W3 hW3
      simp only [List.take_succ_cons, List.take_zero, List.drop_succ_cons, List.drop_zero]
      have hh3 : Blk W3 (w.heap.size + 1) 24 (bvs (rdL l k)).toArray := by rw [hW3]; exact hhk.drew
      have hu3 : Upd (w.heap.size + 1) none w2 W3 none := by rw [hW3]; exact hu.drew
      have d3 := (hh3.cell k).trans hck'.out
      clear hW3 d0 f0
      have f3 := hh3.frozen k
      have hib : ∀ c : UInt8, Calls Tryz.prog 22 #[.string ⟨#[48, 49, 50, 51, 52, 53, 54, 55, 56, 57, 97, 98, 99, 100, 101, 102]⟩, .int .u8 (c.toNat : Int)] W3 fun e w' => e = .returned (.int .i64 (Lib.indexByte hexL c)) ∧ w' = W3 := fun c =>
        (Tryz.strings_IndexByte (strB hexL) (c.toNat : Int) W3).mono fun e w' h => ⟨by rw [h.1]; congr 2; show Lib.indexByte hexL _ = _; congr 1; simp, h.2⟩
      iterate 5 still_step
      still_call (hib ca)
      rw [va'.out]
      iterate 6 still_step
      still_call (hib cb)
      rw [vb'.out]
      iterate 2 still_step
      refine wpStill_nil ?_
      go_wp2_with fail
      go_roundw
      case rel =>
        refine ⟨k + 1, by omega, by go_num, ?_, hu3.setCell k _⟩
        have e2 : Value.int .u8 (m : Int) = bv (nib l k) := by rw [hnib'.out, bv_ofNat]; congr 1; omega
        rw [← hset'.out, ← e2]
        exact hh3.set_ k _
      case measure => simp [intOf]; omega
    · have hk32 : k = 32 := by omega
      subst hk32
      simp only [Int.cast_ofNat_Int] at *
      have hzk := hu.blk hz2 (by omega) (by simp)
      have hbk : Below w.heap.size w wr := hb02.trans (hu.below (by omega) (by omega) (by simp))
      have hll := rdL_length l 32 (Nat.le_refl _)
      have hrv : readB l = (rdL l 32).reverse := rfl
      generalize rdL l 32 = R at *
      have hcells : ∀ j u, (bvs R)[j]? = some u → wr.cell? ⟨w.heap.size + 1, 0 + j, none⟩ = some u := fun j u hu => by
        rw [Nat.zero_add, hhk.cell j]; simpa using hu
      have hlen : Hid ((bvs R).length = 32) := Lib.hid (by rw [bvs_length, hll])
      have hrv' := Lib.hid hrv
      clear hx hrv hz2 hh2
      have tok1 : True := trivial
      go_wp2_with (have _t := tok1; refine wpList_load_at rfl 24 (.tmp 4) rfl (w.heap.size + 1) 0 rfl (bvs R) _ hcells Tryz.underlying24 rfl (by rw [hashinfo, hlen.out]) ?_; clear tok1)
      refine (about_any R wr hll).mono ?_
      rintro e w5 ⟨rfl, hb5⟩
      have hz5 := hzk.below hb5 hzk.lt
      have hbf := hbk.trans (hb5.mono hbk.size)
      have hone := hash_one R.reverse
      have hlen2 : Hid ((bvs R.reverse).length = 32) := Lib.hid (by rw [bvs_length, List.length_reverse, hll])
      rw [← hrv'.out] at hone hlen2
      rw [← hrv'.out]
      clear hll hcells hzk hhk
      generalize hH : bvs (readB l) = H at *
      have hH' := Lib.hid hH
      clear hH
      have tok2 : True := trivial
      go_wp2_with (have _t := tok2; refine wpList_store_row rfl 24 (.tmp 2) (.tmp 36) rfl w.heap.size H.toArray rfl rfl _ _ hz5 (by rw [hashinfo]; simp [hlen2.out]) (by simp [hlen2.out, zero32, bvs]) hone ?_; clear tok2)
      (try simp only [Exit.inBlock, Exit.then])
      refine bodyPost_ret (results_cell_tmp_at rfl _ _ w.heap.size H _ rfl (cells_of_blk (setRow_blk hz5)) Tryz.underlying24 rfl (by rw [hashinfo, hlen2.out])) rfl ⟨by rw [hH'.out]; rfl, setRow_below hbf (Nat.le_refl _)⟩
end Go.Proofs.YtcilabemglbhbaaGreatDoor
