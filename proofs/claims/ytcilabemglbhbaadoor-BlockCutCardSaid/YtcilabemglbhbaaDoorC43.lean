/- block.Read: digits' hash. -/
import Derived.Test.YtcilabemglbhbaaDoorC42
namespace Go.Proofs.YtcilabemglbhbaaDoor
open Go Go.RowKit Go.Pur

def isHex (c : UInt8) : Bool := hexL.contains c
def hexV (c : UInt8) : Nat := (Lib.indexByte hexL c).toNat
theorem hex_cases {c : UInt8} (h : isHex c = true) : c = 48 ∨ c = 49 ∨ c = 50 ∨ c = 51 ∨ c = 52 ∨ c = 53 ∨ c = 54 ∨ c = 55 ∨ c = 56 ∨ c = 57 ∨ c = 97 ∨ c = 98 ∨ c = 99 ∨ c = 100 ∨ c = 101 ∨ c = 102 := by
  have : c ∈ hexL := by simpa [isHex] using h
  simpa [hexL] using this
theorem hexV_of {c : UInt8} (h : isHex c = true) : Lib.indexByte hexL c = (hexV c : Int) ∧ hexV c < 16 := by
  rcases hex_cases h with rfl | rfl | rfl | rfl | rfl | rfl | rfl | rfl | rfl | rfl | rfl | rfl | rfl | rfl | rfl | rfl
  all_goals decide
def nib (l : Bytes) (k : Nat) : UInt8 := UInt8.ofNat (hexV (l.getD (2 * k) 0) * 16 + hexV (l.getD (2 * k + 1) 0))
def rdL (l : Bytes) (k : Nat) : Bytes := (List.range k).map (nib l) ++ List.replicate (32 - k) 0
def readB (l : Bytes) : Bytes := (rdL l 32).reverse
theorem rdL_length (l : Bytes) (k : Nat) (hk : k ≤ 32) : (rdL l k).length = 32 := by simp [rdL]; omega
theorem rdL_set (l : Bytes) (k : Nat) (hk : k < 32) : (bvs (rdL l k)).toArray.setIfInBounds k (bv (nib l k)) = (bvs (rdL l (k + 1))).toArray := by
  have e : 32 - k = (32 - (k + 1)) + 1 := by omega
  apply Array.ext'
  simp only [rdL, bvs_append, List.range_succ, List.map_append, e, List.replicate_succ, List.map_cons, List.map_nil]
  have h1 : (bvs ((List.range k).map (nib l))).length = k := by simp [bvs]
  rw [Array.toList_setIfInBounds, List.set_append_right _ _ (by simp [bvs])]
  simp [bvs]
theorem nib_or (a b : Nat) (ha : a < 16) (hb : b < 16) : bits .or .i64 ((a : Int) * 16) (b : Int) = ((a * 16 + b : Nat) : Int) := by
  have h : ∀ a : Fin 16, ∀ b : Fin 16, bits .or .i64 ((a.val : Int) * 16) (b.val : Int) = ((a.val * 16 + b.val : Nat) : Int) := by decide +kernel
  exact h ⟨a, ha⟩ ⟨b, hb⟩
theorem dropWhile_all {α : Type} (p : α → Bool) : ∀ l : List α, (∀ c ∈ l, p c = true) → l.dropWhile p = []
  | [], _ => rfl
  | c :: l, h => by rw [List.dropWhile_cons_of_pos (h c (by simp))]; exact dropWhile_all p l (fun x hx => h x (by simp [hx]))
theorem trim_hex (l : Bytes) (h : ∀ c ∈ l, isHex c = true) : Lib.trimS l hexL = [] := by
  have h1 : Lib.trimRightS l hexL = [] := by
    unfold Lib.trimRightS
    rw [dropWhile_all (hexL.contains ·) _ (fun c hc => h c (by simpa using hc))]
    rfl
  unfold Lib.trimS
  rw [h1]
  rfl
theorem hexL_ascii (j : Nat) (b : UInt8) (h : hexL[j]? = some b) : b.toNat < 128 := by
  have hm := List.mem_of_getElem? h
  have : ∀ c ∈ hexL, c.toNat < 128 := by decide
  exact this b hm
theorem strB_at (l : Bytes) (i : Nat) (h : i < (strB l).size) : (strB l)[i] = l.getD i 0 := by
  have h' : i < l.length := h
  rw [List.getD_eq_getElem?_getD, List.getElem?_eq_getElem h']
  rfl
set_option maxRecDepth 100000 in
set_option maxHeartbeats 1600000 in
theorem read_any (l : Bytes) (w : World) (hl : l.length = 64) (hx : ∀ c ∈ l, isHex c = true) :
    Calls Tryd.prog 10 #[.string (strB l)] w fun e w' => e = .returned (.tuple #[.agg (bvs (readB l)).toArray, .int .i64 0]) ∧ Below w.heap.size w w' := by
  have hs : (strB l).size = 64 := hl
  have htr : ∀ W : World, Calls Tryd.prog 27 #[.string (strB l), .string ⟨#[48, 49, 50, 51, 52, 53, 54, 55, 56, 57, 97, 98, 99, 100, 101, 102]⟩] W fun e w' => e = .returned (.string ⟨#[]⟩) ∧ Below W.heap.size W w' := fun W =>
    (Tryd.strings_Trim (strB l) (strB hexL) W (by rw [hs]; omega) (by decide) hexL_ascii).mono fun e w' h => ⟨by
      have ht : Lib.trimS (strB l).data.toList (strB hexL).data.toList = [] := trim_hex l hx
      rw [h.1, ht], h.2⟩
  obtain ⟨W1, hW1⟩ : ∃ W1, W1 = (w.alloc (.cells zero32 24)).alloc (.cells zero32 24) := ⟨_, rfl⟩
  have hz : (#[.int .u8 0, .int .u8 0, .int .u8 0, .int .u8 0, .int .u8 0, .int .u8 0, .int .u8 0, .int .u8 0, .int .u8 0, .int .u8 0, .int .u8 0, .int .u8 0, .int .u8 0, .int .u8 0, .int .u8 0, .int .u8 0, .int .u8 0, .int .u8 0, .int .u8 0, .int .u8 0, .int .u8 0, .int .u8 0, .int .u8 0, .int .u8 0, .int .u8 0, .int .u8 0, .int .u8 0, .int .u8 0, .int .u8 0, .int .u8 0, .int .u8 0, .int .u8 0] : Array Value) = zero32 := rfl
  have hz1 : Blk W1 w.heap.size 24 zero32 := by rw [hW1]; exact (Blk.new w _ _).alloc _
  have hh1 : Blk W1 (w.heap.size + 1) 24 zero32 := by
    have := Blk.new (w.alloc (.cells zero32 24)) 24 zero32
    rw [hW1]
    simpa using this
  have hb1 : Below w.heap.size w W1 := by rw [hW1]; exact ((Below.refl _ _).alloc (Nat.le_refl _) _).alloc (by simp) _
  go_enter Tryd.func10, Tryd.ntmps10
  go_wp2_with fail
  rw [← hW1]
  refine (htr W1).mono ?_
  rintro e w2 ⟨rfl, hb2⟩
  have hz2 := hz1.below hb2 hz1.lt
  have hh2 := hh1.below hb2 hh1.lt
  have hb02 := hb1.trans (hb2.mono hb1.size)
  have hs1 := hh2.lt
  clear hW1 hz1 hh1 hb1 hb2 hz htr
  go_wp2_with fail
  go_loopw [15] (fun i wr => ∃ k : Nat, k ≤ 32 ∧ i = .int .i64 (k : Int) ∧ Blk wr (w.heap.size + 1) 24 (bvs (rdL l k)).toArray ∧ Upd (w.heap.size + 1) none w2 wr none) (fun i _ => 32 - (intOf i).toNat)
  case atStart => exact ⟨0, by omega, rfl, hh2, Upd.refl _ _ _⟩
  case round =>
    obtain ⟨k, hk, rfl, hhk, hu⟩ := hrel
    by_cases hlt : k < 32
    · have hset := rdL_set l k hlt
      have hck : (bvs (rdL l k)).toArray[k]? = some (bv ((rdL l k).getD k 0)) := by
        have := rdL_length l k hk
        simp [bvs, List.getD_eq_getElem?_getD, List.getElem?_eq_getElem (show k < (rdL l k).length by omega)]
      have d0 := (hhk.cell k).trans hck
      have f0 := hhk.frozen k
      have i0 := hx (l.getD (2 * k) 0) (by rw [List.getD_eq_getElem?_getD, List.getElem?_eq_getElem (show 2 * k < l.length by omega)]; exact List.getElem_mem _)
      have i1 := hx (l.getD (2 * k + 1) 0) (by rw [List.getD_eq_getElem?_getD, List.getElem?_eq_getElem (show 2 * k + 1 < l.length by omega)]; exact List.getElem_mem _)
      have e0 := strB_at l (2 * k) (by omega)
      have e1 := strB_at l (2 * k + 1) (by omega)
      have hnib : nib l k = UInt8.ofNat (hexV (l.getD (2 * k) 0) * 16 + hexV (l.getD (2 * k + 1) 0)) := rfl
      generalize l.getD (2 * k) 0 = ca at *
      generalize l.getD (2 * k + 1) 0 = cb at *
      obtain ⟨va, ha⟩ := hexV_of i0
      obtain ⟨vb, hb⟩ := hexV_of i1
      have hor := nib_or _ _ ha hb
      generalize hexV ca = na at *
      generalize hexV cb = nb at *
      have hm : na * 16 + nb < 256 := by omega
      generalize na * 16 + nb = m at *
      have wn : IntKind.i64.wrap ((na : Int) * 16) = (na : Int) * 16 := by rw [IntKind.wrap_i64]; omega
      have wm : IntKind.u8.wrap (m : Int) = (m : Int) := by rw [IntKind.wrap_u8]; omega
      have hset' := Lib.hid hset
      have hnib' := Lib.hid hnib
      have hl' := Lib.hid hl
      have va' := Lib.hid va
      have vb' := Lib.hid vb
      have w0 : IntKind.i64.wrap (2 * (k : Int)) = 2 * (k : Int) := by rw [IntKind.wrap_i64]; omega
      have w1 : IntKind.i64.wrap (2 * (k : Int) + 1) = 2 * (k : Int) + 1 := by rw [IntKind.wrap_i64]; omega
      have n0 : (2 * (k : Int)).toNat = 2 * k := by omega
      have n1 : (2 * (k : Int) + 1).toNat = 2 * k + 1 := by omega
      have p0 : (0 : Int) ≤ 2 * (k : Int) := by omega
      have p1 : (0 : Int) ≤ 2 * (k : Int) + 1 := by omega
      have l0 : 2 * (k : Int) < 64 := by omega
      have l1 : 2 * (k : Int) + 1 < 64 := by omega
      have hck' := Lib.hid hck
      clear hset hck hl hnib i0 i1 va vb hx
      go_wp2_with fail
      refine wp_region_tail 15 (by kernel_rfl) (by kernel_rfl) ?_
      intro W3 hW3
      simp only [List.take_succ_cons, List.take_zero, List.drop_succ_cons, List.drop_zero]
      have hh3 : Blk W3 (w.heap.size + 1) 24 (bvs (rdL l k)).toArray := by rw [hW3]; exact hhk.drew
      have hu3 : Upd (w.heap.size + 1) none w2 W3 none := by rw [hW3]; exact hu.drew
      have d3 := (hh3.cell k).trans hck'.out
      clear hW3 d0 f0
      have f3 := hh3.frozen k
      have hib : ∀ c : UInt8, Calls Tryd.prog 28 #[.string ⟨#[48, 49, 50, 51, 52, 53, 54, 55, 56, 57, 97, 98, 99, 100, 101, 102]⟩, .int .u8 (c.toNat : Int)] W3 fun e w' => e = .returned (.int .i64 (Lib.indexByte hexL c)) ∧ w' = W3 := fun c =>
        (Tryd.strings_IndexByte (strB hexL) (c.toNat : Int) W3).mono fun e w' h => ⟨by rw [h.1]; congr 2; show Lib.indexByte hexL _ = _; congr 1; simp, h.2⟩
      iterate 5 still_step
      still_call (hib ca)
      rw [va'.out]
      iterate 6 still_step
      still_call (hib cb)
      rw [vb'.out]
      iterate 2 still_step
      refine wpStill_nil ?_
      go_wp2_with fail
      go_roundw
      case rel =>
        refine ⟨k + 1, by omega, by go_num, ?_, hu3.setCell k _⟩
        have e2 : Value.int .u8 (m : Int) = bv (nib l k) := by rw [hnib'.out, bv_ofNat]; congr 1; omega
        rw [← hset'.out, ← e2]
        exact hh3.set_ k _
      case measure => simp [intOf]; omega
    · have hk32 : k = 32 := by omega
      subst hk32
      simp only [Int.cast_ofNat_Int] at *
      have hzk := hu.blk hz2 (by omega) (by simp)
      have hbk : Below w.heap.size w wr := hb02.trans (hu.below (by omega) (by omega) (by simp))
      have hll := rdL_length l 32 (Nat.le_refl _)
      have hrv : readB l = (rdL l 32).reverse := rfl
      generalize rdL l 32 = R at *
      have hcells : ∀ j u, (bvs R)[j]? = some u → wr.cell? ⟨w.heap.size + 1, 0 + j, none⟩ = some u := fun j u hu => by
        rw [Nat.zero_add, hhk.cell j]; simpa using hu
      have hlen : Hid ((bvs R).length = 32) := Lib.hid (by rw [bvs_length, hll])
      have hrv' := Lib.hid hrv
      clear hx hrv hz2 hh2
      have tok1 : True := trivial
      go_wp2_with (have _t := tok1; refine wpList_load_at rfl 24 (.tmp 4) rfl (w.heap.size + 1) 0 rfl (bvs R) _ hcells Tryd.underlying24 rfl (by rw [hashinfo, hlen.out]) ?_; clear tok1)
      refine (about_any R wr hll).mono ?_
      rintro e w5 ⟨rfl, hb5⟩
      have hz5 := hzk.below hb5 hzk.lt
      have hbf := hbk.trans (hb5.mono hbk.size)
      have hone := hash_one R.reverse
      have hlen2 : Hid ((bvs R.reverse).length = 32) := Lib.hid (by rw [bvs_length, List.length_reverse, hll])
      rw [← hrv'.out] at hone hlen2
      rw [← hrv'.out]
      clear hll hcells hzk hhk
      generalize hH : bvs (readB l) = H at *
      have hH' := Lib.hid hH
      clear hH
      have tok2 : True := trivial
      go_wp2_with (have _t := tok2; refine wpList_store_row rfl 24 (.tmp 2) (.tmp 36) rfl w.heap.size H.toArray rfl rfl _ _ hz5 (by rw [hashinfo]; simp [hlen2.out]) (by simp [hlen2.out, zero32, bvs]) hone ?_; clear tok2)
      (try simp only [Exit.inBlock, Exit.then])
      refine bodyPost_ret (results_cell_tmp_at rfl _ _ w.heap.size H _ rfl (cells_of_blk (setRow_blk hz5)) Tryd.underlying24 rfl (by rw [hashinfo, hlen2.out])) rfl ⟨by rw [hH'.out]; rfl, setRow_below hbf (Nat.le_refl _)⟩
end Go.Proofs.YtcilabemglbhbaaDoor
