/- Plain law: a hash that is shown is read as it was. -/
import Derived.Test.YtcilabemglbhbaaGreatDoorK45
import Derived.Test.YtcilabemglbhbaaGreatDoorK19
import Derived.Test.YtcilabemglbhbaaGreatDoorK28
import Derived.Test.YtcilabemglbhbaaGreatDoorK38
import Derived.Test.YtcilabemglbhbaaGreatDoorK18
import Derived.Test.YtcilabemglbhbaaGreatDoorK8
namespace Go.Proofs.YtcilabemglbhbaaGreatDoor
open Go Go.RowKit Go.Pur

theorem hexV_hexD (n : Nat) (h : n < 16) : hexV (hexD n) = n := by
  have : ∀ m : Fin 16, hexV (hexD m.val) = m.val := by decide +kernel
  exact this ⟨n, h⟩
theorem isHex_hexD (n : Nat) (h : n < 16) : isHex (hexD n) = true := by
  have : ∀ m : Fin 16, isHex (hexD m.val) = true := by decide +kernel
  exact this ⟨n, h⟩
theorem show_hex (m : Bytes) : ∀ c ∈ showB m, isHex c = true := by
  intro c hc
  obtain ⟨x, _, hx⟩ := List.mem_flatMap.1 hc
  simp only [showC, List.mem_cons, List.not_mem_nil, or_false] at hx
  have := x.toNat_lt
  rcases hx with rfl | rfl
  · exact isHex_hexD _ (by omega)
  · exact isHex_hexD _ (by omega)
theorem nib_show : ∀ (m : Bytes) (k : Nat), k < m.length → nib (showB m) k = m.getD k 0
  | [], k, h => absurd h (by simp)
  | c :: m, 0, _ => by
    have := c.toNat_lt
    show UInt8.ofNat (hexV (hexD (c.toNat / 16)) * 16 + hexV (hexD (c.toNat % 16))) = c
    rw [hexV_hexD _ (by omega), hexV_hexD _ (by omega), show c.toNat / 16 * 16 + c.toNat % 16 = c.toNat by omega]
    simp
  | c :: m, k + 1, h => by
    have ih := nib_show m k (by simpa using h)
    have e : showB (c :: m) = hexD (c.toNat / 16) :: hexD (c.toNat % 16) :: showB m := rfl
    have e1 : nib (showB (c :: m)) (k + 1) = nib (showB m) k := by
      unfold nib
      rw [e, show 2 * (k + 1) = 2 * k + 1 + 1 by omega]
      simp
    rw [e1, ih]
    simp
theorem read_show (h : Bytes) (hl : h.length = 32) : readB (showB h.reverse) = h := by
  have hr : h.reverse.length = 32 := by simp [hl]
  have e : rdL (showB h.reverse) 32 = h.reverse := by
    unfold rdL
    simp only [Nat.sub_self, List.replicate_zero, List.append_nil]
    apply List.ext_getElem?
    intro i
    rcases Nat.lt_or_ge i 32 with h1 | h1
    · rw [List.getElem?_map, List.getElem?_range h1]
      simp only [Option.map_some]
      rw [nib_show _ _ (by omega), List.getElem?_eq_getElem (by omega), List.getD_eq_getElem?_getD, List.getElem?_eq_getElem (by omega)]
      rfl
    · rw [List.getElem?_eq_none (by simp; omega), List.getElem?_eq_none (by omega)]
  unfold readB
  rw [e, List.reverse_reverse]
theorem show_len (h : Bytes) (hl : h.length = 32) : (showB h.reverse).length = 64 := by rw [showB_length]; simp [hl]
end Go.Proofs.YtcilabemglbhbaaGreatDoor

/- purserlaw07's first and alive. -/
namespace Go.Proofs.YtcilabemglbhbaaGreatDoor
open Go Go.RowKit Go.Pur

def firstRoot : Bytes := [59, 163, 237, 253, 122, 123, 18, 178, 122, 199, 44, 62, 103, 118, 143, 97, 127, 200, 27, 195, 136, 138, 81, 50, 58, 159, 184, 170, 75, 30, 94, 74]
def firstH : Head := ⟨1, List.replicate 32 0, firstRoot, 1231006505, 486604799, 2083236893⟩
def firstHash : Bytes := [111, 226, 140, 10, 182, 241, 179, 114, 193, 166, 162, 70, 174, 99, 247, 79, 147, 30, 131, 101, 225, 90, 8, 156, 104, 214, 25, 0, 0, 0, 0, 0]
theorem firstH_ok : HeadOk firstH := ⟨by unfold Lt32; decide, rfl, rfl, by unfold Lt32; decide, by unfold Lt32; decide, by unfold Lt32; decide⟩
set_option maxRecDepth 100000 in
theorem first_hash : twice (encHd firstH) = firstHash := by kernel_rfl
end Go.Proofs.YtcilabemglbhbaaGreatDoor
namespace Go.Proofs.YtcilabemglbhbaaGreatDoor
open Go Go.RowKit Go.Pur

def rootD : Bytes := [52, 97, 53, 101, 49, 101, 52, 98, 97, 97, 98, 56, 57, 102, 51, 97, 51, 50, 53, 49, 56, 97, 56, 56, 99, 51, 49, 98, 99, 56, 55, 102, 54, 49, 56, 102, 55, 54, 54, 55, 51, 101, 50, 99, 99, 55, 55, 97, 98, 50, 49, 50, 55, 98, 55, 97, 102, 100, 101, 100, 97, 51, 51, 98]
def aliveD : Bytes := [48, 48, 48, 48, 48, 48, 48, 48, 48, 48, 49, 57, 100, 54, 54, 56, 57, 99, 48, 56, 53, 97, 101, 49, 54, 53, 56, 51, 49, 101, 57, 51, 52, 102, 102, 55, 54, 51, 97, 101, 52, 54, 97, 50, 97, 54, 99, 49, 55, 50, 98, 51, 102, 49, 98, 54, 48, 97, 56, 99, 101, 50, 54, 102]
set_option maxRecDepth 100000 in
theorem rootD_read : readB rootD = firstRoot := by kernel_rfl
theorem rootD_hex : ∀ c ∈ rootD, isHex c = true := by decide +kernel
set_option maxRecDepth 100000 in
theorem alive_show : showB (twice (encHd firstH)).reverse = aliveD := by rw [first_hash]; kernel_rfl
set_option maxRecDepth 100000 in
set_option maxHeartbeats 1600000 in
theorem pub_any (w : World) : Calls Tryz.prog 14 #[] w fun e w' => e = .returned (.agg (headCells firstH).toArray) ∧ Below w.heap.size w w' := by
  have hrd : ∀ W : World, Calls Tryz.prog 8 #[.string ⟨#[52, 97, 53, 101, 49, 101, 52, 98, 97, 97, 98, 56, 57, 102, 51, 97, 51, 50, 53, 49, 56, 97, 56, 56, 99, 51, 49, 98, 99, 56, 55, 102, 54, 49, 56, 102, 55, 54, 54, 55, 51, 101, 50, 99, 99, 55, 55, 97, 98, 50, 49, 50, 55, 98, 55, 97, 102, 100, 101, 100, 97, 51, 51, 98]⟩] W fun e w' => e = .returned (.tuple #[.agg (bvs firstRoot).toArray, .int .i64 0]) ∧ Below W.heap.size W w' := fun W => by
    have := read_any rootD W rfl rootD_hex
    rw [rootD_read] at this
    exact this
  obtain ⟨W1, hW1⟩ : ∃ W1, W1 = w.alloc (.cells (headCells zeroHead).toArray 26) := ⟨_, rfl⟩
  have hz1 : Blk W1 w.heap.size 26 (headCells zeroHead).toArray := by rw [hW1]; exact Blk.new w _ _
  have hb1 : Below w.heap.size w W1 := by rw [hW1]; exact (Below.refl _ _).alloc (Nat.le_refl _) _
  go_enter Tryz.func14, Tryz.ntmps14
  go_wp2_with fail
  rw [zeroCells, ← hW1]
  refine (hrd W1).mono ?_
  rintro e w2 ⟨rfl, hb2⟩
  have hz2 := hz1.below hb2 hz1.lt
  have hb02 := hb1.trans (hb2.mono hb1.size)
  have hs2 := hz2.lt
  have hlen : Hid ((bvs firstRoot).length = 32) := Lib.hid rfl
  have hone := hash_one firstRoot
  generalize hH : bvs firstRoot = H at *
  have hH' := Lib.hid hH
  clear hH hrd hW1 hz1 hb1
  have hcells : ∀ j u, H[j]? = some u → (w2.alloc (.cells H.toArray 24)).cell? ⟨w2.heap.size, 0 + j, none⟩ = some u := fun j u hu => by
    rw [Nat.zero_add, (Blk.new w2 _ _).cell j]; simpa using hu
  have hz3 := hz2.alloc (.cells H.toArray 24)
  have hb3 := hb02.alloc hb02.size (.cells H.toArray 24)
  have hlenF := Lib.hid (headCells_length firstH_ok)
  have honeF := headCells_one firstH
  have hzl : Hid ((headCells zeroHead).toArray.size = 68) := Lib.hid rfl
  generalize hF : headCells firstH = F at *
  have hF' := Lib.hid hF
  clear hF hz2 hb2 hb02
  have tok1 : True := trivial
  have tok2 : True := trivial
  have tok4 : True := trivial
  go_wp2_with (first
    | (have _t := tok1; refine wpList_store_new rfl 24 (.tmp 1) (.tmp 5) rfl H.toArray rfl rfl _ _ (by rw [hashinfo]; simp [hlen.out]) (by simp [hlen.out]) hone ?_; clear tok1)
    | (have _t := tok2; refine wpList_load_at rfl 24 (.tmp 1) rfl w2.heap.size 0 rfl H _ hcells Tryz.underlying24 rfl (by rw [hashinfo, hlen.out]) ?_; refine Go.Pur.wpList_build rfl 26 rfl (.agg F.toArray) (by rw [← hH'.out, ← hF'.out]; kernel_rfl) ?_; clear tok2)
    | (have _t := tok4; refine wpList_store_row rfl 26 (.tmp 0) (.tmp 8) rfl w.heap.size F.toArray rfl rfl _ _ hz3 (by rw [headinfo]; simp [hlenF.out]) (by simp [hlenF.out, hzl.out]) honeF ?_; clear tok4))

  (try simp only [Exit.inBlock, Exit.then])
  refine bodyPost_ret (results_cell_at rfl _ _ w.heap.size F _ rfl (cells_of_blk (setRow_blk hz3)) Tryz.underlying26 rfl (by rw [headinfo, hlenF.out])) rfl ⟨by rw [hF'.out], setRow_below hb3 (Nat.le_refl _)⟩

set_option maxRecDepth 100000 in
set_option maxHeartbeats 1600000 in
theorem alive_any (w : World) : Calls Tryz.prog 4 #[] w fun e w' => e = .returned (.bool true) ∧ Below w.heap.size w w' := by
  have hsh : ∀ W : World, Calls Tryz.prog 9 #[.agg (bvs (twice (encHd firstH))).toArray] W fun e w' => e = .returned (.string (strB aliveD)) ∧ Below W.heap.size W w' := fun W => by
    have := show_any (twice (encHd firstH)) W (by rw [twice, shaOf_length])
    rw [alive_show] at this
    exact this
  go_enter Tryz.func4, Tryz.ntmps4
  go_wp2_with fail
  refine (pub_any w).mono ?_
  rintro e w1 ⟨rfl, hb1⟩
  go_wp2_with fail
  refine (hash_any firstH w1 firstH_ok).mono ?_
  rintro e w2 ⟨rfl, hb2⟩
  go_wp2_with fail
  refine (hsh w2).mono ?_
  rintro e w3 ⟨rfl, hb3⟩
  have heq : ((strB aliveD).toList == aliveD) = true := by rw [strB_toList]; simp
  go_wp2_with fail
  go_ret
  refine ⟨?_, (hb1.trans (hb2.mono hb1.size)).trans (hb3.mono (Nat.le_trans hb1.size hb2.size))⟩
  exact ret_bool heq
end Go.Proofs.YtcilabemglbhbaaGreatDoor

/- What lies below a block lies below a later one. -/
namespace Go.Proofs.YtcilabemglbhbaaGreatDoor
open Go Go.RowKit Go.Pur

theorem InAt.more {w : World} {B B' b o : Nat} {x : TIn} (h : InAt w B b o x) (hB : B ≤ B') : InAt w B' b o x := by
  obtain ⟨sv, h1, h2⟩ := h
  exact ⟨sv, h1.more hB, h2⟩
theorem OutAt.more {w : World} {B B' b o : Nat} {x : TOut} (h : OutAt w B b o x) (hB : B ≤ B') : OutAt w B' b o x := by
  obtain ⟨sv, h1, h2⟩ := h
  exact ⟨sv, h1.more hB, h2⟩
theorem InsAt.more {w : World} {B B' : Nat} {v : Value} {xs : List TIn} (h : InsAt w B v xs) (hB : B ≤ B') : InsAt w B' v xs := by
  obtain ⟨A, c, hv, h1, h2, h3⟩ := h
  refine ⟨A, c, hv, h1, h2, fun hn => ?_⟩
  obtain ⟨b, o, hA, hb, hx⟩ := h3 hn
  exact ⟨b, o, hA, by omega, fun k x hk => (hx k x hk).more hB⟩
theorem OutsAt.more {w : World} {B B' : Nat} {v : Value} {xs : List TOut} (h : OutsAt w B v xs) (hB : B ≤ B') : OutsAt w B' v xs := by
  obtain ⟨A, c, hv, h1, h2, h3⟩ := h
  refine ⟨A, c, hv, h1, h2, fun hn => ?_⟩
  obtain ⟨b, o, hA, hb, hx⟩ := h3 hn
  exact ⟨b, o, hA, by omega, fun k x hk => (hx k x hk).more hB⟩
theorem TxAt.more {w : World} {B B' : Nat} {v : Value} {t : TTx} (h : TxAt w B v t) (hB : B ≤ B') : TxAt w B' v t := by
  obtain ⟨iv, ov, hv, h1, h2, h3, h4⟩ := h
  exact ⟨iv, ov, hv, h1, h2, h3.more hB, h4.more hB⟩
end Go.Proofs.YtcilabemglbhbaaGreatDoor
