/- block's header, read: the function header. -/
import Derived.Test.YtcilabemglbhbaaGreatDoorK26
namespace Go.Proofs.YtcilabemglbhbaaGreatDoor
open Go Go.RowKit Go.Pur

theorem zeroHead_ok : HeadOk zeroHead := ⟨by unfold Lt32; decide, rfl, rfl, by show (0 : Nat) < 4294967296; omega, by show (0 : Nat) < 4294967296; omega, by show (0 : Nat) < 4294967296; omega⟩
theorem zeroCells : Tryz.zeroCells26 = (headCells zeroHead).toArray := by kernel_rfl
def HeaderPost (p : Nat) (l : Bytes) (w : World) (e : Ending) (w' : World) : Prop := e = .returned (.agg (headCells (rHead l)).toArray) ∧ EyeAt w' p (hL6 l) ∧ Turns [p] w w'
set_option maxRecDepth 100000 in
set_option maxHeartbeats 1600000 in
theorem header_any (p : Nat) (l : Bytes) (w : World) (he : EyeAt w p l) (hl : l.length ≤ 10000000000) :
    Calls Tryz.prog 16 #[.pointer (some ⟨p, 0, none⟩)] w (HeaderPost p l w) := by
  have hpl : p < w.heap.size := by obtain ⟨sv, h, _⟩ := he; exact h.lt
  obtain ⟨W1, hW1⟩ : ∃ W1, W1 = ((w.alloc (.cells #[.pointer (some ⟨p, 0, none⟩)] 54)).alloc (.cells (headCells zeroHead).toArray 26)).alloc (.cells (headCells zeroHead).toArray 26) := ⟨_, rfl⟩
  have hb1 : Below w.heap.size w W1 := by rw [hW1]; exact (((Below.refl _ _).alloc (Nat.le_refl _) _).alloc (by simp) _).alloc (by simp; omega) _
  have hg1 : Blk W1 w.heap.size 54 #[.pointer (some ⟨p, 0, none⟩)] := by rw [hW1]; exact ((Blk.new w _ _).alloc _).alloc _
  have hz1 : Blk W1 (w.heap.size + 1) 26 (headCells zeroHead).toArray := by
    have := (Blk.new (w.alloc (.cells #[.pointer (some ⟨p, 0, none⟩)] 54)) 26 (headCells zeroHead).toArray).alloc (.cells (headCells zeroHead).toArray 26)
    rw [hW1]
    simpa using this
  have hh1 : Blk W1 (w.heap.size + 1 + 1) 26 (headCells zeroHead).toArray := by
    have := Blk.new ((w.alloc (.cells #[.pointer (some ⟨p, 0, none⟩)] 54)).alloc (.cells (headCells zeroHead).toArray 26)) 26 (headCells zeroHead).toArray
    rw [hW1]
    simpa using this
  have he1 : EyeAt W1 p l := he.turns (ps := []) (.of_below hb1) (fun q hq => by simp at hq)
  have hs1 : W1.heap.size = w.heap.size + 3 := by rw [hW1]; simp
  go_enter Tryz.func16, Tryz.ntmps16
  go_wp2_with fail
  rw [zeroCells, ← hW1]
  clear hW1
  have hgh : w.heap.size + 1 + 1 < W1.heap.size := by omega
  generalize hgh' : w.heap.size + 1 + 1 = gh at *
  generalize hgz' : w.heap.size + 1 = gz at *
  refine (hnumber_any w.heap.size p l W1 hg1 he1).mono ?_
  rintro e w2 ⟨rfl, he2, ht2⟩
  have hg2 := ht2.blk hg1 (by simp; omega)
  have hz2 := ht2.blk hz1 (by simp; omega)
  have hh2 := ht2.blk hh1 (by simp; omega)
  have ht02 : Turns [p] w w2 := (Turns.of_below hb1).trans ht2
  have c0 := hh2.cell 0
  have f0 := hh2.frozen 0
  have z0 : (headCells zeroHead).toArray[0]? = some (.int .u32 0) := rfl
  rw [z0] at c0
  clear z0
  go_wp2_with fail
  generalize hW3 : w2.setCell ⟨gh, 0, none⟩ (.int .u32 ((hFour l).1 : Int)) = W3 at *
  have hh3 : Blk W3 gh 26 (headCells (hSt l 0)).toArray := by rw [← hW3]; have := hh2.set_ 0 (.int .u32 ((hFour l).1 : Int)); rwa [headCells_set0] at this
  have hg3 : Blk W3 w.heap.size 54 #[.pointer (some ⟨p, 0, none⟩)] := by rw [← hW3]; exact hg2.far (by simp; omega) _
  have hz3 : Blk W3 gz 26 (headCells zeroHead).toArray := by rw [← hW3]; exact hz2.far (by simp; omega) _
  have ht23 : Turns [gh] w2 W3 := by rw [← hW3]; exact (Turns.refl _ _).setCell (by simp) 0 _
  have he3 : EyeAt W3 p (hL1 l) := he2.turns ht23 (by simp; omega)
  have ht03 : Turns [p] w W3 := ((ht02.more (qs := [p, gh]) (by simp)).trans (ht23.more (by simp))).less (by simp; omega)
  clear c0 f0 hW3 ht23 ht02 ht2 hh2 hg2 hz2 he2 hg1 hz1 hh1 he1 hb1
  go_region
  have hh4 := (hh3.alloc (.cells #[.slice (some ⟨gh, 1, none⟩) 32 32, .slice (some ⟨gh, 33, none⟩) 32 32] 30)).drew
  have hg4 := (hg3.alloc (.cells #[.slice (some ⟨gh, 1, none⟩) 32 32, .slice (some ⟨gh, 33, none⟩) 32 32] 30)).drew
  have hz4 := (hz3.alloc (.cells #[.slice (some ⟨gh, 1, none⟩) 32 32, .slice (some ⟨gh, 33, none⟩) 32 32] 30)).drew
  have hgs4 : Blk (W3.alloc (.cells #[.slice (some ⟨gh, 1, none⟩) 32 32, .slice (some ⟨gh, 33, none⟩) 32 32] 30)).drew W3.heap.size 30 #[.slice (some ⟨gh, 1, none⟩) 32 32, .slice (some ⟨gh, 33, none⟩) 32 32] := (Blk.new W3 _ _).drew
  have ht34 : Turns [p] W3 (W3.alloc (.cells #[.slice (some ⟨gh, 1, none⟩) 32 32, .slice (some ⟨gh, 33, none⟩) 32 32] 30)).drew := ((Turns.refl _ _).alloc _).drew
  have he4 := he3.turns (ps := []) ((Turns.refl _ W3).alloc (.cells #[.slice (some ⟨gh, 1, none⟩) 32 32, .slice (some ⟨gh, 33, none⟩) 32 32] 30)).drew (by simp)
  have hs3 := hh3.lt
  generalize W3.heap.size = gs at *
  generalize (W3.alloc (.cells #[.slice (some ⟨gh, 1, none⟩) 32 32, .slice (some ⟨gh, 33, none⟩) 32 32] 30)).drew = W4 at *
  have ht04 := ht03.trans ht34
  have hs4 := hgs4.lt
  have hll1 : (hL1 l).length ≤ l.length := hFour_left l
  have hll2 : (hL2 l).length ≤ l.length := Nat.le_trans (hRaw_left _) hll1
  clear hh3 hg3 hz3 ht34 ht03 he3
  go_wp2_with fail
  go_loopw [19] (fun i wr => ∃ k : Nat, k ≤ 2 ∧ i = .int .i64 (k : Int) ∧ Blk wr gh 26 (headCells (hSt l k)).toArray ∧ EyeAt wr p (hLf l k) ∧ Turns [p, gh] W4 wr) (fun i _ => 2 - (intOf i).toNat)
  case atStart => exact ⟨0, by omega, rfl, hh4, he4, Turns.refl _ _⟩
  case round =>
    obtain ⟨k, hk, rfl, hhk, hek, htk⟩ := hrel
    have hgk := htk.blk hg4 (by simp; omega)
    have hzk := htk.blk hz4 (by simp; omega)
    have hgsk := htk.blk hgs4 (by simp; omega)
    have cg := hgk.cell 0
    have hm : k = 0 ∨ k = 1 ∨ k = 2 := by omega
    rcases hm with rfl | rfl | rfl
    · have hLk : hLf l 0 = hL1 l := rfl
      rw [hLk] at hek
      have d0 := (hgsk.cell 0).trans rfl
      simp only [Int.cast_ofNat_Int] at *
      have hraw := eraw_any p 32 (hL1 l) wr hek (Nat.le_trans hll1 hl)
      have hf : Full (hSt l 0) := ⟨rfl, rfl⟩
      have hnx : hSt l 1 = { hSt l 0 with prev := (hRaw (hL1 l)).1 } := rfl
      go_wp2_with fail
      refine hraw.mono ?_
      rintro e w5 ⟨ht5, ⟨hl5, v5, rfl, ho5, he5⟩ | ⟨hl5, rfl, he5⟩⟩
      · obtain ⟨A5, m5, d5, rfl⟩ := slice_of_own ho5
        have hh5 := ht5.blk hhk (by simp; omega)
        have e1 : hRaw (hL1 l) = ((hL1 l).take 32, (hL1 l).drop 32) := by rw [hRaw, if_pos hl5]
        have eL : hLf l 1 = (hL1 l).drop 32 := by show (hRaw (hL1 l)).2 = _; rw [e1]
        rw [e1] at hnx
        obtain ⟨W6, hW6⟩ : ∃ W6, W6 = w5.setRow gh (headCells (hSt l 1)).toArray := ⟨_, rfl⟩
        have hcp : ∀ ty, (Builtin.copy_ #[30, 30] ty #[.slice (some ⟨gh, 1, none⟩) 32 32, .slice A5 m5 d5]).run Tryz.prog w5 = .ok (goInt 32) W6 := fun ty => by
          rw [hW6]
          exact copy_head ty hh5 (by omega) (by rw [headCells, List.length_cons, List.length_append, List.length_append, bvs_length, bvs_length, hf.1, hf.2]; rfl) ho5 (by rw [List.length_take]; omega) (by rw [hnx]; exact headCells_copy1 hf _ (by rw [List.length_take]; omega))
        have hh6 : Blk W6 gh 26 (headCells (hSt l 1)).toArray := by rw [hW6]; exact setRow_blk hh5
        have ht56 : Turns [gh] w5 W6 := by rw [hW6]; exact turns_setRow _ _ _
        have he6 : EyeAt W6 p (hLf l 1) := by rw [eL]; exact he5.turns ht56 (by simp; omega)
        have htr6 : Turns [p, gh] W4 W6 := (htk.trans (ht5.more (by simp))).trans (ht56.more (by simp))
        clear hW6 ht56 ho5 hh5 he5 ht5 hraw hnx e1 eL
        go_wp2_with fail
        go_roundw
        case rel => exact ⟨1, by omega, by go_num, hh6, he6, htr6⟩
        case measure => simp [intOf]
      · have hh5 := ht5.blk hhk (by simp; omega)
        have e1 : hRaw (hL1 l) = (List.replicate 32 0, hL1 l) := by rw [hRaw, if_neg (by omega)]
        have eL : hLf l 1 = hL1 l := by show (hRaw (hL1 l)).2 = _; rw [e1]
        rw [e1] at hnx
        have hcp := fun ty => copy_nil_head w5 gh 1 ty
        have hh6 : Blk w5 gh 26 (headCells (hSt l 1)).toArray := by rw [hnx]; exact hh5
        have he6 : EyeAt w5 p (hLf l 1) := by rw [eL]; exact he5
        have htr6 : Turns [p, gh] W4 w5 := htk.trans (ht5.more (by simp))
        clear hh5 he5 ht5 hraw hnx e1 eL
        go_wp2_with fail
        go_roundw
        case rel => exact ⟨1, by omega, by go_num, hh6, he6, htr6⟩
        case measure => simp [intOf]
    · have hLk : hLf l 1 = hL2 l := rfl
      rw [hLk] at hek
      have d0 := (hgsk.cell 1).trans rfl
      simp only [Int.cast_ofNat_Int] at *
      have hraw := eraw_any p 32 (hL2 l) wr hek (Nat.le_trans hll2 hl)
      have hf : Full (hSt l 1) := ⟨hRaw_length _, rfl⟩
      have hnx : hSt l 2 = { hSt l 1 with root := (hRaw (hL2 l)).1 } := rfl
      go_wp2_with fail
      refine hraw.mono ?_
      rintro e w5 ⟨ht5, ⟨hl5, v5, rfl, ho5, he5⟩ | ⟨hl5, rfl, he5⟩⟩
      · obtain ⟨A5, m5, d5, rfl⟩ := slice_of_own ho5
        have hh5 := ht5.blk hhk (by simp; omega)
        have e1 : hRaw (hL2 l) = ((hL2 l).take 32, (hL2 l).drop 32) := by rw [hRaw, if_pos hl5]
        have eL : hLf l 2 = (hL2 l).drop 32 := by show (hRaw (hL2 l)).2 = _; rw [e1]
        rw [e1] at hnx
        obtain ⟨W6, hW6⟩ : ∃ W6, W6 = w5.setRow gh (headCells (hSt l 2)).toArray := ⟨_, rfl⟩
        have hcp : ∀ ty, (Builtin.copy_ #[30, 30] ty #[.slice (some ⟨gh, 33, none⟩) 32 32, .slice A5 m5 d5]).run Tryz.prog w5 = .ok (goInt 32) W6 := fun ty => by
          rw [hW6]
          exact copy_head ty hh5 (by omega) (by rw [headCells, List.length_cons, List.length_append, List.length_append, bvs_length, bvs_length, hf.1, hf.2]; rfl) ho5 (by rw [List.length_take]; omega) (by rw [hnx]; exact headCells_copy2 hf _ (by rw [List.length_take]; omega))
        have hh6 : Blk W6 gh 26 (headCells (hSt l 2)).toArray := by rw [hW6]; exact setRow_blk hh5
        have ht56 : Turns [gh] w5 W6 := by rw [hW6]; exact turns_setRow _ _ _
        have he6 : EyeAt W6 p (hLf l 2) := by rw [eL]; exact he5.turns ht56 (by simp; omega)
        have htr6 : Turns [p, gh] W4 W6 := (htk.trans (ht5.more (by simp))).trans (ht56.more (by simp))
        clear hW6 ht56 ho5 hh5 he5 ht5 hraw hnx e1 eL
        go_wp2_with fail
        go_roundw
        case rel => exact ⟨2, by omega, by go_num, hh6, he6, htr6⟩
        case measure => simp [intOf]
      · have hh5 := ht5.blk hhk (by simp; omega)
        have e1 : hRaw (hL2 l) = (List.replicate 32 0, hL2 l) := by rw [hRaw, if_neg (by omega)]
        have eL : hLf l 2 = hL2 l := by show (hRaw (hL2 l)).2 = _; rw [e1]
        rw [e1] at hnx
        have hcp := fun ty => copy_nil_head w5 gh 33 ty
        have hh6 : Blk w5 gh 26 (headCells (hSt l 2)).toArray := by rw [hnx]; exact hh5
        have he6 : EyeAt w5 p (hLf l 2) := by rw [eL]; exact he5
        have htr6 : Turns [p, gh] W4 w5 := htk.trans (ht5.more (by simp))
        clear hh5 he5 ht5 hraw hnx e1 eL
        go_wp2_with fail
        go_roundw
        case rel => exact ⟨2, by omega, by go_num, hh6, he6, htr6⟩
        case measure => simp [intOf]
    · simp only [Int.cast_ofNat_Int] at *
      have hek : EyeAt wr p (hL3 l) := hek
      go_wp2_with fail
      refine (hnumber_any w.heap.size p (hL3 l) wr hgk hek).mono ?_
      rintro e w6 ⟨rfl, he6, ht6⟩
      have hg6 := ht6.blk hgk (by simp; omega)
      go_wp2_with fail
      refine (hnumber_any w.heap.size p (hL4 l) w6 hg6 he6).mono ?_
      rintro e w7 ⟨rfl, he7, ht7⟩
      have hg7 := ht7.blk hg6 (by simp; omega)
      go_wp2_with fail
      refine (hnumber_any w.heap.size p (hL5 l) w7 hg7 he7).mono ?_
      rintro e w8 ⟨rfl, he8, ht8⟩
      have ht68 := (ht6.trans ht7).trans ht8
      have hf : Full (hSt l 2) := ⟨hRaw_length _, hRaw_length _⟩
      have hh8 := ht68.blk hhk (by simp; omega)
      have hz8 := ht68.blk hzk (by simp; omega)
      have ca := headCells_at (h := hSt l 2) ⟨hFour_lt l, hf.1, hf.2, by show (0 : Nat) < 4294967296; omega, by show (0 : Nat) < 4294967296; omega, by show (0 : Nat) < 4294967296; omega⟩
      have d5 := (hh8.cell 65).trans ca.2.1
      have d6 := (hh8.cell 66).trans ca.2.2.1
      have d7 := (hh8.cell 67).trans ca.2.2.2
      have f5 := hh8.frozen 65
      have f6 := hh8.frozen 66
      have f7 := hh8.frozen 67
      have s5 := hh8.set_ 65 (.int .u32 ((hFour (hL3 l)).1 : Int))
      rw [headCells_set65 hf] at s5
      have s6 := s5.set_ 66 (.int .u32 ((hFour (hL4 l)).1 : Int))
      rw [headCells_set66 (by exact hf)] at s6
      have s7 := s6.set_ 67 (.int .u32 ((hFour (hL5 l)).1 : Int))
      rw [headCells_set67 (by exact hf)] at s7
      have eH : headCells { { { hSt l 2 with time := (hFour (hL3 l)).1 } with bits := (hFour (hL4 l)).1 } with nonce := (hFour (hL5 l)).1 } = headCells (rHead l) := rfl
      rw [eH] at s7
      have hlen := headCells_length (rHead_ok l)
      have hone := headCells_one (rHead l)
      have hz9 := ((hz8.far (p := ⟨gh, 65, none⟩) (by simp; omega) (.int .u32 ((hFour (hL3 l)).1 : Int))).far (p := ⟨gh, 66, none⟩) (by simp; omega) (.int .u32 ((hFour (hL4 l)).1 : Int))).far (p := ⟨gh, 67, none⟩) (by simp; omega) (.int .u32 ((hFour (hL5 l)).1 : Int))
      have ht89 := (((Turns.refl [gh] w8).setCell (p := gh) (by simp) 65 (.int .u32 ((hFour (hL3 l)).1 : Int))).setCell (p := gh) (by simp) 66 (.int .u32 ((hFour (hL4 l)).1 : Int))).setCell (p := gh) (by simp) 67 (.int .u32 ((hFour (hL5 l)).1 : Int))
      have he9 := he8.turns ht89 (by simp; omega)
      have hcells : ∀ j u, (headCells (rHead l))[j]? = some u → (((w8.setCell ⟨gh, 65, none⟩ (.int .u32 ((hFour (hL3 l)).1 : Int))).setCell ⟨gh, 66, none⟩ (.int .u32 ((hFour (hL4 l)).1 : Int))).setCell ⟨gh, 67, none⟩ (.int .u32 ((hFour (hL5 l)).1 : Int))).cell? ⟨gh, 0 + j, none⟩ = some u := fun j u hu => by
        rw [Nat.zero_add, s7.cell j]; simpa using hu
      have hzl : (headCells zeroHead).toArray.size = 68 := rfl
      have hlen' := Lib.hid hlen
      have hzl' := Lib.hid hzl
      have htr : Turns [p] w (((w8.setCell ⟨gh, 65, none⟩ (.int .u32 ((hFour (hL3 l)).1 : Int))).setCell ⟨gh, 66, none⟩ (.int .u32 ((hFour (hL4 l)).1 : Int))).setCell ⟨gh, 67, none⟩ (.int .u32 ((hFour (hL5 l)).1 : Int))) :=
        ((((ht04.more (qs := [p, gh]) (by simp)).trans htk).trans (ht68.more (by simp))).trans (ht89.more (by simp))).less (by simp; omega)
      clear s5 s6 eH hlen hzl ca hz8 hh8 ht6 ht7 ht8 he6 he7 ht68
      generalize hfin : headCells (rHead l) = cl at *
      have hfin' := Lib.hid hfin
      clear hfin
      have tok1 : True := trivial
      have tok2 : True := trivial
      go_wp2_with (first
        | (have _t := tok1; refine wpList_load_at rfl 26 (.tmp 4) rfl gh 0 rfl cl _ hcells Tryz.underlying26 rfl (by rw [headinfo, hlen'.out]) ?_; clear tok1)
        | (have _t := tok2; refine wpList_store_row rfl 26 (.tmp 2) (.tmp 41) rfl gz cl.toArray rfl rfl _ _ hz9 (by rw [headinfo]; simp [hlen'.out]) (by simp [hlen'.out, hzl'.out]) hone ?_; clear tok2))
      (try simp only [Exit.inBlock, Exit.then])
      refine bodyPost_ret (results_cell_at rfl _ _ gz cl _ rfl (cells_of_blk (setRow_blk hz9)) Tryz.underlying26 rfl (by rw [headinfo, hlen'.out])) rfl ⟨by rw [hfin'.out], he9.turns (turns_setRow _ gz _) (by simp; omega), ((htr.more (qs := [p, gz]) (by simp)).trans ((turns_setRow _ gz _).more (by simp))).less (by simp; omega)⟩
end Go.Proofs.YtcilabemglbhbaaGreatDoor
namespace Go.Proofs.YtcilabemglbhbaaGreatDoor
open Go Go.RowKit Go.Pur

def DecHPost (l : Bytes) (w : World) (e : Ending) (w' : World) : Prop := Below w.heap.size w w' ∧
  ((l.length = 80 ∧ e = .returned (.tuple #[.agg (headCells (rHead l)).toArray, .int .i64 0])) ∨ (l.length ≠ 80 ∧ e = .returned (.tuple #[.agg (headCells zeroHead).toArray, .int .i64 70])))
set_option maxRecDepth 100000 in
set_option maxHeartbeats 1600000 in
theorem decodeHeader_any (v : Value) (l : Bytes) (B : Nat) (w : World) (hB : B ≤ w.heap.size) (hv : Byt w B v l) (hl : l.length ≤ 10000000000) :
    Calls Tryz.prog 6 #[v] w (DecHPost l w) := by
  obtain ⟨W1, hW1⟩ : ∃ W1, W1 = w.alloc (.cells (headCells zeroHead).toArray 26) := ⟨_, rfl⟩
  have hb1 : Below w.heap.size w W1 := by rw [hW1]; exact (Below.refl _ _).alloc (Nat.le_refl _) _
  have hz1 : Blk W1 w.heap.size 26 (headCells zeroHead).toArray := by rw [hW1]; exact Blk.new w _ _
  have hv1 : Byt W1 B v l := hv.below (hb1.mono hB)
  obtain ⟨A, m, c, hv', hm⟩ : ∃ A m c, v = .slice A m c ∧ m = l.length := by
    obtain ⟨A, c, h, _⟩ := hv
    exact ⟨A, _, c, h, rfl⟩
  subst hv'
  have hm' := Lib.hid hm
  clear hm
  have hzl : Hid ((headCells zeroHead).toArray.size = 68) := Lib.hid rfl
  have hs1 := hb1.size
  by_cases h80 : m = 80
  · subst h80
    go_enter Tryz.func6, Tryz.ntmps6
    go_wp2_with fail
    rw [zeroCells, ← hW1]
    refine (look_any _ l B W1 hv1 hl).mono ?_
    rintro e w2 ⟨p, rfl, hpg, he2, hb2, hs2⟩
    have hz2 := hz1.below hb2 hz1.lt
    have hzl1 := hz1.lt
    clear hW1
    go_wp2_with fail
    refine (header_any p l w2 he2 hl).mono ?_
    rintro e w3 ⟨rfl, he3, ht3⟩
    have hz3 := ht3.blk hz2 (by simp; omega)
    have hb3 : Below w.heap.size w w3 := (hb1.trans (hb2.mono hs1)).trans (ht3.below (by omega) (by simp; omega))
    have hlen := Lib.hid (headCells_length (rHead_ok l))
    have hone := headCells_one (rHead l)
    generalize hfin : headCells (rHead l) = cl at *
    have hfin' := Lib.hid hfin
    clear hfin
    have tok2 : True := trivial
    go_wp2_with (have _t := tok2; refine wpList_store_row rfl 26 (.tmp 2) (.tmp 10) rfl w.heap.size cl.toArray rfl rfl _ _ hz3 (by rw [headinfo]; simp [hlen.out]) (by simp [hlen.out, hzl.out]) hone ?_; clear tok2)
    (try simp only [Exit.inBlock, Exit.then])
    refine bodyPost_ret (results_cell_tmp_at rfl _ _ w.heap.size cl _ rfl (cells_of_blk (setRow_blk hz3)) Tryz.underlying26 rfl (by rw [headinfo, hlen.out])) rfl ⟨setRow_below hb3 (Nat.le_refl _), .inl ⟨hm'.out.symm, by rw [hfin'.out]; rfl⟩⟩
  · go_enter Tryz.func6, Tryz.ntmps6
    have hzz : Blk (w.alloc (.cells Tryz.zeroCells26 26)) w.heap.size 26 Tryz.zeroCells26 := Blk.new w _ _
    have hzs : Hid (Tryz.zeroCells26.size = 68) := Lib.hid (by rw [zeroCells]; rfl)
    have hone : Tryz.zeroCells26.all (·.oneCell') = true := by rw [zeroCells]; exact headCells_one _
    have tok2 : True := trivial
    go_wp2_with (have _t := tok2; refine wpList_store_row rfl 26 (.tmp 2) (.tmp 7) rfl w.heap.size Tryz.zeroCells26 rfl rfl _ _ hzz (by rw [headinfo]; simp [hzs.out]) rfl hone ?_; clear tok2)
    (try simp only [Exit.inBlock, Exit.then])
    refine bodyPost_ret (results_cell_tmp_at rfl _ _ w.heap.size (headCells zeroHead) _ rfl (cells_of_blk (cs := headCells zeroHead) (by rw [← zeroCells]; exact setRow_blk hzz)) Tryz.underlying26 rfl (by rw [headinfo]; rfl)) rfl ⟨setRow_below ((Below.refl _ _).alloc (Nat.le_refl _) _) (Nat.le_refl _), .inr ⟨by rw [← hm'.out]; exact h80, rfl⟩⟩
end Go.Proofs.YtcilabemglbhbaaGreatDoor
