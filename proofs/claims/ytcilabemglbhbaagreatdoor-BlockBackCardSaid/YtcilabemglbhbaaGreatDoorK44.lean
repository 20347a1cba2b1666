/- strings.Builder, as block.Show uses it: WriteByte, String. -/
import Derived.Test.YtcilabemglbhbaaGreatDoorK1
import Derived.Test.YtcilabemglbhbaaGreatDoorK3
import Derived.Test.YtcilabemglbhbaaGreatDoorK5
import Derived.Test.YtcilabemglbhbaaGreatDoorK15
import Derived.Test.YtcilabemglbhbaaGreatDoorK4
namespace Go.Proofs.YtcilabemglbhbaaGreatDoor
open Go Go.RowKit Go.Pur

/-- a builder at block b, whose row is q, that holds l. -/
def BldAt (w : World) (b : Nat) (q : Option Nat) (l : Bytes) : Prop :=
  ∃ p v, (p = .pointer none ∨ p = .pointer (some ⟨b, 0, none⟩)) ∧ Blk w b 69 #[p, v] ∧ OwnB w 0 5 v l ∧ v.ownBlock = q
theorem BldAt.lt {w : World} {b : Nat} {q : Option Nat} {l : Bytes} (h : BldAt w b q l) : b < w.heap.size ∧ ∀ k, q = some k → k < w.heap.size := by
  obtain ⟨p, v, _, h1, h2, h3⟩ := h
  exact ⟨h1.lt, fun k hk => own_lt h2 (h3.trans hk)⟩
theorem BldAt.new (w : World) : BldAt (w.alloc (.cells #[.pointer none, .slice none 0 0] 69)) w.heap.size none [] :=
  ⟨_, _, .inl rfl, Blk.new w _ _, World.ownsRow_nil _ _ _ _, rfl⟩
theorem shape_of_blk {w : World} {g : Nat} {t : TypeId} {cs : Array Value} (h : Blk w g t cs) : w.shape? g = some (t, cs.size) := by
  unfold Blk at h
  simp [World.shape?, h]
theorem bld_info : (Tryz.prog.info? 69).map (·.size) = some 2 := by kernel_rfl
theorem bld_lies : liesAt Tryz.prog Tryz.prog.depth 69 (2 / Tryz.prog.cellsOf 69) 0 69 1 = true := by kernel_rfl
set_option maxRecDepth 100000 in
theorem copyCheck_used (b : Nat) (v : Value) (w : World) (h : Blk w b 69 #[.pointer (some ⟨b, 0, none⟩), v]) :
    Calls Tryz.prog 51 #[.pointer (some ⟨b, 0, none⟩)] w fun e w' => e = .returned (.tuple #[]) ∧ w = w' := by
  obtain ⟨j, hj, _⟩ := Option.map_eq_some_iff.1 bld_info
  have c0 := h.cell 0
  go_enter Tryz.func51, Tryz.ntmps51
  go_wp2
  rw [Lib.run_neq_ptr_same w _ Tryz.underlying67 hj]
  go_wp2
  go_end0
  exact ⟨rfl, rfl⟩
set_option maxRecDepth 100000 in
theorem copyCheck_fresh (b : Nat) (v : Value) (w : World) (h : Blk w b 69 #[.pointer none, v]) :
    Calls Tryz.prog 51 #[.pointer (some ⟨b, 0, none⟩)] w fun e w' => e = .returned (.tuple #[]) ∧ w' = w.setCell ⟨b, 0, none⟩ (.pointer (some ⟨b, 0, none⟩)) := by
  obtain ⟨j, hj, hjs⟩ := Option.map_eq_some_iff.1 bld_info
  have c0 := h.cell 0
  have f0 := h.frozen 0
  have hsh : w.shape? b = some (69, 2) := shape_of_blk h
  go_enter Tryz.func51, Tryz.ntmps51
  go_wp2
  rw [Lib.run_to_unsafe w ⟨b, 0, none⟩ Tryz.underlying67 Tryz.underlying127 hj (by rw [hjs]; decide) hsh (Nat.zero_lt_succ 1)]
  simp only [Result.andThen]
  rw [Oper.upon_value]
  go_wp2
  rw [run_callFunc_extern Tryz.func68 (by kernel_rfl) (by kernel_rfl) (by kernel_rfl) (e := Extern.AbiNoEscape.same) (by kernel_rfl)]
  rw [Lib.run_noEscape]
  simp only [Result.andThen]
  rw [Oper.upon_value]
  go_wp2
  rw [Lib.run_from_unsafe w ⟨b, 0, none⟩ Tryz.underlying127 Tryz.underlying67 hj hsh bld_lies]
  simp only [Result.andThen]
  rw [Oper.upon_value]
  go_wp2
  go_end0
  exact ⟨rfl, rfl⟩
theorem copyCheck_any (b : Nat) (p v : Value) (w : World) (hp : p = .pointer none ∨ p = .pointer (some ⟨b, 0, none⟩)) (h : Blk w b 69 #[p, v]) :
    Calls Tryz.prog 51 #[.pointer (some ⟨b, 0, none⟩)] w fun e w' => e = .returned (.tuple #[]) ∧ Blk w' b 69 #[.pointer (some ⟨b, 0, none⟩), v] ∧ (w' = w ∨ w' = w.setCell ⟨b, 0, none⟩ (.pointer (some ⟨b, 0, none⟩))) := by
  rcases hp with rfl | rfl
  · refine (copyCheck_fresh b v w h).mono ?_
    rintro e w' ⟨rfl, rfl⟩
    exact ⟨rfl, h.set_ 0 _, .inr rfl⟩
  · refine (copyCheck_used b v w h).mono ?_
    rintro e w' ⟨rfl, rfl⟩
    exact ⟨rfl, h, .inl rfl⟩
set_option maxRecDepth 100000 in
theorem writeByte_any (b : Nat) (q : Option Nat) (l : Bytes) (c : UInt8) (w : World) (hl : l.length ≤ 1000000000) (hb0 : BldAt w b q l) :
    Calls Tryz.prog 24 #[.pointer (some ⟨b, 0, none⟩), .int .u8 (c.toNat : Int)] w fun e w' => e = .returned .nilIface ∧ ∃ q', BldAt w' b q' (l ++ [c]) ∧ Upd b q w w' q' := by
  obtain ⟨p, v, hp, hb, hown, hq⟩ := hb0
  have hq' := Lib.hid hq
  clear hq
  go_enter Tryz.func24, Tryz.ntmps24
  go_wp2_with fail
  refine (copyCheck_any b p v w hp hb).mono ?_
  rintro e w1 ⟨rfl, hb1, hw1⟩
  have hn := own_blk_ne hown hb (by decide)
  have hown1 : OwnB w1 0 5 v l := by
    rcases hw1 with rfl | rfl
    · exact hown
    · exact own_far hown hn _
  have hu1 : Upd b q w w1 q := by
    rcases hw1 with rfl | rfl
    · exact Upd.refl _ _ _
    · exact (Upd.refl _ _ _).setCell 0 _
  have c1 := hb1.cell 1
  have f1 := hb1.frozen 1
  have hn0 := own_blk_ne hown1 hb1 (by decide)
  have hlt := hb1.lt
  have hb2 : Byt (w1.alloc (.cells #[.int .u8 (c.toNat : Int)] 5)) (w1.heap.size + 1) (.slice (some ⟨w1.heap.size, 0, none⟩) 1 1) [c] :=
    byt_built w1 _ [c] _ (by simp [bvs, bv]) (by simp [maxLen])
  clear hw1 hown hn
  go_wp2_with (at_builtin; refine app_bytes rfl _ _ rfl 0 v _ rfl (hown1.alloc _) _ _ _ rfl hb2 (by simp; omega) (by omega) ?_; intro v' w3 hown3 hg3 hf3; obtain ⟨A3, n3, c3, rfl⟩ := slice_of_own hown3; have hb3 := (hb1.alloc _).grown hg3 (Ne.symm hn0); have hc3 := hb3.cell 1; have hfz3 := hb3.frozen 1)
  go_ret
  have hn1 := own_blk_ne hown3 hb3 (by decide)
  have hq := hq'.out
  subst hq
  exact ⟨rfl, _, ⟨_, _, .inr rfl, hb3.set_ 1 _, own_far hown3 (a := ⟨b, 1, none⟩) hn1 _, rfl⟩, ((hu1.alloc _).grown hg3 hf3).setCell 1 _⟩
theorem string_any (b : Nat) (q : Option Nat) (l : Bytes) (w : World) (hb : BldAt w b q l) (hqb : ∀ k, q = some k → b ≤ k) :
    Calls Tryz.prog 25 #[.pointer (some ⟨b, 0, none⟩)] w fun e w' => e = .returned (.string (strB l)) ∧ Below b w w' := by
  obtain ⟨p, v, hp, hb, hown, hq⟩ := hb
  have hn := own_blk_ne hown hb (by decide)
  have hlen : (Lib.byteCells l).length = l.length := by simp [Lib.byteCells]
  have hat : Lib.IsBuilder 69 5 b b (Lib.byteCells l) w := by
    have : w.ownsRow b 5 1 v (Lib.byteCells l).length (Lib.byteCells l) := by rw [hlen]; exact World.ownsRow_base hown (fun k hk => hqb k (hq.symm.trans hk))
    rcases hp with rfl | rfl
    · exact .inl ⟨Nat.le_refl _, v, hb, this, hn⟩
    · exact .inr ⟨Nat.le_refl _, v, hb, this, hn⟩
  exact Tryz.Builder_String_any b b l w hat (Nat.le_of_lt hb.lt)
end Go.Proofs.YtcilabemglbhbaaGreatDoor

/- block.about: a hash, turned about (slices.Reverse). -/
namespace Go.Proofs.YtcilabemglbhbaaGreatDoor
open Go Go.RowKit Go.Pur

/-- the 32 bytes of cs are those of l, the first k and the last k turned about. -/
def RevAt (cs : Array Value) (l : Bytes) (k : Nat) : Prop := cs.size = 32 ∧ ∀ j, j < 32 → cs[j]? = some (bv (l.getD (if j < k ∨ 32 - k ≤ j then 31 - j else j) 0))
theorem RevAt.begin_ (l : Bytes) (h : l.length = 32) : RevAt (bvs l).toArray l 0 := by
  refine ⟨by simp [bvs_length, h], fun j hj => ?_⟩
  rw [if_neg (by omega)]
  simp [bvs, List.getD_eq_getElem?_getD, List.getElem?_eq_getElem (show j < l.length by omega)]
theorem RevAt.end_ {cs : Array Value} {l : Bytes} (h : RevAt cs l 16) (hl : l.length = 32) : cs = (bvs l.reverse).toArray := by
  apply Array.ext_getElem?
  intro j
  by_cases hj : j < 32
  · rw [h.2 j hj, if_pos (by omega)]
    simp only [List.getElem?_toArray, bvs, List.getElem?_map]
    rw [List.getElem?_reverse (by omega), List.getD_eq_getElem?_getD, hl]
    rw [show 32 - 1 - j = 31 - j by omega, List.getElem?_eq_getElem (show 31 - j < l.length by omega)]
    rfl
  · rw [Array.getElem?_eq_none (by have := h.1; omega), Array.getElem?_eq_none (by simp [bvs_length, hl]; omega)]
theorem RevAt.step {cs : Array Value} {l : Bytes} {k : Nat} (h : RevAt cs l k) (hk : k < 16) :
    RevAt ((cs.setIfInBounds k (bv (l.getD (31 - k) 0))).setIfInBounds (31 - k) (bv (l.getD k 0))) l (k + 1) := by
  refine ⟨by simp [h.1], fun j hj => ?_⟩
  by_cases h1 : j = 31 - k
  · subst h1
    rw [Array.getElem?_setIfInBounds_self_of_lt (by simp [h.1]; omega), if_pos (by omega), show 31 - (31 - k) = k by omega]
  · rw [Array.getElem?_setIfInBounds_ne (Ne.symm h1)]
    by_cases h2 : j = k
    · subst h2
      rw [Array.getElem?_setIfInBounds_self_of_lt (by rw [h.1]; omega), if_pos (by omega)]
    · rw [Array.getElem?_setIfInBounds_ne (Ne.symm h2), h.2 j hj]
      by_cases h3 : j < k ∨ 32 - k ≤ j
      · rw [if_pos h3, if_pos (by omega)]
      · rw [if_neg h3, if_neg (by omega)]
set_option maxRecDepth 100000 in
set_option maxHeartbeats 1600000 in
theorem reverse_any (g : Nat) (t : TypeId) (l : Bytes) (w : World) (hl : l.length = 32) (hb : Blk w g t (bvs l).toArray) :
    Calls Tryz.prog 50 #[.slice (some ⟨g, 0, none⟩) 32 32] w fun e w' => e = .returned (.tuple #[]) ∧ Blk w' g t (bvs l.reverse).toArray ∧ Upd g none w w' none := by
  go_enter Tryz.func50, Tryz.ntmps50
  go_wp2_with fail
  go_loopw [2, 3] (fun i j wr => ∃ (k m : Nat) (cs : Array Value), k ≤ 16 ∧ k + m = 31 ∧ i = .int .i64 (k : Int) ∧ j = .int .i64 (m : Int) ∧ Blk wr g t cs ∧ RevAt cs l k ∧ Upd g none w wr none) (fun i _ _ => 16 - (intOf i).toNat)
  case atStart => exact ⟨0, 31, _, by omega, rfl, rfl, rfl, hb, RevAt.begin_ l hl, Upd.refl _ _ _⟩
  case round =>
    obtain ⟨k, m, cs, hk, hkm, rfl, rfl, hbk, hr, hu⟩ := hrel
    have hm : 31 - k = m := by omega
    by_cases hlt : k < 16
    · have d1 := (hbk.cell k).trans (hr.2 k (by omega))
      have d2 := (hbk.cell m).trans (hr.2 m (by omega))
      rw [if_neg (by omega)] at d1 d2
      have hst := hr.step hlt
      rw [hm] at hst
      generalize l.getD k 0 = x at *
      generalize l.getD m 0 = y at *
      unfold bv at d1 d2
      have f1 := hbk.frozen k
      have f2 := hbk.frozen m
      have f3 := (hbk.set_ k (bv y)).frozen m
      unfold bv at f3
      have hne : m ≠ k := by omega
      have k1 : k < m := by omega
      have hst' := Lib.hid hst
      clear hst hr hm hl
      go_wp2_with fail
      go_region_with fail
      all_goals
        go_wp2_with fail
        go_roundw
        case rel => exact ⟨k + 1, m - 1, _, by omega, by omega, by go_num, by go_num, ((hbk.set_ k _).set_ m _).drew, hst'.out, ((hu.setCell k _).setCell m _).drew⟩
        case measure => simp [intOf]; omega
    · have hk16 : k = 16 := by omega
      subst hk16
      have hm15 : m = 15 := by omega
      subst hm15
      have e := hr.end_ hl
      subst e
      have hl' := Lib.hid hl
      clear hr hl
      simp only [Int.cast_ofNat_Int] at *
      go_wp2_with fail
      go_end0
      exact ⟨rfl, hbk, hu⟩

theorem hash_one (l : Bytes) : (bvs l).toArray.all (·.oneCell') = true := by
  rw [Array.all_eq_true_iff_forall_mem]
  intro u hu
  exact bvs_one _ u (by simpa using hu)
set_option maxRecDepth 100000 in
set_option maxHeartbeats 1600000 in
theorem about_any (l : Bytes) (w : World) (hl : l.length = 32) :
    Calls Tryz.prog 23 #[.agg (bvs l).toArray] w fun e w' => e = .returned (.agg (bvs l.reverse).toArray) ∧ Below w.heap.size w w' := by
  obtain ⟨W1, hW1⟩ : ∃ W1, W1 = (w.alloc (.cells (bvs l).toArray 24)).alloc (.cells zero32 24) := ⟨_, rfl⟩
  have hz : (#[.int .u8 0, .int .u8 0, .int .u8 0, .int .u8 0, .int .u8 0, .int .u8 0, .int .u8 0, .int .u8 0, .int .u8 0, .int .u8 0, .int .u8 0, .int .u8 0, .int .u8 0, .int .u8 0, .int .u8 0, .int .u8 0, .int .u8 0, .int .u8 0, .int .u8 0, .int .u8 0, .int .u8 0, .int .u8 0, .int .u8 0, .int .u8 0, .int .u8 0, .int .u8 0, .int .u8 0, .int .u8 0, .int .u8 0, .int .u8 0, .int .u8 0, .int .u8 0] : Array Value) = zero32 := rfl
  have hr1 : Blk W1 (w.heap.size + 1) 24 zero32 := by
    have := Blk.new (w.alloc (.cells (bvs l).toArray 24)) 24 zero32
    rw [hW1]
    simpa using this
  have hx1 : Blk W1 w.heap.size 24 (bvs l).toArray := by rw [hW1]; exact (Blk.new w _ _).alloc _
  have hb1 : Below w.heap.size w W1 := by rw [hW1]; exact ((Below.refl _ _).alloc (Nat.le_refl _) _).alloc (by simp) _
  have hs1 := hr1.lt
  go_enter Tryz.func23, Tryz.ntmps23
  go_wp2_with fail
  rw [← hW1]
  clear hW1 hz
  refine (reverse_any w.heap.size _ l W1 hl hx1).mono ?_
  rintro e w2 ⟨rfl, hx2, hu2⟩
  have hr2 := hu2.blk hr1 (by omega) (by simp)
  have hb2 : Below w.heap.size w w2 := hb1.trans (hu2.below (by omega) (Nat.le_refl _) (by simp))
  have hcells : ∀ j u, (bvs l.reverse)[j]? = some u → w2.cell? ⟨w.heap.size, 0 + j, none⟩ = some u := fun j u hu => by
    rw [Nat.zero_add, hx2.cell j]; simpa using hu
  have hlen : Hid ((bvs l.reverse).length = 32) := Lib.hid (by rw [bvs_length, List.length_reverse, hl])
  have hone := hash_one l.reverse
  clear hl hx1 hr1 hu2 hb1
  generalize hH : bvs l.reverse = H at *
  have hH' := Lib.hid hH
  clear hH
  have tok1 : True := trivial
  have tok2 : True := trivial
  go_wp2_with (first
    | (have _t := tok1; refine wpList_load_at rfl 24 (.tmp 1) rfl w.heap.size 0 rfl H _ hcells Tryz.underlying24 rfl (by rw [hashinfo, hlen.out]) ?_; clear tok1)
    | (have _t := tok2; refine wpList_store_row rfl 24 (.tmp 2) (.tmp 5) rfl (w.heap.size + 1) H.toArray rfl rfl _ _ hr2 (by rw [hashinfo]; simp [hlen.out]) (by simp [hlen.out, zero32, bvs]) hone ?_; clear tok2))
  (try simp only [Exit.inBlock, Exit.then])
  refine bodyPost_ret (results_cell_at rfl _ _ (w.heap.size + 1) H _ rfl (cells_of_blk (setRow_blk hr2)) Tryz.underlying24 rfl (by rw [hashinfo, hlen.out])) rfl ⟨by rw [← hH'.out], setRow_below hb2 (by omega)⟩
end Go.Proofs.YtcilabemglbhbaaGreatDoor
