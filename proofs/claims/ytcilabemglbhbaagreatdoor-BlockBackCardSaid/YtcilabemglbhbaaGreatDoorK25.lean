/- tx's reader: an input, an output. -/
import Derived.Test.YtcilabemglbhbaaGreatDoorK23
import Derived.Test.YtcilabemglbhbaaGreatDoorK24
import Derived.Test.YtcilabemglbhbaaGreatDoorK9
import Derived.Test.YtcilabemglbhbaaGreatDoorK10
import Derived.Laws.CopyRow
namespace Go.Proofs.YtcilabemglbhbaaGreatDoor
open Go Go.RowKit Go.Pur

def icells (tx : Bytes) (n : Nat) (sv : Value) (q : Nat) : List Value := bvs tx ++ [.int .u32 (n : Int), sv, .int .u32 (q : Int)]
theorem icells_in (x : TIn) (sv : Value) : icells x.tx x.n sv x.seq = inCells x sv := rfl
theorem icells_zero : (#[.int .u8 0, .int .u8 0, .int .u8 0, .int .u8 0, .int .u8 0, .int .u8 0, .int .u8 0, .int .u8 0, .int .u8 0, .int .u8 0, .int .u8 0, .int .u8 0, .int .u8 0, .int .u8 0, .int .u8 0, .int .u8 0, .int .u8 0, .int .u8 0, .int .u8 0, .int .u8 0, .int .u8 0, .int .u8 0, .int .u8 0, .int .u8 0, .int .u8 0, .int .u8 0, .int .u8 0, .int .u8 0, .int .u8 0, .int .u8 0, .int .u8 0, .int .u8 0, .int .u32 0, .slice none 0 0, .int .u32 0] : Array Value) = (icells (List.replicate 32 0) 0 (.slice none 0 0) 0).toArray := rfl
theorem icells_set32 (tx : Bytes) (n m : Nat) (sv : Value) (q : Nat) (h : tx.length = 32) : (icells tx n sv q).toArray.setIfInBounds 32 (.int .u32 (m : Int)) = (icells tx m sv q).toArray := by
  apply Array.ext'
  have hb : (bvs tx).length = 32 := by rw [bvs_length, h]
  simp [icells, hb]
theorem icells_set33 (tx : Bytes) (n : Nat) (sv sv' : Value) (q : Nat) (h : tx.length = 32) : (icells tx n sv q).toArray.setIfInBounds 33 sv' = (icells tx n sv' q).toArray := by
  apply Array.ext'
  have hb : (bvs tx).length = 32 := by rw [bvs_length, h]
  simp [icells, hb]
theorem icells_set34 (tx : Bytes) (n : Nat) (sv : Value) (q m : Nat) (h : tx.length = 32) : (icells tx n sv q).toArray.setIfInBounds 34 (.int .u32 (m : Int)) = (icells tx n sv m).toArray := by
  apply Array.ext'
  have hb : (bvs tx).length = 32 := by rw [bvs_length, h]
  simp [icells, hb]
theorem icells_at (tx : Bytes) (n : Nat) (sv : Value) (q : Nat) (h : tx.length = 32) : (icells tx n sv q).toArray[32]? = some (.int .u32 (n : Int)) ∧ (icells tx n sv q).toArray[33]? = some sv ∧ (icells tx n sv q).toArray[34]? = some (.int .u32 (q : Int)) := by
  simp [icells, bvs_length, h]
theorem icells_copy (tx : Bytes) (n : Nat) (sv : Value) (q : Nat) (b : Bytes) (h : tx.length = 32) (hb : b.length = 32) :
    ((icells tx n sv q).toArray.toList.take 0 ++ bvs b ++ (icells tx n sv q).toArray.toList.drop (0 + (bvs b).length)).toArray = (icells b n sv q).toArray := by
  have h1 : (bvs tx).length = 32 := by rw [bvs_length, h]
  simp [icells, bvs_length, hb, h1]

theorem turns_setRow (w : World) (g : Nat) (cs : Array Value) : Turns [g] w (w.setRow g cs) :=
  ⟨rfl, rfl, rfl, by simp [World.setRow], fun k hk hn => by
    unfold World.setRow
    simp only
    rw [Array.getElem?_modify, if_neg (by simp at hn; omega)]⟩
theorem copy_own {W : World} {g : Nat} {tx b : Bytes} {n q base : Nat} {sv v : Value} (ty : TypeId) (hg : Blk W g 89 (icells tx n sv q).toArray) (ht : tx.length = 32) (hv : OwnB W base 5 v b) (hb : b.length = 32) :
    (Builtin.copy_ #[30, 30] ty #[.slice (some ⟨g, 0, none⟩) 32 32, v]).run Tryz.prog W = .ok (goInt 32) (W.setRow g (icells b n sv q).toArray) := by
  obtain ⟨gb, cap, hvv, _, _⟩ := hv.form (by omega)
  subst hvv
  have hbl : (bvs b).length = 32 := by rw [bvs_length, hb]
  have := run_copy_row (P := Tryz.prog) W 30 30 ty 5 g 0 32 32 ⟨gb, 0, none⟩ b.length cap _ _ (bvs b) Tryz.underlying30 (by kernel_rfl) hg (by rw [hbl, hb]; rfl) (fun j u hu => hv.cells (g := gb) rfl j u hu) (by simp [icells, bvs_length, hb, ht]) (bvs_one b)
  rw [icells_copy tx n sv q b ht hb, hbl] at this
  exact this
theorem copy_nil (W : World) (g : Nat) (ty : TypeId) : (Builtin.copy_ #[30, 30] ty #[.slice (some ⟨g, 0, none⟩) 32 32, .slice none 0 0]).run Tryz.prog W = .ok (goInt 0) W :=
  run_copy_nil (P := Tryz.prog) W 30 30 ty 5 ⟨g, 0, none⟩ 32 32 Tryz.underlying30 (by kernel_rfl)
def InPost (r p : Nat) (s : Bytes × Bool) (w : World) (e : Ending) (w' : World) : Prop :=
  ∃ sv, e = .returned (.agg (inCells (rIn s).1 sv).toArray) ∧ OwnB w' w.heap.size 5 sv (rIn s).1.script ∧ RdAt w' r p (rIn s).2 ∧ Turns [p, r] w w'
set_option maxRecDepth 100000 in
set_option maxHeartbeats 1600000 in
theorem in_any (r p : Nat) (s : Bytes × Bool) (w : World) (h : RdAt w r p s) (hl : s.1.length ≤ 10000000000) : Calls Tryz.prog 71 #[.pointer (some ⟨r, 0, none⟩)] w (InPost r p s w) := by
  have h0 := h
  obtain ⟨hr, he, hpr⟩ := h
  have hrl := hr.lt
  obtain ⟨W1, hW1⟩ : ∃ W1, W1 = (w.alloc (.cells (icells (List.replicate 32 0) 0 (.slice none 0 0) 0).toArray 89)).alloc (.cells (icells (List.replicate 32 0) 0 (.slice none 0 0) 0).toArray 89) := ⟨_, rfl⟩
  have hb1 : Below w.heap.size w W1 := by rw [hW1]; exact ((Below.refl _ _).alloc (Nat.le_refl _) _).alloc (by simp) _
  have hx1 : Blk W1 (w.heap.size + 1) 89 (icells (List.replicate 32 0) 0 (.slice none 0 0) 0).toArray := by
    rw [hW1]
    have := Blk.new (w.alloc (.cells (icells (List.replicate 32 0) 0 (.slice none 0 0) 0).toArray 89)) 89 (icells (List.replicate 32 0) 0 (.slice none 0 0) 0).toArray
    simpa using this
  have hz1 : Blk W1 w.heap.size 89 (icells (List.replicate 32 0) 0 (.slice none 0 0) 0).toArray := by rw [hW1]; exact (Blk.new w _ _).alloc _
  have hr1 := h0.below hb1
  have c0 := hr.cell 0
  rw [← icells_zero] at hW1
  have hraw := eraw_any p 32 s.1 W1 hr1.2.1 hl
  go_enter Tryz.func71, Tryz.ntmps71
  go_wp2_with fail
  rw [← hW1]
  refine hraw.mono ?_
  clear hW1
  rintro e w2 ⟨ht2, ⟨hl2, v2, rfl, ho2, he2⟩ | ⟨hl2, rfl, he2⟩⟩
  obtain ⟨A2, m2, d2, rfl⟩ := slice_of_own ho2
  have hr2 := rd_blk_turns hr1.1 ht2 hpr
  have e1 : rRaw s = (s.1.take 32, (s.1.drop 32, s.2)) := by rw [rRaw, if_pos hl2]
  have e1' := Lib.hid e1
  clear e1
  go_wp2_with fail
  refine (kept_ok r _ s.2 w2 hr2).mono ?_
  rintro e w3 ⟨rfl, hr3, ht3⟩
  have ht02 : Turns [p, r] w w2 := (Turns.of_below hb1).trans (ht2.more (by simp))
  have hx2 := ht2.blk hx1 (by simp; omega)
  have hz2 := ht2.blk hz1 (by simp; omega)
  have hx3 := ht3.blk hx2 (by simp; omega)
  have hz3 := ht3.blk hz2 (by simp; omega)
  have ho3 := ht3.own ho2 (fun g hg e => own_blk_ne ho2 hr2 (by decide) (hg.trans (congrArg some (List.mem_singleton.1 e))))
  obtain ⟨W4, hW4⟩ : ∃ W4, W4 = w3.setRow (w.heap.size + 1) (icells (s.1.take 32) 0 (.slice none 0 0) 0).toArray := ⟨_, rfl⟩
  have hx4 : Blk W4 (w.heap.size + 1) 89 (icells (rRaw s).1 0 (.slice none 0 0) 0).toArray := by rw [hW4, e1'.out]; exact setRow_blk hx3
  have hz4 : Blk W4 w.heap.size 89 (icells (List.replicate 32 0) 0 (.slice none 0 0) 0).toArray := by rw [hW4]; exact setRow_far hz3 (by omega)
  have ht34 : Turns [w.heap.size + 1] w3 W4 := by
    rw [hW4]
    exact ⟨rfl, rfl, rfl, by simp [World.setRow], fun k hk hn => by
      unfold World.setRow
      simp only
      rw [Array.getElem?_modify, if_neg (by simp at hn; omega)]⟩
  have hrd4 : RdAt W4 r p (rRaw s).2 := by rw [e1'.out]; exact RdAt.turns ⟨hr3, eye_turns_r he2 ht3 hpr, hpr⟩ ht34 (by simp; omega)
  have ht4 : Turns [p, r] w W4 := by
    have h1 := (ht02.trans (ht3.more (qs := [p, r]) (by simp)))
    exact ((h1.more (qs := [p, r, w.heap.size + 1]) (by simp)).trans (ht34.more (by simp))).less (by simp)
  have hcp : ∀ ty, (Builtin.copy_ #[30, 30] ty #[.slice (some ⟨w.heap.size + 1, 0, none⟩) 32 32, .slice A2 m2 d2]).run Tryz.prog w3 = .ok (goInt 32) W4 := fun ty => by
    rw [hW4]
    exact copy_own ty hx3 (by simp) ho3 (by rw [List.length_take]; omega)
  clear hW4 ht34 ho2 ho3 hx3 hz3 hx2 hz2 hr2 hr3 ht3 ht02 ht2 e1' he2 hraw hx1 hz1 hr1
  go_wp2_with fail
  rotate_left
  have hr2 := rd_blk_turns hr1.1 ht2 hpr
  have e1 : rRaw s = (List.replicate 32 0, (s.1, true)) := by rw [rRaw, if_neg (by omega)]
  have e1' := Lib.hid e1
  clear e1
  go_wp2_with fail
  refine (kept_no r _ s.2 w2 hr2).mono ?_
  rintro e W4 ⟨rfl, hr3, ht3⟩
  have ht4 : Turns [p, r] w W4 := ((Turns.of_below hb1).trans (ht2.more (by simp))).trans (ht3.more (qs := [p, r]) (by simp))
  have hx4 : Blk W4 (w.heap.size + 1) 89 (icells (rRaw s).1 0 (.slice none 0 0) 0).toArray := by rw [e1'.out]; exact ht3.blk (ht2.blk hx1 (by simp; omega)) (by simp; omega)
  have hz4 := ht3.blk (ht2.blk hz1 (by simp; omega)) (by simp; omega)
  have hrd4 : RdAt W4 r p (rRaw s).2 := by rw [e1'.out]; exact ⟨hr3, eye_turns_r he2 ht3 hpr, hpr⟩
  have hcp := fun ty => copy_nil W4 (w.heap.size + 1) ty
  clear hr2 hr3 ht3 ht2 e1' he2 hraw hx1 hz1 hr1
  go_wp2_with fail
  all_goals
    clear hcp
    have hs0 := rRaw_length s
    have hgl := hx4.lt
    refine (four_any r p (rRaw s).2 W4 hrd4).mono ?_
    rintro e w5 ⟨rfl, hrd5, ht5⟩
    have hx5 := ht5.blk hx4 (by simp; omega)
    have hz5 := ht5.blk hz4 (by simp; omega)
    have n5 := (hx5.cell 32).trans (icells_at _ _ _ _ hs0).1
    have f5 := hx5.frozen 32
    go_wp2_with fail
    obtain ⟨W6, hW6⟩ : ∃ W6, W6 = w5.setCell ⟨w.heap.size + 1, 32, none⟩ (.int .u32 ((rFour (rRaw s).2).1 : Int)) := ⟨_, rfl⟩
    rw [← hW6]
    have hx6 : Blk W6 (w.heap.size + 1) 89 (icells (rRaw s).1 (rFour (rRaw s).2).1 (.slice none 0 0) 0).toArray := by rw [hW6, ← icells_set32 _ 0 _ _ _ hs0]; exact hx5.set_ 32 _
    have hz6 : Blk W6 w.heap.size 89 (icells (List.replicate 32 0) 0 (.slice none 0 0) 0).toArray := by rw [hW6]; exact hz5.far (p := ⟨w.heap.size + 1, 32, none⟩) (by simp) _
    have ht6 : Turns [w.heap.size + 1] w5 W6 := by rw [hW6]; exact (Turns.refl _ _).setCell (by simp) 32 _
    have hrd6 := hrd5.turns ht6 (by simp; omega)
    have hs5 := ht5.size
    have ht6' : Turns [p, r, w.heap.size + 1] w W6 := ((ht4.trans ht5).more (by simp)).trans (ht6.more (by simp))
    have hg6 := hx6.lt
    clear hW6 n5 f5 ht6 hx4 hz4 hrd4 hx5 hz5 hrd5
    refine (script_any r p (rFour (rRaw s).2).2 W6 hrd6).mono ?_
    rintro e w7 ⟨v7, rfl, ho7, hrd7, ht7⟩
    obtain ⟨A7, m7, d7, rfl⟩ := slice_of_own ho7
    have hx7 := ht7.blk hx6 (by simp; omega)
    have hz7 := ht7.blk hz6 (by simp; omega)
    have n7 := (hx7.cell 33).trans (icells_at _ _ _ _ hs0).2.1
    have f7 := hx7.frozen 33
    go_wp2_with fail
    obtain ⟨W8, hW8⟩ : ∃ W8, W8 = w7.setCell ⟨w.heap.size + 1, 33, none⟩ (.slice A7 m7 d7) := ⟨_, rfl⟩
    rw [← hW8]
    have hx8 : Blk W8 (w.heap.size + 1) 89 (icells (rRaw s).1 (rFour (rRaw s).2).1 (.slice A7 m7 d7) 0).toArray := by rw [hW8, ← icells_set33 _ _ (.slice none 0 0) _ _ hs0]; exact hx7.set_ 33 _
    have hz8 : Blk W8 w.heap.size 89 (icells (List.replicate 32 0) 0 (.slice none 0 0) 0).toArray := by rw [hW8]; exact hz7.far (p := ⟨w.heap.size + 1, 33, none⟩) (by simp) _
    have ho8 : OwnB W8 W6.heap.size 5 (.slice A7 m7 d7) (rScr (rFour (rRaw s).2).2).1 := by rw [hW8]; exact own_far ho7 (a := ⟨w.heap.size + 1, 33, none⟩) (own_blk_ne ho7 hx7 (by decide)) _
    have ht8 : Turns [w.heap.size + 1] w7 W8 := by rw [hW8]; exact (Turns.refl _ _).setCell (by simp) 33 _
    have hrd8 := hrd7.turns ht8 (by simp; omega)
    have ht8' : Turns [p, r, w.heap.size + 1] w W8 := (ht6'.trans (ht7.more (by simp))).trans (ht8.more (by simp))
    clear hW8 n7 f7 ht8 hx6 hz6 hrd6 hx7 hz7 hrd7 ho7
    refine (four_any r p (rScr (rFour (rRaw s).2).2).2 W8 hrd8).mono ?_
    rintro e w9 ⟨rfl, hrd9, ht9⟩
    have hx9 := ht9.blk hx8 (by simp; omega)
    have hz9 := ht9.blk hz8 (by simp; omega)
    have ho9 := ht9.own ho8 (fun g hg e => by
      have := (ho8.lt g hg).1
      have h6 := ht6'.size
      simp only [List.mem_cons, List.not_mem_nil, or_false] at e
      omega)
    have n9 := (hx9.cell 34).trans (icells_at _ _ _ _ hs0).2.2
    have f9 := hx9.frozen 34
    have hx10 : Blk (w9.setCell ⟨w.heap.size + 1, 34, none⟩ (.int .u32 ((rFour (rScr (rFour (rRaw s).2).2).2).1 : Int))) (w.heap.size + 1) 89 (inCells (rIn s).1 (.slice A7 m7 d7)).toArray := by
      have := hx9.set_ 34 (.int .u32 ((rFour (rScr (rFour (rRaw s).2).2).2).1 : Int))
      rw [icells_set34 _ _ _ _ _ hs0] at this
      exact this
    have hz10 := hz9.far (p := ⟨w.heap.size + 1, 34, none⟩) (by simp) (.int .u32 ((rFour (rScr (rFour (rRaw s).2).2).2).1 : Int))
    have ho10 := own_far ho9 (a := ⟨w.heap.size + 1, 34, none⟩) (own_blk_ne ho9 hx9 (by decide)) (.int .u32 ((rFour (rScr (rFour (rRaw s).2).2).2).1 : Int))
    have ht10 : Turns [w.heap.size + 1] w9 (w9.setCell ⟨w.heap.size + 1, 34, none⟩ (.int .u32 ((rFour (rScr (rFour (rRaw s).2).2).2).1 : Int))) := (Turns.refl _ _).setCell (by simp) 34 _
    have hrd10 := hrd9.turns ht10 (by simp; omega)
    have ht10' : Turns [p, r] w (w9.setCell ⟨w.heap.size + 1, 34, none⟩ (.int .u32 ((rFour (rScr (rFour (rRaw s).2).2).2).1 : Int))) := ((ht8'.trans (ht9.more (by simp))).trans (ht10.more (by simp))).less (by simp)
    have hlen : Hid ((inCells (rIn s).1 (.slice A7 m7 d7)).length = 35) := Lib.hid (inCells_length _ _ hs0)
    have hone : (inCells (rIn s).1 (.slice A7 m7 d7)).toArray.all (·.oneCell') = true := inCells_one _ _ rfl
    have hzl : (icells (List.replicate 32 0) 0 (.slice none 0 0) 0).toArray.size = 35 := rfl
    have hzl' := Lib.hid hzl
    generalize icells (List.replicate 32 0) 0 (.slice none 0 0) 0 = Z at *
    generalize hH : inCells (rIn s).1 (.slice A7 m7 d7) = H at *
    have hH' := Lib.hid hH
    have hx6s := Nat.le_trans (Nat.le_trans ht6'.size ht7.size) (Nat.le_refl _)
    clear hH hzl
    have tok1 : True := trivial
    have tok2 : True := trivial
    go_wp2_with (first
      | (have _t := tok1; refine wpList_load_at rfl 89 (.tmp 3) rfl (w.heap.size + 1) 0 rfl H _ (fun j u hu => by rw [Nat.zero_add]; exact cells_of_blk hx10 j u hu) Tryz.underlying89 rfl (by rw [txinfo, hlen.out]) ?_; clear tok1)
      | (have _t := tok2; refine wpList_store_row rfl 89 (.tmp 2) (.tmp 32) rfl w.heap.size H.toArray rfl rfl _ _ hz10 (by rw [txinfo]; simp [hlen.out]) (by simp [hlen.out]; simpa using hzl'.out) hone ?_; clear tok2))
    (try simp only [Exit.inBlock, Exit.then])
    refine bodyPost_ret (results_cell_at rfl _ _ w.heap.size H _ rfl (cells_of_blk (setRow_blk hz10)) Tryz.underlying89 rfl (by rw [txinfo, hlen.out])) rfl ⟨.slice A7 m7 d7, by rw [hH'.out], ?_, ?_, ?_⟩
    · refine World.ownsRow_base ((turns_setRow _ _ _).own ho10 (fun g hg e => ?_)) (fun g hg => ?_)
      · have := (ho10.lt g hg).1
        have h6 := ht6'.size
        have h4 := hgl
        have h5 := ht4.size
        simp only [List.mem_cons, List.not_mem_nil, or_false] at e
        omega
      · have := (ho10.lt g hg).1
        have h6 := ht6'.size
        omega
    · exact hrd10.turns (turns_setRow _ _ _) (by simp; exact hrl)
    · exact ((ht10'.more (qs := [p, r, w.heap.size]) (by simp)).trans ((turns_setRow _ _ _).more (by simp))).less (by simp)
end Go.Proofs.YtcilabemglbhbaaGreatDoor
