/- sha's Sum: whether it was made, and its copy. -/
import Derived.Test.YtcilabemglbhbaaGreatDoorK11
namespace Go.Proofs.YtcilabemglbhbaaGreatDoor
open Go Go.RowKit Go.Pur

theorem all_range_ints (xs ys : List Int) (h : xs.length = ys.length) : ((List.range xs.length).all fun i => xs.getD i 0 == ys.getD i 0) = (xs == ys) := by
  rw [Bool.eq_iff_iff, List.all_eq_true, beq_iff_eq]
  constructor
  · intro hh
    apply List.ext_getElem h
    intro i h1 h2
    have := hh i (List.mem_range.2 h1)
    rw [List.getD_eq_getElem?_getD, List.getD_eq_getElem?_getD, List.getElem?_eq_getElem h1, List.getElem?_eq_getElem h2] at this
    simpa using this
  · rintro rfl i _
    simp
/-- arrays of numbers are the same just if the numbers are (turned after the library's law for bytes). -/
theorem run_equalIn_ints {P : Program} (w : World) (k : IntKind) (d : Nat) (t e : TypeId) (n : Nat) (ht : P.underlying t = some (.array n e)) (he : P.underlying e = some (.int k)) (hsz : ∀ w, (sizeOf e).run P w = .ok 1 w)
    (xs ys : List Int) (hx : xs.length = n) (hy : ys.length = n) :
    (Op.equalIn (d + 2) t (.agg (xs.map (Value.int k)).toArray) (.agg (ys.map (Value.int k)).toArray)).run P w = .ok (xs == ys) w := by
  rw [← all_range_ints xs ys (hx.trans hy.symm), hx, List.range_eq_range', Op.equalIn]
  simp only [Sem.run_bind, run_underlying ht, Result.andThen_ok, hsz, Std.Legacy.Range.forIn_eq_forIn_range', Std.Legacy.Range.size, Nat.sub_zero, Nat.add_sub_cancel, Nat.div_one]
  have hl : ∀ i ∈ List.range' 0 n 1, i < n := fun i hi => by simpa using (List.mem_range'_1.1 hi).2
  generalize List.range' 0 n 1 = l at hl ⊢
  induction l with
  | nil => simp
  | cons i l ih =>
    have hi : i < n := hl i (by simp)
    have px : (part e (xs.map (Value.int k)).toArray (i * 1)).run P w = .ok (.int k (xs.getD i 0)) w := by
      simp [part, isAgg, run_underlying he, List.getD, List.getElem?_eq_getElem (show i < xs.length by omega)]
    have py : (part e (ys.map (Value.int k)).toArray (i * 1)).run P w = .ok (.int k (ys.getD i 0)) w := by
      simp [part, isAgg, run_underlying he, List.getD, List.getElem?_eq_getElem (show i < ys.length by omega)]
    have pe : (Op.equalIn (d + 1) e (.int k (xs.getD i 0)) (.int k (ys.getD i 0))).run P w = .ok (xs.getD i 0 == ys.getD i 0) w := run_equalIn_int w d e k k _ _ he
    simp only [List.forIn_cons, Sem.run_bind, px, py, pe, Result.andThen_ok, List.all_cons]
    cases hb : (xs.getD i 0 == ys.getD i 0)
    · simp
    · simp only [Bool.not_true, Bool.false_eq_true, if_false, Sem.run_pure, Result.andThen_ok, Bool.true_and]
      exact ih fun j hj => hl j (by simp [hj])

def S8.ints (s : S8) : List Int := [s.a, s.b, s.c, s.d, s.e, s.f, s.g, s.h]
def zeroS : S8 := ⟨0, 0, 0, 0, 0, 0, 0, 0⟩
/-- the state is none that a sum can have. -/
def noneS (s : S8) : Bool := s.ints == [0, 0, 0, 0, 0, 0, 0, 0]
theorem size22 (w : World) : (sizeOf 22).run Tryz.prog w = .ok 1 w := by
  obtain ⟨i, hi, hs⟩ : ∃ i, Tryz.prog.info? 22 = some i ∧ i.size = 1 := by
    have h : (Tryz.prog.info? 22).map (·.size) = some 1 := by kernel_rfl
    obtain ⟨i, hi, hs⟩ := Option.map_eq_some_iff.1 h
    exact ⟨i, hi, hs⟩
  simp [sizeOf, typeInfo, hi, hs]
theorem run_equalIn_S8 (w : World) (s : S8) : (Op.equalIn 10000 153 (.agg s.cells.toArray) (.agg zeroS.cells.toArray)).run Tryz.prog w = .ok (noneS s) w := by
  rw [show (10000 : Nat) = 9998 + 2 from rfl]
  have := run_equalIn_ints (P := Tryz.prog) w .u32 9998 153 22 8 Tryz.underlying153 Tryz.underlying22 size22 s.ints [0, 0, 0, 0, 0, 0, 0, 0] rfl rfl
  simp only [S8.ints, List.map_cons, List.map_nil] at this
  simp only [S8.cells, zeroS]
  rw [this]
  rfl

/-- block p is a sum: its state, what is left of a block, how many bytes there were. -/
def SumBlk (w : World) (p : Nat) (s : S8) (rv : Value) (n : Int) : Prop := Blk w p 156 (s.cells ++ [rv, .int .u64 n]).toArray
set_option maxRecDepth 100000 in
theorem none_any (p : Nat) (s : S8) (rv : Value) (n : Int) (w : World) (h : SumBlk w p s rv n) :
    Calls Tryz.prog 90 #[.pointer (some ⟨p, 0, none⟩)] w fun e w' => e = .returned (.bool (noneS s)) ∧ w' = w := by
  unfold SumBlk at h
  have heq := run_equalIn_S8 w s
  have q0 : w.cell? ⟨p, 0, none⟩ = some (.int .u32 s.a) := h.cell 0
  have q1 : w.cell? ⟨p, 1, none⟩ = some (.int .u32 s.b) := h.cell 1
  have q2 : w.cell? ⟨p, 2, none⟩ = some (.int .u32 s.c) := h.cell 2
  have q3 : w.cell? ⟨p, 3, none⟩ = some (.int .u32 s.d) := h.cell 3
  have q4 : w.cell? ⟨p, 4, none⟩ = some (.int .u32 s.e) := h.cell 4
  have q5 : w.cell? ⟨p, 5, none⟩ = some (.int .u32 s.f) := h.cell 5
  have q6 : w.cell? ⟨p, 6, none⟩ = some (.int .u32 s.g) := h.cell 6
  have q7 : w.cell? ⟨p, 7, none⟩ = some (.int .u32 s.h) := h.cell 7
  simp only [S8.cells, zeroS] at heq
  generalize noneS s = q at *
  go_enter Tryz.func90, Tryz.ntmps90
  go_wp2
  go_ret
  exact ⟨rfl, rfl⟩
end Go.Proofs.YtcilabemglbhbaaGreatDoor

/- sha's New and Copy. -/
namespace Go.Proofs.YtcilabemglbhbaaGreatDoor
open Go Go.RowKit Go.Pur

def sumCells (s : S8) (rv : Value) (n : Int) : List Value := s.cells ++ [rv, .int .u64 n]
theorem suminfo : (Tryz.prog.info? 156).map (·.size) = some 10 := by kernel_rfl
set_option maxRecDepth 100000 in
theorem new_any (w : World) : Calls Tryz.prog 78 #[] w fun e w' => ∃ p, e = .returned (.pointer (some ⟨p, 0, none⟩)) ∧ w.heap.size ≤ p ∧ SumBlk w' p squareS (.slice none 0 0) 0 ∧ Below w.heap.size w w' := by
  go_enter Tryz.func78, Tryz.ntmps78
  go_wp2_with fail
  refine (squares_any w).mono ?_
  rintro e w1 ⟨rfl, hb1⟩
  go_wp2_with fail
  go_ret
  exact ⟨w1.heap.size, rfl, hb1.size, Blk.new w1 _ _, hb1.alloc hb1.size _⟩

set_option maxRecDepth 100000 in
set_option maxHeartbeats 800000 in
theorem sumcopy_any (p : Nat) (s : S8) (rv : Value) (n : Int) (rest : Bytes) (B : Nat) (w : World) (hB : B ≤ w.heap.size) (h : SumBlk w p s rv n) (hs : noneS s = false) (hr : Byt w B rv rest) (hl : rest.length ≤ 1000) :
    Calls Tryz.prog 93 #[.pointer (some ⟨p, 0, none⟩)] w fun e w' => ∃ p2 rv2, e = .returned (.pointer (some ⟨p2, 0, none⟩)) ∧ w.heap.size ≤ p2 ∧ SumBlk w' p2 s rv2 n ∧ OwnB w' w.heap.size 5 rv2 rest ∧ Below w.heap.size w w' := by
  obtain ⟨A, m, c, rfl⟩ := slice_of_byt hr
  have hn := none_any p s (.slice A m c) n w h
  rw [hs] at hn
  have h0 := h
  have h : Blk w p 156 (sumCells s (.slice A m c) n).toArray := h
  have hcells : ∀ j u, (sumCells s (.slice A m c) n)[j]? = some u → w.cell? ⟨p, 0 + j, none⟩ = some u := fun j u hu => by rw [Nat.zero_add]; exact cells_of_blk h j u hu
  have hone : (sumCells s (.slice A m c) n).toArray.all (·.oneCell') = true := by kernel_rfl
  have hlen : Hid ((sumCells s (.slice A m c) n).length = 10) := Lib.hid rfl
  obtain ⟨W1, hW1⟩ : ∃ W1, w.alloc (.cells (sumCells s (.slice A m c) n).toArray 156) = W1 := ⟨_, rfl⟩
  have hp1 : Blk W1 p 156 (sumCells s (.slice A m c) n).toArray := by rw [← hW1]; exact h.alloc _
  have hb1 : Below w.heap.size w W1 := by rw [← hW1]; exact (Below.refl _ _).alloc (Nat.le_refl _) _
  have hq1 : Blk W1 w.heap.size 156 (sumCells s (.slice A m c) n).toArray := by rw [← hW1]; exact Blk.new w _ _
  have hrc : W1.cell? ⟨p, 8, none⟩ = some (.slice A m c) := hp1.cell 8
  have hc8 : (sumCells s (.slice A m c) n).toArray[8]? = some (.slice A m c) := rfl
  have hq8 : ∀ v : Value, (sumCells s (.slice A m c) n).toArray.setIfInBounds 8 v = (sumCells s v n).toArray := fun v => rfl
  have hq8' := Lib.hid hq8
  clear hq8
  generalize hcc : sumCells s (.slice A m c) n = cs at *
  have hcc' := Lib.hid hcc
  clear hcc h
  have tok1 : True := trivial
  have tok2 : True := trivial
  go_enter Tryz.func93, Tryz.ntmps93
  go_wp2_with (first
    | (go_at_call 90; refine hn.mono ?_; rintro e w' ⟨rfl, rfl⟩)
    | (have _t := tok1; refine wpList_load_at rfl 156 (.tmp 7) rfl p 0 rfl cs _ hcells Tryz.underlying156 rfl (by rw [suminfo, hlen.out]) ?_; clear tok1)
    | (have _t := tok2; refine wpList_store_new rfl 156 (.tmp 3) (.tmp 8) rfl cs.toArray rfl rfl _ _ (by rw [suminfo]; simp [hlen.out]) (by simp [hlen.out]) hone ?_; clear tok2))
  refine (clone_any _ rest B W1 (by omega) (hr.below (hb1.mono hB))).mono ?_
  rintro e w2 ⟨rv2, rfl, ho2, hb2⟩
  obtain ⟨A2, m2, c2, rfl⟩ := slice_of_own ho2
  have hq2 := hq1.below hb2 hq1.lt
  have g8 := (hq2.cell 8).trans hc8
  have f8 := hq2.frozen 8
  have hne := own_blk_ne ho2 hq2 (by decide)
  go_wp2_with fail
  go_ret
  refine ⟨_, _, rfl, Nat.le_refl _, ?_, own_far (World.ownsRow_base ho2 (fun k hk => Nat.le_trans hb1.size (ho2.lt k hk).1)) (a := ⟨w'.heap.size, 8, none⟩) hne _, (hb1.trans (hb2.mono hb1.size)).setCell (p := ⟨w'.heap.size, 8, none⟩) (Nat.le_refl _) _⟩
  have := hq2.set_ 8 (.slice A2 m2 c2)
  rw [hq8'.out] at this
  exact this
end Go.Proofs.YtcilabemglbhbaaGreatDoor
