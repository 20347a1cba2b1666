/- strings.Builder, as block.Show uses it: WriteByte, String. -/
import Derived.Test.YtcilabemglbhbaaDoorPurShelfD
import Derived.Test.YtcilabemglbhbaaDoorPurOctet
namespace Go.Proofs.YtcilabemglbhbaaDoor
open Go Go.RowKit Go.Pur

/-- a builder at block b, whose row is q, that holds l. -/
def BldAt (w : World) (b : Nat) (q : Option Nat) (l : Bytes) : Prop :=
  ∃ p v, (p = .pointer none ∨ p = .pointer (some ⟨b, 0, none⟩)) ∧ Blk w b 82 #[p, v] ∧ OwnB w 0 5 v l ∧ v.ownBlock = q
theorem BldAt.lt {w : World} {b : Nat} {q : Option Nat} {l : Bytes} (h : BldAt w b q l) : b < w.heap.size ∧ ∀ k, q = some k → k < w.heap.size := by
  obtain ⟨p, v, _, h1, h2, h3⟩ := h
  exact ⟨h1.lt, fun k hk => own_lt h2 (h3.trans hk)⟩
theorem BldAt.new (w : World) : BldAt (w.alloc (.cells #[.pointer none, .slice none 0 0] 82)) w.heap.size none [] :=
  ⟨_, _, .inl rfl, Blk.new w _ _, World.ownsRow_nil _ _ _ _, rfl⟩
theorem shape_of_blk {w : World} {g : Nat} {t : TypeId} {cs : Array Value} (h : Blk w g t cs) : w.shape? g = some (t, cs.size) := by
  unfold Blk at h
  simp [World.shape?, h]
theorem bld_info : (Tryd.prog.info? 82).map (·.size) = some 2 := by kernel_rfl
theorem bld_lies : liesAt Tryd.prog Tryd.prog.depth 82 (2 / Tryd.prog.cellsOf 82) 0 82 1 = true := by kernel_rfl
set_option maxRecDepth 100000 in
theorem copyCheck_used (b : Nat) (v : Value) (w : World) (h : Blk w b 82 #[.pointer (some ⟨b, 0, none⟩), v]) :
    Calls Tryd.prog 68 #[.pointer (some ⟨b, 0, none⟩)] w fun e w' => e = .returned (.tuple #[]) ∧ w = w' := by
  obtain ⟨j, hj, _⟩ := Option.map_eq_some_iff.1 bld_info
  have c0 := h.cell 0
  go_enter Tryd.func68, Tryd.ntmps68
  go_wp2
  rw [Lib.run_neq_ptr_same w _ Tryd.underlying80 hj]
  go_wp2
  go_end0
  exact ⟨rfl, rfl⟩
set_option maxRecDepth 100000 in
theorem copyCheck_fresh (b : Nat) (v : Value) (w : World) (h : Blk w b 82 #[.pointer none, v]) :
    Calls Tryd.prog 68 #[.pointer (some ⟨b, 0, none⟩)] w fun e w' => e = .returned (.tuple #[]) ∧ w' = w.setCell ⟨b, 0, none⟩ (.pointer (some ⟨b, 0, none⟩)) := by
  obtain ⟨j, hj, hjs⟩ := Option.map_eq_some_iff.1 bld_info
  have c0 := h.cell 0
  have f0 := h.frozen 0
  have hsh : w.shape? b = some (82, 2) := shape_of_blk h
  go_enter Tryd.func68, Tryd.ntmps68
  go_wp2
  rw [Lib.run_to_unsafe w ⟨b, 0, none⟩ Tryd.underlying80 Tryd.underlying147 hj (by rw [hjs]; decide) hsh (Nat.zero_lt_succ 1)]
  simp only [Result.andThen]
  rw [Oper.upon_value]
  go_wp2
  rw [run_callFunc_extern Tryd.func90 (by kernel_rfl) (by kernel_rfl) (by kernel_rfl) (e := Extern.AbiNoEscape.same) (by kernel_rfl)]
  rw [Lib.run_noEscape]
  simp only [Result.andThen]
  rw [Oper.upon_value]
  go_wp2
  rw [Lib.run_from_unsafe w ⟨b, 0, none⟩ Tryd.underlying147 Tryd.underlying80 hj hsh bld_lies]
  simp only [Result.andThen]
  rw [Oper.upon_value]
  go_wp2
  go_end0
  exact ⟨rfl, rfl⟩
theorem copyCheck_any (b : Nat) (p v : Value) (w : World) (hp : p = .pointer none ∨ p = .pointer (some ⟨b, 0, none⟩)) (h : Blk w b 82 #[p, v]) :
    Calls Tryd.prog 68 #[.pointer (some ⟨b, 0, none⟩)] w fun e w' => e = .returned (.tuple #[]) ∧ Blk w' b 82 #[.pointer (some ⟨b, 0, none⟩), v] ∧ (w' = w ∨ w' = w.setCell ⟨b, 0, none⟩ (.pointer (some ⟨b, 0, none⟩))) := by
  rcases hp with rfl | rfl
  · refine (copyCheck_fresh b v w h).mono ?_
    rintro e w' ⟨rfl, rfl⟩
    exact ⟨rfl, h.set_ 0 _, .inr rfl⟩
  · refine (copyCheck_used b v w h).mono ?_
    rintro e w' ⟨rfl, rfl⟩
    exact ⟨rfl, h, .inl rfl⟩
set_option maxRecDepth 100000 in
theorem writeByte_any (b : Nat) (q : Option Nat) (l : Bytes) (c : UInt8) (w : World) (hl : l.length ≤ 1000000000) (hb0 : BldAt w b q l) :
    Calls Tryd.prog 37 #[.pointer (some ⟨b, 0, none⟩), .int .u8 (c.toNat : Int)] w fun e w' => e = .returned .nilIface ∧ ∃ q', BldAt w' b q' (l ++ [c]) ∧ Upd b q w w' q' := by
  obtain ⟨p, v, hp, hb, hown, hq⟩ := hb0
  have hq' := Lib.hid hq
  clear hq
  go_enter Tryd.func37, Tryd.ntmps37
  go_wp2_with fail
  refine (copyCheck_any b p v w hp hb).mono ?_
  rintro e w1 ⟨rfl, hb1, hw1⟩
  have hn := own_blk_ne hown hb (by decide)
  have hown1 : OwnB w1 0 5 v l := by
    rcases hw1 with rfl | rfl
    · exact hown
    · exact own_far hown hn _
  have hu1 : Upd b q w w1 q := by
    rcases hw1 with rfl | rfl
    · exact Upd.refl _ _ _
    · exact (Upd.refl _ _ _).setCell 0 _
  have c1 := hb1.cell 1
  have f1 := hb1.frozen 1
  have hn0 := own_blk_ne hown1 hb1 (by decide)
  have hlt := hb1.lt
  have hb2 : Byt (w1.alloc (.cells #[.int .u8 (c.toNat : Int)] 5)) (w1.heap.size + 1) (.slice (some ⟨w1.heap.size, 0, none⟩) 1 1) [c] :=
    byt_built w1 _ [c] _ (by simp [bvs, bv]) (by simp [maxLen])
  clear hw1 hown hn
  go_wp2_with (at_builtin; refine app_bytes rfl _ _ rfl 0 v _ rfl (hown1.alloc _) _ _ _ rfl hb2 (by simp; omega) (by omega) ?_; intro v' w3 hown3 hg3 hf3; obtain ⟨A3, n3, c3, rfl⟩ := slice_of_own hown3; have hb3 := (hb1.alloc _).grown hg3 (Ne.symm hn0); have hc3 := hb3.cell 1; have hfz3 := hb3.frozen 1)
  go_ret
  have hn1 := own_blk_ne hown3 hb3 (by decide)
  have hq := hq'.out
  subst hq
  exact ⟨rfl, _, ⟨_, _, .inr rfl, hb3.set_ 1 _, own_far hown3 (a := ⟨b, 1, none⟩) hn1 _, rfl⟩, ((hu1.alloc _).grown hg3 hf3).setCell 1 _⟩
theorem string_any (b : Nat) (q : Option Nat) (l : Bytes) (w : World) (hb : BldAt w b q l) (hqb : ∀ k, q = some k → b ≤ k) :
    Calls Tryd.prog 38 #[.pointer (some ⟨b, 0, none⟩)] w fun e w' => e = .returned (.string (strB l)) ∧ Below b w w' := by
  obtain ⟨p, v, hp, hb, hown, hq⟩ := hb
  have hn := own_blk_ne hown hb (by decide)
  have hlen : (Lib.byteCells l).length = l.length := by simp [Lib.byteCells]
  have hat : Lib.IsBuilder 82 5 b b (Lib.byteCells l) w := by
    have : w.ownsRow b 5 1 v (Lib.byteCells l).length (Lib.byteCells l) := by rw [hlen]; exact World.ownsRow_base hown (fun k hk => hqb k (hq.symm.trans hk))
    rcases hp with rfl | rfl
    · exact .inl ⟨Nat.le_refl _, v, hb, this, hn⟩
    · exact .inr ⟨Nat.le_refl _, v, hb, this, hn⟩
  exact Tryd.Builder_String_any b b l w hat (Nat.le_of_lt hb.lt)
end Go.Proofs.YtcilabemglbhbaaDoor
