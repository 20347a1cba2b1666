/- purserref07.Great: whether a block is more than the statements go through. -/
import Derived.Test.YtcilabemglbhbaaDoorC40
import Derived.Test.YtcilabemglbhbaaDoorC1
import Derived.Test.YtcilabemglbhbaaDoorC3
namespace Go.Proofs.YtcilabemglbhbaaDoor
open Go Go.RowKit Go.Pur

def SmallB (x : TBlk) : Prop := x.txs.length ≤ 30 ∧ ∀ t ∈ x.txs, Small t
def GreatBPost (x : TBlk) (w : World) (e : Ending) (w' : World) : Prop := ∃ r : Int, e = .returned (.int .i64 r) ∧ (r = 1 ∨ (r = 0 ∧ SmallB x)) ∧ Below w.heap.size w w'
def SmallTo (xs : List TTx) (k : Nat) : Prop := ∀ j t, xs[j]? = some t → j < k → Small t
set_option maxRecDepth 100000 in
set_option maxHeartbeats 1600000 in
theorem greatB_any (v : Value) (x : TBlk) (B : Nat) (w : World) (hB : B ≤ w.heap.size) (h : BlkAt w B v x) :
    Calls Tryd.prog 19 #[v] w (GreatBPost x w) := by
  obtain ⟨sv, rfl, hh, ht⟩ := h
  obtain ⟨At, nt, ct, rfl⟩ : ∃ A n c, sv = .slice A n c := by obtain ⟨A, c, h, _⟩ := ht; exact ⟨A, _, c, h⟩
  have hnt : nt = x.txs.length := by
    obtain ⟨A, c, h, _⟩ := ht
    injection h
  have hnm : nt ≤ 9223372036854775807 := by
    obtain ⟨A, c, h, h1, h2, _⟩ := ht
    unfold maxLen at h2
    omega
  have hnt' := Lib.hid hnt
  clear hnt
  have hx : Blk (w.alloc (.cells (bcells x.head (Value.slice At nt ct)).toArray 48)) w.heap.size 48 (bcells x.head (Value.slice At nt ct)).toArray := Blk.new w _ _
  have hbw : Below w.heap.size w (w.alloc (.cells (bcells x.head (Value.slice At nt ct)).toArray 48)) := (Below.refl _ _).alloc (Nat.le_refl _) _
  have h68 := bcells_at hh (.slice At nt ct)
  have c68 := (hx.cell 68).trans h68
  have hbe : bcells x.head (Value.slice At nt ct) = headCells x.head ++ [Value.slice At nt ct] := rfl
  have hbe' := Lib.hid hbe
  rw [← hbe]
  clear hbe
  generalize bcells x.head (Value.slice At nt ct) = cb at *
  by_cases h30 : 30 < nt
  · go_enter Tryd.func19, Tryd.ntmps19
    go_wp2
    go_ret
    exact ⟨1, rfl, .inl rfl, hbw⟩
  · go_enter Tryd.func19, Tryd.ntmps19
    go_wp2
    obtain ⟨W1, hW1⟩ : ∃ W1, W1 = w.alloc (.cells cb.toArray 48) := ⟨_, rfl⟩
    rw [← hW1] at hx hbw c68 ⊢
    clear hW1
    go_loopw [3] (fun i wr => ∃ k : Nat, k ≤ nt ∧ i = .int .i64 (k : Int) ∧ SmallTo x.txs k ∧ Blk wr w.heap.size 48 cb.toArray ∧ Below w.heap.size w wr) (fun i _ => nt - (intOf i).toNat)
    case atStart => exact ⟨0, by omega, rfl, fun j t _ h => by omega, hx, hbw⟩
    case round =>
      clear hx hbw c68
      obtain ⟨k, hk, rfl, hall, hx, hbw⟩ := hrel
      have c68 := (hx.cell 68).trans h68
      have hxl := hx.lt
      by_cases hlt : k < nt
      · have hkl : k < x.txs.length := by rw [← hnt'.out]; exact hlt
        obtain ⟨At', ct', hsl, h1, h2, h3⟩ := ht
        obtain ⟨b, o, hA, hbB, hxx⟩ := h3 (by omega)
        have hAt : At = some ⟨b, o, none⟩ := by injection hsl with h1; rw [h1, hA]
        subst hAt
        obtain ⟨iv, ov, hc, htx⟩ := hxx k x.txs[k] (List.getElem?_eq_getElem hkl)
        have hbB2 := hbw.mono hB
        have hcw : ∀ j u, (tcells x.txs[k] iv ov)[j]? = some u → wr.cell? ⟨b, o + k * 4 + j, none⟩ = some u := fun j u hu => (hbB2.cell hbB).trans (hc j u hu)
        have htw := htx.below hbB2
        have hk? : x.txs[k]? = some x.txs[k] := List.getElem?_eq_getElem hkl
        generalize x.txs[k] = t at *
        have hk?' := Lib.hid hk?
        have d0 := hcw 0 _ rfl
        have d1 := hcw 1 _ rfl
        have d2 := hcw 2 _ rfl
        have d3 := hcw 3 _ rfl
        rw [Nat.add_zero] at d0
        have htw2 := htw
        obtain ⟨iv', ov', hvv, _, _, hi, ho⟩ := htw2
        have e1 : iv = iv' := by
          have := congrArg (fun v => match v with | .agg a => a[1]? | _ => none) hvv
          simpa [tcells] using this
        have e2 : ov = ov' := by
          have := congrArg (fun v => match v with | .agg a => a[2]? | _ => none) hvv
          simpa [tcells] using this
        subst e1; subst e2
        obtain ⟨Ai, ni, ci, rfl⟩ : ∃ A n c, iv = .slice A n c := by obtain ⟨A, c, h, _⟩ := hi; exact ⟨A, _, c, h⟩
        obtain ⟨Ao, no, co, rfl⟩ : ∃ A n c, ov = .slice A n c := by obtain ⟨A, c, h, _⟩ := ho; exact ⟨A, _, c, h⟩
        have hBr : B ≤ wr.heap.size := Nat.le_trans hB hbw.size
        clear hvv hi ho hcw hc hk? hsl h1 h2 h3 hxx htx
        go_wp2_with fail
        refine (great_any _ t B _ hBr htw).mono ?_
        rintro e w2 ⟨r, rfl, (rfl | ⟨rfl, hsm⟩), hb2⟩
        · go_wp2_with fail
          go_ret
          exact ⟨1, rfl, .inl rfl, hbw.trans (hb2.mono hbw.size)⟩
        · have hx2 := hx.below hb2 hx.lt
          have hsm' := Lib.hid hsm
          clear hsm
          go_wp2_with fail
          refine ⟨⟨k + 1, by omega, by go_num, fun j t' hj hjk => ?_, hx2, hbw.trans (hb2.mono hbw.size)⟩, by simp [intOf]; omega⟩
          by_cases e : j = k
          · subst e
            rw [hk?'.out] at hj
            injection hj with hj
            rw [← hj]; exact hsm'.out
          · exact hall j t' hj (by omega)
      · go_wp2
        go_ret
        refine ⟨0, rfl, .inr ⟨rfl, by rw [← hnt'.out]; omega, fun t ht => ?_⟩, hbw⟩
        obtain ⟨j, hj, rfl⟩ := List.getElem_of_mem ht
        exact hall j _ (List.getElem?_eq_getElem hj) (by rw [← hnt'.out] at hj; omega)
end Go.Proofs.YtcilabemglbhbaaDoor

/- strings.Builder, as block.Show uses it: WriteByte, String. -/
namespace Go.Proofs.YtcilabemglbhbaaDoor
open Go Go.RowKit Go.Pur

/-- a builder at block b, whose row is q, that holds l. -/
def BldAt (w : World) (b : Nat) (q : Option Nat) (l : Bytes) : Prop :=
  ∃ p v, (p = .pointer none ∨ p = .pointer (some ⟨b, 0, none⟩)) ∧ Blk w b 82 #[p, v] ∧ OwnB w 0 5 v l ∧ v.ownBlock = q
theorem BldAt.lt {w : World} {b : Nat} {q : Option Nat} {l : Bytes} (h : BldAt w b q l) : b < w.heap.size ∧ ∀ k, q = some k → k < w.heap.size := by
  obtain ⟨p, v, _, h1, h2, h3⟩ := h
  exact ⟨h1.lt, fun k hk => own_lt h2 (h3.trans hk)⟩
theorem BldAt.new (w : World) : BldAt (w.alloc (.cells #[.pointer none, .slice none 0 0] 82)) w.heap.size none [] :=
  ⟨_, _, .inl rfl, Blk.new w _ _, World.ownsRow_nil _ _ _ _, rfl⟩
theorem shape_of_blk {w : World} {g : Nat} {t : TypeId} {cs : Array Value} (h : Blk w g t cs) : w.shape? g = some (t, cs.size) := by
  unfold Blk at h
  simp [World.shape?, h]
theorem bld_info : (Tryd.prog.info? 82).map (·.size) = some 2 := by kernel_rfl
theorem bld_lies : liesAt Tryd.prog Tryd.prog.depth 82 (2 / Tryd.prog.cellsOf 82) 0 82 1 = true := by kernel_rfl
set_option maxRecDepth 100000 in
theorem copyCheck_used (b : Nat) (v : Value) (w : World) (h : Blk w b 82 #[.pointer (some ⟨b, 0, none⟩), v]) :
    Calls Tryd.prog 68 #[.pointer (some ⟨b, 0, none⟩)] w fun e w' => e = .returned (.tuple #[]) ∧ w = w' := by
  obtain ⟨j, hj, _⟩ := Option.map_eq_some_iff.1 bld_info
  have c0 := h.cell 0
  go_enter Tryd.func68, Tryd.ntmps68
  go_wp2
  rw [Lib.run_neq_ptr_same w _ Tryd.underlying80 hj]
  go_wp2
  go_end0
  exact ⟨rfl, rfl⟩
set_option maxRecDepth 100000 in
theorem copyCheck_fresh (b : Nat) (v : Value) (w : World) (h : Blk w b 82 #[.pointer none, v]) :
    Calls Tryd.prog 68 #[.pointer (some ⟨b, 0, none⟩)] w fun e w' => e = .returned (.tuple #[]) ∧ w' = w.setCell ⟨b, 0, none⟩ (.pointer (some ⟨b, 0, none⟩)) := by
  obtain ⟨j, hj, hjs⟩ := Option.map_eq_some_iff.1 bld_info
  have c0 := h.cell 0
  have f0 := h.frozen 0
  have hsh : w.shape? b = some (82, 2) := shape_of_blk h
  go_enter Tryd.func68, Tryd.ntmps68
  go_wp2
  rw [Lib.run_to_unsafe w ⟨b, 0, none⟩ Tryd.underlying80 Tryd.underlying147 hj (by rw [hjs]; decide) hsh (Nat.zero_lt_succ 1)]
  simp only [Result.andThen]
  rw [Oper.upon_value]
  go_wp2
  rw [run_callFunc_extern Tryd.func90 (by kernel_rfl) (by kernel_rfl) (by kernel_rfl) (e := Extern.AbiNoEscape.same) (by kernel_rfl)]
  rw [Lib.run_noEscape]
  simp only [Result.andThen]
  rw [Oper.upon_value]
  go_wp2
  rw [Lib.run_from_unsafe w ⟨b, 0, none⟩ Tryd.underlying147 Tryd.underlying80 hj hsh bld_lies]
  simp only [Result.andThen]
  rw [Oper.upon_value]
  go_wp2
  go_end0
  exact ⟨rfl, rfl⟩
theorem copyCheck_any (b : Nat) (p v : Value) (w : World) (hp : p = .pointer none ∨ p = .pointer (some ⟨b, 0, none⟩)) (h : Blk w b 82 #[p, v]) :
    Calls Tryd.prog 68 #[.pointer (some ⟨b, 0, none⟩)] w fun e w' => e = .returned (.tuple #[]) ∧ Blk w' b 82 #[.pointer (some ⟨b, 0, none⟩), v] ∧ (w' = w ∨ w' = w.setCell ⟨b, 0, none⟩ (.pointer (some ⟨b, 0, none⟩))) := by
  rcases hp with rfl | rfl
  · refine (copyCheck_fresh b v w h).mono ?_
    rintro e w' ⟨rfl, rfl⟩
    exact ⟨rfl, h.set_ 0 _, .inr rfl⟩
  · refine (copyCheck_used b v w h).mono ?_
    rintro e w' ⟨rfl, rfl⟩
    exact ⟨rfl, h, .inl rfl⟩
set_option maxRecDepth 100000 in
theorem writeByte_any (b : Nat) (q : Option Nat) (l : Bytes) (c : UInt8) (w : World) (hl : l.length ≤ 1000000000) (hb0 : BldAt w b q l) :
    Calls Tryd.prog 37 #[.pointer (some ⟨b, 0, none⟩), .int .u8 (c.toNat : Int)] w fun e w' => e = .returned .nilIface ∧ ∃ q', BldAt w' b q' (l ++ [c]) ∧ Upd b q w w' q' := by
  obtain ⟨p, v, hp, hb, hown, hq⟩ := hb0
  have hq' := Lib.hid hq
  clear hq
  go_enter Tryd.func37, Tryd.ntmps37
  go_wp2_with fail
  refine (copyCheck_any b p v w hp hb).mono ?_
  rintro e w1 ⟨rfl, hb1, hw1⟩
  have hn := own_blk_ne hown hb (by decide)
  have hown1 : OwnB w1 0 5 v l := by
    rcases hw1 with rfl | rfl
    · exact hown
    · exact own_far hown hn _
  have hu1 : Upd b q w w1 q := by
    rcases hw1 with rfl | rfl
    · exact Upd.refl _ _ _
    · exact (Upd.refl _ _ _).setCell 0 _
  have c1 := hb1.cell 1
  have f1 := hb1.frozen 1
  have hn0 := own_blk_ne hown1 hb1 (by decide)
  have hlt := hb1.lt
  have hb2 : Byt (w1.alloc (.cells #[.int .u8 (c.toNat : Int)] 5)) (w1.heap.size + 1) (.slice (some ⟨w1.heap.size, 0, none⟩) 1 1) [c] :=
    byt_built w1 _ [c] _ (by simp [bvs, bv]) (by simp [maxLen])
  clear hw1 hown hn
  go_wp2_with (at_builtin; refine app_bytes rfl _ _ rfl 0 v _ rfl (hown1.alloc _) _ _ _ rfl hb2 (by simp; omega) (by omega) ?_; intro v' w3 hown3 hg3 hf3; obtain ⟨A3, n3, c3, rfl⟩ := slice_of_own hown3; have hb3 := (hb1.alloc _).grown hg3 (Ne.symm hn0); have hc3 := hb3.cell 1; have hfz3 := hb3.frozen 1)
  go_ret
  have hn1 := own_blk_ne hown3 hb3 (by decide)
  have hq := hq'.out
  subst hq
  exact ⟨rfl, _, ⟨_, _, .inr rfl, hb3.set_ 1 _, own_far hown3 (a := ⟨b, 1, none⟩) hn1 _, rfl⟩, ((hu1.alloc _).grown hg3 hf3).setCell 1 _⟩
theorem string_any (b : Nat) (q : Option Nat) (l : Bytes) (w : World) (hb : BldAt w b q l) (hqb : ∀ k, q = some k → b ≤ k) :
    Calls Tryd.prog 38 #[.pointer (some ⟨b, 0, none⟩)] w fun e w' => e = .returned (.string (strB l)) ∧ Below b w w' := by
  obtain ⟨p, v, hp, hb, hown, hq⟩ := hb
  have hn := own_blk_ne hown hb (by decide)
  have hlen : (Lib.byteCells l).length = l.length := by simp [Lib.byteCells]
  have hat : Lib.IsBuilder 82 5 b b (Lib.byteCells l) w := by
    have : w.ownsRow b 5 1 v (Lib.byteCells l).length (Lib.byteCells l) := by rw [hlen]; exact World.ownsRow_base hown (fun k hk => hqb k (hq.symm.trans hk))
    rcases hp with rfl | rfl
    · exact .inl ⟨Nat.le_refl _, v, hb, this, hn⟩
    · exact .inr ⟨Nat.le_refl _, v, hb, this, hn⟩
  exact Tryd.Builder_String_any b b l w hat (Nat.le_of_lt hb.lt)
end Go.Proofs.YtcilabemglbhbaaDoor
