/- Transactions that come in as arguments: what can be read as data reads as a plain transaction. -/
import Derived.Test.YtcilabemglbhbaaGreatDoorK8
import Derived.ProofKit
import Derived.OpenShut
import Derived.ChangeOld
import Derived.Deep.Slices
namespace Go.Proofs.YtcilabemglbhbaaGreatDoor
open Go Go.RowKit Go.Pur Go.ChangeShapes Go.WideShapes Go.Deep

theorem list_choice {α : Type} (p : Nat → α → Prop) : ∀ n, (∀ i, i < n → ∃ y, p i y) → ∃ xs : List α, xs.length = n ∧ ∀ k x, xs[k]? = some x → p k x
  | 0, _ => ⟨[], rfl, fun k x h => by simp at h⟩
  | n + 1, h => by
    obtain ⟨xs, hl, hx⟩ := list_choice p n fun i hi => h i (by omega)
    obtain ⟨y, hy⟩ := h n (by omega)
    refine ⟨xs ++ [y], by simp [hl], fun k x hk => ?_⟩
    rcases Nat.lt_or_ge k n with h1 | h1
    · rw [List.getElem?_append_left (by omega)] at hk
      exact hx k x hk
    · rw [List.getElem?_append_right (by omega), hl] at hk
      rcases hkn : k - n with _ | m
      · rw [hkn] at hk
        simp only [List.getElem?_cons_zero, Option.some.injEq] at hk
        subst hk
        rw [show k = n by omega]
        exact hy
      · rw [hkn] at hk; simp at hk
theorem bvs_choice (cs : List Value) (h : ∀ i, i < cs.length → ∃ c : UInt8, cs[i]? = some (bv c)) : ∃ l : Bytes, cs = bvs l := by
  obtain ⟨l, hl, hx⟩ := list_choice (fun i c => cs[i]? = some (bv c)) cs.length h
  refine ⟨l, List.ext_getElem? fun i => ?_⟩
  rcases Nat.lt_or_ge i cs.length with h1 | h1
  · rw [hx i l[i] (List.getElem?_eq_getElem (by omega))]
    simp [bvs, hl, h1]
  · rw [List.getElem?_eq_none h1, List.getElem?_eq_none (by rw [bvs_length]; omega)]
theorem one_at {cs : List Value} {k : Nat} {v : Value} (h : (cs.drop k).take 1 = [v]) : cs[k]? = some v := by
  have : ((cs.drop k).take 1)[0]? = some v := by rw [h]; rfl
  simpa using this

section
variable {H : Type} {enc : TypeId × Value → H} {P : Program} {w : World} {base : Nat} {spare : Nat → Bool} {held : Bool}
theorem trod_field {t : TypeId} {fs : Array Field} {fuel : Nat} {cs : List Value} {x : DataW H × List MemPlace} (ht : P.underlying t = some (.struct fs)) (h : DataW.trod enc P w base spare held fuel t cs = some x) (i : Nat) (f : Field) (hf : fs[i]? = some f) :
    ∃ n y, DataW.trod enc P w base spare held n f.type ((cs.drop f.offset).take (P.cellsOf f.type)) = some y := by
  obtain ⟨xs, n, _, _, _, hl, hg⟩ := DataW.trod_struct ht h
  have hi : i < xs.length := by rw [hl]; exact (Array.getElem?_eq_some_iff.1 hf).1
  exact ⟨n, xs[i], (hg i f hf).trans (List.getElem?_eq_getElem hi)⟩
theorem trod_size {t : TypeId} {fs : Array Field} {fuel : Nat} {cs : List Value} {x : DataW H × List MemPlace} (ht : P.underlying t = some (.struct fs)) (h : DataW.trod enc P w base spare held fuel t cs = some x) : cs.length = P.cellsOf t := by
  obtain ⟨xs, n, _, _, hl, _⟩ := DataW.trod_struct ht h
  exact hl
theorem u8_nat {n : Int} (h : (Lit.int .u8 n).wf = true) : ∃ c : UInt8, Value.int .u8 n = bv c := by
  have hb : 0 ≤ n ∧ n ≤ 255 := by
    simp [Lit.wf, IntKind.min, IntKind.max, IntKind.signed, IntKind.bits] at h
    omega
  refine ⟨UInt8.ofNat n.toNat, ?_⟩
  rw [bv_ofNat]
  congr 1
  omega
theorem u32_nat {n : Int} (h : (Lit.int .u32 n).wf = true) : ∃ m : Nat, n = (m : Int) ∧ Lt32 m := by
  have hb : 0 ≤ n ∧ n ≤ 4294967295 := by
    simp [Lit.wf, IntKind.min, IntKind.max, IntKind.signed, IntKind.bits] at h
    omega
  exact ⟨n.toNat, by omega, by unfold Lt32; omega⟩
theorem i64_int {n : Int} (h : (Lit.int .i64 n).wf = true) : Int64 n := by
  simp [Lit.wf, IntKind.min, IntKind.max, IntKind.signed, IntKind.bits] at h
  exact ⟨by omega, by omega⟩
theorem spot_none {w : World} {a : Addr} {v : Value} (h : w.cell? a = some v) : a.spot = none := by simpa using World.cell?_spot h
/-- a slice of bytes. -/
theorem open_byt {t e : TypeId} (ht : P.underlying t = some (.slice e)) (he : P.underlying e = some (.int .u8)) (hc : P.cellsOf e = 1) {fuel : Nat} {cv : Value} {x : DataW H × List MemPlace}
    (h : DataW.trod enc P w base (fun _ => true) held fuel t [cv] = some x) : ∃ l, Byt w w.heap.size cv l := by
  rcases open_ints ht he hc h with ⟨hcs, _⟩ | ⟨a, len, cap, zs, hcs, _, hl, hm, hz, _, hcell, hwf⟩
  · simp only [List.cons.injEq, and_true] at hcs
    subst hcs
    exact ⟨[], Byt.nil _ _⟩
  · simp only [List.cons.injEq, and_true] at hcs
    subst hcs
    simp only [if_true] at hz
    obtain ⟨l, hll⟩ := bvs_choice ((zs.take len).map (Value.int .u8)) (fun i hi => by
      have hi' : i < zs.length := by simp at hi; omega
      obtain ⟨c, hc⟩ := u8_nat (hwf zs[i] (List.getElem_mem hi'))
      refine ⟨c, ?_⟩
      rw [← hc]
      have h2 : i < len := by simp at hi; omega
      simp [h2, hi'])
    have hlen : l.length = len := by
      have := congrArg List.length hll
      rw [bvs_length] at this
      simp at this
      omega
    refine ⟨l, some a, cap, by rw [hlen], by omega, hm, by rw [bvs_length, Nat.mul_one], fun hpos => ⟨a, rfl, ?_, fun j u hu => ?_⟩⟩
    · have := World.block_lt_of_cell? _ _ (hcell 0 (by omega))
      rwa [block_of_add] at this
    · rw [← hll] at hu
      have hj : j < len := by
        rcases Nat.lt_or_ge j len with h | h
        · exact h
        · rw [List.getElem?_eq_none (by simp; omega)] at hu; cases hu
      rw [hcell j (by omega), ← hu]
      have hj' : j < zs.length := by omega
      simp [hj, hj', List.getD_eq_getElem?_getD]
/-- an array of bytes. -/
theorem open_arr {t e : TypeId} {n : Nat} (ht : P.underlying t = some (.array n e)) (he : P.underlying e = some (.int .u8)) (hc : P.cellsOf e = 1) (hn : P.cellsOf t = n) {fuel : Nat} {cs : List Value} {x : DataW H × List MemPlace}
    (h : DataW.trod enc P w base spare held fuel t cs = some x) : ∃ l, cs = bvs l ∧ l.length = n := by
  obtain ⟨xs, m, _, _, hl, hxl, hg⟩ := DataW.trod_array ht h
  rw [hn] at hl
  obtain ⟨l, rfl⟩ := bvs_choice cs (fun i hi => by
    have h1 := hg i (by omega)
    rw [List.getElem?_eq_getElem (by omega), hc, Nat.mul_one] at h1
    obtain ⟨z, hz, _, hwf⟩ := DataW.trod_int he h1
    obtain ⟨c, hc'⟩ := u8_nat hwf
    exact ⟨c, by rw [one_at hz, hc']⟩)
  exact ⟨l, rfl, by rw [bvs_length] at hl; exact hl⟩
end

section
variable {H : Type} {enc : TypeId × Value → H} {w : World} {base : Nat} {held : Bool}
theorem cellsIn : Tryz.prog.cellsOf 89 = 35 := by kernel_rfl
theorem cellsOut : Tryz.prog.cellsOf 91 = 2 := by kernel_rfl
theorem cellsPt : Tryz.prog.cellsOf 87 = 33 := by kernel_rfl
theorem cellsH : Tryz.prog.cellsOf 24 = 32 := by kernel_rfl
theorem cellsU8 : Tryz.prog.cellsOf 5 = 1 := by kernel_rfl
theorem cellsU32 : Tryz.prog.cellsOf 22 = 1 := by kernel_rfl
theorem cellsI64 : Tryz.prog.cellsOf 2 = 1 := by kernel_rfl
theorem cellsBs : Tryz.prog.cellsOf 30 = 1 := by kernel_rfl
theorem cellsIs : Tryz.prog.cellsOf 49 = 1 := by kernel_rfl
theorem cellsOs : Tryz.prog.cellsOf 50 = 1 := by kernel_rfl
theorem cellsTx : Tryz.prog.cellsOf 52 = 4 := by kernel_rfl
theorem one_of {cs : List Value} {k : Nat} (h : k < cs.length) : (cs.drop k).take 1 = [cs[k]] := by
  rw [List.drop_eq_getElem_cons h]
  rfl
theorem open_u32 {fuel k : Nat} {cs : List Value} {x : DataW H × List MemPlace} (h : DataW.trod enc Tryz.prog w base (fun _ => true) held fuel 22 ((cs.drop k).take 1) = some x) : ∃ m : Nat, cs[k]? = some (.int .u32 (m : Int)) ∧ Lt32 m := by
  obtain ⟨z, hz, _, hwf⟩ := DataW.trod_int Tryz.underlying22 h
  obtain ⟨m, rfl, hm⟩ := u32_nat hwf
  exact ⟨m, one_at hz, hm⟩
theorem open_pt {fuel : Nat} {cs : List Value} {x : DataW H × List MemPlace} (h : DataW.trod enc Tryz.prog w base (fun _ => true) held fuel 87 cs = some x) : ∃ (l : Bytes) (n : Nat), cs = bvs l ++ [.int .u32 (n : Int)] ∧ l.length = 32 ∧ Lt32 n := by
  have hl := trod_size Tryz.underlying87 h
  rw [cellsPt] at hl
  obtain ⟨n0, y0, h0⟩ := trod_field Tryz.underlying87 h 0 _ rfl
  obtain ⟨n1, y1, h1⟩ := trod_field Tryz.underlying87 h 1 _ rfl
  simp only [cellsH, cellsU32, List.drop_zero, List.getElem_toArray, List.getElem_cons_zero, List.getElem_cons_succ] at h0 h1
  obtain ⟨l, hc, hll⟩ := open_arr Tryz.underlying24 Tryz.underlying5 cellsU8 cellsH h0
  obtain ⟨m, hm, hlt⟩ := open_u32 h1
  refine ⟨l, m, ?_, hll, hlt⟩
  have hd : cs.drop 32 = [Value.int .u32 (m : Int)] := by
    have h32 : 32 < cs.length := by omega
    rw [List.drop_eq_getElem_cons h32, List.drop_eq_nil_of_le (by omega)]
    rw [List.getElem?_eq_getElem h32] at hm
    injection hm with hm
    rw [hm]
  rw [← List.take_append_drop 32 cs, hc, hd]
theorem open_in {fuel : Nat} {cs : List Value} {x : DataW H × List MemPlace} (h : DataW.trod enc Tryz.prog w base (fun _ => true) held fuel 89 cs = some x) :
    ∃ (y : TIn) (sv : Value), cs = inCells y sv ∧ Byt w w.heap.size sv y.script ∧ y.tx.length = 32 ∧ Lt32 y.n ∧ Lt32 y.seq := by
  have hl := trod_size Tryz.underlying89 h
  rw [cellsIn] at hl
  obtain ⟨n0, y0, h0⟩ := trod_field Tryz.underlying89 h 0 _ rfl
  obtain ⟨n1, y1, h1⟩ := trod_field Tryz.underlying89 h 1 _ rfl
  obtain ⟨n2, y2, h2⟩ := trod_field Tryz.underlying89 h 2 _ rfl
  simp only [cellsPt, cellsBs, cellsU32, List.drop_zero, List.getElem_toArray, List.getElem_cons_zero, List.getElem_cons_succ] at h0 h1 h2
  obtain ⟨l, n, hc, hll, hn⟩ := open_pt h0
  rw [one_of (by omega)] at h1
  obtain ⟨s, hs⟩ := open_byt Tryz.underlying30 Tryz.underlying5 cellsU8 h1
  obtain ⟨m, hm, hlt⟩ := open_u32 h2
  refine ⟨⟨l, n, s, m⟩, cs[33]'(by omega), ?_, hs, hll, hn, hlt⟩
  have hd : cs.drop 33 = [cs[33]'(by omega), Value.int .u32 (m : Int)] := by
    rw [List.drop_eq_getElem_cons (by omega : 33 < cs.length), List.drop_eq_getElem_cons (by omega : 34 < cs.length), List.drop_eq_nil_of_le (by omega)]
    rw [List.getElem?_eq_getElem (by omega : 34 < cs.length)] at hm
    injection hm with hm
    rw [hm]
  unfold inCells
  conv => lhs; rw [← List.take_append_drop 33 cs, hc, hd]
  simp
theorem open_out {fuel : Nat} {cs : List Value} {x : DataW H × List MemPlace} (h : DataW.trod enc Tryz.prog w base (fun _ => true) held fuel 91 cs = some x) :
    ∃ (y : TOut) (sv : Value), cs = outCells y sv ∧ Byt w w.heap.size sv y.script ∧ Int64 y.value := by
  have hl := trod_size Tryz.underlying91 h
  rw [cellsOut] at hl
  obtain ⟨n0, y0, h0⟩ := trod_field Tryz.underlying91 h 0 _ rfl
  obtain ⟨n1, y1, h1⟩ := trod_field Tryz.underlying91 h 1 _ rfl
  simp only [cellsBs, cellsI64, List.getElem_toArray, List.getElem_cons_zero, List.getElem_cons_succ] at h0 h1
  obtain ⟨z, hz, _, hwf⟩ := DataW.trod_int Tryz.underlying2 h0
  rw [one_of (by omega)] at h1
  obtain ⟨s, hs⟩ := open_byt Tryz.underlying30 Tryz.underlying5 cellsU8 h1
  have hz' := one_at hz
  match cs, hl with
  | [a, b], _ =>
    simp only [List.getElem?_cons_zero, Option.some.injEq] at hz'
    subst hz'
    exact ⟨⟨z, s⟩, b, rfl, hs, i64_int hwf⟩
theorem addr_add {b o k : Nat} : (⟨b, o, none⟩ : Addr).add k = ⟨b, o + k, none⟩ := by unfold Addr.add; split <;> simp_all
theorem open_ins {fuel : Nat} {cv : Value} {x : DataW H × List MemPlace} (h : DataW.trod enc Tryz.prog w base (fun _ => true) held fuel 49 [cv] = some x) : ∃ xs, InsAt w w.heap.size cv xs := by
  rcases open_slice Tryz.underlying49 h with ⟨hcs, _⟩ | ⟨a, len, cap, m, n, D, Pl, hcs, _, hl, hm, hmm, _, hi⟩
  · simp only [List.cons.injEq, and_true] at hcs
    subst hcs
    exact ⟨[], none, 0, rfl, Nat.le_refl _, by simp [maxLen], fun h => absurd h (by simp)⟩
  · simp only [List.cons.injEq, and_true] at hcs
    subst hcs
    simp only [if_true] at hmm
    rw [hmm] at hi
    simp only [cellsIn] at hi
    obtain ⟨b, o, sp⟩ := a
    have hsp : 0 < len → sp = none := fun hpos => by
      obtain ⟨cs', hc, ht⟩ := hi 0 (by omega)
      obtain ⟨_, hcl, hat⟩ := World.cells?_some hc
      have h0 := hat 0 (by omega)
      rw [List.getElem?_eq_getElem (show 0 < cs'.length by omega)] at h0
      simpa [Addr.add] using spot_none h0
    obtain ⟨xs, hxl, hx⟩ := list_choice (fun i y => InAt w w.heap.size b (o + i * 35) y ∧ b < w.heap.size) len (fun i hil => by
      have hsp' := hsp (by omega)
      obtain ⟨cs', hc, ht⟩ := hi i (by omega)
      obtain ⟨_, hcl, hat⟩ := World.cells?_some hc
      obtain ⟨y, sv, rfl, h1, h2, h3, h4⟩ := open_in ht
      have hle : (inCells y sv).length = 35 := hcl
      have h0 := hat 0 (by omega)
      rw [List.getElem?_eq_getElem (by omega : 0 < (inCells y sv).length)] at h0
      subst hsp'
      have hb := World.block_lt_of_cell? _ _ h0
      rw [block_of_add, block_of_add] at hb
      refine ⟨y, ⟨sv, h1, h2, h3, h4, fun j u hu => ?_⟩, hb⟩
      have hj : j < 35 := by
        rcases Nat.lt_or_ge j 35 with h | h
        · exact h
        · rw [List.getElem?_eq_none (by omega)] at hu; cases hu
      have := hat j hj
      rw [hu, addr_add, addr_add] at this
      exact this)
    refine ⟨xs, some ⟨b, o, sp⟩, cap, by rw [hxl], by omega, hm, fun hpos => ?_⟩
    obtain ⟨_, hb⟩ := hx 0 _ (List.getElem?_eq_getElem hpos)
    have hsp' := hsp (by omega)
    subst hsp'
    exact ⟨b, o, rfl, hb, fun k x hk => (hx k x hk).1⟩
theorem open_outs {fuel : Nat} {cv : Value} {x : DataW H × List MemPlace} (h : DataW.trod enc Tryz.prog w base (fun _ => true) held fuel 50 [cv] = some x) : ∃ xs, OutsAt w w.heap.size cv xs := by
  rcases open_slice Tryz.underlying50 h with ⟨hcs, _⟩ | ⟨a, len, cap, m, n, D, Pl, hcs, _, hl, hm, hmm, _, hi⟩
  · simp only [List.cons.injEq, and_true] at hcs
    subst hcs
    exact ⟨[], none, 0, rfl, Nat.le_refl _, by simp [maxLen], fun h => absurd h (by simp)⟩
  · simp only [List.cons.injEq, and_true] at hcs
    subst hcs
    simp only [if_true] at hmm
    rw [hmm] at hi
    simp only [cellsOut] at hi
    obtain ⟨b, o, sp⟩ := a
    have hsp : 0 < len → sp = none := fun hpos => by
      obtain ⟨cs', hc, ht⟩ := hi 0 (by omega)
      obtain ⟨_, hcl, hat⟩ := World.cells?_some hc
      have h0 := hat 0 (by omega)
      rw [List.getElem?_eq_getElem (show 0 < cs'.length by omega)] at h0
      simpa [Addr.add] using spot_none h0
    obtain ⟨xs, hxl, hx⟩ := list_choice (fun i y => OutAt w w.heap.size b (o + i * 2) y ∧ b < w.heap.size) len (fun i hil => by
      have hsp' := hsp (by omega)
      obtain ⟨cs', hc, ht⟩ := hi i (by omega)
      obtain ⟨_, hcl, hat⟩ := World.cells?_some hc
      obtain ⟨y, sv, rfl, h1, h2⟩ := open_out ht
      have h0 := hat 0 (by omega)
      have h01 := hat 1 (by omega)
      simp only [outCells, List.getElem?_cons_zero, List.getElem?_cons_succ] at h0 h01
      subst hsp'
      have hb := World.block_lt_of_cell? _ _ h0
      rw [block_of_add, block_of_add] at hb
      rw [addr_add, addr_add] at h0 h01
      exact ⟨y, ⟨sv, h1, h2, h0, h01⟩, hb⟩)
    refine ⟨xs, some ⟨b, o, sp⟩, cap, by rw [hxl], by omega, hm, fun hpos => ?_⟩
    obtain ⟨_, hb⟩ := hx 0 _ (List.getElem?_eq_getElem hpos)
    have hsp' := hsp (by omega)
    subst hsp'
    exact ⟨b, o, rfl, hb, fun k x hk => (hx k x hk).1⟩
theorem open_txc {fuel : Nat} {cs : List Value} {x : DataW H × List MemPlace} (h : DataW.trod enc Tryz.prog w base (fun _ => true) held fuel 52 cs = some x) : ∃ t, TxAt w w.heap.size (.agg cs.toArray) t := by
  have hl := trod_size Tryz.underlying52 h
  rw [cellsTx] at hl
  obtain ⟨n0, y0, h0⟩ := trod_field Tryz.underlying52 h 0 _ rfl
  obtain ⟨n1, y1, h1⟩ := trod_field Tryz.underlying52 h 1 _ rfl
  obtain ⟨n2, y2, h2⟩ := trod_field Tryz.underlying52 h 2 _ rfl
  obtain ⟨n3, y3, h3⟩ := trod_field Tryz.underlying52 h 3 _ rfl
  simp only [cellsU32, cellsIs, cellsOs, List.getElem_toArray, List.getElem_cons_zero, List.getElem_cons_succ] at h0 h1 h2 h3
  obtain ⟨ver, hv, hv'⟩ := open_u32 h0
  obtain ⟨lock, hk, hk'⟩ := open_u32 h3
  rw [one_of (by omega)] at h1 h2
  obtain ⟨xs, hxs⟩ := open_ins h1
  obtain ⟨ys, hys⟩ := open_outs h2
  match cs, hl with
  | [a, b, c, d], _ =>
    simp only [List.getElem?_cons_zero, List.getElem?_cons_succ, Option.some.injEq] at hv hk
    subst hv; subst hk
    exact ⟨⟨ver, xs, ys, lock⟩, b, c, rfl, hv', hk', hxs, hys⟩
set_option maxRecDepth 100000 in
theorem open_tx {b0 : Nat} {v : Value} {d : DataW H} {p : List MemPlace} (hv : Value.okWide Tryz.prog w .any b0 52 v) (h : DataW.Trod enc Tryz.prog w base (fun _ => true) held 52 v d p) : ∃ t, TxAt w w.heap.size v t := by
  obtain ⟨cs, rfl, _⟩ := okWide_struct Tryz.underlying52 hv
  obtain ⟨fuel, hf⟩ := h
  obtain ⟨t, ht⟩ := open_txc hf
  exact ⟨t, by simpa [Value.cells] using ht⟩
end
end Go.Proofs.YtcilabemglbhbaaGreatDoor
