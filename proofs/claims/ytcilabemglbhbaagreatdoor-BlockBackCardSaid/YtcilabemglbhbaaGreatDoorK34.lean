/- tx.First: the transaction with which bytes begin. -/
import Derived.Test.YtcilabemglbhbaaGreatDoorK33
import Derived.Test.YtcilabemglbhbaaGreatDoorK10
import Derived.StillTailTactics
namespace Go.Proofs.YtcilabemglbhbaaGreatDoor
open Go Go.RowKit Go.Pur

def rTx (l : Bytes) : TTx × (Bytes × Bool) :=
  (⟨(rFour (l, false)).1, (rSeveral rIn (rFour (l, false)).2).1, (rSeveral rOut (rSeveral rIn (rFour (l, false)).2).2).1, (rFour (rSeveral rOut (rSeveral rIn (rFour (l, false)).2).2).2).1⟩,
    (rFour (rSeveral rOut (rSeveral rIn (rFour (l, false)).2).2).2).2)
/-- bytes begin with a transaction. -/
def firstOk (l : Bytes) : Bool := !(rTx l).2.2 && okTx (rTx l).1
theorem rSev_len {α : Type} (one : Bytes × Bool → α × (Bytes × Bool)) : ∀ (k : Nat) (s : Bytes × Bool), (rSev one k s).1.length ≤ k
  | 0, _ => by simp [rSev]
  | k + 1, s => by
    rw [rSev]
    split
    · simp
    · simp only [List.length_cons]
      have := rSev_len one k (one s).2
      omega
theorem rSev_all {α : Type} (one : Bytes × Bool → α × (Bytes × Bool)) (P : α → Prop) (h : ∀ s, P (one s).1) : ∀ (k : Nat) (s : Bytes × Bool), ∀ x ∈ (rSev one k s).1, P x
  | 0, _ => by simp [rSev]
  | k + 1, s => by
    rw [rSev]
    split
    · simp
    · intro x hx
      rcases List.mem_cons.1 hx with rfl | hx
      · exact h s
      · exact rSev_all one P h k _ x hx
theorem rSev_le {α : Type} (one : Bytes × Bool → α × (Bytes × Bool)) (h : ∀ s, (one s).2.1.length ≤ s.1.length) : ∀ (k : Nat) (s : Bytes × Bool), (rSev one k s).2.1.length ≤ s.1.length
  | 0, _ => Nat.le_refl _
  | k + 1, s => by
    rw [rSev]
    split
    · exact Nat.le_refl _
    · exact Nat.le_trans (rSev_le one h k _) (h s)
theorem rSize_le (s : Bytes × Bool) : (rSize s).2.1.length ≤ s.1.length := by
  unfold rSize
  split <;> simp
theorem rSeveral_len {α : Type} (one : Bytes × Bool → α × (Bytes × Bool)) (s : Bytes × Bool) : (rSeveral one s).1.length ≤ 50 := by
  unfold rSeveral
  rcases Nat.lt_or_ge 50 (rSize s).1 with h | h
  · rw [rSev_stop _ _ _ (by simp [rStart, h])]
    simp
  · exact Nat.le_trans (rSev_len _ _ _) h
theorem rSeveral_le {α : Type} (one : Bytes × Bool → α × (Bytes × Bool)) (h : ∀ s, (one s).2.1.length ≤ s.1.length) (s : Bytes × Bool) : (rSeveral one s).2.1.length ≤ s.1.length :=
  Nat.le_trans (rSev_le one h _ _) (rSize_le s)
theorem rTx_small (l : Bytes) : Small (rTx l).1 := by
  refine ⟨?_, ?_, fun x hx => ?_, fun x hx => ?_⟩
  · exact Nat.le_trans (rSeveral_len _ _) (by omega)
  · exact Nat.le_trans (rSeveral_len _ _) (by omega)
  · exact rSev_all rIn (fun x => x.script.length ≤ 2100) (fun s => Nat.le_trans (rScr_length _) (by omega)) _ _ x hx
  · exact rSev_all rOut (fun x => x.script.length ≤ 2100) (fun s => Nat.le_trans (rScr_length _) (by omega)) _ _ x hx
theorem rTx_le (l : Bytes) : (rTx l).2.1.length ≤ l.length :=
  Nat.le_trans (rFour_le _) (Nat.le_trans (rSeveral_le rOut rOut_le _) (Nat.le_trans (rSeveral_le rIn rIn_le _) (rFour_le (l, false))))
theorem byt_far {w : World} {B g : Nat} {v : Value} {l : Bytes} {t : TypeId} {cs : Array Value} (h : Byt w B v l) (hb : Blk w g t cs) (hn : ∀ (i : Nat) (c : Int), cs[i]? ≠ some (.int .u8 c)) (i : Nat) (u : Value) : Byt (w.setCell ⟨g, i, none⟩ u) B v l := by
  obtain ⟨A, c, rfl, h1, h2, h3, h4⟩ := h
  refine ⟨A, c, rfl, h1, h2, h3, fun hpos => ?_⟩
  obtain ⟨ad, rfl, had, hc⟩ := h4 hpos
  refine ⟨ad, rfl, had, fun j x hx => ?_⟩
  rw [World.cell?_setCell_other w _ _ u (fun e => ?_)]
  · exact hc j x hx
  · have h5 := hc j x hx
    have hxx : ∃ c : UInt8, x = bv c := by
      have := List.mem_of_getElem? hx
      obtain ⟨c, _, rfl⟩ := List.mem_map.1 this
      exact ⟨c, rfl⟩
    obtain ⟨cc, rfl⟩ := hxx
    rw [← e, hb.cell] at h5
    exact hn i _ h5
def txCells (ver : Int) (vi vo : Value) (lock : Int) : Array Value := #[.int .u32 ver, vi, vo, .int .u32 lock]
theorem tx_noByte (ver : Int) (A1 : Option Addr) (n1 c1 : Nat) (A2 : Option Addr) (n2 c2 : Nat) (lock : Int) : ∀ (i : Nat) (c : Int), (#[.int .u32 ver, .slice A1 n1 c1, .slice A2 n2 c2, .int .u32 lock] : Array Value)[i]? ≠ some (.int .u8 c) := by
  intro i c
  rcases i with _ | _ | _ | _ | i <;> simp
theorem RdAt.txset {w : World} {r p T : Nat} {s : Bytes × Bool} {ver lock : Int} {A1 A2 : Option Addr} {n1 c1 n2 c2 : Nat} (h : RdAt w r p s) (hT : Blk w T 52 #[.int .u32 ver, .slice A1 n1 c1, .slice A2 n2 c2, .int .u32 lock]) (i : Nat) (u : Value) : RdAt (w.setCell ⟨T, i, none⟩ u) r p s := by
  obtain ⟨h1, ⟨sv, h2, h3⟩, h4⟩ := h
  exact ⟨h1.far (p := ⟨T, i, none⟩) (h1.ne_ hT (by decide)) u, ⟨sv, h2.far (p := ⟨T, i, none⟩) (h2.ne_ hT (by decide)) u, byt_far h3 hT (tx_noByte _ _ _ _ _ _ _ _) i u⟩, h4⟩
theorem InsOwn.base {w : World} {b b' : Nat} {v : Value} {xs : List TIn} (h : InsOwn w b v xs) (hb : b' ≤ b) : InsOwn w b' v xs := by
  obtain ⟨ps, h1, h2, h3⟩ := h
  exact ⟨ps, h1, World.ownsRow_base h2 (fun k hk => Nat.le_trans hb (h2.lt k hk).1), fun p hp => ⟨World.ownsRow_base (h3 p hp).1 (fun k hk => Nat.le_trans hb ((h3 p hp).1.lt k hk).1), (h3 p hp).2⟩⟩
theorem OutsOwn.base {w : World} {b b' : Nat} {v : Value} {xs : List TOut} (h : OutsOwn w b v xs) (hb : b' ≤ b) : OutsOwn w b' v xs := by
  obtain ⟨ps, h1, h2, h3⟩ := h
  exact ⟨ps, h1, World.ownsRow_base h2 (fun k hk => Nat.le_trans hb (h2.lt k hk).1), fun p hp => ⟨World.ownsRow_base (h3 p hp).1 (fun k hk => Nat.le_trans hb ((h3 p hp).1.lt k hk).1), (h3 p hp).2⟩⟩
theorem mine_of_own {w : World} {base ver lock : Nat} {vi vo : Value} {xs : List TIn} {ys : List TOut} (h1 : Lt32 ver) (h2 : Lt32 lock) (hi : InsOwn w base vi xs) (ho : OutsOwn w base vo ys) : TxMine w base (.agg #[.int .u32 (ver : Int), vi, vo, .int .u32 (lock : Int)]) ⟨ver, xs, ys, lock⟩ := by
  obtain ⟨A, c, rfl, h3, h4, h5⟩ := hi.up
  obtain ⟨A', c', rfl, h6, h7, h8⟩ := ho.up
  exact ⟨A, c, A', c', rfl, h1, h2, h3, h4, h6, h7, h5, h8⟩
theorem TxMine.below {w w' : World} {base : Nat} {v : Value} {t : TTx} (h : TxMine w base v t) (hb : Below w.heap.size w w') : TxMine w' base v t := by
  obtain ⟨Ai, ci, Ao, co, h0, h1, h2, h3, h4, h5, h6, h7, h8⟩ := h
  exact ⟨Ai, ci, Ao, co, h0, h1, h2, h3, h4, h5, h6, h7.below (Nat.zero_le _) hb, h8.below (Nat.zero_le _) hb⟩
theorem TxMine.far {w : World} {base g : Nat} {v : Value} {t : TTx} {cs : Array Value} (h : TxMine w base v t) (hg : Blk w g 52 cs) (i : Nat) (u : Value) : TxMine (w.setCell ⟨g, i, none⟩ u) base v t := by
  obtain ⟨Ai, ci, Ao, co, h0, h1, h2, h3, h4, h5, h6, h7, h8⟩ := h
  exact ⟨Ai, ci, Ao, co, h0, h1, h2, h3, h4, h5, h6, h7.far hg (Nat.zero_le _) (by decide) (by decide) i u, h8.far hg (Nat.zero_le _) (by decide) (by decide) i u⟩
section
variable {P : Program}
theorem results_cell_tmp2_at {fn : Func} {p u x : Tmp} {ty : TypeId} (h : fn.results = #[.cell p ty, .tmp u, .tmp x]) (tmps : Array Value) (w : World) (g : Nat) (cs : List Value) (d : TypeDesc)
    (hp : tmps.getD p undef = .pointer (some ⟨g, 0, none⟩)) (hg : ∀ j u, cs[j]? = some u → w.cell? ⟨g, j, none⟩ = some u)
    (hu : P.underlying ty = some d) (hd : (match d with | .struct _ | .array _ _ => true | _ => false) = true) (hi : (P.info? ty).map (·.size) = some cs.length) :
    (results fn tmps).run P w = .ok (.tuple #[.agg cs.toArray, tmps.getD u undef, tmps.getD x undef]) w := by
  have hp' : tmps[p]?.getD undef = .pointer (some ⟨g, 0, none⟩) := by simpa using hp
  simp [results, h, hp', asAddr, run_loadVar_at w g 0 ty cs d (fun j u hu => by simpa using hg j u hu) hu hd hi]
end
theorem lt32_four (s : Bytes × Bool) (n : Nat × (Bytes × Bool)) (h : rFour s = n) : Lt32 n.1 := by rw [← h]; exact rFour_lt s
def zeroTx : Value := .agg #[.int .u32 0, .slice none 0 0, .slice none 0 0, .int .u32 0]
def FirstPost (l : Bytes) (w : World) (e : Ending) (w' : World) : Prop := Below w.heap.size w w' ∧
  ((firstOk l = true ∧ ∃ v, e = .returned (.tuple #[v, .int .i64 ((l.length : Int) - ((rTx l).2.1.length : Int)), .int .i64 0]) ∧ TxMine w' w.heap.size v (rTx l).1) ∨
   (firstOk l = false ∧ e = .returned (.tuple #[zeroTx, .int .i64 0, .int .i64 60])))

set_option maxRecDepth 100000 in
set_option maxHeartbeats 3200000 in
theorem first_any (v : Value) (l : Bytes) (B : Nat) (w : World) (hB : B ≤ w.heap.size) (hv : Byt w B v l) (hl : l.length ≤ 10000000000) :
    Calls Tryz.prog 58 #[v] w (FirstPost l w) := by
  obtain ⟨A, m, c, rfl⟩ := slice_of_byt hv
  have hm : m = l.length := by obtain ⟨A', c', hvv, _⟩ := hv; injection hvv
  have hm' := Lib.hid hm
  clear hm
  obtain ⟨W1, hW1⟩ : ∃ W1, W1 = w.alloc (.cells #[.int .u32 0, .slice none 0 0, .slice none 0 0, .int .u32 0] 52) := ⟨_, rfl⟩
  have hb1 : Below w.heap.size w W1 := by rw [hW1]; exact (Below.refl _ _).alloc (Nat.le_refl _) _
  have hx1 : Blk W1 w.heap.size 52 #[.int .u32 0, .slice none 0 0, .slice none 0 0, .int .u32 0] := by rw [hW1]; exact Blk.new w _ _
  have hmf : ∀ (fn : Fn) (first cap : Array Value) (w : World), (Instr.makeFunc fn first cap).run Tryz.prog w = .ok (.func fn first cap) w := fun _ _ _ _ => rfl
  go_enter Tryz.func58, Tryz.ntmps58
  go_wp2_with fail
  rw [← hW1]
  refine (look_any _ l B W1 (hv.below (hb1.mono hB)) hl).mono ?_
  clear hW1
  rintro e w2 ⟨p, rfl, hp, he2, hb2, hs2'⟩
  have hs2 := Lib.hid hs2'
  clear hs2'
  have hx2 := hx1.below hb2 hx1.lt
  have hxl := hx1.lt
  go_wp2_with fail
  obtain ⟨W3, hW3⟩ : ∃ W3, W3 = w2.alloc (.cells #[.pointer (some ⟨p, 0, none⟩), .bool false] 134) := ⟨_, rfl⟩
  rw [← hW3]
  have hb3 : Below w2.heap.size w2 W3 := by rw [hW3]; exact (Below.refl _ _).alloc (Nat.le_refl _) _
  have hrd3 : RdAt W3 w2.heap.size p (l, false) := ⟨by rw [hW3]; exact Blk.new w2 _ _, he2.below hb3, by have := hs2.out; omega⟩
  have hx3 := hx2.below hb3 hx2.lt
  have hbf : Below w.heap.size w W3 := (hb1.trans (hb2.mono hb1.size)).trans (hb3.mono (Nat.le_trans hb1.size hb2.size))
  have hrl := hrd3.1.lt
  have hpr := hrd3.2.2
  clear hW3 hx1 hx2 he2 hs2 hb2 hb3 hb1
  generalize w2.heap.size = r at *
  have hgo : w.heap.size < p := by omega
  refine (four_any r p (l, false) W3 hrd3).mono ?_
  rintro e w4 ⟨rfl, hrd4, ht4⟩
  have hx4 := ht4.blk hx3 (by simp; omega)
  have q0 := hx4.cell 0
  have f0 := hx4.frozen 0
  have hb4 : Below w.heap.size w w4 := hbf.trans (ht4.below hbf.size (by simp; omega))
  generalize ha : rFour (l, false) = a at *
  have ha' := Lib.hid ha
  have hla : a.2.1.length ≤ 10000000000 := by rw [← ha]; exact Nat.le_trans (rFour_le _) hl
  clear ha hrd3 hx3 ht4
  go_wp2_with fail
  obtain ⟨W5, hW5⟩ : ∃ W5, W5 = w4.setCell ⟨w.heap.size, 0, none⟩ (.int .u32 (a.1 : Int)) := ⟨_, rfl⟩
  rw [← hW5]
  have hx5 : Blk W5 w.heap.size 52 #[.int .u32 (a.1 : Int), .slice none 0 0, .slice none 0 0, .int .u32 0] := by rw [hW5]; exact hx4.set_ 0 _
  have hrd5 : RdAt W5 r p a.2 := by rw [hW5]; exact hrd4.txset hx4 0 _
  have hb5 : Below w.heap.size w W5 := by rw [hW5]; exact hb4.setCell (p := ⟨w.heap.size, 0, none⟩) (Nat.le_refl _) _
  have hr5 := hrd5.1.lt
  clear hW5 hrd4 hx4 q0 f0 hb4 hbf hrl
  refine (severalIn_any r p a.2 W5 hrd5 hla).mono ?_
  rintro e w6 ⟨v6, rfl, hi6, hrd6, ht6⟩
  obtain ⟨A6, m6, c6, rfl⟩ : ∃ A m c, v6 = .slice A m c := by obtain ⟨ps, _, h2, _⟩ := hi6; exact slice_of_own h2
  have hb6 : Below w.heap.size w w6 := hb5.trans (ht6.below hb5.size (by simp; omega))
  have hx6 := ht6.blk hx5 (by simp; omega)
  have q1 := hx6.cell 1
  have f1 := hx6.frozen 1
  generalize hbb : rSeveral rIn a.2 = b at *
  have hbb' := Lib.hid hbb
  have hlb : b.2.1.length ≤ 10000000000 := by rw [← hbb]; exact Nat.le_trans (rSeveral_le rIn rIn_le _) hla
  clear hbb hrd5 hx5
  go_wp2_with fail
  obtain ⟨W7, hW7⟩ : ∃ W7, W7 = w6.setCell ⟨w.heap.size, 1, none⟩ (.slice A6 m6 c6) := ⟨_, rfl⟩
  rw [← hW7]
  have hx7 : Blk W7 w.heap.size 52 #[.int .u32 (a.1 : Int), .slice A6 m6 c6, .slice none 0 0, .int .u32 0] := by rw [hW7]; exact hx6.set_ 1 _
  have hrd7 : RdAt W7 r p b.2 := by rw [hW7]; exact hrd6.txset hx6 1 _
  have hb7 : Below w.heap.size w W7 := by rw [hW7]; exact hb6.setCell (p := ⟨w.heap.size, 1, none⟩) (Nat.le_refl _) _
  have hi7 : InsOwn W7 W5.heap.size (.slice A6 m6 c6) b.1 := by rw [hW7]; exact hi6.turns ((Turns.refl [w.heap.size] _).setCell (by simp) 1 _) (by simp; omega)
  have hs57 : W5.heap.size ≤ W7.heap.size := by rw [hW7]; simpa [World.setCell] using ht6.size
  clear hW7 hrd6 hx6 q1 f1 hb6 hi6 ht6
  refine (severalOut_any r p b.2 W7 hrd7 hlb).mono ?_
  rintro e w8 ⟨v8, rfl, ho8, hrd8, ht8⟩
  obtain ⟨A8, m8, c8, rfl⟩ : ∃ A m c, v8 = .slice A m c := by obtain ⟨ps, _, h2, _⟩ := ho8; exact slice_of_own h2
  have hb8 : Below w.heap.size w w8 := hb7.trans (ht8.below hb7.size (by simp; omega))
  have hx8 := ht8.blk hx7 (by simp; omega)
  have hi8 := hi7.turns ht8 (by simp; omega)
  have q2 := hx8.cell 2
  have f2 := hx8.frozen 2
  generalize hcc : rSeveral rOut b.2 = c at *
  have hcc' := Lib.hid hcc
  clear hcc hrd7 hx7 hi7
  go_wp2_with fail
  obtain ⟨W9, hW9⟩ : ∃ W9, W9 = w8.setCell ⟨w.heap.size, 2, none⟩ (.slice A8 m8 c8) := ⟨_, rfl⟩
  rw [← hW9]
  have hx9 : Blk W9 w.heap.size 52 #[.int .u32 (a.1 : Int), .slice A6 m6 c6, .slice A8 m8 c8, .int .u32 0] := by rw [hW9]; exact hx8.set_ 2 _
  have hrd9 : RdAt W9 r p c.2 := by rw [hW9]; exact hrd8.txset hx8 2 _
  have hb9 : Below w.heap.size w W9 := by rw [hW9]; exact hb8.setCell (p := ⟨w.heap.size, 2, none⟩) (Nat.le_refl _) _
  have hi9 : InsOwn W9 W5.heap.size (.slice A6 m6 c6) b.1 := by rw [hW9]; exact hi8.turns ((Turns.refl [w.heap.size] _).setCell (by simp) 2 _) (by simp; omega)
  have ho9 : OutsOwn W9 W7.heap.size (.slice A8 m8 c8) c.1 := by rw [hW9]; exact ho8.turns ((Turns.refl [w.heap.size] _).setCell (by simp) 2 _) (by simp; omega)
  clear hW9 hrd8 hx8 q2 f2 hb8 hi8 ho8 ht8
  refine (four_any r p c.2 W9 hrd9).mono ?_
  rintro e w10 ⟨rfl, hrd10, ht10⟩
  have hb10 : Below w.heap.size w w10 := hb9.trans (ht10.below hb9.size (by simp; omega))
  have hx10 := ht10.blk hx9 (by simp; omega)
  have hi10 := hi9.turns ht10 (by simp; omega)
  have ho10 := ho9.turns ht10 (by simp; omega)
  have q3 := hx10.cell 3
  have f3 := hx10.frozen 3
  have hrl10 := hrd10.1.lt
  generalize hdd : rFour c.2 = d at *
  have hdd' := Lib.hid hdd
  have e0 : rTx l = (⟨a.1, b.1, c.1, d.1⟩, d.2) := by
    unfold rTx
    rw [ha'.out, hbb'.out, hcc'.out, hdd'.out]
  have e0' := Lib.hid e0
  have hx11 := hx10.set_ 3 (.int .u32 (d.1 : Int))
  have hrd11 := hrd10.txset hx10 3 (.int .u32 (d.1 : Int))
  have hb11 := hb10.setCell (p := ⟨w.heap.size, 3, none⟩) (Nat.le_refl _) (.int .u32 (d.1 : Int))
  have hi11 := hi10.turns ((Turns.refl [w.heap.size] w10).setCell (p := w.heap.size) (by simp) 3 (.int .u32 (d.1 : Int))) (by simp; omega)
  have ho11 := ho10.turns ((Turns.refl [w.heap.size] w10).setCell (p := w.heap.size) (by simp) 3 (.int .u32 (d.1 : Int))) (by simp; omega)
  have hw1 := hrd11.1.cell 1
  have q10 := hx11.cell 0
  have q11 := hx11.cell 1
  have q12 := hx11.cell 2
  have q13 := hx11.cell 3
  have g10 := hx11.frozen 0
  have g11 := hx11.frozen 1
  have g12 := hx11.frozen 2
  have g13 := hx11.frozen 3
  have mine := mine_of_own (lt32_four _ _ ha'.out) (lt32_four _ _ hdd'.out) (hi11.base hb5.size) (ho11.base hb7.size)
  have hsm := rTx_small l
  rw [e0'.out] at hsm
  have hfo : firstOk l = (!d.2.2 && okTx ⟨a.1, b.1, c.1, d.1⟩) := by rw [firstOk, e0'.out]
  have hfo' := Lib.hid hfo
  clear hi11 ho11 hi10 ho10 hdd e0 hfo hx9 hb9 hi9 ho9 ht10 hrd9 hrd10
  rcases hwr : d.2.2 with _ | _
  · rw [hwr] at hw1
    have hwr' := Lib.hid hwr
    clear hwr
    have hle := rTx_le l
    rw [e0'.out, ← hm'.out] at hle
    simp only at hle
    have hml : m ≤ 10000000000 := by rw [hm'.out]; exact hl
    go_wp2_with fail
    refine (check_any _ ⟨a.1, b.1, c.1, d.1⟩ _ _ (Nat.le_refl _) mine.at_ hsm).mono ?_
    rintro e w12 ⟨rfl, hb12⟩
    have hx12 := hx11.below hb12 hx11.lt
    have hrd12 := hrd11.below hb12
    have mine12 := mine.below hb12
    have hbb12 := hb11.trans (hb12.mono hb11.size)
    clear q10 q11 q12 q13 g10 g11 g12 g13 hw1 hx11 hrd11 mine hb11 hb12 hx10 hb10 q3 f3
    have q10 := hx12.cell 0
    have q11 := hx12.cell 1
    have q12 := hx12.cell 2
    have q13 := hx12.cell 3
    have g10 := hx12.frozen 0
    have g11 := hx12.frozen 1
    have g12 := hx12.frozen 2
    have g13 := hx12.frozen 3
    rcases hok : okTx ⟨a.1, b.1, c.1, d.1⟩ with _ | _
    · have hc : chkE ⟨a.1, b.1, c.1, d.1⟩ = 60 := by simp [chkE, hok]
      have hok' := Lib.hid hok
      rw [hc]
      clear hok hc
      go_wp2_with fail
      (try simp only [Exit.inBlock, Exit.then])
      have z1 := hx12.set_ 0 (.int .u32 0)
      have z2 := z1.set_ 1 (.slice none 0 0)
      have z3 := z2.set_ 2 (.slice none 0 0)
      have z4 := z3.set_ 3 (.int .u32 0)
      refine bodyPost_ret (results_cell_tmp2_at rfl _ _ w.heap.size [.int .u32 0, .slice none 0 0, .slice none 0 0, .int .u32 0] _ rfl (cells_of_blk z4) Tryz.underlying52 rfl txinfo26) rfl ⟨(((hbb12.setCell (p := ⟨w.heap.size, 0, none⟩) (Nat.le_refl _) _).setCell (p := ⟨w.heap.size, 1, none⟩) (Nat.le_refl _) _).setCell (p := ⟨w.heap.size, 2, none⟩) (Nat.le_refl _) _).setCell (p := ⟨w.heap.size, 3, none⟩) (Nat.le_refl _) _, .inr ⟨by rw [hfo'.out, hok'.out, Bool.and_false], rfl⟩⟩
    · have hc : chkE ⟨a.1, b.1, c.1, d.1⟩ = 0 := by simp [chkE, hok]
      have hok' := Lib.hid hok
      rw [hc]
      clear hok hc
      go_wp2_with fail
      have r0 := hrd12.1.cell 0
      have hww : IntKind.i64.wrap ((m : Int) - ((d.2.1.length : Nat) : Int)) = (m : Int) - ((d.2.1.length : Nat) : Int) := by rw [IntKind.wrap_i64]; omega
      have hmm : (m : Int) = (l.length : Int) := by rw [hm'.out]
      have hmm' := Lib.hid hmm
      clear hmm
      go_region_with (go_at_call 30; refine (left_any p d.2.1 _ (by exact hrd12.2.1)).mono ?_; rintro e w' ⟨rfl, rfl⟩)
      all_goals
        go_wp2_with fail
        (try simp only [Exit.inBlock, Exit.then])
      all_goals
        have z1 := hx12.set_ 0 (.int .u32 (a.1 : Int))
        have z2 := z1.set_ 1 (.slice A6 m6 c6)
        have z3 := z2.set_ 2 (.slice A8 m8 c8)
        have z4 := z3.set_ 3 (.int .u32 (d.1 : Int))
        have mz := (((mine12.far hx12 0 (.int .u32 (a.1 : Int))).far z1 1 (.slice A6 m6 c6)).far z2 2 (.slice A8 m8 c8)).far z3 3 (.int .u32 (d.1 : Int))
        have hbz := (((hbb12.setCell (p := ⟨w.heap.size, 0, none⟩) (Nat.le_refl _) (.int .u32 (a.1 : Int))).setCell (p := ⟨w.heap.size, 1, none⟩) (Nat.le_refl _) (.slice A6 m6 c6)).setCell (p := ⟨w.heap.size, 2, none⟩) (Nat.le_refl _) (.slice A8 m8 c8)).setCell (p := ⟨w.heap.size, 3, none⟩) (Nat.le_refl _) (.int .u32 (d.1 : Int))
        refine bodyPost_ret (results_cell_tmp2_at rfl _ _ w.heap.size [.int .u32 (a.1 : Int), .slice A6 m6 c6, .slice A8 m8 c8, .int .u32 (d.1 : Int)] _ rfl (cells_of_blk (by exact z4)) Tryz.underlying52 rfl txinfo26) rfl ⟨⟨hbz.os, hbz.tape, hbz.output, hbz.size, hbz.block⟩, .inl ⟨by rw [hfo'.out, hok'.out, hwr'.out]; rfl, _, ?_, by rw [e0'.out]; exact mz⟩⟩
        rw [e0'.out, ← hmm'.out]
        rfl
  · rw [hwr] at hw1
    have hwr' := Lib.hid hwr
    clear hwr
    go_wp2_with fail
    (try simp only [Exit.inBlock, Exit.then])
    have z1 := hx11.set_ 0 (.int .u32 0)
    have z2 := z1.set_ 1 (.slice none 0 0)
    have z3 := z2.set_ 2 (.slice none 0 0)
    have z4 := z3.set_ 3 (.int .u32 0)
    refine bodyPost_ret (results_cell_tmp2_at rfl _ _ w.heap.size [.int .u32 0, .slice none 0 0, .slice none 0 0, .int .u32 0] _ rfl (cells_of_blk z4) Tryz.underlying52 rfl txinfo26) rfl ⟨(((hb11.setCell (p := ⟨w.heap.size, 0, none⟩) (Nat.le_refl _) _).setCell (p := ⟨w.heap.size, 1, none⟩) (Nat.le_refl _) _).setCell (p := ⟨w.heap.size, 2, none⟩) (Nat.le_refl _) _).setCell (p := ⟨w.heap.size, 3, none⟩) (Nat.le_refl _) _, .inr ⟨by rw [hfo'.out, hwr'.out]; rfl, rfl⟩⟩
end Go.Proofs.YtcilabemglbhbaaGreatDoor
