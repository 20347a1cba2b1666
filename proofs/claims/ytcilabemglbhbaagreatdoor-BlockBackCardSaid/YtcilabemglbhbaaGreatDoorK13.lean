/- sha's blocks: the iterator over a message's whole blocks, and what is left. -/
import Derived.Test.YtcilabemglbhbaaGreatDoorK7
import Derived.Test.YtcilabemglbhbaaGreatDoorK9
import Derived.Test.YtcilabemglbhbaaGreatDoorK12
namespace Go.Proofs.YtcilabemglbhbaaGreatDoor
open Go Go.RowKit Go.Pur

/-- b[64:] -/
def cutA (x : Sl) : Sl := (if x.2.2 = 64 then x.1 else x.1.map (·.add 64), x.2.1 - 64, x.2.2 - 64)
/-- b[:64] -/
def headA (x : Sl) : Sl := (x.1, 64, x.2.2)
def seqB : Nat → Sl → List (Bool × Sl)
  | 0, x => [(false, x)]
  | k + 1, x => (true, headA x) :: seqB k (cutA x)
/-- the slice x has an address where it has an element, and no more elements than room. -/
def Wf (x : Sl) : Prop := (0 < x.2.1 → ∃ b o, x.1 = some ⟨b, o, none⟩) ∧ x.2.1 ≤ x.2.2 ∧ x.2.2 ≤ maxLen
theorem Wf.cut {x : Sl} (h : Wf x) (h64 : 64 ≤ x.2.1) : Wf (cutA x) := by
  obtain ⟨A, n, c⟩ := x
  obtain ⟨h1, h2, h3⟩ := h
  simp only at h1 h2 h3 h64
  refine ⟨fun hn => ?_, by simp [cutA]; omega, by simp only [cutA]; omega⟩
  simp only [cutA] at hn ⊢
  obtain ⟨b, o, rfl⟩ := h1 (by omega)
  rw [if_neg (by omega)]
  exact ⟨b, o + 64, by simp [Addr.add]⟩
def lenAt (w : World) (p : Nat) : Nat := match w.cell? ⟨p, 0, none⟩ with | some (.slice _ n _) => n | _ => 0
def encB (x : Bool × Sl) : Array Value := #[.bool x.1, slv x.2]

set_option maxRecDepth 100000 in
set_option maxHeartbeats 1600000 in
theorem blocks1_in (n : Nat) (hn : 1 ≤ n) (Bn : Nat) (s0 : Sl) (w : World) (hbx : Blk w Bn 30 #[slv s0]) (hwf : Wf s0) :
    SeqNx Fence.wide n Tryz.prog 100 #[.pointer (some ⟨Bn, 0, none⟩)] encB (fun A B => B.heap[Bn]? = A.heap[Bn]?) (some Bn) (· = seqB (s0.2.1 / 64) s0) (fun _ => True)
      (fun pre x => ∃ post, seqB (s0.2.1 / 64) s0 = pre ++ x :: post) w := by
  intro l J Jx W hW hJ hJx hY h0
  have hbW := hbx.below hW hbx.lt
  have hbl := hbW.lt
  generalize hL : seqB (s0.2.1 / 64) s0 = L at *
  have HL := Lib.hid hL
  have HJ := Lib.hid hJ
  have HJx := Lib.hid hJx
  have HY := Lib.hid hY
  have hst : ∃ (pre : List (Bool × Sl)) (x : Sl), Hid (L = pre ++ seqB (x.2.1 / 64) x) ∧ J pre W ∧ Blk W Bn 30 #[slv x] ∧ Wf x := ⟨[], s0, Lib.hid (by rw [← hL]; rfl), h0, hbW, hwf⟩
  clear hJ hJx hY hL hW hbx hbW h0 hwf
  refine callsIn_of_wp Tryz.func100 rfl trivial ?_ rfl
  simp only [Tryz.ntmps100, List.size_toArray, List.length_cons, List.length_nil, Nat.reduceAdd, Nat.reduceSub, Array.replicate_succ, Array.replicate_zero, List.push_toArray, List.append_toArray, List.nil_append, List.cons_append]
  gi_wp2
  gi_loopw [] (fun wr => ∃ (pre : List (Bool × Sl)) (x : Sl), Hid (L = pre ++ seqB (x.2.1 / 64) x) ∧ J pre wr ∧ Blk wr Bn 30 #[slv x] ∧ Wf x) (fun wr => lenAt wr Bn)
  case atStart => exact hst
  case round =>
    clear hst
    obtain ⟨pre, x, hpre, hj, hb, hwf⟩ := hrel
    obtain ⟨A, m, c⟩ := x
    have hcell : wr.cell? ⟨Bn, 0, none⟩ = some (.slice A m c) := hb.cell 0
    have hfro := hb.frozen 0
    have hln : lenAt wr Bn = m := by simp [lenAt, hcell]
    have hln' := Lib.hid hln
    clear hln
    obtain ⟨w1, w2, w3⟩ := hwf
    simp only at w1 w2 w3
    by_cases h64 : 64 ≤ m
    · obtain ⟨b, o, rfl⟩ := w1 (by omega)
      have hnext : L = pre ++ (true, headA (some ⟨b, o, none⟩, m, c)) :: seqB ((m - 64) / 64) (cutA (some ⟨b, o, none⟩, m, c)) := by
        rw [hpre.out]
        have e : m / 64 = (m - 64) / 64 + 1 := by omega
        simp only [e]
        rfl
      obtain ⟨fn, tmps, assign, body, hy, hR⟩ := HY.out pre (true, headA (some ⟨b, o, none⟩, m, c)) wr hj ⟨_, hnext⟩
      try dsimp only [encB, headA, slv] at hy
      have HR := Lib.hid hR
      have hnext' := Lib.hid hnext
      clear hR hnext hpre
      have hmc : m ≤ 9223372036854775807 := by unfold maxLen at w3; omega
      have hfin : ∀ (y : Sl) (e : Ending) (W3 : World) (u : Value), y = cutA (some ⟨b, o, none⟩, m, c) → J (pre ++ [(true, headA (some ⟨b, o, none⟩, m, c))]) W3 → W3.heap[Bn]? = wr.heap[Bn]? → slv y = u →
          (∃ (pre : List (Bool × Sl)) (x : Sl), Hid (L = pre ++ seqB (x.2.1 / 64) x) ∧ J pre (W3.setCell ⟨Bn, 0, none⟩ u) ∧ Blk (W3.setCell ⟨Bn, 0, none⟩ u) Bn 30 #[slv x] ∧ Wf x) ∧ lenAt (W3.setCell ⟨Bn, 0, none⟩ u) Bn = m - 64 := by
        rintro y e W3 u rfl hJ3 hk3 rfl
        have hb3 : Blk W3 Bn 30 #[slv (some ⟨b, o, none⟩, m, c)] := hk3.trans hb
        have hb4 := hb3.set_ 0 (slv (cutA (some ⟨b, o, none⟩, m, c)))
        refine ⟨⟨_, cutA (some ⟨b, o, none⟩, m, c), Lib.hid (by rw [hnext'.out]; simp [cutA]), HJ.out _ W3 _ hJ3 ⟨rfl, rfl, rfl, by simp [World.setCell], fun k _ hk => Below.heap_setCell _ _ _ _ (fun e => hk (by rw [e]))⟩ (fun r e => by cases e; exact ⟨_, hb3, rfl⟩), hb4, ?_⟩, ?_⟩
        · exact Wf.cut (x := (some ⟨b, o, none⟩, m, c)) ⟨fun _ => ⟨b, o, rfl⟩, w2, w3⟩ h64
        · have h0 : (W3.setCell ⟨Bn, 0, none⟩ (slv (cutA (some ⟨b, o, none⟩, m, c)))).cell? ⟨Bn, 0, none⟩ = some (slv (cutA (some ⟨b, o, none⟩, m, c))) := hb4.cell 0
          unfold lenAt
          rw [h0]
          rfl
      have hfin' := Lib.hid hfin
      have hlt : Hid (m - 64 < lenAt wr Bn) := Lib.hid (by rw [hln'.out]; omega)
      clear hfin
      by_cases hc : c = 64
      · subst hc
        gi_wp2
        refine HR.out.mono ?_
        rintro e W3 (⟨rfl, hJ3, hk3⟩ | ⟨rfl, hJx3⟩)
        · have hb3 : Blk W3 Bn 30 #[slv (some ⟨b, o, none⟩, m, 64)] := hk3.trans hb
          have g0 : W3.cell? ⟨Bn, 0, none⟩ = some (.slice (some ⟨b, o, none⟩) m 64) := hb3.cell 0
          have gf := hb3.frozen 0
          gi_wp2
          have hm64 : m = 64 := by omega
          obtain ⟨h1, h2⟩ := hfin'.out _ .outgrown W3 (.slice (some ⟨b, o, none⟩) 0 0) rfl hJ3 hk3 (by rw [hm64]; rfl)
          exact ⟨h1, by rw [h2]; exact hlt.out⟩
        · gi_wp2
          refine bodyPost_ret (results_none rfl _ _ _) rfl ?_
          exact ⟨⟨_, rfl⟩, .inr ⟨_, trivial, hJx3⟩⟩
      · gi_wp2
        refine HR.out.mono ?_
        rintro e W3 (⟨rfl, hJ3, hk3⟩ | ⟨rfl, hJx3⟩)
        · have hb3 : Blk W3 Bn 30 #[slv (some ⟨b, o, none⟩, m, c)] := hk3.trans hb
          have g0 : W3.cell? ⟨Bn, 0, none⟩ = some (.slice (some ⟨b, o, none⟩) m c) := hb3.cell 0
          have gf := hb3.frozen 0
          gi_wp2
          obtain ⟨h1, h2⟩ := hfin'.out _ .outgrown W3 (.slice (some ⟨b, o + 64, none⟩) (m - 64) (c - 64)) rfl hJ3 hk3 (by simp [cutA, slv, hc, Addr.add])
          exact ⟨h1, by rw [h2]; exact hlt.out⟩
        · gi_wp2
          refine bodyPost_ret (results_none rfl _ _ _) rfl ?_
          exact ⟨⟨_, rfl⟩, .inr ⟨_, trivial, hJx3⟩⟩
    · obtain ⟨fn, tmps, assign, body, hy, hR⟩ := HY.out pre (false, (A, m, c)) wr hj ⟨[], by rw [hpre.out, show ((A, m, c) : Sl).2.1 / 64 = 0 from Nat.div_eq_of_lt (show m < 64 by omega)]; rfl⟩
      try dsimp only [encB, slv] at hy
      have HR := Lib.hid hR
      have hL : L = pre ++ [(false, (A, m, c))] := by rw [hpre.out, show ((A, m, c) : Sl).2.1 / 64 = 0 from Nat.div_eq_of_lt (show m < 64 by omega)]; rfl
      have hL' := Lib.hid hL
      clear hR hL hpre
      gi_wp2
      refine HR.out.mono ?_
      rintro e W3 (⟨rfl, hJ3, hk3⟩ | ⟨rfl, hJx3⟩)
      · gi_wp2
        refine bodyPost_end (results_none rfl _ _ _) rfl ?_
        exact ⟨⟨_, rfl⟩, .inl ⟨_, rfl, by rw [hL'.out]; exact hJ3⟩⟩
      · gi_wp2
        refine bodyPost_end (results_none rfl _ _ _) rfl ?_
        exact ⟨⟨_, rfl⟩, .inr ⟨_, trivial, hJx3⟩⟩
end Go.Proofs.YtcilabemglbhbaaGreatDoor

/- What a sum has taken, when k whole blocks are mixed in: plain words for sha's Write. -/
namespace Go.Proofs.YtcilabemglbhbaaGreatDoor
open Go Go.RowKit Go.Pur

def cuts : Nat → Sl → Sl
  | 0, x => x
  | k + 1, x => cuts k (cutA x)
theorem cuts_succ : ∀ (k : Nat) (x : Sl), cuts (k + 1) x = cutA (cuts k x)
  | 0, _ => rfl
  | k + 1, x => by rw [cuts, cuts_succ k (cutA x)]; rfl
theorem seqB_get : ∀ (N : Nat) (x : Sl) (i : Nat) (y : Bool × Sl), (seqB N x)[i]? = some y → (i < N ∧ y = (true, headA (cuts i x))) ∨ (i = N ∧ y = (false, cuts N x))
  | 0, x, i, y, h => by
    rcases i with _ | i
    · right
      simp only [seqB, List.getElem?_cons_zero, Option.some.injEq] at h
      exact ⟨rfl, h.symm⟩
    · simp [seqB] at h
  | N + 1, x, i, y, h => by
    rcases i with _ | i
    · left
      simp only [seqB, List.getElem?_cons_zero, Option.some.injEq] at h
      exact ⟨by omega, h.symm⟩
    · simp only [seqB, List.getElem?_cons_succ] at h
      rcases seqB_get N (cutA x) i y h with ⟨h1, h2⟩ | ⟨h1, h2⟩
      · exact .inl ⟨by omega, h2⟩
      · exact .inr ⟨by omega, h2⟩
theorem seqB_length : ∀ (N : Nat) (x : Sl), (seqB N x).length = N + 1
  | 0, _ => rfl
  | N + 1, x => by rw [seqB, List.length_cons, seqB_length N]
theorem byt_cut {w : World} {B : Nat} {x : Sl} {l : Bytes} (h : Byt w B (slv x) l) (h64 : 64 ≤ l.length) : Byt w B (slv (cutA x)) (l.drop 64) ∧ Byt w B (slv (headA x)) (l.take 64) := by
  obtain ⟨A, n, c⟩ := x
  obtain ⟨A', c', e, h1, h2, hr⟩ := h
  injection e with e1 e2 e3
  simp only at e1 e2 e3
  subst e1; subst e2; subst e3
  refine ⟨⟨(if c = 64 then A else A.map (·.add 64)), c - 64, ?_, by rw [List.length_drop]; omega, by omega, ?_⟩, ⟨A, c, ?_, by rw [List.length_take]; omega, h2, ?_⟩⟩
  · simp only [slv, cutA, List.length_drop]
  · have := hr.cut (k := 64) (cap := c) h64 h1
    rw [List.length_drop, bvs, List.map_drop]
    simpa [bvs] using this
  · simp only [slv, headA, List.length_take, Nat.min_eq_left h64]
  · have := hr.take (k := 64) h64
    rw [List.length_take, Nat.min_eq_left h64, bvs, List.map_take]
    simpa [bvs] using this
theorem byt_cuts {w : World} {B : Nat} : ∀ (k : Nat) {x : Sl} {l : Bytes}, Byt w B (slv x) l → 64 * k ≤ l.length → Byt w B (slv (cuts k x)) (l.drop (64 * k))
  | 0, x, l, h, _ => by simpa [cuts] using h
  | k + 1, x, l, h, hk => by
    have h1 := (byt_cut h (by omega)).1
    have h2 := byt_cuts k h1 (by rw [List.length_drop]; omega)
    rw [cuts]
    rw [List.drop_drop] at h2
    rw [show 64 * (k + 1) = 64 + 64 * k by omega]
    exact h2
/-- the state behind k whole blocks of l. -/
def absorb (s : S8) (l : Bytes) : Nat → S8
  | 0 => s
  | k + 1 => compress (absorb s l k) ((l.drop (64 * k)).take 64)

/-- what holds between two rounds of Write's loop. -/
structure WInv (p Bn tb : Nat) (s : S8) (l : Bytes) (N : Nat) (n : Int) (av : Value) (w0 : World) (pre : List (Bool × Sl)) (W : World) : Prop where
  sum : ∃ rv, SumBlk W p (absorb s l (min pre.length N)) rv n ∧ (pre.length = N + 1 → OwnB W 0 5 rv (l.drop (64 * N)) ∧ rv.ownBlock ≠ some Bn)
  all : OwnB W 0 5 av l
  far : av.ownBlock ≠ some Bn
  upd : Upd p none w0 W none
  box : w0.heap.size ≤ Bn
  lt : p < w0.heap.size
  bs : Blk W tb 141 #[.pointer (some ⟨p, 0, none⟩)]
  tn : tb ≠ Bn
  bl : Bn < W.heap.size
theorem own_heap {w : World} {base e size n : Nat} {v : Value} {xs : List Value} (h : w.ownsRow base e size v n xs) {g : Nat} (hg : v.ownBlock = some g) : ∃ o : Obj, w.heap[g]? = some o ∧ o.isCells = true := by
  rcases h.2 with ⟨rfl, _⟩ | ⟨g', cap, cur, rfl, _, hh, _⟩
  · simp [Value.ownBlock] at hg
  · have : g' = g := by simpa [Value.ownBlock] using hg
    subst this
    exact ⟨_, hh, rfl⟩
theorem own_row {w w' : World} {base e size n : Nat} {v : Value} {xs : List Value} {row : Option Nat} {Bn : Nat} (h : w.ownsRow base e size v n xs) (hg : w.grownBy w' row) (hfar : v.ownBlock ≠ some Bn)
    (hr : ∀ r, row = some r → r = Bn ∨ ∃ o : Obj, w.heap[r]? = some o ∧ o.isCells = false) : w'.ownsRow base e size v n xs := by
  refine h.kept hg ?_
  rcases hv : v.ownBlock with _ | g
  · exact .inl rfl
  · refine .inr (fun e => ?_)
    rcases hr g e.symm with rfl | ⟨o, ho, hc⟩
    · exact hfar hv
    · obtain ⟨o', ho', hc'⟩ := own_heap h hv
      rw [ho] at ho'
      injection ho' with ho'
      rw [← ho', hc] at hc'
      cases hc'
theorem WInv.grown {p Bn tb : Nat} {s : S8} {l : Bytes} {N : Nat} {n : Int} {av : Value} {w0 A B : World} {pre : List (Bool × Sl)} {row : Option Nat} (h : WInv p Bn tb s l N n av w0 pre A) (hg : A.grownBy B row)
    (hr : ∀ r, row = some r → w0.heap.size ≤ r ∧ (r = Bn ∨ ∃ o : Obj, A.heap[r]? = some o ∧ o.isCells = false)) : WInv p Bn tb s l N n av w0 pre B := by
  obtain ⟨⟨rv, h1, h2⟩, h3, h4, h5, h6, h7, h8, h9, h10⟩ := h
  have hp : ∀ r, row = some r → p ≠ r := fun r e => by have := (hr r e).1; omega
  refine ⟨⟨rv, Blk.grown h1 hg (fun e => hp p e.symm rfl), fun hl => ⟨own_row (h2 hl).1 hg (h2 hl).2 (fun r e => (hr r e).2), (h2 hl).2⟩⟩, own_row h3 hg h4 (fun r e => (hr r e).2), h4, ?_, h6, h7, Blk.grown h8 hg (fun e => ?_), h9, Nat.lt_of_lt_of_le h10 hg.size⟩
  rotate_left
  · rcases (hr tb e.symm).2 with h | ⟨o, ho, hc⟩
    · exact h9 h
    · unfold Blk at h8
      rw [h8] at ho
      injection ho with ho
      rw [← ho] at hc
      cases hc
  exact ⟨hg.os.trans h5.os, hg.tape.trans h5.tape, hg.output.trans h5.output, Nat.le_trans h5.size hg.size, fun k hk hkp _ => (hg.block k (Nat.lt_of_lt_of_le hk h5.size) (fun e => by have := (hr k e.symm).1; omega)).trans (h5.block k hk hkp (by simp)), .inl rfl⟩
end Go.Proofs.YtcilabemglbhbaaGreatDoor
