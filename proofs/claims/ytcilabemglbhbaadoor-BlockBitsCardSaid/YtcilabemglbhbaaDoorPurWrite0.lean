/- What a sum has taken, when k whole blocks are mixed in: plain words for sha's Write. -/
import Derived.Test.YtcilabemglbhbaaDoorPurBlocks
namespace Go.Proofs.YtcilabemglbhbaaDoor
open Go Go.RowKit Go.Pur

def cuts : Nat → Sl → Sl
  | 0, x => x
  | k + 1, x => cuts k (cutA x)
theorem cuts_succ : ∀ (k : Nat) (x : Sl), cuts (k + 1) x = cutA (cuts k x)
  | 0, _ => rfl
  | k + 1, x => by rw [cuts, cuts_succ k (cutA x)]; rfl
theorem seqB_get : ∀ (N : Nat) (x : Sl) (i : Nat) (y : Bool × Sl), (seqB N x)[i]? = some y → (i < N ∧ y = (true, headA (cuts i x))) ∨ (i = N ∧ y = (false, cuts N x))
  | 0, x, i, y, h => by
    rcases i with _ | i
    · right
      simp only [seqB, List.getElem?_cons_zero, Option.some.injEq] at h
      exact ⟨rfl, h.symm⟩
    · simp [seqB] at h
  | N + 1, x, i, y, h => by
    rcases i with _ | i
    · left
      simp only [seqB, List.getElem?_cons_zero, Option.some.injEq] at h
      exact ⟨by omega, h.symm⟩
    · simp only [seqB, List.getElem?_cons_succ] at h
      rcases seqB_get N (cutA x) i y h with ⟨h1, h2⟩ | ⟨h1, h2⟩
      · exact .inl ⟨by omega, h2⟩
      · exact .inr ⟨by omega, h2⟩
theorem seqB_length : ∀ (N : Nat) (x : Sl), (seqB N x).length = N + 1
  | 0, _ => rfl
  | N + 1, x => by rw [seqB, List.length_cons, seqB_length N]
theorem byt_cut {w : World} {B : Nat} {x : Sl} {l : Bytes} (h : Byt w B (slv x) l) (h64 : 64 ≤ l.length) : Byt w B (slv (cutA x)) (l.drop 64) ∧ Byt w B (slv (headA x)) (l.take 64) := by
  obtain ⟨A, n, c⟩ := x
  obtain ⟨A', c', e, h1, h2, hr⟩ := h
  injection e with e1 e2 e3
  simp only at e1 e2 e3
  subst e1; subst e2; subst e3
  refine ⟨⟨(if c = 64 then A else A.map (·.add 64)), c - 64, ?_, by rw [List.length_drop]; omega, by omega, ?_⟩, ⟨A, c, ?_, by rw [List.length_take]; omega, h2, ?_⟩⟩
  · simp only [slv, cutA, List.length_drop]
  · have := hr.cut (k := 64) (cap := c) h64 h1
    rw [List.length_drop, bvs, List.map_drop]
    simpa [bvs] using this
  · simp only [slv, headA, List.length_take, Nat.min_eq_left h64]
  · have := hr.take (k := 64) h64
    rw [List.length_take, Nat.min_eq_left h64, bvs, List.map_take]
    simpa [bvs] using this
theorem byt_cuts {w : World} {B : Nat} : ∀ (k : Nat) {x : Sl} {l : Bytes}, Byt w B (slv x) l → 64 * k ≤ l.length → Byt w B (slv (cuts k x)) (l.drop (64 * k))
  | 0, x, l, h, _ => by simpa [cuts] using h
  | k + 1, x, l, h, hk => by
    have h1 := (byt_cut h (by omega)).1
    have h2 := byt_cuts k h1 (by rw [List.length_drop]; omega)
    rw [cuts]
    rw [List.drop_drop] at h2
    rw [show 64 * (k + 1) = 64 + 64 * k by omega]
    exact h2
/-- the state behind k whole blocks of l. -/
def absorb (s : S8) (l : Bytes) : Nat → S8
  | 0 => s
  | k + 1 => compress (absorb s l k) ((l.drop (64 * k)).take 64)

/-- what holds between two rounds of Write's loop. -/
structure WInv (p Bn tb : Nat) (s : S8) (l : Bytes) (N : Nat) (n : Int) (av : Value) (w0 : World) (pre : List (Bool × Sl)) (W : World) : Prop where
  sum : ∃ rv, SumBlk W p (absorb s l (min pre.length N)) rv n ∧ (pre.length = N + 1 → OwnB W 0 5 rv (l.drop (64 * N)) ∧ rv.ownBlock ≠ some Bn)
  all : OwnB W 0 5 av l
  far : av.ownBlock ≠ some Bn
  upd : Upd p none w0 W none
  box : w0.heap.size ≤ Bn
  lt : p < w0.heap.size
  bs : Blk W tb 140 #[.pointer (some ⟨p, 0, none⟩)]
  tn : tb ≠ Bn
  bl : Bn < W.heap.size
theorem own_heap {w : World} {base e size n : Nat} {v : Value} {xs : List Value} (h : w.ownsRow base e size v n xs) {g : Nat} (hg : v.ownBlock = some g) : ∃ o : Obj, w.heap[g]? = some o ∧ o.isCells = true := by
  rcases h.2 with ⟨rfl, _⟩ | ⟨g', cap, cur, rfl, _, hh, _⟩
  · simp [Value.ownBlock] at hg
  · have : g' = g := by simpa [Value.ownBlock] using hg
    subst this
    exact ⟨_, hh, rfl⟩
theorem own_row {w w' : World} {base e size n : Nat} {v : Value} {xs : List Value} {row : Option Nat} {Bn : Nat} (h : w.ownsRow base e size v n xs) (hg : w.grownBy w' row) (hfar : v.ownBlock ≠ some Bn)
    (hr : ∀ r, row = some r → r = Bn ∨ ∃ o : Obj, w.heap[r]? = some o ∧ o.isCells = false) : w'.ownsRow base e size v n xs := by
  refine h.kept hg ?_
  rcases hv : v.ownBlock with _ | g
  · exact .inl rfl
  · refine .inr (fun e => ?_)
    rcases hr g e.symm with rfl | ⟨o, ho, hc⟩
    · exact hfar hv
    · obtain ⟨o', ho', hc'⟩ := own_heap h hv
      rw [ho] at ho'
      injection ho' with ho'
      rw [← ho', hc] at hc'
      cases hc'
theorem WInv.grown {p Bn tb : Nat} {s : S8} {l : Bytes} {N : Nat} {n : Int} {av : Value} {w0 A B : World} {pre : List (Bool × Sl)} {row : Option Nat} (h : WInv p Bn tb s l N n av w0 pre A) (hg : A.grownBy B row)
    (hr : ∀ r, row = some r → w0.heap.size ≤ r ∧ (r = Bn ∨ ∃ o : Obj, A.heap[r]? = some o ∧ o.isCells = false)) : WInv p Bn tb s l N n av w0 pre B := by
  obtain ⟨⟨rv, h1, h2⟩, h3, h4, h5, h6, h7, h8, h9, h10⟩ := h
  have hp : ∀ r, row = some r → p ≠ r := fun r e => by have := (hr r e).1; omega
  refine ⟨⟨rv, Blk.grown h1 hg (fun e => hp p e.symm rfl), fun hl => ⟨own_row (h2 hl).1 hg (h2 hl).2 (fun r e => (hr r e).2), (h2 hl).2⟩⟩, own_row h3 hg h4 (fun r e => (hr r e).2), h4, ?_, h6, h7, Blk.grown h8 hg (fun e => ?_), h9, Nat.lt_of_lt_of_le h10 hg.size⟩
  rotate_left
  · rcases (hr tb e.symm).2 with h | ⟨o, ho, hc⟩
    · exact h9 h
    · unfold Blk at h8
      rw [h8] at ho
      injection ho with ho
      rw [← ho] at hc
      cases hc
  exact ⟨hg.os.trans h5.os, hg.tape.trans h5.tape, hg.output.trans h5.output, Nat.le_trans h5.size hg.size, fun k hk hkp _ => (hg.block k (Nat.lt_of_lt_of_le hk h5.size) (fun e => by have := (hr k e.symm).1; omega)).trans (h5.block k hk hkp (by simp)), .inl rfl⟩
end Go.Proofs.YtcilabemglbhbaaDoor
