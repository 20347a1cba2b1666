/- What a call may turn that writes some blocks alone: words for memory. -/
import Derived.Test.YtcilabemglbhbaaDoorPurLib2
namespace Go.Pur
open Go Go.RowKit

/-- of what was there only the blocks ps have turned. -/
structure Turns (ps : List Nat) (w w' : World) : Prop where
  os : w'.os = w.os
  tape : w'.tape = w.tape
  output : w'.output = w.output
  size : w.heap.size ≤ w'.heap.size
  block : ∀ k, k < w.heap.size → k ∉ ps → w'.heap[k]? = w.heap[k]?

section
variable {ps qs : List Nat} {w w1 w2 : World}
theorem Turns.refl (ps : List Nat) (w : World) : Turns ps w w := ⟨rfl, rfl, rfl, Nat.le_refl _, fun _ _ _ => rfl⟩
theorem Turns.trans (h : Turns ps w w1) (k : Turns ps w1 w2) : Turns ps w w2 :=
  ⟨k.os.trans h.os, k.tape.trans h.tape, k.output.trans h.output, Nat.le_trans h.size k.size, fun i hi hp => (k.block i (Nat.lt_of_lt_of_le hi h.size) hp).trans (h.block i hi hp)⟩
theorem Turns.more (h : Turns ps w w1) (hq : ∀ p ∈ ps, p ∈ qs) : Turns qs w w1 := ⟨h.os, h.tape, h.output, h.size, fun i hi hp => h.block i hi (fun e => hp (hq i e))⟩
/-- blocks that were not there when it began need no name. -/
theorem Turns.less (h : Turns qs w w1) (hq : ∀ p ∈ qs, p ∈ ps ∨ w.heap.size ≤ p) : Turns ps w w1 :=
  ⟨h.os, h.tape, h.output, h.size, fun i hi hp => h.block i hi (fun e => by
    rcases hq i e with h1 | h1
    · exact hp h1
    · omega)⟩
theorem Turns.of_below (h : Below w.heap.size w w1) : Turns ps w w1 := ⟨h.os, h.tape, h.output, h.size, fun k hk _ => h.block k hk⟩
theorem Turns.below {B : Nat} (h : Turns ps w w1) (hB : B ≤ w.heap.size) (hp : ∀ p ∈ ps, B ≤ p) : Below B w w1 :=
  ⟨h.os, h.tape, h.output, h.size, fun k hk => h.block k (by omega) (fun e => by have := hp k e; omega)⟩
theorem Turns.then_below (h : Turns ps w w1) (k : Below w1.heap.size w1 w2) : Turns ps w w2 := h.trans (.of_below k)
theorem Turns.drew (h : Turns ps w w1) : Turns ps w w1.drew := ⟨h.os, h.tape, h.output, h.size, h.block⟩
theorem Turns.drewN (h : Turns ps w w1) (n : Nat) : Turns ps w (w1.drewN n) := ⟨h.os, h.tape, h.output, h.size, h.block⟩
theorem Turns.alloc (h : Turns ps w w1) (o : Obj) : Turns ps w (w1.alloc o) := h.then_below ((Below.refl _ _).alloc (Nat.le_refl _) _)
theorem Turns.setCell (h : Turns ps w w1) {p : Nat} (hp : p ∈ ps) (i : Nat) (u : Value) : Turns ps w (w1.setCell ⟨p, i, none⟩ u) :=
  h.trans ⟨rfl, rfl, rfl, by simp [World.setCell], fun k _ hk => Below.heap_setCell _ _ _ _ (fun e => hk (by rw [e]; exact hp))⟩
theorem Turns.grown (h : Turns ps w w1) {row : Option Nat} (hg : w1.grownBy w2 row) (hr : ∀ g, row = some g → g ∈ ps ∨ w.heap.size ≤ g) : Turns ps w w2 :=
  ⟨hg.os.trans h.os, hg.tape.trans h.tape, hg.output.trans h.output, Nat.le_trans h.size hg.size, fun k hk hp => (hg.block k (Nat.lt_of_lt_of_le hk h.size) (fun e => by
    rcases hr k e.symm with h1 | h1
    · exact hp h1
    · omega)).trans (h.block k hk hp)⟩
theorem Turns.blk {g : Nat} {t : TypeId} {cs : Array Value} (h : Turns ps w w1) (hb : Blk w g t cs) (hg : g ∉ ps) : Blk w1 g t cs := (h.block g hb.lt hg).trans hb
theorem Turns.byt {B : Nat} {v : Value} {l : Bytes} (h : Turns ps w w1) (hB : ∀ p ∈ ps, B ≤ p) (hb : Byt w B v l) (hs : B ≤ w.heap.size) : Byt w1 B v l := hb.below (h.below hs hB)
theorem Turns.own {base e size n : Nat} {v : Value} {xs : List Value} (h : Turns ps w w1) (hv : w.ownsRow base e size v n xs) (hn : ∀ g, v.ownBlock = some g → g ∉ ps) : w1.ownsRow base e size v n xs := by
  refine ⟨hv.1, ?_⟩
  rcases hv.2 with h1 | ⟨g, cap, cur, rfl, h2, h3, h4⟩
  · exact .inl h1
  · have hgl : g < w.heap.size := by
      rcases Nat.lt_or_ge g w.heap.size with h | h
      · exact h
      · rw [Array.getElem?_eq_none h] at h3; cases h3
    exact .inr ⟨g, cap, cur, rfl, h2, (h.block g hgl (hn g (by simp [Value.ownBlock]))).trans h3, h4⟩
theorem Turns.of_upd {p : Nat} (h : Upd p none w w1 none) (hp : p ∈ ps) : Turns ps w w1 := ⟨h.os, h.tape, h.output, h.size, fun k hk hn => h.block k hk (fun e => hn (e ▸ hp)) (by simp)⟩
end
end Go.Pur
