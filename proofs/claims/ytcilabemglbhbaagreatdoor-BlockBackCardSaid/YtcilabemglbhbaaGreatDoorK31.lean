/- tx's several: as many inputs, or outputs, as are said. -/
import Derived.Test.YtcilabemglbhbaaGreatDoorK30
import Derived.Test.YtcilabemglbhbaaGreatDoorK24
namespace Go.Proofs.YtcilabemglbhbaaGreatDoor
open Go Go.RowKit Go.Pur

def rSev {α : Type} (one : Bytes × Bool → α × (Bytes × Bool)) : Nat → Bytes × Bool → List α × (Bytes × Bool)
  | 0, s => ([], s)
  | k + 1, s => if s.2 then ([], s) else ((one s).1 :: (rSev one k (one s).2).1, (rSev one k (one s).2).2)
def rSize (s : Bytes × Bool) : Nat × (Bytes × Bool) := match cszOf s.1 with
  | some (n, h) => (n, (s.1.drop h, s.2))
  | none => (0, (s.1, true))
def rStart (s : Bytes × Bool) : Bytes × Bool := ((rSize s).2.1, (rSize s).2.2 || decide (50 < (rSize s).1))
def rSeveral {α : Type} (one : Bytes × Bool → α × (Bytes × Bool)) (s : Bytes × Bool) : List α × (Bytes × Bool) := rSev one (rSize s).1 (rStart s)
theorem rSev_stop {α : Type} (one : Bytes × Bool → α × (Bytes × Bool)) (k : Nat) (s : Bytes × Bool) (h : s.2 = true) : rSev one k s = ([], s) := by
  cases k with
  | zero => rfl
  | succ k => rw [rSev, if_pos h]
theorem rSev_go {α : Type} (one : Bytes × Bool → α × (Bytes × Bool)) (k : Nat) (s : Bytes × Bool) (h : s.2 = false) : rSev one (k + 1) s = ((one s).1 :: (rSev one k (one s).2).1, (rSev one k (one s).2).2) := by
  rw [rSev, if_neg (by rw [h]; simp)]
theorem rSize_lt (s : Bytes × Bool) : Lt64 (rSize s).1 := by
  unfold rSize
  split
  · rename_i h; exact (cszOf_bounds h).2.2.2
  · unfold Lt64; simp

/-- the row at v and the scripts of its inputs are the call's own. -/
def InsOwn (w : World) (base : Nat) (v : Value) (xs : List TIn) : Prop := ∃ ps : List (TIn × Value), ps.map (·.1) = xs ∧ w.ownsRow base 89 35 v xs.length (ps.flatMap fun p => inCells p.1 p.2) ∧
  ∀ p ∈ ps, OwnB w base 5 p.2 p.1.script ∧ p.1.tx.length = 32 ∧ Lt32 p.1.n ∧ Lt32 p.1.seq
def OutsOwn (w : World) (base : Nat) (v : Value) (xs : List TOut) : Prop := ∃ ps : List (TOut × Value), ps.map (·.1) = xs ∧ w.ownsRow base 91 2 v xs.length (ps.flatMap fun p => outCells p.1 p.2) ∧
  ∀ p ∈ ps, OwnB w base 5 p.2 p.1.script ∧ Int64 p.1.value
theorem own_turns_base {w w' : World} {base e size n : Nat} {v : Value} {xs : List Value} {qs : List Nat} (h : w.ownsRow base e size v n xs) (ht : Turns qs w w') (hq : ∀ q ∈ qs, q < base) : w'.ownsRow base e size v n xs :=
  ht.own h (fun g hg e => by have := (h.lt g hg).1; have := hq g e; omega)
theorem InsOwn.turns {w w' : World} {base : Nat} {v : Value} {xs : List TIn} {qs : List Nat} (h : InsOwn w base v xs) (ht : Turns qs w w') (hq : ∀ q ∈ qs, q < base) : InsOwn w' base v xs := by
  obtain ⟨ps, h1, h2, h3⟩ := h
  exact ⟨ps, h1, own_turns_base h2 ht hq, fun p hp => ⟨own_turns_base (h3 p hp).1 ht hq, (h3 p hp).2⟩⟩
theorem OutsOwn.turns {w w' : World} {base : Nat} {v : Value} {xs : List TOut} {qs : List Nat} (h : OutsOwn w base v xs) (ht : Turns qs w w') (hq : ∀ q ∈ qs, q < base) : OutsOwn w' base v xs := by
  obtain ⟨ps, h1, h2, h3⟩ := h
  exact ⟨ps, h1, own_turns_base h2 ht hq, fun p hp => ⟨own_turns_base (h3 p hp).1 ht hq, (h3 p hp).2⟩⟩
theorem InsOwn.up {w : World} {base : Nat} {v : Value} {xs : List TIn} (h : InsOwn w base v xs) : ∃ A c, v = .slice A xs.length c ∧ xs.length ≤ c ∧ c ≤ maxLen ∧ InsUp w base 0 A xs xs.length := by
  obtain ⟨ps, h1, h2, h3⟩ := h
  have hlen : ∀ p ∈ ps, (inCells p.1 p.2).length = 35 := fun p hp => inCells_length _ _ (h3 p hp).2.1
  rcases h2.2 with ⟨rfl, h0⟩ | ⟨g, cap, cur, rfl, hbase, hg, hnc, hcm, hcs, htake⟩
  · exact ⟨none, 0, by rw [h0], by omega, by simp [maxLen], fun hn => by omega⟩
  · refine ⟨_, cap, rfl, hnc, hcm, fun hn => ⟨g, cur, rfl, hbase, hg, fun k x hx => ?_⟩⟩
    rw [← h1, List.getElem?_map] at hx
    obtain ⟨p, hp, rfl⟩ := Option.map_eq_some_iff.1 hx
    have hm := List.mem_of_getElem? hp
    refine ⟨p.2, ⟨fun _ => (h3 p hm).1, fun h => ?_⟩, (h3 p hm).2, fun j u hu => ?_⟩
    · have hk := (List.getElem?_eq_some_iff.1 hp).1
      have := congrArg List.length h1
      rw [List.length_map] at this
      omega
    · have hj : j < 35 := by
        rw [← hlen p hm]
        rcases Nat.lt_or_ge j (inCells p.1 p.2).length with h | h
        · exact h
        · rw [List.getElem?_eq_none h] at hu; cases hu
      have e := flat_get (fun p : TIn × Value => inCells p.1 p.2) 35 (by decide) _ hlen (k * 35 + j)
      rw [show (k * 35 + j) / 35 = k by omega, show (k * 35 + j) % 35 = j by omega, hp] at e
      simp only [Option.bind_some] at e
      rw [hu, ← htake, List.getElem?_take] at e
      split at e
      · rw [← e]; simp
      · cases e
theorem OutsOwn.up {w : World} {base : Nat} {v : Value} {xs : List TOut} (h : OutsOwn w base v xs) : ∃ A c, v = .slice A xs.length c ∧ xs.length ≤ c ∧ c ≤ maxLen ∧ OutsUp w base 0 A xs xs.length := by
  obtain ⟨ps, h1, h2, h3⟩ := h
  have hlen : ∀ p ∈ ps, (outCells p.1 p.2).length = 2 := fun p hp => rfl
  rcases h2.2 with ⟨rfl, h0⟩ | ⟨g, cap, cur, rfl, hbase, hg, hnc, hcm, hcs, htake⟩
  · exact ⟨none, 0, by rw [h0], by omega, by simp [maxLen], fun hn => by omega⟩
  · refine ⟨_, cap, rfl, hnc, hcm, fun hn => ⟨g, cur, rfl, hbase, hg, fun k x hx => ?_⟩⟩
    rw [← h1, List.getElem?_map] at hx
    obtain ⟨p, hp, rfl⟩ := Option.map_eq_some_iff.1 hx
    have hm := List.mem_of_getElem? hp
    refine ⟨p.2, ⟨fun _ => (h3 p hm).1, fun h => ?_⟩, (h3 p hm).2, fun j u hu => ?_⟩
    · have hk := (List.getElem?_eq_some_iff.1 hp).1
      have := congrArg List.length h1
      rw [List.length_map] at this
      omega
    · have hj : j < 2 := by
        rcases Nat.lt_or_ge j (outCells p.1 p.2).length with h | h
        · exact h
        · rw [List.getElem?_eq_none h] at hu; cases hu
      have e := flat_get (fun p : TOut × Value => outCells p.1 p.2) 2 (by decide) _ hlen (k * 2 + j)
      rw [show (k * 2 + j) / 2 = k by omega, show (k * 2 + j) % 2 = j by omega, hp] at e
      simp only [Option.bind_some] at e
      rw [hu, ← htake, List.getElem?_take] at e
      split at e
      · rw [← e]; simp
      · cases e
theorem rIn_ok (s : Bytes × Bool) : (rIn s).1.tx.length = 32 ∧ Lt32 (rIn s).1.n ∧ Lt32 (rIn s).1.seq := ⟨rRaw_length s, rFour_lt _, rFour_lt _⟩
theorem toI64_ok (n : Nat) : Int64 (toI64 n) := by
  unfold toI64 Int64
  rw [IntKind.wrap_i64]
  omega
theorem rOut_ok (s : Bytes × Bool) : Int64 (rOut s).1.value := toI64_ok _
theorem InsOwn.snoc {w : World} {base : Nat} {v : Value} {xs : List TIn} {ps : List (TIn × Value)} {x : TIn} {sv : Value} (h1 : ps.map (·.1) = xs) (h3 : ∀ p ∈ ps, OwnB w base 5 p.2 p.1.script ∧ p.1.tx.length = 32 ∧ Lt32 p.1.n ∧ Lt32 p.1.seq)
    (h2 : w.ownsRow base 89 35 v (xs.length + 1) ((ps.flatMap fun p => inCells p.1 p.2) ++ inCells x sv)) (h4 : OwnB w base 5 sv x.script) (h5 : x.tx.length = 32 ∧ Lt32 x.n ∧ Lt32 x.seq) : InsOwn w base v (xs ++ [x]) := by
  refine ⟨ps ++ [(x, sv)], by rw [List.map_append, h1]; rfl, ?_, fun p hp => ?_⟩
  · rw [List.flatMap_append, List.length_append, List.length_singleton]
    simpa using h2
  · rcases List.mem_append.1 hp with hp | hp
    · exact h3 p hp
    · rw [List.mem_singleton.1 hp]
      exact ⟨h4, h5⟩
theorem OutsOwn.snoc {w : World} {base : Nat} {v : Value} {xs : List TOut} {ps : List (TOut × Value)} {x : TOut} {sv : Value} (h1 : ps.map (·.1) = xs) (h3 : ∀ p ∈ ps, OwnB w base 5 p.2 p.1.script ∧ Int64 p.1.value)
    (h2 : w.ownsRow base 91 2 v (xs.length + 1) ((ps.flatMap fun p => outCells p.1 p.2) ++ outCells x sv)) (h4 : OwnB w base 5 sv x.script) (h5 : Int64 x.value) : OutsOwn w base v (xs ++ [x]) := by
  refine ⟨ps ++ [(x, sv)], by rw [List.map_append, h1]; rfl, ?_, fun p hp => ?_⟩
  · rw [List.flatMap_append, List.length_append, List.length_singleton]
    simpa using h2
  · rcases List.mem_append.1 hp with hp | hp
    · exact h3 p hp
    · rw [List.mem_singleton.1 hp]
      exact ⟨h4, h5⟩
theorem reads_one {w : World} {t : TypeId} {cs : List Value} {size : Nat} (hl : cs.length = size) : Reads (w.alloc (.cells cs.toArray t)) (w.heap.size + 1) size (some ⟨w.heap.size, 0, none⟩) 1 cs :=
  ⟨by omega, fun _ => ⟨_, rfl, by simp, fun j u hu => by
    have e : (⟨w.heap.size, 0, none⟩ : Addr).add j = ⟨w.heap.size, j, none⟩ := by unfold Addr.add; split <;> simp_all
    rw [e]
    exact cells_of_blk (Blk.new w t _) j u hu⟩⟩
theorem own_types_ne {w : World} {b1 b2 e1 e2 s1 s2 n1 n2 : Nat} {v1 v2 : Value} {x1 x2 : List Value} (h1 : w.ownsRow b1 e1 s1 v1 n1 x1) (h2 : w.ownsRow b2 e2 s2 v2 n2 x2) (hne : e1 ≠ e2) : v1.ownBlock = none ∨ v1.ownBlock ≠ v2.ownBlock := by
  rcases h1.2 with ⟨rfl, _⟩ | ⟨g, cap, cur, rfl, _, hh, _⟩
  · exact .inl rfl
  · refine .inr (fun e => ?_)
    rcases h2.2 with ⟨rfl, _⟩ | ⟨g', cap', cur', rfl, _, hh', _⟩
    · simp [Value.ownBlock] at e
    · have hgg : g = g' := by simpa [Value.ownBlock] using e
      subst hgg
      rw [hh] at hh'
      injection hh' with hh'
      injection hh' with _ ht
      exact hne ht
theorem turns_of_grown {w w' : World} {row : Option Nat} {base : Nat} (h : w.grownBy w' row) (hr : ∀ g, row = some g → base ≤ g) : ∃ qs, Turns qs w w' ∧ ∀ q ∈ qs, base ≤ q :=
  ⟨row.toList, ⟨h.os, h.tape, h.output, h.size, fun k hk hn => h.block k hk (fun e => hn (by rw [← e]; simp))⟩, fun q hq => hr q (by simpa using hq)⟩
theorem insOwn_append {w w1 : World} {base : Nat} {o : Obj} {v v1 sv : Value} {ps : List (TIn × Value)} {xs : List TIn} {x : TIn} (h1 : ps.map (·.1) = xs) (h2 : w.ownsRow base 89 35 v xs.length (ps.flatMap fun p => inCells p.1 p.2))
    (h3 : ∀ p ∈ ps, OwnB w base 5 p.2 p.1.script ∧ p.1.tx.length = 32 ∧ Lt32 p.1.n ∧ Lt32 p.1.seq) (h4 : OwnB w base 5 sv x.script) (h5 : x.tx.length = 32 ∧ Lt32 x.n ∧ Lt32 x.seq)
    (hg : (w.alloc o).grownBy w1 v.ownBlock) (hn : w1.ownsRow base 89 35 v1 (xs.length + 1) ((ps.flatMap fun p => inCells p.1 p.2) ++ inCells x sv)) : InsOwn w1 base v1 (xs ++ [x]) := by
  have hk : ∀ (u : Value) (l : Bytes), OwnB w base 5 u l → OwnB w1 base 5 u l := fun u l hu => by
    have h1 := hu.alloc o
    exact h1.kept hg (own_types_ne h1 (h2.alloc o) (by decide))
  exact InsOwn.snoc h1 (fun p hp => ⟨hk _ _ (h3 p hp).1, (h3 p hp).2⟩) hn (hk _ _ h4) h5
theorem outsOwn_append {w w1 : World} {base : Nat} {o : Obj} {v v1 sv : Value} {ps : List (TOut × Value)} {xs : List TOut} {x : TOut} (h1 : ps.map (·.1) = xs) (h2 : w.ownsRow base 91 2 v xs.length (ps.flatMap fun p => outCells p.1 p.2))
    (h3 : ∀ p ∈ ps, OwnB w base 5 p.2 p.1.script ∧ Int64 p.1.value) (h4 : OwnB w base 5 sv x.script) (h5 : Int64 x.value)
    (hg : (w.alloc o).grownBy w1 v.ownBlock) (hn : w1.ownsRow base 91 2 v1 (xs.length + 1) ((ps.flatMap fun p => outCells p.1 p.2) ++ outCells x sv)) : OutsOwn w1 base v1 (xs ++ [x]) := by
  have hk : ∀ (u : Value) (l : Bytes), OwnB w base 5 u l → OwnB w1 base 5 u l := fun u l hu => by
    have h1 := hu.alloc o
    exact h1.kept hg (own_types_ne h1 (h2.alloc o) (by decide))
  exact OutsOwn.snoc h1 (fun p hp => ⟨hk _ _ (h3 p hp).1, (h3 p hp).2⟩) hn (hk _ _ h4) h5
theorem fold_zip : ∀ (l : List Value) (k : Nat) (Z : Array Value) (i : Nat), (List.foldl (fun (cs : Array Value) (x : Value × Nat) => cs.setIfInBounds x.2 x.1) Z (l.zipIdx k))[i]? = if k ≤ i ∧ i < k + l.length ∧ i < Z.size then l[i - k]? else Z[i]?
  | [], k, Z, i => by
    simp only [List.zipIdx_nil, List.foldl_nil, List.length_nil, Nat.add_zero]
    rw [if_neg (by omega)]
  | a :: l, k, Z, i => by
    simp only [List.zipIdx_cons, List.foldl_cons, List.length_cons]
    rw [fold_zip l (k + 1) (Z.setIfInBounds k a) i, Array.size_setIfInBounds]
    by_cases h1 : k + 1 ≤ i ∧ i < k + 1 + l.length ∧ i < Z.size
    · rw [if_pos h1, if_pos (by omega), show i - k = (i - (k + 1)) + 1 by omega, List.getElem?_cons_succ]
    · rw [if_neg h1]
      by_cases h2 : i = k
      · subst h2
        by_cases h3 : i < Z.size
        · rw [if_pos (by omega), Nat.sub_self, List.getElem?_cons_zero]
          simp [h3]
        · rw [if_neg (by omega), Array.getElem?_eq_none (by rw [Array.size_setIfInBounds]; omega), Array.getElem?_eq_none (by omega)]
      · rw [Array.getElem?_setIfInBounds_ne (by omega)]
        by_cases h3 : k ≤ i ∧ i < k + (l.length + 1) ∧ i < Z.size
        · omega
        · rw [if_neg h3]
theorem fold_whole (H : List Value) (Z : Array Value) (h : Z.size = H.length) : List.foldl (fun (cs : Array Value) (x : Value × Nat) => cs.setIfInBounds x.2 x.1) Z H.zipIdx = H.toArray := by
  apply Array.ext_getElem?
  intro i
  have e : H.toArray[i]? = H[i]? := by simp
  rw [e, fold_zip H 0 Z i, Nat.sub_zero]
  by_cases hi : i < H.length
  · rw [if_pos (by omega)]
  · rw [if_neg (by omega), Array.getElem?_eq_none (by omega), List.getElem?_eq_none (by omega)]
theorem rFour_le (s : Bytes × Bool) : (rFour s).2.1.length ≤ s.1.length := by
  unfold rFour; split <;> simp
theorem rEight_le (s : Bytes × Bool) : (rEight s).2.1.length ≤ s.1.length := by
  unfold rEight; split <;> simp
theorem rRaw_le (s : Bytes × Bool) : (rRaw s).2.1.length ≤ s.1.length := by
  unfold rRaw; split <;> simp
theorem rScr_le (s : Bytes × Bool) : (rScr s).2.1.length ≤ s.1.length := by
  unfold rScr
  split
  · rename_i h
    unfold scrOf at h
    split at h
    · cases h
    · split at h
      · simp only [Option.some.injEq, Prod.mk.injEq] at h
        rw [← h.2]; simp
      · cases h
  · exact Nat.le_refl _
theorem rIn_le (s : Bytes × Bool) : (rIn s).2.1.length ≤ s.1.length := by
  unfold rIn
  exact Nat.le_trans (rFour_le _) (Nat.le_trans (rScr_le _) (Nat.le_trans (rFour_le _) (rRaw_le _)))
theorem rOut_le (s : Bytes × Bool) : (rOut s).2.1.length ≤ s.1.length := by
  unfold rOut
  exact Nat.le_trans (rScr_le _) (rEight_le _)
end Go.Proofs.YtcilabemglbhbaaGreatDoor
