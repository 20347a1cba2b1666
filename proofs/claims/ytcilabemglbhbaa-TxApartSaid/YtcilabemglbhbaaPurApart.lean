/- TxApart: the walk. -/
import Derived.Test.YtcilabemglbhbaaPurTxId
import Derived.Test.YtcilabemglbhbaaPurAlive
import Derived.Test.YtcilabemglbhbaaPurTxSame2
import Derived.Test.YtcilabemglbhbaaPurInj
import Derived.Test.YtcilabemglbhbaaPurCopy2
import Derived.Test.YtcilabemglbhbaaPurCalm
namespace Go.Proofs.Ytcilabemglbhbaa
open Go Go.RowKit Go.Pur Go.Sort

theorem blk4 {w : World} {g : Nat} {t : TypeId} {a b c d : Value} (h : Blk w g t #[a, b, c, d]) : w.cell? ⟨g, 0, none⟩ = some a ∧ w.cell? ⟨g, 1, none⟩ = some b ∧ w.cell? ⟨g, 2, none⟩ = some c ∧ w.cell? ⟨g, 3, none⟩ = some d :=
  ⟨h.cell 0, h.cell 1, h.cell 2, h.cell 3⟩
theorem InsUp.at_ {w : World} {base c : Nat} {A : Option Addr} {xs : List TIn} (h : InsUp w base 0 A xs xs.length) (h1 : xs.length ≤ c) (h2 : c ≤ maxLen) : InsAt w w.heap.size (.slice A xs.length c) xs := by
  refine ⟨A, c, rfl, h1, h2, fun hn => ?_⟩
  obtain ⟨g, cs, rfl, _, hbk, hx⟩ := h hn
  refine ⟨g, 0, rfl, hbk.lt, fun k x hk => ?_⟩
  obtain ⟨sv, ⟨h3, _⟩, ⟨h4, h5, h6⟩, h7⟩ := hx k x hk
  have hkl : k < xs.length := by
    rcases Nat.lt_or_ge k xs.length with h | h
    · exact h
    · rw [List.getElem?_eq_none h] at hk; cases hk
  refine ⟨sv, Byt.of_own (h3 hkl), h4, h5, h6, fun j u hu => ?_⟩
  rw [Nat.zero_add, hbk.cell]
  exact h7 j u hu
theorem OutsUp.at_ {w : World} {base c : Nat} {A : Option Addr} {xs : List TOut} (h : OutsUp w base 0 A xs xs.length) (h1 : xs.length ≤ c) (h2 : c ≤ maxLen) : OutsAt w w.heap.size (.slice A xs.length c) xs := by
  refine ⟨A, c, rfl, h1, h2, fun hn => ?_⟩
  obtain ⟨g, cs, rfl, _, hbk, hx⟩ := h hn
  refine ⟨g, 0, rfl, hbk.lt, fun k x hk => ?_⟩
  obtain ⟨sv, ⟨h3, _⟩, h4, h7⟩ := hx k x hk
  have hkl : k < xs.length := by
    rcases Nat.lt_or_ge k xs.length with h | h
    · exact h
    · rw [List.getElem?_eq_none h] at hk; cases hk
  refine ⟨sv, Byt.of_own (h3 hkl), h4, ?_, ?_⟩
  · rw [Nat.zero_add, hbk.cell]
    exact h7 0 _ rfl
  · rw [Nat.zero_add, hbk.cell]
    exact h7 1 _ rfl
theorem TxMine.at_ {w : World} {base : Nat} {v : Value} {t : TTx} (h : TxMine w base v t) : TxAt w w.heap.size v t := by
  obtain ⟨Ai, ci, Ao, co, rfl, h1, h2, h3, h4, h5, h6, h7, h8⟩ := h
  exact ⟨_, _, rfl, h1, h2, h7.at_ h3 h4, h8.at_ h5 h6⟩
theorem Byt.more' {w : World} {B B' : Nat} {v : Value} {l : Bytes} (h : Byt w B v l) (hB : B ≤ B') : Byt w B' v l := h.more hB
theorem InAt.more {w : World} {B B' b o : Nat} {x : TIn} (h : InAt w B b o x) (hB : B ≤ B') : InAt w B' b o x := by
  obtain ⟨sv, h1, h2⟩ := h
  exact ⟨sv, h1.more hB, h2⟩
theorem OutAt.more {w : World} {B B' b o : Nat} {x : TOut} (h : OutAt w B b o x) (hB : B ≤ B') : OutAt w B' b o x := by
  obtain ⟨sv, h1, h2⟩ := h
  exact ⟨sv, h1.more hB, h2⟩
theorem InsAt.more {w : World} {B B' : Nat} {v : Value} {xs : List TIn} (h : InsAt w B v xs) (hB : B ≤ B') : InsAt w B' v xs := by
  obtain ⟨A, c, hv, h1, h2, h3⟩ := h
  refine ⟨A, c, hv, h1, h2, fun hn => ?_⟩
  obtain ⟨b, o, hA, hb, hx⟩ := h3 hn
  exact ⟨b, o, hA, by omega, fun k x hk => (hx k x hk).more hB⟩
theorem OutsAt.more {w : World} {B B' : Nat} {v : Value} {xs : List TOut} (h : OutsAt w B v xs) (hB : B ≤ B') : OutsAt w B' v xs := by
  obtain ⟨A, c, hv, h1, h2, h3⟩ := h
  refine ⟨A, c, hv, h1, h2, fun hn => ?_⟩
  obtain ⟨b, o, hA, hb, hx⟩ := h3 hn
  exact ⟨b, o, hA, by omega, fun k x hk => (hx k x hk).more hB⟩
theorem TxAt.more {w : World} {B B' : Nat} {v : Value} {t : TTx} (h : TxAt w B v t) (hB : B ≤ B') : TxAt w B' v t := by
  obtain ⟨iv, ov, hv, h1, h2, h3, h4⟩ := h
  exact ⟨iv, ov, hv, h1, h2, h3.more hB, h4.more hB⟩
def bumpN (by_ : Nat) : List TIn → List TIn
  | [] => []
  | x :: xs => { x with n := (x.n + by_) % 4294967296 } :: xs
def bump (by_ : Nat) (t : TTx) : TTx := { t with ins := bumpN by_ t.ins }
def relock (by_ : Nat) (t : TTx) : TTx := { t with lock := (t.lock + by_) % 4294967296 }
theorem bumpN_length (by_ : Nat) : ∀ xs, (bumpN by_ xs).length = xs.length
  | [] => rfl
  | _ :: _ => rfl
theorem InsUp.bump {w : World} {base g : Nat} {xs : List TIn} (by_ : Nat) (h : InsUp w base 0 (some ⟨g, 0, none⟩) xs xs.length) {x : TIn} (hx : xs[0]? = some x) :
    InsUp (w.setCell ⟨g, 32, none⟩ (.int .u32 (((x.n + by_) % 4294967296 : Nat) : Int))) base 0 (some ⟨g, 0, none⟩) (bumpN by_ xs) (bumpN by_ xs).length := fun _ => by
  obtain ⟨x0, xs, rfl⟩ : ∃ y ys, xs = y :: ys := by cases xs with
    | nil => cases hx
    | cons y ys => exact ⟨y, ys, rfl⟩
  simp only [List.getElem?_cons_zero, Option.some.injEq] at hx
  subst hx
  obtain ⟨g', cs, hA, hgb, hbk, hc⟩ := h (by simp)
  injection hA with hA
  injection hA with hA
  subst hA
  refine ⟨g, _, rfl, hgb, hbk.set_ _ _, fun k y hk => ?_⟩
  rcases k with _ | k
  · obtain ⟨sv, ⟨h3, h4⟩, h5, h6⟩ := hc 0 x0 rfl
    simp only [bumpN, List.getElem?_cons_zero, Option.some.injEq] at hk
    subst hk
    refine ⟨sv, ⟨fun _ => own_far (h3 (by simp)) (a := ⟨g, 32, none⟩) (own_blk_ne (h3 (by simp)) hbk (by decide)) _, fun h => absurd h (by simp [bumpN])⟩, ⟨h5.1, Nat.mod_lt _ (by omega), h5.2.2⟩, fun j u hu => ?_⟩
    have h32 := h6 32 _ (by simp [inCells, bvs_length, h5.1]; rfl)
    have hlt : 32 < cs.size := by
      rcases Nat.lt_or_ge 32 cs.size with h | h
      · exact h
      · rw [Array.getElem?_eq_none (by omega)] at h32; cases h32
    by_cases hj : j = 32
    · subst hj
      have e : u = .int .u32 (((x0.n + by_) % 4294967296 : Nat) : Int) := by
        simp [inCells, bvs_length, h5.1] at hu
        exact hu.symm
      subst e
      simp [hlt]
    · rw [Array.getElem?_setIfInBounds_ne (by omega)]
      refine h6 j u ?_
      rw [← hu]
      unfold inCells
      rcases Nat.lt_or_ge j 32 with hj2 | hj2
      · rw [List.getElem?_append_left (by simp [bvs_length, h5.1, hj2]), List.getElem?_append_left (by simp [bvs_length, h5.1, hj2])]
      · rw [List.getElem?_append_right (by simp [bvs_length, h5.1, hj2]), List.getElem?_append_right (by simp [bvs_length, h5.1, hj2]), bvs_length, h5.1]
        obtain ⟨m, hm⟩ : ∃ m, j - 32 = m + 1 := ⟨j - 33, by omega⟩
        rw [hm]
        rfl
  · obtain ⟨sv, ⟨h3, h4⟩, h5, h6⟩ := hc (k + 1) y (by simpa [bumpN] using hk)
    have hkl : k + 1 < (x0 :: xs).length := by
      rcases Nat.lt_or_ge (k + 1) (x0 :: xs).length with h | h
      · exact h
      · have := bumpN_length by_ (x0 :: xs)
        rw [List.getElem?_eq_none (by omega)] at hk; cases hk
    refine ⟨sv, ⟨fun _ => own_far (h3 hkl) (a := ⟨g, 32, none⟩) (own_blk_ne (h3 hkl) hbk (by decide)) _, fun h => absurd h (by rw [bumpN_length]; omega)⟩, h5, fun j u hu => ?_⟩
    rw [Array.getElem?_setIfInBounds_ne (by omega)]
    exact h6 j u hu
theorem TxAt.ins32 {w : World} {B : Nat} {v : Value} {t : TTx} (h : TxAt w B v t) : ∀ x ∈ t.ins, x.tx.length = 32 := by
  obtain ⟨iv, ov, _, _, _, hi, _⟩ := h
  exact hi.tx32
theorem okTx_relock (by_ : Nat) (t : TTx) : okTx (relock by_ t) = okTx t := rfl
theorem okTx_bump (by_ : Nat) (t : TTx) : okTx (bump by_ t) = okTx t := by
  unfold okTx bump
  simp only [bumpN_length]
  congr 2
  cases t.ins <;> rfl
theorem small_relock {by_ : Nat} {t : TTx} (h : Small t) : Small (relock by_ t) := h
theorem small_bump {by_ : Nat} {t : TTx} (h : Small t) : Small (bump by_ t) := by
  obtain ⟨h1, h2, h3, h4⟩ := h
  refine ⟨by simpa [bump, bumpN_length] using h1, h2, ?_, h4⟩
  obtain ⟨ver, ins, outs, lock⟩ := t
  cases ins with
  | nil => exact h3
  | cons x xs =>
    intro y hy
    simp only [bump, bumpN, List.mem_cons] at hy
    rcases hy with rfl | hy
    · exact h3 x (by simp)
    · exact h3 y (by simp [hy])
theorem relock_eq {by_ : Nat} {t : TTx} (hl : Lt32 t.lock) (hb : Lt32 by_) : relock by_ t = t ↔ by_ = 0 := by
  obtain ⟨ver, ins, outs, lock⟩ := t
  unfold Lt32 at hl hb
  simp only [relock, TTx.mk.injEq, true_and]
  simp only at hl
  omega
theorem bump_eq {by_ : Nat} {t : TTx} {x : TIn} (hx : t.ins[0]? = some x) (hl : Lt32 x.n) (hb : Lt32 by_) : bump by_ t = t ↔ by_ = 0 := by
  obtain ⟨ver, ins, outs, lock⟩ := t
  cases ins with
  | nil => cases hx
  | cons y ys =>
    simp only [List.getElem?_cons_zero, Option.some.injEq] at hx
    subst hx
    obtain ⟨a, b, c, d⟩ := y
    unfold Lt32 at hl hb
    simp only [bump, bumpN, TTx.mk.injEq, List.cons.injEq, TIn.mk.injEq, true_and, and_true]
    simp only at hl
    omega
end Go.Proofs.Ytcilabemglbhbaa
