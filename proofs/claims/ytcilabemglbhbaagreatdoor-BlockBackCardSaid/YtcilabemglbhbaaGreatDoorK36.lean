/- Plain laws: a block's bytes, read and written. -/
import Derived.Test.YtcilabemglbhbaaGreatDoorK35
import Derived.Test.YtcilabemglbhbaaGreatDoorK27
import Derived.Test.YtcilabemglbhbaaGreatDoorK34
namespace Go.Proofs.YtcilabemglbhbaaGreatDoor
open Go Go.RowKit Go.Pur

/-- so many transactions that stand one behind the other, as block.Decode takes them. -/
def rTxs : Nat → Bytes → List TTx
  | 0, _ => []
  | k + 1, l => if firstOk l then (rTx l).1 :: (if (rTx l).2.1.length = 0 then [] else rTxs k (rTx l).2.1) else []
def rMany (l : Bytes) : Nat := (rSize (hL6 l, false)).1
def rRest (l : Bytes) : Bytes := (rSize (hL6 l, false)).2.1
def rBlk (l : Bytes) : TBlk := ⟨rHead l, rTxs (rMany l) (rRest l)⟩
def decB (l : Bytes) : Bool := decide (encBlk (rBlk l) = l)
theorem firstOk_parts {l : Bytes} (h : firstOk l = true) : (rTx l).2.2 = false ∧ okTx (rTx l).1 = true := by
  unfold firstOk at h
  simpa using h
/-- what First reads has numbers that are Go's. -/
theorem rTx_ok (l : Bytes) : TxOk (rTx l).1 := by
  have hs := rTx_small l
  refine ⟨rFour_lt _, rFour_lt _, by have := hs.1; omega, by have := hs.2.1; omega, fun x hx => ?_, fun x hx => ?_⟩
  · have h1 := rSev_all rIn (fun x => x.tx.length = 32 ∧ Lt32 x.n ∧ Lt32 x.seq) rIn_ok _ _ x hx
    have h2 := hs.2.2.1 x hx
    exact ⟨h1.1, h1.2.1, h1.2.2, by omega⟩
  · have h1 := rSev_all rOut (fun x => Int64 x.value) rOut_ok _ _ x hx
    have h2 := hs.2.2.2 x hx
    exact ⟨h1, by omega⟩
theorem enc_pos (t : TTx) : 8 ≤ (enc t).length := by
  unfold enc
  simp only [List.length_append, le_length]
  omega
theorem rTxs_all : ∀ (k : Nat) (l : Bytes), (∀ t ∈ rTxs k l, okTx t = true ∧ TxOk t ∧ Small t) ∧ (encTxs (rTxs k l)).length ≤ l.length
  | 0, l => by simp [rTxs, encTxs]
  | k + 1, l => by
    rw [rTxs]
    split
    · rename_i hf
      obtain ⟨h1, h2⟩ := firstOk_parts hf
      have e := congrArg List.length (tx_good l h1)
      rw [List.length_append] at e
      split
      · refine ⟨fun t ht => ?_, ?_⟩
        · have : t = (rTx l).1 := by simpa using ht
          subst this
          exact ⟨h2, rTx_ok l, rTx_small l⟩
        · simp only [encTxs, List.flatMap_cons, List.flatMap_nil, List.append_nil]
          omega
      · obtain ⟨i1, i2⟩ := rTxs_all k (rTx l).2.1
        refine ⟨fun t ht => ?_, ?_⟩
        · rcases List.mem_cons.1 ht with rfl | ht
          · exact ⟨h2, rTx_ok l, rTx_small l⟩
          · exact i1 t ht
        · simp only [encTxs, List.flatMap_cons, List.length_append] at i2 ⊢
          omega
    · simp [encTxs]
theorem flat_count (xs : List TTx) : xs.length * 8 ≤ (encTxs xs).length := by
  induction xs with
  | nil => simp [encTxs]
  | cons x r ih =>
    have := enc_pos x
    simp only [encTxs, List.flatMap_cons, List.length_append, List.length_cons] at ih ⊢
    omega
theorem hL6_le (l : Bytes) : (hL6 l).length ≤ l.length :=
  Nat.le_trans (hFour_left _) (Nat.le_trans (hFour_left _) (Nat.le_trans (hFour_left _) (Nat.le_trans (hRaw_left _) (Nat.le_trans (hRaw_left _) (hFour_left l)))))
theorem rRest_le (l : Bytes) : (rRest l).length ≤ l.length := by
  have h1 := hL6_le l
  have h2 := rSize_le (hL6 l, false)
  unfold rRest
  generalize hL6 l = y at *
  exact Nat.le_trans h2 h1
theorem rBlk_small (l : Bytes) : (encTxs (rBlk l).txs).length ≤ l.length ∧ (rBlk l).txs.length ≤ l.length := by
  have h1 := (rTxs_all (rMany l) (rRest l)).2
  have h2 := flat_count (rTxs (rMany l) (rRest l))
  have h3 := rRest_le l
  unfold rBlk
  dsimp only
  omega
/-- a block that may be. -/
def BlkOk (x : TBlk) : Prop := HeadOk x.head ∧ Lt64 x.txs.length ∧ ∀ t ∈ x.txs, okTx t = true ∧ TxOk t
theorem rBlk_ok (l : Bytes) (hl : l.length ≤ 10000000000) : BlkOk (rBlk l) := by
  have h := rBlk_small l
  have h2 := (rTxs_all (rMany l) (rRest l)).1
  have h3 := rHead_ok l
  have e : rBlk l = ⟨rHead l, rTxs (rMany l) (rRest l)⟩ := rfl
  rw [e] at h ⊢
  generalize rTxs (rMany l) (rRest l) = xs at *
  generalize rHead l = hd at *
  exact ⟨h3, by unfold Lt64; omega, fun t ht => ⟨(h2 t ht).1, (h2 t ht).2.1⟩⟩
theorem rTxs_app : ∀ (xs : List TTx) (r : Bytes), (∀ t ∈ xs, okTx t = true ∧ TxOk t) → (r ≠ [] ∨ True) → rTxs xs.length (encTxs xs ++ r) = xs
  | [], _, _, _ => rfl
  | x :: xs, r, h, _ => by
    obtain ⟨h1, h2⟩ := h x (by simp)
    have e : encTxs (x :: xs) ++ r = enc x ++ (encTxs xs ++ r) := by simp [encTxs]
    rw [List.length_cons, e, rTxs, firstOk_app h2 h1, if_pos rfl, rTx_app h2 h1]
    dsimp only
    have ih := rTxs_app xs r (fun t ht => h t (by simp [ht])) (.inr trivial)
    split
    · rename_i hz
      have hz' := List.eq_nil_of_length_eq_zero hz
      have hx : xs = [] := by
        cases xs with
        | nil => rfl
        | cons y ys =>
          exfalso
          have := enc_pos y
          simp only [encTxs, List.flatMap_cons, List.length_append] at hz
          omega
      rw [hx]
    · rw [ih]
theorem rBlk_app {x : TBlk} (hx : BlkOk x) (r : Bytes) : rBlk (encBlk x ++ r) = x := by
  obtain ⟨h1, h2, h3⟩ := hx
  have e : encBlk x ++ r = encHd x.head ++ (szB x.txs.length ++ (encTxs x.txs ++ r)) := by simp [encBlk]
  obtain ⟨a, b⟩ := rHead_encHd h1 (szB x.txs.length ++ (encTxs x.txs ++ r))
  unfold rBlk rMany rRest
  rw [e, a, b, rSize_app h2]
  dsimp only
  rw [rTxs_app x.txs r h3 (.inr trivial)]
theorem decB_enc {x : TBlk} (hx : BlkOk x) : decB (encBlk x) = true ∧ rBlk (encBlk x) = x := by
  have h := rBlk_app hx []
  rw [List.append_nil] at h
  exact ⟨by unfold decB; rw [h]; simp, h⟩
/-- with more behind them they are none. -/
theorem decB_more {x : TBlk} (hx : BlkOk x) (r : Bytes) : decB (encBlk x ++ r) = decide (r = []) := by
  unfold decB
  rw [rBlk_app hx r]
  apply decide_eq_decide.2
  constructor
  · intro h
    have := congrArg List.length h
    rw [List.length_append] at this
    exact List.eq_nil_of_length_eq_zero (by omega)
  · rintro rfl
    rw [List.append_nil]
/-- no part of them is a block's. -/
theorem decB_cut {x : TBlk} (hx : BlkOk x) (k : Nat) (hk : k < (encBlk x).length) (hl : (encBlk x).length ≤ 10000000000) : decB ((encBlk x).take k) = false := by
  rw [Bool.eq_false_iff]
  intro h
  have hle : ((encBlk x).take k).length = k := by rw [List.length_take]; omega
  have hy := rBlk_ok ((encBlk x).take k) (by omega)
  have he : encBlk (rBlk ((encBlk x).take k)) = (encBlk x).take k := by simpa [decB] using h
  have h1 := rBlk_app hy ((encBlk x).drop k)
  rw [he, List.take_append_drop, (decB_enc hx).2] at h1
  rw [← h1] at he
  have := congrArg List.length he
  omega
end Go.Proofs.YtcilabemglbhbaaGreatDoor

/- A transaction of the call's own: its form, its base. -/
namespace Go.Proofs.YtcilabemglbhbaaGreatDoor
open Go Go.RowKit Go.Pur

theorem TxMine.form {w : World} {base : Nat} {v : Value} {t : TTx} (h : TxMine w base v t) : ∃ A n c A' n' c', v = .agg #[.int .u32 (t.ver : Int), .slice A n c, .slice A' n' c', .int .u32 (t.lock : Int)] := by
  obtain ⟨Ai, ci, Ao, co, h0, _⟩ := h
  exact ⟨_, _, _, _, _, _, h0⟩
theorem mine_base {w : World} {b b' : Nat} {v : Value} {t : TTx} (h : TxMine w b v t) (hb : b' ≤ b) : TxMine w b' v t := by
  obtain ⟨Ai, ci, Ao, co, h0, h1, h2, h3, h4, h5, h6, h7, h8⟩ := h
  refine ⟨Ai, ci, Ao, co, h0, h1, h2, h3, h4, h5, h6, fun hn => ?_, fun hn => ?_⟩
  · obtain ⟨g, cs, hA, hg, hbk, hx⟩ := h7 hn
    refine ⟨g, cs, hA, Nat.le_trans hb hg, hbk, fun k x hk => ?_⟩
    obtain ⟨sv, ⟨q1, q2⟩, q3, q4⟩ := hx k x hk
    exact ⟨sv, ⟨fun h => World.ownsRow_base (q1 h) (fun g hg => Nat.le_trans hb ((q1 h).lt g hg).1), q2⟩, q3, q4⟩
  · obtain ⟨g, cs, hA, hg, hbk, hx⟩ := h8 hn
    refine ⟨g, cs, hA, Nat.le_trans hb hg, hbk, fun k x hk => ?_⟩
    obtain ⟨sv, ⟨q1, q2⟩, q3, q4⟩ := hx k x hk
    exact ⟨sv, ⟨fun h => World.ownsRow_base (q1 h) (fun g hg => Nat.le_trans hb ((q1 h).lt g hg).1), q2⟩, q3, q4⟩
theorem InsUp.turns {w w' : World} {base : Nat} {A : Option Addr} {xs : List TIn} {qs : List Nat} (h : InsUp w base 0 A xs xs.length) (ht : Turns qs w w') (hq : ∀ q ∈ qs, q < base) : InsUp w' base 0 A xs xs.length := fun hn => by
  obtain ⟨g, cs, hA, hg, hbk, hx⟩ := h hn
  refine ⟨g, cs, hA, hg, ht.blk hbk (fun e => by have := hq g e; omega), fun k x hk => ?_⟩
  obtain ⟨sv, ⟨h1, h2⟩, h3, h4⟩ := hx k x hk
  have hkl : k < xs.length := by
    rcases Nat.lt_or_ge k xs.length with h | h
    · exact h
    · rw [List.getElem?_eq_none h] at hk; cases hk
  exact ⟨sv, ⟨fun h => own_turns_base (h1 h) ht hq, fun h => absurd h (by omega)⟩, h3, h4⟩
theorem OutsUp.turns {w w' : World} {base : Nat} {A : Option Addr} {xs : List TOut} {qs : List Nat} (h : OutsUp w base 0 A xs xs.length) (ht : Turns qs w w') (hq : ∀ q ∈ qs, q < base) : OutsUp w' base 0 A xs xs.length := fun hn => by
  obtain ⟨g, cs, hA, hg, hbk, hx⟩ := h hn
  refine ⟨g, cs, hA, hg, ht.blk hbk (fun e => by have := hq g e; omega), fun k x hk => ?_⟩
  obtain ⟨sv, ⟨h1, h2⟩, h3, h4⟩ := hx k x hk
  have hkl : k < xs.length := by
    rcases Nat.lt_or_ge k xs.length with h | h
    · exact h
    · rw [List.getElem?_eq_none h] at hk; cases hk
  exact ⟨sv, ⟨fun h => own_turns_base (h1 h) ht hq, fun h => absurd h (by omega)⟩, h3, h4⟩
theorem TxMine.turns {w w' : World} {base : Nat} {v : Value} {t : TTx} {qs : List Nat} (h : TxMine w base v t) (ht : Turns qs w w') (hq : ∀ q ∈ qs, q < base) : TxMine w' base v t := by
  obtain ⟨Ai, ci, Ao, co, h0, h1, h2, h3, h4, h5, h6, h7, h8⟩ := h
  exact ⟨Ai, ci, Ao, co, h0, h1, h2, h3, h4, h5, h6, h7.turns ht hq, h8.turns ht hq⟩
end Go.Proofs.YtcilabemglbhbaaGreatDoor
