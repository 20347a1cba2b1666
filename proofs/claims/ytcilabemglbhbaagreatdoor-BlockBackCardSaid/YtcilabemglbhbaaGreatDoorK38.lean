/- Rows of transactions of the call's own: words for memory. -/
import Derived.Test.YtcilabemglbhbaaGreatDoorK29
import Derived.Test.YtcilabemglbhbaaGreatDoorK37
import Derived.Test.YtcilabemglbhbaaGreatDoorK3
import Derived.Deep.RegionWith
namespace Go.Proofs.YtcilabemglbhbaaGreatDoor
open Go Go.RowKit Go.Pur

/-- the row that is turned is no block of inputs, outputs or bytes. -/
def Foreign (w : World) (row : Option Nat) : Prop := ∀ r t cs, row = some r → Blk w r t cs → t ≠ 89 ∧ t ≠ 91 ∧ t ≠ 5
theorem foreign_none (w : World) : Foreign w none := fun _ _ _ h => by cases h
theorem foreign_other {w : World} {row : Option Nat} (h : ∀ r, row = some r → ∃ o : Obj, w.heap[r]? = some o ∧ o.isCells = false) : Foreign w row := fun r t cs e hb => by
  obtain ⟨o, ho, hc⟩ := h r e
  unfold Blk at hb
  rw [hb] at ho
  injection ho with ho
  rw [← ho] at hc
  cases hc
theorem foreign_blk {w : World} {g : Nat} {t : TypeId} {cs : Array Value} (h : Blk w g t cs) (h1 : t ≠ 89) (h2 : t ≠ 91) (h3 : t ≠ 5) : Foreign w (some g) := fun r t' cs' e hb => by
  injection e with e
  subst e
  unfold Blk at h hb
  rw [h] at hb
  injection hb with hb
  injection hb with _ ht
  subst ht
  exact ⟨h1, h2, h3⟩
theorem own_kept {w w' : World} {base n : Nat} {v : Value} {xs : List Value} {row : Option Nat} (h : w.ownsRow base 5 1 v n xs) (hg : w.grownBy w' row) (hf : Foreign w row) : w'.ownsRow base 5 1 v n xs := by
  refine h.kept hg ?_
  rcases h.2 with ⟨rfl, _⟩ | ⟨g, cap, cur, rfl, _, hh, _⟩
  · exact .inl rfl
  · refine .inr (fun e => ?_)
    exact (hf g _ cur e.symm hh).2.2 rfl
theorem InsUp.kept {w w' : World} {base : Nat} {A : Option Addr} {xs : List TIn} {row : Option Nat} (h : InsUp w base 0 A xs xs.length) (hg : w.grownBy w' row) (hf : Foreign w row) : InsUp w' base 0 A xs xs.length := fun hn => by
  obtain ⟨g, cs, hA, hgb, hbk, hx⟩ := h hn
  refine ⟨g, cs, hA, hgb, hbk.grown hg (fun e => (hf g _ cs e.symm hbk).1 rfl), fun k x hk => ?_⟩
  obtain ⟨sv, ⟨h1, h2⟩, h3, h4⟩ := hx k x hk
  have hkl : k < xs.length := by
    rcases Nat.lt_or_ge k xs.length with h | h
    · exact h
    · rw [List.getElem?_eq_none h] at hk; cases hk
  exact ⟨sv, ⟨fun h => own_kept (h1 h) hg hf, fun h => absurd h (by omega)⟩, h3, h4⟩
theorem OutsUp.kept {w w' : World} {base : Nat} {A : Option Addr} {xs : List TOut} {row : Option Nat} (h : OutsUp w base 0 A xs xs.length) (hg : w.grownBy w' row) (hf : Foreign w row) : OutsUp w' base 0 A xs xs.length := fun hn => by
  obtain ⟨g, cs, hA, hgb, hbk, hx⟩ := h hn
  refine ⟨g, cs, hA, hgb, hbk.grown hg (fun e => (hf g _ cs e.symm hbk).2.1 rfl), fun k x hk => ?_⟩
  obtain ⟨sv, ⟨h1, h2⟩, h3, h4⟩ := hx k x hk
  have hkl : k < xs.length := by
    rcases Nat.lt_or_ge k xs.length with h | h
    · exact h
    · rw [List.getElem?_eq_none h] at hk; cases hk
  exact ⟨sv, ⟨fun h => own_kept (h1 h) hg hf, fun h => absurd h (by omega)⟩, h3, h4⟩
theorem TxMine.kept {w w' : World} {base : Nat} {v : Value} {t : TTx} {row : Option Nat} (h : TxMine w base v t) (hg : w.grownBy w' row) (hf : Foreign w row) : TxMine w' base v t := by
  obtain ⟨Ai, ci, Ao, co, h0, h1, h2, h3, h4, h5, h6, h7, h8⟩ := h
  exact ⟨Ai, ci, Ao, co, h0, h1, h2, h3, h4, h5, h6, h7.kept hg hf, h8.kept hg hf⟩

def tcs (p : TTx × (Value × Value)) : List Value := tcells p.1 p.2.1 p.2.2
def TxsOwn (w : World) (base : Nat) (v : Value) (xs : List TTx) : Prop := ∃ ps : List (TTx × (Value × Value)), ps.map (·.1) = xs ∧ w.ownsRow base 52 4 v xs.length (ps.flatMap tcs) ∧ ∀ p ∈ ps, TxMine w base (.agg (tcs p).toArray) p.1
theorem TxsOwn.nil (w : World) (base : Nat) : TxsOwn w base (.slice none 0 0) [] := ⟨[], rfl, World.ownsRow_nil _ _ _ _, by simp⟩
theorem TxsOwn.form {w : World} {base : Nat} {v : Value} {xs : List TTx} (h : TxsOwn w base v xs) : ∃ A c, v = .slice A xs.length c := by
  obtain ⟨ps, _, h2, _⟩ := h
  obtain ⟨A, c, hv, _⟩ := ownsRow_form h2
  exact ⟨A, c, hv⟩
theorem TxsOwn.turns {w w' : World} {base : Nat} {v : Value} {xs : List TTx} {qs : List Nat} (h : TxsOwn w base v xs) (ht : Turns qs w w') (hq : ∀ q ∈ qs, q < base) : TxsOwn w' base v xs := by
  obtain ⟨ps, h1, h2, h3⟩ := h
  exact ⟨ps, h1, own_turns_base h2 ht hq, fun p hp => (h3 p hp).turns ht hq⟩
theorem TxsOwn.below {w w' : World} {base : Nat} {v : Value} {xs : List TTx} (h : TxsOwn w base v xs) (hb : Below w.heap.size w w') : TxsOwn w' base v xs := h.turns (qs := []) (.of_below hb) (by simp)
/-- the model's own marks in memory turn nothing of it. -/
theorem TxsOwn.other {w w' : World} {base : Nat} {v : Value} {xs : List TTx} {row : Option Nat} (h : TxsOwn w base v xs) (hg : w.grownBy w' row) (hr : ∀ r, row = some r → ∃ o : Obj, w.heap[r]? = some o ∧ o.isCells = false) : TxsOwn w' base v xs := by
  obtain ⟨ps, h1, h2, h3⟩ := h
  refine ⟨ps, h1, h2.kept hg ?_, fun p hp => (h3 p hp).kept hg (foreign_other hr)⟩
  rcases h2.2 with ⟨rfl, _⟩ | ⟨g, cap, cur, rfl, _, hh, _⟩
  · exact .inl rfl
  · refine .inr (fun e => ?_)
    obtain ⟨o, ho, hc⟩ := hr g e.symm
    rw [hh] at ho
    injection ho with ho
    rw [← ho] at hc
    cases hc
theorem TxsOwn.base {w : World} {b b' : Nat} {v : Value} {xs : List TTx} (h : TxsOwn w b v xs) (hb : b' ≤ b) : TxsOwn w b' v xs := by
  obtain ⟨ps, h1, h2, h3⟩ := h
  exact ⟨ps, h1, World.ownsRow_base h2 (fun k hk => Nat.le_trans hb (h2.lt k hk).1), fun p hp => mine_base (h3 p hp) hb⟩
theorem TxsOwn.append {w w1 : World} {base : Nat} {v v1 iv ov : Value} {ps : List (TTx × (Value × Value))} {xs : List TTx} {x : TTx} (h1 : ps.map (·.1) = xs) (h2 : w.ownsRow base 52 4 v xs.length (ps.flatMap tcs))
    (h3 : ∀ p ∈ ps, TxMine w base (.agg (tcs p).toArray) p.1) (h4 : TxMine w base (.agg (tcells x iv ov).toArray) x)
    (hg : w.grownBy w1 v.ownBlock) (hn : w1.ownsRow base 52 4 v1 (xs.length + 1) ((ps.flatMap tcs) ++ tcells x iv ov)) : TxsOwn w1 base v1 (xs ++ [x]) := by
  have hf : Foreign w v.ownBlock := by
    rcases h2.2 with ⟨rfl, _⟩ | ⟨g, cap, cur, rfl, _, hh, _⟩
    · exact foreign_none _
    · exact foreign_blk (cs := cur) hh (by decide) (by decide) (by decide)
  refine ⟨ps ++ [(x, iv, ov)], by rw [List.map_append, h1]; rfl, ?_, fun p hp => ?_⟩
  · rw [List.flatMap_append, List.length_append, List.length_singleton]
    simpa [tcs] using hn
  · rcases List.mem_append.1 hp with hp | hp
    · exact (h3 p hp).kept hg hf
    · rw [List.mem_singleton.1 hp]
      exact h4.kept hg hf
theorem tcs_length (p : TTx × (Value × Value)) : (tcs p).length = 4 := rfl
theorem TxsOwn.at_ {w : World} {base : Nat} {v : Value} {xs : List TTx} (h : TxsOwn w base v xs) : TxsAt w w.heap.size v xs := by
  obtain ⟨ps, rfl, h2, h3⟩ := h
  obtain ⟨A, c, rfl, h4, h5⟩ := ownsRow_form h2
  refine ⟨A, c, rfl, h4, h5, fun hn => ?_⟩
  rcases h2.2 with ⟨hv, hz⟩ | ⟨g, cap, cur, hv, hgb, hh, _⟩
  · omega
  · injection hv with q1 q2 q3
    subst q1
    refine ⟨g, 0, rfl, Blk.lt (cs := cur) hh, fun k t hk => ?_⟩
    obtain ⟨p, hp, rfl⟩ : ∃ p, ps[k]? = some p ∧ p.1 = t := by
      rw [List.getElem?_map] at hk
      cases hp : ps[k]? with
      | none => rw [hp] at hk; cases hk
      | some p => rw [hp] at hk; injection hk with hk; exact ⟨p, rfl, hk⟩
    refine ⟨p.2.1, p.2.2, fun j u hu => ?_, (h3 p (List.mem_of_getElem? hp)).at_⟩
    have hj : j < 4 := by
      rcases Nat.lt_or_ge j 4 with h | h
      · exact h
      · rw [List.getElem?_eq_none (by exact h)] at hu; cases hu
    have hfl := flat_get tcs 4 (by omega) ps (fun p _ => tcs_length p) (k * 4 + j)
    rw [show (k * 4 + j) / 4 = k by omega, show (k * 4 + j) % 4 = j by omega, hp] at hfl
    have := World.ownsRow.cells h2 (g := g) rfl (k * 4 + j) u (hfl.trans hu)
    have e : (⟨g, 0, none⟩ : Addr).add (k * 4 + j) = ⟨g, k * 4 + j, none⟩ := by unfold Addr.add; split <;> simp_all
    rw [e] at this
    rw [Nat.zero_add]
    exact this
theorem blk_foldL (H Z : List Value) (hl : H.length = 68) (hz8 : Z.length = 68) : List.foldl (fun (cs : Array Value) (x : Value × Nat) => cs.setIfInBounds x.2 x.1) (Z ++ [Value.slice none 0 0]).toArray H.zipIdx = (H ++ [Value.slice none 0 0]).toArray := by
  apply Array.ext_getElem?
  intro i
  have := fold_zip H 0 (Z ++ [Value.slice none 0 0]).toArray i
  refine this.trans ?_
  rcases Nat.lt_or_ge i 68 with h1 | h1
  · rw [if_pos ⟨by omega, by omega, by simp [hz8]; omega⟩, List.getElem?_toArray, List.getElem?_append_left (by omega), Nat.sub_zero]
  · rw [if_neg (by omega), List.getElem?_toArray, List.getElem?_toArray, List.getElem?_append_right (by omega), List.getElem?_append_right (by omega), hz8, hl]
/-- a slice of bytes of the call's own has one block. -/
theorem byG_of_own {w : World} {base z : Nat} {v : Value} {l : Bytes} (h : OwnB w base 5 v l) : ∃ g, (g = z ∨ base ≤ g ∧ g < w.heap.size) ∧ ByG w g v l := by
  rcases h.2 with ⟨rfl, hz⟩ | ⟨g, cap, cur, rfl, hb, hh, _⟩
  · have hl : l = [] := List.eq_nil_of_length_eq_zero hz
    subst hl
    exact ⟨z, .inl rfl, none, 0, rfl, Byt.nil _ _, fun a e => by cases e⟩
  · have hg : g < w.heap.size := Blk.lt (cs := cur) hh
    refine ⟨g, .inr ⟨hb, hg⟩, _, _, rfl, ?_, fun a e => by injection e with e; rw [← e]⟩
    obtain ⟨A, c, hv, h1, h2, h3, h4⟩ := Byt.of_own h
    injection hv with q1 q2 q3
    subst q1; subst q3
    refine ⟨_, _, rfl, h1, h2, h3, fun hn => ?_⟩
    obtain ⟨ad, e, _, hc⟩ := h4 hn
    refine ⟨ad, e, ?_, hc⟩
    injection e with e
    rw [← e]
    exact Nat.lt_succ_self g
end Go.Proofs.YtcilabemglbhbaaGreatDoor

/- A slice of bytes made a string, over this program. -/
namespace Go.Proofs.YtcilabemglbhbaaGreatDoor
open Go Go.RowKit Go.Pur

theorem run_strP {w : World} {B : Nat} {v : Value} {l : Bytes} (h : Byt w B v l) : (convert 30 9 v).run Tryz.prog w = .ok (.string (strB l)) w :=
  run_str h _ _ 5 Tryz.underlying30 Tryz.underlying5 Tryz.underlying9

theorem beqB (a b : Bytes) : ((strB a).toList == (strB b).toList) = decide (a = b) := by
  rw [strB_toList, strB_toList]
  rw [Bool.eq_iff_iff]
  simp
end Go.Proofs.YtcilabemglbhbaaGreatDoor

/- bytes.Equal. -/
namespace Go.Proofs.YtcilabemglbhbaaGreatDoor
open Go Go.RowKit Go.Pur

theorem bytesEqual_any (va vb : Value) (a b : Bytes) (B : Nat) (w : World) (ha : Byt w B va a) (hb : Byt w B vb b) :
    Calls Tryz.prog 32 #[va, vb] w fun e w' => e = .returned (.bool (decide (a = b))) ∧ w' = w := by
  have h1 := run_strP ha
  have h2 := run_strP hb
  obtain ⟨A1, n1, c1, rfl⟩ := slice_of_byt ha
  obtain ⟨A2, n2, c2, rfl⟩ := slice_of_byt hb
  go_enter Tryz.func32, Tryz.ntmps32
  go_wp2
  go_ret
  exact ⟨ret_bool (beqB a b), rfl⟩
end Go.Proofs.YtcilabemglbhbaaGreatDoor
