/- tx's reader: what has been read of bytes, and whether a part was none. -/
import Derived.Test.YtcilabemglbhbaaDoorPurEye5
import Derived.Test.YtcilabemglbhbaaDoorPurTx
namespace Go.Proofs.YtcilabemglbhbaaDoor
open Go Go.RowKit Go.Pur

/-- block r is a reader with the eye p, on the bytes of s; s tells whether there was a part that is none. -/
def RdAt (w : World) (r p : Nat) (s : Bytes × Bool) : Prop := Blk w r 154 #[.pointer (some ⟨p, 0, none⟩), .bool s.2] ∧ EyeAt w p s.1 ∧ p < r
theorem RdAt.turns {w w' : World} {r p : Nat} {s : Bytes × Bool} {ps : List Nat} (h : RdAt w r p s) (ht : Turns ps w w') (hp : ∀ q ∈ ps, r < q) : RdAt w' r p s :=
  ⟨ht.blk h.1 (fun e => by have := hp r e; omega), h.2.1.turns ht (fun q hq => Nat.lt_trans h.2.2 (hp q hq)), h.2.2⟩
theorem RdAt.below {w w' : World} {r p : Nat} {s : Bytes × Bool} (h : RdAt w r p s) (hb : Below w.heap.size w w') : RdAt w' r p s := h.turns (ps := []) (.of_below hb) (fun q hq => by simp at hq)
def rFour (s : Bytes × Bool) : Nat × (Bytes × Bool) := if 4 ≤ s.1.length then (leV (s.1.take 4), (s.1.drop 4, s.2)) else (0, (s.1, true))
def rEight (s : Bytes × Bool) : Nat × (Bytes × Bool) := if 8 ≤ s.1.length then (leV (s.1.take 8), (s.1.drop 8, s.2)) else (0, (s.1, true))
def rRaw (s : Bytes × Bool) : Bytes × (Bytes × Bool) := if 32 ≤ s.1.length then (s.1.take 32, (s.1.drop 32, s.2)) else (List.replicate 32 0, (s.1, true))
def rScr (s : Bytes × Bool) : Bytes × (Bytes × Bool) := match scrOf 2000 s.1 with
  | some (b, l) => (b, (l, s.2))
  | none => ([], (s.1, true))
def rIn (s : Bytes × Bool) : TIn × (Bytes × Bool) :=
  (⟨(rRaw s).1, (rFour (rRaw s).2).1, (rScr (rFour (rRaw s).2).2).1, (rFour (rScr (rFour (rRaw s).2).2).2).1⟩, (rFour (rScr (rFour (rRaw s).2).2).2).2)
def toI64 (n : Nat) : Int := IntKind.i64.wrap (n : Int)
def rOut (s : Bytes × Bool) : TOut × (Bytes × Bool) := (⟨toI64 (rEight s).1, (rScr (rEight s).2).1⟩, (rScr (rEight s).2).2)
theorem rFour_lt (s : Bytes × Bool) : Lt32 (rFour s).1 := by
  unfold rFour
  split
  · have := leV_lt (s.1.take 4)
    rw [List.length_take, Nat.min_eq_left (by assumption)] at this
    exact this
  · unfold Lt32; simp
theorem rEight_lt (s : Bytes × Bool) : Lt64 (rEight s).1 := by
  unfold rEight
  split
  · have := leV_lt (s.1.take 8)
    rw [List.length_take, Nat.min_eq_left (by assumption)] at this
    exact this
  · unfold Lt64; simp
theorem rRaw_length (s : Bytes × Bool) : (rRaw s).1.length = 32 := by
  unfold rRaw
  split
  · rw [List.length_take]; omega
  · simp
theorem scrOf_length {most : Nat} {l s r : Bytes} (h : scrOf most l = some (s, r)) : s.length ≤ most := by
  unfold scrOf at h
  split at h
  · cases h
  · split at h
    · rename_i hn
      simp only [Option.some.injEq, Prod.mk.injEq] at h
      rw [← h.1, List.length_take]
      omega
    · cases h
theorem rScr_length (s : Bytes × Bool) : (rScr s).1.length ≤ 2000 := by
  unfold rScr
  split
  · rename_i h; exact scrOf_length h
  · simp

theorem kept_ok (r : Nat) (pv : Value) (b : Bool) (w : World) (h : Blk w r 154 #[pv, .bool b]) : Calls Tryd.prog 107 #[.pointer (some ⟨r, 0, none⟩), .int .i64 0] w fun e w' => e = .returned (.tuple #[]) ∧ Blk w' r 154 #[pv, .bool b] ∧ Turns [r] w w' := by
  have c1 := h.cell 1
  have f1 := h.frozen 1
  cases b
  all_goals
    go_enter Tryd.func107, Tryd.ntmps107
    go_wp2
    go_end0
    exact ⟨rfl, h.set_ 1 _, (Turns.refl _ _).setCell (by simp) 1 _⟩
theorem kept_no (r : Nat) (pv : Value) (b : Bool) (w : World) (h : Blk w r 154 #[pv, .bool b]) : Calls Tryd.prog 107 #[.pointer (some ⟨r, 0, none⟩), .int .i64 10] w fun e w' => e = .returned (.tuple #[]) ∧ Blk w' r 154 #[pv, .bool true] ∧ Turns [r] w w' := by
  have c1 := h.cell 1
  have f1 := h.frozen 1
  cases b
  all_goals
    go_enter Tryd.func107, Tryd.ntmps107
    go_wp2
    go_end0
    exact ⟨rfl, h.set_ 1 _, (Turns.refl _ _).setCell (by simp) 1 _⟩
theorem rd_blk_turns {w w' : World} {r p : Nat} {t : TypeId} {cs : Array Value} (h : Blk w r t cs) (ht : Turns [p] w w') (hp : p < r) : Blk w' r t cs := ht.blk h (by simp; omega)
theorem eye_turns_r {w w' : World} {r p : Nat} {l : Bytes} (h : EyeAt w p l) (ht : Turns [r] w w') (hp : p < r) : EyeAt w' p l := h.turns ht (by simp; exact hp)

def FourPost (r p : Nat) (s : Bytes × Bool) (w : World) (e : Ending) (w' : World) : Prop := e = .returned (.int .u32 ((rFour s).1 : Int)) ∧ RdAt w' r p (rFour s).2 ∧ Turns [p, r] w w'
set_option maxRecDepth 100000 in
theorem four_any (r p : Nat) (s : Bytes × Bool) (w : World) (h : RdAt w r p s) : Calls Tryd.prog 92 #[.pointer (some ⟨r, 0, none⟩)] w (FourPost r p s w) := by
  obtain ⟨hr, he, hpr⟩ := h
  have c0 := hr.cell 0
  have hfx := efixed_any p 4 s.1 w he (by omega) wide4
  have hlt := rFour_lt s
  unfold rFour at hlt
  go_enter Tryd.func92, Tryd.ntmps92
  go_wp2_with fail
  refine hfx.mono ?_
  rintro e w2 ⟨ht2, ⟨hl, rfl, he2⟩ | ⟨hl, rfl, he2⟩⟩
  · have hr2 := rd_blk_turns hr ht2 hpr
    rw [if_pos hl] at hlt
    have hw := IntWalk.u32_in ((leV (s.1.take 4) : Nat) : Int) (by unfold Lt32 at hlt; simp only at hlt; omega)
    clear hlt
    go_wp2_with (go_at_call 107; refine (kept_ok r _ s.2 w2 hr2).mono ?_; rintro e w3 ⟨rfl, hr3, ht3⟩)
    go_ret
    refine ⟨by rw [rFour, if_pos hl]; rfl, ?_, (ht2.more (by simp)).trans (ht3.more (by simp))⟩
    rw [rFour, if_pos hl]
    exact ⟨hr3, eye_turns_r he2 ht3 hpr, hpr⟩
  · have hr2 := rd_blk_turns hr ht2 hpr
    go_wp2_with (go_at_call 107; refine (kept_no r _ s.2 w2 hr2).mono ?_; rintro e w3 ⟨rfl, hr3, ht3⟩)
    go_ret
    refine ⟨by rw [rFour, if_neg (by omega)]; rfl, ?_, (ht2.more (by simp)).trans (ht3.more (by simp))⟩
    rw [rFour, if_neg (by omega)]
    exact ⟨hr3, eye_turns_r he2 ht3 hpr, hpr⟩

def ScrPost (r p : Nat) (s : Bytes × Bool) (w : World) (e : Ending) (w' : World) : Prop := ∃ v, e = .returned v ∧ OwnB w' w.heap.size 5 v (rScr s).1 ∧ RdAt w' r p (rScr s).2 ∧ Turns [p, r] w w'
set_option maxRecDepth 100000 in
theorem script_any (r p : Nat) (s : Bytes × Bool) (w : World) (h : RdAt w r p s) : Calls Tryd.prog 108 #[.pointer (some ⟨r, 0, none⟩)] w (ScrPost r p s w) := by
  obtain ⟨hr, he, hpr⟩ := h
  have c0 := hr.cell 0
  have hrl := hr.lt
  have hby := ebytes_any p s.1 w he
  go_enter Tryd.func108, Tryd.ntmps108
  go_wp2_with fail
  refine hby.mono ?_
  rintro e w2 ⟨ht2, ⟨b, l, v, hs, rfl, ho2, he2⟩ | ⟨hs, rfl, he2⟩⟩
  · have hr2 := rd_blk_turns hr ht2 hpr
    obtain ⟨A2, m2, d2, rfl⟩ := slice_of_own ho2
    have hs' := Lib.hid hs
    clear hs
    go_wp2_with (go_at_call 107; refine (kept_ok r _ s.2 w2 hr2).mono ?_; rintro e w3 ⟨rfl, hr3, ht3⟩)
    go_ret
    have e1 : rScr s = (b, (l, s.2)) := by rw [rScr, hs'.out]
    refine ⟨_, rfl, ?_, ?_, (ht2.more (by simp)).trans (ht3.more (by simp))⟩
    · rw [e1]
      exact ht3.own ho2 (fun g hg e => own_blk_ne ho2 hr2 (by decide) (hg.trans (congrArg some (List.mem_singleton.1 e))))
    · rw [e1]
      exact ⟨hr3, eye_turns_r he2 ht3 hpr, hpr⟩
  · have hr2 := rd_blk_turns hr ht2 hpr
    have hs' := Lib.hid hs
    clear hs
    go_wp2_with (go_at_call 107; refine (kept_no r _ s.2 w2 hr2).mono ?_; rintro e w3 ⟨rfl, hr3, ht3⟩)
    go_ret
    have e1 : rScr s = ([], (s.1, true)) := by rw [rScr, hs'.out]
    refine ⟨_, rfl, ?_, ?_, (ht2.more (by simp)).trans (ht3.more (by simp))⟩
    · rw [e1]
      exact World.ownsRow_nil _ _ _ _
    · rw [e1]
      exact ⟨hr3, eye_turns_r he2 ht3 hpr, hpr⟩
end Go.Proofs.YtcilabemglbhbaaDoor
