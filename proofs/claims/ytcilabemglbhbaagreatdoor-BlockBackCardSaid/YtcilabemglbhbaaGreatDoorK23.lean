/- octet's Eye: Size and Bytes. -/
import Derived.Test.YtcilabemglbhbaaGreatDoorK22
import Derived.Test.YtcilabemglbhbaaGreatDoorK8
namespace Go.Proofs.YtcilabemglbhbaaGreatDoor
open Go Go.RowKit Go.Pur

def SizePost (p : Nat) (l : Bytes) (w : World) (e : Ending) (w' : World) : Prop := Turns [p] w w' ∧
  ((∃ n h, cszOf l = some (n, h) ∧ e = .returned (.tuple #[.int .u64 (n : Int), .int .i64 0]) ∧ EyeAt w' p (l.drop h)) ∨ (cszOf l = none ∧ e = .returned (.tuple #[.int .u64 0, .int .i64 10]) ∧ EyeAt w' p l))
set_option maxRecDepth 100000 in
set_option maxHeartbeats 800000 in
theorem eSize_any (p : Nat) (l : Bytes) (w : World) (he : EyeAt w p l) : Calls Tryz.prog 28 #[.pointer (some ⟨p, 0, none⟩)] w (SizePost p l w) := by
  obtain ⟨A, m, c, hp, hv, hm, h1, h2⟩ := he.form
  have hm' := Lib.hid hm
  clear hm
  have hsz := esize_any p l w he
  unfold cszN cszH at hsz
  rcases hc : cszOf l with _ | ⟨n, h⟩
  · rw [hc] at hsz
    simp only [Option.getD_none] at hsz
    have hsz : Calls Tryz.prog 56 #[.pointer (some ⟨p, 0, none⟩)] w fun e w' => e = .returned (.tuple #[.int .u64 0, .int .i64 0]) ∧ Below w.heap.size w w' := hsz
    have hc' := Lib.hid hc
    clear hc
    go_enter Tryz.func28, Tryz.ntmps28
    go_wp2_with (first
      | (go_at_call 55; refine (shut_any p l _ he).mono ?_; rintro e w' ⟨rfl, rfl⟩)
      | (go_at_call 56; refine hsz.mono ?_; rintro e w2 ⟨rfl, hb2⟩))
    go_ret2
    exact ⟨.of_below hb2, .inr ⟨hc'.out, rfl, he.below hb2⟩⟩
  · rw [hc] at hsz
    simp only [Option.getD_some] at hsz
    obtain ⟨b1, b2, b3, b4⟩ := cszOf_bounds hc
    obtain ⟨A', m', d', hcut, hbyt⟩ := cut_from' hv h (h : Int) rfl b3
    have hbyt' := Lib.hid hbyt
    have hc' := Lib.hid hc
    have hd : ((h : Int) == 0) = false := by simp; omega
    have hml : h ≤ m := by rw [hm'.out]; exact b3
    clear hc hbyt b4 b3
    go_enter Tryz.func28, Tryz.ntmps28
    go_wp2_with (first
      | (go_at_call 55; refine (shut_any p l _ he).mono ?_; rintro e w' ⟨rfl, rfl⟩)
      | (go_at_call 56; refine hsz.mono ?_; rintro e w2 ⟨rfl, hb2⟩; have hp2 := hp.below hb2 hp.lt; have c2 := hp2.cell 1; have f2 := hp2.frozen 1))
    go_ret2
    exact ⟨(Turns.of_below hb2).setCell (by simp) 1 _, .inl ⟨n, h, hc'.out, rfl, EyeAt.set_ hp2 (hbyt'.out _ (hv.below (hb2.mono (Nat.le_of_lt hp.lt))))⟩⟩

/-- the byte string with which bytes begin, and what is left. -/
def scrOf (most : Nat) (l : Bytes) : Option (Bytes × Bytes) := match cszOf l with
  | none => none
  | some (n, h) => if n ≤ most ∧ n ≤ l.length - h then some ((l.drop h).take n, l.drop (h + n)) else none
def BytesPost (p most : Nat) (l : Bytes) (w : World) (e : Ending) (w' : World) : Prop := Turns [p] w w' ∧
  ((∃ s r v, scrOf most l = some (s, r) ∧ e = .returned (.tuple #[v, .int .i64 0]) ∧ OwnB w' w.heap.size 5 v s ∧ EyeAt w' p r) ∨ (scrOf most l = none ∧ e = .returned (.tuple #[.slice none 0 0, .int .i64 10]) ∧ EyeAt w' p l))
set_option maxRecDepth 100000 in
set_option maxHeartbeats 1600000 in
theorem ebytes_any (p : Nat) (l : Bytes) (w : World) (he : EyeAt w p l) : Calls Tryz.prog 98 #[.pointer (some ⟨p, 0, none⟩), .int .i64 2000] w (BytesPost p 2000 l w) := by
  obtain ⟨A, m, c, hp, hv, hm, h1, h2⟩ := he.form
  have hm' := Lib.hid hm
  clear hm
  have hsz := esize_any p l w he
  unfold cszN cszH at hsz
  rcases hc : cszOf l with _ | ⟨n, h⟩
  · rw [hc] at hsz
    simp only [Option.getD_none] at hsz
    have hsz : Calls Tryz.prog 56 #[.pointer (some ⟨p, 0, none⟩)] w fun e w' => e = .returned (.tuple #[.int .u64 0, .int .i64 0]) ∧ Below w.heap.size w w' := hsz
    have hc' : Hid (scrOf 2000 l = none) := Lib.hid (by simp [scrOf, hc])
    clear hc
    go_enter Tryz.func98, Tryz.ntmps98
    go_wp2_with (first
      | (go_at_call 55; refine (shut_any p l _ he).mono ?_; rintro e w' ⟨rfl, rfl⟩)
      | (go_at_call 56; refine hsz.mono ?_; rintro e w2 ⟨rfl, hb2⟩))
    go_ret2
    exact ⟨.of_below hb2, .inr ⟨hc'.out, rfl, he.below hb2⟩⟩
  · rw [hc] at hsz
    simp only [Option.getD_some] at hsz
    obtain ⟨b1, b2, b3, b4⟩ := cszOf_bounds hc
    have hd : ((h : Int) == 0) = false := by simp; omega
    have hml : h ≤ m := by rw [hm'.out]; exact b3
    have hw1 : IntKind.u64.wrap ((m : Int) - (h : Int)) = (m : Int) - (h : Int) := by rw [IntKind.wrap_u64]; omega
    by_cases hn : n ≤ 2000
    · by_cases hn2 : n ≤ m - h
      · have hscr : scrOf 2000 l = some ((l.drop h).take n, l.drop (h + n)) := by simp only [scrOf, hc]; rw [if_pos ⟨hn, by rw [← hm'.out]; exact hn2⟩]
        have hscr' := Lib.hid hscr
        obtain ⟨A1, m1, d1, hcut1, hbyt1⟩ := cut_mid' hv h (h + n) (h : Int) ((h : Int) + (n : Int)) rfl (by simp) (by omega) (by rw [← hm'.out]; omega)
        obtain ⟨A2, m2, d2, hcut2, hbyt2⟩ := cut_from' hv (h + n) ((h : Int) + (n : Int)) (by simp) (by rw [← hm'.out]; omega)
        rw [Nat.add_sub_cancel_left] at hbyt1
        have hb1' := Lib.hid hbyt1
        have hb2' := Lib.hid hbyt2
        have hpl := hp.lt
        have hg1 : decide ((n : Int) > 2000) = false := by simp; omega
        have hg2 : decide ((n : Int) > (m : Int) - (h : Int)) = false := by simp; omega
        have hg3 : ¬ (2000 : Int) < (n : Int) := by omega
        have hg4 : ¬ (m : Int) - (h : Int) < (n : Int) := by omega
        clear hc hscr hbyt1 hbyt2 b3 b4
        go_enter Tryz.func98, Tryz.ntmps98
        go_wp2_with (first
          | (go_at_call 55; refine (shut_any p l _ he).mono ?_; rintro e w' ⟨rfl, rfl⟩)
          | (go_at_call 56; refine hsz.mono ?_; rintro e w2 ⟨rfl, hb2⟩; have hp2 := hp.below hb2 hp.lt; have c2 := hp2.cell 1; have hv2 := hv.below (hb2.mono (Nat.le_of_lt hpl)))
          | (go_at_call 37; refine (clone_any _ ((l.drop h).take n) p _ (by rw [List.length_take, List.length_drop]; omega) (hb1'.out _ hv2)).mono ?_; rintro e w3 ⟨v3, rfl, ho3, hb3⟩; obtain ⟨B3, m3, d3, rfl⟩ := slice_of_own ho3; have hp3 := hp2.below hb3 hp2.lt; have c3 := hp3.cell 1; have f3 := hp3.frozen 1))
        go_ret2
        exact ⟨(Turns.of_below (hb2.trans (hb3.mono hb2.size))).setCell (by simp) 1 _, .inl ⟨_, _, _, hscr'.out, rfl, own_far (World.ownsRow_base ho3 (fun k hk => Nat.le_trans hb2.size (ho3.lt k hk).1)) (a := ⟨p, 1, none⟩) (own_blk_ne ho3 hp3 (by decide)) _, EyeAt.set_ hp3 (hb2'.out _ (hv2.below (hb3.mono (Nat.le_of_lt hp2.lt))))⟩⟩
      · have hscr : scrOf 2000 l = none := by simp only [scrOf, hc]; rw [if_neg (fun h => hn2 (by rw [hm'.out]; exact h.2))]
        have hscr' := Lib.hid hscr
        have hpl := hp.lt
        have hg3 : ¬ (2000 : Int) < (n : Int) := by omega
        have hg4 : (m : Int) - (h : Int) < (n : Int) := by omega
        clear hc hscr b3 b4
        go_enter Tryz.func98, Tryz.ntmps98
        go_wp2_with (first
          | (go_at_call 55; refine (shut_any p l _ he).mono ?_; rintro e w' ⟨rfl, rfl⟩)
          | (go_at_call 56; refine hsz.mono ?_; rintro e w2 ⟨rfl, hb2⟩; have hp2 := hp.below hb2 hp.lt; have c2 := hp2.cell 1))
        go_ret2
        exact ⟨.of_below hb2, .inr ⟨hscr'.out, rfl, he.below hb2⟩⟩
    · have hscr : scrOf 2000 l = none := by simp only [scrOf, hc]; rw [if_neg (fun h => hn h.1)]
      have hscr' := Lib.hid hscr
      have hg3 : (2000 : Int) < (n : Int) := by omega
      clear hc hscr b3 b4
      go_enter Tryz.func98, Tryz.ntmps98
      go_wp2_with (first
        | (go_at_call 55; refine (shut_any p l _ he).mono ?_; rintro e w' ⟨rfl, rfl⟩)
        | (go_at_call 56; refine hsz.mono ?_; rintro e w2 ⟨rfl, hb2⟩))
      go_ret2
      exact ⟨.of_below hb2, .inr ⟨hscr'.out, rfl, he.below hb2⟩⟩
end Go.Proofs.YtcilabemglbhbaaGreatDoor

/- tx's reader: what has been read of bytes, and whether a part was none. -/
namespace Go.Proofs.YtcilabemglbhbaaGreatDoor
open Go Go.RowKit Go.Pur

/-- block r is a reader with the eye p, on the bytes of s; s tells whether there was a part that is none. -/
def RdAt (w : World) (r p : Nat) (s : Bytes × Bool) : Prop := Blk w r 134 #[.pointer (some ⟨p, 0, none⟩), .bool s.2] ∧ EyeAt w p s.1 ∧ p < r
theorem RdAt.turns {w w' : World} {r p : Nat} {s : Bytes × Bool} {ps : List Nat} (h : RdAt w r p s) (ht : Turns ps w w') (hp : ∀ q ∈ ps, r < q) : RdAt w' r p s :=
  ⟨ht.blk h.1 (fun e => by have := hp r e; omega), h.2.1.turns ht (fun q hq => Nat.lt_trans h.2.2 (hp q hq)), h.2.2⟩
theorem RdAt.below {w w' : World} {r p : Nat} {s : Bytes × Bool} (h : RdAt w r p s) (hb : Below w.heap.size w w') : RdAt w' r p s := h.turns (ps := []) (.of_below hb) (fun q hq => by simp at hq)
def rFour (s : Bytes × Bool) : Nat × (Bytes × Bool) := if 4 ≤ s.1.length then (leV (s.1.take 4), (s.1.drop 4, s.2)) else (0, (s.1, true))
def rEight (s : Bytes × Bool) : Nat × (Bytes × Bool) := if 8 ≤ s.1.length then (leV (s.1.take 8), (s.1.drop 8, s.2)) else (0, (s.1, true))
def rRaw (s : Bytes × Bool) : Bytes × (Bytes × Bool) := if 32 ≤ s.1.length then (s.1.take 32, (s.1.drop 32, s.2)) else (List.replicate 32 0, (s.1, true))
def rScr (s : Bytes × Bool) : Bytes × (Bytes × Bool) := match scrOf 2000 s.1 with
  | some (b, l) => (b, (l, s.2))
  | none => ([], (s.1, true))
def rIn (s : Bytes × Bool) : TIn × (Bytes × Bool) :=
  (⟨(rRaw s).1, (rFour (rRaw s).2).1, (rScr (rFour (rRaw s).2).2).1, (rFour (rScr (rFour (rRaw s).2).2).2).1⟩, (rFour (rScr (rFour (rRaw s).2).2).2).2)
def toI64 (n : Nat) : Int := IntKind.i64.wrap (n : Int)
def rOut (s : Bytes × Bool) : TOut × (Bytes × Bool) := (⟨toI64 (rEight s).1, (rScr (rEight s).2).1⟩, (rScr (rEight s).2).2)
theorem rFour_lt (s : Bytes × Bool) : Lt32 (rFour s).1 := by
  unfold rFour
  split
  · have := leV_lt (s.1.take 4)
    rw [List.length_take, Nat.min_eq_left (by assumption)] at this
    exact this
  · unfold Lt32; simp
theorem rEight_lt (s : Bytes × Bool) : Lt64 (rEight s).1 := by
  unfold rEight
  split
  · have := leV_lt (s.1.take 8)
    rw [List.length_take, Nat.min_eq_left (by assumption)] at this
    exact this
  · unfold Lt64; simp
theorem rRaw_length (s : Bytes × Bool) : (rRaw s).1.length = 32 := by
  unfold rRaw
  split
  · rw [List.length_take]; omega
  · simp
theorem scrOf_length {most : Nat} {l s r : Bytes} (h : scrOf most l = some (s, r)) : s.length ≤ most := by
  unfold scrOf at h
  split at h
  · cases h
  · split at h
    · rename_i hn
      simp only [Option.some.injEq, Prod.mk.injEq] at h
      rw [← h.1, List.length_take]
      omega
    · cases h
theorem rScr_length (s : Bytes × Bool) : (rScr s).1.length ≤ 2000 := by
  unfold rScr
  split
  · rename_i h; exact scrOf_length h
  · simp

theorem kept_ok (r : Nat) (pv : Value) (b : Bool) (w : World) (h : Blk w r 134 #[pv, .bool b]) : Calls Tryz.prog 86 #[.pointer (some ⟨r, 0, none⟩), .int .i64 0] w fun e w' => e = .returned (.tuple #[]) ∧ Blk w' r 134 #[pv, .bool b] ∧ Turns [r] w w' := by
  have c1 := h.cell 1
  have f1 := h.frozen 1
  cases b
  all_goals
    go_enter Tryz.func86, Tryz.ntmps86
    go_wp2
    go_end0
    exact ⟨rfl, h.set_ 1 _, (Turns.refl _ _).setCell (by simp) 1 _⟩
theorem kept_no (r : Nat) (pv : Value) (b : Bool) (w : World) (h : Blk w r 134 #[pv, .bool b]) : Calls Tryz.prog 86 #[.pointer (some ⟨r, 0, none⟩), .int .i64 10] w fun e w' => e = .returned (.tuple #[]) ∧ Blk w' r 134 #[pv, .bool true] ∧ Turns [r] w w' := by
  have c1 := h.cell 1
  have f1 := h.frozen 1
  cases b
  all_goals
    go_enter Tryz.func86, Tryz.ntmps86
    go_wp2
    go_end0
    exact ⟨rfl, h.set_ 1 _, (Turns.refl _ _).setCell (by simp) 1 _⟩
theorem rd_blk_turns {w w' : World} {r p : Nat} {t : TypeId} {cs : Array Value} (h : Blk w r t cs) (ht : Turns [p] w w') (hp : p < r) : Blk w' r t cs := ht.blk h (by simp; omega)
theorem eye_turns_r {w w' : World} {r p : Nat} {l : Bytes} (h : EyeAt w p l) (ht : Turns [r] w w') (hp : p < r) : EyeAt w' p l := h.turns ht (by simp; exact hp)

def FourPost (r p : Nat) (s : Bytes × Bool) (w : World) (e : Ending) (w' : World) : Prop := e = .returned (.int .u32 ((rFour s).1 : Int)) ∧ RdAt w' r p (rFour s).2 ∧ Turns [p, r] w w'
set_option maxRecDepth 100000 in
theorem four_any (r p : Nat) (s : Bytes × Bool) (w : World) (h : RdAt w r p s) : Calls Tryz.prog 70 #[.pointer (some ⟨r, 0, none⟩)] w (FourPost r p s w) := by
  obtain ⟨hr, he, hpr⟩ := h
  have c0 := hr.cell 0
  have hfx := efixed_any p 4 s.1 w he (by omega) wide4
  have hlt := rFour_lt s
  unfold rFour at hlt
  go_enter Tryz.func70, Tryz.ntmps70
  go_wp2_with fail
  refine hfx.mono ?_
  rintro e w2 ⟨ht2, ⟨hl, rfl, he2⟩ | ⟨hl, rfl, he2⟩⟩
  · have hr2 := rd_blk_turns hr ht2 hpr
    rw [if_pos hl] at hlt
    have hw := IntWalk.u32_in ((leV (s.1.take 4) : Nat) : Int) (by unfold Lt32 at hlt; simp only at hlt; omega)
    clear hlt
    go_wp2_with (go_at_call 86; refine (kept_ok r _ s.2 w2 hr2).mono ?_; rintro e w3 ⟨rfl, hr3, ht3⟩)
    go_ret
    refine ⟨by rw [rFour, if_pos hl]; rfl, ?_, (ht2.more (by simp)).trans (ht3.more (by simp))⟩
    rw [rFour, if_pos hl]
    exact ⟨hr3, eye_turns_r he2 ht3 hpr, hpr⟩
  · have hr2 := rd_blk_turns hr ht2 hpr
    go_wp2_with (go_at_call 86; refine (kept_no r _ s.2 w2 hr2).mono ?_; rintro e w3 ⟨rfl, hr3, ht3⟩)
    go_ret
    refine ⟨by rw [rFour, if_neg (by omega)]; rfl, ?_, (ht2.more (by simp)).trans (ht3.more (by simp))⟩
    rw [rFour, if_neg (by omega)]
    exact ⟨hr3, eye_turns_r he2 ht3 hpr, hpr⟩

def ScrPost (r p : Nat) (s : Bytes × Bool) (w : World) (e : Ending) (w' : World) : Prop := ∃ v, e = .returned v ∧ OwnB w' w.heap.size 5 v (rScr s).1 ∧ RdAt w' r p (rScr s).2 ∧ Turns [p, r] w w'
set_option maxRecDepth 100000 in
theorem script_any (r p : Nat) (s : Bytes × Bool) (w : World) (h : RdAt w r p s) : Calls Tryz.prog 87 #[.pointer (some ⟨r, 0, none⟩)] w (ScrPost r p s w) := by
  obtain ⟨hr, he, hpr⟩ := h
  have c0 := hr.cell 0
  have hrl := hr.lt
  have hby := ebytes_any p s.1 w he
  go_enter Tryz.func87, Tryz.ntmps87
  go_wp2_with fail
  refine hby.mono ?_
  rintro e w2 ⟨ht2, ⟨b, l, v, hs, rfl, ho2, he2⟩ | ⟨hs, rfl, he2⟩⟩
  · have hr2 := rd_blk_turns hr ht2 hpr
    obtain ⟨A2, m2, d2, rfl⟩ := slice_of_own ho2
    have hs' := Lib.hid hs
    clear hs
    go_wp2_with (go_at_call 86; refine (kept_ok r _ s.2 w2 hr2).mono ?_; rintro e w3 ⟨rfl, hr3, ht3⟩)
    go_ret
    have e1 : rScr s = (b, (l, s.2)) := by rw [rScr, hs'.out]
    refine ⟨_, rfl, ?_, ?_, (ht2.more (by simp)).trans (ht3.more (by simp))⟩
    · rw [e1]
      exact ht3.own ho2 (fun g hg e => own_blk_ne ho2 hr2 (by decide) (hg.trans (congrArg some (List.mem_singleton.1 e))))
    · rw [e1]
      exact ⟨hr3, eye_turns_r he2 ht3 hpr, hpr⟩
  · have hr2 := rd_blk_turns hr ht2 hpr
    have hs' := Lib.hid hs
    clear hs
    go_wp2_with (go_at_call 86; refine (kept_no r _ s.2 w2 hr2).mono ?_; rintro e w3 ⟨rfl, hr3, ht3⟩)
    go_ret
    have e1 : rScr s = ([], (s.1, true)) := by rw [rScr, hs'.out]
    refine ⟨_, rfl, ?_, ?_, (ht2.more (by simp)).trans (ht3.more (by simp))⟩
    · rw [e1]
      exact World.ownsRow_nil _ _ _ _
    · rw [e1]
      exact ⟨hr3, eye_turns_r he2 ht3 hpr, hpr⟩
end Go.Proofs.YtcilabemglbhbaaGreatDoor
