/- octet's Eye: Size and Bytes. -/
import Derived.Test.YtcilabemglbhbaaDoorPurEye4
namespace Go.Proofs.YtcilabemglbhbaaDoor
open Go Go.RowKit Go.Pur

def SizePost (p : Nat) (l : Bytes) (w : World) (e : Ending) (w' : World) : Prop := Turns [p] w w' ∧
  ((∃ n h, cszOf l = some (n, h) ∧ e = .returned (.tuple #[.int .u64 (n : Int), .int .i64 0]) ∧ EyeAt w' p (l.drop h)) ∨ (cszOf l = none ∧ e = .returned (.tuple #[.int .u64 0, .int .i64 10]) ∧ EyeAt w' p l))
set_option maxRecDepth 100000 in
set_option maxHeartbeats 800000 in
theorem eSize_any (p : Nat) (l : Bytes) (w : World) (he : EyeAt w p l) : Calls Tryd.prog 42 #[.pointer (some ⟨p, 0, none⟩)] w (SizePost p l w) := by
  obtain ⟨A, m, c, hp, hv, hm, h1, h2⟩ := he.form
  have hm' := Lib.hid hm
  clear hm
  have hsz := esize_any p l w he
  unfold cszN cszH at hsz
  rcases hc : cszOf l with _ | ⟨n, h⟩
  · rw [hc] at hsz
    simp only [Option.getD_none] at hsz
    have hsz : Calls Tryd.prog 73 #[.pointer (some ⟨p, 0, none⟩)] w fun e w' => e = .returned (.tuple #[.int .u64 0, .int .i64 0]) ∧ Below w.heap.size w w' := hsz
    have hc' := Lib.hid hc
    clear hc
    go_enter Tryd.func42, Tryd.ntmps42
    go_wp2_with (first
      | (go_at_call 72; refine (shut_any p l _ he).mono ?_; rintro e w' ⟨rfl, rfl⟩)
      | (go_at_call 73; refine hsz.mono ?_; rintro e w2 ⟨rfl, hb2⟩))
    go_ret2
    exact ⟨.of_below hb2, .inr ⟨hc'.out, rfl, he.below hb2⟩⟩
  · rw [hc] at hsz
    simp only [Option.getD_some] at hsz
    obtain ⟨b1, b2, b3, b4⟩ := cszOf_bounds hc
    obtain ⟨A', m', d', hcut, hbyt⟩ := cut_from' hv h (h : Int) rfl b3
    have hbyt' := Lib.hid hbyt
    have hc' := Lib.hid hc
    have hd : ((h : Int) == 0) = false := by simp; omega
    have hml : h ≤ m := by rw [hm'.out]; exact b3
    clear hc hbyt b4 b3
    go_enter Tryd.func42, Tryd.ntmps42
    go_wp2_with (first
      | (go_at_call 72; refine (shut_any p l _ he).mono ?_; rintro e w' ⟨rfl, rfl⟩)
      | (go_at_call 73; refine hsz.mono ?_; rintro e w2 ⟨rfl, hb2⟩; have hp2 := hp.below hb2 hp.lt; have c2 := hp2.cell 1; have f2 := hp2.frozen 1))
    go_ret2
    exact ⟨(Turns.of_below hb2).setCell (by simp) 1 _, .inl ⟨n, h, hc'.out, rfl, EyeAt.set_ hp2 (hbyt'.out _ (hv.below (hb2.mono (Nat.le_of_lt hp.lt))))⟩⟩

/-- the byte string with which bytes begin, and what is left. -/
def scrOf (most : Nat) (l : Bytes) : Option (Bytes × Bytes) := match cszOf l with
  | none => none
  | some (n, h) => if n ≤ most ∧ n ≤ l.length - h then some ((l.drop h).take n, l.drop (h + n)) else none
def BytesPost (p most : Nat) (l : Bytes) (w : World) (e : Ending) (w' : World) : Prop := Turns [p] w w' ∧
  ((∃ s r v, scrOf most l = some (s, r) ∧ e = .returned (.tuple #[v, .int .i64 0]) ∧ OwnB w' w.heap.size 5 v s ∧ EyeAt w' p r) ∨ (scrOf most l = none ∧ e = .returned (.tuple #[.slice none 0 0, .int .i64 10]) ∧ EyeAt w' p l))
set_option maxRecDepth 100000 in
set_option maxHeartbeats 1600000 in
theorem ebytes_any (p : Nat) (l : Bytes) (w : World) (he : EyeAt w p l) : Calls Tryd.prog 117 #[.pointer (some ⟨p, 0, none⟩), .int .i64 2000] w (BytesPost p 2000 l w) := by
  obtain ⟨A, m, c, hp, hv, hm, h1, h2⟩ := he.form
  have hm' := Lib.hid hm
  clear hm
  have hsz := esize_any p l w he
  unfold cszN cszH at hsz
  rcases hc : cszOf l with _ | ⟨n, h⟩
  · rw [hc] at hsz
    simp only [Option.getD_none] at hsz
    have hsz : Calls Tryd.prog 73 #[.pointer (some ⟨p, 0, none⟩)] w fun e w' => e = .returned (.tuple #[.int .u64 0, .int .i64 0]) ∧ Below w.heap.size w w' := hsz
    have hc' : Hid (scrOf 2000 l = none) := Lib.hid (by simp [scrOf, hc])
    clear hc
    go_enter Tryd.func117, Tryd.ntmps117
    go_wp2_with (first
      | (go_at_call 72; refine (shut_any p l _ he).mono ?_; rintro e w' ⟨rfl, rfl⟩)
      | (go_at_call 73; refine hsz.mono ?_; rintro e w2 ⟨rfl, hb2⟩))
    go_ret2
    exact ⟨.of_below hb2, .inr ⟨hc'.out, rfl, he.below hb2⟩⟩
  · rw [hc] at hsz
    simp only [Option.getD_some] at hsz
    obtain ⟨b1, b2, b3, b4⟩ := cszOf_bounds hc
    have hd : ((h : Int) == 0) = false := by simp; omega
    have hml : h ≤ m := by rw [hm'.out]; exact b3
    have hw1 : IntKind.u64.wrap ((m : Int) - (h : Int)) = (m : Int) - (h : Int) := by rw [IntKind.wrap_u64]; omega
    by_cases hn : n ≤ 2000
    · by_cases hn2 : n ≤ m - h
      · have hscr : scrOf 2000 l = some ((l.drop h).take n, l.drop (h + n)) := by simp only [scrOf, hc]; rw [if_pos ⟨hn, by rw [← hm'.out]; exact hn2⟩]
        have hscr' := Lib.hid hscr
        obtain ⟨A1, m1, d1, hcut1, hbyt1⟩ := cut_mid' hv h (h + n) (h : Int) ((h : Int) + (n : Int)) rfl (by simp) (by omega) (by rw [← hm'.out]; omega)
        obtain ⟨A2, m2, d2, hcut2, hbyt2⟩ := cut_from' hv (h + n) ((h : Int) + (n : Int)) (by simp) (by rw [← hm'.out]; omega)
        rw [Nat.add_sub_cancel_left] at hbyt1
        have hb1' := Lib.hid hbyt1
        have hb2' := Lib.hid hbyt2
        have hpl := hp.lt
        have hg1 : decide ((n : Int) > 2000) = false := by simp; omega
        have hg2 : decide ((n : Int) > (m : Int) - (h : Int)) = false := by simp; omega
        have hg3 : ¬ (2000 : Int) < (n : Int) := by omega
        have hg4 : ¬ (m : Int) - (h : Int) < (n : Int) := by omega
        clear hc hscr hbyt1 hbyt2 b3 b4
        go_enter Tryd.func117, Tryd.ntmps117
        go_wp2_with (first
          | (go_at_call 72; refine (shut_any p l _ he).mono ?_; rintro e w' ⟨rfl, rfl⟩)
          | (go_at_call 73; refine hsz.mono ?_; rintro e w2 ⟨rfl, hb2⟩; have hp2 := hp.below hb2 hp.lt; have c2 := hp2.cell 1; have hv2 := hv.below (hb2.mono (Nat.le_of_lt hpl)))
          | (go_at_call 50; refine (clone_any _ ((l.drop h).take n) p _ (by rw [List.length_take, List.length_drop]; omega) (hb1'.out _ hv2)).mono ?_; rintro e w3 ⟨v3, rfl, ho3, hb3⟩; obtain ⟨B3, m3, d3, rfl⟩ := slice_of_own ho3; have hp3 := hp2.below hb3 hp2.lt; have c3 := hp3.cell 1; have f3 := hp3.frozen 1))
        go_ret2
        exact ⟨(Turns.of_below (hb2.trans (hb3.mono hb2.size))).setCell (by simp) 1 _, .inl ⟨_, _, _, hscr'.out, rfl, own_far (World.ownsRow_base ho3 (fun k hk => Nat.le_trans hb2.size (ho3.lt k hk).1)) (a := ⟨p, 1, none⟩) (own_blk_ne ho3 hp3 (by decide)) _, EyeAt.set_ hp3 (hb2'.out _ (hv2.below (hb3.mono (Nat.le_of_lt hp2.lt))))⟩⟩
      · have hscr : scrOf 2000 l = none := by simp only [scrOf, hc]; rw [if_neg (fun h => hn2 (by rw [hm'.out]; exact h.2))]
        have hscr' := Lib.hid hscr
        have hpl := hp.lt
        have hg3 : ¬ (2000 : Int) < (n : Int) := by omega
        have hg4 : (m : Int) - (h : Int) < (n : Int) := by omega
        clear hc hscr b3 b4
        go_enter Tryd.func117, Tryd.ntmps117
        go_wp2_with (first
          | (go_at_call 72; refine (shut_any p l _ he).mono ?_; rintro e w' ⟨rfl, rfl⟩)
          | (go_at_call 73; refine hsz.mono ?_; rintro e w2 ⟨rfl, hb2⟩; have hp2 := hp.below hb2 hp.lt; have c2 := hp2.cell 1))
        go_ret2
        exact ⟨.of_below hb2, .inr ⟨hscr'.out, rfl, he.below hb2⟩⟩
    · have hscr : scrOf 2000 l = none := by simp only [scrOf, hc]; rw [if_neg (fun h => hn h.1)]
      have hscr' := Lib.hid hscr
      have hg3 : (2000 : Int) < (n : Int) := by omega
      clear hc hscr b3 b4
      go_enter Tryd.func117, Tryd.ntmps117
      go_wp2_with (first
        | (go_at_call 72; refine (shut_any p l _ he).mono ?_; rintro e w' ⟨rfl, rfl⟩)
        | (go_at_call 73; refine hsz.mono ?_; rintro e w2 ⟨rfl, hb2⟩))
      go_ret2
      exact ⟨.of_below hb2, .inr ⟨hscr'.out, rfl, he.below hb2⟩⟩
end Go.Proofs.YtcilabemglbhbaaDoor
