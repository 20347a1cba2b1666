/- The chapter's first example holds (purserlaw06.alive). -/
import Derived.Test.YtcilabemglbhbaaPurSome
import Derived.Test.YtcilabemglbhbaaPurStr
namespace Go.Proofs.Ytcilabemglbhbaa
open Go Go.RowKit Go.Pur

theorem some_small : Small someTx := by
  refine ⟨by decide, by decide, ?_, ?_⟩ <;> intro x hx <;> simp [someTx] at hx <;> subst hx <;> decide
theorem some_ok : okTx someTx = true := by decide
theorem some_coinb : coinb someTx = true := by decide
def heads : ByteArray := ⟨#[1, 0, 0, 0, 1]⟩
def tails : ByteArray := ⟨#[255, 255, 255, 255, 1, 42, 7, 0, 0, 0, 1, 5, 0, 0, 0, 0, 0, 0, 0, 1, 106, 0, 0, 0, 0]⟩

set_option maxRecDepth 100000 in
set_option maxHeartbeats 800000 in
theorem alive_any (w : World) : Calls Try.prog 19 #[] w fun e w' => e = .returned (.bool true) ∧ Below w.heap.size w w' := by
  go_enter Try.func19, Try.ntmps19
  go_wp2_with fail
  refine (some_any w).mono ?_
  rintro e w1 ⟨v1, rfl, h1, hb1⟩
  go_wp2_with fail
  refine (encode_any v1 someTx w1.heap.size w1 (Nat.le_refl _) h1 some_small).mono ?_
  rintro e w2 ⟨hb2, ⟨_, v2, rfl, ho2⟩ | ⟨hbad, _⟩⟩
  rotate_left
  · rw [some_ok] at hbad; cases hbad
  obtain ⟨A2, n2, c2, rfl⟩ := slice_of_own ho2
  have hb12 := hb1.trans (hb2.mono hb1.size)
  have hs2 := run_strP (w := w2.drew) (Byt.of_own ho2)
  go_wp2_with fail
  have tokA : True := trivial
  go_region_with (first
    | (have _t := tokA
       go_at_call 42
       refine (Try.strings_Repeat _ 32 _ (by decide) (by decide)).mono ?_
       clear tokA
       rintro e w3 ⟨rfl, hb30⟩
       have hb3 : Below w2.heap.size w2 w3 := ⟨hb30.os, hb30.tape, hb30.output, hb30.size, hb30.block⟩
       have hs3 := run_strP ((Byt.of_own ho2).below hb3))
    | (go_at_call 21
       refine (some_any _).mono ?_
       rintro e w4 ⟨v4, rfl, h4, hb40⟩
       have hb4 : Below w3.heap.size w3 w4 := ⟨hb40.os, hb40.tape, hb40.output, hb40.size, hb40.block⟩)
    | (go_at_call 16
       refine (coinbase_any v4 someTx w4.heap.size w4 (Nat.le_refl _) h4).mono ?_
       rw [some_coinb]
       rintro e w5 ⟨rfl, hb5⟩))
  all_goals
    go_wp2_with fail
    go_ret
    first
      | exact ⟨rfl, hb12.trans ((hb3.mono hb12.size).trans ((hb4.mono (Nat.le_trans hb12.size hb3.size)).trans (hb5.mono (Nat.le_trans hb12.size (Nat.le_trans hb3.size hb4.size)))))⟩
      | (exfalso
         rename_i h
         exact h (by decide))
end Go.Proofs.Ytcilabemglbhbaa
