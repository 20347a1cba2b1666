/- block's header, read. -/
import Derived.Test.YtcilabemglbhbaaGreatDoorK19
import Derived.Test.YtcilabemglbhbaaGreatDoorK23
import Derived.Test.YtcilabemglbhbaaGreatDoorK25
namespace Go.Proofs.YtcilabemglbhbaaGreatDoor
open Go Go.RowKit Go.Pur

def hFour (l : Bytes) : Nat × Bytes := if 4 ≤ l.length then (leV (l.take 4), l.drop 4) else (0, l)
def hRaw (l : Bytes) : Bytes × Bytes := if 32 ≤ l.length then (l.take 32, l.drop 32) else (List.replicate 32 0, l)
theorem hFour_lt (l : Bytes) : Lt32 (hFour l).1 := by
  unfold hFour
  split
  · have := leV_lt (l.take 4)
    rw [List.length_take, Nat.min_eq_left (by assumption)] at this
    exact this
  · unfold Lt32; simp
theorem hRaw_length (l : Bytes) : (hRaw l).1.length = 32 := by
  unfold hRaw
  split
  · rw [List.length_take]; omega
  · simp
theorem hFour_left (l : Bytes) : (hFour l).2.length ≤ l.length := by
  unfold hFour
  split <;> simp
theorem hRaw_left (l : Bytes) : (hRaw l).2.length ≤ l.length := by
  unfold hRaw
  split <;> simp
def zeroHead : Head := ⟨0, List.replicate 32 0, List.replicate 32 0, 0, 0, 0⟩
/-- what is left when ver; prev; root; time; bits; nonce were read. -/
def hL1 (l : Bytes) : Bytes := (hFour l).2
def hL2 (l : Bytes) : Bytes := (hRaw (hL1 l)).2
def hL3 (l : Bytes) : Bytes := (hRaw (hL2 l)).2
def hL4 (l : Bytes) : Bytes := (hFour (hL3 l)).2
def hL5 (l : Bytes) : Bytes := (hFour (hL4 l)).2
def hL6 (l : Bytes) : Bytes := (hFour (hL5 l)).2
def rHead (l : Bytes) : Head := ⟨(hFour l).1, (hRaw (hL1 l)).1, (hRaw (hL2 l)).1, (hFour (hL3 l)).1, (hFour (hL4 l)).1, (hFour (hL5 l)).1⟩
theorem rHead_ok (l : Bytes) : HeadOk (rHead l) := by
  unfold HeadOk rHead
  dsimp only
  exact ⟨hFour_lt l, hRaw_length (hL1 l), hRaw_length (hL2 l), hFour_lt (hL3 l), hFour_lt (hL4 l), hFour_lt (hL5 l)⟩
def hSt (l : Bytes) : Nat → Head
  | 0 => { zeroHead with ver := (hFour l).1 }
  | 1 => { zeroHead with ver := (hFour l).1, prev := (hRaw (hL1 l)).1 }
  | _ => { zeroHead with ver := (hFour l).1, prev := (hRaw (hL1 l)).1, root := (hRaw (hL2 l)).1 }
def hLf (l : Bytes) : Nat → Bytes
  | 0 => hL1 l
  | 1 => hL2 l
  | _ => hL3 l
def Full (h : Head) : Prop := h.prev.length = 32 ∧ h.root.length = 32
theorem headCells_set0 (h : Head) (x : Nat) : (headCells h).toArray.setIfInBounds 0 (.int .u32 (x : Int)) = (headCells { h with ver := x }).toArray := by simp [headCells]
theorem headCells_set65 {h : Head} (hf : Full h) (x : Nat) : (headCells h).toArray.setIfInBounds 65 (.int .u32 (x : Int)) = (headCells { h with time := x }).toArray := by
  apply Array.ext'
  have h1 : (bvs h.prev).length = 32 := by rw [bvs_length, hf.1]
  have h2 : (bvs h.root).length = 32 := by rw [bvs_length, hf.2]
  simp [headCells, h1, h2]
theorem headCells_set66 {h : Head} (hf : Full h) (x : Nat) : (headCells h).toArray.setIfInBounds 66 (.int .u32 (x : Int)) = (headCells { h with bits := x }).toArray := by
  apply Array.ext'
  have h1 : (bvs h.prev).length = 32 := by rw [bvs_length, hf.1]
  have h2 : (bvs h.root).length = 32 := by rw [bvs_length, hf.2]
  simp [headCells, h1, h2]
theorem headCells_set67 {h : Head} (hf : Full h) (x : Nat) : (headCells h).toArray.setIfInBounds 67 (.int .u32 (x : Int)) = (headCells { h with nonce := x }).toArray := by
  apply Array.ext'
  have h1 : (bvs h.prev).length = 32 := by rw [bvs_length, hf.1]
  have h2 : (bvs h.root).length = 32 := by rw [bvs_length, hf.2]
  simp [headCells, h1, h2]
theorem headCells_copy1 {h : Head} (hf : Full h) (b : Bytes) (hb : b.length = 32) : ((headCells h).toArray.toList.take 1 ++ bvs b ++ (headCells h).toArray.toList.drop (1 + (bvs b).length)).toArray = (headCells { h with prev := b }).toArray := by
  have h1 : (bvs h.prev).length = 32 := by rw [bvs_length, hf.1]
  have h2 : (bvs b).length = 32 := by rw [bvs_length, hb]
  simp only [headCells, h2, List.take_succ_cons, List.take_zero, List.cons_append, List.nil_append]
  rw [show 1 + 32 = 32 + 1 from rfl, List.drop_succ_cons, List.drop_append, h1]
  simp [h1]
theorem headCells_copy2 {h : Head} (hf : Full h) (b : Bytes) (hb : b.length = 32) : ((headCells h).toArray.toList.take 33 ++ bvs b ++ (headCells h).toArray.toList.drop (33 + (bvs b).length)).toArray = (headCells { h with root := b }).toArray := by
  have h1 : (bvs h.prev).length = 32 := by rw [bvs_length, hf.1]
  have h3 : (bvs h.root).length = 32 := by rw [bvs_length, hf.2]
  have h2 : (bvs b).length = 32 := by rw [bvs_length, hb]
  simp only [headCells, h2]
  rw [show 33 + 32 = (32 + 32) + 1 from rfl, show 33 = 32 + 1 from rfl, List.take_succ_cons, List.drop_succ_cons, List.take_append, List.drop_append, h1]
  have e1 : List.take 32 (bvs h.prev) = bvs h.prev := List.take_of_length_le (by omega)
  have e2 : List.drop 64 (bvs h.prev) = [] := List.drop_of_length_le (by omega)
  simp [h3, e1, e2, List.take_append]
theorem copy_head {W : World} {g : Nat} {h : Head} {b : Bytes} {base o : Nat} {v : Value} {fin : Array Value} (ty : TypeId) (hg : Blk W g 26 (headCells h).toArray) (ho : o + 32 ≤ 68) (hlen : (headCells h).length = 68) (hv : OwnB W base 5 v b) (hb : b.length = 32)
    (hfin : ((headCells h).toArray.toList.take o ++ bvs b ++ (headCells h).toArray.toList.drop (o + (bvs b).length)).toArray = fin) :
    (Builtin.copy_ #[30, 30] ty #[.slice (some ⟨g, o, none⟩) 32 32, v]).run Tryz.prog W = .ok (goInt 32) (W.setRow g fin) := by
  obtain ⟨gb, cap, hvv, _, _⟩ := hv.form (by omega)
  subst hvv
  have hbl : (bvs b).length = 32 := by rw [bvs_length, hb]
  have := run_copy_row (P := Tryz.prog) W 30 30 ty 5 g o 32 32 ⟨gb, 0, none⟩ b.length cap _ _ (bvs b) Tryz.underlying30 (by kernel_rfl) hg (by rw [hbl, hb]; rfl) (fun j u hu => hv.cells (g := gb) rfl j u hu) (by simp [hlen, hbl]; omega) (bvs_one b)
  rw [hfin, hbl] at this
  exact this
theorem copy_nil_head (W : World) (g o : Nat) (ty : TypeId) : (Builtin.copy_ #[30, 30] ty #[.slice (some ⟨g, o, none⟩) 32 32, .slice none 0 0]).run Tryz.prog W = .ok (goInt 0) W :=
  run_copy_nil (P := Tryz.prog) W 30 30 ty 5 ⟨g, o, none⟩ 32 32 Tryz.underlying30 (by kernel_rfl)

def NumPost (p : Nat) (l : Bytes) (w : World) (e : Ending) (w' : World) : Prop := e = .returned (.int .u32 ((hFour l).1 : Int)) ∧ EyeAt w' p (hFour l).2 ∧ Turns [p] w w'
set_option maxRecDepth 100000 in
theorem hnumber_any (g p : Nat) (l : Bytes) (w : World) (hg : Blk w g 54 #[.pointer (some ⟨p, 0, none⟩)]) (he : EyeAt w p l) :
    Calls Tryz.prog 35 #[.pointer (some ⟨g, 0, none⟩)] w (NumPost p l w) := by
  have c0 := hg.cell 0
  have hfx := efixed_any p 4 l w he (by omega) wide4
  have hlt := hFour_lt l
  unfold hFour at hlt
  go_enter Tryz.func35, Tryz.ntmps35
  go_wp2_with fail
  refine hfx.mono ?_
  rintro e w2 ⟨ht2, ⟨hl, rfl, he2⟩ | ⟨hl, rfl, he2⟩⟩
  · rw [if_pos hl] at hlt
    have hw := IntWalk.u32_in ((leV (l.take 4) : Nat) : Int) (by unfold Lt32 at hlt; simp only at hlt; omega)
    clear hlt
    go_wp2_with fail
    go_ret
    unfold NumPost
    rw [hFour, if_pos hl]
    exact ⟨rfl, he2, ht2⟩
  · go_wp2_with fail
    go_ret
    unfold NumPost
    rw [hFour, if_neg (by omega)]
    exact ⟨rfl, he2, ht2⟩
end Go.Proofs.YtcilabemglbhbaaGreatDoor
