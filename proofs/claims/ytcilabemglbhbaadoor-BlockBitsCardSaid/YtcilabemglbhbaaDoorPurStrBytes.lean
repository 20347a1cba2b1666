/- A string made a slice of bytes, over this program. -/
import Derived.Test.YtcilabemglbhbaaDoorPurStr
import Derived.Test.YtcilabemglbhbaaDoorPurJoin
import Derived.Laws.IdiomStrings
namespace Go.Proofs.YtcilabemglbhbaaDoor
open Go Go.RowKit Go.Pur

/-- the n cells of block g from its first on are the bytes l; each may be stored to. -/
def RowAt (w : World) (g : Nat) (l : Bytes) : Prop := g < w.heap.size ∧ ∀ i, i < l.length → w.cell? ⟨g, i, none⟩ = some (bv (l.getD i 0)) ∧ w.frozen? ⟨g, i, none⟩ = false
theorem RowAt.below {w w' : World} {g : Nat} {l : Bytes} (h : RowAt w g l) (hb : Below w.heap.size w w') : RowAt w' g l :=
  ⟨Nat.lt_of_lt_of_le h.1 hb.size, fun i hi => ⟨(hb.cell h.1).trans (h.2 i hi).1, (hb.frozen h.1).trans (h.2 i hi).2⟩⟩
theorem RowAt.byt {w : World} {g cap : Nat} {l : Bytes} (h : RowAt w g l) (h1 : l.length ≤ cap) (h2 : cap ≤ maxLen) : Byt w w.heap.size (.slice (some ⟨g, 0, none⟩) l.length cap) l := by
  refine ⟨_, cap, rfl, h1, h2, by simp [bvs], fun hn => ⟨_, rfl, h.1, fun j u hu => ?_⟩⟩
  have hj : j < l.length := by
    rcases Nat.lt_or_ge j l.length with h | h
    · exact h
    · rw [List.getElem?_eq_none (by simpa [bvs] using h)] at hu; cases hu
  rw [plain_add, Nat.zero_add, (h.2 j hj).1, ← hu]
  simp [bvs, List.getD_eq_getElem?_getD, List.getElem?_eq_getElem hj]
theorem RowAt.set_ {w : World} {g : Nat} {l : Bytes} (h : RowAt w g l) (j : Nat) (c : UInt8) : RowAt (w.setCell ⟨g, j, none⟩ (bv c)) g (l.set j c) := by
  refine ⟨by simpa using h.1, fun i hi => ?_⟩
  rw [List.length_set] at hi
  obtain ⟨h1, h2⟩ := h.2 i hi
  refine ⟨?_, ?_⟩
  · by_cases e : j = i
    · subst e
      rw [World.cell?_setCell_same w _ _ h1, List.getD_eq_getElem?_getD, List.getElem?_set_self hi]
      rfl
    · rw [World.cell?_setCell_other w _ _ _ (fun x => e (by injection x)), h1, List.getD_eq_getElem?_getD, List.getD_eq_getElem?_getD, List.getElem?_set_ne e]
  · rw [World.frozen?_setCell]; exact h2
theorem str_bytes (l : Bytes) (w : World) (hl : l.length ≤ 1000000) :
    ∃ (cap : Nat) (w1 : World), (convert 9 27 (.string (strB l))).run Tryd.prog w = .ok (.slice (some ⟨w.heap.size, 0, none⟩) l.length cap) w1 ∧ l.length ≤ cap ∧ cap ≤ maxLen ∧ Below w.heap.size w w1 ∧ RowAt w1 w.heap.size l := by
  have h := run_bytes_of_string (P := Tryd.prog) w 9 27 5 (strB l) Tryd.underlying9 Tryd.underlying27 Tryd.underlying5
  have hs : (strB l).size = l.length := rfl
  rw [hs] at h
  have hc := grownCap_ge w l.length 0 5
  have hm := grownCap_le_maxLen w l.length 0 5 (by simp only [maxLen]; omega)
  generalize grownCap w l.length 0 5 = cap at *
  have hz : (bytesRow (strB l) cap).size = cap := by simp [bytesRow, strB, ByteArray.size]; omega
  rw [hz] at h
  refine ⟨cap, _, h, hc, hm, ((Below.refl _ _).drew).alloc (Nat.le_refl _) _, ⟨by simp, fun i hi => ⟨?_, ?_⟩⟩⟩
  · have e := World.cell?_alloc_mark w.drew (bytesRow (strB l) cap) 5 (cap, cap + 1) i
    have e2 := bytesRow_at (strB l) cap i hi
    refine (e.trans e2).trans ?_
    rw [List.getD_eq_getElem?_getD, List.getElem?_eq_getElem hi]
    rfl
  · have e := World.frozen?_alloc_mark w.drew (bytesRow (strB l) cap) 5 cap (cap + 1) i
    refine e.trans ?_
    simp; omega
end Go.Proofs.YtcilabemglbhbaaDoor
