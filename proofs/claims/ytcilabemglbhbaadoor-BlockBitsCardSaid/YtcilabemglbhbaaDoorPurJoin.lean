/- bytes.Join and Raw of two parts. -/
import Derived.Test.YtcilabemglbhbaaDoorPurShelfD
import Derived.Test.YtcilabemglbhbaaDoorPurOctet
namespace Go.Proofs.YtcilabemglbhbaaDoor
open Go Go.RowKit Go.Pur

theorem plain_add (g i j : Nat) : (⟨g, i, none⟩ : Addr).add j = ⟨g, i + j, none⟩ := by unfold Addr.add; split <;> simp_all
theorem holds_of_byt {w : World} {B : Nat} {v : Value} {l : Bytes} (h : Byt w B v l) : Lib.HoldsBytes w v l := by
  obtain ⟨A, c, rfl, h1, h2, h3, h4⟩ := h
  refine ⟨A, c, rfl, fun e => ?_, fun a ha i x hx => ?_⟩
  · cases l with
    | nil => rfl
    | cons x l =>
      obtain ⟨ad, h, _⟩ := h4 (by simp)
      rw [e] at h; cases h
  · have hi : i < l.length := by
      rcases Nat.lt_or_ge i l.length with h | h
      · exact h
      · rw [List.getElem?_eq_none h] at hx; cases hx
    obtain ⟨ad, e, _, hc⟩ := h4 (by omega)
    rw [e] at ha
    injection ha with ha
    rw [← ha]
    exact hc i _ (by simp [bvs, hx, bv])
theorem byt_of_fresh {w : World} {B : Nat} {v : Value} {l : Bytes} (h : Lib.FreshBytes B w v l) : Byt w w.heap.size v l := by
  obtain ⟨g, cap, zs, rfl, _, h1, h2, h3, h4, h5, h6, _⟩ := h
  refine ⟨_, cap, rfl, h1, h2, by simp [bvs], fun hn => ⟨_, rfl, ?_, fun j u hu => ?_⟩⟩
  · have := World.block_lt_of_cell? _ _ (h6 0 (by omega))
    exact this
  · have hj : j < l.length := by
      rcases Nat.lt_or_ge j l.length with h | h
      · exact h
      · rw [List.getElem?_eq_none (by simpa [bvs] using h)] at hu; cases hu
    rw [plain_add, Nat.zero_add, h6 j (by omega), ← hu]
    have hz : j < zs.length := by omega
    have e : l[j]? = some (UInt8.ofNat (zs[j]).toNat) := by
      rw [← h5, Lib.bytesOf, List.getElem?_map, List.getElem?_take, if_pos hj, List.getElem?_eq_getElem hz]
      rfl
    have hr := h4 _ (List.getElem_mem hz)
    simp only [bvs, List.getElem?_map, e, Option.map_some, bv_ofNat]
    rw [List.getD_eq_getElem?_getD, List.getElem?_eq_getElem hz, Option.getD_some]
    congr 2
    omega
/-- bytes.Join of two parts. -/
theorem join2_any (b off c : Nat) (v1 v2 : Value) (l1 l2 : Bytes) (B : Nat) (w : World) (hl1 : l1.length ≤ 10000000000) (hl2 : l2.length ≤ 10000000000) (hc : 2 ≤ c) (h1 : Byt w B v1 l1) (h2 : Byt w B v2 l2) (hc1 : w.cell? ⟨b, off, none⟩ = some v1) (hc2 : w.cell? ⟨b, off + 1, none⟩ = some v2) :
    Calls Tryd.prog 64 #[.slice (some ⟨b, off, none⟩) 2 c, .slice none 0 0] w fun e w' => ∃ v', e = .returned v' ∧ Byt w' w'.heap.size v' (l1 ++ l2) ∧ Below w.heap.size w w' := by
  refine (Tryd.bytes_Join_many b off 2 c [v1, v2] [l1, l2] (.slice none 0 0) [] w rfl (by omega) ⟨rfl, fun i v hv => ?_, fun i v l hv hl => ?_⟩ hc (holds_of_byt (Byt.nil w 0)) (by omega) ?_).mono ?_
  · match i, hv with
    | 0, hv => rw [plain_add]; injection hv with hv; subst hv; exact hc1
    | 1, hv => rw [plain_add]; injection hv with hv; subst hv; exact hc2
    | i + 2, hv => simp at hv
  · match i, hv, hl with
    | 0, hv, hl => injection hv with hv; injection hl with hl; subst hv; subst hl; exact holds_of_byt h1
    | 1, hv, hl => injection hv with hv; injection hl with hl; subst hv; subst hl; exact holds_of_byt h2
    | i + 2, hv, hl => simp at hv
  · simp [Lib.lens]; omega
  · rintro e w' ⟨v', rfl, h3, h4⟩
    exact ⟨v', rfl, by simpa [Lib.join, List.intercalate] using byt_of_fresh h3, h4⟩
set_option maxRecDepth 100000 in
/-- Raw of two parts. -/
theorem raw2_any (p : Nat) (q : Option Nat) (l m1 m2 : Bytes) (b off c B : Nat) (v1 v2 : Value) (w : World) (hl : l.length ≤ 10000000000) (hm1 : m1.length ≤ 1000000000) (hm2 : m2.length ≤ 1000000000) (hc2' : 2 ≤ c) (hp : PenAt w p q l) (h1 : Byt w B v1 m1) (h2 : Byt w B v2 m2)
    (hc1 : w.cell? ⟨b, off, none⟩ = some v1) (hc2 : w.cell? ⟨b, off + 1, none⟩ = some v2) :
    Calls Tryd.prog 32 #[.pointer (some ⟨p, 0, none⟩), .slice (some ⟨b, off, none⟩) 2 c] w fun e w' =>
      e = .returned (.int .i64 0) ∧ ∃ q', PenAt w' p q' (l ++ (m1 ++ m2)) ∧ Upd p q w w' q' := by
  obtain ⟨sv, hb, hown, hq⟩ := hp
  have hcell : w.cell? ⟨p, 0, none⟩ = some sv := hb.cell 0
  obtain ⟨A, n, c', rfl⟩ := slice_of_own hown
  have hpl := hb.lt
  have hq' := Lib.hid hq
  clear hq
  have hn0 := own_blk_ne hown hb (by decide)
  have hml : (m1 ++ m2).length ≤ 10000000000 := by simp; omega
  go_enter Tryd.func32, Tryd.ntmps32
  go_wp2_with fail
  go_region_law (first
      | (refine step_app_bytes rfl _ _ rfl 0 (.slice A n c') l (by rfl) (own_below hown hj2) _ _ (m1 ++ m2) (by rfl) hj1 (by omega) (by omega) ?_; intro v2 w2 hown2 hg2 hf2; obtain ⟨A2, n2, c2, rfl⟩ := slice_of_own hown2; have hbw2 := (hb.below hj2 hpl).grown hg2 (Ne.symm hn0); have hcw2 := hbw2.cell 0; have hfw2 := hbw2.frozen 0)
      | (go_simp; go_at_call 64; refine (join2_any b off c v1 v2 m1 m2 B _ (by omega) (by omega) hc2' (by exact h1) (by exact h2) (by exact hc1) (by exact hc2)).mono ?_; rintro e w1 ⟨v', rfl, hj1, hj0⟩; have hj2 : Below w.heap.size w w1 := ⟨hj0.os, hj0.tape, hj0.output, hj0.size, hj0.block⟩; have hcw1 := (hb.below hj2 hpl).cell 0))
  all_goals
    go_wp2_with fail
    go_ret
    have hn1 := own_blk_ne hown2 hbw2 (by decide)
    have hq := hq'.out
    subst hq
    refine ⟨rfl, _, ⟨_, hbw2.set_ 0 _, own_far hown2 (a := ⟨p, 0, none⟩) hn1 _, rfl⟩, (((Upd.ofBelow hj2).grown hg2 hf2).setCell 0 _)⟩
end Go.Proofs.YtcilabemglbhbaaDoor
