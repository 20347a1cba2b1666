/- Slices of bytes that are cut: the run, as an equation, and what is left. -/
import Derived.Test.YtcilabemglbhbaaDoorPurOctet
import Derived.Test.YtcilabemglbhbaaDoorPurTurns
namespace Go.Proofs.YtcilabemglbhbaaDoor
open Go Go.RowKit Go.Pur

theorem elemBs : Tryd.prog.elem 27 = 5 := by kernel_rfl
theorem sliceBs : Tryd.prog.underlying 27 = some (.slice (Tryd.prog.elem 27)) := by rw [elemBs]; exact Tryd.underlying27
theorem sizeU8 (w : World) : (sizeOf 5).run Tryd.prog w = .ok 1 w := by
  obtain ⟨i, hi, hs⟩ : ∃ i, Tryd.prog.info? 5 = some i ∧ i.size = 1 := by
    have h : (Tryd.prog.info? 5).map (·.size) = some 1 := by kernel_rfl
    obtain ⟨i, hi, hs⟩ := Option.map_eq_some_iff.1 h
    exact ⟨i, hi, hs⟩
  simp [sizeOf, typeInfo, hi, hs]
theorem sliced_form (a : Option Addr) (l h m s : Nat) : ∃ A', sliced a l h m s = .slice A' (h - l) (m - l) := ⟨_, rfl⟩
theorem sliced_byt {w : World} {B m c : Nat} {A : Option Addr} {l : Bytes} (h : Byt w B (.slice A m c) l) {k e : Nat} (hk : k ≤ e) (he : e ≤ l.length) : Byt w B (sliced A k e c 1) ((l.drop k).take (e - k)) := by
  obtain ⟨A', c', hv, h1, h2, hr⟩ := h
  injection hv with q1 q2 q3
  subst q1; subst q2; subst q3
  have hc := hr.cut (k := k) (cap := c) (by omega) h1
  have ht := hc.take (k := e - k) (by omega)
  have hl : ((l.drop k).take (e - k)).length = e - k := by rw [List.length_take, List.length_drop]; omega
  refine ⟨(if c = k then A else A.map (·.add (k * 1))), c - k, by rw [hl]; rfl, by rw [hl]; omega, by omega, ?_⟩
  rw [hl]
  have e1 : bvs ((l.drop k).take (e - k)) = ((bvs l).drop (k * 1)).take ((e - k) * 1) := by simp [bvs, List.map_drop, List.map_take]
  rw [e1]
  exact ht
/-- b[k:] -/
theorem cut_from {B m c : Nat} {A : Option Addr} {w : World} {l : Bytes} (h : Byt w B (.slice A m c) l) (k : Nat) (hk : k ≤ l.length) :
    ∃ A', (∀ W : World, (Instr.sliceAt 27 (.slice A m c) (some (.int .i64 (k : Int))) none none).run Tryd.prog W = .ok (.slice A' (m - k) (c - k)) W) ∧
      (∀ W, Byt W B (.slice A m c) l → Byt W B (.slice A' (m - k) (c - k)) (l.drop k)) := by
  have hm : m = l.length := by obtain ⟨A', c', hv, _⟩ := h; injection hv
  obtain ⟨A', hA'⟩ := sliced_form A k m c 1
  refine ⟨A', fun W => ?_, fun W hW => ?_⟩
  · rw [run_sliceAt_slice (h := sliceBs), run_slice_l (ht := sliceBs) (h0 := by omega) (h1 := by omega), elemBs, sizeU8]
    simp only [Result.andThen_ok, Int.toNat_natCast, hA']
  · have := sliced_byt hW (k := k) (e := m) (by omega) (by omega)
    rw [hA'] at this
    rwa [List.take_of_length_le (by rw [List.length_drop]; omega)] at this
/-- b[:e] -/
theorem cut_to {B m c : Nat} {A : Option Addr} {w : World} {l : Bytes} (h : Byt w B (.slice A m c) l) (e : Nat) (he : e ≤ l.length) :
    ∃ A', (∀ W : World, (Instr.sliceAt 27 (.slice A m c) none (some (.int .i64 (e : Int))) none).run Tryd.prog W = .ok (.slice A' e c) W) ∧
      (∀ W, Byt W B (.slice A m c) l → Byt W B (.slice A' e c) (l.take e)) := by
  obtain ⟨A', c', hv, h1, h2, hr⟩ := id h
  injection hv with q1 q2 q3
  obtain ⟨A', hA'⟩ := sliced_form A 0 e c 1
  simp only [Nat.sub_zero] at hA'
  refine ⟨A', fun W => ?_, fun W hW => ?_⟩
  · rw [run_sliceAt_slice (h := sliceBs), run_slice_h (ht := sliceBs) (h0 := by omega) (h2 := by omega), elemBs, sizeU8]
    simp only [Result.andThen_ok, Int.toNat_natCast, hA']
  · have := sliced_byt hW (k := 0) (e := e) (by omega) (by omega)
    rw [hA'] at this
    simpa using this
/-- b[k:e] -/
theorem cut_mid {B m c : Nat} {A : Option Addr} {w : World} {l : Bytes} (h : Byt w B (.slice A m c) l) (k e : Nat) (hk : k ≤ e) (he : e ≤ l.length) :
    ∃ A', (∀ W : World, (Instr.sliceAt 27 (.slice A m c) (some (.int .i64 (k : Int))) (some (.int .i64 (e : Int))) none).run Tryd.prog W = .ok (.slice A' (e - k) (c - k)) W) ∧
      (∀ W, Byt W B (.slice A m c) l → Byt W B (.slice A' (e - k) (c - k)) ((l.drop k).take (e - k))) := by
  obtain ⟨A', c', hv, h1, h2, hr⟩ := id h
  injection hv with q1 q2 q3
  obtain ⟨A', hA'⟩ := sliced_form A k e c 1
  refine ⟨A', fun W => ?_, fun W hW => ?_⟩
  · rw [run_sliceAt_slice (h := sliceBs), run_slice_lh (ht := sliceBs) (h0 := by omega) (h1 := by omega) (h2 := by omega), elemBs, sizeU8]
    simp only [Result.andThen_ok, Int.toNat_natCast, hA']
  · have := sliced_byt hW hk he
    rwa [hA'] at this
end Go.Proofs.YtcilabemglbhbaaDoor
