/- Slices of bytes that are cut: the run, as an equation, and what is left. -/
import Derived.Test.YtcilabemglbhbaaGreatDoorK3
import Derived.Test.YtcilabemglbhbaaGreatDoorK19
import Derived.Test.YtcilabemglbhbaaGreatDoorK20
namespace Go.Proofs.YtcilabemglbhbaaGreatDoor
open Go Go.RowKit Go.Pur

theorem elemBs : Tryz.prog.elem 30 = 5 := by kernel_rfl
theorem sliceBs : Tryz.prog.underlying 30 = some (.slice (Tryz.prog.elem 30)) := by rw [elemBs]; exact Tryz.underlying30
theorem sizeU8 (w : World) : (sizeOf 5).run Tryz.prog w = .ok 1 w := by
  obtain ⟨i, hi, hs⟩ : ∃ i, Tryz.prog.info? 5 = some i ∧ i.size = 1 := by
    have h : (Tryz.prog.info? 5).map (·.size) = some 1 := by kernel_rfl
    obtain ⟨i, hi, hs⟩ := Option.map_eq_some_iff.1 h
    exact ⟨i, hi, hs⟩
  simp [sizeOf, typeInfo, hi, hs]
theorem sliced_form (a : Option Addr) (l h m s : Nat) : ∃ A', sliced a l h m s = .slice A' (h - l) (m - l) := ⟨_, rfl⟩
theorem sliced_byt {w : World} {B m c : Nat} {A : Option Addr} {l : Bytes} (h : Byt w B (.slice A m c) l) {k e : Nat} (hk : k ≤ e) (he : e ≤ l.length) : Byt w B (sliced A k e c 1) ((l.drop k).take (e - k)) := by
  obtain ⟨A', c', hv, h1, h2, hr⟩ := h
  injection hv with q1 q2 q3
  subst q1; subst q2; subst q3
  have hc := hr.cut (k := k) (cap := c) (by omega) h1
  have ht := hc.take (k := e - k) (by omega)
  have hl : ((l.drop k).take (e - k)).length = e - k := by rw [List.length_take, List.length_drop]; omega
  refine ⟨(if c = k then A else A.map (·.add (k * 1))), c - k, by rw [hl]; rfl, by rw [hl]; omega, by omega, ?_⟩
  rw [hl]
  have e1 : bvs ((l.drop k).take (e - k)) = ((bvs l).drop (k * 1)).take ((e - k) * 1) := by simp [bvs, List.map_drop, List.map_take]
  rw [e1]
  exact ht
/-- b[k:] -/
theorem cut_from {B m c : Nat} {A : Option Addr} {w : World} {l : Bytes} (h : Byt w B (.slice A m c) l) (k : Nat) (hk : k ≤ l.length) :
    ∃ A', (∀ W : World, (Instr.sliceAt 30 (.slice A m c) (some (.int .i64 (k : Int))) none none).run Tryz.prog W = .ok (.slice A' (m - k) (c - k)) W) ∧
      (∀ W, Byt W B (.slice A m c) l → Byt W B (.slice A' (m - k) (c - k)) (l.drop k)) := by
  have hm : m = l.length := by obtain ⟨A', c', hv, _⟩ := h; injection hv
  obtain ⟨A', hA'⟩ := sliced_form A k m c 1
  refine ⟨A', fun W => ?_, fun W hW => ?_⟩
  · rw [run_sliceAt_slice (h := sliceBs), run_slice_l (ht := sliceBs) (h0 := by omega) (h1 := by omega), elemBs, sizeU8]
    simp only [Result.andThen_ok, Int.toNat_natCast, hA']
  · have := sliced_byt hW (k := k) (e := m) (by omega) (by omega)
    rw [hA'] at this
    rwa [List.take_of_length_le (by rw [List.length_drop]; omega)] at this
/-- b[:e] -/
theorem cut_to {B m c : Nat} {A : Option Addr} {w : World} {l : Bytes} (h : Byt w B (.slice A m c) l) (e : Nat) (he : e ≤ l.length) :
    ∃ A', (∀ W : World, (Instr.sliceAt 30 (.slice A m c) none (some (.int .i64 (e : Int))) none).run Tryz.prog W = .ok (.slice A' e c) W) ∧
      (∀ W, Byt W B (.slice A m c) l → Byt W B (.slice A' e c) (l.take e)) := by
  obtain ⟨A', c', hv, h1, h2, hr⟩ := id h
  injection hv with q1 q2 q3
  obtain ⟨A', hA'⟩ := sliced_form A 0 e c 1
  simp only [Nat.sub_zero] at hA'
  refine ⟨A', fun W => ?_, fun W hW => ?_⟩
  · rw [run_sliceAt_slice (h := sliceBs), run_slice_h (ht := sliceBs) (h0 := by omega) (h2 := by omega), elemBs, sizeU8]
    simp only [Result.andThen_ok, Int.toNat_natCast, hA']
  · have := sliced_byt hW (k := 0) (e := e) (by omega) (by omega)
    rw [hA'] at this
    simpa using this
/-- b[k:e] -/
theorem cut_mid {B m c : Nat} {A : Option Addr} {w : World} {l : Bytes} (h : Byt w B (.slice A m c) l) (k e : Nat) (hk : k ≤ e) (he : e ≤ l.length) :
    ∃ A', (∀ W : World, (Instr.sliceAt 30 (.slice A m c) (some (.int .i64 (k : Int))) (some (.int .i64 (e : Int))) none).run Tryz.prog W = .ok (.slice A' (e - k) (c - k)) W) ∧
      (∀ W, Byt W B (.slice A m c) l → Byt W B (.slice A' (e - k) (c - k)) ((l.drop k).take (e - k))) := by
  obtain ⟨A', c', hv, h1, h2, hr⟩ := id h
  injection hv with q1 q2 q3
  obtain ⟨A', hA'⟩ := sliced_form A k e c 1
  refine ⟨A', fun W => ?_, fun W hW => ?_⟩
  · rw [run_sliceAt_slice (h := sliceBs), run_slice_lh (ht := sliceBs) (h0 := by omega) (h1 := by omega) (h2 := by omega), elemBs, sizeU8]
    simp only [Result.andThen_ok, Int.toNat_natCast, hA']
  · have := sliced_byt hW hk he
    rwa [hA'] at this
end Go.Proofs.YtcilabemglbhbaaGreatDoor

/- octet's Eye: Look, Left, Fixed, Raw. -/
namespace Go.Proofs.YtcilabemglbhbaaGreatDoor
open Go Go.RowKit Go.Pur

theorem EyeAt.form {w : World} {p : Nat} {l : Bytes} (h : EyeAt w p l) : ∃ A m c, Blk w p 97 #[.bool true, .slice A m c] ∧ Byt w p (.slice A m c) l ∧ m = l.length ∧ m ≤ c ∧ c ≤ 9223372036854775807 := by
  obtain ⟨sv, hp, hv⟩ := h
  obtain ⟨A, c, rfl, h1, h2, hr⟩ := id hv
  exact ⟨A, _, c, hp, hv, rfl, h1, h2⟩
theorem EyeAt.lt {w : World} {p : Nat} {l : Bytes} (h : EyeAt w p l) : p < w.heap.size := by
  obtain ⟨sv, hp, _⟩ := h
  exact hp.lt
theorem EyeAt.turns {w w' : World} {p : Nat} {l : Bytes} {ps : List Nat} (h : EyeAt w p l) (ht : Turns ps w w') (hp : ∀ q ∈ ps, p < q) : EyeAt w' p l := by
  obtain ⟨sv, hb, hv⟩ := h
  exact ⟨sv, ht.blk hb (fun e => by have := hp p e; omega), ht.byt (fun q hq => Nat.le_of_lt (hp q hq)) hv (Nat.le_of_lt hb.lt)⟩
theorem EyeAt.below {w w' : World} {p : Nat} {l : Bytes} (h : EyeAt w p l) (hb : Below w.heap.size w w') : EyeAt w' p l := h.turns (ps := []) (.of_below hb) (fun q hq => by simp at hq)
theorem EyeAt.set_ {w : World} {p : Nat} {u v : Value} {l : Bytes} (hb : Blk w p 97 #[.bool true, u]) (hv : Byt w p v l) : EyeAt (w.setCell ⟨p, 1, none⟩ v) p l :=
  ⟨v, hb.set_ 1 v, hv.below ((Below.refl p w).setCell (p := ⟨p, 1, none⟩) (Nat.le_refl _) v)⟩

theorem shut_any (p : Nat) (l : Bytes) (w : World) (he : EyeAt w p l) : Calls Tryz.prog 55 #[.pointer (some ⟨p, 0, none⟩)] w fun e w' => e = .returned (.bool false) ∧ w = w' := by
  obtain ⟨A, m, c, hp, hv, _, _, _⟩ := he.form
  have c0 := hp.cell 0
  clear hv he
  go_enter Tryz.func55, Tryz.ntmps55
  go_wp2
  go_ret
  exact ⟨rfl, rfl⟩
theorem left_any (p : Nat) (l : Bytes) (w : World) (he : EyeAt w p l) : Calls Tryz.prog 30 #[.pointer (some ⟨p, 0, none⟩)] w fun e w' => e = .returned (.int .i64 (l.length : Int)) ∧ w = w' := by
  obtain ⟨A, m, c, hp, hv, hm, h1, h2⟩ := he.form
  have c1 := hp.cell 1
  have hm' := Lib.hid hm
  clear hv hm
  go_enter Tryz.func30, Tryz.ntmps30
  go_wp2_with (go_at_call 55; refine (shut_any p l _ he).mono ?_; rintro e w' ⟨rfl, rfl⟩)
  go_ret
  exact ⟨by rw [hm'.out]; rfl, rfl⟩

def FixedPost (p size : Nat) (l : Bytes) (w : World) (e : Ending) (w' : World) : Prop := Turns [p] w w' ∧
  ((size ≤ l.length ∧ e = .returned (.tuple #[.int .u64 ((leV (l.take size) : Nat) : Int), .int .i64 0]) ∧ EyeAt w' p (l.drop size)) ∨ (l.length < size ∧ e = .returned (.tuple #[.int .u64 0, .int .i64 10]) ∧ EyeAt w' p l))
set_option maxRecDepth 100000 in
set_option maxHeartbeats 800000 in
theorem efixed_any (p size : Nat) (l : Bytes) (w : World) (he : EyeAt w p l) (h8 : size ≤ 8) (hwd : ∀ W : World, Calls Tryz.prog 38 #[.int .i64 (size : Int)] W fun e w' => e = .returned (.bool true) ∧ W = w') :
    Calls Tryz.prog 36 #[.pointer (some ⟨p, 0, none⟩), .int .i64 (size : Int)] w (FixedPost p size l w) := by
  obtain ⟨A, m, c, hp, hv, hm, h1, h2⟩ := he.form
  have c1 := hp.cell 1
  have hwd' := Lib.hid hwd
  have hm' := Lib.hid hm
  clear hwd
  by_cases hs : size ≤ m
  · have hsl : size ≤ l.length := by omega
    obtain ⟨A', hcut, hbyt⟩ := cut_from hv size hsl
    have hn := number_any p size l w he hsl h8
    have hbyt' := Lib.hid hbyt
    clear hm hbyt
    go_enter Tryz.func36, Tryz.ntmps36
    go_wp2_with (first
      | (go_at_call 55; refine (shut_any p l _ he).mono ?_; rintro e w' ⟨rfl, rfl⟩)
      | (go_at_call 38; refine (hwd'.out _).mono ?_; rintro e w' ⟨rfl, rfl⟩)
      | (go_at_call 61; refine hn.mono ?_; rintro e w2 ⟨rfl, hb2⟩; have hp2 := hp.below hb2 hp.lt; have c2 := hp2.cell 1; have f2 := hp2.frozen 1))
    go_ret2
    exact ⟨(Turns.of_below hb2).setCell (by simp) 1 _, .inl ⟨hsl, rfl, EyeAt.set_ hp2 (hbyt'.out _ (hv.below (hb2.mono (Nat.le_of_lt hp.lt))))⟩⟩
  · clear hm
    go_enter Tryz.func36, Tryz.ntmps36
    go_wp2_with (first
      | (go_at_call 55; refine (shut_any p l _ he).mono ?_; rintro e w' ⟨rfl, rfl⟩)
      | (go_at_call 38; refine (hwd'.out _).mono ?_; rintro e w' ⟨rfl, rfl⟩))
    go_ret2
    exact ⟨Turns.refl _ _, .inr ⟨by rw [← hm'.out]; omega, rfl, he⟩⟩

def RawPost (p n : Nat) (l : Bytes) (w : World) (e : Ending) (w' : World) : Prop := Turns [p] w w' ∧
  ((n ≤ l.length ∧ ∃ v, e = .returned (.tuple #[v, .int .i64 0]) ∧ OwnB w' w.heap.size 5 v (l.take n) ∧ EyeAt w' p (l.drop n)) ∨ (l.length < n ∧ e = .returned (.tuple #[.slice none 0 0, .int .i64 10]) ∧ EyeAt w' p l))
set_option maxRecDepth 100000 in
set_option maxHeartbeats 800000 in
theorem eraw_any (p n : Nat) (l : Bytes) (w : World) (he : EyeAt w p l) (hl : l.length ≤ 10000000000) :
    Calls Tryz.prog 29 #[.pointer (some ⟨p, 0, none⟩), .int .i64 (n : Int)] w (RawPost p n l w) := by
  obtain ⟨A, m, c, hp, hv, hm, h1, h2⟩ := he.form
  have c1 := hp.cell 1
  have hm' := Lib.hid hm
  by_cases hs : n ≤ m
  · have hsl : n ≤ l.length := by omega
    obtain ⟨A', hcut, hbyt⟩ := cut_from hv n hsl
    obtain ⟨A2, hcut2, hbyt2⟩ := cut_to hv n hsl
    have hpl := hp.lt
    have hcl := clone_any (.slice A2 n c) (l.take n) p w (by rw [List.length_take]; omega) (hbyt2 _ hv)
    have hbyt' := Lib.hid hbyt
    have hcl' := Lib.hid hcl
    clear hm hbyt hcl hbyt2
    go_enter Tryz.func29, Tryz.ntmps29
    go_wp2_with (first
      | (go_at_call 55; refine (shut_any p l _ he).mono ?_; rintro e w' ⟨rfl, rfl⟩)
      | (go_at_call 37; refine hcl'.out.mono ?_; rintro e w2 ⟨v2, rfl, ho2, hb2⟩; obtain ⟨B2, m2, d2, rfl⟩ := slice_of_own ho2; have hp2 := hp.below hb2 hp.lt; have c2 := hp2.cell 1; have f2 := hp2.frozen 1))
    go_ret2
    exact ⟨(Turns.of_below hb2).setCell (by simp) 1 _, .inl ⟨hsl, _, rfl, own_far ho2 (a := ⟨p, 1, none⟩) (own_blk_ne ho2 hp2 (by decide)) _, EyeAt.set_ hp2 (hbyt'.out _ (hv.below (hb2.mono (Nat.le_of_lt hpl))))⟩⟩
  · clear hm
    go_enter Tryz.func29, Tryz.ntmps29
    go_wp2_with (go_at_call 55; refine (shut_any p l _ he).mono ?_; rintro e w' ⟨rfl, rfl⟩)
    go_ret2
    exact ⟨Turns.refl _ _, .inr ⟨by rw [← hm'.out]; omega, rfl, he⟩⟩

theorem look_any (v : Value) (l : Bytes) (B : Nat) (w : World) (hv : Byt w B v l) (hl : l.length ≤ 10000000000) :
    Calls Tryz.prog 17 #[v] w fun e w' => ∃ p, e = .returned (.pointer (some ⟨p, 0, none⟩)) ∧ w.heap.size ≤ p ∧ EyeAt w' p l ∧ Below w.heap.size w w' ∧ w'.heap.size = p + 1 := by
  obtain ⟨A, m, c, rfl⟩ := slice_of_byt hv
  go_enter Tryz.func17, Tryz.ntmps17
  go_wp2_with (go_at_call 37; refine (clone_any _ l B _ hl hv).mono ?_; rintro e w2 ⟨v2, rfl, ho2, hb2⟩; obtain ⟨B2, m2, d2, rfl⟩ := slice_of_own ho2)
  go_ret
  exact ⟨w2.heap.size, rfl, hb2.size, ⟨_, Blk.new w2 _ _, (Byt.of_own ho2).alloc (Nat.le_refl _) _⟩, hb2.alloc hb2.size _, by simp⟩
end Go.Proofs.YtcilabemglbhbaaGreatDoor
