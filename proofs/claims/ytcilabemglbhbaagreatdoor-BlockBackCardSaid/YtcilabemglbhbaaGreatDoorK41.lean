/- The reference's bytes (package purserref01): numbers, sizes, byte strings. -/
import Derived.Test.YtcilabemglbhbaaGreatDoorK3
namespace Go.Proofs.YtcilabemglbhbaaGreatDoor
open Go Go.RowKit Go.Pur

theorem pow256 {k : Nat} (h : k ≤ 7) : 1 ≤ 256 ^ k ∧ 256 ^ k ≤ 72057594037927936 := by
  match k, h with
  | 0, _ => decide
  | 1, _ => decide
  | 2, _ => decide
  | 3, _ => decide
  | 4, _ => decide
  | 5, _ => decide
  | 6, _ => decide
  | 7, _ => decide
theorem powStep {y k : Nat} (hy : y = 256 ^ k) (h : k + 1 ≤ 7) : IntKind.u64.wrap ((y : Int) * 256) = ((256 ^ (k + 1) : Nat) : Int) := by
  have h1 := (pow256 (k := k + 1) h).2
  rw [IntKind.wrap_u64, Nat.pow_succ, ← hy] at *
  omega

def p256 (n : Nat) : Nat := 256 ^ n

set_option maxRecDepth 100000 in
theorem power_any (n : Nat) (hn : n ≤ 7) (w : World) : Calls Tryz.prog 99 #[.int .i64 n] w fun e w' => e = .returned (.int .u64 (p256 n : Int)) ∧ w = w' := by
  go_enter Tryz.func99, Tryz.ntmps99
  go_wp2
  go_loop [3, 4] (fun p i => ∃ k y : Nat, k ≤ n ∧ i = .int .i64 (k : Int) ∧ p = .int .u64 (y : Int) ∧ Hid (y = 256 ^ k)) (fun _ i => n - (intOf i).toNat)
  case atStart => exact ⟨0, 1, Nat.zero_le _, rfl, rfl, Lib.hid rfl⟩
  case round =>
    obtain ⟨k, y, hk, rfl, rfl, hy⟩ := hrel
    by_cases hlt : k < n
    · have hs := powStep hy.out (by omega)
      obtain ⟨z, hz⟩ : ∃ z : Nat, z = 256 ^ (k + 1) := ⟨_, rfl⟩
      rw [← hz] at hs
      have hz' := Lib.hid hz
      clear hz
      go_wp2
      go_round
      case rel => exact ⟨k + 1, z, by omega, by go_num, rfl, hz'⟩
      case measure => simp [intOf]; omega
    · obtain rfl : k = n := by omega
      go_wp2
      go_ret
      exact ⟨by show Ending.returned (Value.int .u64 (y : Int)) = _; rw [p256, ← hy.out], rfl⟩

theorem power_int (i : Int) (h0 : 0 ≤ i) (h7 : i ≤ 7) (w : World) : Calls Tryz.prog 99 #[.int .i64 i] w fun e w' => e = .returned (.int .u64 (p256 i.toNat : Int)) ∧ w = w' := by
  obtain ⟨n, rfl⟩ := Int.eq_ofNat_of_zero_le h0
  exact power_any n (by omega) w

theorem tdivN (n z : Nat) : (n : Int).tdiv (z : Int) = ((n / z : Nat) : Int) := by
  rw [Int.tdiv_eq_ediv_of_nonneg (by omega)]; rfl

theorem tmod256 (d : Nat) : (d : Int).tmod 256 = (d : Int) % 256 := by
  rw [Int.tmod_eq_emod_of_nonneg (by omega)]

set_option maxRecDepth 100000 in
set_option maxHeartbeats 1600000 in
/-- Fixed, of 2, 4 or 8 bytes, a number that goes into them. -/
theorem refFixed_any (size n : Nat) (sz : Int) (w : World) (hs : (sz = 2 ∧ size = 2) ∨ (sz = 4 ∧ size = 4) ∨ (sz = 8 ∧ size = 8)) (hn : size < 8 → n < p256 size) (hn64 : Lt64 n) :
    Calls Tryz.prog 88 #[.int .i64 sz, .int .u64 n] w fun e w' => ∃ v', e = .returned (.tuple #[v', .int .i64 0]) ∧ OwnB w' w.heap.size 5 v' (le size n) ∧ Below w.heap.size w w' := by
  rcases hs with ⟨rfl, rfl⟩ | ⟨rfl, rfl⟩ | ⟨rfl, rfl⟩
  · have hg : decide (p256 2 ≤ n) = false := by have := hn (by omega); simp; omega
    clear hn
    go_enter Tryz.func88, Tryz.ntmps88
    go_wp2_with (go_at_call 99; refine (power_int _ (by omega) (by omega) _).mono ?_; rintro e w1 ⟨rfl, rfl⟩)
    go_loopw [6, 7] (fun v i wr => ∃ k : Nat, k ≤ 2 ∧ i = .int .i64 (k : Int) ∧ OwnB wr w.heap.size 5 v (le k n) ∧ Below w.heap.size w wr) (fun _ i _ => 2 - (intOf i).toNat)
    case atStart => exact ⟨0, Nat.zero_le _, rfl, World.ownsRow_nil _ _ _ _, Below.refl _ _⟩
    case round =>
      obtain ⟨k, hk, rfl, hown, hb⟩ := hrel
      obtain ⟨A, m, c, rfl⟩ := slice_of_own hown
      by_cases hlt : k < 2
      · have hpz1 : 1 ≤ p256 k := (pow256 (k := k) (by omega)).1
        have hpz : ((p256 k : Int) == 0) = false := by
          have := (pow256 (k := k) (by omega)).1
          rw [beq_eq_false_iff_ne]
          simp only [p256]
          omega
        have htd := tdivN n (p256 k)
        have hb1 : Byt (wr.alloc (.cells #[.int .u8 (((n / p256 k : Nat) : Int) % 256)] 5)) (wr.heap.size + 1) (.slice (some ⟨wr.heap.size, 0, none⟩) 1 1) [UInt8.ofNat (n / 256 ^ k)] :=
          byt_built wr _ [UInt8.ofNat (n / 256 ^ k)] _ (by simp only [bvs, List.map_cons, List.map_nil, bv_ofNat]; rfl) (by simp [maxLen])
        have hwd : IntKind.u64.wrap ((n / p256 k : Nat) : Int) = ((n / p256 k : Nat) : Int) := wrapU64 (by unfold Lt64 at *; exact Nat.lt_of_le_of_lt (Nat.div_le_self _ _) hn64)
        generalize hd : n / p256 k = d at *
        clear hd
        have htm := tmod256 d
        go_wp2_with (first
          | (go_at_call 99; refine (power_int _ (by omega) (by omega) _).mono ?_; rintro e w1 ⟨rfl, rfl⟩)
          | (at_builtin; refine app_bytes rfl _ _ rfl w.heap.size (.slice A m c) _ rfl (hown.alloc _) _ _ _ rfl hb1 (by simp [le_length]; omega) (by have := hb.size; simp; omega) ?_; intro v' w1 hown1 hg1 hf1; obtain ⟨A1, n1, c1, rfl⟩ := slice_of_own hown1))
        go_roundw
        case rel => exact ⟨k + 1, by omega, by go_num, by rw [le_snoc]; exact hown1, (hb.alloc hb.size _).grown hg1 (by have := hb.size; simp; omega) (fun k hk => (hown.lt k hk).1)⟩
        case measure => simp [intOf]; omega
      · obtain rfl : k = 2 := by omega
        go_wp2
        go_ret2
        exact ⟨_, rfl, hown, hb⟩
  · have hg : decide (p256 4 ≤ n) = false := by have := hn (by omega); simp; omega
    clear hn
    go_enter Tryz.func88, Tryz.ntmps88
    go_wp2_with (go_at_call 99; refine (power_int _ (by omega) (by omega) _).mono ?_; rintro e w1 ⟨rfl, rfl⟩)
    go_loopw [6, 7] (fun v i wr => ∃ k : Nat, k ≤ 4 ∧ i = .int .i64 (k : Int) ∧ OwnB wr w.heap.size 5 v (le k n) ∧ Below w.heap.size w wr) (fun _ i _ => 4 - (intOf i).toNat)
    case atStart => exact ⟨0, Nat.zero_le _, rfl, World.ownsRow_nil _ _ _ _, Below.refl _ _⟩
    case round =>
      obtain ⟨k, hk, rfl, hown, hb⟩ := hrel
      obtain ⟨A, m, c, rfl⟩ := slice_of_own hown
      by_cases hlt : k < 4
      · have hpz1 : 1 ≤ p256 k := (pow256 (k := k) (by omega)).1
        have hpz : ((p256 k : Int) == 0) = false := by
          have := (pow256 (k := k) (by omega)).1
          rw [beq_eq_false_iff_ne]
          simp only [p256]
          omega
        have htd := tdivN n (p256 k)
        have hb1 : Byt (wr.alloc (.cells #[.int .u8 (((n / p256 k : Nat) : Int) % 256)] 5)) (wr.heap.size + 1) (.slice (some ⟨wr.heap.size, 0, none⟩) 1 1) [UInt8.ofNat (n / 256 ^ k)] :=
          byt_built wr _ [UInt8.ofNat (n / 256 ^ k)] _ (by simp only [bvs, List.map_cons, List.map_nil, bv_ofNat]; rfl) (by simp [maxLen])
        have hwd : IntKind.u64.wrap ((n / p256 k : Nat) : Int) = ((n / p256 k : Nat) : Int) := wrapU64 (by unfold Lt64 at *; exact Nat.lt_of_le_of_lt (Nat.div_le_self _ _) hn64)
        generalize hd : n / p256 k = d at *
        clear hd
        have htm := tmod256 d
        go_wp2_with (first
          | (go_at_call 99; refine (power_int _ (by omega) (by omega) _).mono ?_; rintro e w1 ⟨rfl, rfl⟩)
          | (at_builtin; refine app_bytes rfl _ _ rfl w.heap.size (.slice A m c) _ rfl (hown.alloc _) _ _ _ rfl hb1 (by simp [le_length]; omega) (by have := hb.size; simp; omega) ?_; intro v' w1 hown1 hg1 hf1; obtain ⟨A1, n1, c1, rfl⟩ := slice_of_own hown1))
        go_roundw
        case rel => exact ⟨k + 1, by omega, by go_num, by rw [le_snoc]; exact hown1, (hb.alloc hb.size _).grown hg1 (by have := hb.size; simp; omega) (fun k hk => (hown.lt k hk).1)⟩
        case measure => simp [intOf]; omega
      · obtain rfl : k = 4 := by omega
        go_wp2
        go_ret2
        exact ⟨_, rfl, hown, hb⟩
  · have hg : True := trivial
    clear hn
    go_enter Tryz.func88, Tryz.ntmps88
    go_wp2_with (go_at_call 99; refine (power_int _ (by omega) (by omega) _).mono ?_; rintro e w1 ⟨rfl, rfl⟩)
    go_loopw [6, 7] (fun v i wr => ∃ k : Nat, k ≤ 8 ∧ i = .int .i64 (k : Int) ∧ OwnB wr w.heap.size 5 v (le k n) ∧ Below w.heap.size w wr) (fun _ i _ => 8 - (intOf i).toNat)
    case atStart => exact ⟨0, Nat.zero_le _, rfl, World.ownsRow_nil _ _ _ _, Below.refl _ _⟩
    case round =>
      obtain ⟨k, hk, rfl, hown, hb⟩ := hrel
      obtain ⟨A, m, c, rfl⟩ := slice_of_own hown
      by_cases hlt : k < 8
      · have hpz1 : 1 ≤ p256 k := (pow256 (k := k) (by omega)).1
        have hpz : ((p256 k : Int) == 0) = false := by
          have := (pow256 (k := k) (by omega)).1
          rw [beq_eq_false_iff_ne]
          simp only [p256]
          omega
        have htd := tdivN n (p256 k)
        have hb1 : Byt (wr.alloc (.cells #[.int .u8 (((n / p256 k : Nat) : Int) % 256)] 5)) (wr.heap.size + 1) (.slice (some ⟨wr.heap.size, 0, none⟩) 1 1) [UInt8.ofNat (n / 256 ^ k)] :=
          byt_built wr _ [UInt8.ofNat (n / 256 ^ k)] _ (by simp only [bvs, List.map_cons, List.map_nil, bv_ofNat]; rfl) (by simp [maxLen])
        have hwd : IntKind.u64.wrap ((n / p256 k : Nat) : Int) = ((n / p256 k : Nat) : Int) := wrapU64 (by unfold Lt64 at *; exact Nat.lt_of_le_of_lt (Nat.div_le_self _ _) hn64)
        generalize hd : n / p256 k = d at *
        clear hd
        have htm := tmod256 d
        go_wp2_with (first
          | (go_at_call 99; refine (power_int _ (by omega) (by omega) _).mono ?_; rintro e w1 ⟨rfl, rfl⟩)
          | (at_builtin; refine app_bytes rfl _ _ rfl w.heap.size (.slice A m c) _ rfl (hown.alloc _) _ _ _ rfl hb1 (by simp [le_length]; omega) (by have := hb.size; simp; omega) ?_; intro v' w1 hown1 hg1 hf1; obtain ⟨A1, n1, c1, rfl⟩ := slice_of_own hown1))
        go_roundw
        case rel => exact ⟨k + 1, by omega, by go_num, by rw [le_snoc]; exact hown1, (hb.alloc hb.size _).grown hg1 (by have := hb.size; simp; omega) (fun k hk => (hown.lt k hk).1)⟩
        case measure => simp [intOf]; omega
      · obtain rfl : k = 8 := by omega
        go_wp2
        go_ret2
        exact ⟨_, rfl, hown, hb⟩

theorem num_any (size n : Nat) (sz : Int) (w : World) (hs : (sz = 2 ∧ size = 2) ∨ (sz = 4 ∧ size = 4) ∨ (sz = 8 ∧ size = 8)) (hn : size < 8 → n < p256 size) (hn64 : Lt64 n) :
    Calls Tryz.prog 75 #[.int .i64 sz, .int .u64 n] w fun e w' => ∃ v', e = .returned v' ∧ OwnB w' w.heap.size 5 v' (le size n) ∧ Below w.heap.size w w' := by
  go_enter Tryz.func75, Tryz.ntmps75
  go_wp2_with fail
  refine (refFixed_any size n sz w hs hn hn64).mono ?_
  rintro e w1 ⟨v, rfl, h1, h2⟩
  go_wp2_with fail
  go_ret
  exact ⟨v, rfl, h1, h2⟩
theorem szB_length9 (n : Nat) : (szB n).length ≤ 9 := by
  unfold szB
  split
  · simp [le_length]
  · split
    · simp [le_length]
    · split <;> simp [le_length]
theorem p256_4 : p256 4 = 4294967296 := by decide
theorem num4 (n : Nat) (w : World) (hn : Lt32 n) :
    Calls Tryz.prog 75 #[.int .i64 4, .int .u64 n] w fun e w' => ∃ v', e = .returned v' ∧ OwnB w' w.heap.size 5 v' (le 4 n) ∧ Below w.heap.size w w' :=
  num_any 4 n 4 w (by omega) (fun _ => by rw [p256_4]; exact hn) hn.lt64
theorem num8 (n : Nat) (w : World) (hn : Lt64 n) :
    Calls Tryz.prog 75 #[.int .i64 8, .int .u64 n] w fun e w' => ∃ v', e = .returned v' ∧ OwnB w' w.heap.size 5 v' (le 8 n) ∧ Below w.heap.size w w' :=
  num_any 8 n 8 w (by omega) (fun h => by omega) hn

set_option maxRecDepth 100000 in
set_option maxHeartbeats 800000 in
theorem refSize_any (n : Nat) (w : World) (hn : n ≤ 4000000000) :
    Calls Tryz.prog 76 #[.int .u64 n] w fun e w' => ∃ v', e = .returned v' ∧ OwnB w' w.heap.size 5 v' (szB n) ∧ Below w.heap.size w w' := by
  by_cases h1 : n < 253
  · have hs : Hid (szB n = le 1 n) := Lib.hid (by simp [szB, h1])
    go_enter Tryz.func76, Tryz.ntmps76
    go_wp2
    go_ret
    refine ⟨_, rfl, ?_, (Below.refl _ _).alloc (Nat.le_refl _) _⟩
    rw [hs.out]
    refine owned_built w _ (le 1 n) _ _ (Nat.le_refl _) ?_ (by simp [maxLen, le_length])
    simp only [le, bvs, List.map_cons, List.map_nil, bv_ofNat]
    rw [show (n : Int) % 256 = (n : Int) by omega]
  · by_cases h2 : n < 65536
    · have hs : Hid (szB n = le 1 253 ++ le 2 n) := Lib.hid (by simp [szB, h1, h2])
      have hp : n < p256 2 := by have h : p256 2 = 65536 := by decide
                                 omega
      go_enter Tryz.func76, Tryz.ntmps76
      go_wp2_with fail
      refine (refFixed_any 2 n 2 w (by omega) (fun _ => hp) (by unfold Lt64; omega)).mono ?_
      rintro e w1 ⟨v, rfl, hv1, hv2⟩
      obtain ⟨A, m, c, rfl⟩ := slice_of_own hv1
      have hsrc : Byt (w1.alloc (.cells #[.int .u8 253] 5)) _ (.slice A m c) (le 2 n) := (Byt.of_own hv1).alloc (Nat.le_refl _) _
      have hown : OwnB (w1.alloc (.cells #[.int .u8 253] 5)) w.heap.size 5 (.slice (some ⟨w1.heap.size, 0, none⟩) 1 1) (le 1 253) := owned_built w1 _ (le 1 253) _ _ hv2.size rfl (by simp [maxLen, le_length])
      go_wp2_with (at_builtin; refine app_bytes rfl _ _ rfl w.heap.size _ _ rfl hown _ _ _ rfl hsrc (by simp [le_length]) (by have := hv2.size; simp; omega) ?_; intro v' w2 hown2 hg2 hf2; obtain ⟨A1, n1, c1, rfl⟩ := slice_of_own hown2)
      go_ret
      exact ⟨_, rfl, by rw [hs.out]; exact hown2, (hv2.alloc hv2.size _).grown hg2 (by have := hv2.size; simp; omega) (fun k hk => by injection hk with hk; have := hv2.size; simp only at hk; omega)⟩
    · have h3 : n < 4294967296 := by omega
      have hs : Hid (szB n = le 1 254 ++ le 4 n) := Lib.hid (by simp [szB, h1, h2, h3])
      have hp : n < p256 4 := by rw [p256_4]; exact h3
      clear h3
      go_enter Tryz.func76, Tryz.ntmps76
      go_wp2_with fail
      refine (refFixed_any 4 n 4 w (by omega) (fun _ => hp) (by unfold Lt64; omega)).mono ?_
      rintro e w1 ⟨v, rfl, hv1, hv2⟩
      obtain ⟨A, m, c, rfl⟩ := slice_of_own hv1
      have hsrc : Byt (w1.alloc (.cells #[.int .u8 254] 5)) _ (.slice A m c) (le 4 n) := (Byt.of_own hv1).alloc (Nat.le_refl _) _
      have hown : OwnB (w1.alloc (.cells #[.int .u8 254] 5)) w.heap.size 5 (.slice (some ⟨w1.heap.size, 0, none⟩) 1 1) (le 1 254) := owned_built w1 _ (le 1 254) _ _ hv2.size rfl (by simp [maxLen, le_length])
      go_wp2_with (at_builtin; refine app_bytes rfl _ _ rfl w.heap.size _ _ rfl hown _ _ _ rfl hsrc (by simp [le_length]) (by have := hv2.size; simp; omega) ?_; intro v' w2 hown2 hg2 hf2; obtain ⟨A1, n1, c1, rfl⟩ := slice_of_own hown2)
      go_ret
      exact ⟨_, rfl, by rw [hs.out]; exact hown2, (hv2.alloc hv2.size _).grown hg2 (by have := hv2.size; simp; omega) (fun k hk => by injection hk with hk; have := hv2.size; simp only at hk; omega)⟩

set_option maxRecDepth 100000 in
/-- Bytes: the size, and they. -/
theorem refBytes_any (v : Value) (l : Bytes) (B : Nat) (w : World) (hl : l.length ≤ 4000000000) (h : Byt w B v l) :
    Calls Tryz.prog 77 #[v] w fun e w' => ∃ v', e = .returned v' ∧ OwnB w' w.heap.size 5 v' (szB l.length ++ l) ∧ Below w.heap.size w w' := by
  obtain ⟨A, n, c, hv⟩ : ∃ A n c, v = .slice A n c ∧ n = l.length := by
    obtain ⟨A, c, h, _⟩ := h
    exact ⟨A, _, c, h, rfl⟩
  obtain ⟨rfl, hn⟩ := hv
  have hn' : Hid (n = l.length) := Lib.hid hn
  have hn9 : n ≤ 4000000000 := by omega
  clear hn
  go_enter Tryz.func77, Tryz.ntmps77
  go_wp2_with fail
  refine (refSize_any n w hn9).mono ?_
  rintro e w1 ⟨v, rfl, hv1, hv2⟩
  obtain ⟨A1, m1, c1, rfl⟩ := slice_of_own hv1
  have hsrc := h.here.below hv2
  have hsz := szB_length9 n
  go_wp2_with (at_builtin; refine app_bytes rfl _ _ rfl w.heap.size _ _ rfl hv1 _ _ _ rfl hsrc (by have := hn'.out; omega) hv2.size ?_; intro v' w2 hown2 hg2 hf2; obtain ⟨A2, n2, c2, rfl⟩ := slice_of_own hown2)
  go_ret
  exact ⟨_, rfl, by rw [← hn'.out]; exact hown2, hv2.grown hg2 hv2.size (fun k hk => (hv1.lt k hk).1)⟩
end Go.Proofs.YtcilabemglbhbaaGreatDoor
