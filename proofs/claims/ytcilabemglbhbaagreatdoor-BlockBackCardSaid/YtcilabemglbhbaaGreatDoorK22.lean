/- octet's Eye: Size and Bytes. -/
import Derived.Test.YtcilabemglbhbaaGreatDoorK21
namespace Go.Proofs.YtcilabemglbhbaaGreatDoor
open Go Go.RowKit Go.Pur

/-- the compact size with which bytes begin, and how many bytes it has. -/
def cszOf : Bytes → Option (Nat × Nat)
  | [] => none
  | c :: r => if c.toNat < 253 then some (c.toNat, 1) else if r.length < 2 ^ (c.toNat - 252) then none else
    if cmpN (leV (r.take (2 ^ (c.toNat - 252)))) = 2 ^ (c.toNat - 252) + 1 then some (leV (r.take (2 ^ (c.toNat - 252))), 2 ^ (c.toNat - 252) + 1) else none
def cszN (l : Bytes) : Nat := ((cszOf l).getD (0, 0)).1
def cszH (l : Bytes) : Nat := ((cszOf l).getD (0, 0)).2
theorem cut_from' {B m c : Nat} {A : Option Addr} {w : World} {l : Bytes} (h : Byt w B (.slice A m c) l) (k : Nat) (kI : Int) (hkI : kI = (k : Int)) (hk : k ≤ l.length) :
    ∃ A' m' c', (∀ W : World, (Instr.sliceAt 30 (.slice A m c) (some (.int .i64 kI)) none none).run Tryz.prog W = .ok (.slice A' m' c') W) ∧
      (∀ W, Byt W B (.slice A m c) l → Byt W B (.slice A' m' c') (l.drop k)) := by
  subst hkI
  obtain ⟨A', h1, h2⟩ := cut_from h k hk
  exact ⟨A', _, _, h1, h2⟩
theorem cut_mid' {B m c : Nat} {A : Option Addr} {w : World} {l : Bytes} (h : Byt w B (.slice A m c) l) (k e : Nat) (kI eI : Int) (hkI : kI = (k : Int)) (heI : eI = (e : Int)) (hk : k ≤ e) (he : e ≤ l.length) :
    ∃ A' m' c', (∀ W : World, (Instr.sliceAt 30 (.slice A m c) (some (.int .i64 kI)) (some (.int .i64 eI)) none).run Tryz.prog W = .ok (.slice A' m' c') W) ∧
      (∀ W, Byt W B (.slice A m c) l → Byt W B (.slice A' m' c') ((l.drop k).take (e - k))) := by
  subst hkI; subst heI
  obtain ⟨A', h1, h2⟩ := cut_mid h k e hk he
  exact ⟨A', _, _, h1, h2⟩
theorem cszOf_bounds {l : Bytes} {n h : Nat} (hc : cszOf l = some (n, h)) : 1 ≤ h ∧ h ≤ 9 ∧ h ≤ l.length ∧ n < 18446744073709551616 := by
  cases l with
  | nil => simp [cszOf] at hc
  | cons c r =>
    simp only [cszOf] at hc
    have hcb := UInt8.toNat_lt c
    split at hc
    · simp only [Option.some.injEq, Prod.mk.injEq] at hc
      obtain ⟨rfl, rfl⟩ := hc
      exact ⟨by omega, by omega, by simp, by omega⟩
    · split at hc
      · cases hc
      · split at hc
        · simp only [Option.some.injEq, Prod.mk.injEq] at hc
          obtain ⟨rfl, rfl⟩ := hc
          have h3 : c.toNat = 253 ∨ c.toNat = 254 ∨ c.toNat = 255 := by omega
          have hle : 2 ^ (c.toNat - 252) ≤ 8 := by rcases h3 with h3 | h3 | h3 <;> rw [h3] <;> simp
          have hge : 1 ≤ 2 ^ (c.toNat - 252) := Nat.one_le_two_pow
          rename_i hlen _
          generalize 2 ^ (c.toNat - 252) = q at *
          have hb := leV_lt (r.take q)
          have hl : (r.take q).length ≤ 8 := by rw [List.length_take]; omega
          have hp : 256 ^ (r.take q).length ≤ 256 ^ 8 := Nat.pow_le_pow_right (by omega) hl
          have h8 : (256 : Nat) ^ 8 = 18446744073709551616 := by rfl
          refine ⟨by omega, by omega, by rw [List.length_cons]; omega, ?_⟩
          rw [h8] at hp
          omega
        · cases hc

theorem compact_any' (n : Nat) (w : World) : Calls Tryz.prog 52 #[.int .u64 (n : Int)] w fun e w' => e = .returned (.int .i64 (cmpN n)) ∧ w' = w := (compact_any n w).mono fun _ _ h => ⟨h.1, h.2.symm⟩

set_option maxRecDepth 100000 in
set_option maxHeartbeats 1600000 in
theorem esize_any (p : Nat) (l : Bytes) (w : World) (he : EyeAt w p l) :
    Calls Tryz.prog 56 #[.pointer (some ⟨p, 0, none⟩)] w fun e w' => e = .returned (.tuple #[.int .u64 (cszN l : Int), .int .i64 (cszH l : Int)]) ∧ Below w.heap.size w w' := by
  obtain ⟨A, m, c, hp, hv, hm, h1, h2⟩ := he.form
  have c1 := hp.cell 1
  have hpl := hp.lt
  cases l with
  | nil =>
    simp only [List.length_nil] at hm
    subst hm
    go_enter Tryz.func56, Tryz.ntmps56
    go_wp2
    go_ret2
    exact ⟨rfl, Below.refl _ _⟩
  | cons x r =>
    obtain ⟨b, o, c', hvs, hbp, hc1, hc2, hget⟩ := byt_get hv (by simp)
    injection hvs with e1 e2 e3
    subst e1; subst e3
    have hx := hget 0 (by simp)
    simp only [List.getD_cons_zero, Nat.add_zero] at hx
    unfold bv at hx
    have hxb := UInt8.toNat_lt x
    have hmr : m = r.length + 1 := by rw [hm]; simp
    have hm' := Lib.hid hmr
    have hm0 : 0 < m := by omega
    by_cases hlt : x.toNat < 253
    · have hN : cszN (x :: r) = x.toNat := by simp [cszN, cszOf, hlt]
      have hH : cszH (x :: r) = 1 := by simp [cszH, cszOf, hlt]
      have hN' := Lib.hid hN
      have hH' := Lib.hid hH
      generalize x.toNat = xn at *
      clear hN hH hm hget hmr hv he e2
      have ne1 : ((xn : Int) == 253) = false := by simp; omega
      have ne2 : ((xn : Int) == 254) = false := by simp; omega
      have ne3 : ((xn : Int) == 255) = false := by simp; omega
      go_enter Tryz.func56, Tryz.ntmps56
      go_wp2
      go_ret2
      exact ⟨by rw [hN'.out, hH'.out]; rfl, Below.refl _ _⟩
    · have h3 : x.toNat = 253 ∨ x.toNat = 254 ∨ x.toNat = 255 := by omega
      obtain ⟨A1, m1, d1, hcut, hbyt⟩ := cut_from' hv 1 1 rfl (by simp)
      have hbyt' := Lib.hid hbyt
      have hget' := Lib.hid hget
      clear hm hget hmr hbyt e2
      have key : ∀ (more : Nat) (mI : Int), mI = (more : Int) → more ≤ 8 → 2 ^ (x.toNat - 252) = more → more ≤ r.length → ∀ (W : World), W = w.alloc (.cells #[.bool true, .slice A1 m1 d1] 97) →
          Calls Tryz.prog 61 #[.pointer (some ⟨w.heap.size, 0, none⟩), .int .i64 mI] W fun e w' => e = .returned (.int .u64 ((leV (r.take more) : Nat) : Int)) ∧ Below w.heap.size w w' := fun more mI hmI h8 _ hml W hW => by
        subst hW
        subst hmI
        have hb := (Below.refl w.heap.size w).alloc (Nat.le_refl _) (.cells #[.bool true, .slice A1 m1 d1] 97)
        have hey : EyeAt (w.alloc (.cells #[.bool true, .slice A1 m1 d1] 97)) w.heap.size r := ⟨_, Blk.new w _ _, by
          have := hbyt'.out _ ((hv.alloc (Nat.le_of_lt hpl)) (.cells #[.bool true, .slice A1 m1 d1] 97))
          exact (this.more (Nat.le_of_lt hpl))⟩
        exact (number_any _ more r _ hey hml h8).mono fun _ _ h => ⟨h.1, hb.trans (h.2.mono hb.size)⟩
      have key' := Lib.hid key
      clear key
      rcases h3 with h3 | h3 | h3
      all_goals
        rw [h3] at hx
      · by_cases hlen : r.length < 2
        · have hN : cszOf (x :: r) = none := by simp [cszOf, h3, hlen]
          have hN' := Lib.hid hN
          have hml : m ≤ 2 := by rw [hm'.out]; omega
          clear hN h3 hlt
          go_enter Tryz.func56, Tryz.ntmps56
          go_wp2
          go_ret2
          exact ⟨by rw [cszN, cszH, hN'.out]; rfl, Below.refl _ _⟩
        · have hml : 2 < m := by rw [hm'.out]; omega
          have hk := key'.out 2 2 rfl (by omega) (by rw [h3]) (by omega) _ rfl
          have hk' := Lib.hid hk
          obtain ⟨nn, hnn⟩ : ∃ nn, leV (r.take 2) = nn := ⟨_, rfl⟩
          rw [hnn] at hk
          have hcs : cszOf (x :: r) = if cmpN nn = 3 then some (nn, 3) else none := by simp [cszOf, h3, hlen, hnn]
          have hcs' := Lib.hid hcs
          clear hcs h3 hlt hlen hk' hnn
          by_cases hcm : cmpN nn = 3
          · have hd : ((cmpN nn : Int) == 3) = true := by simp; omega
            have hd2 : ((cmpN nn : Int) != 3) = false := by simp; omega
            have hcm' := Lib.hid hcm
            clear hcm
            go_enter Tryz.func56, Tryz.ntmps56
            go_wp2_with (first
              | (go_at_call 61; refine hk.mono ?_; rintro e w2 ⟨rfl, hb2⟩)
              | (go_at_call 52; refine (compact_any' nn _).mono ?_; rintro e w3 ⟨rfl, rfl⟩))
            go_ret2
            exact ⟨by rw [cszN, cszH, hcs'.out, if_pos hcm'.out]; rfl, hb2⟩
          · have hd : ((cmpN nn : Int) == 3) = false := by simp; omega
            have hd2 : ((cmpN nn : Int) != 3) = true := by simp; omega
            have hcm' := Lib.hid hcm
            clear hcm
            go_enter Tryz.func56, Tryz.ntmps56
            go_wp2_with (first
              | (go_at_call 61; refine hk.mono ?_; rintro e w2 ⟨rfl, hb2⟩)
              | (go_at_call 52; refine (compact_any' nn _).mono ?_; rintro e w3 ⟨rfl, rfl⟩))
            go_ret2
            exact ⟨by rw [cszN, cszH, hcs'.out, if_neg hcm'.out]; rfl, hb2⟩
      · by_cases hlen : r.length < 4
        · have hN : cszOf (x :: r) = none := by simp [cszOf, h3, hlen]
          have hN' := Lib.hid hN
          have hml : m ≤ 4 := by rw [hm'.out]; omega
          clear hN h3 hlt
          go_enter Tryz.func56, Tryz.ntmps56
          go_wp2
          go_ret2
          exact ⟨by rw [cszN, cszH, hN'.out]; rfl, Below.refl _ _⟩
        · have hml : 4 < m := by rw [hm'.out]; omega
          have hk := key'.out 4 4 rfl (by omega) (by rw [h3]) (by omega) _ rfl
          have hk' := Lib.hid hk
          obtain ⟨nn, hnn⟩ : ∃ nn, leV (r.take 4) = nn := ⟨_, rfl⟩
          rw [hnn] at hk
          have hcs : cszOf (x :: r) = if cmpN nn = 5 then some (nn, 5) else none := by simp [cszOf, h3, hlen, hnn]
          have hcs' := Lib.hid hcs
          clear hcs h3 hlt hlen hk' hnn
          by_cases hcm : cmpN nn = 5
          · have hd : ((cmpN nn : Int) == 5) = true := by simp; omega
            have hd2 : ((cmpN nn : Int) != 5) = false := by simp; omega
            have hcm' := Lib.hid hcm
            clear hcm
            go_enter Tryz.func56, Tryz.ntmps56
            go_wp2_with (first
              | (go_at_call 61; refine hk.mono ?_; rintro e w2 ⟨rfl, hb2⟩)
              | (go_at_call 52; refine (compact_any' nn _).mono ?_; rintro e w3 ⟨rfl, rfl⟩))
            go_ret2
            exact ⟨by rw [cszN, cszH, hcs'.out, if_pos hcm'.out]; rfl, hb2⟩
          · have hd : ((cmpN nn : Int) == 5) = false := by simp; omega
            have hd2 : ((cmpN nn : Int) != 5) = true := by simp; omega
            have hcm' := Lib.hid hcm
            clear hcm
            go_enter Tryz.func56, Tryz.ntmps56
            go_wp2_with (first
              | (go_at_call 61; refine hk.mono ?_; rintro e w2 ⟨rfl, hb2⟩)
              | (go_at_call 52; refine (compact_any' nn _).mono ?_; rintro e w3 ⟨rfl, rfl⟩))
            go_ret2
            exact ⟨by rw [cszN, cszH, hcs'.out, if_neg hcm'.out]; rfl, hb2⟩
      · by_cases hlen : r.length < 8
        · have hN : cszOf (x :: r) = none := by simp [cszOf, h3, hlen]
          have hN' := Lib.hid hN
          have hml : m ≤ 8 := by rw [hm'.out]; omega
          clear hN h3 hlt
          go_enter Tryz.func56, Tryz.ntmps56
          go_wp2
          go_ret2
          exact ⟨by rw [cszN, cszH, hN'.out]; rfl, Below.refl _ _⟩
        · have hml : 8 < m := by rw [hm'.out]; omega
          have hk := key'.out 8 8 rfl (by omega) (by rw [h3]) (by omega) _ rfl
          have hk' := Lib.hid hk
          obtain ⟨nn, hnn⟩ : ∃ nn, leV (r.take 8) = nn := ⟨_, rfl⟩
          rw [hnn] at hk
          have hcs : cszOf (x :: r) = if cmpN nn = 9 then some (nn, 9) else none := by simp [cszOf, h3, hlen, hnn]
          have hcs' := Lib.hid hcs
          clear hcs h3 hlt hlen hk' hnn
          by_cases hcm : cmpN nn = 9
          · have hd : ((cmpN nn : Int) == 9) = true := by simp; omega
            have hd2 : ((cmpN nn : Int) != 9) = false := by simp; omega
            have hcm' := Lib.hid hcm
            clear hcm
            go_enter Tryz.func56, Tryz.ntmps56
            go_wp2_with (first
              | (go_at_call 61; refine hk.mono ?_; rintro e w2 ⟨rfl, hb2⟩)
              | (go_at_call 52; refine (compact_any' nn _).mono ?_; rintro e w3 ⟨rfl, rfl⟩))
            go_ret2
            exact ⟨by rw [cszN, cszH, hcs'.out, if_pos hcm'.out]; rfl, hb2⟩
          · have hd : ((cmpN nn : Int) == 9) = false := by simp; omega
            have hd2 : ((cmpN nn : Int) != 9) = true := by simp; omega
            have hcm' := Lib.hid hcm
            clear hcm
            go_enter Tryz.func56, Tryz.ntmps56
            go_wp2_with (first
              | (go_at_call 61; refine hk.mono ?_; rintro e w2 ⟨rfl, hb2⟩)
              | (go_at_call 52; refine (compact_any' nn _).mono ?_; rintro e w3 ⟨rfl, rfl⟩))
            go_ret2
            exact ⟨by rw [cszN, cszH, hcs'.out, if_neg hcm'.out]; rfl, hb2⟩
end Go.Proofs.YtcilabemglbhbaaGreatDoor
