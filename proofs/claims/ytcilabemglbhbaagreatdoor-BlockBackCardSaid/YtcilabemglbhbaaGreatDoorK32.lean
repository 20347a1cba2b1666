/- tx's several, walked. -/
import Derived.Test.YtcilabemglbhbaaGreatDoorK31
namespace Go.Proofs.YtcilabemglbhbaaGreatDoor
open Go Go.RowKit Go.Pur

def rErr (ok : Bool) : Int := if ok then 0 else 10
theorem keptU (r : Nat) (pv : Value) (b ok : Bool) (w : World) (h : Blk w r 134 #[pv, .bool b]) : Calls Tryz.prog 86 #[.pointer (some ⟨r, 0, none⟩), .int .i64 (rErr ok)] w fun e w' => e = .returned (.tuple #[]) ∧ Blk w' r 134 #[pv, .bool (b || !ok)] ∧ Turns [r] w w' := by
  cases ok
  · simpa [rErr] using kept_no r pv b w h
  · simpa [rErr] using kept_ok r pv b w h
theorem sizeU (p : Nat) (s : Bytes × Bool) (w : World) (he : EyeAt w p s.1) : Calls Tryz.prog 28 #[.pointer (some ⟨p, 0, none⟩)] w fun e w' => e = .returned (.tuple #[.int .u64 ((rSize s).1 : Int), .int .i64 (rErr (cszOf s.1).isSome)]) ∧ EyeAt w' p (rSize s).2.1 ∧ Turns [p] w w' := by
  refine (eSize_any p s.1 w he).mono ?_
  rintro e w' ⟨ht, ⟨n, h, hc, rfl, he'⟩ | ⟨hc, rfl, he'⟩⟩
  · unfold rSize
    rw [hc]
    exact ⟨rfl, he', ht⟩
  · unfold rSize
    rw [hc]
    exact ⟨rfl, he', ht⟩
def SevInPost (r p : Nat) (s : Bytes × Bool) (w : World) (e : Ending) (w' : World) : Prop :=
  ∃ v, e = .returned v ∧ InsOwn w' w.heap.size v (rSeveral rIn s).1 ∧ RdAt w' r p (rSeveral rIn s).2 ∧ Turns [p, r] w w'
set_option maxRecDepth 100000 in
set_option maxHeartbeats 3200000 in
theorem severalIn_any (r p : Nat) (s : Bytes × Bool) (w : World) (h : RdAt w r p s) (hl : s.1.length ≤ 10000000000) :
    Calls Tryz.prog 73 #[.pointer (some ⟨r, 0, none⟩), .func (.func 71) #[.pointer (some ⟨r, 0, none⟩)] #[]] w (SevInPost r p s w) := by
  obtain ⟨i0, z0, hi, hz0, hz, hz1, hz2⟩ := info_zparts in_info
  have hrl := h.1.lt
  have c0 := h.1.cell 0
  have hpr := h.2.2
  have hlt := rSize_lt s
  unfold Lt64 at hlt
  have hsz := sizeU p s w h.2.1
  have hkp := fun (W : World) (hW : Blk W r 134 #[.pointer (some ⟨p, 0, none⟩), .bool s.2]) => keptU r (.pointer (some ⟨p, 0, none⟩)) s.2 (cszOf s.1).isSome W hW
  have hok2 : (rSize s).2.2 = (s.2 || !(cszOf s.1).isSome) := by
    unfold rSize
    cases cszOf s.1 <;> simp
  have hlen3 : (rSize s).2.1.length ≤ 10000000000 := by
    unfold rSize
    cases cszOf s.1 <;> simp <;> omega
  generalize (cszOf s.1).isSome = ok at *
  generalize rErr ok = er at *
  go_enter Tryz.func73, Tryz.ntmps73
  go_wp2_with fail
  refine hsz.mono ?_
  rintro e w2 ⟨rfl, he2, ht2⟩
  have hr2 := rd_blk_turns h.1 ht2 hpr
  go_wp2_with fail
  refine (hkp w2 hr2).mono ?_
  rintro e W3 ⟨rfl, hb3, ht3⟩
  rw [← hok2] at hb3
  have he3 := eye_turns_r he2 ht3 hpr
  have ht13 : Turns [p, r] w W3 := (ht2.more (by simp)).trans (ht3.more (qs := [p, r]) (by simp))
  have b1 := hb3.cell 1
  have g1 := hb3.frozen 1
  have hlen3' := Lib.hid hlen3
  clear hr2 ht2 ht3 he2 hsz hkp hok2 c0 hlen3 h
  have hst : rStart s = ((rSize s).2.1, (rSize s).2.2 || decide (50 < (rSize s).1)) := rfl
  have hst' := Lib.hid hst
  clear hst
  have hsev : Hid (rSeveral rIn s = rSev rIn (rSize s).1 (rStart s)) := Lib.hid rfl
  generalize (rSize s).1 = n at *
  generalize (rSize s).2.1 = l3 at *
  generalize (rSize s).2.2 = b3 at *
  have hwr : Hid ((b3 || decide (50 < n)) = true ∨ n ≤ 50) := Lib.hid (by
    rcases Nat.lt_or_ge 50 n with h | h
    · exact .inl (by simp [h])
    · exact .inr h)
  have key : ∀ W4 : World, W4 = W3.setCell ⟨r, 1, none⟩ (.bool (b3 || decide (50 < n))) → RdAt W4 r p (rStart s) ∧ Turns [p, r] w W4 := fun W4 hW4 => by
    have ht : Turns [r] W3 W4 := by rw [hW4]; exact (Turns.refl _ _).setCell (by simp) 1 _
    rw [hst'.out]
    refine ⟨⟨by rw [hW4]; exact hb3.set_ 1 _, eye_turns_r he3 ht hpr, hpr⟩, ht13.trans (ht.more (by simp))⟩
  have key' := Lib.hid key
  have hs1 : (rStart s).1.length ≤ 10000000000 := by rw [hst'.out]; exact hlen3'.out
  have hs2 : (rStart s).2 = (b3 || decide (50 < n)) := by rw [hst'.out]
  have hs1' := Lib.hid hs1
  have hs2' := Lib.hid hs2
  clear key hs1 hs2 he3 ht13 hlen3'
  have hkk := key'.out _ rfl
  have hwr' := hwr.out
  clear key' hwr hst'
  rcases b3 with _ | _
  · have hdd : (false || decide (50 < n)) = decide ((50 : Int) < (n : Int)) := by
      rw [Bool.false_or, decide_eq_decide]; omega
    rw [hdd] at hkk hs2' hwr'
    clear hdd
    go_wp2_with fail
    go_loopw [7, 8] (fun v i wr => ∃ (k : Nat) (xs : List TIn) (s' : Bytes × Bool), i = .int .u64 (k : Int) ∧ k ≤ n ∧ k ≤ 50 ∧ Hid (xs.length = k) ∧ Hid (rSev rIn n (rStart s) = (xs ++ (rSev rIn (n - k) s').1, (rSev rIn (n - k) s').2)) ∧ RdAt wr r p s' ∧ Turns [p, r] w wr ∧ InsOwn wr w.heap.size v xs ∧ s'.1.length ≤ 10000000000 ∧ Hid (s'.2 = true ∨ n ≤ 50)) (fun _ i _ => n - (intOf i).toNat)
    case atStart => exact ⟨0, [], rStart s, rfl, by omega, by omega, Lib.hid rfl, Lib.hid (by simp), hkk.1, hkk.2, ⟨[], rfl, World.ownsRow_nil _ _ _ _, by simp⟩, hs1'.out, Lib.hid (by rw [hs2'.out]; first | exact hwr' | exact .inl rfl)⟩
    case round =>
      clear hkk hb3 b1 g1
      obtain ⟨k, xs, s', rfl, hkn, hk50, hxl, hsv, hrd, ht, ⟨ps, hp1, hp2, hp3⟩, hl', hw'⟩ := hrel
      obtain ⟨Av, mv, cv, rfl⟩ := slice_of_own hp2
      have q1 := hrd.1.cell 1
      have hp1' := Lib.hid hp1
      clear hp1
      have hstop : (n = k ∨ s'.2 = true) → rSeveral rIn s = (xs, s') := fun h => by
        rw [hsev.out, hsv.out]
        have : rSev rIn (n - k) s' = ([], s') := by
          rcases h with h | h
          · rw [h, Nat.sub_self]; rfl
          · exact rSev_stop _ _ _ h
        rw [this, List.append_nil]
      have hstop' := Lib.hid hstop
      clear hstop
      rcases hs2 : s'.2 with _ | _
      · rw [hs2] at q1
        by_cases hlt : k < n
        · have hn50 : n ≤ 50 := by
            rcases hw'.out with h | h
            · rw [hs2] at h; cases h
            · exact h
          have hgo : rSev rIn (n - k) s' = ((rIn s').1 :: (rSev rIn (n - (k + 1)) (rIn s').2).1, (rSev rIn (n - (k + 1)) (rIn s').2).2) := by
            rw [show n - k = (n - (k + 1)) + 1 by omega]
            exact rSev_go _ _ _ hs2
          have hgo' := Lib.hid hgo
          have hs2h := Lib.hid hs2
          clear hgo hs2
          go_wp2_with fail
          refine (in_any r p s' wr hrd hl').mono ?_
          rintro e w5 ⟨sv, rfl, ho5, hrd5, ht5⟩
          obtain ⟨A5, m5, d5, rfl⟩ := slice_of_own ho5
          have hq : ∀ q ∈ [p, r], q < w.heap.size := by simp; omega
          have hp5 := own_turns_base hp2 ht5 hq
          have hp35 : ∀ q ∈ ps, OwnB w5 w.heap.size 5 q.2 q.1.script ∧ q.1.tx.length = 32 ∧ Lt32 q.1.n ∧ Lt32 q.1.seq := fun q hqq => ⟨own_turns_base (hp3 q hqq).1 ht5 hq, (hp3 q hqq).2⟩
          have ho5' : OwnB w5 w.heap.size 5 (.slice A5 m5 d5) (rIn s').1.script := World.ownsRow_base ho5 (fun g hg => Nat.le_trans ht.size (ho5.lt g hg).1)
          have ht15 := ht.trans ht5
          have hH35 : (inCells (rIn s').1 (.slice A5 m5 d5)).length = 35 := inCells_length _ _ (rIn_ok s').1
          have hH1 : ∀ u ∈ inCells (rIn s').1 (.slice A5 m5 d5), u.oneCell' = true := by
            have := inCells_one (rIn s').1 (.slice A5 m5 d5) rfl
            rw [Array.all_eq_true_iff_forall_mem] at this
            exact fun u hu => this u (by simpa using hu)
          have hx50 : xs.length ≤ 50 := by rw [hxl.out]; exact hk50
          have hh5 := ht15.size
          generalize hH : inCells (rIn s').1 (.slice A5 m5 d5) = H at *
          have hH' := Lib.hid hH
          have hHl' := Lib.hid hH35
          have hfw := fold_whole H #[.int .u8 0, .int .u8 0, .int .u8 0, .int .u8 0, .int .u8 0, .int .u8 0, .int .u8 0, .int .u8 0, .int .u8 0, .int .u8 0, .int .u8 0, .int .u8 0, .int .u8 0, .int .u8 0, .int .u8 0, .int .u8 0, .int .u8 0, .int .u8 0, .int .u8 0, .int .u8 0, .int .u8 0, .int .u8 0, .int .u8 0, .int .u8 0, .int .u8 0, .int .u8 0, .int .u8 0, .int .u8 0, .int .u8 0, .int .u8 0, .int .u8 0, .int .u8 0, .int .u32 0, .slice none 0 0, .int .u32 0] (by rw [hH35]; rfl)
          clear hH hrd ht hp2 hp3 q1 ho5 ht5
          go_wp2_with (at_builtin; refine wpList_append_any _ rfl _ _ _ rfl w.heap.size 89 i0 z0 35 72 Tryz.underlying49 hi hz0 hz1 hz2 hz (by decide) _ xs.length _ rfl (hp5.alloc _) (w5.heap.size + 1) (some ⟨w5.heap.size, 0, none⟩) 1 1 H rfl (reads_one hHl'.out) hH1 (by simp only [maxLen]; omega) (by omega) (by simp; omega) ?_; intro v6 w6 hown6 hg6 hf6)
          obtain ⟨A6, m6, d6, rfl⟩ := slice_of_own hown6
          go_round
          case rel =>
            obtain ⟨qs, hqs, hqb⟩ := turns_of_grown (base := w.heap.size) hg6 (fun g hg => (hp5.lt g hg).1)
            have hal : Turns qs w5 (w5.alloc (.cells H.toArray 89)) := (Turns.refl _ _).alloc _
            have hall := hal.trans hqs
            refine ⟨k + 1, xs ++ [(rIn s').1], (rIn s').2, by go_num, by omega, by omega, Lib.hid (by rw [List.length_append, hxl.out]; rfl), Lib.hid ?_, hrd5.turns hall (fun q hq' => by have := hqb q hq'; omega), ((ht15.more (qs := [p, r] ++ qs) (by simp)).trans (hall.more (by simp; intro q hq'; simp_all))).less (by simp; intro q hq'; exact .inr (hqb q hq')), ?_, Nat.le_trans (rIn_le s') hl', Lib.hid (.inr hn50)⟩
            · rw [hsv.out, hgo'.out]
              simp
            · refine insOwn_append hp1'.out hp5 hp35 ho5' (rIn_ok s') hg6 ?_
              rw [hH'.out]
              exact hown6
          case measure => simp [intOf]; omega
        · have hr := hstop'.out (.inl (by omega))
          go_wp2_with fail
          go_ret
          exact ⟨_, rfl, by rw [hr]; exact ⟨ps, hp1'.out, hp2, hp3⟩, by rw [hr]; exact hrd, ht⟩
      · have hr := hstop'.out (.inr hs2)
        rw [hs2] at q1
        have hr' := Lib.hid hr
        clear hs2 hr
        by_cases hlt : k < n
        all_goals
          go_wp2_with fail
          go_ret
          exact ⟨_, rfl, by rw [hr'.out]; exact ⟨ps, hp1'.out, hp2, hp3⟩, by rw [hr'.out]; exact hrd, ht⟩
  · rw [Bool.true_or] at hkk hs2' hwr'
    go_wp2_with fail
    go_loopw [7, 8] (fun v i wr => ∃ (k : Nat) (xs : List TIn) (s' : Bytes × Bool), i = .int .u64 (k : Int) ∧ k ≤ n ∧ k ≤ 50 ∧ Hid (xs.length = k) ∧ Hid (rSev rIn n (rStart s) = (xs ++ (rSev rIn (n - k) s').1, (rSev rIn (n - k) s').2)) ∧ RdAt wr r p s' ∧ Turns [p, r] w wr ∧ InsOwn wr w.heap.size v xs ∧ s'.1.length ≤ 10000000000 ∧ Hid (s'.2 = true ∨ n ≤ 50)) (fun _ i _ => n - (intOf i).toNat)
    case atStart => exact ⟨0, [], rStart s, rfl, by omega, by omega, Lib.hid rfl, Lib.hid (by simp), hkk.1, hkk.2, ⟨[], rfl, World.ownsRow_nil _ _ _ _, by simp⟩, hs1'.out, Lib.hid (by rw [hs2'.out]; first | exact hwr' | exact .inl rfl)⟩
    case round =>
      clear hkk hb3 b1 g1
      obtain ⟨k, xs, s', rfl, hkn, hk50, hxl, hsv, hrd, ht, ⟨ps, hp1, hp2, hp3⟩, hl', hw'⟩ := hrel
      obtain ⟨Av, mv, cv, rfl⟩ := slice_of_own hp2
      have q1 := hrd.1.cell 1
      have hp1' := Lib.hid hp1
      clear hp1
      have hstop : (n = k ∨ s'.2 = true) → rSeveral rIn s = (xs, s') := fun h => by
        rw [hsev.out, hsv.out]
        have : rSev rIn (n - k) s' = ([], s') := by
          rcases h with h | h
          · rw [h, Nat.sub_self]; rfl
          · exact rSev_stop _ _ _ h
        rw [this, List.append_nil]
      have hstop' := Lib.hid hstop
      clear hstop
      rcases hs2 : s'.2 with _ | _
      · rw [hs2] at q1
        by_cases hlt : k < n
        · have hn50 : n ≤ 50 := by
            rcases hw'.out with h | h
            · rw [hs2] at h; cases h
            · exact h
          have hgo : rSev rIn (n - k) s' = ((rIn s').1 :: (rSev rIn (n - (k + 1)) (rIn s').2).1, (rSev rIn (n - (k + 1)) (rIn s').2).2) := by
            rw [show n - k = (n - (k + 1)) + 1 by omega]
            exact rSev_go _ _ _ hs2
          have hgo' := Lib.hid hgo
          have hs2h := Lib.hid hs2
          clear hgo hs2
          go_wp2_with fail
          refine (in_any r p s' wr hrd hl').mono ?_
          rintro e w5 ⟨sv, rfl, ho5, hrd5, ht5⟩
          obtain ⟨A5, m5, d5, rfl⟩ := slice_of_own ho5
          have hq : ∀ q ∈ [p, r], q < w.heap.size := by simp; omega
          have hp5 := own_turns_base hp2 ht5 hq
          have hp35 : ∀ q ∈ ps, OwnB w5 w.heap.size 5 q.2 q.1.script ∧ q.1.tx.length = 32 ∧ Lt32 q.1.n ∧ Lt32 q.1.seq := fun q hqq => ⟨own_turns_base (hp3 q hqq).1 ht5 hq, (hp3 q hqq).2⟩
          have ho5' : OwnB w5 w.heap.size 5 (.slice A5 m5 d5) (rIn s').1.script := World.ownsRow_base ho5 (fun g hg => Nat.le_trans ht.size (ho5.lt g hg).1)
          have ht15 := ht.trans ht5
          have hH35 : (inCells (rIn s').1 (.slice A5 m5 d5)).length = 35 := inCells_length _ _ (rIn_ok s').1
          have hH1 : ∀ u ∈ inCells (rIn s').1 (.slice A5 m5 d5), u.oneCell' = true := by
            have := inCells_one (rIn s').1 (.slice A5 m5 d5) rfl
            rw [Array.all_eq_true_iff_forall_mem] at this
            exact fun u hu => this u (by simpa using hu)
          have hx50 : xs.length ≤ 50 := by rw [hxl.out]; exact hk50
          have hh5 := ht15.size
          generalize hH : inCells (rIn s').1 (.slice A5 m5 d5) = H at *
          have hH' := Lib.hid hH
          have hHl' := Lib.hid hH35
          have hfw := fold_whole H #[.int .u8 0, .int .u8 0, .int .u8 0, .int .u8 0, .int .u8 0, .int .u8 0, .int .u8 0, .int .u8 0, .int .u8 0, .int .u8 0, .int .u8 0, .int .u8 0, .int .u8 0, .int .u8 0, .int .u8 0, .int .u8 0, .int .u8 0, .int .u8 0, .int .u8 0, .int .u8 0, .int .u8 0, .int .u8 0, .int .u8 0, .int .u8 0, .int .u8 0, .int .u8 0, .int .u8 0, .int .u8 0, .int .u8 0, .int .u8 0, .int .u8 0, .int .u8 0, .int .u32 0, .slice none 0 0, .int .u32 0] (by rw [hH35]; rfl)
          clear hH hrd ht hp2 hp3 q1 ho5 ht5
          go_wp2_with (at_builtin; refine wpList_append_any _ rfl _ _ _ rfl w.heap.size 89 i0 z0 35 72 Tryz.underlying49 hi hz0 hz1 hz2 hz (by decide) _ xs.length _ rfl (hp5.alloc _) (w5.heap.size + 1) (some ⟨w5.heap.size, 0, none⟩) 1 1 H rfl (reads_one hHl'.out) hH1 (by simp only [maxLen]; omega) (by omega) (by simp; omega) ?_; intro v6 w6 hown6 hg6 hf6)
          obtain ⟨A6, m6, d6, rfl⟩ := slice_of_own hown6
          go_round
          case rel =>
            obtain ⟨qs, hqs, hqb⟩ := turns_of_grown (base := w.heap.size) hg6 (fun g hg => (hp5.lt g hg).1)
            have hal : Turns qs w5 (w5.alloc (.cells H.toArray 89)) := (Turns.refl _ _).alloc _
            have hall := hal.trans hqs
            refine ⟨k + 1, xs ++ [(rIn s').1], (rIn s').2, by go_num, by omega, by omega, Lib.hid (by rw [List.length_append, hxl.out]; rfl), Lib.hid ?_, hrd5.turns hall (fun q hq' => by have := hqb q hq'; omega), ((ht15.more (qs := [p, r] ++ qs) (by simp)).trans (hall.more (by simp; intro q hq'; simp_all))).less (by simp; intro q hq'; exact .inr (hqb q hq')), ?_, Nat.le_trans (rIn_le s') hl', Lib.hid (.inr hn50)⟩
            · rw [hsv.out, hgo'.out]
              simp
            · refine insOwn_append hp1'.out hp5 hp35 ho5' (rIn_ok s') hg6 ?_
              rw [hH'.out]
              exact hown6
          case measure => simp [intOf]; omega
        · have hr := hstop'.out (.inl (by omega))
          go_wp2_with fail
          go_ret
          exact ⟨_, rfl, by rw [hr]; exact ⟨ps, hp1'.out, hp2, hp3⟩, by rw [hr]; exact hrd, ht⟩
      · have hr := hstop'.out (.inr hs2)
        rw [hs2] at q1
        have hr' := Lib.hid hr
        clear hs2 hr
        by_cases hlt : k < n
        all_goals
          go_wp2_with fail
          go_ret
          exact ⟨_, rfl, by rw [hr'.out]; exact ⟨ps, hp1'.out, hp2, hp3⟩, by rw [hr'.out]; exact hrd, ht⟩
end Go.Proofs.YtcilabemglbhbaaGreatDoor
