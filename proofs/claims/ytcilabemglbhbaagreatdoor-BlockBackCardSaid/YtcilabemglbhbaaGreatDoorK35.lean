/- Plain laws: what is read of a transaction's bytes is the transaction, whatever stands behind; what was read has just these bytes. -/
import Derived.Test.YtcilabemglbhbaaGreatDoorK34
import Derived.Test.YtcilabemglbhbaaGreatDoorK18
import Derived.Test.YtcilabemglbhbaaGreatDoorK27
namespace Go.Proofs.YtcilabemglbhbaaGreatDoor
open Go Go.RowKit Go.Pur

theorem take_le (k x : Nat) (r : Bytes) : (le k x ++ r).take k = le k x ∧ (le k x ++ r).drop k = r :=
  ⟨List.take_left' (le_length k x), List.drop_left' (le_length k x)⟩
theorem rFour_app {x : Nat} (hx : Lt32 x) (r : Bytes) (f : Bool) : rFour (le 4 x ++ r, f) = (x, (r, f)) := by
  obtain ⟨h1, h2⟩ := take_le 4 x r
  unfold rFour
  rw [if_pos (by simp [le_length]), h1, h2, leV_le 4 x hx]
theorem rEight_app {x : Nat} (hx : Lt64 x) (r : Bytes) (f : Bool) : rEight (le 8 x ++ r, f) = (x, (r, f)) := by
  obtain ⟨h1, h2⟩ := take_le 8 x r
  unfold rEight
  rw [if_pos (by simp [le_length]), h1, h2, leV_le 8 x hx]
theorem rRaw_app {b : Bytes} (hb : b.length = 32) (r : Bytes) (f : Bool) : rRaw (b ++ r, f) = (b, (r, f)) := by
  unfold rRaw
  rw [if_pos (by simp [hb]), List.take_left' hb, List.drop_left' hb]
theorem cszOf_big (c : UInt8) (q n : Nat) (r : Bytes) (hc : 253 ≤ c.toNat) (hq : 2 ^ (c.toNat - 252) = q) (hn : n < 256 ^ q) (hcmp : cmpN n = q + 1) : cszOf (c :: (le q n ++ r)) = some (n, q + 1) := by
  obtain ⟨h1, h2⟩ := take_le q n r
  simp only [cszOf]
  rw [if_neg (by omega), hq, if_neg (by simp [le_length]), h1, leV_le q n hn, if_pos hcmp]
theorem le1 (x : Nat) : le 1 x = [UInt8.ofNat x] := rfl
theorem cszOf_szB {n : Nat} (hn : Lt64 n) (r : Bytes) : cszOf (szB n ++ r) = some (n, (szB n).length) := by
  unfold Lt64 at hn
  unfold szB
  by_cases h1 : n < 253
  · rw [if_pos h1, le1]
    have hm : (UInt8.ofNat n).toNat = n := by rw [UInt8.toNat_ofNat']; omega
    show cszOf (UInt8.ofNat n :: r) = _
    simp only [cszOf]
    rw [hm, if_pos h1]
    rfl
  · rw [if_neg h1]
    by_cases h2 : n < 65536
    · rw [if_pos h2, List.append_assoc]
      have := cszOf_big 253 2 n r (by decide) (by decide) (by omega) (by simp [cmpN, h1, h2])
      simpa [le1, le_length] using this
    · rw [if_neg h2]
      by_cases h3 : n < 4294967296
      · rw [if_pos h3, List.append_assoc]
        have := cszOf_big 254 4 n r (by decide) (by decide) (by omega) (by simp [cmpN, h1, h2, h3])
        simpa [le1, le_length] using this
      · rw [if_neg h3, List.append_assoc]
        have := cszOf_big 255 8 n r (by decide) (by decide) (by omega) (by simp [cmpN, h1, h2, h3])
        simpa [le1, le_length] using this
theorem rSize_app {n : Nat} (hn : Lt64 n) (r : Bytes) (f : Bool) : rSize (szB n ++ r, f) = (n, (r, f)) := by
  unfold rSize
  rw [cszOf_szB hn r]
  simp
theorem rScr_app {b : Bytes} (hb : b.length ≤ 2000) (r : Bytes) (f : Bool) : rScr ((szB b.length ++ b) ++ r, f) = (b, (r, f)) := by
  have h : scrOf 2000 ((szB b.length ++ b) ++ r) = some (b, r) := by
    unfold scrOf
    rw [List.append_assoc, cszOf_szB (by unfold Lt64; omega) (b ++ r)]
    simp [hb]
  unfold rScr
  rw [h]
theorem rIn_app {x : TIn} (hx : InOk x) (hs : x.script.length ≤ 2000) (r : Bytes) (f : Bool) : rIn (encIn x ++ r, f) = (x, (r, f)) := by
  obtain ⟨h1, h2, h3, _⟩ := hx
  unfold rIn encIn
  simp only [List.append_assoc]
  rw [rRaw_app h1]
  dsimp only
  rw [rFour_app h2]
  dsimp only
  rw [← List.append_assoc (szB x.script.length), rScr_app hs]
  dsimp only
  rw [rFour_app h3]
theorem toI64_toU64 {v : Int} (h : Int64 v) : toI64 (toU64 v) = v := by
  unfold Int64 at h
  unfold toI64 toU64
  rw [IntKind.wrap_i64]
  omega
theorem rOut_app {x : TOut} (hx : OutOk x) (hs : x.script.length ≤ 2000) (r : Bytes) (f : Bool) : rOut (encOut x ++ r, f) = (x, (r, f)) := by
  obtain ⟨h1, _⟩ := hx
  unfold rOut encOut
  simp only [List.append_assoc]
  rw [rEight_app (toU64_lt x.value)]
  dsimp only
  rw [← List.append_assoc (szB x.script.length), rScr_app hs]
  dsimp only
  rw [toI64_toU64 h1]
theorem rSev_app {α : Type} (one : Bytes × Bool → α × (Bytes × Bool)) (f : α → Bytes) : ∀ (xs : List α) (r : Bytes), (∀ x ∈ xs, ∀ r, one (f x ++ r, false) = (x, (r, false))) → rSev one xs.length (xs.flatMap f ++ r, false) = (xs, (r, false))
  | [], r, _ => rfl
  | x :: xs, r, h => by
    rw [List.length_cons, rSev_go _ _ _ rfl, List.flatMap_cons, List.append_assoc, h x (by simp), rSev_app one f xs r (fun y hy => h y (by simp [hy]))]
theorem rSeveral_app {α : Type} (one : Bytes × Bool → α × (Bytes × Bool)) (f : α → Bytes) (xs : List α) (r : Bytes) (hl : xs.length ≤ 50) (h : ∀ x ∈ xs, ∀ r, one (f x ++ r, false) = (x, (r, false))) : rSeveral one (szB xs.length ++ (xs.flatMap f ++ r), false) = (xs, (r, false)) := by
  unfold rSeveral rStart
  rw [rSize_app (by unfold Lt64; omega)]
  have : decide (50 < xs.length) = false := by simp; omega
  simp only [this, Bool.or_false]
  exact rSev_app one f xs r h
theorem okTx_parts {t : TTx} (h : okTx t = true) : (1 ≤ t.ins.length ∧ t.ins.length ≤ 50) ∧ (1 ≤ t.outs.length ∧ t.outs.length ≤ 50) ∧ (∀ x ∈ t.ins, x.script.length ≤ 2000) ∧ (∀ x ∈ t.outs, x.script.length ≤ 2000) := by
  simp only [okTx, Bool.and_eq_true, decide_eq_true_eq, List.all_eq_true] at h
  obtain ⟨⟨⟨⟨⟨h1, h2⟩, h3⟩, h4⟩, h5⟩, h6⟩ := h
  exact ⟨⟨h1, h2⟩, ⟨h3, h4⟩, h5, h6⟩
theorem rTx_app {t : TTx} (ht : TxOk t) (hok : okTx t = true) (r : Bytes) : rTx (enc t ++ r) = (t, (r, false)) := by
  obtain ⟨a1, a2, a3, a4, a5, a6⟩ := ht
  obtain ⟨b1, b2, b3, b4⟩ := okTx_parts hok
  unfold rTx enc encIns encOuts
  simp only [List.append_assoc]
  rw [rFour_app a1]
  dsimp only
  rw [rSeveral_app rIn encIn t.ins _ b1.2 (fun x hx r => rIn_app (a5 x hx) (b3 x hx) r false)]
  dsimp only
  rw [rSeveral_app rOut encOut t.outs _ b2.2 (fun x hx r => rOut_app (a6 x hx) (b4 x hx) r false)]
  dsimp only
  rw [rFour_app a2]
theorem firstOk_app {t : TTx} (ht : TxOk t) (hok : okTx t = true) (r : Bytes) : firstOk (enc t ++ r) = true := by
  unfold firstOk
  rw [rTx_app ht hok r, hok]
  rfl

/-! What was read has just these bytes. -/
def Good {α : Type} (one : Bytes × Bool → α × (Bytes × Bool)) (f : α → Bytes) : Prop := ∀ s, (one s).2.2 = false → s.2 = false ∧ s.1 = f (one s).1 ++ (one s).2.1
theorem four_good : Good rFour (le 4) := by
  intro s h
  unfold rFour at h ⊢
  split at h
  · rename_i hl
    rw [if_pos hl]
    refine ⟨h, ?_⟩
    have e := le_leV (s.1.take 4)
    rw [List.length_take, Nat.min_eq_left hl] at e
    show s.1 = le 4 (leV (s.1.take 4)) ++ s.1.drop 4
    rw [e, List.take_append_drop]
  · cases h
theorem eight_good : Good rEight (le 8) := by
  intro s h
  unfold rEight at h ⊢
  split at h
  · rename_i hl
    rw [if_pos hl]
    refine ⟨h, ?_⟩
    have e := le_leV (s.1.take 8)
    rw [List.length_take, Nat.min_eq_left hl] at e
    show s.1 = le 8 (leV (s.1.take 8)) ++ s.1.drop 8
    rw [e, List.take_append_drop]
  · cases h
theorem raw_good : Good rRaw id := by
  intro s h
  unfold rRaw at h ⊢
  split at h
  · rename_i hl
    rw [if_pos hl]
    exact ⟨h, (List.take_append_drop 32 s.1).symm⟩
  · cases h
theorem cszOf_good {l : Bytes} {n h : Nat} (hc : cszOf l = some (n, h)) : l.take h = szB n := by
  cases l with
  | nil => simp [cszOf] at hc
  | cons c r =>
    simp only [cszOf] at hc
    have hcb := UInt8.toNat_lt c
    have hcc : UInt8.ofNat c.toNat = c := by
      apply UInt8.toNat_inj.1
      rw [UInt8.toNat_ofNat']
      omega
    split at hc
    · rename_i h1
      simp only [Option.some.injEq, Prod.mk.injEq] at hc
      obtain ⟨rfl, rfl⟩ := hc
      rw [szB, if_pos h1, le1, hcc]
      rfl
    · split at hc
      · cases hc
      · split at hc
        · rename_i h1 hlen hcm
          simp only [Option.some.injEq, Prod.mk.injEq] at hc
          obtain ⟨rfl, rfl⟩ := hc
          have h3 : c.toNat = 253 ∨ c.toNat = 254 ∨ c.toNat = 255 := by omega
          have hq : ∀ q, 2 ^ (c.toNat - 252) = q → le q (leV (r.take q)) = r.take q := fun q hq => by
            have := le_leV (r.take q)
            rwa [List.length_take, Nat.min_eq_left (by omega)] at this
          rw [List.take_succ_cons]
          have key : ∀ m, cmpN m = 2 ^ (c.toNat - 252) + 1 → szB m = c :: le (2 ^ (c.toNat - 252)) m := by
            intro m hm
            rw [← hcc]
            unfold cmpN at hm
            rcases h3 with h3 | h3 | h3 <;> rw [h3] at hm ⊢ <;> simp only [Nat.reduceSub, Nat.reducePow, Nat.reduceAdd] at hm ⊢
            · have : ¬ m < 253 ∧ m < 65536 := by split at hm <;> (try split at hm) <;> (try split at hm) <;> omega
              rw [szB, if_neg this.1, if_pos this.2]; rfl
            · have : ¬ m < 253 ∧ ¬ m < 65536 ∧ m < 4294967296 := by split at hm <;> (try split at hm) <;> (try split at hm) <;> omega
              rw [szB, if_neg this.1, if_neg this.2.1, if_pos this.2.2]; rfl
            · have : ¬ m < 253 ∧ ¬ m < 65536 ∧ ¬ m < 4294967296 := by split at hm <;> (try split at hm) <;> (try split at hm) <;> omega
              rw [szB, if_neg this.1, if_neg this.2.1, if_neg this.2.2]; rfl
          rw [key _ hcm, hq _ rfl]
        · cases hc
theorem size_good : Good rSize szB := by
  intro s h
  unfold rSize at h ⊢
  split at h
  · rename_i n k hc
    refine ⟨h, ?_⟩
    show s.1 = szB n ++ s.1.drop k
    rw [← cszOf_good hc, List.take_append_drop]
  · cases h
theorem scr_good : Good rScr (fun b => szB b.length ++ b) := by
  intro s h
  unfold rScr at h ⊢
  split at h
  · rename_i b l hc
    refine ⟨h, ?_⟩
    show s.1 = (szB b.length ++ b) ++ l
    unfold scrOf at hc
    split at hc
    · cases hc
    · rename_i n k hk
      split at hc
      · rename_i hn
        simp only [Option.some.injEq, Prod.mk.injEq] at hc
        obtain ⟨rfl, rfl⟩ := hc
        have hb := cszOf_bounds hk
        have hl : ((s.1.drop k).take n).length = n := by rw [List.length_take, List.length_drop]; omega
        rw [hl, ← cszOf_good hk, List.append_assoc]
        have e2 : (s.1.drop k).take n ++ s.1.drop (k + n) = s.1.drop k := by rw [← List.drop_drop, List.take_append_drop]
        rw [e2, List.take_append_drop]
      · cases hc
  · cases h
theorem in_good : Good rIn encIn := by
  intro s h
  unfold rIn at h ⊢
  dsimp only at h ⊢
  obtain ⟨h1, e1⟩ := four_good _ h
  obtain ⟨h2, e2⟩ := scr_good _ h1
  obtain ⟨h3, e3⟩ := four_good _ h2
  obtain ⟨h4, e4⟩ := raw_good _ h3
  refine ⟨h4, ?_⟩
  unfold encIn
  simp only [List.append_assoc]
  rw [← e1]
  simp only [List.append_assoc] at e2
  rw [← e2, ← e3]
  exact e4
theorem toU64_toI64 {n : Nat} (h : Lt64 n) : toU64 (toI64 n) = n := by
  unfold Lt64 at h
  unfold toI64 toU64
  rw [IntKind.wrap_i64]
  omega
theorem out_good : Good rOut encOut := by
  intro s h
  have hlt := rEight_lt s
  unfold rOut at h ⊢
  dsimp only at h ⊢
  obtain ⟨h1, e1⟩ := scr_good _ h
  obtain ⟨h2, e2⟩ := eight_good _ h1
  refine ⟨h2, ?_⟩
  unfold encOut
  dsimp only
  rw [toU64_toI64 hlt]
  simp only [List.append_assoc] at e1 ⊢
  rw [← e1]
  exact e2
theorem sev_good {α : Type} {one : Bytes × Bool → α × (Bytes × Bool)} {f : α → Bytes} (hg : Good one f) : ∀ (k : Nat) (s : Bytes × Bool), (rSev one k s).2.2 = false → s.2 = false ∧ s.1 = (rSev one k s).1.flatMap f ++ (rSev one k s).2.1 ∧ (rSev one k s).1.length = k
  | 0, s, h => ⟨h, rfl, rfl⟩
  | k + 1, s, h => by
    rw [rSev] at h ⊢
    split at h
    · rename_i hs
      dsimp only at h
      rw [hs] at h
      cases h
    · rename_i hs
      dsimp only at h
      obtain ⟨h1, e1, l1⟩ := sev_good hg k _ h
      obtain ⟨h2, e2⟩ := hg _ h1
      refine ⟨h2, ?_, by rw [if_neg hs]; simp [l1]⟩
      rw [if_neg hs]
      dsimp only
      rw [List.flatMap_cons, List.append_assoc, ← e1]
      exact e2
theorem several_good {α : Type} {one : Bytes × Bool → α × (Bytes × Bool)} {f : α → Bytes} (hg : Good one f) : Good (rSeveral one) (fun xs => szB xs.length ++ xs.flatMap f) := by
  intro s h
  unfold rSeveral at h ⊢
  obtain ⟨h1, e1, l1⟩ := sev_good hg _ _ h
  unfold rStart at h1 e1
  simp only [Bool.or_eq_false_iff] at h1
  obtain ⟨h2, e2⟩ := size_good _ h1.1
  refine ⟨h2, ?_⟩
  have e3 : (rSize s).2.1 = (rSev one (rSize s).1 (rStart s)).1.flatMap f ++ (rSev one (rSize s).1 (rStart s)).2.1 := e1
  show s.1 = (szB (rSev one (rSize s).1 (rStart s)).1.length ++ (rSev one (rSize s).1 (rStart s)).1.flatMap f) ++ (rSev one (rSize s).1 (rStart s)).2.1
  rw [l1, List.append_assoc, ← e3]
  exact e2
theorem tx_good (l : Bytes) (h : (rTx l).2.2 = false) : l = enc (rTx l).1 ++ (rTx l).2.1 := by
  unfold rTx at h ⊢
  dsimp only at h ⊢
  obtain ⟨h1, e1⟩ := four_good _ h
  obtain ⟨h2, e2⟩ := several_good out_good _ h1
  obtain ⟨h3, e3⟩ := several_good in_good _ h2
  obtain ⟨_, e4⟩ := four_good _ h3
  unfold enc encIns encOuts
  dsimp only
  simp only [List.append_assoc] at e2 e3 ⊢
  rw [← e1, ← e2, ← e3]
  exact e4
end Go.Proofs.YtcilabemglbhbaaGreatDoor
