/- The reference's transaction bytes (package purserref06). -/
import Derived.Test.YtcilabemglbhbaaGreatDoorK41
import Derived.Test.YtcilabemglbhbaaGreatDoorK17
namespace Go.Proofs.YtcilabemglbhbaaGreatDoor
open Go Go.RowKit Go.Pur

set_option maxRecDepth 100000 in
set_option maxHeartbeats 3200000 in
theorem refTxBytes_any (v : Value) (t : TTx) (B : Nat) (w : World) (hB : B ≤ w.heap.size) (h : TxAt w B v t) (hs : Small t) :
    Calls Tryz.prog 59 #[v] w fun e w' => ∃ v', e = .returned v' ∧ OwnB w' w.heap.size 5 v' (enc t) ∧ Below w.heap.size w w' := by
  obtain ⟨iv, ov, rfl, hver, hlock, hi, ho⟩ := h
  have h32 := Lib.hid hi.tx32
  obtain ⟨Ai, ni, ci, rfl⟩ : ∃ A n c, iv = .slice A n c := by obtain ⟨A, c, h, _⟩ := hi; exact ⟨A, _, c, h⟩
  obtain ⟨Ao, no, co, rfl⟩ : ∃ A n c, ov = .slice A n c := by obtain ⟨A, c, h, _⟩ := ho; exact ⟨A, _, c, h⟩
  have hni : ni = t.ins.length ∧ t.ins.length ≤ 60 := by
    obtain ⟨A, c, h, _⟩ := hi
    injection h with h1 h2 h3
    exact ⟨h2, hs.1⟩
  have hno : no = t.outs.length ∧ t.outs.length ≤ 60 := by
    obtain ⟨A, c, h, _⟩ := ho
    injection h with h1 h2 h3
    exact ⟨h2, hs.2.1⟩
  have hni' := Lib.hid hni
  have hno' := Lib.hid hno
  have hni6 : ni ≤ 60 := by omega
  have hno6 : no ≤ 60 := by omega
  clear hni hno
  obtain ⟨W1, hW1⟩ : ∃ W1, w.alloc (.cells #[.int .u32 (t.ver : Int), .slice Ai ni ci, .slice Ao no co, .int .u32 (t.lock : Int)] 52) = W1 := ⟨_, rfl⟩
  have hbw : Below w.heap.size w W1 := by rw [← hW1]; exact (Below.refl _ _).alloc (Nat.le_refl _) _
  have hbx : Blk W1 w.heap.size 52 #[.int .u32 (t.ver : Int), .slice Ai ni ci, .slice Ao no co, .int .u32 (t.lock : Int)] := by rw [← hW1]; exact Blk.new w _ _
  have hsz1 : W1.heap.size = w.heap.size + 1 := by rw [← hW1]; simp
  have hc0 := hbx.cell 0
  have hc1 := hbx.cell 1
  have hc2 := hbx.cell 2
  have hc3 := hbx.cell 3
  have hwv := wrapU64' hver
  have hwl := wrapU64' hlock
  have hltN := hbx.lt
  go_enter Tryz.func59, Tryz.ntmps59
  go_wp2_with fail
  clear hW1
  refine (num4 t.ver W1 hver).mono ?_
  rintro e w2 ⟨v2, rfl, ho2, hb2⟩
  obtain ⟨A2, n2, c2, rfl⟩ := slice_of_own ho2
  have hx2 := hbx.below hb2 hbx.lt
  have hc21 := hx2.cell 1
  have hlt2 := hx2.lt
  go_wp2_with fail
  refine (refSize_any ni w2 (by omega)).mono ?_
  rintro e w3 ⟨v3, rfl, ho3, hb3⟩
  obtain ⟨A3, n3, c3, rfl⟩ := slice_of_own ho3
  have ho23 := own_below ho2 hb3
  have hszn := szB_length9 ni
  have hb13 := hb2.trans (hb3.mono hb2.size)
  go_wp2_with (at_builtin; refine app_bytes rfl _ _ rfl W1.heap.size _ _ rfl ho23 _ _ _ rfl (Byt.of_own ho3) (by simp [le_length]; omega) hb13.size ?_; intro v' w4 ho4 hg4 hf4; obtain ⟨A4, n4, c4, rfl⟩ := slice_of_own ho4)
  have hb14 := hb13.grown hg4 hb13.size (fun k hk => (ho2.lt k hk).1)
  have hl4 : (le 4 t.ver ++ szB ni).length ≤ 20 := by simp [le_length]; omega
  generalize hL0 : le 4 t.ver ++ szB ni = L0 at *
  have hL0' := Lib.hid hL0
  clear hL0
  have hl0 : L0.length ≤ 20 := hl4
  clear hl4
  have hg0 : Below W1.heap.size W1 w4 := hb14
  clear hg4 hf4 hc21 hlt2
  go_loopw [3, 4] (fun v i wr => ∃ k : Nat, k ≤ ni ∧ i = .int .i64 (k : Int) ∧ OwnB wr W1.heap.size 5 v (L0 ++ encIns (t.ins.take k)) ∧ Below W1.heap.size W1 wr) (fun _ i _ => ni - (intOf i).toNat)
  case atStart => exact ⟨0, Nat.zero_le _, rfl, by simpa [encIns] using ho4, hg0⟩
  case round =>
    obtain ⟨k, hk, rfl, hown, hb⟩ := hrel
    obtain ⟨Av, nv, cv, rfl⟩ := slice_of_own hown
    have hxr := hbx.below hb hltN
    have hltr := hxr.lt
    have hcr1 := hxr.cell 1
    have hcr2 := hxr.cell 2
    have hcr3 := hxr.cell 3
    have hbr : Below w.heap.size w wr := hbw.trans (hb.mono (by omega))
    by_cases hlt : k < ni
    · obtain ⟨Ai', ci', hsl, hi1, hi2, hi3⟩ := hi
      have hkl : k < t.ins.length := by rw [← hni'.out.1]; exact hlt
      obtain ⟨b, o, hA, hbB, hx⟩ := hi3 (by omega)
      have hAi : Ai = some ⟨b, o, none⟩ := by injection hsl with h1; rw [h1, hA]
      subst hAi
      obtain ⟨sv, hsv, hxl, hxn, hxq, hcells0⟩ := (hx k t.ins[k] (List.getElem?_eq_getElem hkl)).keep hbB (fun p hp => (hbw.mono hB).cell hp)
      have hcells : ∀ j u, (inCells t.ins[k] sv)[j]? = some u → wr.cell? ⟨b, o + k * 35 + j, none⟩ = some u := fun j u hu => (hb.cell (p := ⟨b, o + k * 35 + j, none⟩) (by show b < _; omega)).trans (hcells0 j u hu)
      clear hcells0
      have hxs := hs.2.2.1 t.ins[k] (List.getElem_mem hkl)
      generalize hxx : t.ins[k] = x at *
      have hxx' := Lib.hid hxx
      obtain ⟨As, ns, cs, rfl⟩ := slice_of_byt hsv
      have hwn := wrapU64' hxn
      have hwq := wrapU64' hxq
      have hat := inCells_at x (.slice As ns cs) hxl
      have hat0 := hat.1
      have hat1 := hat.2.1
      have hat2 := hat.2.2
      have hlen := Lib.hid (inCells_length x (.slice As ns cs) hxl)
      have hone := Lib.hid (inCells_one x (.slice As ns cs) rfl)
      have htx := Lib.hid (inCells_tx x (.slice As ns cs))
      have hLk : (L0 ++ encIns (t.ins.take k)).length ≤ 140000 := by
        have h1 := flat_length encIn (t.ins.take k) (fun y hy => encIn_length y (hs.2.2.1 y (List.mem_of_mem_take hy)) (h32.out y (List.mem_of_mem_take hy)))
        have h2 := List.length_take_le k t.ins
        simp only [List.length_append, encIns]
        omega
      generalize hLL : L0 ++ encIns (t.ins.take k) = L at *
      have hLL' := Lib.hid hLL
      generalize hca : inCells x (.slice As ns cs) = ca at *
      clear hLL hca hx hi3 hsl hat hA hxx
      have hX : Blk (wr.alloc (.cells ca.toArray 89)) wr.heap.size 89 ca.toArray := Blk.new wr _ _
      have hbytX := reads_of_blk hX x.tx 0 32 32 hxl.symm (Nat.le_refl _) (by simp [maxLen]) htx.out
      have tok1 : True := trivial
      have tok2 : True := trivial
      have tok3 : True := trivial
      go_wp2_with (first
        | (have _t := tok1; refine wpList_load_at rfl 89 (.tmp 28) rfl b (o + k * 35) rfl ca _ hcells Tryz.underlying89 rfl (by rw [txinfo, hlen.out]) ?_; clear tok1)
        | (have _t := tok2; refine wpList_store_new rfl 89 (.tmp 5) (.tmp 29) rfl ca.toArray rfl rfl _ _ (by rw [txinfo]; simp [hlen.out]) (by simp [hlen.out]) hone.out ?_; clear tok2)
        | (at_builtin; have _t := tok3; refine app_bytes rfl (.tmp 30) (.tmp 33) rfl W1.heap.size (.slice Av nv cv) _ rfl (hown.alloc _) _ _ _ rfl hbytX (by omega) (by have := hb.size; simp; omega) ?_; clear tok3; intro v' w5 ho5 hg5 hf5; obtain ⟨A5, n5, c5, rfl⟩ := slice_of_own ho5; have hX5 := hX.grown hg5 (Ne.symm (own_blk_ne (hown.alloc _) hX (by decide))); have hX5lt := hX5.lt; have hX5c := (hX5.cell 32).trans hat0))
      have hb5 := (hb.alloc hb.size (.cells ca.toArray 89)).grown hg5 (by have := hb.size; simp; omega) (fun k hk => (hown.lt k hk).1)
      refine (num4 x.n w5 hxn).mono ?_
      rintro e w6 ⟨v6, rfl, ho6, hb6⟩
      obtain ⟨A6, n6, c6, rfl⟩ := slice_of_own ho6
      have ho56 := own_below ho5 hb6
      have hb6' := hb5.trans (hb6.mono hb5.size)
      have hX6 := hX5.below hb6 hX5.lt
      go_wp2_with (at_builtin; refine app_bytes rfl (.tmp 35) (.tmp 40) rfl W1.heap.size _ _ rfl ho56 _ _ _ rfl (Byt.of_own ho6) (by simp [le_length]; omega) hb6'.size ?_; intro v' w7 ho7 hg7 hf7; obtain ⟨A7, n7, c7, rfl⟩ := slice_of_own ho7; have hX7 := hX6.grown hg7 (Ne.symm (own_blk_ne ho56 hX6 (by decide))); have hX7lt := hX7.lt; have hX7c := (hX7.cell 33).trans hat1)
      have hb7 := hb6'.grown hg7 hb6'.size (fun k hk => (ho5.lt k hk).1)
      refine (refBytes_any _ x.script B w7 (by omega) (hsv.below (hb7.mono (by omega)))).mono ?_
      rintro e w8 ⟨v8, rfl, ho8, hb8⟩
      obtain ⟨A8, n8, c8, rfl⟩ := slice_of_own ho8
      have ho78 := own_below ho7 hb8
      have hb8' := hb7.trans (hb8.mono hb7.size)
      have hX8 := hX7.below hb8 hX7.lt
      have hsz := szB_length9 x.script.length
      go_wp2_with (at_builtin; refine app_bytes rfl (.tmp 42) (.tmp 45) rfl W1.heap.size _ _ rfl ho78 _ _ _ rfl (Byt.of_own ho8) (by simp [le_length]; omega) hb8'.size ?_; intro v' w9 ho9 hg9 hf9; obtain ⟨A9, n9, c9, rfl⟩ := slice_of_own ho9; have hX9 := hX8.grown hg9 (Ne.symm (own_blk_ne ho78 hX8 (by decide))); have hX9lt := hX9.lt; have hX9c := (hX9.cell 34).trans hat2)
      have hb9 := hb8'.grown hg9 hb8'.size (fun k hk => (ho7.lt k hk).1)
      refine (num4 x.seq w9 hxq).mono ?_
      rintro e w10 ⟨v10, rfl, ho10, hb10⟩
      obtain ⟨A10, n10, c10, rfl⟩ := slice_of_own ho10
      have ho910 := own_below ho9 hb10
      have hb10' := hb9.trans (hb10.mono hb9.size)
      go_wp2_with (at_builtin; refine app_bytes rfl (.tmp 47) (.tmp 51) rfl W1.heap.size _ _ rfl ho910 _ _ _ rfl (Byt.of_own ho10) (by simp [le_length]; omega) hb10'.size ?_; intro v' w11 ho11 hg11 hf11; obtain ⟨A11, n11, c11, rfl⟩ := slice_of_own ho11)
      have hb11 := hb10'.grown hg11 hb10'.size (fun k hk => (ho9.lt k hk).1)
      go_roundw
      case rel =>
        refine ⟨k + 1, by omega, by go_num, ?_, hb11⟩
        rw [encIns_snoc t.ins k hkl, ← List.append_assoc, hLL'.out, hxx'.out]
        simpa [encIn, List.append_assoc] using ho11
      case measure => simp [intOf]; omega
    · have hke : k = ni := by omega
      have hLk : (L0 ++ encIns t.ins).length ≤ 140000 := by
        have h1 := flat_length encIn t.ins (fun y hy => encIn_length y (hs.2.2.1 y hy) (h32.out y hy))
        have h2 := hni'.out
        simp only [List.length_append, encIns]
        omega
      have hown : OwnB wr W1.heap.size 5 (.slice Av nv cv) (L0 ++ encIns t.ins) := by
        have e : t.ins.take k = t.ins := List.take_of_length_le (by rw [hke, hni'.out.1]; exact Nat.le_refl _)
        rwa [e] at hown
      clear hke
      generalize hLL1 : L0 ++ encIns t.ins = L at *
      have hLL1' := Lib.hid hLL1
      clear hLL1
      have hszo := szB_length9 no
      go_wp2_with fail
      refine (refSize_any no wr (by omega)).mono ?_
      rintro e w5 ⟨v5, rfl, ho5, hb5⟩
      obtain ⟨A5, n5, c5, rfl⟩ := slice_of_own ho5
      have ho45 := own_below hown hb5
      have hb5' := hb.trans (hb5.mono hb.size)
      go_wp2_with (at_builtin; refine app_bytes rfl (.tmp 53) (.tmp 58) rfl W1.heap.size _ _ rfl ho45 _ _ _ rfl (Byt.of_own ho5) (by omega) hb5'.size ?_; intro v' w6 ho6 hg6 hf6; obtain ⟨A6, n6, c6, rfl⟩ := slice_of_own ho6)
      have hb6 := hb5'.grown hg6 hb5'.size (fun k hk => (hown.lt k hk).1)
      have hlM : (L ++ szB no).length ≤ 140100 := by simp; omega
      generalize hM0 : L ++ szB no = M0 at *
      have hM0' := Lib.hid hM0
      clear hM0 hlt hk hltr hcr1 hcr2 hcr3 hxr hbr
      obtain ⟨wo, rfl⟩ : ∃ wo : World, wo = wr := ⟨_, rfl⟩
      go_loopw [3, 6] (fun v i wr => ∃ k : Nat, k ≤ no ∧ i = .int .i64 (k : Int) ∧ OwnB wr W1.heap.size 5 v (M0 ++ encOuts (t.outs.take k)) ∧ Below W1.heap.size W1 wr) (fun _ i _ => no - (intOf i).toNat)
      case atStart => exact ⟨0, Nat.zero_le _, rfl, by simpa [encOuts] using ho6, hb6⟩
      case round =>
        clear hb hb5 hb5' hb6 hg6 hf6 ho6 ho45 ho5 hown
        obtain ⟨k2, hk2, rfl, hown, hb⟩ := hrel
        obtain ⟨Aw, nw, cw, rfl⟩ := slice_of_own hown
        have hxr := hbx.below hb hltN
        have hltr := hxr.lt
        have hcr2 := hxr.cell 2
        have hcr3 := hxr.cell 3
        by_cases hlt : k2 < no
        · obtain ⟨Ao', co', hsl, ho1, ho2, ho3⟩ := ho
          have hkl : k2 < t.outs.length := by rw [← hno'.out.1]; exact hlt
          obtain ⟨b, o, hA, hbB, hx⟩ := ho3 (by omega)
          have hAo : Ao = some ⟨b, o, none⟩ := by injection hsl with h1; rw [h1, hA]
          subst hAo
          obtain ⟨sv, hsv, hxi, hcell0, hcell1⟩ := (hx k2 t.outs[k2] (List.getElem?_eq_getElem hkl)).keep hbB (fun p hp => (hbw.mono hB).cell hp)
          have hxs := hs.2.2.2 t.outs[k2] (List.getElem_mem hkl)
          have hcr0' := (hb.cell (p := ⟨b, o + k2 * 2, none⟩) (by show b < _; omega)).trans hcell0
          generalize hxx : t.outs[k2] = x at *
          have hxx' := Lib.hid hxx
          obtain ⟨As, ns, cs, rfl⟩ := slice_of_byt hsv
          have hwv8 := wrap_u64_int x.value
          have hLk : (M0 ++ encOuts (t.outs.take k2)).length ≤ 290000 := by
            have h1 := flat_length encOut (t.outs.take k2) (fun y hy => encOut_length y (hs.2.2.2 y (List.mem_of_mem_take hy)))
            have h2 := List.length_take_le k2 t.outs
            simp only [List.length_append, encOuts] at hlM ⊢
            omega
          generalize hLL : M0 ++ encOuts (t.outs.take k2) = M at *
          have hLL' := Lib.hid hLL
          clear hLL hx ho3 hsl hA hxx hcell0
          go_wp2_with fail
          refine (num8 (toU64 x.value) wr (toU64_lt _)).mono ?_
          rintro e w5 ⟨v5, rfl, ho5, hb5⟩
          obtain ⟨A5, n5, c5, rfl⟩ := slice_of_own ho5
          have ho45 := own_below hown hb5
          have hb5' := hb.trans (hb5.mono hb.size)
          go_wp2_with (at_builtin; refine app_bytes rfl (.tmp 67) (.tmp 75) rfl W1.heap.size _ _ rfl ho45 _ _ _ rfl (Byt.of_own ho5) (by simp [le_length]; omega) hb5'.size ?_; intro v' w6 ho6 hg6 hf6; obtain ⟨A6, n6, c6, rfl⟩ := slice_of_own ho6; have hb6 := hb5'.grown hg6 hb5'.size (fun k hk => (hown.lt k hk).1); have hx6 := hbx.below hb6 hltN; have hlt6 := hx6.lt; have hc62 := hx6.cell 2; have hc6s := (hb6.cell (p := ⟨b, o + k2 * 2 + 1, none⟩) (by show b < _; omega)).trans hcell1)
          refine (refBytes_any _ x.script B w6 (by omega) (hsv.below (hb6.mono (by omega)))).mono ?_
          rintro e w8 ⟨v8, rfl, ho8, hb8⟩
          obtain ⟨A8, n8, c8, rfl⟩ := slice_of_own ho8
          have ho68 := own_below ho6 hb8
          have hb8' := hb6.trans (hb8.mono hb6.size)
          have hsz := szB_length9 x.script.length
          go_wp2_with (at_builtin; refine app_bytes rfl (.tmp 77) (.tmp 84) rfl W1.heap.size _ _ rfl ho68 _ _ _ rfl (Byt.of_own ho8) (by simp [le_length]; omega) hb8'.size ?_; intro v' w9 ho9 hg9 hf9; obtain ⟨A9, n9, c9, rfl⟩ := slice_of_own ho9)
          have hb9 := hb8'.grown hg9 hb8'.size (fun k hk => (ho6.lt k hk).1)
          go_roundw
          case rel =>
            refine ⟨k2 + 1, by omega, by go_num, ?_, hb9⟩
            rw [encOuts_snoc t.outs k2 hkl, ← List.append_assoc, hLL'.out, hxx'.out]
            simpa [encOut, List.append_assoc] using ho9
          case measure => simp [intOf]; omega
        · have hke : k2 = no := by omega
          have hLk : (M0 ++ encOuts t.outs).length ≤ 290000 := by
            have h1 := flat_length encOut t.outs (fun y hy => encOut_length y (hs.2.2.2 y hy))
            have h2 := hno'.out
            simp only [List.length_append, encOuts] at hlM ⊢
            omega
          have hown : OwnB wr W1.heap.size 5 (.slice Aw nw cw) (M0 ++ encOuts t.outs) := by
            have e : t.outs.take k2 = t.outs := List.take_of_length_le (by rw [hke, hno'.out.1]; exact Nat.le_refl _)
            rwa [e] at hown
          clear hke
          generalize hLL : M0 ++ encOuts t.outs = M at *
          have hLL' := Lib.hid hLL
          clear hLL
          go_wp2_with fail
          refine (num4 t.lock wr hlock).mono ?_
          rintro e w5 ⟨v5, rfl, ho5, hb5⟩
          obtain ⟨A5, n5, c5, rfl⟩ := slice_of_own ho5
          have ho45 := own_below hown hb5
          have hb5' := hb.trans (hb5.mono hb.size)
          go_wp2_with (at_builtin; refine app_bytes rfl (.tmp 86) (.tmp 90) rfl W1.heap.size _ _ rfl ho45 _ _ _ rfl (Byt.of_own ho5) (by simp [le_length]; omega) hb5'.size ?_; intro v' w6 ho6 hg6 hf6; obtain ⟨A6, n6, c6, rfl⟩ := slice_of_own ho6)
          have hb6 := hb5'.grown hg6 hb5'.size (fun k hk => (hown.lt k hk).1)
          go_ret
          refine ⟨_, rfl, ?_, hbw.trans (hb6.mono (by omega))⟩
          have e : enc t = M ++ le 4 t.lock := by
            rw [← hLL'.out, ← hM0'.out, ← hLL1'.out, ← hL0'.out, hni'.out.1, hno'.out.1]
            simp [enc]
          rw [e]
          exact World.ownsRow_base ho6 (fun k hk => by have := (ho6.lt k hk).1; omega)
end Go.Proofs.YtcilabemglbhbaaGreatDoor
