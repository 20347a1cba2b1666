/- TxApart: the walk. -/
import Derived.Test.YtcilabemglbhbaaPurApart
namespace Go.Proofs.Ytcilabemglbhbaa
open Go Go.RowKit Go.Pur Go.Sort

set_option maxRecDepth 100000 in
set_option maxHeartbeats 3200000 in
theorem apart_any (va vb : Value) (a b : TTx) (y : Nat) (B : Nat) (w : World) (hB : B ≤ w.heap.size) (ha : TxAt w B va a) (hb : TxAt w B vb b) (hy : Lt32 y) :
    Calls Try.prog 4 #[va, vb, .int .u32 (y : Int)] w fun e w' => e = .returned (.bool true) ∧ Below w.heap.size w w' := by
  have hha := ha
  have hhb := hb
  obtain ⟨ia, oa, rfl, hvera, hlocka, hia, hoa⟩ := ha
  obtain ⟨ib, ob, rfl, -, -, hib, hob⟩ := hb
  obtain ⟨A1, n1, c1, rfl⟩ : ∃ A n c, ia = .slice A n c := by obtain ⟨A, c, h, _⟩ := hia; exact ⟨A, _, c, h⟩
  obtain ⟨A2, n2, c2, rfl⟩ : ∃ A n c, oa = .slice A n c := by obtain ⟨A, c, h, _⟩ := hoa; exact ⟨A, _, c, h⟩
  obtain ⟨A3, n3, c3, rfl⟩ : ∃ A n c, ib = .slice A n c := by obtain ⟨A, c, h, _⟩ := hib; exact ⟨A, _, c, h⟩
  obtain ⟨A4, n4, c4, rfl⟩ : ∃ A n c, ob = .slice A n c := by obtain ⟨A, c, h, _⟩ := hob; exact ⟨A, _, c, h⟩
  clear hia hoa hib hob
  obtain ⟨W1, hW1⟩ : ∃ W1, (w.alloc (.cells #[.int .u32 (a.ver : Int), .slice A1 n1 c1, .slice A2 n2 c2, .int .u32 (a.lock : Int)] 26)).alloc (.cells #[.int .u32 (b.ver : Int), .slice A3 n3 c3, .slice A4 n4 c4, .int .u32 (b.lock : Int)] 26) = W1 := ⟨_, rfl⟩
  have hb1 : Below w.heap.size w W1 := by rw [← hW1]; exact ((Below.refl _ _).alloc (Nat.le_refl _) _).alloc (by simp) _
  have pa1 : Blk W1 w.heap.size 26 #[.int .u32 (a.ver : Int), .slice A1 n1 c1, .slice A2 n2 c2, .int .u32 (a.lock : Int)] := by rw [← hW1]; exact (Blk.new w _ _).alloc _
  have pb1 : Blk W1 (w.heap.size + 1) 26 #[.int .u32 (b.ver : Int), .slice A3 n3 c3, .slice A4 n4 c4, .int .u32 (b.lock : Int)] := by
    rw [← hW1]
    have := Blk.new (w.alloc (.cells #[.int .u32 (a.ver : Int), .slice A1 n1 c1, .slice A2 n2 c2, .int .u32 (a.lock : Int)] 26)) 26 #[.int .u32 (b.ver : Int), .slice A3 n3 c3, .slice A4 n4 c4, .int .u32 (b.lock : Int)]
    simpa using this
  have ax : ∀ W, Below w.heap.size w W → TxAt W B (.agg #[.int .u32 (a.ver : Int), .slice A1 n1 c1, .slice A2 n2 c2, .int .u32 (a.lock : Int)]) a := fun W h => hha.below (h.mono hB)
  have bx : ∀ W, Below w.heap.size w W → TxAt W B (.agg #[.int .u32 (b.ver : Int), .slice A3 n3 c3, .slice A4 n4 c4, .int .u32 (b.lock : Int)]) b := fun W h => hhb.below (h.mono hB)
  have BX : ∀ W, Below w.heap.size w W → B ≤ W.heap.size := fun W h => Nat.le_trans hB h.size
  go_enter Try.func4, Try.ntmps4
  go_wp2_with fail
  refine (alive_any W1).mono ?_
  rintro e w2 ⟨rfl, hx2⟩
  have hb2 := hb1.trans (hx2.mono hb1.size)
  have pa2 := pa1.below hx2 pa1.lt
  have pb2 := pb1.below hx2 pb1.lt
  obtain ⟨u0, u1, u2, u3⟩ := blk4 pa2
  clear hW1 hx2
  go_wp2_with fail
  refine (great_any _ a B w2 (BX _ hb2) (ax _ hb2)).mono ?_
  rintro e w3 ⟨r, rfl, hr, hx3⟩
  have hb3 := hb2.trans (hx3.mono hb2.size)
  have pa3 := pa2.below hx3 pa2.lt
  have pb3 := pb2.below hx3 pb2.lt
  rcases hr with rfl | ⟨rfl, hsa⟩
  · go_wp2_with fail
    go_ret
    exact ⟨rfl, hb3⟩
  clear u0 u1 u2 u3
  obtain ⟨u0, u1, u2, u3⟩ := blk4 pb3
  go_wp2_with fail
  refine (great_any _ b B w3 (BX _ hb3) (bx _ hb3)).mono ?_
  rintro e w4 ⟨r, rfl, hr, hx4⟩
  have hb4 := hb3.trans (hx4.mono hb3.size)
  have pa4 := pa3.below hx4 pa3.lt
  have pb4 := pb3.below hx4 pb3.lt
  rcases hr with rfl | ⟨rfl, hsb⟩
  · go_wp2_with fail
    go_ret
    exact ⟨rfl, hb4⟩
  clear u0 u1 u2 u3 pa1 pa2 pb1 pb2
  obtain ⟨u0, u1, u2, u3⟩ := blk4 pa4
  go_wp2_with fail
  refine (encode_any _ a B w4 (BX _ hb4) (ax _ hb4) hsa).mono ?_
  rintro e w5 ⟨hx5, hea⟩
  have hb5 := hb4.trans (hx5.mono hb4.size)
  have pa5 := pa4.below hx5 pa4.lt
  have pb5 := pb4.below hx5 pb4.lt
  clear u0 u1 u2 u3 pa3 pa4 pb3 pb4
  obtain ⟨u0, u1, u2, u3⟩ := blk4 pb5
  rcases hea with ⟨hoka, v5, rfl, ho5⟩ | ⟨hoka, rfl⟩
  · obtain ⟨A5, m5, c5, rfl⟩ := slice_of_own ho5
    have hoka' := Lib.hid hoka
    clear hoka
    go_wp2_with fail
    refine (encode_any _ b B w5 (BX _ hb5) (bx _ hb5) hsb).mono ?_
    rintro e w6 ⟨hx6, heb⟩
    have hb6 := hb5.trans (hx6.mono hb5.size)
    have pa6 := pa5.below hx6 pa5.lt
    have pb6 := pb5.below hx6 pb5.lt
    clear u0 u1 u2 u3 pa5 pb5
    obtain ⟨u0, u1, u2, u3⟩ := blk4 pa6
    have ho6 := own_below ho5 hx6
    rcases heb with ⟨hokb, v6, rfl, ho6b⟩ | ⟨hokb, rfl⟩
    · obtain ⟨A6, m6, c6, rfl⟩ := slice_of_own ho6b
      have hokb' := Lib.hid hokb
      clear hokb
      go_wp2_with fail
      refine (id_any _ a B w6 (BX _ hb6) (ax _ hb6) hsa).mono ?_
      rintro e w7 ⟨hx7, ⟨hok, rfl⟩ | ⟨hok, -⟩⟩
      rotate_left
      · rw [hoka'.out] at hok; cases hok
      clear hok
      have hb7 := hb6.trans (hx7.mono hb6.size)
      have pa7 := pa6.below hx7 pa6.lt
      have pb7 := pb6.below hx7 pb6.lt
      have hone : (bvs (twice (enc a))).toArray.all (·.oneCell') = true := by
        rw [Array.all_eq_true_iff_forall_mem]
        intro u hu
        exact bvs_one _ u (by simpa using hu)
      have hlen : Hid ((bvs (twice (enc a))).length = 32) := Lib.hid (by rw [bvs_length, twice, shaOf_length])
      have htl : (twice (enc a)).length = 32 := by rw [twice, shaOf_length]
      have hne : ∀ W : World, (binOp .neq 36 (.agg (bvs (twice (enc a))).toArray) (.agg (bvs (twice (enc a))).toArray)).run Try.prog W = .ok (.bool false) W := fun W => by
        rw [run_neq_hash W 36 5 32 Try.underlying36 Try.underlying5 (by kernel_rfl) _ _ htl htl]
        simp
      have htw := fun W (h : Below w7.heap.size w7 W) => twice_any (.slice A5 m5 c5) (enc a) W.heap.size W (Nat.le_refl _) (Byt.of_own (own_below (own_below ho6 hx7) h)) (by have := enc_len hsa (hha.ins32); omega)
      have hnH := Lib.hid hne
      have htwH := Lib.hid htw
      have htlH := Lib.hid htl
      clear hne htw htl u0 u1 u2 u3
      have tok2 : True := trivial
      go_wp2_with (have _t := tok2; refine wpList_store_new rfl 36 (.tmp 12) (.tmp 47) rfl (bvs (twice (enc a))).toArray rfl rfl _ _ (by rw [hashinfo]; simp [hlen.out]) (by simp [hlen.out]) hone ?_; clear tok2)
      obtain ⟨W8, hW8⟩ : ∃ W8, W8 = w7.alloc (.cells (bvs (twice (enc a))).toArray 36) := ⟨_, rfl⟩
      rw [← hW8]
      have hx8 : Below w7.heap.size w7 W8 := by rw [hW8]; exact (Below.refl _ _).alloc (Nat.le_refl _) _
      have ph8 : Blk W8 w7.heap.size 36 (bvs (twice (enc a))).toArray := by rw [hW8]; exact Blk.new w7 _ _
      have hb8 := hb7.trans (hx8.mono hb7.size)
      have pa8 := pa7.below hx8 pa7.lt
      have pb8 := pb7.below hx8 pb7.lt
      have ho8 := own_below (own_below ho6 hx7) hx8
      have ho8b := own_below (own_below ho6b hx7) hx8
      clear hW8 pa6 pb6 pa7 pb7 _t
      have hq : ((strB (enc a)).toList == (strB (enc b)).toList) = decide (a = b) := by
        rw [beqB, decide_eq_decide]
        exact ⟨enc_inj (hha.ok hsa) (hhb.ok hsb), fun h => by rw [h]⟩
      have cS : ∀ d os, Calls Try.prog 18 #[.agg #[.int .u32 (a.ver : Int), .slice A1 n1 c1, .slice A2 n2 c2, .int .u32 (a.lock : Int)], .agg #[.int .u32 (b.ver : Int), .slice A3 n3 c3, .slice A4 n4 c4, .int .u32 (b.lock : Int)]] (grow (redrawn W8 d) os) fun e w'' => e = .returned (.bool (decide (a = b))) ∧ ∃ p : Regrown, w'' = grow (redrawn W8 p.d) p.os := fun d os => grown_call (by
        have hx := below_regrown W8 d os
        have hxx := hb8.trans (hx.mono hb8.size)
        exact same_any _ _ a b B _ (BX _ hxx) (ax _ hxx) (bx _ hxx))
      have cT : ∀ d os, Calls Try.prog 20 #[.slice A5 m5 c5] (grow (redrawn W8 d) os) fun e w'' => e = .returned (.agg (bvs (twice (enc a))).toArray) ∧ ∃ p : Regrown, w'' = grow (redrawn W8 p.d) p.os := fun d os => grown_call (htwH.out _ (hx8.trans ((below_regrown W8 d os).mono hx8.size)))
      have cA : ∀ d os, (convert 29 9 (.slice A5 m5 c5)).run Try.prog (grow (redrawn W8 d) os) = .ok (.string (strB (enc a))) (grow (redrawn W8 d) os) := fun d os => run_strP (Byt.of_own (own_below ho8 (below_regrown W8 d os)))
      have cB : ∀ d os, (convert 29 9 (.slice A6 m6 c6)).run Try.prog (grow (redrawn W8 d) os) = .ok (.string (strB (enc b))) (grow (redrawn W8 d) os) := fun d os => run_strP (Byt.of_own (own_below ho8b (below_regrown W8 d os)))
      generalize decide (a = b) = q at hq cS
      have hnH' := hnH.out
      obtain ⟨u0, u1, u2, u3⟩ := blk4 pa8
      obtain ⟨v0, v1, v2, v3⟩ := blk4 pb8
      have r0 := cell_regrown u0
      have r1 := cell_regrown u1
      have r2 := cell_regrown u2
      have r3 := cell_regrown u3
      have s0 := cell_regrown v0
      have s1 := cell_regrown v1
      have s2 := cell_regrown v2
      have s3 := cell_regrown v3
      clear u0 u1 u2 u3 v0 v1 v2 v3
      refine wp_region_quiet_below (by kernel_rfl) (by kernel_rfl) ?_
      repeat (quiet_step (fail))
      refine calm_load rfl 36 (.tmp 12) rfl w7.heap.size 0 rfl (bvs (twice (enc a))) _ (cells_grew ph8) Try.underlying36 rfl (by rw [hashinfo, hlen.out]) ?_
      simp only [Act.put, List.setIfInBounds_toArray, List.set_cons_zero, List.set_cons_succ]
      repeat (quiet_step (first | exact cT _ _ | exact cS _ _))
      refine wpQuiet_nil ?_
      intro _ hw'
      obtain ⟨⟨dq, osq⟩, hw''⟩ := hw'
      subst hw''
      have hx9 := below_regrown W8 dq osq
      generalize grow (redrawn W8 dq) osq = w9 at *
      have hb9 := hb8.trans (hx9.mono hb8.size)
      have pa9 := pa8.below hx9 pa8.lt
      have ho9 := own_below ho8 hx9
      clear r0 r1 r2 r3 s0 s1 s2 s3 cS cT cA cB hq hnH' pb8 ho8 ho8b
      obtain ⟨u0, u1, u2, u3⟩ := blk4 pa9
      go_wp2_with fail
      refine (copy_any _ a B w9 (BX _ hb9) (ax _ hb9) hsa).mono ?_
      rintro e w10 ⟨v10, rfl, hm10, hx10⟩
      have hb10 := hb9.trans (hx10.mono hb9.size)
      have pa10 := pa9.below hx10 pa9.lt
      have ho10 := own_below ho9 hx10
      obtain ⟨Ai, ci, Ao, co, rfl, hm1, hm2, hm3, hm4, hm5, hm6, hm7, hm8⟩ := hm10
      clear u0 u1 u2 u3
      have hv10 : TxAt w10 w10.heap.size (.agg #[.int .u32 (a.ver : Int), .slice Ai a.ins.length ci, .slice Ao a.outs.length co, .int .u32 (((a.lock : Int) + (y : Int)) % 4294967296)]) (relock y a) :=
        ⟨_, _, by rw [show (((a.lock : Int) + (y : Int)) % 4294967296) = (((relock y a).lock : Nat) : Int) by simp only [relock]; omega]; rfl, hm1, Nat.mod_lt _ (by omega), hm7.at_ hm3 hm4, hm8.at_ hm5 hm6⟩
      clear hm7 hm8
      generalize hni : a.ins.length = ni at *
      generalize hno : a.outs.length = no at *
      have hni' := Lib.hid hni
      have hno' := Lib.hid hno
      clear hni hno
      obtain ⟨u0, u1, u2, u3⟩ := blk4 pa10
      have hlt10 := pa10.lt
      go_wp2_with fail
      obtain ⟨W11, hW11⟩ : ∃ W11, W11 = w10.alloc (.cells #[.int .u32 (a.ver : Int), .slice Ai ni ci, .slice Ao no co, .int .u32 (((a.lock : Int) + (y : Int)) % 4294967296)] 26) := ⟨_, rfl⟩
      rw [← hW11]
      have hx11 : Below w10.heap.size w10 W11 := by rw [hW11]; exact (Below.refl _ _).alloc (Nat.le_refl _) _
      have pv11 : Blk W11 w10.heap.size 26 #[.int .u32 (a.ver : Int), .slice Ai ni ci, .slice Ao no co, .int .u32 (((a.lock : Int) + (y : Int)) % 4294967296)] := by rw [hW11]; exact Blk.new w10 _ _
      have hb11 := hb10.trans (hx11.mono hb10.size)
      have pa11 := pa10.below hx11 pa10.lt
      have ho11 := own_below ho10 hx11
      have hv11 := hv10.below hx11
      clear hW11 u0 u1 u2 u3 hv10 pa9 pa10 ho9 ho10 hlt10
      refine (copy_any _ a B W11 (BX _ hb11) (ax _ hb11) hsa).mono ?_
      rintro e w12 ⟨v12, rfl, hm12, hx12⟩
      have hb12 := hb11.trans (hx12.mono hb11.size)
      have pa12 := pa11.below hx12 pa11.lt
      have ho12 := own_below ho11 hx12
      have pv12 := pv11.below hx12 pv11.lt
      have hv12 := hv11.below (hx12.mono hx11.size)
      clear pa11 ho11 pv11 hv11
      obtain ⟨Bi, di, Bo, d2, rfl, -, -, hk3, hk4, hk5, hk6, hk7, hk8⟩ := hm12
      rw [hni'.out] at hk3
      rw [hno'.out] at hk5
      rw [hni'.out, hno'.out]
      obtain ⟨x0, hx0⟩ : ∃ x0, a.ins[0]? = some x0 := by
        have h := hoka'.out
        unfold okTx at h
        simp only [Bool.and_eq_true, decide_eq_true_eq] at h
        exact ⟨a.ins[0]'(by omega), List.getElem?_eq_getElem (by omega)⟩
      have hni0 : 0 < ni := by
        have := (List.getElem?_eq_some_iff.1 hx0).1
        rw [hni'.out] at this; exact this
      obtain ⟨g, cs, hBi, hgb, hgk, hgc⟩ := hk7 (by rw [hni'.out]; exact hni0)
      subst hBi
      obtain ⟨sv, -, ⟨h32, hn0, hs0⟩, hcc⟩ := hgc 0 x0 hx0
      have hc32 := hcc 32 (.int .u32 (x0.n : Int)) (by simp [inCells, bvs_length, h32])
      have hgl := hgk.lt
      have hx0' := Lib.hid hx0
      clear hx0 hcc hgc
      go_wp2_with fail
      obtain ⟨W13, hW13⟩ : ∃ W13, W13 = w12.alloc (.cells #[.int .u32 (a.ver : Int), .slice (some ⟨g, 0, none⟩) ni di, .slice Bo no d2, .int .u32 (a.lock : Int)] 26) := ⟨_, rfl⟩
      rw [← hW13]
      have hx13 : Below w12.heap.size w12 W13 := by rw [hW13]; exact (Below.refl _ _).alloc (Nat.le_refl _) _
      have pw13 : Blk W13 w12.heap.size 26 #[.int .u32 (a.ver : Int), .slice (some ⟨g, 0, none⟩) ni di, .slice Bo no d2, .int .u32 (a.lock : Int)] := by rw [hW13]; exact Blk.new w12 _ _
      have hb13 := hb12.trans (hx13.mono hb12.size)
      have pa13 := pa12.below hx13 pa12.lt
      have ho13 := own_below ho12 hx13
      have pv13 := pv12.below hx13 pv12.lt
      have hv13 := hv12.below (hx13.mono (Nat.le_trans hx11.size hx12.size))
      have pg13 := hgk.below hx13 hgk.lt
      have u1 := pw13.cell 1
      have u32 := (pg13.cell 32).trans hc32
      have f32 := pg13.frozen 32
      have hk7' := Lib.hid (hk7.below (Nat.zero_le _) hx13)
      have hk8' := Lib.hid (hk8.below (Nat.zero_le _) hx13)
      clear hW13 pa12 ho12 pv12 hv12 hgk hk7 hk8 hc32
      go_region
      obtain ⟨W14, hW14⟩ : ∃ W14, W14 = (W13.setCell ⟨g, 32, none⟩ (.int .u32 (((x0.n : Int) + (y : Int)) % 4294967296))).drew := ⟨_, rfl⟩
      rw [← hW14]
      have hgw : w10.heap.size ≤ g := Nat.le_trans hx11.size hgb
      have hx14 : Below w10.heap.size W13 W14 := by rw [hW14]; exact ((Below.refl _ _).setCell (p := ⟨g, 32, none⟩) hgw _).drew
      have hb14 : Below w.heap.size w W14 := hb13.trans (hx14.mono hb10.size)
      have pa14 : Blk W14 w.heap.size 26 #[.int .u32 (a.ver : Int), .slice A1 n1 c1, .slice A2 n2 c2, .int .u32 (a.lock : Int)] := by rw [hW14]; exact pa13.far (p := ⟨g, 32, none⟩) (pa13.ne_ pg13 (by decide)) _
      have pv14 : Blk W14 w10.heap.size 26 #[.int .u32 (a.ver : Int), .slice Ai ni ci, .slice Ao no co, .int .u32 (((a.lock : Int) + (y : Int)) % 4294967296)] := by rw [hW14]; exact pv13.far (p := ⟨g, 32, none⟩) (pv13.ne_ pg13 (by decide)) _
      have pw14 : Blk W14 w12.heap.size 26 #[.int .u32 (a.ver : Int), .slice (some ⟨g, 0, none⟩) ni di, .slice Bo no d2, .int .u32 (a.lock : Int)] := by rw [hW14]; exact pw13.far (p := ⟨g, 32, none⟩) (pw13.ne_ pg13 (by decide)) _
      have ho14 : OwnB W14 w4.heap.size 5 (.slice A5 m5 c5) (enc a) := by rw [hW14]; exact own_far ho13 (a := ⟨g, 32, none⟩) (own_blk_ne ho13 pg13 (by decide)) _
      have hv14 := hv13.below hx14
      have hz14 : TxAt W14 W14.heap.size (.agg #[.int .u32 (a.ver : Int), .slice (some ⟨g, 0, none⟩) ni di, .slice Bo no d2, .int .u32 (a.lock : Int)]) (bump y a) := by
        have e1 := hk7'.out
        have e2 := e1.bump y hx0'.out
        have e3 := (hk8'.out.far pg13 (Nat.zero_le _) (by decide) (by decide) 32 (.int .u32 (((x0.n : Int) + (y : Int)) % 4294967296)))
        rw [show (((x0.n + y) % 4294967296 : Nat) : Int) = ((x0.n : Int) + (y : Int)) % 4294967296 by omega] at e2
        have hl : (bumpN y a.ins).length = ni := by rw [bumpN_length, hni'.out]
        have e4 := e2.at_ (c := di) (by rw [hl]; exact hk3) hk4
        have e5 := e3.at_ (c := d2) (by rw [hno'.out]; exact hk5) hk6
        rw [hl] at e4
        rw [hno'.out] at e5
        rw [hW14]
        exact ⟨_, _, rfl, hm1, hm2, e4, e5⟩
      clear hW14 pw13 pa13 ho13 pv13 hv13 pg13 u1 u32 f32 hk7' hk8'
      obtain ⟨u0, u1, u2, u3⟩ := blk4 pv14
      go_wp2_with fail
      refine (encode_any _ (relock y a) w10.heap.size W14 (Nat.le_trans hx11.size (Nat.le_trans hx12.size (Nat.le_trans hx13.size hx14.size))) hv14 (small_relock hsa)).mono ?_
      rintro e w15 ⟨hx15, ⟨-, v15, rfl, ho15⟩ | ⟨hok, -⟩⟩
      rotate_left
      · rw [okTx_relock, hoka'.out] at hok; cases hok
      obtain ⟨A7, m7, c7, rfl⟩ := slice_of_own ho15
      have hb15 := hb14.trans (hx15.mono hb14.size)
      have pa15 := pa14.below hx15 pa14.lt
      have pv15 := pv14.below hx15 pv14.lt
      have pw15 := pw14.below hx15 pw14.lt
      have ho15a := own_below ho14 hx15
      have hz15 := hz14.below hx15
      clear u0 u1 u2 u3 hz14 ho14 pa14
      obtain ⟨u0, u1, u2, u3⟩ := blk4 pw15
      go_wp2_with fail
      refine (encode_any _ (bump y a) W14.heap.size w15 hx15.size hz15 (small_bump hsa)).mono ?_
      rintro e w16 ⟨hx16, ⟨-, v16, rfl, ho16⟩ | ⟨hok, -⟩⟩
      rotate_left
      · rw [okTx_bump, hoka'.out] at hok; cases hok
      obtain ⟨A8, m8, c8, rfl⟩ := slice_of_own ho16
      have hb16 := hb15.trans (hx16.mono hb15.size)
      have pa16 := pa15.below hx16 pa15.lt
      have pv16 := pv15.below hx16 pv15.lt
      have ho16a := own_below ho15a hx16
      have ho16v := own_below ho15 hx16
      have hv16 := (hv14.below (hx15.mono (Nat.le_trans hx11.size (Nat.le_trans hx12.size (Nat.le_trans hx13.size hx14.size))))).below (hx16.mono (Nat.le_trans (Nat.le_trans hx11.size (Nat.le_trans hx12.size (Nat.le_trans hx13.size hx14.size))) hx15.size))
      have hzok' := Lib.hid (hz15.ok (small_bump hsa))
      clear u0 u1 u2 u3 hz15 ho15a pa15 pv15 pw15
      obtain ⟨u0, u1, u2, u3⟩ := blk4 pv16
      obtain ⟨v0, v1, v2, v3⟩ := blk4 pa16
      have hcv := run_strP (Byt.of_own ho16v)
      have hcw := run_strP (Byt.of_own ho16)
      have hca := run_strP (Byt.of_own ho16a)
      have hS := same_any _ _ (relock y a) a w10.heap.size w16 (Nat.le_trans (Nat.le_trans hx11.size (Nat.le_trans hx12.size (Nat.le_trans hx13.size hx14.size))) (Nat.le_trans hx15.size hx16.size)) hv16 ((ax _ hb16).more (BX _ hb10))
      have hSmall := hha.ok hsa
      have e1 : ((strB (enc (relock y a))).toList == (strB (enc a)).toList) = decide (y = 0) := by
        rw [beqB, decide_eq_decide]
        have hr := relock_eq (t := a) (by_ := y) hlocka hy
        exact ⟨fun h => hr.1 (enc_inj (hv14.ok (small_relock hsa)) hSmall h), fun h => by rw [hr.2 h]⟩
      have e2 : ((strB (enc (bump y a))).toList == (strB (enc a)).toList) = decide (y = 0) := by
        rw [beqB, decide_eq_decide]
        have hn0 : Lt32 x0.n := hSmall.2.2.2.2.1 x0 (List.mem_of_getElem? hx0'.out) |>.2.1
        have hr := bump_eq (t := a) (by_ := y) hx0'.out hn0 hy
        exact ⟨fun h => hr.1 (enc_inj hzok'.out hSmall h), fun h => by rw [hr.2 h]⟩
      have e3 : decide (relock y a = a) = decide (y = 0) := by rw [decide_eq_decide]; exact relock_eq (t := a) (by_ := y) hlocka hy
      have e4 : ((y : Int) == 0) = decide (y = 0) := by
        rw [Bool.eq_iff_iff]; simp
      rw [e3] at hS
      clear e3
      generalize decide (y = 0) = q at *
      cases q
      · go_wp2_with fail
        refine hS.mono ?_
        rintro e w17 ⟨rfl, hx17⟩
        go_wp2_with fail
        go_ret
        exact ⟨rfl, hb16.trans (hx17.mono hb16.size)⟩
      · go_wp2_with fail
        refine hS.mono ?_
        rintro e w17 ⟨rfl, hx17⟩
        go_wp2_with fail
        go_ret
        exact ⟨rfl, hb16.trans (hx17.mono hb16.size)⟩
    · go_wp2_with fail
      refine (id_any _ a B w6 (BX _ hb6) (ax _ hb6) hsa).mono ?_
      rintro e w7 ⟨hx7, ⟨hok, rfl⟩ | ⟨hok, -⟩⟩
      rotate_left
      · rw [hoka'.out] at hok; cases hok
      clear hok
      have hb7 := hb6.trans (hx7.mono hb6.size)
      have hone : (bvs (twice (enc a))).toArray.all (·.oneCell') = true := by
        rw [Array.all_eq_true_iff_forall_mem]
        intro u hu
        exact bvs_one _ u (by simpa using hu)
      have hlen : Hid ((bvs (twice (enc a))).length = 32) := Lib.hid (by rw [bvs_length, twice, shaOf_length])
      have tok2 : True := trivial
      go_wp2_with (have _t := tok2; refine wpList_store_new rfl 36 (.tmp 12) (.tmp 47) rfl (bvs (twice (enc a))).toArray rfl rfl _ _ (by rw [hashinfo]; simp [hlen.out]) (by simp [hlen.out]) hone ?_; clear tok2)
      go_ret
      exact ⟨rfl, hb7.alloc hb7.size _⟩
  · go_wp2_with fail
    refine (encode_any _ b B w5 (BX _ hb5) (bx _ hb5) hsb).mono ?_
    rintro e w6 ⟨hx6, heb⟩
    have hb6 := hb5.trans (hx6.mono hb5.size)
    have pa6 := pa5.below hx6 pa5.lt
    clear u0 u1 u2 u3 pa5 pb5
    obtain ⟨u0, u1, u2, u3⟩ := blk4 pa6
    obtain ⟨v6, n6, rfl⟩ : ∃ v6 n6, e = .returned (.tuple #[v6, .int .i64 n6]) := by
      rcases heb with ⟨_, v6, rfl, _⟩ | ⟨_, rfl⟩
      · exact ⟨_, _, rfl⟩
      · exact ⟨_, _, rfl⟩
    clear heb
    have hoka' := Lib.hid hoka
    clear hoka
    go_wp2_with fail
    refine (id_any _ a B w6 (BX _ hb6) (ax _ hb6) hsa).mono ?_
    rintro e w7 ⟨hx7, ⟨hok, -⟩ | ⟨hok, rfl⟩⟩
    · rw [hoka'.out] at hok; cases hok
    clear hok
    have hb7 := hb6.trans (hx7.mono hb6.size)
    have hone : (bvs (List.replicate 32 0)).toArray.all (·.oneCell') = true := by kernel_rfl
    have tok2 : True := trivial
    go_wp2_with (have _t := tok2; refine wpList_store_new rfl 36 (.tmp 12) (.tmp 47) rfl (bvs (List.replicate 32 0)).toArray rfl rfl _ _ (by rw [hashinfo]; rfl) rfl hone ?_; clear tok2)
    go_ret
    exact ⟨rfl, hb7.alloc hb7.size _⟩
end Go.Proofs.Ytcilabemglbhbaa
