/- BlockBack: the walk. -/
import Derived.Test.YtcilabemglbhbaaGreatDoorK43
import Derived.Test.YtcilabemglbhbaaGreatDoorK46
namespace Go.Proofs.YtcilabemglbhbaaGreatDoor
open Go Go.RowKit Go.Pur Go.Sort

theorem TxsAt.more_ {w : World} {B B' : Nat} {v : Value} {xs : List TTx} (h : TxsAt w B v xs) (hB : B ≤ B') : TxsAt w B' v xs := by
  obtain ⟨A, c, hv, h1, h2, h3⟩ := h
  refine ⟨A, c, hv, h1, h2, fun hn => ?_⟩
  obtain ⟨b, o, hA, hb, hx⟩ := h3 hn
  refine ⟨b, o, hA, Nat.lt_of_lt_of_le hb hB, fun k t hk' => ?_⟩
  obtain ⟨iv, ov, hc, ht⟩ := hx k t hk'
  exact ⟨iv, ov, hc, ht.more hB⟩
theorem BlkAt.more_ {w : World} {B B' : Nat} {v : Value} {x : TBlk} (h : BlkAt w B v x) (hB : B ≤ B') : BlkAt w B' v x := by
  obtain ⟨sv, hv, h1, h2⟩ := h
  exact ⟨sv, hv, h1, h2.more_ hB⟩
theorem rBlk_head (l : Bytes) : (rBlk l).head = rHead l := by simp only [rBlk]
theorem rBlk_txs (l : Bytes) : (rBlk l).txs = rTxs (rMany l) (rRest l) := by simp only [rBlk]
/-- what is read of a block's bytes. -/
theorem dec_own {x : TBlk} (hx : BlkOk x) {w w' : World} {e : Ending} (hp : DecBPost (encBlk x) w e w') : Below w.heap.size w w' ∧ ∃ sv, e = .returned (.tuple #[.agg (bcells x.head sv).toArray, .int .i64 0]) ∧ TxsOwn w' w.heap.size sv x.txs := by
  obtain ⟨hdec1, hdec2⟩ := decB_enc hx
  obtain ⟨hb, ⟨_, sv, he, htx⟩ | ⟨hd, _⟩⟩ := hp
  · rw [← rBlk_head, hdec2] at he
    rw [← rBlk_txs, hdec2] at htx
    exact ⟨hb, sv, he, htx⟩
  · rw [hdec1] at hd; cases hd
theorem hd_back {h : Head} (hh : HeadOk h) : rHead (encHd h) = h := by
  have := (rHead_encHd hh []).1
  rwa [List.append_nil] at this
theorem dhok {h : Head} (hh : HeadOk h) {w w' : World} {e : Ending} (hp : DecHPost (encHd h) w e w') : Below w.heap.size w w' ∧ e = .returned (.tuple #[.agg (headCells h).toArray, .int .i64 0]) := by
  obtain ⟨h1, ⟨_, h2⟩ | ⟨h2, _⟩⟩ := hp
  · rw [hd_back hh] at h2
    exact ⟨h1, h2⟩
  · exact absurd (encHd_length hh) h2
set_option maxRecDepth 100000 in
set_option maxHeartbeats 6400000 in
theorem back_any (xv bv' : Value) (x : TBlk) (h l : Bytes) (w : World) (hx : BlkAt w w.heap.size xv x) (hl : h.length = 32) (hb : Byt w w.heap.size bv' l) :
    Calls Tryz.prog 3 #[xv, .agg (bvs h).toArray, bv'] w fun e w' => e = .returned (.bool true) ∧ Below w.heap.size w w' := by
  have h0 := hx
  obtain ⟨sv, hxv, hh, ht⟩ := hx
  obtain ⟨Al, nl, cl, rfl⟩ := slice_of_byt hb
  have hnl : nl = l.length := by obtain ⟨A', c', hvv, _⟩ := hb; injection hvv
  have hnl' := Lib.hid hnl
  clear hnl
  obtain ⟨cb, hcb⟩ : ∃ cb, cb = bcells x.head sv := ⟨_, rfl⟩
  have hxv2 : xv = .agg cb.toArray := by rw [hxv, hcb]; rfl
  have hlen := Lib.hid (bcells_length hh sv)
  rw [← hcb] at hlen
  obtain ⟨W1, hW1⟩ : ∃ W1, W1 = (w.alloc (.cells cb.toArray 29)).alloc (.cells (bvs h).toArray 24) := ⟨_, rfl⟩
  have hx1 : Blk W1 w.heap.size 29 cb.toArray := by rw [hW1]; exact (Blk.new w _ _).alloc _
  have hy1 : Blk W1 (w.heap.size + 1) 24 (bvs h).toArray := by
    have := Blk.new (w.alloc (.cells cb.toArray 29)) 24 (bvs h).toArray
    rw [hW1]
    simpa using this
  have hb1 : Below w.heap.size w W1 := by rw [hW1]; exact ((Below.refl _ _).alloc (Nat.le_refl _) _).alloc (by simp) _
  rw [hxv2] at h0 ⊢
  have h0' := Lib.hid h0
  have hcb' := Lib.hid hcb
  have hhd : ∀ j u, (headCells x.head)[j]? = some u → cb.toArray[j]? = some u := fun j u hu => by rw [hcb]; exact bcells_head _ j u hu
  have hhd' := Lib.hid hhd
  clear h0 hxv hxv2 hcb ht hhd
  have hlh := Lib.hid (headCells_length hh)
  have hh1 := headCells_one x.head
  have hhl : Hid ((bvs h).length = 32) := Lib.hid (by rw [bvs_length, hl])
  have hho := hash_one h
  have henh := encodeHeader_any x.head
  have hneq : ∀ W : World, (binOp .neq 26 (.agg (headCells x.head).toArray) (.agg (headCells x.head).toArray)).run Tryz.prog W = .ok (.bool false) W := fun W => by
    have := run_neq_head W x.head x.head hh hh
    simpa using this
  have hneh : ∀ W : World, (binOp .neq 24 (.agg (bvs h).toArray) (.agg (bvs h).toArray)).run Tryz.prog W = .ok (.bool false) W := fun W => by
    have := run_neq_hash W 24 5 32 Tryz.underlying24 Tryz.underlying5 (by kernel_rfl) h h hl hl
    simpa using this
  have hdh := fun (W1 W2 : World) (e : Ending) (hp : DecHPost (encHd x.head) W1 e W2) => dhok hh hp
  have hshow := fun W => show_any h W hl
  have hread := fun W => read_any (showB h.reverse) W (show_len h hl) (show_hex _)
  rw [read_show h hl] at hread
  have hzs : Hid (Tryz.zeroCells26.size = 68) := Lib.hid (by rw [zeroCells]; rfl)
  have hzB : Hid (Tryz.zeroCells29.size = 69) := Lib.hid (by rw [zeroCellsB]; exact bcells_length zeroHead_ok _)
  have henh' := Lib.hid henh
  have hneq' := Lib.hid hneq
  have hneh' := Lib.hid hneh
  have hdh' := Lib.hid hdh
  have hshow' := Lib.hid hshow
  have hread' := Lib.hid hread
  clear henh hneq hneh hdh hshow hread
  go_enter Tryz.func3, Tryz.ntmps3
  go_wp2_with fail
  rw [← hW1]
  refine (alive_any W1).mono ?_
  rintro e w2 ⟨rfl, hb2⟩
  have hb02 := hb1.trans (hb2.mono hb1.size)
  have hx2 := hx1.below hb2 hx1.lt
  have hy2 := hy1.below hb2 hy1.lt
  have hc2 : ∀ j u, cb[j]? = some u → w2.cell? ⟨w.heap.size, 0 + j, none⟩ = some u := fun j u hu => by
    rw [Nat.zero_add, hx2.cell j]
    simpa using hu
  clear hW1 hx1 hy1 hb1 hb2
  have tok1 : True := trivial
  go_wp2_with (have _t := tok1; refine wpList_load_at rfl 29 (.tmp 3) rfl w.heap.size 0 rfl cb _ hc2 Tryz.underlying29 rfl (by rw [blkinfo, hlen.out]) ?_; clear tok1)
  refine (greatB_any _ x w.heap.size w2 hb02.size (h0'.out.below hb02)).mono ?_
  rintro e w3 ⟨r, rfl, (rfl | ⟨rfl, hsm⟩), hb3⟩
  · have hb03 := hb02.trans (hb3.mono hb02.size)
    go_wp2_with fail
    go_ret
    exact ⟨rfl, hb03⟩
  · have hb03 := hb02.trans (hb3.mono hb02.size)
    have hx3 := hx2.below hb3 hx2.lt
    have hy3 := hy2.below hb3 hy2.lt
    have hsm' := Lib.hid hsm
    clear hsm hx2 hy2 hc2 hb02 hb3
    by_cases h20 : 20000 < nl
    · go_wp2_with fail
      go_ret
      exact ⟨rfl, hb03⟩
    · have hc3 : ∀ j u, (headCells x.head)[j]? = some u → w3.cell? ⟨w.heap.size, 0 + j, none⟩ = some u := fun j u hu => by
        rw [Nat.zero_add, hx3.cell j]
        exact hhd'.out j u hu
      have hz1 := henh'.out w3 hh
      generalize hHC : headCells x.head = HC at *
      have hHC' := Lib.hid hHC
      clear hHC
      have tok2 : True := trivial
      go_wp2_with (have _t := tok2; refine wpList_load_at rfl 26 (.tmp 33) rfl w.heap.size 0 rfl HC _ hc3 Tryz.underlying26 rfl (by rw [headinfo, hlh.out]) ?_; clear tok2)
      refine hz1.mono ?_
      clear hz1
      rintro e w4 ⟨v4, rfl, ho4, hb4⟩
      have hb04 := hb03.trans (hb4.mono hb03.size)
      have hx4 := hx3.below hb4 hx3.lt
      have hy4 := hy3.below hb4 hy3.lt
      have d4 := decodeHeader_any v4 _ w4.heap.size w4 (Nat.le_refl _) (Byt.of_own ho4) (by rw [encHd_length hh]; omega)
      obtain ⟨A4, n4, c4, rfl⟩ := slice_of_own ho4
      have d4' := Lib.hid d4
      clear d4 hb03 hx3 hy3 hc3 hb4 ho4
      go_wp2_with fail
      refine d4'.out.mono ?_
      rintro e w5 hp5
      obtain ⟨hb5, rfl⟩ := hdh'.out _ _ _ hp5
      have hb05 := hb04.trans (hb5.mono hb04.size)
      have hx5 := hx4.below hb5 hx4.lt
      have hy5 := hy4.below hb5 hy4.lt
      clear hp5 hb5 hb04 hx4 hy4 d4'
      have hy6 : ∀ j u, (bvs h)[j]? = some u → (w5.alloc (.cells HC.toArray 26)).cell? ⟨w.heap.size + 1, 0 + j, none⟩ = some u := fun j u hu => by
        rw [Nat.zero_add, (hy5.alloc _).cell j]
        simpa using hu
      have hs5 := hb05.size
      have tok3 : True := trivial
      have tok4 : True := trivial
      generalize hBH : bvs h = BH at *
      have hBH' := Lib.hid hBH
      clear hBH
      go_wp2_with (first
        | (have _t := tok3; refine wpList_store_new rfl 26 (.tmp 8) (.tmp 37) rfl HC.toArray rfl rfl _ _ (by rw [headinfo]; simp [hlh.out]) (by rw [hzs.out]; simp [hlh.out]) hh1 ?_; clear tok3)
        | (have _t := tok4; refine wpList_load_at rfl 24 (.tmp 4) rfl (w.heap.size + 1) 0 rfl BH _ hy6 Tryz.underlying24 rfl (by rw [hashinfo, hhl.out]) ?_; clear tok4))
      obtain ⟨W6, hW6⟩ : ∃ W6, W6 = w5.alloc (.cells HC.toArray 26) := ⟨_, rfl⟩
      rw [← hW6]
      have hx6 : Blk W6 w.heap.size 29 cb.toArray := by rw [hW6]; exact hx5.alloc _
      have hy6' : Blk W6 (w.heap.size + 1) 24 BH.toArray := by rw [hW6]; exact hy5.alloc _
      have hk6 : Blk W6 w5.heap.size 26 HC.toArray := by rw [hW6]; exact Blk.new w5 _ _
      have hb06 : Below w.heap.size w W6 := by rw [hW6]; exact hb05.alloc hb05.size _
      generalize w5.heap.size = k8 at *
      clear hW6 hx5 hy5 hy6 hb05 hs5
      refine (hshow'.out W6).mono ?_
      rintro e w7 ⟨rfl, hb7⟩
      go_wp2_with fail
      refine (hread'.out w7).mono ?_
      rintro e w8 ⟨rfl, hb8⟩
      have hb67 := hb7.trans (hb8.mono hb7.size)
      have hb08 := hb06.trans (hb67.mono hb06.size)
      have hx8 := hx6.below hb67 hx6.lt
      have hy8 := hy6'.below hb67 hy6'.lt
      have hk8 := hk6.below hb67 hk6.lt
      clear hb7 hb8 hb67 hb06 hx6 hy6' hk6
      have hc8 : ∀ j u, HC[j]? = some u → w8.cell? ⟨k8, 0 + j, none⟩ = some u := fun j u hu => by
        rw [Nat.zero_add, hk8.cell j]
        simpa using hu
      have hd8 : ∀ j u, HC[j]? = some u → w8.cell? ⟨w.heap.size, 0 + j, none⟩ = some u := fun j u hu => by
        rw [Nat.zero_add, hx8.cell j]
        exact hhd'.out j u hu
      have hk9 : Blk (w8.alloc (.cells BH.toArray 24)) k8 26 HC.toArray := hk8.alloc _
      have hc9 : ∀ j u, HC[j]? = some u → (w8.alloc (.cells BH.toArray 24)).cell? ⟨k8, 0 + j, none⟩ = some u := fun j u hu => by
        rw [Nat.zero_add, hk9.cell j]
        simpa using hu
      have hd9 : ∀ j u, HC[j]? = some u → (w8.alloc (.cells BH.toArray 24)).cell? ⟨w.heap.size, 0 + j, none⟩ = some u := fun j u hu => by
        rw [Nat.zero_add, (hx8.alloc _).cell j]
        exact hhd'.out j u hu
      have he9 : ∀ j u, BH[j]? = some u → (w8.alloc (.cells BH.toArray 24)).cell? ⟨w8.heap.size, 0 + j, none⟩ = some u := fun j u hu => by
        rw [Nat.zero_add, (Blk.new w8 _ _).cell j]
        simpa using hu
      have hf9 : ∀ j u, BH[j]? = some u → (w8.alloc (.cells BH.toArray 24)).cell? ⟨w.heap.size + 1, 0 + j, none⟩ = some u := fun j u hu => by
        rw [Nat.zero_add, (hy8.alloc _).cell j]
        simpa using hu
      have hneq9 := hneq'.out
      have hneh9 := hneh'.out
      have hx9 : ∀ j u, cb[j]? = some u → (w8.alloc (.cells BH.toArray 24)).cell? ⟨w.heap.size, 0 + j, none⟩ = some u := fun j u hu => by
        rw [Nat.zero_add, (hx8.alloc _).cell j]
        simpa using hu
      have tok5 : True := trivial
      have tok6 : True := trivial
      have tok7 : True := trivial
      have tok8 : True := trivial
      have tok9 : True := trivial
      have toka : True := trivial
      go_wp2_with (first
        | (have _t := tok5; refine wpList_store_new rfl 24 (.tmp 10) (.tmp 43) rfl BH.toArray rfl rfl _ _ (by rw [hashinfo]; simp [hhl.out]) (by simp [hhl.out]) hho ?_; clear tok5)
        | (have _t := tok6; refine wpList_load_atg (by simp [Region.wanted, yielded]) 26 (.tmp 8) rfl k8 0 rfl HC _ hc9 Tryz.underlying26 rfl (by rw [headinfo, hlh.out]) ?_; clear tok6)
        | (have _t := tok7; refine wpList_load_atg (by simp [Region.wanted, yielded]) 26 (.tmp 49) rfl w.heap.size 0 rfl HC _ hd9 Tryz.underlying26 rfl (by rw [headinfo, hlh.out]) ?_; clear tok7)
        | (have _t := tok8; refine wpList_load_atg (by simp [Region.wanted, yielded]) 24 (.tmp 10) rfl w8.heap.size 0 rfl BH _ he9 Tryz.underlying24 rfl (by rw [hashinfo, hhl.out]) ?_; clear tok8)
        | (have _t := tok9; refine wpList_load_atg (by simp [Region.wanted, yielded, Act.put]) 24 (.tmp 4) rfl (w.heap.size + 1) 0 rfl BH _ hf9 Tryz.underlying24 rfl (by rw [hashinfo, hhl.out]) ?_; clear tok9)
        | (have _t := toka; refine wpList_load_at rfl 29 (.tmp 3) rfl w.heap.size 0 rfl cb _ hx9 Tryz.underlying29 rfl (by rw [blkinfo, hlen.out]) ?_; clear toka))
      obtain ⟨W9, hW9⟩ : ∃ W9, W9 = w8.alloc (.cells BH.toArray 24) := ⟨_, rfl⟩
      rw [← hW9]
      have hx9' : Blk W9 w.heap.size 29 cb.toArray := by rw [hW9]; exact hx8.alloc _
      have hb09 : Below w.heap.size w W9 := by rw [hW9]; exact hb08.alloc hb08.size _
      clear hc8 hd8 hk9 hc9 hd9 he9 hf9 hx9 hx8 hy8 hk8 hb08 hW9 hneq9 hneh9
      have htok := txOk_at h0'.out hsm'.out
      have hsz := encBlk_small hh htok hsm'.out
      refine (encBlk_any _ x w.heap.size W9 hb09.size (h0'.out.below hb09) (by have := hsm'.out.1; omega) hsm'.out.2 (by omega)).mono ?_
      rintro e w10 ⟨hb10, hcase⟩
      have hb010 := hb09.trans (hb10.mono hb09.size)
      have hx10 := hx9'.below hb10 hx9'.lt
      clear hb10 hb09 hx9'
      rcases hcase with ⟨hok, v10, rfl, ho10⟩ | ⟨hbad, rfl⟩
      case' inl =>
        obtain ⟨A10, n10, c10, rfl⟩ := slice_of_own ho10
        have hbk := blkOk_of h0'.out hsm'.out hok
        have d10 := decBlk_any _ _ w10.heap.size w10 (Nat.le_refl _) (Byt.of_own ho10) (by omega)
        have d10' := Lib.hid d10
        clear d10 hok ho10
        go_wp2_with fail
        refine d10'.out.mono ?_
        rintro e w11 hp11
        obtain ⟨hb11, sv11, rfl, htx11⟩ := dec_own hbk hp11
        obtain ⟨A11, c11, rfl⟩ := htx11.form
        have hb011 := hb010.trans (hb11.mono hb010.size)
        have hx11 := hx10.below hb11 hx10.lt
        have hat11 := htx11.at_
        have hl11 := Lib.hid (bcells_length hh (.slice A11 x.txs.length c11))
        have ho11 := bcells_one x.head (.slice A11 x.txs.length c11) rfl
        obtain ⟨W12, hW12⟩ : ∃ W12, W12 = w11.alloc (.cells (bcells x.head (.slice A11 x.txs.length c11)).toArray 29) := ⟨_, rfl⟩
        have hb12 : Below w.heap.size w W12 := by rw [hW12]; exact hb011.alloc hb011.size _
        have hx12 : Blk W12 w.heap.size 29 cb.toArray := by rw [hW12]; exact hx11.alloc _
        have hk12 : Blk W12 w11.heap.size 29 (bcells x.head (.slice A11 x.txs.length c11)).toArray := by rw [hW12]; exact Blk.new w11 _ _
        have hs1112 : Below w11.heap.size w11 W12 := by rw [hW12]; exact (Below.refl _ _).alloc (Nat.le_refl _) _
        have hy12 : BlkAt W12 W12.heap.size (.agg (bcells x.head (.slice A11 x.txs.length c11)).toArray) x := ⟨_, rfl, hh, (hat11.keep (fun p hp => hs1112.cell hp)).more_ hs1112.size⟩
        have hz12 : BlkAt W12 W12.heap.size (.agg cb.toArray) x := (h0'.out.below hb12).more_ hb12.size
        have hsame := sameB_any _ _ x W12.heap.size W12 (Nat.le_refl _) hy12 hz12 hsm'.out.2
        generalize bcells x.head (.slice A11 x.txs.length c11) = cy at *
        have hcy12 : ∀ j u, cy[j]? = some u → W12.cell? ⟨w11.heap.size, 0 + j, none⟩ = some u := fun j u hu => by
          rw [Nat.zero_add, hk12.cell j]
          simpa using hu
        have hcx12 : ∀ j u, cb[j]? = some u → W12.cell? ⟨w.heap.size, 0 + j, none⟩ = some u := fun j u hu => by
          rw [Nat.zero_add, hx12.cell j]
          simpa using hu
        have hW12' := Lib.hid hW12
        have hsame' := Lib.hid hsame
        rw [hW12] at hcy12 hcx12
        have hb12' := Lib.hid hb12
        clear hsame hy12 hz12 hat11 htx11 hp11 d10' hW12 hx12 hk12 hs1112 hb12 hb011 hx11 hb11 hbk hb010 hx10
        have tokb : True := trivial
        have tokc : True := trivial
        have tokd : True := trivial
        go_wp2_with (first
          | (have _t := tokb; refine wpList_store_new rfl 29 (.tmp 14) (.tmp 72) rfl cy.toArray rfl rfl _ _ (by rw [blkinfo]; simp [hl11.out]) (by rw [hzB.out]; simp [hl11.out]) ho11 ?_; clear tokb)
          | (have _t := tokc; refine wpList_load_atg (by simp [Region.wanted, yielded]) 29 (.tmp 14) rfl w11.heap.size 0 rfl cy _ hcy12 Tryz.underlying29 rfl (by rw [blkinfo, hl11.out]) ?_; clear tokc)
          | (have _t := tokd; refine wpList_load_atg (by simp [Region.wanted, yielded, Act.put]) 29 (.tmp 3) rfl w.heap.size 0 rfl cb _ hcx12 Tryz.underlying29 rfl (by rw [blkinfo, hlen.out]) ?_; clear tokd))
        rw [← hW12'.out]
        refine hsame'.out.mono ?_
        rintro e w13 ⟨rfl, hb13⟩
        have hbN0 := hb12'.out.trans (hb13.mono hb12'.out.size)
        obtain ⟨wN, hwN⟩ : ∃ wN, wN = w13 := ⟨_, rfl⟩
        rw [← hwN] at hbN0 ⊢
        have hbN : Below w.heap.size w wN := hbN0
        clear hbN0 hb13 hwN hcy12 hcx12 hsame' hb12' hW12'
        go_wp2_with fail
      case' inr =>
        obtain ⟨wN, hwN⟩ : ∃ wN, wN = w10 := ⟨_, rfl⟩
        rw [← hwN] at hb010 ⊢
        have hbN : Below w.heap.size w wN := hb010
        clear hb010 hwN hx10 hbad
        go_wp2_with fail
      all_goals
        have hln : l.length ≤ 20000 := by rw [← hnl'.out]; omega
        have hvN := hb.below hbN
        refine (decBlk_any _ l w.heap.size wN hbN.size hvN (by omega)).mono ?_
        rintro e w14 ⟨hb14, hc14⟩
        have hb014 := hbN.trans (hb14.mono hbN.size)
        have hv14 := hb.below hb014
        clear hvN hb14 hbN
        rcases hc14 with ⟨hd, sv14, rfl, htx⟩ | ⟨hd, rfl⟩
        · obtain ⟨A14, c14, rfl⟩ := htx.form
          have hho14 := rHead_ok l
          have hl14 := Lib.hid (bcells_length hho14 (.slice A14 (rTxs (rMany l) (rRest l)).length c14))
          have ho14 := bcells_one (rHead l) (.slice A14 (rTxs (rMany l) (rRest l)).length c14) rfl
          have hrt := rTxs_all (rMany l) (rRest l)
          have hre := rRest_le l
          have hfc := flat_count (rTxs (rMany l) (rRest l))
          have hde : encBlk ⟨rHead l, rTxs (rMany l) (rRest l)⟩ = l := by
            have h1 : encBlk (rBlk l) = l := by simpa [decB] using hd
            rwa [show rBlk l = ⟨rHead l, rTxs (rMany l) (rRest l)⟩ by simp only [rBlk]] at h1
          obtain ⟨W15, hW15⟩ : ∃ W15, W15 = w14.alloc (.cells (bcells (rHead l) (.slice A14 (rTxs (rMany l) (rRest l)).length c14)).toArray 29) := ⟨_, rfl⟩
          have hal : Below w14.heap.size w14 W15 := by rw [hW15]; exact (Below.refl _ _).alloc (Nat.le_refl _) _
          have hk15 : Blk W15 w14.heap.size 29 (bcells (rHead l) (.slice A14 (rTxs (rMany l) (rRest l)).length c14)).toArray := by rw [hW15]; exact Blk.new w14 _ _
          have hat : BlkAt W15 W15.heap.size (.agg (bcells (rHead l) (.slice A14 (rTxs (rMany l) (rRest l)).length c14)).toArray) ⟨rHead l, rTxs (rMany l) (rRest l)⟩ := ⟨_, rfl, hho14, (htx.at_.keep (fun p hp => hal.cell hp)).more_ hal.size⟩
          have hb015 := hb014.trans (hal.mono hb014.size)
          have hv15 := hb.below hb015
          clear hd htx hv14 hal hb014
          generalize rHead l = hd at *
          generalize rTxs (rMany l) (rRest l) = T at *
          have henc := encBlk_any _ ⟨hd, T⟩ W15.heap.size W15 (Nat.le_refl _) hat (by simp only; omega) (fun t ht => (hrt.1 t ht).2.2) (by simp only; omega)
          generalize bcells hd (.slice A14 T.length c14) = cy at *
          have hcy : ∀ j u, cy[j]? = some u → W15.cell? ⟨w14.heap.size, 0 + j, none⟩ = some u := fun j u hu => by
            rw [Nat.zero_add, hk15.cell j]
            simpa using hu
          rw [hW15] at hcy
          have hW15' := Lib.hid hW15
          have henc' := Lib.hid henc
          have hrt' := Lib.hid hrt
          have hde' := Lib.hid hde
          clear hW15 henc hrt hde hk15 hat hre hfc
          have toke : True := trivial
          have tokf : True := trivial
          go_wp2_with (first
            | (have _t := toke; refine wpList_store_new rfl 29 (.tmp 16) (.tmp 85) rfl cy.toArray rfl rfl _ _ (by rw [blkinfo]; simp [hl14.out]) (by rw [hzB.out]; simp [hl14.out]) ho14 ?_; clear toke)
            | (have _t := tokf; refine wpList_load_at rfl 29 (.tmp 16) rfl w14.heap.size 0 rfl cy _ hcy Tryz.underlying29 rfl (by rw [blkinfo, hl14.out]) ?_; clear tokf))
          rw [← hW15'.out]
          refine henc'.out.mono ?_
          rintro e w16 ⟨hb16, ⟨_, v16, rfl, ho16⟩ | ⟨⟨t, ht, hbad⟩, _⟩⟩
          · have hb016 := hb015.trans (hb16.mono hb015.size)
            have s1 := run_strP (Byt.of_own ho16)
            have s2 := run_strP (hb.below hb016)
            rw [hde'.out] at s1
            obtain ⟨A16, n16, c16, rfl⟩ := slice_of_own ho16
            clear hb16 hb015 hv15 ho16 hcy
            have heq : ((strB l).toList == (strB l).toList) = true := by simp
            go_wp2_with fail
            go_ret
            exact ⟨rfl, hb016⟩
          · rw [(hrt'.out.1 t ht).1] at hbad; cases hbad
        · have hzl := Lib.hid (bcells_length zeroHead_ok (.slice none 0 0))
          have hz1 := bcells_one zeroHead (.slice none 0 0) rfl
          have hk15 : Blk (w14.alloc (.cells (bcells zeroHead (.slice none 0 0)).toArray 29)) w14.heap.size 29 (bcells zeroHead (.slice none 0 0)).toArray := Blk.new w14 _ _
          have q68 := (hk15.cell 68).trans (bcells_at zeroHead_ok (.slice none 0 0))
          have hcz : ∀ j u, (headCells zeroHead)[j]? = some u → (w14.alloc (.cells (bcells zeroHead (.slice none 0 0)).toArray 29)).cell? ⟨w14.heap.size, 0 + j, none⟩ = some u := fun j u hu => by
            rw [Nat.zero_add, hk15.cell j]
            exact bcells_head _ j u hu
          have heqz : ∀ W : World, (binOp .eql 26 (.agg (headCells zeroHead).toArray) (.agg Tryz.zeroCells26)).run Tryz.prog W = .ok (.bool true) W := fun W => by
            have := run_eql_head W zeroHead zeroHead zeroHead_ok zeroHead_ok
            rw [zeroCells]
            simpa using this
          have hzh := Lib.hid (headCells_length zeroHead_ok)
          have hb015 := hb014.alloc hb014.size (.cells (bcells zeroHead (.slice none 0 0)).toArray 29)
          generalize bcells zeroHead (.slice none 0 0) = cz at *
          generalize headCells zeroHead = HZ at *
          clear hk15 hv14 hb014 hd
          have toke : True := trivial
          have tokf : True := trivial
          go_wp2_with (first
            | (have _t := toke; refine wpList_store_new rfl 29 (.tmp 16) (.tmp 85) rfl cz.toArray rfl rfl _ _ (by rw [blkinfo]; simp [hzl.out]) (by rw [hzB.out]; simp [hzl.out]) hz1 ?_; clear toke)
            | (have _t := tokf; refine wpList_load_atg (by simp [Region.wanted, yielded]) 26 (.tmp 101) rfl w14.heap.size 0 rfl HZ _ hcz Tryz.underlying26 rfl (by rw [headinfo, hzh.out]) ?_; clear tokf))
          go_ret
          exact ⟨rfl, hb015⟩
end Go.Proofs.YtcilabemglbhbaaGreatDoor
