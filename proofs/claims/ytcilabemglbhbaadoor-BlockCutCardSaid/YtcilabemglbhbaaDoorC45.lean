/- BlockCut: the walk. -/
import Derived.Test.YtcilabemglbhbaaDoorC41
import Derived.Test.YtcilabemglbhbaaDoorC44
namespace Go.Proofs.YtcilabemglbhbaaDoor
open Go Go.RowKit Go.Pur

def CutPost (w : World) (e : Ending) (w' : World) : Prop := e = .returned (.bool true) ∧ Below w.heap.size w w'
theorem blkOk_of {w : World} {B : Nat} {v : Value} {x : TBlk} (h : BlkAt w B v x) (hs : SmallB x) (hok : ∀ t ∈ x.txs, okTx t = true) : BlkOk x := by
  obtain ⟨sv, _, hh, At, c, _, _, _, hx⟩ := h
  refine ⟨hh, by have := hs.1; unfold Lt64; omega, fun t ht => ⟨hok t ht, ?_⟩⟩
  obtain ⟨k, hk, rfl⟩ := List.getElem_of_mem ht
  obtain ⟨b, o, _, _, hxx⟩ := hx (by omega)
  obtain ⟨iv, ov, _, htx⟩ := hxx k _ (List.getElem?_eq_getElem hk)
  exact htx.ok (hs.2 _ ht)
theorem encTxs_small (xs : List TTx) (h : ∀ t ∈ xs, TxOk t ∧ Small t) : (encTxs xs).length ≤ xs.length * 270000 := by
  induction xs with
  | nil => simp [encTxs]
  | cons t r ih =>
    have h1 := h t (by simp)
    have := enc_len h1.2 (fun y hy => (h1.1.2.2.2.2.1 y hy).1)
    have ih := ih (fun t ht => h t (by simp [ht]))
    simp only [encTxs, List.flatMap_cons, List.length_append, List.length_cons] at ih ⊢
    omega
theorem encBlk_small {x : TBlk} (hh : HeadOk x.head) (hok : ∀ t ∈ x.txs, TxOk t) (hs : SmallB x) : 80 ≤ (encBlk x).length ∧ (encBlk x).length ≤ 9000000 ∧ (encTxs x.txs).length ≤ 8100000 := by
  have h1 := encHd_length hh
  have h2 := szB_length x.txs.length
  have h3 := encTxs_small x.txs (fun t ht => ⟨hok t ht, hs.2 t ht⟩)
  have h4 := hs.1
  unfold encBlk
  simp only [List.length_append]
  omega
theorem txOk_at {w : World} {B : Nat} {v : Value} {x : TBlk} (h : BlkAt w B v x) (hs : SmallB x) : ∀ t ∈ x.txs, TxOk t := by
  obtain ⟨sv, _, hh, At, c, _, _, _, hx⟩ := h
  intro t ht
  obtain ⟨k, hk, rfl⟩ := List.getElem_of_mem ht
  obtain ⟨b, o, _, _, hxx⟩ := hx (by omega)
  obtain ⟨iv, ov, _, htx⟩ := hxx k _ (List.getElem?_eq_getElem hk)
  exact htx.ok (hs.2 _ ht)
set_option maxRecDepth 100000 in
set_option maxHeartbeats 3200000 in
theorem cutB_any (xv mv : Value) (x : TBlk) (n : Nat) (more : Bytes) (w : World) (h : BlkAt w w.heap.size xv x) (hn : n < 65536) (hm : Byt w w.heap.size mv more) :
    Calls Tryd.prog 5 #[xv, .int .u16 (n : Int), mv] w (CutPost w) := by
  have h0 := h
  obtain ⟨sv, hxv, hh, ht⟩ := h
  obtain ⟨Am, nm, cm, rfl⟩ := slice_of_byt hm
  have hnm : nm = more.length := by obtain ⟨A', c', hvv, _⟩ := hm; injection hvv
  have hnm' := Lib.hid hnm
  clear hnm
  obtain ⟨cb, hcb⟩ : ∃ cb, cb = bcells x.head sv := ⟨_, rfl⟩
  have hxv2 : xv = .agg cb.toArray := by rw [hxv, hcb]; rfl
  have hlen := Lib.hid (bcells_length hh sv)
  rw [← hcb] at hlen
  obtain ⟨W1, hW1⟩ : ∃ W1, W1 = w.alloc (.cells cb.toArray 48) := ⟨_, rfl⟩
  have hx1 : Blk W1 w.heap.size 48 cb.toArray := by rw [hW1]; exact Blk.new w _ _
  have hb1 : Below w.heap.size w W1 := by rw [hW1]; exact (Below.refl _ _).alloc (Nat.le_refl _) _
  rw [hxv2]
  rw [hxv2] at h0
  have h0' := Lib.hid h0
  clear h0 hxv hxv2 hcb ht
  go_enter Tryd.func5, Tryd.ntmps5
  go_wp2_with fail
  rw [← hW1]
  refine (alive_any W1).mono ?_
  rintro e w2 ⟨rfl, hb2⟩
  have hb02 := hb1.trans (hb2.mono hb1.size)
  have hx2 := hx1.below hb2 hx1.lt
  have hc2 : ∀ j u, cb[j]? = some u → w2.cell? ⟨w.heap.size, 0 + j, none⟩ = some u := fun j u hu => by
    rw [Nat.zero_add, hx2.cell j]
    simpa using hu
  clear hW1 hx1 hb1 hb2
  have tok1 : True := trivial
  go_wp2_with (have _t := tok1; refine wpList_load_at rfl 48 (.tmp 3) rfl w.heap.size 0 rfl cb _ hc2 Tryd.underlying48 rfl (by rw [blkinfo, hlen.out]) ?_; clear tok1)
  refine (greatB_any _ x w.heap.size w2 hb02.size (h0'.out.below hb02)).mono ?_
  rintro e w3 ⟨r, rfl, (rfl | ⟨rfl, hsm⟩), hb3⟩
  · have hb03 := hb02.trans (hb3.mono hb02.size)
    go_wp2_with fail
    go_ret
    exact ⟨rfl, hb03⟩
  · have hb03 := hb02.trans (hb3.mono hb02.size)
    have hx3 := hx2.below hb3 hx2.lt
    have hc3 : ∀ j u, cb[j]? = some u → w3.cell? ⟨w.heap.size, 0 + j, none⟩ = some u := fun j u hu => by
      rw [Nat.zero_add, hx3.cell j]
      simpa using hu
    have hsm' := Lib.hid hsm
    clear hsm hx2 hc2 hb02 hb3
    by_cases h50 : 50 < nm
    · go_wp2_with fail
      go_ret
      exact ⟨rfl, hb03⟩
    · have tok2 : True := trivial
      go_wp2_with (have _t := tok2; refine wpList_load_at rfl 48 (.tmp 3) rfl w.heap.size 0 rfl cb _ hc3 Tryd.underlying48 rfl (by rw [blkinfo, hlen.out]) ?_; clear tok2)
      have htok := txOk_at h0'.out hsm'.out
      have hsz := encBlk_small hh htok hsm'.out
      refine (encBlk_any _ x w.heap.size w3 hb03.size (h0'.out.below hb03) (by have := hsm'.out.1; omega) hsm'.out.2 (by omega)).mono ?_
      rintro e w4 ⟨hb4, ⟨hok, v4, rfl, ho4⟩ | ⟨hbad, rfl⟩⟩
      · obtain ⟨A4, n4, c4, rfl⟩ := slice_of_own ho4
        have hn4 : n4 = (encBlk x).length := by
          obtain ⟨A, c, hv, _⟩ := ownsRow_form ho4
          injection hv
        have hbk := blkOk_of h0'.out hsm'.out hok
        have hb04 := hb03.trans (hb4.mono hb03.size)
        have hm4 := (hm.below hb04).more hb04.size
        have hby4 := Byt.of_own ho4
        obtain ⟨hl1, hl2, _⟩ := hsz
        have hcutl := decB_cut hbk (n % n4) (by rw [hn4]; exact Nat.mod_lt _ (by omega)) (by omega)
        have hmorel := decB_more hbk more
        obtain ⟨A5, hcut, hcutb⟩ := cut_to hby4 (n % n4) (by rw [← hn4]; exact Nat.le_of_lt (Nat.mod_lt _ (by omega)))
        have hd1 := decBlk_any _ _ w4.heap.size w4 (Nat.le_refl _) (hcutb w4 hby4) (by rw [List.length_take]; omega)
        rw [← hn4] at hl1 hl2
        obtain ⟨k, hk⟩ : ∃ k, k = n % n4 := ⟨_, rfl⟩
        rw [← hk] at hcutl hcut hcutb hd1
        have hrem : Int.tmod (n : Int) (n4 : Int) = (k : Int) := by rw [hk]; rfl
        have hn40 : ¬ ((n4 : Int) = 0) := by omega
        have hn4' := Lib.hid hn4
        have hd1' := Lib.hid hd1
        have hcutl' := Lib.hid hcutl
        have hmorel' := Lib.hid hmorel
        have hby4' := Lib.hid hby4
        have hbk' := Lib.hid hbk
        have hk' := Lib.hid hk
        clear hn4 hd1 hcutl hmorel hby4 hbk hok hcutb hk
        go_wp2_with fail
        refine hd1'.out.mono ?_
        rintro e w5 ⟨hb5, ⟨hbad, _⟩ | ⟨_, rfl⟩⟩
        · rw [hcutl'.out] at hbad
          cases hbad
        · have hb05 := hb04.trans (hb5.mono hb04.size)
          have ho5 := own_below ho4 hb5
          have hm5 := (hm.below hb05).more hb05.size
          have hzl := Lib.hid (bcells_length zeroHead_ok (.slice none 0 0))
          have hz1 := bcells_one zeroHead (.slice none 0 0) rfl
          have hzsz : Hid (Tryd.zeroCells48.size = 69) := Lib.hid (by rw [zeroCellsB]; exact bcells_length zeroHead_ok (.slice none 0 0))
          generalize bcells zeroHead (.slice none 0 0) = zb at *
          clear hb5 ho4 hm4 hb04 hb03 hx3 hc3
          have hs5 := hb05.size
          have tok3 : True := trivial
          have tok4 : True := trivial
          have tok5 : True := trivial
          have hb6 : Below w.heap.size w ((w5.alloc (.cells zb.toArray 48)).alloc (.cells #[] 5)) := (hb05.alloc hb05.size _).alloc (by simp; omega) _
          have hown6 : OwnB ((w5.alloc (.cells zb.toArray 48)).alloc (.cells #[] 5)) w.heap.size 5 (.slice (some ⟨w5.heap.size + 1, 0, none⟩) 0 0) [] := by
            have := World.ownsRow_made (base := w.heap.size) (e := 5) (size := 1) (w5.alloc (.cells zb.toArray 48)) #[] 0 (by simp; omega) (by simp [maxLen]) rfl
            rw [World.size_alloc] at this
            exact this
          have hby6 : Byt ((w5.alloc (.cells zb.toArray 48)).alloc (.cells #[] 5)) w5.heap.size (.slice A4 n4 c4) (encBlk x) := ((Byt.of_own ho5).alloc (Nat.le_refl _) _).alloc (by simp) _
          have hx9 : ([] ++ encBlk x).length = n4 := hn4'.out.symm
          have hx9' := Lib.hid hx9
          have hm6 := fun (w' : World) (hb : Below w.heap.size w w') => hm.below hb
          have hm6' := Lib.hid hm6
          have hby6' := Lib.hid hby6
          have hown6' := Lib.hid hown6
          have hb6' := Lib.hid hb6
          have hs6 : w.heap.size ≤ ((w5.alloc (.cells zb.toArray 48)).alloc (.cells #[] 5)).heap.size := hb6.size
          have hs6' := Lib.hid hs6
          clear hx9 hm6 hby6 hown6 hb6 hs6 ho5 hm5 hs5 hb05
          have hlm : more.length ≤ 50 := by rw [← hnm'.out]; omega
          go_wp2_with (first
            | (have _t := tok3; refine wpList_store_new rfl 48 (.tmp 10) (.tmp 45) rfl zb.toArray rfl rfl _ _ (by rw [blkinfo]; simp [hzl.out]) (by rw [hzsz.out]; simp [hzl.out]) hz1 ?_; clear tok3)
            | (have _t := tok4; at_builtin; refine app_bytes rfl (.tmp 48) (.tmp 49) rfl w.heap.size _ [] rfl hown6'.out _ _ (encBlk x) rfl hby6'.out (by have := hx9'.out; simp only [List.nil_append] at this; simp only [List.length_nil]; omega) hs6'.out ?_; intro v7 w7 hown7 hg7 _; obtain ⟨A7, n7, c7, rfl⟩ := slice_of_own hown7; clear tok4)
            | (have _t := tok5; at_builtin; have hb7 : Below w.heap.size w w7 := hb6'.out.grown hg7 hs6'.out (fun r e => (hown6'.out.lt r e).1); refine app_bytes rfl (.tmp 50) (.tmp 51) rfl w.heap.size _ ([] ++ encBlk x) rfl hown7 _ _ more rfl (hm6'.out w7 hb7) (by rw [hx9'.out]; omega) hb7.size ?_; intro v8 w8 hown8 hg8 _; obtain ⟨A8, n8, c8, rfl⟩ := slice_of_own hown8; clear tok5))
          have hb8 : Below w.heap.size w w8 := hb7.grown hg8 hb7.size (fun r e => (hown7.lt r e).1)
          rw [List.nil_append] at hown8
          have hx8 : (encBlk x ++ more).length ≤ 100000000 := by rw [List.length_append, ← hn4'.out]; omega
          refine (decBlk_any _ _ w8.heap.size w8 (Nat.le_refl _) (Byt.of_own hown8) hx8).mono ?_
          clear hg7 hg8 hown7 hown8 hb7
          rintro e w9 ⟨hb9, ⟨hd9, sv9, rfl, htx9⟩ | ⟨hd9, rfl⟩⟩
          · rw [hmorel'.out] at hd9
            have hm0 : nm = 0 := by
              rw [hnm'.out]
              simpa using hd9
            subst hm0
            obtain ⟨A9, c9, rfl⟩ := htx9.form
            have hl9 := Lib.hid (bcells_length (rHead_ok (encBlk x ++ more)) (.slice A9 (rTxs (rMany (encBlk x ++ more)) (rRest (encBlk x ++ more))).length c9))
            have h19 := bcells_one (rHead (encBlk x ++ more)) (.slice A9 (rTxs (rMany (encBlk x ++ more)) (rRest (encBlk x ++ more))).length c9) rfl
            have hb09 := hb8.trans (hb9.mono hb8.size)
            clear htx9 hd9 hx8 hb9
            generalize bcells (rHead (encBlk x ++ more)) (.slice A9 (rTxs (rMany (encBlk x ++ more)) (rRest (encBlk x ++ more))).length c9) = zc at *
            have tok6 : True := trivial
            go_wp2_with (have _t := tok6; refine wpList_store_new rfl 48 (.tmp 12) (.tmp 54) rfl zc.toArray rfl rfl _ _ (by rw [blkinfo]; simp [hl9.out]) (by rw [hzsz.out]; simp [hl9.out]) h19 ?_; clear tok6)
            go_ret
            exact ⟨rfl, hb09.alloc hb09.size _⟩
          · rw [hmorel'.out] at hd9
            have hm0 : ¬ ((nm : Int) = 0) := by
              have : more ≠ [] := by simpa using hd9
              have := List.length_pos_iff.2 this
              rw [hnm'.out]
              omega
            have hb09 := hb8.trans (hb9.mono hb8.size)
            clear hd9 hx8 hb9
            have hzl2 := bcells_length zeroHead_ok (.slice none 0 0)
            have hz2 := bcells_one zeroHead (.slice none 0 0) rfl
            generalize bcells zeroHead (.slice none 0 0) = zc at *
            have hzl2 := Lib.hid hzl2
            have tok6 : True := trivial
            go_wp2_with (have _t := tok6; refine wpList_store_new rfl 48 (.tmp 12) (.tmp 54) rfl zc.toArray rfl rfl _ _ (by rw [blkinfo]; simp [hzl2.out]) (by rw [hzsz.out]; simp [hzl2.out]) hz2 ?_; clear tok6)
            go_ret
            exact ⟨ret_bool (by simp only [Bool.not_eq_true', beq_eq_false_iff_ne, ne_eq]; exact hm0), hb09.alloc hb09.size _⟩
      · go_wp2_with fail
        go_ret
        exact ⟨rfl, hb03.trans (hb4.mono hb03.size)⟩
end Go.Proofs.YtcilabemglbhbaaDoor
