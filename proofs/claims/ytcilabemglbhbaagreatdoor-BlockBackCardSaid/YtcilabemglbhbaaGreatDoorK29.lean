/- How many bytes a transaction has at most. -/
import Derived.Test.YtcilabemglbhbaaGreatDoorK17
import Derived.Test.YtcilabemglbhbaaGreatDoorK27
import Derived.Test.YtcilabemglbhbaaGreatDoorK28
namespace Go.Proofs.YtcilabemglbhbaaGreatDoor
open Go Go.RowKit Go.Pur

theorem enc_len {t : TTx} (hs : Small t) (h32 : ∀ x ∈ t.ins, x.tx.length = 32) : (enc t).length ≤ 270000 := by
  have h1 := flat_length encIn t.ins (fun y hy => encIn_length y (hs.2.2.1 y hy) (h32 y hy))
  have h2 := flat_length encOut t.outs (fun y hy => encOut_length y (hs.2.2.2 y hy))
  have h3 := szB_length t.ins.length
  have h4 := szB_length t.outs.length
  have h5 := hs.1
  have h6 := hs.2.1
  unfold enc encIns encOuts
  simp only [List.length_append, le_length]
  omega
end Go.Proofs.YtcilabemglbhbaaGreatDoor

/- block.Encode: a block's bytes. -/
namespace Go.Proofs.YtcilabemglbhbaaGreatDoor
open Go Go.RowKit Go.Pur

theorem blkCells_at {h : Head} (hh : HeadOk h) (sv : Value) : (headCells h ++ [sv]).toArray[68]? = some sv := by
  have := headCells_length hh
  simp [this]
theorem blkCells_head {h : Head} (sv : Value) (j : Nat) (u : Value) (hu : (headCells h)[j]? = some u) : (headCells h ++ [sv]).toArray[j]? = some u := by
  have hj : j < (headCells h).length := by
    rcases Nat.lt_or_ge j (headCells h).length with h' | h'
    · exact h'
    · rw [List.getElem?_eq_none h'] at hu; cases hu
  rw [List.getElem?_toArray, List.getElem?_append_left hj]
  exact hu
def EncBPost (x : TBlk) (w : World) (e : Ending) (w' : World) : Prop := Below w.heap.size w w' ∧
  (((∀ t ∈ x.txs, okTx t = true) ∧ ∃ v', e = .returned (.tuple #[v', .int .i64 0]) ∧ OwnB w' w.heap.size 5 v' (encBlk x)) ∨ ((∃ t ∈ x.txs, okTx t = false) ∧ e = .returned (.tuple #[.slice none 0 0, .int .i64 70])))
set_option maxRecDepth 100000 in
set_option maxHeartbeats 1600000 in
theorem encBlk_any (v : Value) (x : TBlk) (B : Nat) (w : World) (hB : B ≤ w.heap.size) (h : BlkAt w B v x) (hn : x.txs.length ≤ 100000000) (hs : ∀ t ∈ x.txs, Small t) (hlen : (encTxs x.txs).length ≤ 100000000) :
    Calls Tryz.prog 10 #[v] w (EncBPost x w) := by
  obtain ⟨sv, rfl, hh, ht⟩ := h
  obtain ⟨At, nt, ct, rfl⟩ : ∃ A n c, sv = .slice A n c := by obtain ⟨A, c, h, _⟩ := ht; exact ⟨A, _, c, h⟩
  have hnt : nt = x.txs.length := by
    obtain ⟨A, c, h, _⟩ := ht
    injection h
  have hwn : IntKind.u64.wrap (nt : Int) = (nt : Int) := wrapU64 (by unfold Lt64; omega)
  have hn6 : nt ≤ 100000000 := by omega
  have hnt' := Lib.hid hnt
  clear hnt
  have hx : Blk (w.alloc (.cells (headCells x.head ++ [Value.slice At nt ct]).toArray 29)) w.heap.size 29 (headCells x.head ++ [Value.slice At nt ct]).toArray := Blk.new w _ _
  have hbw : Below w.heap.size w (w.alloc (.cells (headCells x.head ++ [Value.slice At nt ct]).toArray 29)) := (Below.refl _ _).alloc (Nat.le_refl _) _
  have h68 := blkCells_at hh (.slice At nt ct)
  have c68 := (hx.cell 68).trans (blkCells_at hh (.slice At nt ct))
  have hcells : ∀ j u, (headCells x.head)[j]? = some u → ((w.alloc (.cells (headCells x.head ++ [Value.slice At nt ct]).toArray 29)).alloc (.cells #[.slice none 0 0] 57)).cell? ⟨w.heap.size, 0 + j, none⟩ = some u := fun j u hu => by
    rw [Nat.zero_add, (hx.alloc _).cell j]; exact blkCells_head _ j u hu
  have hlh := Lib.hid (headCells_length hh)
  have hed := encodeHeader_any x.head
  generalize hcl : headCells x.head = cl at *
  have tok1 : True := trivial
  go_enter Tryz.func10, Tryz.ntmps10
  go_wp2_with (have _t := tok1; refine wpList_load_at rfl 26 (.tmp 9) rfl w.heap.size 0 rfl cl _ hcells Tryz.underlying26 rfl (by rw [headinfo, hlh.out]) ?_; clear tok1)
  obtain ⟨W1, hW1⟩ : ∃ W1, W1 = (w.alloc (.cells (cl ++ [Value.slice At nt ct]).toArray 29)).alloc (.cells #[.slice none 0 0] 57) := ⟨_, rfl⟩
  have hx1 : Blk W1 w.heap.size 29 (cl ++ [Value.slice At nt ct]).toArray := by rw [hW1]; exact hx.alloc _
  have hb1 : Below w.heap.size w W1 := by rw [hW1]; exact hbw.alloc (by simp) _
  have hp1 : PenAt W1 (w.heap.size + 1) none [] := by
    have := PenAt.new (w.alloc (.cells (cl ++ [Value.slice At nt ct]).toArray 29))
    rw [hW1]
    simpa using this
  rw [← hW1]
  clear hcells hW1 hx hbw hcl
  refine (hed W1 hh).mono ?_
  rintro e w2 ⟨v2, rfl, ho2, hb2⟩
  obtain ⟨A2, n2, c2, rfl⟩ := slice_of_own ho2
  have hx2 := hx1.below hb2 hx1.lt
  have hp2 := hp1.below hb2
  go_wp2_with fail
  have hel := encHd_length hh
  have hx2a := hx2.alloc (.cells #[Value.slice A2 n2 c2] 30)
  refine (raw1_any (w.heap.size + 1) none [] (encHd x.head) w2.heap.size 0 1 _ _ _ (by simp) (by rw [hel]; omega) (hp2.alloc _) ((Byt.of_own ho2).alloc (Nat.le_refl _) _) (by simp)).mono ?_
  rintro e w3 ⟨rfl, q3, hp3, hu3⟩
  have hx3 := hu3.blk hx2a (by omega) (by simp)
  have c3 := (hx3.cell 68).trans h68
  go_wp2_with fail
  refine (size_any (w.heap.size + 1) q3 _ nt _ (by unfold Lt64; omega) (by simp [hel]) hp3).mono ?_
  rintro e w4 ⟨rfl, q4, hp4, hu4⟩
  have hu34 := hu3.trans hu4
  have hx4 := hu34.blk hx2a (by omega) (by simp)
  have c4 := (hx4.cell 68).trans h68
  have hb02 := hb1.trans (hb2.mono hb1.size)
  have hs2 := hx2.lt
  have hsz := szB_length nt
  have hL0l : (([] ++ encHd x.head) ++ szB nt).length ≤ 100 := by simp [hel]; omega
  generalize hL0 : ([] ++ encHd x.head) ++ szB nt = L0 at *
  have hL0' := Lib.hid hL0
  clear hL0 c3 hx3 hp3 hx1 c68 hsz
  go_wp2_with fail
  have hne1 : w.heap.size + 1 < w2.heap.size := hp2.lt.1
  clear hp1 hp2 hed
  go_loopw [22] (fun i wr => ∃ (k : Nat) (q : Option Nat), k ≤ nt ∧ i = .int .i64 (k : Int) ∧ (∀ j t, j < k → x.txs[j]? = some t → okTx t = true) ∧ PenAt wr (w.heap.size + 1) q (L0 ++ encTxs (x.txs.take k)) ∧ Upd (w.heap.size + 1) none (w2.alloc (.cells #[Value.slice A2 n2 c2] 30)) wr q) (fun i _ => nt - (intOf i).toNat)
  case atStart => exact ⟨0, q4, by omega, rfl, fun _ _ h => by omega, by simpa [encTxs] using hp4, hu34⟩
  case round =>
    obtain ⟨k, q, hk, rfl, hok, hp, hu⟩ := hrel
    have hxr := hu.blk hx2a (by omega) (by simp)
    have hbr : Below w.heap.size w wr := (hb02.alloc hb02.size _).trans (hu.below (by simp; omega) (by omega) (by simp))
    by_cases hlt : k < nt
    · have hkl : k < x.txs.length := by rw [← hnt'.out]; exact hlt
      obtain ⟨At', ct', hsl, h1, h2, h3⟩ := ht
      obtain ⟨b, o, hA, hbB, hxx⟩ := h3 (by omega)
      have hAt : At = some ⟨b, o, none⟩ := by injection hsl with h1; rw [h1, hA]
      subst hAt
      obtain ⟨iv, ov, hc, htx⟩ := hxx k x.txs[k] (List.getElem?_eq_getElem hkl)
      have hcw : ∀ j u, (tcells x.txs[k] iv ov)[j]? = some u → wr.cell? ⟨b, o + k * 4 + j, none⟩ = some u := fun j u hu => ((hbr.mono hB).cell hbB).trans (hc j u hu)
      have htw := htx.below (hbr.mono hB)
      have hst := hs x.txs[k] (List.getElem_mem hkl)
      generalize hxt : x.txs[k] = t at *
      have hxt' := Lib.hid hxt
      have d0 := hcw 0 _ rfl
      have d1 := hcw 1 _ rfl
      have d2 := hcw 2 _ rfl
      have d3 := hcw 3 _ rfl
      rw [Nat.add_zero] at d0
      obtain ⟨iv', ov', hvv, hver, hlock, hi, ho⟩ := htw
      have htw := htx.below (hbr.mono hB)
      have e1 : iv = iv' := by
        have := congrArg (fun v => match v with | .agg a => a[1]? | _ => none) hvv
        simpa [tcells] using this
      have e2 : ov = ov' := by
        have := congrArg (fun v => match v with | .agg a => a[2]? | _ => none) hvv
        simpa [tcells] using this
      subst e1; subst e2
      obtain ⟨Ai, ni, ci, rfl⟩ : ∃ A n c, iv = .slice A n c := by obtain ⟨A, c, h, _⟩ := hi; exact ⟨A, _, c, h⟩
      obtain ⟨Ao, no, co, rfl⟩ : ∃ A n c, ov = .slice A n c := by obtain ⟨A, c, h, _⟩ := ho; exact ⟨A, _, c, h⟩
      have h32 := Lib.hid hi.tx32
      clear hvv hi ho hcw hc
      go_wp2_with fail
      have hBr : B ≤ wr.heap.size := Nat.le_trans hB hbr.size
      refine (encode_any _ t B _ (by simp; omega) (htw.below ((Below.refl _ _).alloc hBr _)) hst).mono ?_
      rintro e w5 ⟨hb5, ⟨hot, v5, rfl, ho5⟩ | ⟨hot, rfl⟩⟩
      · obtain ⟨A5, n5, c5, rfl⟩ := slice_of_own ho5
        have hot' := Lib.hid hot
        clear hot
        go_wp2_with fail
        have hle : (encTxs (x.txs.take k)).length ≤ 100000000 := by
          refine Nat.le_trans ?_ hlen
          have e : encTxs x.txs = encTxs (x.txs.take k) ++ encTxs (x.txs.drop k) := by
            unfold encTxs
            rw [← List.flatMap_append, List.take_append_drop]
          rw [e, List.length_append]
          omega
        have hp5 := (hp.alloc (.cells #[.int .u32 (t.ver : Int), .slice Ai ni ci, .slice Ao no co, .int .u32 (t.lock : Int)] 52)).below hb5
        have hel5 : (enc t).length ≤ 270000 := enc_len hst h32.out
        refine (raw1_any (w.heap.size + 1) q _ (enc t) w5.heap.size 0 1 _ _ _ (by simp; omega) (by omega) (hp5.alloc _) ((Byt.of_own ho5).alloc (Nat.le_refl _) _) (by simp)).mono ?_
        rintro e w6 ⟨rfl, q6, hp6, hu6⟩
        go_wp2_with fail
        refine ⟨⟨k + 1, q6, by omega, by go_num, fun j t' hj ht' => ?_, ?_, hu.trans ((((Upd.refl _ _ _).alloc _).trans (Upd.ofBelow hb5)).alloc _ |>.trans hu6)⟩, by simp [intOf]; omega⟩
        · by_cases e : j = k
          · subst e
            rw [List.getElem?_eq_getElem hkl] at ht'
            injection ht' with ht'
            rw [← ht', hxt'.out]; exact hot'.out
          · exact hok j t' (by omega) ht'
        · rw [encTxs_snoc x.txs k hkl, hxt'.out, ← List.append_assoc]; exact hp6
      · have hot' := Lib.hid hot
        clear hot
        go_wp2_with fail
        go_ret2
        exact ⟨(hbr.alloc hbr.size _).trans (hb5.mono (by have := hbr.size; simp; omega)), .inr ⟨⟨t, by rw [← hxt'.out]; exact List.getElem_mem hkl, hot'.out⟩, rfl⟩⟩
    · have hke : k = nt := by omega
      subst hke
      have et : x.txs.take k = x.txs := List.take_of_length_le (by rw [hnt'.out]; exact Nat.le_refl _)
      rw [et] at hp
      go_wp2_with fail
      refine (all_any (w.heap.size + 1) q _ _ (by simp; omega) hp).mono ?_
      rintro e w5 ⟨v', rfl, hown5, hb5⟩
      go_wp2_with fail
      go_ret2
      have hbf : Below w.heap.size w w5 := hbr.trans (hb5.mono hbr.size)
      refine ⟨hbf, .inl ⟨fun t ht => ?_, v', rfl, ?_⟩⟩
      · obtain ⟨j, hj, rfl⟩ := List.getElem_of_mem ht
        exact hok j _ (by rw [hnt'.out]; exact hj) (List.getElem?_eq_getElem hj)
      · have e : encBlk x = L0 ++ encTxs x.txs := by
          rw [← hL0'.out, hnt'.out]
          simp [encBlk]
        rw [e]
        exact World.ownsRow_base hown5 (fun k hk => by have := (hown5.lt k hk).1; have := hbr.size; omega)
end Go.Proofs.YtcilabemglbhbaaGreatDoor
