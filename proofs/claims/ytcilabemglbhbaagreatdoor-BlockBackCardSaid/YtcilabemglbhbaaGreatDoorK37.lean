/- block.each: the iterator over the transactions that stand one behind the other. -/
import Derived.Test.YtcilabemglbhbaaGreatDoorK30
import Derived.Test.YtcilabemglbhbaaGreatDoorK36
namespace Go.Proofs.YtcilabemglbhbaaGreatDoor
open Go Go.RowKit Go.Pur

/-- v reads as the bytes l, and its memory is block g. -/
def ByG (w : World) (g : Nat) (v : Value) (l : Bytes) : Prop := ∃ A c, v = .slice A l.length c ∧ Byt w (g + 1) v l ∧ ∀ a, A = some a → a.block = g
theorem ByG.same {w w' : World} {g : Nat} {v : Value} {l : Bytes} (h : ByG w g v l) (hg : w'.heap[g]? = w.heap[g]?) : ByG w' g v l := by
  obtain ⟨A, c, rfl, h1, h2⟩ := h
  obtain ⟨A', c', hv, b1, b2, b3, b4⟩ := h1
  injection hv with q1 q2 q3
  subst q1; subst q3
  refine ⟨A, c, rfl, ⟨A, c, rfl, b1, b2, b3, fun hn => ?_⟩, h2⟩
  obtain ⟨ad, rfl, hb, hc⟩ := b4 hn
  refine ⟨ad, rfl, hb, fun j u hu => ?_⟩
  have e : (ad.add j).block = g := by
    rw [show (ad.add j).block = ad.block by unfold Addr.add; split <;> rfl]
    exact h2 ad rfl
  exact (World.cell?_of_block (by rw [e]; exact hg)).trans (hc j u hu)
theorem ByG.byt {w : World} {g B : Nat} {v : Value} {l : Bytes} (h : ByG w g v l) (hB : g < B) : Byt w B v l := by
  obtain ⟨A, c, _, h1, _⟩ := h
  exact h1.more hB
theorem ByG.cut {w : World} {g m c : Nat} {A : Option Addr} {l : Bytes} (h : ByG w g (.slice A m c) l) (k : Nat) (hk : k ≤ l.length) :
    ∃ A', (∀ W : World, (Instr.sliceAt 30 (.slice A m c) (some (.int .i64 (k : Int))) none none).run Tryz.prog W = .ok (.slice A' (m - k) (c - k)) W) ∧
      (∀ W, ByG W g (.slice A m c) l → ByG W g (.slice A' (m - k) (c - k)) (l.drop k)) := by
  obtain ⟨A0, c0, hv, h1, h2⟩ := h
  injection hv with q1 q2 q3
  subst q1; subst q2; subst q3
  obtain ⟨_, _, hv', b1, _⟩ := id h1
  injection hv' with _ _ q3'
  subst q3'
  obtain ⟨A', hA'⟩ : ∃ A', sliced A k l.length c 1 = .slice A' (l.length - k) (c - k) ∧ ∀ a, A' = some a → ∃ a0, A = some a0 ∧ a.block = a0.block := by
    refine ⟨_, rfl, fun a ha => ?_⟩
    split at ha
    · exact ⟨a, ha, rfl⟩
    · obtain ⟨a0, h0, rfl⟩ := Option.map_eq_some_iff.1 ha
      exact ⟨a0, h0, by unfold Addr.add; split <;> rfl⟩
  refine ⟨A', fun W => ?_, fun W hW => ?_⟩
  · rw [run_sliceAt_slice (h := sliceBs), run_slice_l (ht := sliceBs) (h0 := by omega) (h1 := by omega), elemBs, sizeU8]
    simp only [Result.andThen_ok, Int.toNat_natCast, hA'.1]
  · obtain ⟨A1, c1, hv1, h3, h4⟩ := hW
    injection hv1 with r1 r2 r3
    subst r1; subst r3
    have := sliced_byt h3 (k := k) (e := l.length) (by omega) (Nat.le_refl _)
    rw [hA'.1, List.take_of_length_le (by rw [List.length_drop]; omega)] at this
    refine ⟨A', c - k, by rw [List.length_drop], this, fun a ha => ?_⟩
    obtain ⟨a0, h0, e⟩ := hA'.2 a ha
    rw [e]
    exact h4 a0 h0
/-- the consumer's rounds keep all that was there but block o. -/
def KpB (N0 o : Nat) (A B : World) : Prop := A.heap.size ≤ B.heap.size ∧ ∀ k, k < N0 → k ≠ o → B.heap[k]? = A.heap[k]?
abbrev St := List TTx × Nat × Bytes
def eachEnc (x : Value × Value) : Array Value := #[x.1, x.2]
def eachNx (N0 : Nat) (s : St) (x : Value × Value) (s' : St) (W : World) : Prop :=
  ∃ acc k l, s = (acc, k + 1, l) ∧ firstOk l = true ∧ s' = (acc ++ [(rTx l).1], k, (rTx l).2.1) ∧ TxMine W N0 x.1 (rTx l).1 ∧ (∃ A c, x.2 = .slice A (rTx l).2.1.length c)
def eachS (s : St) : Prop := s.2.1 = 0 ∨ firstOk s.2.2 = false
def cellNat (w : World) (p : Nat) : Nat := match w.cell? ⟨p, 0, none⟩ with | some (.int _ n) => n.toNat | _ => 0
theorem left_drop {l : Bytes} (h : firstOk l = true) : l.drop (l.length - (rTx l).2.1.length) = (rTx l).2.1 ∧ (rTx l).2.1.length ≤ l.length := by
  have e := tx_good l (firstOk_parts h).1
  have hle := rTx_le l
  refine ⟨?_, hle⟩
  generalize rTx l = x at *
  have hl : l.length = (enc x.1).length + x.2.1.length := by rw [← List.length_append, ← e]
  rw [hl, Nat.add_sub_cancel]
  conv => lhs; rw [e]
  exact List.drop_left' rfl

set_option maxRecDepth 100000 in
set_option maxHeartbeats 3200000 in
theorem each1_in (n : Nat) (hn : 1 ≤ n) (Bm Bb g N0 o k0 : Nat) (v0 : Value) (l0 : Bytes) (acc0 : List TTx) (w : World) (hm : Blk w Bm 59 #[.int .u64 (k0 : Int)]) (hb : Blk w Bb 30 #[v0]) (hv : ByG w g v0 l0)
    (hk : k0 < 18446744073709551616) (hl : l0.length ≤ 10000000000) (hN : w.heap.size = N0) (hg : g < N0) (hgo : g ≠ o) (hmo : Bm ≠ o) (hbo : Bb ≠ o) (hmb : Bm ≠ Bb) (hgm : g ≠ Bm) (hgb : g ≠ Bb) :
    SeqT Fence.wide n Tryz.prog 57 #[.pointer (some ⟨Bm, 0, none⟩), .pointer (some ⟨Bb, 0, none⟩)] eachEnc (KpB N0 o) [Bm, Bb] (acc0, k0, l0) eachS (eachNx N0) w := by
  intro l' J Jx W hW hJ hJx hY h0
  have hbm := hm.lt
  have hbb := hb.lt
  have hNW : N0 ≤ W.heap.size := by rw [← hN]; exact hW.size
  have HJ := Lib.hid hJ
  have HJx := Lib.hid hJx
  have HY := Lib.hid hY
  have hst : ∃ (acc : List TTx) (k : Nat) (l : Bytes) (v : Value), J (acc, k, l) W ∧ Blk W Bm 59 #[.int .u64 (k : Int)] ∧ Blk W Bb 30 #[v] ∧ ByG W g v l ∧ k < 18446744073709551616 ∧ l.length ≤ 10000000000 ∧ N0 ≤ W.heap.size :=
    ⟨acc0, k0, l0, v0, h0, hm.below hW hbm, hb.below hW hbb, hv.same (hW.block g (by omega)), hk, hl, hNW⟩
  clear hJ hJx hY hW h0 hm hb hv hk hl hNW
  refine callsIn_of_wp Tryz.func57 rfl trivial ?_ rfl
  simp only [Tryz.ntmps57, List.size_toArray, List.length_cons, List.length_nil, Nat.reduceAdd, Nat.reduceSub, Array.replicate_succ, Array.replicate_zero, List.push_toArray, List.append_toArray, List.nil_append, List.cons_append]
  gi_wp2
  gi_loopw [] (fun wr => ∃ (acc : List TTx) (k : Nat) (l : Bytes) (v : Value), J (acc, k, l) wr ∧ Blk wr Bm 59 #[.int .u64 (k : Int)] ∧ Blk wr Bb 30 #[v] ∧ ByG wr g v l ∧ k < 18446744073709551616 ∧ l.length ≤ 10000000000 ∧ N0 ≤ wr.heap.size) (fun wr => cellNat wr Bm)
  case atStart => exact hst
  case round =>
    clear hst
    obtain ⟨acc, k, l, v, hj, hm, hb, hv, hk, hl, hN2⟩ := hrel
    obtain ⟨A, m, c, rfl⟩ : ∃ A m c, v = .slice A m c := by obtain ⟨A, c, h, _⟩ := hv; exact ⟨A, _, c, h⟩
    have c0 := hm.cell 0
    have c1 := hb.cell 0
    have hmea : Hid (cellNat wr Bm = k) := Lib.hid (by simp [cellNat, c0])
    have hj' := Lib.hid hj
    clear hj
    rcases k with _ | k
    · gi_wp2_with fail
      refine bodyPost_end (results_none rfl _ _ _) rfl ?_
      exact ⟨⟨_, rfl⟩, .inl ⟨_, .inl rfl, hj'.out⟩⟩
    · have hfirst := first_any (.slice A m c) l (g + 1) wr (by omega) (hv.byt (Nat.lt_succ_self g)) hl
      have hfirst' := Lib.hid hfirst
      clear hfirst
      have hml : m = l.length := by obtain ⟨A, c, h, _⟩ := hv; injection h
      have hm2 : ∀ (w2 : World), Below wr.heap.size wr w2 → Blk w2 Bm 59 #[.int .u64 ((k + 1 : Nat) : Int)] := fun _ h => hm.below h hm.lt
      have hb2' : ∀ (w2 : World), Below wr.heap.size wr w2 → Blk w2 Bb 30 #[.slice A m c] := fun _ h => hb.below h hb.lt
      have hbl := hb.lt
      have hbml := hm.lt
      have hwk : IntKind.u64.wrap (((k + 1 : Nat) : Int) - 1) = (k : Int) := by rw [IntKind.wrap_u64]; omega
      have hml' := Lib.hid hml
      have hv' := Lib.hid hv
      have hm2' := Lib.hid hm2
      have hb2'' := Lib.hid hb2'
      have hm' := Lib.hid hm
      have hb' := Lib.hid hb
      clear hml hv hm2 hb2' hm hb
      gi_wp2_with fail
      refine ⟨trivial, CallsIn.mono ((callsIn_wide (n := n - 1)).2 hfirst'.out) ?_⟩
      rintro e w2 ⟨hb2, ⟨hok, tv, rfl, ht2⟩ | ⟨hok, rfl⟩⟩
      · have q0 := (hm2'.out w2 hb2).cell 0
        have q1 := (hb2''.out w2 hb2).cell 0
        have f0 := (hm2'.out w2 hb2).frozen 0
        have f1 := (hb2''.out w2 hb2).frozen 0
        have h2s := hb2.size
        have hbl2 : Bb < w2.heap.size := by omega
        have hbm2 : Bm < w2.heap.size := by omega
        obtain ⟨A2, n2, c2, A3, n3, c3, rfl⟩ := ht2.form
        obtain ⟨hld, hle⟩ := left_drop hok
        have hnx : ∀ tv lv W, TxMine W N0 tv (rTx l).1 → (∃ A c, lv = Value.slice A (rTx l).2.1.length c) → eachNx N0 (acc, k + 1, l) (tv, lv) (acc ++ [(rTx l).1], k, (rTx l).2.1) W := fun tv lv W h1 h2 => ⟨acc, k, l, rfl, hok, rfl, h1, h2⟩
        clear hok
        generalize rTx l = x at *
        obtain ⟨nn, hnn⟩ : ∃ nn, nn = l.length - x.2.1.length := ⟨_, rfl⟩
        rw [← hnn] at hld
        have hni : ((l.length : Int) - ((x.2.1.length : Nat) : Int)) = ((nn : Nat) : Int) := by omega
        rw [hni]
        obtain ⟨A', hrun, hcut⟩ := hv'.out.cut nn (by omega)
        obtain ⟨W5, hW5⟩ : ∃ W5, W5 = (w2.setCell ⟨Bb, 0, none⟩ (.slice A' (m - nn) (c - nn))).alloc (.cells #[.int .u32 (x.1.ver : Int), .slice A2 n2 c2, .slice A3 n3 c3, .int .u32 (x.1.lock : Int)] 52) := ⟨_, rfl⟩
        have hT : Turns [Bm, Bb] wr W5 := by rw [hW5]; exact ((Turns.of_below hb2).setCell (p := Bb) (by simp) 0 _).alloc _
        have hb5 : Blk W5 Bb 30 #[.slice A' (m - nn) (c - nn)] := by rw [hW5]; exact ((hb2''.out w2 hb2).set_ 0 _).alloc _
        have hm5 : Blk W5 Bm 59 #[.int .u64 ((k + 1 : Nat) : Int)] := by rw [hW5]; exact ((hm2'.out w2 hb2).far (p := ⟨Bb, 0, none⟩) hmb _).alloc _
        have hg5 : W5.heap[g]? = wr.heap[g]? := hT.block g (by omega) (by simp; omega)
        have hv5 : ByG W5 g (.slice A' (m - nn) (c - nn)) x.2.1 := by rw [← hld]; exact hcut W5 (hv'.out.same hg5)
        have hmine5 : TxMine W5 N0 (.agg #[.int .u32 (x.1.ver : Int), .slice A2 n2 c2, .slice A3 n3 c3, .int .u32 (x.1.lock : Int)]) x.1 := by
          rw [hW5]
          exact mine_base (ht2.turns (((Turns.refl [Bb] w2).setCell (p := Bb) (by simp) 0 _).alloc _) (by simp; omega)) hN2
        have hlen5 : m - nn = x.2.1.length := by rw [hml'.out, hnn]; omega
        obtain ⟨fn, tmps, assign, body, hy, hR⟩ := HY.out (acc, k + 1, l) (.agg #[.int .u32 (x.1.ver : Int), .slice A2 n2 c2, .slice A3 n3 c3, .int .u32 (x.1.lock : Int)], .slice A' (m - nn) (c - nn)) (acc ++ [x.1], k, x.2.1) W5 (HJ.out _ _ _ hj'.out hT) (hnx _ _ _ hmine5 ⟨A', c - nn, by rw [hlen5]⟩)
        dsimp only [eachEnc] at hy
        have HR := Lib.hid hR
        have hmine5' := Lib.hid hmine5
        have hv5' := Lib.hid hv5
        have hT' := Lib.hid hT
        have hb5' := Lib.hid hb5
        have hm5' := Lib.hid hm5
        have hlen5' := Lib.hid hlen5
        have hnn' := Lib.hid hnn
        have hld' := Lib.hid hld
        have hW5' := Lib.hid hW5
        rw [hW5] at hy
        have hle' := Lib.hid (Nat.le_trans hle hl)
        have hwk2 : IntKind.u64.wrap (k : Int) = (k : Int) := by rw [IntKind.wrap_u64]; omega
        clear hR hmine5 hv5 hT hb5 hm5 hlen5 hnn hld hcut ht2 hnx hg5 hni hle hW5 h2s
        gi_wp2_with fail
        rw [← hW5'.out]
        refine HR.out.mono ?_
        rintro e W3 (⟨rfl, hJ3, hs3, hk3⟩ | ⟨rfl, hJx3⟩)
        · have hm3 : Blk W3 Bm 59 #[.int .u64 ((k + 1 : Nat) : Int)] := (hk3 Bm (by omega) hmo).trans hm5'.out
          have hb3 : Blk W3 Bb 30 #[.slice A' (m - nn) (c - nn)] := (hk3 Bb (by omega) hbo).trans hb5'.out
          have hv3 := hv5'.out.same (hk3 g hg hgo)
          have q3 := hm3.cell 0
          have f3 := hm3.frozen 0
          have hm3' := Lib.hid hm3
          have hb3' := Lib.hid hb3
          have hv3' := Lib.hid hv3
          have hJ3' := Lib.hid hJ3
          have hs3' : Hid (N0 ≤ W3.heap.size) := Lib.hid (Nat.le_trans hN2 (Nat.le_trans hT'.out.size hs3))
          clear hm3 hb3 hv3 hJ3 hk3 q0 q1 f0 f1 c0 c1 hs3
          gi_wp2_with fail
          have hmf := hm3'.out.set_ 0 (.int .u64 (k : Int))
          have hcf := hmf.cell 0
          refine ⟨⟨acc ++ [x.1], k, x.2.1, .slice A' (m - nn) (c - nn), HJ.out _ _ _ hJ3'.out ((Turns.refl [Bm, Bb] W3).setCell (p := Bm) (by simp) 0 _), hmf, hb3'.out.far (p := ⟨Bm, 0, none⟩) (fun e => hmb e.symm) _, hv3'.out.same (Below.heap_setCell _ _ _ _ (by exact hgm)), by omega, hle'.out, by simpa [World.setCell] using hs3'.out⟩, ?_⟩
          rw [hmea.out]
          unfold cellNat
          rw [hcf]
          simp
        · gi_wp2_with fail
          refine bodyPost_ret (results_none rfl _ _ _) rfl ?_
          exact ⟨⟨_, rfl⟩, .inr ⟨_, hJx3⟩⟩
      · have hok' := Lib.hid hok
        clear hok
        unfold zeroTx
        gi_wp2_with fail
        refine bodyPost_ret (results_none rfl _ _ _) rfl ?_
        exact ⟨⟨_, rfl⟩, .inl ⟨(acc, k + 1, l), .inr hok'.out, HJ.out _ _ _ hj'.out (Turns.of_below (hb2.alloc hb2.size _))⟩⟩

theorem each_any (A : Option Addr) (m c k : Nat) (w : World) : Calls Tryz.prog 31 #[.slice A m c, .int .u64 (k : Int)] w fun e w' =>
    e = .returned (.func (.func 57) #[] #[.pointer (some ⟨w.heap.size + 1, 0, none⟩), .pointer (some ⟨w.heap.size, 0, none⟩)]) ∧ w' = (w.alloc (.cells #[.slice A m c] 30)).alloc (.cells #[.int .u64 (k : Int)] 59) := by
  have hmf : ∀ (fn : Fn) (first cap : Array Value) (w : World), (Instr.makeFunc fn first cap).run Tryz.prog w = .ok (.func fn first cap) w := fun _ _ _ _ => rfl
  go_enter Tryz.func31, Tryz.ntmps31
  go_wp2
  go_ret
  exact ⟨rfl, rfl⟩
end Go.Proofs.YtcilabemglbhbaaGreatDoor
