/- block.EncodeHeader: a header's bytes. -/
import Derived.Test.YtcilabemglbhbaaDoorC4
import Derived.Test.YtcilabemglbhbaaDoorC5
import Derived.Test.YtcilabemglbhbaaDoorC16
import Derived.Test.YtcilabemglbhbaaDoorC18
namespace Go.Proofs.YtcilabemglbhbaaDoor
open Go Go.RowKit Go.Pur

structure Head where
  ver : Nat
  prev : Bytes
  root : Bytes
  time : Nat
  bits : Nat
  nonce : Nat
def headCells (h : Head) : List Value := .int .u32 (h.ver : Int) :: (bvs h.prev ++ (bvs h.root ++ [.int .u32 (h.time : Int), .int .u32 (h.bits : Int), .int .u32 (h.nonce : Int)]))
def HeadOk (h : Head) : Prop := Lt32 h.ver ∧ h.prev.length = 32 ∧ h.root.length = 32 ∧ Lt32 h.time ∧ Lt32 h.bits ∧ Lt32 h.nonce
def encHd (h : Head) : Bytes := le 4 h.ver ++ (h.prev ++ (h.root ++ (le 4 h.time ++ (le 4 h.bits ++ le 4 h.nonce))))
theorem encHd_length {h : Head} (hh : HeadOk h) : (encHd h).length = 80 := by
  obtain ⟨_, h1, h2, _⟩ := hh
  simp [encHd, le_length, h1, h2]
theorem encHd_app {a b : Head} {r s : Bytes} (ha : HeadOk a) (hb : HeadOk b) (h : encHd a ++ r = encHd b ++ s) : a = b ∧ r = s := by
  obtain ⟨a1, a2, a3, a4, a5, a6⟩ := ha
  obtain ⟨b1, b2, b3, b4, b5, b6⟩ := hb
  unfold encHd at h
  simp only [List.append_assoc] at h
  obtain ⟨e1, h⟩ := le4_app a1 b1 h
  obtain ⟨e2, h⟩ := app_inj (by omega) h
  obtain ⟨e3, h⟩ := app_inj (by omega) h
  obtain ⟨e4, h⟩ := le4_app a4 b4 h
  obtain ⟨e5, h⟩ := le4_app a5 b5 h
  obtain ⟨e6, h⟩ := le4_app a6 b6 h
  refine ⟨?_, h⟩
  cases a; cases b
  simp_all
theorem encHd_inj {a b : Head} (ha : HeadOk a) (hb : HeadOk b) (h : encHd a = encHd b) : a = b := (encHd_app (r := []) (s := []) ha hb (by rw [h])).1
theorem headCells_length {h : Head} (hh : HeadOk h) : (headCells h).length = 68 := by
  obtain ⟨_, h1, h2, _⟩ := hh
  simp [headCells, bvs_length, h1, h2]
theorem headCells_at {h : Head} (hh : HeadOk h) : (headCells h).toArray[0]? = some (.int .u32 (h.ver : Int)) ∧ (headCells h).toArray[65]? = some (.int .u32 (h.time : Int)) ∧ (headCells h).toArray[66]? = some (.int .u32 (h.bits : Int)) ∧ (headCells h).toArray[67]? = some (.int .u32 (h.nonce : Int)) := by
  obtain ⟨_, h1, h2, _⟩ := hh
  simp [headCells, bvs_length, h1, h2]
theorem bvs_at_lt {l : Bytes} {j : Nat} {u : Value} (hu : (bvs l)[j]? = some u) : j < l.length := by
  rcases Nat.lt_or_ge j (bvs l).length with h | h
  · rwa [bvs_length] at h
  · rw [List.getElem?_eq_none h] at hu; cases hu
theorem headCells_prev {h : Head} (j : Nat) (u : Value) (hu : (bvs h.prev)[j]? = some u) : (headCells h).toArray[1 + j]? = some u := by
  have hj := bvs_at_lt hu
  rw [List.getElem?_toArray, headCells, Nat.add_comm, List.getElem?_cons_succ, List.getElem?_append_left (by rw [bvs_length]; exact hj)]
  exact hu
theorem headCells_root {h : Head} (hh : HeadOk h) (j : Nat) (u : Value) (hu : (bvs h.root)[j]? = some u) : (headCells h).toArray[33 + j]? = some u := by
  obtain ⟨_, h1, h2, _⟩ := hh
  have hj := bvs_at_lt hu
  have e : 33 + j = (32 + j) + 1 := by omega
  rw [List.getElem?_toArray, headCells, e, List.getElem?_cons_succ, List.getElem?_append_right (by rw [bvs_length]; omega), bvs_length, h1, List.getElem?_append_left (by rw [bvs_length]; omega)]
  simpa using hu
theorem headCells_one (h : Head) : (headCells h).toArray.all (·.oneCell') = true := by
  rw [Array.all_eq_true_iff_forall_mem]
  intro u hu
  have hu' : u ∈ headCells h := by simpa using hu
  unfold headCells at hu'
  simp only [List.mem_cons, List.mem_append, List.not_mem_nil, or_false] at hu'
  rcases hu' with rfl | h1 | h1 | rfl | rfl | rfl
  · rfl
  · exact bvs_one _ u h1
  · exact bvs_one _ u h1
  · rfl
  · rfl
  · rfl

section
variable {P : Program}
theorem wpList_index {ops : Array Oper} {rest : List Oper} {o : Oper} {a : Act} {w : World} {Q : Exit → Act → World → Prop} (hgd : o.guard = none) (t : TypeId) (x y : Operand) (_ho : o.op = .index t x y) (v : Value) (hrun : (execOp a.eval o).run P w = .ok (.value v) w)
    (h : wpList P ops Q rest (a.put o.dst v) w) : wpList P ops Q (o :: rest) a w :=
  wpList_plain hgd fun _ hK => by
    unfold Oper.wp
    rw [hrun]
    exact hK _ _ h
end
def three (h : Head) (k : Nat) : Bytes := ([h.time, h.bits, h.nonce].take k).flatMap (le 4)
theorem three_length (h : Head) (k : Nat) (hk : k ≤ 3) : (three h k).length ≤ 12 := by
  match k, hk with
  | 0, _ => simp [three]
  | 1, _ => simp [three, le_length]
  | 2, _ => simp [three, le_length]
  | 3, _ => simp [three, le_length]
set_option maxRecDepth 100000 in
set_option maxHeartbeats 1600000 in
theorem encodeHeader_any (h : Head) (w : World) (hh : HeadOk h) :
    Calls Tryd.prog 12 #[.agg (headCells h).toArray] w fun e w' => ∃ v', e = .returned v' ∧ OwnB w' w.heap.size 5 v' (encHd h) ∧ Below w.heap.size w w' := by
  have hlen := headCells_length hh
  have hat := headCells_at hh
  have hpv := fun j u hu => headCells_prev (h := h) j u hu
  have hrt := fun j u hu => headCells_root hh j u hu
  have hea : Hid (encHd h = ((((([] ++ le 4 h.ver) ++ (h.prev ++ h.root)) ++ le 4 h.time) ++ le 4 h.bits) ++ le 4 h.nonce)) := Lib.hid (by simp [encHd])
  obtain ⟨o1, o2, o3, o4, o5, o6⟩ := hh
  have w1 := wrapU64' o1
  have w4 := wrapU64' o4
  have w5 := wrapU64' o5
  have w6 := wrapU64' o6
  have hlp := Lib.hid o2
  have hlr := Lib.hid o3
  clear o2 o3
  generalize (headCells h).toArray = ca at *
  have hx : Blk (w.alloc (.cells ca 26)) w.heap.size 26 ca := Blk.new w _ _
  have hbw : Below w.heap.size w (w.alloc (.cells ca 26)) := (Below.refl _ _).alloc (Nat.le_refl _) _
  have c0 := (hx.cell 0).trans hat.1
  clear hlen
  go_enter Tryd.func12, Tryd.ntmps12
  go_wp2_with fail
  have hp1 : PenAt ((w.alloc (.cells ca 26)).alloc (.cells #[.slice none 0 0] 73)) (w.heap.size + 1) none [] := by
    have := PenAt.new (w.alloc (.cells ca 26))
    simpa using this
  refine (fixed4_any (w.heap.size + 1) none [] h.ver _ o1 (by simp) hp1).mono ?_
  rintro e w2 ⟨rfl, q2, hp2, hu2⟩
  have hx2 := hu2.blk (hx.alloc _) (by omega) (by simp)
  have hb2 : Below w.heap.size w w2 := (hbw.alloc (by simp) _).trans (hu2.below (by simp; omega) (by omega) (by simp))
  clear c0 hx hbw hp1
  have hL2 : Hid (([] ++ le 4 h.ver).length = 4) := Lib.hid (by simp [le_length])
  generalize hL2e : ([] ++ le 4 h.ver : Bytes) = L2 at *
  have hL2' := Lib.hid hL2e
  clear hL2e
  go_wp2_with fail
  refine wp_region_tail 4 (by kernel_rfl) (by kernel_rfl) ?_
  intro W3 hW3
  simp only [List.take_succ_cons, List.take_zero, List.drop_succ_cons, List.drop_zero]
  have hx3 : Blk W3 w.heap.size 26 ca := by rw [hW3]; exact hx2.drew
  have hp3 : PenAt W3 (w.heap.size + 1) q2 L2 := by rw [hW3]; exact hp2
  have hu3 : Upd (w.heap.size + 1) q2 w2 W3 q2 := by rw [hW3]; exact (Upd.refl _ _ _).drew
  clear hW3
  iterate 4 still_step
  refine wpStill_nil ?_
  go_wp2_with fail
  have hpl3 := hp3.lt
  have hX : Blk (W3.alloc (.cells #[.slice (some ⟨w.heap.size, 1, none⟩) 32 32, .slice (some ⟨w.heap.size, 33, none⟩) 32 32] 27)) w.heap.size 26 ca := hx3.alloc _
  have hne : some w.heap.size ≠ q2 := by
    rcases hu2.fresh with e | ⟨j, e, hj⟩
    · rw [e]; simp
    · rw [e]; simp at hj ⊢; omega
  refine (raw2_any (w.heap.size + 1) q2 L2 h.prev h.root W3.heap.size 0 2 _ _ _ _ (by rw [hL2.out]; omega) (by rw [hlp.out]; omega) (by rw [hlr.out]; omega) (Nat.le_refl _) (hp3.alloc _) (reads_of_blk hX h.prev 1 32 32 hlp.out.symm (Nat.le_refl _) (by simp [maxLen]) hpv) (reads_of_blk hX h.root 33 32 32 hlr.out.symm (Nat.le_refl _) (by simp [maxLen]) hrt) (by simp) (by simp)).mono ?_
  rintro e w4 ⟨rfl, q4, hp4, hu4⟩
  have hx4 := hu4.blk hX (by omega) hne
  have hu24 := hu2.trans ((hu3.alloc (.cells #[.slice (some ⟨w.heap.size, 1, none⟩) 32 32, .slice (some ⟨w.heap.size, 33, none⟩) 32 32] 27)).trans hu4)
  have hL4 : Hid ((L2 ++ (h.prev ++ h.root)).length = 68) := Lib.hid (by simp [hL2.out, hlp.out, hlr.out])
  generalize hL : L2 ++ (h.prev ++ h.root) = L4 at *
  have hL' := Lib.hid hL
  clear hL
  have c5 := (hx4.cell 65).trans hat.2.1
  have c6 := (hx4.cell 66).trans hat.2.2.1
  have c7 := (hx4.cell 67).trans hat.2.2.2
  clear hp3 hu3 hX hne hpl3 hx3 hp2 hu4 hx4 hat hpv hrt
  go_wp2_with fail
  go_loopw [26] (fun i wr => ∃ (k : Nat) (q : Option Nat), k ≤ 3 ∧ i = .int .i64 (k : Int) ∧ PenAt wr (w.heap.size + 1) q (L4 ++ three h k) ∧ Upd (w.heap.size + 1) none ((w.alloc (.cells ca 26)).alloc (.cells #[.slice none 0 0] 73)) wr q) (fun i _ => 3 - (intOf i).toNat)
  case atStart => exact ⟨0, q4, by omega, rfl, by simpa [three] using hp4, hu24⟩
  case round =>
    obtain ⟨k, q, hk, rfl, hp, hu⟩ := hrel
    have hl3 := three_length h k hk
    have hlk : (L4 ++ three h k).length ≤ 1000 := by rw [List.length_append, hL4.out]; omega
    have hm : k = 0 ∨ k = 1 ∨ k = 2 ∨ k = 3 := by omega
    rcases hm with rfl | rfl | rfl | rfl
    · have e1 : L4 ++ three h 1 = (L4 ++ three h 0) ++ le 4 h.time := by simp [three]
      have e1' := Lib.hid e1
      clear e1
      generalize L4 ++ three h 0 = M at *
      simp only [Int.cast_ofNat_Int] at *
      go_wp2_with (refine wpList_index rfl _ _ _ rfl (.int .u32 (h.time : Int)) (by kernel_rfl) ?_)
      refine (fixed4_any (w.heap.size + 1) q M h.time _ o4 (by omega) hp).mono ?_
      rintro e w6 ⟨rfl, q6, hp6, hu6⟩
      go_wp2_with fail
      go_roundw
      case rel => exact ⟨1, q6, by omega, by go_num, by rw [e1'.out]; exact hp6, hu.trans hu6⟩
      case measure => simp [intOf]
    · have e1 : L4 ++ three h 2 = (L4 ++ three h 1) ++ le 4 h.bits := by simp [three]
      have e1' := Lib.hid e1
      clear e1
      generalize L4 ++ three h 1 = M at *
      simp only [Int.cast_ofNat_Int] at *
      go_wp2_with (refine wpList_index rfl _ _ _ rfl (.int .u32 (h.bits : Int)) (by kernel_rfl) ?_)
      refine (fixed4_any (w.heap.size + 1) q M h.bits _ o5 (by omega) hp).mono ?_
      rintro e w6 ⟨rfl, q6, hp6, hu6⟩
      go_wp2_with fail
      go_roundw
      case rel => exact ⟨2, q6, by omega, by go_num, by rw [e1'.out]; exact hp6, hu.trans hu6⟩
      case measure => simp [intOf]
    · have e1 : L4 ++ three h 3 = (L4 ++ three h 2) ++ le 4 h.nonce := by simp [three]
      have e1' := Lib.hid e1
      clear e1
      generalize L4 ++ three h 2 = M at *
      simp only [Int.cast_ofNat_Int] at *
      go_wp2_with (refine wpList_index rfl _ _ _ rfl (.int .u32 (h.nonce : Int)) (by kernel_rfl) ?_)
      refine (fixed4_any (w.heap.size + 1) q M h.nonce _ o6 (by omega) hp).mono ?_
      rintro e w6 ⟨rfl, q6, hp6, hu6⟩
      go_wp2_with fail
      go_roundw
      case rel => exact ⟨3, q6, by omega, by go_num, by rw [e1'.out]; exact hp6, hu.trans hu6⟩
      case measure => simp [intOf]
    · have e1 : encHd h = L4 ++ three h 3 := by rw [hea.out]; simp [three]
      generalize L4 ++ three h 3 = M at *
      have e1' := Lib.hid e1
      clear e1 hea
      simp only [Int.cast_ofNat_Int] at *
      go_wp2_with fail
      refine (all_any (w.heap.size + 1) q M _ (by omega) hp).mono ?_
      rintro e w5 ⟨v', rfl, hown5, hb5⟩
      go_wp2_with fail
      go_ret
      have hs := hu.size
      simp at hs
      have hbf : Below w.heap.size w w5 := ((((Below.refl _ _).alloc (Nat.le_refl _) _).alloc (by simp) _).trans (hu.below (by simp; omega) (by omega) (by simp))).trans (hb5.mono (by omega))
      rw [e1'.out]
      exact ⟨v', rfl, World.ownsRow_base hown5 (fun k hk => by have := (hown5.lt k hk).1; omega), hbf⟩
end Go.Proofs.YtcilabemglbhbaaDoor
