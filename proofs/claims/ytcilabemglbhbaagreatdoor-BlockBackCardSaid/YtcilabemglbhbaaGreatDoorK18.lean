/- Plain law: a transaction's bytes tell the transaction. -/
import Derived.Test.YtcilabemglbhbaaGreatDoorK17
import Derived.Test.YtcilabemglbhbaaGreatDoorK4
import Derived.Test.YtcilabemglbhbaaGreatDoorK5
import Derived.Test.YtcilabemglbhbaaGreatDoorK16
namespace Go.Proofs.YtcilabemglbhbaaGreatDoor
open Go Go.RowKit Go.Pur

theorem app_inj {a b r s : Bytes} (hl : a.length = b.length) (h : a ++ r = b ++ s) : a = b ∧ r = s := List.append_inj h hl
theorem le_inj (k x y : Nat) (hx : x < 256 ^ k) (hy : y < 256 ^ k) (h : le k x = le k y) : x = y := by
  induction k generalizing x y with
  | zero => simp at hx hy; omega
  | succ k ih =>
    rw [le, le] at h
    injection h with h1 h2
    have hx' : x / 256 < 256 ^ k := by rw [Nat.div_lt_iff_lt_mul (by decide)]; rw [Nat.pow_succ] at hx; exact hx
    have hy' : y / 256 < 256 ^ k := by rw [Nat.div_lt_iff_lt_mul (by decide)]; rw [Nat.pow_succ] at hy; exact hy
    have h3 := ih _ _ hx' hy' h2
    have h4 : x % 256 = y % 256 := by
      have := congrArg UInt8.toNat h1
      simpa using this
    omega
theorem le_app (k x y : Nat) {r s : Bytes} (hx : x < 256 ^ k) (hy : y < 256 ^ k) (h : le k x ++ r = le k y ++ s) : x = y ∧ r = s := by
  obtain ⟨h1, h2⟩ := app_inj (by rw [le_length, le_length]) h
  exact ⟨le_inj k x y hx hy h1, h2⟩
theorem le4_app {x y : Nat} {r s : Bytes} (hx : Lt32 x) (hy : Lt32 y) (h : le 4 x ++ r = le 4 y ++ s) : x = y ∧ r = s :=
  le_app 4 x y (by unfold Lt32 at hx; omega) (by unfold Lt32 at hy; omega) h
theorem szB_app {n m : Nat} {r s : Bytes} (hn : n < 65536) (hm : m < 65536) (h : szB n ++ r = szB m ++ s) : n = m ∧ r = s := by
  unfold szB at h
  by_cases h1 : n < 253 <;> by_cases h2 : m < 253 <;> simp only [h1, h2, hn, hm, if_true, if_false] at h
  · exact le_app 1 n m (by omega) (by omega) h
  · rw [List.append_assoc] at h
    have := (le_app 1 n 253 (by omega) (by omega) h).1
    omega
  · rw [List.append_assoc] at h
    have := (le_app 1 253 m (by omega) (by omega) h).1
    omega
  · rw [List.append_assoc, List.append_assoc] at h
    exact le_app 2 n m (by omega) (by omega) (app_inj rfl h).2

def InOk (x : TIn) : Prop := x.tx.length = 32 ∧ Lt32 x.n ∧ Lt32 x.seq ∧ x.script.length < 65536
def OutOk (x : TOut) : Prop := Int64 x.value ∧ x.script.length < 65536
def TxOk (t : TTx) : Prop := Lt32 t.ver ∧ Lt32 t.lock ∧ t.ins.length < 65536 ∧ t.outs.length < 65536 ∧ (∀ x ∈ t.ins, InOk x) ∧ (∀ x ∈ t.outs, OutOk x)

theorem script_app {a b r s : Bytes} (ha : a.length < 65536) (hb : b.length < 65536) (h : (szB a.length ++ a) ++ r = (szB b.length ++ b) ++ s) : a = b ∧ r = s := by
  rw [List.append_assoc, List.append_assoc] at h
  obtain ⟨h1, h2⟩ := szB_app ha hb h
  exact app_inj h1 h2
theorem encIn_app {x y : TIn} {r s : Bytes} (hx : InOk x) (hy : InOk y) (h : encIn x ++ r = encIn y ++ s) : x = y ∧ r = s := by
  obtain ⟨a1, a2, a3, a4⟩ := hx
  obtain ⟨b1, b2, b3, b4⟩ := hy
  unfold encIn at h
  simp only [List.append_assoc] at h
  obtain ⟨e1, h⟩ := app_inj (by omega) h
  obtain ⟨e2, h⟩ := le4_app a2 b2 h
  rw [← List.append_assoc, ← List.append_assoc (szB y.script.length)] at h
  obtain ⟨e3, h⟩ := script_app a4 b4 h
  obtain ⟨e4, h⟩ := le4_app a3 b3 h
  refine ⟨?_, h⟩
  cases x; cases y
  simp_all
theorem toU64_inj {a b : Int} (ha : Int64 a) (hb : Int64 b) (h : toU64 a = toU64 b) : a = b := by
  unfold Int64 at ha hb
  unfold toU64 at h
  omega
theorem encOut_app {x y : TOut} {r s : Bytes} (hx : OutOk x) (hy : OutOk y) (h : encOut x ++ r = encOut y ++ s) : x = y ∧ r = s := by
  obtain ⟨a1, a2⟩ := hx
  obtain ⟨b1, b2⟩ := hy
  unfold encOut at h
  rw [List.append_assoc, List.append_assoc (le 8 (toU64 y.value))] at h
  have t1 := toU64_lt x.value
  have t2 := toU64_lt y.value
  unfold Lt64 at t1 t2
  obtain ⟨e1, h⟩ := le_app 8 _ _ (by omega) (by omega) h
  obtain ⟨e2, h⟩ := script_app a2 b2 h
  refine ⟨?_, h⟩
  have e3 := toU64_inj a1 b1 e1
  cases x; cases y
  simp_all
theorem flat_app {α : Type} (f : α → Bytes) (p : α → Prop) (hf : ∀ x y r s, p x → p y → f x ++ r = f y ++ s → x = y ∧ r = s) :
    ∀ (xs ys : List α) (r s : Bytes), xs.length = ys.length → (∀ x ∈ xs, p x) → (∀ x ∈ ys, p x) → xs.flatMap f ++ r = ys.flatMap f ++ s → xs = ys ∧ r = s
  | [], [], r, s, _, _, _, h => ⟨rfl, by simpa using h⟩
  | [], _ :: _, _, _, hl, _, _, _ => by simp at hl
  | _ :: _, [], _, _, hl, _, _, _ => by simp at hl
  | x :: xs, y :: ys, r, s, hl, hx, hy, h => by
    simp only [List.flatMap_cons, List.append_assoc] at h
    obtain ⟨e, h⟩ := hf x y _ _ (hx x (by simp)) (hy y (by simp)) h
    obtain ⟨e2, h⟩ := flat_app f p hf xs ys r s (by simpa using hl) (fun z hz => hx z (by simp [hz])) (fun z hz => hy z (by simp [hz])) h
    exact ⟨by rw [e, e2], h⟩
theorem enc_inj {a b : TTx} (ha : TxOk a) (hb : TxOk b) (h : enc a = enc b) : a = b := by
  obtain ⟨a1, a2, a3, a4, a5, a6⟩ := ha
  obtain ⟨b1, b2, b3, b4, b5, b6⟩ := hb
  unfold enc at h
  simp only [List.append_assoc] at h
  obtain ⟨e1, h⟩ := le4_app a1 b1 h
  obtain ⟨e2, h⟩ := szB_app a3 b3 h
  obtain ⟨e3, h⟩ := flat_app encIn InOk (fun x y r s => encIn_app) _ _ _ _ e2 a5 b5 h
  obtain ⟨e4, h⟩ := szB_app a4 b4 h
  obtain ⟨e5, h⟩ := flat_app encOut OutOk (fun x y r s => encOut_app) _ _ _ _ e4 a6 b6 h
  have e6 := le_inj 4 _ _ (by unfold Lt32 at a2; omega) (by unfold Lt32 at b2; omega) h
  cases a; cases b
  simp_all
theorem TxAt.ok {w : World} {B : Nat} {v : Value} {t : TTx} (h : TxAt w B v t) (hs : Small t) : TxOk t := by
  obtain ⟨iv, ov, _, h1, h2, hi, ho⟩ := h
  obtain ⟨s1, s2, s3, s4⟩ := hs
  refine ⟨h1, h2, by omega, by omega, fun x hx => ?_, fun x hx => ?_⟩
  · obtain ⟨A, c, _, _, _, h3⟩ := hi
    obtain ⟨k, hk, rfl⟩ := List.getElem_of_mem hx
    obtain ⟨b, o, _, _, hx'⟩ := h3 (by omega)
    obtain ⟨sv, _, g1, g2, g3, _⟩ := hx' k _ (List.getElem?_eq_getElem hk)
    have := s3 _ hx
    exact ⟨g1, g2, g3, by omega⟩
  · obtain ⟨A, c, _, _, _, h3⟩ := ho
    obtain ⟨k, hk, rfl⟩ := List.getElem_of_mem hx
    obtain ⟨b, o, _, _, hx'⟩ := h3 (by omega)
    obtain ⟨sv, _, g1, _⟩ := hx' k _ (List.getElem?_eq_getElem hk)
    have := s4 _ hx
    exact ⟨g1, by omega⟩
end Go.Proofs.YtcilabemglbhbaaGreatDoor

/- block.EncodeHeader: a header's bytes. -/
namespace Go.Proofs.YtcilabemglbhbaaGreatDoor
open Go Go.RowKit Go.Pur

structure Head where
  ver : Nat
  prev : Bytes
  root : Bytes
  time : Nat
  bits : Nat
  nonce : Nat
def headCells (h : Head) : List Value := .int .u32 (h.ver : Int) :: (bvs h.prev ++ (bvs h.root ++ [.int .u32 (h.time : Int), .int .u32 (h.bits : Int), .int .u32 (h.nonce : Int)]))
def HeadOk (h : Head) : Prop := Lt32 h.ver ∧ h.prev.length = 32 ∧ h.root.length = 32 ∧ Lt32 h.time ∧ Lt32 h.bits ∧ Lt32 h.nonce
def encHd (h : Head) : Bytes := le 4 h.ver ++ (h.prev ++ (h.root ++ (le 4 h.time ++ (le 4 h.bits ++ le 4 h.nonce))))
theorem encHd_length {h : Head} (hh : HeadOk h) : (encHd h).length = 80 := by
  obtain ⟨_, h1, h2, _⟩ := hh
  simp [encHd, le_length, h1, h2]
theorem encHd_app {a b : Head} {r s : Bytes} (ha : HeadOk a) (hb : HeadOk b) (h : encHd a ++ r = encHd b ++ s) : a = b ∧ r = s := by
  obtain ⟨a1, a2, a3, a4, a5, a6⟩ := ha
  obtain ⟨b1, b2, b3, b4, b5, b6⟩ := hb
  unfold encHd at h
  simp only [List.append_assoc] at h
  obtain ⟨e1, h⟩ := le4_app a1 b1 h
  obtain ⟨e2, h⟩ := app_inj (by omega) h
  obtain ⟨e3, h⟩ := app_inj (by omega) h
  obtain ⟨e4, h⟩ := le4_app a4 b4 h
  obtain ⟨e5, h⟩ := le4_app a5 b5 h
  obtain ⟨e6, h⟩ := le4_app a6 b6 h
  refine ⟨?_, h⟩
  cases a; cases b
  simp_all
theorem encHd_inj {a b : Head} (ha : HeadOk a) (hb : HeadOk b) (h : encHd a = encHd b) : a = b := (encHd_app (r := []) (s := []) ha hb (by rw [h])).1
theorem headCells_length {h : Head} (hh : HeadOk h) : (headCells h).length = 68 := by
  obtain ⟨_, h1, h2, _⟩ := hh
  simp [headCells, bvs_length, h1, h2]
theorem headCells_at {h : Head} (hh : HeadOk h) : (headCells h).toArray[0]? = some (.int .u32 (h.ver : Int)) ∧ (headCells h).toArray[65]? = some (.int .u32 (h.time : Int)) ∧ (headCells h).toArray[66]? = some (.int .u32 (h.bits : Int)) ∧ (headCells h).toArray[67]? = some (.int .u32 (h.nonce : Int)) := by
  obtain ⟨_, h1, h2, _⟩ := hh
  simp [headCells, bvs_length, h1, h2]
theorem bvs_at_lt {l : Bytes} {j : Nat} {u : Value} (hu : (bvs l)[j]? = some u) : j < l.length := by
  rcases Nat.lt_or_ge j (bvs l).length with h | h
  · rwa [bvs_length] at h
  · rw [List.getElem?_eq_none h] at hu; cases hu
theorem headCells_prev {h : Head} (j : Nat) (u : Value) (hu : (bvs h.prev)[j]? = some u) : (headCells h).toArray[1 + j]? = some u := by
  have hj := bvs_at_lt hu
  rw [List.getElem?_toArray, headCells, Nat.add_comm, List.getElem?_cons_succ, List.getElem?_append_left (by rw [bvs_length]; exact hj)]
  exact hu
theorem headCells_root {h : Head} (hh : HeadOk h) (j : Nat) (u : Value) (hu : (bvs h.root)[j]? = some u) : (headCells h).toArray[33 + j]? = some u := by
  obtain ⟨_, h1, h2, _⟩ := hh
  have hj := bvs_at_lt hu
  have e : 33 + j = (32 + j) + 1 := by omega
  rw [List.getElem?_toArray, headCells, e, List.getElem?_cons_succ, List.getElem?_append_right (by rw [bvs_length]; omega), bvs_length, h1, List.getElem?_append_left (by rw [bvs_length]; omega)]
  simpa using hu
theorem headCells_one (h : Head) : (headCells h).toArray.all (·.oneCell') = true := by
  rw [Array.all_eq_true_iff_forall_mem]
  intro u hu
  have hu' : u ∈ headCells h := by simpa using hu
  unfold headCells at hu'
  simp only [List.mem_cons, List.mem_append, List.not_mem_nil, or_false] at hu'
  rcases hu' with rfl | h1 | h1 | rfl | rfl | rfl
  · rfl
  · exact bvs_one _ u h1
  · exact bvs_one _ u h1
  · rfl
  · rfl
  · rfl

section
variable {P : Program}
theorem wpList_index {ops : Array Oper} {rest : List Oper} {o : Oper} {a : Act} {w : World} {Q : Exit → Act → World → Prop} (hgd : o.guard = none) (t : TypeId) (x y : Operand) (_ho : o.op = .index t x y) (v : Value) (hrun : (execOp a.eval o).run P w = .ok (.value v) w)
    (h : wpList P ops Q rest (a.put o.dst v) w) : wpList P ops Q (o :: rest) a w :=
  wpList_plain hgd fun _ hK => by
    unfold Oper.wp
    rw [hrun]
    exact hK _ _ h
end
def three (h : Head) (k : Nat) : Bytes := ([h.time, h.bits, h.nonce].take k).flatMap (le 4)
theorem three_length (h : Head) (k : Nat) (hk : k ≤ 3) : (three h k).length ≤ 12 := by
  match k, hk with
  | 0, _ => simp [three]
  | 1, _ => simp [three, le_length]
  | 2, _ => simp [three, le_length]
  | 3, _ => simp [three, le_length]
set_option maxRecDepth 100000 in
set_option maxHeartbeats 1600000 in
theorem encodeHeader_any (h : Head) (w : World) (hh : HeadOk h) :
    Calls Tryz.prog 7 #[.agg (headCells h).toArray] w fun e w' => ∃ v', e = .returned v' ∧ OwnB w' w.heap.size 5 v' (encHd h) ∧ Below w.heap.size w w' := by
  have hlen := headCells_length hh
  have hat := headCells_at hh
  have hpv := fun j u hu => headCells_prev (h := h) j u hu
  have hrt := fun j u hu => headCells_root hh j u hu
  have hea : Hid (encHd h = ((((([] ++ le 4 h.ver) ++ (h.prev ++ h.root)) ++ le 4 h.time) ++ le 4 h.bits) ++ le 4 h.nonce)) := Lib.hid (by simp [encHd])
  obtain ⟨o1, o2, o3, o4, o5, o6⟩ := hh
  have w1 := wrapU64' o1
  have w4 := wrapU64' o4
  have w5 := wrapU64' o5
  have w6 := wrapU64' o6
  have hlp := Lib.hid o2
  have hlr := Lib.hid o3
  clear o2 o3
  generalize (headCells h).toArray = ca at *
  have hx : Blk (w.alloc (.cells ca 26)) w.heap.size 26 ca := Blk.new w _ _
  have hbw : Below w.heap.size w (w.alloc (.cells ca 26)) := (Below.refl _ _).alloc (Nat.le_refl _) _
  have c0 := (hx.cell 0).trans hat.1
  clear hlen
  go_enter Tryz.func7, Tryz.ntmps7
  go_wp2_with fail
  have hp1 : PenAt ((w.alloc (.cells ca 26)).alloc (.cells #[.slice none 0 0] 57)) (w.heap.size + 1) none [] := by
    have := PenAt.new (w.alloc (.cells ca 26))
    simpa using this
  refine (fixed4_any (w.heap.size + 1) none [] h.ver _ o1 (by simp) hp1).mono ?_
  rintro e w2 ⟨rfl, q2, hp2, hu2⟩
  have hx2 := hu2.blk (hx.alloc _) (by omega) (by simp)
  have hb2 : Below w.heap.size w w2 := (hbw.alloc (by simp) _).trans (hu2.below (by simp; omega) (by omega) (by simp))
  clear c0 hx hbw hp1
  have hL2 : Hid (([] ++ le 4 h.ver).length = 4) := Lib.hid (by simp [le_length])
  generalize hL2e : ([] ++ le 4 h.ver : Bytes) = L2 at *
  have hL2' := Lib.hid hL2e
  clear hL2e
  go_wp2_with fail
  refine wp_region_tail 4 (by kernel_rfl) (by kernel_rfl) ?_
  intro W3 hW3
  simp only [List.take_succ_cons, List.take_zero, List.drop_succ_cons, List.drop_zero]
  have hx3 : Blk W3 w.heap.size 26 ca := by rw [hW3]; exact hx2.drew
  have hp3 : PenAt W3 (w.heap.size + 1) q2 L2 := by rw [hW3]; exact hp2
  have hu3 : Upd (w.heap.size + 1) q2 w2 W3 q2 := by rw [hW3]; exact (Upd.refl _ _ _).drew
  clear hW3
  iterate 4 still_step
  refine wpStill_nil ?_
  go_wp2_with fail
  have hpl3 := hp3.lt
  have hX : Blk (W3.alloc (.cells #[.slice (some ⟨w.heap.size, 1, none⟩) 32 32, .slice (some ⟨w.heap.size, 33, none⟩) 32 32] 30)) w.heap.size 26 ca := hx3.alloc _
  have hne : some w.heap.size ≠ q2 := by
    rcases hu2.fresh with e | ⟨j, e, hj⟩
    · rw [e]; simp
    · rw [e]; simp at hj ⊢; omega
  refine (raw2_any (w.heap.size + 1) q2 L2 h.prev h.root W3.heap.size 0 2 _ _ _ _ (by rw [hL2.out]; omega) (by rw [hlp.out]; omega) (by rw [hlr.out]; omega) (Nat.le_refl _) (hp3.alloc _) (reads_of_blk hX h.prev 1 32 32 hlp.out.symm (Nat.le_refl _) (by simp [maxLen]) hpv) (reads_of_blk hX h.root 33 32 32 hlr.out.symm (Nat.le_refl _) (by simp [maxLen]) hrt) (by simp) (by simp)).mono ?_
  rintro e w4 ⟨rfl, q4, hp4, hu4⟩
  have hx4 := hu4.blk hX (by omega) hne
  have hu24 := hu2.trans ((hu3.alloc (.cells #[.slice (some ⟨w.heap.size, 1, none⟩) 32 32, .slice (some ⟨w.heap.size, 33, none⟩) 32 32] 30)).trans hu4)
  have hL4 : Hid ((L2 ++ (h.prev ++ h.root)).length = 68) := Lib.hid (by simp [hL2.out, hlp.out, hlr.out])
  generalize hL : L2 ++ (h.prev ++ h.root) = L4 at *
  have hL' := Lib.hid hL
  clear hL
  have c5 := (hx4.cell 65).trans hat.2.1
  have c6 := (hx4.cell 66).trans hat.2.2.1
  have c7 := (hx4.cell 67).trans hat.2.2.2
  clear hp3 hu3 hX hne hpl3 hx3 hp2 hu4 hx4 hat hpv hrt
  go_wp2_with fail
  go_loopw [26] (fun i wr => ∃ (k : Nat) (q : Option Nat), k ≤ 3 ∧ i = .int .i64 (k : Int) ∧ PenAt wr (w.heap.size + 1) q (L4 ++ three h k) ∧ Upd (w.heap.size + 1) none ((w.alloc (.cells ca 26)).alloc (.cells #[.slice none 0 0] 57)) wr q) (fun i _ => 3 - (intOf i).toNat)
  case atStart => exact ⟨0, q4, by omega, rfl, by simpa [three] using hp4, hu24⟩
  case round =>
    obtain ⟨k, q, hk, rfl, hp, hu⟩ := hrel
    have hl3 := three_length h k hk
    have hlk : (L4 ++ three h k).length ≤ 1000 := by rw [List.length_append, hL4.out]; omega
    have hm : k = 0 ∨ k = 1 ∨ k = 2 ∨ k = 3 := by omega
    rcases hm with rfl | rfl | rfl | rfl
    · have e1 : L4 ++ three h 1 = (L4 ++ three h 0) ++ le 4 h.time := by simp [three]
      have e1' := Lib.hid e1
      clear e1
      generalize L4 ++ three h 0 = M at *
      simp only [Int.cast_ofNat_Int] at *
      go_wp2_with (refine wpList_index rfl _ _ _ rfl (.int .u32 (h.time : Int)) (by kernel_rfl) ?_)
      refine (fixed4_any (w.heap.size + 1) q M h.time _ o4 (by omega) hp).mono ?_
      rintro e w6 ⟨rfl, q6, hp6, hu6⟩
      go_wp2_with fail
      go_roundw
      case rel => exact ⟨1, q6, by omega, by go_num, by rw [e1'.out]; exact hp6, hu.trans hu6⟩
      case measure => simp [intOf]
    · have e1 : L4 ++ three h 2 = (L4 ++ three h 1) ++ le 4 h.bits := by simp [three]
      have e1' := Lib.hid e1
      clear e1
      generalize L4 ++ three h 1 = M at *
      simp only [Int.cast_ofNat_Int] at *
      go_wp2_with (refine wpList_index rfl _ _ _ rfl (.int .u32 (h.bits : Int)) (by kernel_rfl) ?_)
      refine (fixed4_any (w.heap.size + 1) q M h.bits _ o5 (by omega) hp).mono ?_
      rintro e w6 ⟨rfl, q6, hp6, hu6⟩
      go_wp2_with fail
      go_roundw
      case rel => exact ⟨2, q6, by omega, by go_num, by rw [e1'.out]; exact hp6, hu.trans hu6⟩
      case measure => simp [intOf]
    · have e1 : L4 ++ three h 3 = (L4 ++ three h 2) ++ le 4 h.nonce := by simp [three]
      have e1' := Lib.hid e1
      clear e1
      generalize L4 ++ three h 2 = M at *
      simp only [Int.cast_ofNat_Int] at *
      go_wp2_with (refine wpList_index rfl _ _ _ rfl (.int .u32 (h.nonce : Int)) (by kernel_rfl) ?_)
      refine (fixed4_any (w.heap.size + 1) q M h.nonce _ o6 (by omega) hp).mono ?_
      rintro e w6 ⟨rfl, q6, hp6, hu6⟩
      go_wp2_with fail
      go_roundw
      case rel => exact ⟨3, q6, by omega, by go_num, by rw [e1'.out]; exact hp6, hu.trans hu6⟩
      case measure => simp [intOf]
    · have e1 : encHd h = L4 ++ three h 3 := by rw [hea.out]; simp [three]
      generalize L4 ++ three h 3 = M at *
      have e1' := Lib.hid e1
      clear e1 hea
      simp only [Int.cast_ofNat_Int] at *
      go_wp2_with fail
      refine (all_any (w.heap.size + 1) q M _ (by omega) hp).mono ?_
      rintro e w5 ⟨v', rfl, hown5, hb5⟩
      go_wp2_with fail
      go_ret
      have hs := hu.size
      simp at hs
      have hbf : Below w.heap.size w w5 := ((((Below.refl _ _).alloc (Nat.le_refl _) _).alloc (by simp) _).trans (hu.below (by simp; omega) (by omega) (by simp))).trans (hb5.mono (by omega))
      rw [e1'.out]
      exact ⟨v', rfl, World.ownsRow_base hown5 (fun k hk => by have := (hown5.lt k hk).1; omega), hbf⟩
end Go.Proofs.YtcilabemglbhbaaGreatDoor
