/- Plain laws: a header's bytes, read and written. -/
import Derived.Test.YtcilabemglbhbaaGreatDoorK26
import Derived.Test.YtcilabemglbhbaaGreatDoorK18
import Derived.Test.YtcilabemglbhbaaGreatDoorK17
namespace Go.Proofs.YtcilabemglbhbaaGreatDoor
open Go Go.RowKit Go.Pur

theorem le_leV : ∀ l : Bytes, le l.length (leV l) = l
  | [] => rfl
  | c :: r => by
    have h1 : UInt8.ofNat (c.toNat + 256 * leV r) = c := by
      apply UInt8.toNat_inj.1
      rw [UInt8.toNat_ofNat']
      have := c.toNat_lt
      omega
    have h2 : (c.toNat + 256 * leV r) / 256 = leV r := by have := c.toNat_lt; omega
    simp only [List.length_cons, le, leV, h1, h2, le_leV r]
theorem leV_le : ∀ (k x : Nat), x < 256 ^ k → leV (le k x) = x
  | 0, x, h => by simp at h; simp [le, leV, h]
  | k + 1, x, h => by
    have h1 : x / 256 < 256 ^ k := by rw [Nat.div_lt_iff_lt_mul (by decide)]; rw [Nat.pow_succ] at h; exact h
    rw [le, leV, leV_le k _ h1, UInt8.toNat_ofNat']
    omega
theorem hFour_ge {l : Bytes} (h : 4 ≤ l.length) : le 4 (hFour l).1 = l.take 4 ∧ (hFour l).2 = l.drop 4 := by
  have e : hFour l = (leV (l.take 4), l.drop 4) := by rw [hFour, if_pos h]
  rw [e]
  refine ⟨?_, rfl⟩
  have := le_leV (l.take 4)
  rwa [List.length_take, Nat.min_eq_left h] at this
theorem hRaw_ge {l : Bytes} (h : 32 ≤ l.length) : (hRaw l).1 = l.take 32 ∧ (hRaw l).2 = l.drop 32 := by
  have e : hRaw l = (l.take 32, l.drop 32) := by rw [hRaw, if_pos h]
  rw [e]
  exact ⟨rfl, rfl⟩
/-- what is read of 80 bytes or more has these for its bytes. -/
theorem encHd_rHead_app (l : Bytes) (h : 80 ≤ l.length) : encHd (rHead l) ++ hL6 l = l := by
  obtain ⟨a1, a2⟩ := hFour_ge (l := l) (by omega)
  have b0 : (hL1 l).length = l.length - 4 := by show (hFour l).2.length = _; rw [a2, List.length_drop]
  obtain ⟨b1, b2⟩ := hRaw_ge (l := hL1 l) (by omega)
  have c0 : (hL2 l).length = l.length - 36 := by show (hRaw (hL1 l)).2.length = _; rw [b2, List.length_drop, b0]; omega
  obtain ⟨c1, c2⟩ := hRaw_ge (l := hL2 l) (by omega)
  have d0 : (hL3 l).length = l.length - 68 := by show (hRaw (hL2 l)).2.length = _; rw [c2, List.length_drop, c0]; omega
  obtain ⟨d1, d2⟩ := hFour_ge (l := hL3 l) (by omega)
  have e0 : (hL4 l).length = l.length - 72 := by show (hFour (hL3 l)).2.length = _; rw [d2, List.length_drop, d0]; omega
  obtain ⟨e1, e2⟩ := hFour_ge (l := hL4 l) (by omega)
  have f0 : (hL5 l).length = l.length - 76 := by show (hFour (hL4 l)).2.length = _; rw [e2, List.length_drop, e0]; omega
  obtain ⟨f1, f2⟩ := hFour_ge (l := hL5 l) (by omega)
  have g2 : hL6 l = (hL5 l).drop 4 := f2
  have g1 : hL5 l = (hL4 l).drop 4 := e2
  have g0 : hL4 l = (hL3 l).drop 4 := d2
  have h3 : hL3 l = (hL2 l).drop 32 := c2
  have h2 : hL2 l = (hL1 l).drop 32 := b2
  have h1 : hL1 l = l.drop 4 := a2
  unfold encHd rHead
  dsimp only
  rw [a1, b1, c1, d1, e1, f1]
  simp only [List.append_assoc]
  rw [g2, List.take_append_drop, g1, List.take_append_drop, g0, List.take_append_drop, h3, List.take_append_drop, h2, List.take_append_drop, h1, List.take_append_drop]
theorem hL6_length (l : Bytes) (h : 80 ≤ l.length) : (hL6 l).length = l.length - 80 := by
  have e := congrArg List.length (encHd_rHead_app l h)
  rw [List.length_append, encHd_length (rHead_ok l)] at e
  omega
theorem encHd_rHead (l : Bytes) (h : l.length = 80) : encHd (rHead l) = l := by
  have e := encHd_rHead_app l (by omega)
  have e3 := hL6_length l (by omega)
  have e2 : hL6 l = [] := List.eq_nil_of_length_eq_zero (by rw [e3]; omega)
  rw [e2, List.append_nil] at e
  exact e
theorem rHead_encHd {h : Head} (hh : HeadOk h) (r : Bytes) : rHead (encHd h ++ r) = h ∧ hL6 (encHd h ++ r) = r := by
  have hl : 80 ≤ (encHd h ++ r).length := by rw [List.length_append, encHd_length hh]; omega
  have h1 := encHd_rHead_app _ hl
  have h2 := rHead_ok (encHd h ++ r)
  generalize rHead (encHd h ++ r) = x at *
  generalize hL6 (encHd h ++ r) = y at *
  exact encHd_app h2 hh h1
end Go.Proofs.YtcilabemglbhbaaGreatDoor
namespace Go.Proofs.YtcilabemglbhbaaGreatDoor
open Go Go.RowKit Go.Pur

deriving instance DecidableEq for Head
theorem head_ext (a b : Head) : decide (a = b) = (((((((a.ver : Int) == (b.ver : Int)) && (a.prev == b.prev)) && (a.root == b.root)) && ((a.time : Int) == (b.time : Int))) && ((a.bits : Int) == (b.bits : Int))) && ((a.nonce : Int) == (b.nonce : Int))) := by
  obtain ⟨x1, x2, x3, x4, x5, x6⟩ := a
  obtain ⟨y1, y2, y3, y4, y5, y6⟩ := b
  rw [Bool.eq_iff_iff]
  simp only [decide_eq_true_eq, Head.mk.injEq, Bool.and_eq_true, beq_iff_eq, Int.ofNat_inj, and_assoc]
theorem headCells_ex1 {h : Head} (hh : HeadOk h) : (headCells h).toArray.extract 1 (1 + 32) = (bvs h.prev).toArray := by
  obtain ⟨_, h1, h2, _⟩ := hh
  have e1 : (bvs h.prev).length = 32 := by rw [bvs_length, h1]
  apply Array.ext'
  simp [headCells, e1]
theorem headCells_ex2 {h : Head} (hh : HeadOk h) : (headCells h).toArray.extract 33 (33 + 32) = (bvs h.root).toArray := by
  obtain ⟨_, h1, h2, _⟩ := hh
  have e1 : (bvs h.prev).length = 32 := by rw [bvs_length, h1]
  have e2 : (bvs h.root).length = 32 := by rw [bvs_length, h2]
  apply Array.ext'
  simp [headCells, e1, e2]
set_option maxRecDepth 100000 in
theorem run_equalIn_head (w : World) (a b : Head) (ha : HeadOk a) (hb : HeadOk b) :
    (Op.equalIn 10000 26 (.agg (headCells a).toArray) (.agg (headCells b).toArray)).run Tryz.prog w = .ok (decide (a = b)) w := by
  obtain ⟨f0, f1, f2, f3, f4, f5, hf, n0, n1, n2, n3, n4, n5, t0, t1, t2, t3, t4, t5, o0, o1, o2, o3, o4, o5⟩ : ∃ f0 f1 f2 f3 f4 f5 : Field, Tryz.prog.fieldsOf 26 = #[f0, f1, f2, f3, f4, f5] ∧ f0.name ≠ "_" ∧ f1.name ≠ "_" ∧ f2.name ≠ "_" ∧ f3.name ≠ "_" ∧ f4.name ≠ "_" ∧ f5.name ≠ "_" ∧
      f0.type = 22 ∧ f1.type = 24 ∧ f2.type = 24 ∧ f3.type = 22 ∧ f4.type = 22 ∧ f5.type = 22 ∧ f0.offset = 0 ∧ f1.offset = 1 ∧ f2.offset = 33 ∧ f3.offset = 65 ∧ f4.offset = 66 ∧ f5.offset = 67 :=
    ⟨(Tryz.prog.fieldsOf 26)[0]!, (Tryz.prog.fieldsOf 26)[1]!, (Tryz.prog.fieldsOf 26)[2]!, (Tryz.prog.fieldsOf 26)[3]!, (Tryz.prog.fieldsOf 26)[4]!, (Tryz.prog.fieldsOf 26)[5]!, by kernel_rfl, of_decide_eq_true (by kernel_rfl), of_decide_eq_true (by kernel_rfl), of_decide_eq_true (by kernel_rfl), of_decide_eq_true (by kernel_rfl), of_decide_eq_true (by kernel_rfl), of_decide_eq_true (by kernel_rfl), by kernel_rfl, by kernel_rfl, by kernel_rfl, by kernel_rfl, by kernel_rfl, by kernel_rfl, by kernel_rfl, by kernel_rfl, by kernel_rfl, by kernel_rfl, by kernel_rfl, by kernel_rfl⟩
  have hI : ∀ (x y : Int), (Op.equalIn 9999 22 (.int .u32 x) (.int .u32 y)).run Tryz.prog w = .ok (x == y) w := fun x y => run_equalIn_int w 9998 22 .u32 .u32 x y Tryz.underlying22
  have hH : ∀ (x y : Bytes), x.length = 32 → y.length = 32 → (Op.equalIn 9999 24 (.agg (bvs x).toArray) (.agg (bvs y).toArray)).run Tryz.prog w = .ok (x == y) w := fun x y hx hy => run_equalIn_hash w 9997 24 5 32 Tryz.underlying24 Tryz.underlying5 (by kernel_rfl) x y hx hy
  have pH : ∀ (cs : Array Value) (off : Nat), (part 24 cs off).run Tryz.prog w = .ok (.agg (cs.extract off (off + 32))) w := fun cs off => run_part_agg w 24 _ cs off 32 Tryz.underlying24 rfl (by kernel_rfl)
  have pI : ∀ (cs : Array Value) (off : Nat) (v : Value), cs[off]? = some v → (part 22 cs off).run Tryz.prog w = .ok v w := fun cs off v h => run_part_int w 22 .u32 cs off v Tryz.underlying22 h
  have a0 := headCells_at ha
  have b0 := headCells_at hb
  rw [show (10000 : Nat) = 9999 + 1 from rfl, run_equalIn_struct w 9999 26 _ _ (by kernel_rfl) (by kernel_rfl), hf]
  have i1 := hI (a.ver : Int) (b.ver : Int)
  have i2 := hH _ _ ha.2.1 hb.2.1
  have i3 := hH _ _ ha.2.2.1 hb.2.2.1
  have i4 := hI (a.time : Int) (b.time : Int)
  have i5 := hI (a.bits : Int) (b.bits : Int)
  have i6 := hI (a.nonce : Int) (b.nonce : Int)
  have p0 := pI _ _ _ a0.1
  have p3 := pI _ _ _ a0.2.1
  have p4 := pI _ _ _ a0.2.2.1
  have p5 := pI _ _ _ a0.2.2.2
  have r0 := pI _ _ _ b0.1
  have r3 := pI _ _ _ b0.2.1
  have r4 := pI _ _ _ b0.2.2.1
  have r5 := pI _ _ _ b0.2.2.2
  have p1 := pH (headCells a).toArray 1
  have p2 := pH (headCells a).toArray 33
  have r1 := pH (headCells b).toArray 1
  have r2 := pH (headCells b).toArray 33
  rw [headCells_ex1 ha] at p1
  rw [headCells_ex2 ha] at p2
  rw [headCells_ex1 hb] at r1
  rw [headCells_ex2 hb] at r2
  rw [head_ext]
  clear a0 b0 hI hH pH pI
  generalize ((a.ver : Int) == (b.ver : Int)) = q1 at *
  generalize (a.prev == b.prev) = q2 at *
  generalize (a.root == b.root) = q3 at *
  generalize ((a.time : Int) == (b.time : Int)) = q4 at *
  generalize ((a.bits : Int) == (b.bits : Int)) = q5 at *
  generalize ((a.nonce : Int) == (b.nonce : Int)) = q6 at *
  generalize (headCells a).toArray = ca at *
  generalize (headCells b).toArray = cb at *
  cases q1 <;> cases q2 <;> cases q3 <;> cases q4 <;> cases q5 <;> cases q6 <;>
    simp [Op.eqFields, n0, n1, n2, n3, n4, n5, t0, t1, t2, t3, t4, t5, o0, o1, o2, o3, o4, o5, i1, i2, i3, i4, i5, i6, p0, p1, p2, p3, p4, p5, r0, r1, r2, r3, r4, r5, Sem.run_bind, Sem.run_pure, Result.andThen]
theorem run_eql_head (w : World) (a b : Head) (ha : HeadOk a) (hb : HeadOk b) :
    (binOp .eql 26 (.agg (headCells a).toArray) (.agg (headCells b).toArray)).run Tryz.prog w = .ok (.bool (decide (a = b))) w := by
  rw [run_eql_struct, run_equalIn_head w a b ha hb]
  rfl
theorem run_neq_head (w : World) (a b : Head) (ha : HeadOk a) (hb : HeadOk b) :
    (binOp .neq 26 (.agg (headCells a).toArray) (.agg (headCells b).toArray)).run Tryz.prog w = .ok (.bool (!decide (a = b))) w := by
  rw [run_neq_struct, run_equalIn_head w a b ha hb]
  rfl
end Go.Proofs.YtcilabemglbhbaaGreatDoor

/- Blocks as plain data, and their bytes. -/
namespace Go.Proofs.YtcilabemglbhbaaGreatDoor
open Go Go.RowKit Go.Pur

structure TBlk where
  head : Head
  txs : List TTx
def encTxs (xs : List TTx) : Bytes := xs.flatMap enc
def encBlk (x : TBlk) : Bytes := (encHd x.head ++ szB x.txs.length) ++ encTxs x.txs
def tcells (t : TTx) (iv ov : Value) : List Value := [.int .u32 (t.ver : Int), iv, ov, .int .u32 (t.lock : Int)]
/-- the slice value v reads as the transactions xs; all lies below block B. -/
def TxsAt (w : World) (B : Nat) (v : Value) (xs : List TTx) : Prop := ∃ A c, v = .slice A xs.length c ∧ xs.length ≤ c ∧ c ≤ maxLen ∧ (0 < xs.length → ∃ b o, A = some ⟨b, o, none⟩ ∧ b < B ∧
  ∀ k t, xs[k]? = some t → ∃ iv ov, (∀ j u, (tcells t iv ov)[j]? = some u → w.cell? ⟨b, o + k * 4 + j, none⟩ = some u) ∧ TxAt w B (.agg (tcells t iv ov).toArray) t)
def BlkAt (w : World) (B : Nat) (v : Value) (x : TBlk) : Prop := ∃ sv, v = .agg (headCells x.head ++ [sv]).toArray ∧ HeadOk x.head ∧ TxsAt w B sv x.txs
theorem TxsAt.keep {w w' : World} {B : Nat} {v : Value} {xs : List TTx} (h : TxsAt w B v xs) (hk : ∀ p : Addr, p.block < B → w'.cell? p = w.cell? p) : TxsAt w' B v xs := by
  obtain ⟨A, c, hv, h1, h2, h3⟩ := h
  refine ⟨A, c, hv, h1, h2, fun hn => ?_⟩
  obtain ⟨b, o, hA, hb, hx⟩ := h3 hn
  refine ⟨b, o, hA, hb, fun k t hk' => ?_⟩
  obtain ⟨iv, ov, hc, ht⟩ := hx k t hk'
  exact ⟨iv, ov, fun j u hu => (hk _ hb).trans (hc j u hu), ht.keep hk⟩
theorem TxsAt.below {w w' : World} {B : Nat} {v : Value} {xs : List TTx} (h : TxsAt w B v xs) (hb : Below B w w') : TxsAt w' B v xs := h.keep fun _ hp => hb.cell hp
theorem BlkAt.below {w w' : World} {B : Nat} {v : Value} {x : TBlk} (h : BlkAt w B v x) (hb : Below B w w') : BlkAt w' B v x := by
  obtain ⟨sv, hv, h1, h2⟩ := h
  exact ⟨sv, hv, h1, h2.below hb⟩
theorem encTxs_snoc (xs : List TTx) (k : Nat) (h : k < xs.length) : encTxs (xs.take (k + 1)) = encTxs (xs.take k) ++ enc xs[k] := by
  rw [List.take_succ_eq_append_getElem h]; simp only [encTxs, List.flatMap_append, List.flatMap_cons, List.flatMap_nil, List.append_nil]
end Go.Proofs.YtcilabemglbhbaaGreatDoor
