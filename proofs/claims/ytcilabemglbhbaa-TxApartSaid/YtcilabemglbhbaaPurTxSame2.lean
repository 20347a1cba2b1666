/- tx.Same: just whether the two transactions are one. -/
import Derived.Test.YtcilabemglbhbaaPurTxSame
namespace Go.Proofs.Ytcilabemglbhbaa
open Go Go.RowKit Go.Pur

theorem tx_eq (a b : TTx) : decide (a = b) = (((((a.ver : Int) == (b.ver : Int)) && ((a.lock : Int) == (b.lock : Int))) && decide (a.ins = b.ins)) && decide (a.outs = b.outs)) := by
  obtain ⟨x, y, z, t⟩ := a
  obtain ⟨x', y', z', t'⟩ := b
  rw [Bool.eq_iff_iff]
  simp only [decide_eq_true_eq, TTx.mk.injEq, Bool.and_eq_true, beq_iff_eq]
  constructor
  · rintro ⟨rfl, rfl, rfl, rfl⟩
    simp
  · rintro ⟨⟨⟨h1, h2⟩, h3⟩, h4⟩
    exact ⟨by omega, h3, h4, by omega⟩

set_option maxRecDepth 100000 in
set_option maxHeartbeats 1600000 in
theorem same_any (va vb : Value) (a b : TTx) (B : Nat) (w : World) (hB : B ≤ w.heap.size) (ha : TxAt w B va a) (hb : TxAt w B vb b) :
    Calls Try.prog 18 #[va, vb] w fun e w' => e = .returned (.bool (decide (a = b))) ∧ Below w.heap.size w w' := by
  obtain ⟨ia, oa, rfl, -, -, hia, hoa⟩ := ha
  obtain ⟨ib, ob, rfl, -, -, hib, hob⟩ := hb
  obtain ⟨A1, n1, c1, rfl⟩ : ∃ A n c, ia = .slice A n c := by obtain ⟨A, c, h, _⟩ := hia; exact ⟨A, _, c, h⟩
  obtain ⟨A2, n2, c2, rfl⟩ : ∃ A n c, oa = .slice A n c := by obtain ⟨A, c, h, _⟩ := hoa; exact ⟨A, _, c, h⟩
  obtain ⟨A3, n3, c3, rfl⟩ : ∃ A n c, ib = .slice A n c := by obtain ⟨A, c, h, _⟩ := hib; exact ⟨A, _, c, h⟩
  obtain ⟨A4, n4, c4, rfl⟩ : ∃ A n c, ob = .slice A n c := by obtain ⟨A, c, h, _⟩ := hob; exact ⟨A, _, c, h⟩
  obtain ⟨W1, hW1⟩ : ∃ W1, (w.alloc (.cells #[.int .u32 (a.ver : Int), .slice A1 n1 c1, .slice A2 n2 c2, .int .u32 (a.lock : Int)] 26)).alloc (.cells #[.int .u32 (b.ver : Int), .slice A3 n3 c3, .slice A4 n4 c4, .int .u32 (b.lock : Int)] 26) = W1 := ⟨_, rfl⟩
  have hbw : Below w.heap.size w W1 := by rw [← hW1]; exact ((Below.refl _ _).alloc (Nat.le_refl _) _).alloc (by simp) _
  have hba : Blk W1 w.heap.size 26 #[.int .u32 (a.ver : Int), .slice A1 n1 c1, .slice A2 n2 c2, .int .u32 (a.lock : Int)] := by rw [← hW1]; exact (Blk.new w _ _).alloc _
  have hbb : Blk W1 (w.heap.size + 1) 26 #[.int .u32 (b.ver : Int), .slice A3 n3 c3, .slice A4 n4 c4, .int .u32 (b.lock : Int)] := by
    rw [← hW1]
    have := Blk.new (w.alloc (.cells #[.int .u32 (a.ver : Int), .slice A1 n1 c1, .slice A2 n2 c2, .int .u32 (a.lock : Int)] 26)) 26 #[.int .u32 (b.ver : Int), .slice A3 n3 c3, .slice A4 n4 c4, .int .u32 (b.lock : Int)]
    simpa using this
  have hBW := Nat.le_trans hB hbw.size
  have hins := equalIns_any _ _ a.ins b.ins B W1 hBW (hia.below (hbw.mono hB)) (hib.below (hbw.mono hB))
  have houts := fun W (h : Below W1.heap.size W1 W) => equalOuts_any _ _ a.outs b.outs B W (Nat.le_trans hBW h.size) ((hoa.below (hbw.mono hB)).below (h.mono hBW)) ((hob.below (hbw.mono hB)).below (h.mono hBW))
  have ca0 := hba.cell 0
  have ca1 := hba.cell 1
  have ca3 := hba.cell 3
  have cb0 := hbb.cell 0
  have cb1 := hbb.cell 1
  have cb3 := hbb.cell 3
  have hbw' := hbw
  have htx := Lib.hid (tx_eq a b)
  clear hia hoa hib hob
  generalize e1 : ((a.ver : Int) == (b.ver : Int)) = q1 at *
  generalize e2 : ((a.lock : Int) == (b.lock : Int)) = q2 at *
  have e1' : (a.ver = b.ver) ↔ q1 = true := by rw [← e1, beq_iff_eq]; omega
  have e2' : (a.lock = b.lock) ↔ q2 = true := by rw [← e2, beq_iff_eq]; omega
  generalize e3 : decide (a.ins = b.ins) = q3 at *
  clear e3
  cases q1
  · go_enter Try.func18, Try.ntmps18
    go_wp2_with fail
    go_ret
    exact ⟨ret_bool (by rw [htx.out]; rfl), hbw'⟩
  · cases q2
    · go_enter Try.func18, Try.ntmps18
      go_wp2_with fail
      go_ret
      exact ⟨ret_bool (by rw [htx.out]; rfl), hbw'⟩
    · cases q3
      · go_enter Try.func18, Try.ntmps18
        go_wp2_with fail
        refine hins.mono ?_
        rintro e w1 ⟨rfl, hb1⟩
        go_wp2_with fail
        go_ret
        exact ⟨ret_bool (by rw [htx.out]; rfl), hbw'.trans (hb1.mono hbw'.size)⟩
      · go_enter Try.func18, Try.ntmps18
        go_wp2_with fail
        refine hins.mono ?_
        rintro e w1 ⟨rfl, hb1⟩
        have hba1 := hba.below hb1 hba.lt
        have hbb1 := hbb.below hb1 hbb.lt
        have ca2 := hba1.cell 2
        have cb2 := hbb1.cell 2
        go_wp2_with fail
        refine (houts w1 hb1).mono ?_
        rintro e w2 ⟨rfl, hb2⟩
        go_wp2_with fail
        go_ret
        exact ⟨ret_bool (by rw [htx.out]; rfl), (hbw'.trans (hb1.mono hbw'.size)).trans (hb2.mono (Nat.le_trans hbw'.size hb1.size))⟩
end Go.Proofs.Ytcilabemglbhbaa
