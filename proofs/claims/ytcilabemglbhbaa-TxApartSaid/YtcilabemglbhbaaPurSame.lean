/- The reference's Same, and Coinbase. -/
import Derived.Test.YtcilabemglbhbaaPurRefTx
import Derived.Deep.RegionWith
namespace Go.Proofs.Ytcilabemglbhbaa
open Go Go.RowKit Go.Pur

theorem run_strP {w : World} {B : Nat} {v : Value} {l : Bytes} (h : Byt w B v l) : (convert 29 9 v).run Try.prog w = .ok (.string (strB l)) w :=
  run_str h _ _ 5 Try.underlying29 Try.underlying5 Try.underlying9

theorem beqB (a b : Bytes) : ((strB a).toList == (strB b).toList) = decide (a = b) := by
  rw [strB_toList, strB_toList]
  rw [Bool.eq_iff_iff]
  simp

set_option maxRecDepth 100000 in
set_option maxHeartbeats 1600000 in
theorem refSame_any (va vb : Value) (a b : TTx) (B : Nat) (w : World) (hB : B ≤ w.heap.size) (ha : TxAt w B va a) (hb : TxAt w B vb b) (hsa : Small a) (hsb : Small b) :
    Calls Try.prog 15 #[va, vb] w fun e w' => e = .returned (.bool (decide (enc a = enc b))) ∧ Below w.heap.size w w' := by
  have ha0 := ha
  have hb0 := hb
  obtain ⟨ia, oa, rfl, -, -, hia, hoa⟩ := ha
  obtain ⟨ib, ob, rfl, -, -, hib, hob⟩ := hb
  obtain ⟨A1, n1, c1, rfl⟩ : ∃ A n c, ia = .slice A n c := by obtain ⟨A, c, h, _⟩ := hia; exact ⟨A, _, c, h⟩
  obtain ⟨A2, n2, c2, rfl⟩ : ∃ A n c, oa = .slice A n c := by obtain ⟨A, c, h, _⟩ := hoa; exact ⟨A, _, c, h⟩
  obtain ⟨A3, n3, c3, rfl⟩ : ∃ A n c, ib = .slice A n c := by obtain ⟨A, c, h, _⟩ := hib; exact ⟨A, _, c, h⟩
  obtain ⟨A4, n4, c4, rfl⟩ : ∃ A n c, ob = .slice A n c := by obtain ⟨A, c, h, _⟩ := hob; exact ⟨A, _, c, h⟩
  clear hia hoa hib hob
  obtain ⟨W1, hW1⟩ : ∃ W1, (w.alloc (.cells #[.int .u32 (a.ver : Int), .slice A1 n1 c1, .slice A2 n2 c2, .int .u32 (a.lock : Int)] 26)).alloc (.cells #[.int .u32 (b.ver : Int), .slice A3 n3 c3, .slice A4 n4 c4, .int .u32 (b.lock : Int)] 26) = W1 := ⟨_, rfl⟩
  have hbw : Below w.heap.size w W1 := by rw [← hW1]; exact ((Below.refl _ _).alloc (Nat.le_refl _) _).alloc (by simp) _
  have hba : Blk W1 w.heap.size 26 #[.int .u32 (a.ver : Int), .slice A1 n1 c1, .slice A2 n2 c2, .int .u32 (a.lock : Int)] := by rw [← hW1]; exact (Blk.new w _ _).alloc _
  have hbb : Blk W1 (w.heap.size + 1) 26 #[.int .u32 (b.ver : Int), .slice A3 n3 c3, .slice A4 n4 c4, .int .u32 (b.lock : Int)] := by
    rw [← hW1]
    have := Blk.new (w.alloc (.cells #[.int .u32 (a.ver : Int), .slice A1 n1 c1, .slice A2 n2 c2, .int .u32 (a.lock : Int)] 26)) 26 #[.int .u32 (b.ver : Int), .slice A3 n3 c3, .slice A4 n4 c4, .int .u32 (b.lock : Int)]
    simpa using this
  have ha1 := ha0.below (hbw.mono hB)
  have hb1 := hb0.below (hbw.mono hB)
  have hBW := Nat.le_trans hB hbw.size
  have ca0 := hba.cell 0
  have ca1 := hba.cell 1
  have ca2 := hba.cell 2
  have ca3 := hba.cell 3
  have cb0 := hbb.cell 0
  have cb1 := hbb.cell 1
  have cb2 := hbb.cell 2
  have cb3 := hbb.cell 3
  go_enter Try.func15, Try.ntmps15
  go_wp2_with fail
  clear hW1
  have tokA : True := trivial
  go_region_with (first
    | (have _t := tokA
       go_at_call 31
       refine (refTxBytes_any _ a B _ (by exact hBW) (by exact ha1) hsa).mono ?_
       clear tokA
       rintro e w2 ⟨v2, rfl, h2, hb20⟩
       have hb2 : Below W1.heap.size W1 w2 := ⟨hb20.os, hb20.tape, hb20.output, hb20.size, hb20.block⟩
       have hs2 := run_strP (Byt.of_own h2)
       have hbb2 := hbb.below hb2 hbb.lt
       have cb02 := hbb2.cell 0
       have cb12 := hbb2.cell 1
       have cb22 := hbb2.cell 2
       have cb32 := hbb2.cell 3)
    | (go_at_call 31
       refine (refTxBytes_any _ b B w2 (Nat.le_trans hBW hb2.size) (hb1.below (hb2.mono hBW)) hsb).mono ?_
       rintro e w3 ⟨v3, rfl, h3, hb3⟩
       have hs3 := run_strP (Byt.of_own h3)
       have hs23 := run_strP ((Byt.of_own h2).below hb3)))
  all_goals
    go_wp2_with fail
    go_ret
    refine ⟨ret_bool (beqB _ _), hbw.trans ((hb2.mono hbw.size).trans (hb3.mono (Nat.le_trans hbw.size hb2.size)))⟩

end Go.Proofs.Ytcilabemglbhbaa
