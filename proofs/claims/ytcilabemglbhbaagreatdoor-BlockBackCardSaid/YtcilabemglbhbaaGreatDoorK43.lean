/- The reference's Same, and Coinbase. -/
import Derived.Test.YtcilabemglbhbaaGreatDoorK42
import Derived.Test.YtcilabemglbhbaaGreatDoorK38
import Derived.Lib.QuietBelow
import Derived.Test.YtcilabemglbhbaaGreatDoorK4
import Derived.Test.YtcilabemglbhbaaGreatDoorK40
namespace Go.Proofs.YtcilabemglbhbaaGreatDoor
open Go Go.RowKit Go.Pur

set_option maxRecDepth 100000 in
set_option maxHeartbeats 1600000 in
theorem refSame_any (va vb : Value) (a b : TTx) (B : Nat) (w : World) (hB : B ≤ w.heap.size) (ha : TxAt w B va a) (hb : TxAt w B vb b) (hsa : Small a) (hsb : Small b) :
    Calls Tryz.prog 33 #[va, vb] w fun e w' => e = .returned (.bool (decide (enc a = enc b))) ∧ Below w.heap.size w w' := by
  have ha0 := ha
  have hb0 := hb
  obtain ⟨ia, oa, rfl, -, -, hia, hoa⟩ := ha
  obtain ⟨ib, ob, rfl, -, -, hib, hob⟩ := hb
  obtain ⟨A1, n1, c1, rfl⟩ : ∃ A n c, ia = .slice A n c := by obtain ⟨A, c, h, _⟩ := hia; exact ⟨A, _, c, h⟩
  obtain ⟨A2, n2, c2, rfl⟩ : ∃ A n c, oa = .slice A n c := by obtain ⟨A, c, h, _⟩ := hoa; exact ⟨A, _, c, h⟩
  obtain ⟨A3, n3, c3, rfl⟩ : ∃ A n c, ib = .slice A n c := by obtain ⟨A, c, h, _⟩ := hib; exact ⟨A, _, c, h⟩
  obtain ⟨A4, n4, c4, rfl⟩ : ∃ A n c, ob = .slice A n c := by obtain ⟨A, c, h, _⟩ := hob; exact ⟨A, _, c, h⟩
  clear hia hoa hib hob
  obtain ⟨W1, hW1⟩ : ∃ W1, (w.alloc (.cells #[.int .u32 (a.ver : Int), .slice A1 n1 c1, .slice A2 n2 c2, .int .u32 (a.lock : Int)] 52)).alloc (.cells #[.int .u32 (b.ver : Int), .slice A3 n3 c3, .slice A4 n4 c4, .int .u32 (b.lock : Int)] 52) = W1 := ⟨_, rfl⟩
  have hbw : Below w.heap.size w W1 := by rw [← hW1]; exact ((Below.refl _ _).alloc (Nat.le_refl _) _).alloc (by simp) _
  have hba : Blk W1 w.heap.size 52 #[.int .u32 (a.ver : Int), .slice A1 n1 c1, .slice A2 n2 c2, .int .u32 (a.lock : Int)] := by rw [← hW1]; exact (Blk.new w _ _).alloc _
  have hbb : Blk W1 (w.heap.size + 1) 52 #[.int .u32 (b.ver : Int), .slice A3 n3 c3, .slice A4 n4 c4, .int .u32 (b.lock : Int)] := by
    rw [← hW1]
    have := Blk.new (w.alloc (.cells #[.int .u32 (a.ver : Int), .slice A1 n1 c1, .slice A2 n2 c2, .int .u32 (a.lock : Int)] 52)) 52 #[.int .u32 (b.ver : Int), .slice A3 n3 c3, .slice A4 n4 c4, .int .u32 (b.lock : Int)]
    simpa using this
  have ha1 := ha0.below (hbw.mono hB)
  have hb1 := hb0.below (hbw.mono hB)
  have hBW := Nat.le_trans hB hbw.size
  have ca0 := hba.cell 0
  have ca1 := hba.cell 1
  have ca2 := hba.cell 2
  have ca3 := hba.cell 3
  have cb0 := hbb.cell 0
  have cb1 := hbb.cell 1
  have cb2 := hbb.cell 2
  have cb3 := hbb.cell 3
  go_enter Tryz.func33, Tryz.ntmps33
  go_wp2_with fail
  clear hW1
  have tokA : True := trivial
  go_region_with (first
    | (have _t := tokA
       go_at_call 59
       refine (refTxBytes_any _ a B _ (by exact hBW) (by exact ha1) hsa).mono ?_
       clear tokA
       rintro e w2 ⟨v2, rfl, h2, hb20⟩
       have hb2 : Below W1.heap.size W1 w2 := ⟨hb20.os, hb20.tape, hb20.output, hb20.size, hb20.block⟩
       have hs2 := run_strP (Byt.of_own h2)
       have hbb2 := hbb.below hb2 hbb.lt
       have cb02 := hbb2.cell 0
       have cb12 := hbb2.cell 1
       have cb22 := hbb2.cell 2
       have cb32 := hbb2.cell 3)
    | (go_at_call 59
       refine (refTxBytes_any _ b B w2 (Nat.le_trans hBW hb2.size) (hb1.below (hb2.mono hBW)) hsb).mono ?_
       rintro e w3 ⟨v3, rfl, h3, hb3⟩
       have hs3 := run_strP (Byt.of_own h3)
       have hs23 := run_strP ((Byt.of_own h2).below hb3)))
  all_goals
    go_wp2_with fail
    go_ret
    refine ⟨ret_bool (beqB _ _), hbw.trans ((hb2.mono hbw.size).trans (hb3.mono (Nat.le_trans hbw.size hb2.size)))⟩

end Go.Proofs.YtcilabemglbhbaaGreatDoor

/- A region that draws its order, whose operations read and whose callees may lay blocks of their own: walked once, in the order of the text. -/
namespace Go.Pur
open Go Go.RowKit Go.Sort

section
variable {P : Program} {ops : Array Oper} {C : World → Prop} {Q : Act → Prop} {rest : List Oper} {o : Oper} {a : Act}
/-- the worlds in which all that was in w stands. -/
def Grew (w : World) (w' : World) : Prop := ∃ p : Regrown, w' = grow (redrawn w p.d) p.os
theorem Grew.below {w w' : World} (h : Grew w w') : Below w.heap.size w w' := by
  obtain ⟨p, rfl⟩ := h
  exact below_regrown w p.d p.os
theorem Grew.of {w w' : World} (h : Below w.heap.size w w') : Grew w w' := regrown_of_below h
theorem calm_val (v : Value) (hw : Region.wanted o (yielded ops a.tmps) = true) (hv : ∀ w, C w → (execOp a.eval o).run P w = .ok (.value v) w) (h : wpQuiet P ops C Q rest (a.put o.dst v)) : wpQuiet P ops C Q (o :: rest) a := by
  refine wpQuiet_step fun K hK => ?_
  rw [if_pos hw]
  refine ⟨v, fun w hC => ?_, hK _ h⟩
  unfold Oper.quietAt
  rw [hv w hC]
  exact ⟨rfl, rfl⟩
theorem calm_skip (hw : Region.wanted o (yielded ops a.tmps) = false) (h : wpQuiet P ops C Q rest (a.put o.dst undef)) : wpQuiet P ops C Q (o :: rest) a := by
  refine wpQuiet_step fun K hK => ?_
  rw [if_neg (by rw [hw]; simp)]
  exact hK _ h
theorem calm_call (v : Value) (f : FuncId) (args : Array Value) (hw : Region.wanted o (yielded ops a.tmps) = true) (he : ∀ w, (execOp a.eval o).run P w = .ok (.enter f args) w)
    (hv : ∀ w, C w → Calls P f args w fun e w' => e = .returned v ∧ C w') (h : wpQuiet P ops C Q rest (a.put o.dst v)) : wpQuiet P ops C Q (o :: rest) a := by
  refine wpQuiet_step fun K hK => ?_
  rw [if_pos hw]
  refine ⟨v, fun w hC => ?_, hK _ h⟩
  unfold Oper.quietAt
  rw [he w]
  exact ⟨rfl, hv w hC⟩
theorem calm_load (hw : Region.wanted o (yielded ops a.tmps) = true) (ty : TypeId) (x : Operand) (ho : o.op = .load ty x)
    (b off : Nat) (hx : a.eval x = .pointer (some ⟨b, off, none⟩)) (cs : List Value) (d : TypeDesc) (hc : ∀ w, C w → ∀ j u, cs[j]? = some u → w.cell? ⟨b, off + j, none⟩ = some u)
    (hu : P.underlying ty = some d) (hd : (match d with | .struct _ | .array _ _ => true | _ => false) = true) (hi : (P.info? ty).map (·.size) = some cs.length)
    (h : wpQuiet P ops C Q rest (a.put o.dst (.agg cs.toArray))) : wpQuiet P ops C Q (o :: rest) a := by
  refine calm_val (.agg cs.toArray) hw (fun w hC => ?_) h
  unfold execOp
  simp only [ho, hx, Instr.loadAt, Instr.sureAddr, Sem.run_bind, Sem.run_pure, Result.andThen_ok, run_loadVar_at w b off ty cs d (hc w hC) hu hd hi]
/-- what was in w stands in every world of the class. -/
theorem blk_grew {w w' : World} {g : Nat} {t : TypeId} {cs : Array Value} (h : Blk w g t cs) (hw : Grew w w') : Blk w' g t cs := h.below hw.below h.lt
theorem cells_grew {w : World} {g : Nat} {t : TypeId} {cs : List Value} (h : Blk w g t cs.toArray) : ∀ w', (∃ p : Regrown, w' = grow (redrawn w p.d) p.os) → ∀ j u, cs[j]? = some u → w'.cell? ⟨g, 0 + j, none⟩ = some u := fun w' hw j u hu => by
  rw [Nat.zero_add]
  exact cells_of_blk (blk_grew h hw) j u hu
/-- a contract that lays blocks alone, in a world of the class. -/
theorem grown_call {f : FuncId} {args : Array Value} {w : World} {d : Nat} {os : Array Obj} {v : Value}
    (h : Calls P f args (grow (redrawn w d) os) fun e w' => e = .returned v ∧ Below (grow (redrawn w d) os).heap.size (grow (redrawn w d) os) w') : Calls P f args (grow (redrawn w d) os) fun e w'' => e = .returned v ∧ ∃ p : Regrown, w'' = grow (redrawn w p.d) p.os :=
  Calls.regrown_of h
theorem grown_size (w : World) (d : Nat) (os : Array Obj) : w.heap.size ≤ (grow (redrawn w d) os).heap.size := (below_regrown w d os).size
end
end Go.Pur

/- purserref07.Same, of two that read as the same block. -/
namespace Go.Proofs.YtcilabemglbhbaaGreatDoor
open Go Go.RowKit Go.Pur Go.Sort

theorem tx_parts {w : World} {B : Nat} {t : TTx} {iv ov : Value} (h : TxAt w B (.agg (tcells t iv ov).toArray) t) : ∃ A1 n1 c1 A2 n2 c2, iv = .slice A1 n1 c1 ∧ ov = .slice A2 n2 c2 := by
  obtain ⟨iv', ov', hvv, _, _, hi, ho⟩ := h
  have e1 : iv = iv' := by
    have := congrArg (fun v => match v with | .agg a => a[1]? | _ => none) hvv
    simpa [tcells] using this
  have e2 : ov = ov' := by
    have := congrArg (fun v => match v with | .agg a => a[2]? | _ => none) hvv
    simpa [tcells] using this
  subst e1; subst e2
  obtain ⟨A, c, h1, _⟩ := hi
  obtain ⟨A', c', h2, _⟩ := ho
  exact ⟨_, _, _, _, _, _, h1, h2⟩
set_option maxRecDepth 100000 in
set_option maxHeartbeats 3200000 in
theorem sameB_any (va vb : Value) (x : TBlk) (B : Nat) (w : World) (hB : B ≤ w.heap.size) (ha : BlkAt w B va x) (hb : BlkAt w B vb x) (hs : ∀ t ∈ x.txs, Small t) :
    Calls Tryz.prog 12 #[va, vb] w fun e w' => e = .returned (.bool true) ∧ Below w.heap.size w w' := by
  obtain ⟨sa, rfl, hh, hta⟩ := ha
  obtain ⟨sb, rfl, _, htb⟩ := hb
  obtain ⟨Aa, na, ca, rfl⟩ : ∃ A n c, sa = .slice A n c := by obtain ⟨A, c, h, _⟩ := hta; exact ⟨A, _, c, h⟩
  obtain ⟨Ab, nb, cb, rfl⟩ : ∃ A n c, sb = .slice A n c := by obtain ⟨A, c, h, _⟩ := htb; exact ⟨A, _, c, h⟩
  have hna : na = x.txs.length := by obtain ⟨A, c, h, _⟩ := hta; injection h
  have hnb : nb = na := by rw [hna]; obtain ⟨A, c, h, _⟩ := htb; injection h
  subst hnb
  have hnm : nb ≤ 9223372036854775807 := by
    obtain ⟨A, c, h, h1, h2, _⟩ := hta
    unfold maxLen at h2
    omega
  have hn' := Lib.hid hna
  clear hna
  obtain ⟨W1, hW1⟩ : ∃ W1, W1 = (w.alloc (.cells (bcells x.head (Value.slice Aa nb ca)).toArray 29)).alloc (.cells (bcells x.head (Value.slice Ab nb cb)).toArray 29) := ⟨_, rfl⟩
  have ha1 : Blk W1 w.heap.size 29 (bcells x.head (Value.slice Aa nb ca)).toArray := by rw [hW1]; exact (Blk.new w _ _).alloc _
  have hb1 : Blk W1 (w.heap.size + 1) 29 (bcells x.head (Value.slice Ab nb cb)).toArray := by
    have := Blk.new (w.alloc (.cells (bcells x.head (Value.slice Aa nb ca)).toArray 29)) 29 (bcells x.head (Value.slice Ab nb cb)).toArray
    rw [hW1]
    simpa using this
  have hbw : Below w.heap.size w W1 := by rw [hW1]; exact ((Below.refl _ _).alloc (Nat.le_refl _) _).alloc (by simp) _
  have pa := bcells_at hh (.slice Aa nb ca)
  have pb := bcells_at hh (.slice Ab nb cb)
  have qa := (ha1.cell 68).trans pa
  have qb := (hb1.cell 68).trans pb
  have hea : bcells x.head (Value.slice Aa nb ca) = headCells x.head ++ [Value.slice Aa nb ca] := rfl
  have heb : bcells x.head (Value.slice Ab nb cb) = headCells x.head ++ [Value.slice Ab nb cb] := rfl
  rw [← hea, ← heb]
  have hca : ∀ j u, (headCells x.head)[j]? = some u → W1.cell? ⟨w.heap.size, 0 + j, none⟩ = some u := fun j u hu => by rw [Nat.zero_add, ha1.cell j]; exact bcells_head _ j u hu
  have hcb : ∀ j u, (headCells x.head)[j]? = some u → W1.cell? ⟨w.heap.size + 1, 0 + j, none⟩ = some u := fun j u hu => by rw [Nat.zero_add, hb1.cell j]; exact bcells_head _ j u hu
  have hneq : ∀ W : World, (binOp .neq 26 (.agg (headCells x.head).toArray) (.agg (headCells x.head).toArray)).run Tryz.prog W = .ok (.bool false) W := fun W => by
    have := run_neq_head W x.head x.head hh hh
    simpa using this
  have hlh := Lib.hid (headCells_length hh)
  clear hea heb
  generalize bcells x.head (Value.slice Aa nb ca) = xa at *
  generalize bcells x.head (Value.slice Ab nb cb) = xb at *
  generalize headCells x.head = H at *
  have tok1 : True := trivial
  have tok2 : True := trivial
  go_enter Tryz.func12, Tryz.ntmps12
  rw [hW1] at hca hcb qa qb
  go_wp2_with (first
    | (have _t := tok1; refine wpList_load_at rfl 26 (.tmp 7) rfl w.heap.size 0 rfl H _ hca Tryz.underlying26 rfl (by rw [headinfo, hlh.out]) ?_; clear tok1)
    | (have _t := tok2; refine wpList_load_at rfl 26 (.tmp 9) rfl (w.heap.size + 1) 0 rfl H _ hcb Tryz.underlying26 rfl (by rw [headinfo, hlh.out]) ?_; clear tok2))
  rw [← hW1] at hca hcb qa qb ⊢
  clear hW1 hca hcb qa qb hneq hlh
  go_loopw [5] (fun i wr => ∃ k : Nat, k ≤ nb ∧ i = .int .i64 (k : Int) ∧ Blk wr w.heap.size 29 xa.toArray ∧ Blk wr (w.heap.size + 1) 29 xb.toArray ∧ Below w.heap.size w wr) (fun i _ => nb - (intOf i).toNat)
  case atStart => exact ⟨0, by omega, rfl, ha1, hb1, hbw⟩
  case round =>
    clear ha1 hb1 hbw
    obtain ⟨k, hk, rfl, ha1, hb1, hbw⟩ := hrel
    have qa := (ha1.cell 68).trans pa
    have qb := (hb1.cell 68).trans pb
    have hal := ha1.lt
    have hbl := hb1.lt
    by_cases hlt : k < nb
    · have hkl : k < x.txs.length := by rw [← hn'.out]; exact hlt
      obtain ⟨A1', c1', hsl1, h11, h12, h13⟩ := hta
      obtain ⟨b1, o1, hA1, hbB1, hxx1⟩ := h13 (by omega)
      have hAt1 : Aa = some ⟨b1, o1, none⟩ := by injection hsl1 with h1; rw [h1, hA1]
      subst hAt1
      obtain ⟨iv1, ov1, hc1, htx1⟩ := hxx1 k x.txs[k] (List.getElem?_eq_getElem hkl)
      obtain ⟨A2', c2', hsl2, h21, h22, h23⟩ := htb
      obtain ⟨b2, o2, hA2, hbB2, hxx2⟩ := h23 (by omega)
      have hAt2 : Ab = some ⟨b2, o2, none⟩ := by injection hsl2 with h1; rw [h1, hA2]
      subst hAt2
      obtain ⟨iv2, ov2, hc2, htx2⟩ := hxx2 k x.txs[k] (List.getElem?_eq_getElem hkl)
      have hst := hs x.txs[k] (List.getElem_mem hkl)
      obtain ⟨a1, n1, c1, a2, n2, c2, rfl, rfl⟩ := tx_parts htx1
      obtain ⟨a3, n3, c3, a4, n4, c4, rfl, rfl⟩ := tx_parts htx2
      have hbb := hbw.mono hB
      generalize x.txs[k] = t at *
      have d0 := ((hbb.cell hbB1).trans (hc1 0 _ rfl))
      have d1 := ((hbb.cell hbB1).trans (hc1 1 _ rfl))
      have d2 := ((hbb.cell hbB1).trans (hc1 2 _ rfl))
      have d3 := ((hbb.cell hbB1).trans (hc1 3 _ rfl))
      have e0 := ((hbb.cell hbB2).trans (hc2 0 _ rfl))
      have e1 := ((hbb.cell hbB2).trans (hc2 1 _ rfl))
      have e2 := ((hbb.cell hbB2).trans (hc2 2 _ rfl))
      have e3 := ((hbb.cell hbB2).trans (hc2 3 _ rfl))
      rw [Nat.add_zero] at d0 e0
      have hBr := Nat.le_trans hB hbw.size
      have cS : ∀ d os, Calls Tryz.prog 33 #[.agg #[.int .u32 (t.ver : Int), .slice a1 n1 c1, .slice a2 n2 c2, .int .u32 (t.lock : Int)], .agg #[.int .u32 (t.ver : Int), .slice a3 n3 c3, .slice a4 n4 c4, .int .u32 (t.lock : Int)]] (grow (redrawn wr d) os) fun e w'' => e = .returned (.bool true) ∧ ∃ p : Regrown, w'' = grow (redrawn wr p.d) p.os := fun d os => grown_call (by
        have hx := below_regrown wr d os
        have := refSame_any _ _ t t B _ (Nat.le_trans hBr hx.size) (htx1.below (hbb.trans (hx.mono hBr))) (htx2.below (hbb.trans (hx.mono hBr))) hst hst
        simpa [tcells] using this)
      have r0 := cell_regrown d0
      have r1 := cell_regrown d1
      have r2 := cell_regrown d2
      have r3 := cell_regrown d3
      have s0 := cell_regrown e0
      have s1 := cell_regrown e1
      have s2 := cell_regrown e2
      have s3 := cell_regrown e3
      have ra := cell_regrown qa
      have rb := cell_regrown qb
      clear d0 d1 d2 d3 e0 e1 e2 e3 hc1 hc2 htx1 htx2 hxx1 hxx2 h13 h23 hsl1 hsl2 h11 h12 h21 h22
      go_wp2_with fail
      refine wp_region_quiet_below (by kernel_rfl) (by kernel_rfl) ?_
      repeat (quiet_step (exact cS _ _))
      refine wpQuiet_nil ?_
      intro _ hw'
      obtain ⟨⟨dq, osq⟩, hw''⟩ := hw'
      subst hw''
      have hx9 := below_regrown wr dq osq
      generalize grow (redrawn wr dq) osq = w9 at *
      have ha9 := ha1.below hx9 ha1.lt
      have hb9 := hb1.below hx9 hb1.lt
      have hbw9 := hbw.trans (hx9.mono hbw.size)
      clear r0 r1 r2 r3 s0 s1 s2 s3 ra rb cS qa qb
      go_wp2_with fail
      go_roundw
      case rel => exact ⟨k + 1, by omega, by go_num, ha9, hb9, hbw9⟩
      case measure => simp [intOf]; omega
    · go_wp2
      go_ret
      exact ⟨rfl, hbw⟩
end Go.Proofs.YtcilabemglbhbaaGreatDoor
