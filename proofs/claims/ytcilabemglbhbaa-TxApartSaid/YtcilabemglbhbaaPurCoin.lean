/- Coinbase, the program's and the reference's. -/
import Derived.Test.YtcilabemglbhbaaPurStr
import Derived.Test.YtcilabemglbhbaaPurTxEnc
namespace Go.Proofs.Ytcilabemglbhbaa
open Go Go.RowKit Go.Pur

def coinb (t : TTx) : Bool := match t.ins with
  | [x] => x.tx == List.replicate 32 0 && decide (x.n = 4294967295)
  | _ => false
theorem outFields : ∃ f0 f1, Try.prog.fieldsOf 45 = #[f0, f1] ∧ f0.name ≠ "_" ∧ f1.name ≠ "_" ∧ f0.type = 36 ∧ f1.type = 22 ∧ f0.offset = 0 ∧ f1.offset = 32 := by
  refine ⟨(Try.prog.fieldsOf 45)[0]!, (Try.prog.fieldsOf 45)[1]!, ?_, ?_, ?_, ?_, ?_, ?_, ?_⟩
  · kernel_rfl
  · exact of_decide_eq_true (by kernel_rfl)
  · exact of_decide_eq_true (by kernel_rfl)
  · kernel_rfl
  · kernel_rfl
  · kernel_rfl
  · kernel_rfl
theorem run_eql_outP (w : World) (x y : Bytes) (a b : Int) (hx : x.length = 32) (hy : y.length = 32) :
    (binOp .eql 45 (.agg (bvs x ++ [Value.int .u32 a]).toArray) (.agg (bvs y ++ [Value.int .u32 b]).toArray)).run Try.prog w = .ok (.bool (x == y && a == b)) w := by
  obtain ⟨f0, f1, hf, n0, n1, t0, t1, o0, o1⟩ := outFields
  exact run_eql_out w 45 36 22 5 f0 f1 hf (by kernel_rfl) (by kernel_rfl) n0 n1 t0 t1 o0 o1 Try.underlying36 (by kernel_rfl) Try.underlying5 (by kernel_rfl) Try.underlying22 x y a b hx hy
theorem info45 : (Try.prog.info? 45).map (·.size) = some 33 := by kernel_rfl

set_option maxRecDepth 100000 in
set_option maxHeartbeats 800000 in
theorem coinbase_any (v : Value) (t : TTx) (B : Nat) (w : World) (hB : B ≤ w.heap.size) (h : TxAt w B v t) :
    Calls Try.prog 16 #[v] w fun e w' => e = .returned (.bool (coinb t)) ∧ Below w.heap.size w w' := by
  obtain ⟨iv, ov, rfl, hver, hlock, hi, ho⟩ := h
  obtain ⟨Ai, ni, ci, rfl⟩ : ∃ A n c, iv = .slice A n c := by obtain ⟨A, c, h, _⟩ := hi; exact ⟨A, _, c, h⟩
  obtain ⟨Ao, no, co, rfl⟩ : ∃ A n c, ov = .slice A n c := by obtain ⟨A, c, h, _⟩ := ho; exact ⟨A, _, c, h⟩
  obtain ⟨W1, hW1⟩ : ∃ W1, w.alloc (.cells #[.int .u32 (t.ver : Int), .slice Ai ni ci, .slice Ao no co, .int .u32 (t.lock : Int)] 26) = W1 := ⟨_, rfl⟩
  have hbw : Below w.heap.size w W1 := by rw [← hW1]; exact (Below.refl _ _).alloc (Nat.le_refl _) _
  have hbx : Blk W1 w.heap.size 26 #[.int .u32 (t.ver : Int), .slice Ai ni ci, .slice Ao no co, .int .u32 (t.lock : Int)] := by rw [← hW1]; exact Blk.new w _ _
  have hc1 := hbx.cell 1
  obtain ⟨A', c', hsl, h1, h2, h3⟩ := hi
  injection hsl with e1 e2 e3
  subst e1; subst e2; subst e3
  rcases hins : t.ins with _ | ⟨x, _ | ⟨y, r⟩⟩
  · have hf : Hid (coinb t = false) := Lib.hid (by simp [coinb, hins])
    rw [hins] at hc1 hW1
    rw [show ([] : List TIn).length = 0 from rfl] at *
    clear h3 h1 hbx hins
    go_enter Try.func16, Try.ntmps16
    go_wp2
    go_ret
    exact ⟨ret_bool hf.out.symm, hbw⟩
  · have hf : Hid (coinb t = (x.tx == List.replicate 32 0 && ((x.n : Int) == 4294967295))) := Lib.hid (by
      simp only [coinb, hins]
      congr 1
      rw [Bool.eq_iff_iff]
      simp
      omega)
    obtain ⟨b, o, hA, hbB, hx⟩ := h3 (by rw [hins]; simp)
    subst hA
    obtain ⟨sv, hsv, hxl, hxn, hxq, hcells0⟩ := (hx 0 x (by rw [hins]; rfl)).keep hbB (fun p hp => (hbw.mono hB).cell hp)
    have hcells : ∀ j u, (bvs x.tx ++ [Value.int .u32 (x.n : Int)])[j]? = some u → W1.cell? ⟨b, o + j, none⟩ = some u := by
      intro j u hu
      have h := hcells0 j u (by
        have e : inCells x sv = (bvs x.tx ++ [Value.int .u32 (x.n : Int)]) ++ [sv, .int .u32 (x.seq : Int)] := by simp [inCells]
        rw [e]
        have hj : j < (bvs x.tx ++ [Value.int .u32 (x.n : Int)]).length := by
          rcases Nat.lt_or_ge j (bvs x.tx ++ [Value.int .u32 (x.n : Int)]).length with h | h
          · exact h
          · rw [List.getElem?_eq_none h] at hu; cases hu
        rw [List.getElem?_append_left hj]
        exact hu)
      simpa using h
    rw [hins] at hc1 hW1
    rw [show ([x] : List TIn).length = 1 from rfl] at *
    have hlen : Hid ((bvs x.tx ++ [Value.int .u32 (x.n : Int)]).length = 33) := Lib.hid (by simp [bvs_length, hxl])
    clear h1 hbx hins hx hcells0
    have heq := fun W => run_eql_outP W x.tx (List.replicate 32 0) (x.n : Int) 4294967295 hxl (by simp)
    have hlit : (bvs (List.replicate 32 0) ++ [Value.int .u32 4294967295]).toArray = #[.int .u8 0, .int .u8 0, .int .u8 0, .int .u8 0, .int .u8 0, .int .u8 0, .int .u8 0, .int .u8 0, .int .u8 0, .int .u8 0, .int .u8 0, .int .u8 0, .int .u8 0, .int .u8 0, .int .u8 0, .int .u8 0, .int .u8 0, .int .u8 0, .int .u8 0, .int .u8 0, .int .u8 0, .int .u8 0, .int .u8 0, .int .u8 0, .int .u8 0, .int .u8 0, .int .u8 0, .int .u8 0, .int .u8 0, .int .u8 0, .int .u8 0, .int .u8 0, .int .u32 4294967295] := by rfl
    rw [hlit] at heq
    clear hlit
    generalize hca : bvs x.tx ++ [Value.int .u32 (x.n : Int)] = ca at *
    clear hca
    go_enter Try.func16, Try.ntmps16
    go_wp2_with (refine wpList_load_atg (by simp [Region.wanted, yielded]) 45 (.tmp 11) rfl b o rfl ca _ hcells Try.underlying45 rfl (by rw [info45, hlen.out]) ?_)
    go_ret
    refine ⟨ret_bool ?_, hbw⟩
    rw [hf.out]
    rfl
  · have hf : Hid (coinb t = false) := Lib.hid (by simp [coinb, hins])
    rw [hins] at hc1 hW1
    obtain ⟨n, hn0, hn⟩ : ∃ n, (x :: y :: r).length = n ∧ n = r.length + 2 := ⟨_, rfl, rfl⟩
    have q1 : ((n : Int) == 1) = false := by simp only [beq_eq_false_iff_ne, ne_eq]; omega
    have q2 : decide ((n : Int) = 1) = false := decide_eq_false (by omega)
    have q3 : ¬ ((n : Int) = 1) := by omega
    rw [hn0] at hc1 hW1 ⊢
    clear h1 h3 hbx hins hn hn0
    go_enter Try.func16, Try.ntmps16
    go_wp2
    go_ret
    exact ⟨ret_bool hf.out.symm, hbw⟩

theorem zeros_eq {l : Bytes} (h : l.length = 32) : (l == List.replicate 32 0) = true ↔ ∀ i, i < 32 → l.getD i 0 = 0 := by
  rw [beq_iff_eq]
  constructor
  · rintro rfl i hi
    rw [List.getD_eq_getElem?_getD, List.getElem?_replicate, if_pos hi]
    rfl
  · intro hh
    apply List.ext_getElem (by simp [h])
    intro i h1 h2
    have := hh i (by omega)
    simp only [List.getElem_replicate]
    rw [List.getD_eq_getElem?_getD, List.getElem?_eq_getElem h1] at this
    simpa using this
end Go.Proofs.Ytcilabemglbhbaa
