/- tx.Same: whether two transactions are the same. -/
import Derived.Test.YtcilabemglbhbaaPurStr
import Derived.Test.YtcilabemglbhbaaPurCoin
import Derived.Test.YtcilabemglbhbaaPurLib2
namespace Go.Proofs.Ytcilabemglbhbaa
open Go Go.RowKit Go.Pur

deriving instance DecidableEq for TIn
deriving instance DecidableEq for TOut
deriving instance DecidableEq for TTx

theorem bytesEqual_any (va vb : Value) (a b : Bytes) (B : Nat) (w : World) (ha : Byt w B va a) (hb : Byt w B vb b) :
    Calls Try.prog 38 #[va, vb] w fun e w' => e = .returned (.bool (decide (a = b))) ∧ w' = w := by
  have h1 := run_strP ha
  have h2 := run_strP hb
  obtain ⟨A1, n1, c1, rfl⟩ := slice_of_byt ha
  obtain ⟨A2, n2, c2, rfl⟩ := slice_of_byt hb
  go_enter Try.func38, Try.ntmps38
  go_wp2
  go_ret
  exact ⟨ret_bool (beqB a b), rfl⟩
theorem in_eq (x y : TIn) : decide (x = y) = ((x.tx == y.tx && ((x.n : Int) == (y.n : Int))) && ((x.seq : Int) == (y.seq : Int)) && decide (x.script = y.script)) := by
  obtain ⟨a, b, c, d⟩ := x
  obtain ⟨a', b', c', d'⟩ := y
  rw [Bool.eq_iff_iff]
  simp only [decide_eq_true_eq, TIn.mk.injEq, Bool.and_eq_true, beq_iff_eq]
  constructor
  · rintro ⟨rfl, rfl, rfl, rfl⟩
    simp
  · rintro ⟨⟨⟨h1, h2⟩, h3⟩, h4⟩
    exact ⟨h1, by omega, h4, by omega⟩
theorem out_eq (x y : TOut) : decide (x = y) = ((x.value == y.value) && decide (x.script = y.script)) := by
  obtain ⟨a, b⟩ := x
  obtain ⟨a', b'⟩ := y
  rw [Bool.eq_iff_iff]
  simp

set_option maxRecDepth 100000 in
set_option maxHeartbeats 1600000 in
theorem same1_any (x y : TIn) (sx sy : Value) (B : Nat) (w : World) (hB : B ≤ w.heap.size) (hsx : Byt w B sx x.script) (hsy : Byt w B sy y.script) (hx : x.tx.length = 32) (hy : y.tx.length = 32) :
    Calls Try.prog 37 #[.agg (inCells x sx).toArray, .agg (inCells y sy).toArray] w fun e w' => e = .returned (.bool (decide (x = y))) ∧ Below w.heap.size w w' := by
  obtain ⟨A1, n1, c1, rfl⟩ := slice_of_byt hsx
  obtain ⟨A2, n2, c2, rfl⟩ := slice_of_byt hsy
  obtain ⟨W1, hW1⟩ : ∃ W1, (w.alloc (.cells (inCells x (.slice A1 n1 c1)).toArray 47)).alloc (.cells (inCells y (.slice A2 n2 c2)).toArray 47) = W1 := ⟨_, rfl⟩
  have hbw : Below w.heap.size w W1 := by rw [← hW1]; exact ((Below.refl _ _).alloc (Nat.le_refl _) _).alloc (by simp) _
  have hbx : Blk W1 w.heap.size 47 (inCells x (.slice A1 n1 c1)).toArray := by rw [← hW1]; exact (Blk.new w _ _).alloc _
  have hby : Blk W1 (w.heap.size + 1) 47 (inCells y (.slice A2 n2 c2)).toArray := by
    rw [← hW1]
    have := Blk.new (w.alloc (.cells (inCells x (.slice A1 n1 c1)).toArray 47)) 47 (inCells y (.slice A2 n2 c2)).toArray
    simpa using this
  have hsx1 := hsx.below (hbw.mono hB)
  have hsy1 := hsy.below (hbw.mono hB)
  have hxa := inCells_at x (.slice A1 n1 c1) hx
  have hya := inCells_at y (.slice A2 n2 c2) hy
  have x33 := (hbx.cell 33).trans hxa.2.1
  have x34 := (hbx.cell 34).trans hxa.2.2
  have y33 := (hby.cell 33).trans hya.2.1
  have y34 := (hby.cell 34).trans hya.2.2
  have hcx : ∀ j u, (bvs x.tx ++ [Value.int .u32 (x.n : Int)])[j]? = some u → W1.cell? ⟨w.heap.size, 0 + j, none⟩ = some u := by
    intro j u hu
    rw [Nat.zero_add]
    refine cells_of_blk hbx j u ?_
    have hj : j < (bvs x.tx ++ [Value.int .u32 (x.n : Int)]).length := by
      rcases Nat.lt_or_ge j (bvs x.tx ++ [Value.int .u32 (x.n : Int)]).length with h | h
      · exact h
      · rw [List.getElem?_eq_none h] at hu; cases hu
    rw [show inCells x (.slice A1 n1 c1) = (bvs x.tx ++ [Value.int .u32 (x.n : Int)]) ++ [.slice A1 n1 c1, .int .u32 (x.seq : Int)] by simp [inCells], List.getElem?_append_left hj]
    exact hu
  have hcy : ∀ j u, (bvs y.tx ++ [Value.int .u32 (y.n : Int)])[j]? = some u → W1.cell? ⟨w.heap.size + 1, 0 + j, none⟩ = some u := by
    intro j u hu
    rw [Nat.zero_add]
    refine cells_of_blk hby j u ?_
    have hj : j < (bvs y.tx ++ [Value.int .u32 (y.n : Int)]).length := by
      rcases Nat.lt_or_ge j (bvs y.tx ++ [Value.int .u32 (y.n : Int)]).length with h | h
      · exact h
      · rw [List.getElem?_eq_none h] at hu; cases hu
    rw [show inCells y (.slice A2 n2 c2) = (bvs y.tx ++ [Value.int .u32 (y.n : Int)]) ++ [.slice A2 n2 c2, .int .u32 (y.seq : Int)] by simp [inCells], List.getElem?_append_left hj]
    exact hu
  have hlx : Hid ((bvs x.tx ++ [Value.int .u32 (x.n : Int)]).length = 33) := Lib.hid (by simp [bvs_length, hx])
  have hly : Hid ((bvs y.tx ++ [Value.int .u32 (y.n : Int)]).length = 33) := Lib.hid (by simp [bvs_length, hy])
  have heq := fun W => run_eql_outP W x.tx y.tx (x.n : Int) (y.n : Int) hx hy
  have hin := Lib.hid (in_eq x y)
  generalize e1 : (x.tx == y.tx && ((x.n : Int) == (y.n : Int))) = q1 at *
  generalize e2 : ((x.seq : Int) == (y.seq : Int)) = q2 at *
  generalize hcxx : bvs x.tx ++ [Value.int .u32 (x.n : Int)] = cx at *
  generalize hcyy : bvs y.tx ++ [Value.int .u32 (y.n : Int)] = cy at *
  have e2' : (x.seq = y.seq) ↔ q2 = true := by rw [← e2, beq_iff_eq]; omega
  clear e1 hcxx hcyy hxa hya
  have tok1 : True := trivial
  have tok2 : True := trivial
  generalize hix : (inCells x (.slice A1 n1 c1)).toArray = ix at *
  generalize hiy : (inCells y (.slice A2 n2 c2)).toArray = iy at *
  clear hix hiy hbx hby
  cases q1 <;> cases q2
  all_goals
    go_enter Try.func37, Try.ntmps37
    go_wp2_with (first
      | (have _t := tok1; refine wpList_load_at rfl 45 (.tmp 5) rfl w.heap.size 0 rfl cx _ hcx Try.underlying45 rfl (by rw [info45, hlx.out]) ?_; clear tok1)
      | (have _t := tok2; refine wpList_load_at rfl 45 (.tmp 7) rfl (w.heap.size + 1) 0 rfl cy _ hcy Try.underlying45 rfl (by rw [info45, hly.out]) ?_; clear tok2)
      | (go_at_call 38; refine (bytesEqual_any _ _ _ _ B W1 hsx1 hsy1).mono ?_; rintro e w' ⟨rfl, rfl⟩))
    go_ret
    exact ⟨ret_bool (by rw [hin.out]; rfl), hbw⟩

set_option maxRecDepth 100000 in
set_option maxHeartbeats 1600000 in
theorem same2_any (x y : TOut) (sx sy : Value) (B : Nat) (w : World) (hB : B ≤ w.heap.size) (hsx : Byt w B sx x.script) (hsy : Byt w B sy y.script) :
    Calls Try.prog 39 #[.agg (outCells x sx).toArray, .agg (outCells y sy).toArray] w fun e w' => e = .returned (.bool (decide (x = y))) ∧ Below w.heap.size w w' := by
  obtain ⟨A1, n1, c1, rfl⟩ := slice_of_byt hsx
  obtain ⟨A2, n2, c2, rfl⟩ := slice_of_byt hsy
  obtain ⟨W1, hW1⟩ : ∃ W1, (w.alloc (.cells (outCells x (.slice A1 n1 c1)).toArray 49)).alloc (.cells (outCells y (.slice A2 n2 c2)).toArray 49) = W1 := ⟨_, rfl⟩
  have hbw : Below w.heap.size w W1 := by rw [← hW1]; exact ((Below.refl _ _).alloc (Nat.le_refl _) _).alloc (by simp) _
  have hbx : Blk W1 w.heap.size 49 (outCells x (.slice A1 n1 c1)).toArray := by rw [← hW1]; exact (Blk.new w _ _).alloc _
  have hby : Blk W1 (w.heap.size + 1) 49 (outCells y (.slice A2 n2 c2)).toArray := by
    rw [← hW1]
    have := Blk.new (w.alloc (.cells (outCells x (.slice A1 n1 c1)).toArray 49)) 49 (outCells y (.slice A2 n2 c2)).toArray
    simpa using this
  have hsx1 := hsx.below (hbw.mono hB)
  have hsy1 := hsy.below (hbw.mono hB)
  have x0 : W1.cell? ⟨w.heap.size, 0, none⟩ = some (.int .i64 x.value) := hbx.cell 0
  have x1 : W1.cell? ⟨w.heap.size, 1, none⟩ = some (.slice A1 n1 c1) := hbx.cell 1
  have y0 : W1.cell? ⟨w.heap.size + 1, 0, none⟩ = some (.int .i64 y.value) := hby.cell 0
  have y1 : W1.cell? ⟨w.heap.size + 1, 1, none⟩ = some (.slice A2 n2 c2) := hby.cell 1
  have hin := Lib.hid (out_eq x y)
  generalize e1 : (x.value == y.value) = q1 at *
  have e1' : (x.value = y.value) ↔ q1 = true := by rw [← e1, beq_iff_eq]
  generalize hix : (outCells x (.slice A1 n1 c1)).toArray = ix at *
  generalize hiy : (outCells y (.slice A2 n2 c2)).toArray = iy at *
  clear hix hiy hbx hby
  cases q1
  all_goals
    go_enter Try.func39, Try.ntmps39
    go_wp2_with (go_at_call 38; refine (bytesEqual_any _ _ _ _ B W1 hsx1 hsy1).mono ?_; rintro e w' ⟨rfl, rfl⟩)
    go_ret
    exact ⟨ret_bool (by rw [hin.out]; rfl), hbw⟩

/-- one of xs and ys after the other, up to place k. -/
def EqUp {α : Type} (xs ys : List α) (k : Nat) : Prop := ∀ j, j < k → xs[j]? = ys[j]?
theorem EqUp.all {α : Type} {xs ys : List α} {k : Nat} (h : EqUp xs ys k) (hx : xs.length = k) (hy : ys.length = k) : xs = ys := by
  apply List.ext_getElem?
  intro j
  rcases Nat.lt_or_ge j k with hj | hj
  · exact h j hj
  · rw [List.getElem?_eq_none (by omega), List.getElem?_eq_none (by omega)]
theorem EqUp.succ {α : Type} {xs ys : List α} {k : Nat} {x : α} (h : EqUp xs ys k) (hx : xs[k]? = some x) (hy : ys[k]? = some x) : EqUp xs ys (k + 1) := by
  intro j hj
  rcases Nat.lt_or_ge j k with h1 | h1
  · exact h j h1
  · have : j = k := by omega
    rw [this, hx, hy]

set_option maxRecDepth 100000 in
set_option maxHeartbeats 1600000 in
theorem equalIns_any (va vb : Value) (xs ys : List TIn) (B : Nat) (w : World) (hB : B ≤ w.heap.size) (ha : InsAt w B va xs) (hb : InsAt w B vb ys) :
    Calls Try.prog 40 #[va, vb, .func (.func 37) #[] #[]] w fun e w' => e = .returned (.bool (decide (xs = ys))) ∧ Below w.heap.size w w' := by
  obtain ⟨A1, c1, rfl, hl1, hl2, ha3⟩ := ha
  obtain ⟨A2, c2, rfl, hl3, hl4, hb3⟩ := hb
  obtain ⟨n, hn⟩ : ∃ n, xs.length = n := ⟨_, rfl⟩
  obtain ⟨m, hm⟩ : ∃ m, ys.length = m := ⟨_, rfl⟩
  rw [hn] at hl1 ha3 ⊢
  rw [hm] at hl3 hb3 ⊢
  have hn' := Lib.hid hn
  have hm' := Lib.hid hm
  clear hn hm
  have hmax : n ≤ 9223372036854775807 := by have := hl2; unfold maxLen at this; omega
  by_cases hnm : n = m
  · subst hnm
    go_enter Try.func40, Try.ntmps40
    go_wp2
    go_loopw [17] (fun i wr => ∃ k : Nat, k ≤ n ∧ i = .int .i64 (k : Int) ∧ EqUp xs ys k ∧ Below w.heap.size w wr) (fun i _ => n - (intOf i).toNat)
    case atStart => exact ⟨0, Nat.zero_le _, rfl, fun j hj => absurd hj (by omega), Below.refl _ _⟩
    case round =>
      obtain ⟨k, hk, rfl, hup, hbr⟩ := hrel
      by_cases hlt : k < n
      · have hkx : k < xs.length := by rw [hn'.out]; exact hlt
        have hky : k < ys.length := by rw [hm'.out]; exact hlt
        obtain ⟨b1, o1, hA1, hb1, hx⟩ := ha3 (by omega)
        obtain ⟨b2, o2, hA2, hb2, hy⟩ := hb3 (by omega)
        subst hA1
        subst hA2
        have hX := (hx k xs[k] (List.getElem?_eq_getElem hkx)).keep hb1 (fun p hp => (hbr.mono hB).cell hp)
        have hY := (hy k ys[k] (List.getElem?_eq_getElem hky)).keep hb2 (fun p hp => (hbr.mono hB).cell hp)
        have hkX := Lib.hid (List.getElem?_eq_getElem hkx)
        have hkY := Lib.hid (List.getElem?_eq_getElem hky)
        generalize xs[k] = x at *
        generalize ys[k] = y at *
        obtain ⟨sx, hsx, hxl, -, -, hcx⟩ := hX
        obtain ⟨sy, hsy, hyl, -, -, hcy⟩ := hY
        obtain ⟨As, ns, cs, rfl⟩ := slice_of_byt hsx
        obtain ⟨At, nt, ct, rfl⟩ := slice_of_byt hsy
        have hlx := Lib.hid (inCells_length x (.slice As ns cs) hxl)
        have hly := Lib.hid (inCells_length y (.slice At nt ct) hyl)
        have hox := Lib.hid (inCells_one x (.slice As ns cs) rfl)
        have hoy := Lib.hid (inCells_one y (.slice At nt ct) rfl)
        have hcon := same1_any x y (.slice As ns cs) (.slice At nt ct) B
        generalize hca : inCells x (.slice As ns cs) = ca at *
        generalize hcb : inCells y (.slice At nt ct) = cb at *
        have hcx' : ∀ j u, ca[j]? = some u → wr.cell? ⟨b1, o1 + k * 35 + j, none⟩ = some u := hcx
        have hcy' : ∀ j u, cb[j]? = some u → (wr.alloc (.cells ca.toArray 47)).cell? ⟨b2, o2 + k * 35 + j, none⟩ = some u := fun j u hu => (World.cell?_alloc_lt _ _ _ (by have := hbr.size; show b2 < _; omega)).trans (hcy j u hu)
        have hB1 := Blk.new wr 47 ca.toArray
        have hB2 := Blk.new (wr.alloc (.cells ca.toArray 47)) 47 cb.toArray
        have hsz : (wr.alloc (.cells ca.toArray 47)).heap.size = wr.heap.size + 1 := by simp
        rw [hsz] at hB2
        obtain ⟨W2, hW2⟩ : ∃ W2, (wr.alloc (.cells ca.toArray 47)).alloc (.cells cb.toArray 47) = W2 := ⟨_, rfl⟩
        have hB1' : Blk W2 wr.heap.size 47 ca.toArray := by rw [← hW2]; exact hB1.alloc _
        rw [hW2] at hB2
        have hbr2 : Below w.heap.size w W2 := by rw [← hW2]; exact (hbr.alloc hbr.size _).alloc (by have := hbr.size; simp; omega) _
        have hc1 : ∀ j u, ca[j]? = some u → W2.cell? ⟨wr.heap.size, 0 + j, none⟩ = some u := fun j u hu => by rw [Nat.zero_add]; exact cells_of_blk hB1' j u hu
        have hc2 : ∀ j u, cb[j]? = some u → W2.cell? ⟨wr.heap.size + 1, 0 + j, none⟩ = some u := fun j u hu => by rw [Nat.zero_add]; exact cells_of_blk hB2 j u hu
        have hcon2 := hcon W2 (Nat.le_trans hB hbr2.size) (by
            refine (hsx.below (w' := W2) ?_)
            rw [← hW2]
            exact ((Below.refl _ wr).alloc (by have := hbr.size; omega) _).alloc (by have := hbr.size; simp; omega) _) (by
            refine (hsy.below (w' := W2) ?_)
            rw [← hW2]
            exact ((Below.refl _ wr).alloc (by have := hbr.size; omega) _).alloc (by have := hbr.size; simp; omega) _) hxl hyl
        clear hcon hca hcb hx hy hcx hcy hB1 hsz hB2 hB1'
        have tok1 : True := trivial
        have tok2 : True := trivial
        have tok3 : True := trivial
        have tok4 : True := trivial
        have tok5 : True := trivial
        have tok6 : True := trivial
        by_cases hxy : x = y
        · have hd : Hid (decide (x = y) = true) := Lib.hid (by simp [hxy])
          rw [hd.out] at hcon2
          go_wp2_with (first
            | (have _t := tok1; refine wpList_load_at rfl 47 (.tmp 20) rfl b1 (o1 + k * 35) rfl ca _ hcx' Try.underlying47 rfl (by rw [txinfo, hlx.out]) ?_; clear tok1)
            | (have _t := tok2; refine wpList_store_new rfl 47 (.tmp 8) (.tmp 21) rfl ca.toArray rfl rfl _ _ (by rw [txinfo]; simp [hlx.out]) (by simp [hlx.out]) hox.out ?_; clear tok2)
            | (have _t := tok3; refine wpList_load_at rfl 47 (.tmp 24) rfl b2 (o2 + k * 35) rfl cb _ hcy' Try.underlying47 rfl (by rw [txinfo, hly.out]) ?_; clear tok3)
            | (have _t := tok4; refine wpList_store_new' rfl 47 (.tmp 9) (.tmp 25) rfl cb.toArray (wr.heap.size + 1) (by simp) rfl rfl _ _ (by rw [txinfo]; simp [hly.out]) (by simp [hly.out]) hoy.out ?_; clear tok4)
            | (have _t := tok5; refine wpList_load_at rfl 47 (.tmp 8) rfl wr.heap.size 0 rfl ca _ hc1 Try.underlying47 rfl (by rw [txinfo, hlx.out]) ?_; clear tok5)
            | (have _t := tok6; refine wpList_load_at rfl 47 (.tmp 9) rfl (wr.heap.size + 1) 0 rfl cb _ hc2 Try.underlying47 rfl (by rw [txinfo, hly.out]) ?_; clear tok6)
            | (go_at_call 37; refine hcon2.mono ?_; rintro e w' ⟨rfl, hbe⟩))
          go_round
          case rel => exact ⟨k + 1, by omega, by go_num, hup.succ hkX.out (by rw [hkY.out, hxy]), hbr2.trans (hbe.mono hbr2.size)⟩
          case measure => simp [intOf]; omega
        · have hd : Hid (decide (x = y) = false) := Lib.hid (by simp [hxy])
          rw [hd.out] at hcon2
          go_wp2_with (first
            | (have _t := tok1; refine wpList_load_at rfl 47 (.tmp 20) rfl b1 (o1 + k * 35) rfl ca _ hcx' Try.underlying47 rfl (by rw [txinfo, hlx.out]) ?_; clear tok1)
            | (have _t := tok2; refine wpList_store_new rfl 47 (.tmp 8) (.tmp 21) rfl ca.toArray rfl rfl _ _ (by rw [txinfo]; simp [hlx.out]) (by simp [hlx.out]) hox.out ?_; clear tok2)
            | (have _t := tok3; refine wpList_load_at rfl 47 (.tmp 24) rfl b2 (o2 + k * 35) rfl cb _ hcy' Try.underlying47 rfl (by rw [txinfo, hly.out]) ?_; clear tok3)
            | (have _t := tok4; refine wpList_store_new' rfl 47 (.tmp 9) (.tmp 25) rfl cb.toArray (wr.heap.size + 1) (by simp) rfl rfl _ _ (by rw [txinfo]; simp [hly.out]) (by simp [hly.out]) hoy.out ?_; clear tok4)
            | (have _t := tok5; refine wpList_load_at rfl 47 (.tmp 8) rfl wr.heap.size 0 rfl ca _ hc1 Try.underlying47 rfl (by rw [txinfo, hlx.out]) ?_; clear tok5)
            | (have _t := tok6; refine wpList_load_at rfl 47 (.tmp 9) rfl (wr.heap.size + 1) 0 rfl cb _ hc2 Try.underlying47 rfl (by rw [txinfo, hly.out]) ?_; clear tok6)
            | (go_at_call 37; refine hcon2.mono ?_; rintro e w' ⟨rfl, hbe⟩))
          go_ret
          refine ⟨ret_bool (decide_eq_false ?_).symm, hbr2.trans (hbe.mono hbr2.size)⟩
          rintro rfl
          have h1 := hkX.out
          rw [hkY.out] at h1
          injection h1 with h1
          exact hxy h1.symm
      · have hkn : k = n := by omega
        have hxy : xs = ys := hup.all (by rw [hn'.out, hkn]) (by rw [hm'.out, hkn])
        have hxy' := Lib.hid hxy
        clear hxy hup
        go_wp2
        go_ret
        exact ⟨ret_bool (by simp [hxy'.out]), hbr⟩
  · have q1 : ((n : Int) != (m : Int)) = true := by simp only [bne_iff_ne, ne_eq]; omega
    have q2 : ¬ ((n : Int) = (m : Int)) := by omega
    go_enter Try.func40, Try.ntmps40
    go_wp2
    go_ret
    refine ⟨ret_bool (decide_eq_false ?_).symm, Below.refl _ _⟩
    rintro rfl
    exact hnm (by rw [← hn'.out, hm'.out])
theorem outCells_len (x : TOut) (sv : Value) : (outCells x sv).length = 2 := rfl
theorem OutAt.cells {w : World} {B b o : Nat} {x : TOut} (h : OutAt w B b o x) : ∃ sv, Byt w B sv x.script ∧ ∀ j u, (outCells x sv)[j]? = some u → w.cell? ⟨b, o + j, none⟩ = some u := by
  obtain ⟨sv, h1, _, h3, h4⟩ := h
  refine ⟨sv, h1, fun j u hu => ?_⟩
  unfold outCells at hu
  rcases j with _ | _ | j
  · injection hu with hu; rw [← hu]; exact h3
  · injection hu with hu; rw [← hu]; exact h4
  · simp at hu
set_option maxRecDepth 100000 in
set_option maxHeartbeats 1600000 in
theorem equalOuts_any (va vb : Value) (xs ys : List TOut) (B : Nat) (w : World) (hB : B ≤ w.heap.size) (ha : OutsAt w B va xs) (hb : OutsAt w B vb ys) :
    Calls Try.prog 41 #[va, vb, .func (.func 39) #[] #[]] w fun e w' => e = .returned (.bool (decide (xs = ys))) ∧ Below w.heap.size w w' := by
  obtain ⟨A1, c1, rfl, hl1, hl2, ha3⟩ := ha
  obtain ⟨A2, c2, rfl, hl3, hl4, hb3⟩ := hb
  obtain ⟨n, hn⟩ : ∃ n, xs.length = n := ⟨_, rfl⟩
  obtain ⟨m, hm⟩ : ∃ m, ys.length = m := ⟨_, rfl⟩
  rw [hn] at hl1 ha3 ⊢
  rw [hm] at hl3 hb3 ⊢
  have hn' := Lib.hid hn
  have hm' := Lib.hid hm
  clear hn hm
  have hmax : n ≤ 9223372036854775807 := by have := hl2; unfold maxLen at this; omega
  by_cases hnm : n = m
  · subst hnm
    go_enter Try.func41, Try.ntmps41
    go_wp2
    go_loopw [17] (fun i wr => ∃ k : Nat, k ≤ n ∧ i = .int .i64 (k : Int) ∧ EqUp xs ys k ∧ Below w.heap.size w wr) (fun i _ => n - (intOf i).toNat)
    case atStart => exact ⟨0, Nat.zero_le _, rfl, fun j hj => absurd hj (by omega), Below.refl _ _⟩
    case round =>
      obtain ⟨k, hk, rfl, hup, hbr⟩ := hrel
      by_cases hlt : k < n
      · have hkx : k < xs.length := by rw [hn'.out]; exact hlt
        have hky : k < ys.length := by rw [hm'.out]; exact hlt
        obtain ⟨b1, o1, hA1, hb1, hx⟩ := ha3 (by omega)
        obtain ⟨b2, o2, hA2, hb2, hy⟩ := hb3 (by omega)
        subst hA1
        subst hA2
        have hX := (hx k xs[k] (List.getElem?_eq_getElem hkx)).keep hb1 (fun p hp => (hbr.mono hB).cell hp)
        have hY := (hy k ys[k] (List.getElem?_eq_getElem hky)).keep hb2 (fun p hp => (hbr.mono hB).cell hp)
        have hkX := Lib.hid (List.getElem?_eq_getElem hkx)
        have hkY := Lib.hid (List.getElem?_eq_getElem hky)
        generalize xs[k] = x at *
        generalize ys[k] = y at *
        obtain ⟨sx, hsx, hcx⟩ := hX.cells
        obtain ⟨sy, hsy, hcy⟩ := hY.cells
        obtain ⟨As, ns, cs, rfl⟩ := slice_of_byt hsx
        obtain ⟨At, nt, ct, rfl⟩ := slice_of_byt hsy
        have hlx := Lib.hid (outCells_len x (.slice As ns cs))
        have hly := Lib.hid (outCells_len y (.slice At nt ct))
        have hox := Lib.hid (outCells_one x (.slice As ns cs) rfl)
        have hoy := Lib.hid (outCells_one y (.slice At nt ct) rfl)
        have hcon := same2_any x y (.slice As ns cs) (.slice At nt ct) B
        generalize hca : outCells x (.slice As ns cs) = ca at *
        generalize hcb : outCells y (.slice At nt ct) = cb at *
        have hcx' : ∀ j u, ca[j]? = some u → wr.cell? ⟨b1, o1 + k * 2 + j, none⟩ = some u := hcx
        have hcy' : ∀ j u, cb[j]? = some u → (wr.alloc (.cells ca.toArray 49)).cell? ⟨b2, o2 + k * 2 + j, none⟩ = some u := fun j u hu => (World.cell?_alloc_lt _ _ _ (by have := hbr.size; show b2 < _; omega)).trans (hcy j u hu)
        have hB1 := Blk.new wr 49 ca.toArray
        have hB2 := Blk.new (wr.alloc (.cells ca.toArray 49)) 49 cb.toArray
        have hsz : (wr.alloc (.cells ca.toArray 49)).heap.size = wr.heap.size + 1 := by simp
        rw [hsz] at hB2
        obtain ⟨W2, hW2⟩ : ∃ W2, (wr.alloc (.cells ca.toArray 49)).alloc (.cells cb.toArray 49) = W2 := ⟨_, rfl⟩
        have hB1' : Blk W2 wr.heap.size 49 ca.toArray := by rw [← hW2]; exact hB1.alloc _
        rw [hW2] at hB2
        have hbr2 : Below w.heap.size w W2 := by rw [← hW2]; exact (hbr.alloc hbr.size _).alloc (by have := hbr.size; simp; omega) _
        have hc1 : ∀ j u, ca[j]? = some u → W2.cell? ⟨wr.heap.size, 0 + j, none⟩ = some u := fun j u hu => by rw [Nat.zero_add]; exact cells_of_blk hB1' j u hu
        have hc2 : ∀ j u, cb[j]? = some u → W2.cell? ⟨wr.heap.size + 1, 0 + j, none⟩ = some u := fun j u hu => by rw [Nat.zero_add]; exact cells_of_blk hB2 j u hu
        have hcon2 := hcon W2 (Nat.le_trans hB hbr2.size) (by
            refine (hsx.below (w' := W2) ?_)
            rw [← hW2]
            exact ((Below.refl _ wr).alloc (by have := hbr.size; omega) _).alloc (by have := hbr.size; simp; omega) _) (by
            refine (hsy.below (w' := W2) ?_)
            rw [← hW2]
            exact ((Below.refl _ wr).alloc (by have := hbr.size; omega) _).alloc (by have := hbr.size; simp; omega) _)
        clear hcon hca hcb hx hy hcx hcy hB1 hsz hB2 hB1'
        have tok1 : True := trivial
        have tok2 : True := trivial
        have tok3 : True := trivial
        have tok4 : True := trivial
        have tok5 : True := trivial
        have tok6 : True := trivial
        by_cases hxy : x = y
        · have hd : Hid (decide (x = y) = true) := Lib.hid (by simp [hxy])
          rw [hd.out] at hcon2
          go_wp2_with (first
            | (have _t := tok1; refine wpList_load_at rfl 49 (.tmp 20) rfl b1 (o1 + k * 2) rfl ca _ hcx' Try.underlying49 rfl (by rw [outinfo, hlx.out]) ?_; clear tok1)
            | (have _t := tok2; refine wpList_store_new rfl 49 (.tmp 8) (.tmp 21) rfl ca.toArray rfl rfl _ _ (by rw [outinfo]; simp [hlx.out]) (by simp [hlx.out]) hox.out ?_; clear tok2)
            | (have _t := tok3; refine wpList_load_at rfl 49 (.tmp 24) rfl b2 (o2 + k * 2) rfl cb _ hcy' Try.underlying49 rfl (by rw [outinfo, hly.out]) ?_; clear tok3)
            | (have _t := tok4; refine wpList_store_new' rfl 49 (.tmp 9) (.tmp 25) rfl cb.toArray (wr.heap.size + 1) (by simp) rfl rfl _ _ (by rw [outinfo]; simp [hly.out]) (by simp [hly.out]) hoy.out ?_; clear tok4)
            | (have _t := tok5; refine wpList_load_at rfl 49 (.tmp 8) rfl wr.heap.size 0 rfl ca _ hc1 Try.underlying49 rfl (by rw [outinfo, hlx.out]) ?_; clear tok5)
            | (have _t := tok6; refine wpList_load_at rfl 49 (.tmp 9) rfl (wr.heap.size + 1) 0 rfl cb _ hc2 Try.underlying49 rfl (by rw [outinfo, hly.out]) ?_; clear tok6)
            | (go_at_call 39; refine hcon2.mono ?_; rintro e w' ⟨rfl, hbe⟩))
          go_round
          case rel => exact ⟨k + 1, by omega, by go_num, hup.succ hkX.out (by rw [hkY.out, hxy]), hbr2.trans (hbe.mono hbr2.size)⟩
          case measure => simp [intOf]; omega
        · have hd : Hid (decide (x = y) = false) := Lib.hid (by simp [hxy])
          rw [hd.out] at hcon2
          go_wp2_with (first
            | (have _t := tok1; refine wpList_load_at rfl 49 (.tmp 20) rfl b1 (o1 + k * 2) rfl ca _ hcx' Try.underlying49 rfl (by rw [outinfo, hlx.out]) ?_; clear tok1)
            | (have _t := tok2; refine wpList_store_new rfl 49 (.tmp 8) (.tmp 21) rfl ca.toArray rfl rfl _ _ (by rw [outinfo]; simp [hlx.out]) (by simp [hlx.out]) hox.out ?_; clear tok2)
            | (have _t := tok3; refine wpList_load_at rfl 49 (.tmp 24) rfl b2 (o2 + k * 2) rfl cb _ hcy' Try.underlying49 rfl (by rw [outinfo, hly.out]) ?_; clear tok3)
            | (have _t := tok4; refine wpList_store_new' rfl 49 (.tmp 9) (.tmp 25) rfl cb.toArray (wr.heap.size + 1) (by simp) rfl rfl _ _ (by rw [outinfo]; simp [hly.out]) (by simp [hly.out]) hoy.out ?_; clear tok4)
            | (have _t := tok5; refine wpList_load_at rfl 49 (.tmp 8) rfl wr.heap.size 0 rfl ca _ hc1 Try.underlying49 rfl (by rw [outinfo, hlx.out]) ?_; clear tok5)
            | (have _t := tok6; refine wpList_load_at rfl 49 (.tmp 9) rfl (wr.heap.size + 1) 0 rfl cb _ hc2 Try.underlying49 rfl (by rw [outinfo, hly.out]) ?_; clear tok6)
            | (go_at_call 39; refine hcon2.mono ?_; rintro e w' ⟨rfl, hbe⟩))
          go_ret
          refine ⟨ret_bool (decide_eq_false ?_).symm, hbr2.trans (hbe.mono hbr2.size)⟩
          rintro rfl
          have h1 := hkX.out
          rw [hkY.out] at h1
          injection h1 with h1
          exact hxy h1.symm
      · have hkn : k = n := by omega
        have hxy : xs = ys := hup.all (by rw [hn'.out, hkn]) (by rw [hm'.out, hkn])
        have hxy' := Lib.hid hxy
        clear hxy hup
        go_wp2
        go_ret
        exact ⟨ret_bool (by simp [hxy'.out]), hbr⟩
  · have q1 : ((n : Int) != (m : Int)) = true := by simp only [bne_iff_ne, ne_eq]; omega
    have q2 : ¬ ((n : Int) = (m : Int)) := by omega
    go_enter Try.func41, Try.ntmps41
    go_wp2
    go_ret
    refine ⟨ret_bool (decide_eq_false ?_).symm, Below.refl _ _⟩
    rintro rfl
    exact hnm (by rw [← hn'.out, hm'.out])
end Go.Proofs.Ytcilabemglbhbaa
