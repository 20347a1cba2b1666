/- tx.Check: which transaction may be; the scripts are told by an iterator. -/
import Derived.Test.YtcilabemglbhbaaGreatDoorK8
import Derived.Test.YtcilabemglbhbaaGreatDoorK6
import Derived.Deep.Slices
namespace Go.Proofs.YtcilabemglbhbaaGreatDoor
open Go Go.RowKit Go.Pur Go.Shelf
attribute [local go_sem] Oper.semAt_some

theorem txinfo : (Tryz.prog.info? 89).map (·.size) = some 35 := by kernel_rfl
theorem outinfo : (Tryz.prog.info? 91).map (·.size) = some 2 := by kernel_rfl

/-- may a transaction be? -/
def okTx (t : TTx) : Bool := decide (1 ≤ t.ins.length) && decide (t.ins.length ≤ 50) && decide (1 ≤ t.outs.length) && decide (t.outs.length ≤ 50) && t.ins.all (fun x => decide (x.script.length ≤ 2000)) && t.outs.all (fun x => decide (x.script.length ≤ 2000))
def chkE (t : TTx) : Int := if okTx t then 0 else 60
def CheckPost (t : TTx) (w : World) (e : Ending) (w' : World) : Prop := e = .returned (.int .i64 (chkE t)) ∧ Below w.heap.size w w'

/-- a slice's header: its address, its length, its capacity. -/
abbrev Sl := Option Addr × Nat × Nat
def slv (x : Sl) : Value := .slice x.1 x.2.1 x.2.2

/-- the inputs lie at ⟨b, o⟩, their scripts' headers are f. -/
def InsRow (w : World) (b o : Nat) (xs : List TIn) (f : Nat → Sl) : Prop := ∀ k x, xs[k]? = some x → x.tx.length = 32 ∧ (f k).2.1 = x.script.length ∧ ∀ j u, (inCells x (slv (f k)))[j]? = some u → w.cell? ⟨b, o + k * 35 + j, none⟩ = some u
def OutsRow (w : World) (b o : Nat) (xs : List TOut) (f : Nat → Sl) : Prop := ∀ k x, xs[k]? = some x → (f k).2.1 = x.script.length ∧ ∀ j u, (outCells x (slv (f k)))[j]? = some u → w.cell? ⟨b, o + k * 2 + j, none⟩ = some u

theorem byt_sl {w : World} {B : Nat} {v : Value} {l : Bytes} (h : Byt w B v l) : ∃ s : Sl, v = slv s ∧ s.2.1 = l.length := by
  obtain ⟨A, c, h, _⟩ := h
  exact ⟨(A, l.length, c), h, rfl⟩
theorem insAt_row {w : World} {B : Nat} {A : Option Addr} {n c : Nat} {xs : List TIn} (h : InsAt w B (.slice A n c) xs) : n = xs.length ∧ ∃ b o f, (0 < n → A = some ⟨b, o, none⟩ ∧ b < B) ∧ InsRow w b o xs f := by
  obtain ⟨A', c', hv, _, _, h3⟩ := h
  injection hv with e1 e2 e3
  subst e1; subst e2; subst e3
  refine ⟨rfl, ?_⟩
  rcases Nat.eq_zero_or_pos xs.length with h0 | h0
  · refine ⟨0, 0, fun _ => (none, 0, 0), fun h => absurd h (by omega), fun k x hk => ?_⟩
    have := List.eq_nil_of_length_eq_zero h0
    subst this
    simp at hk
  · obtain ⟨b, o, hA, hb, hx⟩ := h3 h0
    obtain ⟨f, hf⟩ := Go.Deep.choose_lt (α := Sl) (n := xs.length) (p := fun k s => ∀ x, xs[k]? = some x → x.tx.length = 32 ∧ s.2.1 = x.script.length ∧ ∀ j u, (inCells x (slv s))[j]? = some u → w.cell? ⟨b, o + k * 35 + j, none⟩ = some u) (fun k hk => by
      obtain ⟨sv, hs, h32, _, _, hc⟩ := hx k xs[k] (List.getElem?_eq_getElem hk)
      obtain ⟨s, rfl, hl⟩ := byt_sl hs
      refine ⟨s, fun x hx' => ?_⟩
      rw [List.getElem?_eq_getElem hk] at hx'
      injection hx' with hx'
      subst hx'
      exact ⟨h32, hl, hc⟩)
    refine ⟨b, o, f, fun _ => ⟨hA, hb⟩, fun k x hk => hf k ?_ x hk⟩
    rcases Nat.lt_or_ge k xs.length with h | h
    · exact h
    · rw [List.getElem?_eq_none h] at hk; cases hk
theorem outsAt_row {w : World} {B : Nat} {A : Option Addr} {n c : Nat} {xs : List TOut} (h : OutsAt w B (.slice A n c) xs) : n = xs.length ∧ ∃ b o f, (0 < n → A = some ⟨b, o, none⟩ ∧ b < B) ∧ OutsRow w b o xs f := by
  obtain ⟨A', c', hv, _, _, h3⟩ := h
  injection hv with e1 e2 e3
  subst e1; subst e2; subst e3
  refine ⟨rfl, ?_⟩
  rcases Nat.eq_zero_or_pos xs.length with h0 | h0
  · refine ⟨0, 0, fun _ => (none, 0, 0), fun h => absurd h (by omega), fun k x hk => ?_⟩
    have := List.eq_nil_of_length_eq_zero h0
    subst this
    simp at hk
  · obtain ⟨b, o, hA, hb, hx⟩ := h3 h0
    obtain ⟨f, hf⟩ := Go.Deep.choose_lt (α := Sl) (n := xs.length) (p := fun k s => ∀ x, xs[k]? = some x → s.2.1 = x.script.length ∧ ∀ j u, (outCells x (slv s))[j]? = some u → w.cell? ⟨b, o + k * 2 + j, none⟩ = some u) (fun k hk => by
      obtain ⟨sv, hs, _, hc0, hc1⟩ := hx k xs[k] (List.getElem?_eq_getElem hk)
      obtain ⟨s, rfl, hl⟩ := byt_sl hs
      refine ⟨s, fun x hx' => ?_⟩
      rw [List.getElem?_eq_getElem hk] at hx'
      injection hx' with hx'
      subst hx'
      refine ⟨hl, fun j u hu => ?_⟩
      match j, hu with
      | 0, hu => rw [← hu]; exact hc0
      | 1, hu => rw [← hu]; exact hc1
      | j + 2, hu => simp [outCells] at hu)
    refine ⟨b, o, f, fun _ => ⟨hA, hb⟩, fun k x hk => hf k ?_ x hk⟩
    rcases Nat.lt_or_ge k xs.length with h | h
    · exact h
    · rw [List.getElem?_eq_none h] at hk; cases hk
theorem InsRow.below {w w' : World} {B b o : Nat} {xs : List TIn} {f : Nat → Sl} (h : InsRow w b o xs f) (hb : Below B w w') (hB : 0 < xs.length → b < B) : InsRow w' b o xs f := fun k x hk => by
  obtain ⟨h1, h2, h3⟩ := h k x hk
  have h0 : 0 < xs.length := by
    cases xs with
    | nil => simp at hk
    | cons => simp
  exact ⟨h1, h2, fun j u hu => (hb.cell (p := ⟨b, o + k * 35 + j, none⟩) (hB h0)).trans (h3 j u hu)⟩
theorem OutsRow.below {w w' : World} {B b o : Nat} {xs : List TOut} {f : Nat → Sl} (h : OutsRow w b o xs f) (hb : Below B w w') (hB : 0 < xs.length → b < B) : OutsRow w' b o xs f := fun k x hk => by
  obtain ⟨h2, h3⟩ := h k x hk
  have h0 : 0 < xs.length := by
    cases xs with
    | nil => simp at hk
    | cons => simp
  exact ⟨h2, fun j u hu => (hb.cell (p := ⟨b, o + k * 2 + j, none⟩) (hB h0)).trans (h3 j u hu)⟩

/-- the headers that the iterator tells. -/
def tellsE (ni no : Nat) (f g : Nat → Sl) : List Sl := (List.range ni).map f ++ (List.range no).map g

set_option maxRecDepth 100000 in
set_option maxHeartbeats 1600000 in
theorem scripts1_in (n : Nat) (hn : 1 ≤ n) (Bt n₀ : Nat) (t : TTx) (ver lock : Value) (Ai Ao : Option Addr) (ci co bi oi bo oo : Nat) (f g : Nat → Sl) (w : World)
    (hbx : Blk w Bt 52 #[ver, .slice Ai t.ins.length ci, .slice Ao t.outs.length co, lock]) (hBt : Bt < n₀) (hn0 : n₀ ≤ w.heap.size) (hl : t.ins.length ≤ 60 ∧ t.outs.length ≤ 60)
    (hAi : 0 < t.ins.length → Ai = some ⟨bi, oi, none⟩ ∧ bi < n₀) (hAo : 0 < t.outs.length → Ao = some ⟨bo, oo, none⟩ ∧ bo < n₀) (hi : InsRow w bi oi t.ins f) (ho : OutsRow w bo oo t.outs g) :
    SeqRow Fence.wide n Tryz.prog 85 #[.pointer (some ⟨Bt, 0, none⟩)] (fun x : Sl => #[slv x]) (Below n₀) none (· = tellsE t.ins.length t.outs.length f g) (· <+: tellsE t.ins.length t.outs.length f g) 120 w := by
  intro l J Jx W hW hJ hJx hY h0
  have hW' := hW.mono hn0
  have hbW := hbx.below hW' hBt
  have hiW := hi.below hW' (fun h => (hAi h).2)
  have hoW := ho.below hW' (fun h => (hAo h).2)
  have hsz : n₀ ≤ W.heap.size := Nat.le_trans hn0 hW.size
  have hcW1 := hbW.cell 1
  have hcW2 := hbW.cell 2
  generalize hni : t.ins.length = ni at *
  generalize hno : t.outs.length = no at *
  have hni' := Lib.hid hni
  have hno' := Lib.hid hno
  have hni6 := hl.1
  have hno6 := hl.2
  clear hni hno hl
  refine callsIn_of_wp Tryz.func85 rfl trivial ?_ rfl
  simp only [Tryz.ntmps85, List.size_toArray, List.length_cons, List.length_nil, Nat.reduceAdd, Nat.reduceSub, Array.replicate_succ, Array.replicate_zero, List.push_toArray, List.append_toArray, List.nil_append, List.cons_append]
  have tells1 : ∀ k, k ≤ ni → (List.range k).map f <+: tellsE ni no f g := fun k hk => by
    unfold tellsE
    refine List.IsPrefix.trans ?_ (List.prefix_append _ _)
    refine ⟨((List.range (ni - k)).map (fun j => f (k + j))), ?_⟩
    have := @List.range_add k (ni - k)
    rw [show k + (ni - k) = ni by omega] at this
    rw [this]
    simp
  have tells2 : ∀ k, k ≤ no → (List.range ni).map f ++ (List.range k).map g <+: tellsE ni no f g := fun k hk => by
    unfold tellsE
    refine (List.prefix_append_right_inj _).2 ?_
    refine ⟨((List.range (no - k)).map (fun j => g (k + j))), ?_⟩
    have := @List.range_add k (no - k)
    rw [show k + (no - k) = no by omega] at this
    rw [this]
    simp
  have H1 := Lib.hid tells1
  have H2 := Lib.hid tells2
  have HJ := Lib.hid hJ
  have HJx := Lib.hid hJx
  have HY := Lib.hid hY
  have HiW := Lib.hid hiW
  have HoW := Lib.hid hoW
  have HAi := Lib.hid hAi
  have HAo := Lib.hid hAo
  clear tells1 tells2 hJ hJx hY hiW hoW hAi hAo hi ho hW
  gi_wp2
  gi_loopw [10] (fun i wr => ∃ k : Nat, k ≤ ni ∧ i = .int .i64 (k : Int) ∧ J ((List.range k).map f) wr ∧ Below n₀ W wr) (fun i _ => ni - (intOf i).toNat)
  case atStart => exact ⟨0, Nat.zero_le _, rfl, h0, Below.refl _ _⟩
  case round =>
    obtain ⟨k, hk, rfl, hj, hb⟩ := hrel
    by_cases hlt : k < ni
    · have hkl : k < t.ins.length := by rw [hni'.out]; exact hlt
      obtain ⟨h32, hfl, hcells0⟩ := HiW.out k t.ins[k] (List.getElem?_eq_getElem hkl)
      obtain ⟨hA, hbi⟩ := HAi.out (by omega)
      subst hA
      have hcells : ∀ j u, (inCells t.ins[k] (slv (f k)))[j]? = some u → wr.cell? ⟨bi, oi + k * 35 + j, none⟩ = some u := fun j u hu => (hb.cell (p := ⟨bi, oi + k * 35 + j, none⟩) hbi).trans (hcells0 j u hu)
      generalize t.ins[k] = x at *
      have hlen := Lib.hid (inCells_length x (slv (f k)) h32)
      have hone := Lib.hid (inCells_one x (slv (f k)) rfl)
      have hat1 := (inCells_at x (slv (f k)) h32).2.1
      have hj2 := HJ.out _ wr (wr.alloc (.cells (inCells x (slv (f k))).toArray 89)) hj (World.grownBy_alloc _ _ _) (fun r e => by cases e)
      obtain ⟨fn, tmps, assign, body, hy, hR⟩ := HY.out ((List.range k).map f) (f k) _ hj2 (by simp; omega)
      try dsimp only at hy
      generalize hca : inCells x (slv (f k)) = ca at *
      clear hca hcells0 hfl
      have HR := Lib.hid hR
      clear hR
      have tok1 : True := trivial
      have tok2 : True := trivial
      gi_wp2_with (first
        | (have _t := tok1; refine wpListIn_load_at rfl 89 (.tmp 12) rfl bi (oi + k * 35) rfl ca _ hcells Tryz.underlying89 rfl (by rw [txinfo, hlen.out]) ?_; clear tok1)
        | (have _t := tok2; refine wpListIn_store_new rfl 89 (.tmp 4) (.tmp 13) rfl ca.toArray rfl rfl _ _ (by rw [txinfo]; simp [hlen.out]) (by simp [hlen.out]) hone.out ?_; clear tok2))
      refine HR.out.mono ?_
      rintro e W3 (⟨rfl, hJ3, hk3⟩ | ⟨rfl, hJx3⟩)
      · have hb3 : Below n₀ W W3 := hb.trans (((Below.refl n₀ wr).alloc (Nat.le_trans hsz hb.size) (.cells ca.toArray 89)).trans hk3)
        gi_wp2
        go_roundw
        case rel => exact ⟨k + 1, by omega, by go_num, by rw [List.range_succ, List.map_append]; exact hJ3, hb3⟩
        case measure => simp [intOf]; omega
      · gi_wp2
        refine bodyPost_ret (results_none rfl _ _ _) rfl ?_
        exact ⟨⟨_, rfl⟩, .inr ⟨_, by have := H1.out (k + 1) (by omega); rw [List.range_succ, List.map_append] at this; exact this, hJx3⟩⟩
    · have hke : k = ni := by omega
      have hke' := Lib.hid hke
      have hcr2 := (hb.cell (p := ⟨Bt, 2, none⟩) hBt).trans hcW2
      have hj' : J ((List.range ni).map f ++ (List.range 0).map g) wr := by rw [← hke]; simpa using hj
      clear hke hj
      gi_wp2
      obtain ⟨wo, rfl⟩ : ∃ wo : World, wo = wr := ⟨_, rfl⟩
      gi_loopw [23] (fun i wr => ∃ k : Nat, k ≤ no ∧ i = .int .i64 (k : Int) ∧ J ((List.range ni).map f ++ (List.range k).map g) wr ∧ Below n₀ W wr) (fun i _ => no - (intOf i).toNat)
      case atStart => exact ⟨0, Nat.zero_le _, rfl, hj', hb⟩
      case round =>
        clear hb hcr2 hj'
        obtain ⟨k2, hk2, rfl, hj, hb⟩ := hrel
        by_cases hlt2 : k2 < no
        · have hkl : k2 < t.outs.length := by rw [hno'.out]; exact hlt2
          obtain ⟨hfl, hcells0⟩ := HoW.out k2 t.outs[k2] (List.getElem?_eq_getElem hkl)
          obtain ⟨hA, hbo⟩ := HAo.out (by omega)
          subst hA
          have hcells : ∀ j u, (outCells t.outs[k2] (slv (g k2)))[j]? = some u → wr.cell? ⟨bo, oo + k2 * 2 + j, none⟩ = some u := fun j u hu => (hb.cell (p := ⟨bo, oo + k2 * 2 + j, none⟩) hbo).trans (hcells0 j u hu)
          generalize t.outs[k2] = x at *
          have hlen : Hid ((outCells x (slv (g k2))).length = 2) := Lib.hid rfl
          have hone := Lib.hid (outCells_one x (slv (g k2)) rfl)
          have hat1 : (outCells x (slv (g k2))).toArray[1]? = some (slv (g k2)) := rfl
          have hj2 := HJ.out _ wr (wr.alloc (.cells (outCells x (slv (g k2))).toArray 91)) hj (World.grownBy_alloc _ _ _) (fun r e => by cases e)
          obtain ⟨fn, tmps, assign, body, hy, hR⟩ := HY.out ((List.range ni).map f ++ (List.range k2).map g) (g k2) _ hj2 (by simp; omega)
          try dsimp only at hy
          generalize hca : outCells x (slv (g k2)) = ca at *
          clear hca hcells0 hfl
          have HR := Lib.hid hR
          clear hR
          have tok1 : True := trivial
          have tok2 : True := trivial
          gi_wp2_with (first
            | (have _t := tok1; refine wpListIn_load_at rfl 91 (.tmp 25) rfl bo (oo + k2 * 2) rfl ca _ hcells Tryz.underlying91 rfl (by rw [outinfo, hlen.out]) ?_; clear tok1)
            | (have _t := tok2; refine wpListIn_store_new rfl 91 (.tmp 6) (.tmp 26) rfl ca.toArray rfl rfl _ _ (by rw [outinfo]; simp [hlen.out]) (by simp [hlen.out]) hone.out ?_; clear tok2))
          refine HR.out.mono ?_
          rintro e W3 (⟨rfl, hJ3, hk3⟩ | ⟨rfl, hJx3⟩)
          · have hb3 : Below n₀ W W3 := hb.trans (((Below.refl n₀ wr).alloc (Nat.le_trans hsz hb.size) (.cells ca.toArray 91)).trans hk3)
            gi_wp2
            go_roundw
            case rel => exact ⟨k2 + 1, by omega, by go_num, by rw [List.range_succ, List.map_append, ← List.append_assoc]; exact hJ3, hb3⟩
            case measure => simp [intOf]; omega
          · gi_wp2
            refine bodyPost_ret (results_none rfl _ _ _) rfl ?_
            exact ⟨⟨_, rfl⟩, .inr ⟨_, by have := H2.out (k2 + 1) (by omega); rw [List.range_succ, List.map_append, ← List.append_assoc] at this; exact this, hJx3⟩⟩
        · have hke : k2 = no := by omega
          subst hke
          gi_wp2
          go_end0
          exact ⟨⟨_, rfl⟩, .inl ⟨_, rfl, hj⟩⟩

/-- scripts: the iterator's closure over a box of the transaction. -/
theorem scripts_any (a b c d : Value) (w : World) : Calls Tryz.prog 69 #[.agg #[a, b, c, d]] w fun e w' =>
    e = .returned (.func (.func 85) #[] #[.pointer (some ⟨w.heap.size, 0, none⟩)]) ∧ w' = w.alloc (.cells #[a, b, c, d] 52) := by
  have hmf : ∀ (fn : Fn) (first cap : Array Value) (w : World), (Instr.makeFunc fn first cap).run Tryz.prog w = .ok (.func fn first cap) w := fun _ _ _ _ => rfl
  go_enter Tryz.func69, Tryz.ntmps69
  go_wp2
  go_ret
  exact ⟨rfl, rfl⟩

theorem mem_tells {ni no : Nat} {f g : Nat → Sl} {s : Sl} : s ∈ tellsE ni no f g ↔ (∃ k, k < ni ∧ f k = s) ∨ (∃ k, k < no ∧ g k = s) := by
  simp [tellsE]
theorem chk_good {w : World} {bi oi bo oo : Nat} {t : TTx} (f g : Nat → Sl) (hi : InsRow w bi oi t.ins f) (ho : OutsRow w bo oo t.outs g) (h1 : 1 ≤ t.ins.length) (h2 : t.ins.length ≤ 50) (h3 : 1 ≤ t.outs.length) (h4 : t.outs.length ≤ 50)
    (h : ∀ x ∈ tellsE t.ins.length t.outs.length f g, x.2.1 ≤ 2000) : chkE t = 0 := by
  have : okTx t = true := by
    simp only [okTx, Bool.and_eq_true, decide_eq_true_eq, List.all_eq_true]
    refine ⟨⟨⟨⟨⟨h1, h2⟩, h3⟩, h4⟩, fun x hx => ?_⟩, fun x hx => ?_⟩
    · obtain ⟨k, hk, rfl⟩ := List.getElem_of_mem hx
      rw [← (hi k _ (List.getElem?_eq_getElem hk)).2.1]
      exact h _ (mem_tells.2 (.inl ⟨k, hk, rfl⟩))
    · obtain ⟨k, hk, rfl⟩ := List.getElem_of_mem hx
      rw [← (ho k _ (List.getElem?_eq_getElem hk)).1]
      exact h _ (mem_tells.2 (.inr ⟨k, hk, rfl⟩))
  simp [chkE, this]
theorem chk_bad {w : World} {bi oi bo oo : Nat} {t : TTx} (f g : Nat → Sl) (hi : InsRow w bi oi t.ins f) (ho : OutsRow w bo oo t.outs g)
    (h : ∃ x ∈ tellsE t.ins.length t.outs.length f g, 2000 < x.2.1) : chkE t = 60 := by
  have : okTx t = false := by
    rw [Bool.eq_false_iff]
    intro hok
    simp only [okTx, Bool.and_eq_true, decide_eq_true_eq, List.all_eq_true] at hok
    obtain ⟨⟨_, ha⟩, hb⟩ := hok
    obtain ⟨x, hx, hx2⟩ := h
    rcases mem_tells.1 hx with ⟨k, hk, rfl⟩ | ⟨k, hk, rfl⟩
    · have := ha _ (List.getElem_mem hk)
      rw [← (hi k _ (List.getElem?_eq_getElem hk)).2.1] at this
      omega
    · have := hb _ (List.getElem_mem hk)
      rw [← (ho k _ (List.getElem?_eq_getElem hk)).1] at this
      omega
  simp [chkE, this]

set_option maxRecDepth 100000 in
set_option maxHeartbeats 1600000 in
theorem check_any (v : Value) (t : TTx) (B : Nat) (w : World) (hB : B ≤ w.heap.size) (h : TxAt w B v t) (hs : Small t) :
    Calls Tryz.prog 53 #[v] w (CheckPost t w) := by
  obtain ⟨iv, ov, rfl, _, _, hi, ho⟩ := h
  obtain ⟨Ai, ni, ci, rfl⟩ : ∃ A n c, iv = .slice A n c := by obtain ⟨A, c, h, _⟩ := hi; exact ⟨A, _, c, h⟩
  obtain ⟨Ao, no, co, rfl⟩ : ∃ A n c, ov = .slice A n c := by obtain ⟨A, c, h, _⟩ := ho; exact ⟨A, _, c, h⟩
  obtain ⟨hni, bi, oi, f, hA, hir⟩ := insAt_row hi
  obtain ⟨hno, bo, oo, g, hA2, hor⟩ := outsAt_row ho
  have hni' := Lib.hid hni
  have hno' := Lib.hid hno
  have hl1 := hs.1
  have hl2 := hs.2.1
  rw [← hni] at hl1
  rw [← hno] at hl2
  clear hni hno hi ho
  by_cases hbad : ni < 1 ∨ 50 < ni ∨ no < 1 ∨ 50 < no
  · have hfin : Hid (60 = chkE t) := by
      refine Lib.hid ?_
      have : okTx t = false := by
        rw [Bool.eq_false_iff]
        intro hok
        simp only [okTx, Bool.and_eq_true, decide_eq_true_eq] at hok
        have := hni'.out
        have := hno'.out
        omega
      simp [chkE, this]
    have hsplit : (ni < 1) ∨ (¬ ni < 1 ∧ 50 < ni) ∨ (¬ ni < 1 ∧ ¬ 50 < ni ∧ no < 1) ∨ (¬ ni < 1 ∧ ¬ 50 < ni ∧ ¬ no < 1 ∧ 50 < no) := by omega
    clear hbad
    rcases hsplit with h1 | ⟨h1, h2⟩ | ⟨h1, h2, h3⟩ | ⟨h1, h2, h3, h4⟩
    · refine calls_of_wp_marks Tryz.func53 rfl ?_
      simp only [Tryz.ntmps53, List.size_toArray, List.length_cons, List.length_nil, Nat.reduceAdd, Nat.reduceSub, Array.replicate_succ, Array.replicate_zero, List.push_toArray, List.append_toArray, List.nil_append, List.cons_append]
      go_wp2
      go_step3
      go_wp2
      go_step3
      go_wp2_with (go_at_call 69; refine (scripts_any _ _ _ _ _).mono ?_; rintro e w' ⟨rfl, rfl⟩)
      obtain ⟨W0, hW0⟩ : ∃ W0, ((w.alloc (.cells #[.int .u32 (t.ver : Int), .slice Ai ni ci, .slice Ao no co, .int .u32 (t.lock : Int)] 52)).alloc (.cells #[.int .i64 60] 33)).alloc (.cells #[.int .u32 (t.ver : Int), .slice Ai ni ci, .slice Ao no co, .int .u32 (t.lock : Int)] 52) = W0 := ⟨_, rfl⟩
      have hB0 : Below w.heap.size w W0 := by rw [← hW0]; exact (((Below.refl _ w).alloc (Nat.le_refl _) _).alloc (by simp) _).alloc (by simp; omega) _
      have hE0 : W0.cell? ⟨w.heap.size + 1, 0, none⟩ = some (.int .i64 60) := by
        rw [← hW0]
        have := ((Blk.new (w.alloc (.cells #[.int .u32 (t.ver : Int), .slice Ai ni ci, .slice Ao no co, .int .u32 (t.lock : Int)] 52)) 33 #[.int .i64 60]).alloc (.cells #[.int .u32 (t.ver : Int), .slice Ai ni ci, .slice Ao no co, .int .u32 (t.lock : Int)] 52)).cell 0
        simpa using this
      have hF0 : W0.frozen? ⟨w.heap.size + 1, 0, none⟩ = false := by
        rw [← hW0]
        have := ((Blk.new (w.alloc (.cells #[.int .u32 (t.ver : Int), .slice Ai ni ci, .slice Ao no co, .int .u32 (t.lock : Int)] 52)) 33 #[.int .i64 60]).alloc (.cells #[.int .u32 (t.ver : Int), .slice Ai ni ci, .slice Ao no co, .int .u32 (t.lock : Int)] 52)).frozen 0
        simpa using this
      have hbx0 : Blk W0 (w.heap.size + 1 + 1) 52 #[.int .u32 (t.ver : Int), .slice Ai ni ci, .slice Ao no co, .int .u32 (t.lock : Int)] := by
        rw [← hW0]
        have := Blk.new ((w.alloc (.cells #[.int .u32 (t.ver : Int), .slice Ai ni ci, .slice Ao no co, .int .u32 (t.lock : Int)] 52)).alloc (.cells #[.int .i64 60] 33)) 52 #[.int .u32 (t.ver : Int), .slice Ai ni ci, .slice Ao no co, .int .u32 (t.lock : Int)]
        simpa using this
      have hsz0 : W0.heap.size = w.heap.size + 1 + 1 + 1 := by rw [← hW0]; simp
      rw [hW0]
      clear hW0
      have hseq := scripts1_in 2 (by omega) (w.heap.size + 1 + 1) W0.heap.size t (.int .u32 (t.ver : Int)) (.int .u32 (t.lock : Int)) Ai Ao ci co bi oi bo oo f g W0 (by rw [← hni'.out, ← hno'.out]; exact hbx0) (by omega) (Nat.le_refl _)
        ⟨by rw [← hni'.out]; exact hl1, by rw [← hno'.out]; exact hl2⟩ (fun h => by have := hA (by rw [hni'.out]; exact h); exact ⟨this.1, by omega⟩) (fun h => by have := hA2 (by rw [hno'.out]; exact h); exact ⟨this.1, by omega⟩)
        (hir.below hB0 (fun h => by have := (hA (by rw [hni'.out]; exact h)).2; omega)) (hor.below hB0 (fun h => by have := (hA2 (by rw [hno'.out]; exact h)).2; omega))
      refine wp_rangeFunc_row (gf := 85) (lb := #[.pointer (some ⟨w.heap.size + 1 + 1, 0, none⟩)]) rfl (enters_of Tryz.func85 (by kernel_rfl) rfl) hseq belowK_t (belowK_b (Nat.le_refl _)) (Below.refl _ _) (fun _ => rfl)
        (fun pre W => (W.cell? ⟨w.heap.size + 1, 0, none⟩ = some (.int .i64 60) ∧ W.frozen? ⟨w.heap.size + 1, 0, none⟩ = false ∧ ∀ x ∈ pre, x.2.1 ≤ 2000) ∧ Below w.heap.size w W)
        (fun c pre W => (W.cell? ⟨w.heap.size + 1, 0, none⟩ = some (.int .i64 60) ∧ c = .exit 0 ∧ ∃ x ∈ pre, 2000 < x.2.1) ∧ Below w.heap.size w W)
        (OwnFrom.and (Own.from (fun s A B row hs hg hr => ⟨cell_kept hs.1 hg hr, (frozen_kept hs.1 hg hr).trans hs.2.1, hs.2.2⟩) _) (ownFrom_below (Nat.le_refl _) (by omega)))
        (fun c => OwnFrom.and (Own.from (fun s A B row hs hg hr => ⟨cell_kept hs.1 hg hr, hs.2⟩) _) (ownFrom_below (Nat.le_refl _) (by omega)))
        (fun s A B hs hg _ => ⟨⟨hg.cell hs.1.1 (by simp), (World.frozen?_of_block (hg.block _ (World.block_lt_of_cell? _ _ hs.1.1) (by simp))).trans hs.1.2.1, hs.1.2.2⟩, hs.2.grown hg hs.2.size (fun k e => by cases e)⟩)
        (fun c s A B hs hg _ => ⟨⟨hg.cell hs.1.1 (by simp), hs.1.2⟩, hs.2.grown hg hs.2.size (fun k e => by cases e)⟩)
        ⟨⟨hE0, hF0, by simp⟩, hB0⟩ ?round ?done ?stop
      case round =>
        intro l x W K hK
        obtain ⟨xa, xn, xc⟩ := x
        simp only [slv]
        gi_wp2
        rintro pre W' ⟨⟨hc, hf, hp⟩, hBW⟩ hlen
        by_cases hx : 2000 < xn
        · gi_wp2
          refine ⟨KeepsOthers.setCell _ _ _, ⟨World.cell?_setCell_same' _ _ _ (by rw [hc]; rfl), rfl, (xa, xn, xc), by simp, hx⟩, hBW.setCell (p := ⟨w.heap.size + 1, 0, none⟩) (by simp) _⟩
        · gi_wp2
          refine ⟨KeepsOthers.refl _, Below.refl _ _, ⟨hc, hf, fun y hy => ?_⟩, hBW⟩
          rcases List.mem_append.1 hy with h | h
          · exact hp y h
          · simp only [List.mem_singleton] at h
            rw [h]
            simp only
            omega
      case done =>
        rintro D ys W hD rfl ⟨⟨hc, hf, hp⟩, hBW⟩ hK
        go_wp2
        rw [Exit.noGoto_ret]
        refine ⟨by simp, .inl ⟨_, _, rfl, run_takeDeferred hK, ?_⟩⟩
        exact ⟨_, results_tmp rfl _ _ _, (by rw [← hfin.out]; rfl), hBW.trans (belowK_b (w := w) (Nat.le_refl _) W D _ _ (by omega) hK rfl rfl)⟩
      case stop =>
        rintro D c pre W hD hpre ⟨⟨hc, rfl, hex⟩, hBW⟩ hK
        go_wp2
        rw [Exit.noGoto_ret]
        refine ⟨by simp, .inl ⟨_, _, rfl, run_takeDeferred hK, ?_⟩⟩
        obtain ⟨x, hx, hx2⟩ := hex
        exact ⟨_, results_tmp rfl _ _ _, (by rw [← hfin.out]; rfl), hBW.trans (belowK_b (w := w) (Nat.le_refl _) W D _ _ (by omega) hK rfl rfl)⟩
    · refine calls_of_wp_marks Tryz.func53 rfl ?_
      simp only [Tryz.ntmps53, List.size_toArray, List.length_cons, List.length_nil, Nat.reduceAdd, Nat.reduceSub, Array.replicate_succ, Array.replicate_zero, List.push_toArray, List.append_toArray, List.nil_append, List.cons_append]
      go_wp2
      go_step3
      go_wp2
      go_step3
      go_wp2_with (go_at_call 69; refine (scripts_any _ _ _ _ _).mono ?_; rintro e w' ⟨rfl, rfl⟩)
      obtain ⟨W0, hW0⟩ : ∃ W0, ((w.alloc (.cells #[.int .u32 (t.ver : Int), .slice Ai ni ci, .slice Ao no co, .int .u32 (t.lock : Int)] 52)).alloc (.cells #[.int .i64 60] 33)).alloc (.cells #[.int .u32 (t.ver : Int), .slice Ai ni ci, .slice Ao no co, .int .u32 (t.lock : Int)] 52) = W0 := ⟨_, rfl⟩
      have hB0 : Below w.heap.size w W0 := by rw [← hW0]; exact (((Below.refl _ w).alloc (Nat.le_refl _) _).alloc (by simp) _).alloc (by simp; omega) _
      have hE0 : W0.cell? ⟨w.heap.size + 1, 0, none⟩ = some (.int .i64 60) := by
        rw [← hW0]
        have := ((Blk.new (w.alloc (.cells #[.int .u32 (t.ver : Int), .slice Ai ni ci, .slice Ao no co, .int .u32 (t.lock : Int)] 52)) 33 #[.int .i64 60]).alloc (.cells #[.int .u32 (t.ver : Int), .slice Ai ni ci, .slice Ao no co, .int .u32 (t.lock : Int)] 52)).cell 0
        simpa using this
      have hF0 : W0.frozen? ⟨w.heap.size + 1, 0, none⟩ = false := by
        rw [← hW0]
        have := ((Blk.new (w.alloc (.cells #[.int .u32 (t.ver : Int), .slice Ai ni ci, .slice Ao no co, .int .u32 (t.lock : Int)] 52)) 33 #[.int .i64 60]).alloc (.cells #[.int .u32 (t.ver : Int), .slice Ai ni ci, .slice Ao no co, .int .u32 (t.lock : Int)] 52)).frozen 0
        simpa using this
      have hbx0 : Blk W0 (w.heap.size + 1 + 1) 52 #[.int .u32 (t.ver : Int), .slice Ai ni ci, .slice Ao no co, .int .u32 (t.lock : Int)] := by
        rw [← hW0]
        have := Blk.new ((w.alloc (.cells #[.int .u32 (t.ver : Int), .slice Ai ni ci, .slice Ao no co, .int .u32 (t.lock : Int)] 52)).alloc (.cells #[.int .i64 60] 33)) 52 #[.int .u32 (t.ver : Int), .slice Ai ni ci, .slice Ao no co, .int .u32 (t.lock : Int)]
        simpa using this
      have hsz0 : W0.heap.size = w.heap.size + 1 + 1 + 1 := by rw [← hW0]; simp
      rw [hW0]
      clear hW0
      have hseq := scripts1_in 2 (by omega) (w.heap.size + 1 + 1) W0.heap.size t (.int .u32 (t.ver : Int)) (.int .u32 (t.lock : Int)) Ai Ao ci co bi oi bo oo f g W0 (by rw [← hni'.out, ← hno'.out]; exact hbx0) (by omega) (Nat.le_refl _)
        ⟨by rw [← hni'.out]; exact hl1, by rw [← hno'.out]; exact hl2⟩ (fun h => by have := hA (by rw [hni'.out]; exact h); exact ⟨this.1, by omega⟩) (fun h => by have := hA2 (by rw [hno'.out]; exact h); exact ⟨this.1, by omega⟩)
        (hir.below hB0 (fun h => by have := (hA (by rw [hni'.out]; exact h)).2; omega)) (hor.below hB0 (fun h => by have := (hA2 (by rw [hno'.out]; exact h)).2; omega))
      refine wp_rangeFunc_row (gf := 85) (lb := #[.pointer (some ⟨w.heap.size + 1 + 1, 0, none⟩)]) rfl (enters_of Tryz.func85 (by kernel_rfl) rfl) hseq belowK_t (belowK_b (Nat.le_refl _)) (Below.refl _ _) (fun _ => rfl)
        (fun pre W => (W.cell? ⟨w.heap.size + 1, 0, none⟩ = some (.int .i64 60) ∧ W.frozen? ⟨w.heap.size + 1, 0, none⟩ = false ∧ ∀ x ∈ pre, x.2.1 ≤ 2000) ∧ Below w.heap.size w W)
        (fun c pre W => (W.cell? ⟨w.heap.size + 1, 0, none⟩ = some (.int .i64 60) ∧ c = .exit 0 ∧ ∃ x ∈ pre, 2000 < x.2.1) ∧ Below w.heap.size w W)
        (OwnFrom.and (Own.from (fun s A B row hs hg hr => ⟨cell_kept hs.1 hg hr, (frozen_kept hs.1 hg hr).trans hs.2.1, hs.2.2⟩) _) (ownFrom_below (Nat.le_refl _) (by omega)))
        (fun c => OwnFrom.and (Own.from (fun s A B row hs hg hr => ⟨cell_kept hs.1 hg hr, hs.2⟩) _) (ownFrom_below (Nat.le_refl _) (by omega)))
        (fun s A B hs hg _ => ⟨⟨hg.cell hs.1.1 (by simp), (World.frozen?_of_block (hg.block _ (World.block_lt_of_cell? _ _ hs.1.1) (by simp))).trans hs.1.2.1, hs.1.2.2⟩, hs.2.grown hg hs.2.size (fun k e => by cases e)⟩)
        (fun c s A B hs hg _ => ⟨⟨hg.cell hs.1.1 (by simp), hs.1.2⟩, hs.2.grown hg hs.2.size (fun k e => by cases e)⟩)
        ⟨⟨hE0, hF0, by simp⟩, hB0⟩ ?round ?done ?stop
      case round =>
        intro l x W K hK
        obtain ⟨xa, xn, xc⟩ := x
        simp only [slv]
        gi_wp2
        rintro pre W' ⟨⟨hc, hf, hp⟩, hBW⟩ hlen
        by_cases hx : 2000 < xn
        · gi_wp2
          refine ⟨KeepsOthers.setCell _ _ _, ⟨World.cell?_setCell_same' _ _ _ (by rw [hc]; rfl), rfl, (xa, xn, xc), by simp, hx⟩, hBW.setCell (p := ⟨w.heap.size + 1, 0, none⟩) (by simp) _⟩
        · gi_wp2
          refine ⟨KeepsOthers.refl _, Below.refl _ _, ⟨hc, hf, fun y hy => ?_⟩, hBW⟩
          rcases List.mem_append.1 hy with h | h
          · exact hp y h
          · simp only [List.mem_singleton] at h
            rw [h]
            simp only
            omega
      case done =>
        rintro D ys W hD rfl ⟨⟨hc, hf, hp⟩, hBW⟩ hK
        go_wp2
        rw [Exit.noGoto_ret]
        refine ⟨by simp, .inl ⟨_, _, rfl, run_takeDeferred hK, ?_⟩⟩
        exact ⟨_, results_tmp rfl _ _ _, (by rw [← hfin.out]; rfl), hBW.trans (belowK_b (w := w) (Nat.le_refl _) W D _ _ (by omega) hK rfl rfl)⟩
      case stop =>
        rintro D c pre W hD hpre ⟨⟨hc, rfl, hex⟩, hBW⟩ hK
        go_wp2
        rw [Exit.noGoto_ret]
        refine ⟨by simp, .inl ⟨_, _, rfl, run_takeDeferred hK, ?_⟩⟩
        obtain ⟨x, hx, hx2⟩ := hex
        exact ⟨_, results_tmp rfl _ _ _, (by rw [← hfin.out]; rfl), hBW.trans (belowK_b (w := w) (Nat.le_refl _) W D _ _ (by omega) hK rfl rfl)⟩
    · refine calls_of_wp_marks Tryz.func53 rfl ?_
      simp only [Tryz.ntmps53, List.size_toArray, List.length_cons, List.length_nil, Nat.reduceAdd, Nat.reduceSub, Array.replicate_succ, Array.replicate_zero, List.push_toArray, List.append_toArray, List.nil_append, List.cons_append]
      go_wp2
      go_step3
      go_wp2
      go_step3
      go_wp2_with (go_at_call 69; refine (scripts_any _ _ _ _ _).mono ?_; rintro e w' ⟨rfl, rfl⟩)
      obtain ⟨W0, hW0⟩ : ∃ W0, ((w.alloc (.cells #[.int .u32 (t.ver : Int), .slice Ai ni ci, .slice Ao no co, .int .u32 (t.lock : Int)] 52)).alloc (.cells #[.int .i64 60] 33)).alloc (.cells #[.int .u32 (t.ver : Int), .slice Ai ni ci, .slice Ao no co, .int .u32 (t.lock : Int)] 52) = W0 := ⟨_, rfl⟩
      have hB0 : Below w.heap.size w W0 := by rw [← hW0]; exact (((Below.refl _ w).alloc (Nat.le_refl _) _).alloc (by simp) _).alloc (by simp; omega) _
      have hE0 : W0.cell? ⟨w.heap.size + 1, 0, none⟩ = some (.int .i64 60) := by
        rw [← hW0]
        have := ((Blk.new (w.alloc (.cells #[.int .u32 (t.ver : Int), .slice Ai ni ci, .slice Ao no co, .int .u32 (t.lock : Int)] 52)) 33 #[.int .i64 60]).alloc (.cells #[.int .u32 (t.ver : Int), .slice Ai ni ci, .slice Ao no co, .int .u32 (t.lock : Int)] 52)).cell 0
        simpa using this
      have hF0 : W0.frozen? ⟨w.heap.size + 1, 0, none⟩ = false := by
        rw [← hW0]
        have := ((Blk.new (w.alloc (.cells #[.int .u32 (t.ver : Int), .slice Ai ni ci, .slice Ao no co, .int .u32 (t.lock : Int)] 52)) 33 #[.int .i64 60]).alloc (.cells #[.int .u32 (t.ver : Int), .slice Ai ni ci, .slice Ao no co, .int .u32 (t.lock : Int)] 52)).frozen 0
        simpa using this
      have hbx0 : Blk W0 (w.heap.size + 1 + 1) 52 #[.int .u32 (t.ver : Int), .slice Ai ni ci, .slice Ao no co, .int .u32 (t.lock : Int)] := by
        rw [← hW0]
        have := Blk.new ((w.alloc (.cells #[.int .u32 (t.ver : Int), .slice Ai ni ci, .slice Ao no co, .int .u32 (t.lock : Int)] 52)).alloc (.cells #[.int .i64 60] 33)) 52 #[.int .u32 (t.ver : Int), .slice Ai ni ci, .slice Ao no co, .int .u32 (t.lock : Int)]
        simpa using this
      have hsz0 : W0.heap.size = w.heap.size + 1 + 1 + 1 := by rw [← hW0]; simp
      rw [hW0]
      clear hW0
      have hseq := scripts1_in 2 (by omega) (w.heap.size + 1 + 1) W0.heap.size t (.int .u32 (t.ver : Int)) (.int .u32 (t.lock : Int)) Ai Ao ci co bi oi bo oo f g W0 (by rw [← hni'.out, ← hno'.out]; exact hbx0) (by omega) (Nat.le_refl _)
        ⟨by rw [← hni'.out]; exact hl1, by rw [← hno'.out]; exact hl2⟩ (fun h => by have := hA (by rw [hni'.out]; exact h); exact ⟨this.1, by omega⟩) (fun h => by have := hA2 (by rw [hno'.out]; exact h); exact ⟨this.1, by omega⟩)
        (hir.below hB0 (fun h => by have := (hA (by rw [hni'.out]; exact h)).2; omega)) (hor.below hB0 (fun h => by have := (hA2 (by rw [hno'.out]; exact h)).2; omega))
      refine wp_rangeFunc_row (gf := 85) (lb := #[.pointer (some ⟨w.heap.size + 1 + 1, 0, none⟩)]) rfl (enters_of Tryz.func85 (by kernel_rfl) rfl) hseq belowK_t (belowK_b (Nat.le_refl _)) (Below.refl _ _) (fun _ => rfl)
        (fun pre W => (W.cell? ⟨w.heap.size + 1, 0, none⟩ = some (.int .i64 60) ∧ W.frozen? ⟨w.heap.size + 1, 0, none⟩ = false ∧ ∀ x ∈ pre, x.2.1 ≤ 2000) ∧ Below w.heap.size w W)
        (fun c pre W => (W.cell? ⟨w.heap.size + 1, 0, none⟩ = some (.int .i64 60) ∧ c = .exit 0 ∧ ∃ x ∈ pre, 2000 < x.2.1) ∧ Below w.heap.size w W)
        (OwnFrom.and (Own.from (fun s A B row hs hg hr => ⟨cell_kept hs.1 hg hr, (frozen_kept hs.1 hg hr).trans hs.2.1, hs.2.2⟩) _) (ownFrom_below (Nat.le_refl _) (by omega)))
        (fun c => OwnFrom.and (Own.from (fun s A B row hs hg hr => ⟨cell_kept hs.1 hg hr, hs.2⟩) _) (ownFrom_below (Nat.le_refl _) (by omega)))
        (fun s A B hs hg _ => ⟨⟨hg.cell hs.1.1 (by simp), (World.frozen?_of_block (hg.block _ (World.block_lt_of_cell? _ _ hs.1.1) (by simp))).trans hs.1.2.1, hs.1.2.2⟩, hs.2.grown hg hs.2.size (fun k e => by cases e)⟩)
        (fun c s A B hs hg _ => ⟨⟨hg.cell hs.1.1 (by simp), hs.1.2⟩, hs.2.grown hg hs.2.size (fun k e => by cases e)⟩)
        ⟨⟨hE0, hF0, by simp⟩, hB0⟩ ?round ?done ?stop
      case round =>
        intro l x W K hK
        obtain ⟨xa, xn, xc⟩ := x
        simp only [slv]
        gi_wp2
        rintro pre W' ⟨⟨hc, hf, hp⟩, hBW⟩ hlen
        by_cases hx : 2000 < xn
        · gi_wp2
          refine ⟨KeepsOthers.setCell _ _ _, ⟨World.cell?_setCell_same' _ _ _ (by rw [hc]; rfl), rfl, (xa, xn, xc), by simp, hx⟩, hBW.setCell (p := ⟨w.heap.size + 1, 0, none⟩) (by simp) _⟩
        · gi_wp2
          refine ⟨KeepsOthers.refl _, Below.refl _ _, ⟨hc, hf, fun y hy => ?_⟩, hBW⟩
          rcases List.mem_append.1 hy with h | h
          · exact hp y h
          · simp only [List.mem_singleton] at h
            rw [h]
            simp only
            omega
      case done =>
        rintro D ys W hD rfl ⟨⟨hc, hf, hp⟩, hBW⟩ hK
        go_wp2
        rw [Exit.noGoto_ret]
        refine ⟨by simp, .inl ⟨_, _, rfl, run_takeDeferred hK, ?_⟩⟩
        exact ⟨_, results_tmp rfl _ _ _, (by rw [← hfin.out]; rfl), hBW.trans (belowK_b (w := w) (Nat.le_refl _) W D _ _ (by omega) hK rfl rfl)⟩
      case stop =>
        rintro D c pre W hD hpre ⟨⟨hc, rfl, hex⟩, hBW⟩ hK
        go_wp2
        rw [Exit.noGoto_ret]
        refine ⟨by simp, .inl ⟨_, _, rfl, run_takeDeferred hK, ?_⟩⟩
        obtain ⟨x, hx, hx2⟩ := hex
        exact ⟨_, results_tmp rfl _ _ _, (by rw [← hfin.out]; rfl), hBW.trans (belowK_b (w := w) (Nat.le_refl _) W D _ _ (by omega) hK rfl rfl)⟩
    · refine calls_of_wp_marks Tryz.func53 rfl ?_
      simp only [Tryz.ntmps53, List.size_toArray, List.length_cons, List.length_nil, Nat.reduceAdd, Nat.reduceSub, Array.replicate_succ, Array.replicate_zero, List.push_toArray, List.append_toArray, List.nil_append, List.cons_append]
      go_wp2
      go_step3
      go_wp2
      go_step3
      go_wp2_with (go_at_call 69; refine (scripts_any _ _ _ _ _).mono ?_; rintro e w' ⟨rfl, rfl⟩)
      obtain ⟨W0, hW0⟩ : ∃ W0, ((w.alloc (.cells #[.int .u32 (t.ver : Int), .slice Ai ni ci, .slice Ao no co, .int .u32 (t.lock : Int)] 52)).alloc (.cells #[.int .i64 60] 33)).alloc (.cells #[.int .u32 (t.ver : Int), .slice Ai ni ci, .slice Ao no co, .int .u32 (t.lock : Int)] 52) = W0 := ⟨_, rfl⟩
      have hB0 : Below w.heap.size w W0 := by rw [← hW0]; exact (((Below.refl _ w).alloc (Nat.le_refl _) _).alloc (by simp) _).alloc (by simp; omega) _
      have hE0 : W0.cell? ⟨w.heap.size + 1, 0, none⟩ = some (.int .i64 60) := by
        rw [← hW0]
        have := ((Blk.new (w.alloc (.cells #[.int .u32 (t.ver : Int), .slice Ai ni ci, .slice Ao no co, .int .u32 (t.lock : Int)] 52)) 33 #[.int .i64 60]).alloc (.cells #[.int .u32 (t.ver : Int), .slice Ai ni ci, .slice Ao no co, .int .u32 (t.lock : Int)] 52)).cell 0
        simpa using this
      have hF0 : W0.frozen? ⟨w.heap.size + 1, 0, none⟩ = false := by
        rw [← hW0]
        have := ((Blk.new (w.alloc (.cells #[.int .u32 (t.ver : Int), .slice Ai ni ci, .slice Ao no co, .int .u32 (t.lock : Int)] 52)) 33 #[.int .i64 60]).alloc (.cells #[.int .u32 (t.ver : Int), .slice Ai ni ci, .slice Ao no co, .int .u32 (t.lock : Int)] 52)).frozen 0
        simpa using this
      have hbx0 : Blk W0 (w.heap.size + 1 + 1) 52 #[.int .u32 (t.ver : Int), .slice Ai ni ci, .slice Ao no co, .int .u32 (t.lock : Int)] := by
        rw [← hW0]
        have := Blk.new ((w.alloc (.cells #[.int .u32 (t.ver : Int), .slice Ai ni ci, .slice Ao no co, .int .u32 (t.lock : Int)] 52)).alloc (.cells #[.int .i64 60] 33)) 52 #[.int .u32 (t.ver : Int), .slice Ai ni ci, .slice Ao no co, .int .u32 (t.lock : Int)]
        simpa using this
      have hsz0 : W0.heap.size = w.heap.size + 1 + 1 + 1 := by rw [← hW0]; simp
      rw [hW0]
      clear hW0
      have hseq := scripts1_in 2 (by omega) (w.heap.size + 1 + 1) W0.heap.size t (.int .u32 (t.ver : Int)) (.int .u32 (t.lock : Int)) Ai Ao ci co bi oi bo oo f g W0 (by rw [← hni'.out, ← hno'.out]; exact hbx0) (by omega) (Nat.le_refl _)
        ⟨by rw [← hni'.out]; exact hl1, by rw [← hno'.out]; exact hl2⟩ (fun h => by have := hA (by rw [hni'.out]; exact h); exact ⟨this.1, by omega⟩) (fun h => by have := hA2 (by rw [hno'.out]; exact h); exact ⟨this.1, by omega⟩)
        (hir.below hB0 (fun h => by have := (hA (by rw [hni'.out]; exact h)).2; omega)) (hor.below hB0 (fun h => by have := (hA2 (by rw [hno'.out]; exact h)).2; omega))
      refine wp_rangeFunc_row (gf := 85) (lb := #[.pointer (some ⟨w.heap.size + 1 + 1, 0, none⟩)]) rfl (enters_of Tryz.func85 (by kernel_rfl) rfl) hseq belowK_t (belowK_b (Nat.le_refl _)) (Below.refl _ _) (fun _ => rfl)
        (fun pre W => (W.cell? ⟨w.heap.size + 1, 0, none⟩ = some (.int .i64 60) ∧ W.frozen? ⟨w.heap.size + 1, 0, none⟩ = false ∧ ∀ x ∈ pre, x.2.1 ≤ 2000) ∧ Below w.heap.size w W)
        (fun c pre W => (W.cell? ⟨w.heap.size + 1, 0, none⟩ = some (.int .i64 60) ∧ c = .exit 0 ∧ ∃ x ∈ pre, 2000 < x.2.1) ∧ Below w.heap.size w W)
        (OwnFrom.and (Own.from (fun s A B row hs hg hr => ⟨cell_kept hs.1 hg hr, (frozen_kept hs.1 hg hr).trans hs.2.1, hs.2.2⟩) _) (ownFrom_below (Nat.le_refl _) (by omega)))
        (fun c => OwnFrom.and (Own.from (fun s A B row hs hg hr => ⟨cell_kept hs.1 hg hr, hs.2⟩) _) (ownFrom_below (Nat.le_refl _) (by omega)))
        (fun s A B hs hg _ => ⟨⟨hg.cell hs.1.1 (by simp), (World.frozen?_of_block (hg.block _ (World.block_lt_of_cell? _ _ hs.1.1) (by simp))).trans hs.1.2.1, hs.1.2.2⟩, hs.2.grown hg hs.2.size (fun k e => by cases e)⟩)
        (fun c s A B hs hg _ => ⟨⟨hg.cell hs.1.1 (by simp), hs.1.2⟩, hs.2.grown hg hs.2.size (fun k e => by cases e)⟩)
        ⟨⟨hE0, hF0, by simp⟩, hB0⟩ ?round ?done ?stop
      case round =>
        intro l x W K hK
        obtain ⟨xa, xn, xc⟩ := x
        simp only [slv]
        gi_wp2
        rintro pre W' ⟨⟨hc, hf, hp⟩, hBW⟩ hlen
        by_cases hx : 2000 < xn
        · gi_wp2
          refine ⟨KeepsOthers.setCell _ _ _, ⟨World.cell?_setCell_same' _ _ _ (by rw [hc]; rfl), rfl, (xa, xn, xc), by simp, hx⟩, hBW.setCell (p := ⟨w.heap.size + 1, 0, none⟩) (by simp) _⟩
        · gi_wp2
          refine ⟨KeepsOthers.refl _, Below.refl _ _, ⟨hc, hf, fun y hy => ?_⟩, hBW⟩
          rcases List.mem_append.1 hy with h | h
          · exact hp y h
          · simp only [List.mem_singleton] at h
            rw [h]
            simp only
            omega
      case done =>
        rintro D ys W hD rfl ⟨⟨hc, hf, hp⟩, hBW⟩ hK
        go_wp2
        rw [Exit.noGoto_ret]
        refine ⟨by simp, .inl ⟨_, _, rfl, run_takeDeferred hK, ?_⟩⟩
        exact ⟨_, results_tmp rfl _ _ _, (by rw [← hfin.out]; rfl), hBW.trans (belowK_b (w := w) (Nat.le_refl _) W D _ _ (by omega) hK rfl rfl)⟩
      case stop =>
        rintro D c pre W hD hpre ⟨⟨hc, rfl, hex⟩, hBW⟩ hK
        go_wp2
        rw [Exit.noGoto_ret]
        refine ⟨by simp, .inl ⟨_, _, rfl, run_takeDeferred hK, ?_⟩⟩
        obtain ⟨x, hx, hx2⟩ := hex
        exact ⟨_, results_tmp rfl _ _ _, (by rw [← hfin.out]; rfl), hBW.trans (belowK_b (w := w) (Nat.le_refl _) W D _ _ (by omega) hK rfl rfl)⟩
  · have h1 : ¬ ni < 1 := by omega
    have h2 : ¬ 50 < ni := by omega
    have h3 : ¬ no < 1 := by omega
    have h4 : ¬ 50 < no := by omega
    clear hbad
    have hfin1 : Hid ((∀ x ∈ tellsE t.ins.length t.outs.length f g, x.2.1 ≤ 2000) → 0 = chkE t) := Lib.hid (fun h => (chk_good f g hir hor (by rw [← hni'.out]; omega) (by rw [← hni'.out]; omega) (by rw [← hno'.out]; omega) (by rw [← hno'.out]; omega) h).symm)
    have hfin2 : Hid ((∃ x ∈ tellsE t.ins.length t.outs.length f g, 2000 < x.2.1) → 60 = chkE t) := Lib.hid (fun h => (chk_bad f g hir hor h).symm)
    refine calls_of_wp_marks Tryz.func53 rfl ?_
    simp only [Tryz.ntmps53, List.size_toArray, List.length_cons, List.length_nil, Nat.reduceAdd, Nat.reduceSub, Array.replicate_succ, Array.replicate_zero, List.push_toArray, List.append_toArray, List.nil_append, List.cons_append]
    go_wp2
    go_step3
    go_wp2
    go_step3
    go_wp2_with (go_at_call 69; refine (scripts_any _ _ _ _ _).mono ?_; rintro e w' ⟨rfl, rfl⟩)
    obtain ⟨W0, hW0⟩ : ∃ W0, ((w.alloc (.cells #[.int .u32 (t.ver : Int), .slice Ai ni ci, .slice Ao no co, .int .u32 (t.lock : Int)] 52)).alloc (.cells #[.int .i64 0] 33)).alloc (.cells #[.int .u32 (t.ver : Int), .slice Ai ni ci, .slice Ao no co, .int .u32 (t.lock : Int)] 52) = W0 := ⟨_, rfl⟩
    have hB0 : Below w.heap.size w W0 := by rw [← hW0]; exact (((Below.refl _ w).alloc (Nat.le_refl _) _).alloc (by simp) _).alloc (by simp; omega) _
    have hE0 : W0.cell? ⟨w.heap.size + 1, 0, none⟩ = some (.int .i64 0) := by
      rw [← hW0]
      have := ((Blk.new (w.alloc (.cells #[.int .u32 (t.ver : Int), .slice Ai ni ci, .slice Ao no co, .int .u32 (t.lock : Int)] 52)) 33 #[.int .i64 0]).alloc (.cells #[.int .u32 (t.ver : Int), .slice Ai ni ci, .slice Ao no co, .int .u32 (t.lock : Int)] 52)).cell 0
      simpa using this
    have hF0 : W0.frozen? ⟨w.heap.size + 1, 0, none⟩ = false := by
      rw [← hW0]
      have := ((Blk.new (w.alloc (.cells #[.int .u32 (t.ver : Int), .slice Ai ni ci, .slice Ao no co, .int .u32 (t.lock : Int)] 52)) 33 #[.int .i64 0]).alloc (.cells #[.int .u32 (t.ver : Int), .slice Ai ni ci, .slice Ao no co, .int .u32 (t.lock : Int)] 52)).frozen 0
      simpa using this
    have hbx0 : Blk W0 (w.heap.size + 1 + 1) 52 #[.int .u32 (t.ver : Int), .slice Ai ni ci, .slice Ao no co, .int .u32 (t.lock : Int)] := by
      rw [← hW0]
      have := Blk.new ((w.alloc (.cells #[.int .u32 (t.ver : Int), .slice Ai ni ci, .slice Ao no co, .int .u32 (t.lock : Int)] 52)).alloc (.cells #[.int .i64 0] 33)) 52 #[.int .u32 (t.ver : Int), .slice Ai ni ci, .slice Ao no co, .int .u32 (t.lock : Int)]
      simpa using this
    have hsz0 : W0.heap.size = w.heap.size + 1 + 1 + 1 := by rw [← hW0]; simp
    rw [hW0]
    clear hW0
    have hseq := scripts1_in 2 (by omega) (w.heap.size + 1 + 1) W0.heap.size t (.int .u32 (t.ver : Int)) (.int .u32 (t.lock : Int)) Ai Ao ci co bi oi bo oo f g W0 (by rw [← hni'.out, ← hno'.out]; exact hbx0) (by omega) (Nat.le_refl _)
      ⟨by rw [← hni'.out]; exact hl1, by rw [← hno'.out]; exact hl2⟩ (fun h => by have := hA (by rw [hni'.out]; exact h); exact ⟨this.1, by omega⟩) (fun h => by have := hA2 (by rw [hno'.out]; exact h); exact ⟨this.1, by omega⟩)
      (hir.below hB0 (fun h => by have := (hA (by rw [hni'.out]; exact h)).2; omega)) (hor.below hB0 (fun h => by have := (hA2 (by rw [hno'.out]; exact h)).2; omega))
    refine wp_rangeFunc_row (gf := 85) (lb := #[.pointer (some ⟨w.heap.size + 1 + 1, 0, none⟩)]) rfl (enters_of Tryz.func85 (by kernel_rfl) rfl) hseq belowK_t (belowK_b (Nat.le_refl _)) (Below.refl _ _) (fun _ => rfl)
      (fun pre W => (W.cell? ⟨w.heap.size + 1, 0, none⟩ = some (.int .i64 0) ∧ W.frozen? ⟨w.heap.size + 1, 0, none⟩ = false ∧ ∀ x ∈ pre, x.2.1 ≤ 2000) ∧ Below w.heap.size w W)
      (fun c pre W => (W.cell? ⟨w.heap.size + 1, 0, none⟩ = some (.int .i64 60) ∧ c = .exit 0 ∧ ∃ x ∈ pre, 2000 < x.2.1) ∧ Below w.heap.size w W)
      (OwnFrom.and (Own.from (fun s A B row hs hg hr => ⟨cell_kept hs.1 hg hr, (frozen_kept hs.1 hg hr).trans hs.2.1, hs.2.2⟩) _) (ownFrom_below (Nat.le_refl _) (by omega)))
      (fun c => OwnFrom.and (Own.from (fun s A B row hs hg hr => ⟨cell_kept hs.1 hg hr, hs.2⟩) _) (ownFrom_below (Nat.le_refl _) (by omega)))
      (fun s A B hs hg _ => ⟨⟨hg.cell hs.1.1 (by simp), (World.frozen?_of_block (hg.block _ (World.block_lt_of_cell? _ _ hs.1.1) (by simp))).trans hs.1.2.1, hs.1.2.2⟩, hs.2.grown hg hs.2.size (fun k e => by cases e)⟩)
      (fun c s A B hs hg _ => ⟨⟨hg.cell hs.1.1 (by simp), hs.1.2⟩, hs.2.grown hg hs.2.size (fun k e => by cases e)⟩)
      ⟨⟨hE0, hF0, by simp⟩, hB0⟩ ?round ?done ?stop
    case round =>
      intro l x W K hK
      obtain ⟨xa, xn, xc⟩ := x
      simp only [slv]
      gi_wp2
      rintro pre W' ⟨⟨hc, hf, hp⟩, hBW⟩ hlen
      by_cases hx : 2000 < xn
      · gi_wp2
        refine ⟨KeepsOthers.setCell _ _ _, ⟨World.cell?_setCell_same' _ _ _ (by rw [hc]; rfl), rfl, (xa, xn, xc), by simp, hx⟩, hBW.setCell (p := ⟨w.heap.size + 1, 0, none⟩) (by simp) _⟩
      · gi_wp2
        refine ⟨KeepsOthers.refl _, Below.refl _ _, ⟨hc, hf, fun y hy => ?_⟩, hBW⟩
        rcases List.mem_append.1 hy with h | h
        · exact hp y h
        · simp only [List.mem_singleton] at h
          rw [h]
          simp only
          omega
    case done =>
      rintro D ys W hD rfl ⟨⟨hc, hf, hp⟩, hBW⟩ hK
      go_wp2
      rw [Exit.noGoto_ret]
      refine ⟨by simp, .inl ⟨_, _, rfl, run_takeDeferred hK, ?_⟩⟩
      exact ⟨_, results_tmp rfl _ _ _, (by rw [← hfin1.out hp]; rfl), hBW.trans (belowK_b (w := w) (Nat.le_refl _) W D _ _ (by omega) hK rfl rfl)⟩
    case stop =>
      rintro D c pre W hD hpre ⟨⟨hc, rfl, hex⟩, hBW⟩ hK
      go_wp2
      rw [Exit.noGoto_ret]
      refine ⟨by simp, .inl ⟨_, _, rfl, run_takeDeferred hK, ?_⟩⟩
      obtain ⟨x, hx, hx2⟩ := hex
      exact ⟨_, results_tmp rfl _ _ _, (by rw [← hfin2.out ⟨x, hpre.subset hx, hx2⟩]; rfl), hBW.trans (belowK_b (w := w) (Nat.le_refl _) W D _ _ (by omega) hK rfl rfl)⟩
end Go.Proofs.YtcilabemglbhbaaGreatDoor
