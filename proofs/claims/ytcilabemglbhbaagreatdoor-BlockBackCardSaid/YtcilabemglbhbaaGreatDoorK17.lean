/- tx.Encode: a transaction's bytes. -/
import Derived.Test.YtcilabemglbhbaaGreatDoorK9
namespace Go.Proofs.YtcilabemglbhbaaGreatDoor
open Go Go.RowKit Go.Pur

def encIn (x : TIn) : Bytes := x.tx ++ (le 4 x.n ++ ((szB x.script.length ++ x.script) ++ le 4 x.seq))
def encOut (x : TOut) : Bytes := le 8 (toU64 x.value) ++ (szB x.script.length ++ x.script)
def encIns (xs : List TIn) : Bytes := xs.flatMap encIn
def encOuts (xs : List TOut) : Bytes := xs.flatMap encOut
/-- a transaction's bytes, may it be or not. -/
def enc (t : TTx) : Bytes := ((((le 4 t.ver ++ szB t.ins.length) ++ encIns t.ins) ++ szB t.outs.length) ++ encOuts t.outs) ++ le 4 t.lock

theorem encIns_snoc (xs : List TIn) (k : Nat) (h : k < xs.length) : encIns (xs.take (k + 1)) = encIns (xs.take k) ++ encIn xs[k] := by
  rw [List.take_succ_eq_append_getElem h]; simp only [encIns, List.flatMap_append, List.flatMap_cons, List.flatMap_nil, List.append_nil]
theorem encOuts_snoc (xs : List TOut) (k : Nat) (h : k < xs.length) : encOuts (xs.take (k + 1)) = encOuts (xs.take k) ++ encOut xs[k] := by
  rw [List.take_succ_eq_append_getElem h]; simp only [encOuts, List.flatMap_append, List.flatMap_cons, List.flatMap_nil, List.append_nil]
theorem szB_length (n : Nat) : (szB n).length ≤ 9 := by
  unfold szB
  split
  · simp [le_length]
  · split
    · simp [le_length]
    · split <;> simp [le_length]
theorem encIn_length (x : TIn) (h : x.script.length ≤ 2100) (h2 : x.tx.length = 32) : (encIn x).length ≤ 2200 := by
  have := szB_length x.script.length
  simp [encIn, le_length]; omega
theorem encOut_length (x : TOut) (h : x.script.length ≤ 2100) : (encOut x).length ≤ 2200 := by
  have := szB_length x.script.length
  simp [encOut, le_length]; omega
theorem flat_length {α : Type} (f : α → Bytes) (xs : List α) (h : ∀ x ∈ xs, (f x).length ≤ 2200) : (xs.flatMap f).length ≤ xs.length * 2200 := by
  induction xs with
  | nil => simp
  | cons x r ih =>
    have h1 := h x (by simp)
    have h2 := ih (fun y hy => h y (by simp [hy]))
    simp only [List.flatMap_cons, List.length_append, List.length_cons]
    omega

def EncPost (t : TTx) (w : World) (e : Ending) (w' : World) : Prop := Below w.heap.size w w' ∧
  ((okTx t = true ∧ ∃ v', e = .returned (.tuple #[v', .int .i64 0]) ∧ OwnB w' w.heap.size 5 v' (enc t)) ∨ (okTx t = false ∧ e = .returned (.tuple #[.slice none 0 0, .int .i64 60])))


set_option maxRecDepth 100000 in
set_option maxHeartbeats 1600000 in
theorem encode_any (v : Value) (t : TTx) (B : Nat) (w : World) (hB : B ≤ w.heap.size) (h : TxAt w B v t) (hs : Small t) :
    Calls Tryz.prog 27 #[v] w (EncPost t w) := by
  have h0 := h
  obtain ⟨iv, ov, rfl, hver, hlock, hi, ho⟩ := h
  have hbw : Below w.heap.size w (w.alloc (.cells #[.int .u32 (t.ver : Int), iv, ov, .int .u32 (t.lock : Int)] 52)) := (Below.refl _ _).alloc (Nat.le_refl _) _
  obtain ⟨Ai, ni, ci, rfl⟩ : ∃ A n c, iv = .slice A n c := by obtain ⟨A, c, h, _⟩ := hi; exact ⟨A, _, c, h⟩
  obtain ⟨Ao, no, co, rfl⟩ : ∃ A n c, ov = .slice A n c := by obtain ⟨A, c, h, _⟩ := ho; exact ⟨A, _, c, h⟩
  have hbx : Blk (w.alloc (.cells #[.int .u32 (t.ver : Int), .slice Ai ni ci, .slice Ao no co, .int .u32 (t.lock : Int)] 52)) w.heap.size 52 #[.int .u32 (t.ver : Int), .slice Ai ni ci, .slice Ao no co, .int .u32 (t.lock : Int)] := Blk.new w _ _
  have h32 := Lib.hid hi.tx32
  have hwv := wrapU64' hver
  have hwl := wrapU64' hlock
  go_enter Tryz.func27, Tryz.ntmps27
  go_wp2_with fail
  refine (check_any _ t B _ (Nat.le_trans hB hbw.size) (h0.below (hbw.mono hB)) hs).mono ?_
  rintro e w1 ⟨rfl, hb1⟩
  have hb01 := hbw.trans (hb1.mono hbw.size)
  have hbx1 := hbx.below hb1 hbx.lt
  have hlt1 := hbx1.lt
  have hc10 := hbx1.cell 0
  have hc11 := hbx1.cell 1
  have hc12 := hbx1.cell 2
  have hc13 := hbx1.cell 3
  cases hok : okTx t with
  | false =>
    have hok' := Lib.hid hok
    have hc : chkE t = 60 := by simp [chkE, hok]
    clear hok
    rw [hc]
    clear hc
    go_wp2_with fail
    go_ret2
    exact ⟨hb01, .inr ⟨hok'.out, rfl⟩⟩
  | true =>
    have hok' := Lib.hid hok
    have hc : chkE t = 0 := by simp [chkE, hok]
    clear hok
    rw [hc]
    clear hc
    go_wp2_with fail
    refine (fixed4_any w1.heap.size none [] t.ver _ hver (by simp) (PenAt.new w1)).mono ?_
    rintro e w2 ⟨rfl, q2, hp2, hu2⟩
    have hbx2 := hu2.blk (hbx1.alloc _) (by omega) (by simp)
    have hlt2 := hbx2.lt
    have hc20 := hbx2.cell 0
    have hc21 := hbx2.cell 1
    have hc22 := hbx2.cell 2
    have hc23 := hbx2.cell 3
    have hni : ni = t.ins.length ∧ t.ins.length ≤ 60 := by
      obtain ⟨A, c, h, _⟩ := hi
      injection h with h1 h2 h3
      exact ⟨h2, hs.1⟩
    have hno : no = t.outs.length ∧ t.outs.length ≤ 60 := by
      obtain ⟨A, c, h, _⟩ := ho
      injection h with h1 h2 h3
      exact ⟨h2, hs.2.1⟩
    have hni' := Lib.hid hni
    have hno' := Lib.hid hno
    have hni6 : ni ≤ 60 := by omega
    have hno6 : no ≤ 60 := by omega
    clear hni hno
    go_wp2_with fail
    refine (size_any w1.heap.size q2 _ ni _ (by unfold Lt64; omega) (by simp [le_length]) hp2).mono ?_
    rintro e w3 ⟨rfl, q3, hp3, hu3⟩
    have hu3 := hu2.trans hu3
    have hbx3 := hu3.blk (hbx1.alloc _) (by omega) (by simp)
    have hlt3 := hbx3.lt
    have hc30 := hbx3.cell 0
    have hc31 := hbx3.cell 1
    have hc32 := hbx3.cell 2
    have hc33 := hbx3.cell 3
    have hl3 : (([] ++ le 4 t.ver) ++ szB ni).length ≤ 20 := by have := szB_length ni; simp [le_length]; omega
    generalize hL0 : ([] ++ le 4 t.ver) ++ szB ni = L0 at *
    have hL0' := Lib.hid hL0
    clear hL0
    go_wp2_with fail
    go_loopw [27] (fun i wr => ∃ (k : Nat) (q : Option Nat), k ≤ ni ∧ i = .int .i64 (k : Int) ∧ PenAt wr w1.heap.size q (L0 ++ encIns (t.ins.take k)) ∧ Upd w1.heap.size none (w1.alloc (.cells #[.slice none 0 0] 57)) wr q) (fun i _ => ni - (intOf i).toNat)
    case atStart => exact ⟨0, q3, by omega, rfl, by simpa [encIns] using hp3, hu3⟩
    case round =>
      obtain ⟨k, q, hk, rfl, hp, hu⟩ := hrel
      have hbxr := hu.blk (hbx1.alloc _) (by omega) (by simp)
      have hltr := hbxr.lt
      have hcr0 := hbxr.cell 0
      have hcr1 := hbxr.cell 1
      have hcr2 := hbxr.cell 2
      have hcr3 := hbxr.cell 3
      have hbr : Below w.heap.size w wr := (hb01.alloc hb01.size _).trans (hu.below (by simp; omega) (by omega) (by simp))
      have hpl := hp.lt
      by_cases hlt : k < ni
      · obtain ⟨Ai', ci', hsl, hi1, hi2, hi3⟩ := hi
        have hkl : k < t.ins.length := by rw [← hni'.out.1]; exact hlt
        obtain ⟨b, o, hA, hbB, hx⟩ := hi3 (by omega)
        have hAi : Ai = some ⟨b, o, none⟩ := by injection hsl with h1; rw [h1, hA]
        subst hAi
        obtain ⟨sv, hsv, hxl, hxn, hxq, hcells⟩ := (hx k t.ins[k] (List.getElem?_eq_getElem hkl)).keep hbB (fun p hp => (hbr.mono hB).cell hp)
        have hxs := hs.2.2.1 t.ins[k] (List.getElem_mem hkl)
        generalize hxx : t.ins[k] = x at *
        have hxx' := Lib.hid hxx
        obtain ⟨As, ns, cs, rfl⟩ := slice_of_byt hsv
        have hwn := wrapU64' hxn
        have hwq := wrapU64' hxq
        have hat := inCells_at x (.slice As ns cs) hxl
        have hat0 := hat.1
        have hat1 := hat.2.1
        have hat2 := hat.2.2
        clear hx hi3 hsl hat hA hxx
        have hlen := inCells_length x (.slice As ns cs) hxl
        have hone := inCells_one x (.slice As ns cs) rfl
        have tok1 : True := trivial
        have tok2 : True := trivial
        go_wp2_with (first
          | (have _t := tok1; refine wpList_load_at rfl 89 (.tmp 29) rfl b (o + k * 35) rfl (inCells x (.slice As ns cs)) _ hcells Tryz.underlying89 rfl (by rw [txinfo, hlen]) ?_; clear tok1)
          | (have _t := tok2; refine wpList_store_new rfl 89 (.tmp 7) (.tmp 30) rfl (inCells x (.slice As ns cs)).toArray rfl rfl _ _ (by rw [txinfo]; simp [hlen]) (by simp [hlen]) hone ?_; clear tok2))
        have hLk : (L0 ++ encIns (t.ins.take k)).length ≤ 140000 := by
          have h1 := flat_length encIn (t.ins.take k) (fun y hy => encIn_length y (hs.2.2.1 y (List.mem_of_mem_take hy)) (h32.out y (List.mem_of_mem_take hy)))
          have h2 := List.length_take_le k t.ins
          simp only [List.length_append, encIns]
          omega
        generalize hLL : L0 ++ encIns (t.ins.take k) = L at *
        have hLL' := Lib.hid hLL
        clear hLL
        have hpl1 := hpl.1
        have hneX : wr.heap.size ≠ w1.heap.size := by omega
        have hneq : some wr.heap.size ≠ q := fun e => by have := hpl.2 _ e.symm; omega
        have hneN : w.heap.size ≠ w1.heap.size := by omega
        have hX : Blk ((wr.alloc (.cells (inCells x (.slice As ns cs)).toArray 89)).alloc (.cells #[.slice (some ⟨wr.heap.size, 0, none⟩) 32 32] 30)) wr.heap.size 89 (inCells x (.slice As ns cs)).toArray := (Blk.new wr _ _).alloc _
        have hN : Blk ((wr.alloc (.cells (inCells x (.slice As ns cs)).toArray 89)).alloc (.cells #[.slice (some ⟨wr.heap.size, 0, none⟩) 32 32] 30)) w.heap.size 52 _ := (hbxr.alloc _).alloc _
        refine (raw1_any w1.heap.size q L x.tx (wr.heap.size + 1) 0 1 _ _ _ (by omega) (by omega) ((hp.alloc _).alloc _) (reads_of_blk hX x.tx 0 32 32 hxl.symm (Nat.le_refl _) (by simp [maxLen]) (inCells_tx x _)) (by simp)).mono ?_
        rintro e w5 ⟨rfl, q5, hp5, hu5⟩
        have hX5 := hu5.blk hX hneX hneq
        have hu5' := (((Upd.refl w1.heap.size q wr).alloc (.cells (inCells x (.slice As ns cs)).toArray 89)).alloc (.cells #[.slice (some ⟨wr.heap.size, 0, none⟩) 32 32] 30)).trans hu5
        have hc5 := (hX5.cell 32).trans hat0
        go_wp2_with fail
        refine (fixed4_any w1.heap.size q5 _ x.n w5 hxn (by simp; omega) hp5).mono ?_
        rintro e w6 ⟨rfl, q6, hp6, hu6⟩
        have hu6' := hu5'.trans hu6
        have hX6 := (hu5.trans hu6).blk hX hneX hneq
        have hc6 := (hX6.cell 33).trans hat1
        go_wp2_with fail
        have hqB : ∀ k, q = some k → w1.heap.size + 1 ≤ k := by
          intro k hk
          rcases hu.fresh with e | ⟨j, e, hj⟩
          · rw [e] at hk; cases hk
          · rw [e] at hk; injection hk with hk; simp at hj; omega
        have hbB : ∀ {w' : World} {q' : Option Nat}, Upd w1.heap.size q wr w' q' → Below B wr w' := fun h => h.below (by omega) (by omega) (fun k hk => by have := hqB k hk; omega)
        have hbq : ∀ {w' : World} {q' : Option Nat}, Upd w1.heap.size q wr w' q' → ∀ k, q' = some k → B ≤ k := fun h => h.base (by omega) (fun k hk => by have := hqB k hk; omega)
        have hsv6 := hsv.below (hbB hu6')
        refine (bytes_any w1.heap.size q6 _ x.script B _ w6 (by simp [le_length]; omega) (by omega) hp6 (by omega) (hbq hu6') hsv6).mono ?_
        rintro e w7 ⟨rfl, q7, hp7, hu7⟩
        have hu7' := hu6'.trans hu7
        have hX7 := ((hu5.trans hu6).trans hu7).blk hX hneX hneq
        have hc7 := (hX7.cell 34).trans hat2
        go_wp2_with fail
        have hsz := szB_length x.script.length
        refine (fixed4_any w1.heap.size q7 _ x.seq w7 hxq (by simp [le_length]; omega) hp7).mono ?_
        rintro e w8 ⟨rfl, q8, hp8, hu8⟩
        have hu8' := hu7'.trans hu8
        go_wp2_with fail
        go_roundw
        case rel =>
          refine ⟨k + 1, q8, by omega, by go_num, ?_, hu.trans hu8'⟩
          rw [encIns_snoc t.ins k hkl, ← List.append_assoc, hLL'.out, hxx'.out]
          simpa [encIn, List.append_assoc] using hp8
        case measure => simp [intOf]; omega
      · have hke : k = ni := by omega
        have hLk : (L0 ++ encIns t.ins).length ≤ 140000 := by
          have h1 := flat_length encIn t.ins (fun y hy => encIn_length y (hs.2.2.1 y hy) (h32.out y hy))
          have h2 := hni'.out
          simp only [List.length_append, encIns]
          omega
        have hp : PenAt wr w1.heap.size q (L0 ++ encIns t.ins) := by
          have e : t.ins.take k = t.ins := List.take_of_length_le (by rw [hke, hni'.out.1]; exact Nat.le_refl _)
          rwa [e] at hp
        clear hke
        generalize hLL1 : L0 ++ encIns t.ins = L at *
        have hLL1' := Lib.hid hLL1
        clear hLL1
        go_wp2_with fail
        refine (size_any w1.heap.size q L no _ (by unfold Lt64; omega) (by omega) hp).mono ?_
        rintro e w3b ⟨rfl, q3b, hp3b, hu3b⟩
        have hu3c := hu.trans hu3b
        have hbx3b := hu3c.blk (hbx1.alloc _) (by omega) (by simp)
        have hlt3b := hbx3b.lt
        have hc3b2 := hbx3b.cell 2
        have hszn := szB_length no
        have hlM : (L ++ szB no).length ≤ 140100 := by simp; omega
        generalize hM0 : L ++ szB no = M0 at *
        have hM0' := Lib.hid hM0
        clear hM0
        clear hp hu hbxr hltr hcr0 hcr1 hcr2 hcr3 hbr hpl hk hlt
        go_wp2_with fail
        obtain ⟨wo, rfl⟩ : ∃ wo : World, wo = wr := ⟨_, rfl⟩
        go_loopw [57] (fun i wr => ∃ (k : Nat) (q : Option Nat), k ≤ no ∧ i = .int .i64 (k : Int) ∧ PenAt wr w1.heap.size q (M0 ++ encOuts (t.outs.take k)) ∧ Upd w1.heap.size none (w1.alloc (.cells #[.slice none 0 0] 57)) wr q) (fun i _ => no - (intOf i).toNat)
        case atStart => exact ⟨0, q3b, by omega, rfl, by simpa [encOuts] using hp3b, hu3c⟩
        case round =>
          obtain ⟨k2, q2', hk2, rfl, hp, hu⟩ := hrel
          have hbxr := hu.blk (hbx1.alloc _) (by omega) (by simp)
          have hltr := hbxr.lt
          have hcr2 := hbxr.cell 2
          have hcr3 := hbxr.cell 3
          have hbr : Below w.heap.size w wr := (hb01.alloc hb01.size _).trans (hu.below (by simp; omega) (by omega) (by simp))
          have hpl := hp.lt
          by_cases hlt : k2 < no
          · obtain ⟨Ao', co', hsl, ho1, ho2, ho3⟩ := ho
            have hkl : k2 < t.outs.length := by rw [← hno'.out.1]; exact hlt
            obtain ⟨b, o, hA, hbB, hx⟩ := ho3 (by omega)
            have hAo : Ao = some ⟨b, o, none⟩ := by injection hsl with h1; rw [h1, hA]
            subst hAo
            obtain ⟨sv, hsv, hxi, hcell0, hcell1⟩ := (hx k2 t.outs[k2] (List.getElem?_eq_getElem hkl)).keep hbB (fun p hp => (hbr.mono hB).cell hp)
            have hxs := hs.2.2.2 t.outs[k2] (List.getElem_mem hkl)
            generalize hxx : t.outs[k2] = x at *
            have hxx' := Lib.hid hxx
            obtain ⟨As, ns, cs, rfl⟩ := slice_of_byt hsv
            have hwv8 := wrap_u64_int x.value
            have hcells : ∀ j u, (outCells x (.slice As ns cs))[j]? = some u → wr.cell? ⟨b, o + k2 * 2 + j, none⟩ = some u := by
              intro j u hu
              match j, hu with
              | 0, hu => rw [← hu]; exact hcell0
              | 1, hu => rw [← hu]; exact hcell1
              | j + 2, hu => simp [outCells] at hu
            have hone := outCells_one x (.slice As ns cs) rfl
            have hat0 : (outCells x (.slice As ns cs)).toArray[0]? = some (.int .i64 x.value) := rfl
            have hat1 : (outCells x (.slice As ns cs)).toArray[1]? = some (.slice As ns cs) := rfl
            have hlen : Hid ((outCells x (.slice As ns cs)).length = 2) := Lib.hid rfl
            clear hx ho3 hsl hA hxx
            have tok1 : True := trivial
            have tok2 : True := trivial
            have hLk : (M0 ++ encOuts (t.outs.take k2)).length ≤ 290000 := by
              have h1 := flat_length encOut (t.outs.take k2) (fun y hy => encOut_length y (hs.2.2.2 y (List.mem_of_mem_take hy)))
              have h2 := List.length_take_le k2 t.outs
              simp only [List.length_append, encOuts] at hlM ⊢
              omega
            generalize hLL : M0 ++ encOuts (t.outs.take k2) = M at *
            have hLL' := Lib.hid hLL
            clear hLL
            generalize hca : (outCells x (.slice As ns cs)) = ca at *
            clear hca
            go_wp2_with (first
              | (have _t := tok1; refine wpList_load_at rfl 91 (.tmp 59) rfl b (o + k2 * 2) rfl ca _ hcells Tryz.underlying91 rfl (by rw [outinfo, hlen.out]) ?_; clear tok1)
              | (have _t := tok2; refine wpList_store_new rfl 91 (.tmp 9) (.tmp 60) rfl ca.toArray rfl rfl _ _ (by rw [outinfo]; simp [hlen.out]) (by simp [hlen.out]) hone ?_; clear tok2))
            have hpl1 := hpl.1
            have hneX : wr.heap.size ≠ w1.heap.size := by omega
            have hneq : some wr.heap.size ≠ q2' := fun e => by have := hpl.2 _ e.symm; omega
            have hX : Blk (wr.alloc (.cells ca.toArray 91)) wr.heap.size 91 ca.toArray := Blk.new wr _ _
            refine (fixed8_any w1.heap.size q2' M (toU64 x.value) _ (toU64_lt _) (by omega) (hp.alloc _)).mono ?_
            rintro e w6 ⟨rfl, q6, hp6, hu6⟩
            have hu6' := ((Upd.refl w1.heap.size q2' wr).alloc (.cells ca.toArray 91)).trans hu6
            have hX6 := hu6.blk hX hneX hneq
            have hc6 := (hX6.cell 1).trans hat1
            go_wp2_with fail
            have hqB : ∀ k, q2' = some k → w1.heap.size + 1 ≤ k := by
              intro k hk
              rcases hu.fresh with e | ⟨j, e, hj⟩
              · rw [e] at hk; cases hk
              · rw [e] at hk; injection hk with hk; simp at hj; omega
            have hsv6 := hsv.below (hu6'.below (by omega) (by omega) (fun k hk => by have := hqB k hk; omega))
            refine (bytes_any w1.heap.size q6 _ x.script B _ w6 (by simp [le_length]; omega) (by omega) hp6 (by omega) (hu6'.base (by omega) (fun k hk => by have := hqB k hk; omega)) hsv6).mono ?_
            rintro e w7 ⟨rfl, q7, hp7, hu7⟩
            have hu7' := hu6'.trans hu7
            go_wp2_with fail
            go_roundw
            case rel =>
              refine ⟨k2 + 1, q7, by omega, by go_num, ?_, hu.trans hu7'⟩
              rw [encOuts_snoc t.outs k2 hkl, ← List.append_assoc, hLL'.out, hxx'.out]
              simpa [encOut, List.append_assoc] using hp7
            case measure => simp [intOf]; omega
          · have hke : k2 = no := by omega
            have hLk : (M0 ++ encOuts t.outs).length ≤ 290000 := by
              have h1 := flat_length encOut t.outs (fun y hy => encOut_length y (hs.2.2.2 y hy))
              have h2 := hno'.out
              simp only [List.length_append, encOuts] at hlM ⊢
              omega
            have hp : PenAt wr w1.heap.size q2' (M0 ++ encOuts t.outs) := by
              have e : t.outs.take k2 = t.outs := List.take_of_length_le (by rw [hke, hno'.out.1]; exact Nat.le_refl _)
              rwa [e] at hp
            clear hke
            generalize hLL : M0 ++ encOuts t.outs = M at *
            have hLL' := Lib.hid hLL
            clear hLL
            go_wp2_with fail
            refine (fixed4_any w1.heap.size q2' M t.lock _ hlock (by omega) hp).mono ?_
            rintro e w4 ⟨rfl, q4, hp4, hu4⟩
            have hu4' := hu.trans hu4
            go_wp2_with fail
            refine (all_any w1.heap.size q4 _ _ (by simp [le_length]; omega) hp4).mono ?_
            rintro e w5 ⟨v', rfl, hown5, hb5⟩
            go_wp2_with fail
            go_ret2
            have hbf : Below w.heap.size w w5 := ((hb01.alloc hb01.size _).trans (hu4'.below (by simp; omega) (by omega) (by simp))).trans (hb5.mono (Nat.le_trans hb01.size (Nat.le_trans (by simp) hu4'.size)))
            refine ⟨hbf, .inl ⟨hok'.out, v', rfl, ?_⟩⟩
            have e : enc t = M ++ le 4 t.lock := by
              rw [← hLL'.out, ← hM0'.out, ← hLL1'.out, ← hL0'.out, hni'.out.1, hno'.out.1]
              simp [enc]
            rw [e]
            exact World.ownsRow_base hown5 (fun k hk => by have := (hown5.lt k hk).1; have h9 := hbf.size; have := hu4'.size; simp at this; omega)
end Go.Proofs.YtcilabemglbhbaaGreatDoor
