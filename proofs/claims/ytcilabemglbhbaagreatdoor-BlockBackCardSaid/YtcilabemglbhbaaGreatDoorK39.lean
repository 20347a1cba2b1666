/- block.Decode: bytes' block. -/
import Derived.Test.YtcilabemglbhbaaGreatDoorK38
namespace Go.Proofs.YtcilabemglbhbaaGreatDoor
open Go Go.RowKit Go.Pur Go.Shelf
attribute [local go_sem] Oper.semAt_some

theorem zeroCellsB : Tryz.zeroCells29 = (headCells zeroHead ++ [Value.slice none 0 0]).toArray := by kernel_rfl
theorem blkinfo : (Tryz.prog.info? 29).map (·.size) = some 69 := by kernel_rfl
theorem txszinfo : (Tryz.prog.info? 52).map (fun i => (i.zero.map (·.cells.size), i.size, i.bytes)) = some (some 4, 4, 64) := by kernel_rfl
def bcells (h : Head) (v : Value) : List Value := headCells h ++ [v]
theorem bcells_length {h : Head} (hh : HeadOk h) (v : Value) : (bcells h v).length = 69 := by
  have := headCells_length hh
  simp [bcells, this]
theorem bcells_at {h : Head} (hh : HeadOk h) (v : Value) : (bcells h v).toArray[68]? = some v := blkCells_at hh v
theorem bcells_set {h : Head} (hh : HeadOk h) (v u : Value) : (bcells h v).toArray.setIfInBounds 68 u = (bcells h u).toArray := by
  have := headCells_length hh
  apply Array.ext'
  simp [bcells, this]
theorem bcells_one (h : Head) (v : Value) (hv : v.oneCell' = true) : (bcells h v).toArray.all (·.oneCell') = true := by
  have h1 := headCells_one h
  rw [Array.all_eq_true_iff_forall_mem] at h1 ⊢
  intro u hu
  have hu' : u ∈ bcells h v := by simpa using hu
  rcases List.mem_append.1 hu' with h2 | h2
  · exact h1 u (by simpa using h2)
  · rw [List.mem_singleton.1 h2]; exact hv
theorem bcells_head {h : Head} (v : Value) (j : Nat) (u : Value) (hu : (headCells h)[j]? = some u) : (bcells h v).toArray[j]? = some u := blkCells_head v j u hu
theorem cells_new (w : World) (t : TypeId) (cs : List Value) (j : Nat) (u : Value) (hu : cs[j]? = some u) : (w.alloc (.cells cs.toArray t)).cell? ((⟨w.heap.size, 0, none⟩ : Addr).add j) = some u := by
  have e : (⟨w.heap.size, 0, none⟩ : Addr).add j = ⟨w.heap.size, j, none⟩ := by unfold Addr.add; split <;> simp_all
  rw [e]
  exact cells_of_blk (Blk.new w t _) j u hu
structure DInv (w : World) (hd : Head) (o zr N0 : Nat) (done : List TTx) (W : World) : Prop where
  out : ∃ v, Blk W o 29 (bcells hd v).toArray ∧ TxsOwn W N0 v done
  zero : Blk W zr 29 (bcells zeroHead (.slice none 0 0)).toArray
  below : Below w.heap.size w W
  size : N0 ≤ W.heap.size
section
variable {w A B : World} {hd : Head} {o zr N0 : Nat} {xs : List TTx}
theorem DInv.turns (h : DInv w hd o zr N0 xs A) {qs : List Nat} (ht : Turns qs A B) (hq : ∀ q ∈ qs, o < q ∧ zr < q ∧ q < N0 ∧ w.heap.size ≤ q) : DInv w hd o zr N0 xs B := by
  obtain ⟨⟨v, h1, h2⟩, h3, h4, h5⟩ := h
  exact ⟨⟨v, ht.blk h1 (fun e => by have := hq _ e; omega), h2.turns ht (fun q e => (hq q e).2.2.1)⟩, ht.blk h3 (fun e => by have := hq _ e; omega), h4.trans (ht.below h4.size (fun q e => (hq q e).2.2.2)), Nat.le_trans h5 ht.size⟩
theorem DInv.other (h : DInv w hd o zr N0 xs A) {row : Option Nat} (hg : A.grownBy B row) (hr : ∀ r, row = some r → N0 ≤ r ∧ ∃ o : Obj, A.heap[r]? = some o ∧ o.isCells = false) (ho : o < N0) (hz : zr < N0) (hw : w.heap.size ≤ N0) : DInv w hd o zr N0 xs B := by
  obtain ⟨⟨v, h1, h2⟩, h3, h4, h5⟩ := h
  exact ⟨⟨v, h1.grown hg (fun e => by have := (hr _ e.symm).1; omega), h2.other hg (fun r e => (hr r e).2)⟩, h3.grown hg (fun e => by have := (hr _ e.symm).1; omega), h4.grown hg h4.size (fun r e => Nat.le_trans hw (hr r e).1), Nat.le_trans h5 hg.size⟩
end
set_option maxRecDepth 100000 in
set_option maxHeartbeats 3200000 in
theorem decBlk_loop : True := trivial
def DecBPost (l : Bytes) (w : World) (e : Ending) (w' : World) : Prop := Below w.heap.size w w' ∧
  ((decB l = true ∧ ∃ sv, e = .returned (.tuple #[.agg (bcells (rHead l) sv).toArray, .int .i64 0]) ∧ TxsOwn w' w.heap.size sv (rTxs (rMany l) (rRest l))) ∨
   (decB l = false ∧ e = .returned (.tuple #[.agg (bcells zeroHead (.slice none 0 0)).toArray, .int .i64 70])))
set_option maxRecDepth 100000 in
set_option maxHeartbeats 3200000 in
theorem decBlk_any (v : Value) (l : Bytes) (B : Nat) (w : World) (hB : B ≤ w.heap.size) (hv : Byt w B v l) (hl : l.length ≤ 100000000) :
    Calls Tryz.prog 11 #[v] w (DecBPost l w) := by
  obtain ⟨A, m, c, rfl⟩ := slice_of_byt hv
  obtain ⟨W1, hW1⟩ : ∃ W1, W1 = w.alloc (.cells (bcells zeroHead (.slice none 0 0)).toArray 29) := ⟨_, rfl⟩
  have hz1 : Blk W1 w.heap.size 29 (bcells zeroHead (.slice none 0 0)).toArray := by rw [hW1]; exact Blk.new w _ _
  have hb1 : Below w.heap.size w W1 := by rw [hW1]; exact (Below.refl _ _).alloc (Nat.le_refl _) _
  have hs1 : W1.heap.size = w.heap.size + 1 := by rw [hW1]; simp
  have hs1' := Lib.hid hs1
  clear hs1
  have hl10 : l.length ≤ 10000000000 := by omega
  refine calls_of_wp_marks Tryz.func11 rfl ?_
  simp only [Tryz.ntmps11, List.size_toArray, List.length_cons, List.length_nil, Nat.reduceAdd, Nat.reduceSub, Array.replicate_succ, Array.replicate_zero, List.push_toArray, List.append_toArray, List.nil_append, List.cons_append]
  go_wp2_with fail
  go_step3
  go_wp2_with fail
  rw [zeroCellsB]
  show Calls _ _ _ (w.alloc (.cells (bcells zeroHead (.slice none 0 0)).toArray 29)) _
  rw [← hW1]
  refine (look_any _ l B W1 (hv.below (hb1.mono hB)) hl10).mono ?_
  rintro e w2 ⟨p, rfl, hpg, he2, hb2, hs2⟩
  have hz2 := hz1.below hb2 hz1.lt
  have hs2' := Lib.hid hs2
  have hb02 := hb1.trans (hb2.mono hb1.size)
  have hpw : w.heap.size < p := by have := hs1'.out; omega
  clear hW1 hs2 hz1 hb2 hb1 hpg
  go_wp2_with fail
  refine (header_any p l w2 he2 hl10).mono ?_
  rintro e w3 ⟨rfl, he3, ht3⟩
  have hz3 := ht3.blk hz2 (by simp; omega)
  have hb03 := hb02.trans (ht3.below hb02.size (by simp; omega))
  have hps3 : p < w3.heap.size := by obtain ⟨sv, h, _⟩ := he3; exact h.lt
  have hho := rHead_ok l
  have hone := bcells_one (rHead l) (.slice none 0 0) rfl
  have hlen := Lib.hid (bcells_length hho (.slice none 0 0))
  have hzsz : Hid (Tryz.zeroCells29.size = 69) := Lib.hid (by rw [zeroCellsB]; exact bcells_length zeroHead_ok (.slice none 0 0))
  have hset := fun v u => bcells_set (h := rHead l) hho v u
  have hat := fun v => bcells_at (h := rHead l) hho v
  have hdef : decB l = decide (encBlk ⟨rHead l, rTxs (rMany l) (rRest l)⟩ = l) := rfl
  have hdef' := Lib.hid hdef
  have hkk : Hid ((rSize (hL6 l, false)).1 = rMany l ∧ (rSize (hL6 l, false)).2.1 = rRest l) := Lib.hid ⟨rfl, rfl⟩
  have hmany : Lt64 (rMany l) := rSize_lt _
  have hrest := Lib.hid (rRest_le l)
  have hsz := fun W (h : EyeAt W p (hL6 l)) => sizeU p (hL6 l, false) W h
  rw [hkk.out.1, hkk.out.2] at hsz
  have hsz' := Lib.hid hsz
  have hset' := Lib.hid hset
  have hat' := Lib.hid hat
  have hho' := Lib.hid hho
  have hall := Lib.hid (rTxs_all (rMany l) (rRest l))
  clear hdef hsz hset hat hho hz2 ht3 hb02 he2 hkk
  have hcl := headCells_length (rHead_ok l)
  generalize hhd : rHead l = hd at *
  generalize hk0 : rMany l = k0 at *
  generalize hl0 : rRest l = l0 at *
  generalize hL6 l = l6 at *
  have hhd' := Lib.hid hhd
  have hk0' := Lib.hid hk0
  have hl0' := Lib.hid hl0
  clear hhd hk0 hl0
  obtain ⟨HB, hHB⟩ : ∃ HB, HB = (bcells hd (.slice none 0 0)).toArray := ⟨_, rfl⟩
  rw [← hHB] at hone
  have hfw : List.foldl (fun (cs : Array Value) (x : Value × Nat) => cs.setIfInBounds x.2 x.1) Tryz.zeroCells29 (headCells hd).zipIdx = HB := by
    rw [hHB, zeroCellsB]
    exact blk_foldL (headCells hd) (headCells zeroHead) hcl (by kernel_rfl)
  have hHB' := Lib.hid hHB
  have hHs : Hid (HB.size = 69) := Lib.hid (by rw [hHB, List.size_toArray]; exact hlen.out)
  clear hHB
  generalize headCells hd = H at *
  have tok2 : True := trivial
  go_wp2_with (have _t := tok2; refine wpList_store_new rfl 29 (.tmp 5) (.tmp 18) rfl HB rfl rfl _ _ (by rw [blkinfo]; simp [hHs.out]) (by rw [hHs.out]; exact hzsz.out) hone ?_; clear tok2)
  obtain ⟨W4, hW4⟩ : ∃ W4, W4 = w3.alloc (.cells HB 29) := ⟨_, rfl⟩
  rw [← hW4]
  have ho4 : Blk W4 w3.heap.size 29 HB := by rw [hW4]; exact Blk.new w3 _ _
  have hz4 : Blk W4 w.heap.size 29 (bcells zeroHead (.slice none 0 0)).toArray := by rw [hW4]; exact hz3.alloc _
  have hb04 : Below w.heap.size w W4 := by rw [hW4]; exact hb03.alloc hb03.size _
  have he4 : EyeAt W4 p l6 := he3.below (by rw [hW4]; exact (Below.refl _ _).alloc (Nat.le_refl _) _)
  have hws3 := hb03.size
  generalize w3.heap.size = o at *
  clear hW4 hz3 hb03 he3
  have hcs := hsz'.out W4 he4
  clear he4
  generalize rErr (cszOf l6).isSome = er at *
  refine hcs.mono ?_
  rintro e w5 ⟨rfl, he5, ht5⟩
  have ho5 := ht5.blk ho4 (by simp; omega)
  have hz5 := ht5.blk hz4 (by simp; omega)
  have hb05 := hb04.trans (ht5.below hb04.size (by simp; omega))
  clear hcs ho4 hz4 hb04 ht5
  go_wp2_with fail
  refine (left_any p l0 w5 he5).mono ?_
  rintro e _ ⟨rfl, rfl⟩
  go_wp2_with fail
  have hl010 : l0.length ≤ 10000000000 := by have := hrest.out; omega
  refine (eraw_any p l0.length l0 w5 he5 hl010).mono ?_
  rintro e w6 ⟨ht6, ⟨_, v6, rfl, ho6, _⟩ | ⟨hlt, _⟩⟩
  · rw [List.take_length] at ho6
    obtain ⟨A6, n6, c6, rfl⟩ := slice_of_own ho6
    have ho6' := ht6.blk ho5 (by simp; omega)
    have hz6 := ht6.blk hz5 (by simp; omega)
    have hb06 := hb05.trans (ht6.below hb05.size (by simp; omega))
    have hos5 := ho5.lt
    have hs56 := ht6.size
    clear ho5 hz5 hb05 ht6 he5
    go_wp2_with fail
    go_step3
    go_wp2_with fail
    refine (each_any A6 n6 c6 k0 w6).mono ?_
    rintro e w7 ⟨rfl, hw7⟩
    have hs67 : w7.heap.size = w6.heap.size + 2 := by rw [hw7]; simp
    have hb7 : Blk w7 w6.heap.size 30 #[.slice A6 n6 c6] := by rw [hw7]; exact (Blk.new w6 _ _).alloc _
    have hm7 : Blk w7 (w6.heap.size + 1) 59 #[.int .u64 (k0 : Int)] := by
      have := Blk.new (w6.alloc (.cells #[.slice A6 n6 c6] 30)) 59 #[.int .u64 (k0 : Int)]
      rw [hw7]
      simpa using this
    have hb67 : Below w6.heap.size w6 w7 := by rw [hw7]; exact ((Below.refl _ _).alloc (Nat.le_refl _) _).alloc (by simp) _
    obtain ⟨g, hg1, hg2⟩ := byG_of_own (z := w.heap.size) ho6
    have hg6 : g < w6.heap.size ∧ g ≠ o := by rcases hg1 with h | h <;> omega
    have hg7 := hg2.same (hb67.block g hg6.1)
    have hdi : DInv w hd o w.heap.size w7.heap.size [] w7 := ⟨⟨.slice none 0 0, by rw [← hHB'.out]; exact ho6'.below hb67 ho6'.lt, TxsOwn.nil _ _⟩, hz6.below hb67 hz6.lt, hb06.trans (hb67.mono hb06.size), Nat.le_refl _⟩
    unfold Lt64 at hmany
    have hseq := each1_in 2 (by omega) (w6.heap.size + 1) w6.heap.size g w7.heap.size o k0 (.slice A6 n6 c6) l0 [] w7 hm7 hb7 hg7 hmany hl010 rfl (by omega) hg6.2 (by omega) (by omega) (by omega) (by omega) (by omega)
    have ho67 : o < w6.heap.size := by omega
    have hwz : w.heap.size < w6.heap.size := by omega
    have hqs : ∀ q ∈ [w6.heap.size + 1, w6.heap.size], o < q ∧ w.heap.size < q ∧ q < w7.heap.size ∧ w.heap.size ≤ q := by
      simp
      omega
    have hqs' := Lib.hid hqs
    have ho7 : o < w7.heap.size := by omega
    have hz7 : w.heap.size < w7.heap.size := by omega
    clear hqs hw7 hb7 hm7 hg7 hg2 hg1 hb67 hz6 ho6' hb06 ho6
    generalize hN0 : w7.heap.size = N0 at *
    have hN0' := Lib.hid hN0
    have hwN : w.heap.size ≤ N0 := by omega
    clear hN0 hs67
    have hi0' := Lib.hid (txszinfo)
    have hzz := Lib.hid (info_zparts txszinfo)
    go_wp2_with fail
    refine wp_rangeFunc_t (gf := 57) (lb := #[.pointer (some ⟨w6.heap.size + 1, 0, none⟩), .pointer (some ⟨w6.heap.size, 0, none⟩)]) (qs := [w6.heap.size + 1, w6.heap.size]) rfl (enters_of Tryz.func57 (by kernel_rfl) rfl) ?qs hseq ?Kt ?Kb (Below.refl _ _) (fun _ => rfl)
      (fun s W => DInv w hd o w.heap.size N0 s.1 W ∧ rTxs k0 l0 = s.1 ++ rTxs s.2.1 s.2.2) (fun c s W => c = .exit 0 ∧ DInv w hd o w.heap.size N0 s.1 W ∧ rTxs k0 l0 = s.1)
      ?I1 ?I2 ?I3 ?I4 ⟨hdi, by simp⟩ ?round ?done ?stop
    case qs => intro q hq; rw [hN0'.out]; exact (hqs'.out q hq).2.2.1
    case Kt => exact fun h1 h2 => ⟨Nat.le_trans h1.1 h2.1, fun k hk ho => (h2.2 k hk ho).trans (h1.2 k hk ho)⟩
    case Kb => exact fun W l o1 o' hl h1 h2 h3 => ⟨by simp [World.putObj], fun k hk _ => World.putObj_heap_other (by have := hN0'.out; omega)⟩
    case I1 => exact fun s A B row h hg hr => ⟨h.1.other hg (fun r e => ⟨by have := (hr r e).1; have := hN0'.out; omega, (hr r e).2⟩) ho7 hz7 hwN, h.2⟩
    case I2 => exact fun c s A B row h hg hr => ⟨h.1, h.2.1.other hg (fun r e => ⟨by have := (hr r e).1; have := hN0'.out; omega, (hr r e).2⟩) ho7 hz7 hwN, h.2.2⟩
    case I3 => exact fun s A B h ht => ⟨h.1.turns ht hqs'.out, h.2⟩
    case I4 => exact fun c s A B h ht => ⟨h.1, h.2.1.turns ht hqs'.out, h.2.2⟩
    case round =>
      intro l' x s s' W K hl' hno hI hnx hK
      obtain ⟨acc, k, l1, rfl, hok, rfl, hmine, A5, c5, hx2⟩ := hnx
      obtain ⟨tv, lv⟩ := x
      obtain ⟨⟨⟨sv, hout, htxs⟩, hzb, hbel, hsz0⟩, htold⟩ := hI
      simp only at hmine hx2
      subst hx2
      obtain ⟨A2, n2, c2, A3, n3, c3, rfl⟩ := hmine.form
      have hstep : rTxs (k + 1) l1 = (rTx l1).1 :: (if (rTx l1).2.1.length = 0 then [] else rTxs k (rTx l1).2.1) := by rw [rTxs, hok, if_pos rfl]
      have hlen : acc.length + 1 ≤ l0.length := by
        have h1 := congrArg List.length htold
        have h2 := flat_count (rTxs k0 l0)
        have h3 := hall.out.2
        simp only [hstep, List.length_append, List.length_cons] at h1
        omega
      dsimp only at htold
      rw [hstep] at htold
      clear hstep hok
      generalize rTx l1 = x at *
      simp only [eachEnc]
      gi_wp2_with fail
      obtain ⟨W2, hW2⟩ : ∃ W2, W2 = W.alloc (.cells #[.int .u32 (x.1.ver : Int), .slice A2 n2 c2, .slice A3 n3 c3, .int .u32 (x.1.lock : Int)] 52) := ⟨_, rfl⟩
      rw [← hW2]
      have hbW2 : Below W.heap.size W W2 := by rw [hW2]; exact (Below.refl _ _).alloc (Nat.le_refl _) _
      have htt : Blk W2 W.heap.size 52 #[.int .u32 (x.1.ver : Int), .slice A2 n2 c2, .slice A3 n3 c3, .int .u32 (x.1.lock : Int)] := by rw [hW2]; exact Blk.new W _ _
      refine hK _ _ (by rw [hW2]; exact KeepsOthers.alloc _ _) ⟨hbW2.size, fun k hk _ => hbW2.block k (by omega)⟩ ?_
      intro o' W3 hW3 hg3
      obtain ⟨on, hon1, hon2⟩ := hno
      have hll : l' < W.heap.size := (Array.getElem?_eq_some_iff.1 hon1).1
      have hr3 : ∀ r, some l' = some r → N0 ≤ r ∧ ∃ o : Obj, W2.heap[r]? = some o ∧ o.isCells = false := fun r e => by
        injection e with e
        subst e
        exact ⟨by rw [← hN0'.out]; exact hl', on, (hbW2.block l' hll).trans hon1, hon2⟩
      have hd2 : DInv w hd o w.heap.size N0 acc W2 := DInv.turns ⟨⟨sv, hout, htxs⟩, hzb, hbel, hsz0⟩ (qs := []) (Turns.of_below hbW2) (by simp)
      obtain ⟨⟨sv3, hout3, htxs3⟩, hzb3, hbel3, hsz3⟩ := hd2.other hg3 hr3 ho7 hz7 hwN
      have htt3 := htt.grown hg3 (fun e => by injection e with e; omega)
      have hmine3 := (hmine.turns (qs := []) (Turns.of_below hbW2) (by simp)).kept hg3 (foreign_other (fun r e => (hr3 r e).2))
      obtain ⟨ps, hp1, hp2, hp3⟩ := htxs3
      obtain ⟨Av, nv, cv, rfl⟩ := slice_of_own hp2
      have q68 : W3.cell? ⟨o, 68, none⟩ = some (.slice Av nv cv) := (hout3.cell 68).trans (hat'.out _)
      have f68 := hout3.frozen 68
      have t0 := htt3.cell 0
      have t1 := htt3.cell 1
      have t2 := htt3.cell 2
      have t3 := htt3.cell 3
      have hoW3 := hout3.lt
      have htW3 := htt3.lt
      have hmine3' := Lib.hid hmine3
      have hout3' := Lib.hid hout3
      have hzb3' := Lib.hid hzb3
      have hp1' := Lib.hid hp1
      have htold' := Lib.hid htold
      have hsz3' := Lib.hid hsz3
      have hlen' := Lib.hid hlen
      clear hK hW3 hg3 hr3 hd2 hon1 hon2 hll htt htt3 hmine hmine3 hout hout3 htxs hzb hzb3 hbel hsz0 hW2 hbW2 hp1 htold hsz3 hlen hone hfw hcl
      obtain ⟨i0, z0, hi, hz0, hz, hz1, hz2⟩ := hzz.out
      have hH4 : ∀ u ∈ [Value.int .u32 (x.1.ver : Int), .slice A2 n2 c2, .slice A3 n3 c3, .int .u32 (x.1.lock : Int)], u.oneCell' = true := by simp [Value.oneCell']
      have hb2 : (acc.length + 1) * 64 ≤ 140737488355328 := by have := hlen'.out; omega
      have hb1 : acc.length + 1 ≤ maxLen := by simp only [maxLen]; omega
      have hfin : ∀ (v6 : Value) (w6' : World), w6'.ownsRow N0 52 4 v6 (acc.length + 1) (ps.flatMap tcs ++ [Value.int .u32 (x.1.ver : Int), .slice A2 n2 c2, .slice A3 n3 c3, .int .u32 (x.1.lock : Int)]) →
          (W3.alloc (.cells #[.int .u32 (x.1.ver : Int), .slice A2 n2 c2, .slice A3 n3 c3, .int .u32 (x.1.lock : Int)] 52)).grownBy w6' (Value.slice Av nv cv).ownBlock →
          Blk w6' o 29 (bcells hd (.slice Av nv cv)).toArray ∧ DInv w hd o w.heap.size N0 (acc ++ [x.1]) (w6'.setCell ⟨o, 68, none⟩ v6) ∧ KeepsOthers W3 (w6'.setCell ⟨o, 68, none⟩ v6) ∧ KpB N0 o W3 (w6'.setCell ⟨o, 68, none⟩ v6) := by
        intro v6 w6' hown6 hg6
        have hown3 := hp2
        have hal : Below W3.heap.size W3 (W3.alloc (.cells #[.int .u32 (x.1.ver : Int), .slice A2 n2 c2, .slice A3 n3 c3, .int .u32 (x.1.lock : Int)] 52)) := (Below.refl _ _).alloc (Nat.le_refl _) _
        have hrow : ∀ r, (Value.slice Av nv cv).ownBlock = some r → N0 ≤ r ∧ r < W3.heap.size := fun r e => hown3.lt r e
        have hne : ∀ q, q < N0 → some q ≠ (Value.slice Av nv cv).ownBlock := fun q hq e => by have := (hrow q e.symm).1; omega
        have hout6 := (hout3'.out.below hal hout3'.out.lt).grown hg6 (hne o ho7)
        have hzb6 := (hzb3'.out.below hal hzb3'.out.lt).grown hg6 (hne _ hz7)
        have hbel6 : Below w.heap.size w w6' := (hbel3.trans (hal.mono hbel3.size)).grown hg6 (Nat.le_trans hbel3.size hal.size) (fun r e => Nat.le_trans hwN (hrow r e).1)
        have htx6 : TxsOwn w6' N0 v6 (acc ++ [x.1]) := TxsOwn.append (iv := .slice A2 n2 c2) (ov := .slice A3 n3 c3) hp1'.out (hp2.alloc _) (fun p hp => (hp3 p hp).below hal) (hmine3'.out.below hal) hg6 hown6
        have htx7 := htx6.turns (w' := w6'.setCell ⟨o, 68, none⟩ v6) (qs := [o]) ((Turns.refl [o] w6').setCell (p := o) (by simp) 68 _) (by simp; omega)
        have hbf : Below w.heap.size w (w6'.setCell ⟨o, 68, none⟩ v6) := hbel6.setCell (p := ⟨o, 68, none⟩) (by simp only; omega) _
        refine ⟨hout6, ⟨⟨v6, by rw [← hset'.out (.slice Av nv cv) v6]; exact hout6.set_ 68 v6, htx7⟩, hzb6.far (p := ⟨o, 68, none⟩) (by simp only; omega) _, hbf, ?_⟩, ?_, ?_⟩
        · simp only [World.setCell, Array.size_modify]
          exact Nat.le_trans hsz3'.out (Nat.le_trans hal.size hg6.size)
        · refine KeepsOthers.trans (KeepsOthers.trans (KeepsOthers.alloc _ _) (KeepsOthers.of_grownBy hg6 ?_)) (KeepsOthers.setCell _ _ _)
          intro j ob e ho
          rcases (hown3.alloc (.cells #[.int .u32 (x.1.ver : Int), .slice A2 n2 c2, .slice A3 n3 c3, .int .u32 (x.1.lock : Int)] 52)).2 with ⟨hv, _⟩ | ⟨g', cap, cur, hv, _, hh, _⟩
          · rw [hv] at e; cases e
          · rw [hv] at e
            have : g' = j := by simpa [Value.ownBlock] using e
            subst this
            rw [hh] at ho
            injection ho with ho
            rw [← ho]
            rfl
        · refine ⟨by simp only [World.setCell, Array.size_modify]; exact Nat.le_trans hal.size hg6.size, fun k hk hko => ?_⟩
          rw [Below.heap_setCell _ _ _ _ (by exact hko)]
          exact (hg6.block k (by have := hal.size; have := hsz3'.out; omega) (hne k hk)).trans (hal.block k (by have := hsz3'.out; omega))
      have hfin' := Lib.hid hfin
      clear hfin
      by_cases hz9 : x.2.1.length = 0
      · gi_wp2_with (gi_at_builtin; refine wpListIn_append_own _ rfl _ _ 27 rfl N0 52 i0 z0 4 64 Tryz.underlying27 hi hz0 hz1 hz2 hz (by decide) _ _ _ rfl (hp2.alloc _) ⟨W3.heap.size, 0, none⟩ 1 1 [Value.int .u32 (x.1.ver : Int), .slice A2 n2 c2, .slice A3 n3 c3, .int .u32 (x.1.lock : Int)] rfl rfl (cells_new W3 _ _) hH4 hb1 hb2 (by have := hsz3'.out; simp; omega) ?_; intro v6 w6' hown6 hg6 _; obtain ⟨hb6, hd6, hk6, hkp6⟩ := hfin'.out v6 w6' hown6 hg6; have q68b : w6'.cell? ⟨o, 68, none⟩ = some (.slice Av nv cv) := (hb6.cell 68).trans (hat'.out _); have f68 := hb6.frozen 68; have hlo6 := hb6.lt; obtain ⟨A7, n7, c7, rfl⟩ := slice_of_own hown6; clear hown6 hg6 hb6)
        exact ⟨hk6, rfl, hd6, by rw [htold'.out, if_pos hz9]⟩
      · gi_wp2_with (gi_at_builtin; refine wpListIn_append_own _ rfl _ _ 27 rfl N0 52 i0 z0 4 64 Tryz.underlying27 hi hz0 hz1 hz2 hz (by decide) _ _ _ rfl (hp2.alloc _) ⟨W3.heap.size, 0, none⟩ 1 1 [Value.int .u32 (x.1.ver : Int), .slice A2 n2 c2, .slice A3 n3 c3, .int .u32 (x.1.lock : Int)] rfl rfl (cells_new W3 _ _) hH4 hb1 hb2 (by have := hsz3'.out; simp; omega) ?_; intro v6 w6' hown6 hg6 _; obtain ⟨hb6, hd6, hk6, hkp6⟩ := hfin'.out v6 w6' hown6 hg6; have q68b : w6'.cell? ⟨o, 68, none⟩ = some (.slice Av nv cv) := (hb6.cell 68).trans (hat'.out _); have f68 := hb6.frozen 68; have hlo6 := hb6.lt; obtain ⟨A7, n7, c7, rfl⟩ := slice_of_own hown6; clear hown6 hg6 hb6)
        exact ⟨hk6, hkp6, hd6, by rw [htold'.out, if_neg hz9]; simp⟩
    all_goals
      first
        | (intro D s W hD hS hI hK
           obtain ⟨hI, htold⟩ := hI
           have hr : rTxs s.2.1 s.2.2 = [] := by
             rcases hS with h | h
             · rw [h]; rfl
             · cases s.2.1 with
               | zero => rfl
               | succ k => rw [rTxs, h]; rfl
           rw [hr, List.append_nil] at htold
           clear hr hS)
        | (intro D c s W hD hI hK
           obtain ⟨rfl, hI, htold⟩ := hI)
      obtain ⟨⟨sv, hout, htxs⟩, hzb, hbel, hsz0⟩ := hI
      rw [← htold] at htxs
      clear htold hseq hdi
      have hallT := hall.out
      clear hall
      generalize hTT : rTxs k0 l0 = T at *
      have hTT' := Lib.hid hTT
      clear hTT
      obtain ⟨A8, c8, rfl⟩ := htxs.form
      have hcells : ∀ j u, (bcells hd (.slice A8 T.length c8))[j]? = some u → W.cell? ⟨o, 0 + j, none⟩ = some u := fun j u hu => by
        rw [Nat.zero_add, hout.cell j]
        simpa using hu
      have hlen9 := Lib.hid (bcells_length hho'.out (.slice A8 T.length c8))
      have hblk : BlkAt W W.heap.size (.agg (bcells hd (.slice A8 T.length c8)).toArray) ⟨hd, T⟩ := ⟨_, rfl, hho'.out, htxs.at_⟩
      have henc := encBlk_any _ ⟨hd, T⟩ W.heap.size W (Nat.le_refl _) hblk (by have := flat_count T; have := hallT.2; have := hrest.out; simp only; omega) (fun t ht => (hallT.1 t ht).2.2) (by have := hallT.2; have := hrest.out; simp only; omega)
      have hnb : ¬ ∃ t ∈ T, okTx t = false := fun ⟨t, ht, hb⟩ => by rw [(hallT.1 t ht).1] at hb; cases hb
      have hvW := hv.below (hbel.mono hB)
      have hBW : B ≤ W.heap.size := Nat.le_trans hB hbel.size
      have henc' := Lib.hid henc
      have hnb' := Lib.hid hnb
      have hhd9 := bcells_one hd (.slice A8 T.length c8) rfl
      obtain ⟨cb, hcb⟩ : ∃ cb, cb = bcells hd (.slice A8 T.length c8) := ⟨_, rfl⟩
      rw [← hcb] at hcells hlen9 hhd9 hout henc'
      have hcb' := Lib.hid hcb
      clear hcb hblk henc hnb hallT
      have tok3 : True := trivial
      go_wp2_with (have _t := tok3; refine wpList_load_at rfl 29 (.tmp 5) rfl o 0 rfl cb _ hcells Tryz.underlying29 rfl (by rw [blkinfo, hlen9.out]) ?_; clear tok3)
      refine henc'.out.mono ?_
      rintro e w8 ⟨hb8, ⟨_, v8, rfl, ho8⟩ | ⟨hbad, rfl⟩⟩
      · obtain ⟨A9, n9, c9, rfl⟩ := slice_of_own ho8
        have hv8 := (hvW.below (hb8.mono hBW)).more (Nat.le_trans hBW hb8.size)
        have hbe := fun W' (h1 : Byt W' w8.heap.size (.slice A9 n9 c9) (encBlk ⟨hd, T⟩)) (h2 : Byt W' w8.heap.size (.slice A m c) l) => bytesEqual_any (.slice A9 n9 c9) (.slice A m c) (encBlk ⟨hd, T⟩) l w8.heap.size W' h1 h2
        have hbe1 := hbe w8 (Byt.of_own ho8) hv8
        rw [← hdef'.out] at hbe1
        have hbe' := Lib.hid hbe1
        have hzb8 := hzb.below hb8 hzb.lt
        have hout8 := hout.below hb8 hout.lt
        have htx8 := htxs.below hb8
        have hbel8 := hbel.trans (hb8.mono hbel.size)
        have hDW : D < W.heap.size := (Array.getElem?_eq_some_iff.1 hK).1
        have hK8 : w8.heap[D]? = some (.deferred (some [])) := (hb8.block D hDW).trans hK
        have hDN : N0 ≤ D := by rw [← hN0'.out]; exact hD
        have hK8' := Lib.hid hK8
        clear hbe hbe1 hzb hout hbel hvW hv8 ho8 hK hDW hb8 hcells hBW hsz0
        have hcells8 : ∀ j u, cb[j]? = some u → w8.cell? ⟨o, 0 + j, none⟩ = some u := fun j u hu => by
          rw [Nat.zero_add, hout8.cell j]
          simpa using hu
        have hcb1 : cb.toArray.all (·.oneCell') = true := hhd9
        have hzsz2 : Hid ((bcells zeroHead (.slice none 0 0)).toArray.size = 69) := Lib.hid (by rw [List.size_toArray]; exact bcells_length zeroHead_ok _)
        have hz9one : (bcells zeroHead (.slice none 0 0)).toArray.all (·.oneCell') = true := bcells_one zeroHead _ rfl
        rcases hq : decB l with _ | _
        · rw [hq] at hbe'
          have hq' := Lib.hid hq
          clear hq
          have tok4 : True := trivial
          go_wp2_with (first
            | (go_at_call 32; refine hbe'.out.mono ?_; rintro e w9 ⟨rfl, h89⟩; have h89 := h89.symm; subst h89)
            | (have _t := tok4; refine wpList_store_row rfl 29 (.tmp 2) (.tmp 58) rfl w.heap.size (bcells zeroHead (.slice none 0 0)).toArray rfl (congrArg Value.agg zeroCellsB) _ _ hzb8 (by rw [blkinfo]; simp [hzsz2.out]) rfl hz9one ?_; clear tok4))
          have hDw : D ≠ w.heap.size := by omega
          have hsB := turns_setRow w8 w.heap.size (bcells zeroHead (.slice none 0 0)).toArray
          have hDl : D < w8.heap.size := (Array.getElem?_eq_some_iff.1 hK8'.out).1
          have hKf : (w8.setRow w.heap.size (bcells zeroHead (.slice none 0 0)).toArray).heap[D]? = some (.deferred (some [])) := (hsB.block D hDl (by simpa using hDw)).trans hK8'.out
          have hgf := grownBy_putObj' (w8.setRow w.heap.size (bcells zeroHead (.slice none 0 0)).toArray) D (Obj.deferred none)
          have hzf : Blk ((w8.setRow w.heap.size (bcells zeroHead (.slice none 0 0)).toArray).putObj D (Obj.deferred none)) w.heap.size 29 (bcells zeroHead (.slice none 0 0)).toArray := (World.putObj_heap_other (fun e => hDw e.symm)).trans (setRow_blk hzb8)
          have hbf : Below w.heap.size w ((w8.setRow w.heap.size (bcells zeroHead (.slice none 0 0)).toArray).putObj D (Obj.deferred none)) := (setRow_below hbel8 (Nat.le_refl _)).grown hgf (by have := hbel8.size; simpa [World.setRow] using this) (fun r e => by injection e with e; omega)
          rw [Exit.noGoto_ret]
          refine ⟨by simp, .inl ⟨_, _, rfl, run_takeDeferred hKf, ?_⟩⟩
          exact ⟨_, results_cell_tmp_at rfl _ _ w.heap.size (bcells zeroHead (.slice none 0 0)) _ rfl (cells_of_blk hzf) Tryz.underlying29 rfl (by rw [blkinfo, bcells_length zeroHead_ok]), hbf, .inr ⟨hq'.out, rfl⟩⟩
        · rw [hq] at hbe'
          have hq' := Lib.hid hq
          clear hq
          have tok4 : True := trivial
          have tok5 : True := trivial
          go_wp2_with (first
            | (go_at_call 32; refine hbe'.out.mono ?_; rintro e w9 ⟨rfl, h89⟩; have h89 := h89.symm; subst h89)
            | (have _t := tok5; refine wpList_load_at rfl 29 (.tmp 5) rfl o 0 rfl cb _ hcells8 Tryz.underlying29 rfl (by rw [blkinfo, hlen9.out]) ?_; clear tok5)
            | (have _t := tok4; refine wpList_store_row rfl 29 (.tmp 2) (.tmp 59) rfl w.heap.size cb.toArray rfl rfl _ _ hzb8 (by rw [blkinfo]; simp [hlen9.out]) (by rw [hzsz2.out]; simp [hlen9.out]) hcb1 ?_; clear tok4))
          have hDw : D ≠ w.heap.size := by omega
          have hsB := turns_setRow w8 w.heap.size cb.toArray
          have hDl : D < w8.heap.size := (Array.getElem?_eq_some_iff.1 hK8'.out).1
          have hKf : (w8.setRow w.heap.size cb.toArray).heap[D]? = some (.deferred (some [])) := (hsB.block D hDl (by simpa using hDw)).trans hK8'.out
          have hgf := grownBy_putObj' (w8.setRow w.heap.size cb.toArray) D (Obj.deferred none)
          have hzf : Blk ((w8.setRow w.heap.size cb.toArray).putObj D (Obj.deferred none)) w.heap.size 29 cb.toArray := (World.putObj_heap_other (fun e => hDw e.symm)).trans (setRow_blk hzb8)
          have hbf : Below w.heap.size w ((w8.setRow w.heap.size cb.toArray).putObj D (Obj.deferred none)) := (setRow_below hbel8 (Nat.le_refl _)).grown hgf (by have := hbel8.size; simpa [World.setRow] using this) (fun r e => by injection e with e; omega)
          have htf : TxsOwn ((w8.setRow w.heap.size cb.toArray).putObj D (Obj.deferred none)) w.heap.size (.slice A8 T.length c8) T :=
            ((htx8.turns hsB (by simp; omega)).other hgf (fun r e => by injection e with e; subst e; exact ⟨_, hKf, rfl⟩)).base hwN
          rw [Exit.noGoto_ret]
          refine ⟨by simp, .inl ⟨_, _, rfl, run_takeDeferred hKf, ?_⟩⟩
          exact ⟨_, results_cell_tmp_at rfl _ _ w.heap.size cb _ rfl (cells_of_blk hzf) Tryz.underlying29 rfl (by rw [blkinfo, hlen9.out]), hbf, .inl ⟨hq'.out, .slice A8 T.length c8, by rw [hhd'.out, ← hcb'.out]; rfl, by rw [hk0'.out, hl0'.out, hTT'.out]; exact htf⟩⟩
      · exact absurd hbad hnb'.out
  · omega
end Go.Proofs.YtcilabemglbhbaaGreatDoor
