/- block.Hash: a header's hash. -/
import Derived.Test.YtcilabemglbhbaaGreatDoorK18
import Derived.Test.YtcilabemglbhbaaGreatDoorK4
import Derived.Test.YtcilabemglbhbaaGreatDoorK7
import Derived.Test.YtcilabemglbhbaaGreatDoorK3
namespace Go.Proofs.YtcilabemglbhbaaGreatDoor
open Go Go.RowKit Go.Pur

theorem headinfo : (Tryz.prog.info? 26).map (·.size) = some 68 := by kernel_rfl
set_option maxRecDepth 100000 in
set_option maxHeartbeats 1600000 in
theorem hash_any (h : Head) (w : World) (hh : HeadOk h) :
    Calls Tryz.prog 13 #[.agg (headCells h).toArray] w fun e w' => e = .returned (.agg (bvs (twice (encHd h))).toArray) ∧ Below w.heap.size w w' := by
  have hlen := headCells_length hh
  have hel := encHd_length hh
  obtain ⟨cl, hcl⟩ : ∃ cl, cl = headCells h := ⟨_, rfl⟩
  have hc := hcl
  rw [← hcl] at hlen ⊢
  have hx : Blk (w.alloc (.cells cl.toArray 26)) w.heap.size 26 cl.toArray := Blk.new w _ _
  have hz : (#[.int .u8 0, .int .u8 0, .int .u8 0, .int .u8 0, .int .u8 0, .int .u8 0, .int .u8 0, .int .u8 0, .int .u8 0, .int .u8 0, .int .u8 0, .int .u8 0, .int .u8 0, .int .u8 0, .int .u8 0, .int .u8 0, .int .u8 0, .int .u8 0, .int .u8 0, .int .u8 0, .int .u8 0, .int .u8 0, .int .u8 0, .int .u8 0, .int .u8 0, .int .u8 0, .int .u8 0, .int .u8 0, .int .u8 0, .int .u8 0, .int .u8 0, .int .u8 0] : Array Value) = zero32 := rfl
  obtain ⟨W1, hW1⟩ : ∃ W1, W1 = (w.alloc (.cells cl.toArray 26)).alloc (.cells zero32 24) := ⟨_, rfl⟩
  have hr1 : Blk W1 (w.heap.size + 1) 24 zero32 := by
    have := Blk.new (w.alloc (.cells cl.toArray 26)) 24 zero32
    rw [hW1]
    simpa using this
  have hb1 : Below w.heap.size w W1 := by rw [hW1]; exact ((Below.refl _ _).alloc (Nat.le_refl _) _).alloc (by simp) _
  have hx1 : Blk W1 w.heap.size 26 cl.toArray := by rw [hW1]; exact hx.alloc _
  have hcells : ∀ j u, cl[j]? = some u → ((w.alloc (.cells cl.toArray 26)).alloc (.cells zero32 24)).cell? ⟨w.heap.size, 0 + j, none⟩ = some u := fun j u hu => by
    rw [← hW1, Nat.zero_add, hx1.cell j]; simpa using hu
  have hcl' := Lib.hid hcl
  have hel' := Lib.hid hel
  have hlen' := Lib.hid hlen
  clear hcl hel hlen hx hc
  have tok1 : True := trivial
  go_enter Tryz.func13, Tryz.ntmps13
  go_wp2_with (have _t := tok1; refine wpList_load_at rfl 26 (.tmp 1) rfl w.heap.size 0 rfl cl _ hcells Tryz.underlying26 rfl (by rw [headinfo, hlen'.out]) ?_; clear tok1)
  rw [← hW1, hcl'.out]
  refine (encodeHeader_any h W1 hh).mono ?_
  rintro e w2 ⟨v2, rfl, ho2, hb2⟩
  obtain ⟨A2, n2, c2', rfl⟩ := slice_of_own ho2
  have hr2 := hr1.below hb2 hr1.lt
  have hb02 := hb1.trans (hb2.mono hb1.size)
  clear hcells hx1 hW1 hz
  go_wp2_with fail
  refine (twice_any _ (encHd h) w2.heap.size w2 (Nat.le_refl _) (Byt.of_own ho2) (by rw [hel'.out]; omega)).mono ?_
  rintro e w3 ⟨rfl, hb3⟩
  have hone : (bvs (twice (encHd h))).toArray.all (·.oneCell') = true := by
    rw [Array.all_eq_true_iff_forall_mem]
    intro u hu
    exact bvs_one _ u (by simpa using hu)
  have hlen : Hid ((bvs (twice (encHd h))).length = 32) := Lib.hid (by rw [bvs_length, twice, shaOf_length])
  have hr3 := hr2.below hb3 hr2.lt
  have hbf : Below w.heap.size w w3 := hb02.trans (hb3.mono hb02.size)
  generalize hH : bvs (twice (encHd h)) = H at *
  have hH' := Lib.hid hH
  clear hH
  have tok2 : True := trivial
  go_wp2_with (have _t := tok2; refine wpList_store_row rfl 24 (.tmp 2) (.tmp 5) rfl (w.heap.size + 1) H.toArray rfl rfl _ _ hr3 (by rw [hashinfo]; simp [hlen.out]) (by simp [hlen.out, zero32, bvs]) hone ?_; clear tok2)
  (try simp only [Exit.inBlock, Exit.then])
  refine bodyPost_ret (results_cell_at rfl _ _ (w.heap.size + 1) H _ rfl (cells_of_blk (setRow_blk hr3)) Tryz.underlying24 rfl (by rw [hashinfo, hlen.out])) rfl ⟨by first | rfl | rw [hH'.out], setRow_below hbf (by omega)⟩
end Go.Proofs.YtcilabemglbhbaaGreatDoor

/- What a call may turn that writes some blocks alone: words for memory. -/
namespace Go.Pur
open Go Go.RowKit

/-- of what was there only the blocks ps have turned. -/
structure Turns (ps : List Nat) (w w' : World) : Prop where
  os : w'.os = w.os
  tape : w'.tape = w.tape
  output : w'.output = w.output
  size : w.heap.size ≤ w'.heap.size
  block : ∀ k, k < w.heap.size → k ∉ ps → w'.heap[k]? = w.heap[k]?

section
variable {ps qs : List Nat} {w w1 w2 : World}
theorem Turns.refl (ps : List Nat) (w : World) : Turns ps w w := ⟨rfl, rfl, rfl, Nat.le_refl _, fun _ _ _ => rfl⟩
theorem Turns.trans (h : Turns ps w w1) (k : Turns ps w1 w2) : Turns ps w w2 :=
  ⟨k.os.trans h.os, k.tape.trans h.tape, k.output.trans h.output, Nat.le_trans h.size k.size, fun i hi hp => (k.block i (Nat.lt_of_lt_of_le hi h.size) hp).trans (h.block i hi hp)⟩
theorem Turns.more (h : Turns ps w w1) (hq : ∀ p ∈ ps, p ∈ qs) : Turns qs w w1 := ⟨h.os, h.tape, h.output, h.size, fun i hi hp => h.block i hi (fun e => hp (hq i e))⟩
/-- blocks that were not there when it began need no name. -/
theorem Turns.less (h : Turns qs w w1) (hq : ∀ p ∈ qs, p ∈ ps ∨ w.heap.size ≤ p) : Turns ps w w1 :=
  ⟨h.os, h.tape, h.output, h.size, fun i hi hp => h.block i hi (fun e => by
    rcases hq i e with h1 | h1
    · exact hp h1
    · omega)⟩
theorem Turns.of_below (h : Below w.heap.size w w1) : Turns ps w w1 := ⟨h.os, h.tape, h.output, h.size, fun k hk _ => h.block k hk⟩
theorem Turns.below {B : Nat} (h : Turns ps w w1) (hB : B ≤ w.heap.size) (hp : ∀ p ∈ ps, B ≤ p) : Below B w w1 :=
  ⟨h.os, h.tape, h.output, h.size, fun k hk => h.block k (by omega) (fun e => by have := hp k e; omega)⟩
theorem Turns.then_below (h : Turns ps w w1) (k : Below w1.heap.size w1 w2) : Turns ps w w2 := h.trans (.of_below k)
theorem Turns.drew (h : Turns ps w w1) : Turns ps w w1.drew := ⟨h.os, h.tape, h.output, h.size, h.block⟩
theorem Turns.drewN (h : Turns ps w w1) (n : Nat) : Turns ps w (w1.drewN n) := ⟨h.os, h.tape, h.output, h.size, h.block⟩
theorem Turns.alloc (h : Turns ps w w1) (o : Obj) : Turns ps w (w1.alloc o) := h.then_below ((Below.refl _ _).alloc (Nat.le_refl _) _)
theorem Turns.setCell (h : Turns ps w w1) {p : Nat} (hp : p ∈ ps) (i : Nat) (u : Value) : Turns ps w (w1.setCell ⟨p, i, none⟩ u) :=
  h.trans ⟨rfl, rfl, rfl, by simp [World.setCell], fun k _ hk => Below.heap_setCell _ _ _ _ (fun e => hk (by rw [e]; exact hp))⟩
theorem Turns.grown (h : Turns ps w w1) {row : Option Nat} (hg : w1.grownBy w2 row) (hr : ∀ g, row = some g → g ∈ ps ∨ w.heap.size ≤ g) : Turns ps w w2 :=
  ⟨hg.os.trans h.os, hg.tape.trans h.tape, hg.output.trans h.output, Nat.le_trans h.size hg.size, fun k hk hp => (hg.block k (Nat.lt_of_lt_of_le hk h.size) (fun e => by
    rcases hr k e.symm with h1 | h1
    · exact hp h1
    · omega)).trans (h.block k hk hp)⟩
theorem Turns.blk {g : Nat} {t : TypeId} {cs : Array Value} (h : Turns ps w w1) (hb : Blk w g t cs) (hg : g ∉ ps) : Blk w1 g t cs := (h.block g hb.lt hg).trans hb
theorem Turns.byt {B : Nat} {v : Value} {l : Bytes} (h : Turns ps w w1) (hB : ∀ p ∈ ps, B ≤ p) (hb : Byt w B v l) (hs : B ≤ w.heap.size) : Byt w1 B v l := hb.below (h.below hs hB)
theorem Turns.own {base e size n : Nat} {v : Value} {xs : List Value} (h : Turns ps w w1) (hv : w.ownsRow base e size v n xs) (hn : ∀ g, v.ownBlock = some g → g ∉ ps) : w1.ownsRow base e size v n xs := by
  refine ⟨hv.1, ?_⟩
  rcases hv.2 with h1 | ⟨g, cap, cur, rfl, h2, h3, h4⟩
  · exact .inl h1
  · have hgl : g < w.heap.size := by
      rcases Nat.lt_or_ge g w.heap.size with h | h
      · exact h
      · rw [Array.getElem?_eq_none h] at h3; cases h3
    exact .inr ⟨g, cap, cur, rfl, h2, (h.block g hgl (hn g (by simp [Value.ownBlock]))).trans h3, h4⟩
theorem Turns.of_upd {p : Nat} (h : Upd p none w w1 none) (hp : p ∈ ps) : Turns ps w w1 := ⟨h.os, h.tape, h.output, h.size, fun k hk hn => h.block k hk (fun e => hn (e ▸ hp)) (by simp)⟩
end
end Go.Pur

/- octet's Eye: the iterator over its first bytes, the highest first, and the number that they are. -/
namespace Go.Proofs.YtcilabemglbhbaaGreatDoor
open Go Go.RowKit Go.Pur

/-- block p is an eye on the bytes l. -/
def EyeAt (w : World) (p : Nat) (l : Bytes) : Prop := ∃ sv, Blk w p 97 #[.bool true, sv] ∧ Byt w p sv l
def highL (l : Bytes) (size : Nat) : List (Nat × UInt8) := (List.range size).map fun j => (size - 1 - j, l.getD (size - 1 - j) 0)
def encH (x : Nat × UInt8) : Array Value := #[.int .i64 (x.1 : Int), bv x.2]
theorem highL_length (l : Bytes) (size : Nat) : (highL l size).length = size := by simp [highL]
theorem highL_take (l : Bytes) (size m : Nat) (h : m < size) : (highL l size).take (m + 1) = (highL l size).take m ++ [(size - 1 - m, l.getD (size - 1 - m) 0)] := by
  rw [List.take_succ_eq_append_getElem (by rw [highL_length]; exact h)]
  simp [highL]
theorem highL_split (l : Bytes) (size m : Nat) (h : m < size) : ∃ post, highL l size = (highL l size).take m ++ (size - 1 - m, l.getD (size - 1 - m) 0) :: post := by
  refine ⟨(highL l size).drop (m + 1), ?_⟩
  have h1 := highL_take l size m h
  conv => lhs; rw [← List.take_append_drop (m + 1) (highL l size), h1]
  simp
theorem byt_get {w : World} {B : Nat} {v : Value} {l : Bytes} (h : Byt w B v l) (hl : 0 < l.length) : ∃ b o c, v = .slice (some ⟨b, o, none⟩) l.length c ∧ b < B ∧ l.length ≤ c ∧ c ≤ maxLen ∧ ∀ k, k < l.length → w.cell? ⟨b, o + k, none⟩ = some (bv (l.getD k 0)) := by
  obtain ⟨A, c, rfl, h1, h2, hr⟩ := h
  obtain ⟨ad, rfl, hb, hc⟩ := hr.2 hl
  have hb0 : ∀ k, k < l.length → (bvs l)[k]? = some (bv (l.getD k 0)) := fun k hk => by simp [bvs, hk]
  obtain ⟨b, o, sp⟩ := ad
  have hsp : sp = none := by simpa [Addr.add] using World.cell?_spot (hc 0 _ (hb0 0 hl))
  subst hsp
  refine ⟨b, o, c, rfl, hb, h1, h2, fun k hk => ?_⟩
  have := hc k _ (hb0 k hk)
  have e : (⟨b, o, none⟩ : Addr).add k = ⟨b, o + k, none⟩ := by unfold Addr.add; split <;> simp_all
  rwa [e] at this

set_option maxRecDepth 100000 in
set_option maxHeartbeats 1600000 in
theorem high1_in (n : Nat) (hn : 1 ≤ n) (Bs Be p size : Nat) (sv : Value) (l : Bytes) (w : World) (hbs : Blk w Bs 3 #[.int .i64 (size : Int)]) (hbe : Blk w Be 54 #[.pointer (some ⟨p, 0, none⟩)])
    (hp : Blk w p 97 #[.bool true, sv]) (hv : Byt w p sv l) (hsz : size ≤ l.length) (h8 : size ≤ 8) :
    SeqNx Fence.wide n Tryz.prog 94 #[.pointer (some ⟨Bs, 0, none⟩), .pointer (some ⟨Be, 0, none⟩)] encH (fun A B => ∀ k, k ≤ p ∨ k = Bs ∨ k = Be → B.heap[k]? = A.heap[k]?) none (· = highL l size) (fun _ => True)
      (fun pre x => ∃ post, highL l size = pre ++ x :: post) w := by
  intro l' J Jx W hW hJ hJx hY h0
  have hbs := hbs.below hW hbs.lt
  have hbe := hbe.below hW hbe.lt
  have hv := hv.below (hW.mono (Nat.le_of_lt hp.lt))
  have hp := hp.below hW hp.lt
  have HJ := Lib.hid hJ
  have HY := Lib.hid hY
  have hst : J ((highL l size).take (size - ((size : Int) - 1 + 1).toNat)) W := by
    rw [show size - ((size : Int) - 1 + 1).toNat = 0 by omega]
    exact h0
  have hst' := Lib.hid hst
  have c0 := hbs.cell 0
  clear hJ hJx hY hW h0 hst
  refine callsIn_of_wp Tryz.func94 rfl trivial ?_ rfl
  simp only [Tryz.ntmps94, List.size_toArray, List.length_cons, List.length_nil, Nat.reduceAdd, Nat.reduceSub, Array.replicate_succ, Array.replicate_zero, List.push_toArray, List.append_toArray, List.nil_append, List.cons_append]
  gi_wp2
  gi_loopw [4] (fun i wr => ∃ z : Int, i = .int .i64 z ∧ -1 ≤ z ∧ z < (size : Int) ∧ Hid (J ((highL l size).take (size - (z + 1).toNat)) wr) ∧ Blk wr Bs 3 #[.int .i64 (size : Int)] ∧ Blk wr Be 54 #[.pointer (some ⟨p, 0, none⟩)] ∧ Blk wr p 97 #[.bool true, sv] ∧ Byt wr p sv l) (fun i _ => (intOf i + 1).toNat)
  case atStart => exact ⟨(size : Int) - 1, rfl, by omega, by omega, hst', hbs, hbe, hp, hv⟩
  case round =>
    clear hst' c0 hbs hbe hp hv
    obtain ⟨z, rfl, hz1, hz2, hj, hbs, hbe, hp, hv⟩ := hrel
    have c0 := hbs.cell 0
    have c1 := hbe.cell 0
    have c2 := hp.cell 1
    by_cases h0 : 0 ≤ z
    · obtain ⟨j, rfl⟩ := Int.eq_ofNat_of_zero_le h0
      have hjs : j < size := by omega
      obtain ⟨b, o, c, rfl, hb, hc1, hc2, hget⟩ := byt_get hv (by omega)
      have hcj := hget j (by omega)
      have hidx : size - ((j : Int) + 1).toNat = size - 1 - j := by omega
      obtain ⟨post, hpost⟩ := highL_split l size (size - 1 - j) (by omega)
      have hjj : size - 1 - (size - 1 - j) = j := by omega
      rw [hjj] at hpost
      have hj' := hj.out
      rw [hidx] at hj'
      obtain ⟨fn, tmps, assign, body, hy, hR⟩ := HY.out _ (j, l.getD j 0) wr hj' ⟨post, hpost⟩
      try dsimp only [encH, bv] at hy
      unfold bv at hcj
      have HR := Lib.hid hR
      have hnext : (highL l size).take (size - 1 - j) ++ [(j, l.getD j 0)] = (highL l size).take (size - ((j : Int) - 1 + 1).toNat) := by
        have h1 := highL_take l size (size - 1 - j) (by omega)
        rw [hjj] at h1
        rw [← h1]
        congr 1
        omega
      have hnext' := Lib.hid hnext
      obtain ⟨nl, hnl⟩ : ∃ nl, l.length = nl := ⟨_, rfl⟩
      rw [hnl] at hc1 hp c2 hsz
      have hjl : j < nl := by omega
      have hvv := Lib.hid hv
      have hnl' := Lib.hid hnl
      clear hR hnext hpost hj' hget hv hnl
      generalize l.getD j 0 = cx at *
      gi_wp2
      refine HR.out.mono ?_
      rintro e W3 (⟨rfl, hJ3, hk3⟩ | ⟨rfl, hJx3⟩)
      · have hbs3 : Blk W3 Bs 3 #[.int .i64 (size : Int)] := (hk3 Bs (.inr (.inl rfl))).trans hbs
        have hbe3 : Blk W3 Be 54 #[.pointer (some ⟨p, 0, none⟩)] := (hk3 Be (.inr (.inr rfl))).trans hbe
        have hp3 : Blk W3 p 97 #[.bool true, .slice (some ⟨b, o, none⟩) nl c] := (hk3 p (.inl (Nat.le_refl _))).trans hp
        have hv3 := hvv.out.keep (w' := W3) (fun q hq => World.cell?_of_block (hk3 q.block (.inl (Nat.le_of_lt hq))))
        have hk3' := Lib.hid hk3
        have hJ3' := Lib.hid hJ3
        clear hk3 hJ3
        gi_wp2
        refine ⟨⟨(j : Int) - 1, rfl, by omega, by omega, Lib.hid (by rw [← hnext'.out]; exact hJ3'.out), hbs3, hbe3, by rw [hnl'.out]; exact hp3, hv3⟩, ?_⟩
        simp [intOf]
      · gi_wp2
        refine bodyPost_ret (results_none rfl _ _ _) rfl ?_
        exact ⟨⟨_, rfl⟩, .inr ⟨_, trivial, hJx3⟩⟩
    · have hz : z = -1 := by omega
      subst hz
      have hfull : J (highL l size) wr := by
        have := hj.out
        rw [show size - ((-1 : Int) + 1).toNat = size by omega, List.take_of_length_le (by rw [highL_length]; omega)] at this
        exact this
      have hfull' := Lib.hid hfull
      clear hfull
      gi_wp2
      refine bodyPost_end (results_none rfl _ _ _) rfl ?_
      first | exact ⟨⟨_, rfl⟩, .inl hfull'.out⟩ | exact ⟨⟨_, rfl⟩, .inl ⟨_, rfl, hfull'.out⟩⟩
end Go.Proofs.YtcilabemglbhbaaGreatDoor
