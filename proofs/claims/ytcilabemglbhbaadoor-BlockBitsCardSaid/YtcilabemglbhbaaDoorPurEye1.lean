/- octet's Eye: the iterator over its first bytes, the highest first, and the number that they are. -/
import Derived.Test.YtcilabemglbhbaaDoorPurIter2
import Derived.Test.YtcilabemglbhbaaDoorPurTurns
import Derived.Test.YtcilabemglbhbaaDoorPurOctet
namespace Go.Proofs.YtcilabemglbhbaaDoor
open Go Go.RowKit Go.Pur

/-- block p is an eye on the bytes l. -/
def EyeAt (w : World) (p : Nat) (l : Bytes) : Prop := ∃ sv, Blk w p 103 #[.bool true, sv] ∧ Byt w p sv l
def highL (l : Bytes) (size : Nat) : List (Nat × UInt8) := (List.range size).map fun j => (size - 1 - j, l.getD (size - 1 - j) 0)
def encH (x : Nat × UInt8) : Array Value := #[.int .i64 (x.1 : Int), bv x.2]
theorem highL_length (l : Bytes) (size : Nat) : (highL l size).length = size := by simp [highL]
theorem highL_take (l : Bytes) (size m : Nat) (h : m < size) : (highL l size).take (m + 1) = (highL l size).take m ++ [(size - 1 - m, l.getD (size - 1 - m) 0)] := by
  rw [List.take_succ_eq_append_getElem (by rw [highL_length]; exact h)]
  simp [highL]
theorem highL_split (l : Bytes) (size m : Nat) (h : m < size) : ∃ post, highL l size = (highL l size).take m ++ (size - 1 - m, l.getD (size - 1 - m) 0) :: post := by
  refine ⟨(highL l size).drop (m + 1), ?_⟩
  have h1 := highL_take l size m h
  conv => lhs; rw [← List.take_append_drop (m + 1) (highL l size), h1]
  simp
theorem byt_get {w : World} {B : Nat} {v : Value} {l : Bytes} (h : Byt w B v l) (hl : 0 < l.length) : ∃ b o c, v = .slice (some ⟨b, o, none⟩) l.length c ∧ b < B ∧ l.length ≤ c ∧ c ≤ maxLen ∧ ∀ k, k < l.length → w.cell? ⟨b, o + k, none⟩ = some (bv (l.getD k 0)) := by
  obtain ⟨A, c, rfl, h1, h2, hr⟩ := h
  obtain ⟨ad, rfl, hb, hc⟩ := hr.2 hl
  have hb0 : ∀ k, k < l.length → (bvs l)[k]? = some (bv (l.getD k 0)) := fun k hk => by simp [bvs, hk]
  obtain ⟨b, o, sp⟩ := ad
  have hsp : sp = none := by simpa [Addr.add] using World.cell?_spot (hc 0 _ (hb0 0 hl))
  subst hsp
  refine ⟨b, o, c, rfl, hb, h1, h2, fun k hk => ?_⟩
  have := hc k _ (hb0 k hk)
  have e : (⟨b, o, none⟩ : Addr).add k = ⟨b, o + k, none⟩ := by unfold Addr.add; split <;> simp_all
  rwa [e] at this

set_option maxRecDepth 100000 in
set_option maxHeartbeats 1600000 in
theorem high1_in (n : Nat) (hn : 1 ≤ n) (Bs Be p size : Nat) (sv : Value) (l : Bytes) (w : World) (hbs : Blk w Bs 3 #[.int .i64 (size : Int)]) (hbe : Blk w Be 64 #[.pointer (some ⟨p, 0, none⟩)])
    (hp : Blk w p 103 #[.bool true, sv]) (hv : Byt w p sv l) (hsz : size ≤ l.length) (h8 : size ≤ 8) :
    SeqNx Fence.wide n Tryd.prog 109 #[.pointer (some ⟨Bs, 0, none⟩), .pointer (some ⟨Be, 0, none⟩)] encH (fun A B => ∀ k, k ≤ p ∨ k = Bs ∨ k = Be → B.heap[k]? = A.heap[k]?) none (· = highL l size) (fun _ => True)
      (fun pre x => ∃ post, highL l size = pre ++ x :: post) w := by
  intro l' J Jx W hW hJ hJx hY h0
  have hbs := hbs.below hW hbs.lt
  have hbe := hbe.below hW hbe.lt
  have hv := hv.below (hW.mono (Nat.le_of_lt hp.lt))
  have hp := hp.below hW hp.lt
  have HJ := Lib.hid hJ
  have HY := Lib.hid hY
  have hst : J ((highL l size).take (size - ((size : Int) - 1 + 1).toNat)) W := by
    rw [show size - ((size : Int) - 1 + 1).toNat = 0 by omega]
    exact h0
  have hst' := Lib.hid hst
  have c0 := hbs.cell 0
  clear hJ hJx hY hW h0 hst
  refine callsIn_of_wp Tryd.func109 rfl trivial ?_ rfl
  simp only [Tryd.ntmps109, List.size_toArray, List.length_cons, List.length_nil, Nat.reduceAdd, Nat.reduceSub, Array.replicate_succ, Array.replicate_zero, List.push_toArray, List.append_toArray, List.nil_append, List.cons_append]
  gi_wp2
  gi_loopw [4] (fun i wr => ∃ z : Int, i = .int .i64 z ∧ -1 ≤ z ∧ z < (size : Int) ∧ Hid (J ((highL l size).take (size - (z + 1).toNat)) wr) ∧ Blk wr Bs 3 #[.int .i64 (size : Int)] ∧ Blk wr Be 64 #[.pointer (some ⟨p, 0, none⟩)] ∧ Blk wr p 103 #[.bool true, sv] ∧ Byt wr p sv l) (fun i _ => (intOf i + 1).toNat)
  case atStart => exact ⟨(size : Int) - 1, rfl, by omega, by omega, hst', hbs, hbe, hp, hv⟩
  case round =>
    clear hst' c0 hbs hbe hp hv
    obtain ⟨z, rfl, hz1, hz2, hj, hbs, hbe, hp, hv⟩ := hrel
    have c0 := hbs.cell 0
    have c1 := hbe.cell 0
    have c2 := hp.cell 1
    by_cases h0 : 0 ≤ z
    · obtain ⟨j, rfl⟩ := Int.eq_ofNat_of_zero_le h0
      have hjs : j < size := by omega
      obtain ⟨b, o, c, rfl, hb, hc1, hc2, hget⟩ := byt_get hv (by omega)
      have hcj := hget j (by omega)
      have hidx : size - ((j : Int) + 1).toNat = size - 1 - j := by omega
      obtain ⟨post, hpost⟩ := highL_split l size (size - 1 - j) (by omega)
      have hjj : size - 1 - (size - 1 - j) = j := by omega
      rw [hjj] at hpost
      have hj' := hj.out
      rw [hidx] at hj'
      obtain ⟨fn, tmps, assign, body, hy, hR⟩ := HY.out _ (j, l.getD j 0) wr hj' ⟨post, hpost⟩
      try dsimp only [encH, bv] at hy
      unfold bv at hcj
      have HR := Lib.hid hR
      have hnext : (highL l size).take (size - 1 - j) ++ [(j, l.getD j 0)] = (highL l size).take (size - ((j : Int) - 1 + 1).toNat) := by
        have h1 := highL_take l size (size - 1 - j) (by omega)
        rw [hjj] at h1
        rw [← h1]
        congr 1
        omega
      have hnext' := Lib.hid hnext
      obtain ⟨nl, hnl⟩ : ∃ nl, l.length = nl := ⟨_, rfl⟩
      rw [hnl] at hc1 hp c2 hsz
      have hjl : j < nl := by omega
      have hvv := Lib.hid hv
      have hnl' := Lib.hid hnl
      clear hR hnext hpost hj' hget hv hnl
      generalize l.getD j 0 = cx at *
      gi_wp2
      refine HR.out.mono ?_
      rintro e W3 (⟨rfl, hJ3, hk3⟩ | ⟨rfl, hJx3⟩)
      · have hbs3 : Blk W3 Bs 3 #[.int .i64 (size : Int)] := (hk3 Bs (.inr (.inl rfl))).trans hbs
        have hbe3 : Blk W3 Be 64 #[.pointer (some ⟨p, 0, none⟩)] := (hk3 Be (.inr (.inr rfl))).trans hbe
        have hp3 : Blk W3 p 103 #[.bool true, .slice (some ⟨b, o, none⟩) nl c] := (hk3 p (.inl (Nat.le_refl _))).trans hp
        have hv3 := hvv.out.keep (w' := W3) (fun q hq => World.cell?_of_block (hk3 q.block (.inl (Nat.le_of_lt hq))))
        have hk3' := Lib.hid hk3
        have hJ3' := Lib.hid hJ3
        clear hk3 hJ3
        gi_wp2
        refine ⟨⟨(j : Int) - 1, rfl, by omega, by omega, Lib.hid (by rw [← hnext'.out]; exact hJ3'.out), hbs3, hbe3, by rw [hnl'.out]; exact hp3, hv3⟩, ?_⟩
        simp [intOf]
      · gi_wp2
        refine bodyPost_ret (results_none rfl _ _ _) rfl ?_
        exact ⟨⟨_, rfl⟩, .inr ⟨_, trivial, hJx3⟩⟩
    · have hz : z = -1 := by omega
      subst hz
      have hfull : J (highL l size) wr := by
        have := hj.out
        rw [show size - ((-1 : Int) + 1).toNat = size by omega, List.take_of_length_le (by rw [highL_length]; omega)] at this
        exact this
      have hfull' := Lib.hid hfull
      clear hfull
      gi_wp2
      refine bodyPost_end (results_none rfl _ _ _) rfl ?_
      first | exact ⟨⟨_, rfl⟩, .inl hfull'.out⟩ | exact ⟨⟨_, rfl⟩, .inl ⟨_, rfl, hfull'.out⟩⟩
end Go.Proofs.YtcilabemglbhbaaDoor
