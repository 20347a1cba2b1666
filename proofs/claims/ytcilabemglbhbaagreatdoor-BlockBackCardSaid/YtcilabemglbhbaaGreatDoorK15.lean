/- sha's End: the hash of what was written. -/
import Derived.Test.YtcilabemglbhbaaGreatDoorK14
import Derived.Deep.CutRange
namespace Go.Proofs.YtcilabemglbhbaaGreatDoor
open Go Go.RowKit Go.Pur

/-- how many zeros stand behind the mark. -/
def zpad (r : Nat) : Nat := (64 - (r + 9) % 64) % 64
def be8 (m : Nat) (k : Nat) : Bytes := (List.range k).map fun j => UInt8.ofNat (m / 256 ^ (7 - j))
def tailOf (r n : Nat) : Bytes := (128 :: List.replicate (zpad r) 0) ++ be8 (n * 8) 8
def hashByte (s : S8) (i : Nat) : UInt8 := UInt8.ofNat ((s.get (i / 4) / 2 ^ (8 * (3 - i % 4))) % 256).toNat
def hashB (s : S8) : Bytes := (List.range 32).map (hashByte s)
/-- the last state: the mark, zeros and the length are mixed in. -/
def lastS (s : S8) (rest : Bytes) (n : Nat) : S8 := absorb s (rest ++ tailOf rest.length n) ((rest ++ tailOf rest.length n).length / 64)
def endB (s : S8) (rest : Bytes) (n : Nat) : Bytes := if noneS s then List.replicate 32 0 else hashB (lastS s rest n)

theorem hashB_length (s : S8) : (hashB s).length = 32 := by simp [hashB]
theorem bv_hashByte (s : S8) (i : Nat) : bv (hashByte s i) = .int .u8 (s.get (i / 4) / 2 ^ (8 * (3 - i % 4)) % 256) := by
  unfold bv hashByte
  have h0 := Int.emod_nonneg (s.get (i / 4) / 2 ^ (8 * (3 - i % 4))) (show (256 : Int) ≠ 0 by decide)
  have h1 := Int.emod_lt_of_pos (s.get (i / 4) / 2 ^ (8 * (3 - i % 4))) (show (0 : Int) < 256 by decide)
  generalize s.get (i / 4) / 2 ^ (8 * (3 - i % 4)) % 256 = y at *
  have e : ((UInt8.ofNat y.toNat).toNat : Int) = y := by
    rw [UInt8.toNat_ofNat']
    omega
  rw [e]
/-- the first k bytes stand, the others are 0. -/
def outP (s : S8) (k : Nat) : Array Value := (bvs ((hashB s).take k ++ List.replicate (32 - k) 0)).toArray
theorem outP_at (s : S8) (k : Nat) (h : k < 32) : (outP s k)[k]? = some (.int .u8 0) := by
  have hl : ((hashB s).take k).length = k := by rw [List.length_take, hashB_length]; omega
  unfold outP bvs
  rw [List.getElem?_toArray, List.getElem?_map, List.getElem?_append_right (by omega), hl, Nat.sub_self, List.getElem?_replicate, if_pos (by omega)]
  rfl
theorem outP_set (s : S8) (k : Nat) (h : k < 32) : (outP s k).setIfInBounds k (.int .u8 (s.get (k / 4) / 2 ^ (8 * (3 - k % 4)) % 256)) = outP s (k + 1) := by
  have hl : ((hashB s).take k).length = k := by rw [List.length_take, hashB_length]; omega
  have hk : k < (hashB s).length := by rw [hashB_length]; exact h
  have hg : (hashB s)[k] = hashByte s k := by simp [hashB]
  rw [← bv_hashByte]
  unfold outP
  rw [List.setIfInBounds_toArray]
  congr 1
  unfold bvs
  rw [← List.map_set, List.set_append_right _ _ (by omega), hl, Nat.sub_self, List.take_succ_eq_append_getElem hk, hg, show 32 - k = (32 - (k + 1)) + 1 by omega, List.replicate_succ]
  simp
theorem hashinfo : (Tryz.prog.info? 24).map (·.size) = some 32 := by kernel_rfl
theorem byt_one (W : World) (x : Int) (h0 : 0 ≤ x) (h1 : x < 256) : Byt (W.alloc (.cells #[.int .u8 x] 5)) (W.heap.size + 1) (.slice (some ⟨W.heap.size, 0, none⟩) 1 1) [UInt8.ofNat x.toNat] :=
  byt_built W _ [UInt8.ofNat x.toNat] _ (by
    have e : ((UInt8.ofNat x.toNat).toNat : Int) = x := by simp; omega
    simp only [bvs, bv, List.map_cons, List.map_nil, e]) (by simp [maxLen])
theorem be_cast (n m : Nat) : ((n : Int) * 8 / 2 ^ m % 256) = (((n * 8 / 2 ^ m) % 256 : Nat) : Int) := by
  have h2 : ((2 : Int) ^ m) = ((2 ^ m : Nat) : Int) := by rw [Int.natCast_pow]; rfl
  have h8 : (n : Int) * 8 = ((n * 8 : Nat) : Int) := by rw [Int.natCast_mul]; rfl
  rw [h2, h8]
  generalize (2 ^ m : Nat) = y
  rfl
theorem be_step (n k : Nat) : UInt8.ofNat ((n : Int) * 8 / 2 ^ (8 * (7 - k)) % 256).toNat = UInt8.ofNat (n * 8 / 256 ^ (7 - k)) := by
  rw [be_cast, Int.toNat_natCast, Nat.pow_mul]
  apply UInt8.toNat_inj.1
  rw [UInt8.toNat_ofNat', UInt8.toNat_ofNat']
  exact Nat.mod_mod _ _
def lenV : Value → Nat
  | .slice _ n _ => n
  | _ => 0
def zero32 : Array Value := (bvs (List.replicate 32 0)).toArray

set_option maxRecDepth 100000 in
set_option maxHeartbeats 3200000 in
theorem end_any (p : Nat) (s : S8) (rv : Value) (rest : Bytes) (n : Nat) (w : World) (hS : SumBlk w p s rv (n : Int)) (hr : OwnB w 0 5 rv rest) (hl : rest.length < 64) (hn : n ≤ 1000000000) :
    Calls Tryz.prog 80 #[.pointer (some ⟨p, 0, none⟩)] w fun e w' => e = .returned (.agg (bvs (endB s rest n)).toArray) ∧ Below w.heap.size w w' := by
  have hpl := hS.lt
  have q9 : w.cell? ⟨p, 9, none⟩ = some (.int .u64 (n : Int)) := hS.cell 9
  obtain ⟨W1, hW1⟩ : ∃ W1, (w.alloc (.cells #[.int .u8 0, .int .u8 0, .int .u8 0, .int .u8 0, .int .u8 0, .int .u8 0, .int .u8 0, .int .u8 0, .int .u8 0, .int .u8 0, .int .u8 0, .int .u8 0, .int .u8 0, .int .u8 0, .int .u8 0, .int .u8 0, .int .u8 0, .int .u8 0, .int .u8 0, .int .u8 0, .int .u8 0, .int .u8 0, .int .u8 0, .int .u8 0, .int .u8 0, .int .u8 0, .int .u8 0, .int .u8 0, .int .u8 0, .int .u8 0, .int .u8 0, .int .u8 0] 24)).alloc (.cells #[.int .u8 0, .int .u8 0, .int .u8 0, .int .u8 0, .int .u8 0, .int .u8 0, .int .u8 0, .int .u8 0, .int .u8 0, .int .u8 0, .int .u8 0, .int .u8 0, .int .u8 0, .int .u8 0, .int .u8 0, .int .u8 0, .int .u8 0, .int .u8 0, .int .u8 0, .int .u8 0, .int .u8 0, .int .u8 0, .int .u8 0, .int .u8 0, .int .u8 0, .int .u8 0, .int .u8 0, .int .u8 0, .int .u8 0, .int .u8 0, .int .u8 0, .int .u8 0] 24) = W1 := ⟨_, rfl⟩
  have hz : (#[.int .u8 0, .int .u8 0, .int .u8 0, .int .u8 0, .int .u8 0, .int .u8 0, .int .u8 0, .int .u8 0, .int .u8 0, .int .u8 0, .int .u8 0, .int .u8 0, .int .u8 0, .int .u8 0, .int .u8 0, .int .u8 0, .int .u8 0, .int .u8 0, .int .u8 0, .int .u8 0, .int .u8 0, .int .u8 0, .int .u8 0, .int .u8 0, .int .u8 0, .int .u8 0, .int .u8 0, .int .u8 0, .int .u8 0, .int .u8 0, .int .u8 0, .int .u8 0] : Array Value) = zero32 := rfl
  have hb1 : Below w.heap.size w W1 := by rw [← hW1]; exact ((Below.refl _ _).alloc (Nat.le_refl _) _).alloc (by simp) _
  have hr1 : Blk W1 w.heap.size 24 zero32 := by rw [← hW1, hz]; exact (Blk.new w _ _).alloc _
  have ho1 : Blk W1 (w.heap.size + 1) 24 zero32 := by
    have := Blk.new (w.alloc (.cells #[.int .u8 0, .int .u8 0, .int .u8 0, .int .u8 0, .int .u8 0, .int .u8 0, .int .u8 0, .int .u8 0, .int .u8 0, .int .u8 0, .int .u8 0, .int .u8 0, .int .u8 0, .int .u8 0, .int .u8 0, .int .u8 0, .int .u8 0, .int .u8 0, .int .u8 0, .int .u8 0, .int .u8 0, .int .u8 0, .int .u8 0, .int .u8 0, .int .u8 0, .int .u8 0, .int .u8 0, .int .u8 0, .int .u8 0, .int .u8 0, .int .u8 0, .int .u8 0] 24)) 24 #[.int .u8 0, .int .u8 0, .int .u8 0, .int .u8 0, .int .u8 0, .int .u8 0, .int .u8 0, .int .u8 0, .int .u8 0, .int .u8 0, .int .u8 0, .int .u8 0, .int .u8 0, .int .u8 0, .int .u8 0, .int .u8 0, .int .u8 0, .int .u8 0, .int .u8 0, .int .u8 0, .int .u8 0, .int .u8 0, .int .u8 0, .int .u8 0, .int .u8 0, .int .u8 0, .int .u8 0, .int .u8 0, .int .u8 0, .int .u8 0, .int .u8 0, .int .u8 0]
    rw [hW1, hz] at this
    simpa using this
  have hS1 : SumBlk W1 p s rv (n : Int) := Blk.below hS hb1 hpl
  have hsz1 : W1.heap.size = w.heap.size + 2 := by rw [← hW1]; simp
  have q91 : W1.cell? ⟨p, 9, none⟩ = some (.int .u64 (n : Int)) := hS1.cell 9
  have hnone := none_any p s rv (n : Int) W1 hS1
  have hrest1 := own_below hr (hb1)
  cases hns : noneS s with
  | true =>
    rw [hns] at hnone
    have hnone' := Lib.hid hnone
    have hend : Hid (endB s rest n = List.replicate 32 0) := Lib.hid (by simp [endB, hns])
    clear hnone q9
    have hcl : ∀ j u, (bvs (List.replicate 32 0))[j]? = some u → W1.cell? ⟨w.heap.size + 1, 0 + j, none⟩ = some u := fun j u hu => by rw [Nat.zero_add]; exact cells_of_blk (cs := bvs (List.replicate 32 0)) ho1 j u hu
    have hlen : Hid ((bvs (List.replicate 32 0)).length = 32) := Lib.hid (by simp [bvs_length])
    have hone : (bvs (List.replicate 32 0)).toArray.all (·.oneCell') = true := by
      rw [Array.all_eq_true_iff_forall_mem]
      intro u hu
      exact bvs_one _ u (by simpa using hu)
    generalize hH : bvs (List.replicate 32 0) = H at *
    have hH' := Lib.hid hH
    clear hH hz hS1 q91 hr
    have tok1 : True := trivial
    have tok2 : True := trivial
    go_enter Tryz.func80, Tryz.ntmps80
    go_wp2_with (first
      | (go_at_call 90; refine hnone'.out.mono ?_; rintro e w' ⟨rfl, hw'⟩; subst w')
      | (have _t := tok1; refine wpList_load_at rfl 24 (.tmp 3) rfl (w.heap.size + 1) 0 rfl H _ hcl Tryz.underlying24 rfl (by rw [hashinfo, hlen.out]) ?_; clear tok1)
      | (have _t := tok2; refine wpList_store_row rfl 24 (.tmp 2) (.tmp 11) rfl w.heap.size H.toArray rfl rfl _ _ hr1 (by rw [hashinfo]; simp [hlen.out]) (by simp [hlen.out, zero32, bvs]) hone ?_; clear tok2))
    (try simp only [Exit.inBlock, Exit.then])
    refine bodyPost_ret (results_cell_at rfl _ _ w.heap.size H _ rfl (cells_of_blk (setRow_blk hr1)) Tryz.underlying24 rfl (by rw [hashinfo, hlen.out])) rfl ⟨?_, setRow_below hb1 (Nat.le_refl _)⟩
    rw [hend.out, hH'.out]
  | false =>
    rw [hns] at hnone
    have hnone' := Lib.hid hnone
    have hend : Hid (endB s rest n = hashB (lastS s rest n)) := Lib.hid (by simp [endB, hns])
    have hcopy := Lib.hid (fun (W : World) (h : SumBlk W p s rv (n : Int)) (h2 : Byt W W.heap.size rv rest) => sumcopy_any p s rv (n : Int) rest W.heap.size W (Nat.le_refl _) h hns h2 (by omega))
    clear hnone q9 hr hz
    have hp1 : p < W1.heap.size := by omega
    go_enter Tryz.func80, Tryz.ntmps80
    go_upto_region 4 with (go_at_call 90; refine hnone'.out.mono ?_; rintro e w' ⟨rfl, hw'⟩; subst w')
    have hw8 : IntKind.u64.wrap ((n : Int) * 8) = (n : Int) * 8 := by rw [IntKind.wrap_u64]; omega
    go_cut [4, 5] from 12 to 18 (fun v4 v5 wx => ∃ p2 rv2, v4 = .pointer (some ⟨p2, 0, none⟩) ∧ v5 = .int .u64 ((n : Int) * 8) ∧ W1.heap.size ≤ p2 ∧ SumBlk wx p2 s rv2 (n : Int) ∧ OwnB wx W1.heap.size 5 rv2 rest ∧ Below W1.heap.size W1 wx)
    case first =>
      clear hW1
      go_region_with (go_at_call 93; refine (hcopy.out _ (by exact hS1) (by exact Byt.of_own hrest1)).mono ?_; rintro e w2 ⟨p2, rv2, rfl, hp2, hS2, ho2, hb20⟩; have hb2 : Below W1.heap.size W1 w2 := ⟨hb20.os, hb20.tape, hb20.output, hb20.size, hb20.block⟩; have q92 : w2.cell? ⟨p, 9, none⟩ = some (.int .u64 (n : Int)) := (Blk.below hS1 hb2 hp1).cell 9)
      all_goals
        go_wp2_with fail
        go_meet
        case rel => exact ⟨p2, rv2, rfl, rfl, hp2, hS2, ho2, hb2⟩
    case rest =>
      obtain ⟨p2, rv2, rfl, rfl, hp2, hS2, ho2, hb2⟩ := hcut
      obtain ⟨W2, rfl⟩ : ∃ W2 : World, W2 = wc := ⟨_, rfl⟩
      obtain ⟨A2, m2, c2, rfl⟩ := slice_of_own ho2
      go_wp2_with fail
      have hrl : m2 = rest.length := by
        obtain ⟨A, c, h, _⟩ := Byt.of_own ho2
        injection h
      have hrl' := Lib.hid hrl
      clear hW1
      have ht0 : OwnB (W2.alloc (.cells #[.int .u8 128] 5)) W2.heap.size 5 (.slice (some ⟨W2.heap.size, 0, none⟩) 1 1) (128 :: List.replicate 0 0) := owned_built W2 _ [128] _ _ (Nat.le_refl _) rfl (by simp [maxLen])
      have hm64 : m2 < 64 := by omega
      clear hrl
      go_loopw [6] (fun v wr => ∃ j : Nat, j ≤ zpad m2 ∧ OwnB wr W2.heap.size 5 v (128 :: List.replicate j 0) ∧ Below W2.heap.size W2 wr) (fun v _ => 70 - lenV v)
      case atStart => exact ⟨0, Nat.zero_le _, ht0, (Below.refl _ _).alloc (Nat.le_refl _) _⟩
      case round =>
        clear ht0
        obtain ⟨j, hj, hot, hbt⟩ := hrel
        obtain ⟨At, kt, ct, rfl⟩ := slice_of_own hot
        have hkt : kt = j + 1 := by
          obtain ⟨A, c, h, _⟩ := Byt.of_own hot
          injection h with h1 h2 h3
          rw [h2]; simp
        subst hkt
        have hS3 := Blk.below hS2 hbt hS2.lt
        have q8 : wr.cell? ⟨p2, 8, none⟩ = some (.slice A2 m2 c2) := hS3.cell 8
        have hz63 : zpad m2 ≤ 63 := by unfold zpad; omega
        by_cases hlt : j < zpad m2
        · have hc : ¬ ((m2 + (j + 1) + 8) % 64 = 0) := by unfold zpad at hlt; omega
          have hsrc : Byt (wr.alloc (.cells #[.int .u8 0] 5)) (wr.heap.size + 1) (.slice (some ⟨wr.heap.size, 0, none⟩) 1 1) [0] := byt_built wr _ [0] _ rfl (by simp [maxLen])
          have hoa := own_below hot ((Below.refl wr.heap.size wr).alloc (Nat.le_refl _) (.cells #[.int .u8 0] 5))
          have hba := hbt.alloc hbt.size (.cells #[.int .u8 0] 5)
          go_wp2_with (at_builtin; refine app_bytes rfl (.tmp 31) (.tmp 32) rfl W2.heap.size (.slice At (j + 1) ct) _ rfl hoa (wr.heap.size + 1) _ [0] rfl hsrc (by simp; omega) hba.size ?_; intro v' w5 ho5 hg5 hf5)
          go_round
          case rel => exact ⟨j + 1, by omega, by rw [List.replicate_succ']; exact ho5, hba.grown hg5 hba.size (fun k hk => (hot.lt k hk).1)⟩
          case measure =>
            obtain ⟨A, c, h, _⟩ := Byt.of_own ho5
            subst h
            simp [lenV]
            omega
        · have hje : j = zpad m2 := by omega
          subst hje
          have hc : (m2 + (zpad m2 + 1) + 8) % 64 = 0 := by unfold zpad; omega
          have hz1 : zpad m2 ≤ 63 := by unfold zpad; omega
          have hlen0 : (128 :: List.replicate (zpad m2) 0 : Bytes).length = zpad m2 + 1 := by simp
          generalize hT : (128 :: List.replicate (zpad m2) 0 : Bytes) = T0 at *
          have hT' := Lib.hid hT
          clear hT
          have hTl : T0.length ≤ 64 := by omega
          clear hlen0
          generalize hzz : zpad m2 = z at *
          have hzz' := Lib.hid hzz
          clear hzz
          have hcb : (((m2 : Int) + ((z : Int) + 1) + 8) % 64 != 0) = false := by simp only [bne_eq_false_iff_eq]; omega
          go_wp2_with fail
          try simp only [hcb]
          obtain ⟨W4, rfl⟩ : ∃ W4 : World, W4 = wr := ⟨_, rfl⟩
          clear q8 hS3
          go_loopw [6, 7] (fun v i wr => ∃ k : Nat, k ≤ 8 ∧ i = .int .i64 (7 - (k : Int)) ∧ OwnB wr W2.heap.size 5 v (T0 ++ be8 (n * 8) k) ∧ Below W2.heap.size W2 wr) (fun _ i _ => (intOf i + 1).toNat)
          case atStart => exact ⟨0, by omega, rfl, by simpa [be8] using hot, hbt⟩
          case round =>
            clear hot hbt
            obtain ⟨k, hk, rfl, hot, hbt⟩ := hrel
            obtain ⟨At, kt, ct, rfl⟩ := slice_of_own hot
            have hlk : (T0 ++ be8 (n * 8) k).length ≤ 100 := by simp [be8]; omega
            have hbe : be8 (n * 8) (k + 1) = be8 (n * 8) k ++ [UInt8.ofNat (n * 8 / 256 ^ (7 - k))] := by simp [be8, List.range_succ]
            have hbe' := Lib.hid hbe
            clear hbe
            by_cases hlt : k < 8
            · generalize hLL : T0 ++ be8 (n * 8) k = LL at *
              have hLL' := Lib.hid hLL
              clear hLL
              have hs1 : (8 * (7 - (k : Int))).toNat = 8 * (7 - k) := by omega
              have hs2 : ¬ (8 * (7 - (k : Int)) < 0) := by omega
              have hs3 : (8 * (7 - (k : Int))) < 64 := by omega
              go_wp2_with (at_builtin; refine app_bytes rfl (.tmp 38) (.tmp 44) rfl W2.heap.size (.slice At kt ct) _ rfl (own_below hot ((Below.refl wr.heap.size wr).alloc (Nat.le_refl _) _)) (wr.heap.size + 1) _ [UInt8.ofNat (Int.toNat _)] rfl (byt_one wr _ (by omega) (by omega)) (by simp; omega) (by have := hbt.size; simp; omega) ?_; intro v' w5 ho5 hg5 hf5)
              have hba := hbt.alloc hbt.size (.cells #[.int .u8 ((n : Int) * 8 / 2 ^ (8 * (7 - k)) % 256)] 5)
              go_round
              case rel => exact ⟨k + 1, by omega, by congr 1; omega, by rw [be_step] at ho5; rw [hbe'.out, ← List.append_assoc, hLL'.out]; exact ho5, hba.grown hg5 hba.size (fun k hk => (hot.lt k hk).1)⟩
              case measure => simp [intOf]; omega
            · have hk8 : k = 8 := by omega
              subst hk8
              simp only [Int.cast_ofNat_Int, Int.reduceSub] at *
              have hS5 := Blk.below hS2 hbt hS2.lt
              have hrb := own_below ho2 hbt
              have hb1r : Below W1.heap.size W1 wr := hb2.trans (hbt.mono hb2.size)
              have htl : T0 ++ be8 (n * 8) 8 = tailOf rest.length n := by rw [← hT'.out, tailOf, ← hrl'.out, hzz'.out]
              have htl' := Lib.hid htl
              have hwr := Lib.hid (write_any p2 s (.slice A2 m2 c2) (.slice At kt ct) rest (T0 ++ be8 (n * 8) 8) n wr hS5 hns (World.ownsRow_base hrb (fun _ _ => Nat.zero_le _)) (fun u => by
                have h := Byt.of_own (own_far hot (a := ⟨p2, 9, none⟩) (own_blk_ne hot hS5 (by decide)) u)
                simpa [World.setCell] using h) (by omega) (by omega) (by omega))
              clear htl hot
              go_wp2_with fail
              refine hwr.out.mono ?_
              rintro e w6 ⟨rfl, ⟨rv6, hS6, -⟩, hu6⟩
              have hou := ho1.below hb1r ho1.lt
              have ho6 : Blk w6 (w.heap.size + 1) 24 zero32 := hu6.blk hou (by omega) (by simp)
              have hr6 : Blk w6 w.heap.size 24 zero32 := hu6.blk (hr1.below hb1r hr1.lt) (by omega) (by simp)
              rw [htl'.out] at hS6
              have hlast : absorb s (rest ++ tailOf rest.length n) ((rest ++ tailOf rest.length n).length / 64) = lastS s rest n := rfl
              rw [hlast] at hS6
              generalize lastS s rest n = S6 at *
              have hb6 : Below w.heap.size w w6 := by
                have h1 := hb1.trans (hb1r.mono hb1.size)
                exact h1.trans (hu6.below (Nat.le_trans h1.size (Nat.le_refl _)) (by omega) (fun k hk => by cases hk))
              clear hlast hwr hu6 hou hb1r hrb hS5
              go_wp2_with fail
              generalize ((n + (tailOf rest.length n).length : Nat) : Int) = n6 at *
              go_loopw [49] (fun i wr => ∃ k : Nat, k ≤ 32 ∧ i = .int .i64 (k : Int) ∧ Blk wr (w.heap.size + 1) 24 (outP S6 k) ∧ SumBlk wr p2 S6 rv6 n6 ∧ Blk wr w.heap.size 24 zero32 ∧ Below w.heap.size w wr) (fun i _ => 32 - (intOf i).toNat)
              case atStart => exact ⟨0, by omega, rfl, ho6, hS6, hr6, hb6⟩
              case round =>
                clear ho6 hS6 hr6 hb6
                obtain ⟨i, hi, rfl, hoi, hSi, hri, hbi⟩ := hrel
                by_cases hlt : i < 32
                · have hq : ((S6.cells ++ [rv6, .int .u64 n6]).toArray)[i / 4]? = some (.int .u32 (S6.get (i / 4))) := get_cell S6 _ (i / 4) (by omega)
                  have hqc := (Blk.cell hSi (i / 4)).trans hq
                  have hof := hoi.frozen i
                  have hoc : wr.cell? ⟨w.heap.size + 1, i, none⟩ = some (.int .u8 0) := (hoi.cell i).trans (outP_at S6 i hlt)
                  have hset := Lib.hid (outP_set S6 i hlt)
                  have l1 : (i : Int) < 32 := by omega
                  have l2 : ((i : Int) / 4).toNat = i / 4 := by omega
                  have l3 : (8 * (3 - (i : Int) % 4)).toNat = 8 * (3 - i % 4) := by omega
                  have l4 : ¬ (8 * (3 - (i : Int) % 4) < 0) := by omega
                  have l5 : (i : Int) / 4 < 8 := by omega
                  have l6 : 0 ≤ (i : Int) / 4 := by omega
                  generalize S6.get (i / 4) = x at *
                  go_wp2_with fail
                  go_round
                  case rel => exact ⟨i + 1, by omega, by go_num, by rw [← hset.out]; exact hoi.set_ i _, Blk.far hSi (p := ⟨w.heap.size + 1, i, none⟩) (by show p2 ≠ w.heap.size + 1; omega) _, hri.far (p := ⟨w.heap.size + 1, i, none⟩) (by show w.heap.size ≠ w.heap.size + 1; omega) _, hbi.setCell (p := ⟨w.heap.size + 1, i, none⟩) (by simp) _⟩
                  case measure => simp [intOf]; omega
                · have hi32 : i = 32 := by omega
                  subst hi32
                  have ho32 : outP S6 32 = (bvs (hashB S6)).toArray := by simp [outP, List.take_of_length_le, hashB_length]
                  rw [ho32] at hoi
                  have hcl : ∀ j u, (bvs (hashB S6))[j]? = some u → wr.cell? ⟨w.heap.size + 1, 0 + j, none⟩ = some u := fun j u hu => by rw [Nat.zero_add]; exact cells_of_blk hoi j u hu
                  have hlen := Lib.hid (by rw [bvs_length, hashB_length] : (bvs (hashB S6)).length = 32)
                  have hone : (bvs (hashB S6)).toArray.all (·.oneCell') = true := by
                    rw [Array.all_eq_true_iff_forall_mem]
                    intro u hu
                    exact bvs_one _ u (by simpa using hu)
                  have hend' : Hid (endB s rest n = hashB S6) := Lib.hid hend.out
                  generalize hH : bvs (hashB S6) = H at *
                  have hH' := Lib.hid hH
                  clear hH
                  have tok1 : True := trivial
                  have tok2 : True := trivial
                  go_wp2_with (first
                    | (have _t := tok1; refine wpList_load_at rfl 24 (.tmp 3) rfl (w.heap.size + 1) 0 rfl H _ hcl Tryz.underlying24 rfl (by rw [hashinfo, hlen.out]) ?_; clear tok1)
                    | (have _t := tok2; refine wpList_store_row rfl 24 (.tmp 2) (.tmp 68) rfl w.heap.size H.toArray rfl rfl _ _ hri (by rw [hashinfo]; simp [hlen.out]) (by simp [hlen.out, zero32, bvs]) hone ?_; clear tok2))
                  (try simp only [Exit.inBlock, Exit.then])
                  refine bodyPost_ret (results_cell_at rfl _ _ w.heap.size H _ rfl (cells_of_blk (setRow_blk hri)) Tryz.underlying24 rfl (by rw [hashinfo, hlen.out])) rfl ⟨?_, setRow_below hbi (Nat.le_refl _)⟩
                  rw [hend'.out, hH'.out]
end Go.Proofs.YtcilabemglbhbaaGreatDoor
