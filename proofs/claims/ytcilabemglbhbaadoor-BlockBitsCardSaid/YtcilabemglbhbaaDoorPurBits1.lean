/- BlockBits: the walk, up to the two headers' bytes. -/
import Derived.Test.YtcilabemglbhbaaDoorPurHead4
import Derived.Test.YtcilabemglbhbaaDoorPurHeadLaw
import Derived.Test.YtcilabemglbhbaaDoorPurPub
import Derived.Test.YtcilabemglbhbaaDoorPurTold
import Derived.Test.YtcilabemglbhbaaDoorPurCalm
import Derived.Test.YtcilabemglbhbaaDoorPurStrBytes
namespace Go.Proofs.YtcilabemglbhbaaDoor
open Go Go.RowKit Go.Pur Go.Sort

theorem flip_bit (x : UInt8) (s : Nat) (hs : s < 8) : ∃ y : UInt8, y ≠ x ∧ bits .xor .u8 (x.toNat : Int) ((2 : Int) ^ s % 256) = (y.toNat : Int) := by
  have h : ∀ x : Fin 256, ∀ s : Fin 8, UInt8.ofNat (bits .xor .u8 (x.val : Int) ((2 : Int) ^ s.val % 256)).toNat ≠ UInt8.ofNat x.val ∧ bits .xor .u8 (x.val : Int) ((2 : Int) ^ s.val % 256) = ((UInt8.ofNat (bits .xor .u8 (x.val : Int) ((2 : Int) ^ s.val % 256)).toNat).toNat : Int) := by decide +kernel
  have h1 := h ⟨x.toNat, x.toNat_lt⟩ ⟨s, hs⟩
  refine ⟨_, ?_, h1.2⟩
  have e : UInt8.ofNat x.toNat = x := by simp
  have h2 := h1.1
  simp only [e] at h2
  exact h2
theorem own_str {w : World} {base : Nat} {v : Value} {l : Bytes} (h : OwnB w base 5 v l) : (convert 27 9 v).run Tryd.prog w = .ok (.string (strB l)) w := run_strP (Byt.of_own h)
def bitsT (ca cb : Array Value) (la lb : Bytes) : Nat → Value → World → Prop
  | 0, v, _ => v = .agg ca
  | 1, v, w => OwnB w 0 5 v la
  | 2, v, _ => v = .string (strB la)
  | 3, v, _ => v = .agg cb
  | 4, v, w => OwnB w 0 5 v lb
  | 5, v, _ => v = .string (strB lb)
  | 6, v, _ => v = .string (strB la)
  | 7, v, _ => v = .string (strB lb)
  | _, _, _ => True
theorem bitsT_stands (ca cb : Array Value) (la lb : Bytes) (i : Nat) (v : Value) (w w' : World) (hb : Below w.heap.size w w') (h : bitsT ca cb la lb i v w) : bitsT ca cb la lb i v w' := by
  rcases i with _ | _ | _ | _ | _ | _ | _ | _ | i
  · exact h
  · exact own_below h hb
  · exact h
  · exact h
  · exact own_below h hb
  · exact h
  · exact h
  · exact h
  · exact h
def bitsE (cc ca : Array Value) (T : Bytes) (sv : Value) : Nat → Value → World → Prop
  | 2, v, _ => v = .int .i64 0
  | 6, v, _ => v = .agg cc
  | 7, v, _ => v = .agg ca
  | 11, v, _ => v = .agg cc
  | 12, v, w => OwnB w 0 5 v T
  | 13, v, _ => v = .string (strB T)
  | 14, v, _ => v = sv
  | 15, v, _ => v = .string (strB T)
  | _, v, _ => v = .bool true
theorem bitsE_stands (cc ca : Array Value) (T : Bytes) (sv : Value) (i : Nat) (v : Value) (w w' : World) (hb : Below w.heap.size w w') (h : bitsE cc ca T sv i v w) : bitsE cc ca T sv i v w' := by
  rcases i with _ | _ | _ | _ | _ | _ | _ | _ | _ | _ | _ | _ | _ | _ | _ | _ | i
  all_goals first
    | exact h
    | exact own_below h hb
theorem told_yes {ops : Array Oper} {a : Act} {o : Oper} {j k : Nat} (hg : o.guard = some (j, true)) (hj : (ops[j]?).bind (·.dst) = some k) (hv : a.tmps[k]? = some (.bool true)) : Region.wanted o (yielded ops a.tmps) = true := by
  unfold Region.wanted yielded
  rw [hg]
  simp [hj, hv]
set_option maxRecDepth 100000 in
set_option maxHeartbeats 3200000 in
theorem bits_any (a b : Head) (m : Nat) (w : World) (ha : HeadOk a) (hb : HeadOk b) (hm : m < 65536) :
    Calls Tryd.prog 4 #[.agg (headCells a).toArray, .agg (headCells b).toArray, .int .u16 (m : Int)] w fun e w' => e = .returned (.bool true) ∧ Below w.heap.size w w' := by
  obtain ⟨W1, hW1⟩ : ∃ W1, W1 = (w.alloc (.cells (headCells a).toArray 26)).alloc (.cells (headCells b).toArray 26) := ⟨_, rfl⟩
  have pa1 : Blk W1 w.heap.size 26 (headCells a).toArray := by rw [hW1]; exact (Blk.new w _ _).alloc _
  have pb1 : Blk W1 (w.heap.size + 1) 26 (headCells b).toArray := by
    have := Blk.new (w.alloc (.cells (headCells a).toArray 26)) 26 (headCells b).toArray
    rw [hW1]
    simpa using this
  have hb1 : Below w.heap.size w W1 := by rw [hW1]; exact ((Below.refl _ _).alloc (Nat.le_refl _) _).alloc (by simp) _
  have hEa : ∀ W : World, Calls Tryd.prog 12 #[.agg (headCells a).toArray] W fun e w' => ∃ v', e = .returned v' ∧ OwnB w' W.heap.size 5 v' (encHd a) ∧ Below W.heap.size W w' := fun W => encodeHeader_any a W ha
  have hEb : ∀ W : World, Calls Tryd.prog 12 #[.agg (headCells b).toArray] W fun e w' => ∃ v', e = .returned v' ∧ OwnB w' W.heap.size 5 v' (encHd b) ∧ Below W.heap.size W w' := fun W => encodeHeader_any b W hb
  have hla := Lib.hid (headCells_length ha)
  have hlb := Lib.hid (headCells_length hb)
  go_enter Tryd.func4, Tryd.ntmps4
  go_wp2_with fail
  rw [← hW1]
  refine (alive_any W1).mono ?_
  rintro e w2 ⟨rfl, hb2⟩
  have hb02 := hb1.trans (hb2.mono hb1.size)
  have pa2 := pa1.below hb2 pa1.lt
  have pb2 := pb1.below hb2 pb1.lt
  clear hW1 pa1 pb1 hb2 hb1
  go_wp2_with fail
  refine wp_region_told (by kernel_rfl) (by kernel_rfl) [17, 18, 19, 20, 21, 22, 8, 9] rfl (by decide) 90 rfl (by decide)
    (bitsT (headCells a).toArray (headCells b).toArray (encHd a) (encHd b)) (bitsT_stands _ _ _ _) ?_ ?_
  · intro i o ho a' w' hF hB hdep
    have pa := pa2.below hB pa2.lt
    have pb := pb2.below hB pb2.lt
    have t3 : a'.tmps[3]? = some (.pointer (some ⟨w.heap.size, 0, none⟩)) := (hF.2.2 3 (by decide)).trans rfl
    have t4 : a'.tmps[4]? = some (.pointer (some ⟨w.heap.size + 1, 0, none⟩)) := (hF.2.2 4 (by decide)).trans rfl
    rcases i with _ | _ | _ | _ | _ | _ | _ | _ | i
    · simp only [List.getElem?_toArray, List.getElem?_cons_zero, Option.some.injEq] at ho; subst ho
      refine told_wanted rfl ?_
      refine wp_load_at 26 (.tmp 3) rfl w.heap.size 0 (eval_tmp t3) (headCells a) _ (fun j u hu => by rw [Nat.zero_add]; exact cells_of_blk pa j u hu) Tryd.underlying26 rfl (by rw [headinfo, hla.out]) ?_
      exact ⟨_, rfl, rfl, Below.refl _ _⟩
    · simp only [List.getElem?_toArray, List.getElem?_cons_zero, List.getElem?_cons_succ, Option.some.injEq, Nat.reduceAdd] at ho; subst ho
      refine told_wanted rfl ?_
      obtain ⟨v, hv, rfl⟩ := hdep ⟨0, .data⟩ (by simp) rfl
      simp only [List.getD_cons_zero] at hv
      refine wp_via (fun K hK => ?_)
      go_simp
      refine (hEa w').mono ?_
      rintro e w3 ⟨v3, rfl, ho3, hb3⟩
      refine hK _ _ ⟨_, rfl, World.ownsRow_base ho3 (fun _ _ => Nat.zero_le _), hb3⟩
    · simp only [List.getElem?_toArray, List.getElem?_cons_zero, List.getElem?_cons_succ, Option.some.injEq, Nat.reduceAdd] at ho; subst ho
      refine told_wanted rfl ?_
      obtain ⟨v, hv, hT⟩ := hdep ⟨1, .data⟩ (by simp) rfl
      simp only [List.getD_cons_zero, List.getD_cons_succ] at hv
      have hc := own_str hT
      refine wp_via (fun K hK => ?_)
      go_simp
      exact hK _ _ ⟨_, rfl, rfl, Below.refl _ _⟩
    · simp only [List.getElem?_toArray, List.getElem?_cons_zero, List.getElem?_cons_succ, Option.some.injEq, Nat.reduceAdd] at ho; subst ho
      refine told_wanted rfl ?_
      refine wp_load_at 26 (.tmp 4) rfl (w.heap.size + 1) 0 (eval_tmp t4) (headCells b) _ (fun j u hu => by rw [Nat.zero_add]; exact cells_of_blk pb j u hu) Tryd.underlying26 rfl (by rw [headinfo, hlb.out]) ?_
      exact ⟨_, rfl, rfl, Below.refl _ _⟩
    · simp only [List.getElem?_toArray, List.getElem?_cons_zero, List.getElem?_cons_succ, Option.some.injEq, Nat.reduceAdd] at ho; subst ho
      refine told_wanted rfl ?_
      obtain ⟨v, hv, rfl⟩ := hdep ⟨3, .data⟩ (by simp) rfl
      simp only [List.getD_cons_zero, List.getD_cons_succ] at hv
      refine wp_via (fun K hK => ?_)
      go_simp
      refine (hEb w').mono ?_
      rintro e w3 ⟨v3, rfl, ho3, hb3⟩
      refine hK _ _ ⟨_, rfl, World.ownsRow_base ho3 (fun _ _ => Nat.zero_le _), hb3⟩
    · simp only [List.getElem?_toArray, List.getElem?_cons_zero, List.getElem?_cons_succ, Option.some.injEq, Nat.reduceAdd] at ho; subst ho
      refine told_wanted rfl ?_
      obtain ⟨v, hv, hT⟩ := hdep ⟨4, .data⟩ (by simp) rfl
      simp only [List.getD_cons_zero, List.getD_cons_succ] at hv
      have hc := own_str hT
      refine wp_via (fun K hK => ?_)
      go_simp
      exact hK _ _ ⟨_, rfl, rfl, Below.refl _ _⟩
    · simp only [List.getElem?_toArray, List.getElem?_cons_zero, List.getElem?_cons_succ, Option.some.injEq, Nat.reduceAdd] at ho; subst ho
      refine told_wanted rfl ?_
      obtain ⟨v, hv, rfl⟩ := hdep ⟨2, .data⟩ (by simp) rfl
      simp only [List.getD_cons_zero, List.getD_cons_succ] at hv
      refine wp_via (fun K hK => ?_)
      go_simp
      exact hK _ _ ⟨_, rfl, rfl, Below.refl _ _⟩
    · simp only [List.getElem?_toArray, List.getElem?_cons_zero, List.getElem?_cons_succ, Option.some.injEq, Nat.reduceAdd] at ho; subst ho
      refine told_wanted rfl ?_
      obtain ⟨v, hv, rfl⟩ := hdep ⟨5, .data⟩ (by simp) rfl
      simp only [List.getD_cons_zero, List.getD_cons_succ] at hv
      refine wp_via (fun K hK => ?_)
      go_simp
      exact hK _ _ ⟨_, rfl, rfl, Below.refl _ _⟩
    · exact absurd ho (by simp)
  · intro a' w3 hF hB hall
    obtain ⟨v8, h8, rfl⟩ := hall 6 (by decide)
    obtain ⟨v9, h9, rfl⟩ := hall 7 (by decide)
    simp only [List.getD_cons_zero, List.getD_cons_succ] at h8 h9
    have e8 := told_eval h8
    have e9 := told_eval h9
    have pa3 := pa2.below hB pa2.lt
    have pb3 := pb2.below hB pb2.lt
    have hb03 := hb02.trans (hB.mono hb02.size)
    rw [hF.lit]
    clear hall h8 h9 pa2 pb2 hb02 hEb
    simp only [List.foldl_cons, List.foldl_nil, List.setIfInBounds_toArray, List.set_cons_zero, List.set_cons_succ, e8, e9]
    generalize a'.tmps.getD 17 undef = u17
    generalize a'.tmps.getD 18 undef = u18
    generalize a'.tmps.getD 19 undef = u19
    generalize a'.tmps.getD 20 undef = u20
    generalize a'.tmps.getD 21 undef = u21
    generalize a'.tmps.getD 22 undef = u22
    clear e8 e9 hF hB
    go_wp2_with fail
    have hsz : (strB (encHd a)).size = 80 := encHd_length ha
    have hHt : (twice (encHd a)).length = 32 := by rw [twice, shaOf_length]
    have hne : ∀ W : World, (binOp .neq 24 (.agg (bvs (twice (encHd a))).toArray) (.agg (bvs (twice (encHd a))).toArray)).run Tryd.prog W = .ok (.bool false) W := fun W => by
      rw [run_neq_hash W 24 5 32 Tryd.underlying24 Tryd.underlying5 (by kernel_rfl) _ _ hHt hHt]
      simp
    by_cases hab : a = b
    · subst hab
      have hq : ∀ W : World, (binOp .eql 26 (.agg (headCells a).toArray) (.agg (headCells a).toArray)).run Tryd.prog W = .ok (.bool true) W := fun W => by
        rw [run_eql_head W a a ha ha]; simp
      have hs : ((strB (encHd a)).toList == (strB (encHd a)).toList) = true := by simp
      have cH : ∀ d os, Calls Tryd.prog 14 #[.agg (headCells a).toArray] (grow (redrawn w3 d) os) fun e w'' => e = .returned (.agg (bvs (twice (encHd a))).toArray) ∧ ∃ p : Regrown, w'' = grow (redrawn w3 p.d) p.os := fun d os => grown_call (hash_any a _ ha)
      have cla := cells_grew pa3
      have clb := cells_grew pb3
      refine wp_region_quiet_below (by kernel_rfl) (by kernel_rfl) ?_
      iterate 3 quiet_step (fail)
      refine calm_load rfl 26 (.tmp 3) rfl w.heap.size 0 rfl (headCells a) _ cla Tryd.underlying26 rfl (by rw [headinfo, hla.out]) ?_
      simp only [Act.put, List.setIfInBounds_toArray, List.set_cons_zero, List.set_cons_succ]
      refine calm_load rfl 26 (.tmp 4) rfl (w.heap.size + 1) 0 rfl (headCells a) _ clb Tryd.underlying26 rfl (by rw [headinfo, hla.out]) ?_
      simp only [Act.put, List.setIfInBounds_toArray, List.set_cons_zero, List.set_cons_succ]
      iterate 3 quiet_step (fail)
      refine calm_load rfl 26 (.tmp 3) rfl w.heap.size 0 rfl (headCells a) _ cla Tryd.underlying26 rfl (by rw [headinfo, hla.out]) ?_
      simp only [Act.put, List.setIfInBounds_toArray, List.set_cons_zero, List.set_cons_succ]
      refine calm_load rfl 26 (.tmp 4) rfl (w.heap.size + 1) 0 rfl (headCells a) _ clb Tryd.underlying26 rfl (by rw [headinfo, hla.out]) ?_
      simp only [Act.put, List.setIfInBounds_toArray, List.set_cons_zero, List.set_cons_succ]
      iterate 2 quiet_step (fail)
      refine calm_load rfl 26 (.tmp 3) rfl w.heap.size 0 rfl (headCells a) _ cla Tryd.underlying26 rfl (by rw [headinfo, hla.out]) ?_
      simp only [Act.put, List.setIfInBounds_toArray, List.set_cons_zero, List.set_cons_succ]
      quiet_step (exact cH _ _)
      refine calm_load rfl 26 (.tmp 4) rfl (w.heap.size + 1) 0 rfl (headCells a) _ clb Tryd.underlying26 rfl (by rw [headinfo, hla.out]) ?_
      simp only [Act.put, List.setIfInBounds_toArray, List.set_cons_zero, List.set_cons_succ]
      quiet_step (exact cH _ _)
      iterate 8 quiet_step (fail)
      refine wpQuiet_nil ?_
      intro _ hw'
      obtain ⟨⟨dq, osq⟩, hw''⟩ := hw'
      subst hw''
      have hx4 := below_regrown w3 dq osq
      generalize grow (redrawn w3 dq) osq = w4 at *
      have hb04 := hb03.trans (hx4.mono hb03.size)
      have pa4 := pa3.below hx4 pa3.lt
      clear hq hs cH cla clb hx4 pa3 pb3 hb03
      obtain ⟨cap, w5, hcv, hc1, hc2, hb5, hr5⟩ := str_bytes (encHd a) w4 (by rw [encHd_length ha]; omega)
      rw [encHd_length ha] at hcv hc1
      have hb05 := hb04.trans (hb5.mono hb04.size)
      have pa5 := pa4.below hb5 pa4.lt
      have hj : m % 640 / 8 < 80 := by omega
      obtain ⟨d0, f0⟩ := hr5.2 (m % 640 / 8) (by rw [encHd_length ha]; exact hj)
      generalize hx0 : (encHd a).getD (m % 640 / 8) 0 = x at *
      have hx0' := Lib.hid hx0
      unfold bv at d0
      have hr5' := Lib.hid hr5
      have hb5' := Lib.hid hb5
      have hlt4 := pa4.lt
      clear hx0 hr5 hb5 pa4
      go_wp2_with fail
      obtain ⟨y, hy, hxy⟩ := flip_bit x (m % 8) (by omega)
      rw [hxy]
      obtain ⟨T, hT⟩ : ∃ T, T = (encHd a).set (m % 640 / 8) y := ⟨_, rfl⟩
      have hTl : T.length = 80 := by rw [hT, List.length_set, encHd_length ha]
      have hTn : T ≠ encHd a := fun e => hy (by
        have h1 : T.getD (m % 640 / 8) 0 = y := by rw [hT, List.getD_eq_getElem?_getD, List.getElem?_set_self (by rw [encHd_length ha]; exact hj)]; rfl
        rw [e, hx0'.out] at h1
        exact h1.symm)
      have hr6 := hr5'.out.set_ (m % 640 / 8) y
      rw [← hT] at hr6
      unfold bv at hr6
      have hb6 : Below w.heap.size w (w5.setCell ⟨w4.heap.size, m % 640 / 8, none⟩ (.int .u8 (y.toNat : Int))) := hb05.setCell (p := ⟨w4.heap.size, m % 640 / 8, none⟩) hb04.size _
      have pa6 := pa5.far (p := ⟨w4.heap.size, m % 640 / 8, none⟩) (by simp; omega) (.int .u8 (y.toNat : Int))
      generalize w5.setCell ⟨w4.heap.size, m % 640 / 8, none⟩ (.int .u8 (y.toNat : Int)) = w6 at *
      have hbt6 := hr6.byt (cap := cap) (by omega) hc2
      rw [hTl] at hbt6
      clear hxy d0 f0 hcv hr5' hb5' hb05 pa5 hy hx0' hT
      refine (decodeHeader_any _ T w6.heap.size w6 (Nat.le_refl _) hbt6 (by omega)).mono ?_
      rintro e w7 ⟨hb7, ⟨-, rfl⟩ | ⟨hl7, -⟩⟩
      rotate_left
      · exact absurd hTl hl7
      have hce : encHd (rHead T) = T := encHd_rHead T hTl
      have hck : HeadOk (rHead T) := rHead_ok T
      have hca : rHead T ≠ a := fun e => hTn (by rw [← hce, e])
      have hb07 := hb6.trans (hb7.mono hb6.size)
      have pa7 := pa6.below hb7 pa6.lt
      have hr7 := hr6.below hb7
      generalize rHead T = c at *
      have hlc := Lib.hid (headCells_length hck)
      have hone := headCells_one c
      have hEc : ∀ W : World, Calls Tryd.prog 12 #[.agg (headCells c).toArray] W fun e w' => ∃ v', e = .returned v' ∧ OwnB w' W.heap.size 5 v' T ∧ Below W.heap.size W w' := fun W => by have := encodeHeader_any c W hck; rwa [hce] at this
      have hqn : ∀ W : World, (binOp .neq 26 (.agg (headCells c).toArray) (.agg (headCells a).toArray)).run Tryd.prog W = .ok (.bool true) W := fun W => by
        rw [run_neq_head W c a hck ha]; simp [hca]
      clear hb6 hb7 pa6 hr6 hbt6 hck hca hce hTn
      have tok1 : True := trivial
      go_wp2_with (have _t := tok1; refine wpList_store_new rfl 26 (.tmp 11) (.tmp 70) rfl (headCells c).toArray rfl rfl _ _ (by rw [headinfo]; simp [hlc.out]) (by simp [hlc.out]) hone ?_; clear tok1)
      have hx8 : Below w7.heap.size w7 (w7.alloc (.cells (headCells c).toArray 26)) := (Below.refl _ _).alloc (Nat.le_refl _) _
      have pc8 : Blk (w7.alloc (.cells (headCells c).toArray 26)) w7.heap.size 26 (headCells c).toArray := Blk.new w7 _ _
      have hb08 := hb07.trans (hx8.mono hb07.size)
      have pa8 := pa7.below hx8 pa7.lt
      have hr8 := hr7.below hx8
      generalize w7.alloc (.cells (headCells c).toArray 26) = w8 at *
      clear hx8 hb07 pa7 hr7
      refine wp_region_told (by kernel_rfl) (by kernel_rfl) [72, 73, 74, 75, 76, 77, 78, 79, 80, 81, 82, 83, 84, 85, 86, 87, 88, 89, 6] rfl (by decide) 90 rfl (by decide)
        (bitsE (headCells c).toArray (headCells a).toArray T (.slice (some ⟨w4.heap.size, 0, none⟩) 80 cap)) (bitsE_stands _ _ _ _) ?_ ?_
      · intro i o ho a' w' hF hB hdep
        have pc := pc8.below hB pc8.lt
        have pa := pa8.below hB pa8.lt
        have hr := hr8.below hB
        have t3 : a'.tmps[3]? = some (.pointer (some ⟨w.heap.size, 0, none⟩)) := (hF.2.2 3 (by decide)).trans rfl
        have t7 : a'.tmps[7]? = some (.bool true) := (hF.2.2 7 (by decide)).trans rfl
        have t10 : a'.tmps[10]? = some (.slice (some ⟨w4.heap.size, 0, none⟩) 80 cap) := (hF.2.2 10 (by decide)).trans rfl
        have t11 : a'.tmps[11]? = some (.pointer (some ⟨w7.heap.size, 0, none⟩)) := (hF.2.2 11 (by decide)).trans rfl
        have t12 : a'.tmps[12]? = some (.int .i64 0) := (hF.2.2 12 (by decide)).trans rfl
        rcases i with _ | _ | _ | _ | _ | _ | _ | _ | _ | _ | _ | _ | _ | _ | _ | _ | _ | _ | _ | i
        · simp only [List.getElem?_toArray, List.getElem?_cons_zero, Option.some.injEq] at ho; subst ho
          refine told_wanted rfl ?_
          refine wp_via (fun K hK => ?_)
          go_simp
          exact hK _ _ ⟨_, rfl, rfl, Below.refl _ _⟩
        · simp only [List.getElem?_toArray, List.getElem?_cons_zero, List.getElem?_cons_succ, Option.some.injEq, Nat.reduceAdd] at ho; subst ho
          refine told_wanted rfl ?_
          obtain ⟨v0, hv0, rfl⟩ := hdep ⟨0, .data⟩ (by simp) rfl
          simp only [List.getD_cons_zero] at hv0
          refine wp_via (fun K hK => ?_)
          go_simp
          exact hK _ _ ⟨_, rfl, rfl, Below.refl _ _⟩
        · simp only [List.getElem?_toArray, List.getElem?_cons_zero, List.getElem?_cons_succ, Option.some.injEq, Nat.reduceAdd] at ho; subst ho
          obtain ⟨vg, hvg, rfl⟩ := hdep ⟨1, .guard⟩ (by simp) rfl
          simp only [List.getD_cons_zero, List.getD_cons_succ] at hvg
          refine told_wanted (told_yes rfl rfl hvg) ?_
          refine wp_via (fun K hK => ?_)
          go_simp
          exact hK _ _ ⟨_, rfl, rfl, Below.refl _ _⟩
        · simp only [List.getElem?_toArray, List.getElem?_cons_zero, List.getElem?_cons_succ, Option.some.injEq, Nat.reduceAdd] at ho; subst ho
          obtain ⟨vg, hvg, rfl⟩ := hdep ⟨1, .guard⟩ (by simp) rfl
          simp only [List.getD_cons_zero, List.getD_cons_succ] at hvg
          refine told_wanted (told_yes rfl rfl hvg) ?_
          obtain ⟨v0, hv0, rfl⟩ := hdep ⟨2, .data⟩ (by simp) rfl
          simp only [List.getD_cons_zero, List.getD_cons_succ] at hv0
          refine wp_via (fun K hK => ?_)
          go_simp
          exact hK _ _ ⟨_, rfl, rfl, Below.refl _ _⟩
        · simp only [List.getElem?_toArray, List.getElem?_cons_zero, List.getElem?_cons_succ, Option.some.injEq, Nat.reduceAdd] at ho; subst ho
          refine told_wanted rfl ?_
          obtain ⟨v0, hv0, rfl⟩ := hdep ⟨1, .data⟩ (by simp) rfl
          simp only [List.getD_cons_zero, List.getD_cons_succ] at hv0
          obtain ⟨v1, hv1, rfl⟩ := hdep ⟨3, .data⟩ (by simp) rfl
          simp only [List.getD_cons_zero, List.getD_cons_succ] at hv1
          refine wp_via (fun K hK => ?_)
          go_simp
          exact hK _ _ ⟨_, rfl, rfl, Below.refl _ _⟩
        · simp only [List.getElem?_toArray, List.getElem?_cons_zero, List.getElem?_cons_succ, Option.some.injEq, Nat.reduceAdd] at ho; subst ho
          refine told_wanted rfl ?_
          obtain ⟨v0, hv0, rfl⟩ := hdep ⟨4, .data⟩ (by simp) rfl
          simp only [List.getD_cons_zero, List.getD_cons_succ] at hv0
          refine wp_via (fun K hK => ?_)
          go_simp
          exact hK _ _ ⟨_, rfl, rfl, Below.refl _ _⟩
        · simp only [List.getElem?_toArray, List.getElem?_cons_zero, List.getElem?_cons_succ, Option.some.injEq, Nat.reduceAdd] at ho; subst ho
          obtain ⟨vg, hvg, rfl⟩ := hdep ⟨5, .guard⟩ (by simp) rfl
          simp only [List.getD_cons_zero, List.getD_cons_succ] at hvg
          refine told_wanted (told_yes rfl rfl hvg) ?_
          refine wp_load_at 26 (.tmp 11) rfl w7.heap.size 0 (eval_tmp t11) (headCells c) _ (fun j u hu => by rw [Nat.zero_add]; exact cells_of_blk pc j u hu) Tryd.underlying26 rfl (by rw [headinfo, hlc.out]) ?_
          exact ⟨_, rfl, rfl, Below.refl _ _⟩
        · simp only [List.getElem?_toArray, List.getElem?_cons_zero, List.getElem?_cons_succ, Option.some.injEq, Nat.reduceAdd] at ho; subst ho
          obtain ⟨vg, hvg, rfl⟩ := hdep ⟨5, .guard⟩ (by simp) rfl
          simp only [List.getD_cons_zero, List.getD_cons_succ] at hvg
          refine told_wanted (told_yes rfl rfl hvg) ?_
          refine wp_load_at 26 (.tmp 3) rfl w.heap.size 0 (eval_tmp t3) (headCells a) _ (fun j u hu => by rw [Nat.zero_add]; exact cells_of_blk pa j u hu) Tryd.underlying26 rfl (by rw [headinfo, hla.out]) ?_
          exact ⟨_, rfl, rfl, Below.refl _ _⟩
        · simp only [List.getElem?_toArray, List.getElem?_cons_zero, List.getElem?_cons_succ, Option.some.injEq, Nat.reduceAdd] at ho; subst ho
          obtain ⟨vg, hvg, rfl⟩ := hdep ⟨5, .guard⟩ (by simp) rfl
          simp only [List.getD_cons_zero, List.getD_cons_succ] at hvg
          refine told_wanted (told_yes rfl rfl hvg) ?_
          obtain ⟨v0, hv0, rfl⟩ := hdep ⟨6, .data⟩ (by simp) rfl
          simp only [List.getD_cons_zero, List.getD_cons_succ] at hv0
          obtain ⟨v1, hv1, rfl⟩ := hdep ⟨7, .data⟩ (by simp) rfl
          simp only [List.getD_cons_zero, List.getD_cons_succ] at hv1
          refine wp_via (fun K hK => ?_)
          go_simp
          exact hK _ _ ⟨_, rfl, rfl, Below.refl _ _⟩
        · simp only [List.getElem?_toArray, List.getElem?_cons_zero, List.getElem?_cons_succ, Option.some.injEq, Nat.reduceAdd] at ho; subst ho
          refine told_wanted rfl ?_
          obtain ⟨v0, hv0, rfl⟩ := hdep ⟨5, .data⟩ (by simp) rfl
          simp only [List.getD_cons_zero, List.getD_cons_succ] at hv0
          obtain ⟨v1, hv1, rfl⟩ := hdep ⟨8, .data⟩ (by simp) rfl
          simp only [List.getD_cons_zero, List.getD_cons_succ] at hv1
          refine wp_via (fun K hK => ?_)
          go_simp
          exact hK _ _ ⟨_, rfl, rfl, Below.refl _ _⟩
        · simp only [List.getElem?_toArray, List.getElem?_cons_zero, List.getElem?_cons_succ, Option.some.injEq, Nat.reduceAdd] at ho; subst ho
          refine told_wanted rfl ?_
          obtain ⟨v0, hv0, rfl⟩ := hdep ⟨9, .data⟩ (by simp) rfl
          simp only [List.getD_cons_zero, List.getD_cons_succ] at hv0
          refine wp_via (fun K hK => ?_)
          go_simp
          exact hK _ _ ⟨_, rfl, rfl, Below.refl _ _⟩
        · simp only [List.getElem?_toArray, List.getElem?_cons_zero, List.getElem?_cons_succ, Option.some.injEq, Nat.reduceAdd] at ho; subst ho
          obtain ⟨vg, hvg, rfl⟩ := hdep ⟨10, .guard⟩ (by simp) rfl
          simp only [List.getD_cons_zero, List.getD_cons_succ] at hvg
          refine told_wanted (told_yes rfl rfl hvg) ?_
          refine wp_load_at 26 (.tmp 11) rfl w7.heap.size 0 (eval_tmp t11) (headCells c) _ (fun j u hu => by rw [Nat.zero_add]; exact cells_of_blk pc j u hu) Tryd.underlying26 rfl (by rw [headinfo, hlc.out]) ?_
          exact ⟨_, rfl, rfl, Below.refl _ _⟩
        · simp only [List.getElem?_toArray, List.getElem?_cons_zero, List.getElem?_cons_succ, Option.some.injEq, Nat.reduceAdd] at ho; subst ho
          obtain ⟨vg, hvg, rfl⟩ := hdep ⟨10, .guard⟩ (by simp) rfl
          simp only [List.getD_cons_zero, List.getD_cons_succ] at hvg
          refine told_wanted (told_yes rfl rfl hvg) ?_
          obtain ⟨v0, hv0, rfl⟩ := hdep ⟨11, .data⟩ (by simp) rfl
          simp only [List.getD_cons_zero, List.getD_cons_succ] at hv0
          refine wp_via (fun K hK => ?_)
          go_simp
          refine (hEc w').mono ?_
          rintro e w9 ⟨v9, rfl, ho9, hb9⟩
          refine hK _ _ ⟨_, rfl, World.ownsRow_base ho9 (fun _ _ => Nat.zero_le _), hb9⟩
        · simp only [List.getElem?_toArray, List.getElem?_cons_zero, List.getElem?_cons_succ, Option.some.injEq, Nat.reduceAdd] at ho; subst ho
          obtain ⟨vg, hvg, rfl⟩ := hdep ⟨10, .guard⟩ (by simp) rfl
          simp only [List.getD_cons_zero, List.getD_cons_succ] at hvg
          refine told_wanted (told_yes rfl rfl hvg) ?_
          obtain ⟨v0, hv0, hT⟩ := hdep ⟨12, .data⟩ (by simp) rfl
          simp only [List.getD_cons_zero, List.getD_cons_succ] at hv0
          have hc := own_str hT
          refine wp_via (fun K hK => ?_)
          go_simp
          exact hK _ _ ⟨_, rfl, rfl, Below.refl _ _⟩
        · simp only [List.getElem?_toArray, List.getElem?_cons_zero, List.getElem?_cons_succ, Option.some.injEq, Nat.reduceAdd] at ho; subst ho
          obtain ⟨vg, hvg, rfl⟩ := hdep ⟨10, .guard⟩ (by simp) rfl
          simp only [List.getD_cons_zero, List.getD_cons_succ] at hvg
          refine told_wanted (told_yes rfl rfl hvg) ?_
          refine wp_via (fun K hK => ?_)
          go_simp
          exact hK _ _ ⟨_, rfl, rfl, Below.refl _ _⟩
        · simp only [List.getElem?_toArray, List.getElem?_cons_zero, List.getElem?_cons_succ, Option.some.injEq, Nat.reduceAdd] at ho; subst ho
          obtain ⟨vg, hvg, rfl⟩ := hdep ⟨10, .guard⟩ (by simp) rfl
          simp only [List.getD_cons_zero, List.getD_cons_succ] at hvg
          refine told_wanted (told_yes rfl rfl hvg) ?_
          obtain ⟨v0, hv0, rfl⟩ := hdep ⟨14, .data⟩ (by simp) rfl
          simp only [List.getD_cons_zero, List.getD_cons_succ] at hv0
          have hbt := hr.byt (cap := cap) (by omega) hc2
          rw [hTl] at hbt
          have hc := run_strP hbt
          refine wp_via (fun K hK => ?_)
          go_simp
          exact hK _ _ ⟨_, rfl, rfl, Below.refl _ _⟩
        · simp only [List.getElem?_toArray, List.getElem?_cons_zero, List.getElem?_cons_succ, Option.some.injEq, Nat.reduceAdd] at ho; subst ho
          obtain ⟨vg, hvg, rfl⟩ := hdep ⟨10, .guard⟩ (by simp) rfl
          simp only [List.getD_cons_zero, List.getD_cons_succ] at hvg
          refine told_wanted (told_yes rfl rfl hvg) ?_
          obtain ⟨v0, hv0, rfl⟩ := hdep ⟨13, .data⟩ (by simp) rfl
          simp only [List.getD_cons_zero, List.getD_cons_succ] at hv0
          obtain ⟨v1, hv1, rfl⟩ := hdep ⟨15, .data⟩ (by simp) rfl
          simp only [List.getD_cons_zero, List.getD_cons_succ] at hv1
          refine wp_via (fun K hK => ?_)
          go_simp
          exact hK _ _ ⟨_, rfl, rfl, Below.refl _ _⟩
        · simp only [List.getElem?_toArray, List.getElem?_cons_zero, List.getElem?_cons_succ, Option.some.injEq, Nat.reduceAdd] at ho; subst ho
          refine told_wanted rfl ?_
          obtain ⟨v0, hv0, rfl⟩ := hdep ⟨10, .data⟩ (by simp) rfl
          simp only [List.getD_cons_zero, List.getD_cons_succ] at hv0
          obtain ⟨v1, hv1, rfl⟩ := hdep ⟨16, .data⟩ (by simp) rfl
          simp only [List.getD_cons_zero, List.getD_cons_succ] at hv1
          refine wp_via (fun K hK => ?_)
          go_simp
          exact hK _ _ ⟨_, rfl, rfl, Below.refl _ _⟩
        · simp only [List.getElem?_toArray, List.getElem?_cons_zero, List.getElem?_cons_succ, Option.some.injEq, Nat.reduceAdd] at ho; subst ho
          refine told_wanted rfl ?_
          obtain ⟨v0, hv0, rfl⟩ := hdep ⟨17, .data⟩ (by simp) rfl
          simp only [List.getD_cons_zero, List.getD_cons_succ] at hv0
          refine wp_via (fun K hK => ?_)
          go_simp
          exact hK _ _ ⟨_, rfl, rfl, Below.refl _ _⟩
        · exact absurd ho (by simp)
      · intro a' w9 hF hB hall
        obtain ⟨v6, h6, rfl⟩ := hall 18 (by decide)
        simp only [List.getD_cons_zero, List.getD_cons_succ] at h6
        have e6 := told_eval h6
        have hb09 := hb08.trans (hB.mono hb08.size)
        rw [hF.lit]
        simp only [List.foldl_cons, List.foldl_nil, List.setIfInBounds_toArray, List.set_cons_zero, List.set_cons_succ, e6]
        clear e6 h6 hall hB pa8 pc8 hr8 hb08
        go_wp2_with fail
        go_ret
        exact ⟨rfl, hb09⟩
    · have hq : ∀ W : World, (binOp .eql 26 (.agg (headCells a).toArray) (.agg (headCells b).toArray)).run Tryd.prog W = .ok (.bool false) W := fun W => by
        rw [run_eql_head W a b ha hb]; simp [hab]
      have hs : ((strB (encHd a)).toList == (strB (encHd b)).toList) = false := by
        rw [beqB]; exact decide_eq_false (fun h => hab (encHd_inj ha hb h))
      have cla := cells_grew pa3
      have clb := cells_grew pb3
      refine wp_region_quiet_below (by kernel_rfl) (by kernel_rfl) ?_
      iterate 3 quiet_step (fail)
      refine calm_load rfl 26 (.tmp 3) rfl w.heap.size 0 rfl (headCells a) _ cla Tryd.underlying26 rfl (by rw [headinfo, hla.out]) ?_
      simp only [Act.put, List.setIfInBounds_toArray, List.set_cons_zero, List.set_cons_succ]
      refine calm_load rfl 26 (.tmp 4) rfl (w.heap.size + 1) 0 rfl (headCells b) _ clb Tryd.underlying26 rfl (by rw [headinfo, hlb.out]) ?_
      simp only [Act.put, List.setIfInBounds_toArray, List.set_cons_zero, List.set_cons_succ]
      iterate 3 quiet_step (fail)
      refine calm_load rfl 26 (.tmp 3) rfl w.heap.size 0 rfl (headCells a) _ cla Tryd.underlying26 rfl (by rw [headinfo, hla.out]) ?_
      simp only [Act.put, List.setIfInBounds_toArray, List.set_cons_zero, List.set_cons_succ]
      refine calm_load rfl 26 (.tmp 4) rfl (w.heap.size + 1) 0 rfl (headCells b) _ clb Tryd.underlying26 rfl (by rw [headinfo, hlb.out]) ?_
      simp only [Act.put, List.setIfInBounds_toArray, List.set_cons_zero, List.set_cons_succ]
      iterate 2 quiet_step (fail)
      iterate 5 (refine calm_skip rfl ?_; simp only [Act.put, List.setIfInBounds_toArray, List.set_cons_zero, List.set_cons_succ])
      iterate 7 quiet_step (fail)
      refine wpQuiet_nil ?_
      intro _ hw'
      obtain ⟨⟨dq, osq⟩, hw''⟩ := hw'
      subst hw''
      have hx4 := below_regrown w3 dq osq
      generalize grow (redrawn w3 dq) osq = w4 at *
      have hb04 := hb03.trans (hx4.mono hb03.size)
      have pa4 := pa3.below hx4 pa3.lt
      clear hq hs cla clb hx4 pa3 pb3 hb03
      obtain ⟨cap, w5, hcv, hc1, hc2, hb5, hr5⟩ := str_bytes (encHd a) w4 (by rw [encHd_length ha]; omega)
      rw [encHd_length ha] at hcv hc1
      have hb05 := hb04.trans (hb5.mono hb04.size)
      have pa5 := pa4.below hb5 pa4.lt
      have hj : m % 640 / 8 < 80 := by omega
      obtain ⟨d0, f0⟩ := hr5.2 (m % 640 / 8) (by rw [encHd_length ha]; exact hj)
      generalize hx0 : (encHd a).getD (m % 640 / 8) 0 = x at *
      have hx0' := Lib.hid hx0
      unfold bv at d0
      have hr5' := Lib.hid hr5
      have hb5' := Lib.hid hb5
      have hlt4 := pa4.lt
      clear hx0 hr5 hb5 pa4
      go_wp2_with fail
      obtain ⟨y, hy, hxy⟩ := flip_bit x (m % 8) (by omega)
      rw [hxy]
      obtain ⟨T, hT⟩ : ∃ T, T = (encHd a).set (m % 640 / 8) y := ⟨_, rfl⟩
      have hTl : T.length = 80 := by rw [hT, List.length_set, encHd_length ha]
      have hTn : T ≠ encHd a := fun e => hy (by
        have h1 : T.getD (m % 640 / 8) 0 = y := by rw [hT, List.getD_eq_getElem?_getD, List.getElem?_set_self (by rw [encHd_length ha]; exact hj)]; rfl
        rw [e, hx0'.out] at h1
        exact h1.symm)
      have hr6 := hr5'.out.set_ (m % 640 / 8) y
      rw [← hT] at hr6
      unfold bv at hr6
      have hb6 : Below w.heap.size w (w5.setCell ⟨w4.heap.size, m % 640 / 8, none⟩ (.int .u8 (y.toNat : Int))) := hb05.setCell (p := ⟨w4.heap.size, m % 640 / 8, none⟩) hb04.size _
      have pa6 := pa5.far (p := ⟨w4.heap.size, m % 640 / 8, none⟩) (by simp; omega) (.int .u8 (y.toNat : Int))
      generalize w5.setCell ⟨w4.heap.size, m % 640 / 8, none⟩ (.int .u8 (y.toNat : Int)) = w6 at *
      have hbt6 := hr6.byt (cap := cap) (by omega) hc2
      rw [hTl] at hbt6
      clear hxy d0 f0 hcv hr5' hb5' hb05 pa5 hy hx0' hT
      refine (decodeHeader_any _ T w6.heap.size w6 (Nat.le_refl _) hbt6 (by omega)).mono ?_
      rintro e w7 ⟨hb7, ⟨-, rfl⟩ | ⟨hl7, -⟩⟩
      rotate_left
      · exact absurd hTl hl7
      have hce : encHd (rHead T) = T := encHd_rHead T hTl
      have hck : HeadOk (rHead T) := rHead_ok T
      have hca : rHead T ≠ a := fun e => hTn (by rw [← hce, e])
      have hb07 := hb6.trans (hb7.mono hb6.size)
      have pa7 := pa6.below hb7 pa6.lt
      have hr7 := hr6.below hb7
      generalize rHead T = c at *
      have hlc := Lib.hid (headCells_length hck)
      have hone := headCells_one c
      have hEc : ∀ W : World, Calls Tryd.prog 12 #[.agg (headCells c).toArray] W fun e w' => ∃ v', e = .returned v' ∧ OwnB w' W.heap.size 5 v' T ∧ Below W.heap.size W w' := fun W => by have := encodeHeader_any c W hck; rwa [hce] at this
      have hqn : ∀ W : World, (binOp .neq 26 (.agg (headCells c).toArray) (.agg (headCells a).toArray)).run Tryd.prog W = .ok (.bool true) W := fun W => by
        rw [run_neq_head W c a hck ha]; simp [hca]
      clear hb6 hb7 pa6 hr6 hbt6 hck hca hce hTn
      have tok1 : True := trivial
      go_wp2_with (have _t := tok1; refine wpList_store_new rfl 26 (.tmp 11) (.tmp 70) rfl (headCells c).toArray rfl rfl _ _ (by rw [headinfo]; simp [hlc.out]) (by simp [hlc.out]) hone ?_; clear tok1)
      have hx8 : Below w7.heap.size w7 (w7.alloc (.cells (headCells c).toArray 26)) := (Below.refl _ _).alloc (Nat.le_refl _) _
      have pc8 : Blk (w7.alloc (.cells (headCells c).toArray 26)) w7.heap.size 26 (headCells c).toArray := Blk.new w7 _ _
      have hb08 := hb07.trans (hx8.mono hb07.size)
      have pa8 := pa7.below hx8 pa7.lt
      have hr8 := hr7.below hx8
      generalize w7.alloc (.cells (headCells c).toArray 26) = w8 at *
      clear hx8 hb07 pa7 hr7
      refine wp_region_told (by kernel_rfl) (by kernel_rfl) [72, 73, 74, 75, 76, 77, 78, 79, 80, 81, 82, 83, 84, 85, 86, 87, 88, 89, 6] rfl (by decide) 90 rfl (by decide)
        (bitsE (headCells c).toArray (headCells a).toArray T (.slice (some ⟨w4.heap.size, 0, none⟩) 80 cap)) (bitsE_stands _ _ _ _) ?_ ?_
      · intro i o ho a' w' hF hB hdep
        have pc := pc8.below hB pc8.lt
        have pa := pa8.below hB pa8.lt
        have hr := hr8.below hB
        have t3 : a'.tmps[3]? = some (.pointer (some ⟨w.heap.size, 0, none⟩)) := (hF.2.2 3 (by decide)).trans rfl
        have t7 : a'.tmps[7]? = some (.bool true) := (hF.2.2 7 (by decide)).trans rfl
        have t10 : a'.tmps[10]? = some (.slice (some ⟨w4.heap.size, 0, none⟩) 80 cap) := (hF.2.2 10 (by decide)).trans rfl
        have t11 : a'.tmps[11]? = some (.pointer (some ⟨w7.heap.size, 0, none⟩)) := (hF.2.2 11 (by decide)).trans rfl
        have t12 : a'.tmps[12]? = some (.int .i64 0) := (hF.2.2 12 (by decide)).trans rfl
        rcases i with _ | _ | _ | _ | _ | _ | _ | _ | _ | _ | _ | _ | _ | _ | _ | _ | _ | _ | _ | i
        · simp only [List.getElem?_toArray, List.getElem?_cons_zero, Option.some.injEq] at ho; subst ho
          refine told_wanted rfl ?_
          refine wp_via (fun K hK => ?_)
          go_simp
          exact hK _ _ ⟨_, rfl, rfl, Below.refl _ _⟩
        · simp only [List.getElem?_toArray, List.getElem?_cons_zero, List.getElem?_cons_succ, Option.some.injEq, Nat.reduceAdd] at ho; subst ho
          refine told_wanted rfl ?_
          obtain ⟨v0, hv0, rfl⟩ := hdep ⟨0, .data⟩ (by simp) rfl
          simp only [List.getD_cons_zero] at hv0
          refine wp_via (fun K hK => ?_)
          go_simp
          exact hK _ _ ⟨_, rfl, rfl, Below.refl _ _⟩
        · simp only [List.getElem?_toArray, List.getElem?_cons_zero, List.getElem?_cons_succ, Option.some.injEq, Nat.reduceAdd] at ho; subst ho
          obtain ⟨vg, hvg, rfl⟩ := hdep ⟨1, .guard⟩ (by simp) rfl
          simp only [List.getD_cons_zero, List.getD_cons_succ] at hvg
          refine told_wanted (told_yes rfl rfl hvg) ?_
          refine wp_via (fun K hK => ?_)
          go_simp
          exact hK _ _ ⟨_, rfl, rfl, Below.refl _ _⟩
        · simp only [List.getElem?_toArray, List.getElem?_cons_zero, List.getElem?_cons_succ, Option.some.injEq, Nat.reduceAdd] at ho; subst ho
          obtain ⟨vg, hvg, rfl⟩ := hdep ⟨1, .guard⟩ (by simp) rfl
          simp only [List.getD_cons_zero, List.getD_cons_succ] at hvg
          refine told_wanted (told_yes rfl rfl hvg) ?_
          obtain ⟨v0, hv0, rfl⟩ := hdep ⟨2, .data⟩ (by simp) rfl
          simp only [List.getD_cons_zero, List.getD_cons_succ] at hv0
          refine wp_via (fun K hK => ?_)
          go_simp
          exact hK _ _ ⟨_, rfl, rfl, Below.refl _ _⟩
        · simp only [List.getElem?_toArray, List.getElem?_cons_zero, List.getElem?_cons_succ, Option.some.injEq, Nat.reduceAdd] at ho; subst ho
          refine told_wanted rfl ?_
          obtain ⟨v0, hv0, rfl⟩ := hdep ⟨1, .data⟩ (by simp) rfl
          simp only [List.getD_cons_zero, List.getD_cons_succ] at hv0
          obtain ⟨v1, hv1, rfl⟩ := hdep ⟨3, .data⟩ (by simp) rfl
          simp only [List.getD_cons_zero, List.getD_cons_succ] at hv1
          refine wp_via (fun K hK => ?_)
          go_simp
          exact hK _ _ ⟨_, rfl, rfl, Below.refl _ _⟩
        · simp only [List.getElem?_toArray, List.getElem?_cons_zero, List.getElem?_cons_succ, Option.some.injEq, Nat.reduceAdd] at ho; subst ho
          refine told_wanted rfl ?_
          obtain ⟨v0, hv0, rfl⟩ := hdep ⟨4, .data⟩ (by simp) rfl
          simp only [List.getD_cons_zero, List.getD_cons_succ] at hv0
          refine wp_via (fun K hK => ?_)
          go_simp
          exact hK _ _ ⟨_, rfl, rfl, Below.refl _ _⟩
        · simp only [List.getElem?_toArray, List.getElem?_cons_zero, List.getElem?_cons_succ, Option.some.injEq, Nat.reduceAdd] at ho; subst ho
          obtain ⟨vg, hvg, rfl⟩ := hdep ⟨5, .guard⟩ (by simp) rfl
          simp only [List.getD_cons_zero, List.getD_cons_succ] at hvg
          refine told_wanted (told_yes rfl rfl hvg) ?_
          refine wp_load_at 26 (.tmp 11) rfl w7.heap.size 0 (eval_tmp t11) (headCells c) _ (fun j u hu => by rw [Nat.zero_add]; exact cells_of_blk pc j u hu) Tryd.underlying26 rfl (by rw [headinfo, hlc.out]) ?_
          exact ⟨_, rfl, rfl, Below.refl _ _⟩
        · simp only [List.getElem?_toArray, List.getElem?_cons_zero, List.getElem?_cons_succ, Option.some.injEq, Nat.reduceAdd] at ho; subst ho
          obtain ⟨vg, hvg, rfl⟩ := hdep ⟨5, .guard⟩ (by simp) rfl
          simp only [List.getD_cons_zero, List.getD_cons_succ] at hvg
          refine told_wanted (told_yes rfl rfl hvg) ?_
          refine wp_load_at 26 (.tmp 3) rfl w.heap.size 0 (eval_tmp t3) (headCells a) _ (fun j u hu => by rw [Nat.zero_add]; exact cells_of_blk pa j u hu) Tryd.underlying26 rfl (by rw [headinfo, hla.out]) ?_
          exact ⟨_, rfl, rfl, Below.refl _ _⟩
        · simp only [List.getElem?_toArray, List.getElem?_cons_zero, List.getElem?_cons_succ, Option.some.injEq, Nat.reduceAdd] at ho; subst ho
          obtain ⟨vg, hvg, rfl⟩ := hdep ⟨5, .guard⟩ (by simp) rfl
          simp only [List.getD_cons_zero, List.getD_cons_succ] at hvg
          refine told_wanted (told_yes rfl rfl hvg) ?_
          obtain ⟨v0, hv0, rfl⟩ := hdep ⟨6, .data⟩ (by simp) rfl
          simp only [List.getD_cons_zero, List.getD_cons_succ] at hv0
          obtain ⟨v1, hv1, rfl⟩ := hdep ⟨7, .data⟩ (by simp) rfl
          simp only [List.getD_cons_zero, List.getD_cons_succ] at hv1
          refine wp_via (fun K hK => ?_)
          go_simp
          exact hK _ _ ⟨_, rfl, rfl, Below.refl _ _⟩
        · simp only [List.getElem?_toArray, List.getElem?_cons_zero, List.getElem?_cons_succ, Option.some.injEq, Nat.reduceAdd] at ho; subst ho
          refine told_wanted rfl ?_
          obtain ⟨v0, hv0, rfl⟩ := hdep ⟨5, .data⟩ (by simp) rfl
          simp only [List.getD_cons_zero, List.getD_cons_succ] at hv0
          obtain ⟨v1, hv1, rfl⟩ := hdep ⟨8, .data⟩ (by simp) rfl
          simp only [List.getD_cons_zero, List.getD_cons_succ] at hv1
          refine wp_via (fun K hK => ?_)
          go_simp
          exact hK _ _ ⟨_, rfl, rfl, Below.refl _ _⟩
        · simp only [List.getElem?_toArray, List.getElem?_cons_zero, List.getElem?_cons_succ, Option.some.injEq, Nat.reduceAdd] at ho; subst ho
          refine told_wanted rfl ?_
          obtain ⟨v0, hv0, rfl⟩ := hdep ⟨9, .data⟩ (by simp) rfl
          simp only [List.getD_cons_zero, List.getD_cons_succ] at hv0
          refine wp_via (fun K hK => ?_)
          go_simp
          exact hK _ _ ⟨_, rfl, rfl, Below.refl _ _⟩
        · simp only [List.getElem?_toArray, List.getElem?_cons_zero, List.getElem?_cons_succ, Option.some.injEq, Nat.reduceAdd] at ho; subst ho
          obtain ⟨vg, hvg, rfl⟩ := hdep ⟨10, .guard⟩ (by simp) rfl
          simp only [List.getD_cons_zero, List.getD_cons_succ] at hvg
          refine told_wanted (told_yes rfl rfl hvg) ?_
          refine wp_load_at 26 (.tmp 11) rfl w7.heap.size 0 (eval_tmp t11) (headCells c) _ (fun j u hu => by rw [Nat.zero_add]; exact cells_of_blk pc j u hu) Tryd.underlying26 rfl (by rw [headinfo, hlc.out]) ?_
          exact ⟨_, rfl, rfl, Below.refl _ _⟩
        · simp only [List.getElem?_toArray, List.getElem?_cons_zero, List.getElem?_cons_succ, Option.some.injEq, Nat.reduceAdd] at ho; subst ho
          obtain ⟨vg, hvg, rfl⟩ := hdep ⟨10, .guard⟩ (by simp) rfl
          simp only [List.getD_cons_zero, List.getD_cons_succ] at hvg
          refine told_wanted (told_yes rfl rfl hvg) ?_
          obtain ⟨v0, hv0, rfl⟩ := hdep ⟨11, .data⟩ (by simp) rfl
          simp only [List.getD_cons_zero, List.getD_cons_succ] at hv0
          refine wp_via (fun K hK => ?_)
          go_simp
          refine (hEc w').mono ?_
          rintro e w9 ⟨v9, rfl, ho9, hb9⟩
          refine hK _ _ ⟨_, rfl, World.ownsRow_base ho9 (fun _ _ => Nat.zero_le _), hb9⟩
        · simp only [List.getElem?_toArray, List.getElem?_cons_zero, List.getElem?_cons_succ, Option.some.injEq, Nat.reduceAdd] at ho; subst ho
          obtain ⟨vg, hvg, rfl⟩ := hdep ⟨10, .guard⟩ (by simp) rfl
          simp only [List.getD_cons_zero, List.getD_cons_succ] at hvg
          refine told_wanted (told_yes rfl rfl hvg) ?_
          obtain ⟨v0, hv0, hT⟩ := hdep ⟨12, .data⟩ (by simp) rfl
          simp only [List.getD_cons_zero, List.getD_cons_succ] at hv0
          have hc := own_str hT
          refine wp_via (fun K hK => ?_)
          go_simp
          exact hK _ _ ⟨_, rfl, rfl, Below.refl _ _⟩
        · simp only [List.getElem?_toArray, List.getElem?_cons_zero, List.getElem?_cons_succ, Option.some.injEq, Nat.reduceAdd] at ho; subst ho
          obtain ⟨vg, hvg, rfl⟩ := hdep ⟨10, .guard⟩ (by simp) rfl
          simp only [List.getD_cons_zero, List.getD_cons_succ] at hvg
          refine told_wanted (told_yes rfl rfl hvg) ?_
          refine wp_via (fun K hK => ?_)
          go_simp
          exact hK _ _ ⟨_, rfl, rfl, Below.refl _ _⟩
        · simp only [List.getElem?_toArray, List.getElem?_cons_zero, List.getElem?_cons_succ, Option.some.injEq, Nat.reduceAdd] at ho; subst ho
          obtain ⟨vg, hvg, rfl⟩ := hdep ⟨10, .guard⟩ (by simp) rfl
          simp only [List.getD_cons_zero, List.getD_cons_succ] at hvg
          refine told_wanted (told_yes rfl rfl hvg) ?_
          obtain ⟨v0, hv0, rfl⟩ := hdep ⟨14, .data⟩ (by simp) rfl
          simp only [List.getD_cons_zero, List.getD_cons_succ] at hv0
          have hbt := hr.byt (cap := cap) (by omega) hc2
          rw [hTl] at hbt
          have hc := run_strP hbt
          refine wp_via (fun K hK => ?_)
          go_simp
          exact hK _ _ ⟨_, rfl, rfl, Below.refl _ _⟩
        · simp only [List.getElem?_toArray, List.getElem?_cons_zero, List.getElem?_cons_succ, Option.some.injEq, Nat.reduceAdd] at ho; subst ho
          obtain ⟨vg, hvg, rfl⟩ := hdep ⟨10, .guard⟩ (by simp) rfl
          simp only [List.getD_cons_zero, List.getD_cons_succ] at hvg
          refine told_wanted (told_yes rfl rfl hvg) ?_
          obtain ⟨v0, hv0, rfl⟩ := hdep ⟨13, .data⟩ (by simp) rfl
          simp only [List.getD_cons_zero, List.getD_cons_succ] at hv0
          obtain ⟨v1, hv1, rfl⟩ := hdep ⟨15, .data⟩ (by simp) rfl
          simp only [List.getD_cons_zero, List.getD_cons_succ] at hv1
          refine wp_via (fun K hK => ?_)
          go_simp
          exact hK _ _ ⟨_, rfl, rfl, Below.refl _ _⟩
        · simp only [List.getElem?_toArray, List.getElem?_cons_zero, List.getElem?_cons_succ, Option.some.injEq, Nat.reduceAdd] at ho; subst ho
          refine told_wanted rfl ?_
          obtain ⟨v0, hv0, rfl⟩ := hdep ⟨10, .data⟩ (by simp) rfl
          simp only [List.getD_cons_zero, List.getD_cons_succ] at hv0
          obtain ⟨v1, hv1, rfl⟩ := hdep ⟨16, .data⟩ (by simp) rfl
          simp only [List.getD_cons_zero, List.getD_cons_succ] at hv1
          refine wp_via (fun K hK => ?_)
          go_simp
          exact hK _ _ ⟨_, rfl, rfl, Below.refl _ _⟩
        · simp only [List.getElem?_toArray, List.getElem?_cons_zero, List.getElem?_cons_succ, Option.some.injEq, Nat.reduceAdd] at ho; subst ho
          refine told_wanted rfl ?_
          obtain ⟨v0, hv0, rfl⟩ := hdep ⟨17, .data⟩ (by simp) rfl
          simp only [List.getD_cons_zero, List.getD_cons_succ] at hv0
          refine wp_via (fun K hK => ?_)
          go_simp
          exact hK _ _ ⟨_, rfl, rfl, Below.refl _ _⟩
        · exact absurd ho (by simp)
      · intro a' w9 hF hB hall
        obtain ⟨v6, h6, rfl⟩ := hall 18 (by decide)
        simp only [List.getD_cons_zero, List.getD_cons_succ] at h6
        have e6 := told_eval h6
        have hb09 := hb08.trans (hB.mono hb08.size)
        rw [hF.lit]
        simp only [List.foldl_cons, List.foldl_nil, List.setIfInBounds_toArray, List.set_cons_zero, List.set_cons_succ, e6]
        clear e6 h6 hall hB pa8 pc8 hr8 hb08
        go_wp2_with fail
        go_ret
        exact ⟨rfl, hb09⟩
end Go.Proofs.YtcilabemglbhbaaDoor
