/- sha's mix: a block is mixed into the state. -/
import Derived.Test.YtcilabemglbhbaaGreatDoorK5
import Derived.Deep.CutRange
import Derived.Deep.CutBlock
import Derived.Deep.RegionHeld3
import Derived.Test.YtcilabemglbhbaaGreatDoorK10
namespace Go.Proofs.YtcilabemglbhbaaGreatDoor
open Go Go.RowKit Go.Pur

theorem drop_byt {w : World} {B b o n c : Nat} {l : Bytes} (h : Byt w B (.slice (some ⟨b, o, none⟩) n c) l) (hn : n = l.length) (k : Nat) (hk : k < n) : Byt w B (.slice (some ⟨b, o + k, none⟩) (n - k) (c - k)) (l.drop k) := by
  obtain ⟨A, c', e, h1, h2, hr⟩ := h
  injection e with e1 e2 e3
  subst e1; subst e3; subst hn
  have hcut := hr.cut (k := k) (cap := c) (by omega) h1
  rw [if_neg (by omega)] at hcut
  have ead : (⟨b, o, none⟩ : Addr).add (k * 1) = ⟨b, o + k, none⟩ := by unfold Addr.add; split <;> simp_all
  simp only [Option.map_some, ead] at hcut
  refine ⟨_, c - k, by rw [List.length_drop], by rw [List.length_drop]; omega, by omega, ?_⟩
  rw [List.length_drop, bvs, List.map_drop]
  simpa [bvs] using hcut

def sh (k : Int) : Nat := (bits .and .u64 (IntKind.u64.wrap k) 31).toNat
theorem rot_k (x k : Int) (h : 0 < sh k ∧ sh k < 32) (w : World) :
    Calls Tryz.prog 102 #[.int .u32 x, .int .i64 k] w fun e w' => e = .returned (.int .u32 (rotl (sh k) x)) ∧ w' = w :=
  rot_any x k (sh k) (by unfold sh at h ⊢; omega) h.1 h.2 w
theorem cells8 {W : World} {g : Nat} {t : TypeId} {a b c d e f x y : Int} (h : Blk W g t (S8.cells ⟨a, b, c, d, e, f, x, y⟩).toArray) : W.cell? ⟨g, 0, none⟩ = some (.int .u32 a) ∧ W.cell? ⟨g, 1, none⟩ = some (.int .u32 b) ∧ W.cell? ⟨g, 2, none⟩ = some (.int .u32 c) ∧ W.cell? ⟨g, 3, none⟩ = some (.int .u32 d) ∧
    W.cell? ⟨g, 4, none⟩ = some (.int .u32 e) ∧ W.cell? ⟨g, 5, none⟩ = some (.int .u32 f) ∧ W.cell? ⟨g, 6, none⟩ = some (.int .u32 x) ∧ W.cell? ⟨g, 7, none⟩ = some (.int .u32 y) :=
  ⟨h.cell 0, h.cell 1, h.cell 2, h.cell 3, h.cell 4, h.cell 5, h.cell 6, h.cell 7⟩
/-- a round's two sums. -/
def oneOf (s : S8) (y x : Int) : Int :=
  (s.h + bits .xor .u32 (bits .xor .u32 (rotl (sh (-6)) s.e) (rotl (sh (-11)) s.e)) (rotl (sh (-25)) s.e) + bits .xor .u32 (bits .and .u32 s.e s.f) (bits .and .u32 (bits .xor .u32 IntKind.u32.max s.e) s.g) + y + x) % 4294967296
def twoOf (s : S8) : Int :=
  (bits .xor .u32 (bits .xor .u32 (rotl (sh (-2)) s.a) (rotl (sh (-13)) s.a)) (rotl (sh (-22)) s.a) + bits .xor .u32 (bits .xor .u32 (bits .and .u32 s.a s.b) (bits .and .u32 s.a s.c)) (bits .and .u32 s.b s.c)) % 4294967296
def rnd (s : S8) (y x : Int) : S8 := ⟨(oneOf s y x + twoOf s) % 4294967296, s.a, s.b, s.c, (s.d + oneOf s y x) % 4294967296, s.e, s.f, s.g⟩
/-- the state when k rounds are done, over the words ws. -/
def rnds (ws : List Int) (s : S8) : Nat → S8
  | 0 => s
  | k + 1 => rnd (rnds ws s k) (cubeL.getD k 0) (ws.getD k 0)
def S8.get (s : S8) : Nat → Int
  | 0 => s.a | 1 => s.b | 2 => s.c | 3 => s.d | 4 => s.e | 5 => s.f | 6 => s.g | _ => s.h
/-- the first k words are added. -/
def addS (s t : S8) (k : Nat) : S8 := ⟨if 0 < k then (s.a + t.a) % 4294967296 else s.a, if 1 < k then (s.b + t.b) % 4294967296 else s.b, if 2 < k then (s.c + t.c) % 4294967296 else s.c, if 3 < k then (s.d + t.d) % 4294967296 else s.d,
  if 4 < k then (s.e + t.e) % 4294967296 else s.e, if 5 < k then (s.f + t.f) % 4294967296 else s.f, if 6 < k then (s.g + t.g) % 4294967296 else s.g, if 7 < k then (s.h + t.h) % 4294967296 else s.h⟩
theorem get_cell (s : S8) (tl : List Value) (k : Nat) (h : k < 8) : (s.cells ++ tl).toArray[k]? = some (.int .u32 (s.get k)) := by
  rcases k with _ | _ | _ | _ | _ | _ | _ | _ | k
  all_goals first | rfl | omega
theorem addS_get (s t : S8) (k : Nat) (h : k < 8) : (addS s t k).get k = s.get k := by
  rcases k with _ | _ | _ | _ | _ | _ | _ | _ | k
  all_goals first | rfl | omega
theorem addS_set (s t : S8) (tl : List Value) (k : Nat) (h : k < 8) : ((addS s t k).cells ++ tl).toArray.setIfInBounds k (.int .u32 ((s.get k + t.get k) % 4294967296)) = ((addS s t (k + 1)).cells ++ tl).toArray := by
  rcases k with _ | _ | _ | _ | _ | _ | _ | _ | k
  all_goals first | rfl | omega | simp [addS, S8.cells, S8.get]
/-- a block, mixed into the state. -/
def compress (s : S8) (l : Bytes) : S8 := addS s (rnds (spread l 64) s 64) 8
set_option maxRecDepth 100000 in
set_option maxHeartbeats 3200000 in
theorem mix_any (p : Nat) (s : S8) (rv mv : Value) (v : Value) (l : Bytes) (B : Nat) (w : World) (hl : l.length = 64) (h : Byt w B v l) (hB : B ≤ w.heap.size) (hp : Blk w p 156 (s.cells ++ [rv, mv]).toArray) :
    Calls Tryz.prog 92 #[.pointer (some ⟨p, 0, none⟩), v] w fun e w' => e = .returned (.tuple #[]) ∧ Blk w' p 156 ((compress s l).cells ++ [rv, mv]).toArray ∧ Upd p none w w' none := by
  obtain ⟨b, o, c, rfl, hbB, hc1, hc2, -⟩ := byt_at h (by omega)
  rw [hl] at hc1 h ⊢
  have hlh := Lib.hid hl
  clear hl
  go_enter Tryz.func92, Tryz.ntmps92
  go_wp2_with fail
  go_loopw [16] (fun i wr => ∃ k : Nat, k ≤ 64 ∧ i = .int .i64 (k : Int) ∧ Blk wr w.heap.size 169 (padW (spread l k) 64) ∧ Below w.heap.size w wr) (fun i _ => 64 - (intOf i).toNat)
  case atStart => exact ⟨0, by omega, rfl, Blk.new w _ _, (Below.refl _ _).alloc (Nat.le_refl _) _⟩
  case round =>
    obtain ⟨k, hk, rfl, hbk, hb⟩ := hrel
    have hsl := spread_length l k
    by_cases hlt : k < 64
    · have hk0 : (padW (spread l k) 64)[k]? = some (u32v 0) := padW_ge (by omega) hlt
      have hset := fun x => padW_set (ws := spread l k) (n := 64) (by omega) x
      rw [hsl] at hset
      by_cases h16 : k < 16
      · have hw := drop_byt (h.below (hb.mono hB)) hlh.out.symm (k * 4) (by omega)
        have hnx : nextW l (spread l k) k = wordOf (l.drop (k * 4)) := by simp [nextW, h16]
        have hnx' := Lib.hid hnx
        have hset' := Lib.hid hset
        have e1 : ¬ (c = k * 4) := by omega
        have hkc := (hbk.cell k).trans hk0
        have hkf := hbk.frozen k
        have hd4 : 4 ≤ (l.drop (k * 4)).length := by rw [List.length_drop, hlh.out]; omega
        unfold u32v at hkc
        clear hnx hset hsl hk0
        go_wp2_with (go_at_call 101; refine (word_any _ (l.drop (k * 4)) B wr hd4 (by exact hw)).mono ?_; rintro e w' ⟨rfl, rfl⟩)
        go_round
        case rel => exact ⟨k + 1, by omega, by go_num, by rw [spread, ← hset'.out, hnx'.out]; exact hbk.set_ k _, hb.setCell (p := ⟨w.heap.size, k, none⟩) (Nat.le_refl _) _⟩
        case measure => simp [intOf]; omega
      · have hx := padW_lt (ws := spread l k) (n := 64) (j := k - 15) (by omega)
        have hy := padW_lt (ws := spread l k) (n := 64) (j := k - 2) (by omega)
        have hz := padW_lt (ws := spread l k) (n := 64) (j := k - 16) (by omega)
        have ht := padW_lt (ws := spread l k) (n := 64) (j := k - 7) (by omega)
        have hnx : nextW l (spread l k) k = ((spread l k).getD (k - 16) 0 + (spread l k).getD (k - 7) 0 + sg0 ((spread l k).getD (k - 15) 0) + sg1 ((spread l k).getD (k - 2) 0)) % 4294967296 := by simp only [nextW, h16, if_false]
        generalize (spread l k).getD (k - 15) 0 = x at *
        generalize (spread l k).getD (k - 2) 0 = y at *
        generalize (spread l k).getD (k - 16) 0 = z at *
        generalize (spread l k).getD (k - 7) 0 = t at *
        have hnx' := Lib.hid hnx
        have hset' := Lib.hid hset
        have hx' := (hbk.cell _).trans hx
        have hy' := (hbk.cell _).trans hy
        have n1 : ((k : Int) - 15).toNat = k - 15 := by omega
        have n2 : ((k : Int) - 2).toNat = k - 2 := by omega
        have n3 : ((k : Int) - 16).toNat = k - 16 := by omega
        have n4 : ((k : Int) - 7).toNat = k - 7 := by omega
        have m3 : IntKind.i64.wrap ((k : Int) - 16) = (k : Int) - 16 := by rw [IntKind.wrap_i64]; omega
        have m4 : IntKind.i64.wrap ((k : Int) - 7) = (k : Int) - 7 := by rw [IntKind.wrap_i64]; omega
        have hxh := Lib.hid hx
        have hyh := Lib.hid hy
        have hzh := Lib.hid hz
        have hth := Lib.hid ht
        have hk0h := Lib.hid hk0
        unfold u32v at hx' hy'
        clear hx hy hz ht hk0 hnx hset hsl
        go_wp2_with fail
        go_quiet (fail)
        go_wp2_with fail
        refine wp_region_tail 28 (by kernel_rfl) (by kernel_rfl) ?_
        intro W7 hW7
        simp only [List.take_succ_cons, List.take_zero, List.drop_succ_cons, List.drop_zero]
        have hbk7 : Blk W7 w.heap.size 169 (padW (spread l k) 64) := by rw [hW7]; exact (hbk.drewN nq).drew
        have hb7 : Below w.heap.size w W7 := by rw [hW7]; exact ⟨hb.os, hb.tape, hb.output, hb.size, hb.block⟩
        have hz7 := (hbk7.cell _).trans hzh.out
        have ht7 := (hbk7.cell _).trans hth.out
        have hkc7 := (hbk7.cell k).trans hk0h.out
        have hkf7 := hbk7.frozen k
        have l3 : (k : Int) - 16 < 64 := by omega
        have l4 : (k : Int) - 7 < 64 := by omega
        have l5 : (7 : Int) ≤ k := by omega
        have l6 : (16 : Int) ≤ k := by omega
        have l7 : (k : Int) < 64 := by omega
        unfold u32v at hz7 ht7 hkc7
        clear hW7 hx' hy'
        iterate 11 still_step
        still_call (rot_any x (-7) 25 r7 (by decide) (by decide) W7)
        still_step
        still_call (rot_any x (-18) 14 r18 (by decide) (by decide) W7)
        iterate 6 still_step
        still_call (rot_any y (-17) 15 r17 (by decide) (by decide) W7)
        still_step
        still_call (rot_any y (-19) 13 r19 (by decide) (by decide) W7)
        iterate 5 still_step
        refine wpStill_nil ?_
        go_wp2_with fail
        go_round
        case rel => exact ⟨k + 1, by omega, by go_num, by rw [spread, ← hset'.out, hnx'.out]; exact hbk7.set_ k _, hb7.setCell (p := ⟨w.heap.size, k, none⟩) (Nat.le_refl _) _⟩
        case measure => simp [intOf]; omega
    · have hk64 : k = 64 := by omega
      subst hk64
      have hpr := hp.below hb hp.lt
      have q0 : wr.cell? ⟨p, 0, none⟩ = some (.int .u32 s.a) := hpr.cell 0
      have q1 : wr.cell? ⟨p, 1, none⟩ = some (.int .u32 s.b) := hpr.cell 1
      have q2 : wr.cell? ⟨p, 2, none⟩ = some (.int .u32 s.c) := hpr.cell 2
      have q3 : wr.cell? ⟨p, 3, none⟩ = some (.int .u32 s.d) := hpr.cell 3
      have q4 : wr.cell? ⟨p, 4, none⟩ = some (.int .u32 s.e) := hpr.cell 4
      have q5 : wr.cell? ⟨p, 5, none⟩ = some (.int .u32 s.f) := hpr.cell 5
      have q6 : wr.cell? ⟨p, 6, none⟩ = some (.int .u32 s.g) := hpr.cell 6
      have q7 : wr.cell? ⟨p, 7, none⟩ = some (.int .u32 s.h) := hpr.cell 7
      clear hsl
      simp only [Int.cast_ofNat_Int]
      go_upto_region 9 with fail
      have hgs : w.heap.size < wr.heap.size := hbk.lt
      have hpl := hpr.lt
      have eg : wr.heap.size ≠ p := by omega
      have hone : ∀ (v : Value), v ∈ List.map u32v cubeL → v.oneCell' = true := by
        intro v hv
        obtain ⟨x, -, rfl⟩ := List.mem_map.1 hv
        rfl
      obtain ⟨W1, rfl⟩ : ∃ W1 : World, W1 = wr := ⟨_, rfl⟩
      go_cut [8, 9] from 66 to 70 (fun v8 v9 wx => ∃ gv gc : Nat, v8 = .pointer (some ⟨gv, 0, none⟩) ∧ v9 = .pointer (some ⟨gc, 0, none⟩) ∧ W1.heap.size ≤ gv ∧ W1.heap.size ≤ gc ∧ Blk wx gv 153 s.cells.toArray ∧ Blk wx gc 169 cubeA ∧ gv ≠ gc ∧ Below W1.heap.size W1 wx)
      case first =>
        refine wp_region_frm (by kernel_rfl) (by kernel_rfl) (by kernel_rfl) [66, 67, 68, 69, 70, 8, 9] (fun L a' w' => Has L 0 a' 66 (.pointer (some ⟨p, 0, none⟩)) ∧ Has L 1 a' 67 (.pointer (some ⟨p, 0, none⟩)) ∧ Has L 2 a' 68 (.pointer (some ⟨p, 0, none⟩)) ∧ Has L 3 a' 69 (.agg s.cells.toArray) ∧ Has L 4 a' 70 (.agg cubeA) ∧
          Lays L 5 7 a' w' 8 W1.heap.size 153 8 s.cells.toArray ∧ Lays L 6 8 a' w' 9 W1.heap.size 169 64 cubeA ∧ Waits L 7 5 ∧ Waits L 8 6 ∧ Below W1.heap.size W1 w')
          ⟨Has.begin_ _ _ _ _, Has.begin_ _ _ _ _, Has.begin_ _ _ _ _, Has.begin_ _ _ _ _, Has.begin_ _ _ _ _, Lays.begin_ _ _ _ _ _ _ _ _ _, Lays.begin_ _ _ _ _ _ _ _ _ _, Waits.begin_ _ _, Waits.begin_ _ _, Below.drew_ _⟩ ?_ ?_
        · intro i o ho L a' w' hi0 hd hF hJ
          obtain ⟨j0, j1, j2, j3, j4, j5, j6, k1, k2, j7⟩ := hJ
          have t0 : a'.tmps[0]? = some (.pointer (some ⟨p, 0, none⟩)) := (hF.2.2 0 (by decide)).trans rfl
          have hsz' : Hid (a'.tmps.size = 162) := Lib.hid (by rw [hF.2.1]; rfl)
          have hsz : ∀ j, j < 162 → Hid (j < a'.tmps.size) := fun j hj => Lib.hid (by rw [hsz'.out]; exact hj)
          have hpw := hpr.below j7 hpl
          rcases i with _ | _ | _ | _ | _ | _ | _ | _ | _ | i
          · simp only [List.getElem?_toArray, List.getElem?_cons_zero, Option.some.injEq] at ho; subst ho
            refine wp_via (fun K hK => ?_)
            go_simp
            refine hK _ _ ⟨hF.put (j := 66) (by decide) _, Has.same (j := 66) _ (hsz 66 (by decide)).out, j1.other (k := 66) _ (by decide) (by decide), j2.other (k := 66) _ (by decide) (by decide), j3.other (k := 66) _ (by decide) (by decide), j4.other (k := 66) _ (by decide) (by decide), j5.other (k := 66) _ (by decide) (by decide) (by decide) (fun _ _ h => h), j6.other (k := 66) _ (by decide) (by decide) (by decide) (fun _ _ h => h), k1.other (by decide), k2.other (by decide), j7⟩
          · simp only [List.getElem?_toArray, List.getElem?_cons_zero, List.getElem?_cons_succ, Option.some.injEq, Nat.reduceAdd] at ho; subst ho
            have h66 := j0 (hd ⟨0, .data⟩ (by simp) rfl)
            refine wp_via (fun K hK => ?_)
            go_simp
            refine hK _ _ ⟨hF.put (j := 67) (by decide) _, j0.other (k := 67) _ (by decide) (by decide), Has.same (j := 67) _ (hsz 67 (by decide)).out, j2.other (k := 67) _ (by decide) (by decide), j3.other (k := 67) _ (by decide) (by decide), j4.other (k := 67) _ (by decide) (by decide), j5.other (k := 67) _ (by decide) (by decide) (by decide) (fun _ _ h => h), j6.other (k := 67) _ (by decide) (by decide) (by decide) (fun _ _ h => h), k1.other (by decide), k2.other (by decide), j7⟩
          · simp only [List.getElem?_toArray, List.getElem?_cons_zero, List.getElem?_cons_succ, Option.some.injEq, Nat.reduceAdd] at ho; subst ho
            have h67 := j1 (hd ⟨1, .data⟩ (by simp) rfl)
            refine wp_via (fun K hK => ?_)
            go_simp
            refine hK _ _ ⟨hF.put (j := 68) (by decide) _, j0.other (k := 68) _ (by decide) (by decide), j1.other (k := 68) _ (by decide) (by decide), Has.same (j := 68) _ (hsz 68 (by decide)).out, j3.other (k := 68) _ (by decide) (by decide), j4.other (k := 68) _ (by decide) (by decide), j5.other (k := 68) _ (by decide) (by decide) (by decide) (fun _ _ h => h), j6.other (k := 68) _ (by decide) (by decide) (by decide) (fun _ _ h => h), k1.other (by decide), k2.other (by decide), j7⟩
          · simp only [List.getElem?_toArray, List.getElem?_cons_zero, List.getElem?_cons_succ, Option.some.injEq, Nat.reduceAdd] at ho; subst ho
            have h68 := j2 (hd ⟨2, .data⟩ (by simp) rfl)
            refine wp_load_at 153 (.tmp 68) rfl p 0 (eval_tmp h68) s.cells _ (fun j u hu => ?_) Tryz.underlying153 rfl (by kernel_rfl) ?_
            · rw [Nat.zero_add]
              refine cells_of_blk hpw j u ?_
              have hj : j < s.cells.length := by
                rcases Nat.lt_or_ge j s.cells.length with h | h
                · exact h
                · rw [List.getElem?_eq_none h] at hu; cases hu
              rw [List.getElem?_append_left hj]
              exact hu
            · exact ⟨hF.put (j := 69) (by decide) _, j0.other (k := 69) _ (by decide) (by decide), j1.other (k := 69) _ (by decide) (by decide), j2.other (k := 69) _ (by decide) (by decide), Has.same (j := 69) _ (hsz 69 (by decide)).out, j4.other (k := 69) _ (by decide) (by decide), j5.other (k := 69) _ (by decide) (by decide) (by decide) (fun _ _ h => h), j6.other (k := 69) _ (by decide) (by decide) (by decide) (fun _ _ h => h), k1.other (by decide), k2.other (by decide), j7⟩
          · simp only [List.getElem?_toArray, List.getElem?_cons_zero, List.getElem?_cons_succ, Option.some.injEq, Nat.reduceAdd] at ho; subst ho
            refine wp_via (fun K hK => ?_)
            go_simp
            refine (cubes_any w').mono ?_
            rintro e w2 ⟨rfl, hb2⟩
            refine hK _ _ ⟨hF.put (j := 70) (by decide) _, j0.other (k := 70) _ (by decide) (by decide), j1.other (k := 70) _ (by decide) (by decide), j2.other (k := 70) _ (by decide) (by decide), j3.other (k := 70) _ (by decide) (by decide), Has.same (j := 70) _ (hsz 70 (by decide)).out, j5.other (k := 70) _ (by decide) (by decide) (by decide) (fun _ _ h => h.below hb2 h.lt), j6.other (k := 70) _ (by decide) (by decide) (by decide) (fun _ _ h => h.below hb2 h.lt), k1.other (by decide), k2.other (by decide), j7.trans (hb2.mono j7.size)⟩
          · simp only [List.getElem?_toArray, List.getElem?_cons_zero, List.getElem?_cons_succ, Option.some.injEq, Nat.reduceAdd] at ho; subst ho
            refine wp_via (fun K hK => ?_)
            go_simp
            refine hK _ _ ⟨hF.put (j := 8) (by decide) _, j0.other (k := 8) _ (by decide) (by decide), j1.other (k := 8) _ (by decide) (by decide), j2.other (k := 8) _ (by decide) (by decide), j3.other (k := 8) _ (by decide) (by decide), j4.other (k := 8) _ (by decide) (by decide), fun _ => ⟨w'.heap.size, _, put_same _ (hsz 8 (by decide)).out, j7.size, Blk.new w' _ _, rfl, fun h7 => ?_⟩, j6.other (k := 8) _ (by decide) (by decide) (by decide) (fun _ _ h => h.alloc _), k1.other (by decide), k2.other (by decide), j7.alloc j7.size _⟩
            exact (k1.not hi0 (by decide) h7).elim
          · simp only [List.getElem?_toArray, List.getElem?_cons_zero, List.getElem?_cons_succ, Option.some.injEq, Nat.reduceAdd] at ho; subst ho
            refine wp_via (fun K hK => ?_)
            go_simp
            refine hK _ _ ⟨hF.put (j := 9) (by decide) _, j0.other (k := 9) _ (by decide) (by decide), j1.other (k := 9) _ (by decide) (by decide), j2.other (k := 9) _ (by decide) (by decide), j3.other (k := 9) _ (by decide) (by decide), j4.other (k := 9) _ (by decide) (by decide), j5.other (k := 9) _ (by decide) (by decide) (by decide) (fun _ _ h => h.alloc _), fun _ => ⟨w'.heap.size, _, put_same _ (hsz 9 (by decide)).out, j7.size, Blk.new w' _ _, rfl, fun h7 => ?_⟩, k1.other (by decide), k2.other (by decide), j7.alloc j7.size _⟩
            exact (k2.not hi0 (by decide) h7).elim
          · simp only [List.getElem?_toArray, List.getElem?_cons_zero, List.getElem?_cons_succ, Option.some.injEq, Nat.reduceAdd] at ho; subst ho
            have h69 := j3 (hd ⟨3, .data⟩ (by simp) rfl)
            obtain ⟨gv, cv, v1, v2, v3, v4, v5⟩ := j5 (hd ⟨5, .data⟩ (by simp) rfl)
            refine wp_store_row 153 (.tmp 8) (.tmp 69) rfl gv s.cells.toArray (eval_tmp v1) (eval_tmp h69) _ cv v3 (by kernel_rfl) v4 (by kernel_rfl) ?_
            refine ⟨hF.put_none _, j0.still _ (by decide), j1.still _ (by decide), j2.still _ (by decide), j3.still _ (by decide), j4.still _ (by decide), fun _ => ⟨gv, _, v1, v2, setRow_blk v3, rfl, fun _ => rfl⟩, j6.still _ (by decide) (by decide) (fun _ _ h => setRow_far h (v3.ne_ h (by decide))), Waits.done (hd ⟨5, .data⟩ (by simp) rfl), k2.other (by decide), setRow_below j7 v2⟩
          · simp only [List.getElem?_toArray, List.getElem?_cons_zero, List.getElem?_cons_succ, Option.some.injEq, Nat.reduceAdd] at ho; subst ho
            have h70 := j4 (hd ⟨4, .data⟩ (by simp) rfl)
            obtain ⟨gc, cc, c1, c2, c3, c4, c5⟩ := j6 (hd ⟨6, .data⟩ (by simp) rfl)
            refine wp_store_row 169 (.tmp 9) (.tmp 70) rfl gc cubeA (eval_tmp c1) (eval_tmp h70) _ cc c3 (by kernel_rfl) c4 (by kernel_rfl) ?_
            refine ⟨hF.put_none _, j0.still _ (by decide), j1.still _ (by decide), j2.still _ (by decide), j3.still _ (by decide), j4.still _ (by decide), j5.still _ (by decide) (by decide) (fun _ _ h => setRow_far h (c3.ne_ h (by decide))), fun _ => ⟨gc, _, c1, c2, setRow_blk c3, rfl, fun _ => rfl⟩, k1.other (by decide), Waits.done (hd ⟨6, .data⟩ (by simp) rfl), setRow_below j7 c2⟩
          · exact absurd ho (by simp)
        · intro L a' w' hall hF hJ
          obtain ⟨j0, j1, j2, j3, j4, j5, j6, k1, k2, j7⟩ := hJ
          obtain ⟨gv, cv, v1, v2, v3, v4, v5⟩ := j5 (hall 5 (by decide))
          obtain ⟨gc, cc, c1, c2, c3, c4, c5⟩ := j6 (hall 6 (by decide))
          have e8 : a'.tmps.getD 8 undef = .pointer (some ⟨gv, 0, none⟩) := by simp [v1]
          have e9 : a'.tmps.getD 9 undef = .pointer (some ⟨gc, 0, none⟩) := by simp [c1]
          have v6 := v5 (hall 7 (by decide))
          have c6 := c5 (hall 8 (by decide))
          subst v6
          subst c6
          rw [hF.lit]
          simp only [List.foldl_cons, List.foldl_nil, List.setIfInBounds_toArray, List.set_cons_zero, List.set_cons_succ, e8, e9]
          go_wp2_with fail
          go_meet
          case rel => exact ⟨gv, gc, rfl, rfl, v2, c2, v3, c3, v3.ne_ c3 (by decide), j7⟩
      case rest =>
        obtain ⟨gv, gc, rfl, rfl, hgv, hgc, hbv, hbc, hne, hbw⟩ := hcut
        have hbk1 := hbk.below hbw hbk.lt
        have hb1 := hb.trans (hbw.mono hb.size)
        have hlen := spread_length l 64
        have hfin : ∀ tt, rnds (spread l 64) s 64 = tt → compress s l = addS s tt 8 := fun tt h => by unfold compress; rw [h]
        generalize spread l 64 = ws at *
        have hfin' := Lib.hid hfin
        clear hfin
        have hlen' := Lib.hid hlen
        clear q0 q1 q2 q3 q4 q5 q6 q7 hlen hone
        go_wp2_with fail
        go_loopw [71] (fun i wr => ∃ k : Nat, k ≤ 64 ∧ i = .int .i64 (k : Int) ∧ Blk wr w.heap.size 169 (padW ws 64) ∧ Blk wr gc 169 cubeA ∧ Blk wr gv 153 (rnds ws s k).cells.toArray ∧ Below W1.heap.size W1 wr) (fun i _ => 64 - (intOf i).toNat)
        case atStart => exact ⟨0, by omega, rfl, hbk1, hbc, hbv, hbw⟩
        case round =>
          clear hbk1 hbc hbv hbw hb1
          obtain ⟨k, hk, rfl, hwk, hck, hvk, hbr⟩ := hrel
          by_cases hlt : k < 64
          · have hx := (hwk.cell k).trans (padW_lt (by rw [hlen'.out]; exact hlt))
            obtain ⟨y, hy⟩ : ∃ y, cubeL.getD k 0 = y := ⟨_, rfl⟩
            have hyc : wr.cell? ⟨gc, k, none⟩ = some (u32v y) := by
              refine (hck.cell k).trans ?_
              have h64 : k < cubeL.length := hlt
              rw [cubeA, List.getElem?_toArray, List.getElem?_map, List.getElem?_eq_getElem h64, ← hy, List.getD_eq_getElem?_getD, List.getElem?_eq_getElem h64]
              rfl
            obtain ⟨x, hxx⟩ : ∃ x, ws.getD k 0 = x := ⟨_, rfl⟩
            rw [hxx] at hx
            have hxx' := Lib.hid hxx
            have hy' := Lib.hid hy
            obtain ⟨sk, hsk⟩ : ∃ sk, rnds ws s k = sk := ⟨_, rfl⟩
            have hsk' := Lib.hid hsk
            rw [hsk] at hvk
            obtain ⟨a1, b1, c1, d1, e1, f1, g1, h1⟩ := sk
            unfold u32v at hx hyc
            obtain ⟨z0, z1, z2, z3, z4, z5, z6, z7⟩ := cells8 hvk
            clear hxx hy hsk
            have lk : (k : Int) < 64 := by omega
            go_wp2_with fail
            go_quiet (fail)
            go_wp2_with fail
            obtain ⟨W2, hW2⟩ : ∃ W2, wr.drewN nq = W2 := ⟨_, rfl⟩
            rw [hW2]
            have hv2 : Blk W2 gv 153 (S8.cells ⟨a1, b1, c1, d1, e1, f1, g1, h1⟩).toArray := by rw [← hW2]; exact hvk.drewN nq
            have hx2 : W2.cell? ⟨w.heap.size, k, none⟩ = some (.int .u32 x) := by rw [← hW2]; exact hx
            have hy2 : W2.cell? ⟨gc, k, none⟩ = some (.int .u32 y) := by rw [← hW2]; exact hyc
            have hw2 : Blk W2 w.heap.size 169 (padW ws 64) := by rw [← hW2]; exact hwk.drewN nq
            have hc2' : Blk W2 gc 169 cubeA := by rw [← hW2]; exact hck.drewN nq
            have hb2 : Below W1.heap.size W1 W2 := by rw [← hW2]; exact ⟨hbr.os, hbr.tape, hbr.output, hbr.size, hbr.block⟩
            clear hW2 z0 z1 z2 z3 z4 z5 z6 z7 hx hyc hvk hwk hck hbr
            obtain ⟨z0, z1, z2, z3, z4, z5, z6, z7⟩ := cells8 hv2
            go_quiet ((go_at_call 102; exact Calls.quiet_of_same (rot_k _ _ (by decide) _)))
            go_wp2_with fail
            obtain ⟨W3, hW3⟩ : ∃ W3, W2.drewN nq = W3 := ⟨_, rfl⟩
            rw [hW3]
            have hv3 : Blk W3 gv 153 (S8.cells ⟨a1, b1, c1, d1, e1, f1, g1, h1⟩).toArray := by rw [← hW3]; exact hv2.drewN nq
            have hw3 : Blk W3 w.heap.size 169 (padW ws 64) := by rw [← hW3]; exact hw2.drewN nq
            have hc3 : Blk W3 gc 169 cubeA := by rw [← hW3]; exact hc2'.drewN nq
            have hb3 : Below W1.heap.size W1 W3 := by rw [← hW3]; exact ⟨hb2.os, hb2.tape, hb2.output, hb2.size, hb2.block⟩
            clear hW3 z0 z1 z2 z3 z4 z5 z6 z7 hx2 hy2 hv2 hw2 hc2' hb2
            obtain ⟨z0, z1, z2, z3, z4, z5, z6, z7⟩ := cells8 hv3
            go_quiet ((go_at_call 102; exact Calls.quiet_of_same (rot_k _ _ (by decide) _)))
            go_wp2_with fail
            have hone : Hid (oneOf ⟨a1, b1, c1, d1, e1, f1, g1, h1⟩ y x = (h1 + bits .xor .u32 (bits .xor .u32 (rotl (sh (-6)) e1) (rotl (sh (-11)) e1)) (rotl (sh (-25)) e1) + bits .xor .u32 (bits .and .u32 e1 f1) (bits .and .u32 (bits .xor .u32 IntKind.u32.max e1) g1) + y + x) % 4294967296) := Lib.hid rfl
            have htwo : Hid (twoOf ⟨a1, b1, c1, d1, e1, f1, g1, h1⟩ = (bits .xor .u32 (bits .xor .u32 (rotl (sh (-2)) a1) (rotl (sh (-13)) a1)) (rotl (sh (-22)) a1) + bits .xor .u32 (bits .xor .u32 (bits .and .u32 a1 b1) (bits .and .u32 a1 c1)) (bits .and .u32 b1 c1)) % 4294967296) := Lib.hid rfl
            obtain ⟨W4, hW4⟩ : ∃ W4, W3.drewN nq = W4 := ⟨_, rfl⟩
            rw [hW4]
            have hv4 : Blk W4 gv 153 (S8.cells ⟨a1, b1, c1, d1, e1, f1, g1, h1⟩).toArray := by rw [← hW4]; exact hv3.drewN nq
            have hw4 : Blk W4 w.heap.size 169 (padW ws 64) := by rw [← hW4]; exact hw3.drewN nq
            have hc4 : Blk W4 gc 169 cubeA := by rw [← hW4]; exact hc3.drewN nq
            have hb4 : Below W1.heap.size W1 W4 := by rw [← hW4]; exact ⟨hb3.os, hb3.tape, hb3.output, hb3.size, hb3.block⟩
            clear hW4 z0 z1 z2 z3 z4 z5 z6 z7 hv3 hw3 hc3 hb3
            obtain ⟨z0, z1, z2, z3, z4, z5, z6, z7⟩ := cells8 hv4
            generalize hq1 : (h1 + bits .xor .u32 (bits .xor .u32 (rotl (sh (-6)) e1) (rotl (sh (-11)) e1)) (rotl (sh (-25)) e1) + bits .xor .u32 (bits .and .u32 e1 f1) (bits .and .u32 (bits .xor .u32 IntKind.u32.max e1) g1) + y + x) % 4294967296 = one at *
            generalize hq2 : (bits .xor .u32 (bits .xor .u32 (rotl (sh (-2)) a1) (rotl (sh (-13)) a1)) (rotl (sh (-22)) a1) + bits .xor .u32 (bits .xor .u32 (bits .and .u32 a1 b1) (bits .and .u32 a1 c1)) (bits .and .u32 b1 c1)) % 4294967296 = two at *
            clear hq1 hq2 z0 z1 z2 z3 z4 z5 z6 z7
            refine wp_region_tail 2 (by kernel_rfl) (by kernel_rfl) ?_
            intro W5 hW5
            simp only [List.take_succ_cons, List.take_zero, List.drop_succ_cons, List.drop_zero]
            have hv5 : Blk W5 gv 153 (S8.cells ⟨a1, b1, c1, d1, e1, f1, g1, h1⟩).toArray := by rw [hW5]; exact hv4.drew
            have hw5 : Blk W5 w.heap.size 169 (padW ws 64) := by rw [hW5]; exact hw4.drew
            have hc5 : Blk W5 gc 169 cubeA := by rw [hW5]; exact hc4.drew
            have hb5 : Below W1.heap.size W1 W5 := by rw [hW5]; exact ⟨hb4.os, hb4.tape, hb4.output, hb4.size, hb4.block⟩
            clear hW5 hv4 hw4 hc4 hb4
            iterate 2 still_step
            refine wpStill_nil ?_
            have hrun := Lib.hid (fun ty => run_copy_row (P := Tryz.prog) W5 173 173 ty 22 gv 1 7 7 ⟨gv, 0, none⟩ 7 8 _ _ [.int .u32 a1, .int .u32 b1, .int .u32 c1, .int .u32 d1, .int .u32 e1, .int .u32 f1, .int .u32 g1] Tryz.underlying173 (by kernel_rfl) hv5 rfl (by
              intro j u hu
              have e : (⟨gv, 0, none⟩ : Addr).add j = ⟨gv, j, none⟩ := by unfold Addr.add; split <;> simp_all
              rw [e]
              refine cells_of_blk hv5 j u ?_
              rw [← hu]
              rcases j with _ | _ | _ | _ | _ | _ | _ | j
              all_goals first | rfl | (simp at hu)) (by simp [S8.cells]) (by simp [Value.oneCell']))
            obtain ⟨W6, hW6⟩ : ∃ W6, W5.setRow gv #[.int .u32 a1, .int .u32 a1, .int .u32 b1, .int .u32 c1, .int .u32 d1, .int .u32 e1, .int .u32 f1, .int .u32 g1] = W6 := ⟨_, rfl⟩
            have hv6 : Blk W6 gv 153 #[.int .u32 a1, .int .u32 a1, .int .u32 b1, .int .u32 c1, .int .u32 d1, .int .u32 e1, .int .u32 f1, .int .u32 g1] := by rw [← hW6]; exact setRow_blk hv5
            have hw6 : Blk W6 w.heap.size 169 (padW ws 64) := by rw [← hW6]; exact setRow_far hw5 (by omega)
            have hc6 : Blk W6 gc 169 cubeA := by rw [← hW6]; exact setRow_far hc5 hne
            have hb6 : Below W1.heap.size W1 W6 := by rw [← hW6]; exact setRow_below hb5 hgv
            have n0 := hv6.cell 0
            have n4 := hv6.cell 4
            have m0 := hv6.frozen 0
            have m4 := hv6.frozen 4
            have hrun' := Lib.hid (fun ty => (hrun.out ty).trans (by rw [← hW6]; rfl : _ = Result.ok (goInt 7) W6))
            clear hW6 hrun hv5 hw5 hc5 hb5
            refine wpList_copy_run rfl (.tmp 132) (.tmp 133) _ _ rfl _ _ rfl rfl (hrun'.out _) ?_
            simp only [Act.put, List.setIfInBounds_toArray, List.set_cons_zero, List.set_cons_succ]
            go_wp2_with fail
            go_round
            case rel =>
              refine ⟨k + 1, by omega, by go_num, (hw6.far (p := ⟨gv, 0, none⟩) (by show w.heap.size ≠ gv; omega) _).far (p := ⟨gv, 4, none⟩) (by show w.heap.size ≠ gv; omega) _, (hc6.far (p := ⟨gv, 0, none⟩) (Ne.symm hne) _).far (p := ⟨gv, 4, none⟩) (Ne.symm hne) _, ?_, (hb6.setCell (p := ⟨gv, 0, none⟩) hgv _).setCell (p := ⟨gv, 4, none⟩) hgv _⟩
              rw [rnds, hsk'.out, hy'.out, hxx'.out]
              unfold rnd
              rw [hone.out, htwo.out]
              exact (hv6.set_ 0 _).set_ 4 _
            case measure => simp [intOf]; omega
          · have hk6 : k = 64 := by omega
            subst hk6
            simp only [Int.cast_ofNat_Int]
            obtain ⟨W7, rfl⟩ : ∃ W7 : World, W7 = wr := ⟨_, rfl⟩
            go_wp2_with fail
            have hpl7 : p < W7.heap.size := Nat.lt_of_lt_of_le hpl hbr.size
            have hp7 : Blk W7 p 156 (s.cells ++ [rv, mv]).toArray := hpr.below hbr hpl
            have hu7 : Upd p none w W7 none := Upd.ofBelow (hb.trans (hbr.mono hb.size))
            have hgvl := hvk.lt
            generalize htt : rnds ws s 64 = tt at *
            have htt' := Lib.hid htt
            have hgp : gv ≠ p := by omega
            clear htt hwk hck hbr hpr
            go_loopw [145] (fun i wr => ∃ k : Nat, k ≤ 8 ∧ i = .int .i64 (k : Int) ∧ Blk wr p 156 ((addS s tt k).cells ++ [rv, mv]).toArray ∧ Blk wr gv 153 tt.cells.toArray ∧ Upd p none w wr none) (fun i _ => 8 - (intOf i).toNat)
            case atStart => exact ⟨0, by omega, rfl, hp7, hvk, hu7⟩
            case round =>
              clear hp7 hvk hu7
              obtain ⟨k, hk, rfl, hpk, hvk, huk⟩ := hrel
              by_cases hlt : k < 8
              · have e1 := (hpk.cell k).trans ((get_cell _ _ k hlt).trans (by rw [addS_get s tt k hlt]))
                have e2 := (hvk.cell k).trans (by simpa using get_cell tt [] k hlt)
                have e3 := hpk.frozen k
                have hst := Lib.hid (addS_set s tt [rv, mv] k hlt)
                have l8 : (k : Int) < 8 := by omega
                generalize s.get k = x at *
                generalize tt.get k = y at *
                go_wp2_with fail
                go_region
                go_wp2_with fail
                go_round
                case rel =>
                  refine ⟨k + 1, by omega, by go_num, ?_, (hvk.far (p := ⟨p, k, none⟩) hgp _).drew, (huk.setCell k _).drew⟩
                  rw [← hst.out]
                  exact (hpk.set_ k _).drew
                case measure => simp [intOf]; omega
              · have hk8 : k = 8 := by omega
                subst hk8
                go_wp2_with fail
                go_end0
                refine ⟨rfl, ?_, huk⟩
                rw [hfin'.out _ rfl]
                exact hpk
end Go.Proofs.YtcilabemglbhbaaGreatDoor
