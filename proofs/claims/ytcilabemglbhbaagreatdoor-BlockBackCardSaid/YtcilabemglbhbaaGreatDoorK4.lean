/- bytes.Join and Raw of two parts. -/
import Derived.Test.YtcilabemglbhbaaGreatDoorK1
import Derived.Test.YtcilabemglbhbaaGreatDoorK3
import Derived.Test.YtcilabemglbhbaaGreatDoorK2
import Derived.Laws.ResultCell
namespace Go.Proofs.YtcilabemglbhbaaGreatDoor
open Go Go.RowKit Go.Pur

theorem plain_add (g i j : Nat) : (⟨g, i, none⟩ : Addr).add j = ⟨g, i + j, none⟩ := by unfold Addr.add; split <;> simp_all
theorem holds_of_byt {w : World} {B : Nat} {v : Value} {l : Bytes} (h : Byt w B v l) : Lib.HoldsBytes w v l := by
  obtain ⟨A, c, rfl, h1, h2, h3, h4⟩ := h
  refine ⟨A, c, rfl, fun e => ?_, fun a ha i x hx => ?_⟩
  · cases l with
    | nil => rfl
    | cons x l =>
      obtain ⟨ad, h, _⟩ := h4 (by simp)
      rw [e] at h; cases h
  · have hi : i < l.length := by
      rcases Nat.lt_or_ge i l.length with h | h
      · exact h
      · rw [List.getElem?_eq_none h] at hx; cases hx
    obtain ⟨ad, e, _, hc⟩ := h4 (by omega)
    rw [e] at ha
    injection ha with ha
    rw [← ha]
    exact hc i _ (by simp [bvs, hx, bv])
theorem byt_of_fresh {w : World} {B : Nat} {v : Value} {l : Bytes} (h : Lib.FreshBytes B w v l) : Byt w w.heap.size v l := by
  obtain ⟨g, cap, zs, rfl, _, h1, h2, h3, h4, h5, h6, _⟩ := h
  refine ⟨_, cap, rfl, h1, h2, by simp [bvs], fun hn => ⟨_, rfl, ?_, fun j u hu => ?_⟩⟩
  · have := World.block_lt_of_cell? _ _ (h6 0 (by omega))
    exact this
  · have hj : j < l.length := by
      rcases Nat.lt_or_ge j l.length with h | h
      · exact h
      · rw [List.getElem?_eq_none (by simpa [bvs] using h)] at hu; cases hu
    rw [plain_add, Nat.zero_add, h6 j (by omega), ← hu]
    have hz : j < zs.length := by omega
    have e : l[j]? = some (UInt8.ofNat (zs[j]).toNat) := by
      rw [← h5, Lib.bytesOf, List.getElem?_map, List.getElem?_take, if_pos hj, List.getElem?_eq_getElem hz]
      rfl
    have hr := h4 _ (List.getElem_mem hz)
    simp only [bvs, List.getElem?_map, e, Option.map_some, bv_ofNat]
    rw [List.getD_eq_getElem?_getD, List.getElem?_eq_getElem hz, Option.getD_some]
    congr 2
    omega
/-- bytes.Join of two parts. -/
theorem join2_any (b off c : Nat) (v1 v2 : Value) (l1 l2 : Bytes) (B : Nat) (w : World) (hl1 : l1.length ≤ 10000000000) (hl2 : l2.length ≤ 10000000000) (hc : 2 ≤ c) (h1 : Byt w B v1 l1) (h2 : Byt w B v2 l2) (hc1 : w.cell? ⟨b, off, none⟩ = some v1) (hc2 : w.cell? ⟨b, off + 1, none⟩ = some v2) :
    Calls Tryz.prog 41 #[.slice (some ⟨b, off, none⟩) 2 c, .slice none 0 0] w fun e w' => ∃ v', e = .returned v' ∧ Byt w' w'.heap.size v' (l1 ++ l2) ∧ Below w.heap.size w w' := by
  refine (Tryz.bytes_Join_many b off 2 c [v1, v2] [l1, l2] (.slice none 0 0) [] w rfl (by omega) ⟨rfl, fun i v hv => ?_, fun i v l hv hl => ?_⟩ hc (holds_of_byt (Byt.nil w 0)) (by omega) ?_).mono ?_
  · match i, hv with
    | 0, hv => rw [plain_add]; injection hv with hv; subst hv; exact hc1
    | 1, hv => rw [plain_add]; injection hv with hv; subst hv; exact hc2
    | i + 2, hv => simp at hv
  · match i, hv, hl with
    | 0, hv, hl => injection hv with hv; injection hl with hl; subst hv; subst hl; exact holds_of_byt h1
    | 1, hv, hl => injection hv with hv; injection hl with hl; subst hv; subst hl; exact holds_of_byt h2
    | i + 2, hv, hl => simp at hv
  · simp [Lib.lens]; omega
  · rintro e w' ⟨v', rfl, h3, h4⟩
    exact ⟨v', rfl, by simpa [Lib.join, List.intercalate] using byt_of_fresh h3, h4⟩
set_option maxRecDepth 100000 in
/-- Raw of two parts. -/
theorem raw2_any (p : Nat) (q : Option Nat) (l m1 m2 : Bytes) (b off c B : Nat) (v1 v2 : Value) (w : World) (hl : l.length ≤ 10000000000) (hm1 : m1.length ≤ 1000000000) (hm2 : m2.length ≤ 1000000000) (hc2' : 2 ≤ c) (hp : PenAt w p q l) (h1 : Byt w B v1 m1) (h2 : Byt w B v2 m2)
    (hc1 : w.cell? ⟨b, off, none⟩ = some v1) (hc2 : w.cell? ⟨b, off + 1, none⟩ = some v2) :
    Calls Tryz.prog 19 #[.pointer (some ⟨p, 0, none⟩), .slice (some ⟨b, off, none⟩) 2 c] w fun e w' =>
      e = .returned (.int .i64 0) ∧ ∃ q', PenAt w' p q' (l ++ (m1 ++ m2)) ∧ Upd p q w w' q' := by
  obtain ⟨sv, hb, hown, hq⟩ := hp
  have hcell : w.cell? ⟨p, 0, none⟩ = some sv := hb.cell 0
  obtain ⟨A, n, c', rfl⟩ := slice_of_own hown
  have hpl := hb.lt
  have hq' := Lib.hid hq
  clear hq
  have hn0 := own_blk_ne hown hb (by decide)
  have hml : (m1 ++ m2).length ≤ 10000000000 := by simp; omega
  go_enter Tryz.func19, Tryz.ntmps19
  go_wp2_with fail
  go_region_law (first
      | (refine step_app_bytes rfl _ _ rfl 0 (.slice A n c') l (by rfl) (own_below hown hj2) _ _ (m1 ++ m2) (by rfl) hj1 (by omega) (by omega) ?_; intro v2 w2 hown2 hg2 hf2; obtain ⟨A2, n2, c2, rfl⟩ := slice_of_own hown2; have hbw2 := (hb.below hj2 hpl).grown hg2 (Ne.symm hn0); have hcw2 := hbw2.cell 0; have hfw2 := hbw2.frozen 0)
      | (go_simp; go_at_call 41; refine (join2_any b off c v1 v2 m1 m2 B _ (by omega) (by omega) hc2' (by exact h1) (by exact h2) (by exact hc1) (by exact hc2)).mono ?_; rintro e w1 ⟨v', rfl, hj1, hj0⟩; have hj2 : Below w.heap.size w w1 := ⟨hj0.os, hj0.tape, hj0.output, hj0.size, hj0.block⟩; have hcw1 := (hb.below hj2 hpl).cell 0))
  all_goals
    go_wp2_with fail
    go_ret
    have hn1 := own_blk_ne hown2 hbw2 (by decide)
    have hq := hq'.out
    subst hq
    refine ⟨rfl, _, ⟨_, hbw2.set_ 0 _, own_far hown2 (a := ⟨p, 0, none⟩) hn1 _, rfl⟩, (((Upd.ofBelow hj2).grown hg2 hf2).setCell 0 _)⟩
end Go.Proofs.YtcilabemglbhbaaGreatDoor

/- More words for memory: a result that is a cell. -/
namespace Go.Pur
open Go Go.RowKit

section
variable {P : Program}
theorem results_cell_at {fn : Func} {p : Tmp} {ty : TypeId} (h : fn.results = #[.cell p ty]) (tmps : Array Value) (w : World) (g : Nat) (cs : List Value) (d : TypeDesc)
    (hp : tmps.getD p undef = .pointer (some ⟨g, 0, none⟩)) (hg : ∀ j u, cs[j]? = some u → w.cell? ⟨g, j, none⟩ = some u)
    (hu : P.underlying ty = some d) (hd : (match d with | .struct _ | .array _ _ => true | _ => false) = true) (hi : (P.info? ty).map (·.size) = some cs.length) :
    (results fn tmps).run P w = .ok (.agg cs.toArray) w := by
  have hp' : tmps[p]?.getD undef = .pointer (some ⟨g, 0, none⟩) := by simpa using hp
  simp [results, h, hp', asAddr, run_loadVar_at w g 0 ty cs d (fun j u hu => by simpa using hg j u hu) hu hd hi]
theorem results_cell_tmp_at {fn : Func} {p u : Tmp} {ty : TypeId} (h : fn.results = #[.cell p ty, .tmp u]) (tmps : Array Value) (w : World) (g : Nat) (cs : List Value) (d : TypeDesc)
    (hp : tmps.getD p undef = .pointer (some ⟨g, 0, none⟩)) (hg : ∀ j u, cs[j]? = some u → w.cell? ⟨g, j, none⟩ = some u)
    (hu : P.underlying ty = some d) (hd : (match d with | .struct _ | .array _ _ => true | _ => false) = true) (hi : (P.info? ty).map (·.size) = some cs.length) :
    (results fn tmps).run P w = .ok (.tuple #[.agg cs.toArray, tmps.getD u undef]) w := by
  rw [results_cell_tmp h]
  simp only [hp, asAddr, Sem.run_pure, Result.andThen_ok, run_loadVar_at w g 0 ty cs d (fun j u hu => by simpa using hg j u hu) hu hd hi]
theorem cells_of_blk {w : World} {g : Nat} {t : TypeId} {cs : List Value} (h : Blk w g t cs.toArray) (j : Nat) (u : Value) (hu : cs[j]? = some u) : w.cell? ⟨g, j, none⟩ = some u := by
  rw [h.cell]; simpa using hu
/-- an operation whose value is known. -/
theorem wpList_build {ops : Array Oper} {rest : List Oper} {o : Oper} {a : Act} {w : World} {Q : Exit → Act → World → Prop} (hgd : o.guard = none) (ty : TypeId) {parts : Array (Nat × Operand)} (_ho : o.op = .build ty parts) (v : Value) (hrun : (execOp a.eval o).run P w = .ok (.value v) w)
    (h : wpList P ops Q rest (a.put o.dst v) w) : wpList P ops Q (o :: rest) a w :=
  wpList_plain hgd fun _ hK => by
    unfold Oper.wp
    rw [hrun]
    exact hK _ _ h
/-- a store, whole, into a block that was just laid; its number by another name. -/
theorem wpList_store_new' {ops : Array Oper} {rest : List Oper} {o : Oper} {a : Act} {w : World} {Q : Exit → Act → World → Prop} (hgd : o.guard = none) (ty : TypeId) (x y : Operand) (ho : o.op = .store ty x y)
    (cells : Array Value) (g : Nat) (hg : g = w.heap.size) (hx : a.eval x = .pointer (some ⟨g, 0, none⟩)) (hy : a.eval y = .agg cells)
    (t : TypeId) (old : Array Value) (hi : (P.info? ty).map (·.size) = some cells.size)
    (hold : old.size = cells.size) (h1 : cells.all (·.oneCell') = true)
    (h : wpList P ops Q rest (a.put o.dst undef) (w.alloc (.cells cells t))) : wpList P ops Q (o :: rest) a (w.alloc (.cells old t)) := by
  subst hg
  exact wpList_store_new hgd ty x y ho cells hx hy t old hi hold h1 h
end
end Go.Pur

/- SHA-256 as the program's package sha computes it: the words, the rounds, and the contracts of its small functions. -/
namespace Go.Proofs.YtcilabemglbhbaaGreatDoor
open Go Go.RowKit Go.Pur

/-- a word, turned to the left. -/
def rotl (s : Nat) (x : Int) : Int := bits .or .u32 (x * 2 ^ s % 4294967296) (x / 2 ^ (32 - s))
theorem ret_u32 {a b : Int} (h : a = b) : Ending.returned (.int .u32 a) = .returned (.int .u32 b) := by rw [h]
set_option maxRecDepth 100000 in
theorem rot_any (x k : Int) (s : Nat) (hs : bits .and .u64 (IntKind.u64.wrap k) 31 = (s : Int)) (h0 : 0 < s) (h1 : s < 32) (w : World) :
    Calls Tryz.prog 102 #[.int .u32 x, .int .i64 k] w fun e w' => e = .returned (.int .u32 (rotl s x)) ∧ w' = w := by
  have h2 : IntKind.u64.wrap (32 - (s : Int)) = 32 - (s : Int) := by rw [IntKind.wrap_u64]; omega
  go_enter Tryz.func102, Tryz.ntmps102
  go_wp2
  go_ret
  exact ⟨rfl, rfl⟩

theorem byt_at {w : World} {B : Nat} {v : Value} {l : Bytes} (h : Byt w B v l) (hl : 0 < l.length) : ∃ b o c, v = .slice (some ⟨b, o, none⟩) l.length c ∧ b < B ∧ l.length ≤ c ∧ c ≤ maxLen ∧
    ∀ k (hk : k < l.length), w.cell? ⟨b, o + k, none⟩ = some (bv l[k]) := by
  obtain ⟨A, c, rfl, h1, h2, hr⟩ := h
  obtain ⟨ad, rfl, hb, hc⟩ := hr.2 hl
  have hb0 : ∀ k (hk : k < l.length), (bvs l)[k]? = some (bv l[k]) := by
    intro k hk
    rw [bvs, List.getElem?_map, List.getElem?_eq_getElem hk]
    rfl
  obtain ⟨b, o, sp⟩ := ad
  have hsp : sp = none := by
    have := hc 0 (bv l[0]) (hb0 0 hl)
    unfold World.cell? at this
    simp only [Addr.add, if_true] at this
    split at this
    · split at this
      · cases this
      · rename_i h; simpa using h
    · cases this
  subst hsp
  refine ⟨b, o, c, rfl, hb, h1, h2, fun k hk => ?_⟩
  have := hc k (bv l[k]) (hb0 k hk)
  have e : (⟨b, o, none⟩ : Addr).add k = ⟨b, o + k, none⟩ := by unfold Addr.add; split <;> simp_all
  rwa [e] at this
def wordStep (n : Int) (c : UInt8) : Int := bits .or .u32 (n * 256 % 4294967296) (c.toNat : Int)
def wordOf (l : Bytes) : Int := (l.take 4).foldl wordStep 0

set_option maxRecDepth 100000 in
theorem word_any (v : Value) (l : Bytes) (B : Nat) (w : World) (h4 : 4 ≤ l.length) (h : Byt w B v l) :
    Calls Tryz.prog 101 #[v] w fun e w' => e = .returned (.int .u32 (wordOf l)) ∧ w = w' := by
  obtain ⟨b, o, c, rfl, hb, h1, h2, hcell⟩ := byt_at h (by omega)
  have hcell' := Lib.hid hcell
  clear hcell
  obtain ⟨n, hn⟩ : ∃ n, l.length = n := ⟨_, rfl⟩
  have hn' := Lib.hid hn
  rw [hn] at h1 h4 ⊢
  clear hn
  go_enter Tryz.func101, Tryz.ntmps101
  go_wp2
  go_loop [3, 9] (fun x i => ∃ k : Nat, k ≤ 4 ∧ i = .int .i64 (k : Int) ∧ x = .int .u32 ((l.take k).foldl wordStep 0)) (fun _ i => 4 - (intOf i).toNat)
  case atStart => exact ⟨0, by omega, rfl, rfl⟩
  case round =>
    obtain ⟨k, hk, rfl, rfl⟩ := hrel
    by_cases hlt : k < 4
    · have hkl : k < l.length := by rw [hn'.out]; omega
      have hkk := hcell'.out k hkl
      have hst : Hid ((l.take (k + 1)).foldl wordStep 0 = bits .or .u32 ((l.take k).foldl wordStep 0 * 256 % 4294967296) ((l[k].toNat : Nat) : Int)) := Lib.hid (by
        rw [List.take_succ_eq_append_getElem hkl, List.foldl_append]
        rfl)
      unfold bv at hkk
      have hc256 : l[k].toNat < 256 := UInt8.toNat_lt l[k]
      generalize l[k].toNat = cc at *
      generalize (l.take k).foldl wordStep 0 = acc at *
      go_wp2
      go_round
      case rel => exact ⟨k + 1, by omega, by go_num, by rw [hst.out]⟩
      case measure => simp [intOf]; omega
    · have hk4 : k = 4 := by omega
      subst hk4
      go_wp2
      go_ret
      exact ⟨rfl, rfl⟩
end Go.Proofs.YtcilabemglbhbaaGreatDoor
