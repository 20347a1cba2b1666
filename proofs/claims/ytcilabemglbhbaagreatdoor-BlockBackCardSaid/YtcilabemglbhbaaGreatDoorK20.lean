/- octet's Eye: the number that its first bytes are. -/
import Derived.Test.YtcilabemglbhbaaGreatDoorK19
namespace Go.Proofs.YtcilabemglbhbaaGreatDoor
open Go Go.RowKit Go.Pur Go.Shelf
attribute [local go_sem] Oper.semAt_some

/-- what bytes are as a number, the lowest first. -/
def leV : Bytes → Nat
  | [] => 0
  | c :: r => c.toNat + 256 * leV r
def numStep (n : Int) (x : Nat × UInt8) : Int := bits .or .u64 (n * 256 % 18446744073709551616) (x.2.toNat : Int)
theorem leV_lt : ∀ l : Bytes, leV l < 256 ^ l.length
  | [] => by simp [leV]
  | c :: r => by
    have h1 := leV_lt r
    have h2 := UInt8.toNat_lt c
    simp only [leV, List.length_cons, Nat.pow_succ]
    omega
theorem leV_snoc (l : Bytes) (c : UInt8) : leV (l ++ [c]) = leV l + 256 ^ l.length * c.toNat := by
  induction l with
  | nil => simp [leV]
  | cons d r ih =>
    simp only [List.cons_append, leV, ih, List.length_cons, Nat.pow_succ]
    rw [Nat.mul_add, ← Nat.mul_assoc, Nat.mul_comm 256 (256 ^ r.length)]
    omega
set_option maxRecDepth 100000 in
theorem or_byte (a c : Nat) (hc : c < 256) (h : a * 256 + c < 18446744073709551616) : bits .or .u64 ((a : Int) * 256 % 18446744073709551616) (c : Int) = ((a * 256 + c : Nat) : Int) := by
  have h1 : (a : Int) * 256 % 18446744073709551616 = ((a * 256 : Nat) : Int) := by omega
  rw [h1]
  have ho : a * 256 ||| c = a * 256 + c := by
    have := Nat.two_pow_add_eq_or_of_lt (i := 8) (b := c) (by omega) a
    rw [show (2 : Nat) ^ 8 = 256 by rfl] at this
    rw [Nat.mul_comm a 256]
    exact this.symm
  show IntKind.u64.wrap ((BitVec.ofInt 64 ((a * 256 : Nat) : Int) ||| BitVec.ofInt 64 (c : Int)).toNat : Int) = _
  rw [BitVec.toNat_or, BitVec.ofInt_natCast, BitVec.ofInt_natCast, BitVec.toNat_ofNat, BitVec.toNat_ofNat, Nat.mod_eq_of_lt (by omega), Nat.mod_eq_of_lt (by omega), ho, IntKind.wrap_u64]
  omega
set_option maxRecDepth 100000 in
/-- the number behind the first m elements of the iterator. -/
theorem numFold (l : Bytes) (size : Nat) (hs : size ≤ l.length) (h8 : size ≤ 8) : ∀ m, m ≤ size → ((highL l size).take m).foldl numStep 0 = ((leV ((l.drop (size - m)).take m) : Nat) : Int)
  | 0, _ => by simp [leV]
  | m + 1, h => by
    have ih := numFold l size hs h8 m (by omega)
    rw [highL_take l size m (by omega), List.foldl_append, ih]
    have hd : (l.drop (size - (m + 1))).take (m + 1) = l.getD (size - 1 - m) 0 :: (l.drop (size - m)).take m := by
      have hlt : size - (m + 1) < l.length := by omega
      rw [List.drop_eq_getElem_cons hlt, List.take_succ_cons, show size - (m + 1) + 1 = size - m by omega]
      congr 1
      rw [show size - 1 - m = size - (m + 1) by omega]
      simp [hlt]
    rw [hd]
    have hb := leV_lt ((l.drop (size - m)).take m)
    have hml : ((l.drop (size - m)).take m).length = m := by rw [List.length_take, List.length_drop]; omega
    rw [hml] at hb
    have hc := UInt8.toNat_lt (l.getD (size - 1 - m) 0)
    have hp : 256 ^ m * 256 ≤ 256 ^ 8 := by rw [← Nat.pow_succ]; exact Nat.pow_le_pow_right (by omega) (by omega)
    have hp8 : (256 : Nat) ^ 8 = 18446744073709551616 := by decide
    simp only [List.foldl_cons, List.foldl_nil, numStep, leV]
    rw [or_byte _ _ hc (by rw [hp8] at hp; omega)]
    congr 1
    omega

theorem high_any (p size : Nat) (w : World) : Calls Tryz.prog 81 #[.pointer (some ⟨p, 0, none⟩), .int .i64 (size : Int)] w fun e w' =>
    e = .returned (.func (.func 94) #[] #[.pointer (some ⟨w.heap.size + 1, 0, none⟩), .pointer (some ⟨w.heap.size, 0, none⟩)]) ∧ w' = (w.alloc (.cells #[.pointer (some ⟨p, 0, none⟩)] 54)).alloc (.cells #[.int .i64 (size : Int)] 3) := by
  have hmf : ∀ (fn : Fn) (first cap : Array Value) (w : World), (Instr.makeFunc fn first cap).run Tryz.prog w = .ok (.func fn first cap) w := fun _ _ _ _ => rfl
  go_enter Tryz.func81, Tryz.ntmps81
  go_wp2
  go_ret
  exact ⟨rfl, rfl⟩

/-- what holds between two rounds. -/
structure NInv (bn : Nat) (w0 : World) (pre : List (Nat × UInt8)) (W : World) : Prop where
  cell : Blk W bn 59 #[.int .u64 (pre.foldl numStep 0)]
  below : Below w0.heap.size w0 W
  old : w0.heap.size ≤ bn
theorem NInv.grown {bn : Nat} {w0 A B : World} {pre : List (Nat × UInt8)} {row : Option Nat} (h : NInv bn w0 pre A) (hg : A.grownBy B row) (hr : ∀ r, row = some r → w0.heap.size ≤ r ∧ ∃ o : Obj, A.heap[r]? = some o ∧ o.isCells = false) : NInv bn w0 pre B := by
  obtain ⟨h1, h2, h3⟩ := h
  refine ⟨h1.grown hg (fun e => ?_), h2.grown hg h2.size (fun k hk => (hr k hk).1), h3⟩
  obtain ⟨_, o, ho, hc⟩ := hr bn e.symm
  unfold Blk at h1
  rw [h1] at ho
  injection ho with ho
  rw [← ho] at hc
  cases hc

set_option maxRecDepth 100000 in
set_option maxHeartbeats 1600000 in
theorem number_any (p size : Nat) (l : Bytes) (w : World) (he : EyeAt w p l) (hs : size ≤ l.length) (h8 : size ≤ 8) :
    Calls Tryz.prog 61 #[.pointer (some ⟨p, 0, none⟩), .int .i64 (size : Int)] w fun e w' => e = .returned (.int .u64 ((leV (l.take size) : Nat) : Int)) ∧ Below w.heap.size w w' := by
  obtain ⟨sv, hp, hv⟩ := he
  have hpl := hp.lt
  refine calls_of_wp_marks Tryz.func61 rfl ?_
  simp only [Tryz.ntmps61, List.size_toArray, List.length_cons, List.length_nil, Nat.reduceAdd, Nat.reduceSub, Array.replicate_succ, Array.replicate_zero, List.push_toArray, List.append_toArray, List.nil_append, List.cons_append]
  go_wp2
  go_step3
  go_wp2
  go_step3
  go_wp2_with (go_at_call 81; refine (high_any p size _).mono ?_; rintro e w5 ⟨rfl, rfl⟩)
  obtain ⟨W3, hW3⟩ : ∃ W3, W3 = ((w.alloc (.cells #[.int .u64 0] 59)).alloc (.cells #[.pointer (some ⟨p, 0, none⟩)] 54)).alloc (.cells #[.int .i64 (size : Int)] 3) := ⟨_, rfl⟩
  rw [← hW3]
  have hb3 : Below w.heap.size w W3 := by rw [hW3]; exact (((Below.refl _ _).alloc (Nat.le_refl _) _).alloc (by simp) _).alloc (by simp; omega) _
  have hs3 : W3.heap.size = w.heap.size + 1 + 1 + 1 := by rw [hW3]; simp
  have hbn : Blk W3 w.heap.size 59 #[.int .u64 0] := by rw [hW3]; exact ((Blk.new w _ _).alloc _).alloc _
  have hbe : Blk W3 (w.heap.size + 1) 54 #[.pointer (some ⟨p, 0, none⟩)] := by
    rw [hW3]
    have := (Blk.new (w.alloc (.cells #[.int .u64 0] 59)) 54 #[.pointer (some ⟨p, 0, none⟩)]).alloc (.cells #[.int .i64 (size : Int)] 3)
    simpa using this
  have hbs : Blk W3 (w.heap.size + 1 + 1) 3 #[.int .i64 (size : Int)] := by
    rw [hW3]
    have := Blk.new ((w.alloc (.cells #[.int .u64 0] 59)).alloc (.cells #[.pointer (some ⟨p, 0, none⟩)] 54)) 3 #[.int .i64 (size : Int)]
    simpa using this
  have hseq := high1_in 2 (by omega) (w.heap.size + 1 + 1) (w.heap.size + 1) p size sv l W3 hbs hbe (hp.below hb3 hpl) (hv.below (hb3.mono (Nat.le_of_lt hpl))) hs h8
  have hinv0 : NInv w.heap.size w [] W3 := ⟨hbn, hb3, Nat.le_refl _⟩
  have hfold := numFold l size hs h8 size (Nat.le_refl _)
  rw [Nat.sub_self, List.drop_zero, List.take_of_length_le (by rw [highL_length]; omega)] at hfold
  have hfold' := Lib.hid hfold
  clear hW3 hbn hbe hbs hp hv hfold hb3
  refine wp_rangeFunc_nx (gf := 94) (lb := #[.pointer (some ⟨w.heap.size + 1 + 1, 0, none⟩), .pointer (some ⟨w.heap.size + 1, 0, none⟩)]) rfl (enters_of Tryz.func94 (by kernel_rfl) rfl) hseq (fun {A B C} h1 h2 k hk => (h2 k hk).trans (h1 k hk)) (fun W l o o' hl _ _ _ k hk => World.putObj_heap_other (by omega)) (Below.refl _ _) (fun _ => rfl)
    (NInv w.heap.size w) (fun c pre W => c = .exit 0 ∧ pre = highL l size ∧ NInv w.heap.size w pre W)
    (fun pre A B row h hg hr => h.grown hg (fun r e => ⟨by have := (hr r e).1; omega, (hr r e).2⟩)) (fun c pre A B row h hg hr => ⟨h.1, h.2.1, h.2.2.grown hg (fun r e => ⟨by have := (hr r e).1; omega, (hr r e).2⟩)⟩)
    (fun pre A B h hg hr => h.grown hg (fun r e => by cases e)) (fun c pre A B h hg hr => ⟨h.1, h.2.1, h.2.2.grown hg (fun r e => by cases e)⟩)
    hinv0 ?round ?done ?stop
  case stop =>
    rintro D c pre W hD - ⟨rfl, rfl, hinv⟩ hK
    have hcell := hinv.cell.cell 0
    rw [hfold'.out] at hcell
    have hinv' := Lib.hid hinv
    clear hinv
    go_wp2
    rw [Exit.noGoto_ret]
    refine ⟨by simp, .inl ⟨_, _, rfl, run_takeDeferred hK, ?_⟩⟩
    have hfin := hinv'.out.grown (grownBy_putObj' W D (.deferred none)) (fun r e => by injection e with e; subst e; exact ⟨by omega, _, hK, rfl⟩)
    exact ⟨_, results_tmp rfl _ _ _, rfl, hfin.below⟩
  case done =>
    rintro D ys W hD rfl hinv hK
    have hcell := hinv.cell.cell 0
    rw [hfold'.out] at hcell
    have hinv' := Lib.hid hinv
    clear hinv
    go_wp2
    rw [Exit.noGoto_ret]
    refine ⟨by simp, .inl ⟨_, _, rfl, run_takeDeferred hK, ?_⟩⟩
    have hfin := hinv'.out.grown (grownBy_putObj' W D (.deferred none)) (fun r e => by injection e with e; subst e; exact ⟨by omega, _, hK, rfl⟩)
    exact ⟨_, results_tmp rfl _ _ _, rfl, hfin.below⟩
  case round =>
    intro l' x W K hK
    obtain ⟨j, c⟩ := x
    simp only [encH, bv]
    gi_wp2
    rintro pre W' hinv ⟨post, hpost⟩
    obtain ⟨hc, hbl, hold⟩ := hinv
    have hcell := hc.cell 0
    have hfro := hc.frozen 0
    have hcl := hc.lt
    have hKO : ∀ u : Value, KeepsOthers W' (W'.setCell ⟨w.heap.size, 0, none⟩ u) := fun u => KeepsOthers.of_grownBy (row := some w.heap.size) ⟨rfl, rfl, rfl, by simp [World.setCell], fun k _ hk => Below.heap_setCell _ _ _ _ (fun e => hk (by rw [e]))⟩ (fun j o e ho => by
      injection e with e
      subst e
      unfold Blk at hc
      rw [hc] at ho
      injection ho with ho
      rw [← ho]
      rfl)
    have hKp : ∀ (u : Value) (k : Nat), k ≤ p ∨ k = w.heap.size + 1 + 1 ∨ k = w.heap.size + 1 → (W'.setCell ⟨w.heap.size, 0, none⟩ u).heap[k]? = W'.heap[k]? := fun u k hk => Below.heap_setCell _ _ _ _ (by simp only; omega)
    have hI : ∀ u, u = Value.int .u64 ((pre ++ [(j, c)]).foldl numStep 0) → NInv w.heap.size w (pre ++ [(j, c)]) (W'.setCell ⟨w.heap.size, 0, none⟩ u) := fun u e => by
      subst e
      exact ⟨hc.set_ 0 _, hbl.setCell (p := ⟨w.heap.size, 0, none⟩) (Nat.le_refl _) _, hold⟩
    have hst : (pre ++ [(j, c)]).foldl numStep 0 = bits .or .u64 ((pre.foldl numStep 0) * 256 % 18446744073709551616) (c.toNat : Int) := by
      rw [List.foldl_append]
      rfl
    have hfull : j = 0 → pre ++ [(j, c)] = highL l size := fun hj0 => by
      have hlen := congrArg List.length hpost
      rw [highL_length, List.length_append, List.length_cons] at hlen
      have hget : (highL l size)[pre.length]? = some (j, c) := by rw [hpost]; simp
      simp only [highL, List.getElem?_map] at hget
      rw [List.getElem?_range (by omega)] at hget
      simp only [Option.map_some, Option.some.injEq, Prod.mk.injEq] at hget
      have : post = [] := List.eq_nil_of_length_eq_zero (by omega)
      rw [hpost, this]
    have hst' := Lib.hid hst
    have hI' := Lib.hid hI
    have hKO' := Lib.hid hKO
    have hKp' := Lib.hid hKp
    have hfull' := Lib.hid hfull
    have hcb := UInt8.toNat_lt c
    generalize c.toNat = cc at *
    generalize pre.foldl numStep 0 = acc at *
    clear hst hI hKO hKp hfull hpost hc hinv0
    by_cases hj : j = 0
    · subst hj
      gi_wp2
      exact ⟨hKO'.out _, rfl, hfull'.out trivial, hI'.out _ (by rw [hst'.out, IntKind.wrap_u64])⟩
    · gi_wp2
      exact ⟨hKO'.out _, hKp'.out _, hI'.out _ (by rw [hst'.out, IntKind.wrap_u64])⟩
end Go.Proofs.YtcilabemglbhbaaGreatDoor
