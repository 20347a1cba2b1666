/- Transactions as plain data, what it is for a Go value to read as one, and the contracts of the reference's small functions over them. -/
import Derived.Test.YtcilabemglbhbaaGreatDoorK3
namespace Go.Proofs.YtcilabemglbhbaaGreatDoor
open Go Go.RowKit Go.Pur

structure TIn where
  tx : Bytes
  n : Nat
  script : Bytes
  seq : Nat
structure TOut where
  value : Int
  script : Bytes
structure TTx where
  ver : Nat
  ins : List TIn
  outs : List TOut
  lock : Nat

def Int64 (x : Int) : Prop := -9223372036854775808 ≤ x ∧ x ≤ 9223372036854775807
def inCells (x : TIn) (sv : Value) : List Value := bvs x.tx ++ [.int .u32 (x.n : Int), sv, .int .u32 (x.seq : Int)]
def outCells (x : TOut) (sv : Value) : List Value := [.int .i64 x.value, sv]

theorem inCells_length (x : TIn) (sv : Value) (h : x.tx.length = 32) : (inCells x sv).length = 35 := by simp [inCells, bvs_length, h]
theorem inCells_one (x : TIn) (sv : Value) (h : sv.oneCell' = true) : (inCells x sv).toArray.all (·.oneCell') = true := by
  rw [Array.all_eq_true_iff_forall_mem]
  intro u hu
  have hu' : u ∈ inCells x sv := by simpa using hu
  unfold inCells at hu'
  rcases List.mem_append.1 hu' with h1 | h1
  · exact bvs_one _ u h1
  · simp only [List.mem_cons, List.not_mem_nil, or_false] at h1
    rcases h1 with rfl | rfl | rfl
    · rfl
    · exact h
    · rfl
theorem inCells_at (x : TIn) (sv : Value) (h : x.tx.length = 32) : (inCells x sv).toArray[32]? = some (.int .u32 (x.n : Int)) ∧ (inCells x sv).toArray[33]? = some sv ∧ (inCells x sv).toArray[34]? = some (.int .u32 (x.seq : Int)) := by
  simp [inCells, bvs_length, h]
theorem inCells_tx (x : TIn) (sv : Value) (j : Nat) (u : Value) (hu : (bvs x.tx)[j]? = some u) : (inCells x sv).toArray[0 + j]? = some u := by
  have hj : j < (bvs x.tx).length := by
    rcases Nat.lt_or_ge j (bvs x.tx).length with h | h
    · exact h
    · rw [List.getElem?_eq_none h] at hu; cases hu
  simp only [Nat.zero_add, List.getElem?_toArray, inCells]
  rw [List.getElem?_append_left hj]
  exact hu

theorem outCells_one (x : TOut) (sv : Value) (h : sv.oneCell' = true) : (outCells x sv).toArray.all (·.oneCell') = true := by
  rw [Array.all_eq_true_iff_forall_mem]
  intro u hu
  have hu' : u ∈ outCells x sv := by simpa using hu
  simp only [outCells, List.mem_cons, List.not_mem_nil, or_false] at hu'
  rcases hu' with rfl | rfl
  · rfl
  · exact h
def toU64 (v : Int) : Nat := (v % 18446744073709551616).toNat
theorem wrap_u64_int (v : Int) : IntKind.u64.wrap v = (toU64 v : Int) := by
  rw [IntKind.wrap_u64]
  unfold toU64
  omega
theorem toU64_lt (v : Int) : Lt64 (toU64 v) := by
  unfold toU64 Lt64
  omega

/-- the 35 cells from ⟨b, o⟩ on read as the input x. -/
def InAt (w : World) (B b o : Nat) (x : TIn) : Prop := ∃ sv, Byt w B sv x.script ∧ x.tx.length = 32 ∧ Lt32 x.n ∧ Lt32 x.seq ∧ ∀ j u, (inCells x sv)[j]? = some u → w.cell? ⟨b, o + j, none⟩ = some u
def OutAt (w : World) (B b o : Nat) (x : TOut) : Prop := ∃ sv, Byt w B sv x.script ∧ Int64 x.value ∧ w.cell? ⟨b, o, none⟩ = some (.int .i64 x.value) ∧ w.cell? ⟨b, o + 1, none⟩ = some sv
/-- the slice value v reads as the inputs xs; all lies below block B. -/
def InsAt (w : World) (B : Nat) (v : Value) (xs : List TIn) : Prop := ∃ A c, v = .slice A xs.length c ∧ xs.length ≤ c ∧ c ≤ maxLen ∧ (0 < xs.length → ∃ b o, A = some ⟨b, o, none⟩ ∧ b < B ∧ ∀ k x, xs[k]? = some x → InAt w B b (o + k * 35) x)
def OutsAt (w : World) (B : Nat) (v : Value) (xs : List TOut) : Prop := ∃ A c, v = .slice A xs.length c ∧ xs.length ≤ c ∧ c ≤ maxLen ∧ (0 < xs.length → ∃ b o, A = some ⟨b, o, none⟩ ∧ b < B ∧ ∀ k x, xs[k]? = some x → OutAt w B b (o + k * 2) x)
def TxAt (w : World) (B : Nat) (v : Value) (t : TTx) : Prop := ∃ iv ov, v = .agg #[.int .u32 (t.ver : Int), iv, ov, .int .u32 (t.lock : Int)] ∧ Lt32 t.ver ∧ Lt32 t.lock ∧ InsAt w B iv t.ins ∧ OutsAt w B ov t.outs

section
variable {w w' : World} {B B' : Nat} {v : Value}
theorem InAt.keep {b o : Nat} {x : TIn} (h : InAt w B b o x) (hb : b < B) (hk : ∀ p : Addr, p.block < B → w'.cell? p = w.cell? p) : InAt w' B b o x := by
  obtain ⟨sv, h1, h2, h3, h4, h5⟩ := h
  exact ⟨sv, h1.keep hk, h2, h3, h4, fun j u hu => (hk _ hb).trans (h5 j u hu)⟩
theorem OutAt.keep {b o : Nat} {x : TOut} (h : OutAt w B b o x) (hb : b < B) (hk : ∀ p : Addr, p.block < B → w'.cell? p = w.cell? p) : OutAt w' B b o x := by
  obtain ⟨sv, h1, h2, h3, h4⟩ := h
  exact ⟨sv, h1.keep hk, h2, (hk _ hb).trans h3, (hk _ hb).trans h4⟩
theorem InsAt.keep {xs : List TIn} (h : InsAt w B v xs) (hk : ∀ p : Addr, p.block < B → w'.cell? p = w.cell? p) : InsAt w' B v xs := by
  obtain ⟨A, c, hv, h1, h2, h3⟩ := h
  refine ⟨A, c, hv, h1, h2, fun hn => ?_⟩
  obtain ⟨b, o, hA, hb, hx⟩ := h3 hn
  exact ⟨b, o, hA, hb, fun k x hk' => (hx k x hk').keep hb hk⟩
theorem OutsAt.keep {xs : List TOut} (h : OutsAt w B v xs) (hk : ∀ p : Addr, p.block < B → w'.cell? p = w.cell? p) : OutsAt w' B v xs := by
  obtain ⟨A, c, hv, h1, h2, h3⟩ := h
  refine ⟨A, c, hv, h1, h2, fun hn => ?_⟩
  obtain ⟨b, o, hA, hb, hx⟩ := h3 hn
  exact ⟨b, o, hA, hb, fun k x hk' => (hx k x hk').keep hb hk⟩
theorem TxAt.keep {t : TTx} (h : TxAt w B v t) (hk : ∀ p : Addr, p.block < B → w'.cell? p = w.cell? p) : TxAt w' B v t := by
  obtain ⟨iv, ov, hv, h1, h2, h3, h4⟩ := h
  exact ⟨iv, ov, hv, h1, h2, h3.keep hk, h4.keep hk⟩
theorem InsAt.below {xs : List TIn} (h : InsAt w B v xs) (hb : Below B w w') : InsAt w' B v xs := h.keep fun _ hp => hb.cell hp
theorem OutsAt.below {xs : List TOut} (h : OutsAt w B v xs) (hb : Below B w w') : OutsAt w' B v xs := h.keep fun _ hp => hb.cell hp
theorem TxAt.below {t : TTx} (h : TxAt w B v t) (hb : Below B w w') : TxAt w' B v t := h.keep fun _ hp => hb.cell hp
end

theorem InsAt.tx32 {w : World} {B : Nat} {v : Value} {xs : List TIn} (h : InsAt w B v xs) : ∀ x ∈ xs, x.tx.length = 32 := by
  intro x hx
  obtain ⟨A, c, _, _, _, h3⟩ := h
  obtain ⟨k, hk, rfl⟩ := List.getElem_of_mem hx
  obtain ⟨b, o, _, _, hx⟩ := h3 (by omega)
  obtain ⟨sv, _, h32, _⟩ := hx k _ (List.getElem?_eq_getElem hk)
  exact h32

/-- no more than the statements go through. -/
def Small (t : TTx) : Prop := t.ins.length ≤ 60 ∧ t.outs.length ≤ 60 ∧ (∀ x ∈ t.ins, x.script.length ≤ 2100) ∧ (∀ x ∈ t.outs, x.script.length ≤ 2100)
def GreatPost (t : TTx) (w : World) (e : Ending) (w' : World) : Prop := ∃ r : Int, e = .returned (.int .i64 r) ∧ (r = 1 ∨ (r = 0 ∧ Small t)) ∧ Below w.heap.size w w'

def AllLe (m : Nat) (xs : List Bytes) (k : Nat) : Prop := ∀ j y, xs[j]? = some y → j < k → y.length ≤ m
theorem AllLe.zero (m : Nat) (xs : List Bytes) : AllLe m xs 0 := fun j y _ h => by omega
theorem AllLe.succ {m : Nat} {xs : List Bytes} {k : Nat} {y : Bytes} (h : AllLe m xs k) (hy : xs[k]? = some y) (hm : y.length ≤ m) : AllLe m xs (k + 1) := by
  intro j z hz hj
  by_cases e : j = k
  · subst e
    rw [hy] at hz
    injection hz with hz
    rw [← hz]; exact hm
  · exact h j z hz (by omega)
theorem AllLe.all {m : Nat} {xs : List Bytes} {k : Nat} (h : AllLe m xs k) (hk : xs.length ≤ k) : ∀ y ∈ xs, y.length ≤ m := by
  intro y hy
  obtain ⟨j, hj, rfl⟩ := List.getElem_of_mem hy
  exact h j _ (List.getElem?_eq_getElem hj) (by omega)

set_option maxRecDepth 100000 in
set_option maxHeartbeats 800000 in
theorem great_any (v : Value) (t : TTx) (B : Nat) (w : World) (hB : B ≤ w.heap.size) (h : TxAt w B v t) :
    Calls Tryz.prog 15 #[v] w (GreatPost t w) := by
  obtain ⟨iv, ov, rfl, _, _, hi, ho⟩ := h
  have hbw : Below B w (w.alloc (.cells #[.int .u32 (t.ver : Int), iv, ov, .int .u32 (t.lock : Int)] 52)) := (Below.refl _ _).alloc hB _
  have hi' := hi.below hbw
  have ho' := ho.below hbw
  have hbw' : Below w.heap.size w (w.alloc (.cells #[.int .u32 (t.ver : Int), iv, ov, .int .u32 (t.lock : Int)] 52)) := (Below.refl _ _).alloc (Nat.le_refl _) _
  obtain ⟨Ai, ci, rfl, hi1, hi2, hi3⟩ := hi'
  obtain ⟨Ao, co, rfl, ho1, ho2, ho3⟩ := ho'
  clear hi ho
  generalize hni : t.ins.length = ni at *
  generalize hno : t.outs.length = no at *
  have hni' := Lib.hid hni
  have hno' := Lib.hid hno
  clear hni hno
  have hi3' := Lib.hid hi3
  have ho3' := Lib.hid ho3
  clear hi3 ho3
  by_cases hbig : 60 < ni
  · go_enter Tryz.func15, Tryz.ntmps15
    go_wp2
    go_ret
    exact ⟨1, rfl, .inl rfl, hbw'⟩
  · by_cases hbig2 : 60 < no
    · go_enter Tryz.func15, Tryz.ntmps15
      go_wp2
      go_ret
      exact ⟨1, rfl, .inl rfl, hbw'⟩
    · go_enter Tryz.func15, Tryz.ntmps15
      go_wp2
      go_loop [3] (fun i => ∃ k : Nat, k ≤ ni ∧ i = .int .i64 (k : Int) ∧ AllLe 2100 (t.ins.map (·.script)) k) (fun i => ni - (intOf i).toNat)
      case atStart => exact ⟨0, by omega, rfl, AllLe.zero _ _⟩
      case round =>
        obtain ⟨k, hk, rfl, hall⟩ := hrel
        by_cases hlt : k < ni
        · obtain ⟨b, o, hA, hb, hx⟩ := hi3'.out (by omega)
          have hkl : k < t.ins.length := by rw [hni'.out]; exact hlt
          obtain ⟨sv, hs, hxl, _, _, hc⟩ := hx k t.ins[k] (List.getElem?_eq_getElem hkl)
          have hcs := hc 33 sv (by simp [inCells, bvs_length, hxl])
          subst hA
          obtain ⟨A', n', c', hsv, hn'⟩ : ∃ A n c, sv = .slice A n c ∧ n = t.ins[k].script.length := by
            obtain ⟨A, c, h, _⟩ := hs
            exact ⟨A, _, c, h, rfl⟩
          subst hsv
          have hn'' := Lib.hid hn'
          have hkk : (t.ins.map (·.script))[k]? = some t.ins[k].script := by simp [hkl]
          have hkk' := Lib.hid hkk
          clear hc hx hn' hkk hxl
          by_cases hle : 2100 < n'
          · go_wp2
            go_ret
            exact ⟨1, rfl, .inl rfl, hbw'⟩
          · go_wp2
            go_round
            case rel => exact ⟨k + 1, by omega, by go_num, hall.succ hkk'.out (by rw [← hn''.out]; omega)⟩
            case measure => simp [intOf]; omega
        · have hall1 := hall.all (by simp [hni'.out]; omega)
          clear hall
          have hall1' := Lib.hid hall1
          clear hall1
          go_wp2
          go_loop [4] (fun i => ∃ k : Nat, k ≤ no ∧ i = .int .i64 (k : Int) ∧ AllLe 2100 (t.outs.map (·.script)) k) (fun i => no - (intOf i).toNat)
          case atStart => exact ⟨0, by omega, rfl, AllLe.zero _ _⟩
          case round =>
            obtain ⟨k2, hk2, rfl, hall⟩ := hrel
            by_cases hlt2 : k2 < no
            · obtain ⟨b, o, hA, hb, hx⟩ := ho3'.out (by omega)
              have hkl : k2 < t.outs.length := by rw [hno'.out]; exact hlt2
              obtain ⟨sv, hs, _, _, hcs⟩ := hx k2 t.outs[k2] (List.getElem?_eq_getElem hkl)
              subst hA
              obtain ⟨A', n', c', hsv, hn'⟩ : ∃ A n c, sv = .slice A n c ∧ n = t.outs[k2].script.length := by
                obtain ⟨A, c, h, _⟩ := hs
                exact ⟨A, _, c, h, rfl⟩
              subst hsv
              have hn'' := Lib.hid hn'
              have hkk : (t.outs.map (·.script))[k2]? = some t.outs[k2].script := by simp [hkl]
              have hkk' := Lib.hid hkk
              clear hx hn' hkk
              by_cases hle : 2100 < n'
              · go_wp2
                go_ret
                exact ⟨1, rfl, .inl rfl, hbw'⟩
              · go_wp2
                go_round
                case rel => exact ⟨k2 + 1, by omega, by go_num, hall.succ hkk'.out (by rw [← hn''.out]; omega)⟩
                case measure => simp [intOf]; omega
            · go_wp2
              go_ret
              refine ⟨0, rfl, .inr ⟨rfl, ?_⟩, hbw'⟩
              refine ⟨by rw [hni'.out]; omega, by rw [hno'.out]; omega, fun x hx => hall1'.out _ (List.mem_map_of_mem hx), fun x hx => (hall.all (by simp [hno'.out]; omega)) _ (List.mem_map_of_mem hx)⟩
end Go.Proofs.YtcilabemglbhbaaGreatDoor
