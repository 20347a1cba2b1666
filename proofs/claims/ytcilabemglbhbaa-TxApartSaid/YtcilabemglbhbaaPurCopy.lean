/- tx.Copy: a transaction like that one, its memory new. -/
import Derived.Test.YtcilabemglbhbaaPurInj
namespace Go.Proofs.Ytcilabemglbhbaa
open Go Go.RowKit Go.Pur

theorem in_info : (Try.prog.info? 47).map (fun i => (i.zero.map (·.cells.size), i.size, i.bytes)) = some (some 35, 35, 72) := by kernel_rfl
theorem out_info : (Try.prog.info? 49).map (fun i => (i.zero.map (·.cells.size), i.size, i.bytes)) = some (some 2, 2, 32) := by kernel_rfl
theorem info_zparts {P : Program} {e : TypeId} {zs size bytes : Nat} (h : (P.info? e).map (fun i => (i.zero.map (·.cells.size), i.size, i.bytes)) = some (some zs, size, bytes)) :
    ∃ i z, P.info? e = some i ∧ i.zero = some z ∧ z.cells.size = zs ∧ i.size = size ∧ i.bytes = bytes := by
  obtain ⟨i, hi, hzz⟩ := Option.map_eq_some_iff.1 h
  simp only [Prod.mk.injEq] at hzz
  obtain ⟨z, hz, hzs⟩ := Option.map_eq_some_iff.1 hzz.1
  exact ⟨i, z, hi, hz, hzs, hzz.2.1, hzz.2.2⟩

/-- parts of one size, one behind the other. -/
theorem flat_get {α : Type} (f : α → List Value) (sz : Nat) (hsz : 0 < sz) : ∀ (ps : List α) (_ : ∀ p ∈ ps, (f p).length = sz) (j : Nat), (ps.flatMap f)[j]? = (ps[j / sz]?).bind (fun p => (f p)[j % sz]?)
  | [], _, j => by simp
  | p :: ps, hf, j => by
    have hp := hf p (by simp)
    rw [List.flatMap_cons]
    rcases Nat.lt_or_ge j sz with h | h
    · rw [List.getElem?_append_left (by rw [hp]; exact h), Nat.div_eq_of_lt h, Nat.mod_eq_of_lt h]
      simp
    · rw [List.getElem?_append_right (by rw [hp]; exact h), hp, flat_get f sz hsz ps (fun q hq => hf q (by simp [hq])) (j - sz)]
      have e1 : j / sz = (j - sz) / sz + 1 := by
        rw [← Nat.sub_add_cancel h, Nat.add_div_right _ hsz, Nat.add_sub_cancel]
      have e2 : j % sz = (j - sz) % sz := by
        rw [Nat.mod_eq_sub_mod h]
      rw [e1, e2]
      simp
theorem flat_len {α : Type} (f : α → List Value) (sz : Nat) : ∀ (ps : List α) (_ : ∀ p ∈ ps, (f p).length = sz), (ps.flatMap f).length = ps.length * sz
  | [], _ => by simp
  | p :: ps, hf => by
    rw [List.flatMap_cons, List.length_append, hf p (by simp), flat_len f sz ps (fun q hq => hf q (by simp [hq])), List.length_cons, Nat.succ_mul, Nat.add_comm]

/-- an input and its script's slice, within their kinds. -/
def InVal (w : World) (B : Nat) (x : TIn) (sv : Value) : Prop := Byt w B sv x.script ∧ x.tx.length = 32 ∧ Lt32 x.n ∧ Lt32 x.seq
/-- the row at v is the call's own, from block base on, and reads as the inputs xs; the scripts lie below B. -/
def InsMine (w : World) (base B : Nat) (v : Value) (xs : List TIn) : Prop := ∃ A c, v = .slice A xs.length c ∧ xs.length ≤ c ∧ c ≤ maxLen ∧
  (0 < xs.length → ∃ g cs, A = some ⟨g, 0, none⟩ ∧ base ≤ g ∧ Blk w g 47 cs ∧ ∀ k x, xs[k]? = some x → ∃ sv, InVal w B x sv ∧ ∀ j u, (inCells x sv)[j]? = some u → cs[k * 35 + j]? = some u)
theorem InsAt.flat {w : World} {B : Nat} {v : Value} {xs : List TIn} (h : InsAt w B v xs) : ∃ (f : Nat → Value), (∀ k x, xs[k]? = some x → InVal w B x (f k)) ∧
    ∀ A c, v = .slice A xs.length c → Reads w B 35 A xs.length ((xs.mapIdx fun k x => (x, f k)).flatMap fun p => inCells p.1 p.2) := by
  obtain ⟨A, c, rfl, h1, h2, h3⟩ := h
  have hex : ∀ k, ∃ sv, ∀ x, xs[k]? = some x → InVal w B x sv ∧ ∀ b o, A = some ⟨b, o, none⟩ → ∀ j u, (inCells x sv)[j]? = some u → w.cell? ⟨b, o + k * 35 + j, none⟩ = some u := by
    intro k
    rcases hx : xs[k]? with _ | x
    · exact ⟨undef, fun x h => by cases h⟩
    · have hk : k < xs.length := by
        rcases Nat.lt_or_ge k xs.length with h | h
        · exact h
        · rw [List.getElem?_eq_none h] at hx; cases hx
      obtain ⟨b, o, hA, hb, hc⟩ := h3 (by omega)
      obtain ⟨sv, g1, g2, g3, g4, g5⟩ := hc k x hx
      refine ⟨sv, fun y hy => ?_⟩
      injection hy with hy
      subst hy
      refine ⟨⟨g1, g2, g3, g4⟩, fun b' o' e => ?_⟩
      rw [hA] at e
      injection e with e
      injection e with e1 e2
      subst e1; subst e2
      exact g5
  obtain ⟨f, hf⟩ := Classical.axiomOfChoice hex
  refine ⟨f, fun k x hx => (hf k x hx).1, fun A' c' e => ?_⟩
  injection e with e1 e2 e3
  subst e1
  have hlen : ∀ p ∈ (xs.mapIdx fun k x => (x, f k)), (inCells p.1 p.2).length = 35 := by
    intro p hp
    obtain ⟨k, hk, rfl⟩ := List.getElem_of_mem hp
    rw [List.length_mapIdx] at hk
    rw [List.getElem_mapIdx]
    exact inCells_length _ _ (hf k _ (List.getElem?_eq_getElem hk)).1.2.1
  refine ⟨by rw [flat_len _ 35 _ hlen, List.length_mapIdx], fun hn => ?_⟩
  obtain ⟨b, o, hA, hb, hc⟩ := h3 hn
  refine ⟨_, hA, hb, fun j u hu => ?_⟩
  rw [flat_get _ 35 (by decide) _ hlen, List.getElem?_mapIdx] at hu
  obtain ⟨p, hp, hu⟩ := Option.bind_eq_some_iff.1 hu
  obtain ⟨x, hx, rfl⟩ := Option.map_eq_some_iff.1 hp
  have e : (⟨b, o, none⟩ : Addr).add j = ⟨b, o + (j / 35) * 35 + j % 35, none⟩ := by
    have hj : o + (j / 35) * 35 + j % 35 = o + j := by omega
    rw [hj]
    unfold Addr.add
    split <;> simp_all
  rw [e]
  exact (hf _ x hx).2 b o hA _ u hu
theorem insMine_of_own {w w1 : World} {base B : Nat} {v : Value} {xs : List TIn} {f : Nat → Value} (hf : ∀ k x, xs[k]? = some x → InVal w B x (f k)) (hw : ∀ k x, xs[k]? = some x → Byt w1 B (f k) x.script)
    (h : w1.ownsRow base 47 35 v xs.length ((xs.mapIdx fun k x => (x, f k)).flatMap fun p => inCells p.1 p.2)) : InsMine w1 base B v xs := by
  have hlen : ∀ p ∈ (xs.mapIdx fun k x => (x, f k)), (inCells p.1 p.2).length = 35 := by
    intro p hp
    obtain ⟨k, hk, rfl⟩ := List.getElem_of_mem hp
    rw [List.length_mapIdx] at hk
    rw [List.getElem_mapIdx]
    exact inCells_length _ _ (hf k _ (List.getElem?_eq_getElem hk)).2.1
  rcases h.2 with ⟨rfl, h0⟩ | ⟨g, cap, cur, rfl, hbase, hg, hnc, hcm, hcs, htake⟩
  · refine ⟨none, 0, by rw [h0], by omega, by simp [maxLen], fun hn => by omega⟩
  · refine ⟨_, cap, rfl, hnc, hcm, fun hn => ⟨g, cur, rfl, hbase, hg, fun k x hx => ⟨f k, ⟨hw k x hx, (hf k x hx).2⟩, fun j u hu => ?_⟩⟩⟩
    have hj : j < 35 := by
      rw [← inCells_length x (f k) (hf k x hx).2.1]
      rcases Nat.lt_or_ge j (inCells x (f k)).length with h | h
      · exact h
      · rw [List.getElem?_eq_none h] at hu; cases hu
    have e := flat_get (fun p : TIn × Value => inCells p.1 p.2) 35 (by decide) _ hlen (k * 35 + j)
    rw [show (k * 35 + j) / 35 = k by omega, show (k * 35 + j) % 35 = j by omega, List.getElem?_mapIdx, hx] at e
    simp only [Option.map_some, Option.bind_some] at e
    rw [hu, ← htake, List.getElem?_take] at e
    split at e
    · rw [← e]; simp
    · cases e

set_option maxRecDepth 100000 in
set_option maxHeartbeats 800000 in
theorem cloneIns_any (v : Value) (xs : List TIn) (B : Nat) (w : World) (hB : B ≤ w.heap.size) (hl : xs.length ≤ 1000) (h : InsAt w B v xs) :
    Calls Try.prog 34 #[v] w fun e w' => ∃ v', e = .returned v' ∧ InsMine w' w.heap.size B v' xs ∧ Below w.heap.size w w' := by
  obtain ⟨f, hf, hr⟩ := h.flat
  obtain ⟨A, c, rfl, h1, h2, h3⟩ := h
  have hr := hr A c rfl
  have hq := fun (W : World) (a : Option Addr) (n m : Nat) => Lib.run_eql_slice_nil (P := Try.prog) W 23 47 a n m 0 0 Try.underlying23
  rcases A with _ | ad
  · have hl0 : xs = [] := by
      rcases xs with _ | ⟨x, r⟩
      · rfl
      · obtain ⟨b, o, hn, _⟩ := h3 (by simp)
        cases hn
    have hl0' := Lib.hid hl0
    clear hl0 h3 hr hf
    go_enter Try.func34, Try.ntmps34
    go_wp2_with fail
    go_ret
    refine ⟨_, rfl, ?_, Below.refl _ _⟩
    rw [hl0'.out]
    exact ⟨none, 0, rfl, by simp, by simp [maxLen], fun hn => by simp at hn⟩
  · obtain ⟨i0, z0, hi, hz0, hz, hz1, hz2⟩ := info_zparts in_info
    have hr1 := hr.alloc hB (.cells #[] 47)
    have hown : (w.alloc (.cells #[] 47)).ownsRow w.heap.size 47 35 (.slice (some ⟨w.heap.size, 0, none⟩) 0 0) 0 [] :=
      ⟨rfl, .inr ⟨_, _, _, rfl, Nat.le_refl _, Blk.new w _ _, Nat.le_refl _, by simp [maxLen], rfl, rfl⟩⟩
    have hone : ∀ u ∈ ((xs.mapIdx fun k x => (x, f k)).flatMap fun p => inCells p.1 p.2), u.oneCell' = true := by
      intro u hu
      obtain ⟨p, hp, hu⟩ := List.mem_flatMap.1 hu
      obtain ⟨k, hk, rfl⟩ := List.getElem_of_mem hp
      rw [List.length_mapIdx] at hk
      rw [List.getElem_mapIdx] at hu
      obtain ⟨A', c', hfk, _⟩ := (hf k _ (List.getElem?_eq_getElem hk)).1
      have := inCells_one xs[k] (f k) (by rw [hfk]; rfl)
      rw [Array.all_eq_true_iff_forall_mem] at this
      exact this u (by simpa using hu)
    have hf' := Lib.hid hf
    generalize hfl : ((xs.mapIdx fun k x => (x, f k)).flatMap fun p => inCells p.1 p.2) = fl at *
    have hfl' := Lib.hid hfl
    clear hfl h3 hf hr
    generalize hnl : xs.length = n at *
    have hnl' := Lib.hid hnl
    clear hnl
    go_enter Try.func34, Try.ntmps34
    go_wp2_with (at_builtin; refine wpList_append_any _ rfl _ _ _ rfl w.heap.size 47 i0 z0 35 72 Try.underlying23 hi hz0 hz1 hz2 hz (by decide) _ 0 [] rfl hown B (some ad) n c fl rfl hr1 hone (by simp only [maxLen]; omega) (by omega) (by simp) ?_; intro v' w1 hown1 hg1 hf1)
    go_ret
    have hb1 : Below w.heap.size w w1 := ((Below.refl _ _).alloc (Nat.le_refl _) _).grown hg1 (by simp) (fun k hk => by injection hk with hk; simp only at hk; omega)
    refine ⟨v', rfl, ?_, hb1⟩
    refine insMine_of_own hf'.out (fun k x hx => (hf'.out k x hx).1.below (hb1.mono hB)) ?_
    rw [hfl'.out, hnl'.out]
    simpa using hown1
theorem OutAt.cells2 {w : World} {B b o : Nat} {x : TOut} (h : OutAt w B b o x) : ∃ sv, Byt w B sv x.script ∧ Int64 x.value ∧ ∀ j u, (outCells x sv)[j]? = some u → w.cell? ⟨b, o + j, none⟩ = some u := by
  obtain ⟨sv, h1, h2, h3, h4⟩ := h
  refine ⟨sv, h1, h2, fun j u hu => ?_⟩
  unfold outCells at hu
  rcases j with _ | _ | j
  · injection hu with hu; rw [← hu]; exact h3
  · injection hu with hu; rw [← hu]; exact h4
  · simp at hu
/-- an output and its script's slice, within their kinds. -/
def OutVal (w : World) (B : Nat) (x : TOut) (sv : Value) : Prop := Byt w B sv x.script ∧ Int64 x.value
/-- the row at v is the call's own, from block base on, and reads as the outputs xs; the scripts lie below B. -/
def OutsMine (w : World) (base B : Nat) (v : Value) (xs : List TOut) : Prop := ∃ A c, v = .slice A xs.length c ∧ xs.length ≤ c ∧ c ≤ maxLen ∧
  (0 < xs.length → ∃ g cs, A = some ⟨g, 0, none⟩ ∧ base ≤ g ∧ Blk w g 49 cs ∧ ∀ k x, xs[k]? = some x → ∃ sv, OutVal w B x sv ∧ ∀ j u, (outCells x sv)[j]? = some u → cs[k * 2 + j]? = some u)
theorem OutsAt.flat {w : World} {B : Nat} {v : Value} {xs : List TOut} (h : OutsAt w B v xs) : ∃ (f : Nat → Value), (∀ k x, xs[k]? = some x → OutVal w B x (f k)) ∧
    ∀ A c, v = .slice A xs.length c → Reads w B 2 A xs.length ((xs.mapIdx fun k x => (x, f k)).flatMap fun p => outCells p.1 p.2) := by
  obtain ⟨A, c, rfl, h1, h2, h3⟩ := h
  have hex : ∀ k, ∃ sv, ∀ x, xs[k]? = some x → OutVal w B x sv ∧ ∀ b o, A = some ⟨b, o, none⟩ → ∀ j u, (outCells x sv)[j]? = some u → w.cell? ⟨b, o + k * 2 + j, none⟩ = some u := by
    intro k
    rcases hx : xs[k]? with _ | x
    · exact ⟨undef, fun x h => by cases h⟩
    · have hk : k < xs.length := by
        rcases Nat.lt_or_ge k xs.length with h | h
        · exact h
        · rw [List.getElem?_eq_none h] at hx; cases hx
      obtain ⟨b, o, hA, hb, hc⟩ := h3 (by omega)
      obtain ⟨sv, g1, g2, g3⟩ := (hc k x hx).cells2
      refine ⟨sv, fun y hy => ?_⟩
      injection hy with hy
      subst hy
      refine ⟨⟨g1, g2⟩, fun b' o' e => ?_⟩
      rw [hA] at e
      injection e with e
      injection e with e1 e2
      subst e1; subst e2
      exact g3
  obtain ⟨f, hf⟩ := Classical.axiomOfChoice hex
  refine ⟨f, fun k x hx => (hf k x hx).1, fun A' c' e => ?_⟩
  injection e with e1 e2 e3
  subst e1
  have hlen : ∀ p ∈ (xs.mapIdx fun k x => (x, f k)), (outCells p.1 p.2).length = 2 := by
    intro p hp
    obtain ⟨k, hk, rfl⟩ := List.getElem_of_mem hp
    rw [List.length_mapIdx] at hk
    rw [List.getElem_mapIdx]
    rfl
  refine ⟨by rw [flat_len _ 2 _ hlen, List.length_mapIdx], fun hn => ?_⟩
  obtain ⟨b, o, hA, hb, hc⟩ := h3 hn
  refine ⟨_, hA, hb, fun j u hu => ?_⟩
  rw [flat_get _ 2 (by decide) _ hlen, List.getElem?_mapIdx] at hu
  obtain ⟨p, hp, hu⟩ := Option.bind_eq_some_iff.1 hu
  obtain ⟨x, hx, rfl⟩ := Option.map_eq_some_iff.1 hp
  have e : (⟨b, o, none⟩ : Addr).add j = ⟨b, o + (j / 2) * 2 + j % 2, none⟩ := by
    have hj : o + (j / 2) * 2 + j % 2 = o + j := by omega
    rw [hj]
    unfold Addr.add
    split <;> simp_all
  rw [e]
  exact (hf _ x hx).2 b o hA _ u hu
theorem outsMine_of_own {w w1 : World} {base B : Nat} {v : Value} {xs : List TOut} {f : Nat → Value} (hf : ∀ k x, xs[k]? = some x → OutVal w B x (f k)) (hw : ∀ k x, xs[k]? = some x → Byt w1 B (f k) x.script)
    (h : w1.ownsRow base 49 2 v xs.length ((xs.mapIdx fun k x => (x, f k)).flatMap fun p => outCells p.1 p.2)) : OutsMine w1 base B v xs := by
  have hlen : ∀ p ∈ (xs.mapIdx fun k x => (x, f k)), (outCells p.1 p.2).length = 2 := by
    intro p hp
    obtain ⟨k, hk, rfl⟩ := List.getElem_of_mem hp
    rw [List.length_mapIdx] at hk
    rw [List.getElem_mapIdx]
    rfl
  rcases h.2 with ⟨rfl, h0⟩ | ⟨g, cap, cur, rfl, hbase, hg, hnc, hcm, hcs, htake⟩
  · refine ⟨none, 0, by rw [h0], by omega, by simp [maxLen], fun hn => by omega⟩
  · refine ⟨_, cap, rfl, hnc, hcm, fun hn => ⟨g, cur, rfl, hbase, hg, fun k x hx => ⟨f k, ⟨hw k x hx, (hf k x hx).2⟩, fun j u hu => ?_⟩⟩⟩
    have hj : j < 2 := by
      rw [← outCells_len x (f k)]
      rcases Nat.lt_or_ge j (outCells x (f k)).length with h | h
      · exact h
      · rw [List.getElem?_eq_none h] at hu; cases hu
    have e := flat_get (fun p : TOut × Value => outCells p.1 p.2) 2 (by decide) _ hlen (k * 2 + j)
    rw [show (k * 2 + j) / 2 = k by omega, show (k * 2 + j) % 2 = j by omega, List.getElem?_mapIdx, hx] at e
    simp only [Option.map_some, Option.bind_some] at e
    rw [hu, ← htake, List.getElem?_take] at e
    split at e
    · rw [← e]; simp
    · cases e

set_option maxRecDepth 100000 in
set_option maxHeartbeats 800000 in
theorem cloneOuts_any (v : Value) (xs : List TOut) (B : Nat) (w : World) (hB : B ≤ w.heap.size) (hl : xs.length ≤ 1000) (h : OutsAt w B v xs) :
    Calls Try.prog 35 #[v] w fun e w' => ∃ v', e = .returned v' ∧ OutsMine w' w.heap.size B v' xs ∧ Below w.heap.size w w' := by
  obtain ⟨f, hf, hr⟩ := h.flat
  obtain ⟨A, c, rfl, h1, h2, h3⟩ := h
  have hr := hr A c rfl
  have hq := fun (W : World) (a : Option Addr) (n m : Nat) => Lib.run_eql_slice_nil (P := Try.prog) W 24 49 a n m 0 0 Try.underlying24
  rcases A with _ | ad
  · have hl0 : xs = [] := by
      rcases xs with _ | ⟨x, r⟩
      · rfl
      · obtain ⟨b, o, hn, _⟩ := h3 (by simp)
        cases hn
    have hl0' := Lib.hid hl0
    clear hl0 h3 hr hf
    go_enter Try.func35, Try.ntmps35
    go_wp2_with fail
    go_ret
    refine ⟨_, rfl, ?_, Below.refl _ _⟩
    rw [hl0'.out]
    exact ⟨none, 0, rfl, by simp, by simp [maxLen], fun hn => by simp at hn⟩
  · obtain ⟨i0, z0, hi, hz0, hz, hz1, hz2⟩ := info_zparts out_info
    have hr1 := hr.alloc hB (.cells #[] 49)
    have hown : (w.alloc (.cells #[] 49)).ownsRow w.heap.size 49 2 (.slice (some ⟨w.heap.size, 0, none⟩) 0 0) 0 [] :=
      ⟨rfl, .inr ⟨_, _, _, rfl, Nat.le_refl _, Blk.new w _ _, Nat.le_refl _, by simp [maxLen], rfl, rfl⟩⟩
    have hone : ∀ u ∈ ((xs.mapIdx fun k x => (x, f k)).flatMap fun p => outCells p.1 p.2), u.oneCell' = true := by
      intro u hu
      obtain ⟨p, hp, hu⟩ := List.mem_flatMap.1 hu
      obtain ⟨k, hk, rfl⟩ := List.getElem_of_mem hp
      rw [List.length_mapIdx] at hk
      rw [List.getElem_mapIdx] at hu
      obtain ⟨A', c', hfk, _⟩ := (hf k _ (List.getElem?_eq_getElem hk)).1
      have := outCells_one xs[k] (f k) (by rw [hfk]; rfl)
      rw [Array.all_eq_true_iff_forall_mem] at this
      exact this u (by simpa using hu)
    have hf' := Lib.hid hf
    generalize hfl : ((xs.mapIdx fun k x => (x, f k)).flatMap fun p => outCells p.1 p.2) = fl at *
    have hfl' := Lib.hid hfl
    clear hfl h3 hf hr
    generalize hnl : xs.length = n at *
    have hnl' := Lib.hid hnl
    clear hnl
    go_enter Try.func35, Try.ntmps35
    go_wp2_with (at_builtin; refine wpList_append_any _ rfl _ _ _ rfl w.heap.size 49 i0 z0 2 32 Try.underlying24 hi hz0 hz1 hz2 hz (by decide) _ 0 [] rfl hown B (some ad) n c fl rfl hr1 hone (by simp only [maxLen]; omega) (by omega) (by simp) ?_; intro v' w1 hown1 hg1 hf1)
    go_ret
    have hb1 : Below w.heap.size w w1 := ((Below.refl _ _).alloc (Nat.le_refl _) _).grown hg1 (by simp) (fun k hk => by injection hk with hk; simp only at hk; omega)
    refine ⟨v', rfl, ?_, hb1⟩
    refine outsMine_of_own hf'.out (fun k x hx => (hf'.out k x hx).1.below (hb1.mono hB)) ?_
    rw [hfl'.out, hnl'.out]
    simpa using hown1
end Go.Proofs.Ytcilabemglbhbaa
