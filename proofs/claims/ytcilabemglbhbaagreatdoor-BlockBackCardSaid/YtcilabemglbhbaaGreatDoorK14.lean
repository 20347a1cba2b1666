/- sha's Write. -/
import Derived.Test.YtcilabemglbhbaaGreatDoorK13
namespace Go.Proofs.YtcilabemglbhbaaGreatDoor
open Go Go.RowKit Go.Pur Go.Shelf
attribute [local go_sem] Oper.semAt_some

theorem blocks_any (x : Sl) (w : World) : Calls Tryz.prog 91 #[slv x] w fun e w' =>
    e = .returned (.func (.func 100) #[] #[.pointer (some ⟨w.heap.size, 0, none⟩)]) ∧ w' = w.alloc (.cells #[slv x] 30) := by
  obtain ⟨A, n, c⟩ := x
  unfold slv
  have hmf : ∀ (fn : Fn) (first cap : Array Value) (w : World), (Instr.makeFunc fn first cap).run Tryz.prog w = .ok (.func fn first cap) w := fun _ _ _ _ => rfl
  go_enter Tryz.func91, Tryz.ntmps91
  go_wp2
  go_ret
  exact ⟨rfl, rfl⟩

set_option maxRecDepth 100000 in
set_option maxHeartbeats 3200000 in
theorem write_any (p : Nat) (s : S8) (rv v : Value) (rest b : Bytes) (n : Nat) (w : World) (hS : SumBlk w p s rv (n : Int)) (hne : noneS s = false) (hrest : OwnB w 0 5 rv rest)
    (hv : ∀ u : Value, Byt (w.setCell ⟨p, 9, none⟩ u) w.heap.size v b) (hlr : rest.length ≤ 1000) (hlb : b.length ≤ 1000000) (hn : n ≤ 10000000000) :
    Calls Tryz.prog 79 #[.pointer (some ⟨p, 0, none⟩), v] w fun e w' => e = .returned (.pointer (some ⟨p, 0, none⟩)) ∧
      (∃ rv', SumBlk w' p (absorb s (rest ++ b) ((rest ++ b).length / 64)) rv' ((n + b.length : Nat) : Int) ∧ OwnB w' 0 5 rv' ((rest ++ b).drop (64 * ((rest ++ b).length / 64)))) ∧ Upd p none w w' none := by
  have hpl := hS.lt
  obtain ⟨A, m, c, hvs⟩ : ∃ A m c, v = .slice A m c ∧ m = b.length := by
    obtain ⟨A, c, h, _⟩ := hv (.bool true)
    exact ⟨A, _, c, h, rfl⟩
  obtain ⟨rfl, hm⟩ := hvs
  have hm' := Lib.hid hm
  have hm6 : m ≤ 1000000 := by omega
  obtain ⟨Ar, mr, cr, rfl⟩ := slice_of_own hrest
  have hwm : IntKind.u64.wrap (m : Int) = (m : Int) := wrapU64 (by unfold Lt64; omega)
  have hws : IntKind.u64.wrap ((n : Int) + (m : Int)) = ((n : Int) + (m : Int)) := by rw [IntKind.wrap_u64]; omega
  have hnone := none_any p s (.slice Ar mr cr) n (w.alloc (.cells #[.pointer (some ⟨p, 0, none⟩)] 141)) (hS.alloc _)
  rw [hne] at hnone
  have hnone' := Lib.hid hnone
  have q8 : w.cell? ⟨p, 8, none⟩ = some (.slice Ar mr cr) := hS.cell 8
  have q9 : w.cell? ⟨p, 9, none⟩ = some (.int .u64 (n : Int)) := hS.cell 9
  have f9 : w.frozen? ⟨p, 9, none⟩ = false := hS.frozen 9
  have hpw : ¬ w.heap.size = p := by omega
  clear hm hnone
  refine calls_of_wp_marks Tryz.func79 rfl ?_
  simp only [Tryz.ntmps79, List.size_toArray, List.length_cons, List.length_nil, Nat.reduceAdd, Nat.reduceSub, Array.replicate_succ, Array.replicate_zero, List.push_toArray, List.append_toArray, List.nil_append, List.cons_append]
  go_wp2
  go_step3
  go_wp2_with (go_at_call 90; refine hnone'.out.mono ?_; rintro e w' ⟨rfl, rfl⟩)
  obtain ⟨W2, hW2⟩ : ∃ W2, (w.setCell ⟨p, 9, none⟩ (.int .u64 ((n : Int) + (m : Int)))).alloc (.cells #[.pointer (some ⟨p, 0, none⟩)] 141) = W2 := ⟨_, rfl⟩
  have hS2 : SumBlk W2 p s (.slice Ar mr cr) ((n : Int) + (m : Int)) := by
    rw [← hW2]
    exact (Blk.set_ hS 9 _).alloc _
  have hu2 : Upd p none w W2 none := by rw [← hW2]; exact ((Upd.refl p none w).setCell 9 _).alloc _
  have hv2 : Byt W2 w.heap.size (.slice A m c) b := by rw [← hW2]; exact (hv _).alloc (by simp [World.setCell]) _
  have hr2 : OwnB W2 0 5 (.slice Ar mr cr) rest := by
    rw [← hW2]
    exact own_below (own_far hrest (a := ⟨p, 9, none⟩) (own_blk_ne hrest hS (by decide)) _) ((Below.refl _ _).alloc (Nat.le_refl _) _)
  have hs2 : W2.heap.size = w.heap.size + 1 := by rw [← hW2]; simp [World.setCell]
  have hbx2 : Blk W2 w.heap.size 141 #[.pointer (some ⟨p, 0, none⟩)] := by
    have := Blk.new (w.setCell ⟨p, 9, none⟩ (.int .u64 ((n : Int) + (m : Int)))) 141 #[.pointer (some ⟨p, 0, none⟩)]
    rw [hW2] at this
    simpa [World.setCell] using this
  rw [hW2]
  have hpb : ¬ w.heap.size = p := hpw
  clear hW2 q8 q9 f9 hwm hws hnone' hv hrest
  refine (clone_any _ rest W2.heap.size W2 (by omega) (Byt.of_own hr2)).mono ?_
  rintro e w3 ⟨v3, rfl, ho3, hb3⟩
  obtain ⟨A3, m3, c3, rfl⟩ := slice_of_own ho3
  have hv3 := hv2.below (hb3.mono (by omega))
  go_wp2_with (at_builtin; refine app_bytes rfl (.tmp 24) (.tmp 25) rfl W2.heap.size (.slice A3 m3 c3) rest rfl ho3 w.heap.size (.slice A m c) b rfl hv3 (by omega) hb3.size ?_; intro v4 w4 ho4 hg4 hf4)
  obtain ⟨A4, c4, rfl, h41, h42⟩ := ownsRow_form ho4
  have hb4 : Below W2.heap.size W2 w4 := hb3.grown hg4 hb3.size (fun k hk => (ho3.lt k hk).1)
  have hll : (rest ++ b).length ≤ 1001000 := by simp; omega
  have hlm : ((n + b.length : Nat) : Int) = (n : Int) + (m : Int) := by rw [hm'.out]; simp
  have hlm' := Lib.hid hlm
  obtain ⟨l, hl⟩ : ∃ l, rest ++ b = l := ⟨_, rfl⟩
  rw [hl] at ho4 h41 hll ⊢
  have hl' := Lib.hid hl
  clear hl
  obtain ⟨k, hk⟩ : ∃ k, l.length = k := ⟨_, rfl⟩
  rw [hk] at h41 hll ⊢
  have hk' := Lib.hid hk
  have hform : ∃ x : Sl, (A4, k, c4) = x ∧ Wf x := ⟨_, rfl, fun h0 => by
    rcases ho4.2 with ⟨e, h⟩ | ⟨g, cap, cur, e, _⟩
    · simp only at h0; omega
    · injection e with e1
      exact ⟨g, 0, e1⟩, h41, h42⟩
  rw [hk] at ho4
  clear hk hlm hg4 hf4 hv3 ho3
  go_step3
  go_wp2_with (go_at_call 91; refine (blocks_any (A4, k, c4) w4).mono ?_; rintro e w5 ⟨rfl, rfl⟩)
  obtain ⟨x0, hx0, hwf⟩ := hform
  have hbn : w4.heap.size ≥ w.heap.size + 1 := by have := hb4.size; omega
  have hS4 : SumBlk w4 p s (.slice Ar mr cr) ((n : Int) + (m : Int)) := hS2.below hb4 (by omega)
  have hseq := blocks1_in 2 (by omega) w4.heap.size x0 (w4.alloc (.cells #[slv x0] 30)) (Blk.new w4 _ _) hwf
  have hav : (Value.slice A4 k c4).ownBlock ≠ some w4.heap.size := fun e => by have := (ho4.lt _ e).2; omega
  have hinv0 : WInv p w4.heap.size w.heap.size s l (k / 64) ((n : Int) + (m : Int)) (.slice A4 k c4) w [] (w4.alloc (.cells #[slv x0] 30)) :=
    ⟨⟨_, Blk.alloc hS4 _, fun h => by simp at h⟩, own_below (World.ownsRow_base ho4 (fun _ _ => Nat.zero_le _)) ((Below.refl _ _).alloc (Nat.le_refl _) _), hav, (hu2.trans (Upd.ofBelow (hb4.mono (Nat.le_refl _)))).alloc _, by omega, hpl, (hbx2.below hb4 (by omega)).alloc _, by omega, by simp⟩
  rw [show slv (A4, k, c4) = slv x0 by rw [hx0]]
  have hlen : x0.2.1 = k := by rw [← hx0]
  rw [hlen] at hseq
  have hxl : Hid (slv x0 = .slice A4 k c4) := Lib.hid (by rw [← hx0]; rfl)
  clear hx0 hwf ho4 hbx2 hS4 hav hb4 hr2 hv2 hu2 hS2 hlen
  refine wp_rangeFunc_nx (gf := 100) (lb := #[.pointer (some ⟨w4.heap.size, 0, none⟩)]) rfl (enters_of Tryz.func100 (by kernel_rfl) rfl) hseq (fun {A B C} h1 h2 => h2.trans h1) (fun W l o o' hl _ _ _ => World.putObj_heap_other (by have := hl; simp at this; omega)) (Below.refl _ _) (fun _ => rfl)
    (WInv p w4.heap.size w.heap.size s l (k / 64) ((n : Int) + (m : Int)) (.slice A4 k c4) w) (fun _ _ _ => False)
    (fun pre A B row h hg hr => h.grown hg (fun r e => ⟨by have := (hr r e).1; simp at this; omega, .inr (hr r e).2⟩)) (fun c pre A B row h hg hr => h)
    (fun pre A B h hg hr => h.grown hg (fun r e => by injection e with e; subst e; exact ⟨by omega, .inl rfl⟩)) (fun c pre A B h hg hr => h)
    hinv0 ?round ?done ?stop
  case stop => exact fun D c pre W hD hp h => h.elim
  case done =>
    rintro D ys W hD rfl hinv hK
    have hbsc : W.cell? ⟨w.heap.size, 0, none⟩ = some (.pointer (some ⟨p, 0, none⟩)) := hinv.bs.cell 0
    have hinv' := Lib.hid hinv
    clear hinv
    go_wp2
    rw [Exit.noGoto_ret]
    refine ⟨by simp, .inl ⟨_, _, rfl, run_takeDeferred hK, ?_⟩⟩
    have hfin := hinv'.out.grown (grownBy_putObj' W D (.deferred none)) (fun r e => by injection e with e; subst e; exact ⟨by simp at hD; omega, .inr ⟨_, hK, rfl⟩⟩)
    obtain ⟨⟨rv', h1, h2⟩, _, _, h5, _⟩ := hfin
    have hl1 := seqB_length (k / 64) x0
    rw [hl1, Nat.min_eq_right (by omega)] at h1
    refine ⟨_, results_tmp rfl _ _ _, rfl, ⟨rv', ?_, ?_⟩, h5⟩
    · rw [hl'.out, hk'.out, hlm'.out]
      exact h1
    · rw [hl'.out, hk'.out]
      exact (h2 hl1).1
  case round =>
    intro l' x W K hK
    obtain ⟨bo, sl⟩ := x
    obtain ⟨sa, sn, sc⟩ := sl
    simp only [encB, slv]
    gi_wp2
    rintro pre W' hinv ⟨post, hpost⟩
    have hget : (seqB (k / 64) x0)[pre.length]? = some (bo, (sa, sn, sc)) := by rw [hpost]; simp
    have hinv' := hinv
    obtain ⟨⟨rv', hs', hlast⟩, hall, hfar, hupd, hbox, hlt', hbs, htn, hbl⟩ := hinv
    have hboxc : W'.cell? ⟨w.heap.size, 0, none⟩ = some (.pointer (some ⟨p, 0, none⟩)) := hbs.cell 0
    have hallx : Byt W' W'.heap.size (slv x0) l := by rw [hxl.out]; exact Byt.of_own hall
    have hpW : p < W'.heap.size := hs'.lt
    have hKO : ∀ W3, Upd p none W' W3 none → KeepsOthers W' W3 := fun W3 h => KeepsOthers.of_grownBy (row := some p) ⟨h.os, h.tape, h.output, h.size, fun k hk hp => h.block k hk (fun e => hp (by rw [e])) (by simp)⟩ (fun j o e ho => by
      injection e with e
      subst e
      unfold SumBlk Blk at hs'
      rw [hs'] at ho
      injection ho with ho
      rw [← ho]
      rfl)
    rcases seqB_get _ _ _ _ hget with ⟨hi, hy⟩ | ⟨hi, hy⟩
    · injection hy with hy1 hy2
      subst hy1
      have hmin : min pre.length (k / 64) = pre.length := by omega
      rw [hmin] at hs'
      have h64l : 64 * pre.length + 64 ≤ l.length := by rw [hk'.out]; omega
      have hch := (byt_cut (byt_cuts pre.length hallx (by omega)) (by rw [List.length_drop]; omega)).2
      rw [← hy2] at hch
      have hch := Lib.hid hch
      have hmix := mix_any p (absorb s l pre.length) rv' (.int .u64 ((n : Int) + (m : Int))) (.slice sa sn sc) ((l.drop (64 * pre.length)).take 64) W'.heap.size W' (by rw [List.length_take, List.length_drop]; omega) hch.out (Nat.le_refl _) hs'
      have hmix := Lib.hid hmix
      clear hget hpost hallx hy2
      gi_wp2_with fail
      refine ⟨trivial, CallsIn.mono (F := Fence.wide.inRound l') ((callsIn_wide (n := 0)).2 hmix.out) ?_⟩
      rintro e W3 ⟨rfl, hb3', hu3⟩
      have hu3' := Lib.hid hu3
      have hb3'' := Lib.hid hb3'
      clear hu3 hb3' hb3
      gi_wp2_with fail
      refine ⟨hKO W3 hu3'.out, hu3'.out.block _ ?_ ?_ (by simp), ⟨rv', ?_, fun h => ?_⟩, hall.kept (row := some p) ⟨hu3'.out.os, hu3'.out.tape, hu3'.out.output, hu3'.out.size, fun k hk hp => hu3'.out.block k hk (fun e => hp (by rw [e])) (by simp)⟩ (.inr (own_blk_ne hall hs' (by decide))), hfar, hupd.trans hu3'.out, hbox, hlt', hu3'.out.blk hbs ?_ (by simp), htn, Nat.lt_of_lt_of_le hbl hu3'.out.size⟩
      · exact hbl
      · omega
      · rw [List.length_append, List.length_singleton, Nat.min_eq_left (by omega)]
        exact hb3''.out
      · rw [List.length_append, List.length_singleton] at h
        omega
      · omega
    · injection hy with hy1 hy2
      subst hy1
      have hmin : min pre.length (k / 64) = k / 64 := by omega
      rw [hmin] at hs'
      have h64l : 64 * (k / 64) ≤ l.length := by rw [hk'.out]; omega
      have hch := byt_cuts (k / 64) hallx h64l
      rw [← hy2] at hch
      have q8 : W'.cell? ⟨p, 8, none⟩ = some rv' := hs'.cell 8
      have f8 := Blk.frozen hs' 8
      clear hget hpost hallx hy2
      have hll9 : (l.drop (64 * (k / 64))).length ≤ 10000000000 := by rw [List.length_drop, hk'.out]; omega
      have hcl := Lib.hid (fun (W : World) (hb : Byt W W'.heap.size (.slice sa sn sc) (l.drop (64 * (k / 64)))) => clone_any _ _ _ W hll9 hb)
      have hfn : Fence.wide.fn 37 := trivial
      clear hb3
      gi_wp2_with fail
      gi_region_with (gi_at_call 37; refine (CallsIn.inRound l' ((callsIn_wide (n := 0)).2 (hcl.out _ (by exact hch)))).mono ?_; rintro e w5 ⟨v5, rfl, ho5, hb50⟩; obtain ⟨A5, n5, c5, rfl⟩ := slice_of_own ho5; have hb5 : Below W'.heap.size W' w5 := ⟨hb50.os, hb50.tape, hb50.output, hb50.size, hb50.block⟩; have hS5 := Blk.below hs' hb5 hpW; have q85 : w5.cell? ⟨p, 8, none⟩ = some rv' := hS5.cell 8; have f85 := hS5.frozen 8; have hbx5 := (hbs.below hb5 hbs.lt).cell 0)
      all_goals
        gi_wp2_with fail
        have hu5 : Upd p none W' (w5.setCell ⟨p, 8, none⟩ (.slice A5 n5 c5)) none := (Upd.ofBelow hb5).setCell 8 _
        have hne5 := own_blk_ne ho5 hS5 (by decide)
        refine ⟨hKO _ hu5, hu5.block _ hbl (by omega) (by simp), ⟨.slice A5 n5 c5, ?_, fun _ => ⟨own_far (World.ownsRow_base ho5 (fun _ _ => Nat.zero_le _)) (a := ⟨p, 8, none⟩) hne5 _, fun e => ?_⟩⟩, ?_, hfar, hupd.trans hu5, hbox, hlt', hu5.blk hbs (by omega) (by simp), htn, Nat.lt_of_lt_of_le hbl hu5.size⟩
        · rw [List.length_append, List.length_singleton, hi, Nat.min_eq_right (by omega)]
          exact Blk.set_ hS5 8 (.slice A5 n5 c5)
        · have := (ho5.lt _ e).1
          simp at this
          omega
        · exact own_far (own_below hall hb5) (a := ⟨p, 8, none⟩) (own_blk_ne (own_below hall hb5) hS5 (by decide)) _
end Go.Proofs.YtcilabemglbhbaaGreatDoor
