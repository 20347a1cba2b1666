/- The range over a function whose iterator has variables of its own (the blocks qs) and tells what lies in memory; the loop's own variables may be laid anew in each round. Turned after the law of PurIter2. -/
import Derived.Test.YtcilabemglbhbaaGreatDoorK7
import Derived.Test.YtcilabemglbhbaaGreatDoorK19
import Derived.Test.YtcilabemglbhbaaGreatDoorK25
namespace Go.Pur
open Go Go.RowKit

def AbidesT {σ : Type} (qs : List Nat) (J : σ → World → Prop) : Prop := ∀ s A B, J s A → Turns qs A B → J s B
def SeqT {σ α : Type} (F : Fence) (n : Nat) (P : Program) (g : Nat) (lb : Array Value) (encs : α → Array Value) (Kp : World → World → Prop) (qs : List Nat) (s0 : σ) (S : σ → Prop) (Nx : σ → α → σ → World → Prop) (w : World) : Prop :=
  ∀ (l : Nat) (J Jx : σ → World → Prop) (W : World), Below w.heap.size w W → AbidesT qs J → AbidesT qs Jx →
    (∀ s x s' W1, J s W1 → Nx s x s' W1 → YieldAt F (n - 1) P l (encs x) W1 fun e W' =>
      (e = .returned (.bool true) ∧ J s' W' ∧ Kp W1 W') ∨ (e = .returned (.bool false) ∧ Jx s' W')) →
    J s0 W →
    CallsIn F n P g (#[.func (.yield l) #[] #[]] ++ lb) W fun e W' => (∃ v, e = .returned v) ∧ ((∃ s, S s ∧ J s W') ∨ (∃ s, Jx s W'))
def ownPostT {σ : Type} (Kp : World → World → Prop) (I : σ → World → Prop) (Ix : Code → σ → World → Prop) (s : σ) (W : World) : Exit → Act → World → Prop
  | .normal, _, W' => KeepsOthers W W' ∧ Kp W W' ∧ I s W'
  | .ret, _, W' => KeepsOthers W W' ∧ Ix .ret s W'
  | .exit id, _, W' => KeepsOthers W W' ∧ Ix (.exit id) s W'
  | .goto t, _, W' => KeepsOthers W W' ∧ Ix (.goto t) s W'
  | .panic _, _, _ => False
  | .outgrown, _, _ => False
theorem keepsT {qs : List Nat} {A B : World} (hg : Turns qs A B) {k : Nat} {o : Obj} (hk : k ∉ qs) (h : A.heap[k]? = some o) : B.heap[k]? = some o :=
  (hg.block k (Array.getElem?_eq_some_iff.1 h).1 hk).trans h

variable {F : Fence} {n : Nat} {P : Program}
theorem wpIn_rangeFunc_t {σ α : Type} {g : Operand} {ps : Array Tmp} {assign body : Code} {Q : Exit → Act → World → Prop} {a : Act} {w : World}
    (hro : F.round = none) (h1 : 1 ≤ n) {gf : Nat} {lb : Array Value} (hg : a.eval g = .func (.func gf) #[] lb) (hFg : F.fn gf) (eg : ∀ args w, (callFunc gf args).run P w = .ok (.enter gf args) w)
    {encs : α → Array Value} {Kp : World → World → Prop} {qs : List Nat} (hqs : ∀ q ∈ qs, q < w.heap.size) {s0 : σ} {S : σ → Prop} {Nx : σ → α → σ → World → Prop} {w0 : World} (hseq : SeqT F (n - 1) P gf lb encs Kp qs s0 S Nx w0)
    (hKt : ∀ {A B C : World}, Kp A B → Kp B C → Kp A C) (hKb : ∀ (W : World) (l : Nat) (o o' : Obj), w.heap.size ≤ l → W.heap[l]? = some o → o.isCells = false → o.isWalk = false → Kp W (W.putObj l o')) (hb0 : Below w0.heap.size w0 w) (hps : ∀ x, (encs x).size = ps.size)
    (I : σ → World → Prop) (Ix : Code → σ → World → Prop) (hI : OwnFrom w.heap.size I) (hIx : ∀ c, OwnFrom w.heap.size (Ix c)) (hIr : AbidesT qs I) (hIxr : ∀ c, AbidesT qs (Ix c)) (h0 : I s0 w)
    (hround : ∀ (l : Nat) (x : α) (s s' : σ) (W : World) (K : Act → World → Prop), w.heap.size ≤ l → (∃ o, W.heap[l]? = some o ∧ o.isCells = false) → I s W → Nx s x s' W →
      (∀ (a₁ : Act) (W2 : World), KeepsOthers W W2 → Kp W W2 → (∀ (o' : Obj) (W3 : World), W3 = W2.putObj l o' → W2.grownBy W3 (some l) → body.wpIn (F.inRound l) (n - 1 - 1) P (ownPostT Kp I Ix s' W3) a₁ W3) → K a₁ W2) →
      assign.wpIn (F.inRound l) (n - 1 - 1) P (Exit.then K (fun _ _ _ => False)) { tmps := (ps.zip (encs x)).foldl (fun t (p, v) => t.setIfInBounds p v) a.tmps, defers := [] } W)
    (hdone : ∀ (D : Nat) (s : σ) (W : World), w.heap.size ≤ D → S s → I s W → W.heap[D]? = some (.deferred (some [])) → Q .normal { a with defers := { target := .collected D, args := #[] } :: a.defers } W)
    (hstop : ∀ (D : Nat) (c : Code) (s : σ) (W : World), w.heap.size ≤ D → Ix c s W → W.heap[D]? = some (.deferred (some [])) → c.wpIn F n P Q { a with defers := { target := .collected D, args := #[] } :: a.defers } W) :
    (Code.rangeFunc g ps assign body).wpIn F n P Q a w := by
  refine wpIn_rangeFunc ?_
  intro fn hfn
  rw [hro]
  obtain ⟨rec, hrec⟩ : ∃ rec : LoopState → Option Code → Loop, rec = fun st pe => { state := st, pending := pe, fn, tmps := a.tmps, params := ps, assign, body, defers := w.heap.size } := ⟨_, rfl⟩
  obtain ⟨W1, hW1⟩ : ∃ W1, (w.alloc (.deferred (some []))).alloc (.loop (rec .ready none)) = W1 := ⟨_, rfl⟩
  have hL1 : W1.heap[w.heap.size + 1]? = some (.loop (rec .ready none)) := by
    rw [← hW1]; have := World.alloc_heap_new (w.alloc (.deferred (some []))) (.loop (rec .ready none)); rwa [World.size_alloc] at this
  have hK1 : W1.heap[w.heap.size]? = some (.deferred (some [])) := by
    rw [← hW1]; exact (Below.heap_alloc _ _ _ (by simp)).trans (World.alloc_heap_new w _)
  have hI1 : I s0 W1 := by rw [← hW1]; exact hI.alloc _ (hI.alloc _ h0)
  have hb1 : Below w0.heap.size w0 W1 := by
    rw [← hW1]; exact hb0.trans ((((Below.refl _ w).alloc (Nat.le_refl _) _).alloc (by simp) _).mono hb0.size)
  have hn1 : w.heap.size + 1 ∉ qs := fun h => by have := hqs _ h; omega
  have hn0 : w.heap.size ∉ qs := fun h => by have := hqs _ h; omega
  refine ⟨w.heap.size + 1, [{ target := .collected w.heap.size, args := #[] }], W1, { target := .fn (.func gf) lb, args := #[.func (.yield (w.heap.size + 1)) #[] #[]] }, W1, gf,
    #[.func (.yield (w.heap.size + 1)) #[] #[]] ++ lb, W1, ?_, ?_, ?_, ?_, fun _ => h1, ?_⟩
  · rw [← hW1, hrec]; exact run_enterLoop_outer _ _ _ _ _
  · simp only [resolve, hg]
    simp [go_sem]
  · intro f' hf'; simp [Target.leads] at hf'; subst hf'; exact hFg
  · simp [invoke, go_sem, eg]
  · refine (hseq (w.heap.size + 1)
      (fun s W => I s W ∧ W.heap[w.heap.size + 1]? = some (.loop (rec .ready none)) ∧ W.heap[w.heap.size]? = some (.deferred (some [])))
      (fun s W => ∃ c, Ix c s W ∧ W.heap[w.heap.size + 1]? = some (.loop (rec .done (some c))) ∧ W.heap[w.heap.size]? = some (.deferred (some [])))
      W1 hb1
      (fun s A B hs hg' => ⟨hIr s A B hs.1 hg', keepsT hg' hn1 hs.2.1, keepsT hg' hn0 hs.2.2⟩)
      (fun s A B hs hg' => by
        obtain ⟨c, hc, hl, hk⟩ := hs
        exact ⟨c, hIxr c s A B hc hg', keepsT hg' hn1 hl, keepsT hg' hn0 hk⟩)
      ?_ ⟨hI1, hL1, hK1⟩).mono ?_
    · rintro s x s' W ⟨hi, hl, hk⟩ hnx
      have hy := run_yield (P := P) (args := encs x) hl (by rw [hrec]; exact hps x)
      rw [hrec] at hy
      refine ⟨fn, _, assign, body, hy, roundIn_of_wpIn hfn (hround (w.heap.size + 1) x s s' W _ (by omega) ⟨_, hl, rfl⟩ hi hnx (fun a₁ W2 hk2 hkp2 hbody => ?_))⟩
      have hl2 := hk2.same _ _ hl rfl
      have hkk2 := hk2.same _ _ hk rfl
      have hlt : w.heap.size + 1 < W2.heap.size := (Array.getElem?_eq_some_iff.1 hl2).1
      refine ⟨_, run_beginRound hl2 (by rw [hrec]), ?_⟩
      have hl3 : (W2.putObj (w.heap.size + 1) (.loop { rec .ready none with state := .busy })).heap[w.heap.size + 1]? = some (.loop { rec .ready none with state := .busy }) := World.putObj_heap_same hlt
      have hk3 : (W2.putObj (w.heap.size + 1) (.loop { rec .ready none with state := .busy })).heap[w.heap.size]? = some (.deferred (some [])) := (World.putObj_heap_other (by omega)).trans hkk2
      have hw3 : Kp W (W2.putObj (w.heap.size + 1) (.loop { rec .ready none with state := .busy })) := hKt hkp2 (hKb _ _ _ _ (by omega) hl2 rfl rfl)
      refine wpIn_mono (hbody _ _ rfl (grownBy_putObj' W2 _ _)) ?_
      have fin : ∀ (jump : Option Code) (W3 : World), KeepsOthers (W2.putObj (w.heap.size + 1) (.loop { rec .ready none with state := .busy })) W3 →
          (Instr.endRound (w.heap.size + 1) jump).run P W3 = .ok (.bool jump.isNone) (W3.putObj (w.heap.size + 1) (.loop (rec (if jump.isNone then .ready else .done) jump))) ∧
          W3.heap[w.heap.size + 1]? = some (.loop { rec .ready none with state := .busy }) ∧
          (W3.putObj (w.heap.size + 1) (.loop (rec (if jump.isNone then .ready else .done) jump))).heap[w.heap.size + 1]? = some (.loop (rec (if jump.isNone then .ready else .done) jump)) ∧
          (W3.putObj (w.heap.size + 1) (.loop (rec (if jump.isNone then .ready else .done) jump))).heap[w.heap.size]? = some (.deferred (some [])) := fun jump W3 hkk => by
        have hl4 := hkk.same _ _ hl3 rfl
        have := run_endRound (P := P) jump hl4
        rw [hrec] at this ⊢
        exact ⟨this, by rw [hrec] at hl4; exact hl4, World.putObj_heap_same (Array.getElem?_eq_some_iff.1 hl4).1, (World.putObj_heap_other (by omega)).trans (hkk.same _ _ hk3 rfl)⟩
      rintro e a3 W3 hp
      cases e with
      | normal =>
        obtain ⟨hkk, hkp3, hi3⟩ := hp
        obtain ⟨hr, hl3, hl4, hk4⟩ := fin none W3 hkk
        exact ⟨_, _, hr, .inl ⟨rfl, ⟨hI.putObj _ hi3 (by omega) hl3 rfl, hl4, hk4⟩, hKt (hKt hw3 hkp3) (hKb _ _ _ _ (by omega) hl3 rfl rfl)⟩⟩
      | ret =>
        obtain ⟨hkk, hi3⟩ := hp
        obtain ⟨hr, hl3, hl4, hk4⟩ := fin (some .ret) W3 hkk
        exact ⟨_, _, hr, .inr ⟨rfl, .ret, (hIx _).putObj _ hi3 (by omega) hl3 rfl, hl4, hk4⟩⟩
      | exit id =>
        obtain ⟨hkk, hi3⟩ := hp
        obtain ⟨hr, hl3, hl4, hk4⟩ := fin (some (.exit id)) W3 hkk
        exact ⟨_, _, hr, .inr ⟨rfl, .exit id, (hIx _).putObj _ hi3 (by omega) hl3 rfl, hl4, hk4⟩⟩
      | goto t =>
        obtain ⟨hkk, hi3⟩ := hp
        obtain ⟨hr, hl3, hl4, hk4⟩ := fin (some (.goto t)) W3 hkk
        exact ⟨_, _, hr, .inr ⟨rfl, .goto t, (hIx _).putObj _ hi3 (by omega) hl3 rfl, hl4, hk4⟩⟩
      | panic ch => exact hp.elim
      | outgrown => exact hp.elim
    · rintro e W2 ⟨⟨v, rfl⟩, (⟨s, hS, hi, hl, hk⟩ | ⟨s, c, hi, hl, hk⟩)⟩
      · exact ⟨none, _, by have := run_endLoop (P := P) hl (by rw [hrec]; simp); rw [hrec] at this; exact this, hdone _ s _ (Nat.le_refl _) hS (hI.putObj _ hi (by omega) hl rfl) ((World.putObj_heap_other (by omega)).trans hk)⟩
      · exact ⟨some c, _, by have := run_endLoop (P := P) hl (by rw [hrec]; simp); rw [hrec] at this; exact this, hstop _ c s _ (Nat.le_refl _) ((hIx c).putObj _ hi (by omega) hl rfl) ((World.putObj_heap_other (by omega)).trans hk)⟩
theorem wp_rangeFunc_t {σ α : Type} {g : Operand} {ps : Array Tmp} {assign body : Code} {Q : Exit → Act → World → Prop} {a : Act} {w : World}
    {gf : Nat} {lb : Array Value} (hg : a.eval g = .func (.func gf) #[] lb) (eg : ∀ args w, (callFunc gf args).run P w = .ok (.enter gf args) w)
    {encs : α → Array Value} {Kp : World → World → Prop} {qs : List Nat} (hqs : ∀ q ∈ qs, q < w.heap.size) {s0 : σ} {S : σ → Prop} {Nx : σ → α → σ → World → Prop} {w0 : World} (hseq : SeqT Fence.wide 2 P gf lb encs Kp qs s0 S Nx w0)
    (hKt : ∀ {A B C : World}, Kp A B → Kp B C → Kp A C) (hKb : ∀ (W : World) (l : Nat) (o o' : Obj), w.heap.size ≤ l → W.heap[l]? = some o → o.isCells = false → o.isWalk = false → Kp W (W.putObj l o')) (hb0 : Below w0.heap.size w0 w) (hps : ∀ x, (encs x).size = ps.size)
    (I : σ → World → Prop) (Ix : Code → σ → World → Prop) (hI : OwnFrom w.heap.size I) (hIx : ∀ c, OwnFrom w.heap.size (Ix c)) (hIr : AbidesT qs I) (hIxr : ∀ c, AbidesT qs (Ix c)) (h0 : I s0 w)
    (hround : ∀ (l : Nat) (x : α) (s s' : σ) (W : World) (K : Act → World → Prop), w.heap.size ≤ l → (∃ o, W.heap[l]? = some o ∧ o.isCells = false) → I s W → Nx s x s' W →
      (∀ (a₁ : Act) (W2 : World), KeepsOthers W W2 → Kp W W2 → (∀ (o' : Obj) (W3 : World), W3 = W2.putObj l o' → W2.grownBy W3 (some l) → body.wpIn (Fence.wide.inRound l) 1 P (ownPostT Kp I Ix s' W3) a₁ W3) → K a₁ W2) →
      assign.wpIn (Fence.wide.inRound l) 1 P (Exit.then K (fun _ _ _ => False)) { tmps := (ps.zip (encs x)).foldl (fun t (p, v) => t.setIfInBounds p v) a.tmps, defers := [] } W)
    (hdone : ∀ (D : Nat) (s : σ) (W : World), w.heap.size ≤ D → S s → I s W → W.heap[D]? = some (.deferred (some [])) → Q .normal { a with defers := { target := .collected D, args := #[] } :: a.defers } W)
    (hstop : ∀ (D : Nat) (c : Code) (s : σ) (W : World), w.heap.size ≤ D → Ix c s W → W.heap[D]? = some (.deferred (some [])) → c.wp P Q { a with defers := { target := .collected D, args := #[] } :: a.defers } W) :
    (Code.rangeFunc g ps assign body).wp P Q a w :=
  (wpIn_wide (n := 3)).1 (wpIn_rangeFunc_t rfl (by omega) hg trivial eg hqs hseq hKt hKb hb0 hps I Ix hI hIx hIr hIxr h0 hround hdone (fun D c s W a b d => wpIn_wide.2 (hstop D c s W a b d)))
end Go.Pur

/- tx's reader: an output. -/
namespace Go.Proofs.YtcilabemglbhbaaGreatDoor
open Go Go.RowKit Go.Pur

def OutPost (r p : Nat) (s : Bytes × Bool) (w : World) (e : Ending) (w' : World) : Prop :=
  ∃ sv, e = .returned (.agg (outCells (rOut s).1 sv).toArray) ∧ OwnB w' w.heap.size 5 sv (rOut s).1.script ∧ RdAt w' r p (rOut s).2 ∧ Turns [p, r] w w'
set_option maxRecDepth 100000 in
set_option maxHeartbeats 1600000 in
theorem out_any (r p : Nat) (s : Bytes × Bool) (w : World) (h : RdAt w r p s) : Calls Tryz.prog 72 #[.pointer (some ⟨r, 0, none⟩)] w (OutPost r p s w) := by
  have h0 := h
  obtain ⟨hr, he, hpr⟩ := h
  have hrl := hr.lt
  obtain ⟨W1, hW1⟩ : ∃ W1, W1 = w.alloc (.cells #[.int .i64 0, .slice none 0 0] 91) := ⟨_, rfl⟩
  have hb1 : Below w.heap.size w W1 := by rw [hW1]; exact (Below.refl _ _).alloc (Nat.le_refl _) _
  have hz1 : Blk W1 w.heap.size 91 #[.int .i64 0, .slice none 0 0] := by rw [hW1]; exact Blk.new w _ _
  have hr1 := h0.below hb1
  have c0 := hr.cell 0
  have hfx := efixed_any p 8 s.1 W1 hr1.2.1 (by omega) wide8
  go_enter Tryz.func72, Tryz.ntmps72
  go_wp2_with fail
  rw [← hW1]
  refine hfx.mono ?_
  clear hW1 c0
  rintro e w2 ⟨ht2, ⟨hl2, rfl, he2⟩ | ⟨hl2, rfl, he2⟩⟩
  have hr2 := rd_blk_turns hr1.1 ht2 hpr
  have e1 : rEight s = (leV (s.1.take 8), (s.1.drop 8, s.2)) := by rw [rEight, if_pos hl2]
  have ev : leV (s.1.take 8) = (rEight s).1 := by rw [e1]
  have e1' := Lib.hid e1
  rw [ev]
  clear e1 ev
  go_wp2_with fail
  refine (kept_ok r _ s.2 w2 hr2).mono ?_
  rintro e W4 ⟨rfl, hr3, ht3⟩
  have hrd4 : RdAt W4 r p (rEight s).2 := by rw [e1'.out]; exact ⟨hr3, eye_turns_r he2 ht3 hpr, hpr⟩
  rotate_left
  have hr2 := rd_blk_turns hr1.1 ht2 hpr
  have e1 : rEight s = (0, (s.1, true)) := by rw [rEight, if_neg (by omega)]
  have ev : (Value.int .u64 0) = Value.int .u64 ((rEight s).1 : Int) := by rw [e1]; rfl
  have e1' := Lib.hid e1
  rw [ev]
  clear e1 ev
  go_wp2_with fail
  refine (kept_no r _ s.2 w2 hr2).mono ?_
  rintro e W4 ⟨rfl, hr3, ht3⟩
  have hrd4 : RdAt W4 r p (rEight s).2 := by rw [e1'.out]; exact ⟨hr3, eye_turns_r he2 ht3 hpr, hpr⟩
  all_goals
    have ht4 : Turns [p, r] w W4 := ((Turns.of_below hb1).trans (ht2.more (by simp))).trans (ht3.more (qs := [p, r]) (by simp))
    have hz4 := ht3.blk (ht2.blk hz1 (by simp; omega)) (by simp; omega)
    have hgl := hz4.lt
    have hwv : wrap64 ((rEight s).1 : Int) = (rOut s).1.value := by
      simp only [rOut, toI64, IntKind.wrap_i64, wrap64]
    clear e1' hr2 hr3 ht2 ht3 he2 hz1 hr1 hfx
    go_wp2_with fail
    refine (script_any r p (rEight s).2 W4 hrd4).mono ?_
    rintro e w5 ⟨v5, rfl, ho5, hrd5, ht5⟩
    obtain ⟨A5, m5, d5, rfl⟩ := slice_of_own ho5
    have hz5 := ht5.blk hz4 (by simp; omega)
    have g0 := hz5.cell 0
    have g1 := hz5.cell 1
    have f0 := hz5.frozen 0
    have f1 := hz5.frozen 1
    go_wp2_with fail
    (try simp only [Exit.inBlock, Exit.then])
    have hz6 : Blk ((w5.setCell ⟨w.heap.size, 0, none⟩ (.int .i64 (rOut s).1.value)).setCell ⟨w.heap.size, 1, none⟩ (.slice A5 m5 d5)) w.heap.size 91 (outCells (rOut s).1 (.slice A5 m5 d5)).toArray := (hz5.set_ 0 _).set_ 1 _
    have ht6 : Turns [w.heap.size] w5 ((w5.setCell ⟨w.heap.size, 0, none⟩ (.int .i64 (rOut s).1.value)).setCell ⟨w.heap.size, 1, none⟩ (.slice A5 m5 d5)) := ((Turns.refl _ _).setCell (by simp) 0 _).setCell (by simp) 1 _
    refine bodyPost_ret (results_cell_at rfl _ _ w.heap.size (outCells (rOut s).1 (.slice A5 m5 d5)) _ rfl (cells_of_blk hz6) Tryz.underlying91 rfl outinfo) rfl ⟨.slice A5 m5 d5, rfl, World.ownsRow_base (ht6.own ho5 (fun g hg e => ?_)) (fun g hg => ?_), hrd5.turns ht6 (by simp; exact hrl), (((ht4.trans ht5).more (qs := [p, r, w.heap.size]) (by simp)).trans (ht6.more (by simp))).less (by simp)⟩
    · have := (ho5.lt g hg).1
      simp only [List.mem_cons, List.not_mem_nil, or_false] at e
      omega
    · have := (ho5.lt g hg).1
      omega
end Go.Proofs.YtcilabemglbhbaaGreatDoor
