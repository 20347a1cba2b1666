/- Plain law: a transaction's bytes tell the transaction. -/
import Derived.Test.YtcilabemglbhbaaDoorC17
namespace Go.Proofs.YtcilabemglbhbaaDoor
open Go Go.RowKit Go.Pur

theorem app_inj {a b r s : Bytes} (hl : a.length = b.length) (h : a ++ r = b ++ s) : a = b ∧ r = s := List.append_inj h hl
theorem le_inj (k x y : Nat) (hx : x < 256 ^ k) (hy : y < 256 ^ k) (h : le k x = le k y) : x = y := by
  induction k generalizing x y with
  | zero => simp at hx hy; omega
  | succ k ih =>
    rw [le, le] at h
    injection h with h1 h2
    have hx' : x / 256 < 256 ^ k := by rw [Nat.div_lt_iff_lt_mul (by decide)]; rw [Nat.pow_succ] at hx; exact hx
    have hy' : y / 256 < 256 ^ k := by rw [Nat.div_lt_iff_lt_mul (by decide)]; rw [Nat.pow_succ] at hy; exact hy
    have h3 := ih _ _ hx' hy' h2
    have h4 : x % 256 = y % 256 := by
      have := congrArg UInt8.toNat h1
      simpa using this
    omega
theorem le_app (k x y : Nat) {r s : Bytes} (hx : x < 256 ^ k) (hy : y < 256 ^ k) (h : le k x ++ r = le k y ++ s) : x = y ∧ r = s := by
  obtain ⟨h1, h2⟩ := app_inj (by rw [le_length, le_length]) h
  exact ⟨le_inj k x y hx hy h1, h2⟩
theorem le4_app {x y : Nat} {r s : Bytes} (hx : Lt32 x) (hy : Lt32 y) (h : le 4 x ++ r = le 4 y ++ s) : x = y ∧ r = s :=
  le_app 4 x y (by unfold Lt32 at hx; omega) (by unfold Lt32 at hy; omega) h
theorem szB_app {n m : Nat} {r s : Bytes} (hn : n < 65536) (hm : m < 65536) (h : szB n ++ r = szB m ++ s) : n = m ∧ r = s := by
  unfold szB at h
  by_cases h1 : n < 253 <;> by_cases h2 : m < 253 <;> simp only [h1, h2, hn, hm, if_true, if_false] at h
  · exact le_app 1 n m (by omega) (by omega) h
  · rw [List.append_assoc] at h
    have := (le_app 1 n 253 (by omega) (by omega) h).1
    omega
  · rw [List.append_assoc] at h
    have := (le_app 1 253 m (by omega) (by omega) h).1
    omega
  · rw [List.append_assoc, List.append_assoc] at h
    exact le_app 2 n m (by omega) (by omega) (app_inj rfl h).2

def InOk (x : TIn) : Prop := x.tx.length = 32 ∧ Lt32 x.n ∧ Lt32 x.seq ∧ x.script.length < 65536
def OutOk (x : TOut) : Prop := Int64 x.value ∧ x.script.length < 65536
def TxOk (t : TTx) : Prop := Lt32 t.ver ∧ Lt32 t.lock ∧ t.ins.length < 65536 ∧ t.outs.length < 65536 ∧ (∀ x ∈ t.ins, InOk x) ∧ (∀ x ∈ t.outs, OutOk x)

theorem script_app {a b r s : Bytes} (ha : a.length < 65536) (hb : b.length < 65536) (h : (szB a.length ++ a) ++ r = (szB b.length ++ b) ++ s) : a = b ∧ r = s := by
  rw [List.append_assoc, List.append_assoc] at h
  obtain ⟨h1, h2⟩ := szB_app ha hb h
  exact app_inj h1 h2
theorem encIn_app {x y : TIn} {r s : Bytes} (hx : InOk x) (hy : InOk y) (h : encIn x ++ r = encIn y ++ s) : x = y ∧ r = s := by
  obtain ⟨a1, a2, a3, a4⟩ := hx
  obtain ⟨b1, b2, b3, b4⟩ := hy
  unfold encIn at h
  simp only [List.append_assoc] at h
  obtain ⟨e1, h⟩ := app_inj (by omega) h
  obtain ⟨e2, h⟩ := le4_app a2 b2 h
  rw [← List.append_assoc, ← List.append_assoc (szB y.script.length)] at h
  obtain ⟨e3, h⟩ := script_app a4 b4 h
  obtain ⟨e4, h⟩ := le4_app a3 b3 h
  refine ⟨?_, h⟩
  cases x; cases y
  simp_all
theorem toU64_inj {a b : Int} (ha : Int64 a) (hb : Int64 b) (h : toU64 a = toU64 b) : a = b := by
  unfold Int64 at ha hb
  unfold toU64 at h
  omega
theorem encOut_app {x y : TOut} {r s : Bytes} (hx : OutOk x) (hy : OutOk y) (h : encOut x ++ r = encOut y ++ s) : x = y ∧ r = s := by
  obtain ⟨a1, a2⟩ := hx
  obtain ⟨b1, b2⟩ := hy
  unfold encOut at h
  rw [List.append_assoc, List.append_assoc (le 8 (toU64 y.value))] at h
  have t1 := toU64_lt x.value
  have t2 := toU64_lt y.value
  unfold Lt64 at t1 t2
  obtain ⟨e1, h⟩ := le_app 8 _ _ (by omega) (by omega) h
  obtain ⟨e2, h⟩ := script_app a2 b2 h
  refine ⟨?_, h⟩
  have e3 := toU64_inj a1 b1 e1
  cases x; cases y
  simp_all
theorem flat_app {α : Type} (f : α → Bytes) (p : α → Prop) (hf : ∀ x y r s, p x → p y → f x ++ r = f y ++ s → x = y ∧ r = s) :
    ∀ (xs ys : List α) (r s : Bytes), xs.length = ys.length → (∀ x ∈ xs, p x) → (∀ x ∈ ys, p x) → xs.flatMap f ++ r = ys.flatMap f ++ s → xs = ys ∧ r = s
  | [], [], r, s, _, _, _, h => ⟨rfl, by simpa using h⟩
  | [], _ :: _, _, _, hl, _, _, _ => by simp at hl
  | _ :: _, [], _, _, hl, _, _, _ => by simp at hl
  | x :: xs, y :: ys, r, s, hl, hx, hy, h => by
    simp only [List.flatMap_cons, List.append_assoc] at h
    obtain ⟨e, h⟩ := hf x y _ _ (hx x (by simp)) (hy y (by simp)) h
    obtain ⟨e2, h⟩ := flat_app f p hf xs ys r s (by simpa using hl) (fun z hz => hx z (by simp [hz])) (fun z hz => hy z (by simp [hz])) h
    exact ⟨by rw [e, e2], h⟩
theorem enc_inj {a b : TTx} (ha : TxOk a) (hb : TxOk b) (h : enc a = enc b) : a = b := by
  obtain ⟨a1, a2, a3, a4, a5, a6⟩ := ha
  obtain ⟨b1, b2, b3, b4, b5, b6⟩ := hb
  unfold enc at h
  simp only [List.append_assoc] at h
  obtain ⟨e1, h⟩ := le4_app a1 b1 h
  obtain ⟨e2, h⟩ := szB_app a3 b3 h
  obtain ⟨e3, h⟩ := flat_app encIn InOk (fun x y r s => encIn_app) _ _ _ _ e2 a5 b5 h
  obtain ⟨e4, h⟩ := szB_app a4 b4 h
  obtain ⟨e5, h⟩ := flat_app encOut OutOk (fun x y r s => encOut_app) _ _ _ _ e4 a6 b6 h
  have e6 := le_inj 4 _ _ (by unfold Lt32 at a2; omega) (by unfold Lt32 at b2; omega) h
  cases a; cases b
  simp_all
theorem TxAt.ok {w : World} {B : Nat} {v : Value} {t : TTx} (h : TxAt w B v t) (hs : Small t) : TxOk t := by
  obtain ⟨iv, ov, _, h1, h2, hi, ho⟩ := h
  obtain ⟨s1, s2, s3, s4⟩ := hs
  refine ⟨h1, h2, by omega, by omega, fun x hx => ?_, fun x hx => ?_⟩
  · obtain ⟨A, c, _, _, _, h3⟩ := hi
    obtain ⟨k, hk, rfl⟩ := List.getElem_of_mem hx
    obtain ⟨b, o, _, _, hx'⟩ := h3 (by omega)
    obtain ⟨sv, _, g1, g2, g3, _⟩ := hx' k _ (List.getElem?_eq_getElem hk)
    have := s3 _ hx
    exact ⟨g1, g2, g3, by omega⟩
  · obtain ⟨A, c, _, _, _, h3⟩ := ho
    obtain ⟨k, hk, rfl⟩ := List.getElem_of_mem hx
    obtain ⟨b, o, _, _, hx'⟩ := h3 (by omega)
    obtain ⟨sv, _, g1, _⟩ := hx' k _ (List.getElem?_eq_getElem hk)
    have := s4 _ hx
    exact ⟨g1, by omega⟩
end Go.Proofs.YtcilabemglbhbaaDoor
