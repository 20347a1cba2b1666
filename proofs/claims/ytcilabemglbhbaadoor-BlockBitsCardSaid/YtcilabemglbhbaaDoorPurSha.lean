/- SHA-256 as the program's package sha computes it: the words, the rounds, and the contracts of its small functions. -/
import Derived.Test.YtcilabemglbhbaaDoorPurLib2
import Derived.Test.YtcilabemglbhbaaDoorPurOctet
namespace Go.Proofs.YtcilabemglbhbaaDoor
open Go Go.RowKit Go.Pur

/-- a word, turned to the left. -/
def rotl (s : Nat) (x : Int) : Int := bits .or .u32 (x * 2 ^ s % 4294967296) (x / 2 ^ (32 - s))
theorem ret_u32 {a b : Int} (h : a = b) : Ending.returned (.int .u32 a) = .returned (.int .u32 b) := by rw [h]
set_option maxRecDepth 100000 in
theorem rot_any (x k : Int) (s : Nat) (hs : bits .and .u64 (IntKind.u64.wrap k) 31 = (s : Int)) (h0 : 0 < s) (h1 : s < 32) (w : World) :
    Calls Tryd.prog 115 #[.int .u32 x, .int .i64 k] w fun e w' => e = .returned (.int .u32 (rotl s x)) ∧ w' = w := by
  have h2 : IntKind.u64.wrap (32 - (s : Int)) = 32 - (s : Int) := by rw [IntKind.wrap_u64]; omega
  go_enter Tryd.func115, Tryd.ntmps115
  go_wp2
  go_ret
  exact ⟨rfl, rfl⟩

theorem byt_at {w : World} {B : Nat} {v : Value} {l : Bytes} (h : Byt w B v l) (hl : 0 < l.length) : ∃ b o c, v = .slice (some ⟨b, o, none⟩) l.length c ∧ b < B ∧ l.length ≤ c ∧ c ≤ maxLen ∧
    ∀ k (hk : k < l.length), w.cell? ⟨b, o + k, none⟩ = some (bv l[k]) := by
  obtain ⟨A, c, rfl, h1, h2, hr⟩ := h
  obtain ⟨ad, rfl, hb, hc⟩ := hr.2 hl
  have hb0 : ∀ k (hk : k < l.length), (bvs l)[k]? = some (bv l[k]) := by
    intro k hk
    rw [bvs, List.getElem?_map, List.getElem?_eq_getElem hk]
    rfl
  obtain ⟨b, o, sp⟩ := ad
  have hsp : sp = none := by
    have := hc 0 (bv l[0]) (hb0 0 hl)
    unfold World.cell? at this
    simp only [Addr.add, if_true] at this
    split at this
    · split at this
      · cases this
      · rename_i h; simpa using h
    · cases this
  subst hsp
  refine ⟨b, o, c, rfl, hb, h1, h2, fun k hk => ?_⟩
  have := hc k (bv l[k]) (hb0 k hk)
  have e : (⟨b, o, none⟩ : Addr).add k = ⟨b, o + k, none⟩ := by unfold Addr.add; split <;> simp_all
  rwa [e] at this
def wordStep (n : Int) (c : UInt8) : Int := bits .or .u32 (n * 256 % 4294967296) (c.toNat : Int)
def wordOf (l : Bytes) : Int := (l.take 4).foldl wordStep 0

set_option maxRecDepth 100000 in
theorem word_any (v : Value) (l : Bytes) (B : Nat) (w : World) (h4 : 4 ≤ l.length) (h : Byt w B v l) :
    Calls Tryd.prog 114 #[v] w fun e w' => e = .returned (.int .u32 (wordOf l)) ∧ w = w' := by
  obtain ⟨b, o, c, rfl, hb, h1, h2, hcell⟩ := byt_at h (by omega)
  have hcell' := Lib.hid hcell
  clear hcell
  obtain ⟨n, hn⟩ : ∃ n, l.length = n := ⟨_, rfl⟩
  have hn' := Lib.hid hn
  rw [hn] at h1 h4 ⊢
  clear hn
  go_enter Tryd.func114, Tryd.ntmps114
  go_wp2
  go_loop [3, 9] (fun x i => ∃ k : Nat, k ≤ 4 ∧ i = .int .i64 (k : Int) ∧ x = .int .u32 ((l.take k).foldl wordStep 0)) (fun _ i => 4 - (intOf i).toNat)
  case atStart => exact ⟨0, by omega, rfl, rfl⟩
  case round =>
    obtain ⟨k, hk, rfl, rfl⟩ := hrel
    by_cases hlt : k < 4
    · have hkl : k < l.length := by rw [hn'.out]; omega
      have hkk := hcell'.out k hkl
      have hst : Hid ((l.take (k + 1)).foldl wordStep 0 = bits .or .u32 ((l.take k).foldl wordStep 0 * 256 % 4294967296) ((l[k].toNat : Nat) : Int)) := Lib.hid (by
        rw [List.take_succ_eq_append_getElem hkl, List.foldl_append]
        rfl)
      unfold bv at hkk
      have hc256 : l[k].toNat < 256 := UInt8.toNat_lt l[k]
      generalize l[k].toNat = cc at *
      generalize (l.take k).foldl wordStep 0 = acc at *
      go_wp2
      go_round
      case rel => exact ⟨k + 1, by omega, by go_num, by rw [hst.out]⟩
      case measure => simp [intOf]; omega
    · have hk4 : k = 4 := by omega
      subst hk4
      go_wp2
      go_ret
      exact ⟨rfl, rfl⟩
end Go.Proofs.YtcilabemglbhbaaDoor
