/- sha's tables, and the words that a block is spread to. -/
import Derived.Test.YtcilabemglbhbaaGreatDoorK4
import Derived.StillTailTactics
namespace Go.Proofs.YtcilabemglbhbaaGreatDoor
open Go Go.RowKit Go.Pur

theorem r7 : bits .and .u64 (IntKind.u64.wrap (-7)) 31 = ((25 : Nat) : Int) := by decide
theorem r18 : bits .and .u64 (IntKind.u64.wrap (-18)) 31 = ((14 : Nat) : Int) := by decide
theorem r17 : bits .and .u64 (IntKind.u64.wrap (-17)) 31 = ((15 : Nat) : Int) := by decide
theorem r19 : bits .and .u64 (IntKind.u64.wrap (-19)) 31 = ((13 : Nat) : Int) := by decide
theorem r6 : bits .and .u64 (IntKind.u64.wrap (-6)) 31 = ((26 : Nat) : Int) := by decide
theorem r11 : bits .and .u64 (IntKind.u64.wrap (-11)) 31 = ((21 : Nat) : Int) := by decide
theorem r25 : bits .and .u64 (IntKind.u64.wrap (-25)) 31 = ((7 : Nat) : Int) := by decide
theorem r2 : bits .and .u64 (IntKind.u64.wrap (-2)) 31 = ((30 : Nat) : Int) := by decide
theorem r13 : bits .and .u64 (IntKind.u64.wrap (-13)) 31 = ((19 : Nat) : Int) := by decide
theorem r22 : bits .and .u64 (IntKind.u64.wrap (-22)) 31 = ((10 : Nat) : Int) := by decide
theorem wp_region_tail {P : Program} {id : Nat} {Q : Exit → Act → World → Prop} {a : Act} {w : World} {l : List Oper} (n : Nat) (hm : P.follows .mixedOrders = true) (hB : Region.lexTailB .any l.toArray n = true)
    (h : ∀ w', w' = w.drew → wpStill P l.toArray w' (fun a' => wpList P l.toArray Q (l.drop n) a' w') (l.take n) a) : (Code.region id l.toArray true).wp P Q a w :=
  wp_region_still_tail n hm hB (h _ rfl)
def u32v (x : Int) : Value := .int .u32 x
def sg0 (x : Int) : Int := bits .xor .u32 (bits .xor .u32 (rotl 25 x) (rotl 14 x)) (x / 8)
def sg1 (y : Int) : Int := bits .xor .u32 (bits .xor .u32 (rotl 15 y) (rotl 13 y)) (y / 1024)
/-- the words that a block is spread to. -/
def nextW (l : Bytes) (ws : List Int) (k : Nat) : Int :=
  if k < 16 then wordOf (l.drop (k * 4)) else (ws.getD (k - 16) 0 + ws.getD (k - 7) 0 + sg0 (ws.getD (k - 15) 0) + sg1 (ws.getD (k - 2) 0)) % 4294967296
def spread (l : Bytes) : Nat → List Int
  | 0 => []
  | k + 1 => spread l k ++ [nextW l (spread l k) k]
theorem spread_length (l : Bytes) : ∀ k, (spread l k).length = k
  | 0 => rfl
  | k + 1 => by rw [spread, List.length_append, spread_length l k]; rfl
def padW (ws : List Int) (n : Nat) : Array Value := ((ws ++ List.replicate (n - ws.length) 0).map u32v).toArray
theorem padW_lt {ws : List Int} {n j : Nat} (h : j < ws.length) : (padW ws n)[j]? = some (u32v (ws.getD j 0)) := by
  simp only [padW, List.getElem?_toArray, List.getElem?_map]
  rw [List.getElem?_append_left h, List.getElem?_eq_getElem h, List.getD_eq_getElem?_getD, List.getElem?_eq_getElem h]
  rfl
theorem padW_ge {ws : List Int} {n j : Nat} (h : ws.length ≤ j) (hn : j < n) : (padW ws n)[j]? = some (u32v 0) := by
  simp only [padW, List.getElem?_toArray, List.getElem?_map]
  rw [List.getElem?_append_right h, List.getElem?_replicate, if_pos (by omega)]
  rfl
theorem padW_set {ws : List Int} {n : Nat} (h : ws.length < n) (x : Int) : (padW ws n).setIfInBounds ws.length (u32v x) = padW (ws ++ [x]) n := by
  have e : n - ws.length = (n - (ws ++ [x]).length) + 1 := by simp; omega
  unfold padW
  rw [e, List.replicate_succ]
  simp

structure S8 where
  a : Int
  b : Int
  c : Int
  d : Int
  e : Int
  f : Int
  g : Int
  h : Int
def S8.cells (s : S8) : List Value := [.int .u32 s.a, .int .u32 s.b, .int .u32 s.c, .int .u32 s.d, .int .u32 s.e, .int .u32 s.f, .int .u32 s.g, .int .u32 s.h]
def squareS : S8 := ⟨1779033703, 3144134277, 1013904242, 2773480762, 1359893119, 2600822924, 528734635, 1541459225⟩
def cubeL : List Int := [1116352408, 1899447441, 3049323471, 3921009573, 961987163, 1508970993, 2453635748, 2870763221, 3624381080, 310598401, 607225278, 1426881987, 1925078388, 2162078206, 2614888103, 3248222580, 3835390401, 4022224774, 264347078, 604807628, 770255983, 1249150122, 1555081692, 1996064986, 2554220882, 2821834349, 2952996808, 3210313671, 3336571891, 3584528711, 113926993, 338241895, 666307205, 773529912, 1294757372, 1396182291, 1695183700, 1986661051, 2177026350, 2456956037, 2730485921, 2820302411, 3259730800, 3345764771, 3516065817, 3600352804, 4094571909, 275423344, 430227734, 506948616, 659060556, 883997877, 958139571, 1322822218, 1537002063, 1747873779, 1955562222, 2024104815, 2227730452, 2361852424, 2428436474, 2756734187, 3204031479, 3329325298]
def cubeA : Array Value := (cubeL.map u32v).toArray

set_option maxRecDepth 100000 in
set_option maxHeartbeats 800000 in
theorem cubes_any (w : World) : Calls Tryz.prog 103 #[] w fun e w' => e = .returned (.agg cubeA) ∧ Below w.heap.size w w' := by
  have tok1 : True := trivial
  have tok2 : True := trivial
  go_enter Tryz.func103, Tryz.ntmps103
  go_wp2_with (first
    | (have _t := tok1; refine wpList_build rfl 169 rfl (.agg cubeA) (by kernel_rfl) ?_; clear tok1)
    | (have _t := tok2; refine wpList_store_new rfl 169 (.tmp 0) (.tmp 1) rfl cubeA rfl rfl _ _ (by kernel_rfl) (by kernel_rfl) (by kernel_rfl) ?_; clear tok2))
  (try simp only [Exit.inBlock, Exit.then])
  refine bodyPost_ret (results_cell_at rfl _ _ w.heap.size (cubeL.map u32v) _ rfl (cells_of_blk (t := 169) (cs := cubeL.map u32v) (Blk.new w _ _)) Tryz.underlying169 rfl (by kernel_rfl)) rfl ⟨rfl, (Below.refl _ _).alloc (Nat.le_refl _) _⟩
set_option maxRecDepth 100000 in
set_option maxHeartbeats 800000 in
theorem squares_any (w : World) : Calls Tryz.prog 89 #[] w fun e w' => e = .returned (.agg squareS.cells.toArray) ∧ Below w.heap.size w w' := by
  go_enter Tryz.func89, Tryz.ntmps89
  go_wp2
  (try simp only [Exit.inBlock, Exit.then])
  refine bodyPost_ret (results_cell_at rfl _ _ w.heap.size squareS.cells _ rfl (cells_of_blk (t := 153) (cs := squareS.cells) (Blk.new w _ _)) Tryz.underlying153 rfl (by kernel_rfl)) rfl ⟨rfl, (Below.refl _ _).alloc (Nat.le_refl _) _⟩
end Go.Proofs.YtcilabemglbhbaaGreatDoor
