/- The contracts of package octet's Pen, as the seat's program calls it. Conditions: numbers within their kinds, fewer than a milliard bytes written. -/
import Derived.Test.YtcilabemglbhbaaGreatDoorProg
import Derived.Test.YtcilabemglbhbaaGreatDoorK2
import Derived.Deep.RegionHeld3
import Derived.Deep.RegionLaw
import Derived.Deep.QuietTactic
import Derived.BigQuiet
namespace Go.Proofs.YtcilabemglbhbaaGreatDoor
open Go Go.RowKit Go.Pur

theorem u8_info : (Tryz.prog.info? 5).map (fun i => (i.zero, i.size, i.bytes)) = some (some (.int .u8 0), 1, 1) := by kernel_rfl

/-- append, bytes onto bytes of the call's own. -/
theorem app_bytes {w : World} {ops : Array Oper} {rest : List Oper} {o : Oper} {a : Act} {Q : Exit → Act → World → Prop} (hgd : o.guard = none) (s x : Operand)
    (ho : o.op = .call { callee := .builtin .append, args := #[s, x], argTypes := #[30, 30] })
    (base : Nat) (v : Value) (l : Bytes) (hs : a.eval s = v) (hown : OwnB w base 5 v l) (B : Nat) (v2 : Value) (l2 : Bytes) (hx : a.eval x = v2) (hr : Byt w B v2 l2)
    (hlen : l.length + l2.length ≤ 100000000000) (hbase : base ≤ w.heap.size)
    (h : ∀ v' w', OwnB w' base 5 v' (l ++ l2) → w.grownBy w' v.ownBlock → (v'.ownBlock = v.ownBlock ∨ v'.ownBlock = some w.heap.size) → wpList Tryz.prog ops Q rest (a.put o.dst v') w') :
    wpList Tryz.prog ops Q (o :: rest) a w := by
  obtain ⟨i0, hi, hz0, hz1, hz2⟩ := info_parts u8_info
  obtain ⟨A, c, rfl, h1, h2, h3⟩ := hr
  refine wpList_append_any w hgd s x _ ho base 5 i0 _ 1 1 Tryz.underlying30 hi hz0 hz1 hz2 rfl (by omega) v l.length (bvs l) hs hown B A l2.length c (bvs l2) hx h3 (bvs_one l2)
    (by simp only [maxLen]; omega) (by omega) hbase (fun v' w' e1 e2 e3 => h v' w' ?_ e2 e3)
  rw [← bvs_append] at e1
  show w'.ownsRow base 5 1 v' (l ++ l2).length (bvs (l ++ l2))
  rw [List.length_append]
  exact e1

theorem step_app_bytes {w : World} {ops : Array Oper} {o : Oper} {a : Act} {K : Act → World → Prop} {Q : Exit → Act → World → Prop} {E : Prop} (hgd : o.guard = none) (s x : Operand)
    (ho : o.op = .call { callee := .builtin .append, args := #[s, x], argTypes := #[30, 30] })
    (base : Nat) (v : Value) (l : Bytes) (hs : a.eval s = v) (hown : OwnB w base 5 v l) (B : Nat) (v2 : Value) (l2 : Bytes) (hx : a.eval x = v2) (hr : Byt w B v2 l2)
    (hlen : l.length + l2.length ≤ 100000000000) (hbase : base ≤ w.heap.size)
    (h : ∀ v' w', OwnB w' base 5 v' (l ++ l2) → w.grownBy w' v.ownBlock → (v'.ownBlock = v.ownBlock ∨ v'.ownBlock = some w.heap.size) → K (a.put o.dst v') w') :
    if Region.wanted o (yielded ops a.tmps) = true then Oper.wp Tryz.prog o a w K Q else E := by
  obtain ⟨i0, hi, hz0, hz1, hz2⟩ := info_parts u8_info
  obtain ⟨A, c, rfl, h1, h2, h3⟩ := hr
  refine step_append_any w hgd s x _ ho base 5 i0 _ 1 1 Tryz.underlying30 hi hz0 hz1 hz2 rfl (by omega) v l.length (bvs l) hs hown B A l2.length c (bvs l2) hx h3 (bvs_one l2)
    (by simp only [maxLen]; omega) (by omega) hbase (fun v' w' e1 e2 e3 => h v' w' ?_ e2 e3)
  rw [← bvs_append] at e1
  show w'.ownsRow base 5 1 v' (l ++ l2).length (bvs (l ++ l2))
  rw [List.length_append]
  exact e1

/-- a number's bytes, the lowest first. -/
def le : Nat → Nat → Bytes
  | 0, _ => []
  | k + 1, x => UInt8.ofNat x :: le k (x / 256)
theorem le_length (k x : Nat) : (le k x).length = k := by
  induction k generalizing x with
  | zero => rfl
  | succ k ih => simp [le, ih]
theorem le_snoc (k x : Nat) : le (k + 1) x = le k x ++ [UInt8.ofNat (x / 256 ^ k)] := by
  induction k generalizing x with
  | zero => simp [le]
  | succ k ih =>
    rw [le, ih, le, List.cons_append]
    rw [Nat.div_div_eq_div_mul, Nat.pow_succ, Nat.mul_comm]

/-- a pen at block p, whose row is q, that has written l. -/
def PenAt (w : World) (p : Nat) (q : Option Nat) (l : Bytes) : Prop := ∃ sv, Blk w p 57 #[sv] ∧ OwnB w 0 5 sv l ∧ sv.ownBlock = q

set_option maxHeartbeats 400000 in
set_option maxRecDepth 100000 in
theorem put_any (p : Nat) (q : Option Nat) (l : Bytes) (size x : Nat) (w : World) (_ : Lt64 x) (hs : size ≤ 8) (hl : l.length ≤ 1000000000) (hp : PenAt w p q l) :
    Calls Tryz.prog 40 #[.pointer (some ⟨p, 0, none⟩), .int .i64 size, .int .u64 x] w fun e w' =>
      e = .returned (.tuple #[]) ∧ ∃ q', PenAt w' p q' (l ++ le size x) ∧ Upd p q w w' q' := by
  obtain ⟨i0, hi, hz0, hz1, hz2⟩ := info_parts u8_info
  go_enter Tryz.func40, Tryz.ntmps40
  go_wp2
  go_loopw [2, 7] (fun n i wr => ∃ (k y : Nat) (q' : Option Nat), k ≤ size ∧ i = .int .i64 (k : Int) ∧ n = .int .u64 (y : Int) ∧ Hid (y = x / 256 ^ k) ∧ PenAt wr p q' (l ++ le k x) ∧ Upd p q w wr q') (fun _ i _ => size - (intOf i).toNat)
  case atStart => exact ⟨0, x, q, Nat.zero_le _, rfl, rfl, Lib.hid (by simp), by simpa [le] using hp, Upd.refl _ _ _⟩
  case round =>
    obtain ⟨k, y, q', hk, rfl, rfl, hy, ⟨sv, hb, hown, hq⟩, hup⟩ := hrel
    have hcell : wr.cell? ⟨p, 0, none⟩ = some sv := hb.cell 0
    have hfr : wr.frozen? ⟨p, 0, none⟩ = false := hb.frozen 0
    have hplt := hb.lt
    have hq' := Lib.hid hq
    clear hq
    by_cases hlt : k < size
    · have hb1 : Byt (wr.alloc (.cells #[.int .u8 ((y : Int) % 256)] 5)) (wr.heap.size + 1) (.slice (some ⟨wr.heap.size, 0, none⟩) 1 1) [UInt8.ofNat y] :=
        byt_built wr _ [UInt8.ofNat y] _ (by simp [bvs, bv_ofNat]) (by simp [maxLen])
      have hn0 := own_blk_ne hown hb (by decide)
      go_wp2_with (at_builtin; refine app_bytes rfl _ _ rfl 0 sv _ rfl (hown.alloc _) _ _ _ rfl hb1 (by simp [le_length]; omega) (by omega) ?_; intro v' w1 hown1 hg1 hf1; obtain ⟨A1, n1, c1, rfl⟩ := slice_of_own hown1; have hb2 := (hb.alloc _).grown hg1 (Ne.symm hn0); have hc2 := hb2.cell 0; have hf2 := hb2.frozen 0)
      go_round
      case rel =>
        have hn1 := own_blk_ne hown1 hb2 (by decide)
        have hq := hq'.out
        subst hq
        refine ⟨k + 1, y / 256, (Value.slice A1 n1 c1).ownBlock, by omega, by go_num, by go_num, Lib.hid ?_, ⟨_, hb2.set_ 0 _, ?_, rfl⟩, ((hup.alloc _).grown hg1 hf1).setCell 0 _⟩
        · rw [hy.out, Nat.div_div_eq_div_mul, Nat.pow_succ]
        · have := own_far hown1 (a := ⟨p, 0, none⟩) hn1 (Value.slice A1 n1 c1)
          rw [le_snoc, ← List.append_assoc, ← hy.out]
          exact this
      case measure => simp [intOf]; omega
    · go_wp2
      go_end0
      obtain rfl : k = size := by omega
      exact ⟨rfl, q', ⟨sv, hb, hown, hq'.out⟩, hup⟩

theorem ret_bool {a b : Bool} (h : a = b) : Ending.returned (.bool a) = .returned (.bool b) := by rw [h]

theorem wide4 (w : World) : Calls Tryz.prog 38 #[.int .i64 4] w fun e w' => e = .returned (.bool true) ∧ w = w' := by
  go_enter Tryz.func38, Tryz.ntmps38
  go_wp2
  go_ret
  exact ⟨ret_bool (by decide), rfl⟩
theorem wide8 (w : World) : Calls Tryz.prog 38 #[.int .i64 8] w fun e w' => e = .returned (.bool true) ∧ w = w' := by
  go_enter Tryz.func38, Tryz.ntmps38
  go_wp2
  go_ret
  exact ⟨ret_bool (by decide), rfl⟩
theorem goes8 (x : Nat) (w : World) : Calls Tryz.prog 39 #[.int .u64 x, .int .i64 8] w fun e w' => e = .returned (.bool true) ∧ w = w' := by
  go_enter Tryz.func39, Tryz.ntmps39
  go_wp2
  go_ret
  exact ⟨rfl, rfl⟩
theorem goes4_any (x : Nat) (w : World) : Calls Tryz.prog 39 #[.int .u64 x, .int .i64 4] w fun e w' => e = .returned (.bool (decide (x < 4294967296))) ∧ w = w' := by
  go_enter Tryz.func39, Tryz.ntmps39
  go_wp2
  go_ret
  refine ⟨ret_bool (a := ((x : Int) / 4294967296 == 0)) ?_, rfl⟩
  rw [Bool.eq_iff_iff]
  simp
  omega
theorem goes2_any (x : Nat) (w : World) : Calls Tryz.prog 39 #[.int .u64 x, .int .i64 2] w fun e w' => e = .returned (.bool (decide (x < 65536))) ∧ w = w' := by
  go_enter Tryz.func39, Tryz.ntmps39
  go_wp2
  go_ret
  refine ⟨ret_bool (a := ((x : Int) / 65536 == 0)) ?_, rfl⟩
  rw [Bool.eq_iff_iff]
  simp
  omega

theorem fixed4_any (p : Nat) (q : Option Nat) (l : Bytes) (x : Nat) (w : World) (hx : Lt32 x) (hl : l.length ≤ 1000000000) (hp : PenAt w p q l) :
    Calls Tryz.prog 18 #[.pointer (some ⟨p, 0, none⟩), .int .i64 4, .int .u64 x] w fun e w' =>
      e = .returned (.int .i64 0) ∧ ∃ q', PenAt w' p q' (l ++ le 4 x) ∧ Upd p q w w' q' := by
  have hd : decide (x < 4294967296) = true := by simpa [Lt32] using hx
  have hd' := Lib.hid hd
  clear hd
  go_enter Tryz.func18, Tryz.ntmps18
  go_wp2_with fail
  refine (wide4 _).mono ?_
  rintro e w1 ⟨rfl, rfl⟩
  go_wp2_with fail
  refine (goes4_any x _).mono ?_
  rintro e w1 ⟨rfl, rfl⟩
  rw [hd'.out]
  go_wp2_with fail
  refine (put_any p q l 4 x _ hx.lt64 (by omega) hl hp).mono ?_
  rintro e w1 ⟨rfl, q', h1, h2⟩
  go_wp2
  go_ret
  exact ⟨rfl, q', h1, h2⟩
theorem fixed8_any (p : Nat) (q : Option Nat) (l : Bytes) (x : Nat) (w : World) (hx : Lt64 x) (hl : l.length ≤ 1000000000) (hp : PenAt w p q l) :
    Calls Tryz.prog 18 #[.pointer (some ⟨p, 0, none⟩), .int .i64 8, .int .u64 x] w fun e w' =>
      e = .returned (.int .i64 0) ∧ ∃ q', PenAt w' p q' (l ++ le 8 x) ∧ Upd p q w w' q' := by
  go_enter Tryz.func18, Tryz.ntmps18
  go_wp2_with fail
  refine (wide8 _).mono ?_
  rintro e w1 ⟨rfl, rfl⟩
  go_wp2_with fail
  refine (goes8 x _).mono ?_
  rintro e w1 ⟨rfl, rfl⟩
  go_wp2_with fail
  refine (put_any p q l 8 x _ hx (by omega) hl hp).mono ?_
  rintro e w1 ⟨rfl, q', h1, h2⟩
  go_wp2
  go_ret
  exact ⟨rfl, q', h1, h2⟩

/-- how many bytes a compact size has. -/
def cmpN (n : Nat) : Nat := if n < 253 then 1 else if n < 65536 then 3 else if n < 4294967296 then 5 else 9
/-- a compact size's bytes. -/
def szB (n : Nat) : Bytes := if n < 253 then le 1 n else if n < 65536 then le 1 253 ++ le 2 n else if n < 4294967296 then le 1 254 ++ le 4 n else le 1 255 ++ le 8 n
theorem ret_int {k : IntKind} {a b : Int} (h : a = b) : Ending.returned (.int k a) = .returned (.int k b) := by rw [h]

set_option maxRecDepth 100000 in
theorem compact_any (n : Nat) (w : World) : Calls Tryz.prog 52 #[.int .u64 n] w fun e w' => e = .returned (.int .i64 (cmpN n)) ∧ w = w' := by
  by_cases h1 : n < 253
  · have hv : Hid (((cmpN n : Nat) : Int) = 1) := Lib.hid (by simp [cmpN, h1])
    go_enter Tryz.func52, Tryz.ntmps52
    go_wp2_with fail
    go_ret
    exact ⟨ret_int hv.out.symm, rfl⟩
  · by_cases h2 : n < 65536
    · have hv : Hid (((cmpN n : Nat) : Int) = 3) := Lib.hid (by simp [cmpN, h1, h2])
      have hd : Hid (decide (n < 65536) = true) := Lib.hid (by simpa using h2)
      clear h2
      go_enter Tryz.func52, Tryz.ntmps52
      go_wp2_with fail
      refine (goes2_any n _).mono ?_
      rintro e w1 ⟨rfl, rfl⟩
      rw [hd.out]
      go_wp2_with fail
      go_ret
      exact ⟨ret_int hv.out.symm, rfl⟩
    · by_cases h3 : n < 4294967296
      · have hv : Hid (((cmpN n : Nat) : Int) = 5) := Lib.hid (by simp [cmpN, h1, h2, h3])
        have hd : Hid (decide (n < 65536) = false) := Lib.hid (by simpa using h2)
        have hd2 : Hid (decide (n < 4294967296) = true) := Lib.hid (by simpa using h3)
        clear h2 h3
        go_enter Tryz.func52, Tryz.ntmps52
        go_wp2_with fail
        refine (goes2_any n _).mono ?_
        rintro e w1 ⟨rfl, rfl⟩
        rw [hd.out]
        go_wp2_with fail
        refine (goes4_any n _).mono ?_
        rintro e w1 ⟨rfl, rfl⟩
        rw [hd2.out]
        go_wp2_with fail
        go_ret
        exact ⟨ret_int hv.out.symm, rfl⟩
      · have hv : Hid (((cmpN n : Nat) : Int) = 9) := Lib.hid (by simp [cmpN, h1, h2, h3])
        have hd : Hid (decide (n < 65536) = false) := Lib.hid (by simpa using h2)
        have hd2 : Hid (decide (n < 4294967296) = false) := Lib.hid (by simpa using h3)
        clear h2 h3
        go_enter Tryz.func52, Tryz.ntmps52
        go_wp2_with fail
        refine (goes2_any n _).mono ?_
        rintro e w1 ⟨rfl, rfl⟩
        rw [hd.out]
        go_wp2_with fail
        refine (goes4_any n _).mono ?_
        rintro e w1 ⟨rfl, rfl⟩
        rw [hd2.out]
        go_wp2_with fail
        go_ret
        exact ⟨ret_int hv.out.symm, rfl⟩

set_option maxRecDepth 100000 in
theorem size_any (p : Nat) (q : Option Nat) (l : Bytes) (n : Nat) (w : World) (hx : Lt64 n) (hl : l.length ≤ 900000000) (hp : PenAt w p q l) :
    Calls Tryz.prog 26 #[.pointer (some ⟨p, 0, none⟩), .int .u64 n] w fun e w' =>
      e = .returned (.int .i64 0) ∧ ∃ q', PenAt w' p q' (l ++ szB n) ∧ Upd p q w w' q' := by
  have key : ∀ (c : Nat) (s : Bytes), cmpN n = c → szB n = s → Hid (cmpN n = c ∧ szB n = s) := fun c s a b => ⟨a, b⟩
  have H : Hid ((cmpN n = 1 ∧ szB n = le 1 n) ∨ (cmpN n = 3 ∧ szB n = le 1 253 ++ le 2 n) ∨ (cmpN n = 5 ∧ szB n = le 1 254 ++ le 4 n) ∨ (cmpN n = 9 ∧ szB n = le 1 255 ++ le 8 n)) := by
    refine Lib.hid ?_
    unfold cmpN szB
    by_cases h1 : n < 253
    · exact .inl (by simp [h1])
    · by_cases h2 : n < 65536
      · exact .inr (.inl (by simp [h1, h2]))
      · by_cases h3 : n < 4294967296
        · exact .inr (.inr (.inl (by simp [h1, h2, h3])))
        · exact .inr (.inr (.inr (by simp [h1, h2, h3])))
  clear key
  go_enter Tryz.func26, Tryz.ntmps26
  go_wp2_with fail
  refine (compact_any n _).mono ?_
  rintro e w1 ⟨rfl, rfl⟩
  have two : ∀ (f k : Nat) (W : World), k ≤ 8 → f < 256 → PenAt W p q l → Calls Tryz.prog 40 #[.pointer (some ⟨p, 0, none⟩), .int .i64 1, .int .u64 f] W fun e w' =>
      e = .returned (.tuple #[]) ∧ ∃ q', (PenAt w' p q' (l ++ le 1 f) ∧ Upd p q W w' q') ∧ (Calls Tryz.prog 40 #[.pointer (some ⟨p, 0, none⟩), .int .i64 k, .int .u64 n] w' fun e w2 =>
      e = .returned (.tuple #[]) ∧ ∃ q2, PenAt w2 p q2 (l ++ (le 1 f ++ le k n)) ∧ Upd p q W w2 q2) := by
    intro f k W hk hf hpen
    refine (put_any p q l 1 f W (by unfold Lt64; omega) (by omega) (by omega) hpen).mono ?_
    rintro e w1 ⟨rfl, q1, h1, h2⟩
    refine ⟨rfl, q1, ⟨h1, h2⟩, ?_⟩
    refine (put_any p q1 (l ++ le 1 f) k n w1 hx hk (by simp [le_length]; omega) h1).mono ?_
    rintro e w2 ⟨rfl, q2, h3, h4⟩
    exact ⟨rfl, q2, by rw [← List.append_assoc]; exact h3, h2.trans h4⟩
  have two' := Lib.hid two
  clear two
  rcases H.out with ⟨a, b⟩ | ⟨a, b⟩ | ⟨a, b⟩ | ⟨a, b⟩
  · rw [a]
    have hb := Lib.hid b
    clear a b
    go_wp2_with fail
    refine (put_any p q l 1 n _ hx (by omega) (by omega) hp).mono ?_
    rintro e w1 ⟨rfl, q', h1, h2⟩
    go_wp2_with fail
    go_ret
    exact ⟨rfl, q', by rw [hb.out]; exact h1, h2⟩
  · rw [a]
    have hb := Lib.hid b
    clear a b
    go_wp2_with fail
    refine (two'.out 253 2 _ (by omega) (by omega) hp).mono ?_
    rintro e w1 ⟨rfl, q', h1, h2⟩
    have h2' := Lib.hid h2
    clear h2
    go_wp2_with fail
    refine h2'.out.mono ?_
    rintro e w2 ⟨rfl, q2, h3, h4⟩
    go_wp2_with fail
    go_ret
    exact ⟨rfl, q2, by rw [hb.out]; exact h3, h4⟩
  · rw [a]
    have hb := Lib.hid b
    clear a b
    go_wp2_with fail
    refine (two'.out 254 4 _ (by omega) (by omega) hp).mono ?_
    rintro e w1 ⟨rfl, q', h1, h2⟩
    have h2' := Lib.hid h2
    clear h2
    go_wp2_with fail
    refine h2'.out.mono ?_
    rintro e w2 ⟨rfl, q2, h3, h4⟩
    go_wp2_with fail
    go_ret
    exact ⟨rfl, q2, by rw [hb.out]; exact h3, h4⟩
  · rw [a]
    have hb := Lib.hid b
    clear a b
    go_wp2_with fail
    refine (two'.out 255 8 _ (by omega) (by omega) hp).mono ?_
    rintro e w1 ⟨rfl, q', h1, h2⟩
    have h2' := Lib.hid h2
    clear h2
    go_wp2_with fail
    refine h2'.out.mono ?_
    rintro e w2 ⟨rfl, q2, h3, h4⟩
    go_wp2_with fail
    go_ret
    exact ⟨rfl, q2, by rw [hb.out]; exact h3, h4⟩

/-! ### the library's -/
set_option maxRecDepth 100000 in
theorem clone_any (v : Value) (l : Bytes) (B : Nat) (w : World) (hl : l.length ≤ 10000000000) (h : Byt w B v l) :
    Calls Tryz.prog 37 #[v] w fun e w' => ∃ v', e = .returned v' ∧ OwnB w' w.heap.size 5 v' l ∧ Below w.heap.size w w' := by
  obtain ⟨A, c, rfl, h1, h2, hr⟩ := h
  have hq := fun (W : World) (a : Option Addr) (n m : Nat) => Lib.run_eql_slice_nil (P := Tryz.prog) W 30 5 a n m 0 0 Tryz.underlying30
  rcases A with _ | ad
  · have hl0 : l = [] := by
      rcases l with _ | ⟨x, r⟩
      · rfl
      · obtain ⟨ad, hn, _⟩ := hr.2 (by simp)
        cases hn
    have hl0' := Lib.hid hl0
    clear hl0
    go_enter Tryz.func37, Tryz.ntmps37
    go_wp2_with fail
    go_ret
    refine ⟨_, rfl, ?_, Below.refl _ _⟩
    rw [hl0'.out]
    exact World.ownsRow_nil _ _ _ _
  · have hb : Byt w B (.slice (some ad) l.length c) l := ⟨_, c, rfl, h1, h2, hr⟩
    have hb1 : Byt (w.alloc (.cells #[] 5)) w.heap.size (.slice (some ad) l.length c) l := hb.here.alloc (Nat.le_refl _) _
    have hown : OwnB (w.alloc (.cells #[] 5)) w.heap.size 5 (.slice (some ⟨w.heap.size, 0, none⟩) 0 0) [] := owned_built w _ [] #[] _ (Nat.le_refl _) rfl (by simp [maxLen])
    clear hr h1 h2
    generalize hnl : l.length = n at hb hb1
    have hnl' := Lib.hid hnl
    clear hnl
    go_enter Tryz.func37, Tryz.ntmps37
    go_wp2_with (at_builtin; refine app_bytes rfl _ _ rfl w.heap.size _ [] rfl hown _ _ l rfl hb1 (by simp; omega) (by simp) ?_; intro v' w1 hown1 hg1 hf1)
    go_ret
    exact ⟨v', rfl, by simpa using hown1, ((Below.refl _ _).alloc (Nat.le_refl _) _).grown hg1 (by simp) (fun k hk => by injection hk with hk; simp only at hk; omega)⟩

theorem ret_val {a b : Value} (h : a = b) : Ending.returned a = .returned b := by rw [h]

/-- bytes.Join of one part. -/
theorem join1_any (b off c : Nat) (v : Value) (l : Bytes) (B : Nat) (w : World) (hl : l.length ≤ 10000000000) (h : Byt w B v l) (hc : w.cell? ⟨b, off, none⟩ = some v) :
    Calls Tryz.prog 41 #[.slice (some ⟨b, off, none⟩) 1 c, .slice none 0 0] w fun e w' => ∃ v', e = .returned v' ∧ OwnB w' w.heap.size 5 v' l ∧ Below w.heap.size w w' := by
  obtain ⟨A, n, c', rfl⟩ := slice_of_byt h
  go_enter Tryz.func41, Tryz.ntmps41
  go_wp2_with (at_builtin; refine app_bytes rfl _ _ rfl w.heap.size (.slice none 0 0) [] rfl (World.ownsRow_nil _ _ _ _) _ _ l rfl h (by simp; omega) (by simp) ?_; intro v' w1 hown1 hg1 hf1)
  go_ret
  exact ⟨v', rfl, by simpa using hown1, (Below.refl _ _).grown hg1 (by simp) (fun k hk => by cases hk)⟩

theorem all_any (p : Nat) (q : Option Nat) (l : Bytes) (w : World) (hl : l.length ≤ 10000000000) (hp : PenAt w p q l) :
    Calls Tryz.prog 20 #[.pointer (some ⟨p, 0, none⟩)] w fun e w' => ∃ v', e = .returned v' ∧ OwnB w' w.heap.size 5 v' l ∧ Below w.heap.size w w' := by
  obtain ⟨sv, hb, hown, hq⟩ := hp
  have hcell : w.cell? ⟨p, 0, none⟩ = some sv := hb.cell 0
  obtain ⟨A, n, c, rfl⟩ := slice_of_own hown
  clear hq
  go_enter Tryz.func20, Tryz.ntmps20
  go_wp2_with fail
  refine (clone_any _ l _ _ hl (Byt.of_own hown)).mono ?_
  rintro e w1 ⟨v', rfl, h1, h2⟩
  go_wp2_with fail
  go_ret
  exact ⟨v', rfl, h1, h2⟩

set_option maxRecDepth 100000 in
/-- Raw of one part. -/
theorem raw1_any (p : Nat) (q : Option Nat) (l m : Bytes) (b off c B : Nat) (v : Value) (w : World) (hl : l.length ≤ 10000000000) (hm : m.length ≤ 10000000000) (hp : PenAt w p q l) (h : Byt w B v m) (hc : w.cell? ⟨b, off, none⟩ = some v) :
    Calls Tryz.prog 19 #[.pointer (some ⟨p, 0, none⟩), .slice (some ⟨b, off, none⟩) 1 c] w fun e w' =>
      e = .returned (.int .i64 0) ∧ ∃ q', PenAt w' p q' (l ++ m) ∧ Upd p q w w' q' := by
  obtain ⟨sv, hb, hown, hq⟩ := hp
  have hcell : w.cell? ⟨p, 0, none⟩ = some sv := hb.cell 0
  obtain ⟨A, n, c', rfl⟩ := slice_of_own hown
  have hpl := hb.lt
  have hq' := Lib.hid hq
  clear hq
  have hn0 := own_blk_ne hown hb (by decide)
  go_enter Tryz.func19, Tryz.ntmps19
  go_wp2_with fail
  go_region_law (first
      | (refine step_app_bytes rfl _ _ rfl 0 (.slice A n c') l (by rfl) (own_below hown hj2) _ _ m (by rfl) (Byt.of_own hj1) (by omega) (by omega) ?_; intro v2 w2 hown2 hg2 hf2; obtain ⟨A2, n2, c2, rfl⟩ := slice_of_own hown2; have hbw2 := (hb.below hj2 hpl).grown hg2 (Ne.symm hn0); have hcw2 := hbw2.cell 0; have hfw2 := hbw2.frozen 0)
      | (go_simp; go_at_call 41; refine (join1_any b off c v m B _ hm (by exact h) (by exact hc)).mono ?_; rintro e w1 ⟨v', rfl, hj1, hj0⟩; have hj2 : Below w.heap.size w w1 := ⟨hj0.os, hj0.tape, hj0.output, hj0.size, hj0.block⟩; have hcw1 := (hb.below hj2 hpl).cell 0))
  all_goals
    go_wp2_with fail
    go_ret
    have hn1 := own_blk_ne hown2 hbw2 (by decide)
    have hq := hq'.out
    subst hq
    refine ⟨rfl, _, ⟨_, hbw2.set_ 0 _, own_far hown2 (a := ⟨p, 0, none⟩) hn1 _, rfl⟩, (((Upd.ofBelow hj2).grown hg2 hf2).setCell 0 _)⟩

theorem PenAt.alloc {w : World} {p : Nat} {q : Option Nat} {l : Bytes} (h : PenAt w p q l) (o : Obj) : PenAt (w.alloc o) p q l := by
  obtain ⟨sv, h1, h2, h3⟩ := h
  exact ⟨sv, h1.alloc o, h2.alloc o, h3⟩
theorem PenAt.below {w w1 : World} {p : Nat} {q : Option Nat} {l : Bytes} (h : PenAt w p q l) (hb : Below w.heap.size w w1) : PenAt w1 p q l := by
  obtain ⟨sv, h1, h2, h3⟩ := h
  exact ⟨sv, h1.below hb h1.lt, own_below h2 hb, h3⟩
theorem PenAt.lt {w : World} {p : Nat} {q : Option Nat} {l : Bytes} (h : PenAt w p q l) : p < w.heap.size ∧ ∀ k, q = some k → k < w.heap.size := by
  obtain ⟨sv, h1, h2, h3⟩ := h
  exact ⟨h1.lt, fun k hk => own_lt h2 (h3.trans hk)⟩
theorem PenAt.new (w : World) : PenAt (w.alloc (.cells #[.slice none 0 0] 57)) w.heap.size none [] :=
  ⟨_, Blk.new w _ _, World.ownsRow_nil _ _ _ _, rfl⟩

set_option maxRecDepth 100000 in
/-- Bytes. -/
theorem bytes_any (p : Nat) (q : Option Nat) (l m : Bytes) (B : Nat) (v : Value) (w : World) (hl : l.length ≤ 900000000) (hm : m.length ≤ 900000000) (hp : PenAt w p q l) (hpB : B ≤ p) (hqB : ∀ k, q = some k → B ≤ k) (h : Byt w B v m) :
    Calls Tryz.prog 54 #[.pointer (some ⟨p, 0, none⟩), v] w fun e w' =>
      e = .returned (.int .i64 0) ∧ ∃ q', PenAt w' p q' (l ++ (szB m.length ++ m)) ∧ Upd p q w w' q' := by
  have hpl := hp.lt.1
  have hs9 : (szB m.length).length ≤ 9 := by
    unfold szB
    split
    · simp [le_length]
    · split
      · simp [le_length]
      · split <;> simp [le_length]
  obtain ⟨A, n, c, hv⟩ : ∃ A n c, v = .slice A n c ∧ n = m.length := by
    obtain ⟨A, c, h, _⟩ := h
    exact ⟨A, _, c, h, rfl⟩
  obtain ⟨rfl, hn⟩ := hv
  have hn' : Hid (n = m.length) := Lib.hid hn
  have hn9 : n ≤ 900000000 := by omega
  clear hn
  go_enter Tryz.func54, Tryz.ntmps54
  go_wp2_with fail
  refine (size_any p q l n _ (by unfold Lt64; omega) hl hp).mono ?_
  rintro e w1 ⟨rfl, q1, h1, h2⟩
  have hB1 := h.below (h2.below (by omega) hpB hqB)
  have hB1 := (hB1.here.alloc (Nat.le_refl _) (.cells #[.slice A n c] 30))
  go_wp2_with fail
  refine (raw1_any p q1 _ m w1.heap.size 0 1 _ _ _ (by rw [hn'.out]; simp; omega) (by omega) (h1.alloc _) hB1 ((Blk.new w1 _ _).cell 0)).mono ?_
  rintro e w2 ⟨rfl, q2, h3, h4⟩
  go_wp2_with fail
  go_ret
  exact ⟨rfl, q2, by rw [← List.append_assoc, ← hn'.out]; exact h3, (h2.alloc _).trans h4⟩
end Go.Proofs.YtcilabemglbhbaaGreatDoor
