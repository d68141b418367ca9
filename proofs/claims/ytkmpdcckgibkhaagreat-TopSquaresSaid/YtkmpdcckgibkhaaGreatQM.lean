/-
  Texts merged: Q, Qa, Qb, Qc, Qd, Qe, Qf, Qg, Qh, Qi.
-/
import Derived.Test.YtkmpdcckgibkhaaGreatPc
/-
  Walks: powers; parts of a net.
-/
namespace Go.Proofs.YtkmpdcckgibkhaaGreat
open Go.RowKit

theorem rem_two (n : Int) (h : 0 ≤ n) : n.tmod 2 = n % 2 := by rw [Int.tmod_eq_emod_of_nonneg h]
theorem quo_two (n : Int) (h : 0 ≤ n) : n.tdiv 2 = n / 2 := by rw [Int.tdiv_eq_ediv_of_nonneg h]

/-- A product's remainder. -/
theorem mulmod (x y p : Int) (h1 : 0 ≤ x) (h2 : x < p) (h3 : 0 ≤ y) (h4 : y < p) (hp : p ≤ 2147483647) : 0 ≤ x * y ∧ x * y ≤ 4611686018427387904 ∧ (x * y).tmod p = x * y % p ∧ 0 ≤ x * y % p ∧ x * y % p < p := by
  have a : 0 ≤ x * y := Int.mul_nonneg h1 h3
  have b : x * y ≤ 2147483648 * 2147483648 := Int.mul_le_mul (by omega) (by omega) h3 (by omega)
  exact ⟨a, by omega, Int.tmod_eq_emod_of_nonneg a, Int.emod_nonneg _ (by omega), Int.emod_lt_of_pos _ (by omega)⟩

/-- The number is in the range, and 1 if a is. -/
def PowIs (a p : Int) (u : Value) : Prop := ∃ x, u = .int .i64 x ∧ 0 ≤ x ∧ x < p ∧ (a = 1 → x = 1)

set_option maxHeartbeats 2000000 in
theorem power_any (a n p : Int) (w : World) (hp : 1 < p) (hp2 : p ≤ 2147483647) (ha : 0 ≤ a) (ha2 : a < p) (hn : 0 ≤ n) (hn2 : n ≤ 2147483647) :
    Calls Tryz.prog 94 #[.int .i64 a, .int .i64 n, .int .i64 p] w fun e w' => (∃ u, e = .returned u ∧ PowIs a p u) ∧ w = w' := by
  go_enter Tryz.func94, Tryz.ntmps94
  go_wp2_with fail
  go_loop [0, 1, 7] (fun b m out => ∃ x y k : Int, b = .int .i64 x ∧ m = .int .i64 k ∧ out = .int .i64 y ∧ 0 ≤ k ∧ k ≤ 2147483647 ∧ 0 ≤ x ∧ x < p ∧ 0 ≤ y ∧ y < p ∧ Hid (a = 1 → x = 1 ∧ y = 1)) (fun _ m _ => (intOf m).toNat)
  case atStart => exact ⟨a, 1, n, rfl, rfl, rfl, hn, hn2, ha, ha2, by omega, hp, fun h => ⟨h, rfl⟩⟩
  case round =>
    obtain ⟨x, y, k, rfl, rfl, rfl, hk, hk2, hx, hx2, hy, hy2, H⟩ := hrel
    obtain ⟨e1, e2, e3, e4, e5⟩ := mulmod y x p hy hy2 hx hx2 hp2
    obtain ⟨f1, f2, f3, f4, f5⟩ := mulmod x x p hx hx2 hx hx2 hp2
    have HY := hid (show a = 1 → y * x % p = 1 from fun h => by obtain ⟨rfl, rfl⟩ := H.out h; exact Int.emod_eq_of_lt (by omega) (by omega))
    have HX := hid (show a = 1 → x * x % p = 1 from fun h => by obtain ⟨rfl, rfl⟩ := H.out h; exact Int.emod_eq_of_lt (by omega) (by omega))
    generalize hP : y * x = P at *
    generalize hR : x * x = R at *
    generalize hP' : P % p = P' at *
    generalize hR' : R % p = R' at *
    have g1 : wrap64 (y * x) = P := by unfold wrap64; omega
    have g2 : IntKind.i64.wrap (y * x) = P := by rw [IntKind.wrap_i64]; omega
    have g3 : wrap64 (x * x) = R := by unfold wrap64; omega
    have g4 : IntKind.i64.wrap (x * x) = R := by rw [IntKind.wrap_i64]; omega
    have k1 := rem_two k hk
    have k2 := quo_two k hk
    clear hP hR hP' hR'
    by_cases h0 : 0 < k
    · obtain ⟨d, hd⟩ : ∃ d, d = k / 2 := ⟨_, rfl⟩
      have d1 : 0 ≤ d := by omega
      have d2 : d < k := by omega
      rw [← hd] at k2
      by_cases h1 : k % 2 = 1
      · rw [h1] at k1
        clear hd h1
        go_wp2_with fail
        go_round
        case rel => exact ⟨R', P', d, rfl, rfl, rfl, d1, by omega, f4, f5, e4, e5, fun h => ⟨HX.out h, HY.out h⟩⟩
        case measure => simp [intOf]; omega
      · have h2 : k % 2 = 0 := by omega
        rw [h2] at k1
        clear hd h1 h2
        go_wp2_with fail
        go_round
        case rel => exact ⟨R', y, d, rfl, rfl, rfl, d1, by omega, f4, f5, hy, hy2, fun h => ⟨HX.out h, (H.out h).2⟩⟩
        case measure => simp [intOf]; omega
    · go_wp2_with fail
      go_ret
      exact ⟨⟨_, rfl, y, rfl, hy, hy2, fun h => (H.out h).2⟩, rfl⟩
end Go.Proofs.YtkmpdcckgibkhaaGreat
/-
  Walks: parts of a net.
-/
namespace Go.Proofs.YtkmpdcckgibkhaaGreat
open Go.RowKit

def idR (i : Nat) : Int := i
def upTo (k : Nat) (i : Nat) : Int := if i < k then (i : Int) else 0
def joined01 (i : Nat) : Int := if i = 1 then 0 else (i : Int)

set_option maxRecDepth 100000 in
set_option maxHeartbeats 2000000 in
theorem apart_any (w : World) : Calls Tryz.prog 126 #[] w fun e w' => e = .returned (.pointer (some ⟨w.heap.size, 0, none⟩)) ∧ Blk w' w.heap.size (rowA idR 16) 214 ∧ Below w.heap.size w w' := by
  have hz : (#[.int .i64 0, .int .i64 0, .int .i64 0, .int .i64 0, .int .i64 0, .int .i64 0, .int .i64 0, .int .i64 0, .int .i64 0, .int .i64 0, .int .i64 0, .int .i64 0, .int .i64 0, .int .i64 0, .int .i64 0, .int .i64 0] : Array Value) = rowA (upTo 0) 16 := by
    rw [rowA_congr (f := upTo 0) (g := fun _ => 0) fun i _ => by simp [upTo]]; rfl
  have hb := (Below.refl _ w).alloc (Nat.le_refl _) (.cells (rowA (upTo 0) 16) 214)
  have b1 := Blk.new w (rowA (upTo 0) 16) 214
  go_enter Tryz.func126, Tryz.ntmps126
  go_wp2_with fail
  have HZ := hid hz
  clear hz
  generalize w.alloc (.cells (rowA (upTo 0) 16) 214) = W0 at *
  have H0 := hid (And.intro hb b1)
  clear hb b1
  go_loopw [5] (fun jv W => ∃ j : Nat, j ≤ 16 ∧ jv = .int .i64 j ∧ Hid (Below w.heap.size w W ∧ Blk W w.heap.size (rowA (upTo j) 16) 214)) (fun jv _ => 16 - (intOf jv).toNat)
  case atStart => exact ⟨0, by omega, rfl, H0⟩
  case round =>
    obtain ⟨j, hj, rfl, H⟩ := hrel
    by_cases hlt : j < 16
    · have d1 : decide ((j : Int) < 16) = true := by simp; omega
      have i1 : (0 : Int) ≤ (j : Int) := by omega
      have i2 : (j : Int) < 16 := by omega
      have k1 := H.out.2.rowAt j hlt
      have k2 := H.out.2.free j
      have HP := hid (H.out.2.rowPut (g := upTo (j + 1)) j (j : Int) fun i _ => by unfold upTo; by_cases h1 : i = j; { subst h1; simp }; { simp only [h1, if_false]; by_cases h2 : i < j; { rw [if_pos h2, if_pos (by omega)] }; { rw [if_neg h2, if_neg (by omega)] } })
      have HB := hid (H.out.1.setCell (Nat.le_refl _) (.int .i64 (j : Int)) (p := ⟨w.heap.size, j, none⟩))
      generalize upTo j j = tv at *
      go_wp2
      exact ⟨⟨j + 1, by omega, by go_num, hid ⟨HB.out, HP.out⟩⟩, by simp [intOf]; omega⟩
    · have hje : j = 16 := by omega
      subst hje
      have HT := hid (show rowA (upTo 16) 16 = rowA idR 16 from rowA_congr fun i hi => by simp [upTo, idR, hi])
      go_wp2
      go_ret
      exact ⟨rfl, HT.out ▸ H.out.2, H.out.1⟩

/-- The vertex that stands for a part, at most one step away. -/
theorem of_two (b : Nat) (f : Nat → Int) (v u : Nat) (hv : v < 16) (hu : u < 16) (h1 : f v = u) (h2 : f u = u) (w : World) (hb : Blk w b (rowA f 16) 214) :
    Calls Tryz.prog 149 #[.pointer (some ⟨b, 0, none⟩), .int .i64 v] w fun e w' => e = .returned (.int .i64 u) ∧ w = w' := by
  have q1 := hb.rowAt v hv
  have q2 := hb.rowAt u hu
  rw [h1] at q1
  rw [h2] at q2
  have i1 : (0 : Int) ≤ (v : Int) := by omega
  have i2 : (v : Int) < 16 := by omega
  have j1 : (0 : Int) ≤ (u : Int) := by omega
  have j2 : (u : Int) < 16 := by omega
  clear hb h1 h2
  go_enter Tryz.func149, Tryz.ntmps149
  go_wp2_with fail
  refine wp_loop_rounds 2 ?_
  rw [rounds_succ]
  by_cases h : u = v
  · subst h
    go_wp2_with fail
    go_ret
    exact ⟨rfl, rfl⟩
  · have d : decide ((u : Int) ≠ (v : Int)) = true := by simp; omega
    go_wp2_with fail
    rw [rounds_succ]
    go_wp2_with fail
    go_ret
    exact ⟨rfl, rfl⟩

theorem join01 (b : Nat) (w : World) (hb : Blk w b (rowA idR 16) 214) :
    Calls Tryz.prog 128 #[.pointer (some ⟨b, 0, none⟩), .int .i64 0, .int .i64 1] w fun e w' => e = .returned (.bool true) ∧ Blk w' b (rowA joined01 16) 214 ∧ Below b w w' := by
  have HB := hid hb
  have q1 := hb.rowAt 1 (by omega)
  have z1 := hb.free 1
  clear hb
  go_enter Tryz.func128, Tryz.ntmps128
  go_wp2_with fail
  refine (of_two b idR 0 0 (by omega) (by omega) rfl rfl _ HB.out).mono ?_
  rintro e w1 ⟨rfl, rfl⟩
  go_wp2_with fail
  refine (of_two b idR 1 1 (by omega) (by omega) rfl rfl _ HB.out).mono ?_
  rintro e w1 ⟨rfl, rfl⟩
  go_wp2_with fail
  go_ret
  refine ⟨rfl, HB.out.rowPut (g := joined01) 1 0 fun i _ => rfl, (Below.refl b w).setCell (Nat.le_refl _) _⟩

end Go.Proofs.YtkmpdcckgibkhaaGreat
/-
  Walks: the net with one street.
-/
namespace Go.Proofs.YtkmpdcckgibkhaaGreat
open Go.RowKit

/-- The street from 0 to 1 of the weight 5. -/
structure Street (w : World) (g : Nat) : Prop where
  lt : g < w.heap.size
  c0 : w.cell? ⟨g, 0, none⟩ = some (.int .i64 0)
  c1 : w.cell? ⟨g, 1, none⟩ = some (.int .i64 1)
  c2 : w.cell? ⟨g, 2, none⟩ = some (.int .i64 5)
theorem Street.below {w w' : World} {g B : Nat} (h : Street w g) (hb : Below B w w') (hB : w.heap.size ≤ B) : Street w' g :=
  have hl : g < B := Nat.lt_of_lt_of_le h.lt hB
  ⟨Nat.lt_of_lt_of_le h.lt hb.size, (hb.cell (p := ⟨g, 0, none⟩) hl).trans h.c0, (hb.cell (p := ⟨g, 1, none⟩) hl).trans h.c1, (hb.cell (p := ⟨g, 2, none⟩) hl).trans h.c2⟩

set_option maxHeartbeats 1000000 in
theorem bad_no (p : Nat) (w : World) (hp : w.cell? ⟨p, 0, none⟩ = some (.int .i64 2)) (hpl : p < w.heap.size) :
    Calls Tryz.prog 123 #[.agg #[.int .i64 0, .int .i64 1, .int .i64 5], .pointer (some ⟨p, 0, none⟩)] w (RetB (.bool false) w) := by
  have hb := (Below.refl _ w).alloc (Nat.le_refl _) (.cells #[.int .i64 0, .int .i64 1, .int .i64 5] 109)
  have b0 := Blk.new w #[.int .i64 0, .int .i64 1, .int .i64 5] 109
  have hp2 : (w.alloc (.cells #[.int .i64 0, .int .i64 1, .int .i64 5] 109)).cell? ⟨p, 0, none⟩ = some (.int .i64 2) := (hb.cell (p := ⟨p, 0, none⟩) hpl).trans hp
  have r0 := b0.cell 0
  have r1 := b0.cell 1
  have r2 := b0.cell 2
  clear hp b0
  go_enter Tryz.func123, Tryz.ntmps123
  go_wp2_with fail
  generalize w.alloc (.cells #[.int .i64 0, .int .i64 1, .int .i64 5] 109) = W at *
  go_wp2_with (go_at_call 124; refine (within124_yes _ _ _ _ (by simp) (by simp)).mono ?_; rintro e w1 ⟨rfl, rfl⟩)
  go_ret
  exact ⟨rfl, hb⟩

set_option maxHeartbeats 1000000 in
theorem index_no (p g c : Nat) (w : World) (hp : w.cell? ⟨p, 0, none⟩ = some (.int .i64 2)) (hpl : p < w.heap.size) (hs : Street w g) :
    Calls Tryz.prog 144 #[.slice (some ⟨g, 0, none⟩) 1 c, .func (.func 123) #[] #[.pointer (some ⟨p, 0, none⟩)]] w (RetB (.int .i64 (-1)) w) := by
  have C := hid (bad_no p w hp hpl)
  obtain ⟨hl, c0, c1, c2⟩ := hs
  clear hp
  go_enter Tryz.func144, Tryz.ntmps144
  go_wp2_with fail
  refine wp_loop_rounds 2 ?_
  rw [rounds_succ]
  go_wp2_with fail
  refine C.out.mono ?_
  rintro e w1 ⟨rfl, hb⟩
  go_wp2_with fail
  rw [rounds_succ]
  go_wp2_with fail
  go_ret
  exact ⟨rfl, hb⟩

theorem contains_no (p g c : Nat) (w : World) (hp : w.cell? ⟨p, 0, none⟩ = some (.int .i64 2)) (hpl : p < w.heap.size) (hs : Street w g) :
    Calls Tryz.prog 125 #[.slice (some ⟨g, 0, none⟩) 1 c, .func (.func 123) #[] #[.pointer (some ⟨p, 0, none⟩)]] w (RetB (.bool false) w) := by
  have C := hid (index_no p g c w hp hpl hs)
  clear hp hs
  go_enter Tryz.func125, Tryz.ntmps125
  go_wp2_with fail
  refine C.out.mono ?_
  rintro e w1 ⟨rfl, hb⟩
  go_wp2_with fail
  go_ret
  exact ⟨rfl, hb⟩

/-- The net of two vertices and one street. -/
def netV (g c : Nat) : Value := .agg #[.int .i64 2, .slice (some ⟨g, 0, none⟩) 1 c]

set_option maxHeartbeats 2000000 in
theorem newNet_one (g c : Nat) (w : World) (hs : Street w g) :
    Calls Tryz.prog 91 #[.int .i64 2, .slice (some ⟨g, 0, none⟩) 1 c] w (RetB (.tuple #[netV g c, .bool true]) w) := by
  have HS := hid hs
  clear hs
  have hmf : ∀ (fn : Fn) (first cap : Array Value) (w : World), (Instr.makeFunc fn first cap).run Tryz.prog w = .ok (.func fn first cap) w := fun _ _ _ _ => rfl
  have hb := ((Below.refl _ w).alloc (Nat.le_refl _) (.cells #[.int .i64 2] 3)).alloc (by simp) (.cells #[.int .i64 0, .slice none 0 0] 146)
  have b1 := (Blk.new w #[.int .i64 2] 3).alloc (.cells #[.int .i64 0, .slice none 0 0] 146)
  have b2 := Blk.new (w.alloc (.cells #[.int .i64 2] 3)) #[.int .i64 0, .slice none 0 0] 146
  rw [show (w.alloc (.cells #[.int .i64 2] 3)).heap.size = w.heap.size + 1 by simp] at b2
  go_enter Tryz.func91, Tryz.ntmps91
  go_wp2_with fail
  generalize (w.alloc (.cells #[.int .i64 2] 3)).alloc (.cells #[.int .i64 0, .slice none 0 0] 146) = W at *
  have p0 := b1.cell 0
  refine (within124_yes _ _ _ _ (by simp) (by simp)).mono ?_
  rintro e w1 ⟨rfl, rfl⟩
  go_wp2_with fail
  refine (contains_no w.heap.size g c _ p0 b1.lt (HS.out.below hb (Nat.le_refl _))).mono ?_
  rintro e w1 ⟨rfl, hb1⟩
  have b1 := b1.below hb1 b1.lt
  have b2 := b2.below hb1 b2.lt
  have hb := hb.trans (hb1.mono hb.size)
  clear p0
  have p0 := b1.cell 0
  obtain ⟨r0, r1, z0, z1⟩ := b2.two
  have b3 := b2.put2 (.int .i64 2) (.slice (some ⟨g, 0, none⟩) 1 c)
  have hb3 : Below w.heap.size w ((w1.setCell ⟨w.heap.size + 1, 0, none⟩ (.int .i64 2)).setCell ⟨w.heap.size + 1, 1, none⟩ (.slice (some ⟨g, 0, none⟩) 1 c)) := (hb.setCell (by simp) _).setCell (by simp) _
  clear hb1 hb b1
  go_wp2_with fail
  generalize (w1.setCell ⟨w.heap.size + 1, 0, none⟩ (.int .i64 2)).setCell ⟨w.heap.size + 1, 1, none⟩ (.slice (some ⟨g, 0, none⟩) 1 c) = W2 at *
  clear r0 r1 z0 z1
  obtain ⟨r0, r1, z0, z1⟩ := b3.two
  exact bodyPost_ret (v := .tuple #[netV g c, .bool true]) (by simp [results, Tryz.results91, go_sem, r0, r1, netV]) rfl ⟨rfl, hb3⟩

end Go.Proofs.YtkmpdcckgibkhaaGreat
/-
  Walks: sorting one number.
-/
namespace Go.Proofs.YtkmpdcckgibkhaaGreat
open Go.RowKit

set_option maxRecDepth 100000 in
set_option maxHeartbeats 1000000 in
theorem len64_1 (w : World) : Calls Tryz.prog 172 #[.int .u64 1] w fun e w' => e = .returned (.int .i64 1) ∧ w = w' := by
  go_enter Tryz.func172, Tryz.ntmps172
  go_wp2_with fail
  go_ret
  exact ⟨ret_int (by kernel_rfl), rfl⟩

theorem len_1 (w : World) : Calls Tryz.prog 159 #[.int .u64 1] w fun e w' => e = .returned (.int .i64 1) ∧ w = w' := by
  go_enter Tryz.func159, Tryz.ntmps159
  go_wp2_with fail
  refine (len64_1 _).mono ?_
  rintro e w1 ⟨rfl, rfl⟩
  go_wp2_with fail
  go_ret
  exact ⟨rfl, rfl⟩

theorem insert_1 (v f : Value) (w : World) : Calls Tryz.prog 163 #[v, .int .i64 0, .int .i64 1, f] w fun e w' => e = .returned (.tuple #[]) ∧ w = w' := by
  go_enter Tryz.func163, Tryz.ntmps163
  go_wp2_with fail
  refine wp_loop_rounds 1 ?_
  rw [rounds_succ]
  go_wp2_with fail
  go_returns
  exact ⟨rfl, rfl⟩

set_option maxRecDepth 100000 in
set_option maxHeartbeats 1000000 in
theorem pdq_1 (v f : Value) (w : World) : Calls Tryz.prog 158 #[v, .int .i64 0, .int .i64 1, .int .i64 1, f] w fun e w' => e = .returned (.tuple #[]) ∧ w = w' := by
  go_enter Tryz.func158, Tryz.ntmps158
  go_wp2_with fail
  refine wp_loop_rounds 1 ?_
  rw [rounds_succ]
  go_wp2_with fail
  refine (insert_1 _ _ _).mono ?_
  rintro e w1 ⟨rfl, rfl⟩
  go_wp2_with fail
  go_returns
  exact ⟨rfl, rfl⟩

theorem sort_1 (a : Option Addr) (c : Nat) (f : Value) (w : World) : Calls Tryz.prog 145 #[.slice a 1 c, f] w fun e w' => e = .returned (.tuple #[]) ∧ w = w' := by
  go_enter Tryz.func145, Tryz.ntmps145
  go_wp2_with fail
  refine (len_1 _).mono ?_
  rintro e w1 ⟨rfl, rfl⟩
  go_wp2_with fail
  refine (pdq_1 _ _ _).mono ?_
  rintro e w1 ⟨rfl, rfl⟩
  go_wp2_with fail
  go_returns
  exact ⟨rfl, rfl⟩

set_option maxHeartbeats 1000000 in
theorem ordered_1 (g c : Nat) (w : World) : Calls Tryz.prog 127 #[netV g c] w fun e w' => ∃ a k, e = .returned (.slice a 1 k) ∧ Ints w' a [0] ∧ Below w.heap.size w w' ∧ 1 ≤ k := by
  have hmf : ∀ (fn : Fn) (first cap : Array Value) (w : World), (Instr.makeFunc fn first cap).run Tryz.prog w = .ok (.func fn first cap) w := fun _ _ _ _ => rfl
  have hb := (Below.refl _ w).alloc (Nat.le_refl _) (.cells #[.int .i64 2, .slice (some ⟨g, 0, none⟩) 1 c] 146)
  obtain ⟨r0, r1, -, -⟩ := (Blk.new w #[.int .i64 2, .slice (some ⟨g, 0, none⟩) 1 c] 146).two
  have hn : netV g c = .agg #[.int .i64 2, .slice (some ⟨g, 0, none⟩) 1 c] := rfl
  rw [hn]
  go_enter Tryz.func127, Tryz.ntmps127
  go_wp2_with fail
  generalize w.alloc (.cells #[.int .i64 2, .slice (some ⟨g, 0, none⟩) 1 c] 146) = W at *
  refine wp_loop_rounds 2 ?_
  rw [rounds_succ]
  have hown : W.ownsRow w.heap.size 3 1 (.slice none 0 0) 0 [] := ⟨rfl, .inl ⟨rfl, rfl⟩⟩
  go_wp2_with (at_builtin; go_must (refine wpList_app _ rfl (.tmp 11) (.tmp 13) 24 rfl w.heap.size 3 (.int .i64 0) 8 Tryz.underlying24 info3 rfl _ 0 _ rfl (hown.alloc _) (some ⟨W.heap.size, 0, none⟩) 1 1 [.int .i64 0] rfl rfl (vals_new _ _ _ _ rfl) (fun h => by cases h) (by simp [Value.oneCell']) (by omega) (by omega) (hb.alloc hb.size _).size ?_))
  intro v2 w2 hown2 hgrow2 _
  have hb2 := below_app (hb.alloc hb.size _) hgrow2 (hown.alloc _) (hb.alloc hb.size _).size (Nat.le_refl _)
  obtain ⟨a, k, rfl, hr⟩ := ownsRow_ints (l := [0]) hown2
  have hk := (ownsRow_facts hown2).2.1
  clear hown hgrow2 hown2 hb
  go_wp2_with fail
  rw [rounds_succ]
  go_wp2_with fail
  refine (sort_1 a k _ _).mono ?_
  rintro e w1 ⟨rfl, rfl⟩
  go_wp2_with fail
  go_ret
  exact ⟨a, k, rfl, hr, hb2, hk⟩

end Go.Proofs.YtkmpdcckgibkhaaGreat
/-
  Walks: the parts that one street makes.
-/
namespace Go.Proofs.YtkmpdcckgibkhaaGreat
open Go.RowKit

/-- The net's copy and its street, made below B. -/
structure NetAt (w : World) (n g c B : Nat) : Prop where
  n0 : w.cell? ⟨n, 0, none⟩ = some (.int .i64 2)
  n1 : w.cell? ⟨n, 1, none⟩ = some (.slice (some ⟨g, 0, none⟩) 1 c)
  s0 : w.cell? ⟨g, 0, none⟩ = some (.int .i64 0)
  s1 : w.cell? ⟨g, 1, none⟩ = some (.int .i64 1)
  s2 : w.cell? ⟨g, 2, none⟩ = some (.int .i64 5)
  nb : n < B
  gb : g < B
  bs : B ≤ w.heap.size
theorem NetAt.below {w w' : World} {n g c B D : Nat} (h : NetAt w n g c B) (hb : Below D w w') (hD : B ≤ D) : NetAt w' n g c B :=
  ⟨(hb.cell (p := ⟨n, 0, none⟩) (Nat.lt_of_lt_of_le h.nb hD)).trans h.n0, (hb.cell (p := ⟨n, 1, none⟩) (Nat.lt_of_lt_of_le h.nb hD)).trans h.n1,
    (hb.cell (p := ⟨g, 0, none⟩) (Nat.lt_of_lt_of_le h.gb hD)).trans h.s0, (hb.cell (p := ⟨g, 1, none⟩) (Nat.lt_of_lt_of_le h.gb hD)).trans h.s1,
    (hb.cell (p := ⟨g, 2, none⟩) (Nat.lt_of_lt_of_le h.gb hD)).trans h.s2, h.nb, h.gb, Nat.le_trans h.bs hb.size⟩
theorem NetAt.new (g c : Nat) (w : World) (hs : Street w g) : NetAt (w.alloc (.cells #[.int .i64 2, .slice (some ⟨g, 0, none⟩) 1 c] 146)) w.heap.size g c (w.heap.size + 1) := by
  obtain ⟨hl, c0, c1, c2⟩ := hs.below ((Below.refl _ w).alloc (Nat.le_refl _) (.cells #[.int .i64 2, .slice (some ⟨g, 0, none⟩) 1 c] 146)) (Nat.le_refl _)
  obtain ⟨r0, r1, -, -⟩ := (Blk.new w #[.int .i64 2, .slice (some ⟨g, 0, none⟩) 1 c] 146).two
  exact ⟨r0, r1, c0, c1, c2, by omega, by have := hs.lt; omega, by simp⟩

set_option maxHeartbeats 2000000 in
theorem tree_1 (g c : Nat) (w : World) (hs : Street w g) : Calls Tryz.prog 92 #[netV g c] w fun e w' => ∃ v, e = .returned (.tuple #[v, .bool true]) ∧ Below w.heap.size w w' := by
  have hb := (Below.refl _ w).alloc (Nat.le_refl _) (.cells #[.int .i64 2, .slice (some ⟨g, 0, none⟩) 1 c] 146)
  have hN := NetAt.new g c w hs
  have HNV := hid (show netV g c = .agg #[.int .i64 2, .slice (some ⟨g, 0, none⟩) 1 c] from rfl)
  rw [HNV.out]
  go_enter Tryz.func92, Tryz.ntmps92
  go_wp2_with fail
  have hsz : (w.alloc (.cells #[.int .i64 2, .slice (some ⟨g, 0, none⟩) 1 c] 146)).heap.size = w.heap.size + 1 := by simp
  generalize w.alloc (.cells #[.int .i64 2, .slice (some ⟨g, 0, none⟩) 1 c] 146) = W at *
  refine (apart_any _).mono ?_
  rintro e w1 ⟨rfl, bp, hb1⟩
  rw [hsz] at bp
  rw [hsz] at hb1
  have hN := hN.below hb1 (Nat.le_refl _)
  have hb := hb.trans (hb1.mono (by omega))
  have n0 := hN.n0
  have n1 := hN.n1
  go_wp2_with fail
  rw [← HNV.out]
  refine (ordered_1 g c _).mono ?_
  rintro e w2 ⟨a, k, rfl, hi, hb2, _⟩
  have bp := bp.below hb2 bp.lt
  have hN := hN.below hb2 hN.bs
  have hb := hb.trans (hb2.mono hb.size)
  obtain ⟨g', o', rfl, hg', hcell⟩ := hi.at (by simp)
  have q0 : w2.cell? ⟨g', o', none⟩ = some (.int .i64 0) := hcell 0 0 rfl
  clear n0 n1
  have n0 := hN.n0
  have n1 := hN.n1
  have s0 := hN.s0
  have s1 := hN.s1
  go_wp2_with fail
  refine wp_loop_rounds 2 ?_
  rw [rounds_succ]
  go_wp2_with fail
  have j := join01 (w.heap.size + 1) w2.drew bp
  have n0' : w2.drew.cell? ⟨w.heap.size, 0, none⟩ = some (.int .i64 2) := n0
  have hN' : NetAt w2.drew w.heap.size g c (w.heap.size + 1) := ⟨n0, n1, s0, s1, hN.s2, hN.nb, hN.gb, hN.bs⟩
  have J := hid (j.mono (R' := fun e w' => e = .returned (.bool true) ∧ Below (w.heap.size + 1) w2.drew w' ∧ w'.cell? ⟨w.heap.size, 1, none⟩ = some (.slice (some ⟨g, 0, none⟩) 1 c) ∧ w'.cell? ⟨g, 0, none⟩ = some (.int .i64 0) ∧ w'.cell? ⟨g, 1, none⟩ = some (.int .i64 1)) fun e w' h => ⟨h.1, h.2.2, (hN'.below h.2.2 (Nat.le_refl _)).n1, (hN'.below h.2.2 (Nat.le_refl _)).s0, (hN'.below h.2.2 (Nat.le_refl _)).s1⟩)
  clear j n0'
  go_region_held3 (fun W' => W'.cell? ⟨w.heap.size, 1, none⟩ = some (.slice (some ⟨g, 0, none⟩) 1 c) ∧ W'.cell? ⟨g, 0, none⟩ = some (.int .i64 0) ∧ W'.cell? ⟨g, 1, none⟩ = some (.int .i64 1)) (go_keep) (first | (go_at_call 128; refine J.out.mono ?_; rintro e w3 ⟨rfl, hb3, k0, k1, k2⟩))
  have hb := hb.drew.trans (hb3.mono (by omega))
  have hN := hN'.below hb3 (Nat.le_refl _)
  have hown : w3.ownsRow w.heap.size 3 1 (.slice none 0 0) 0 [] := ⟨rfl, .inl ⟨rfl, rfl⟩⟩
  clear hb1 hb2 hb3 hcell hi n0 n1 s0 s1 q0 k0 k1 k2 J
  go_wp2_with (at_builtin; go_must (refine wpList_app _ rfl (.tmp 30) (.tmp 32) 24 rfl w.heap.size 3 (.int .i64 0) 8 Tryz.underlying24 info3 rfl _ 0 _ rfl (hown.alloc _) (some ⟨w3.heap.size, 0, none⟩) 1 1 [.int .i64 0] rfl rfl (vals_new _ _ _ _ rfl) (fun h => by cases h) (by simp [Value.oneCell']) (by omega) (by omega) (hb.alloc hb.size _).size ?_))
  intro v2 w5 hown2 hgrow2 _
  have hb5 := below_app (hb.alloc hb.size _) hgrow2 (hown.alloc _) (hb.alloc hb.size _).size (Nat.le_refl _)
  have hb6 : Below (w.heap.size + 1) w3 w5 := ((Below.refl _ w3).alloc hN.bs _).grown hgrow2 (by have := hN.bs; simp; omega) (by simp [Value.ownBlock])
  have n5 := (hN.below hb6 (Nat.le_refl _)).n0
  obtain ⟨a, k, rfl, hr⟩ := ownsRow_ints (l := [0]) hown2
  clear hown hgrow2 hown2 hb hb6 hN hN'
  go_wp2_with fail
  rw [rounds_succ]
  go_wp2_with fail
  go_quiet (fail)
  go_wp2_with fail
  go_ret2
  exact ⟨_, rfl, ⟨hb5.os, hb5.tape, hb5.output, hb5.size, hb5.block⟩⟩

/-- Two lists of parts: a pointer to the joined ones. -/
def Joined (w : World) (e : Ending) (w' : World) : Prop := ∃ b, e = .returned (.tuple #[.pointer (some ⟨b, 0, none⟩), .int .i64 1]) ∧ w.heap.size ≤ b ∧ Blk w' b (rowA joined01 16) 214 ∧ Below w.heap.size w w'

set_option maxHeartbeats 2000000 in
theorem joined_1 (g c : Nat) (a : Option Addr) (k : Nat) (w : World) (hs : Street w g) (hi : Ints w a [0]) : Calls Tryz.prog 129 #[netV g c, .slice a 1 k] w (Joined w) := by
  have hb := (Below.refl _ w).alloc (Nat.le_refl _) (.cells #[.int .i64 2, .slice (some ⟨g, 0, none⟩) 1 c] 146)
  have hN := NetAt.new g c w hs
  rw [show netV g c = .agg #[.int .i64 2, .slice (some ⟨g, 0, none⟩) 1 c] from rfl]
  go_enter Tryz.func129, Tryz.ntmps129
  go_wp2_with fail
  have hsz : (w.alloc (.cells #[.int .i64 2, .slice (some ⟨g, 0, none⟩) 1 c] 146)).heap.size = w.heap.size + 1 := by simp
  generalize w.alloc (.cells #[.int .i64 2, .slice (some ⟨g, 0, none⟩) 1 c] 146) = W at *
  refine (apart_any _).mono ?_
  rintro e w2 ⟨rfl, bp, hb1⟩
  rw [hsz] at bp
  rw [hsz] at hb1
  have hN := hN.below hb1 (Nat.le_refl _)
  have hb := hb.trans (hb1.mono (by omega))
  have hi := hi.below hb (Nat.le_refl _)
  obtain ⟨g', o', rfl, hg', hcell⟩ := hi.at (by simp)
  have q0 : w2.cell? ⟨g', o', none⟩ = some (.int .i64 0) := hcell 0 0 rfl
  have n0 := hN.n0
  have n1 := hN.n1
  have s0 := hN.s0
  have s1 := hN.s1
  go_wp2_with fail
  refine wp_loop_rounds 2 ?_
  rw [rounds_succ]
  go_wp2_with fail
  have j := join01 (w.heap.size + 1) w2.drew bp
  have hN' : NetAt w2.drew w.heap.size g c (w.heap.size + 1) := ⟨n0, n1, s0, s1, hN.s2, hN.nb, hN.gb, hN.bs⟩
  have J := hid (j.mono (R' := fun e w' => e = .returned (.bool true) ∧ Blk w' (w.heap.size + 1) (rowA joined01 16) 214 ∧ Below (w.heap.size + 1) w2.drew w' ∧ w'.cell? ⟨w.heap.size, 1, none⟩ = some (.slice (some ⟨g, 0, none⟩) 1 c) ∧ w'.cell? ⟨g, 0, none⟩ = some (.int .i64 0) ∧ w'.cell? ⟨g, 1, none⟩ = some (.int .i64 1)) fun e w' h => ⟨h.1, h.2.1, h.2.2, (hN'.below h.2.2 (Nat.le_refl _)).n1, (hN'.below h.2.2 (Nat.le_refl _)).s0, (hN'.below h.2.2 (Nat.le_refl _)).s1⟩)
  clear j
  go_region_held3 (fun W' => W'.cell? ⟨w.heap.size, 1, none⟩ = some (.slice (some ⟨g, 0, none⟩) 1 c) ∧ W'.cell? ⟨g, 0, none⟩ = some (.int .i64 0) ∧ W'.cell? ⟨g, 1, none⟩ = some (.int .i64 1)) (go_keep) (first | (go_at_call 128; refine J.out.mono ?_; rintro e w3 ⟨rfl, bj, hb3, k0, k1, k2⟩))
  have hb := hb.drew.trans (hb3.mono (by omega))
  clear hb1 hb3 hcell hi n0 n1 s0 s1 q0 k0 k1 k2 J
  go_wp2_with fail
  rw [rounds_succ]
  go_wp2_with fail
  go_ret2
  exact ⟨_, rfl, by omega, bj, hb⟩

end Go.Proofs.YtkmpdcckgibkhaaGreat
/-
  Walks: the determinant of the square of the number 1.
-/
namespace Go.Proofs.YtkmpdcckgibkhaaGreat
open Go.RowKit

theorem power_one (n p : Int) (w : World) (hp : 1 < p) (hp2 : p ≤ 2147483647) (hn : 0 ≤ n) (hn2 : n ≤ 2147483647) :
    Calls Tryz.prog 94 #[.int .i64 1, .int .i64 n, .int .i64 p] w fun e w' => e = .returned (.int .i64 1) ∧ w = w' :=
  (power_any 1 n p w hp hp2 (by omega) (by omega) hn hn2).mono fun e w' h => by
    obtain ⟨⟨u, rfl, x, rfl, -, -, h1⟩, rfl⟩ := h
    exact ⟨by rw [h1 rfl], rfl⟩

set_option maxRecDepth 100000 in
set_option maxHeartbeats 2000000 in
theorem det_1 (r q c d : Nat) (p : Int) (w : World) (hp : 1 < p) (hp2 : p ≤ 2147483647) (q0 : w.cell? ⟨r, 0, none⟩ = some (.slice (some ⟨q, 0, none⟩) 1 d)) (q1 : w.cell? ⟨q, 0, none⟩ = some (.int .i64 1)) :
    Calls Tryz.prog 151 #[.slice (some ⟨r, 0, none⟩) 1 c, .int .i64 p] w fun e w' => e = .returned (.int .i64 1) ∧ w = w' := by
  have m1 : Int.tmod 1 p = 1 := by rw [Int.tmod_eq_emod_of_nonneg (by omega)]; exact Int.emod_eq_of_lt (by omega) hp
  go_enter Tryz.func151, Tryz.ntmps151
  go_wp2_with fail
  refine wp_loop_rounds 2 ?_
  rw [rounds_succ]
  go_wp2_with fail
  refine wp_loop_rounds 1 ?_
  rw [rounds_succ]
  go_wp2_with fail
  refine (power_one _ p _ hp hp2 (by omega) (by omega)).mono ?_
  rintro e w1 ⟨rfl, rfl⟩
  go_wp2_with fail
  refine wp_loop_rounds 1 ?_
  rw [rounds_succ]
  go_wp2_with fail
  rw [rounds_succ]
  go_wp2_with fail
  go_ret
  exact ⟨rfl, rfl⟩

end Go.Proofs.YtkmpdcckgibkhaaGreat
/-
  Walks: spanning trees of two vertices.
-/
namespace Go.Proofs.YtkmpdcckgibkhaaGreat
open Go.RowKit Go.ChangeMaps

theorem addNo (i j n : Int) (hij : (i = 0 ∧ j = 1) ∨ i = 1) (s m p : Nat) (w : World) (h1 : w.cell? ⟨s, 0, none⟩ = some (.int .i64 1)) :
    Calls Tryz.prog 150 #[.int .i64 i, .int .i64 j, .int .i64 n, .pointer (some ⟨s, 0, none⟩), .pointer (some ⟨m, 0, none⟩), .pointer (some ⟨p, 0, none⟩)] w fun e w' => e = .returned (.tuple #[]) ∧ w = w' := by
  rcases hij with ⟨rfl, rfl⟩ | rfl
  · go_enter Tryz.func150, Tryz.ntmps150
    go_wp2_with fail
    go_returns
    exact ⟨rfl, rfl⟩
  · go_enter Tryz.func150, Tryz.ntmps150
    go_wp2_with fail
    go_returns
    exact ⟨rfl, rfl⟩

set_option maxHeartbeats 2000000 in
theorem add00 (P : Int) (hp : 1 < P) (hp2 : P ≤ 2147483647) (s m p r q c d : Nat) (w : World) (h1 : w.cell? ⟨s, 0, none⟩ = some (.int .i64 1)) (h2 : w.cell? ⟨m, 0, none⟩ = some (.slice (some ⟨r, 0, none⟩) 1 c))
    (h3 : w.cell? ⟨r, 0, none⟩ = some (.slice (some ⟨q, 0, none⟩) 1 d)) (h4 : w.cell? ⟨q, 0, none⟩ = some (.int .i64 0)) (h5 : w.frozen? ⟨q, 0, none⟩ = false) (h6 : w.cell? ⟨p, 0, none⟩ = some (.int .i64 P)) :
    Calls Tryz.prog 150 #[.int .i64 0, .int .i64 0, .int .i64 1, .pointer (some ⟨s, 0, none⟩), .pointer (some ⟨m, 0, none⟩), .pointer (some ⟨p, 0, none⟩)] w fun e w' => e = .returned (.tuple #[]) ∧ w' = (w.setCell ⟨q, 0, none⟩ (.int .i64 1)).drew := by
  have e1 : wrap64 (1 + P) = 1 + P := by unfold wrap64; omega
  have e2 : Int.tmod (1 + P) P = 1 := by rw [Int.tmod_eq_emod_of_nonneg (by omega), Int.add_emod_right]; exact Int.emod_eq_of_lt (by omega) hp
  go_enter Tryz.func150, Tryz.ntmps150
  go_wp2_with fail
  go_region
  go_wp2_with fail
  go_returns
  exact ⟨rfl, rfl⟩

end Go.Proofs.YtkmpdcckgibkhaaGreat
/-
  Walks: spanning trees of two vertices.
-/
namespace Go.Proofs.YtkmpdcckgibkhaaGreat
open Go.RowKit Go.ChangeMaps

/-- What stands during the count: the net's copy, the prime's variable, both lists of parts. -/
def SpB (w : World) (g c b0 b1 : Nat) (P : Int) (W : World) : Prop := NetAt W w.heap.size g c (w.heap.size + 1) ∧ Blk W (w.heap.size + 1) #[.int .i64 P] 3 ∧ Blk W b0 (rowA idR 16) 214 ∧ Blk W b1 (rowA joined01 16) 214 ∧ Below w.heap.size w W ∧ b0 < w.heap.size ∧ b1 < w.heap.size ∧ w.heap.size + 2 ≤ W.heap.size
theorem SpB.below {w W W' : World} {g c b0 b1 D : Nat} {P : Int} (h : SpB w g c b0 b1 P W) (hb : Below D W W') (hD : w.heap.size + 2 ≤ D) : SpB w g c b0 b1 P W' :=
  ⟨h.1.below hb (by omega), h.2.1.below hb (by omega), h.2.2.1.below hb (by have := h.2.2.2.2.2.1; omega), h.2.2.2.1.below hb (by have := h.2.2.2.2.2.2.1; omega), h.2.2.2.2.1.trans (hb.mono (by omega)), h.2.2.2.2.2.1, h.2.2.2.2.2.2.1, Nat.le_trans h.2.2.2.2.2.2.2 hb.size⟩
theorem SpB.sz {w W : World} {g c b0 b1 : Nat} {P : Int} (h : SpB w g c b0 b1 P W) : w.heap.size + 2 ≤ W.heap.size := h.2.2.2.2.2.2.2
theorem SpB.alloc {w W : World} {g c b0 b1 : Nat} {P : Int} (h : SpB w g c b0 b1 P W) (o : Obj) : SpB w g c b0 b1 P (W.alloc o) :=
  h.below ((Below.refl _ W).alloc (Nat.le_refl _) o) h.sz
theorem SpB.start (g c b0 b1 : Nat) (P : Int) (w : World) (hs : Street w g) (B0 : Blk w b0 (rowA idR 16) 214) (B1 : Blk w b1 (rowA joined01 16) 214) :
    SpB w g c b0 b1 P ((w.alloc (.cells #[.int .i64 2, .slice (some ⟨g, 0, none⟩) 1 c] 146)).alloc (.cells #[.int .i64 P] 3)) := by
  have hb := ((Below.refl _ w).alloc (Nat.le_refl _) (.cells #[.int .i64 2, .slice (some ⟨g, 0, none⟩) 1 c] 146)).alloc (by simp) (.cells #[.int .i64 P] 3)
  have bP := Blk.new (w.alloc (.cells #[.int .i64 2, .slice (some ⟨g, 0, none⟩) 1 c] 146)) #[.int .i64 P] 3
  rw [show (w.alloc (.cells #[.int .i64 2, .slice (some ⟨g, 0, none⟩) 1 c] 146)).heap.size = w.heap.size + 1 by simp] at bP
  exact ⟨(NetAt.new g c w hs).below (((Below.refl _ _).alloc (Nat.le_refl _) (.cells #[.int .i64 P] 3))) (by simp), bP, B0.below hb B0.lt, B1.below hb B1.lt, hb, B0.lt, B1.lt, by simp⟩

/-- The map of the parts, as it grows. -/
theorem at_store {w W : World} {g c b0 b1 : Nat} {P : Int} (h : SpB w g c b0 b1 P W) (m : Nat) (hm : w.heap.size + 2 ≤ m) (l : List (Nat × Value)) (hM : MapIs natV W m l) (k n : Nat) (v : Value) (hn : n = l.length) :
    (∀ ty, (Builtin.len_ #[55] ty #[.map (some m)]).run Tryz.prog W = .ok (.int .i64 n) W) ∧ ∃ W', (Instr.mapUpdate 55 (.map (some m)) (.int .i64 (k : Int)) v).run Tryz.prog W = .ok () W' ∧ MapIs natV W' m (put k v l) ∧ SpB w g c b0 b1 P W' := by
  obtain ⟨W', h1, h2, o, ho⟩ := hM.store kt3 Tryz.underlying55 k v
  refine ⟨fun ty => ?_, W', h1, h2, h.below (D := m) (by rw [ho]; exact setBlock_below (Below.refl m W) (Nat.le_refl _) o) hm⟩
  rw [run_len_map (P := Tryz.prog) W 55 ty m _ _ (by kernel_rfl) hM]
  rw [hn]
  simp [ents_len, goInt]
theorem at_look {W : World} (m : Nat) (l : List (Nat × Value)) (hM : MapIs natV W m l) (k : Nat) (c : Bool) :
    (Instr.lookup 55 (.map (some m)) (.int .i64 (k : Int)) c).run Tryz.prog W = .ok (if c then .tuple #[(get k l).getD (.int .i64 0), .bool (get k l).isSome] else (get k l).getD (.int .i64 0)) W :=
  hM.look kt3 Tryz.underlying55 (zero3 W) k c

theorem mk22 (W : World) : (Instr.makeSlice 22 (.int .i64 1) (.int .i64 1)).run Tryz.prog W = .ok (.slice (some ⟨W.heap.size, 0, none⟩) 1 1) (W.alloc (.cells #[.slice none 0 0] 24)) := by kernel_rfl
theorem mk24 (W : World) : (Instr.makeSlice 24 (.int .i64 1) (.int .i64 1)).run Tryz.prog W = .ok (.slice (some ⟨W.heap.size, 0, none⟩) 1 1) (W.alloc (.cells #[.int .i64 0] 3)) := by kernel_rfl

/-- The square's blocks: its size, its list of rows, its variable. -/
def SqB (X : World) (s : Nat) (u : Value) : Prop := Blk X s #[.int .i64 1] 3 ∧ Blk X (s + 1) #[u] 24 ∧ Blk X (s + 1 + 1) #[.slice (some ⟨s + 1, 0, none⟩) 1 1] 22
theorem SqB.below {X Y : World} {s D : Nat} {u : Value} (h : SqB X s u) (hb : Below D X Y) (hD : s + 3 ≤ D) : SqB Y s u :=
  ⟨h.1.below hb (by omega), h.2.1.below hb (by omega), h.2.2.below hb (by omega)⟩
theorem SqB.put {X : World} {s : Nat} {u : Value} (h : SqB X s u) (v : Value) : SqB (X.setCell ⟨s + 1, 0, none⟩ v) s v :=
  ⟨h.1.other _ (by simp) _, h.2.1.set 0 v, h.2.2.other _ (by simp) _⟩
theorem SqB.new (W : World) : SqB (((W.alloc (.cells #[.int .i64 1] 3)).alloc (.cells #[.slice none 0 0] 24)).alloc (.cells #[.slice (some ⟨W.heap.size + 1, 0, none⟩) 1 1] 22)) W.heap.size (.slice none 0 0) :=
  ⟨((Blk.new W _ _).alloc _).alloc _, (Blk.mk' (by simp) rfl : Blk _ (W.heap.size + 1) _ _).alloc _, Blk.mk' (by simp) rfl⟩

set_option maxRecDepth 100000 in
set_option maxHeartbeats 4000000 in
theorem spanning_1 (g c b0 b1 : Nat) (P : Int) (hp : 1 < P) (hp2 : P ≤ 2147483647) (w : World) (hs : Street w g) (B0 : Blk w b0 (rowA idR 16) 214) (B1 : Blk w b1 (rowA joined01 16) 214) :
    Calls Tryz.prog 130 #[netV g c, .pointer (some ⟨b0, 0, none⟩), .pointer (some ⟨b1, 0, none⟩), .int .i64 5, .int .i64 P] w (RetB (.int .i64 1) w) := by
  have H0 := SpB.start g c b0 b1 P w hs B0 B1
  have hmm := @run_makeMap Tryz.prog
  have hm22 := mk22
  have hm24 := mk24
  rw [show netV g c = .agg #[.int .i64 2, .slice (some ⟨g, 0, none⟩) 1 c] from rfl]
  clear B0 B1 hs
  go_enter Tryz.func130, Tryz.ntmps130
  go_wp2_with fail
  have hsz : ((w.alloc (.cells #[.int .i64 2, .slice (some ⟨g, 0, none⟩) 1 c] 146)).alloc (.cells #[.int .i64 P] 3)).heap.size = w.heap.size + 2 := by simp
  generalize (w.alloc (.cells #[.int .i64 2, .slice (some ⟨g, 0, none⟩) 1 c] 146)).alloc (.cells #[.int .i64 P] 3) = W at *
  have n0 := H0.1.n0
  go_wp2_with fail
  refine wp_loop_rounds 3 ?_
  rw [rounds_succ]
  go_wp2_with fail
  have H1 := H0.alloc (.map #[] 0)
  have hM1 : MapIs natV (W.alloc (.map #[] 0)) (w.heap.size + 2) [] := hsz ▸ MapIs.made W
  have hsz1 : (W.alloc (.map #[] 0)).heap.size = w.heap.size + 3 := by simp [hsz]
  clear n0 H0 hsz
  generalize W.alloc (.map #[] 0) = W1 at *
  obtain ⟨L1, W2, U1, hM2, H2⟩ := at_store H1 _ (Nat.le_refl _) _ hM1 0 0 (.int .i64 0) rfl
  obtain ⟨L2, W3, U2, hM3, H3⟩ := at_store H2 _ (Nat.le_refl _) _ hM2 1 1 (.int .i64 1) rfl
  have L1' : ∀ ty, (Builtin.len_ #[55] ty #[.map (some (w.heap.size + 2))]).run Tryz.prog W1 = .ok (.int .i64 0) W1 := L1
  have L2' : ∀ ty, (Builtin.len_ #[55] ty #[.map (some (w.heap.size + 2))]).run Tryz.prog W2 = .ok (.int .i64 1) W2 := L2
  have U1' : (Instr.mapUpdate 55 (.map (some (w.heap.size + 2))) (.int .i64 0) (.int .i64 0)).run Tryz.prog W1 = .ok () W2 := U1
  have U2' : (Instr.mapUpdate 55 (.map (some (w.heap.size + 2))) (.int .i64 1) (.int .i64 1)).run Tryz.prog W2 = .ok () W3 := U2
  have L3' : ∀ ty, (Builtin.len_ #[55] ty #[.map (some (w.heap.size + 2))]).run Tryz.prog W3 = .ok (.int .i64 2) W3 := (at_store H3 _ (Nat.le_refl _) _ hM3 0 2 (.int .i64 0) rfl).1
  clear L1 L2 U1 U2
  refine wp_loop_rounds 3 ?_
  rw [rounds_succ]
  go_wp2_with fail
  refine (of_two b0 idR 0 0 (by omega) (by omega) rfl rfl _ H1.2.2.1).mono ?_
  rintro e w1 ⟨rfl, rfl⟩
  go_wp2_with fail
  refine (of_two b1 joined01 0 0 (by omega) (by omega) rfl rfl _ H1.2.2.2.1).mono ?_
  rintro e w1 ⟨rfl, rfl⟩
  go_wp2_with fail
  rw [rounds_succ]
  go_wp2_with fail
  refine (of_two b0 idR 1 1 (by omega) (by omega) rfl rfl _ H2.2.2.1).mono ?_
  rintro e w1 ⟨rfl, rfl⟩
  go_wp2_with fail
  refine (of_two b1 joined01 1 0 (by omega) (by omega) rfl rfl _ H2.2.2.2.1).mono ?_
  rintro e w1 ⟨rfl, rfl⟩
  go_wp2_with fail
  rw [rounds_succ]
  go_wp2_with fail
  have H4 := ((H3.alloc (.cells #[.int .i64 1] 3)).alloc (.cells #[.slice none 0 0] 24)).alloc (.cells #[.slice (some ⟨W3.heap.size + 1, 0, none⟩) 1 1] 22)
  have hM4 := ((hM3.alloc (.cells #[.int .i64 1] 3)).alloc (.cells #[.slice none 0 0] 24)).alloc (.cells #[.slice (some ⟨W3.heap.size + 1, 0, none⟩) 1 1] 22)
  have Q4 := SqB.new W3
  have hsz4 : (((W3.alloc (.cells #[.int .i64 1] 3)).alloc (.cells #[.slice none 0 0] 24)).alloc (.cells #[.slice (some ⟨W3.heap.size + 1, 0, none⟩) 1 1] 22)).heap.size = W3.heap.size + 3 := by simp
  have h3s := H3.sz
  have h3m := hM3.lt
  generalize ((W3.alloc (.cells #[.int .i64 1] 3)).alloc (.cells #[.slice none 0 0] 24)).alloc (.cells #[.slice (some ⟨W3.heap.size + 1, 0, none⟩) 1 1] 22) = X at *
  generalize hs3 : W3.heap.size = s3 at *
  clear L1' L2' L3' U1' U2' H1 H2 H3 hM1 hM2 hM3 hsz1
  have x0 := Q4.1.cell 0
  have x1 := Q4.2.1.cell 0
  have x2 := Q4.2.2.cell 0
  have z1 := Q4.2.1.free 0
  have HSZ := hid hsz4
  have H5 := (H4.alloc (.cells #[.int .i64 0] 3))
  have hM5 := hM4.alloc (.cells #[.int .i64 0] 3)
  have Q5 := Q4.below ((Below.refl _ X).alloc (Nat.le_refl _) (.cells #[.int .i64 0] 3)) (by omega)
  have R5 := Blk.new X #[.int .i64 0] 3
  have y0 := Q5.1.cell 0
  have y1 := Q5.2.1.cell 0
  have y2 := Q5.2.2.cell 0
  have yz := Q5.2.1.free 0
  clear hsz4
  go_wp2_with fail
  refine wp_loop_rounds 2 ?_
  rw [rounds_succ]
  go_wp2_with fail
  go_region
  have hsz4 := HSZ.out
  have H6 := H5.below ((Below.refl (s3 + 1) (X.alloc (.cells #[.int .i64 0] 3))).setCell (Nat.le_refl _) (.slice (some ⟨X.heap.size, 0, none⟩) 1 1) (p := ⟨s3 + 1, 0, none⟩)).drew (by omega)
  have hM6 := (hM5.setCell ⟨s3 + 1, 0, none⟩ (by show _ ≠ s3 + 1; omega) (.slice (some ⟨X.heap.size, 0, none⟩) 1 1)).drew
  have Q6 : SqB ((X.alloc (.cells #[.int .i64 0] 3)).setCell ⟨s3 + 1, 0, none⟩ (.slice (some ⟨X.heap.size, 0, none⟩) 1 1)).drew s3 (.slice (some ⟨X.heap.size, 0, none⟩) 1 1) := Q5.put _
  have R6 := (R5.other ⟨s3 + 1, 0, none⟩ (by show _ ≠ s3 + 1; omega) (.slice (some ⟨X.heap.size, 0, none⟩) 1 1)).drew
  have hsz6 : ((X.alloc (.cells #[.int .i64 0] 3)).setCell ⟨s3 + 1, 0, none⟩ (.slice (some ⟨X.heap.size, 0, none⟩) 1 1)).drew.heap.size = s3 + 4 := by simp; omega
  generalize hY : ((X.alloc (.cells #[.int .i64 0] 3)).setCell ⟨s3 + 1, 0, none⟩ (.slice (some ⟨X.heap.size, 0, none⟩) 1 1)).drew = Y at *
  rw [hsz4] at Q6 R6
  clear y0 y1 y2 yz x0 x1 x2 z1 H4 H5 hM4 hM5 Q4 Q5 R5 hY
  clear HSZ hsz4
  have hmf : ∀ (fn : Fn) (first cap : Array Value) (w : World), (Instr.makeFunc fn first cap).run Tryz.prog w = .ok (.func fn first cap) w := fun _ _ _ _ => rfl
  have n1 := H6.1.n1
  have s0 := H6.1.s0
  have s1 := H6.1.s1
  have s2 := H6.1.s2
  have y0 := Q6.1.cell 0
  have y1 := Q6.2.1.cell 0
  have y2 := Q6.2.2.cell 0
  have yz := Q6.2.1.free 0
  go_wp2_with fail
  rw [rounds_succ]
  go_wp2_with fail
  refine wp_loop_rounds 2 ?_
  rw [rounds_succ]
  have H7 := H6.alloc (.cells #[.int .i64 0, .int .i64 1, .int .i64 5] 109)
  have hM7 := hM6.alloc (.cells #[.int .i64 0, .int .i64 1, .int .i64 5] 109)
  have Q7 := Q6.below ((Below.refl _ Y).alloc (Nat.le_refl _) (.cells #[.int .i64 0, .int .i64 1, .int .i64 5] 109)) (by omega)
  have R7 := R6.alloc (.cells #[.int .i64 0, .int .i64 1, .int .i64 5] 109)
  have V7 := Blk.new Y #[.int .i64 0, .int .i64 1, .int .i64 5] 109
  rw [hsz6] at V7
  have LK0 : (Instr.lookup 55 (.map (some (w.heap.size + 2))) (.int .i64 0) true).run Tryz.prog (Y.alloc (.cells #[.int .i64 0, .int .i64 1, .int .i64 5] 109)) = .ok (.tuple #[.int .i64 0, .bool true]) _ := at_look _ _ hM7 0 true
  have LK1 : (Instr.lookup 55 (.map (some (w.heap.size + 2))) (.int .i64 1) false).run Tryz.prog (Y.alloc (.cells #[.int .i64 0, .int .i64 1, .int .i64 5] 109)) = .ok (.int .i64 1) _ := at_look _ _ hM7 1 false
  have hsz7 : (Y.alloc (.cells #[.int .i64 0, .int .i64 1, .int .i64 5] 109)).heap.size = s3 + 5 := by simp [hsz6]
  go_wp2_with fail
  generalize Y.alloc (.cells #[.int .i64 0, .int .i64 1, .int .i64 5] 109) = Z at *
  clear H6 hM6 Q6 R6 hsz6 n1 s0 s1 s2 y0 y1 y2 yz
  have v0 := V7.cell 0
  have v1 := V7.cell 1
  have v2 := V7.cell 2
  refine (of_two b0 idR 0 0 (by omega) (by omega) rfl rfl _ H7.2.2.1).mono ?_
  rintro e w1 ⟨rfl, rfl⟩
  go_wp2_with fail
  refine (of_two b0 idR 1 1 (by omega) (by omega) rfl rfl _ H7.2.2.1).mono ?_
  rintro e w1 ⟨rfl, rfl⟩
  go_wp2_with fail
  refine (add00 P hp hp2 s3 (s3 + 1 + 1) (w.heap.size + 1) (s3 + 1) (s3 + 3) 1 1 _ (Q7.1.cell 0) (Q7.2.2.cell 0) (Q7.2.1.cell 0) (R7.cell 0) (R7.free 0) (H7.2.1.cell 0)).mono ?_
  rintro e w1 ⟨rfl, rfl⟩
  have H8 := H7.below ((Below.refl (s3 + 3) Z).setCell (Nat.le_refl _) (.int .i64 1) (p := ⟨s3 + 3, 0, none⟩)).drew (by omega)
  have Q8 := Q7.below ((Below.refl (s3 + 3) Z).setCell (Nat.le_refl _) (.int .i64 1) (p := ⟨s3 + 3, 0, none⟩)).drew (by omega)
  have R8 := (R7.set 0 (.int .i64 1)).drew
  have hsz8 : (Z.setCell ⟨s3 + 3, 0, none⟩ (.int .i64 1)).drew.heap.size = s3 + 5 := by simp [hsz7]
  go_wp2_with fail
  generalize (Z.setCell ⟨s3 + 3, 0, none⟩ (.int .i64 1)).drew = V at *
  clear H7 hM7 Q7 R7 V7 LK0 LK1 v0 v1 v2
  refine (addNo 1 1 1 (by simp) _ _ _ _ (Q8.1.cell 0)).mono ?_
  rintro e w1 ⟨rfl, rfl⟩
  go_wp2_with fail
  refine (addNo 0 1 (-1) (by simp) _ _ _ _ (Q8.1.cell 0)).mono ?_
  rintro e w1 ⟨rfl, rfl⟩
  go_wp2_with fail
  refine (addNo 1 0 (-1) (by simp) _ _ _ _ (Q8.1.cell 0)).mono ?_
  rintro e w1 ⟨rfl, rfl⟩
  go_wp2_with fail
  rw [rounds_succ]
  have n0 := H8.1.n0
  have n1 := H8.1.n1
  have p0 := H8.2.1.cell 0
  have y0 := Q8.1.cell 0
  have y2 := Q8.2.2.cell 0
  have D := hid (show ∀ n, Calls Tryz.prog 151 #[.slice (some ⟨s3 + 1, 0, none⟩) 1 1, .int .i64 P] (V.drewN n) fun e w' => e = .returned (.int .i64 1) ∧ w' = V.drewN n from fun n => (det_1 (s3 + 1) (s3 + 3) 1 1 P (V.drewN n) hp hp2 (Q8.2.1.cell 0) (R8.cell 0)).mono fun e w' h => ⟨h.1, h.2.symm⟩)
  have m1 : Int.tmod 1 P = 1 := by rw [Int.tmod_eq_emod_of_nonneg (by omega)]; exact Int.emod_eq_of_lt (by omega) hp
  have hP0 : ¬ P = 0 := by omega
  go_wp2_with fail
  go_quiet (exact Calls.quiet_of_same (D.out _))
  have H9 : SpB w g c b0 b1 P (V.drewN nq) := H8.below (D := V.heap.size) ⟨rfl, rfl, rfl, Nat.le_refl _, fun _ _ => rfl⟩ (by omega)
  have hsz9 : (V.drewN nq).heap.size = s3 + 5 := hsz8
  clear H8 Q8 R8 hsz8 n0 n1 p0 y0 y2 D
  generalize V.drewN nq = U at *
  have n0 := H9.1.n0
  go_wp2_with fail
  rw [rounds_succ]
  have HA := H9.alloc (.map #[] 0)
  have hMA : MapIs natV (U.alloc (.map #[] 0)) (s3 + 5) [] := hsz9 ▸ MapIs.made U
  have hszA : (U.alloc (.map #[] 0)).heap.size = s3 + 6 := by simp [hsz9]
  have LA' : ∀ ty, (Builtin.len_ #[55] ty #[.map (some (s3 + 5))]).run Tryz.prog (U.alloc (.map #[] 0)) = .ok (.int .i64 0) (U.alloc (.map #[] 0)) := (at_store HA _ (by omega) _ hMA 0 0 (.int .i64 0) rfl).1
  have nA := HA.1.n0
  go_wp2_with fail
  generalize U.alloc (.map #[] 0) = T at *
  refine wp_loop_rounds 3 ?_
  rw [rounds_succ]
  go_wp2_with fail
  refine (of_two b0 idR 0 0 (by omega) (by omega) rfl rfl _ HA.2.2.1).mono ?_
  rintro e w1 ⟨rfl, rfl⟩
  go_wp2_with fail
  refine (of_two b1 joined01 0 0 (by omega) (by omega) rfl rfl _ HA.2.2.2.1).mono ?_
  rintro e w1 ⟨rfl, rfl⟩
  go_wp2_with fail
  rw [rounds_succ]
  go_wp2_with fail
  refine (of_two b0 idR 1 1 (by omega) (by omega) rfl rfl _ HA.2.2.1).mono ?_
  rintro e w1 ⟨rfl, rfl⟩
  go_wp2_with fail
  refine (of_two b1 joined01 1 0 (by omega) (by omega) rfl rfl _ HA.2.2.2.1).mono ?_
  rintro e w1 ⟨rfl, rfl⟩
  go_wp2_with fail
  rw [rounds_succ]
  go_wp2_with fail
  rw [rounds_succ]
  go_wp2_with fail
  go_ret
  exact ⟨rfl, (HA.alloc _).2.2.2.2.1⟩

end Go.Proofs.YtkmpdcckgibkhaaGreat
/-
  Walks: the number of smallest spanning trees of two vertices.
-/
namespace Go.Proofs.YtkmpdcckgibkhaaGreat
open Go.RowKit

theorem slice_one (g o k : Nat) (hk : 1 ≤ k) (w : World) : (Instr.slice 24 (.slice (some ⟨g, o, none⟩) 1 k) none (some (.int .i64 1)) none).run Tryz.prog w = .ok (.slice (some ⟨g, o, none⟩) 1 k) w := by
  have h1 : (1 : Int) ≤ (k : Int) := by omega
  simp [go_sem, Instr.slice, h1]
theorem NetAt.street {w : World} {n g c B : Nat} (h : NetAt w n g c B) : Street w g := ⟨Nat.lt_of_lt_of_le h.gb h.bs, h.s0, h.s1, h.s2⟩
theorem NetAt.drewN {w : World} {n g c B : Nat} (h : NetAt w n g c B) (k : Nat) : NetAt (w.drewN k) n g c B := ⟨h.n0, h.n1, h.s0, h.s1, h.s2, h.nb, h.gb, h.bs⟩
theorem below_drewN {B : Nat} {w w' : World} (h : Below B w w') (k : Nat) : Below B w (w'.drewN k) := ⟨h.os, h.tape, h.output, h.size, h.block⟩

set_option maxRecDepth 100000 in
set_option maxHeartbeats 4000000 in
theorem smallest_1 (g c : Nat) (P : Int) (hp : 1 < P) (hp2 : P ≤ 2147483647) (w : World) (hs : Street w g) : Calls Tryz.prog 93 #[netV g c, .int .i64 P] w (RetB (.int .i64 1) w) := by
  have hb := (Below.refl _ w).alloc (Nat.le_refl _) (.cells #[.int .i64 2, .slice (some ⟨g, 0, none⟩) 1 c] 146)
  have hN := NetAt.new g c w hs
  have HNV := hid (show netV g c = .agg #[.int .i64 2, .slice (some ⟨g, 0, none⟩) 1 c] from rfl)
  have HS := hid hs
  clear hs
  rw [HNV.out]
  go_enter Tryz.func93, Tryz.ntmps93
  go_wp2_with fail
  have hsz : (w.alloc (.cells #[.int .i64 2, .slice (some ⟨g, 0, none⟩) 1 c] 146)).heap.size = w.heap.size + 1 := by simp
  generalize w.alloc (.cells #[.int .i64 2, .slice (some ⟨g, 0, none⟩) 1 c] 146) = W at *
  refine (apart_any _).mono ?_
  rintro e w1 ⟨rfl, bp, hb1⟩
  rw [hsz] at bp
  rw [hsz] at hb1
  have hN := hN.below hb1 (Nat.le_refl _)
  have hb := hb.trans (hb1.mono (by omega))
  have n0 := hN.n0
  have n1 := hN.n1
  go_wp2_with fail
  rw [← HNV.out]
  refine (ordered_1 g c _).mono ?_
  rintro e w2 ⟨a, k, rfl, hi, hb2, hk⟩
  have bp := bp.below hb2 bp.lt
  have hN := hN.below hb2 hN.bs
  have hb := hb.trans (hb2.mono hb.size)
  have HI := hid hi
  obtain ⟨g', o', rfl, hg', hcell⟩ := hi.at (by simp)
  have q0 : w2.cell? ⟨g', o', none⟩ = some (.int .i64 0) := hcell 0 0 rfl
  clear n0 n1
  have n0 := hN.n0
  have n1 := hN.n1
  have s2 := hN.s2
  have hk2 : (1 : Int) ≤ (k : Int) := by omega
  clear hb1 hb2 hcell hsz
  go_wp2_with fail
  refine wp_loop_rounds 2 ?_
  rw [rounds_succ]
  go_wp2_with fail
  go_quiet (fail)
  go_wp2_with fail
  have hN := hN.drewN nq
  have hb := below_drewN hb nq
  have bp : Blk (w2.drewN nq) (w.heap.size + 1) (rowA idR 16) 214 := bp
  have hi : Ints (w2.drewN nq) (some ⟨g', o', none⟩) [0] := hi
  clear n0 n1 s2 q0 HI
  generalize w2.drewN nq = V at *
  have n0 := hN.n0
  have n1 := hN.n1
  have hN' : NetAt V.drew w.heap.size g c (w.heap.size + 1) := hN.drewN 1
  have J := hid ((joined_1 g c (some ⟨g', o', none⟩) k V.drew hN'.street hi).mono (R' := fun e w' => ∃ b, e = .returned (.tuple #[.pointer (some ⟨b, 0, none⟩), .int .i64 1]) ∧ V.drew.heap.size ≤ b ∧ Blk w' b (rowA joined01 16) 214 ∧ Below V.drew.heap.size V.drew w' ∧ w'.cell? ⟨w.heap.size, 0, none⟩ = some (.int .i64 2) ∧ w'.cell? ⟨w.heap.size, 1, none⟩ = some (.slice (some ⟨g, 0, none⟩) 1 c)) fun e w' ⟨b, h1, h2, h3, h4⟩ => ⟨b, h1, h2, h3, h4, (hN'.below h4 hN'.bs).n0, (hN'.below h4 hN'.bs).n1⟩)
  rw [HNV.out] at J
  have hsl := slice_one g' o' k hk
  have hw1 : IntKind.i64.wrap 1 = 1 := by decide
  go_region_held3 (fun W' => W'.cell? ⟨w.heap.size, 0, none⟩ = some (.int .i64 2) ∧ W'.cell? ⟨w.heap.size, 1, none⟩ = some (.slice (some ⟨g, 0, none⟩) 1 c)) (go_keep) (first | (go_at_call 129; refine J.out.mono ?_; rintro e w3 ⟨b, rfl, hbs, bj, hb3, k0, k1⟩))
  have hN3 := hN'.below hb3 hN'.bs
  have bp3 : Blk w3 (w.heap.size + 1) (rowA idR 16) 214 := Blk.below (w := V.drew) bp hb3 bp.lt
  have hb4 := hb.drew.trans (hb3.mono hb.size)
  clear J hN hN' hi n0 n1 hb hb3 bp
  have n0 := hN3.n0
  have n1 := hN3.n1
  go_wp2_with fail
  rw [← HNV.out]
  refine (spanning_1 g c (w.heap.size + 1) b P hp hp2 w3 hN3.street bp3 bj).mono ?_
  rintro e w5 ⟨rfl, hb5⟩
  have hb6 := hb4.trans (hb5.mono hb4.size)
  have m1 : Int.tmod 1 P = 1 := by rw [Int.tmod_eq_emod_of_nonneg (by omega)]; exact Int.emod_eq_of_lt (by omega) hp
  have hP0 : ¬ P = 0 := by omega
  go_wp2_with fail
  rw [rounds_succ]
  go_wp2_with fail
  go_ret
  exact ⟨rfl, hb6⟩

end Go.Proofs.YtkmpdcckgibkhaaGreat
/-
  Walks: Count of the net with one street.
-/
namespace Go.Proofs.YtkmpdcckgibkhaaGreat
open Go.RowKit

set_option maxRecDepth 100000 in
set_option maxHeartbeats 4000000 in
theorem count_1 (g c : Nat) (w : World) (hs : Street w g) : Calls Tryz.prog 59 #[.int .i64 2, .slice (some ⟨g, 0, none⟩) 1 c] w (RetB (.tuple #[.int .i64 1, .int .i64 0]) w) := by
  have HNV := hid (show netV g c = .agg #[.int .i64 2, .slice (some ⟨g, 0, none⟩) 1 c] from rfl)
  have HS := hid hs
  clear hs
  go_enter Tryz.func59, Tryz.ntmps59
  go_wp2_with fail
  refine (newNet_one g c _ HS.out).mono ?_
  rintro e w1 ⟨rfl, hb1⟩
  rw [HNV.out]
  have hN := NetAt.new g c w1 (HS.out.below hb1 (Nat.le_refl _))
  have hb := hb1.alloc hb1.size (.cells #[.int .i64 2, .slice (some ⟨g, 0, none⟩) 1 c] 146)
  have n0' := hN.n0
  have n1' := hN.n1
  go_wp2_with fail
  have hl := hb1.size
  have hsz : (w1.alloc (.cells #[.int .i64 2, .slice (some ⟨g, 0, none⟩) 1 c] 146)).heap.size = w1.heap.size + 1 := by simp
  generalize w1.alloc (.cells #[.int .i64 2, .slice (some ⟨g, 0, none⟩) 1 c] 146) = W at *
  generalize w1.heap.size = n at *
  rw [← HNV.out]
  refine (tree_1 g c _ hN.street).mono ?_
  rintro e w2 ⟨v, rfl, hb2⟩
  have hN2 := hN.below hb2 (by omega)
  have hb3 := hb.trans (hb2.mono hb.size)
  clear hN n0' n1' hb hb2
  have n0 := hN2.n0
  have n1 := hN2.n1
  go_wp2_with fail
  have S1 := hid fun (V : World) (p : Int) (h : p = 2147483647 ∨ p = 2147483629) (hb : Below w2.heap.size w2 V) =>
    (smallest_1 g c p (by omega) (by omega) V (hN2.below hb hN2.bs).street).mono (R' := fun e w' => e = .returned (.int .i64 1) ∧ Below w2.heap.size w2 w' ∧ w'.cell? ⟨n, 0, none⟩ = some (.int .i64 2) ∧ w'.cell? ⟨n, 1, none⟩ = some (.slice (some ⟨g, 0, none⟩) 1 c)) fun e w' h => by
      have hb' := hb.trans (h.2.mono hb.size)
      exact ⟨h.1, hb', (hN2.below hb' hN2.bs).n0, (hN2.below hb' hN2.bs).n1⟩
  rw [HNV.out] at S1
  have hb0 : Below w2.heap.size w2 w2.drew := (Below.refl _ w2).drew
  go_region_held3 (fun W' => W'.cell? ⟨n, 0, none⟩ = some (.int .i64 2) ∧ W'.cell? ⟨n, 1, none⟩ = some (.slice (some ⟨g, 0, none⟩) 1 c)) (go_keep) (first | (go_at_call 93; refine (S1.out _ _ (by simp) (by assumption)).mono ?_; rintro e w3 ⟨rfl, hb5, k0, k1⟩))
  have hF := hb3.trans (hb5.mono hb3.size)
  clear hb0 hb5 k0 k1 S1 n0 n1 hN2 hb3
  go_wp2_with fail
  refine (power_any 18 2147483627 2147483629 _ (by omega) (by omega) (by omega) (by omega) (by omega) (by omega)).mono ?_
  rintro e w4 ⟨⟨u, rfl, x, rfl, hx0, hx1, hx2⟩, rfl⟩
  clear hx2
  go_wp2_with fail
  go_ret2
  exact ⟨rfl, hF⟩

end Go.Proofs.YtkmpdcckgibkhaaGreat
