/-
  Walks: sums and differences in a group of one modulus.
-/
import Derived.Test.YtkmpdcckgibkhaaGreatTa
import Derived.BigRegion
namespace Go.Proofs.YtkmpdcckgibkhaaGreat
open Go.RowKit

/-- The group of one modulus; an element of it. -/
def grpV (n : Int) : Value := .agg #[.int .i64 n, .int .i64 1, .int .i64 1]
def elV (x : Int) : Value := .agg #[.int .i64 x, .int .i64 0]

/-- The boxes of a sum: the group, two elements, the result. -/
structure SumB (w : World) (n x y u v : Int) (W : World) : Prop where
  below : Below w.heap.size w W
  g : Blk W w.heap.size #[.int .i64 n, .int .i64 1, .int .i64 1] 59
  x : Blk W (w.heap.size + 1) #[.int .i64 x, .int .i64 0] 57
  y : Blk W (w.heap.size + 1 + 1) #[.int .i64 y, .int .i64 0] 57
  r : Blk W (w.heap.size + 1 + 1 + 1) #[.int .i64 u, .int .i64 v] 57
theorem SumB.new (w : World) (n x y : Int) : SumB w n x y 0 0 ((((w.alloc (.cells #[.int .i64 n, .int .i64 1, .int .i64 1] 59)).alloc (.cells #[.int .i64 x, .int .i64 0] 57)).alloc (.cells #[.int .i64 y, .int .i64 0] 57)).alloc (.cells #[.int .i64 0, .int .i64 0] 57)) :=
  ⟨((((Below.refl _ w).alloc (Nat.le_refl _) _).alloc (by simp) _).alloc (by simp; omega) _).alloc (by simp; omega) _,
    (((Blk.new w _ _).alloc _).alloc _).alloc _, ((Blk.mk' (by simp) rfl : Blk _ (w.heap.size + 1) _ _).alloc _).alloc _, (Blk.mk' (by simp) rfl : Blk _ (w.heap.size + 1 + 1) _ _).alloc _, Blk.mk' (by simp) rfl⟩

set_option maxRecDepth 100000 in
set_option maxHeartbeats 8000000 in
theorem add63 (n x y z : Int) (hz : (x + y) % n = z) (w : World) (hn : 2 ≤ n) (hn2 : n ≤ 24) (hx : 0 ≤ x) (hx2 : x < n) (hy : 0 ≤ y) (hy2 : y < n) :
    Calls Tryz.prog 63 #[grpV n, elV x, elV y] w (RetB (elV z) w) := by
  have H := SumB.new w n x y
  have e1 : wrap64 (x + y) = x + y := by unfold wrap64; omega
  have e2 : Int.tmod (x + y) n = z := by rw [Int.tmod_eq_emod_of_nonneg (by omega)]; exact hz
  have e3 : ¬ n = 0 := by omega
  have e4 : IntKind.i64.wrap (x + y) = x + y := by rw [IntKind.wrap_i64]; omega
  unfold grpV elV
  go_enter Tryz.func63, Tryz.ntmps63
  go_wp2_with fail
  generalize (((w.alloc (.cells #[.int .i64 n, .int .i64 1, .int .i64 1] 59)).alloc (.cells #[.int .i64 x, .int .i64 0] 57)).alloc (.cells #[.int .i64 y, .int .i64 0] 57)).alloc (.cells #[.int .i64 0, .int .i64 0] 57) = W at *
  have g0 := H.g.cell 0
  have g1 := H.g.cell 1
  have x0 := H.x.cell 0
  have x1 := H.x.cell 1
  have y0 := H.y.cell 0
  have y1 := H.y.cell 1
  obtain ⟨r0, r1, f0, f1⟩ := H.r.two
  have HH := hid H
  clear H
  go_region
  have b2 : Blk ((W.setCell ⟨w.heap.size + 1 + 1 + 1, 0, none⟩ (.int .i64 z)).setCell ⟨w.heap.size + 1 + 1 + 1, 1, none⟩ (.int .i64 0)).drew (w.heap.size + 1 + 1 + 1) #[.int .i64 z, .int .i64 0] 57 := HH.out.r.put2 _ _
  have hb2 : Below w.heap.size w ((W.setCell ⟨w.heap.size + 1 + 1 + 1, 0, none⟩ (.int .i64 z)).setCell ⟨w.heap.size + 1 + 1 + 1, 1, none⟩ (.int .i64 0)).drew := ((HH.out.below.setCell (by simp; omega) _).setCell (by simp; omega) _).drew
  generalize ((W.setCell ⟨w.heap.size + 1 + 1 + 1, 0, none⟩ (.int .i64 z)).setCell ⟨w.heap.size + 1 + 1 + 1, 1, none⟩ (.int .i64 0)).drew = W2 at *
  clear g0 g1 x0 x1 y0 y1 r0 r1 f0 f1
  obtain ⟨r0, r1, -, -⟩ := b2.two
  go_wp2_with fail
  exact bodyPost_ret (v := .agg #[.int .i64 z, .int .i64 0]) (by simp [results, Tryz.results63, go_sem, r0, r1]) rfl ⟨rfl, hb2⟩

theorem sub_wrap (x y n : Int) (h1 : 0 ≤ x) (h2 : x ≤ 100) (h3 : 0 ≤ y) (h4 : y ≤ 100) (h5 : 0 ≤ n ∧ n ≤ 100) : wrap64 (x - y) = x - y ∧ wrap64 (x - y + n) = x - y + n := ⟨by unfold wrap64; omega, by unfold wrap64; omega⟩
theorem sub_wrap2 (x y n : Int) (h1 : 0 ≤ x) (h2 : x ≤ 100) (h3 : 0 ≤ y) (h4 : y ≤ 100) (h5 : 0 ≤ n ∧ n ≤ 100) : IntKind.i64.wrap (x - y) = x - y ∧ IntKind.i64.wrap (x - y + n) = x - y + n := ⟨by rw [IntKind.wrap_i64]; omega, by rw [IntKind.wrap_i64]; omega⟩
theorem sumB_cells {w W : World} {n x y u v : Int} (h : SumB w n x y u v W) (z t : Int) : ((W.setCell ⟨w.heap.size + 1 + 1 + 1, 0, none⟩ (.int .i64 z)).setCell ⟨w.heap.size + 1 + 1 + 1, 1, none⟩ (.int .i64 t)).drew.cell? ⟨w.heap.size, 0, none⟩ = some (.int .i64 n) ∧ ((W.setCell ⟨w.heap.size + 1 + 1 + 1, 0, none⟩ (.int .i64 z)).setCell ⟨w.heap.size + 1 + 1 + 1, 1, none⟩ (.int .i64 t)).drew.cell? ⟨w.heap.size, 1, none⟩ = some (.int .i64 1) ∧ ((W.setCell ⟨w.heap.size + 1 + 1 + 1, 0, none⟩ (.int .i64 z)).setCell ⟨w.heap.size + 1 + 1 + 1, 1, none⟩ (.int .i64 t)).drew.cell? ⟨w.heap.size + 1, 0, none⟩ = some (.int .i64 x) ∧ ((W.setCell ⟨w.heap.size + 1 + 1 + 1, 0, none⟩ (.int .i64 z)).setCell ⟨w.heap.size + 1 + 1 + 1, 1, none⟩ (.int .i64 t)).drew.cell? ⟨w.heap.size + 1, 1, none⟩ = some (.int .i64 0) ∧ ((W.setCell ⟨w.heap.size + 1 + 1 + 1, 0, none⟩ (.int .i64 z)).setCell ⟨w.heap.size + 1 + 1 + 1, 1, none⟩ (.int .i64 t)).drew.cell? ⟨w.heap.size + 1 + 1, 0, none⟩ = some (.int .i64 y) ∧ ((W.setCell ⟨w.heap.size + 1 + 1 + 1, 0, none⟩ (.int .i64 z)).setCell ⟨w.heap.size + 1 + 1 + 1, 1, none⟩ (.int .i64 t)).drew.cell? ⟨w.heap.size + 1 + 1, 1, none⟩ = some (.int .i64 0) := by
  have hb := ((Below.refl (w.heap.size + 1 + 1 + 1) W).setCell (Nat.le_refl _) (.int .i64 z) (p := ⟨w.heap.size + 1 + 1 + 1, 0, none⟩)).setCell (Nat.le_refl _) (.int .i64 t) (p := ⟨w.heap.size + 1 + 1 + 1, 1, none⟩)
  have g := (h.g.below hb (by omega)).drew
  have a := (h.x.below hb (by omega)).drew
  have b := (h.y.below hb (by omega)).drew
  exact ⟨g.cell 0, g.cell 1, a.cell 0, a.cell 1, b.cell 0, b.cell 1⟩
theorem sub_pos (x y n : Int) (h1 : 0 ≤ x) (h2 : y < n) : 0 ≤ x - y + n := by omega
theorem ne_zero (n : Int) (h : 2 ≤ n) : ¬ n = 0 := by omega

set_option maxRecDepth 100000 in
set_option maxHeartbeats 8000000 in
theorem minus62 (n x y z : Int) (hz : (x - y + n) % n = z) (w : World) (hn : 2 ≤ n) (hn2 : n ≤ 24) (hx : 0 ≤ x) (hx2 : x < n) (hy : 0 ≤ y) (hy2 : y < n) :
    Calls Tryz.prog 62 #[grpV n, elV x, elV y] w (RetB (elV z) w) := by
  have H := SumB.new w n x y
  obtain ⟨e1, e5⟩ := sub_wrap x y n (by omega) (by omega) (by omega) (by omega) (by omega)
  obtain ⟨e4, e6⟩ := sub_wrap2 x y n (by omega) (by omega) (by omega) (by omega) (by omega)
  have e2 : Int.tmod (x - y + n) n = z := by rw [Int.tmod_eq_emod_of_nonneg (sub_pos x y n hx hy2)]; exact hz
  have e3 : ¬ n = 0 := ne_zero n hn
  unfold grpV elV
  go_enter Tryz.func62, Tryz.ntmps62
  go_wp2_with fail
  generalize (((w.alloc (.cells #[.int .i64 n, .int .i64 1, .int .i64 1] 59)).alloc (.cells #[.int .i64 x, .int .i64 0] 57)).alloc (.cells #[.int .i64 y, .int .i64 0] 57)).alloc (.cells #[.int .i64 0, .int .i64 0] 57) = W at *
  have g0 := H.g.cell 0
  have g1 := H.g.cell 1
  have x0 := H.x.cell 0
  have x1 := H.x.cell 1
  have y0 := H.y.cell 0
  have y1 := H.y.cell 1
  obtain ⟨r0, r1, f0, f1⟩ := H.r.two
  have HH := hid H
  clear H
  have S2 := sumB_cells HH.out z 0
  go_region_held3 (fun W' => W'.cell? ⟨w.heap.size, 0, none⟩ = some (.int .i64 n) ∧ W'.cell? ⟨w.heap.size, 1, none⟩ = some (.int .i64 1) ∧ W'.cell? ⟨w.heap.size + 1, 0, none⟩ = some (.int .i64 x) ∧ W'.cell? ⟨w.heap.size + 1, 1, none⟩ = some (.int .i64 0) ∧ W'.cell? ⟨w.heap.size + 1 + 1, 0, none⟩ = some (.int .i64 y) ∧ W'.cell? ⟨w.heap.size + 1 + 1, 1, none⟩ = some (.int .i64 0)) (first | exact S2 | go_keep) (fail)
  have b2 : Blk ((W.setCell ⟨w.heap.size + 1 + 1 + 1, 0, none⟩ (.int .i64 z)).setCell ⟨w.heap.size + 1 + 1 + 1, 1, none⟩ (.int .i64 0)).drew (w.heap.size + 1 + 1 + 1) #[.int .i64 z, .int .i64 0] 57 := HH.out.r.put2 _ _
  have hb2 : Below w.heap.size w ((W.setCell ⟨w.heap.size + 1 + 1 + 1, 0, none⟩ (.int .i64 z)).setCell ⟨w.heap.size + 1 + 1 + 1, 1, none⟩ (.int .i64 0)).drew := ((HH.out.below.setCell (by simp; omega) _).setCell (by simp; omega) _).drew
  generalize ((W.setCell ⟨w.heap.size + 1 + 1 + 1, 0, none⟩ (.int .i64 z)).setCell ⟨w.heap.size + 1 + 1 + 1, 1, none⟩ (.int .i64 0)).drew = W2 at *
  clear g0 g1 x0 x1 y0 y1 r0 r1 f0 f1
  obtain ⟨r0, r1, -, -⟩ := b2.two
  go_wp2_with fail
  exact bodyPost_ret (v := .agg #[.int .i64 z, .int .i64 0]) (by simp [results, Tryz.results62, go_sem, r0, r1]) rfl ⟨rfl, hb2⟩

end Go.Proofs.YtkmpdcckgibkhaaGreat
