/-
  Walks: the density of two vertices with one edge.
-/
import Derived.Test.YtkmpdcckgibkhaaGreatC
import Derived.BigRegion
namespace Go.Proofs.YtkmpdcckgibkhaaGreat
open Go.RowKit Go.ChangeMaps

theorem Blk.two {W : World} {b : Nat} {u v : Value} {t : TypeId} (h : Blk W b #[u, v] t) : W.cell? ⟨b, 0, none⟩ = some u ∧ W.cell? ⟨b, 1, none⟩ = some v ∧ W.frozen? ⟨b, 0, none⟩ = false ∧ W.frozen? ⟨b, 1, none⟩ = false :=
  ⟨h.cell 0, h.cell 1, h.free 0, h.free 1⟩
theorem Blk.put2 {W : World} {b : Nat} {u v : Value} {t : TypeId} (h : Blk W b #[u, v] t) (u' v' : Value) : Blk ((W.setCell ⟨b, 0, none⟩ u').setCell ⟨b, 1, none⟩ v') b #[u', v'] t := (h.set 0 u').set 1 v'

set_option maxHeartbeats 1000000 in
theorem gcd12 (w : World) : Calls Tryz.prog 143 #[.int .i64 1, .int .i64 2] w (RetB (.int .i64 1) w) := by
  go_enter Tryz.func143, Tryz.ntmps143
  go_wp2_with fail
  refine wp_loop_rounds 3 ?_
  rw [rounds_succ]
  go_wp2_with fail
  go_region
  go_wp2_with fail
  rw [rounds_succ]
  go_wp2_with fail
  go_region
  go_wp2_with fail
  rw [rounds_succ]
  go_wp2_with fail
  go_ret
  exact ⟨rfl, (Below.refl _ w).drew.drew⟩

set_option maxHeartbeats 1000000 in
theorem frac12 (w : World) : Calls Tryz.prog 122 #[.int .i64 1, .int .i64 2] w (RetB (.agg #[.int .i64 1, .int .i64 2]) w) := by
  go_enter Tryz.func122, Tryz.ntmps122
  go_wp2_with fail
  refine (gcd12 _).mono ?_
  rintro e w1 ⟨rfl, hb⟩
  have b1 := (Blk.new w #[.int .i64 0, .int .i64 0] 44).below hb (by simp)
  have hb1 : Below w.heap.size w w1 := ((Below.refl _ w).alloc (Nat.le_refl _) _).trans (hb.mono (by simp))
  clear hb
  obtain ⟨r0, r1, z0, z1⟩ := b1.two
  have b2 : Blk (((w1.setCell ⟨w.heap.size, 0, none⟩ (.int .i64 1)).setCell ⟨w.heap.size, 1, none⟩ (.int .i64 2)).drew) w.heap.size #[.int .i64 1, .int .i64 2] 44 := b1.put2 _ _
  have hb2 : Below w.heap.size w (((w1.setCell ⟨w.heap.size, 0, none⟩ (.int .i64 1)).setCell ⟨w.heap.size, 1, none⟩ (.int .i64 2)).drew) := ((hb1.setCell (Nat.le_refl _) _).setCell (Nat.le_refl _) _).drew
  go_wp2_with fail
  go_region
  generalize ((w1.setCell ⟨w.heap.size, 0, none⟩ (.int .i64 1)).setCell ⟨w.heap.size, 1, none⟩ (.int .i64 2)).drew = W2 at *
  clear r0 r1 z0 z1
  obtain ⟨r0, r1, z0, z1⟩ := b2.two
  go_wp2_with fail
  exact bodyPost_ret (v := .agg #[.int .i64 1, .int .i64 2]) (by simp [results, Tryz.results122, go_sem, r0, r1]) rfl ⟨rfl, hb2⟩

/-- The edge from 0 to 1. -/
structure Edge01 (w : World) (g : Nat) : Prop where
  lt : g < w.heap.size
  c0 : w.cell? ⟨g, 0, none⟩ = some (.int .i64 0)
  c1 : w.cell? ⟨g, 1, none⟩ = some (.int .i64 1)
theorem Edge01.below {w w' : World} {g B : Nat} (h : Edge01 w g) (hb : Below B w w') (hB : w.heap.size ≤ B) : Edge01 w' g :=
  ⟨by have := hb.size; have := h.lt; omega, (hb.cell (p := ⟨g, 0, none⟩) (by have := h.lt; show g < B; omega)).trans h.c0, (hb.cell (p := ⟨g, 1, none⟩) (by have := h.lt; show g < B; omega)).trans h.c1⟩

theorem has01 (a : Option Addr) (c : Nat) (x : Int) (hx : x = 0 ∨ x = 1) (w : World) (hi : Ints w a [0, 1]) :
    Calls Tryz.prog 87 #[.slice a 2 c, .int .i64 x] w fun e w' => e = .returned (.bool true) ∧ w = w' := by
  have := contains_any a c [0, 1] x w hi (by simp)
  rcases hx with rfl | rfl <;> exact this

set_option maxHeartbeats 2000000 in
theorem density12 (g c1 : Nat) (a : Option Addr) (c : Nat) (w : World) (he : Edge01 w g) (hi : Ints w a [0, 1]) :
    Calls Tryz.prog 90 #[.agg #[.int .i64 2, .slice (some ⟨g, 0, none⟩) 1 c1], .slice a 2 c] w (RetB (.agg #[.int .i64 1, .int .i64 2]) w) := by
  have HE := hid he
  have HI := hid hi
  clear he hi
  go_enter Tryz.func90, Tryz.ntmps90
  go_wp2_with fail
  have hb := ((Below.refl _ w).alloc (Nat.le_refl _) (.cells #[.int .i64 2, .slice (some ⟨g, 0, none⟩) 1 c1] 141)).alloc (by simp) (.cells #[.int .i64 0, .int .i64 0] 44)
  have b1 : Blk ((w.alloc (.cells #[.int .i64 2, .slice (some ⟨g, 0, none⟩) 1 c1] 141)).alloc (.cells #[.int .i64 0, .int .i64 0] 44)) (w.heap.size + 1) #[.int .i64 0, .int .i64 0] 44 := Blk.mk' (by simp) rfl
  generalize (w.alloc (.cells #[.int .i64 2, .slice (some ⟨g, 0, none⟩) 1 c1] 141)).alloc (.cells #[.int .i64 0, .int .i64 0] 44) = W at *
  have HB := hid hb
  have HB1 := hid b1
  obtain ⟨-, k0, k1⟩ := HE.out.below hb (Nat.le_refl _)
  have HI2 := hid (Ints.below HI.out hb (Nat.le_refl _))
  have hal : Below w.heap.size w (W.alloc (.cells #[.int .i64 0, .int .i64 1] 105)) := hb.alloc hb.size _
  have HAL := hid hal
  have HB2 := hid (b1.alloc (.cells #[.int .i64 0, .int .i64 1] 105))
  have HI3 := hid (HI2.out.below ((Below.refl _ W).alloc (Nat.le_refl _) (.cells #[.int .i64 0, .int .i64 1] 105)) (Nat.le_refl _))
  clear b1 hb hal
  refine wp_loop_rounds 2 ?_
  rw [rounds_succ]
  go_wp2_with fail
  refine (has01 a c 0 (.inl rfl) _ HI3.out).mono ?_
  rintro e w1 ⟨rfl, rfl⟩
  go_wp2_with fail
  refine (has01 a c 1 (.inr rfl) _ HI3.out).mono ?_
  rintro e w1 ⟨rfl, rfl⟩
  go_wp2_with fail
  rw [rounds_succ]
  go_wp2_with fail
  refine (frac12 _).mono ?_
  rintro e w1 ⟨rfl, hb⟩
  have b3 := HB2.out.below hb (HB2.out.lt)
  have hb3 := HAL.out.trans (hb.mono HAL.out.size)
  obtain ⟨r0, r1, z0, z1⟩ := b3.two
  have b4 := b3.put2 (.int .i64 1) (.int .i64 2)
  have hb4 : Below w.heap.size w ((w1.setCell ⟨w.heap.size + 1, 0, none⟩ (.int .i64 1)).setCell ⟨w.heap.size + 1, 1, none⟩ (.int .i64 2)) := (hb3.setCell (show w.heap.size ≤ w.heap.size + 1 by omega) _).setCell (show w.heap.size ≤ w.heap.size + 1 by omega) _
  clear b3 hb3 hb
  go_wp2_with fail
  generalize (w1.setCell ⟨w.heap.size + 1, 0, none⟩ (.int .i64 1)).setCell ⟨w.heap.size + 1, 1, none⟩ (.int .i64 2) = W2 at *
  clear r0 r1 z0 z1
  obtain ⟨r0, r1, z0, z1⟩ := b4.two
  exact bodyPost_ret (v := .agg #[.int .i64 1, .int .i64 2]) (by simp [results, Tryz.results90, go_sem, r0, r1]) rfl ⟨rfl, hb4⟩

end Go.Proofs.YtkmpdcckgibkhaaGreat
