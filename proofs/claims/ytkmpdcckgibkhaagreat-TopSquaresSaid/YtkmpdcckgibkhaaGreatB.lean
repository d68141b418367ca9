/-
  Walks: a group of one modulus; the bound of a group.
-/
import Derived.Test.YtkmpdcckgibkhaaGreatA
import Derived.BigRegion
namespace Go.Proofs.YtkmpdcckgibkhaaGreat
open Go.RowKit

set_option maxHeartbeats 1000000 in
theorem newGroup_one (m : Int) (hm1 : 2 ≤ m) (hm2 : m ≤ 24) (a : Option Addr) (c : Nat) (w : World) (hi : Ints w a [m]) :
    Calls Tryz.prog 33 #[.slice a 1 c] w (RetB (.tuple #[(.agg #[.int .i64 m, .int .i64 1, .int .i64 1]), .bool true]) w) := by
  obtain ⟨g, o, rfl, hg, hcell⟩ := hi.at (by simp)
  have q1 : w.cell? ⟨g, o, none⟩ = some (.int .i64 m) := hcell 0 m (by simp)
  have HW := hid hcell
  clear hcell hi
  go_enter Tryz.func33, Tryz.ntmps33
  go_wp2_with fail
  refine (within30_yes _ _ _ _ (by simp) (by simp)).mono ?_
  rintro e w1 ⟨rfl, rfl⟩
  go_wp2_with fail
  refine wp_loop_rounds 2 ?_
  rw [rounds_succ]
  go_wp2_with fail
  refine (within30_yes _ _ _ _ hm1 hm2).mono ?_
  rintro e w1 ⟨rfl, rfl⟩
  go_wp2_with fail
  rw [rounds_succ]
  go_wp2_with fail
  have hb := ((Below.refl _ w).alloc (Nat.le_refl _) (.cells #[.int .i64 0, .int .i64 0, .int .i64 0] 59)).alloc (by simp) (.cells #[.int .i64 m, .int .i64 1, .int .i64 1] 59)
  have b1 : Blk ((w.alloc (.cells #[.int .i64 0, .int .i64 0, .int .i64 0] 59)).alloc (.cells #[.int .i64 m, .int .i64 1, .int .i64 1] 59)) w.heap.size #[.int .i64 0, .int .i64 0, .int .i64 0] 59 := (Blk.new w _ _).alloc _
  have b2 : Blk ((w.alloc (.cells #[.int .i64 0, .int .i64 0, .int .i64 0] 59)).alloc (.cells #[.int .i64 m, .int .i64 1, .int .i64 1] 59)) (w.heap.size + 1) #[.int .i64 m, .int .i64 1, .int .i64 1] 59 := Blk.mk' (by simp) rfl
  generalize ((w.alloc (.cells #[.int .i64 0, .int .i64 0, .int .i64 0] 59)).alloc (.cells #[.int .i64 m, .int .i64 1, .int .i64 1] 59)) = W at *
  have r0 := b2.cell 0
  have r1 := b2.cell 1
  have r2 := b2.cell 2
  simp only [List.getElem?_toArray, List.getElem?_cons_zero, List.getElem?_cons_succ] at r0 r1 r2
  have y0 := b1.cell 0
  have y1 := b1.cell 1
  have y2 := b1.cell 2
  simp only [List.getElem?_toArray, List.getElem?_cons_zero, List.getElem?_cons_succ] at y0 y1 y2
  have z0 := b1.free 0
  have z1 := b1.free 1
  have z2 := b1.free 2
  have hm3 : m ≤ 144 := by omega
  go_region
  have t1 := ((b1.set 0 (.int .i64 m)).set 1 (.int .i64 1)).set 2 (.int .i64 1)
  have t2 : Blk ((((W.setCell ⟨w.heap.size, 0, none⟩ (.int .i64 m)).setCell ⟨w.heap.size, 1, none⟩ (.int .i64 1)).setCell ⟨w.heap.size, 2, none⟩ (.int .i64 1)).drew) w.heap.size #[.int .i64 m, .int .i64 1, .int .i64 1] 59 := t1
  have hb2 : Below w.heap.size w ((((W.setCell ⟨w.heap.size, 0, none⟩ (.int .i64 m)).setCell ⟨w.heap.size, 1, none⟩ (.int .i64 1)).setCell ⟨w.heap.size, 2, none⟩ (.int .i64 1)).drew) := (((hb.setCell (show w.heap.size ≤ w.heap.size from Nat.le_refl _) _).setCell (show w.heap.size ≤ w.heap.size from Nat.le_refl _) _).setCell (show w.heap.size ≤ w.heap.size from Nat.le_refl _) _).drew
  generalize ((((W.setCell ⟨w.heap.size, 0, none⟩ (.int .i64 m)).setCell ⟨w.heap.size, 1, none⟩ (.int .i64 1)).setCell ⟨w.heap.size, 2, none⟩ (.int .i64 1)).drew) = W2 at *
  clear r0 r1 r2 y0 y1 y2 z0 z1 z2 b1 b2 q1
  have r0 := t2.cell 0
  have r1 := t2.cell 1
  have r2 := t2.cell 2
  simp only [List.getElem?_toArray, List.getElem?_cons_zero, List.getElem?_cons_succ] at r0 r1 r2
  go_wp2_with fail
  exact bodyPost_ret (v := .tuple #[.agg #[.int .i64 m, .int .i64 1, .int .i64 1], .bool true]) (by simp [results, Tryz.results33, go_sem, r0, r1, r2]) rfl ⟨rfl, hb2⟩

set_option maxHeartbeats 1000000 in
/-- Bound of one modulus. -/
theorem bound_one (m : Int) (hm1 : 2 ≤ m) (hm2 : m ≤ 24) (a : Option Addr) (c : Nat) (w : World) (hi : Ints w a [m]) :
    Calls Tryz.prog 27 #[.slice a 1 c] w (RetB (.tuple #[.int .i64 m, .int .i64 0]) w) := by
  have HI := hid hi
  clear hi
  go_enter Tryz.func27, Tryz.ntmps27
  go_wp2_with fail
  refine (newGroup_one m hm1 hm2 _ _ _ HI.out).mono ?_
  rintro e w1 ⟨rfl, hb⟩
  go_wp2_with fail
  go_ret2
  exact ⟨rfl, hb.alloc hb.size _⟩

end Go.Proofs.YtkmpdcckgibkhaaGreat
