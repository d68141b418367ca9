/-
  Walks: Grow of nil by one.
-/
import Derived.Test.YtkmpdcckgibkhaaGreatO
import Derived.Lib.AppendZerosOnto
namespace Go.Proofs.YtkmpdcckgibkhaaGreat
open Go.RowKit

theorem info3 : (Tryz.prog.info? 3).map (fun i => (i.zero, i.size, i.bytes)) = some (some (.int .i64 0), 1, 8) := by kernel_rfl
theorem info5 : (Tryz.prog.info? 5).map (fun i => (i.zero, i.size, i.bytes)) = some (some (.int .u8 0), 1, 1) := by kernel_rfl

set_option maxHeartbeats 1000000 in
theorem grow1 (w : World) : Calls Tryz.prog 152 #[.slice none 0 0, .int .i64 1] w fun e w' => ∃ v, e = .returned v ∧ w'.ownsRow w.heap.size 3 1 v 0 [] ∧ Below w.heap.size w w' := by
  have hold : (Builtin.firstCells 1 0 (.slice none 0 0)).run Tryz.prog w.drew = .ok (([] : List Value)).toArray w.drew := run_firstCells_none w.drew 1 0 0 0
  obtain ⟨i, hi, hz0, hz1, hz2⟩ := info_parts info3
  have hrz : ∀ ty, (Builtin.append_ #[24, 3] ty #[.slice none 0 0, .int .i64 1]).run Tryz.prog w =
      .ok (.slice (some ⟨w.heap.size, 0, none⟩) 1 (grownCap w 1 0 3)) (w.drew.alloc (.cells (#[] ++ Builtin.zeroCells (Value.int .i64 0).cells 1 ++ Builtin.zeroCells (Value.int .i64 0).cells (grownCap w 1 0 3 - 1)) 3)) := fun ty => by
    have h := Lib.run_append_grow_zeros (P := Tryz.prog) w 24 3 ty 3 i (.int .i64 0) .i64 .i64 Tryz.underlying24 Tryz.underlying3 hi hz0 none 0 0 [] (by rw [hz1]; exact hold) 1 (by omega) (by omega) (by omega) (by omega) (by omega) (by rw [hz2]; decide)
    exact h
  have hG := grownCap_ge w 1 0 3
  have hG2 := grownCap_le_maxLen w 1 0 3 (by unfold maxLen; omega)
  obtain ⟨G, hGe⟩ : ∃ G, G = grownCap w 1 0 3 := ⟨_, rfl⟩
  rw [← hGe] at hrz hG hG2
  clear hold hGe hi hz0 hz1 hz2
  unfold maxLen at hG2
  have hb : Below w.heap.size w (w.drew.alloc (.cells (#[] ++ Builtin.zeroCells (Value.int .i64 0).cells 1 ++ Builtin.zeroCells (Value.int .i64 0).cells (G - 1)) 3)) := ((Below.refl _ w).drew).alloc (Nat.le_refl _) _
  have bk := Blk.new w.drew (#[] ++ Builtin.zeroCells (Value.int .i64 0).cells 1 ++ Builtin.zeroCells (Value.int .i64 0).cells (G - 1)) 3
  have hsz : (#[] ++ Builtin.zeroCells (Value.int .i64 0).cells 1 ++ Builtin.zeroCells (Value.int .i64 0).cells (G - 1)).size = G := by
    simp [Builtin.zeroCells, Value.cells]
    omega
  generalize (#[] ++ Builtin.zeroCells (Value.int .i64 0).cells 1 ++ Builtin.zeroCells (Value.int .i64 0).cells (G - 1)) = cs at *
  have HB := hid (And.intro hb bk)
  clear hb bk
  go_enter Tryz.func152, Tryz.ntmps152
  go_wp2_with (at_builtin; refine Lib.wpList_append_run _ rfl _ _ _ _ rfl _ _ rfl rfl _ _ (hrz _) ?_)
  all_goals (go_ret; refine ⟨_, rfl, ?_, HB.out.1⟩; exact ⟨rfl, .inr ⟨w.heap.size, G, cs, rfl, Nat.le_refl _, HB.out.2, Nat.zero_le _, by unfold maxLen; omega, by rw [Nat.mul_one]; exact hsz, by simp⟩⟩)
end Go.Proofs.YtkmpdcckgibkhaaGreat
