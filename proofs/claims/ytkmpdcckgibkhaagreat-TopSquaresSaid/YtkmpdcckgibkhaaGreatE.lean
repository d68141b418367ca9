/-
  Walks: the place of the order 2 1.
-/
import Derived.Test.YtkmpdcckgibkhaaGreatD
namespace Go.Proofs.YtkmpdcckgibkhaaGreat
open Go.RowKit

theorem tab21 : tabV [2, 1] = #[.int .i64 1, .int .i64 0, .int .i64 0, .int .i64 0, .int .i64 0, .int .i64 0, .int .i64 0, .int .i64 0, .int .i64 0, .int .i64 0, .int .i64 0, .int .i64 0] := by rfl

theorem ix21_0 (w : World) : (Instr.index 93 (.agg #[.int .i64 1, .int .i64 0, .int .i64 0, .int .i64 0, .int .i64 0, .int .i64 0, .int .i64 0, .int .i64 0, .int .i64 0, .int .i64 0, .int .i64 0, .int .i64 0]) (.int .i64 0)).run Tryz.prog w = .ok (.int .i64 1) w := by kernel_rfl
theorem ix21_1 (w : World) : (Instr.index 93 (.agg #[.int .i64 1, .int .i64 0, .int .i64 0, .int .i64 0, .int .i64 0, .int .i64 0, .int .i64 0, .int .i64 0, .int .i64 0, .int .i64 0, .int .i64 0, .int .i64 0]) (.int .i64 1)).run Tryz.prog w = .ok (.int .i64 0) w := by kernel_rfl
theorem ix21_2 (w : World) : (Instr.index 93 (.agg #[.int .i64 1, .int .i64 0, .int .i64 0, .int .i64 0, .int .i64 0, .int .i64 0, .int .i64 0, .int .i64 0, .int .i64 0, .int .i64 0, .int .i64 0, .int .i64 0]) (.int .i64 2)).run Tryz.prog w = .ok (.int .i64 0) w := by kernel_rfl
theorem ix21_3 (w : World) : (Instr.index 93 (.agg #[.int .i64 1, .int .i64 0, .int .i64 0, .int .i64 0, .int .i64 0, .int .i64 0, .int .i64 0, .int .i64 0, .int .i64 0, .int .i64 0, .int .i64 0, .int .i64 0]) (.int .i64 3)).run Tryz.prog w = .ok (.int .i64 0) w := by kernel_rfl
theorem ix21_4 (w : World) : (Instr.index 93 (.agg #[.int .i64 1, .int .i64 0, .int .i64 0, .int .i64 0, .int .i64 0, .int .i64 0, .int .i64 0, .int .i64 0, .int .i64 0, .int .i64 0, .int .i64 0, .int .i64 0]) (.int .i64 4)).run Tryz.prog w = .ok (.int .i64 0) w := by kernel_rfl
theorem ix21_5 (w : World) : (Instr.index 93 (.agg #[.int .i64 1, .int .i64 0, .int .i64 0, .int .i64 0, .int .i64 0, .int .i64 0, .int .i64 0, .int .i64 0, .int .i64 0, .int .i64 0, .int .i64 0, .int .i64 0]) (.int .i64 5)).run Tryz.prog w = .ok (.int .i64 0) w := by kernel_rfl
theorem ix21_6 (w : World) : (Instr.index 93 (.agg #[.int .i64 1, .int .i64 0, .int .i64 0, .int .i64 0, .int .i64 0, .int .i64 0, .int .i64 0, .int .i64 0, .int .i64 0, .int .i64 0, .int .i64 0, .int .i64 0]) (.int .i64 6)).run Tryz.prog w = .ok (.int .i64 0) w := by kernel_rfl
theorem ix21_7 (w : World) : (Instr.index 93 (.agg #[.int .i64 1, .int .i64 0, .int .i64 0, .int .i64 0, .int .i64 0, .int .i64 0, .int .i64 0, .int .i64 0, .int .i64 0, .int .i64 0, .int .i64 0, .int .i64 0]) (.int .i64 7)).run Tryz.prog w = .ok (.int .i64 0) w := by kernel_rfl
theorem ix21_8 (w : World) : (Instr.index 93 (.agg #[.int .i64 1, .int .i64 0, .int .i64 0, .int .i64 0, .int .i64 0, .int .i64 0, .int .i64 0, .int .i64 0, .int .i64 0, .int .i64 0, .int .i64 0, .int .i64 0]) (.int .i64 8)).run Tryz.prog w = .ok (.int .i64 0) w := by kernel_rfl
theorem ix21_9 (w : World) : (Instr.index 93 (.agg #[.int .i64 1, .int .i64 0, .int .i64 0, .int .i64 0, .int .i64 0, .int .i64 0, .int .i64 0, .int .i64 0, .int .i64 0, .int .i64 0, .int .i64 0, .int .i64 0]) (.int .i64 9)).run Tryz.prog w = .ok (.int .i64 0) w := by kernel_rfl
theorem ix21_10 (w : World) : (Instr.index 93 (.agg #[.int .i64 1, .int .i64 0, .int .i64 0, .int .i64 0, .int .i64 0, .int .i64 0, .int .i64 0, .int .i64 0, .int .i64 0, .int .i64 0, .int .i64 0, .int .i64 0]) (.int .i64 10)).run Tryz.prog w = .ok (.int .i64 0) w := by kernel_rfl
theorem ix21_11 (w : World) : (Instr.index 93 (.agg #[.int .i64 1, .int .i64 0, .int .i64 0, .int .i64 0, .int .i64 0, .int .i64 0, .int .i64 0, .int .i64 0, .int .i64 0, .int .i64 0, .int .i64 0, .int .i64 0]) (.int .i64 11)).run Tryz.prog w = .ok (.int .i64 0) w := by kernel_rfl

set_option maxRecDepth 100000 in
set_option maxHeartbeats 2000000 in
theorem index21 (a : Option Addr) (c : Nat) (hc : 2 ≤ c) (w : World) (hi : Ints w a [2, 1]) :
    Calls Tryz.prog 28 #[.slice a 2 c] w (RetB (.tuple #[.int .i64 1, .int .i64 0]) w) := by
  have C1 := hid (newOrder_yes a c [2, 1] w hi (by simp) (by simpa using hc) (by decide))
  have C2 := hid (table_any a c [2, 1] w hi (by simp) (by simpa using hc))
  rw [tab21] at C2
  have F1 := fun w => hid (show Calls Tryz.prog 23 #[.int .i64 1] w fun e w' => e = .returned (.int .i64 1) ∧ w = w' from factorial_any 1 (by omega) w)
  have F0 := fun w => hid (show Calls Tryz.prog 23 #[.int .i64 0] w fun e w' => e = .returned (.int .i64 1) ∧ w = w' from factorial_any 0 (by omega) w)
  clear hi
  have X0 := ix21_0
  have X1 := ix21_1
  have X2 := ix21_2
  have X3 := ix21_3
  have X4 := ix21_4
  have X5 := ix21_5
  have X6 := ix21_6
  have X7 := ix21_7
  have X8 := ix21_8
  have X9 := ix21_9
  have X10 := ix21_10
  have X11 := ix21_11
  go_enter Tryz.func28, Tryz.ntmps28
  go_wp2_with fail
  refine C1.out.mono ?_
  rintro e w1 ⟨rfl, rfl⟩
  go_wp2_with fail
  refine C2.out.mono ?_
  rintro e w1 ⟨rfl, hb⟩
  go_wp2_with fail
  refine wp_loop_rounds 13 ?_
  rw [rounds_succ]
  go_wp2_with fail
  refine (F1 _).out.mono ?_
  rintro e w1 ⟨rfl, rfl⟩
  go_wp2_with fail
  rw [rounds_succ]
  go_wp2_with fail
  refine (F0 _).out.mono ?_
  rintro e w1 ⟨rfl, rfl⟩
  go_wp2_with fail
  iterate 11
    rw [rounds_succ]
    go_wp2_with fail
  go_ret2
  exact ⟨rfl, hb⟩

end Go.Proofs.YtkmpdcckgibkhaaGreat
