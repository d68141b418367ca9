/-
  Walks: the determinant of the square of the number 1.
-/
import Derived.Test.YtkmpdcckgibkhaaGreatQd
namespace Go.Proofs.YtkmpdcckgibkhaaGreat
open Go.RowKit

theorem power_one (n p : Int) (w : World) (hp : 1 < p) (hp2 : p ≤ 2147483647) (hn : 0 ≤ n) (hn2 : n ≤ 2147483647) :
    Calls Tryz.prog 94 #[.int .i64 1, .int .i64 n, .int .i64 p] w fun e w' => e = .returned (.int .i64 1) ∧ w = w' :=
  (power_any 1 n p w hp hp2 (by omega) (by omega) hn hn2).mono fun e w' h => by
    obtain ⟨⟨u, rfl, x, rfl, -, -, h1⟩, rfl⟩ := h
    exact ⟨by rw [h1 rfl], rfl⟩

set_option maxRecDepth 100000 in
set_option maxHeartbeats 2000000 in
theorem det_1 (r q c d : Nat) (p : Int) (w : World) (hp : 1 < p) (hp2 : p ≤ 2147483647) (q0 : w.cell? ⟨r, 0, none⟩ = some (.slice (some ⟨q, 0, none⟩) 1 d)) (q1 : w.cell? ⟨q, 0, none⟩ = some (.int .i64 1)) :
    Calls Tryz.prog 151 #[.slice (some ⟨r, 0, none⟩) 1 c, .int .i64 p] w fun e w' => e = .returned (.int .i64 1) ∧ w = w' := by
  have m1 : Int.tmod 1 p = 1 := by rw [Int.tmod_eq_emod_of_nonneg (by omega)]; exact Int.emod_eq_of_lt (by omega) hp
  go_enter Tryz.func151, Tryz.ntmps151
  go_wp2_with fail
  refine wp_loop_rounds 2 ?_
  rw [rounds_succ]
  go_wp2_with fail
  refine wp_loop_rounds 1 ?_
  rw [rounds_succ]
  go_wp2_with fail
  refine (power_one _ p _ hp hp2 (by omega) (by omega)).mono ?_
  rintro e w1 ⟨rfl, rfl⟩
  go_wp2_with fail
  refine wp_loop_rounds 1 ?_
  rw [rounds_succ]
  go_wp2_with fail
  rw [rounds_succ]
  go_wp2_with fail
  go_ret
  exact ⟨rfl, rfl⟩

end Go.Proofs.YtkmpdcckgibkhaaGreat
