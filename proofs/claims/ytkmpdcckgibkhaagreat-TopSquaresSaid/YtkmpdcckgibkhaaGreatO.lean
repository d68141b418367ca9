/-
  Walks: the vector of the tree with one fork.
-/
import Derived.Test.YtkmpdcckgibkhaaGreatN
namespace Go.Proofs.YtkmpdcckgibkhaaGreat
open Go.RowKit Go.ChangeMaps

set_option maxHeartbeats 1000000 in
theorem read_fork (w : World) : Calls Tryz.prog 98 #[.string (mkS [40, 46, 46, 41])] w (RetB (.iface 195 (.agg #[.iface 221 (.agg #[]), .iface 221 (.agg #[])])) w) := by
  have b0 := Blk.new w #[.string (mkS [40, 46, 46, 41]), .int .i64 0] 200
  have hb := (Below.refl _ w).alloc (Nat.le_refl _) (.cells #[.string (mkS [40, 46, 46, 41]), .int .i64 0] 200)
  have t1 : (mkS ([] : List UInt8)).toList = [] := by rw [Lib.toList_data]; rfl
  have t2 : (mkS ([] : List UInt8)).toList.isEmpty = true := by rw [t1]; rfl
  go_enter Tryz.func98, Tryz.ntmps98
  go_wp2_with fail
  refine (fork_read _ _ b0).mono ?_
  rintro e w1 ⟨rfl, b1, h1⟩
  obtain ⟨q0, q1, -, -⟩ := b1.two
  go_wp2_with fail
  refine (demand_yes _ _).mono ?_
  rintro e w1 ⟨rfl, rfl⟩
  go_wp2_with fail
  go_ret
  exact ⟨rfl, hb.trans h1⟩

end Go.Proofs.YtkmpdcckgibkhaaGreat
