/-
  Simple results: a rank, a first square-free word.
-/
import Derived.Test.YtkmpdcckgibkhaaGreatYc
import Derived.Test.YtkmpdcckgibkhaaGreatXe
namespace Go.Proofs.YtkmpdcckgibkhaaGreat
open Go.RowKit

theorem okM00 : Ck.OkM [[0, 0]] := ⟨by decide, by decide, by decide, by decide, by decide, by decide⟩
theorem minN00 : Ck.minN [[0, 0]] = 1 := by kernel_rfl
theorem rank41 (a : Option Addr) (c : Nat) (w : World) (hr : RowsAt w a [[0, 0]]) : Calls Tryz.prog 41 #[.slice a 1 c] w fun e w' => ∃ s, e = .returned (.tuple #[.int .i64 1, .string s, .int .i64 0]) ∧ Below w.heap.size w w' := by
  refine (Ck.Rank_yes a c [[0, 0]] w okM00 hr).mono ?_
  rintro e w' ⟨rfl, hb⟩
  rw [minN00]
  cases Ck.firstE [[0, 0]] (Ck.allS [[0, 0]]) (Ck.hasB 1) with
  | none => exact ⟨_, rfl, hb⟩
  | some x => exact ⟨_, rfl, hb⟩
theorem frW32 : (Mk.frW 2 3 []).head? = some [97, 98, 97] := by kernel_rfl
theorem first42 (w : World) : Calls Tryz.prog 42 #[.int .i64 3, .int .i64 2] w (RetB (.tuple #[.string (mkS [97, 98, 97]), .int .i64 0]) w) := by
  refine (Mk.first_yes 3 2 w (by omega) (by omega) (by omega)).mono ?_
  rintro e w' ⟨rfl, hb⟩
  rw [frW32]
  exact ⟨rfl, hb⟩

end Go.Proofs.YtkmpdcckgibkhaaGreat
