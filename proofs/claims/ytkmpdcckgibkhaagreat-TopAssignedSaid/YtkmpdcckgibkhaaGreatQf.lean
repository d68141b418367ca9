/-
  Walks: spanning trees of two vertices.
-/
import Derived.Test.YtkmpdcckgibkhaaGreatQe
namespace Go.Proofs.YtkmpdcckgibkhaaGreat
open Go.RowKit Go.ChangeMaps

theorem addNo (i j n : Int) (hij : (i = 0 ∧ j = 1) ∨ i = 1) (s m p : Nat) (w : World) (h1 : w.cell? ⟨s, 0, none⟩ = some (.int .i64 1)) :
    Calls Tryz.prog 150 #[.int .i64 i, .int .i64 j, .int .i64 n, .pointer (some ⟨s, 0, none⟩), .pointer (some ⟨m, 0, none⟩), .pointer (some ⟨p, 0, none⟩)] w fun e w' => e = .returned (.tuple #[]) ∧ w = w' := by
  rcases hij with ⟨rfl, rfl⟩ | rfl
  · go_enter Tryz.func150, Tryz.ntmps150
    go_wp2_with fail
    go_returns
    exact ⟨rfl, rfl⟩
  · go_enter Tryz.func150, Tryz.ntmps150
    go_wp2_with fail
    go_returns
    exact ⟨rfl, rfl⟩

set_option maxHeartbeats 2000000 in
theorem add00 (P : Int) (hp : 1 < P) (hp2 : P ≤ 2147483647) (s m p r q c d : Nat) (w : World) (h1 : w.cell? ⟨s, 0, none⟩ = some (.int .i64 1)) (h2 : w.cell? ⟨m, 0, none⟩ = some (.slice (some ⟨r, 0, none⟩) 1 c))
    (h3 : w.cell? ⟨r, 0, none⟩ = some (.slice (some ⟨q, 0, none⟩) 1 d)) (h4 : w.cell? ⟨q, 0, none⟩ = some (.int .i64 0)) (h5 : w.frozen? ⟨q, 0, none⟩ = false) (h6 : w.cell? ⟨p, 0, none⟩ = some (.int .i64 P)) :
    Calls Tryz.prog 150 #[.int .i64 0, .int .i64 0, .int .i64 1, .pointer (some ⟨s, 0, none⟩), .pointer (some ⟨m, 0, none⟩), .pointer (some ⟨p, 0, none⟩)] w fun e w' => e = .returned (.tuple #[]) ∧ w' = (w.setCell ⟨q, 0, none⟩ (.int .i64 1)).drew := by
  have e1 : wrap64 (1 + P) = 1 + P := by unfold wrap64; omega
  have e2 : Int.tmod (1 + P) P = 1 := by rw [Int.tmod_eq_emod_of_nonneg (by omega), Int.add_emod_right]; exact Int.emod_eq_of_lt (by omega) hp
  go_enter Tryz.func150, Tryz.ntmps150
  go_wp2_with fail
  go_region
  go_wp2_with fail
  go_returns
  exact ⟨rfl, rfl⟩

end Go.Proofs.YtkmpdcckgibkhaaGreat
