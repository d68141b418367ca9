/-
  Walks: the graph with one edge; its density as the package tells it.
-/
import Derived.Test.YtkmpdcckgibkhaaGreatJ
namespace Go.Proofs.YtkmpdcckgibkhaaGreat
open Go.RowKit Go.ChangeMaps

set_option maxHeartbeats 2000000 in
theorem isSet01 (g c1 : Nat) (a : Option Addr) (c : Nat) (w : World) (hi : Ints w a [0, 1]) :
    Calls Tryz.prog 89 #[.agg #[.int .i64 2, .slice (some ⟨g, 0, none⟩) 1 c1], .slice a 2 c] w (RetB (.bool true) w) := by
  obtain ⟨g2, o2, rfl, hg, hc⟩ := hi.at (by simp)
  have hb := (Below.refl _ w).alloc (Nat.le_refl _) (.cells #[.int .i64 2, .slice (some ⟨g, 0, none⟩) 1 c1] 141)
  have q0 : (w.alloc (.cells #[.int .i64 2, .slice (some ⟨g, 0, none⟩) 1 c1] 141)).cell? ⟨g2, o2, none⟩ = some (.int .i64 0) := (hb.cell (p := ⟨g2, o2, none⟩) hg).trans (hc 0 0 rfl)
  have q1 : (w.alloc (.cells #[.int .i64 2, .slice (some ⟨g, 0, none⟩) 1 c1] 141)).cell? ⟨g2, o2 + 1, none⟩ = some (.int .i64 1) := (hb.cell (p := ⟨g2, o2 + 1, none⟩) hg).trans (hc 1 1 rfl)
  have b0 := (Blk.new w #[.int .i64 2, .slice (some ⟨g, 0, none⟩) 1 c1] 141).two
  have HB := hid hb
  clear hi hc hb
  go_enter Tryz.func89, Tryz.ntmps89
  go_wp2_with fail
  generalize w.alloc (.cells #[.int .i64 2, .slice (some ⟨g, 0, none⟩) 1 c1] 141) = W at *
  obtain ⟨r0, r1, -, -⟩ := b0
  refine wp_loop_rounds 3 ?_
  rw [rounds_succ]
  go_wp2_with fail
  refine (within121_yes _ _ _ _ (by simp) (by simp)).mono ?_
  rintro e w1 ⟨rfl, rfl⟩
  go_wp2_with fail
  rw [rounds_succ]
  go_wp2_with fail
  refine (within121_yes _ _ _ _ (by simp) (by simp)).mono ?_
  rintro e w1 ⟨rfl, rfl⟩
  go_wp2_with fail
  rw [rounds_succ]
  go_wp2_with fail
  go_ret
  exact ⟨rfl, HB.out⟩

end Go.Proofs.YtkmpdcckgibkhaaGreat
