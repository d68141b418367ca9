/-
  Walks: elements of a group of one modulus.
-/
import Derived.Test.YtkmpdcckgibkhaaGreatVa
namespace Go.Proofs.YtkmpdcckgibkhaaGreat
open Go.RowKit

set_option maxRecDepth 100000 in
set_option maxHeartbeats 4000000 in
theorem element64 (n x : Int) (a : Option Addr) (c : Nat) (w : World) (hi : Ints w a [x]) (hn : 2 ≤ n) (hn2 : n ≤ 24) (hx : 0 ≤ x) (hx2 : x < n) :
    Calls Tryz.prog 64 #[grpV n, .slice a 1 c] w (RetB (.tuple #[elV x, .bool true]) w) := by
  have hb := (((Below.refl _ w).alloc (Nat.le_refl _) (.cells #[.int .i64 n, .int .i64 1, .int .i64 1] 59)).alloc (by simp) (.cells #[.int .i64 0, .int .i64 0] 57)).alloc (by simp; omega) (.cells #[.int .i64 0, .int .i64 0] 57)
  have bg := ((Blk.new w #[.int .i64 n, .int .i64 1, .int .i64 1] 59).alloc (.cells #[.int .i64 0, .int .i64 0] 57)).alloc (.cells #[.int .i64 0, .int .i64 0] 57)
  have br : Blk (((w.alloc (.cells #[.int .i64 n, .int .i64 1, .int .i64 1] 59)).alloc (.cells #[.int .i64 0, .int .i64 0] 57)).alloc (.cells #[.int .i64 0, .int .i64 0] 57)) (w.heap.size + 1) #[.int .i64 0, .int .i64 0] 57 := (Blk.mk' (by simp) rfl : Blk _ (w.heap.size + 1) _ _).alloc _
  have bx : Blk (((w.alloc (.cells #[.int .i64 n, .int .i64 1, .int .i64 1] 59)).alloc (.cells #[.int .i64 0, .int .i64 0] 57)).alloc (.cells #[.int .i64 0, .int .i64 0] 57)) (w.heap.size + 1 + 1) #[.int .i64 0, .int .i64 0] 57 := Blk.mk' (by simp) rfl
  have hi2 := hi.below hb (Nat.le_refl _)
  obtain ⟨g, o, rfl, hg, hcell⟩ := hi2.at (by simp)
  have q0 := hcell 0 x rfl
  rw [Nat.add_zero] at q0
  have hgw : g < w.heap.size := by
    obtain ⟨g', o', e, hg', -⟩ := hi.at (by simp)
    simp only [Option.some.injEq, Addr.mk.injEq] at e
    omega
  have hnw : wrap64 (n - 1) = n - 1 := by unfold wrap64; omega
  have hle : x ≤ wrap64 (n - 1) := by rw [hnw]; omega
  unfold grpV elV
  clear hi hi2 hcell
  go_enter Tryz.func64, Tryz.ntmps64
  go_wp2_with fail
  generalize ((w.alloc (.cells #[.int .i64 n, .int .i64 1, .int .i64 1] 59)).alloc (.cells #[.int .i64 0, .int .i64 0] 57)).alloc (.cells #[.int .i64 0, .int .i64 0] 57) = W at *
  have g0 := bg.cell 0
  have g1 := bg.cell 1
  have g2 := bg.cell 2
  obtain ⟨x0, x1, fx0, fx1⟩ := bx.two
  obtain ⟨r0, r1, fr0, fr1⟩ := br.two
  have HB := hid (And.intro hb (And.intro br bx))
  clear hb br bx bg
  go_wp2_with fail
  refine wp_loop_rounds 2 ?_
  rw [rounds_succ]
  go_wp2_with fail
  refine (within30_yes _ _ _ _ hx (by omega)).mono ?_
  rintro e w1 ⟨rfl, rfl⟩
  go_wp2_with fail
  rw [rounds_succ]
  have bx2 := HB.out.2.2.set 0 (.int .i64 x)
  have br2 := HB.out.2.1.other ⟨w.heap.size + 1 + 1, 0, none⟩ (by simp) (.int .i64 x)
  have hb2 : Below w.heap.size w (W.setCell ⟨w.heap.size + 1 + 1, 0, none⟩ (.int .i64 x)) := HB.out.1.setCell (by simp; omega) _
  generalize W.setCell ⟨w.heap.size + 1 + 1, 0, none⟩ (.int .i64 x) = W2 at *
  clear x0 x1 fx0 fx1 r0 r1 fr0 fr1 g0 g1 g2 q0
  obtain ⟨x0, x1, -, -⟩ := (show Blk W2 (w.heap.size + 1 + 1) #[.int .i64 x, .int .i64 0] 57 from bx2).two
  obtain ⟨r0, r1, fr0, fr1⟩ := br2.two
  have br3 := br2.put2 (.int .i64 x) (.int .i64 0)
  have hb3 : Below w.heap.size w ((W2.setCell ⟨w.heap.size + 1, 0, none⟩ (.int .i64 x)).setCell ⟨w.heap.size + 1, 1, none⟩ (.int .i64 0)) := (hb2.setCell (by simp) _).setCell (by simp) _
  go_wp2_with fail
  generalize (W2.setCell ⟨w.heap.size + 1, 0, none⟩ (.int .i64 x)).setCell ⟨w.heap.size + 1, 1, none⟩ (.int .i64 0) = W3 at *
  clear r0 r1 fr0 fr1 x0 x1
  obtain ⟨r0, r1, -, -⟩ := br3.two
  exact bodyPost_ret (v := .tuple #[.agg #[.int .i64 x, .int .i64 0], .bool true]) (by simp [results, Tryz.results64, go_sem, r0, r1]) rfl ⟨rfl, hb3⟩

end Go.Proofs.YtkmpdcckgibkhaaGreat
