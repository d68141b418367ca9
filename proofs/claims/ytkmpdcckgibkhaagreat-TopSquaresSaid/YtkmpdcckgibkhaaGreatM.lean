/-
  Walks: the graph with one edge.
-/
import Derived.Test.YtkmpdcckgibkhaaGreatK
import Derived.Test.YtkmpdcckgibkhaaGreatL
namespace Go.Proofs.YtkmpdcckgibkhaaGreat
open Go.RowKit Go.ChangeMaps

theorem zero4 (w : World) : (zeroValue 4).run Tryz.prog w = .ok (.bool false) w := by kernel_rfl

set_option maxHeartbeats 2000000 in
theorem newGraph12 (g c1 : Nat) (w : World) (he : Edge01 w g) :
    Calls Tryz.prog 88 #[.int .i64 2, .slice (some ⟨g, 0, none⟩) 1 c1] w (RetB (.tuple #[.agg #[.int .i64 2, .slice (some ⟨g, 0, none⟩) 1 c1], .bool true]) w) := by
  have HE := hid he
  have hmm := @run_makeMap Tryz.prog
  clear he
  go_enter Tryz.func88, Tryz.ntmps88
  go_wp2_with fail
  refine (within121_yes _ _ _ _ (by simp) (by simp)).mono ?_
  rintro e w1 ⟨rfl, rfl⟩
  go_wp2_with fail
  have hb := ((Below.refl _ w).alloc (Nat.le_refl _) (.cells #[.int .i64 0, .slice none 0 0] 141)).alloc (by simp) (.map #[] 0)
  have b1 : Blk ((w.alloc (.cells #[.int .i64 0, .slice none 0 0] 141)).alloc (.map #[] 0)) w.heap.size #[.int .i64 0, .slice none 0 0] 141 := (Blk.new w _ _).alloc _
  have hM : MapIs enc2 ((w.alloc (.cells #[.int .i64 0, .slice none 0 0] 141)).alloc (.map #[] 0)) (w.heap.size + 1) [] := by
    have := MapIs.made (enc := enc2) (w.alloc (.cells #[.int .i64 0, .slice none 0 0] 141))
    simpa using this
  generalize (w.alloc (.cells #[.int .i64 0, .slice none 0 0] 141)).alloc (.map #[] 0) = W at *
  obtain ⟨-, k0, k1⟩ := HE.out.below hb (Nat.le_refl _)
  have hb2 := hb.alloc hb.size (.cells #[.int .i64 0, .int .i64 1] 105)
  have b2 := b1.alloc (.cells #[.int .i64 0, .int .i64 1] 105)
  have hM2 := MapIs.alloc hM (.cells #[.int .i64 0, .int .i64 1] 105)
  obtain ⟨e0, e1, -, -⟩ := (Blk.new W #[.int .i64 0, .int .i64 1] 105).two
  have hlk := hM2.look kt105 Tryz.underlying182 (zero4 _) (0, 1) false
  obtain ⟨w8, hup, hM8, o8, ho8⟩ := hM2.store kt105 Tryz.underlying182 (0, 1) (.bool true)
  have hlk2 : (Instr.lookup 182 (.map (some (w.heap.size + 1))) (.agg #[.int .i64 0, .int .i64 1]) false).run Tryz.prog (W.alloc (.cells #[.int .i64 0, .int .i64 1] 105)) = .ok (.bool false) (W.alloc (.cells #[.int .i64 0, .int .i64 1] 105)) := hlk
  have hup2 : (Instr.mapUpdate 182 (.map (some (w.heap.size + 1))) (.agg #[.int .i64 0, .int .i64 1]) (.bool true)).run Tryz.prog (W.alloc (.cells #[.int .i64 0, .int .i64 1] 105)) = .ok () w8 := hup
  have HB8 := hid (show Below w.heap.size w w8 by rw [ho8]; exact setBlock_below hb2 (by omega) _)
  have HBk := hid (show Blk w8 w.heap.size #[.int .i64 0, .slice none 0 0] 141 by rw [ho8]; exact b2.turned (by omega) _)
  clear hlk hup hM8 ho8 hM hM2 hb hb2 b1 b2 hmm
  refine wp_loop_rounds 2 ?_
  rw [rounds_succ]
  go_wp2_with fail
  refine (within121_yes _ _ _ _ (by simp) (by simp)).mono ?_
  rintro e w1 ⟨rfl, rfl⟩
  go_wp2_with fail
  refine (within121_yes _ _ _ _ (by simp) (by simp)).mono ?_
  rintro e w1 ⟨rfl, rfl⟩
  go_wp2_with fail
  rw [rounds_succ]
  obtain ⟨r0, r1, z0, z1⟩ := HBk.out.two
  have b4 := HBk.out.put2 (.int .i64 2) (.slice (some ⟨g, 0, none⟩) 1 c1)
  have hb4 : Below w.heap.size w ((w8.setCell ⟨w.heap.size, 0, none⟩ (.int .i64 2)).setCell ⟨w.heap.size, 1, none⟩ (.slice (some ⟨g, 0, none⟩) 1 c1)) := (HB8.out.setCell (Nat.le_refl _) _).setCell (Nat.le_refl _) _
  go_wp2_with fail
  generalize (w8.setCell ⟨w.heap.size, 0, none⟩ (.int .i64 2)).setCell ⟨w.heap.size, 1, none⟩ (.slice (some ⟨g, 0, none⟩) 1 c1) = W2 at *
  clear r0 r1 z0 z1
  obtain ⟨r0, r1, z0, z1⟩ := b4.two
  exact bodyPost_ret (v := .tuple #[.agg #[.int .i64 2, .slice (some ⟨g, 0, none⟩) 1 c1], .bool true]) (by simp [results, Tryz.results88, go_sem, r0, r1]) rfl ⟨rfl, hb4⟩

set_option maxHeartbeats 2000000 in
/-- Density(2, [{0 1}], [0 1]) is one half. -/
theorem bags12 (g c1 : Nat) (a : Option Addr) (c : Nat) (w : World) (he : Edge01 w g) (hi : Ints w a [0, 1]) :
    Calls Tryz.prog 58 #[.int .i64 2, .slice (some ⟨g, 0, none⟩) 1 c1, .slice a 2 c] w (RetB (.tuple #[.agg #[.int .i64 1, .int .i64 2], .int .i64 0]) w) := by
  have hb0 := (Below.refl _ w).alloc (Nat.le_refl _) (.cells #[.int .i64 0, .int .i64 0] 44)
  have b0 := Blk.new w #[.int .i64 0, .int .i64 0] 44
  have HE := hid (he.below hb0 (Nat.le_refl _))
  have HI := hid (Ints.below hi hb0 (Nat.le_refl _))
  clear he hi
  go_enter Tryz.func58, Tryz.ntmps58
  go_wp2_with fail
  generalize w.alloc (.cells #[.int .i64 0, .int .i64 0] 44) = W0 at *
  refine (newGraph12 g c1 _ HE.out).mono ?_
  rintro e w1 ⟨rfl, hb⟩
  have hb1 := hb0.trans (hb.mono hb0.size)
  have b1 := b0.below hb b0.lt
  have hb2 := hb1.alloc hb1.size (.cells #[.int .i64 2, .slice (some ⟨g, 0, none⟩) 1 c1] 141)
  have b2 := b1.alloc (.cells #[.int .i64 2, .slice (some ⟨g, 0, none⟩) 1 c1] 141)
  have hbx := hb.alloc hb.size (.cells #[.int .i64 2, .slice (some ⟨g, 0, none⟩) 1 c1] 141)
  have HE2 := hid (HE.out.below hbx (Nat.le_refl _))
  have HI2 := hid (Ints.below HI.out hbx (Nat.le_refl _))
  have bg := (Blk.new w1 #[.int .i64 2, .slice (some ⟨g, 0, none⟩) 1 c1] 141)
  obtain ⟨r0, r1, -, -⟩ := bg.two
  go_wp2_with fail
  generalize w1.alloc (.cells #[.int .i64 2, .slice (some ⟨g, 0, none⟩) 1 c1] 141) = W2 at *
  refine (isSet01 g c1 a c _ HI2.out).mono ?_
  rintro e w3 ⟨rfl, hb3⟩
  have hb4 := hb2.trans (hb3.mono hb2.size)
  have b4 := b2.below hb3 b2.lt
  have bg4 := bg.below hb3 bg.lt
  have HE4 := hid (HE2.out.below hb3 (Nat.le_refl _))
  have HI4 := hid (Ints.below HI2.out hb3 (Nat.le_refl _))
  clear r0 r1
  obtain ⟨r0, r1, -, -⟩ := bg4.two
  go_wp2_with fail
  refine (density12 g c1 a c _ HE4.out HI4.out).mono ?_
  rintro e w5 ⟨rfl, hb5⟩
  have hb6 := hb4.trans (hb5.mono hb4.size)
  have b6 := b4.below hb5 b4.lt
  clear r0 r1
  obtain ⟨r0, r1, z0, z1⟩ := b6.two
  have b7 := b6.put2 (.int .i64 1) (.int .i64 2)
  have hb7 : Below w.heap.size w ((w5.setCell ⟨w.heap.size, 0, none⟩ (.int .i64 1)).setCell ⟨w.heap.size, 1, none⟩ (.int .i64 2)) := (hb6.setCell (Nat.le_refl _) _).setCell (Nat.le_refl _) _
  go_wp2_with fail
  generalize (w5.setCell ⟨w.heap.size, 0, none⟩ (.int .i64 1)).setCell ⟨w.heap.size, 1, none⟩ (.int .i64 2) = W7 at *
  clear r0 r1 z0 z1
  obtain ⟨r0, r1, -, -⟩ := b7.two
  exact bodyPost_ret (v := .tuple #[.agg #[.int .i64 1, .int .i64 2], .int .i64 0]) (by simp [results, Tryz.results58, go_sem, r0, r1]) rfl ⟨rfl, hb7⟩

end Go.Proofs.YtkmpdcckgibkhaaGreat
