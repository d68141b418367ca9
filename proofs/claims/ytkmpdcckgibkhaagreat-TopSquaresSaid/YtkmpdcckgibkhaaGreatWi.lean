/-
  Walks: the time of two places; the simple results of stages 9 and 11.
-/
import Derived.Test.YtkmpdcckgibkhaaGreatWd
import Derived.Test.YtkmpdcckgibkhaaGreatWh
import Derived.Test.YtkmpdcckgibkhaaGreatZa
namespace Go.Proofs.YtkmpdcckgibkhaaGreat
open Go.RowKit Go.ChangeMaps

set_option maxRecDepth 100000 in
set_option maxHeartbeats 4000000 in
theorem time81 (pb : Nat) (w : World) (h : Blk w pb #[.int .i64 0, .int .i64 1] 53) : Calls Tryz.prog 81 #[.int .i64 2, .slice (some ⟨pb, 0, none⟩) 1 1, .int .i64 1] w (RetB (.tuple #[.int .i64 1, .int .i64 0]) w) := by
  have C := hid (newTree117 pb w h)
  clear h
  go_enter Tryz.func81, Tryz.ntmps81
  go_wp2_with fail
  refine C.out.mono ?_
  rintro e w1 ⟨g, m, a0, c0, a1, c1, rfl, hg, hm, hgm, hn, hM, hi0, hi1, hb1⟩
  have hb2 := hb1.alloc hb1.size (.cells #[.slice (some ⟨g, 0, none⟩) 2 2, .map (some m)] 178)
  have B2 := Blk.new w1 #[.slice (some ⟨g, 0, none⟩) 2 2, .map (some m)] 178
  have hbl : Below w1.heap.size w1 (w1.alloc (.cells #[.slice (some ⟨g, 0, none⟩) 2 2, .map (some m)] 178)) := (Below.refl _ w1).alloc (Nat.le_refl _) _
  have hT : Tv (w1.alloc (.cells #[.slice (some ⟨g, 0, none⟩) 2 2, .map (some m)] 178)) g m a0 a1 c0 c1 := ⟨hn.below hbl hn.lt, hi0.below hbl (Nat.le_refl _), hi1.below hbl (Nat.le_refl _)⟩
  have C2 := hid (time119_top g m a0 a1 c0 c1 _ hT hgm (hM.below hbl hM.lt))
  have p0 := B2.cell 0
  have p1 := B2.cell 1
  have HB := hid (And.intro hb2 hm)
  clear hn hM hi0 hi1 hb1 hb2 B2 hbl hT
  go_wp2_with fail
  refine (within118_yes 1 0 1 _ (by omega) (by omega)).mono ?_
  rintro e2 w2 ⟨rfl, rfl⟩
  go_wp2_with fail
  refine C2.out.mono ?_
  rintro e3 w3 ⟨rfl, hg3⟩
  have HE := hid (show Below w.heap.size w w3 from HB.out.1.grown hg3 HB.out.1.size (fun k hk => by cases hk; exact HB.out.2))
  clear hg3 p0 p1
  go_wp2_with fail
  go_ret2
  exact ⟨rfl, HE.out⟩

set_option maxRecDepth 100000 in
set_option maxHeartbeats 4000000 in
theorem nine43 (w : World) : Calls Tryz.prog 43 #[] w (RetB (.bool true) w) := by
  have hb := (((Below.refl _ w).alloc (Nat.le_refl _) (.cells #[.int .i64 0, .int .i64 3] 3)).alloc (by simp) (.cells #[.int .i64 3, .int .i64 0] 3)).alloc (by simp; omega) (.cells #[.slice (some ⟨w.heap.size, 0, none⟩) 2 2, .slice (some ⟨w.heap.size + 1, 0, none⟩) 2 2] 24)
  have hM : Mi (((w.alloc (.cells #[.int .i64 0, .int .i64 3] 3)).alloc (.cells #[.int .i64 3, .int .i64 0] 3)).alloc (.cells #[.slice (some ⟨w.heap.size, 0, none⟩) 2 2, .slice (some ⟨w.heap.size + 1, 0, none⟩) 2 2] 24)) w.heap.size :=
    ⟨((Blk.new w _ _).alloc _).alloc _, (Blk.mk' (by simp) rfl).alloc _, Blk.mk' (by simp) rfl⟩
  have C := hid (best80 w.heap.size _ hM)
  have HB := hid hb
  clear hM hb
  go_enter Tryz.func43, Tryz.ntmps43
  go_wp2_with fail
  refine C.out.mono ?_
  rintro e w1 ⟨a, c, rfl, hi, hb1⟩
  have H1 := hid (And.intro hi (HB.out.trans (hb1.mono HB.out.size)))
  clear hi hb1 C
  have CT := hid (time81 w1.heap.size (w1.alloc (.cells #[.int .i64 0, .int .i64 1] 53)) (Blk.new w1 _ _))
  go_wp2_with fail
  refine CT.out.mono ?_
  rintro e w2 ⟨rfl, hb2⟩
  have hbl : Below w1.heap.size w1 (w1.alloc (.cells #[.int .i64 0, .int .i64 1] 53)) := (Below.refl _ w1).alloc (Nat.le_refl _) _
  have hb12 : Below w1.heap.size w1 w2 := hbl.trans (hb2.mono (by simp))
  have hb3 : Below w2.heap.size w2 (w2.alloc (.cells #[.int .i64 0, .int .i64 1] 3)) := (Below.refl _ w2).alloc (Nat.le_refl _) _
  have I3 := hid (ints10 a (some ⟨w2.heap.size, 0, none⟩) c 2 [0, 1] [0, 1] (w2.alloc (.cells #[.int .i64 0, .int .i64 1] 3)) ((H1.out.1.below hb12 (Nat.le_refl _)).below hb3 (Nat.le_refl _)) (vals_new w2 #[.int .i64 0, .int .i64 1] 3 [.int .i64 0, .int .i64 1] rfl) (by simp) (by simp))
  have H2 := hid ((H1.out.2.trans (hb12.mono H1.out.2.size)).trans (hb3.mono (H1.out.2.trans (hb12.mono H1.out.2.size)).size))
  clear hb2 hbl hb12 hb3 CT
  go_wp2_with fail
  refine I3.out.mono ?_
  rintro e w4 ⟨rfl, hb4⟩
  have H4 := hid (H2.out.trans (hb4.mono H2.out.size))
  clear hb4
  go_wp2_with fail
  refine (seven_any _).mono ?_
  rintro e w5 ⟨rfl, hb5⟩
  have H5 := hid (H4.out.trans (hb5.mono H4.out.size))
  clear hb5
  go_wp2_with fail
  go_ret
  exact ⟨rfl, H5.out⟩

end Go.Proofs.YtkmpdcckgibkhaaGreat
