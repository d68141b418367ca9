/-
  Walks: the simple results of stage 11.
-/
import Derived.Test.YtkmpdcckgibkhaaGreatWi
namespace Go.Proofs.YtkmpdcckgibkhaaGreat
open Go.RowKit Go.ChangeMaps

theorem rows_one (w : World) (b d : Nat) (h : Blk w b #[.slice (some ⟨d, 0, none⟩) 2 2] 24) (h2 : Blk w d #[.int .i64 0, .int .i64 0] 3) : RowsAt w (some ⟨b, 0, none⟩) [[0, 0]] := by
  refine ⟨[.slice (some ⟨d, 0, none⟩) 2 2], .inr ⟨b, 0, rfl, h.lt, fun k u hu => by rw [Nat.zero_add, h.cell k]; simpa using hu⟩, rfl, fun i r hr => ?_⟩
  cases i with
  | zero =>
    simp at hr
    subst hr
    exact ⟨some ⟨d, 0, none⟩, 2, rfl, .inr ⟨d, 0, rfl, h2.lt, fun k u hu => by rw [Nat.zero_add, h2.cell k]; simpa using hu⟩, (fun h => by cases h), Nat.le_refl _⟩
  | succ i => simp at hr

set_option maxRecDepth 100000 in
set_option maxHeartbeats 4000000 in
theorem eleven18 (w : World) : Calls Tryz.prog 18 #[] w (RetB (.bool true) w) := by
  have hb := ((Below.refl _ w).alloc (Nat.le_refl _) (.cells #[.int .i64 0, .int .i64 0] 3)).alloc (by simp) (.cells #[.slice (some ⟨w.heap.size, 0, none⟩) 2 2] 24)
  have hr := rows_one _ (w.heap.size + 1) w.heap.size (Blk.mk' (by simp) rfl : Blk ((w.alloc (.cells #[.int .i64 0, .int .i64 0] 3)).alloc (.cells #[.slice (some ⟨w.heap.size, 0, none⟩) 2 2] 24)) (w.heap.size + 1) _ 24) ((Blk.new w _ _).alloc _)
  have C := hid (rank41 (some ⟨w.heap.size + 1, 0, none⟩) 1 _ hr)
  have HB := hid hb
  clear hr hb
  go_enter Tryz.func18, Tryz.ntmps18
  go_wp2_with fail
  refine C.out.mono ?_
  rintro e w1 ⟨s, rfl, hb1⟩
  have H1 := hid (HB.out.trans (hb1.mono HB.out.size))
  clear hb1 C
  go_wp2_with fail
  refine (first42 w1).mono ?_
  rintro e w2 ⟨rfl, hb2⟩
  have H2 := hid (H1.out.trans (hb2.mono H1.out.size))
  clear hb2
  have hs : (mkS [97, 98, 97]).toList = [97, 98, 97] := by rw [Lib.toList_data]; rfl
  go_wp2_with fail
  refine (nine43 w2).mono ?_
  rintro e w3 ⟨rfl, hb3⟩
  have H3 := hid (H2.out.trans (hb3.mono H2.out.size))
  clear hb3
  go_wp2_with fail
  go_ret
  exact ⟨rfl, H3.out⟩

end Go.Proofs.YtkmpdcckgibkhaaGreat
