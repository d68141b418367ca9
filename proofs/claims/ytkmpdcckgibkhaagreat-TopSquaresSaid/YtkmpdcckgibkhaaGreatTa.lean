/-
  Walks: the simple results of stages 4 and 7.
-/
import Derived.Test.YtkmpdcckgibkhaaGreatT
namespace Go.Proofs.YtkmpdcckgibkhaaGreat
open Go.RowKit

theorem least_aa (w : World) : Calls Tryz.prog 19 #[.string ⟨#[97, 97]⟩] w fun e w' => ∃ a c, e = .returned (.tuple #[.slice a 1 c, .int .i64 0]) ∧ Ints w' a [1] ∧ Below w.heap.size w w' :=
  (least_any (mkS [97, 97]) w (by decide)).mono fun e w' h => by
    obtain ⟨a, c, h1, h2, -, -, h5⟩ := h
    rw [show leastC (mkS [97, 97]).data.toList = [1] by decide +kernel, show leastE (mkS [97, 97]).data.toList = 0 by decide +kernel] at h1
    rw [show leastC (mkS [97, 97]).data.toList = [1] by decide +kernel] at h2
    exact ⟨a, c, h1, h2, h5⟩

theorem Blk.ints {w : World} {b : Nat} {t : TypeId} (l : List Int) (h : Blk w b (l.map (Value.int .i64)).toArray t) : Ints w (some ⟨b, 0, none⟩) l := by
  refine .inr ⟨b, 0, rfl, h.lt, fun i u hu => ?_⟩
  rw [Nat.zero_add, h.cell i]
  simpa using hu
theorem one_half (w : World) : (binOp BinOp.eql 44 (.agg #[.int .i64 1, .int .i64 2]) (.agg #[.int .i64 1, .int .i64 2])).run Tryz.prog w = .ok (.bool true) w := by kernel_rfl

set_option maxRecDepth 100000 in
set_option maxHeartbeats 4000000 in
theorem four_any (w : World) : Calls Tryz.prog 29 #[] w (RetB (.bool true) w) := by
  go_enter Tryz.func29, Tryz.ntmps29
  go_wp2_with fail
  have hb := ((Below.refl _ w).alloc (Nat.le_refl _) (.cells #[.int .i64 0, .int .i64 1] 105)).alloc (by simp) (.cells #[.int .i64 0, .int .i64 1] 3)
  have b1 := (Blk.new w #[.int .i64 0, .int .i64 1] 105).alloc (.cells #[.int .i64 0, .int .i64 1] 3)
  have b2 : Blk ((w.alloc (.cells #[.int .i64 0, .int .i64 1] 105)).alloc (.cells #[.int .i64 0, .int .i64 1] 3)) (w.heap.size + 1) #[.int .i64 0, .int .i64 1] 3 := Blk.mk' (by simp) rfl
  have hE : Edge01 ((w.alloc (.cells #[.int .i64 0, .int .i64 1] 105)).alloc (.cells #[.int .i64 0, .int .i64 1] 3)) w.heap.size := ⟨b1.lt, b1.cell 0, b1.cell 1⟩
  have hI := Blk.ints [0, 1] b2
  generalize (w.alloc (.cells #[.int .i64 0, .int .i64 1] 105)).alloc (.cells #[.int .i64 0, .int .i64 1] 3) = W at *
  refine (bags12 _ _ _ _ _ hE hI).mono ?_
  rintro e w1 ⟨rfl, hb1⟩
  have hb := hb.trans (hb1.mono hb.size)
  clear hE hI b1 b2 hb1
  have hb2 := (hb.alloc hb.size (.cells #[.int .i64 1, .int .i64 2] 44)).alloc (by have := hb.size; simp; omega) (.cells #[.int .i64 0, .int .i64 1, .int .i64 5] 109)
  have b1 := (Blk.new w1 #[.int .i64 1, .int .i64 2] 44).alloc (.cells #[.int .i64 0, .int .i64 1, .int .i64 5] 109)
  have b2 : Blk ((w1.alloc (.cells #[.int .i64 1, .int .i64 2] 44)).alloc (.cells #[.int .i64 0, .int .i64 1, .int .i64 5] 109)) (w1.heap.size + 1) #[.int .i64 0, .int .i64 1, .int .i64 5] 109 := Blk.mk' (by simp) rfl
  have hS : Street ((w1.alloc (.cells #[.int .i64 1, .int .i64 2] 44)).alloc (.cells #[.int .i64 0, .int .i64 1, .int .i64 5] 109)) (w1.heap.size + 1) := ⟨b2.lt, b2.cell 0, b2.cell 1, b2.cell 2⟩
  go_wp2_with fail
  generalize (w1.alloc (.cells #[.int .i64 1, .int .i64 2] 44)).alloc (.cells #[.int .i64 0, .int .i64 1, .int .i64 5] 109) = W2 at *
  generalize w1.heap.size = n at *
  refine (count_1 _ _ _ hS).mono ?_
  rintro e w2 ⟨rfl, hb3⟩
  have hb := hb2.trans (hb3.mono hb2.size)
  have b1 := b1.below hb3 b1.lt
  clear hS hb2 hb3 b2
  go_wp2_with fail
  refine (vector1 _).mono ?_
  rintro e w3 ⟨a3, c3, rfl, hi3, hb3⟩
  have hb := hb.trans (hb3.mono hb.size)
  have b1 := b1.below hb3 b1.lt
  clear hb3
  go_wp2_with fail
  refine (least_aa _).mono ?_
  rintro e w4 ⟨a4, c4, rfl, hi4, hb4⟩
  have hb := hb.trans (hb4.mono hb.size)
  have b1 := b1.below hb4 b1.lt
  have hi3 := hi3.below hb4 (Nat.le_refl _)
  clear hb4
  have r0 := b1.cell 0
  have r1 := b1.cell 1
  have hoh := one_half
  go_wp2_with fail
  have bz := Blk.new w4 #[.int .i64 0] 3
  have hi3 := hi3.below ((Below.refl _ w4).alloc (Nat.le_refl _) (.cells #[.int .i64 0] 3)) (Nat.le_refl _)
  have hi4 := hi4.below ((Below.refl _ w4).alloc (Nat.le_refl _) (.cells #[.int .i64 0] 3)) (Nat.le_refl _)
  have hb := hb.alloc hb.size (.cells #[.int .i64 0] 3)
  have hiz := Blk.ints [0] bz
  generalize w4.alloc (.cells #[.int .i64 0] 3) = W4 at *
  refine (ints10 a3 (some ⟨w4.heap.size, 0, none⟩) c3 1 [0] [0] W4 hi3 hiz (by simp) (by simp)).mono ?_
  rintro e w5 ⟨rfl, hb5⟩
  have hb := hb.trans (hb5.mono hb.size)
  have hi4 := hi4.below hb5 (Nat.le_refl _)
  have bz2 := Blk.new w5 #[.int .i64 1] 3
  have hi4 := hi4.below ((Below.refl _ w5).alloc (Nat.le_refl _) (.cells #[.int .i64 1] 3)) (Nat.le_refl _)
  have hb := hb.alloc hb.size (.cells #[.int .i64 1] 3)
  have hiz2 := Blk.ints [1] bz2
  go_wp2_with fail
  generalize w5.alloc (.cells #[.int .i64 1] 3) = W5 at *
  refine (ints10 a4 (some ⟨w5.heap.size, 0, none⟩) c4 1 [1] [1] W5 hi4 hiz2 (by simp) (by simp)).mono ?_
  rintro e w6 ⟨rfl, hb6⟩
  have hb := hb.trans (hb6.mono hb.size)
  go_wp2_with fail
  go_ret
  exact ⟨rfl, hb⟩

set_option maxRecDepth 100000 in
set_option maxHeartbeats 4000000 in
theorem seven_any (w : World) : Calls Tryz.prog 12 #[] w (RetB (.bool true) w) := by
  go_enter Tryz.func12, Tryz.ntmps12
  go_wp2_with fail
  have hb := (Below.refl _ w).alloc (Nat.le_refl _) (.cells #[.int .i64 5] 3)
  have hI := Blk.ints [5] (Blk.new w #[.int .i64 5] 3)
  generalize w.alloc (.cells #[.int .i64 5] 3) = W at *
  refine (bound_one 5 (by omega) (by omega) _ _ _ hI).mono ?_
  rintro e w1 ⟨rfl, hb1⟩
  have hb := hb.trans (hb1.mono hb.size)
  clear hI hb1
  have hb2 := hb.alloc hb.size (.cells #[.int .i64 2, .int .i64 1] 3)
  have hI2 := Blk.ints [2, 1] (Blk.new w1 #[.int .i64 2, .int .i64 1] 3)
  go_wp2_with fail
  generalize w1.alloc (.cells #[.int .i64 2, .int .i64 1] 3) = W1 at *
  refine (index21 _ _ (by omega) _ hI2).mono ?_
  rintro e w2 ⟨rfl, hb3⟩
  have hb := hb2.trans (hb3.mono hb2.size)
  clear hI2 hb2 hb3
  have hb2 := (hb.alloc hb.size (.cells #[.int .i64 3] 3)).alloc (by have := hb.size; simp; omega) (.cells #[.slice (some ⟨w2.heap.size, 0, none⟩) 1 1] 24)
  have b1 := (Blk.new w2 #[.int .i64 3] 3).alloc (.cells #[.slice (some ⟨w2.heap.size, 0, none⟩) 1 1] 24)
  have b2 : Blk ((w2.alloc (.cells #[.int .i64 3] 3)).alloc (.cells #[.slice (some ⟨w2.heap.size, 0, none⟩) 1 1] 24)) (w2.heap.size + 1) #[.slice (some ⟨w2.heap.size, 0, none⟩) 1 1] 24 := Blk.mk' (by simp) rfl
  have hR : RowsAt ((w2.alloc (.cells #[.int .i64 3] 3)).alloc (.cells #[.slice (some ⟨w2.heap.size, 0, none⟩) 1 1] 24)) (some ⟨w2.heap.size + 1, 0, none⟩) [[3]] := by
    refine ⟨[.slice (some ⟨w2.heap.size, 0, none⟩) 1 1], .inr ⟨_, _, rfl, b2.lt, fun i u hu => ?_⟩, rfl, fun i r hr => ?_⟩
    · rw [Nat.zero_add, b2.cell i]; simpa using hu
    · match i, hr with
      | 0, hr => cases hr; exact ⟨_, _, rfl, Blk.ints [3] b1, (fun h => by cases h), by decide⟩
      | i + 1, hr => simp at hr
  go_wp2_with fail
  generalize (w2.alloc (.cells #[.int .i64 3] 3)).alloc (.cells #[.slice (some ⟨w2.heap.size, 0, none⟩) 1 1] 24) = W2 at *
  refine (permanent_ok _ _ [[3]] _ hR (by unfold Square; simp) (by simp)).mono ?_
  rintro e w3 ⟨rfl, hb3⟩
  have hb := hb2.trans (hb3.mono hb2.size)
  rw [show permC ([[3]] : List (List Int)).length [[3]] 0 = 3 from rfl]
  go_wp2_with fail
  refine (four_any _).mono ?_
  rintro e w4 ⟨rfl, hb4⟩
  have hb := hb.trans (hb4.mono hb.size)
  go_wp2_with fail
  go_ret
  exact ⟨rfl, hb⟩

end Go.Proofs.YtkmpdcckgibkhaaGreat
