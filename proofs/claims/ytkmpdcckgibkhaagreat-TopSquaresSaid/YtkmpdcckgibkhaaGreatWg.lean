/-
  Walks: the branches of the two places.
-/
import Derived.Test.YtkmpdcckgibkhaaGreatWf
namespace Go.Proofs.YtkmpdcckgibkhaaGreat
open Go.RowKit Go.ChangeMaps

theorem own_one {w : World} {base : Nat} {a : Option Addr} {c : Nat} {x : Int} (h : w.ownsRow base 3 1 (.slice a 1 c) 1 [.int .i64 x]) : ∃ g, a = some ⟨g, 0, none⟩ ∧ base ≤ g ∧ 1 ≤ c ∧ g < w.heap.size ∧ w.cell? ⟨g, 0, none⟩ = some (.int .i64 x) ∧ w.frozen? ⟨g, 0, none⟩ = false := by
  rcases h.2 with ⟨h1, h2⟩ | ⟨g, cap, cur, h1, h2, h3, h4, h5, h6, h7⟩
  · cases h2
  · simp only [Value.slice.injEq, true_and] at h1
    obtain ⟨rfl, rfl⟩ := h1
    have hb : Blk w g cur 3 := h3
    refine ⟨g, rfl, h2, h4, hb.lt, ?_, hb.free 0⟩
    rw [hb.cell 0]
    have : cur.toList[0]? = some (.int .i64 x) := by
      have h8 : (cur.toList.take 1)[0]? = some (.int .i64 x) := by rw [show (cur.toList.take (1 * 1)) = cur.toList.take 1 from rfl] at h7; rw [h7]; rfl
      rw [List.getElem?_take] at h8
      simpa using h8
    simpa using this

/-- The boxes of branches. -/
structure Bx (w : World) (g m b : Nat) (v fr : Int) (X : World) : Prop where
  below : Below w.heap.size w X
  le : w.heap.size ≤ b
  tree : Blk X b #[.slice (some ⟨g, 0, none⟩) 2 2, .map (some m)] 178
  v : Blk X (b + 1) #[.int .i64 v] 3
  f : Blk X (b + 1 + 1) #[.int .i64 fr] 3
theorem Bx.new (w : World) (g m : Nat) (v fr : Int) : Bx w g m w.heap.size v fr (((w.alloc (.cells #[.slice (some ⟨g, 0, none⟩) 2 2, .map (some m)] 178)).alloc (.cells #[.int .i64 v] 3)).alloc (.cells #[.int .i64 fr] 3)) :=
  ⟨(((Below.refl _ w).alloc (Nat.le_refl _) _).alloc (by simp) _).alloc (by simp; omega) _, Nat.le_refl _, ((Blk.new w _ _).alloc _).alloc _, (Blk.mk' (by simp) rfl).alloc _, Blk.mk' (by simp) rfl⟩

set_option maxRecDepth 100000 in
set_option maxHeartbeats 4000000 in
theorem branches142_no (g m : Nat) (a0 a1 : Option Addr) (c0 c1 : Nat) (w : World) (hg : Blk w g #[.slice a0 1 c0, .slice a1 1 c1] 24) (h1 : Ints w a1 [0]) :
    Calls Tryz.prog 142 #[.agg #[.slice (some ⟨g, 0, none⟩) 2 2, .map (some m)], .int .i64 1, .int .i64 (-1)] w (RetInts [0] w) := by
  have H0 := Bx.new w g m 1 (-1)
  obtain ⟨W0, hW0⟩ : ∃ W0, W0 = (((w.alloc (.cells #[.slice (some ⟨g, 0, none⟩) 2 2, .map (some m)] 178)).alloc (.cells #[.int .i64 1] 3)).alloc (.cells #[.int .i64 (-1)] 3)) := ⟨_, rfl⟩
  have hg0 := hg.below H0.below hg.lt
  have n1 := hg0.cell 1
  have t0 := H0.tree.cell 0
  have v0 := H0.v.cell 0
  rw [← hW0] at H0
  have hi0 := h1.below H0.below (Nat.le_refl _)
  obtain ⟨gi, oi, rfl, -, -⟩ := h1.at (by simp)
  have C := hid (clone_any (some ⟨gi, oi, none⟩) c1 [0] W0 hi0 (fun h => by cases h) (by simp))
  have HH := hid H0
  clear hg h1 hg0 hi0 H0
  have HW := hid hW0
  clear hW0
  go_enter Tryz.func142, Tryz.ntmps142
  go_wp2_with fail
  rw [← HW.out]
  clear n1 t0 v0
  refine C.out.mono ?_
  rintro e w1 ⟨a1, c1', rfl, hown, hb1⟩
  obtain ⟨gc, rfl, hgc, hcc, hgl, hcell, hfr⟩ := own_one hown
  have hf := HH.out.f.below hb1 HH.out.f.lt
  have ht := HH.out.tree.below hb1 HH.out.tree.lt
  have hv := HH.out.v.below hb1 HH.out.v.lt
  have D := hid (delete154_no gc 0 c1' 0 (w.heap.size + 1 + 1) (-1) w1 hcell hf (by decide))
  have HI := hid (show Ints w1 (some ⟨gc, 0, none⟩) [0] from .inr ⟨gc, 0, rfl, hgl, fun k u hu => by
    cases k with
    | zero => rw [Nat.zero_add, hcell]; simpa using hu
    | succ k => simp at hu⟩)
  have HB := hid (HH.out.below.trans (hb1.mono HH.out.below.size))
  clear hown hb1 hcell hfr hf ht hv
  go_wp2_with fail
  refine D.out.mono ?_
  rintro e w2 ⟨rfl, rfl⟩
  go_wp2_with fail
  refine (falling156 (some ⟨gc, 0, none⟩) c1' [0] w.heap.size (w.heap.size + 1) w1 HI.out (fun h => by cases h) (by simp)).mono ?_
  rintro e w3 ⟨a3, c3, rfl, hi3, hb3⟩
  have H3 := hid (And.intro hi3 (HB.out.trans (hb3.mono HB.out.size)))
  clear hi3 hb3
  go_wp2_with fail
  go_ret
  exact ⟨a3, c3, rfl, H3.out.1, H3.out.2⟩

set_option maxRecDepth 100000 in
set_option maxHeartbeats 4000000 in
theorem branches142_yes (g m : Nat) (a0 a1 : Option Addr) (c0 c1 : Nat) (w : World) (hg : Blk w g #[.slice a0 1 c0, .slice a1 1 c1] 24) (h1 : Ints w a0 [1]) :
    Calls Tryz.prog 142 #[.agg #[.slice (some ⟨g, 0, none⟩) 2 2, .map (some m)], .int .i64 0, .int .i64 1] w (RetInts [] w) := by
  have H0 := Bx.new w g m 0 1
  obtain ⟨W0, hW0⟩ : ∃ W0, W0 = (((w.alloc (.cells #[.slice (some ⟨g, 0, none⟩) 2 2, .map (some m)] 178)).alloc (.cells #[.int .i64 0] 3)).alloc (.cells #[.int .i64 1] 3)) := ⟨_, rfl⟩
  have hg0 := hg.below H0.below hg.lt
  have n1 := hg0.cell 0
  have t0 := H0.tree.cell 0
  have v0 := H0.v.cell 0
  rw [← hW0] at H0
  have hi0 := h1.below H0.below (Nat.le_refl _)
  obtain ⟨gi, oi, rfl, -, -⟩ := h1.at (by simp)
  have C := hid (clone_any (some ⟨gi, oi, none⟩) c0 [1] W0 hi0 (fun h => by cases h) (by simp))
  have HH := hid H0
  clear hg h1 hg0 hi0 H0
  have HW := hid hW0
  clear hW0
  go_enter Tryz.func142, Tryz.ntmps142
  go_wp2_with fail
  rw [← HW.out]
  clear n1 t0 v0
  refine C.out.mono ?_
  rintro e w1 ⟨a1, c1', rfl, hown, hb1⟩
  obtain ⟨gc, rfl, hgc, hcc, hgl, hcell, hfr⟩ := own_one hown
  have hf := HH.out.f.below hb1 HH.out.f.lt
  have D := hid (delete154_yes gc c1' (w.heap.size + 1 + 1) 1 1 w1 hcell hfr hf rfl hcc)
  have HB := hid (And.intro (HH.out.below.trans (hb1.mono HH.out.below.size)) (Nat.le_trans HH.out.below.size hgc))
  clear hown hb1 hcell hfr hf
  go_wp2_with fail
  refine D.out.mono ?_
  rintro e w2 ⟨rfl, rfl⟩
  have HB2 := hid (HB.out.1.setCell (p := ⟨gc, 0, none⟩) HB.out.2 (.int .i64 0))
  go_wp2_with fail
  refine (falling156 (some ⟨gc, 0, none⟩) c1' [] w.heap.size (w.heap.size + 1) (w1.setCell ⟨gc, 0, none⟩ (.int .i64 0)) (Ints.nil _ _) (fun h => by cases h) (by simp)).mono ?_
  rintro e w3 ⟨a3, c3, rfl, hi3, hb3⟩
  have H3 := hid (And.intro hi3 (HB2.out.trans (hb3.mono HB2.out.size)))
  clear hi3 hb3
  go_wp2_with fail
  go_ret
  exact ⟨a3, c3, rfl, H3.out.1, H3.out.2⟩

end Go.Proofs.YtkmpdcckgibkhaaGreat
