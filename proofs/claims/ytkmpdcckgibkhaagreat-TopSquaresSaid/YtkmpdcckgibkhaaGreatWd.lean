/-
  Walks: the tree of two places.
-/
import Derived.Test.YtkmpdcckgibkhaaGreatWe
import Derived.Deep.DeepCutAuto
namespace Go.Proofs.YtkmpdcckgibkhaaGreat
open Go.RowKit Go.ChangeMaps

/-- What newTree keeps: the result's box, the rows of neighbors, the map, the tree's box, the edge's box. -/
structure Nt (w : World) (r g m t e : Nat) (u0 u1 : Value) (W : World) : Prop where
  below : Below w.heap.size w W
  le : w.heap.size ≤ r ∧ r < g ∧ g < m ∧ m < t ∧ t < e
  r : Blk W r #[.slice none 0 0, .map none] 178
  near : Blk W g #[u0, u1] 24
  map : MapIs enc2 W m []
  tree : Blk W t #[.slice (some ⟨g, 0, none⟩) 2 2, .map (some m)] 178
  edge : Blk W e #[.int .i64 0, .int .i64 1] 53
theorem Nt.low {w : World} {r g m t e : Nat} {u0 u1 : Value} {W W' : World} (h : Nt w r g m t e u0 u1 W) (hb : Below W.heap.size W W') : Nt w r g m t e u0 u1 W' :=
  ⟨h.below.trans (hb.mono h.below.size), h.le, h.r.below hb h.r.lt, h.near.below hb h.near.lt, h.map.below hb h.map.lt, h.tree.below hb h.tree.lt, h.edge.below hb h.edge.lt⟩
theorem Nt.put0 {w : World} {r g m t e : Nat} {u0 u1 : Value} {W : World} (h : Nt w r g m t e u0 u1 W) (v : Value) : Nt w r g m t e v u1 (W.setCell ⟨g, 0, none⟩ v) := by
  obtain ⟨l0, l1, l2, l3, l4⟩ := h.le
  exact ⟨h.below.setCell (by show _ ≤ g; omega) _, h.le, h.r.other _ (by show r ≠ g; omega) _, h.near.set 0 v, h.map.setCell _ (by show m ≠ g; omega) _, h.tree.other _ (by show t ≠ g; omega) _, h.edge.other _ (by show e ≠ g; omega) _⟩
theorem Nt.put1 {w : World} {r g m t e : Nat} {u0 u1 : Value} {W : World} (h : Nt w r g m t e u0 u1 W) (v : Value) : Nt w r g m t e u0 v (W.setCell ⟨g, 1, none⟩ v) := by
  obtain ⟨l0, l1, l2, l3, l4⟩ := h.le
  exact ⟨h.below.setCell (by show _ ≤ g; omega) _, h.le, h.r.other _ (by show r ≠ g; omega) _, h.near.set 1 v, h.map.setCell _ (by show m ≠ g; omega) _, h.tree.other _ (by show t ≠ g; omega) _, h.edge.other _ (by show e ≠ g; omega) _⟩
theorem Nt.cells {w : World} {r g m t e : Nat} {u0 u1 : Value} {W : World} (h : Nt w r g m t e u0 u1 W) : W.cell? ⟨t, 0, none⟩ = some (.slice (some ⟨g, 0, none⟩) 2 2) ∧ W.cell? ⟨t, 1, none⟩ = some (.map (some m)) ∧ W.cell? ⟨e, 0, none⟩ = some (.int .i64 0) ∧ W.cell? ⟨e, 1, none⟩ = some (.int .i64 1) ∧ W.cell? ⟨g, 0, none⟩ = some u0 ∧ W.cell? ⟨g, 1, none⟩ = some u1 ∧ W.frozen? ⟨g, 0, none⟩ = false ∧ W.frozen? ⟨g, 1, none⟩ = false :=
  ⟨h.tree.cell 0, h.tree.cell 1, h.edge.cell 0, h.edge.cell 1, h.near.cell 0, h.near.cell 1, h.near.free 0, h.near.free 1⟩
theorem nt_result {w : World} {g m t e : Nat} {u0 u1 : Value} {X : World} (h : Nt w w.heap.size g m t e u0 u1 X) : (((X.setCell ⟨w.heap.size, 0, none⟩ (.slice (some ⟨g, 0, none⟩) 2 2)).setCell ⟨w.heap.size, 1, none⟩ (.map (some m))).cell? ⟨t, 0, none⟩ = some (.slice (some ⟨g, 0, none⟩) 2 2) ∧ ((X.setCell ⟨w.heap.size, 0, none⟩ (.slice (some ⟨g, 0, none⟩) 2 2)).setCell ⟨w.heap.size, 1, none⟩ (.map (some m))).cell? ⟨t, 1, none⟩ = some (.map (some m))) ∧
    Blk ((X.setCell ⟨w.heap.size, 0, none⟩ (.slice (some ⟨g, 0, none⟩) 2 2)).setCell ⟨w.heap.size, 1, none⟩ (.map (some m))) w.heap.size #[.slice (some ⟨g, 0, none⟩) 2 2, .map (some m)] 178 ∧
    Blk ((X.setCell ⟨w.heap.size, 0, none⟩ (.slice (some ⟨g, 0, none⟩) 2 2)).setCell ⟨w.heap.size, 1, none⟩ (.map (some m))) g #[u0, u1] 24 ∧
    MapIs enc2 ((X.setCell ⟨w.heap.size, 0, none⟩ (.slice (some ⟨g, 0, none⟩) 2 2)).setCell ⟨w.heap.size, 1, none⟩ (.map (some m))) m [] ∧
    Below w.heap.size w ((X.setCell ⟨w.heap.size, 0, none⟩ (.slice (some ⟨g, 0, none⟩) 2 2)).setCell ⟨w.heap.size, 1, none⟩ (.map (some m))) := by
  obtain ⟨l0, l1, l2, l3, l4⟩ := h.le
  have ht := (h.tree.other ⟨w.heap.size, 0, none⟩ (by show t ≠ w.heap.size; omega) (.slice (some ⟨g, 0, none⟩) 2 2)).other ⟨w.heap.size, 1, none⟩ (by show t ≠ w.heap.size; omega) (.map (some m))
  exact ⟨⟨ht.cell 0, ht.cell 1⟩, h.r.put2 _ _, (h.near.other ⟨w.heap.size, 0, none⟩ (by show g ≠ w.heap.size; omega) _).other ⟨w.heap.size, 1, none⟩ (by show g ≠ w.heap.size; omega) _,
    (h.map.setCell ⟨w.heap.size, 0, none⟩ (by show m ≠ w.heap.size; omega) _).setCell ⟨w.heap.size, 1, none⟩ (by show m ≠ w.heap.size; omega) _, (h.below.setCell (Nat.le_refl _) _).setCell (Nat.le_refl _) _⟩
theorem app0 (x : Value) (zs : Array Value) : (#[x] ++ zs)[0]? = some x := by rw [Array.getElem?_append_left (by simp)]; rfl
theorem blk_ne {W : World} {a b : Nat} {cs ds : Array Value} {t u : TypeId} (ha : Blk W a cs t) (hb : Blk W b ds u) (h : t ≠ u) : a ≠ b := by
  intro e
  subst e
  unfold Blk at ha hb
  rw [ha] at hb
  simp only [Option.some.injEq, Obj.cells.injEq] at hb
  exact h hb.2.1
theorem ints_far {X : World} {b r : Nat} {x : Int} {zs cs : Array Value} (hb : Blk X b (#[.int .i64 x] ++ zs) 3) (hr : Blk X r cs 178) (u v : Value) : Ints ((X.setCell ⟨r, 0, none⟩ u).setCell ⟨r, 1, none⟩ v) (some ⟨b, 0, none⟩) [x] := by
  have hne := blk_ne hb hr (by decide)
  have h := (hb.other ⟨r, 0, none⟩ hne u).other ⟨r, 1, none⟩ hne v
  refine .inr ⟨b, 0, rfl, h.lt, fun k w hw => ?_⟩
  cases k with
  | zero => rw [Nat.zero_add, h.cell 0, app0]; simpa using hw
  | succ k => simp at hw
theorem mk22_two (W : World) : (Instr.makeSlice 22 (.int .i64 2) (.int .i64 2)).run Tryz.prog W = .ok (.slice (some ⟨W.heap.size, 0, none⟩) 2 2) (W.alloc (.cells #[.slice none 0 0, .slice none 0 0] 24)) := by kernel_rfl

set_option maxRecDepth 100000 in
set_option maxHeartbeats 8000000 in
theorem newTree117 (pb : Nat) (w : World) (h : Blk w pb #[.int .i64 0, .int .i64 1] 53) : Calls Tryz.prog 117 #[.int .i64 2, .slice (some ⟨pb, 0, none⟩) 1 1] w fun e w' => ∃ g m a0 c0 a1 c1, e = .returned (.tuple #[.agg #[.slice (some ⟨g, 0, none⟩) 2 2, .map (some m)], .bool true]) ∧ w.heap.size ≤ g ∧ w.heap.size ≤ m ∧ g ≠ m ∧ Blk w' g #[.slice a0 1 c0, .slice a1 1 c1] 24 ∧ MapIs enc2 w' m [] ∧ Ints w' a0 [1] ∧ Ints w' a1 [0] ∧ Below w.heap.size w w' := by
  have hmm := @run_makeMap Tryz.prog
  have hmk := mk22_two
  obtain ⟨W0, hW0⟩ : ∃ W0, W0 = ((((w.alloc (.cells #[.slice none 0 0, .map none] 178)).alloc (.cells #[.slice none 0 0, .slice none 0 0] 24)).alloc (.map #[] 0)).alloc (.cells #[.slice (some ⟨w.heap.size + 1, 0, none⟩) 2 2, .map (some (w.heap.size + 1 + 1))] 178)).alloc (.cells #[.int .i64 0, .int .i64 1] 53) := ⟨_, rfl⟩
  have H0 : Nt w w.heap.size (w.heap.size + 1) (w.heap.size + 1 + 1) (w.heap.size + 1 + 1 + 1) (w.heap.size + 1 + 1 + 1 + 1) (.slice none 0 0) (.slice none 0 0) W0 := by
    rw [hW0]
    refine ⟨(((((Below.refl _ w).alloc (Nat.le_refl _) _).alloc (by simp) _).alloc (by simp; omega) _).alloc (by simp; omega) _).alloc (by simp; omega) _, by omega, ((((Blk.new w _ _).alloc _).alloc _).alloc _).alloc _, (((Blk.mk' (by simp) rfl).alloc _).alloc _).alloc _, ?_, (Blk.mk' (by simp) rfl).alloc _, Blk.mk' (by simp) rfl⟩
    have := MapIs.made (enc := enc2) ((w.alloc (.cells #[.slice none 0 0, .map none] 178)).alloc (.cells #[.slice none 0 0, .slice none 0 0] 24))
    have := (this.alloc (.cells #[.slice (some ⟨w.heap.size + 1, 0, none⟩) 2 2, .map (some (w.heap.size + 1 + 1))] 178)).alloc (.cells #[.int .i64 0, .int .i64 1] 53)
    simpa using this
  have q0 := h.cell 0
  have q1 := h.cell 1
  have qq0 : ∀ W, Below w.heap.size w W → W.cell? ⟨pb, 0, none⟩ = some (.int .i64 0) ∧ W.cell? ⟨pb, 1, none⟩ = some (.int .i64 1) := fun W hW => ⟨(h.below hW h.lt).cell 0, (h.below hW h.lt).cell 1⟩
  obtain ⟨q2, q3⟩ := qq0 ((((w.alloc (.cells #[.slice none 0 0, .map none] 178)).alloc (.cells #[.slice none 0 0, .slice none 0 0] 24)).alloc (.map #[] 0)).alloc (.cells #[.slice (some ⟨w.heap.size + 1, 0, none⟩) 2 2, .map (some (w.heap.size + 1 + 1))] 178)) (((((Below.refl _ w).alloc (Nat.le_refl _) _).alloc (by simp) _).alloc (by simp; omega) _).alloc (by simp; omega) _)
  have HH := hid H0
  clear h H0 qq0
  go_enter Tryz.func117, Tryz.ntmps117
  go_wp2_with fail
  refine (within118_yes _ _ _ _ (by simp) (by simp)).mono ?_
  rintro e w1 ⟨rfl, rfl⟩
  go_wp2_with fail
  refine wp_loop_rounds 2 ?_
  rw [rounds_succ]
  go_wp2_with fail
  rw [← hW0]
  clear hW0 q2 q3 q0 q1
  generalize w.heap.size + 1 + 1 + 1 + 1 = e at *
  generalize w.heap.size + 1 + 1 + 1 = t at *
  generalize w.heap.size + 1 + 1 = m at *
  generalize w.heap.size + 1 = g at *
  obtain ⟨z1, z2, z3, z4, z5, z6, z7, z8⟩ := HH.out.cells
  refine (within118_yes 0 0 1 _ (by omega) (by omega)).mono ?_
  rintro e1 w1 ⟨rfl, rfl⟩
  go_wp2_with fail
  refine (within118_yes 1 0 1 _ (by omega) (by omega)).mono ?_
  rintro e1 w1 ⟨rfl, rfl⟩
  go_wp2_with fail
  go_cut [] (fun W' => ∃ b1 c, Hid (Nt w w.heap.size g m t e (.slice (some ⟨b1, 0, none⟩) 1 c) (.slice none 0 0) W' ∧ Blk W' b1 (#[.int .i64 1] ++ Builtin.zeroCells #[.int .i64 0] (c - 1)) 3))
  case first =>
    have SS := hid (show ∀ X, Below W0.heap.size W0 X → Nt w w.heap.size g m t e (.slice none 0 0) (.slice none 0 0) X from fun X hX => HH.out.low hX)
    have S1 := (SS.out W0.drew (Below.refl _ W0).drew).cells
    have S2 := (SS.out (W0.alloc (.cells #[.int .i64 1] 3)) ((Below.refl _ W0).alloc (Nat.le_refl _) _)).cells
    obtain ⟨x1, -, x3, x4, x5, -, -, -⟩ := S2
    clear S1 z2 z6 z7 z8
    have n0 := (Blk.new W0 #[.int .i64 1] 3).cell 0
    have hnc : ¬ 281474976710656 < Builtin.nextslicecap 1 0 * Tryz.t3.bytes := by decide
    obtain ⟨c, hc⟩ : ∃ c, c = (Question.appendCap 1 0 3).cut (W0.tape (W0.drawn + 1) (Question.appendCap 1 0 3)) := ⟨_, rfl⟩
    have hX3 : Below W0.heap.size W0 ((W0.alloc (.cells #[.int .i64 1] 3)).alloc (.cells (#[.int .i64 1] ++ Builtin.zeroCells #[.int .i64 0] ((Question.appendCap 1 0 3).cut (W0.tape (W0.drawn + 1) (Question.appendCap 1 0 3)) - 1)) 3)) := (((Below.refl _ W0).alloc (Nat.le_refl _) _).alloc (by simp) _)
    have H3 := hid (SS.out _ hX3)
    obtain ⟨y1, -, y3, -, y5, -, y7, -⟩ := H3.out.cells
    have HC := hid hc
    clear hX3 hc
    go_region
    all_goals (go_wp2_with fail)
    go_meet
    rw [← HC.out]
    have hb1 : Below W0.heap.size W0 (((W0.alloc (.cells #[.int .i64 1] 3)).alloc (.cells (#[.int .i64 1] ++ Builtin.zeroCells #[.int .i64 0] (c - 1)) 3)).setCell ⟨g, 0, none⟩ (.slice (some ⟨W0.heap.size + 1, 0, none⟩) 1 c)).drew.drew → True := fun _ => trivial
    have N1 := (H3.out.put0 (.slice (some ⟨W0.heap.size + 1, 0, none⟩) 1 c))
    rw [← HC.out] at N1
    have N1' : Nt w w.heap.size g m t e (.slice (some ⟨W0.heap.size + 1, 0, none⟩) 1 c) (.slice none 0 0) (((W0.alloc (.cells #[.int .i64 1] 3)).alloc (.cells (#[.int .i64 1] ++ Builtin.zeroCells #[.int .i64 0] (c - 1)) 3)).setCell ⟨g, 0, none⟩ (.slice (some ⟨W0.heap.size + 1, 0, none⟩) 1 c)).drew.drew := ⟨N1.below.drew.drew, N1.le, N1.r, N1.near, N1.map, N1.tree, N1.edge⟩
    have hgl : g < W0.heap.size := HH.out.near.lt
    have B1 : Blk (((W0.alloc (.cells #[.int .i64 1] 3)).alloc (.cells (#[.int .i64 1] ++ Builtin.zeroCells #[.int .i64 0] (c - 1)) 3)).setCell ⟨g, 0, none⟩ (.slice (some ⟨W0.heap.size + 1, 0, none⟩) 1 c)).drew.drew (W0.heap.size + 1) (#[.int .i64 1] ++ Builtin.zeroCells #[.int .i64 0] (c - 1)) 3 := (Blk.mk' (by simp) rfl : Blk _ (W0.heap.size + 1) _ 3).other ⟨g, 0, none⟩ (by show W0.heap.size + 1 ≠ g; omega) _
    clear N1 hb1 H3 y1 y3 y5 y7 x1 x3 x4 x5 n0 SS HC z1 z3 z4 z5
    exact ⟨W0.heap.size + 1, c, hid ⟨N1', B1⟩⟩
  case rest =>
    obtain ⟨b1, c, HCUT⟩ := hcut
    clear z1 z2 z3 z4 z5 z6 z7 z8
    obtain ⟨W1, hW1⟩ : ∃ W1, W1 = wc := ⟨_, rfl⟩
    rw [← hW1] at HCUT ⊢
    clear hW1
    obtain ⟨N1', B1⟩ := HCUT.out
    have hnc : ¬ 281474976710656 < Builtin.nextslicecap 1 0 * Tryz.t3.bytes := by decide
    have SS := hid (show ∀ X, Below W1.heap.size W1 X → Nt w w.heap.size g m t e (.slice (some ⟨b1, 0, none⟩) 1 c) (.slice none 0 0) X ∧ Blk X b1 (#[.int .i64 1] ++ Builtin.zeroCells #[.int .i64 0] (c - 1)) 3 from fun X hX => ⟨N1'.low hX, B1.below hX B1.lt⟩)
    obtain ⟨z1, -, z3, z4, -, z6, -, -⟩ := N1'.cells
    obtain ⟨x1, -, x3, x4, -, x6, -, -⟩ := (SS.out (W1.alloc (.cells #[.int .i64 0] 3)) ((Below.refl _ W1).alloc (Nat.le_refl _) _)).1.cells
    have n0 := (Blk.new W1 #[.int .i64 0] 3).cell 0
    obtain ⟨d, hd⟩ : ∃ d, d = (Question.appendCap 1 0 3).cut (W1.tape (W1.drawn + 1) (Question.appendCap 1 0 3)) := ⟨_, rfl⟩
    have hX3 : Below W1.heap.size W1 ((W1.alloc (.cells #[.int .i64 0] 3)).alloc (.cells (#[.int .i64 0] ++ Builtin.zeroCells #[.int .i64 0] ((Question.appendCap 1 0 3).cut (W1.tape (W1.drawn + 1) (Question.appendCap 1 0 3)) - 1)) 3)) := (((Below.refl _ W1).alloc (Nat.le_refl _) _).alloc (by simp) _)
    have H3 := hid (SS.out _ hX3)
    obtain ⟨y1, -, -, y4, -, y6, -, y8⟩ := H3.out.1.cells
    have HGL := hid (show g < W1.heap.size ∧ b1 ≠ g from ⟨N1'.near.lt, fun e => by
      have h1 := N1'.near
      have h2 := B1
      rw [e] at h2
      unfold Blk at h1 h2
      rw [h1] at h2
      simp at h2⟩)
    have HD := hid hd
    clear N1' B1 hX3 hd
    go_wp2_with fail
    go_region
    rw [← HD.out]
    have N2 := (H3.out.1.put1 (.slice (some ⟨W1.heap.size + 1, 0, none⟩) 1 d))
    rw [← HD.out] at N2
    have N2' : Nt w w.heap.size g m t e (.slice (some ⟨b1, 0, none⟩) 1 c) (.slice (some ⟨W1.heap.size + 1, 0, none⟩) 1 d) (((W1.alloc (.cells #[.int .i64 0] 3)).alloc (.cells (#[.int .i64 0] ++ Builtin.zeroCells #[.int .i64 0] (d - 1)) 3)).setCell ⟨g, 1, none⟩ (.slice (some ⟨W1.heap.size + 1, 0, none⟩) 1 d)).drew.drew := ⟨N2.below.drew.drew, N2.le, N2.r, N2.near, N2.map, N2.tree, N2.edge⟩
    have hgl := HGL.out.1
    have hgb := HGL.out.2
    have B2 : Blk (((W1.alloc (.cells #[.int .i64 0] 3)).alloc (.cells (#[.int .i64 0] ++ Builtin.zeroCells #[.int .i64 0] (d - 1)) 3)).setCell ⟨g, 1, none⟩ (.slice (some ⟨W1.heap.size + 1, 0, none⟩) 1 d)).drew.drew (W1.heap.size + 1) (#[.int .i64 0] ++ Builtin.zeroCells #[.int .i64 0] (d - 1)) 3 := (Blk.mk' (by simp) rfl : Blk _ (W1.heap.size + 1) _ 3).other ⟨g, 1, none⟩ (by show W1.heap.size + 1 ≠ g; omega) _
    have B1' : Blk (((W1.alloc (.cells #[.int .i64 0] 3)).alloc (.cells (#[.int .i64 0] ++ Builtin.zeroCells #[.int .i64 0] (d - 1)) 3)).setCell ⟨g, 1, none⟩ (.slice (some ⟨W1.heap.size + 1, 0, none⟩) 1 d)).drew.drew b1 (#[.int .i64 1] ++ Builtin.zeroCells #[.int .i64 0] (c - 1)) 3 := by
      have := H3.out.2
      rw [← HD.out] at this
      exact this.other ⟨g, 1, none⟩ (by show b1 ≠ g; exact hgb) _
    clear N2 H3 HD HGL y1 y4 y6 y8 x1 x3 x4 x6 n0 SS z1 z3 z4 z6 hgl hgb hnc
    generalize (((W1.alloc (.cells #[.int .i64 0] 3)).alloc (.cells (#[.int .i64 0] ++ Builtin.zeroCells #[.int .i64 0] (d - 1)) 3)).setCell ⟨g, 1, none⟩ (.slice (some ⟨W1.heap.size + 1, 0, none⟩) 1 d)).drew.drew = W2 at N2' B1' B2 ⊢
    generalize W1.heap.size + 1 = b2 at N2' B1' B2 ⊢
    have hi0 : Ints W2 (some ⟨b1, 0, none⟩) [1] := .inr ⟨b1, 0, rfl, B1'.lt, fun k u hu => by
      cases k with
      | zero => rw [Nat.zero_add, B1'.cell 0, app0]; simpa using hu
      | succ k => simp at hu⟩
    have hi1 : Ints W2 (some ⟨b2, 0, none⟩) [0] := .inr ⟨b2, 0, rfl, B2.lt, fun k u hu => by
      cases k with
      | zero => rw [Nat.zero_add, B2.cell 0, app0]; simpa using hu
      | succ k => simp at hu⟩
    have CF := hid (far141 g m (some ⟨b1, 0, none⟩) (some ⟨b2, 0, none⟩) c d W2.drew N2'.near hi0 hi1)
    have AF := hid (show ∀ X, Below W2.heap.size W2 X → (X.cell? ⟨t, 0, none⟩ = some (.slice (some ⟨g, 0, none⟩) 2 2) ∧ X.cell? ⟨t, 1, none⟩ = some (.map (some m))) ∧ Nt w w.heap.size g m t e (.slice (some ⟨b1, 0, none⟩) 1 c) (.slice (some ⟨b2, 0, none⟩) 1 d) X ∧ Blk X b1 (#[.int .i64 1] ++ Builtin.zeroCells #[.int .i64 0] (c - 1)) 3 ∧ Blk X b2 (#[.int .i64 0] ++ Builtin.zeroCells #[.int .i64 0] (d - 1)) 3 from fun X hX =>
      ⟨⟨(N2'.low hX).tree.cell 0, (N2'.low hX).tree.cell 1⟩, N2'.low hX, B1'.below hX B1'.lt, B2.below hX B2.lt⟩)
    have S7 := (AF.out W2.drew (Below.refl _ W2).drew).1
    clear N2' B1' B2 hi0 hi1
    go_wp2_with fail
    rw [rounds_succ]
    go_wp2_with fail
    go_region_held3 (fun X => X.cell? ⟨t, 0, none⟩ = some (.slice (some ⟨g, 0, none⟩) 2 2) ∧ X.cell? ⟨t, 1, none⟩ = some (.map (some m))) (first | exact S7 | exact S8 | exact S9 | go_keep) (first
      | (go_at_call 141; refine CF.out.mono ?_; rintro e8 w8 ⟨a8, c8, rfl, hi8, hb8⟩; have HA := hid (AF.out w8 ((Below.refl W2.heap.size W2).drew.trans hb8)); have S8 := HA.out.1; obtain ⟨r0, r1, rf0, rf1⟩ := HA.out.2.1.r.two; have CN := hid (show Calls Tryz.prog 87 #[.slice a8 2 c8, .int .i64 (-1)] w8 fun e w' => e = .returned (.bool false) ∧ w8 = w' from contains87_no a8 c8 [0, 1] (-1) w8 hi8 (by simp) (by decide)); have HT9 := hid (nt_result HA.out.2.1); have S9 := HT9.out.1; clear hi8 hb8)
      | (go_at_call 87; refine CN.out.mono ?_; rintro e9 w9 ⟨rfl, rfl⟩))
    obtain ⟨-, hr, hn, hmp, hbl⟩ := HT9.out
    have hi0 : Ints ((w8.setCell ⟨w.heap.size, 0, none⟩ (.slice (some ⟨g, 0, none⟩) 2 2)).setCell ⟨w.heap.size, 1, none⟩ (.map (some m))) (some ⟨b1, 0, none⟩) [1] := ints_far HA.out.2.2.1 HA.out.2.1.r _ _
    have hi1 : Ints ((w8.setCell ⟨w.heap.size, 0, none⟩ (.slice (some ⟨g, 0, none⟩) 2 2)).setCell ⟨w.heap.size, 1, none⟩ (.map (some m))) (some ⟨b2, 0, none⟩) [0] := ints_far HA.out.2.2.2 HA.out.2.1.r _ _
    have HF := hid (And.intro hn (And.intro hmp (And.intro hi0 (And.intro hi1 hbl))))
    have hle := HA.out.2.1.le
    clear hn hmp hbl hi0 hi1 S7 S8 S9 r0 r1 rf0 rf1
    go_wp2_with fail
    obtain ⟨r0, r1, rf0, rf1⟩ := hr.two
    exact bodyPost_ret (v := .tuple #[.agg #[.slice (some ⟨g, 0, none⟩) 2 2, .map (some m)], .bool true]) (by simp [results, Tryz.results117, go_sem, r0, r1]) rfl ⟨g, m, _, _, _, _, rfl, by omega, by omega, by omega, HF.out.1, HF.out.2.1, HF.out.2.2.1, HF.out.2.2.2.1, HF.out.2.2.2.2⟩

end Go.Proofs.YtkmpdcckgibkhaaGreat
