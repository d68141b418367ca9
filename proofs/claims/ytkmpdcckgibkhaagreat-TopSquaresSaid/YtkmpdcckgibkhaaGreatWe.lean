/-
  Walks: how far the places are.
-/
import Derived.Test.YtkmpdcckgibkhaaGreatWc
namespace Go.Proofs.YtkmpdcckgibkhaaGreat
open Go.RowKit Go.ChangeMaps

set_option maxHeartbeats 400000 in
theorem index120 (a : Option Addr) (c : Nat) (r : List Int) (x : Int) (w : World) (hr : Ints w a r) (hl : r.length ≤ 1000000) (hx : ∀ y ∈ r, x ≠ y) :
    Calls Tryz.prog 120 #[.slice a r.length c, .int .i64 x] w fun e w' => e = .returned (.int .i64 (-1)) ∧ w = w' := by
  have HR := hid hr
  have HX := hid hx
  clear hr hx
  go_enter Tryz.func120, Tryz.ntmps120
  go_wp2
  go_loop [8] (fun i => ∃ k : Nat, k ≤ r.length ∧ i = .int .i64 k) (fun i => r.length - (intOf i).toNat)
  case atStart => exact ⟨0, by omega, rfl⟩
  case round =>
    obtain ⟨k, hk, rfl⟩ := hrel
    by_cases hlt : k < r.length
    · obtain ⟨y, hy, -⟩ := list_drop_cons r k hlt
      obtain ⟨g, o, rfl, hg, hcell⟩ := HR.out.at (by omega)
      have q1 := hcell k y hy
      have hxy : (x == y) = false := by simpa using HX.out y (List.mem_of_getElem? hy)
      clear hcell hy
      go_wp2
      go_round
      case rel => exact ⟨k + 1, by omega, by go_num⟩
      case measure => simp [intOf]; omega
    · go_wp2
      go_ret
      exact ⟨rfl, rfl⟩
theorem contains87_no (a : Option Addr) (c : Nat) (r : List Int) (x : Int) (w : World) (hr : Ints w a r) (hl : r.length ≤ 1000000) (hx : ∀ y ∈ r, x ≠ y) :
    Calls Tryz.prog 87 #[.slice a r.length c, .int .i64 x] w fun e w' => e = .returned (.bool false) ∧ w = w' := by
  have HI := hid (index120 a c r x w hr hl hx)
  clear hr hx
  go_enter Tryz.func87, Tryz.ntmps87
  go_wp2_with (go_at_call 120; refine HI.out.mono ?_; rintro e w1 ⟨rfl, rfl⟩)
  go_ret
  exact ⟨rfl, rfl⟩
theorem mk24_two (W : World) : (Instr.makeSlice 24 (.int .i64 2) (.int .i64 2)).run Tryz.prog W = .ok (.slice (some ⟨W.heap.size, 0, none⟩) 2 2) (W.alloc (.cells #[.int .i64 0, .int .i64 0] 3)) := by kernel_rfl

/-- The state of far: the tree's box, the distances. -/
structure Fs (w : World) (g m b o : Nat) (u0 u1 : Int) (X : World) : Prop where
  below : Below w.heap.size w X
  le : w.heap.size ≤ b ∧ b < o
  tree : Blk X b #[.slice (some ⟨g, 0, none⟩) 2 2, .map (some m)] 178
  out : Blk X o #[.int .i64 u0, .int .i64 u1] 3
theorem Fs.low {w : World} {g m b o : Nat} {u0 u1 : Int} {X X' : World} (h : Fs w g m b o u0 u1 X) (hb : Below X.heap.size X X') : Fs w g m b o u0 u1 X' :=
  ⟨h.below.trans (hb.mono h.below.size), h.le, h.tree.below hb h.tree.lt, h.out.below hb h.out.lt⟩
theorem Fs.put0 {w : World} {g m b o : Nat} {u0 u1 : Int} {X : World} (h : Fs w g m b o u0 u1 X) (v : Int) : Fs w g m b o v u1 (X.setCell ⟨o, 0, none⟩ (.int .i64 v)) := by
  obtain ⟨l0, l1⟩ := h.le
  exact ⟨h.below.setCell (by show _ ≤ o; omega) _, h.le, h.tree.other _ (by show b ≠ o; omega) _, h.out.set 0 _⟩
theorem Fs.put1 {w : World} {g m b o : Nat} {u0 u1 : Int} {X : World} (h : Fs w g m b o u0 u1 X) (v : Int) : Fs w g m b o u0 v (X.setCell ⟨o, 1, none⟩ (.int .i64 v)) := by
  obtain ⟨l0, l1⟩ := h.le
  exact ⟨h.below.setCell (by show _ ≤ o; omega) _, h.le, h.tree.other _ (by show b ≠ o; omega) _, h.out.set 1 _⟩

set_option maxRecDepth 100000 in
set_option maxHeartbeats 8000000 in
theorem far141 (g m : Nat) (a0 a1 : Option Addr) (c0 c1 : Nat) (w : World) (hg : Blk w g #[.slice a0 1 c0, .slice a1 1 c1] 24) (h0 : Ints w a0 [1]) (h1 : Ints w a1 [0]) :
    Calls Tryz.prog 141 #[.agg #[.slice (some ⟨g, 0, none⟩) 2 2, .map (some m)], .int .i64 0] w fun e w' => ∃ a c, e = .returned (.slice a 2 c) ∧ Ints w' a [0, 1] ∧ Below w.heap.size w w' := by
  have hmk := mk24_two
  obtain ⟨g0, o0, rfl, hg0, hc0⟩ := h0.at (by simp)
  obtain ⟨g1, o1, rfl, hg1, hc1⟩ := h1.at (by simp)
  have r0 : w.cell? ⟨g0, o0, none⟩ = some (.int .i64 1) := hc0 0 1 rfl
  have r1 : w.cell? ⟨g1, o1, none⟩ = some (.int .i64 0) := hc1 0 0 rfl
  have HR := hid (show ∀ X, Below w.heap.size w X → X.cell? ⟨g, 0, none⟩ = some (.slice (some ⟨g0, o0, none⟩) 1 c0) ∧ X.cell? ⟨g, 1, none⟩ = some (.slice (some ⟨g1, o1, none⟩) 1 c1) ∧ X.cell? ⟨g0, o0, none⟩ = some (.int .i64 1) ∧ X.cell? ⟨g1, o1, none⟩ = some (.int .i64 0) from fun X hX =>
    ⟨(hg.below hX hg.lt).cell 0, (hg.below hX hg.lt).cell 1, (hX.cell (p := ⟨g0, o0, none⟩) hg0).trans r0, (hX.cell (p := ⟨g1, o1, none⟩) hg1).trans r1⟩)
  obtain ⟨W0, hW0⟩ : ∃ W0, W0 = (w.alloc (.cells #[.slice (some ⟨g, 0, none⟩) 2 2, .map (some m)] 178)).alloc (.cells #[.int .i64 0, .int .i64 0] 3) := ⟨_, rfl⟩
  have H0 : Fs w g m w.heap.size (w.heap.size + 1) 0 0 W0 := by
    rw [hW0]
    exact ⟨((Below.refl _ w).alloc (Nat.le_refl _) _).alloc (by simp) _, by omega, (Blk.new w _ _).alloc _, Blk.mk' (by simp) rfl⟩
  have k0 := (Blk.new w #[.slice (some ⟨g, 0, none⟩) 2 2, .map (some m)] 178).cell 0
  clear hg h0 h1 hc0 hc1 r0 r1
  go_enter Tryz.func141, Tryz.ntmps141
  go_wp2_with fail
  rw [← hW0]
  clear k0 hW0
  generalize w.heap.size + 1 = o at *
  generalize hb : w.heap.size = b at *
  have p0 := H0.out.cell 0
  have p1 := H0.out.cell 1
  have p2 := H0.out.free 0
  have p3 := H0.out.free 1
  have HBE := hid hb
  clear hb
  refine wp_loop_rounds 3 ?_
  rw [rounds_succ]
  go_wp2_with fail
  have H1 := H0.put0 (-1)
  generalize W0.setCell ⟨o, 0, none⟩ (.int .i64 (-1)) = W1 at *
  clear p0 p1 p2 p3 H0
  have p0 := H1.out.cell 0
  have p1 := H1.out.cell 1
  have p2 := H1.out.free 0
  have p3 := H1.out.free 1
  rw [rounds_succ]
  go_wp2_with fail
  have H2 := H1.put1 (-1)
  generalize W1.setCell ⟨o, 1, none⟩ (.int .i64 (-1)) = W2 at *
  clear p0 p1 p2 p3 H1
  have p0 := H2.out.cell 0
  have p1 := H2.out.cell 1
  have p2 := H2.out.free 0
  have p3 := H2.out.free 1
  rw [rounds_succ]
  go_wp2_with fail
  have H3 := (H2.put0 0).low ((Below.refl _ _).alloc (Nat.le_refl _) (.cells #[.int .i64 0] 3))
  have Q3 := Blk.new (W2.setCell ⟨o, 0, none⟩ (.int .i64 0)) #[.int .i64 0] 3
  rw [show (W2.setCell ⟨o, 0, none⟩ (.int .i64 0)).heap.size = W2.heap.size by simp] at Q3
  generalize (W2.setCell ⟨o, 0, none⟩ (.int .i64 0)).alloc (.cells #[.int .i64 0] 3) = W3 at *
  have hqb : w.heap.size ≤ W2.heap.size := H2.below.size
  have HQB := hid hqb
  clear hqb
  generalize W2.heap.size = q at *
  clear p0 p1 p2 p3 H2
  have p0 := H3.out.cell 0
  have p1 := H3.out.cell 1
  have p2 := H3.out.free 0
  have p3 := H3.out.free 1
  have t0 := H3.tree.cell 0
  have t1 := H3.tree.cell 1
  have q0 := Q3.cell 0
  obtain ⟨n0, n1, n2, n3⟩ := HR.out W3 (by rw [← HBE.out]; exact H3.below)
  refine wp_loop_rounds 3 ?_
  rw [rounds_succ]
  go_wp2_with fail
  go_region
  go_wp2_with fail
  refine wp_loop_rounds 2 ?_
  rw [rounds_succ]
  obtain ⟨W4, hW4⟩ : ∃ W4, W4 = W3.drew := ⟨_, rfl⟩
  have H4 : Fs w g m b o (-1) (-1) W4 → True := fun _ => trivial
  have H4 : Fs w g m b o 0 (-1) W4 := by rw [hW4]; exact H3.low ((Below.refl _ W3).drew)
  have Q4 : Blk W4 q #[.int .i64 0] 3 := by rw [hW4]; exact Q3
  rw [← hW4]
  have HQO := hid (show q ≠ o from fun e => by
    have h1 := H3.out
    have h2 := Q3
    rw [e] at h2
    unfold Blk at h1 h2
    rw [h1] at h2
    simp at h2)
  clear hW4 H3 Q3 p0 p1 p2 p3 t0 t1 q0 n0 n1 n2 n3
  have p0 := H4.out.cell 0
  have p1 := H4.out.cell 1
  have p2 := H4.out.free 0
  have p3 := H4.out.free 1
  have q0 := Q4.cell 0
  obtain ⟨n0, n1, n2, n3⟩ := HR.out W4 (by rw [← HBE.out]; exact H4.below)
  have hw1 : IntKind.i64.wrap 1 = 1 := by rw [IntKind.wrap_i64]; omega
  have H5 := H4.put1 1
  have Q5 := Q4.other ⟨o, 1, none⟩ HQO.out (.int .i64 1)
  have hq5 := Q5.lt
  have hown : (W4.setCell ⟨o, 1, none⟩ (.int .i64 1)).ownsRow q 3 1 (.slice (some ⟨q, 0, none⟩) 1 1) 1 [.int .i64 0] := ⟨rfl, .inr ⟨q, 1, #[.int .i64 0], rfl, Nat.le_refl _, Q5, Nat.le_refl _, by decide, rfl, rfl⟩⟩
  have hv := vals_new (W4.setCell ⟨o, 1, none⟩ (.int .i64 1)) #[.int .i64 1] 3 [.int .i64 1] rfl
  rw [show (W4.setCell ⟨o, 1, none⟩ (.int .i64 1)).heap.size = W4.heap.size by simp] at hv hq5
  have hx1 : q ≤ ((W4.setCell ⟨o, 1, none⟩ (.int .i64 1)).alloc (.cells #[.int .i64 1] 3)).heap.size := by simp; omega
  go_wp2_with (at_builtin; go_must (refine wpList_app _ rfl (.tmp 64) (.tmp 66) 24 rfl q 3 (.int .i64 0) 8 Tryz.underlying24 info3 rfl _ 1 _ rfl (hown.alloc _) (some ⟨W4.heap.size, 0, none⟩) 1 1 [.int .i64 1] rfl rfl hv (fun h => by cases h) (by simp [Value.oneCell']) (by omega) (by omega) hx1 ?_))
  intro v6 w6 hown6 hg6 _
  have hg6' : (W4.setCell ⟨o, 1, none⟩ (.int .i64 1)).grownBy w6 (some q) := (grown_alloc _ _ _).trans hg6
  have H6 : Fs w g m b o 0 1 w6 := ⟨H5.below.grown hg6' H5.below.size (fun k hk => by cases hk; exact HQB.out), H5.le, (hg6'.block b H5.tree.lt (fun e => by
    have h1 := H5.tree
    have h2 := Q5
    rw [← Option.some.inj e] at h2
    unfold Blk at h1 h2
    rw [h1] at h2
    simp at h2)).trans H5.tree, (hg6'.block o H5.out.lt (fun e => HQO.out (Option.some.inj e).symm)).trans H5.out⟩
  obtain ⟨a6, c6, rfl, hi6⟩ := ownsRow_ints (l := [0, 1]) hown6
  obtain ⟨g6, o6, rfl, -, hc6⟩ := hi6.at (by simp)
  have e0 : w6.cell? ⟨g6, o6, none⟩ = some (.int .i64 0) := hc6 0 0 rfl
  have e1 : w6.cell? ⟨g6, o6 + 1, none⟩ = some (.int .i64 1) := hc6 1 1 rfl
  clear hown6 hg6 hg6' hi6 hc6 H5 Q5 hown hv hx1 hq5 p0 p1 p2 p3 q0 n0 n1 n2 n3 H4 Q4
  have p0 := H6.out.cell 0
  have p1 := H6.out.cell 1
  have t0 := H6.tree.cell 0
  have t1 := H6.tree.cell 1
  obtain ⟨n0, n1, n2, n3⟩ := HR.out w6 (by rw [← HBE.out]; exact H6.below)
  go_wp2_with fail
  rw [rounds_succ]
  go_wp2_with fail
  rw [rounds_succ]
  go_wp2_with fail
  go_region
  go_wp2_with fail
  refine wp_loop_rounds 2 ?_
  rw [rounds_succ]
  go_wp2_with fail
  rw [rounds_succ]
  go_wp2_with fail
  rw [rounds_succ]
  go_wp2_with fail
  go_ret
  refine ⟨_, _, rfl, .inr ⟨o, 0, rfl, H6.out.lt, fun k u hu => ?_⟩, H6.below.drew⟩
  show w6.cell? ⟨o, 0 + k, none⟩ = some u
  rw [Nat.zero_add, H6.out.cell k]
  simpa using hu

end Go.Proofs.YtkmpdcckgibkhaaGreat
