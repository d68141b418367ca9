/-
  Walks: the best tour of two stops.
-/
import Derived.Test.YtkmpdcckgibkhaaGreatWb
namespace Go.Proofs.YtkmpdcckgibkhaaGreat
open Go.RowKit Go.ChangeMaps

set_option maxRecDepth 100000 in
set_option maxHeartbeats 8000000 in
theorem best80 (g : Nat) (w : World) (h : Mi w g) : Calls Tryz.prog 80 #[.slice (some ⟨g + 2, 0, none⟩) 2 2] w fun e w' => ∃ a c, e = .returned (.tuple #[.slice a 2 c, .int .i64 6, .int .i64 0]) ∧ Ints w' a [0, 1] ∧ Below w.heap.size w w' := by
  have hmm := @run_makeMap Tryz.prog
  obtain ⟨W0, hW0⟩ : ∃ W0, W0 = ((w.alloc (.map #[] 0)).alloc (.cells #[.int .i64 0, .int .i64 2] 173)).alloc (.cells #[.int .i64 0] 3) := ⟨_, rfl⟩
  obtain ⟨s, hs⟩ : ∃ s, s = w.heap.size := ⟨_, rfl⟩
  have hB : Below s w W0 := by rw [hW0, hs]; exact (((Below.refl _ w).alloc (Nat.le_refl _) _).alloc (by simp) _).alloc (by simp; omega) _
  have M0 : MapIs enc2 W0 s [] := by rw [hW0, hs]; exact ((MapIs.made w).alloc _).alloc _
  have K0 : Blk W0 (s + 1) #[.int .i64 0, .int .i64 2] 173 := by rw [hW0, hs]; exact (Blk.mk' (by simp) rfl).alloc _
  have T0 : Blk W0 (s + 2) #[.int .i64 0] 3 := by rw [hW0, hs]; exact Blk.mk' (by simp) rfl
  have h0 : Mi W0 g := h.below hB (by rw [hs]; exact h.t.lt)
  have hgs : g + 2 < s := by rw [hs]; exact h.t.lt
  have CI := hid (isMiles114 g w h)
  have C2 := hid (rest115_two g s W0 h0 M0 hgs)
  have H0 := hid (And.intro hB (And.intro M0 (And.intro K0 (And.intro T0 h0))))
  have k1 := K0.cell 1
  have k0 := K0.cell 0
  clear h hB M0 T0 h0
  have hbA : bits .andNot .i64 2 1 = 2 := by kernel_rfl
  have hbB : bits .andNot .i64 2 2 = 0 := by kernel_rfl
  go_enter Tryz.func80, Tryz.ntmps80
  go_wp2_with fail
  refine CI.out.mono ?_
  rintro e w1 ⟨rfl, rfl⟩
  go_wp2_with fail
  rw [← hs]
  refine wp_loop_rounds 2 ?_
  rw [rounds_succ]
  go_wp2_with fail
  rw [← hs, ← hW0]
  have hs' := hid hs
  clear hs
  refine C2.out.mono ?_
  rintro e W1 ⟨rfl, hg1⟩
  obtain ⟨hB, M0, K0, T0, h0⟩ := H0.out
  have h1 : Mi W1 g := ⟨(hg1.block g h0.a.lt (fun e => by simp only [Option.some.injEq] at e; omega)).trans h0.a, (hg1.block (g + 1) h0.b.lt (fun e => by simp only [Option.some.injEq] at e; omega)).trans h0.b, (hg1.block (g + 2) h0.t.lt (fun e => by simp only [Option.some.injEq] at e; omega)).trans h0.t⟩
  have K1 : Blk W1 (s + 1) #[.int .i64 0, .int .i64 2] 173 := (hg1.block (s + 1) K0.lt (fun e => by simp only [Option.some.injEq] at e; omega)).trans K0
  have T1 : Blk W1 (s + 2) #[.int .i64 0] 3 := (hg1.block (s + 2) T0.lt (fun e => by simp only [Option.some.injEq] at e; omega)).trans T0
  have hB1 : Below s w W1 := hB.grown hg1 (by rw [hs'.out]; exact hB.size) (fun k hk => by cases hk; exact Nat.le_refl _)
  clear k0 k1 hB M0 K0 T0 h0
  have k0 := K1.cell 0
  have k1 := K1.cell 1
  go_wp2_with fail
  refine wp_loop_rounds 3 ?_
  rw [rounds_succ]
  have P1 := K1.alloc (.cells #[.int .i64 0, .int .i64 0] 173)
  have p0 := P1.cell 0
  have p1 := P1.cell 1
  obtain ⟨n0, n1, nf0, nf1⟩ := (Blk.new W1 #[.int .i64 0, .int .i64 0] 173).two
  go_wp2_with fail
  go_region
  have hb2 : Below W1.heap.size W1 (W1.alloc (.cells #[.int .i64 0, .int .i64 2] 173)).drew := ((Below.refl _ W1).alloc (Nat.le_refl _) _).drew
  have N2 : Blk (W1.alloc (.cells #[.int .i64 0, .int .i64 2] 173)).drew W1.heap.size #[.int .i64 0, .int .i64 2] 173 := (Blk.new W1 _ _).drew
  have hsz2 : (W1.alloc (.cells #[.int .i64 0, .int .i64 2] 173)).drew.heap.size = W1.heap.size + 1 := by simp
  have h2 := h1.below hb2 h1.t.lt
  have K2 := K1.below hb2 K1.lt
  have T2 := T1.below hb2 T1.lt
  have hB2 : Below s w (W1.alloc (.cells #[.int .i64 0, .int .i64 2] 173)).drew := hB1.trans (hb2.mono (Nat.le_trans (Nat.le_of_lt (Nat.lt_of_le_of_lt (Nat.le_succ s) K1.lt)) (Nat.le_refl _)))
  generalize hW2 : (W1.alloc (.cells #[.int .i64 0, .int .i64 2] 173)).drew = W2 at *
  generalize hnb : W1.heap.size = nb at *
  clear hW2 hnb p0 p1 P1 n0 n1 nf0 nf1 k0 k1 hb2 h1 K1 T1 hB1
  have k0 := K2.cell 0
  have k1 := K2.cell 1
  obtain ⟨n0, n1, nf0, nf1⟩ := N2.two
  go_wp2_with fail
  go_region
  go_wp2_with fail
  rw [rounds_succ]
  clear n0 n1 nf0 nf1
  obtain ⟨W3, hW3⟩ : ∃ W3, W3 = W2.drew := ⟨_, rfl⟩
  have K3 : Blk W3 (s + 1) #[.int .i64 0, .int .i64 2] 173 := by rw [hW3]; exact K2
  have T3 : Blk W3 (s + 2) #[.int .i64 0] 3 := by rw [hW3]; exact T2
  have h3 : Mi W3 g := by rw [hW3]; exact ⟨h2.a, h2.b, h2.t⟩
  have hB3 : Below s w W3 := by rw [hW3]; exact hB2.drew
  rw [← hW3]
  clear hW3 K2 T2 h2 hB2 N2 k0 k1
  have P3 := K3.alloc (.cells #[.int .i64 0, .int .i64 0] 173)
  have k0 := K3.cell 0
  have k1 := K3.cell 1
  have p0 := P3.cell 0
  have p1 := P3.cell 1
  obtain ⟨n0, n1, nf0, nf1⟩ := (Blk.new W3 #[.int .i64 0, .int .i64 0] 173).two
  go_wp2_with fail
  go_region
  have hb4 : Below W3.heap.size W3 (W3.alloc (.cells #[.int .i64 1, .int .i64 0] 173)).drew := ((Below.refl _ W3).alloc (Nat.le_refl _) _).drew
  have N4 : Blk (W3.alloc (.cells #[.int .i64 1, .int .i64 0] 173)).drew W3.heap.size #[.int .i64 1, .int .i64 0] 173 := (Blk.new W3 _ _).drew
  have hs3 : s ≤ W3.heap.size := Nat.le_of_lt (Nat.lt_of_le_of_lt (Nat.le_succ s) K3.lt)
  have hs4 : s + 2 < W3.heap.size := T3.lt
  have h4 := h3.below hb4 h3.t.lt
  have K4 := K3.below hb4 K3.lt
  have T4 := T3.below hb4 T3.lt
  have hB4 : Below s w (W3.alloc (.cells #[.int .i64 1, .int .i64 0] 173)).drew := hB3.trans (hb4.mono hs3)
  generalize hW4 : (W3.alloc (.cells #[.int .i64 1, .int .i64 0] 173)).drew = W4 at *
  generalize hnb : W3.heap.size = n4 at *
  clear hW4 hnb p0 p1 P3 n0 n1 nf0 nf1 k0 k1 hb4 h3 K3 T3 hB3
  have S0 : ∀ X, Below W4.heap.size W4 X → (X.cell? ⟨g + 2, 0, none⟩ = some (.slice (some ⟨g, 0, none⟩) 2 2) ∧ X.cell? ⟨g, 1, none⟩ = some (.int .i64 3) ∧ X.cell? ⟨s + 1, 0, none⟩ = some (.int .i64 0) ∧ X.cell? ⟨s + 1, 1, none⟩ = some (.int .i64 2) ∧ X.cell? ⟨n4, 0, none⟩ = some (.int .i64 1) ∧ X.cell? ⟨n4, 1, none⟩ = some (.int .i64 0)) ∧ Mi X g ∧ Blk X (s + 1) #[.int .i64 0, .int .i64 2] 173 ∧ Blk X (s + 2) #[.int .i64 0] 3 ∧ Blk X n4 #[.int .i64 1, .int .i64 0] 173 ∧ Below s w X := fun X hX => by
    have a := h4.below hX h4.t.lt
    have k := K4.below hX K4.lt
    have n := N4.below hX N4.lt
    exact ⟨⟨a.t.cell 0, a.a.cell 1, k.cell 0, k.cell 1, n.cell 0, n.cell 1⟩, a, k, T4.below hX T4.lt, n, hB4.trans (hX.mono (by have := K4.lt; omega))⟩
  have SS := hid S0
  obtain ⟨t0, a1, k0, k1, n0, n1⟩ := (S0 W4 (Below.refl _ _)).1
  have S7 := (S0 W4.drew (Below.refl _ W4).drew).1
  have C := hid (rest115_one g s W4.drew (h4.below (Below.refl _ W4).drew h4.t.lt))
  have hw6 : IntKind.i64.wrap 6 = 6 := by rw [IntKind.wrap_i64]; omega
  clear S0 h4 K4 T4 N4 hB4
  go_wp2_with fail
  go_region_held3 (fun X => X.cell? ⟨g + 2, 0, none⟩ = some (.slice (some ⟨g, 0, none⟩) 2 2) ∧ X.cell? ⟨g, 1, none⟩ = some (.int .i64 3) ∧ X.cell? ⟨s + 1, 0, none⟩ = some (.int .i64 0) ∧ X.cell? ⟨s + 1, 1, none⟩ = some (.int .i64 2) ∧ X.cell? ⟨n4, 0, none⟩ = some (.int .i64 1) ∧ X.cell? ⟨n4, 1, none⟩ = some (.int .i64 0)) (first | exact S7 | exact S8 | go_keep) (first | (go_at_call 115; refine C.out.mono ?_; rintro e w8 ⟨rfl, hb8⟩; have S8 := (SS.out w8 ((Below.refl W4.heap.size W4).drew.trans hb8)).1))
  have hb9 := ((Below.refl W4.heap.size W4).drew.trans hb8)
  obtain ⟨-, h8, K8, T8, N8, hB8⟩ := SS.out w8 hb9
  clear S7 S8 t0 a1 k0 k1 n0 n1 hb8 hb9
  obtain ⟨n0, n1, -, -⟩ := N8.two
  obtain ⟨k0, k1, kf0, kf1⟩ := K8.two
  have K9 := K8.put2 (.int .i64 1) (.int .i64 0)
  have T9 := (T8.other ⟨s + 1, 0, none⟩ (by show s + 2 ≠ s + 1; omega) (.int .i64 1)).other ⟨s + 1, 1, none⟩ (by show s + 2 ≠ s + 1; omega) (.int .i64 0)
  have h9 : Mi ((w8.setCell ⟨s + 1, 0, none⟩ (.int .i64 1)).setCell ⟨s + 1, 1, none⟩ (.int .i64 0)) g := ⟨(h8.a.other ⟨s + 1, 0, none⟩ (by show g ≠ s + 1; omega) (.int .i64 1)).other ⟨s + 1, 1, none⟩ (by show g ≠ s + 1; omega) (.int .i64 0), (h8.b.other ⟨s + 1, 0, none⟩ (by show g + 1 ≠ s + 1; omega) (.int .i64 1)).other ⟨s + 1, 1, none⟩ (by show g + 1 ≠ s + 1; omega) (.int .i64 0), (h8.t.other ⟨s + 1, 0, none⟩ (by show g + 2 ≠ s + 1; omega) (.int .i64 1)).other ⟨s + 1, 1, none⟩ (by show g + 2 ≠ s + 1; omega) (.int .i64 0)⟩
  have hB9 : Below s w ((w8.setCell ⟨s + 1, 0, none⟩ (.int .i64 1)).setCell ⟨s + 1, 1, none⟩ (.int .i64 0)) := (hB8.setCell (by show s ≤ s + 1; omega) _).setCell (by show s ≤ s + 1; omega) _
  have hown : ((w8.setCell ⟨s + 1, 0, none⟩ (.int .i64 1)).setCell ⟨s + 1, 1, none⟩ (.int .i64 0)).ownsRow (s + 2) 3 1 (.slice (some ⟨s + 1 + 1, 0, none⟩) 1 1) 1 [.int .i64 0] := ⟨rfl, .inr ⟨s + 1 + 1, 1, #[.int .i64 0], rfl, Nat.le_refl _, T9, Nat.le_refl _, by decide, rfl, rfl⟩⟩
  have hx1 : s + 2 ≤ (((w8.setCell ⟨s + 1, 0, none⟩ (.int .i64 1)).setCell ⟨s + 1, 1, none⟩ (.int .i64 0)).alloc (.cells #[.int .i64 1] 3)).heap.size := by have := T9.lt; simp; simp at this; omega
  have hv := vals_new ((w8.setCell ⟨s + 1, 0, none⟩ (.int .i64 1)).setCell ⟨s + 1, 1, none⟩ (.int .i64 0)) #[.int .i64 1] 3 [.int .i64 1] rfl
  rw [show ((w8.setCell ⟨s + 1, 0, none⟩ (.int .i64 1)).setCell ⟨s + 1, 1, none⟩ (.int .i64 0)).heap.size = w8.heap.size by simp] at hv
  have H9 := hid (And.intro K9 (And.intro T9 (And.intro h9 hB9)))
  clear K9 T9 h9 hB9 K8 T8 N8 h8 hB8
  go_wp2_with (at_builtin; go_must (refine wpList_app _ rfl (.tmp 63) (.tmp 65) 24 rfl (s + 2) 3 (.int .i64 0) 8 Tryz.underlying24 info3 rfl _ 1 _ rfl (hown.alloc _) (some ⟨w8.heap.size, 0, none⟩) 1 1 [.int .i64 1] rfl rfl hv (fun h => by cases h) (by simp [Value.oneCell']) (by omega) (by omega) hx1 ?_))
  intro v10 w10 hown10 hg10 _
  obtain ⟨K9, T9, h9, hB9⟩ := H9.out
  have hg10' : ((w8.setCell ⟨s + 1, 0, none⟩ (.int .i64 1)).setCell ⟨s + 1, 1, none⟩ (.int .i64 0)).grownBy w10 (some (s + 1 + 1)) := (grown_alloc _ _ _).trans hg10
  have K10 : Blk w10 (s + 1) #[.int .i64 1, .int .i64 0] 173 := (hg10'.block (s + 1) K9.lt (fun e => by simp only [Option.some.injEq] at e; omega)).trans K9
  have h10 : Mi w10 g := ⟨(hg10'.block g h9.a.lt (fun e => by simp only [Option.some.injEq] at e; omega)).trans h9.a, (hg10'.block (g + 1) h9.b.lt (fun e => by simp only [Option.some.injEq] at e; omega)).trans h9.b, (hg10'.block (g + 2) h9.t.lt (fun e => by simp only [Option.some.injEq] at e; omega)).trans h9.t⟩
  have hB10 : Below s w w10 := hB9.grown hg10' (by have := hB9.size; rw [hs'.out] at this ⊢; exact this) (fun k hk => by cases hk; omega)
  obtain ⟨a10, c10, rfl, hi10⟩ := ownsRow_ints (l := [0, 1]) hown10
  have H10 := hid (And.intro h10 (And.intro hB10 hi10))
  have k1 := K10.cell 1
  have k0 := K10.cell 0
  have CL := hid (length116 g a10 c10 w10 h10 hi10)
  clear hown10 hg10 hg10' hi10 h10 hB10 K10 K9 T9 h9 hB9 H9 hown hx1 hv n0 n1 kf0 kf1
  go_wp2_with fail
  rw [rounds_succ]
  go_wp2_with fail
  refine CL.out.mono ?_
  rintro e w11 ⟨rfl, hb11⟩
  have H11 := hid (And.intro (H10.out.2.1.trans (hb11.mono (show s ≤ w10.heap.size by have := H10.out.2.1.size; rw [hs'.out]; exact this))) (H10.out.2.2.below hb11 (Nat.le_refl _)))
  clear hb11 k0 k1
  go_wp2_with fail
  go_ret3
  exact ⟨a10, c10, rfl, H11.out.2, hs'.out ▸ H11.out.1⟩

end Go.Proofs.YtkmpdcckgibkhaaGreat
