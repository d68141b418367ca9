/-
  Walks: how many rounds a place needs.
-/
import Derived.Test.YtkmpdcckgibkhaaGreatWg
namespace Go.Proofs.YtkmpdcckgibkhaaGreat
open Go.RowKit Go.ChangeMaps

/-- The tree, as it lies. -/
structure Tv (w : World) (g m : Nat) (a0 a1 : Option Addr) (c0 c1 : Nat) : Prop where
  near : Blk w g #[.slice a0 1 c0, .slice a1 1 c1] 24
  n0 : Ints w a0 [1]
  n1 : Ints w a1 [0]
theorem Tv.low {w w' : World} {g m : Nat} {a0 a1 : Option Addr} {c0 c1 : Nat} (h : Tv w g m a0 a1 c0 c1) (hb : Below w.heap.size w w') : Tv w' g m a0 a1 c0 c1 :=
  ⟨h.near.below hb h.near.lt, h.n0.below hb (Nat.le_refl _), h.n1.below hb (Nat.le_refl _)⟩

set_option maxRecDepth 100000 in
set_option maxHeartbeats 4000000 in
theorem time119_leaf (g m : Nat) (a0 a1 : Option Addr) (c0 c1 : Nat) (w : World) (h : Tv w g m a0 a1 c0 c1) (hm : MapIs enc2 w m []) :
    Calls Tryz.prog 119 #[.agg #[.slice (some ⟨g, 0, none⟩) 2 2, .map (some m)], .int .i64 0, .int .i64 1] w fun e w' => e = .returned (.int .i64 0) ∧ w.grownBy w' (some m) ∧ MapIs enc2 w' m [((0, 1), .int .i64 0)] := by
  obtain ⟨W0, hW0⟩ : ∃ W0, W0 = (w.alloc (.cells #[.slice (some ⟨g, 0, none⟩) 2 2, .map (some m)] 178)).alloc (.cells #[.int .i64 0, .int .i64 1] 53) := ⟨_, rfl⟩
  have hb : Below w.heap.size w ((w.alloc (.cells #[.slice (some ⟨g, 0, none⟩) 2 2, .map (some m)] 178)).alloc (.cells #[.int .i64 0, .int .i64 1] 53)) := ((Below.refl _ w).alloc (Nat.le_refl _) _).alloc (by simp) _
  have t0 : Blk ((w.alloc (.cells #[.slice (some ⟨g, 0, none⟩) 2 2, .map (some m)] 178)).alloc (.cells #[.int .i64 0, .int .i64 1] 53)) w.heap.size #[.slice (some ⟨g, 0, none⟩) 2 2, .map (some m)] 178 := (Blk.new w _ _).alloc _
  have k0 : Blk ((w.alloc (.cells #[.slice (some ⟨g, 0, none⟩) 2 2, .map (some m)] 178)).alloc (.cells #[.int .i64 0, .int .i64 1] 53)) (w.heap.size + 1) #[.int .i64 0, .int .i64 1] 53 := Blk.mk' (by simp) rfl
  have hm0 := (hm.alloc (.cells #[.slice (some ⟨g, 0, none⟩) 2 2, .map (some m)] 178)).alloc (.cells #[.int .i64 0, .int .i64 1] 53)
  have lk : (Instr.lookup 52 (.map (some m)) (.agg #[.int .i64 0, .int .i64 1]) true).run Tryz.prog ((w.alloc (.cells #[.slice (some ⟨g, 0, none⟩) 2 2, .map (some m)] 178)).alloc (.cells #[.int .i64 0, .int .i64 1] 53)) = .ok (.tuple #[.int .i64 0, .bool false]) _ := hm0.look kt53 Tryz.underlying52 (zero3 _) (0, 1) true
  have p0 := t0.cell 0
  have p1 := t0.cell 1
  have q0 := k0.cell 0
  have q1 := k0.cell 1
  have HH := hid (And.intro hb (And.intro t0 (And.intro k0 (And.intro hm0 (And.intro (h.low hb) hm.lt)))))
  clear hb t0 k0 hm0 h hm
  have HW := hid hW0
  clear hW0
  go_enter Tryz.func119, Tryz.ntmps119
  go_wp2_with fail
  rw [← HW.out] at HH ⊢
  clear p0 p1 q0 q1 lk
  refine (branches142_yes g m a0 a1 c0 c1 W0 HH.out.2.2.2.2.1.near HH.out.2.2.2.2.1.n0).mono ?_
  rintro e w1 ⟨a3, c3, rfl, -, hb1⟩
  obtain ⟨hb, t0, k0, hm0, hT, hml⟩ := HH.out
  have t1 := t0.below hb1 t0.lt
  have k1 := k0.below hb1 k0.lt
  have m1 := hm0.below hb1 hm0.lt
  obtain ⟨w9, hup, m9, o9, ho9⟩ := m1.store kt53 Tryz.underlying52 (0, 1) (.int .i64 0)
  have hup2 : (Instr.mapUpdate 52 (.map (some m)) (.agg #[.int .i64 0, .int .i64 1]) (.int .i64 0)).run Tryz.prog w1 = .ok () w9 := hup
  have lk9 : (Instr.lookup 52 (.map (some m)) (.agg #[.int .i64 0, .int .i64 1]) false).run Tryz.prog w9 = .ok (.int .i64 0) w9 := m9.look kt53 Tryz.underlying52 (zero3 _) (0, 1) false
  have t9 : Blk w9 w.heap.size #[.slice (some ⟨g, 0, none⟩) 2 2, .map (some m)] 178 := by rw [ho9]; exact (setBlock_other _ (by omega) _).trans t1
  have k9 : Blk w9 (w.heap.size + 1) #[.int .i64 0, .int .i64 1] 53 := by rw [ho9]; exact (setBlock_other _ (by omega) _).trans k1
  have p0 := t1.cell 0
  have p1 := t1.cell 1
  have q0 := k1.cell 0
  have q1 := k1.cell 1
  have r1 := t9.cell 1
  have s0 := k9.cell 0
  have s1 := k9.cell 1
  have HG := hid (show w.grownBy w9 (some m) from by
    have hbb := hb.trans (hb1.mono hb.size)
    exact (⟨hbb.os, hbb.tape, hbb.output, hbb.size, fun k hk _ => hbb.block k hk⟩ : w.grownBy w1 (some m)).trans (by rw [ho9]; exact grown_block _ _ _))
  have HM := hid (show MapIs enc2 w9 m [((0, 1), .int .i64 0)] from m9)
  clear hb t0 k0 hm0 hT hb1 t1 k1 m1 m9 hup ho9 t9 k9
  go_wp2_with fail
  refine wp_loop_rounds 1 ?_
  rw [rounds_succ]
  go_wp2_with fail
  go_ret
  exact ⟨rfl, HG.out, HM.out⟩

set_option maxRecDepth 100000 in
set_option maxHeartbeats 4000000 in
theorem time119_top (g m : Nat) (a0 a1 : Option Addr) (c0 c1 : Nat) (w : World) (h : Tv w g m a0 a1 c0 c1) (_hgm : g ≠ m) (hm : MapIs enc2 w m []) :
    Calls Tryz.prog 119 #[.agg #[.slice (some ⟨g, 0, none⟩) 2 2, .map (some m)], .int .i64 1, .int .i64 (-1)] w fun e w' => e = .returned (.int .i64 1) ∧ w.grownBy w' (some m) := by
  obtain ⟨W0, hW0⟩ : ∃ W0, W0 = (w.alloc (.cells #[.slice (some ⟨g, 0, none⟩) 2 2, .map (some m)] 178)).alloc (.cells #[.int .i64 1, .int .i64 (-1)] 53) := ⟨_, rfl⟩
  have hb : Below w.heap.size w ((w.alloc (.cells #[.slice (some ⟨g, 0, none⟩) 2 2, .map (some m)] 178)).alloc (.cells #[.int .i64 1, .int .i64 (-1)] 53)) := ((Below.refl _ w).alloc (Nat.le_refl _) _).alloc (by simp) _
  have t0 : Blk ((w.alloc (.cells #[.slice (some ⟨g, 0, none⟩) 2 2, .map (some m)] 178)).alloc (.cells #[.int .i64 1, .int .i64 (-1)] 53)) w.heap.size #[.slice (some ⟨g, 0, none⟩) 2 2, .map (some m)] 178 := (Blk.new w _ _).alloc _
  have k0 : Blk ((w.alloc (.cells #[.slice (some ⟨g, 0, none⟩) 2 2, .map (some m)] 178)).alloc (.cells #[.int .i64 1, .int .i64 (-1)] 53)) (w.heap.size + 1) #[.int .i64 1, .int .i64 (-1)] 53 := Blk.mk' (by simp) rfl
  have hm0 := (hm.alloc (.cells #[.slice (some ⟨g, 0, none⟩) 2 2, .map (some m)] 178)).alloc (.cells #[.int .i64 1, .int .i64 (-1)] 53)
  have lk : (Instr.lookup 52 (.map (some m)) (.agg #[.int .i64 1, .int .i64 (-1)]) true).run Tryz.prog ((w.alloc (.cells #[.slice (some ⟨g, 0, none⟩) 2 2, .map (some m)] 178)).alloc (.cells #[.int .i64 1, .int .i64 (-1)] 53)) = .ok (.tuple #[.int .i64 0, .bool false]) _ := hm0.look kt53 Tryz.underlying52 (zero3 _) (1, -1) true
  have p0 := t0.cell 0
  have p1 := t0.cell 1
  have q0 := k0.cell 0
  have q1 := k0.cell 1
  have HH := hid (And.intro hb (And.intro t0 (And.intro k0 (And.intro hm0 (And.intro (h.low hb) (And.intro hm.lt h.near.lt))))))
  clear hb t0 k0 hm0 h hm
  have HW := hid hW0
  clear hW0
  go_enter Tryz.func119, Tryz.ntmps119
  go_wp2_with fail
  rw [← HW.out] at HH ⊢
  clear p0 p1 q0 q1 lk
  refine (branches142_no g m a0 a1 c0 c1 W0 HH.out.2.2.2.2.1.near HH.out.2.2.2.2.1.n1).mono ?_
  rintro e w1 ⟨a3, c3, rfl, hi3, hb1⟩
  obtain ⟨hb, t0, k0, hm0, hT, hml, hgl⟩ := HH.out
  have t1 := t0.below hb1 t0.lt
  have k1 := k0.below hb1 k0.lt
  have m1 := hm0.below hb1 hm0.lt
  obtain ⟨g3, o3, rfl, hg3, hc3⟩ := hi3.at (by simp)
  have i0 : w1.cell? ⟨g3, o3, none⟩ = some (.int .i64 0) := hc3 0 0 rfl
  have CT := hid (time119_leaf g m a0 a1 c0 c1 w1 (hT.low hb1) m1)
  have p0 := t1.cell 0
  have p1 := t1.cell 1
  have hbb := hb.trans (hb1.mono hb.size)
  have H1 := hid (And.intro hbb (And.intro t1 (And.intro k1 (And.intro hml hgl))))
  have hmax : max (0 : Int) 1 = 1 := by decide
  have hw1 : IntKind.i64.wrap 1 = 1 := by rw [IntKind.wrap_i64]; omega
  clear hb t0 k0 hm0 hT hb1 t1 k1 m1 hi3 hc3 hbb
  go_wp2_with fail
  refine wp_loop_rounds 2 ?_
  rw [rounds_succ]
  go_wp2_with fail
  refine CT.out.mono ?_
  rintro e w2 ⟨rfl, hg2, m2⟩
  obtain ⟨hbb, t1, k1, hml, hgl⟩ := H1.out
  have t2 : Blk w2 w.heap.size #[.slice (some ⟨g, 0, none⟩) 2 2, .map (some m)] 178 := (hg2.block w.heap.size t1.lt (fun e => by simp only [Option.some.injEq] at e; omega)).trans t1
  have k2 : Blk w2 (w.heap.size + 1) #[.int .i64 1, .int .i64 (-1)] 53 := (hg2.block (w.heap.size + 1) k1.lt (fun e => by simp only [Option.some.injEq] at e; omega)).trans k1
  obtain ⟨w9, hup, m9, o9, ho9⟩ := m2.store kt53 Tryz.underlying52 (1, -1) (.int .i64 1)
  have hup2 : (Instr.mapUpdate 52 (.map (some m)) (.agg #[.int .i64 1, .int .i64 (-1)]) (.int .i64 1)).run Tryz.prog w2 = .ok () w9 := hup
  have lk9 : (Instr.lookup 52 (.map (some m)) (.agg #[.int .i64 1, .int .i64 (-1)]) false).run Tryz.prog w9 = .ok (.int .i64 1) w9 := m9.look kt53 Tryz.underlying52 (zero3 _) (1, -1) false
  have t9 : Blk w9 w.heap.size #[.slice (some ⟨g, 0, none⟩) 2 2, .map (some m)] 178 := by rw [ho9]; exact (setBlock_other _ (by omega) _).trans t2
  have k9 : Blk w9 (w.heap.size + 1) #[.int .i64 1, .int .i64 (-1)] 53 := by rw [ho9]; exact (setBlock_other _ (by omega) _).trans k2
  clear p0 p1 i0
  have p0 := t2.cell 0
  have p1 := t2.cell 1
  have q0 := k2.cell 0
  have q1 := k2.cell 1
  have r1 := t9.cell 1
  have s0 := k9.cell 0
  have s1 := k9.cell 1
  have HG := hid (show w.grownBy w9 (some m) from
    ((⟨hbb.os, hbb.tape, hbb.output, hbb.size, fun k hk _ => hbb.block k hk⟩ : w.grownBy w1 (some m)).trans hg2).trans (by rw [ho9]; exact grown_block _ _ _))
  clear hbb t1 k1 hml hgl t2 k2 m2 m9 hup ho9 t9 k9 hg2
  go_wp2_with fail
  rw [rounds_succ]
  go_wp2_with fail
  go_ret
  exact ⟨rfl, HG.out⟩

end Go.Proofs.YtkmpdcckgibkhaaGreat
