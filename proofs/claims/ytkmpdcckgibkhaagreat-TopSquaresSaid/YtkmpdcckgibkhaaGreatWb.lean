/-
  Walks: the length of a tour of two stops, the rest of a tour.
-/
import Derived.Test.YtkmpdcckgibkhaaGreatWa
namespace Go.Proofs.YtkmpdcckgibkhaaGreat
open Go.RowKit Go.ChangeMaps

theorem kt173 : KT Tryz.prog 173 enc2 := by
  refine KT.wide (by simp [Tryz.underlying173]) ?_ ?_ ?_
  · rintro ⟨a0, a1⟩ ⟨b0, b1⟩ w
    have hu : ∀ w, (underlying 173).run Tryz.prog w = .ok _ w := fun w => Tryz.runUnderlying173 w
    have hs : ∀ w, (sizeOf 3).run Tryz.prog w = .ok 1 w := fun w => Tryz.sizeOf3 w
    have hg : ∀ w, (isAgg 3).run Tryz.prog w = .ok false w := fun w => Tryz.isAgg3 w
    rw [Op.equal, show Op.maxDepth = 9999 + 1 from rfl, Op.equalIn]
    simp [enc2, hu, Sem.run_bind, go_sem, hs, hg, eqi]
    by_cases h0 : a0 = b0 <;> by_cases h1 : a1 = b1 <;> simp [h0, h1]
  · rintro em ⟨a0, a1⟩ w
    have hu : ∀ w, (underlying 173).run Tryz.prog w = .ok _ w := fun w => Tryz.runUnderlying173 w
    have hs : ∀ w, (sizeOf 3).run Tryz.prog w = .ok 1 w := fun w => Tryz.sizeOf3 w
    have hg : ∀ w, (isAgg 3).run Tryz.prog w = .ok false w := fun w => Tryz.isAgg3 w
    have hk : ∀ (x : Int) (w : World), (Instr.checkKey em 9999 3 (.int .i64 x)).run Tryz.prog w = .ok () w := fun x w => MapKept.run_checkKey Tryz.underlying3 (show MapKept.IsKey (.int .i64) (.int .i64 x) from rfl) em 9998
    rw [show (10000 : Nat) = 9999 + 1 from rfl, Instr.checkKey]
    simp [enc2, hu, Sem.run_bind, go_sem, hs, hg, hk]
  · rintro ⟨a0, a1⟩
    simp [enc2, Instr.sameBits]

set_option maxRecDepth 100000 in
set_option maxHeartbeats 4000000 in
theorem length116 (g : Nat) (a : Option Addr) (c : Nat) (w : World) (h : Mi w g) (hi : Ints w a [0, 1]) : Calls Tryz.prog 116 #[.slice (some ⟨g + 2, 0, none⟩) 2 2, .slice a 2 c] w (RetB (.int .i64 6) w) := by
  have t0 := h.t.cell 0
  have t1 := h.t.cell 1
  have a0 := h.a.cell 0
  have a1 := h.a.cell 1
  have b0 := h.b.cell 0
  have b1 := h.b.cell 1
  obtain ⟨g2, o, rfl, hg, hc⟩ := hi.at (by simp)
  have i0 : w.cell? ⟨g2, o, none⟩ = some (.int .i64 0) := hc 0 0 rfl
  have i1 : w.cell? ⟨g2, o + 1, none⟩ = some (.int .i64 1) := hc 1 1 rfl
  clear h hi hc
  go_enter Tryz.func116, Tryz.ntmps116
  go_wp2_with fail
  refine wp_loop_rounds 3 ?_
  rw [rounds_succ]
  go_wp2_with fail
  go_region
  go_wp2_with fail
  rw [rounds_succ]
  go_wp2_with fail
  go_region
  go_wp2_with fail
  rw [rounds_succ]
  go_wp2_with fail
  go_ret
  exact ⟨rfl, ((Below.refl _ w).drew).drew⟩

set_option maxRecDepth 100000 in
set_option maxHeartbeats 4000000 in
theorem rest115_one (g mb : Nat) (w : World) (h : Mi w g) : Calls Tryz.prog 115 #[.slice (some ⟨g + 2, 0, none⟩) 2 2, .map (some mb), .agg #[.int .i64 1, .int .i64 0]] w (RetB (.int .i64 3) w) := by
  have hb := (Below.refl _ w).alloc (Nat.le_refl _) (.cells #[.int .i64 1, .int .i64 0] 173)
  have h2 := h.below hb h.t.lt
  have t1 := h2.t.cell 1
  have b0 := h2.b.cell 0
  obtain ⟨r0, r1, -, -⟩ := (Blk.new w #[.int .i64 1, .int .i64 0] 173).two
  clear h h2
  go_enter Tryz.func115, Tryz.ntmps115
  go_wp2_with fail
  go_ret
  exact ⟨rfl, hb⟩

set_option maxRecDepth 100000 in
set_option maxHeartbeats 4000000 in
theorem rest115_two (g mb : Nat) (w : World) (h : Mi w g) (hm : MapIs enc2 w mb []) (_hmg : g + 2 < mb) : Calls Tryz.prog 115 #[.slice (some ⟨g + 2, 0, none⟩) 2 2, .map (some mb), .agg #[.int .i64 0, .int .i64 2]] w fun e w' => e = .returned (.int .i64 6) ∧ w.grownBy w' (some mb) := by
  have hb := (Below.refl _ w).alloc (Nat.le_refl _) (.cells #[.int .i64 0, .int .i64 2] 173)
  have h2 := h.below hb h.t.lt
  have K := Blk.new w #[.int .i64 0, .int .i64 2] 173
  have hg := grown_alloc w (.cells #[.int .i64 0, .int .i64 2] 173) (some mb)
  have m2 := hm.alloc (.cells #[.int .i64 0, .int .i64 2] 173)
  have hml := hm.lt
  clear h hm
  go_enter Tryz.func115, Tryz.ntmps115
  go_wp2_with fail
  generalize hW : w.alloc (.cells #[.int .i64 0, .int .i64 2] 173) = W at *
  generalize hs : w.heap.size = s at *
  have S0 : ∀ X, Below W.heap.size W X → (X.cell? ⟨g + 2, 0, none⟩ = some (.slice (some ⟨g, 0, none⟩) 2 2) ∧ X.cell? ⟨g, 1, none⟩ = some (.int .i64 3) ∧ X.cell? ⟨s, 0, none⟩ = some (.int .i64 0) ∧ X.cell? ⟨s, 1, none⟩ = some (.int .i64 2)) ∧ Blk X s #[.int .i64 0, .int .i64 2] 173 ∧ MapIs enc2 X mb [] := fun X hX => by
    have a := h2.below hX h2.t.lt
    have k := K.below hX K.lt
    exact ⟨⟨a.t.cell 0, a.a.cell 1, k.cell 0, k.cell 1⟩, k, m2.below hX m2.lt⟩
  have SS := hid S0
  obtain ⟨t0, a1, r0, r1⟩ := (S0 W (Below.refl _ _)).1
  have S7 := (S0 W.drew (Below.refl _ W).drew).1
  have lk : (Instr.lookup 171 (.map (some mb)) (.agg #[.int .i64 0, .int .i64 2]) true).run Tryz.prog W = .ok (.tuple #[.int .i64 0, .bool false]) W := m2.look kt173 Tryz.underlying171 (zero3 _) (0, 2) true
  have C := hid (rest115_one g mb W.drew (h2.below (Below.refl _ W).drew h2.t.lt))
  have HB := hid (And.intro hb hg)
  have hmW := m2.lt
  have HSZ := hid (show W.heap.size = s + 1 by rw [← hW, ← hs]; simp)
  clear S0 h2 K m2 hb hg hW hs
  have hw6 : IntKind.i64.wrap 6 = 6 := by rw [IntKind.wrap_i64]; omega
  go_wp2_with fail
  rw [lk]
  go_wp2_with fail
  refine wp_loop_rounds 3 ?_
  rw [rounds_succ]
  go_wp2_with fail
  rw [rounds_succ]
  go_wp2_with fail
  go_region_held3 (fun X => X.cell? ⟨g + 2, 0, none⟩ = some (.slice (some ⟨g, 0, none⟩) 2 2) ∧ X.cell? ⟨g, 1, none⟩ = some (.int .i64 3) ∧ X.cell? ⟨s, 0, none⟩ = some (.int .i64 0) ∧ X.cell? ⟨s, 1, none⟩ = some (.int .i64 2)) (first | exact S7 | exact S8 | go_keep) (first | (go_at_call 115; refine C.out.mono ?_; rintro e w8 ⟨rfl, hb8⟩; have S8 := (SS.out w8 ((Below.refl W.heap.size W).drew.trans hb8)).1))
  have hb9 := ((Below.refl W.heap.size W).drew.trans hb8)
  obtain ⟨⟨e1, e2, e3, e4⟩, K8, m8⟩ := SS.out w8 hb9
  obtain ⟨w9, hup, m9, o9, ho9⟩ := m8.store kt173 Tryz.underlying171 (0, 2) (.int .i64 6)
  have hup2 : (Instr.mapUpdate 171 (.map (some mb)) (.agg #[.int .i64 0, .int .i64 2]) (.int .i64 6)).run Tryz.prog w8 = .ok () w9 := hup
  have lk9 : (Instr.lookup 171 (.map (some mb)) (.agg #[.int .i64 0, .int .i64 2]) false).run Tryz.prog w9 = .ok (.int .i64 6) w9 := m9.look kt173 Tryz.underlying171 (zero3 _) (0, 2) false
  have K9 : Blk w9 s #[.int .i64 0, .int .i64 2] 173 := by rw [ho9]; exact (setBlock_other _ (by omega) _).trans K8
  have f0 := K9.cell 0
  have f1 := K9.cell 1
  have HG := hid (show w.grownBy w9 (some mb) from (HB.out.2.trans ⟨hb9.os, hb9.tape, hb9.output, hb9.size, fun k hk _ => hb9.block k hk⟩).trans (by rw [ho9]; exact grown_block _ _ _))
  clear hb9 K8 m8 m9 ho9 hup K9 S7 S8 lk t0 a1 r0 r1
  go_wp2_with fail
  rw [rounds_succ]
  go_wp2_with fail
  go_ret
  exact ⟨rfl, HG.out⟩

end Go.Proofs.YtkmpdcckgibkhaaGreat
