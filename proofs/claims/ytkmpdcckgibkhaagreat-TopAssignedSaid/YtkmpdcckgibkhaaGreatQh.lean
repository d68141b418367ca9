/-
  Walks: the number of smallest spanning trees of two vertices.
-/
import Derived.Test.YtkmpdcckgibkhaaGreatQg
namespace Go.Proofs.YtkmpdcckgibkhaaGreat
open Go.RowKit

theorem slice_one (g o k : Nat) (hk : 1 ≤ k) (w : World) : (Instr.slice 24 (.slice (some ⟨g, o, none⟩) 1 k) none (some (.int .i64 1)) none).run Tryz.prog w = .ok (.slice (some ⟨g, o, none⟩) 1 k) w := by
  have h1 : (1 : Int) ≤ (k : Int) := by omega
  simp [go_sem, Instr.slice, h1]
theorem NetAt.street {w : World} {n g c B : Nat} (h : NetAt w n g c B) : Street w g := ⟨Nat.lt_of_lt_of_le h.gb h.bs, h.s0, h.s1, h.s2⟩
theorem NetAt.drewN {w : World} {n g c B : Nat} (h : NetAt w n g c B) (k : Nat) : NetAt (w.drewN k) n g c B := ⟨h.n0, h.n1, h.s0, h.s1, h.s2, h.nb, h.gb, h.bs⟩
theorem below_drewN {B : Nat} {w w' : World} (h : Below B w w') (k : Nat) : Below B w (w'.drewN k) := ⟨h.os, h.tape, h.output, h.size, h.block⟩

set_option maxRecDepth 100000 in
set_option maxHeartbeats 4000000 in
theorem smallest_1 (g c : Nat) (P : Int) (hp : 1 < P) (hp2 : P ≤ 2147483647) (w : World) (hs : Street w g) : Calls Tryz.prog 93 #[netV g c, .int .i64 P] w (RetB (.int .i64 1) w) := by
  have hb := (Below.refl _ w).alloc (Nat.le_refl _) (.cells #[.int .i64 2, .slice (some ⟨g, 0, none⟩) 1 c] 146)
  have hN := NetAt.new g c w hs
  have HNV := hid (show netV g c = .agg #[.int .i64 2, .slice (some ⟨g, 0, none⟩) 1 c] from rfl)
  have HS := hid hs
  clear hs
  rw [HNV.out]
  go_enter Tryz.func93, Tryz.ntmps93
  go_wp2_with fail
  have hsz : (w.alloc (.cells #[.int .i64 2, .slice (some ⟨g, 0, none⟩) 1 c] 146)).heap.size = w.heap.size + 1 := by simp
  generalize w.alloc (.cells #[.int .i64 2, .slice (some ⟨g, 0, none⟩) 1 c] 146) = W at *
  refine (apart_any _).mono ?_
  rintro e w1 ⟨rfl, bp, hb1⟩
  rw [hsz] at bp
  rw [hsz] at hb1
  have hN := hN.below hb1 (Nat.le_refl _)
  have hb := hb.trans (hb1.mono (by omega))
  have n0 := hN.n0
  have n1 := hN.n1
  go_wp2_with fail
  rw [← HNV.out]
  refine (ordered_1 g c _).mono ?_
  rintro e w2 ⟨a, k, rfl, hi, hb2, hk⟩
  have bp := bp.below hb2 bp.lt
  have hN := hN.below hb2 hN.bs
  have hb := hb.trans (hb2.mono hb.size)
  have HI := hid hi
  obtain ⟨g', o', rfl, hg', hcell⟩ := hi.at (by simp)
  have q0 : w2.cell? ⟨g', o', none⟩ = some (.int .i64 0) := hcell 0 0 rfl
  clear n0 n1
  have n0 := hN.n0
  have n1 := hN.n1
  have s2 := hN.s2
  have hk2 : (1 : Int) ≤ (k : Int) := by omega
  clear hb1 hb2 hcell hsz
  go_wp2_with fail
  refine wp_loop_rounds 2 ?_
  rw [rounds_succ]
  go_wp2_with fail
  go_quiet (fail)
  go_wp2_with fail
  have hN := hN.drewN nq
  have hb := below_drewN hb nq
  have bp : Blk (w2.drewN nq) (w.heap.size + 1) (rowA idR 16) 214 := bp
  have hi : Ints (w2.drewN nq) (some ⟨g', o', none⟩) [0] := hi
  clear n0 n1 s2 q0 HI
  generalize w2.drewN nq = V at *
  have n0 := hN.n0
  have n1 := hN.n1
  have hN' : NetAt V.drew w.heap.size g c (w.heap.size + 1) := hN.drewN 1
  have J := hid ((joined_1 g c (some ⟨g', o', none⟩) k V.drew hN'.street hi).mono (R' := fun e w' => ∃ b, e = .returned (.tuple #[.pointer (some ⟨b, 0, none⟩), .int .i64 1]) ∧ V.drew.heap.size ≤ b ∧ Blk w' b (rowA joined01 16) 214 ∧ Below V.drew.heap.size V.drew w' ∧ w'.cell? ⟨w.heap.size, 0, none⟩ = some (.int .i64 2) ∧ w'.cell? ⟨w.heap.size, 1, none⟩ = some (.slice (some ⟨g, 0, none⟩) 1 c)) fun e w' ⟨b, h1, h2, h3, h4⟩ => ⟨b, h1, h2, h3, h4, (hN'.below h4 hN'.bs).n0, (hN'.below h4 hN'.bs).n1⟩)
  rw [HNV.out] at J
  have hsl := slice_one g' o' k hk
  have hw1 : IntKind.i64.wrap 1 = 1 := by decide
  go_region_held3 (fun W' => W'.cell? ⟨w.heap.size, 0, none⟩ = some (.int .i64 2) ∧ W'.cell? ⟨w.heap.size, 1, none⟩ = some (.slice (some ⟨g, 0, none⟩) 1 c)) (go_keep) (first | (go_at_call 129; refine J.out.mono ?_; rintro e w3 ⟨b, rfl, hbs, bj, hb3, k0, k1⟩))
  have hN3 := hN'.below hb3 hN'.bs
  have bp3 : Blk w3 (w.heap.size + 1) (rowA idR 16) 214 := Blk.below (w := V.drew) bp hb3 bp.lt
  have hb4 := hb.drew.trans (hb3.mono hb.size)
  clear J hN hN' hi n0 n1 hb hb3 bp
  have n0 := hN3.n0
  have n1 := hN3.n1
  go_wp2_with fail
  rw [← HNV.out]
  refine (spanning_1 g c (w.heap.size + 1) b P hp hp2 w3 hN3.street bp3 bj).mono ?_
  rintro e w5 ⟨rfl, hb5⟩
  have hb6 := hb4.trans (hb5.mono hb4.size)
  have m1 : Int.tmod 1 P = 1 := by rw [Int.tmod_eq_emod_of_nonneg (by omega)]; exact Int.emod_eq_of_lt (by omega) hp
  have hP0 : ¬ P = 0 := by omega
  go_wp2_with fail
  rw [rounds_succ]
  go_wp2_with fail
  go_ret
  exact ⟨rfl, hb6⟩

end Go.Proofs.YtkmpdcckgibkhaaGreat
