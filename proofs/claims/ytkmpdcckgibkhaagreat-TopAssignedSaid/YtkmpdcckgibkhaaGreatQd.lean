/-
  Walks: the parts that one street makes.
-/
import Derived.Test.YtkmpdcckgibkhaaGreatQc
namespace Go.Proofs.YtkmpdcckgibkhaaGreat
open Go.RowKit

/-- The net's copy and its street, made below B. -/
structure NetAt (w : World) (n g c B : Nat) : Prop where
  n0 : w.cell? ⟨n, 0, none⟩ = some (.int .i64 2)
  n1 : w.cell? ⟨n, 1, none⟩ = some (.slice (some ⟨g, 0, none⟩) 1 c)
  s0 : w.cell? ⟨g, 0, none⟩ = some (.int .i64 0)
  s1 : w.cell? ⟨g, 1, none⟩ = some (.int .i64 1)
  s2 : w.cell? ⟨g, 2, none⟩ = some (.int .i64 5)
  nb : n < B
  gb : g < B
  bs : B ≤ w.heap.size
theorem NetAt.below {w w' : World} {n g c B D : Nat} (h : NetAt w n g c B) (hb : Below D w w') (hD : B ≤ D) : NetAt w' n g c B :=
  ⟨(hb.cell (p := ⟨n, 0, none⟩) (Nat.lt_of_lt_of_le h.nb hD)).trans h.n0, (hb.cell (p := ⟨n, 1, none⟩) (Nat.lt_of_lt_of_le h.nb hD)).trans h.n1,
    (hb.cell (p := ⟨g, 0, none⟩) (Nat.lt_of_lt_of_le h.gb hD)).trans h.s0, (hb.cell (p := ⟨g, 1, none⟩) (Nat.lt_of_lt_of_le h.gb hD)).trans h.s1,
    (hb.cell (p := ⟨g, 2, none⟩) (Nat.lt_of_lt_of_le h.gb hD)).trans h.s2, h.nb, h.gb, Nat.le_trans h.bs hb.size⟩
theorem NetAt.new (g c : Nat) (w : World) (hs : Street w g) : NetAt (w.alloc (.cells #[.int .i64 2, .slice (some ⟨g, 0, none⟩) 1 c] 146)) w.heap.size g c (w.heap.size + 1) := by
  obtain ⟨hl, c0, c1, c2⟩ := hs.below ((Below.refl _ w).alloc (Nat.le_refl _) (.cells #[.int .i64 2, .slice (some ⟨g, 0, none⟩) 1 c] 146)) (Nat.le_refl _)
  obtain ⟨r0, r1, -, -⟩ := (Blk.new w #[.int .i64 2, .slice (some ⟨g, 0, none⟩) 1 c] 146).two
  exact ⟨r0, r1, c0, c1, c2, by omega, by have := hs.lt; omega, by simp⟩

set_option maxHeartbeats 2000000 in
theorem tree_1 (g c : Nat) (w : World) (hs : Street w g) : Calls Tryz.prog 92 #[netV g c] w fun e w' => ∃ v, e = .returned (.tuple #[v, .bool true]) ∧ Below w.heap.size w w' := by
  have hb := (Below.refl _ w).alloc (Nat.le_refl _) (.cells #[.int .i64 2, .slice (some ⟨g, 0, none⟩) 1 c] 146)
  have hN := NetAt.new g c w hs
  have HNV := hid (show netV g c = .agg #[.int .i64 2, .slice (some ⟨g, 0, none⟩) 1 c] from rfl)
  rw [HNV.out]
  go_enter Tryz.func92, Tryz.ntmps92
  go_wp2_with fail
  have hsz : (w.alloc (.cells #[.int .i64 2, .slice (some ⟨g, 0, none⟩) 1 c] 146)).heap.size = w.heap.size + 1 := by simp
  generalize w.alloc (.cells #[.int .i64 2, .slice (some ⟨g, 0, none⟩) 1 c] 146) = W at *
  refine (apart_any _).mono ?_
  rintro e w1 ⟨rfl, bp, hb1⟩
  rw [hsz] at bp
  rw [hsz] at hb1
  have hN := hN.below hb1 (Nat.le_refl _)
  have hb := hb.trans (hb1.mono (by omega))
  have n0 := hN.n0
  have n1 := hN.n1
  go_wp2_with fail
  rw [← HNV.out]
  refine (ordered_1 g c _).mono ?_
  rintro e w2 ⟨a, k, rfl, hi, hb2, _⟩
  have bp := bp.below hb2 bp.lt
  have hN := hN.below hb2 hN.bs
  have hb := hb.trans (hb2.mono hb.size)
  obtain ⟨g', o', rfl, hg', hcell⟩ := hi.at (by simp)
  have q0 : w2.cell? ⟨g', o', none⟩ = some (.int .i64 0) := hcell 0 0 rfl
  clear n0 n1
  have n0 := hN.n0
  have n1 := hN.n1
  have s0 := hN.s0
  have s1 := hN.s1
  go_wp2_with fail
  refine wp_loop_rounds 2 ?_
  rw [rounds_succ]
  go_wp2_with fail
  have j := join01 (w.heap.size + 1) w2.drew bp
  have n0' : w2.drew.cell? ⟨w.heap.size, 0, none⟩ = some (.int .i64 2) := n0
  have hN' : NetAt w2.drew w.heap.size g c (w.heap.size + 1) := ⟨n0, n1, s0, s1, hN.s2, hN.nb, hN.gb, hN.bs⟩
  have J := hid (j.mono (R' := fun e w' => e = .returned (.bool true) ∧ Below (w.heap.size + 1) w2.drew w' ∧ w'.cell? ⟨w.heap.size, 1, none⟩ = some (.slice (some ⟨g, 0, none⟩) 1 c) ∧ w'.cell? ⟨g, 0, none⟩ = some (.int .i64 0) ∧ w'.cell? ⟨g, 1, none⟩ = some (.int .i64 1)) fun e w' h => ⟨h.1, h.2.2, (hN'.below h.2.2 (Nat.le_refl _)).n1, (hN'.below h.2.2 (Nat.le_refl _)).s0, (hN'.below h.2.2 (Nat.le_refl _)).s1⟩)
  clear j n0'
  go_region_held3 (fun W' => W'.cell? ⟨w.heap.size, 1, none⟩ = some (.slice (some ⟨g, 0, none⟩) 1 c) ∧ W'.cell? ⟨g, 0, none⟩ = some (.int .i64 0) ∧ W'.cell? ⟨g, 1, none⟩ = some (.int .i64 1)) (go_keep) (first | (go_at_call 128; refine J.out.mono ?_; rintro e w3 ⟨rfl, hb3, k0, k1, k2⟩))
  have hb := hb.drew.trans (hb3.mono (by omega))
  have hN := hN'.below hb3 (Nat.le_refl _)
  have hown : w3.ownsRow w.heap.size 3 1 (.slice none 0 0) 0 [] := ⟨rfl, .inl ⟨rfl, rfl⟩⟩
  clear hb1 hb2 hb3 hcell hi n0 n1 s0 s1 q0 k0 k1 k2 J
  go_wp2_with (at_builtin; go_must (refine wpList_app _ rfl (.tmp 30) (.tmp 32) 24 rfl w.heap.size 3 (.int .i64 0) 8 Tryz.underlying24 info3 rfl _ 0 _ rfl (hown.alloc _) (some ⟨w3.heap.size, 0, none⟩) 1 1 [.int .i64 0] rfl rfl (vals_new _ _ _ _ rfl) (fun h => by cases h) (by simp [Value.oneCell']) (by omega) (by omega) (hb.alloc hb.size _).size ?_))
  intro v2 w5 hown2 hgrow2 _
  have hb5 := below_app (hb.alloc hb.size _) hgrow2 (hown.alloc _) (hb.alloc hb.size _).size (Nat.le_refl _)
  have hb6 : Below (w.heap.size + 1) w3 w5 := ((Below.refl _ w3).alloc hN.bs _).grown hgrow2 (by have := hN.bs; simp; omega) (by simp [Value.ownBlock])
  have n5 := (hN.below hb6 (Nat.le_refl _)).n0
  obtain ⟨a, k, rfl, hr⟩ := ownsRow_ints (l := [0]) hown2
  clear hown hgrow2 hown2 hb hb6 hN hN'
  go_wp2_with fail
  rw [rounds_succ]
  go_wp2_with fail
  go_quiet (fail)
  go_wp2_with fail
  go_ret2
  exact ⟨_, rfl, ⟨hb5.os, hb5.tape, hb5.output, hb5.size, hb5.block⟩⟩

/-- Two lists of parts: a pointer to the joined ones. -/
def Joined (w : World) (e : Ending) (w' : World) : Prop := ∃ b, e = .returned (.tuple #[.pointer (some ⟨b, 0, none⟩), .int .i64 1]) ∧ w.heap.size ≤ b ∧ Blk w' b (rowA joined01 16) 214 ∧ Below w.heap.size w w'

set_option maxHeartbeats 2000000 in
theorem joined_1 (g c : Nat) (a : Option Addr) (k : Nat) (w : World) (hs : Street w g) (hi : Ints w a [0]) : Calls Tryz.prog 129 #[netV g c, .slice a 1 k] w (Joined w) := by
  have hb := (Below.refl _ w).alloc (Nat.le_refl _) (.cells #[.int .i64 2, .slice (some ⟨g, 0, none⟩) 1 c] 146)
  have hN := NetAt.new g c w hs
  rw [show netV g c = .agg #[.int .i64 2, .slice (some ⟨g, 0, none⟩) 1 c] from rfl]
  go_enter Tryz.func129, Tryz.ntmps129
  go_wp2_with fail
  have hsz : (w.alloc (.cells #[.int .i64 2, .slice (some ⟨g, 0, none⟩) 1 c] 146)).heap.size = w.heap.size + 1 := by simp
  generalize w.alloc (.cells #[.int .i64 2, .slice (some ⟨g, 0, none⟩) 1 c] 146) = W at *
  refine (apart_any _).mono ?_
  rintro e w2 ⟨rfl, bp, hb1⟩
  rw [hsz] at bp
  rw [hsz] at hb1
  have hN := hN.below hb1 (Nat.le_refl _)
  have hb := hb.trans (hb1.mono (by omega))
  have hi := hi.below hb (Nat.le_refl _)
  obtain ⟨g', o', rfl, hg', hcell⟩ := hi.at (by simp)
  have q0 : w2.cell? ⟨g', o', none⟩ = some (.int .i64 0) := hcell 0 0 rfl
  have n0 := hN.n0
  have n1 := hN.n1
  have s0 := hN.s0
  have s1 := hN.s1
  go_wp2_with fail
  refine wp_loop_rounds 2 ?_
  rw [rounds_succ]
  go_wp2_with fail
  have j := join01 (w.heap.size + 1) w2.drew bp
  have hN' : NetAt w2.drew w.heap.size g c (w.heap.size + 1) := ⟨n0, n1, s0, s1, hN.s2, hN.nb, hN.gb, hN.bs⟩
  have J := hid (j.mono (R' := fun e w' => e = .returned (.bool true) ∧ Blk w' (w.heap.size + 1) (rowA joined01 16) 214 ∧ Below (w.heap.size + 1) w2.drew w' ∧ w'.cell? ⟨w.heap.size, 1, none⟩ = some (.slice (some ⟨g, 0, none⟩) 1 c) ∧ w'.cell? ⟨g, 0, none⟩ = some (.int .i64 0) ∧ w'.cell? ⟨g, 1, none⟩ = some (.int .i64 1)) fun e w' h => ⟨h.1, h.2.1, h.2.2, (hN'.below h.2.2 (Nat.le_refl _)).n1, (hN'.below h.2.2 (Nat.le_refl _)).s0, (hN'.below h.2.2 (Nat.le_refl _)).s1⟩)
  clear j
  go_region_held3 (fun W' => W'.cell? ⟨w.heap.size, 1, none⟩ = some (.slice (some ⟨g, 0, none⟩) 1 c) ∧ W'.cell? ⟨g, 0, none⟩ = some (.int .i64 0) ∧ W'.cell? ⟨g, 1, none⟩ = some (.int .i64 1)) (go_keep) (first | (go_at_call 128; refine J.out.mono ?_; rintro e w3 ⟨rfl, bj, hb3, k0, k1, k2⟩))
  have hb := hb.drew.trans (hb3.mono (by omega))
  clear hb1 hb3 hcell hi n0 n1 s0 s1 q0 k0 k1 k2 J
  go_wp2_with fail
  rw [rounds_succ]
  go_wp2_with fail
  go_ret2
  exact ⟨_, rfl, by omega, bj, hb⟩

end Go.Proofs.YtkmpdcckgibkhaaGreat
