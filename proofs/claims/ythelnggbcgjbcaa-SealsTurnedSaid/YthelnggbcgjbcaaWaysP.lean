/-
  Walks: the program's Ways.
-/
import Derived.Test.YthelnggbcgjbcaaWaysM
import Derived.Test.YthelnggbcgjbcaaHalvesP
namespace Go.Proofs.Ythelnggbcgjbcaa
open Go.RowKit Go.ChangeMaps

theorem eqi8 (a b : Int) (w : World) : (Op.equalIn 9998 3 (.int .i64 a) (.int .i64 b)).run Try.prog w = .ok (a == b) w :=
  run_equalIn_int w 9997 3 .i64 .i64 a b Try.underlying3
theorem eq4d (a0 a1 a2 a3 b0 b1 b2 b3 : Int) (w : World) : (Op.equalIn 9999 52 (.agg #[.int .i64 a0, .int .i64 a1, .int .i64 a2, .int .i64 a3]) (.agg #[.int .i64 b0, .int .i64 b1, .int .i64 b2, .int .i64 b3])).run Try.prog w = .ok (a0 == b0 && a1 == b1 && a2 == b2 && a3 == b3) w := by
  have hu : ∀ w, (underlying 52).run Try.prog w = .ok (.array 4 3) w := fun w => Try.runUnderlying52 w
  have hs : ∀ w, (sizeOf 3).run Try.prog w = .ok 1 w := fun w => Try.sizeOf3 w
  have hg : ∀ w, (isAgg 3).run Try.prog w = .ok false w := fun w => Try.isAgg3 w
  rw [show (9999 : Nat) = 9998 + 1 from rfl, Op.equalIn]
  simp [hu, Sem.run_bind, go_sem, hs, List.range'_succ, hg, eqi8]
  by_cases h0 : a0 = b0 <;> by_cases h1 : a1 = b1 <;> by_cases h2 : a2 = b2 <;> by_cases h3 : a3 = b3 <;> simp [h0, h1, h2, h3, go_sem]
def enc5 (x : ST) : Value := .agg #[.int .i64 x.1, .int .i64 x.2.1, .int .i64 x.2.2.1, .int .i64 x.2.2.2.1, .int .i64 x.2.2.2.2]
theorem kt5 : KT Try.prog 66 enc5 := by
  refine KT.wide (by simp [Try.underlying66]) ?_ ?_ ?_
  · rintro ⟨a0, a1, a2, a3, a4⟩ ⟨b0, b1, b2, b3, b4⟩ w
    have hu : ∀ w, (underlying 66).run Try.prog w = .ok _ w := fun w => Try.runUnderlying66 w
    have hs : ∀ w, (sizeOf 3).run Try.prog w = .ok 1 w := fun w => Try.sizeOf3 w
    have hg : ∀ w, (isAgg 3).run Try.prog w = .ok false w := fun w => Try.isAgg3 w
    have hs2 : ∀ w, (sizeOf 52).run Try.prog w = .ok 4 w := fun w => Try.sizeOf52 w
    have hg2 : ∀ w, (isAgg 52).run Try.prog w = .ok true w := fun w => Try.isAgg52 w
    rw [Op.equal, show Op.maxDepth = 9999 + 1 from rfl, Op.equalIn]
    simp [enc5, hu, Sem.run_bind, go_sem, hs, hg, hs2, hg2, eqi, eq4d]
    by_cases h0 : a0 = b0 <;> by_cases h1 : a1 = b1 <;> by_cases h2 : a2 = b2 <;> by_cases h3 : a3 = b3 <;> by_cases h4 : a4 = b4 <;> simp [h0, h1, h2, h3, h4]
  · rintro em ⟨a0, a1, a2, a3, a4⟩ w
    have hu : ∀ w, (underlying 66).run Try.prog w = .ok _ w := fun w => Try.runUnderlying66 w
    have hu2 : ∀ w, (underlying 52).run Try.prog w = .ok (.array 4 3) w := fun w => Try.runUnderlying52 w
    have hs : ∀ w, (sizeOf 3).run Try.prog w = .ok 1 w := fun w => Try.sizeOf3 w
    have hg : ∀ w, (isAgg 3).run Try.prog w = .ok false w := fun w => Try.isAgg3 w
    have hs2 : ∀ w, (sizeOf 52).run Try.prog w = .ok 4 w := fun w => Try.sizeOf52 w
    have hg2 : ∀ w, (isAgg 52).run Try.prog w = .ok true w := fun w => Try.isAgg52 w
    have hk : ∀ (x : Int) (w : World), (Instr.checkKey em 9999 3 (.int .i64 x)).run Try.prog w = .ok () w := fun x w => MapKept.run_checkKey Try.underlying3 (show MapKept.IsKey (.int .i64) (.int .i64 x) from rfl) em 9998
    have hk8 : ∀ (x : Int) (w : World), (Instr.checkKey em 9998 3 (.int .i64 x)).run Try.prog w = .ok () w := fun x w => MapKept.run_checkKey Try.underlying3 (show MapKept.IsKey (.int .i64) (.int .i64 x) from rfl) em 9997
    have hk4 : ∀ (a b c d : Int) (w : World), (Instr.checkKey em 9999 52 (.agg #[.int .i64 a, .int .i64 b, .int .i64 c, .int .i64 d])).run Try.prog w = .ok () w := by
      intro a b c d w
      rw [show (9999 : Nat) = 9998 + 1 from rfl, Instr.checkKey]
      simp [hu2, Sem.run_bind, go_sem, hs, List.range'_succ, hg, hk8]
    rw [show (10000 : Nat) = 9999 + 1 from rfl, Instr.checkKey]
    simp [enc5, hu, Sem.run_bind, go_sem, hs, hg, hs2, hg2, hk, hk4]
  · rintro ⟨a0, a1, a2, a3, a4⟩
    simp [enc5, Instr.sameBits]

theorem sg_bd (sg : Int) (hs : sg = 1 ∨ sg = -1) (n B : Nat) (hn : n ≤ B) : -(B : Int) ≤ sg * n ∧ sg * n ≤ B := by
  rcases hs with rfl | rfl <;> omega

set_option maxHeartbeats 1000000 in
theorem ways1_any (d : Nat → Int) (p : ByteArray) (sg : Int) (w : World) (hp : p.size ≤ 100) (hok : p.data.toList.all okb = true) (hs : sg = 1 ∨ sg = -1) (hd : ∀ j, j < 4 → -1000 ≤ d j ∧ d j ≤ 1000) :
    Calls Try.prog 53 #[.agg #[.int .i64 (d 0), .int .i64 (d 1), .int .i64 (d 2), .int .i64 (d 3)], .string p, .int .i64 sg] w fun e w' =>
      e = .returned (.agg #[.int .i64 (d 0 + sg * cn p.data.toList 0), .int .i64 (d 1 + sg * cn p.data.toList 1), .int .i64 (d 2 + sg * cn p.data.toList 2), .int .i64 (d 3 + sg * cn p.data.toList 3)]) ∧ Below w.heap.size w w' := by
  have HD := hid hd
  have HS := hid hs
  have hsb : -1 ≤ sg ∧ sg ≤ 1 := by omega
  clear hd hs
  go_enter Try.func53, Try.ntmps53
  go_wp2_with fail
  refine (of_any p _ (by omega) hok).mono ?_
  rintro e w1 ⟨rfl, hb⟩
  have hA : Blk w1 w.heap.size (arr4 d) 52 := ((Blk.new w _ _).alloc _).below hb (by simp; omega)
  have hR : Blk w1 (w.heap.size + 1) (arr4 fun _ => 0) 52 := (Blk.mk' (by simp) (by simp [arr4])).below hb (by simp)
  have hB : Below w.heap.size w w1 := (((Below.refl _ w).alloc (Nat.le_refl _) _).alloc (by simp) _).trans (hb.mono (by simp; omega))
  clear hb
  go_wp2_with fail
  go_loopw [11] (fun i wr => ∃ k : Nat, k ≤ 4 ∧ i = .int .i64 k ∧ Below w.heap.size w wr ∧ Blk wr w.heap.size (arr4 fun j => if j < k then d j + sg * cn p.data.toList j else d j) 52 ∧ Blk wr (w.heap.size + 1) (arr4 fun _ => 0) 52) (fun i _ => 4 - (intOf i).toNat)
  case atStart => exact ⟨0, by omega, rfl, hB, by simpa using hA, hR⟩
  case round =>
    obtain ⟨k, hk, rfl, hB, hA, hR⟩ := hrel
    by_cases hlt : k < 4
    · have hcc := hA.cell4 k hlt
      rw [if_neg (by omega)] at hcc
      have hff := hA.free k
      have hdk := HD.out k hlt
      have hbl := bytes_len p
      have hcb := cn_le p.data.toList k
      have hmb := sg_bd sg HS.out (cn p.data.toList k) 100 (by omega)
      have hix := fun W => run_index4 (fun j => (cn p.data.toList j : Int)) k hlt W
      clear hbl
      obtain ⟨y, hy⟩ : ∃ y, y = sg * (cn p.data.toList k : Int) := ⟨_, rfl⟩
      rw [← hy] at hmb
      have hy2 := hy.symm
      have HY := hid hy
      clear hy
      go_wp2
      go_roundw
      case rel =>
        refine ⟨k + 1, by omega, by go_num, hB.setCell (Nat.le_refl _) _, hA.store4 k _ hlt fun i hi => ?_, hR.other _ (by simp) _⟩
        by_cases h1 : i = k
        · rw [if_pos (by omega), if_pos h1, h1, hy2]
        · rw [if_neg h1]
          by_cases h2 : i < k
          · rw [if_pos (by omega), if_pos h2]
          · rw [if_neg (by omega), if_neg h2]
      case measure => simp [intOf]; omega
    · have hA4 : Blk wr w.heap.size (arr4 fun j => d j + sg * cn p.data.toList j) 52 := by
        rw [show (arr4 fun j => d j + sg * cn p.data.toList j) = arr4 fun j => if j < k then d j + sg * cn p.data.toList j else d j from arr4_congr fun j hj => by rw [if_pos (by omega)]]
        exact hA
      obtain ⟨q0, q1, q2, q3, -⟩ := hA4.all4
      obtain ⟨r0, r1, r2, r3, f0, f1, f2, f3⟩ := hR.all4
      clear hA hA4
      go_wp2
      refine bodyPost_ret (v := .agg #[.int .i64 (d 0 + sg * cn p.data.toList 0), .int .i64 (d 1 + sg * cn p.data.toList 1), .int .i64 (d 2 + sg * cn p.data.toList 2), .int .i64 (d 3 + sg * cn p.data.toList 3)]) (by simp [results, Try.results53, go_sem, r0, r1, r2, r3]) rfl ⟨rfl, ?_⟩
      exact (((hB.setCell (by simp) _).setCell (by simp) _).setCell (by simp) _).setCell (by simp) _
end Go.Proofs.Ythelnggbcgjbcaa
