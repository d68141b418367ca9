/-
  Walks: the program's counts between two positions, the first abelian square.
-/
import Derived.Test.YtancficmkkdnfaaAbelR
namespace Go.Proofs.Ytancficmkkdnfaa
open Go.RowKit
attribute [local go_sem] Oper.semAt_some

/-- The table of counts of all beginnings lies at block g; block pb holds the slice. -/
structure Tab (l : List UInt8) (w : World) (pb g c : Nat) : Prop where
  row : ∀ i k, i ≤ l.length → k < 4 → w.cell? ⟨g, i * 4 + k, none⟩ = some (.int .i64 (cn (l.take i) k))
  ptr : w.cell? ⟨pb, 0, none⟩ = some (.slice (some ⟨g, 0, none⟩) (l.length + 1) c)
  glt : g < w.heap.size
  plt : pb < w.heap.size
theorem Tab.below {l : List UInt8} {w w' : World} {pb g c B : Nat} (h : Tab l w pb g c) (hb : Below B w w') (h1 : g < B) (h2 : pb < B) : Tab l w' pb g c where
  row := fun i k hi hk => (hb.cell (p := ⟨g, i * 4 + k, none⟩) h1).trans (h.row i k hi hk)
  ptr := (hb.cell (p := ⟨pb, 0, none⟩) h2).trans h.ptr
  glt := Nat.lt_of_lt_of_le h.glt hb.size
  plt := Nat.lt_of_lt_of_le h.plt hb.size

/-- The counts between two positions, the first m of four subtracted. -/
def bwF (l : List UInt8) (i j m k : Nat) : Int := if k < m then (cn (l.take j) k : Int) - cn (l.take i) k else cn (l.take j) k

set_option maxRecDepth 10000 in
set_option maxHeartbeats 4000000 in
theorem between_any (l : List UInt8) (pb g c i j : Nat) (w : World) (hl : l.length ≤ 1000) (hT : Tab l w pb g c) (hi : i ≤ l.length) (hj : j ≤ l.length) :
    Calls Try.prog 64 #[.int .i64 i, .int .i64 j, .pointer (some ⟨pb, 0, none⟩)] w fun e w' => e = .returned (bwS l i j) ∧ Below w.heap.size w w' := by
  have HT := hid hT
  have c1 := hT.ptr
  have c2 := hT.row j 0 hj (by omega)
  rw [Nat.add_zero] at c2
  have c3 := hT.row j 1 hj (by omega)
  have c4 := hT.row j 2 hj (by omega)
  have c5 := hT.row j 3 hj (by omega)
  have hp := hT.plt
  have hg := hT.glt
  have hle : ∀ i k, cn (l.take i) k ≤ 1000 := fun i k => Nat.le_trans (cn_le _ _) (by rw [List.length_take]; omega)
  have HLE := hid hle
  clear hT hle
  go_enter Try.func64, Try.ntmps64
  go_wp2_with fail
  go_loopw [12] (fun v wr => ∃ m : Nat, m ≤ 4 ∧ v = .int .i64 m ∧ Below w.heap.size w wr ∧ Blk wr w.heap.size (arr4 fun _ => 0) 84 ∧ Blk wr (w.heap.size + 1) (arr4 (bwF l i j m)) 84) (fun v _ => 4 - (intOf v).toNat)
  case atStart =>
    exact ⟨0, by omega, rfl, ((Below.refl _ _).alloc (Nat.le_refl _) _).alloc (by simp) _, (Blk.new w _ _).alloc _, Blk.mk' (by simp) (by simp [arr4, bwF])⟩
  case round =>
    obtain ⟨m, hm, rfl, hB, R, H⟩ := hrel
    by_cases hlt : m < 4
    · have q1 := (hB.cell (p := ⟨pb, 0, none⟩) hp).trans HT.out.ptr
      have q2 := (hB.cell (p := ⟨g, i * 4 + m, none⟩) hg).trans (HT.out.row i m hi hlt)
      have q3 := H.cell4 m hlt
      have q3f := H.free m
      have hF : bwF l i j m m = (cn (l.take j) m : Int) := by unfold bwF; rw [if_neg (by omega)]
      rw [hF] at q3
      have b1 := HLE.out i m
      have b2 := HLE.out j m
      have H2 := H.store4 (g := bwF l i j (m + 1)) m ((cn (l.take j) m : Int) - cn (l.take i) m) hlt (fun k hk => by
        unfold bwF
        by_cases h : k = m
        · subst h; simp
        · rw [if_neg h]; by_cases h3 : k < m
          · rw [if_pos (by omega), if_pos h3]
          · rw [if_neg (by omega), if_neg h3])
      have HH := hid H2
      have hw1 : wrap64 ((cn (l.take j) m : Int) - cn (l.take i) m) = (cn (l.take j) m : Int) - cn (l.take i) m := IntWalk.wrap64_in _ (by omega)
      generalize (cn (l.take j) m) = X at *
      generalize (cn (l.take i) m) = Y at *
      have HR := hid R
      have HB := hid hB
      clear c1 c2 c3 c4 c5 H H2 hF R hB
      have i1 : (i : Int) < (l.length : Int) + 1 := by omega
      have i2 : i < l.length + 1 := by omega
      have i3 : (m : Int) < 4 := by omega
      go_wp2_with fail
      go_region
      go_wp2_with fail
      exact ⟨⟨m + 1, by omega, by go_num, (HB.out.setCell (by simp) _).drew, (HR.out.other _ (by simp) _), HH.out⟩, by simp [intOf]; omega⟩
    · obtain ⟨x0, x1, x2, x3, -⟩ := H.all4
      obtain ⟨r0, r1, r2, r3, f0, f1, f2, f3⟩ := R.all4
      have e4 : m = 4 := by omega
      subst e4
      simp only [bwF, show (0 : Nat) < 4 from by omega, show (1 : Nat) < 4 from by omega, show (2 : Nat) < 4 from by omega, show (3 : Nat) < 4 from by omega, if_true] at x0 x1 x2 x3
      go_wp2
      refine bodyPost_ret (v := bwS l i j) (by simp [results, Try.results64, go_sem, r0, r1, r2, r3, bwS]) rfl ⟨rfl, ?_⟩
      exact (((hB.setCell (Nat.le_refl _) _).setCell (Nat.le_refl _) _).setCell (Nat.le_refl _) _).setCell (Nat.le_refl _) _
end Go.Proofs.Ytancficmkkdnfaa
