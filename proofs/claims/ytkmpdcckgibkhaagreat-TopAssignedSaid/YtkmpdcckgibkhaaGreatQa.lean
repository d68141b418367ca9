/-
  Walks: parts of a net.
-/
import Derived.Test.YtkmpdcckgibkhaaGreatQ
namespace Go.Proofs.YtkmpdcckgibkhaaGreat
open Go.RowKit

def idR (i : Nat) : Int := i
def upTo (k : Nat) (i : Nat) : Int := if i < k then (i : Int) else 0
def joined01 (i : Nat) : Int := if i = 1 then 0 else (i : Int)

set_option maxRecDepth 100000 in
set_option maxHeartbeats 2000000 in
theorem apart_any (w : World) : Calls Tryz.prog 126 #[] w fun e w' => e = .returned (.pointer (some ⟨w.heap.size, 0, none⟩)) ∧ Blk w' w.heap.size (rowA idR 16) 214 ∧ Below w.heap.size w w' := by
  have hz : (#[.int .i64 0, .int .i64 0, .int .i64 0, .int .i64 0, .int .i64 0, .int .i64 0, .int .i64 0, .int .i64 0, .int .i64 0, .int .i64 0, .int .i64 0, .int .i64 0, .int .i64 0, .int .i64 0, .int .i64 0, .int .i64 0] : Array Value) = rowA (upTo 0) 16 := by
    rw [rowA_congr (f := upTo 0) (g := fun _ => 0) fun i _ => by simp [upTo]]; rfl
  have hb := (Below.refl _ w).alloc (Nat.le_refl _) (.cells (rowA (upTo 0) 16) 214)
  have b1 := Blk.new w (rowA (upTo 0) 16) 214
  go_enter Tryz.func126, Tryz.ntmps126
  go_wp2_with fail
  have HZ := hid hz
  clear hz
  generalize w.alloc (.cells (rowA (upTo 0) 16) 214) = W0 at *
  have H0 := hid (And.intro hb b1)
  clear hb b1
  go_loopw [5] (fun jv W => ∃ j : Nat, j ≤ 16 ∧ jv = .int .i64 j ∧ Hid (Below w.heap.size w W ∧ Blk W w.heap.size (rowA (upTo j) 16) 214)) (fun jv _ => 16 - (intOf jv).toNat)
  case atStart => exact ⟨0, by omega, rfl, H0⟩
  case round =>
    obtain ⟨j, hj, rfl, H⟩ := hrel
    by_cases hlt : j < 16
    · have d1 : decide ((j : Int) < 16) = true := by simp; omega
      have i1 : (0 : Int) ≤ (j : Int) := by omega
      have i2 : (j : Int) < 16 := by omega
      have k1 := H.out.2.rowAt j hlt
      have k2 := H.out.2.free j
      have HP := hid (H.out.2.rowPut (g := upTo (j + 1)) j (j : Int) fun i _ => by unfold upTo; by_cases h1 : i = j; { subst h1; simp }; { simp only [h1, if_false]; by_cases h2 : i < j; { rw [if_pos h2, if_pos (by omega)] }; { rw [if_neg h2, if_neg (by omega)] } })
      have HB := hid (H.out.1.setCell (Nat.le_refl _) (.int .i64 (j : Int)) (p := ⟨w.heap.size, j, none⟩))
      generalize upTo j j = tv at *
      go_wp2
      exact ⟨⟨j + 1, by omega, by go_num, hid ⟨HB.out, HP.out⟩⟩, by simp [intOf]; omega⟩
    · have hje : j = 16 := by omega
      subst hje
      have HT := hid (show rowA (upTo 16) 16 = rowA idR 16 from rowA_congr fun i hi => by simp [upTo, idR, hi])
      go_wp2
      go_ret
      exact ⟨rfl, HT.out ▸ H.out.2, H.out.1⟩

/-- The vertex that stands for a part, at most one step away. -/
theorem of_two (b : Nat) (f : Nat → Int) (v u : Nat) (hv : v < 16) (hu : u < 16) (h1 : f v = u) (h2 : f u = u) (w : World) (hb : Blk w b (rowA f 16) 214) :
    Calls Tryz.prog 149 #[.pointer (some ⟨b, 0, none⟩), .int .i64 v] w fun e w' => e = .returned (.int .i64 u) ∧ w = w' := by
  have q1 := hb.rowAt v hv
  have q2 := hb.rowAt u hu
  rw [h1] at q1
  rw [h2] at q2
  have i1 : (0 : Int) ≤ (v : Int) := by omega
  have i2 : (v : Int) < 16 := by omega
  have j1 : (0 : Int) ≤ (u : Int) := by omega
  have j2 : (u : Int) < 16 := by omega
  clear hb h1 h2
  go_enter Tryz.func149, Tryz.ntmps149
  go_wp2_with fail
  refine wp_loop_rounds 2 ?_
  rw [rounds_succ]
  by_cases h : u = v
  · subst h
    go_wp2_with fail
    go_ret
    exact ⟨rfl, rfl⟩
  · have d : decide ((u : Int) ≠ (v : Int)) = true := by simp; omega
    go_wp2_with fail
    rw [rounds_succ]
    go_wp2_with fail
    go_ret
    exact ⟨rfl, rfl⟩

theorem join01 (b : Nat) (w : World) (hb : Blk w b (rowA idR 16) 214) :
    Calls Tryz.prog 128 #[.pointer (some ⟨b, 0, none⟩), .int .i64 0, .int .i64 1] w fun e w' => e = .returned (.bool true) ∧ Blk w' b (rowA joined01 16) 214 ∧ Below b w w' := by
  have HB := hid hb
  have q1 := hb.rowAt 1 (by omega)
  have z1 := hb.free 1
  clear hb
  go_enter Tryz.func128, Tryz.ntmps128
  go_wp2_with fail
  refine (of_two b idR 0 0 (by omega) (by omega) rfl rfl _ HB.out).mono ?_
  rintro e w1 ⟨rfl, rfl⟩
  go_wp2_with fail
  refine (of_two b idR 1 1 (by omega) (by omega) rfl rfl _ HB.out).mono ?_
  rintro e w1 ⟨rfl, rfl⟩
  go_wp2_with fail
  go_ret
  refine ⟨rfl, HB.out.rowPut (g := joined01) 1 0 fun i _ => rfl, (Below.refl b w).setCell (Nat.le_refl _) _⟩

end Go.Proofs.YtkmpdcckgibkhaaGreat
