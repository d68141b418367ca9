/-
  Walks: the net with one street.
-/
import Derived.Test.YtkmpdcckgibkhaaGreatQa
namespace Go.Proofs.YtkmpdcckgibkhaaGreat
open Go.RowKit

/-- The street from 0 to 1 of the weight 5. -/
structure Street (w : World) (g : Nat) : Prop where
  lt : g < w.heap.size
  c0 : w.cell? ⟨g, 0, none⟩ = some (.int .i64 0)
  c1 : w.cell? ⟨g, 1, none⟩ = some (.int .i64 1)
  c2 : w.cell? ⟨g, 2, none⟩ = some (.int .i64 5)
theorem Street.below {w w' : World} {g B : Nat} (h : Street w g) (hb : Below B w w') (hB : w.heap.size ≤ B) : Street w' g :=
  have hl : g < B := Nat.lt_of_lt_of_le h.lt hB
  ⟨Nat.lt_of_lt_of_le h.lt hb.size, (hb.cell (p := ⟨g, 0, none⟩) hl).trans h.c0, (hb.cell (p := ⟨g, 1, none⟩) hl).trans h.c1, (hb.cell (p := ⟨g, 2, none⟩) hl).trans h.c2⟩

set_option maxHeartbeats 1000000 in
theorem bad_no (p : Nat) (w : World) (hp : w.cell? ⟨p, 0, none⟩ = some (.int .i64 2)) (hpl : p < w.heap.size) :
    Calls Tryz.prog 123 #[.agg #[.int .i64 0, .int .i64 1, .int .i64 5], .pointer (some ⟨p, 0, none⟩)] w (RetB (.bool false) w) := by
  have hb := (Below.refl _ w).alloc (Nat.le_refl _) (.cells #[.int .i64 0, .int .i64 1, .int .i64 5] 109)
  have b0 := Blk.new w #[.int .i64 0, .int .i64 1, .int .i64 5] 109
  have hp2 : (w.alloc (.cells #[.int .i64 0, .int .i64 1, .int .i64 5] 109)).cell? ⟨p, 0, none⟩ = some (.int .i64 2) := (hb.cell (p := ⟨p, 0, none⟩) hpl).trans hp
  have r0 := b0.cell 0
  have r1 := b0.cell 1
  have r2 := b0.cell 2
  clear hp b0
  go_enter Tryz.func123, Tryz.ntmps123
  go_wp2_with fail
  generalize w.alloc (.cells #[.int .i64 0, .int .i64 1, .int .i64 5] 109) = W at *
  go_wp2_with (go_at_call 124; refine (within124_yes _ _ _ _ (by simp) (by simp)).mono ?_; rintro e w1 ⟨rfl, rfl⟩)
  go_ret
  exact ⟨rfl, hb⟩

set_option maxHeartbeats 1000000 in
theorem index_no (p g c : Nat) (w : World) (hp : w.cell? ⟨p, 0, none⟩ = some (.int .i64 2)) (hpl : p < w.heap.size) (hs : Street w g) :
    Calls Tryz.prog 144 #[.slice (some ⟨g, 0, none⟩) 1 c, .func (.func 123) #[] #[.pointer (some ⟨p, 0, none⟩)]] w (RetB (.int .i64 (-1)) w) := by
  have C := hid (bad_no p w hp hpl)
  obtain ⟨hl, c0, c1, c2⟩ := hs
  clear hp
  go_enter Tryz.func144, Tryz.ntmps144
  go_wp2_with fail
  refine wp_loop_rounds 2 ?_
  rw [rounds_succ]
  go_wp2_with fail
  refine C.out.mono ?_
  rintro e w1 ⟨rfl, hb⟩
  go_wp2_with fail
  rw [rounds_succ]
  go_wp2_with fail
  go_ret
  exact ⟨rfl, hb⟩

theorem contains_no (p g c : Nat) (w : World) (hp : w.cell? ⟨p, 0, none⟩ = some (.int .i64 2)) (hpl : p < w.heap.size) (hs : Street w g) :
    Calls Tryz.prog 125 #[.slice (some ⟨g, 0, none⟩) 1 c, .func (.func 123) #[] #[.pointer (some ⟨p, 0, none⟩)]] w (RetB (.bool false) w) := by
  have C := hid (index_no p g c w hp hpl hs)
  clear hp hs
  go_enter Tryz.func125, Tryz.ntmps125
  go_wp2_with fail
  refine C.out.mono ?_
  rintro e w1 ⟨rfl, hb⟩
  go_wp2_with fail
  go_ret
  exact ⟨rfl, hb⟩

/-- The net of two vertices and one street. -/
def netV (g c : Nat) : Value := .agg #[.int .i64 2, .slice (some ⟨g, 0, none⟩) 1 c]

set_option maxHeartbeats 2000000 in
theorem newNet_one (g c : Nat) (w : World) (hs : Street w g) :
    Calls Tryz.prog 91 #[.int .i64 2, .slice (some ⟨g, 0, none⟩) 1 c] w (RetB (.tuple #[netV g c, .bool true]) w) := by
  have HS := hid hs
  clear hs
  have hmf : ∀ (fn : Fn) (first cap : Array Value) (w : World), (Instr.makeFunc fn first cap).run Tryz.prog w = .ok (.func fn first cap) w := fun _ _ _ _ => rfl
  have hb := ((Below.refl _ w).alloc (Nat.le_refl _) (.cells #[.int .i64 2] 3)).alloc (by simp) (.cells #[.int .i64 0, .slice none 0 0] 146)
  have b1 := (Blk.new w #[.int .i64 2] 3).alloc (.cells #[.int .i64 0, .slice none 0 0] 146)
  have b2 := Blk.new (w.alloc (.cells #[.int .i64 2] 3)) #[.int .i64 0, .slice none 0 0] 146
  rw [show (w.alloc (.cells #[.int .i64 2] 3)).heap.size = w.heap.size + 1 by simp] at b2
  go_enter Tryz.func91, Tryz.ntmps91
  go_wp2_with fail
  generalize (w.alloc (.cells #[.int .i64 2] 3)).alloc (.cells #[.int .i64 0, .slice none 0 0] 146) = W at *
  have p0 := b1.cell 0
  refine (within124_yes _ _ _ _ (by simp) (by simp)).mono ?_
  rintro e w1 ⟨rfl, rfl⟩
  go_wp2_with fail
  refine (contains_no w.heap.size g c _ p0 b1.lt (HS.out.below hb (Nat.le_refl _))).mono ?_
  rintro e w1 ⟨rfl, hb1⟩
  have b1 := b1.below hb1 b1.lt
  have b2 := b2.below hb1 b2.lt
  have hb := hb.trans (hb1.mono hb.size)
  clear p0
  have p0 := b1.cell 0
  obtain ⟨r0, r1, z0, z1⟩ := b2.two
  have b3 := b2.put2 (.int .i64 2) (.slice (some ⟨g, 0, none⟩) 1 c)
  have hb3 : Below w.heap.size w ((w1.setCell ⟨w.heap.size + 1, 0, none⟩ (.int .i64 2)).setCell ⟨w.heap.size + 1, 1, none⟩ (.slice (some ⟨g, 0, none⟩) 1 c)) := (hb.setCell (by simp) _).setCell (by simp) _
  clear hb1 hb b1
  go_wp2_with fail
  generalize (w1.setCell ⟨w.heap.size + 1, 0, none⟩ (.int .i64 2)).setCell ⟨w.heap.size + 1, 1, none⟩ (.slice (some ⟨g, 0, none⟩) 1 c) = W2 at *
  clear r0 r1 z0 z1
  obtain ⟨r0, r1, z0, z1⟩ := b3.two
  exact bodyPost_ret (v := .tuple #[netV g c, .bool true]) (by simp [results, Tryz.results91, go_sem, r0, r1, netV]) rfl ⟨rfl, hb3⟩

end Go.Proofs.YtkmpdcckgibkhaaGreat
