/-
  Walks: the vector of the tree with one fork.
-/
import Derived.Test.YtkmpdcckgibkhaaGreatPa
import Derived.Deep.RegionHeld3
namespace Go.Proofs.YtkmpdcckgibkhaaGreat
open Go.RowKit

theorem leaf_size (w : World) : Calls Tryz.prog 204 #[.agg #[]] w (RetB (.int .i64 0) w) := by
  go_enter Tryz.func204, Tryz.ntmps204
  go_wp2_with fail
  go_ret
  exact ⟨rfl, (Below.refl _ w).alloc (Nat.le_refl _) _⟩

theorem assert_leaf (w : World) : (Instr.typeAssert (.iface 221 (.agg #[])) 155 195 true).run Tryz.prog w = .ok (.tuple #[.agg #[.nilIface, .nilIface], .bool false]) w := by kernel_rfl
theorem assert_fork (x y : Value) (w : World) : (Instr.typeAssert (.iface 195 (.agg #[x, y])) 155 195 true).run Tryz.prog w = .ok (.tuple #[.agg #[x, y], .bool true]) w := by kernel_rfl

set_option maxRecDepth 100000 in
set_option maxHeartbeats 1000000 in
theorem leaf_vec (w : World) : Calls Tryz.prog 97 #[.iface 221 (.agg #[])] w (RetB (.slice none 0 0) w) := by
  have b0 := Blk.new w #[.nilIface, .nilIface] 195
  have hb := (Below.refl _ w).alloc (Nat.le_refl _) (.cells #[.nilIface, .nilIface] 195)
  obtain ⟨q0, q1, z0, z1⟩ := b0.two
  have ha := assert_leaf
  go_enter Tryz.func97, Tryz.ntmps97
  go_wp2_with fail
  go_ret
  exact ⟨rfl, hb⟩


/-- The fork's copy with two leaves, made since 'w'. -/
def LL (w W : World) : Prop := Below w.heap.size w W ∧ Blk W w.heap.size #[.iface 221 (.agg #[]), .iface 221 (.agg #[])] 195
theorem LL.drew {w W : World} (h : LL w W) : LL w W.drew := ⟨h.1.drew, h.2⟩
theorem LL.alloc {w W : World} (h : LL w W) (o : Obj) : LL w (W.alloc o) := ⟨h.1.alloc h.1.size o, h.2.alloc o⟩
/-- Behind a call. -/
def LLe (v : Value) (w V : World) (e : Ending) (W : World) : Prop := e = .returned v ∧ Below V.heap.size V W ∧ LL w W ∧ W.cell? ⟨w.heap.size, 0, none⟩ = some (.iface 221 (.agg #[])) ∧ W.cell? ⟨w.heap.size, 1, none⟩ = some (.iface 221 (.agg #[])) ∧ (∀ o, (W.alloc o).cell? ⟨w.heap.size, 1, none⟩ = some (.iface 221 (.agg #[])))
theorem parts_A (W : World) (g : Nat) (hg : g = W.heap.size + 1) : Parts3 ((W.alloc (.cells #[.int .i64 0] 3)).alloc (.cells #[.slice none 0 0, .slice (some ⟨W.heap.size, 0, none⟩) 1 1, .slice none 0 0] 24)) g W.heap.size 1 := by
  have b := Blk.new (W.alloc (.cells #[.int .i64 0] 3)) #[.slice none 0 0, .slice (some ⟨W.heap.size, 0, none⟩) 1 1, .slice none 0 0] 24
  have hs : (W.alloc (.cells #[.int .i64 0] 3)).heap.size = g := by rw [hg]; simp
  rw [hs] at b
  have b1 := (Blk.new W #[.int .i64 0] 3).alloc (.cells #[.slice none 0 0, .slice (some ⟨W.heap.size, 0, none⟩) 1 1, .slice none 0 0] 24)
  refine ⟨b.lt, b.cell 0, b.cell 1, b.cell 2, .inr ⟨_, _, rfl, b1.lt, fun i u hu => ?_⟩⟩
  rw [Nat.zero_add]
  exact (b1.cell i).trans (by simpa using hu)
theorem parts_B (V W : World) (hb : Below (V.alloc (.cells #[.int .i64 0] 3)).heap.size (V.alloc (.cells #[.int .i64 0] 3)) W) :
    Parts3 (W.alloc (.cells #[.slice none 0 0, .slice (some ⟨V.heap.size, 0, none⟩) 1 1, .slice none 0 0] 24)) W.heap.size V.heap.size 1 := by
  have b := Blk.new W #[.slice none 0 0, .slice (some ⟨V.heap.size, 0, none⟩) 1 1, .slice none 0 0] 24
  have b1 := ((Blk.new V #[.int .i64 0] 3).below hb (by simp)).alloc (.cells #[.slice none 0 0, .slice (some ⟨V.heap.size, 0, none⟩) 1 1, .slice none 0 0] 24)
  refine ⟨b.lt, b.cell 0, b.cell 1, b.cell 2, .inr ⟨_, _, rfl, b1.lt, fun i u hu => ?_⟩⟩
  rw [Nat.zero_add]
  exact (b1.cell i).trans (by simpa using hu)
theorem concatE (g c3 : Nat) (w : World) (hp : ∃ h ch, Parts3 w g h ch) : Calls Tryz.prog 132 #[.slice (some ⟨g, 0, none⟩) 3 c3] w (RetInts [0] w) := by
  obtain ⟨h, ch, hp⟩ := hp
  exact concat1 g h ch c3 w hp
theorem LL.next {w W W' : World} (h : LL w W) (hb : Below W.heap.size W W') : LL w W' := ⟨h.1.trans (hb.mono h.1.size), h.2.below hb h.2.lt⟩
theorem leaf_vec2 (w W : World) (h : LL w W) : Calls Tryz.prog 97 #[.iface 221 (.agg #[])] W (LLe (.slice none 0 0) w W) :=
  (leaf_vec W).mono fun _ _ h' => ⟨h'.1, h'.2, h.next h'.2, (h.next h'.2).2.cell 0, (h.next h'.2).2.cell 1, fun o => ((h.next h'.2).alloc o).2.cell 1⟩
theorem leaf_size2 (w W : World) (h : LL w W) : Calls Tryz.prog 204 #[.agg #[]] W (LLe (.int .i64 0) w W) :=
  (leaf_size W).mono fun _ _ h' => ⟨h'.1, h'.2, h.next h'.2, (h.next h'.2).2.cell 0, (h.next h'.2).2.cell 1, fun o => ((h.next h'.2).alloc o).2.cell 1⟩

set_option maxRecDepth 100000 in
set_option maxHeartbeats 4000000 in
theorem fork_vec (w : World) : Calls Tryz.prog 97 #[.iface 195 (.agg #[.iface 221 (.agg #[]), .iface 221 (.agg #[])])] w (RetInts [0] w) := by
  have ha := assert_fork
  have hI : LL w (w.alloc (.cells #[.iface 221 (.agg #[]), .iface 221 (.agg #[])] 195)) := ⟨(Below.refl _ w).alloc (Nat.le_refl _) _, Blk.new w _ _⟩
  go_enter Tryz.func97, Tryz.ntmps97
  go_wp2_with fail
  generalize w.alloc (.cells #[.iface 221 (.agg #[]), .iface 221 (.agg #[])] 195) = W at *
  have c0 := hI.2.cell 0
  have c1 := hI.2.cell 1
  go_region_held3 (fun W' => W'.cell? ⟨w.heap.size, 0, none⟩ = some (.iface 221 (.agg #[])) ∧ W'.cell? ⟨w.heap.size, 1, none⟩ = some (.iface 221 (.agg #[]))) (go_keep) (first
    | (go_at_call 97; refine (leaf_vec2 w _ (by first | exact hI | exact hI.drew | exact hI.alloc _)).mono ?_; rintro e w' ⟨rfl, hbl, hI', c0, c1, c2⟩; replace hI := hI')
    | (go_at_call 204; refine (leaf_size2 w _ (by first | exact hI | exact hI.drew | exact hI.alloc _)).mono ?_; rintro e w' ⟨rfl, hbl, hI', c0, c1, c2⟩; replace hI := hI')
    | (go_at_call 132; refine (concatE _ 3 _ (by first | exact ⟨_, _, parts_A _ _ (by simp)⟩ | exact ⟨_, _, parts_B _ _ hbl⟩)).mono ?_; rintro e w' ⟨a, c, rfl, hr, hbl⟩; replace hI := (show LL w _ from LL.next (by first | exact hI.alloc _ | exact (hI.alloc _).alloc _) hbl); have c0 := hI.2.cell 0; have c1 := hI.2.cell 1))
  all_goals (go_wp2_with fail; go_ret; exact ⟨_, _, rfl, hr, hI.1⟩)

end Go.Proofs.YtkmpdcckgibkhaaGreat
