/-
  Walks: sorting one number.
-/
import Derived.Test.YtkmpdcckgibkhaaGreatQb
namespace Go.Proofs.YtkmpdcckgibkhaaGreat
open Go.RowKit

set_option maxRecDepth 100000 in
set_option maxHeartbeats 1000000 in
theorem len64_1 (w : World) : Calls Tryz.prog 172 #[.int .u64 1] w fun e w' => e = .returned (.int .i64 1) ∧ w = w' := by
  go_enter Tryz.func172, Tryz.ntmps172
  go_wp2_with fail
  go_ret
  exact ⟨ret_int (by kernel_rfl), rfl⟩

theorem len_1 (w : World) : Calls Tryz.prog 159 #[.int .u64 1] w fun e w' => e = .returned (.int .i64 1) ∧ w = w' := by
  go_enter Tryz.func159, Tryz.ntmps159
  go_wp2_with fail
  refine (len64_1 _).mono ?_
  rintro e w1 ⟨rfl, rfl⟩
  go_wp2_with fail
  go_ret
  exact ⟨rfl, rfl⟩

theorem insert_1 (v f : Value) (w : World) : Calls Tryz.prog 163 #[v, .int .i64 0, .int .i64 1, f] w fun e w' => e = .returned (.tuple #[]) ∧ w = w' := by
  go_enter Tryz.func163, Tryz.ntmps163
  go_wp2_with fail
  refine wp_loop_rounds 1 ?_
  rw [rounds_succ]
  go_wp2_with fail
  go_returns
  exact ⟨rfl, rfl⟩

set_option maxRecDepth 100000 in
set_option maxHeartbeats 1000000 in
theorem pdq_1 (v f : Value) (w : World) : Calls Tryz.prog 158 #[v, .int .i64 0, .int .i64 1, .int .i64 1, f] w fun e w' => e = .returned (.tuple #[]) ∧ w = w' := by
  go_enter Tryz.func158, Tryz.ntmps158
  go_wp2_with fail
  refine wp_loop_rounds 1 ?_
  rw [rounds_succ]
  go_wp2_with fail
  refine (insert_1 _ _ _).mono ?_
  rintro e w1 ⟨rfl, rfl⟩
  go_wp2_with fail
  go_returns
  exact ⟨rfl, rfl⟩

theorem sort_1 (a : Option Addr) (c : Nat) (f : Value) (w : World) : Calls Tryz.prog 145 #[.slice a 1 c, f] w fun e w' => e = .returned (.tuple #[]) ∧ w = w' := by
  go_enter Tryz.func145, Tryz.ntmps145
  go_wp2_with fail
  refine (len_1 _).mono ?_
  rintro e w1 ⟨rfl, rfl⟩
  go_wp2_with fail
  refine (pdq_1 _ _ _).mono ?_
  rintro e w1 ⟨rfl, rfl⟩
  go_wp2_with fail
  go_returns
  exact ⟨rfl, rfl⟩

set_option maxHeartbeats 1000000 in
theorem ordered_1 (g c : Nat) (w : World) : Calls Tryz.prog 127 #[netV g c] w fun e w' => ∃ a k, e = .returned (.slice a 1 k) ∧ Ints w' a [0] ∧ Below w.heap.size w w' ∧ 1 ≤ k := by
  have hmf : ∀ (fn : Fn) (first cap : Array Value) (w : World), (Instr.makeFunc fn first cap).run Tryz.prog w = .ok (.func fn first cap) w := fun _ _ _ _ => rfl
  have hb := (Below.refl _ w).alloc (Nat.le_refl _) (.cells #[.int .i64 2, .slice (some ⟨g, 0, none⟩) 1 c] 146)
  obtain ⟨r0, r1, -, -⟩ := (Blk.new w #[.int .i64 2, .slice (some ⟨g, 0, none⟩) 1 c] 146).two
  have hn : netV g c = .agg #[.int .i64 2, .slice (some ⟨g, 0, none⟩) 1 c] := rfl
  rw [hn]
  go_enter Tryz.func127, Tryz.ntmps127
  go_wp2_with fail
  generalize w.alloc (.cells #[.int .i64 2, .slice (some ⟨g, 0, none⟩) 1 c] 146) = W at *
  refine wp_loop_rounds 2 ?_
  rw [rounds_succ]
  have hown : W.ownsRow w.heap.size 3 1 (.slice none 0 0) 0 [] := ⟨rfl, .inl ⟨rfl, rfl⟩⟩
  go_wp2_with (at_builtin; go_must (refine wpList_app _ rfl (.tmp 11) (.tmp 13) 24 rfl w.heap.size 3 (.int .i64 0) 8 Tryz.underlying24 info3 rfl _ 0 _ rfl (hown.alloc _) (some ⟨W.heap.size, 0, none⟩) 1 1 [.int .i64 0] rfl rfl (vals_new _ _ _ _ rfl) (fun h => by cases h) (by simp [Value.oneCell']) (by omega) (by omega) (hb.alloc hb.size _).size ?_))
  intro v2 w2 hown2 hgrow2 _
  have hb2 := below_app (hb.alloc hb.size _) hgrow2 (hown.alloc _) (hb.alloc hb.size _).size (Nat.le_refl _)
  obtain ⟨a, k, rfl, hr⟩ := ownsRow_ints (l := [0]) hown2
  have hk := (ownsRow_facts hown2).2.1
  clear hown hgrow2 hown2 hb
  go_wp2_with fail
  rw [rounds_succ]
  go_wp2_with fail
  refine (sort_1 a k _ _).mono ?_
  rintro e w1 ⟨rfl, rfl⟩
  go_wp2_with fail
  go_ret
  exact ⟨a, k, rfl, hr, hb2, hk⟩

end Go.Proofs.YtkmpdcckgibkhaaGreat
