/-
  Walks: Concat of nil, one number and nil.
-/
import Derived.Test.YtkmpdcckgibkhaaGreatP
namespace Go.Proofs.YtkmpdcckgibkhaaGreat
open Go.RowKit

/-- Three slices: nil, that of the number 0, nil. -/
def Parts3 (w : World) (g h ch : Nat) : Prop := g < w.heap.size ∧ w.cell? ⟨g, 0, none⟩ = some (.slice none 0 0) ∧ w.cell? ⟨g, 1, none⟩ = some (.slice (some ⟨h, 0, none⟩) 1 ch) ∧ w.cell? ⟨g, 2, none⟩ = some (.slice none 0 0) ∧ Ints w (some ⟨h, 0, none⟩) [0]
theorem Parts3.below {w w' : World} {g h ch B : Nat} (hp : Parts3 w g h ch) (hb : Below B w w') (hB : w.heap.size ≤ B) : Parts3 w' g h ch :=
  have hg : g < B := Nat.lt_of_lt_of_le hp.1 hB
  ⟨Nat.lt_of_lt_of_le hp.1 hb.size, (hb.cell (p := ⟨g, 0, none⟩) hg).trans hp.2.1, (hb.cell (p := ⟨g, 1, none⟩) hg).trans hp.2.2.1, (hb.cell (p := ⟨g, 2, none⟩) hg).trans hp.2.2.2.1, hp.2.2.2.2.below hb hB⟩

set_option maxHeartbeats 2000000 in
theorem concat1 (g h ch c3 : Nat) (w : World) (hp : Parts3 w g h ch) : Calls Tryz.prog 132 #[.slice (some ⟨g, 0, none⟩) 3 c3] w (RetInts [0] w) := by
  have HP := hid hp
  obtain ⟨-, q0, q1, q2, -⟩ := hp
  go_enter Tryz.func132, Tryz.ntmps132
  go_wp2_with fail
  refine wp_loop_rounds 4 ?_
  iterate 4
    rw [rounds_succ]
    go_wp2_with fail
  refine (grow1 _).mono ?_
  rintro e w1 ⟨v, rfl, hown, hB⟩
  clear q0 q1 q2
  obtain ⟨-, q0, q1, q2, -⟩ := HP.out.below hB (Nat.le_refl _)
  go_wp2_with fail
  refine wp_loop_rounds 4 ?_
  rw [rounds_succ]
  go_wp2_with (at_builtin; go_must (refine wpList_app _ rfl (.tmp 31) (.tmp 32) 24 rfl w.heap.size 3 (.int .i64 0) 8 Tryz.underlying24 info3 rfl _ 0 _ rfl hown none 0 0 [] rfl rfl (.inl rfl) (fun h => ⟨rfl, rfl⟩) (by simp) (by omega) (by omega) hB.size ?_))
  intro v2 w2 hown2 hgrow2 _
  have hB2 := below_app hB hgrow2 hown hB.size (Nat.le_refl _)
  clear hown hgrow2 hB q0 q1 q2
  obtain ⟨-, q0, q1, q2, hi⟩ := HP.out.below hB2 (Nat.le_refl _)
  go_wp2_with fail
  rw [rounds_succ]
  go_wp2_with (at_builtin; go_must (refine wpList_app _ rfl (.tmp 31) (.tmp 32) 24 rfl w.heap.size 3 (.int .i64 0) 8 Tryz.underlying24 info3 rfl _ 0 _ rfl hown2 (some ⟨h, 0, none⟩) 1 ch [.int .i64 0] rfl rfl hi (fun h => by cases h) (by simp [Value.oneCell']) (by omega) (by omega) hB2.size ?_))
  intro v3 w3 hown3 hgrow3 _
  have hB3 := below_app hB2 hgrow3 hown2 hB2.size (Nat.le_refl _)
  clear hown2 hgrow3 hB2 q0 q1 q2 hi
  obtain ⟨-, q0, q1, q2, hi⟩ := HP.out.below hB3 (Nat.le_refl _)
  go_wp2_with fail
  rw [rounds_succ]
  go_wp2_with (at_builtin; go_must (refine wpList_app _ rfl (.tmp 31) (.tmp 32) 24 rfl w.heap.size 3 (.int .i64 0) 8 Tryz.underlying24 info3 rfl _ 1 _ rfl hown3 none 0 0 [] rfl rfl (.inl rfl) (fun h => ⟨rfl, rfl⟩) (by simp) (by omega) (by omega) hB3.size ?_))
  intro v4 w4 hown4 hgrow4 _
  have hB4 := below_app hB3 hgrow4 hown3 hB3.size (Nat.le_refl _)
  clear hown3 hgrow4 hB3 q0 q1 q2 hi
  go_wp2_with fail
  rw [rounds_succ]
  go_wp2_with fail
  go_ret
  obtain ⟨a, c, hv, hr⟩ := ownsRow_ints (l := [0]) hown4
  subst hv
  exact ⟨a, c, rfl, hr, hB4⟩
end Go.Proofs.YtkmpdcckgibkhaaGreat
