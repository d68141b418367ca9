/-
  Walks: Count of the net with one street.
-/
import Derived.Test.YtkmpdcckgibkhaaGreatQh
namespace Go.Proofs.YtkmpdcckgibkhaaGreat
open Go.RowKit

set_option maxRecDepth 100000 in
set_option maxHeartbeats 4000000 in
theorem count_1 (g c : Nat) (w : World) (hs : Street w g) : Calls Tryz.prog 59 #[.int .i64 2, .slice (some ⟨g, 0, none⟩) 1 c] w (RetB (.tuple #[.int .i64 1, .int .i64 0]) w) := by
  have HNV := hid (show netV g c = .agg #[.int .i64 2, .slice (some ⟨g, 0, none⟩) 1 c] from rfl)
  have HS := hid hs
  clear hs
  go_enter Tryz.func59, Tryz.ntmps59
  go_wp2_with fail
  refine (newNet_one g c _ HS.out).mono ?_
  rintro e w1 ⟨rfl, hb1⟩
  rw [HNV.out]
  have hN := NetAt.new g c w1 (HS.out.below hb1 (Nat.le_refl _))
  have hb := hb1.alloc hb1.size (.cells #[.int .i64 2, .slice (some ⟨g, 0, none⟩) 1 c] 146)
  have n0' := hN.n0
  have n1' := hN.n1
  go_wp2_with fail
  have hl := hb1.size
  have hsz : (w1.alloc (.cells #[.int .i64 2, .slice (some ⟨g, 0, none⟩) 1 c] 146)).heap.size = w1.heap.size + 1 := by simp
  generalize w1.alloc (.cells #[.int .i64 2, .slice (some ⟨g, 0, none⟩) 1 c] 146) = W at *
  generalize w1.heap.size = n at *
  rw [← HNV.out]
  refine (tree_1 g c _ hN.street).mono ?_
  rintro e w2 ⟨v, rfl, hb2⟩
  have hN2 := hN.below hb2 (by omega)
  have hb3 := hb.trans (hb2.mono hb.size)
  clear hN n0' n1' hb hb2
  have n0 := hN2.n0
  have n1 := hN2.n1
  go_wp2_with fail
  have S1 := hid fun (V : World) (p : Int) (h : p = 2147483647 ∨ p = 2147483629) (hb : Below w2.heap.size w2 V) =>
    (smallest_1 g c p (by omega) (by omega) V (hN2.below hb hN2.bs).street).mono (R' := fun e w' => e = .returned (.int .i64 1) ∧ Below w2.heap.size w2 w' ∧ w'.cell? ⟨n, 0, none⟩ = some (.int .i64 2) ∧ w'.cell? ⟨n, 1, none⟩ = some (.slice (some ⟨g, 0, none⟩) 1 c)) fun e w' h => by
      have hb' := hb.trans (h.2.mono hb.size)
      exact ⟨h.1, hb', (hN2.below hb' hN2.bs).n0, (hN2.below hb' hN2.bs).n1⟩
  rw [HNV.out] at S1
  have hb0 : Below w2.heap.size w2 w2.drew := (Below.refl _ w2).drew
  go_region_held3 (fun W' => W'.cell? ⟨n, 0, none⟩ = some (.int .i64 2) ∧ W'.cell? ⟨n, 1, none⟩ = some (.slice (some ⟨g, 0, none⟩) 1 c)) (go_keep) (first | (go_at_call 93; refine (S1.out _ _ (by simp) (by assumption)).mono ?_; rintro e w3 ⟨rfl, hb5, k0, k1⟩))
  have hF := hb3.trans (hb5.mono hb3.size)
  clear hb0 hb5 k0 k1 S1 n0 n1 hN2 hb3
  go_wp2_with fail
  refine (power_any 18 2147483627 2147483629 _ (by omega) (by omega) (by omega) (by omega) (by omega) (by omega)).mono ?_
  rintro e w4 ⟨⟨u, rfl, x, rfl, hx0, hx1, hx2⟩, rfl⟩
  clear hx2
  go_wp2_with fail
  go_ret2
  exact ⟨rfl, hF⟩

end Go.Proofs.YtkmpdcckgibkhaaGreat
