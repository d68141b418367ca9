/-
  Walks: the order at a position.
-/
import Derived.Test.YtkmpdcckgibkhaaGreatOb
namespace Go.Proofs.YtkmpdcckgibkhaaGreat
open Go.RowKit

def digL : Nat → Nat → List Nat
  | 0, _ => []
  | m + 1, k => k / facN m :: digL m (k % facN m)
def ordL (n k : Nat) : List Int := orderOf (digL n k)
theorem digL_len : ∀ n k, (digL n k).length = n := by
  intro n
  induction n with
  | zero => intro k; rfl
  | succ m ih => intro k; simp [digL, ih]
theorem ordL_len (n k : Nat) : (ordL n k).length = n := by unfold ordL orderOf; rw [pick_len, digL_len]
theorem dig_small : ∀ n, n < 6 → ∀ k, k < facN n → okGo n (digL n k) = true ∧ ∀ i, i < 12 → ((tabN (ordL n k) (ordL n k).length i : Nat) : Int) = digT (digL n k) n i := by decide +kernel
theorem facN_pos : ∀ n, 0 < facN n := by
  intro n
  induction n with
  | zero => decide
  | succ m ih => exact Nat.mul_pos ih (by omega)

theorem small_wrap (Q : Nat) (h : Q ≤ 479001600) : wrap64 (Q : Int) = (Q : Int) ∧ IntKind.i64.wrap (Q : Int) = (Q : Int) := ⟨by unfold wrap64; omega, by rw [IntKind.wrap_i64]; omega⟩
theorem less_wrap (m : Nat) (h : m ≤ 479001600) : wrap64 ((m : Int) - 1) = (m : Int) - 1 ∧ IntKind.i64.wrap ((m : Int) - 1) = (m : Int) - 1 := ⟨by unfold wrap64; omega, by rw [IntKind.wrap_i64]; omega⟩

set_option maxHeartbeats 4000000 in
theorem item_ok (n k : Nat) (hn : n < 6) (hk : k < facN n) (w : World) :
    Calls Tryz.prog 8 #[.int .i64 n, .int .i64 k] w fun e w' => ∃ a c, e = .returned (.tuple #[.slice a n c, .int .i64 0]) ∧ Ints w' a (ordL n k) ∧ Below w.heap.size w w' := by
  have hf := facN_le n (by omega)
  have hw1 : wrap64 ((facN n : Int) - 1) = (facN n : Int) - 1 := by unfold wrap64; omega
  have hw2 : wrap64 ((n : Int) - 1) = (n : Int) - 1 := by unfold wrap64; omega
  have F := fun w => hid (factorial_any n (by omega) w)
  go_enter Tryz.func8, Tryz.ntmps8
  go_wp2_with fail
  refine (within22_yes _ _ _ _ (by omega) (by omega)).mono ?_
  rintro e w1 ⟨rfl, rfl⟩
  go_wp2_with fail
  refine (F _).out.mono ?_
  rintro e w1 ⟨rfl, rfl⟩
  go_wp2_with fail
  refine (within22_yes _ _ _ _ (by omega) (by omega)).mono ?_
  rintro e w1 ⟨rfl, rfl⟩
  go_wp2_with fail
  go_loopw [1, 6, 7] (fun kv tv mv W => ∃ (j k' : Nat) (T : List Nat), j ≤ n ∧ kv = .int .i64 k' ∧ mv = .int .i64 ((j : Int) - 1) ∧ k' < facN j ∧ Below w.heap.size w W ∧ W.ownsRow w.heap.size 3 1 tv (n - j) ((T.map fun d => ((d : Nat) : Int)).map (Value.int .i64)) ∧ T.length = n - j ∧ Hid (T ++ digL j k' = digL n k)) (fun _ _ mv _ => (intOf mv + 1).toNat)
  case atStart => exact ⟨n, k, [], Nat.le_refl _, rfl, rfl, hk, Below.refl _ _, by rw [Nat.sub_self]; exact ⟨rfl, .inl ⟨rfl, rfl⟩⟩, by simp, rfl⟩
  case round =>
    obtain ⟨j, k', T, hj, rfl, rfl, hk', hB, hown, hTl, HT⟩ := hrel
    by_cases hlt : 0 < j
    · obtain ⟨m, rfl⟩ : ∃ m, j = m + 1 := ⟨j - 1, by omega⟩
      have hjm : ((m + 1 : Nat) : Int) - 1 = (m : Int) := by omega
      rw [hjm]
      have fm := facN_le m (by omega)
      have fp := facN_pos m
      have FM := fun w => hid (factorial_any m (by omega) w)
      have hq : Int.tdiv (k' : Int) (facN m : Int) = ((k' / facN m : Nat) : Int) := by rw [Int.tdiv_eq_ediv_of_nonneg (by omega)]; rfl
      have hr : Int.tmod (k' : Int) (facN m : Int) = ((k' % facN m : Nat) : Int) := by rw [Int.tmod_eq_emod_of_nonneg (by omega)]; rfl
      have hz : ¬ (facN m : Int) = 0 := by omega
      have hk2 : k' % facN m < facN m := Nat.mod_lt _ fp
      have fm1 := facN_le (m + 1) (by omega)
      have hqb : k' / facN m ≤ k' := Nat.div_le_self _ _
      have HT2 := hid (show (T ++ [k' / facN m]) ++ digL m (k' % facN m) = digL n k by rw [List.append_assoc]; exact HT.out)
      clear hjm HT
      generalize hQ : k' / facN m = Q at *
      generalize hR : k' % facN m = R at *
      clear hQ hR hk hf hw1 hw2 F
      obtain ⟨hkb, hQb, hRb, hYb⟩ : k' ≤ 479001600 ∧ Q ≤ 479001600 ∧ R ≤ 479001600 ∧ facN m ≤ 479001600 := ⟨by omega, by omega, by omega, fm⟩
      have HK2 := hid hk2
      clear fm1 fm hk' hk2 hqb
      generalize hY : facN m = Y at *
      replace hY := hid hY
      obtain ⟨hqw, hqw2⟩ := small_wrap Q hQb
      obtain ⟨hrw, hrw2⟩ := small_wrap R hRb
      obtain ⟨hw3, hw4⟩ := less_wrap m (by omega)
      go_wp2_with fail
      refine (FM _).out.mono ?_
      rintro e w1 ⟨rfl, rfl⟩
      go_wp2_with (at_builtin; go_must (refine wpList_app _ rfl (.tmp 25) (.tmp 30) 24 rfl w.heap.size 3 (.int .i64 0) 8 Tryz.underlying24 infoS3 rfl _ (n - (m + 1)) _ rfl (hown.alloc _) (some ⟨wr.heap.size, 0, none⟩) 1 1 [.int .i64 _] rfl rfl (vals_new _ _ _ _ rfl) (fun h => by cases h) (by simp [Value.oneCell']) (by omega) (by omega) (by have := hB.size; simp; omega) ?_))
      intro v' w1 hown' hgrow _
      have hB' := below_app (hB.alloc hB.size _) hgrow (hown.alloc _) (by have := hB.size; simp; omega) (Nat.le_refl _)
      have hown2 : w1.ownsRow w.heap.size 3 1 v' (n - m) (((T ++ [Q]).map fun d => ((d : Nat) : Int)).map (Value.int .i64)) := by
        rw [List.map_append, List.map_append, show n - m = n - (m + 1) + 1 by omega]
        simpa using hown'
      clear hown' hgrow hown hB
      go_wp2_with fail
      refine (FM _).out.mono ?_
      rintro e w2 ⟨rfl, rfl⟩
      go_wp2_with fail
      exact ⟨⟨m, R, T ++ [Q], by omega, rfl, rfl, by rw [hY.out]; exact HK2.out, hB', hown2, by rw [List.length_append, hTl, List.length_singleton]; omega, HT2⟩, by simp [intOf]⟩
    · have hj0 : j = 0 := by omega
      subst hj0
      have hTT : T = digL n k := by have := HT.out; simpa [digL] using this
      subst hTT
      obtain ⟨a, c, rfl, hi⟩ := ownsRow_ints (l := (digL n k).map fun d => ((d : Nat) : Int)) hown
      have HD := dig_small n hn k hk
      have hOK := order_ok a c (digL n k) wr hi (by rw [digL_len]; omega) (by rw [digL_len]; exact HD.1) (rowA_congr fun i hi => by rw [digL_len]; exact HD.2 i hi)
      rw [digL_len] at hOK
      rw [List.length_map, digL_len]
      have HO := hid hOK
      clear hOK hi hown HT
      go_wp2_with fail
      refine HO.out.mono ?_
      rintro e w1 ⟨a2, c2, rfl, hi2, hb2⟩
      have hF := hid (And.intro hi2 (hB.trans (hb2.mono hB.size)))
      clear hi2 hb2 hB
      go_wp2_with fail
      go_ret2
      exact ⟨a2, c2, rfl, hF.out⟩

end Go.Proofs.YtkmpdcckgibkhaaGreat
