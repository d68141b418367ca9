/-
  Walks: back, renamed.
-/
import Derived.Test.YthelnggbcgjbcaaTurnM
import Derived.Test.YthelnggbcgjbcaaEven
import Derived.Test.YthelnggbcgjbcaaPrgF
namespace Go.Proofs.Ythelnggbcgjbcaa
open Go.RowKit

theorem extract_one (s : ByteArray) (k : Nat) (h : k < s.size) : s.extract k (k + 1) = mkS [s[k]] := by
  refine mkS_eq _ _ ?_
  rw [data_extract, show k + 1 - k = 1 by omega, bytes_drop s k h]; rfl

set_option maxHeartbeats 1000000 in
theorem back_any (s : ByteArray) (w : World) (hs : s.size ≤ 1000) :
    Calls Try.prog 37 #[.string s] w fun e w' => e = .returned (.string (mkS s.data.toList.reverse)) ∧ w = w' := by
  go_enter Try.func37, Try.ntmps37
  go_wp2
  go_loop [3, 4] (fun v i => ∃ (k : Nat) (t : ByteArray), k ≤ s.size ∧ i = .int .i64 k ∧ v = .string t ∧ t.size = k ∧ Hid (t = mkS (s.data.toList.take k).reverse)) (fun _ i => s.size - (intOf i).toNat)
  case atStart => exact ⟨0, _, by omega, rfl, rfl, rfl, rfl⟩
  case round =>
    obtain ⟨k, t, hk, rfl, rfl, ht, HT⟩ := hrel
    by_cases hlt : k < s.size
    · have e1 := extract_one s k hlt
      obtain ⟨x, hx⟩ : ∃ x, x = s.extract k (k + 1) := ⟨_, rfl⟩
      have hx2 := hx.symm
      have hxs : x.size = 1 := by rw [hx, e1]; rfl
      have hsz : x.size + t.size ≤ 9223372036854775807 := by omega
      have hnew : x ++ t = mkS (s.data.toList.take (k + 1)).reverse := by
        rw [hx, e1, HT.out, mkS_append, take_succ_bytes s k hlt, List.reverse_append]; rfl
      have hns : (x ++ t).size = k + 1 := by rw [ByteArray.size_append]; omega
      have HN := hid hnew
      have HNS := hid hns
      clear e1 hx hxs hnew hns ht
      go_wp2
      go_round
      case rel => exact ⟨k + 1, x ++ t, by omega, by go_num, rfl, HNS.out, HN⟩
      case measure => simp [intOf]; omega
    · have hfin : t = mkS s.data.toList.reverse := by rw [HT.out, take_all_bytes s k (by omega)]
      have HF := hid hfin
      clear hfin ht
      go_wp2
      go_ret
      exact ⟨ret_str (by rw [HF.out]), rfl⟩

theorem mod4 (y : Int) : ∃ k : Nat, k < 4 ∧ (y % 18446744073709551616) % 4 = k :=
  ⟨((y % 18446744073709551616) % 4).toNat, by omega, by omega⟩

set_option maxHeartbeats 1000000 in
theorem renamed_any (s : ByteArray) (y : Int) (k : Nat) (w : World) (hs : s.size ≤ 1000) (hok : s.data.toList.all okb = true) (hy : -9223372036854775808 ≤ y ∧ y ≤ 9223372036854775807) (hk : k < 4) (hyk : (y % 18446744073709551616) % 4 = k) :
    Calls Try.prog 38 #[.string s, .int .i64 y] w fun e w' => e = .returned (.string (mkS (s.data.toList.map (rn k)))) ∧ Below w.heap.size w w' := by
  have HYK := hid hyk
  have HOK := hid hok
  have CM := fun W => hid (mod_any y 4 W (by omega) (by omega) hy)
  clear hyk hok
  go_enter Try.func38, Try.ntmps38
  go_wp2
  go_loopw [5, 6] (fun v i wr => ∃ (j : Nat) (L : List UInt8), j ≤ s.size ∧ i = .int .i64 j ∧ Below w.heap.size w wr ∧ wr.ownsRow w.heap.size 5 1 v L.length (L.map u8v) ∧ L.length = j ∧ Hid (L = (s.data.toList.take j).map (rn k))) (fun _ i _ => s.size - (intOf i).toNat)
  case atStart => exact ⟨0, [], by omega, rfl, Below.refl _ _, World.ownsRow_nil _ _ _ _, rfl, rfl⟩
  case round =>
    obtain ⟨j, L, hj, rfl, hB, hown, hL, HL⟩ := hrel
    have HLj := hid hL
    have hLb : L.length ≤ 1000 := by omega
    clear hL
    by_cases hlt : j < s.size
    · have hl := letter_lt s j HOK.out hlt
      have hX : ∀ X : Int, X = 97 + (((s[j].toNat : Int) - 97 + k) % 4) → L.map u8v ++ [.int .u8 X] = (L ++ [rn k s[j]]).map u8v := by
        rintro _ rfl
        simp only [List.map_append, List.map_cons, List.map_nil, u8v]
        rw [rn_nat]
        congr 3
        omega
      have HX := hid hX
      have hXe : IntKind.u8.wrap (IntKind.i64.wrap (97 + (IntKind.i64.wrap (IntKind.i64.wrap (IntKind.u8.wrap ((s[j].toNat : Int) - 97)) + (k : Int))).tmod 4)) = 97 + (((s[j].toNat : Int) - 97 + k) % 4) := by
        rw [IntWalk.u8_in ((s[j].toNat : Int) - 97) (by omega), IntWalk.i64_in ((s[j].toNat : Int) - 97) (by omega), IntWalk.i64_in ((s[j].toNat : Int) - 97 + (k : Int)) (by omega), Int.tmod_eq_emod_of_nonneg (by omega), IntWalk.i64_in _ (by omega), IntWalk.u8_in _ (by omega)]
      have HXE := hid hXe
      clear hX hXe
      go_wp2_with fail
      go_region_law (first
        | (go_simp; go_at_call 14; refine ((CM _).out).mono ?_; rintro e w5 ⟨rfl, rfl⟩; rw [HYK.out])
        | (refine step_app rfl (.tmp 13) (.tmp 25) 25 rfl w.heap.size 5 (.int .u8 0) 1 Try.underlying25 Try.info5 rfl _ L.length _ rfl (hown.alloc _) (some ⟨wr.heap.size, 0, none⟩) 1 1 [.int .u8 _] rfl rfl (vals_drew (vals_new _ _ _ _ rfl)) (fun h => by cases h) (by simp [Value.oneCell']) (by omega) (by omega) ?_ ?_
           · have := hB.size; simp; omega
           intro v' w3 hown' hgrow))
      all_goals
        rw [HXE.out, HX.out _ rfl] at hown'
        have hB' : Below w.heap.size w w3 := by
          refine below_app (B := w.heap.size) (base := w.heap.size) (e := 5) (n := L.length) (xs := L.map u8v) ?_ hgrow ?_ ?_ (Nat.le_refl _)
          · first | exact (hB.alloc hB.size _).drew | exact hB.drew.alloc hB.size _ | exact hB.alloc hB.size _
          · exact hown.alloc _
          · have := hB.size; simp; omega
        have HB' := hid hB'
        have HO' := hid hown'
        clear hgrow hown' hB'
        go_wp2
        go_roundw
        case rel => exact ⟨j + 1, L ++ [rn k s[j]], by omega, by go_num, HB'.out, by simpa using HO'.out, by simp [HLj.out], by rw [Hid, take_succ_bytes s j hlt, HL.out, List.map_append]; rfl⟩
        case measure => simp [intOf]; omega
    · obtain ⟨a1, c1, rfl, hv1, -⟩ := ownsRow_vals hown
      have hlen : (L.map u8v).length = L.length := List.length_map ..
      have hn1 := (ownsRow_facts hown).2
      have hnil : a1 = none → L = [] := fun h => List.eq_nil_of_length_eq_zero (by have := hn1.2 h; have := hn1.1; omega)
      have hcv := run_strB (P := Try.prog) 25 9 5 Try.underlying25 Try.underlying5 Try.underlying9 wr a1 c1 L hv1 hnil
      have hfin : L = s.data.toList.map (rn k) := by rw [HL.out, take_all_bytes s j (by omega)]
      have HF := hid hfin
      clear hn1 hnil hown hv1 hfin
      rw [hlen]
      clear hlen
      go_wp2
      go_ret
      exact ⟨ret_str (by rw [HF.out]), hB⟩
end Go.Proofs.Ythelnggbcgjbcaa
