/-
  Walks: maps, images.
-/
import Derived.Test.YtancficmkkdnfaaN
import Derived.Test.YtancficmkkdnfaaStrs
namespace Go.Proofs.Ytancficmkkdnfaa
open Go.RowKit

/-- An image made of any string. -/
def mapOf (k : Nat) (m : List (List UInt8)) (i : Nat) : List UInt8 :=
  match m[i]? with
  | some s => if tameL 12 k s = [] then [97] else tameL 12 k s
  | none => [97]
def mapsL (k : Nat) (m : List (List UInt8)) : List (List UInt8) := (List.range 3).map (mapOf k m)
theorem mapOf_ok (k : Nat) (m : List (List UInt8)) (i : Nat) (hk : 1 ≤ k) (hk2 : k ≤ 4) : 1 ≤ (mapOf k m i).length ∧ (mapOf k m i).length ≤ 12 ∧ overB k (mapOf k m i) = true := by
  have h97 : overB k [97] = true := by rw [overB, List.all_cons, (okk_iff k 97).2 ⟨by decide, by show 97 < 97 + k; omega⟩]; rfl
  unfold mapOf
  split
  · split
    · exact ⟨by simp, by simp, h97⟩
    · rename_i s hs hne
      exact ⟨List.length_pos_iff.2 hne, tame_len _ _ _, tame_over _ _ _ hk (by omega)⟩
  · exact ⟨by simp, by simp, h97⟩
theorem mapsL_ok (k : Nat) (m : List (List UInt8)) (hk : 1 ≤ k) (hk2 : k ≤ 4) : mapB (mapsL k m) = true := by
  rw [mapB, Bool.and_eq_true]
  refine ⟨?_, by simp [mapsL]⟩
  rw [List.all_eq_true]
  intro x hx
  obtain ⟨i, _, rfl⟩ := List.mem_map.1 hx
  obtain ⟨h1, h2, h3⟩ := mapOf_ok k m i hk hk2
  rw [imgB, overB_mono hk2 h3]; simp [h1, h2]
theorem mapsL_over (k : Nat) (m : List (List UInt8)) (hk : 1 ≤ k) (hk2 : k ≤ 4) : ∀ x ∈ mapsL k m, overB k x = true := by
  intro x hx
  obtain ⟨i, _, rfl⟩ := List.mem_map.1 hx
  exact (mapOf_ok k m i hk hk2).2.2
theorem mapsL_len (k : Nat) (m : List (List UInt8)) : (mapsL k m).length = 3 := by simp [mapsL]

set_option maxHeartbeats 2000000 in
theorem maps_any (a : Option Addr) (c k : Nat) (m : List (List UInt8)) (w : World) (hm : Strs w a m) (hk : 1 ≤ k) (hk2 : k ≤ 4) (hml : m.length ≤ 9223372036854775807) (hs : ∀ x ∈ m, x.length ≤ 9223372036854775807) :
    Calls Try.prog 37 #[.slice a m.length c, .int .i64 k] w (RetS (mapsL k m) w) := by
  have HS := hid hs
  have HM := hid hm
  clear hs hm
  go_enter Try.func37, Try.ntmps37
  go_wp2_with fail
  go_loopw [5, 6] (fun v i wr => ∃ (j : Nat), j ≤ 3 ∧ i = .int .i64 j ∧ Below w.heap.size w wr ∧ wr.ownsRow w.heap.size 9 1 v j (((List.range j).map (mapOf k m)).map strV)) (fun _ i _ => 3 - (intOf i).toNat)
  case atStart => exact ⟨0, by omega, rfl, Below.refl _ _, World.ownsRow_nil _ _ _ _⟩
  case round =>
    obtain ⟨j, hj, rfl, hB, hown⟩ := hrel
    by_cases hlt : j < 3
    · have hnext : ∀ t : List UInt8, t = mapOf k m j → ((List.range j).map (mapOf k m)).map strV ++ [.string (mkS t)] = ((List.range (j + 1)).map (mapOf k m)).map strV := fun t ht => by
        rw [List.range_succ, List.map_append, List.map_append, ht]; rfl
      have HX := hid hnext
      have hlen2 : (((List.range j).map (mapOf k m)).map strV).length = j := by simp
      have HL2 := hid hlen2
      obtain ⟨xs, hxs⟩ : ∃ xs, xs = ((List.range j).map (mapOf k m)).map strV := ⟨_, rfl⟩
      rw [← hxs] at HX hown HL2
      clear hnext hlen2 hxs
      by_cases hin : j < m.length
      · obtain ⟨g, o, rfl, hg, hcell⟩ := HM.out.at (by omega)
        obtain ⟨x, hx1, -⟩ := list_drop_cons m j hin
        have q1 : wr.cell? ⟨g, o + j, none⟩ = some (.string (mkS x)) := (hB.cell (p := ⟨g, o + j, none⟩) hg).trans (hcell _ _ hx1)
        have hxl := HS.out x (List.mem_of_getElem? hx1)
        have TA := hid (tame_any (mkS x) 12 k wr hk hk2 (by omega) (by rw [mkS_size]; exact hxl))
        rw [mkS_data] at TA
        have hmo : mapOf k m j = if tameL 12 k x = [] then [97] else tameL 12 k x := by unfold mapOf; rw [hx1]
        obtain ⟨t, ht⟩ : ∃ t, t = tameL 12 k x := ⟨_, rfl⟩
        rw [← ht] at TA hmo
        have HMO := hid hmo
        clear hx1 ht hmo
        by_cases h0 : t = []
        · subst h0
          have hmo : [97] = mapOf k m j := by rw [HMO.out, if_pos rfl]
          have HY := hid (HX.out [97] hmo)
          clear hmo
          go_wp2_with fail
          refine TA.out.mono ?_
          rintro e w1 ⟨rfl, hb1⟩
          have hown1 := ownsRow_low hown hb1 (Nat.le_refl _)
          have hB1 := hB.trans (hb1.mono hB.size)
          have hse := empty_yes (mkS []) rfl
          go_wp2_with (at_builtin; go_must (refine wpList_appS _ rfl (.tmp 24) (.tmp 26) 44 rfl w.heap.size 9 (.string ⟨#[]⟩) 16 Try.underlying44 Try.info9 rfl _ j _ rfl (hown1.alloc _) (some ⟨w1.heap.size, 0, none⟩) 1 1 [.string _] rfl rfl (vals_new _ _ _ _ rfl) (fun h => by cases h) (by simp [Value.oneCell']) (by omega) (by omega) (by have := hB1.size; simp; omega) ?_))
          intro v' w2 hown' hgrow
          rw [show ([Value.string (⟨#[97]⟩ : ByteArray)]) = [Value.string (mkS [97])] from rfl, HY.out] at hown'
          have hB' := below_app (hB1.alloc hB1.size _) hgrow (hown1.alloc _) (by have := hB1.size; simp; omega) (Nat.le_refl _)
          have HO' := hid hown'
          clear hown' hgrow
          go_wp2_with fail
          exact ⟨⟨j + 1, by omega, by go_num, hB', HO'.out⟩, by simp [intOf]; omega⟩
        · have hmo : t = mapOf k m j := by rw [HMO.out, if_neg h0]
          have HY := hid (HX.out t hmo)
          have h0s : ¬ (mkS t).size = 0 := by rw [mkS_size]; exact fun h => h0 (List.eq_nil_of_length_eq_zero h)
          have hse := empty_no (mkS t) h0s
          clear hmo h0 h0s
          go_wp2_with fail
          refine TA.out.mono ?_
          rintro e w1 ⟨rfl, hb1⟩
          have hown1 := ownsRow_low hown hb1 (Nat.le_refl _)
          have hB1 := hB.trans (hb1.mono hB.size)
          go_wp2_with (at_builtin; go_must (refine wpList_appS _ rfl (.tmp 24) (.tmp 26) 44 rfl w.heap.size 9 (.string ⟨#[]⟩) 16 Try.underlying44 Try.info9 rfl _ j _ rfl (hown1.alloc _) (some ⟨w1.heap.size, 0, none⟩) 1 1 [.string _] rfl rfl (vals_new _ _ _ _ rfl) (fun h => by cases h) (by simp [Value.oneCell']) (by omega) (by omega) (by have := hB1.size; simp; omega) ?_))
          intro v' w2 hown' hgrow
          rw [HY.out] at hown'
          have hB' := below_app (hB1.alloc hB1.size _) hgrow (hown1.alloc _) (by have := hB1.size; simp; omega) (Nat.le_refl _)
          have HO' := hid hown'
          clear hown' hgrow
          go_wp2_with fail
          exact ⟨⟨j + 1, by omega, by go_num, hB', HO'.out⟩, by simp [intOf]; omega⟩
      · have hmo : [97] = mapOf k m j := by unfold mapOf; rw [List.getElem?_eq_none (by omega)]
        have HY := hid (HX.out [97] hmo)
        clear hmo
        go_wp2_with (at_builtin; go_must (refine wpList_appS _ rfl (.tmp 24) (.tmp 26) 44 rfl w.heap.size 9 (.string ⟨#[]⟩) 16 Try.underlying44 Try.info9 rfl _ j _ rfl (hown.alloc _) (some ⟨wr.heap.size, 0, none⟩) 1 1 [.string _] rfl rfl (vals_new _ _ _ _ rfl) (fun h => by cases h) (by simp [Value.oneCell']) (by omega) (by omega) (by have := hB.size; simp; omega) ?_))
        intro v' w2 hown' hgrow
        rw [show ([Value.string (⟨#[97]⟩ : ByteArray)]) = [Value.string (mkS [97])] from rfl, HY.out] at hown'
        have hB' := below_app (hB.alloc hB.size _) hgrow (hown.alloc _) (by have := hB.size; simp; omega) (Nat.le_refl _)
        have HO' := hid hown'
        clear hown' hgrow
        go_wp2_with fail
        exact ⟨⟨j + 1, by omega, by go_num, hB', HO'.out⟩, by simp [intOf]; omega⟩
    · have hj3 : j = 3 := by omega
      subst hj3
      obtain ⟨a1, c1, rfl, hv1, hl1⟩ := ownsRow_vals hown
      have hn1 := (ownsRow_facts hown).2
      rw [← hl1] at hn1 ⊢
      have HV := hid hv1
      have HN1 := hid hn1
      clear hv1 hn1 hown hl1
      go_wp2_with fail
      go_ret
      exact ⟨a1, c1, by rw [mapsL_len]; rfl, HV.out, HN1.out.2, by rw [mapsL_len]; exact HN1.out.1, hB⟩

/-- At most four strings of at most thirteen letters. -/
def imagesL (m : List (List UInt8)) : List (List UInt8) := (m.take 4).map (·.take 13)
theorem imagesL_len (m : List (List UInt8)) : (imagesL m).length ≤ 4 := by simp [imagesL]; omega
theorem imagesL_each (m : List (List UInt8)) : ∀ x ∈ imagesL m, x.length ≤ 13 := by
  intro x hx
  obtain ⟨y, _, rfl⟩ := List.mem_map.1 hx
  rw [List.length_take]; omega
theorem imagesL_step (m : List (List UInt8)) (j : Nat) (x : List UInt8) (hx : m[j]? = some x) : ((m.take j).map (·.take 13)).map strV ++ [.string (mkS (x.take 13))] = ((m.take (j + 1)).map (·.take 13)).map strV := by
  rw [List.take_add_one (l := m) (i := j), hx, List.map_append, List.map_append]; rfl

set_option maxHeartbeats 2000000 in
theorem images_any (a : Option Addr) (c : Nat) (m : List (List UInt8)) (w : World) (hm : Strs w a m) (hml : m.length ≤ 9223372036854775807) (hs : ∀ x ∈ m, x.length ≤ 9223372036854775807) :
    Calls Try.prog 30 #[.slice a m.length c] w (RetS (imagesL m) w) := by
  have HS := hid hs
  have HM := hid hm
  clear hs hm
  go_enter Try.func30, Try.ntmps30
  go_wp2_with fail
  go_loopw [3, 4] (fun v i wr => ∃ (j : Nat), j ≤ m.length ∧ j ≤ 4 ∧ i = .int .i64 j ∧ Below w.heap.size w wr ∧ wr.ownsRow w.heap.size 9 1 v j (((m.take j).map (·.take 13)).map strV)) (fun _ i _ => 4 - (intOf i).toNat)
  case atStart => exact ⟨0, by omega, by omega, rfl, Below.refl _ _, World.ownsRow_nil _ _ _ _⟩
  case round =>
    obtain ⟨j, hj, hj4, rfl, hB, hown⟩ := hrel
    by_cases hlt : j < m.length ∧ j < 4
    · obtain ⟨h1, h2⟩ := hlt
      obtain ⟨g, o, rfl, hg, hcell⟩ := HM.out.at (by omega)
      obtain ⟨x, hx1, -⟩ := list_drop_cons m j h1
      have hnext := imagesL_step m j x hx1
      have q1 : wr.cell? ⟨g, o + j, none⟩ = some (.string (mkS x)) := (hB.cell (p := ⟨g, o + j, none⟩) hg).trans (hcell _ _ hx1)
      have hxl := HS.out x (List.mem_of_getElem? hx1)
      have hxs := mkS_size x
      have hmin : (min (x.length : Int) 13).toNat = min x.length 13 := by omega
      have hbd1 : (0 : Int) ≤ min (x.length : Int) 13 := by omega
      have hbd2 : min (x.length : Int) 13 ≤ (x.length : Int) := by omega
      have hext : (mkS x).extract 0 (min x.length 13) = mkS (x.take 13) := by
        refine mkS_eq _ _ ?_
        rw [data_extract, mkS_data, List.drop_zero, Nat.sub_zero]
        rcases Nat.le_total x.length 13 with h | h
        · rw [Nat.min_eq_left h, List.take_of_length_le (Nat.le_refl _), List.take_of_length_le h]
        · rw [Nat.min_eq_right h]
      obtain ⟨y, hy⟩ : ∃ y, y = (mkS x).extract 0 (min x.length 13) := ⟨_, rfl⟩
      have hy2 := hy.symm
      have HY := hid (hy.trans hext)
      have HX := hid hnext
      obtain ⟨xs, hxs2⟩ : ∃ xs, xs = ((m.take j).map (·.take 13)).map strV := ⟨_, rfl⟩
      rw [← hxs2] at HX hown
      clear hnext hxs2 hext hy hx1
      go_wp2_with fail
      go_region_law (first
        | (refine step_appS rfl (.tmp 15) (.tmp 27) 44 rfl w.heap.size 9 (.string ⟨#[]⟩) 16 Try.underlying44 Try.info9 rfl _ j _ rfl (hown.alloc _) (some ⟨wr.heap.size, 0, none⟩) 1 1 [.string _] rfl rfl (vals_drew (vals_new _ _ _ _ rfl)) (fun h => by cases h) (by simp [Value.oneCell']) (by omega) (by omega) ?_ ?_
           · have := hB.size; simp; omega
           intro v' w3 hown' hgrow)
        | (refine step_appS rfl (.tmp 15) (.tmp 27) 44 rfl w.heap.size 9 (.string ⟨#[]⟩) 16 Try.underlying44 Try.info9 rfl _ j _ rfl (hown.alloc _) (some ⟨wr.heap.size, 0, none⟩) 1 1 [.string _] rfl rfl (vals_new _ _ _ _ rfl) (fun h => by cases h) (by simp [Value.oneCell']) (by omega) (by omega) ?_ ?_
           · have := hB.size; simp; omega
           intro v' w3 hown' hgrow))
      all_goals
        rw [HY.out, HX.out] at hown'
        have hB' : Below w.heap.size w w3 := by
          refine below_app (B := w.heap.size) (base := w.heap.size) (e := 9) (n := j) (xs := xs) ?_ hgrow ?_ ?_ (Nat.le_refl _)
          · first | exact (hB.alloc hB.size _).drew | exact hB.drew.alloc hB.size _ | exact hB.alloc hB.size _
          · exact hown.alloc _
          · have := hB.size; simp; omega
        have HB' := hid hB'
        have HO' := hid hown'
        clear hgrow hown' hB'
        go_wp2
        go_roundw
        case rel => exact ⟨j + 1, by omega, by omega, by go_num, HB'.out, HO'.out⟩
        case measure => simp [intOf]; omega
    · have hend : (m.take j).map (·.take 13) = imagesL m := by
        unfold imagesL
        rcases Nat.lt_or_ge j m.length with h | h
        · rw [show j = 4 by omega]
        · rw [List.take_of_length_le h, List.take_of_length_le (by omega)]
      have hlen : j = (imagesL m).length := by rw [← hend, List.length_map, List.length_take]; omega
      rw [hend] at hown
      obtain ⟨a1, c1, rfl, hv1, hl1⟩ := ownsRow_vals hown
      have hn1 := (ownsRow_facts hown).2
      have hll : ((imagesL m).map strV).length = (imagesL m).length := List.length_map ..
      rw [hll]
      obtain ⟨q, hq⟩ : ∃ q, q = (imagesL m).length := ⟨_, rfl⟩
      rw [← hq]
      have HF := hid (show ∀ v w', v = .slice a1 q c1 → Strs w' a1 (imagesL m) → Below w.heap.size w w' → RetS (imagesL m) w (.returned v) w' from fun v w' hv hs hb => ⟨a1, c1, by rw [hv, hq], hs, hn1.2, by omega, hb⟩)
      have HV := hid hv1
      by_cases hjl : j < m.length
      · have hj4' : ¬ j < 4 := fun h => hlt ⟨hjl, h⟩
        clear hv1 hn1 hown hl1 hend hlen hll hq hlt
        go_wp2_with fail
        go_ret
        exact HF.out _ _ rfl HV.out hB
      · clear hv1 hn1 hown hl1 hend hlen hll hq hlt
        go_wp2_with fail
        go_ret
        exact HF.out _ _ rfl HV.out hB
end Go.Proofs.Ytancficmkkdnfaa
