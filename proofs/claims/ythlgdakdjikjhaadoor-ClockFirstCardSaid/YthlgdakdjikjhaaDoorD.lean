/-
  Walks: the reference's sets.
-/
import Derived.Test.YthlgdakdjikjhaaDoorC
namespace Go.Proofs.YthlgdakdjikjhaaDoor
open Go.RowKit

/-- A row of a machine. -/
theorem row_at {w : World} {a : Option Addr} {M : List (List Nat)} (hM : OkM M) (hr : RowsAt w a (intM M)) (b : Nat) (hb : b < M.length) :
    ∃ g o b1 c1, a = some ⟨g, o, none⟩ ∧ g < w.heap.size ∧ w.cell? ⟨g, o + b, none⟩ = some (.slice b1 (nst M) c1) ∧ Ints w b1 ((M.getD b []).map fun (x : Nat) => (x : Int)) := by
  have hx : (intM M)[b]? = some ((M.getD b []).map fun (x : Nat) => (x : Int)) := by
    simp [intM, List.getD, List.getElem?_eq_getElem hb]
  obtain ⟨g, o, b1, c1, ha, hg, q1, hin, -, -⟩ := hr.at b _ hx
  rw [List.length_map, hM.row _ (getD_mem hb)] at q1
  exact ⟨g, o, b1, c1, ha, hg, q1, hin⟩

set_option maxHeartbeats 400000 in
theorem refPress_any (a : Option Addr) (c : Nat) (M : List (List Nat)) (s b : Nat) (w : World) (hM : OkM M) (hr : RowsAt w a (intM M)) (_hs : s < 512) (hb : b < M.length) :
    Calls Tryd.prog 56 #[.slice a M.length c, .int .i64 s, .int .i64 b] w fun e w' => e = .returned (.int .i64 (press M s b : Nat)) ∧ w = w' := by
  obtain ⟨g, o, b1, c1, rfl, hg, q1, hin⟩ := row_at hM hr b hb
  obtain ⟨g', o', b0, c0, he, -, q0, -⟩ := row_at hM hr 0 (by have := hM.b1; omega)
  cases he
  rw [Nat.add_zero] at q0
  have hlt := hM.lt _ (getD_mem hb)
  have hrl := hM.row _ (getD_mem hb)
  have hn9 := hM.n9
  have hfin : press M s b = prF s (M.getD b []) 0 0 := rfl
  have HF := hid hfin
  generalize M.getD b [] = row at *
  rw [← hrl] at hlt hn9 q0 q1
  have HIN := hid hin
  have HLT := hid hlt
  have hm1 := hM.b1
  clear hfin hin hlt hr hM hrl
  go_enter Tryd.func56, Tryd.ntmps56
  go_wp2_with fail
  go_loop [7, 8] (fun v i => ∃ (k out : Nat), k ≤ row.length ∧ i = .int .i64 k ∧ v = .int .i64 out ∧ out < 512 ∧ Hid (press M s b = prF s (row.drop k) k out)) (fun _ i => row.length - (intOf i).toNat)
  case atStart => exact ⟨0, 0, by omega, rfl, rfl, by omega, HF.out⟩
  case round =>
    obtain ⟨k, out, hk, rfl, rfl, ho, H⟩ := hrel
    by_cases hlt : k < row.length
    · obtain ⟨x, hx, hd⟩ := list_drop_cons row k hlt
      have hxl := HLT.out x (List.mem_of_getElem? hx)
      obtain ⟨g2, o2, rfl, hg2, hcell⟩ := HIN.out.at (by rw [List.length_map]; omega)
      have q2 := hcell k (x : Int) (by rw [List.getElem?_map, hx]; rfl)
      have HX := hid hd
      clear hcell hx hd
      cases ht : s.testBit k with
      | true =>
        have d1 := tmod_yes s k ht
        have d2 := or_pow out x ho (by omega)
        have ho2 := or_small out (2 ^ x) ho (pow_small x (by omega))
        have hfin : press M s b = prF s (row.drop (k + 1)) (k + 1) (out ||| 2 ^ x) := by rw [H.out, HX.out, prF, if_pos ht]
        have HF2 := hid hfin
        clear hfin ht
        go_wp2_with fail
        exact ⟨⟨k + 1, out ||| 2 ^ x, by omega, by go_num, rfl, ho2, HF2⟩, by simp [intOf]; omega⟩
      | false =>
        have d1 := tmod_no s k ht
        have hfin : press M s b = prF s (row.drop (k + 1)) (k + 1) out := by rw [H.out, HX.out, prF, if_neg (by rw [ht]; simp)]
        have HF2 := hid hfin
        clear hfin ht
        go_wp2_with fail
        exact ⟨⟨k + 1, out, by omega, by go_num, rfl, ho, HF2⟩, by simp [intOf]; omega⟩
    · have hfin : press M s b = out := by rw [H.out, List.drop_eq_nil_of_le (by omega)]; rfl
      have HF2 := hid hfin
      clear hfin
      go_wp2_with fail
      go_ret
      exact ⟨ret_int (by rw [HF2.out]), rfl⟩

set_option maxHeartbeats 4000000 in
theorem refList_any (x : Nat) (w : World) (hx : x < 512) : Calls Tryd.prog 37 #[.int .i64 x] w (RetN (listN x) w) := by
  go_enter Tryd.func37, Tryd.ntmps37
  go_wp2_with fail
  go_loopw [3, 4] (fun v i wr => ∃ (q : Nat) (L : List Nat), q ≤ 9 ∧ i = .int .i64 q ∧ L.length ≤ q ∧ Below w.heap.size w wr ∧ wr.ownsRow w.heap.size 3 1 v L.length (L.map natV) ∧ Hid (listN x = L ++ listF x q)) (fun _ i _ => 9 - (intOf i).toNat)
  case atStart => exact ⟨0, [], by omega, rfl, by simp, Below.refl _ _, World.ownsRow_nil _ _ _ _, by rw [Hid, listF_zero]; rfl⟩
  case round =>
    obtain ⟨q, L, hq, rfl, hLq, hB, hown, HL⟩ := hrel
    by_cases h0 : x / 2 ^ q = 0
    · have d1 : decide ((x : Int) / 2 ^ q > 0) = false := by rw [shr_cast, h0]; rfl
      have d2 : decide (0 < (x : Int) / 2 ^ q) = false := d1
      have hfin : listN x = L := by rw [HL.out, listF_end x q h0, List.append_nil]
      obtain ⟨a1, c1, rfl, hv1, -⟩ := ownsRow_vals hown
      have hll : (L.map natV).length = L.length := List.length_map ..
      rw [hll] at hown ⊢
      have HO := hid hown
      have HFN := hid hfin
      clear hown hv1 hll hfin h0
      go_wp2_with fail
      go_ret
      exact ⟨a1, c1, by rw [HFN.out]; rfl, by rw [HFN.out]; exact HO, hB⟩
    · have hq9 : q < 9 := by
        rcases Nat.lt_or_ge q 9 with h | h
        · exact h
        · exact absurd (shr_end x q hx h) h0
      have d1 : decide ((x : Int) / 2 ^ q > 0) = true := by
        rw [shr_cast]
        generalize x / 2 ^ q = y at h0
        exact decide_eq_true (by omega)
      have d2 : decide (0 < (x : Int) / 2 ^ q) = true := d1
      have hst := HL.out
      rw [listF_step x q hq9] at hst
      have hX : L.map natV ++ [.int .i64 (q : Int)] = (L ++ [q]).map natV := by rw [List.map_append]; rfl
      have HX := hid hX
      clear h0 hX
      cases ht : x.testBit q with
      | true =>
        have d3 := tmod_yes x q ht
        rw [if_pos ht] at hst
        have HST := hid hst
        clear hst ht
        go_wp2_with (at_builtin; go_must (refine wpList_app _ rfl (.tmp 16) (.tmp 18) 38 rfl w.heap.size 3 (.int .i64 0) 8 Tryd.underlying38 Tryd.info3 rfl _ L.length _ rfl (hown.alloc _) (some ⟨wr.heap.size, 0, none⟩) 1 1 [.int .i64 _] rfl rfl (vals_new _ _ _ _ rfl) (fun h => by cases h) (by simp [Value.oneCell']) (by omega) (by omega) (by have := hB.size; simp; omega) ?_))
        intro v' w1 hown' hgrow _
        rw [HX.out] at hown'
        have hB' := below_app (hB.alloc hB.size _) hgrow (hown.alloc _) (by have := hB.size; simp; omega) (Nat.le_refl _)
        have HO' := hid hown'
        clear hown' hgrow hown
        go_wp2_with fail
        refine ⟨⟨q + 1, L ++ [q], by omega, by go_num, by simp; omega, hB', by simpa using HO'.out, ?_⟩, by simp [intOf]; omega⟩
        rw [Hid, HST.out, List.append_assoc]
      | false =>
        have d3 := tmod_no x q ht
        rw [if_neg (by rw [ht]; simp), List.nil_append] at hst
        have HST := hid hst
        clear hst ht
        go_wp2_with fail
        exact ⟨⟨q + 1, L, by omega, by go_num, by omega, hB, hown, HST⟩, by simp [intOf]; omega⟩

set_option maxHeartbeats 400000 in
theorem refSize_any (x : Nat) (w : World) (hx : x < 512) : Calls Tryd.prog 28 #[.int .i64 x] w fun e w' => e = .returned (.int .i64 (sizeN x)) ∧ Below w.heap.size w w' := by
  have C := hid (refList_any x w hx)
  go_enter Tryd.func28, Tryd.ntmps28
  go_wp2_with fail
  refine C.out.mono ?_
  rintro e w1 ⟨a, c, rfl, ho, hb⟩
  clear ho
  go_wp2_with fail
  go_ret
  exact ⟨rfl, hb⟩

set_option maxHeartbeats 400000 in
theorem refAll_any (a : Option Addr) (c : Nat) (M : List (List Nat)) (w : World) (hM : OkM M) (hr : RowsAt w a (intM M)) :
    Calls Tryd.prog 40 #[.slice a M.length c] w fun e w' => e = .returned (.int .i64 (2 ^ nst M - 1 : Nat)) ∧ w = w' := by
  have h1 := hM.b1
  obtain ⟨g, o, b1, c1, rfl, hg, q1, -⟩ := row_at hM hr 0 (by omega)
  have hn9 := hM.n9
  rw [Nat.add_zero] at q1
  generalize nst M = n at *
  have e1 : IntKind.i64.wrap ((2 : Int) ^ n) = ((2 ^ n : Nat) : Int) := by
    have h1 : (2 : Nat) ^ n ≤ 2 ^ 9 := Nat.pow_le_pow_right (by omega) hn9
    rw [← pow_cast]
    generalize 2 ^ n = y at h1
    exact IntWalk.i64_in _ (by have : (2 : Nat) ^ 9 = 512 := rfl; omega)
  have h512 : (2 : Nat) ^ n ≤ 512 := Nat.pow_le_pow_right (by omega) hn9
  have hpos : 0 < (2 : Nat) ^ n := Nat.two_pow_pos n
  have e2 : wrap64 ((2 : Int) ^ n - 1) = ((2 ^ n - 1 : Nat) : Int) := by
    rw [← pow_cast]
    generalize 2 ^ n = y at h512 hpos
    rw [IntWalk.wrap64_in _ (by omega)]; omega
  clear hr
  go_enter Tryd.func40, Tryd.ntmps40
  go_wp2_with fail
  go_ret
  exact ⟨ret_int e2, rfl⟩
end Go.Proofs.YthlgdakdjikjhaaDoor
