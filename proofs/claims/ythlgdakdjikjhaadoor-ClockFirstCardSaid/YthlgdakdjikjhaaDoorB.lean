/-
  Walks: sets of states as bits.
-/
import Derived.Test.YthlgdakdjikjhaaDoorA
import Derived.Test.YthlgdakdjikjhaaDoorBits
namespace Go.Proofs.YthlgdakdjikjhaaDoor
open Go.RowKit

set_option maxHeartbeats 400000 in
theorem press_any (a : Option Addr) (c : Nat) (M : List (List Nat)) (s b : Nat) (w : World) (hM : OkM M) (hr : RowsAt w a (intM M)) (hs : s < 512) (hb : b < M.length) :
    Calls Tryd.prog 60 #[.slice a M.length c, .int .i64 s, .int .i64 b] w fun e w' => e = .returned (.int .i64 (press M s b : Nat)) ∧ w = w' := by
  have hx : (intM M)[b]? = some ((M.getD b []).map fun (x : Nat) => (x : Int)) := by
    simp [intM, List.getD, List.getElem?_eq_getElem hb]
  obtain ⟨g, o, b1, c1, rfl, hg, q1, hin, -, -⟩ := hr.at b _ hx
  have hlt := hM.lt _ (getD_mem hb)
  have hrl := hM.row _ (getD_mem hb)
  have hn9 := hM.n9
  have hfin : press M s b = prF s (M.getD b []) 0 0 := rfl
  have HF := hid hfin
  generalize M.getD b [] = row at *
  rw [List.length_map] at q1
  have HIN := hid hin
  have HLT := hid hlt
  clear hfin hin hlt hx hr hM
  go_enter Tryd.func60, Tryd.ntmps60
  go_wp2_with fail
  go_loop [7, 15] (fun v i => ∃ (k out : Nat), k ≤ row.length ∧ i = .int .i64 k ∧ v = .int .i64 out ∧ out < 512 ∧ Hid (press M s b = prF s (row.drop k) k out)) (fun _ i => row.length - (intOf i).toNat)
  case atStart => exact ⟨0, 0, by omega, rfl, rfl, by omega, HF.out⟩
  case round =>
    obtain ⟨k, out, hk, rfl, rfl, ho, H⟩ := hrel
    by_cases hlt : k < row.length
    · obtain ⟨x, hx, hd⟩ := list_drop_cons row k hlt
      have hxl := HLT.out x (List.mem_of_getElem? hx)
      obtain ⟨g2, o2, rfl, hg2, hcell⟩ := HIN.out.at (by rw [List.length_map]; omega)
      have q2 := hcell k (x : Int) (by rw [List.getElem?_map, hx]; rfl)
      have HX := hid hd
      clear hcell hx hd
      cases ht : s.testBit k with
      | true =>
        have d1 := bit_yes s k hs ht
        have d2 := or_pow out x ho (by omega)
        have ho2 := or_small out (2 ^ x) ho (pow_small x (by omega))
        have hfin : press M s b = prF s (row.drop (k + 1)) (k + 1) (out ||| 2 ^ x) := by rw [H.out, HX.out, prF, if_pos ht]
        have HF2 := hid hfin
        clear hfin ht
        go_wp2_with fail
        exact ⟨⟨k + 1, out ||| 2 ^ x, by omega, by go_num, rfl, ho2, HF2⟩, by simp [intOf]; omega⟩
      | false =>
        have d1 := bit_no s k hs ht
        have hfin : press M s b = prF s (row.drop (k + 1)) (k + 1) out := by rw [H.out, HX.out, prF, if_neg (by rw [ht]; simp)]
        have HF2 := hid hfin
        clear hfin ht
        go_wp2_with fail
        exact ⟨⟨k + 1, out, by omega, by go_num, rfl, ho, HF2⟩, by simp [intOf]; omega⟩
    · have hfin : press M s b = out := by rw [H.out, List.drop_eq_nil_of_le (by omega)]; rfl
      have HF2 := hid hfin
      clear hfin
      go_wp2_with fail
      go_ret
      exact ⟨ret_int (by rw [HF2.out]), rfl⟩

set_option maxHeartbeats 400000 in
theorem all_any (a : Option Addr) (c : Nat) (M : List (List Nat)) (w : World) (hM : OkM M) (hr : RowsAt w a (intM M)) :
    Calls Tryd.prog 53 #[.slice a M.length c] w fun e w' => e = .returned (.int .i64 (2 ^ nst M - 1 : Nat)) ∧ w = w' := by
  have h1 := hM.b1
  have hx : (intM M)[0]? = some ((M.getD 0 []).map fun (x : Nat) => (x : Int)) := by
    simp [intM, List.getD, List.getElem?_eq_getElem (show 0 < M.length by omega)]
  obtain ⟨g, o, b1, c1, rfl, hg, q1, hin, -, -⟩ := hr.at 0 _ hx
  have hrl := hM.row _ (getD_mem (M := M) (b := 0) (by omega))
  have hn9 := hM.n9
  rw [List.length_map, hrl, Nat.add_zero] at q1
  generalize nst M = n at *
  have d1 := pow_wrap n
  have e1 : IntKind.i64.wrap ((2 : Int) ^ n) = ((2 ^ n : Nat) : Int) := by
    have h1 : (2 : Nat) ^ n ≤ 2 ^ 9 := Nat.pow_le_pow_right (by omega) hn9
    rw [← pow_cast]
    generalize 2 ^ n = y at h1
    exact IntWalk.i64_in _ (by have : (2 : Nat) ^ 9 = 512 := rfl; omega)
  have h512 : (2 : Nat) ^ n ≤ 512 := Nat.pow_le_pow_right (by omega) hn9
  have hpos : 0 < (2 : Nat) ^ n := Nat.two_pow_pos n
  have e2 : wrap64 ((2 : Int) ^ n - 1) = ((2 ^ n - 1 : Nat) : Int) := by
    rw [← pow_cast]
    generalize 2 ^ n = y at h512 hpos
    rw [IntWalk.wrap64_in _ (by omega)]; omega
  clear hr hx hrl d1 hin
  go_enter Tryd.func53, Tryd.ntmps53
  go_wp2_with fail
  go_ret
  exact ⟨ret_int e2, rfl⟩

/-- The table of the library, as far as it is read. -/
def Glob (w : World) : Prop := ∀ k, k < 9 → w.cell? ⟨1, dbI k, none⟩ = some (.int .u8 (k : Int))
theorem Glob.lt {w : World} (h : Glob w) : 1 < w.heap.size := World.block_lt_of_cell? _ _ (h 0 (by omega))
theorem Glob.below {w w' : World} (h : Glob w) {B : Nat} (hb : Below B w w') (hB : 1 < B) : Glob w' := fun k hk => (hb.cell (p := ⟨1, dbI k, none⟩) hB).trans (h k hk)
theorem Glob.next {w w' : World} (h : Glob w) (hb : Below w.heap.size w w') : Glob w' := h.below hb h.lt

set_option maxHeartbeats 400000 in
theorem tz64_core (x k j : Nat) (w : World) (hx0 : ((x : Int) == 0) = false)
    (key : IntKind.u64.wrap (bits BinOp.and IntKind.u64 (x : Int) (IntKind.u64.wrap (-(x : Int))) * 285870213051353865) / 288230376151711744 = (j : Int))
    (h64 : j < 64) (h9 : k < 9) (hc : w.cell? ⟨1, j, none⟩ = some (.int .u8 k)) : Calls Tryd.prog 80 #[.int .u64 x] w fun e w' => e = .returned (.int .i64 k) ∧ w = w' := by
  go_enter Tryd.func80, Tryd.ntmps80
  go_wp2_with (simp only [key])
  go_ret
  exact ⟨rfl, rfl⟩
theorem tz64_any (x : Nat) (w : World) (hG : Glob w) (hx : x < 512) (h0 : x ≠ 0) : Calls Tryd.prog 80 #[.int .u64 x] w fun e w' => e = .returned (.int .i64 (lowN x)) ∧ w = w' := by
  obtain ⟨key, h9, h64⟩ := tz_key x hx h0
  exact tz64_core x _ _ w (beq_eq_false_iff_ne.2 (by omega)) key h64 h9 (hG (lowN x) h9)
set_option maxHeartbeats 400000 in
theorem oc64_any (x : Nat) (w : World) (hx : x < 512) : Calls Tryd.prog 88 #[.int .u64 x] w fun e w' => e = .returned (.int .i64 (sizeN x)) ∧ w = w' := by
  obtain ⟨a1, a2, a3, a4, a5, a6, e1, e2, e3, e4, e5, e6, e7⟩ := oc_steps x hx
  unfold o1 at e1
  unfold o2 at e2
  unfold o3 at e3
  unfold o4 at e4
  unfold o5 at e5
  unfold o6 at e6
  unfold o7 at e7
  generalize sizeN x = S at *
  go_enter Tryd.func88, Tryd.ntmps88
  go_wp2_with fail
  go_ret
  exact ⟨rfl, rfl⟩

set_option maxHeartbeats 400000 in
theorem oc_any (x : Nat) (w : World) (hx : x < 512) : Calls Tryd.prog 82 #[.int .u64 x] w fun e w' => e = .returned (.int .i64 (sizeN x)) ∧ w = w' := by
  have C := fun w => hid (oc64_any x w hx)
  go_enter Tryd.func82, Tryd.ntmps82
  go_wp2_with fail
  refine (C _).out.mono ?_
  rintro e w1 ⟨rfl, rfl⟩
  go_wp2_with fail
  go_ret
  exact ⟨rfl, rfl⟩
set_option maxHeartbeats 400000 in
theorem tz_any (x : Nat) (w : World) (hG : Glob w) (hx : x < 512) (h0 : x ≠ 0) : Calls Tryd.prog 55 #[.int .u64 x] w fun e w' => e = .returned (.int .i64 (lowN x)) ∧ w = w' := by
  have C := hid (tz64_any x w hG hx h0)
  clear hG
  go_enter Tryd.func55, Tryd.ntmps55
  go_wp2_with fail
  refine C.out.mono ?_
  rintro e w1 ⟨rfl, rfl⟩
  go_wp2_with fail
  go_ret
  exact ⟨rfl, rfl⟩
set_option maxHeartbeats 400000 in
theorem size_any (x : Nat) (w : World) (hx : x < 512) : Calls Tryd.prog 68 #[.int .i64 x] w fun e w' => e = .returned (.int .i64 (sizeN x)) ∧ w = w' := by
  have C := fun w => hid (oc_any x w hx)
  have e1 : IntKind.u64.wrap (x : Int) = x := IntWalk.u64_in _ (by omega)
  go_enter Tryd.func68, Tryd.ntmps68
  go_wp2_with fail
  refine (C _).out.mono ?_
  rintro e w1 ⟨rfl, rfl⟩
  go_wp2_with fail
  go_ret
  exact ⟨rfl, rfl⟩
set_option maxHeartbeats 400000 in
theorem single_any (x : Nat) (w : World) (hx : x < 512) : Calls Tryd.prog 54 #[.int .i64 x] w fun e w' => e = .returned (.bool (sizeN x == 1)) ∧ w = w' := by
  have C := fun w => hid (size_any x w hx)
  go_enter Tryd.func54, Tryd.ntmps54
  go_wp2_with fail
  refine (C _).out.mono ?_
  rintro e w1 ⟨rfl, rfl⟩
  go_wp2_with fail
  go_ret
  exact ⟨ret_bool (by rw [Bool.eq_iff_iff]; simp; omega), rfl⟩
end Go.Proofs.YthlgdakdjikjhaaDoor
