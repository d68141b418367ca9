/-
  Walks: the reference's Map only reads.
-/
import Derived.Test.YtancficmkkdnfaaR
namespace Go.Proofs.Ytancficmkkdnfaa
open Go.RowKit
set_option maxHeartbeats 1000000 in
theorem refMap_same (a : Option Addr) (c : Nat) (m : List (List UInt8)) (w : World) (hm : Strs w a m) (hs : m.length ≤ 1000000) (hs2 : ∀ x ∈ m, x.length ≤ 1000000) :
    Calls Try.prog 33 #[.slice a m.length c] w fun e w' => e = .returned (.bool (mapB m)) ∧ w = w' := by
  go_enter Try.func33, Try.ntmps33
  go_wp2_with fail
  go_loopw [3] (fun i wr => ∃ k : Nat, k ≤ m.length ∧ i = .int .i64 k ∧ Hid (w = wr) ∧ Hid (m.all imgB = (m.drop k).all imgB)) (fun i _ => m.length - (intOf i).toNat)
  case atStart => exact ⟨0, by omega, rfl, rfl, rfl⟩
  case round =>
    obtain ⟨k, hk, rfl, hB, HK⟩ := hrel
    by_cases hlt : k < m.length
    · obtain ⟨g, o, rfl, hg, hcell⟩ := hm.at (by omega)
      obtain ⟨x, hx1, hx2⟩ := list_drop_cons m k (by omega)
      have q1 : wr.cell? ⟨g, o + k, none⟩ = some (.string (mkS x)) := by rw [← hB.out]; exact hcell _ _ hx1
      have hxl := hs2 x (List.mem_of_getElem? hx1)
      have HX := hid hx2
      have HO := hid (Letters_any (mkS x) 4 wr (by omega) (by rw [mkS_size]; omega))
      rw [mkS_data] at HO
      have hi : imgB x = (decide (1 ≤ x.length) && decide (x.length ≤ 12) && overB 4 x) := rfl
      have HI := hid hi
      have hsz := mkS_size x
      clear hx1 hx2 hi
      by_cases h1 : 1 ≤ x.length
      · have hd1 : decide (((mkS x).size : Int) < 1) = false := by rw [mkS_size]; simp; omega
        by_cases h2 : x.length ≤ 12
        · have hd2 : decide (((mkS x).size : Int) > 12) = false := by rw [mkS_size]; simp; omega
          go_wp2_with fail
          refine HO.out.mono ?_
          rintro e w2 ⟨rfl, hw2⟩
          replace hB := hid (hB.out.trans hw2)
          clear hw2
          by_cases ho : overB 4 x = true
          · rw [ho]
            have hok : imgB x = true := by rw [HI.out, ho]; simp; omega
            go_wp2_with fail
            refine ⟨⟨k + 1, by omega, by go_num, hB, ?_⟩, by simp [intOf]; omega⟩
            rw [Hid, HK.out, HX.out, List.all_cons, hok]; rfl
          · have ho' : overB 4 x = false := by simpa using ho
            have hno : imgB x = false := by rw [HI.out, ho']; simp
            rw [ho']
            have HN := hid (show mapB m = false by rw [mapB, HK.out, HX.out, List.all_cons, hno]; rfl)
            clear hno ho ho'
            go_wp2_with fail
            go_ret
            exact ⟨ret_bool (by rw [HN.out]), hB.out⟩
        · have hd2 : decide (((mkS x).size : Int) > 12) = true := by rw [mkS_size]; simp; omega
          have hno : imgB x = false := by rw [HI.out]; simp; omega
          have HN := hid (show mapB m = false by rw [mapB, HK.out, HX.out, List.all_cons, hno]; rfl)
          clear hno
          go_wp2_with fail
          go_ret
          exact ⟨ret_bool (by rw [HN.out]), hB.out⟩
      · have hd1 : decide (((mkS x).size : Int) < 1) = true := by rw [mkS_size]; simp; omega
        have hno : imgB x = false := by rw [HI.out]; simp; omega
        have HN := hid (show mapB m = false by rw [mapB, HK.out, HX.out, List.all_cons, hno]; rfl)
        clear hno
        go_wp2_with fail
        go_ret
        exact ⟨ret_bool (by rw [HN.out]), hB.out⟩
    · have hfin : m.all imgB = true := by rw [HK.out, List.drop_eq_nil_of_le (by omega)]; rfl
      have HN := hid (show mapB m = (m.length == 3) by rw [mapB, hfin]; rfl)
      clear hfin
      go_wp2_with fail
      go_ret
      refine ⟨ret_bool ?_, hB.out⟩
      rw [HN.out, Bool.eq_iff_iff]; simp; omega


end Go.Proofs.Ytancficmkkdnfaa
