/-
  The law ClockCerny, walked.
-/
import Derived.Test.YthlgdakdjikjhaaDoorCern
import Derived.Test.YthlgdakdjikjhaaDoorMod
namespace Go.Proofs.YthlgdakdjikjhaaDoor
open Go.RowKit Go.ChangeMaps
attribute [local go_sem] Oper.semAt_some

set_option maxRecDepth 20000 in
set_option maxHeartbeats 2000000 in
theorem cerny_walk (v : Int) (w : World) (hG : Glob w) (hv : -9223372036854775808 ≤ v ∧ v ≤ 9223372036854775807) :
    Calls Tryd.prog 4 #[.int .i64 v] w fun e w' => e = .returned (.bool true) ∧ Below w.heap.size w w' := by
  have HG := hid hG
  have MD := hid (mod_any v 8 w (by omega) (by omega) hv)
  have hl := modN_lt v 8 (by omega)
  obtain ⟨k, hk⟩ : ∃ k, k = modN v 8 := ⟨_, rfl⟩
  rw [← hk] at MD hl
  obtain ⟨s, hs, hrv⟩ := cern_word (2 + k) (by omega) (by omega)
  have hok := hid (slow_ok (2 + k) (by omega) (by omega))
  have SL := hid (Slow_yes (2 + k) w (by omega) (by omega))
  have HRV := hid hrv
  have d1 : ((s.size : Int) == wrap64 ((2 + (k : Int) - 1) * (2 + (k : Int) - 1))) = true := by
    have h1 : (2 + (k : Int) - 1) = ((k + 1 : Nat) : Int) := by omega
    rw [hs, show 2 + k - 1 = k + 1 by omega, h1]
    have h2 := Nat.mul_le_mul (show k + 1 ≤ 8 by omega) (show k + 1 ≤ 8 by omega)
    rw [show ((k + 1 : Nat) : Int) * ((k + 1 : Nat) : Int) = (((k + 1) * (k + 1) : Nat) : Int) by simp]
    generalize (k + 1) * (k + 1) = z at h2
    rw [IntWalk.wrap64_in _ (by omega)]
    simp
  rw [show ((2 + k : Nat) : Int) = 2 + (k : Int) by omega] at SL
  clear hk hG hv hrv hs
  go_enter Tryd.func4, Tryd.ntmps4
  go_wp2_with fail
  refine MD.out.mono ?_
  rintro e w1 ⟨rfl, rfl⟩
  go_wp2_with fail
  refine SL.out.mono ?_
  rintro e w1 ⟨a1, c1, rfl, hr1, hb1⟩
  have RS := hid (Reset_yes a1 c1 (slowM (2 + k)) w1 hok.out hr1 (HG.out.next hb1))
  rw [HRV.out] at RS
  have HB := hid hb1
  clear hr1 hb1
  go_wp2_with fail
  refine RS.out.mono ?_
  rintro e w2 ⟨rfl, hb2⟩
  have b2 := HB.out.trans (hb2.mono HB.out.size)
  have B2 := hid b2
  clear b2 hb2 RS
  go_wp2_with fail
  refine (awake_any _ (HG.out.next B2.out)).mono ?_
  rintro e w9 ⟨rfl, hb9⟩
  have b9 := B2.out.trans (hb9.mono B2.out.size)
  have B9 := hid b9
  clear b9 hb9
  go_wp2_with fail
  go_ret
  exact ⟨rfl, B9.out⟩
end Go.Proofs.YthlgdakdjikjhaaDoor
