/-
  The law ClockSlow, walked.
-/
import Derived.Test.YthlgdakdjikjhaaDoorM
namespace Go.Proofs.YthlgdakdjikjhaaDoor
open Go.RowKit Go.ChangeMaps
attribute [local go_sem] Oper.semAt_some

theorem slowM_len (n : Nat) : ∀ r ∈ intM (slowM n), r.length ≤ 1000000 ∨ n > 1000000 := by
  intro r hr
  by_cases h : n > 1000000
  · exact .inr h
  · left
    simp only [intM, slowM, List.map_cons, List.map_nil, List.mem_cons, List.not_mem_nil, or_false] at hr
    rcases hr with rfl | rfl
    · simp [slowA_len]; omega
    · simp [slowB_len]; omega

set_option maxRecDepth 20000 in
set_option maxHeartbeats 2000000 in
theorem slow_walk (n : Int) (w : World) (hG : Glob w) (hn : -9223372036854775808 ≤ n ∧ n ≤ 9223372036854775807) :
    Calls Tryd.prog 3 #[.int .i64 n] w fun e w' => e = .returned (.bool true) ∧ Below w.heap.size w w' := by
  have HG := hid hG
  clear hG
  by_cases h : n < 1 ∨ 9 < n
  · have S := hid (Slow_no n w h)
    go_enter Tryd.func3, Tryd.ntmps3
    go_wp2_with fail
    refine S.out.mono ?_
    rintro e w1 ⟨rfl, rfl⟩
    rcases h with h | h
    · have d1 : decide (n < 1) = true := decide_eq_true h
      go_wp2_with fail
      refine (awake_any _ HG.out).mono ?_
      rintro e w9 ⟨rfl, hb9⟩
      go_wp2_with fail
      go_ret
      exact ⟨rfl, hb9⟩
    · have d1 : decide (n < 1) = false := decide_eq_false (by omega)
      have d2 : decide (n > 9) = true := decide_eq_true h
      go_wp2_with fail
      refine (awake_any _ HG.out).mono ?_
      rintro e w9 ⟨rfl, hb9⟩
      go_wp2_with fail
      go_ret
      exact ⟨rfl, hb9⟩
  · obtain ⟨k, rfl⟩ := Int.eq_ofNat_of_zero_le (a := n) (by omega)
    have S := hid (Slow_yes k w (by omega) (by omega))
    have RS := hid (fun W => refSlow_yes k W (by omega) (by omega))
    have HL := hid (show ∀ r ∈ intM (slowM k), r.length ≤ 1000000 from fun r hr => by
      rcases slowM_len k r hr with h | h
      · exact h
      · omega)
    have d1 : decide ((k : Int) < 1) = false := decide_eq_false (by omega)
    have d2 : decide ((k : Int) > 9) = false := decide_eq_false (by omega)
    go_enter Tryd.func3, Tryd.ntmps3
    go_wp2_with fail
    refine S.out.mono ?_
    rintro e w1 ⟨a1, c1, rfl, hr1, hb1⟩
    have HR := hid hr1
    have HB := hid hb1
    clear hr1 hb1
    go_wp2_with fail
    refine (RS.out w1).mono ?_
    rintro e w2 ⟨a2, c2, rfl, hr2, hb2⟩
    have b2 := HB.out.trans (hb2.mono HB.out.size)
    have T := tables_any a1 a2 c1 c2 (intM (slowM k)) (intM (slowM k)) w2 (HR.out.below hb2 (Nat.le_refl _)) hr2 (by rw [intM_length]; show 2 ≤ 1000000; decide) HL.out
    rw [intM_length, decide_eq_true rfl] at T
    have T := hid T
    have B2 := hid b2
    clear b2 hb2 hr2
    go_wp2_with fail
    refine T.out.mono ?_
    rintro e w3 ⟨rfl, hb3⟩
    have b3 := B2.out.trans (hb3.mono B2.out.size)
    have B3 := hid b3
    clear b3 hb3 T
    go_wp2_with fail
    refine (awake_any _ (HG.out.next B3.out)).mono ?_
    rintro e w9 ⟨rfl, hb9⟩
    have b9 := B3.out.trans (hb9.mono B3.out.size)
    have B9 := hid b9
    clear b9 hb9
    go_wp2_with fail
    go_ret
    exact ⟨rfl, B9.out⟩
end Go.Proofs.YthlgdakdjikjhaaDoor
