/-
  Walks: are these cuts.
-/
import Derived.Test.YtkmpdcckgibkhaaGreatSe
namespace Go.Proofs.YtkmpdcckgibkhaaGreat
open Go.RowKit

set_option maxHeartbeats 1000000 in
theorem areCuts_any (s : ByteArray) (a : Option Addr) (c : Nat) (l : List Int) (f : Int) (w : World) (hs : s.size ≤ 1000000) (ha : Ints w a l) (hl : l.length ≤ 9223372036854775807) :
    Calls Tryz.prog 39 #[.string s, .slice a l.length c, .int .i64 f] w fun e w' => e = .returned (.bool (cutsLoop s.size f none l)) ∧ w = w' := by
  have HA := hid ha
  clear ha
  go_enter Tryz.func39, Tryz.ntmps39
  go_wp2_with fail
  go_loop [11] (fun i => ∃ k : Nat, k ≤ l.length ∧ i = .int .i64 k ∧ Hid (cutsLoop s.size f none l = cutsLoop s.size f (pv l k) (l.drop k))) (fun i => l.length - (intOf i).toNat)
  case atStart => exact ⟨0, Nat.zero_le _, rfl, rfl⟩
  case round =>
    obtain ⟨k, hk, rfl, H⟩ := hrel
    by_cases hlt : k < l.length
    · obtain ⟨x, hx, hx2⟩ := list_drop_cons l k hlt
      obtain ⟨g, o, rfl, hg, hc⟩ := HA.out.at (by omega)
      have q1 := hc k x hx
      have X1 := hid hx
      have X2 := hid hx2
      clear hx hx2
      by_cases h1 : f ≤ x ∧ x ≤ (s.size : Int) - 1
      · have W1 : Hid ((decide (f ≤ x) && decide (x ≤ (s.size : Int) - 1)) = true) := by simp [Hid]; omega
        by_cases h3 : k = 0
        · have hfin : cutsLoop s.size f none l = cutsLoop s.size f (pv l (k+1)) (l.drop (k + 1)) := by
            rw [H.out, X2.out, pv_succ l k x X1.out, h3]; simp [cutsLoop, pv]; omega
          have HF := hid hfin
          have d3 : decide (0 < (k : Int)) = false := by simp [h3]
          have d3' : decide (0 < k) = false := by simp [h3]
          have H3 := hid h3
          clear hc h1 hfin h3
          go_wp2_with (go_at_call 70; refine (within70 x f _ _).mono ?_; rintro e w1 ⟨rfl, rfl⟩; rw [W1.out])
          go_round
          case rel => exact ⟨k + 1, by omega, by go_num, HF⟩
          case measure => simp [intOf]; omega
        · have d3 : decide (0 < (k : Int)) = true := by simp; omega
          have d3' : decide (0 < k) = true := by simp; omega
          obtain ⟨p, hp⟩ : ∃ p, l[k - 1]? = some p := ⟨_, List.getElem?_eq_getElem (by omega)⟩
          have q2 := hc (k - 1) p hp
          have hpv : pv l k = some p := by simp [pv, h3, hp]
          by_cases h4 : x ≤ p
          · have d4 : decide (x ≤ p) = true := by simpa using h4
            have hfin : cutsLoop s.size f none l = false := by rw [H.out, X2.out, hpv]; simp [cutsLoop]; omega
            have HF := hid hfin
            have k0 : 1 ≤ k := by omega
            clear hc h1 h3 h4 hfin hpv hp
            go_wp2_with (go_at_call 70; refine (within70 x f _ _).mono ?_; rintro e w1 ⟨rfl, rfl⟩; rw [W1.out])
            go_ret
            exact ⟨ret_bool HF.out.symm, rfl⟩
          · have d4 : decide (x ≤ p) = false := by simpa using h4
            have hfin : cutsLoop s.size f none l = cutsLoop s.size f (pv l (k+1)) (l.drop (k + 1)) := by
              rw [H.out, X2.out, pv_succ l k x X1.out, hpv]; simp [cutsLoop]; omega
            have HF := hid hfin
            have k0 : 1 ≤ k := by omega
            clear hc h1 h3 h4 hfin hpv hp
            go_wp2_with (go_at_call 70; refine (within70 x f _ _).mono ?_; rintro e w1 ⟨rfl, rfl⟩; rw [W1.out])
            go_round
            case rel => exact ⟨k + 1, by omega, by go_num, HF⟩
            case measure => simp [intOf]; omega
      · have W1 : Hid ((decide (f ≤ x) && decide (x ≤ (s.size : Int) - 1)) = false) := by simp [Hid]; omega
        have hfin : cutsLoop s.size f none l = false := by rw [H.out, X2.out]; unfold cutsLoop; cases pv l k <;> simp <;> omega
        have HF := hid hfin
        clear hc h1 hfin
        go_wp2_with (go_at_call 70; refine (within70 x f _ _).mono ?_; rintro e w1 ⟨rfl, rfl⟩; rw [W1.out])
        go_ret
        exact ⟨ret_bool HF.out.symm, rfl⟩
    · have hfin : cutsLoop s.size f none l = true := by rw [H.out, List.drop_eq_nil_of_le (by omega)]; unfold cutsLoop; cases pv l k <;> rfl
      have HF := hid hfin
      clear hfin
      go_wp2
      go_ret
      exact ⟨ret_bool HF.out.symm, rfl⟩

end Go.Proofs.YtkmpdcckgibkhaaGreat
