/-
  Contracts of the package marks, turned from the texts of the laws of marks (words made of any string).
-/
import Derived.Test.YtkmpdcckgibkhaaGreatXd
namespace Go.Proofs.YtkmpdcckgibkhaaGreat.Mk
open Go.RowKit
/-- A letter made of any byte. -/
def tamC (k : Nat) (c : UInt8) : UInt8 := UInt8.ofNat (97 + c.toNat % k)
def tameL (most k : Nat) (l : List UInt8) : List UInt8 := (l.take most).map (tamC k)
theorem tamC_nat (k : Nat) (c : UInt8) (hk : 1 ≤ k) (hk2 : k ≤ 20) : (tamC k c).toNat = 97 + c.toNat % k := by
  have := Nat.mod_lt c.toNat (show k > 0 by omega)
  rw [tamC, UInt8.toNat_ofNat', Nat.mod_eq_of_lt (by omega)]
set_option maxHeartbeats 1000000 in
theorem tame_any (s : ByteArray) (most k : Nat) (w : World) (hk : 1 ≤ k) (hk2 : k ≤ 4) (hm : most ≤ 1000) (hs : s.size ≤ 9223372036854775807) :
    Calls Tryz.prog 15 #[.string s, .int .i64 most, .int .i64 k] w fun e w' => e = .returned (.string (mkS (tameL most k s.data.toList))) ∧ Below w.heap.size w w' := by
  go_enter Tryz.func15, Tryz.ntmps15
  go_wp2
  go_loopw [7, 8] (fun v i wr => ∃ (j : Nat) (L : List UInt8), j ≤ s.size ∧ j ≤ most ∧ i = .int .i64 j ∧ Below w.heap.size w wr ∧ wr.ownsRow w.heap.size 5 1 v L.length (L.map u8v) ∧ L.length = j ∧ Hid (L = (s.data.toList.take j).map (tamC k))) (fun _ i _ => s.size - (intOf i).toNat)
  case atStart => exact ⟨0, [], by omega, by omega, rfl, Below.refl _ _, World.ownsRow_nil _ _ _ _, rfl, rfl⟩
  case round =>
    obtain ⟨j, L, hj, hjm, rfl, hB, hown, hL, HL⟩ := hrel
    have HLj := hid hL
    have hLb : L.length ≤ 1000 := by omega
    clear hL
    by_cases hlt : j < s.size ∧ j < most
    · obtain ⟨hlt1, hlt2⟩ := hlt
      have hkw : IntKind.u8.wrap (k : Int) = (k : Int) := IntWalk.u8_in _ (by omega)
      have hmod : Int.tmod (s[j].toNat : Int) (k : Int) = ((s[j].toNat % k : Nat) : Int) := tmod_nat _ _
      have hw64 : wrap64 (s[j].toNat : Int) = (s[j].toNat : Int) := by have := s[j].toNat_lt; unfold wrap64; omega
      have hml := Nat.mod_lt s[j].toNat (show k > 0 by omega)
      have hX : ∀ X : Int, X = 97 + ((s[j].toNat % k : Nat) : Int) → L.map u8v ++ [.int .u8 X] = (L ++ [tamC k s[j]]).map u8v := by
        rintro _ rfl
        simp only [List.map_append, List.map_cons, List.map_nil, u8v]
        rw [tamC_nat k _ hk (by omega)]
        congr 3
      have HX := hid hX
      obtain ⟨r, hr⟩ : ∃ r, r = s[j].toNat % k := ⟨_, rfl⟩
      rw [← hr] at hmod hml HX
      have HR := hid hr
      clear hX hr
      go_wp2_with (at_builtin; go_must (refine wpList_app _ rfl (.tmp 20) (.tmp 29) 71 rfl w.heap.size 5 (.int .u8 0) 1 Tryz.underlying71 Tryz.info5 rfl _ L.length _ rfl (hown.alloc _) (some ⟨wr.heap.size, 0, none⟩) 1 1 [.int .u8 _] rfl rfl (vals_new _ _ _ _ rfl) (fun h => by cases h) (by simp [Value.oneCell']) (by omega) (by omega) (by have := hB.size; simp; omega) ?_))
      intro v' w1 hown' hgrow _
      rw [HX.out _ rfl] at hown'
      have hB' := below_app (hB.alloc hB.size _) hgrow (hown.alloc _) (by have := hB.size; simp; omega) (Nat.le_refl _)
      go_wp2
      go_roundw
      case rel => exact ⟨j + 1, L ++ [tamC k s[j]], by omega, by omega, by go_num, hB', by simpa using hown', by simp [HLj.out], by rw [Hid, take_succ_bytes s j hlt1, HL.out, List.map_append]; rfl⟩
      case measure => simp [intOf]; omega
    · have hend : L = tameL most k s.data.toList := by
        rw [HL.out, tameL]
        by_cases h : j < s.size
        · rw [show most = j by omega]
        · rw [take_all_bytes s j (by omega), List.take_of_length_le (by rw [bytes_len]; omega)]
      obtain ⟨a1, c1, rfl, hv1, -⟩ := ownsRow_vals hown
      have hlen : (L.map u8v).length = L.length := List.length_map ..
      have hn1 := (ownsRow_facts hown).2
      have hnil : a1 = none → L = [] := fun h => List.eq_nil_of_length_eq_zero (by have := hn1.2 h; have := hn1.1; omega)
      have hcv := run_strB (P := Tryz.prog) 71 9 5 Tryz.underlying71 Tryz.underlying5 Tryz.underlying9 wr a1 c1 L hv1 hnil
      have HF := hid hend
      clear hn1 hnil hown hv1 hend
      rw [hlen]
      clear hlen
      have hjd : decide ((j : Int) < (s.size : Int)) = decide (j < s.size) := by rw [decide_eq_decide]; omega
      by_cases h1 : j < s.size
      · have h2 : ¬ j < most := fun h => hlt ⟨h1, h⟩
        go_wp2
        go_ret
        exact ⟨ret_str (by rw [HF.out]), hB⟩
      · go_wp2
        go_ret
        exact ⟨ret_str (by rw [HF.out]), hB⟩
section
attribute [local go_sem] Oper.semAt_some
theorem exp_at (l : List UInt8) (hf : fullB l = true) (hl : l.length ≤ 120) (w : World) : Hid (Calls Tryz.prog 20 #[.string (mkS l)] w fun e w' => e = .returned (.tuple #[fracV l.length (per l l.length), .int .i64 0]) ∧ Below w.heap.size w w') := by
  refine (Exponent_any (mkS l) w (by rw [mkS_size]; omega)).mono ?_
  rintro e w' ⟨rfl, hb⟩
  rw [mkS_data, if_pos hf]; exact ⟨rfl, hb⟩
end
section
attribute [local go_sem] Oper.semAt_some
theorem Square_word (s : ByteArray) (w : World) (hs : s.size ≤ 1000000) (hw : wordB s.data.toList = true) : Calls Tryz.prog 21 #[.string s] w fun e w' => e = .returned (abV (sq s.data.toList)) ∧ Below w.heap.size w w' := by
  refine (Square_any s w hs).mono ?_
  rintro e w' ⟨rfl, hb⟩
  refine ⟨?_, hb⟩
  rw [if_pos hw]
  unfold freeB
  cases sq s.data.toList with
  | none => rfl
  | some x => rfl
end

end Go.Proofs.YtkmpdcckgibkhaaGreat.Mk
