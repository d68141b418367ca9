/-
  Walks: the law's words, sets of states, and order of words.
-/
import Derived.Test.YthlgdakdjikjhaaDoorLawImages
import Derived.Test.YthlgdakdjikjhaaDoorSetsB
import Derived.Test.YthlgdakdjikjhaaDoorLex
import Derived.Test.YthlgdakdjikjhaaDoorStrs
namespace Go.Proofs.YthlgdakdjikjhaaDoor
open Go.RowKit Go.ChangeMaps
attribute [local go_sem] Oper.semAt_some

theorem word_step (ch : UInt8) (n : Nat) (h1 : 1 ≤ n) (h4 : n ≤ 4) : (97 + (wrap64 (ch.toNat : Int)).tmod (n : Int)) % 256 = ((letK n ch).toNat : Int) := by
  have hr := Nat.mod_lt ch.toNat (show n > 0 by omega)
  have hc := ch.toNat_lt
  rw [letK_nat n ch h1 h4, IntWalk.wrap64_in _ ⟨by omega, by omega⟩, show Int.tmod (ch.toNat : Int) (n : Int) = ((ch.toNat % n : Nat) : Int) from rfl]
  omega
set_option maxHeartbeats 1000000 in
theorem word_any (a : Option Addr) (n c : Nat) (s : ByteArray) (most : Nat) (w : World) (hs : s.size ≤ maxLen) (h1 : 1 ≤ n) (h4 : n ≤ 4) (hm : most ≤ 100) :
    Calls Tryd.prog 38 #[.slice a n c, .string s, .int .i64 most] w fun e w' => e = .returned (.string (mkS (mkWord n (s.data.toList.take most)))) ∧ Below w.heap.size w w' := by
  have hmx : maxLen ≤ 9223372036854775807 := by decide
  go_enter Tryd.func38, Tryd.ntmps38
  go_wp2_with fail
  go_loopw [7, 8] (fun v iv wr => ∃ i : Nat, i ≤ s.size ∧ i ≤ most ∧ iv = .int .i64 i ∧ Below w.heap.size w wr ∧ Hid (wr.ownsRow w.heap.size 5 1 v i ((mkWord n (s.data.toList.take i)).map u8v))) (fun _ iv _ => most - (intOf iv).toNat)
  case atStart => exact ⟨0, by omega, by omega, rfl, Below.refl _ _, World.ownsRow_nil _ _ _ _⟩
  case round =>
    obtain ⟨i, hi, him, rfl, hB, HO⟩ := hrel
    by_cases h : i < s.size ∧ i < most
    · obtain ⟨k1, k2⟩ := h
      have d1 : decide ((i : Int) < (s.size : Int)) = true := decide_eq_true (by omega)
      have d2 : decide ((i : Int) < (most : Int)) = true := decide_eq_true (by omega)
      have hst : mkWord n (s.data.toList.take (i + 1)) = mkWord n (s.data.toList.take i) ++ [letK n s[i]] := by
        rw [take_succ_bytes s i k1]; simp [mkWord]
      obtain ⟨ch, hch⟩ : ∃ ch, ch = s[i] := ⟨_, rfl⟩
      rw [← hch] at hst
      have hcn : ((s[i].toNat : Nat) : Int) = (ch.toNat : Int) := by rw [hch]
      have hln := word_step ch n h1 h4
      have hX : (mkWord n (s.data.toList.take i)).map u8v ++ [.int .u8 ((97 + (wrap64 (ch.toNat : Int)).tmod (n : Int)) % 256)] = (mkWord n (s.data.toList.take (i + 1))).map u8v := by
        rw [hst, List.map_append, List.map_singleton, u8v, ← hln]
      have HX := hid hX
      have HCH := hid hch
      have dn : ((n : Int) == 0) = false := beq_eq_false_iff_ne.2 (by omega)
      have HLN := hid hln
      clear hX hst hch hln
      go_wp2_with (at_builtin; go_must (refine wpList_app _ rfl (.tmp 20) (.tmp 30) 90 rfl w.heap.size 5 (.int .u8 0) 1 Tryd.underlying90 Tryd.info5 rfl _ i _ rfl (HO.out.alloc _) (some ⟨wr.heap.size, 0, none⟩) 1 1 [.int .u8 _] rfl rfl (vals_new _ _ _ _ rfl) (fun h => by cases h) (by simp [Value.oneCell']) (by omega) (by omega) (by have := hB.size; simp; omega) ?_))
      intro v' w1 hown' hgrow _
      rw [HX.out] at hown'
      have hB' := below_app (hB.alloc hB.size _) hgrow (HO.out.alloc _) (by have := hB.size; simp; omega) (Nat.le_refl _)
      have HO' := hid hown'
      clear hown' hgrow HX
      go_wp2_with fail
      exact ⟨⟨i + 1, by omega, by omega, by go_num, hB', HO'⟩, by simp [intOf]; omega⟩
    · have hfin : s.data.toList.take i = s.data.toList.take most := by
        rcases (show i = most ∨ s.size ≤ i by omega) with h6 | h6
        · rw [h6]
        · rw [take_all_bytes s i h6, take_all_bytes s most (by omega)]
      have hlen : (mkWord n (s.data.toList.take most)).length = i := by
        rw [← hfin, mkWord, List.length_map, List.length_take, bytes_len]; omega
      rw [hfin] at HO
      obtain ⟨L, hL⟩ : ∃ L, L = mkWord n (s.data.toList.take most) := ⟨_, rfl⟩
      rw [← hL] at HO hlen
      have HL := hid hL
      clear hL
      obtain ⟨a1, c1, rfl, hv, -⟩ := ownsRow_vals HO.out
      have hml : (L.map u8v).length = i := by rw [List.length_map, hlen]
      rw [hml] at HO ⊢
      obtain ⟨-, hic, hnc⟩ := ownsRow_facts HO.out
      have hcv : (convert 90 9 (.slice a1 i c1)).run Tryd.prog wr = .ok (.string (mkS L)) wr := by
        have := run_strB (P := Tryd.prog) 90 9 5 Tryd.underlying90 Tryd.underlying5 Tryd.underlying9 wr a1 c1 L hv (fun h => by
          have h2 := hnc h
          exact List.eq_nil_of_length_eq_zero (by omega))
        rw [hlen] at this
        exact this
      have HBW := hid hB
      clear hfin hlen hv hic hnc hml
      rcases (show ¬ i < s.size ∨ (i < s.size ∧ ¬ i < most) by omega) with k1 | ⟨k0, k1⟩
      · have d1 : decide ((i : Int) < (s.size : Int)) = false := decide_eq_false (by omega)
        go_wp2_with fail
        go_ret
        exact ⟨ret_str (by rw [HL.out]), HBW.out⟩
      · have d1 : decide ((i : Int) < (s.size : Int)) = true := decide_eq_true (by omega)
        have d2 : decide ((i : Int) < (most : Int)) = false := decide_eq_false (by omega)
        go_wp2_with fail
        go_ret
        exact ⟨ret_str (by rw [HL.out]), HBW.out⟩

instance (a b : List UInt8) : Decidable (ltW a b) := by unfold ltW; infer_instance
theorem op_lt (x y : List UInt8) : Op.bytesLess (mkS x).data.toList (mkS y).data.toList = decide (x < y) := bytesLess_lt x y
theorem op_lt' (x y : List UInt8) : Op.bytesLess (mkS x).toList (mkS y).toList = decide (x < y) := by
  rw [Lib.toList_data, Lib.toList_data]; exact bytesLess_lt x y
theorem later_gen (x y : ByteArray) (w : World) : Calls Tryd.prog 42 #[.string x, .string y] w fun e w' => e = .returned (.bool (decide (ltW y.data.toList x.data.toList))) ∧ w = w' := by
  rcases Nat.lt_trichotomy y.size x.size with h | h | h
  · have d1 : decide ((x.size : Int) > (y.size : Int)) = true := decide_eq_true (by omega)
    have d3 : decide (y.size < x.size) = true := decide_eq_true (by omega)
    have hf : ltW y.data.toList x.data.toList := .inl h
    have HF := hid (decide_eq_true hf)
    clear hf h
    go_enter Tryd.func42, Tryd.ntmps42
    go_wp2_with fail
    go_ret
    exact ⟨ret_bool HF.out.symm, rfl⟩
  · have d1 : decide ((x.size : Int) > (y.size : Int)) = false := decide_eq_false (by omega)
    have d3 : decide (y.size < x.size) = false := decide_eq_false (by omega)
    have d2 : ((x.size : Int) == (y.size : Int)) = true := beq_iff_eq.2 (by omega)
    have hf : (!Op.bytesLess x.toList y.toList && !x.toList == y.toList) = decide (ltW y.data.toList x.data.toList) := by
      rw [Lib.toList_data, Lib.toList_data, bytesLess_lt, Bool.eq_iff_iff]
      rw [← bytes_len, ← bytes_len] at h
      generalize x.data.toList = x at *
      generalize y.data.toList = y at *
      simp only [Bool.and_eq_true, Bool.not_eq_true', decide_eq_false_iff_not, beq_eq_false_iff_ne, decide_eq_true_eq]
      constructor
      · rintro ⟨h1, h2⟩
        refine .inr ⟨h, ?_⟩
        rcases List.le_total x y with h3 | h3
        · exact absurd (List.le_antisymm h3 (List.not_lt.1 h1)) h2
        · exact List.not_le.1 fun h4 => h2 (List.le_antisymm h4 h3)
      · intro h1
        rcases h1 with h1 | ⟨-, h1⟩
        · omega
        · exact ⟨fun h2 => List.lt_asymm h1 h2, fun h2 => by subst h2; exact List.lt_irrefl _ h1⟩
    have HF := hid hf
    clear hf h
    go_enter Tryd.func42, Tryd.ntmps42
    go_wp2_with fail
    go_ret
    exact ⟨ret_bool HF.out, rfl⟩
  · have d1 : decide ((x.size : Int) > (y.size : Int)) = false := decide_eq_false (by omega)
    have d3 : decide (y.size < x.size) = false := decide_eq_false (by omega)
    have d2 : ((x.size : Int) == (y.size : Int)) = false := beq_eq_false_iff_ne.2 (by omega)
    have hf : ¬ ltW y.data.toList x.data.toList := by
      rw [← bytes_len, ← bytes_len] at h
      rintro (h1 | ⟨h1, -⟩) <;> omega
    have HF := hid (decide_eq_false hf)
    clear hf h
    go_enter Tryd.func42, Tryd.ntmps42
    go_wp2_with fail
    go_ret
    exact ⟨ret_bool HF.out.symm, rfl⟩
theorem later_any (x y : List UInt8) (w : World) : Calls Tryd.prog 42 #[.string (mkS x), .string (mkS y)] w fun e w' => e = .returned (.bool (decide (ltW y x))) ∧ w = w' := later_gen (mkS x) (mkS y) w
end Go.Proofs.YthlgdakdjikjhaaDoor
