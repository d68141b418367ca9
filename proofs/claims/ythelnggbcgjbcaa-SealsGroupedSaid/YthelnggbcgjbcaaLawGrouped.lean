/-
  The walk of the law SealsGrouped.
-/
import Derived.Test.YthelnggbcgjbcaaLawRounds
import Derived.Test.YthelnggbcgjbcaaGrp
namespace Go.Proofs.Ythelnggbcgjbcaa
open Go.RowKit

/-- The letter number c. -/
def chB (c : Nat) : UInt8 := UInt8.ofNat (97 + c)
theorem chB_nat (c : Nat) (h : c ≤ 100) : (chB c).toNat = 97 + c := by
  unfold chB; rw [UInt8.toNat_ofNat']; omega
def gSl (n : Nat → Nat) : Nat → List UInt8
  | 0 => []
  | c + 1 => gSl n c ++ List.replicate (2 * n c) (chB c)
def gWl (n : Nat → Nat) : Nat → List Int
  | 0 => []
  | c + 1 => gWl n c ++ if 0 < n c then [(((gSl n c).length + n c : Nat) : Int)] else []
theorem gSl_len (n : Nat → Nat) (h : ∀ c, n c < 4) (c : Nat) : (gSl n c).length ≤ 6 * c := by
  induction c with
  | zero => simp [gSl]
  | succ c ih => have := h c; simp [gSl]; omega
theorem gWl_len (n : Nat → Nat) (c : Nat) : (gWl n c).length ≤ c := by
  induction c with
  | zero => simp [gWl]
  | succ c ih => simp only [gWl, List.length_append]; split <;> simp <;> omega
theorem gSl_gL (n : Nat → Nat) : gSl n 4 = gL (n 0) (n 1) (n 2) (n 3) := by
  simp only [gSl, gL, List.nil_append, List.append_assoc]; rfl
theorem gWl_gW (n : Nat → Nat) : gWl n 4 = gW 0 [n 0, n 1, n 2, n 3] := by
  simp only [gWl, gW, gSl, List.nil_append, List.length_append, List.length_replicate, List.length_nil]
  rcases Nat.eq_zero_or_pos (n 0) with h0 | h0 <;> rcases Nat.eq_zero_or_pos (n 1) with h1 | h1 <;> rcases Nat.eq_zero_or_pos (n 2) with h2 | h2 <;> rcases Nat.eq_zero_or_pos (n 3) with h3 | h3 <;>
    simp [h0, h1, h2, h3, Nat.ne_of_gt] <;> omega
theorem grp_least (n : Nat → Nat) (h : ∀ c, n c < 4) : evenChainB (gSl n 4) = true ∧ leastC (gSl n 4) = gWl n 4 := by
  have he : evenChainB (gSl n 4) = true := by
    have h1 := gL_ok (n 0) (n 1) (n 2) (n 3)
    have h2 := gL_even (n 0) (n 1) (n 2) (n 3)
    have h3 := gL_len (n 0) (n 1) (n 2) (n 3)
    have := h 0; have := h 1; have := h 2; have := h 3
    rw [gSl_gL, evenChainB, chainB, h1, h2, decide_eq_true (by omega)]; rfl
  refine ⟨he, ?_⟩
  obtain ⟨l1, l2, l3, -, -⟩ := least_spec _ he
  rw [gSl_gL] at l1 l2 l3
  rw [gWl_gW, gSl_gL]
  exact grouped _ _ _ _ _ l1 l2 l3
def n4 (x : Nat → Int) (c : Nat) : Nat := ((x c % 18446744073709551616) % 4).toNat
theorem n4_lt (x : Nat → Int) (c : Nat) : n4 x c < 4 := by unfold n4; omega
theorem n4_eq (x : Nat → Int) (c : Nat) : (x c % 18446744073709551616) % 4 = (n4 x c : Int) := by unfold n4; omega

theorem run_chr (W : World) (c : Nat) (hc : c ≤ 100) : (convert 25 9 (.slice (some ⟨W.heap.size, 0, none⟩) 1 1)).run Try.prog (W.alloc (.cells #[.int .u8 (97 + (c : Int))] 5)) = .ok (.string (mkS [chB c])) (W.alloc (.cells #[.int .u8 (97 + (c : Int))] 5)) := by
  refine run_strB (P := Try.prog) 25 9 5 Try.underlying25 Try.underlying5 Try.underlying9 _ _ 1 [chB c] (vals_new _ _ _ _ ?_) (fun h => by cases h)
  simp only [List.map_cons, List.map_nil, u8v]
  rw [chB_nat c hc]; rfl

set_option maxHeartbeats 4000000 in
theorem grouped_walk (x : Nat → Int) (w : World) (hx : ∀ c, -9223372036854775808 ≤ x c ∧ x c ≤ 9223372036854775807) :
    Calls Try.prog 3 #[.agg (arr4 x)] w fun e w' => e = .returned (.bool true) ∧ Below w.heap.size w w' := by
  have HX := hid hx
  clear hx
  obtain ⟨n, hn⟩ : ∃ n, n = n4 x := ⟨_, rfl⟩
  have HN := hid hn
  have HB := hid (show ∀ c, n c < 4 from fun c => hn ▸ n4_lt x c)
  clear hn
  obtain ⟨H1, H2⟩ := grp_least n HB.out
  have H1 := hid H1
  have H2 := hid H2
  have hch := fun W c hc => hid (run_chr W c hc)
  go_enter Try.func3, Try.ntmps3
  go_wp2_with fail
  go_loopw [3, 4, 5] (fun sv wv i wr => ∃ (c : Nat) (s : ByteArray) (L : List Int), c ≤ 4 ∧ i = .int .i64 c ∧ sv = .string s ∧ s.size ≤ 24 ∧ Below w.heap.size w wr ∧ Blk wr w.heap.size (arr4 x) 22 ∧ wr.ownsRow (w.heap.size + 1) 3 1 wv L.length (L.map (Value.int .i64)) ∧ L.length ≤ 4 ∧ Hid (s = mkS (gSl n c) ∧ L = gWl n c)) (fun _ _ i _ => 4 - (intOf i).toNat)
  case atStart => exact ⟨0, _, [], by omega, rfl, rfl, by decide, (Below.refl _ _).alloc (Nat.le_refl _) _, Blk.new _ _ _, World.ownsRow_nil _ _ _ _, by simp, rfl, rfl⟩
  case round =>
    obtain ⟨c, s, L, hc, rfl, rfl, hs, hB, hA, hown, hL, HL⟩ := hrel
    by_cases hlt : c < 4
    · have hcc := hA.cell4 c hlt
      have hsl : s.size = (gSl n c).length := by rw [HL.out.1, mkS_size]
      have hsz := gSl_len n HB.out c
      have HSL := hid hsl
      have hs24 : s.size ≤ 18 := by omega
      clear hsl hsz
      have hsw : w.heap.size + 1 ≤ wr.heap.size := hA.lt
      go_wp2_with fail
      refine (mod_any (x c) 4 wr (by omega) (by omega) (HX.out c)).mono ?_
      rintro e w5 ⟨rfl, rfl⟩
      rw [n4_eq, ← HN.out]
      have hb := HB.out c
      by_cases hpos : 0 < n c
      · go_wp2_with (at_builtin; go_must (refine wpList_app2 _ rfl (.tmp 22) (.tmp 27) 23 rfl (w.heap.size + 1) 3 (.int .i64 0) 8 Try.underlying23 Try.info3 rfl _ L.length _ rfl (hown.alloc _) (some ⟨wr.heap.size, 0, none⟩) 1 1 [.int .i64 _] rfl rfl (vals_new _ _ _ _ rfl) (fun h => by cases h) (by simp [Value.oneCell']) (by omega) (by omega) (by simp; omega) ?_))
        intro v' w1 hown' hgrow hloc
        obtain ⟨L1, hL1⟩ : ∃ L1, L1 = L ++ [((s.size : Int) + n c)] := ⟨_, rfl⟩
        have hown1 : w1.ownsRow (w.heap.size + 1) 3 1 v' L1.length (L1.map (Value.int .i64)) := by rw [hL1]; simpa using hown'
        have hB1 := below_app (hB.alloc hB.size _) hgrow (hown.alloc _) (by have := hB.size; simp; omega) (Nat.le_succ _)
        have hA1 : Blk w1 w.heap.size (arr4 x) 22 := (hgrow.block w.heap.size (by simp; omega) (fun e => by have := (hown.lt _ e.symm).1; omega)).trans (hA.alloc _)
        have hW1 : L1 = gWl n (c + 1) := by rw [hL1, HL.out.2, gWl, if_pos hpos, HSL.out]; simp
        have hL1b : L1.length ≤ 4 := by rw [hW1]; have := gWl_len n (c + 1); omega
        have HW1 := hid hW1
        clear hW1 hL1 hown' hA hB hown hgrow hloc
        go_wp2_with fail
        go_loopw [3, 7] (fun sv i wx => ∃ (k : Nat) (t : ByteArray), k ≤ 2 * n c ∧ i = .int .i64 k ∧ sv = .string t ∧ t.size ≤ 18 + k ∧ Below w.heap.size w wx ∧ Blk wx w.heap.size (arr4 x) 22 ∧ wx.ownsRow (w.heap.size + 1) 3 1 v' L1.length (L1.map (Value.int .i64)) ∧ Hid (t = mkS (gSl n c ++ List.replicate k (chB c)))) (fun _ i _ => 2 * n c - (intOf i).toNat)
        case atStart => exact ⟨0, s, by omega, rfl, rfl, by omega, hB1, hA1, hown1, by rw [Hid, HL.out.1]; simp⟩
        case round =>
          obtain ⟨k, t, hk, rfl, rfl, ht, hB2, hA2, hown2, HT⟩ := hrel
          by_cases hkl : k < 2 * n c
          · have hcv := (hch wr c (by omega)).out
            have hsz1 : t.size + (mkS [chB c]).size ≤ 9223372036854775807 := by rw [mkS_size]; simp; omega
            have ht2 : (t ++ mkS [chB c]).size ≤ 18 + (k + 1) := by rw [ByteArray.size_append, mkS_size]; simp; omega
            have hte : t ++ mkS [chB c] = mkS (gSl n c ++ List.replicate (k + 1) (chB c)) := by
              rw [HT.out, mkS_append, List.replicate_succ', List.append_assoc]
            have HTE := hid hte
            clear hte
            go_wp2
            go_roundw
            case rel => exact ⟨k + 1, _, by omega, by go_num, rfl, ht2, hB2.alloc hB2.size _, hA2.alloc _, hown2.alloc _, HTE⟩
            case measure => simp [intOf]; omega
          · have hte : t = mkS (gSl n (c + 1)) := by rw [HT.out, show k = 2 * n c by omega]; rfl
            have HTE := hid hte
            clear hte
            go_wp2
            go_roundw
            case rel => exact ⟨c + 1, t, L1, by omega, by go_num, rfl, by rw [HTE.out, mkS_size]; have := gSl_len n HB.out (c + 1); omega, hB2, hA2, hown2, hL1b, HTE.out, HW1.out⟩
            case measure => simp [intOf]; omega
      · obtain ⟨L1, hL1⟩ : ∃ L1, L1 = L := ⟨_, rfl⟩
        have hown1 := hown
        rw [← hL1] at hown1
        have hB1 := hB
        have hA1 := hA
        have hW1 : L1 = gWl n (c + 1) := by rw [hL1, HL.out.2, gWl, if_neg hpos, List.append_nil]
        have hL1b : L1.length ≤ 4 := by rw [hW1]; have := gWl_len n (c + 1); omega
        have HW1 := hid hW1
        clear hW1 hL1 hA hB hown
        go_wp2_with fail
        go_loopw [3, 7] (fun sv i wx => ∃ (k : Nat) (t : ByteArray), k ≤ 2 * n c ∧ i = .int .i64 k ∧ sv = .string t ∧ t.size ≤ 18 + k ∧ Below w.heap.size w wx ∧ Blk wx w.heap.size (arr4 x) 22 ∧ wx.ownsRow (w.heap.size + 1) 3 1 u4 L1.length (L1.map (Value.int .i64)) ∧ Hid (t = mkS (gSl n c ++ List.replicate k (chB c)))) (fun _ i _ => 2 * n c - (intOf i).toNat)
        case atStart => exact ⟨0, s, by omega, rfl, rfl, by omega, hB1, hA1, hown1, by rw [Hid, HL.out.1]; simp⟩
        case round =>
          obtain ⟨k, t, hk, rfl, rfl, ht, hB2, hA2, hown2, HT⟩ := hrel
          by_cases hkl : k < 2 * n c
          · omega
          · have hte : t = mkS (gSl n (c + 1)) := by rw [HT.out, show k = 2 * n c by omega]; rfl
            have HTE := hid hte
            clear hte
            go_wp2
            go_roundw
            case rel => exact ⟨c + 1, t, L1, by omega, by go_num, rfl, by rw [HTE.out, mkS_size]; have := gSl_len n HB.out (c + 1); omega, hB2, hA2, hown2, hL1b, HTE.out, HW1.out⟩
            case measure => simp [intOf]; omega
    · have hfin : s = mkS (gSl n 4) ∧ L = gWl n 4 := by rw [HL.out.1, HL.out.2, show c = 4 by omega]; exact ⟨rfl, rfl⟩
      obtain ⟨hfs, hfl⟩ := hfin
      have hs24 : s.size ≤ 24 := hs
      have hle : leastC s.data.toList = L ∧ leastE s.data.toList = 0 := by
        rw [hfs, mkS_data, hfl]
        exact ⟨H2.out, by rw [leastE, H1.out]; rfl⟩
      have HLE := hid hle
      clear hle hfs hfl
      obtain ⟨a3, c3, rfl, hv3⟩ := ownsRow_ints hown
      have HV := hid hv3
      clear hv3 hown
      go_wp2_with fail
      refine (least_any s _ (by omega)).mono ?_
      rintro e w1 ⟨a1, c1, rfl, hi1, -, -, hb1⟩
      rw [HLE.out.1] at hi1 ⊢
      rw [HLE.out.2]
      have HV := hid (HV.out.below hb1 (Nat.le_refl _))
      have HI1 := hid hi1
      have hb1 := hB.trans (hb1.mono hB.size)
      clear hi1
      go_wp2_with fail
      refine (fair_any s _ (by omega)).mono ?_
      rintro e w2 ⟨a2, c2, rfl, hi2, -, -, hb2⟩
      rw [HLE.out.1] at hi2 ⊢
      rw [HLE.out.2]
      have HV := hid (HV.out.below hb2 (Nat.le_refl _))
      have HI1 := hid (HI1.out.below hb2 (Nat.le_refl _))
      have HI2 := hid hi2
      have hb2 := hb1.trans (hb2.mono hb1.size)
      clear hi2
      go_wp2_with fail
      refine (ints_any a1 a3 c1 c3 L L w2 HI1.out HV.out (by omega) (by omega)).mono ?_
      rintro e w3 ⟨rfl, hb3⟩
      rw [show (L == L) = true by simp]
      have HV := hid (HV.out.below hb3 (Nat.le_refl _))
      have HI2 := hid (HI2.out.below hb3 (Nat.le_refl _))
      have hb3 := hb2.trans (hb3.mono hb2.size)
      go_wp2_with fail
      refine (ints_any a2 a3 c2 c3 L L w3 HI2.out HV.out (by omega) (by omega)).mono ?_
      rintro e w4 ⟨rfl, hb4⟩
      rw [show (L == L) = true by simp]
      have hb4 := hb3.trans (hb4.mono hb3.size)
      go_wp2_with fail
      refine (awake_any w4).mono ?_
      rintro e w5 ⟨rfl, hb5⟩
      go_wp2
      go_ret
      exact ⟨rfl, hb4.trans (hb5.mono hb4.size)⟩
theorem grouped_walk4 (x : Nat → Int) (w : World) (hx : ∀ c, -9223372036854775808 ≤ x c ∧ x c ≤ 9223372036854775807) :
    Calls Try.prog 3 #[.agg #[.int .i64 (x 0), .int .i64 (x 1), .int .i64 (x 2), .int .i64 (x 3)]] w fun e w' => e = .returned (.bool true) ∧ Below w.heap.size w w' := grouped_walk x w hx
end Go.Proofs.Ythelnggbcgjbcaa
