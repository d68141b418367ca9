/-
  The walk of the law SealsOwn.
-/
import Derived.Test.YthelnggbcgjbcaaLawRounds
import Derived.Test.YthelnggbcgjbcaaHalvesP
namespace Go.Proofs.Ythelnggbcgjbcaa
open Go.RowKit
attribute [local go_sem] Oper.semAt_some

/-- A row that may be written to: its cells lie at or above B, not in block gA. -/
def LiveRow (B gA : Nat) (W : World) (r : Value) : Prop := ∃ a n c, r = .slice a n c ∧ n ≤ maxLen ∧ (n = 0 ∨ ∃ g o, a = some ⟨g, o, none⟩ ∧ B ≤ g ∧ g ≠ gA ∧ ∀ k, k < n → (∃ v, W.cell? ⟨g, o + k, none⟩ = some v) ∧ W.frozen? ⟨g, o + k, none⟩ = false)
theorem LiveRow.set {B gA : Nat} {W : World} {r : Value} (h : LiveRow B gA W r) (p : Addr) (x : Value) : LiveRow B gA (W.setCell p x) r := by
  obtain ⟨a, n, c, h1, h2, h3⟩ := h
  refine ⟨a, n, c, h1, h2, h3.imp id ?_⟩
  rintro ⟨g, o, h4, h5, h6, h7⟩
  refine ⟨g, o, h4, h5, h6, fun k hk => ?_⟩
  obtain ⟨⟨v, h8⟩, h9⟩ := h7 k hk
  exact ⟨cell?_setCell_some h8, by rw [World.frozen?_setCell]; exact h9⟩
theorem LiveRow.below {B gA D : Nat} {W W' : World} {r : Value} (h : LiveRow B gA W r) (hb : Below D W W') (hD : W.heap.size ≤ D) : LiveRow B gA W' r := by
  obtain ⟨a, n, c, h1, h2, h3⟩ := h
  refine ⟨a, n, c, h1, h2, h3.imp id ?_⟩
  rintro ⟨g, o, h4, h5, h6, h7⟩
  refine ⟨g, o, h4, h5, h6, fun k hk => ?_⟩
  obtain ⟨⟨v, h8⟩, h9⟩ := h7 k hk
  have hg : g < D := Nat.lt_of_lt_of_le (World.block_lt_of_cell? _ _ h8) hD
  exact ⟨⟨v, (hb.cell (p := ⟨g, o + k, none⟩) hg).trans h8⟩, (hb.frozen (p := ⟨g, o + k, none⟩) hg).trans h9⟩
theorem LiveRow.own {B base gA : Nat} {W : World} {a : Option Addr} {c : Nat} {L : List Int} (h : OwnR base W a c L) (hB : B ≤ base) (hA : ∀ g, g < W.heap.size → g ≠ gA) : LiveRow B gA W (.slice a L.length c) := by
  obtain ⟨h1, h2⟩ := h
  rcases h2 with ⟨h3, h4⟩ | ⟨g, cap, cs, h3, h4, h5, h6, h7, h8, h9⟩
  · exact ⟨a, L.length, c, rfl, by rw [h4]; exact Nat.zero_le _, .inl h4⟩
  · cases h3
    refine ⟨_, _, _, rfl, Nat.le_trans h6 h7, .inr ⟨g, 0, rfl, Nat.le_trans hB h4, hA g (Blk.lt h5), fun k hk => ?_⟩⟩
    have hcs : k < cs.size := by omega
    refine ⟨⟨cs[k], ?_⟩, ?_⟩
    · rw [Nat.zero_add, Blk.cell h5 k]; exact Array.getElem?_eq_getElem hcs
    · rw [Nat.zero_add]; exact Blk.free h5 k
theorem LiveRow.blk {B g gA n : Nat} {W : World} {cs : Array Value} {t : TypeId} (h : Blk W g cs t) (hn : cs.size = n) (hm : n ≤ maxLen) (hB : B ≤ g) (hA : g ≠ gA) : LiveRow B gA W (.slice (some ⟨g, 0, none⟩) n n) := by
  refine ⟨_, _, _, rfl, hm, .inr ⟨g, 0, rfl, hB, hA, fun k hk => ⟨⟨cs[k], ?_⟩, ?_⟩⟩⟩
  · rw [Nat.zero_add, Blk.cell h k]; exact Array.getElem?_eq_getElem (by omega)
  · rw [Nat.zero_add]; exact Blk.free h k

set_option maxRecDepth 100000 in
set_option maxHeartbeats 8000000 in
theorem own_walk (a0 : ByteArray) (a1 : Option Addr) (len1 cap1 : Nat) (z1 : List Int) (w : World) (w0 : a0.size ≤ maxLen) (w1 : IsRow .i64 w a1 len1 cap1 z1) :
    Calls Try.prog 9 #[.string a0, .slice a1 len1 cap1] w fun e w' => e = .returned (.bool true) ∧ Below w.heap.size w w' := by
  obtain ⟨hi, hlen, hn, hc, hm⟩ := w1.ints
  have hmx : maxLen ≤ 9223372036854775807 := by decide
  have HL1 : Hid (∀ W, Below w.heap.size w W → Calls Try.prog 20 #[.slice a1 len1 cap1] W (RetL ((z1.take len1).take 30) W)) := fun W hW => by
    have := list_full a1 cap1 (z1.take len1) W (hi.below hW (Nat.le_refl _)) (by omega) hn (by omega)
    rw [hlen] at this
    exact this
  clear w1 hi hlen hn hc
  go_enter Try.func9, Try.ntmps9
  go_wp2_with fail
  refine (even_any a0 24 w (by omega) (by omega) (by omega)).mono ?_
  rintro e w2 ⟨rfl, hb⟩
  obtain ⟨s, hs⟩ : ∃ s, s = mkS (evenL a0.data.toList 24) := ⟨_, rfl⟩
  have hch : evenChainB s.data.toList = true := by rw [hs]; exact evenL_chain _ _ (by omega) (by omega)
  have hsz : s.size ≤ 24 := by rw [hs, mkS_size]; exact evenL_len _ _ (by omega)
  rw [← hs]
  have HC := hid hch
  have HOK := hid (even_facts hch).1
  have HCC := hid (show chainB s.data.toList = true by rw [chain_facts] at hch; simp only [Bool.and_eq_true] at hch; exact hch.1)
  have HLE := hid (show leastE s.data.toList = 0 by rw [leastE, hch]; rfl)
  have HBL := hid (bytes_len s)
  have HB2 := hid hb
  obtain ⟨Lc, hLc⟩ : ∃ Lc, Lc = (z1.take len1).take 30 := ⟨_, rfl⟩
  rw [← hLc] at HL1
  have hll : Lc.length ≤ 30 := by rw [hLc, List.length_take]; omega
  clear hs hch hb hLc
  go_wp2_with fail
  refine (HL1.out w2 HB2.out).mono ?_
  rintro e w3 ⟨ac, cc, rfl, hic, hnc, hcc, hb3⟩
  have HI3 := hid hic
  have HB3 := hid (HB2.out.trans (hb3.mono HB2.out.size))
  have HL2 := list_full ac cc Lc w3 hic hcc hnc (by omega)
  rw [List.take_of_length_le hll] at HL2
  have HL2 := hid HL2
  have HN3 := hid (And.intro hnc hcc)
  clear hic hnc hcc hb3 HL1
  go_wp2_with fail
  refine HL2.out.mono ?_
  rintro e w4 ⟨ad, cd, rfl, hid4, -, -, hb4⟩
  have HD4 := hid hid4
  have HI4 := hid (HI3.out.below hb4 (Nat.le_refl _))
  have HB4 := hid (HB3.out.trans (hb4.mono HB3.out.size))
  clear hid4 hb4 HL2 HI3 HB2 HB3
  have IE := hid (fun (W : World) (hb : Below w4.heap.size w4 W) => (ints_any ac ad cc cd Lc Lc W (HI4.out.below hb (Nat.le_refl _)) (HD4.out.below hb (Nat.le_refl _)) (by omega) (by omega)).mono (R' := fun e w' => e = .returned (.bool true) ∧ Below W.heap.size W w') fun e w' h => ⟨by rw [h.1]; simp, h.2⟩)
  have CK := hid (fun (W : World) (hb : Below w4.heap.size w4 W) => check_any s ac cc Lc W (by omega) (HI4.out.below hb (Nat.le_refl _)) HN3.out.1 HN3.out.2 (by omega))
  have SH := hid (fun (W : World) (hb : Below w4.heap.size w4 W) => sharesE_any s ac cc Lc W (by omega) (HI4.out.below hb (Nat.le_refl _)) HN3.out.1 HN3.out.2 (by omega))
  have LE := hid (fun (W : World) => least_anyO s W (by omega))
  have RI := hid (fun (W : World) => ring_anyO s W (by omega))
  have LE2 := hid (fun (W : World) => least_any s W (by omega))
  have RF := hid (fun (W : World) => refLeast_any s W (by omega) HOK.out)
  rw [HLE.out] at LE RI LE2
  rw [(least_spec s.data.toList HC.out).2.2.2.2] at RF
  have HV := hid (fun (W : World) => halves_any s W hsz HCC.out)
  have hlen4 : (leastC s.data.toList).length ≤ 4 := Nat.le_trans (least_spec s.data.toList HC.out).2.2.1 (kindsN_le _)
  obtain ⟨LL, hLL⟩ : ∃ LL, LL = leastC s.data.toList := ⟨_, rfl⟩
  obtain ⟨RR, hRR⟩ : ∃ RR, RR = ringC s.data.toList := ⟨_, rfl⟩
  rw [← hLL] at LE LE2 RF hlen4
  rw [← hRR] at RI
  have IE2 := hid (fun (p q : Option Addr) (cp cq : Nat) (W : World) (h1 : Ints W p LL) (h2 : Ints W q LL) => (ints_any p q cp cq LL LL W h1 h2 (by omega) (by omega)).mono (R' := fun e w' => e = .returned (.bool true) ∧ Below W.heap.size W w') fun e w' h => ⟨by rw [h.1]; simp, h.2⟩)
  clear hLL hRR HI4 HD4 HN3 HC HOK HCC HLE
  go_wp2_with fail
  refine (LE.out w4).mono ?_
  rintro e w5 ⟨a5, c5, rfl, -, -, -, hb5, ho5⟩
  have HO5 := hid ho5
  have B5 := hid hb5
  clear ho5 hb5
  go_wp2_with fail
  refine (RI.out w5).mono ?_
  rintro e w6 ⟨a6, c6, rfl, -, -, -, hb6, ho6⟩
  have HO6 := hid ho6
  have HO56 := hid (HO5.out.heap fun g _ _ hg _ => hb6.block g hg)
  have B6 := hid (B5.out.trans (hb6.mono B5.out.size))
  have hz5 := B5.out.size
  clear ho6 hb6 HO5
  go_wp2_with fail
  refine (HV.out w6).mono ?_
  rintro e w7 ⟨g7, rfl, hg7, hbl7, hb7⟩
  rw [HBL.out] at hbl7 ⊢
  have HBL7 := hid hbl7
  have HO57 := hid (HO56.out.heap fun g _ _ hg _ => hb7.block g hg)
  have HO67 := hid (HO6.out.heap fun g _ _ hg _ => hb7.block g hg)
  have B7 := hid (B6.out.trans (hb7.mono B6.out.size))
  have hz6 := B6.out.size
  clear hbl7 hb7 HO56 HO6
  go_wp2_with fail
  refine (CK.out w7 B7.out).mono ?_
  rintro e w8 ⟨rfl, hb8⟩
  have HBL8 := hid (HBL7.out.below hb8 HBL7.out.lt)
  have HO58 := hid (HO57.out.heap fun g _ _ hg _ => hb8.block g hg)
  have HO68 := hid (HO67.out.heap fun g _ _ hg _ => hb8.block g hg)
  have B8 := hid (B7.out.trans (hb8.mono B7.out.size))
  clear hb8 HBL7 HO57 HO67
  go_wp2_with fail
  refine (SH.out w8 B8.out).mono ?_
  rintro e w9 ⟨rfl, hb9⟩
  have HBL9 := hid (HBL8.out.below hb9 HBL8.out.lt)
  have HO59 := hid (HO58.out.heap fun g _ _ hg _ => hb9.block g hg)
  have HO69 := hid (HO68.out.heap fun g _ _ hg _ => hb9.block g hg)
  have B9 := hid (B8.out.trans (hb9.mono B8.out.size))
  have hz9 := B9.out.size
  have hmx25 : s.size + 1 ≤ maxLen := Nat.le_trans (show s.size + 1 ≤ 25 by omega) (by decide)
  have hgne : ∀ g, g < w9.heap.size → g ≠ w9.heap.size := fun g hg e => by omega
  have LV0 : ∀ r ∈ [Value.slice a5 LL.length c5, .slice a6 RR.length c6, .slice (some ⟨g7, 0, none⟩) (s.size + 1) (s.size + 1)], LiveRow w4.heap.size w9.heap.size w9 r := by
    intro r hr
    simp only [List.mem_cons, List.not_mem_nil, or_false] at hr
    rcases hr with rfl | rfl | rfl
    · exact LiveRow.own HO59.out (Nat.le_refl _) hgne
    · exact LiveRow.own HO69.out hz5 hgne
    · exact LiveRow.blk HBL9.out (by simp [rowA]) hmx25 (by omega) (hgne _ HBL9.out.lt)
  obtain ⟨R, hR⟩ : ∃ R, R = [Value.slice a5 LL.length c5, .slice a6 RR.length c6, .slice (some ⟨g7, 0, none⟩) (s.size + 1) (s.size + 1)] := ⟨_, rfl⟩
  have HRA := hid (show R = [Value.slice a5 LL.length c5, .slice a6 RR.length c6, .slice (some ⟨g7, 0, none⟩) (s.size + 1) (s.size + 1)] from hR)
  have HAL := hid (show Blk (w9.alloc (.cells #[Value.slice a5 LL.length c5, .slice a6 RR.length c6, .slice (some ⟨g7, 0, none⟩) (s.size + 1) (s.size + 1)] 23)) w9.heap.size R.toArray 23 by rw [hR]; exact Blk.new w9 _ _)
  have LV := hid (fun r (hr : r ∈ R) => (LV0 r (by rw [hR] at hr; exact hr)).below ((Below.refl w9.heap.size w9).alloc (Nat.le_refl _) (.cells #[Value.slice a5 LL.length c5, .slice a6 RR.length c6, .slice (some ⟨g7, 0, none⟩) (s.size + 1) (s.size + 1)] 23)) (Nat.le_refl _))
  have hR3 : R.length = 3 := by rw [hR]; rfl
  have HR3 := hid hR3
  have B10 := hid (B9.out.alloc hz9 (.cells #[Value.slice a5 LL.length c5, .slice a6 RR.length c6, .slice (some ⟨g7, 0, none⟩) (s.size + 1) (s.size + 1)] 23))
  clear hb9 HBL8 HO58 HO68 LV0 hgne hR hR3
  go_wp2_with fail
  generalize w9.alloc (.cells #[Value.slice a5 LL.length c5, .slice a6 RR.length c6, .slice (some ⟨g7, 0, none⟩) (s.size + 1) (s.size + 1)] 23) = w10 at *
  obtain ⟨gA, hgA⟩ : ∃ gA, gA = w9.heap.size := ⟨_, rfl⟩
  rw [← hgA] at LV HAL ⊢
  have hgA2 : gA < w10.heap.size := HAL.out.lt
  clear hgA
  go_loopw [15] (fun iv W => ∃ i : Nat, i ≤ 3 ∧ iv = .int .i64 i ∧ Below w4.heap.size w4 W ∧ Blk W gA R.toArray 23 ∧ ∀ r ∈ R, LiveRow w4.heap.size gA W r) (fun iv _ => 3 - (intOf iv).toNat)
  case atStart => exact ⟨0, by omega, rfl, B10.out, HAL.out, LV.out⟩
  case round =>
    obtain ⟨i, hi, rfl, hB, hBA, hLV⟩ := hrel
    have HBW := hid hB
    have HBAW := hid hBA
    have HLV := hid hLV
    clear hB hBA hLV
    by_cases hi3 : i < 3
    · have hrr : R[i]? = some (R[i]'(by rw [HR3.out]; exact hi3)) := List.getElem?_eq_getElem _
      obtain ⟨r, hr0⟩ : ∃ r, r = R[i]'(by rw [HR3.out]; exact hi3) := ⟨_, rfl⟩
      rw [← hr0] at hrr
      have hrm := List.mem_of_getElem? hrr
      obtain ⟨an, n, cn, rfl, hnm, hlv⟩ := HLV.out r hrm
      have HRM := hid hrm
      have HCR := hid (show (R.toArray)[i]? = some (.slice an n cn) by simpa using hrr)
      have q1 : wr.cell? ⟨gA, i, none⟩ = some (.slice an n cn) := (HBAW.out.cell i).trans HCR.out
      clear hrr hr0 hrm hlv
      obtain ⟨wo, rfl⟩ : ∃ wo : World, wo = wr := ⟨_, rfl⟩
      go_wp2_with fail
      go_loopw [16] (fun kv W => ∃ k : Nat, k ≤ n ∧ kv = .int .i64 k ∧ Below w4.heap.size w4 W ∧ Blk W gA R.toArray 23 ∧ ∀ r ∈ R, LiveRow w4.heap.size gA W r) (fun kv _ => n - (intOf kv).toNat)
      case atStart => exact ⟨0, by omega, rfl, HBW.out, HBAW.out, HLV.out⟩
      case round =>
        obtain ⟨k, hk, rfl, hB2, hBA2, hLV2⟩ := hrel
        have HB2' := hid hB2
        have HBA2 := hid hBA2
        have HLV2 := hid hLV2
        have q2 : wr.cell? ⟨gA, i, none⟩ = some (.slice an n cn) := (HBA2.out.cell i).trans HCR.out
        clear hB2 hBA2 hLV2
        by_cases hkn : k < n
        · obtain ⟨an', n', cn', he, -, hlv⟩ := HLV2.out _ HRM.out
          cases he
          rcases hlv with h | ⟨g, o, rfl, hgB, hgA', hlv⟩
          · omega
          · obtain ⟨⟨u, hu⟩, hfz⟩ := hlv k hkn
            have HK := hid (show Below w4.heap.size w4 (wr.setCell ⟨g, o + k, none⟩ (.int .i64 (-7))) ∧ Blk (wr.setCell ⟨g, o + k, none⟩ (.int .i64 (-7))) gA R.toArray 23 ∧ ∀ r ∈ R, LiveRow w4.heap.size gA (wr.setCell ⟨g, o + k, none⟩ (.int .i64 (-7))) r from
              ⟨HB2'.out.setCell hgB _, HBA2.out.other _ (fun e => hgA' e.symm) _, fun r hr => (HLV2.out r hr).set _ _⟩)
            clear hlv
            go_wp2_with fail
            exact ⟨⟨k + 1, by omega, by go_num, HK.out⟩, by simp [intOf]; omega⟩
        · go_wp2_with fail
          exact ⟨⟨i + 1, by omega, by go_num, HB2'.out, HBA2.out, HLV2.out⟩, by simp [intOf]; omega⟩
    · clear HR3 HLV HBAW LV HRA
      go_wp2_with fail
      refine (LE2.out wr).mono ?_
      rintro e w11 ⟨a11, c11, rfl, hi11, -, -, hb11⟩
      have HI11 := hid hi11
      have B11 := hid (HBW.out.trans (hb11.mono HBW.out.size))
      clear hi11 hb11
      go_wp2_with fail
      refine (IE.out w11 B11.out).mono ?_
      rintro e w12 ⟨rfl, hb12⟩
      have HI12 := hid (HI11.out.below hb12 (Nat.le_refl _))
      have B12 := hid (B11.out.trans (hb12.mono B11.out.size))
      clear hb12 HI11
      go_wp2_with fail
      refine (RF.out w12).mono ?_
      rintro e w13 ⟨a13, c13, rfl, hi13, hb13⟩
      have HI13 := hid (HI12.out.below hb13 (Nat.le_refl _))
      have HJ13 := hid hi13
      have B13 := hid (B12.out.trans (hb13.mono B12.out.size))
      clear hb13 hi13 HI12
      go_wp2_with fail
      refine (IE2.out a11 a13 c11 c13 w13 HI13.out HJ13.out).mono ?_
      rintro e w14 ⟨rfl, hb14⟩
      have B14 := hid (B13.out.trans (hb14.mono B13.out.size))
      clear hb14
      go_wp2_with fail
      refine (awake_any w14).mono ?_
      rintro e w15 ⟨rfl, hb15⟩
      have B15 := hid (HB4.out.trans ((B14.out.trans (hb15.mono B14.out.size)).mono HB4.out.size))
      clear hb15
      go_wp2_with fail
      go_ret
      exact ⟨rfl, B15.out⟩
end Go.Proofs.Ythelnggbcgjbcaa
