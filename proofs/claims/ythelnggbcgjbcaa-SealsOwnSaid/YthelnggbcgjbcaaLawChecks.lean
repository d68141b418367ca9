/-
  The walk of the law SealsChecks.
-/
import Derived.Test.YthelnggbcgjbcaaPrgL
import Derived.Test.YthelnggbcgjbcaaRows
import Derived.ProofKit
namespace Go.Proofs.Ythelnggbcgjbcaa
open Go.RowKit

/-- A slice of integers that came in: nil, or a row of cells. -/
def IsRow (k : IntKind) (w : World) (a : Option Addr) (len cap : Nat) (zs : List Int) : Prop :=
  (a = none ∧ len = 0 ∧ cap = 0 ∧ zs = []) ∨
  ∃ x, a = some x ∧ len ≤ cap ∧ cap ≤ maxLen ∧ zs.length = cap ∧ (∀ i, i < zs.length → w.cell? (x.add i) = some (.int k (zs.getD i 0))) ∧ ∀ n ∈ zs, (Lit.int k n).wf = true

theorem IsRow.ints {w : World} {a : Option Addr} {len cap : Nat} {zs : List Int} (h : IsRow .i64 w a len cap zs) :
    Ints w a (zs.take len) ∧ (zs.take len).length = len ∧ (a = none → cap = 0) ∧ len ≤ cap ∧ cap ≤ maxLen := by
  rcases h with ⟨rfl, rfl, rfl, rfl⟩ | ⟨x, rfl, h1, h2, h3, h4, h5⟩
  · exact ⟨Ints.nil _ _, rfl, fun _ => rfl, Nat.le_refl _, by decide⟩
  · refine ⟨?_, by rw [List.length_take]; omega, (fun h => by cases h), h1, h2⟩
    by_cases h0 : zs.length = 0
    · left; rw [List.eq_nil_of_length_eq_zero h0]; simp
    have hc0 := h4 0 (by omega)
    obtain ⟨b, o, sp⟩ := x
    have hadd0 : (⟨b, o, sp⟩ : Addr).add 0 = ⟨b, o, sp⟩ := rfl
    rw [hadd0] at hc0
    have hsp : sp = none := by
      cases sp with
      | none => rfl
      | some k => simp only [World.cell?, Option.isSome_some, if_true] at hc0; split at hc0 <;> cases hc0
    subst hsp
    have hlt : b < w.heap.size := by
      rcases Nat.lt_or_ge b w.heap.size with h | h
      · exact h
      · simp [World.cell?, Array.getElem?_eq_none h] at hc0
    refine .inr ⟨b, o, rfl, hlt, fun i u hu => ?_⟩
    rw [List.getElem?_map, List.getElem?_take] at hu
    split at hu
    · rename_i hi
      have hiz : i < zs.length := by omega
      rw [List.getElem?_eq_getElem hiz] at hu
      cases hu
      have := h4 i hiz
      rw [show (⟨b, o, none⟩ : Addr).add i = ⟨b, o + i, none⟩ by unfold Addr.add; split <;> simp_all] at this
      rw [this]; simp [List.getD, List.getElem?_eq_getElem hiz]
    · cases hu

theorem chain_facts (l : List UInt8) : evenChainB l = (chainB l && evenB l) := rfl
theorem chain_ok {l : List UInt8} (h : chainB l = true) : l.all okb = true := by simp [chainB] at h; simpa using h.1
theorem cutsB_one {n : Int} {l : List Int} (h : cutsB n 1 l = true) : cutsB n 0 l = true := cutsB_weak _ _ _ _ h (by omega)

set_option maxHeartbeats 4000000 in
theorem checks_walk (a0 : ByteArray) (a1 : Option Addr) (len1 cap1 : Nat) (z1 : List Int) (w : World) (w0 : a0.size ≤ maxLen) (w1 : IsRow .i64 w a1 len1 cap1 z1) :
    Calls Try.prog 4 #[.string a0, .slice a1 len1 cap1] w fun e w' => e = .returned (.bool true) ∧ Below w.heap.size w w' := by
  obtain ⟨hi, hlen, hn, hc, hm⟩ := w1.ints
  have hmx : maxLen ≤ 9223372036854775807 := by decide
  have HL := hid (list_full a1 cap1 (z1.take len1) w hi (by omega) hn (by omega))
  rw [hlen] at HL
  clear w1 hi hlen hn hc
  go_enter Try.func4, Try.ntmps4
  go_wp2_with fail
  refine (short_any a0 w (by omega)).mono ?_
  rintro e w2 ⟨rfl, rfl⟩
  obtain ⟨s, hs⟩ : ∃ s, s = a0.extract 0 (min a0.size 25) := ⟨_, rfl⟩
  have hs25 : s.size ≤ 25 := by rw [hs]; simp; omega
  rw [← hs]
  clear hs
  go_wp2_with fail
  refine HL.out.mono ?_
  rintro e w1 ⟨a, c, rfl, hi1, hn, hc, hb⟩
  obtain ⟨l, hl⟩ : ∃ l, l = (z1.take len1).take 30 := ⟨_, rfl⟩
  have hl30 : l.length ≤ 30 := by rw [hl, List.length_take]; omega
  rw [← hl] at hi1 hc ⊢
  have HI := hid hi1
  clear hl hi1 HL
  go_wp2_with fail
  refine (check_any s a c l w1 (by omega) HI.out hn hc (by omega)).mono ?_
  rintro e w2 ⟨rfl, hb2⟩
  have HI2 := hid (HI.out.below hb2 (Nat.le_refl _))
  have hb2 := hb.trans (hb2.mono hb.size)
  obtain ⟨E, hE⟩ : ∃ E, E = checkE s.data.toList l := ⟨_, rfl⟩
  rw [← hE]
  have HE := hid hE
  clear hE hb
  go_wp2_with fail
  refine (sharesE_any s a c l w2 (by omega) HI2.out hn hc (by omega)).mono ?_
  rintro e w3 ⟨rfl, hb3⟩
  have HI3 := hid (HI2.out.below hb3 (Nat.le_refl _))
  have hb3 := hb2.trans (hb3.mono hb2.size)
  clear hb2
  obtain ⟨b1, h1⟩ : ∃ b, b = chainB s.data.toList := ⟨_, rfl⟩
  obtain ⟨b2, h2⟩ : ∃ b, b = cutsB s.data.toList.length 1 l := ⟨_, rfl⟩
  have H1 := hid h1
  have H2 := hid h2
  clear h1 h2
  cases b1
  · have hE : E = 2 := by rw [HE.out, checkE, chain_facts, ← H1.out]; rfl
    rw [sharesV, if_neg (by rw [sharesE, ← H1.out]; simp)]
    subst hE
    go_wp2_with fail
    refine (refChain_any s w3 (by omega)).mono ?_
    rintro e w4 ⟨rfl, rfl⟩
    rw [← H1.out]
    go_wp2_with fail
    refine (awake_any w3).mono ?_
    rintro e w4 ⟨rfl, hb4⟩
    go_wp2
    go_ret
    exact ⟨rfl, hb3.trans (hb4.mono hb3.size)⟩
  cases b2
  · have hE : E = 2 := by rw [HE.out, checkE, ← H2.out]; simp
    rw [sharesV, if_neg (by rw [sharesE, ← H2.out]; simp)]
    subst hE
    go_wp2_with fail
    refine (refChain_any s w3 (by omega)).mono ?_
    rintro e w4 ⟨rfl, rfl⟩
    rw [← H1.out]
    go_wp2_with fail
    refine (refCuts_any s a c l 1 w3 (by omega) HI3.out (by omega)).mono ?_
    rintro e w4 ⟨rfl, hb4⟩
    rw [cutsLoop_none, ← bytes_len, ← H2.out]
    have hb4 := hb3.trans (hb4.mono hb3.size)
    go_wp2_with fail
    refine (awake_any w4).mono ?_
    rintro e w5 ⟨rfl, hb5⟩
    go_wp2
    go_ret
    exact ⟨rfl, hb4.trans (hb5.mono hb4.size)⟩
  obtain ⟨x, hx⟩ : ∃ x, x = mkS (shLoop s.data.toList 0 0 l [] []).1 := ⟨_, rfl⟩
  obtain ⟨y, hy⟩ : ∃ y, y = mkS (shLoop s.data.toList 0 0 l [] []).2 := ⟨_, rfl⟩
  rw [sharesV, if_pos (by rw [sharesE, ← H1.out, ← H2.out]; rfl), ← hx, ← hy]
  have HX := hid hx
  have HY := hid hy
  have hc0 : cutsB s.size 0 l = true := cutsB_one H2.out.symm
  have HC := hid hc0
  have HOK := hid (chain_ok H1.out.symm)
  clear hx hy hc0
  go_wp2_with fail
  refine (refChain_any s w3 (by omega)).mono ?_
  rintro e w4 ⟨rfl, rfl⟩
  rw [← H1.out]
  go_wp2_with fail
  refine (refCuts_any s a c l 1 w3 (by omega) HI3.out (by omega)).mono ?_
  rintro e w4 ⟨rfl, hb4⟩
  rw [cutsLoop_none, ← bytes_len, ← H2.out]
  have HI4 := hid (HI3.out.below hb4 (Nat.le_refl _))
  have hb4 := hb3.trans (hb4.mono hb3.size)
  clear hb3
  go_wp2_with fail
  refine (refShares_any s a c l w4 (by omega) HI4.out (by omega) HC.out).mono ?_
  rintro e w5 ⟨rfl, hb5⟩
  rw [← HX.out, ← HY.out]
  have HI5 := hid (HI4.out.below hb5 (Nat.le_refl _))
  have hb5 := hb4.trans (hb5.mono hb4.size)
  clear hb4
  go_wp2_with fail
  refine (refEven_any s w5 (by omega) HOK.out).mono ?_
  rintro e w6 ⟨rfl, hb6⟩
  have HI6 := hid (HI5.out.below hb6 (Nat.le_refl _))
  have hb6 := hb5.trans (hb6.mono hb5.size)
  clear hb5
  obtain ⟨b3, h3⟩ : ∃ b, b = evenB s.data.toList := ⟨_, rfl⟩
  rw [← h3]
  have H3 := hid h3
  clear h3
  cases b3
  · have hE : E = 2 := by rw [HE.out, checkE, chain_facts, ← H3.out]; simp
    subst hE
    go_wp2_with fail
    refine (awake_any w6).mono ?_
    rintro e w7 ⟨rfl, hb7⟩
    go_wp2
    go_ret
    exact ⟨rfl, hb6.trans (hb7.mono hb6.size)⟩
  go_wp2_with fail
  refine (refFair_any s a c l w6 (by omega) HI6.out (by omega) HC.out HOK.out).mono ?_
  rintro e w7 ⟨rfl, hb7⟩
  have hb7 := hb6.trans (hb7.mono hb6.size)
  clear hb6
  obtain ⟨b4, h4⟩ : ∃ b, b = fairB s.data.toList l := ⟨_, rfl⟩
  rw [← h4]
  have hE : E = if b4 then 0 else 10 := by rw [HE.out, checkE, chain_facts, ← H1.out, ← H2.out, ← H3.out, h4]; rfl
  subst hE
  have H4 := hid h4
  clear h4
  cases b4
  · go_wp2_with fail
    refine (awake_any w7).mono ?_
    rintro e w8 ⟨rfl, hb8⟩
    go_wp2
    go_ret
    exact ⟨rfl, hb7.trans (hb8.mono hb7.size)⟩
  · go_wp2_with fail
    refine (awake_any w7).mono ?_
    rintro e w8 ⟨rfl, hb8⟩
    go_wp2
    go_ret
    exact ⟨rfl, hb7.trans (hb8.mono hb7.size)⟩
end Go.Proofs.Ythelnggbcgjbcaa
