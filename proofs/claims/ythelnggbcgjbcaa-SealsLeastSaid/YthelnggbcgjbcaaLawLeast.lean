/-
  The walk of the law SealsLeast.
-/
import Derived.Test.YthelnggbcgjbcaaLawWays
namespace Go.Proofs.Ythelnggbcgjbcaa
open Go.RowKit

theorem ways_pos (l : List UInt8) (n : Nat) : 0 < waysN l [] n 1 ↔ ChainHas l n := by
  unfold waysN ChainHas
  rw [List.countP_pos_iff]
  simp only [List.nil_append, List.map_id', lsts_mem]
  constructor
  · rintro ⟨x, ⟨h1, h2⟩, h3⟩
    rw [cutsB_one_len _ _ _ (Nat.le_refl _)] at h2
    exact ⟨x, h1, h2, h3⟩
  · rintro ⟨x, h1, h2, h3⟩
    exact ⟨x, ⟨h1, by rw [cutsB_one_len _ _ _ (Nat.le_refl _)]; exact h2⟩, h3⟩

set_option maxHeartbeats 4000000 in
theorem leastl_walk (a0 : ByteArray) (a1 : Option Addr) (len1 cap1 : Nat) (z1 : List Int) (w : World) (w0 : a0.size ≤ maxLen) (w1 : IsRow .i64 w a1 len1 cap1 z1) :
    Calls Try.prog 11 #[.string a0, .slice a1 len1 cap1] w fun e w' => e = .returned (.bool true) ∧ Below w.heap.size w w' := by
  obtain ⟨hi, hlen, hn, hc, hm⟩ := w1.ints
  have hmx : maxLen ≤ 9223372036854775807 := by decide
  have HL1 : Hid (∀ W, Below w.heap.size w W → Calls Try.prog 20 #[.slice a1 len1 cap1] W (RetL ((z1.take len1).take 30) W)) := fun W hW => by
    have := list_full a1 cap1 (z1.take len1) W (hi.below hW (Nat.le_refl _)) (by omega) hn (by omega)
    rw [hlen] at this
    exact this
  clear w1 hi hlen hn hc
  go_enter Try.func11, Try.ntmps11
  go_wp2_with fail
  refine (even_any a0 16 w (by omega) (by omega) (by omega)).mono ?_
  rintro e w2 ⟨rfl, hb⟩
  obtain ⟨s, hs⟩ : ∃ s, s = mkS (evenL a0.data.toList 16) := ⟨_, rfl⟩
  have hch : evenChainB s.data.toList = true := by rw [hs]; exact evenL_chain _ _ (by omega) (by omega)
  have hsz : s.size ≤ 16 := by rw [hs, mkS_size]; exact evenL_len _ _ (by omega)
  rw [← hs]
  have HC := hid hch
  have HOK := hid (even_facts hch).1
  have hle : leastE s.data.toList = 0 := by rw [leastE, hch]; rfl
  have HLE := hid hle
  clear hs hch hle
  obtain ⟨L, hL⟩ : ∃ L, L = leastC s.data.toList := ⟨_, rfl⟩
  obtain ⟨l1, l2, l3, l4, -⟩ := least_spec s.data.toList HC.out
  rw [← hL] at l1 l2 l3 l4
  have HL := hid hL
  have HL4 := hid l4
  have HCH := hid (show ChainHas s.data.toList L.length from ⟨L, rfl, l1, l2⟩)
  obtain ⟨K, hK⟩ : ∃ K, K = kindsN s.data.toList := ⟨_, rfl⟩
  have hk4 := kindsN_le s.data.toList
  rw [← hK] at l3 hk4
  have HK := hid hK
  have d2 : decide (K < L.length) = false := by simp; omega
  clear hL l1 l2 l4 hK
  go_wp2_with fail
  refine (least_any s w2 (by omega)).mono ?_
  rintro e w3 ⟨al, cl, rfl, -, -, -, hb3⟩
  rw [← HL.out, HLE.out]
  have hb3 := hb.trans (hb3.mono hb.size)
  go_wp2_with fail
  refine (fair_any s w3 (by omega)).mono ?_
  rintro e w4 ⟨af, cf, rfl, -, -, -, hb4⟩
  rw [← HL.out, HLE.out]
  have hb4 := hb3.trans (hb4.mono hb3.size)
  go_wp2_with fail
  refine (refKinds_any s w4 (by omega) HOK.out).mono ?_
  rintro e w5 ⟨rfl, hb5⟩
  rw [← HK.out]
  have hb5 := hb4.trans (hb5.mono hb4.size)
  go_wp2_with fail
  go_loopw [10] (fun i wr => ∃ n : Nat, n ≤ L.length + 1 ∧ i = .int .i64 n ∧ Below w.heap.size w wr) (fun i _ => L.length + 1 - (intOf i).toNat)
  case atStart => exact ⟨0, by omega, rfl, hb5⟩
  case round =>
    obtain ⟨n, hn, rfl, hB⟩ := hrel
    by_cases hlt : n ≤ L.length
    · have hwv : waysE s.data.toList n = .tuple #[.int .i64 (waysN s.data.toList [] n 1), .int .i64 0] := by
        rw [waysE, HC.out, if_pos (by simp; omega), Int.toNat_natCast]
      obtain ⟨y, hy⟩ : ∃ y, y = waysN s.data.toList [] n 1 := ⟨_, rfl⟩
      have hp := ways_pos s.data.toList n
      rw [← hy] at hwv hp
      have HWV := hid hwv
      by_cases heq : n = L.length
      · have hyp : 0 < y := hp.2 (heq ▸ HCH.out)
        have e1 : decide (0 < y) = true := by simpa using hyp
        have e2 : ((n : Int) == (L.length : Int)) = true := by rw [beq_iff_eq]; omega
        clear hp hy hwv heq
        go_wp2_with fail
        refine (ways_any s n wr (by omega)).mono ?_
        rintro e w6 ⟨rfl, hb6⟩
        rw [HWV.out]
        have hb6 := hB.trans (hb6.mono hB.size)
        go_wp2
        go_roundw
        case rel => exact ⟨n + 1, by omega, by go_num, hb6⟩
        case measure => simp [intOf]; omega
      · have hyp : y = 0 := by
          rcases Nat.eq_zero_or_pos y with h | h
          · exact h
          · exact absurd (hp.1 h) (HL4.out n (by omega))
        subst hyp
        have e2 : ((n : Int) == (L.length : Int)) = false := by rw [beq_eq_false_iff_ne]; omega
        clear hp hy hwv heq
        go_wp2_with fail
        refine (ways_any s n wr (by omega)).mono ?_
        rintro e w6 ⟨rfl, hb6⟩
        rw [HWV.out]
        have hb6 := hB.trans (hb6.mono hB.size)
        go_wp2
        go_roundw
        case rel => exact ⟨n + 1, by omega, by go_num, hb6⟩
        case measure => simp [intOf]; omega
    · go_wp2_with fail
      refine (HL1.out wr hB).mono ?_
      rintro e w6 ⟨a, c, rfl, hi1, hn1, hc1, hb6⟩
      obtain ⟨l, hl⟩ : ∃ l, l = (z1.take len1).take 30 := ⟨_, rfl⟩
      have hl30 : l.length ≤ 30 := by rw [hl, List.length_take]; omega
      rw [← hl] at hi1 hc1 ⊢
      have HI := hid hi1
      have hb6 := hB.trans (hb6.mono hB.size)
      clear hl hi1
      have hor : checkE s.data.toList l ≠ 0 ∨ L.length ≤ l.length := by
        by_cases h0 : checkE s.data.toList l = 0
        · right
          rw [checkE, HC.out, Bool.true_and] at h0
          by_cases hcb : cutsB s.data.toList.length 1 l = true
          · rw [if_pos hcb] at h0
            by_cases hf : fairB s.data.toList l = true
            · rcases Nat.lt_or_ge l.length L.length with h | h
              · exact absurd ⟨l, rfl, hcb, hf⟩ (HL4.out _ h)
              · exact h
            · rw [if_neg hf] at h0; cases h0
          · rw [if_neg hcb] at h0; cases h0
        · exact .inl h0
      obtain ⟨E, hE⟩ : ∃ E, E = checkE s.data.toList l := ⟨_, rfl⟩
      rw [← hE] at hor
      have HE := hid hE
      clear hE
      go_wp2_with fail
      refine (check_any s a c l w6 (by omega) HI.out hn1 hc1 (by omega)).mono ?_
      rintro e w7 ⟨rfl, hb7⟩
      rw [← HE.out]
      have hb7 := hb6.trans (hb7.mono hb6.size)
      by_cases h0 : E = 0
      · subst h0
        have hge : L.length ≤ l.length := by rcases hor with h | h; (· exact absurd rfl h); (· exact h)
        clear hor
        go_wp2_with fail
        refine (awake_any w7).mono ?_
        rintro e w8 ⟨rfl, hb8⟩
        go_wp2
        go_ret
        exact ⟨rfl, hb7.trans (hb8.mono hb7.size)⟩
      · have hne : (E != 0) = true := by simpa using h0
        clear hor
        go_wp2_with fail
        refine (awake_any w7).mono ?_
        rintro e w8 ⟨rfl, hb8⟩
        go_wp2
        go_ret
        exact ⟨rfl, hb7.trans (hb8.mono hb7.size)⟩
end Go.Proofs.Ythelnggbcgjbcaa
