/-
  Walks: the reference's Ways.
-/
import Derived.Test.YthelnggbcgjbcaaLawChecks
namespace Go.Proofs.Ythelnggbcgjbcaa
open Go.RowKit

/-- How many fair lists begin with some cuts and have so many more, from a position on. -/
def waysN (l : List UInt8) (cuts : List Int) (more from_ : Nat) : Nat := ((lsts more from_ (l.length - from_)).map (cuts ++ ·)).countP (fairB l)
theorem waysN_zero (l : List UInt8) (cuts : List Int) (f : Nat) : waysN l cuts 0 f = if fairB l cuts then 1 else 0 := by
  simp [waysN, lsts, List.countP_cons]
theorem waysN_end (l : List UInt8) (cuts : List Int) (m f : Nat) (h : l.length ≤ f) : waysN l cuts (m + 1) f = 0 := by
  simp [waysN, Nat.sub_eq_zero_of_le h, lsts]
theorem waysN_step (l : List UInt8) (cuts : List Int) (m f : Nat) (h : f < l.length) :
    waysN l cuts (m + 1) f = waysN l (cuts ++ [(f : Int)]) m (f + 1) + waysN l cuts (m + 1) (f + 1) := by
  obtain ⟨d, hd⟩ : ∃ d, l.length = f + 1 + d := ⟨l.length - (f + 1), by omega⟩
  unfold waysN
  rw [show l.length - f = d + 1 by omega, show l.length - (f + 1) = d by omega, lsts, List.map_append, List.countP_append, List.map_map]
  rw [show ((fun x => cuts ++ x) ∘ fun x => (f : Int) :: x) = (fun x => cuts ++ [(f : Int)] ++ x) from funext fun x => by simp]
theorem lsts_len : ∀ (d m f : Nat), (lsts m f d).length ≤ (d + 1) ^ m := by
  intro d
  induction d with
  | zero => intro m f; cases m <;> simp [lsts]
  | succ d ih =>
    intro m f
    cases m with
    | zero => simp [lsts]
    | succ m =>
      simp only [lsts, List.length_append, List.length_map]
      have h1 := ih m (f + 1)
      have h2 := ih (m + 1) (f + 1)
      have h3 : (d + 1) ^ m ≤ (d + 1 + 1) ^ m := Nat.pow_le_pow_left (by omega) m
      have h4 : (d + 1) ^ (m + 1) = (d + 1) ^ m * (d + 1) := Nat.pow_succ _ _
      have h5 : (d + 1 + 1) ^ (m + 1) = (d + 1 + 1) ^ m * (d + 1 + 1) := Nat.pow_succ _ _
      have h6 : (d + 1) ^ m * (d + 1 + 1) ≤ (d + 1 + 1) ^ m * (d + 1 + 1) := Nat.mul_le_mul_right _ h3
      have h7 : (d + 1) ^ m * (d + 1 + 1) = (d + 1) ^ m * (d + 1) + (d + 1) ^ m := Nat.mul_succ _ _
      omega
theorem waysN_le (l : List UInt8) (cuts : List Int) (m f : Nat) (h : l.length ≤ 25) (hm : m ≤ 4) : waysN l cuts m f ≤ 500000 := by
  have h1 : waysN l cuts m f ≤ (lsts m f (l.length - f)).length := by
    unfold waysN
    exact Nat.le_trans List.countP_le_length (by rw [List.length_map]; exact Nat.le_refl _)
  have h2 := lsts_len (l.length - f) m f
  have h3 : (l.length - f + 1) ^ m ≤ 26 ^ m := Nat.pow_le_pow_left (by omega) m
  have h4 : 26 ^ m ≤ 26 ^ 4 := Nat.pow_le_pow_right (by omega) hm
  omega

set_option maxHeartbeats 1000000 in
theorem refWays_any (s : ByteArray) (hs : s.size ≤ 25) (hok : s.data.toList.all okb = true) : ∀ (more : Nat) (a : Option Addr) (c : Nat) (l : List Int) (fr : Nat) (w : World), Ints w a l → (a = none → c = 0) → l.length + more ≤ 100 → l.length ≤ c →
    cutsB s.size 0 l = true → (fr = match l.getLast? with | none => 1 | some x => x.toNat + 1) → more ≤ 4 →
    Calls Try.prog 41 #[.string s, .slice a l.length c, .int .i64 more] w fun e w' => e = .returned (.int .i64 (waysN s.data.toList l more fr)) ∧ Below w.heap.size w w' := by
  intro more
  induction more with
  | zero =>
    intro a c l fr w ha hn hl _ hc _ _
    have H0 := hid (waysN_zero s.data.toList l fr)
    have HI := hid ha
    have F1 := fun W (h : Ints W a l) => hid (refFair_any s a c l W (by omega) h (by omega) hc hok)
    clear hn ha
    obtain ⟨b, hb⟩ : ∃ b, b = fairB s.data.toList l := ⟨_, rfl⟩
    rw [← hb] at H0 F1
    clear hb
    go_enter Try.func41, Try.ntmps41
    go_wp2_with (go_at_call 27; refine ((F1 w HI.out).out).mono ?_; rintro e w1 ⟨rfl, hb⟩)
    all_goals
      go_ret
      exact ⟨ret_int (by rw [H0.out]; simp [*]), hb⟩
  | succ m ih =>
    intro a c l fr w ha hn hl hlc hc hfr hm4
    have IH := hid ih
    clear ih
    have hfrI : (fr : Int) = (match l.getLast? with | none => 1 | some x => x + 1) := by
      rw [hfr]; cases hg : l.getLast? with
      | none => rfl
      | some x => have := cutsB_ge _ _ _ hc x (List.mem_of_getLast? hg); simp; omega
    have hm0 : (((m : Nat) + 1 : Int) == 0) = false := beq_eq_false_iff_ne.2 (by omega)
    have HC := hid hc
    have HI := hid ha
    have HN : Hid (a = none → l.length = 0 ∧ c = 0) := fun h => by have := hn h; exact ⟨by omega, this⟩
    have hfb : fr ≤ 1001 := by
      rw [hfr]; cases hg : l.getLast? with
      | none => simp
      | some x => have := cutsB_ge _ _ _ hc x (List.mem_of_getLast? hg); simp; omega
    have HA := hid (show ∀ x ∈ l, x < (fr : Int) by
      intro x hx
      have hne : l ≠ [] := fun h => by rw [h] at hx; simp at hx
      obtain ⟨y, hy⟩ : ∃ y, l.getLast? = some y := ⟨_, List.getLast?_eq_some_getLast hne⟩
      have := cutsB_last _ _ _ hc x hx y hy
      rw [hy] at hfrI
      simp only at hfrI
      omega)
    clear ha hn hc hfr
    have HF := hid hfrI
    clear hfrI
    have L := hid (show Calls Try.prog 41 #[.string s, .slice a l.length c, .int .i64 (m + 1)] w (fun e w' => e = .returned (.int .i64 (waysN s.data.toList l (m + 1) fr)) ∧ Below w.heap.size w w') from by
      by_cases hl0 : l.length = 0
      · have hlz : decide (0 < l.length) = false := by simp [hl0]
        have HZ := hid hl0
        clear hl0
        have hfr2 : fr = 1 := by
          have := HF.out; rw [List.eq_nil_of_length_eq_zero HZ.out] at this; simp at this; omega
        obtain rfl : fr = 1 := hfr2
        go_enter Try.func41, Try.ntmps41
        go_wp2_with fail
        go_loopw [8, 9] (fun cv i wr => ∃ k n : Nat, i = .int .i64 k ∧ cv = .int .i64 n ∧ k ≤ 1001 ∧ n ≤ 500000 ∧ Below w.heap.size w wr ∧ Hid (1 ≤ k ∧ waysN s.data.toList l (m + 1) (1) = n + waysN s.data.toList l (m + 1) k)) (fun _ i _ => 1001 - (intOf i).toNat)
        case atStart => exact ⟨1, 0, by go_num, rfl, by omega, by omega, Below.refl _ _, ⟨Nat.le_refl _, by omega⟩⟩
        case round =>
          obtain ⟨k, n, rfl, rfl, hk, hn5, hB, HK⟩ := hrel
          by_cases hlt : k < s.size
          · have hr0 := HI.out.below hB (Nat.le_refl _)
            have HR0 := hid hr0
            clear hr0
            go_wp2_with (first | (at_builtin; refine wpList_app wr rfl (.tmp 33) (.tmp 34) 23 rfl wr.heap.size 3 (.int .i64 0) 8 Try.underlying23 Try.info3 rfl (.slice none 0 0) 0 [] rfl (World.ownsRow_nil _ _ _ _) a l.length c _ rfl (by rw [List.length_map]) HR0.out ?hnil (ints_one _) (by omega) (by omega) (Nat.le_refl _) ?_))
            case hnil => exact HN.out
            intro v1 w1 hown1 hg1 _
            obtain ⟨a1, c1, rfl, hr1⟩ := ownsRow_ints (l := l) (by simpa using hown1)
            have hsz1 := hg1.size
            have hb1 : Below w.heap.size w w1 := hB.grown hg1 hB.size (by simp [Value.ownBlock])
            have HO1 := hid hown1
            have HG1 := hid hg1
            clear hown1 hg1 hr1
            go_wp2_with (first | (at_builtin; refine wpList_app (w1.alloc (.cells #[.int .i64 k] 3)) rfl (.tmp 38) (.tmp 40) 23 rfl wr.heap.size 3 (.int .i64 0) 8 Try.underlying23 Try.info3 rfl (.slice a1 l.length c1) l.length _ rfl (by simpa using HO1.out.alloc _) (some ⟨w1.heap.size, 0, none⟩) 1 1 [.int .i64 k] rfl rfl (vals_new _ _ _ _ rfl) (fun h => by cases h) (by simp [Value.oneCell']) (by omega) (by omega) (by simp; omega) ?_))
            intro v2 w2 hown2 hg2 _
            obtain ⟨L2, hL2⟩ : ∃ L2, L2 = l ++ [(k : Int)] := ⟨_, rfl⟩
            obtain ⟨a2, c2, rfl, hr2⟩ := ownsRow_ints (l := L2) (by rw [hL2]; simpa using hown2)
            have hb2 : Below w.heap.size w w2 := below_app (hb1.alloc hb1.size _) hg2 (HO1.out.alloc _) (by have := hb1.size; simp; omega) hB.size
            obtain ⟨-, hlc2, hn2⟩ := ownsRow_facts hown2
            have hc2 : cutsB s.size 0 L2 = true := by
              rw [hL2]; exact cutsB_snoc _ _ _ _ HC.out (fun x hx => by have := HA.out x hx; have := HK.out.1; omega) (by omega) (by omega)
            have hf2 : k + 1 = match L2.getLast? with | none => 1 | some x => x.toNat + 1 := by rw [hL2]; simp
            have CALL := hid (IH.out a2 c2 L2 (k + 1) w2 hr2 hn2 (by rw [hL2]; simp; omega) hlc2 hc2 hf2 (by omega))
            have hst := waysN_step s.data.toList l m k (by rw [bytes_len]; exact hlt)
            rw [← hL2] at hst
            have htot := waysN_le s.data.toList l (m + 1) (1) (by rw [bytes_len]; omega) (by omega)
            have hkk := HK.out.2
            obtain ⟨y, hy⟩ : ∃ y, y = waysN s.data.toList L2 m (k + 1) := ⟨_, rfl⟩
            have hyb : n + y ≤ 500000 := by omega
            have hnew : 1 ≤ k + 1 ∧ waysN s.data.toList l (m + 1) (1) = (n + y) + waysN s.data.toList l (m + 1) (k + 1) := ⟨by have := HK.out.1; omega, by omega⟩
            have HNEW := hid hnew
            rw [← hy] at CALL
            clear hown2 hg2 hr2 hn2 hlc2 hc2 hf2 hL2 hst htot hkk hy hnew
            go_wp2_with fail
            refine CALL.out.mono ?_
            rintro e w3 ⟨rfl, hb3⟩
            have hb4 : Below w.heap.size w w3 := hb2.trans (hb3.mono hb2.size)
            go_wp2
            go_roundw
            case rel => exact ⟨k + 1, n + y, by go_num, by go_num, by omega, hyb, hb4, HNEW⟩
            case measure => simp [intOf]; omega
          · have hfin : waysN s.data.toList l (m + 1) (1) = n := by rw [HK.out.2, waysN_end _ _ _ _ (by rw [bytes_len]; omega)]; rfl
            have HF2 := hid hfin
            clear hfin
            go_wp2
            go_ret
            exact ⟨ret_int (by rw [HF2.out]), hB⟩
      · obtain ⟨x, hx⟩ : ∃ x, l.getLast? = some x := by
          cases hg : l.getLast? with
          | none => rw [List.getLast?_eq_none_iff] at hg; exact absurd (by rw [hg]; rfl) hl0
          | some x => exact ⟨x, rfl⟩
        have hxm := cutsB_ge _ _ _ HC.out x (List.mem_of_getLast? hx)
        obtain ⟨p, rfl⟩ := Int.eq_ofNat_of_zero_le hxm.1
        have hfr2 : fr = p + 1 := by have := HF.out; rw [hx] at this; simp only at this; omega
        subst hfr2
        obtain ⟨g, o, rfl, hg, hcell⟩ := HI.out.at (by omega)
        have q0 : w.cell? ⟨g, o + (l.length - 1), none⟩ = some (.int .i64 p) := hcell _ _ (by rw [← List.getLast?_eq_getElem?]; exact hx)
        have hpos : 0 < l.length := by omega
        have hlz : decide (0 < l.length) = true := by simp; omega
        clear hl0 hcell hx hxm
        go_enter Try.func41, Try.ntmps41
        go_wp2_with fail
        go_loopw [8, 9] (fun cv i wr => ∃ k n : Nat, i = .int .i64 k ∧ cv = .int .i64 n ∧ k ≤ 1001 ∧ n ≤ 500000 ∧ Below w.heap.size w wr ∧ Hid ((p + 1) ≤ k ∧ waysN s.data.toList l (m + 1) (p + 1) = n + waysN s.data.toList l (m + 1) k)) (fun _ i _ => 1001 - (intOf i).toNat)
        case atStart => exact ⟨p + 1, 0, by go_num, rfl, by omega, by omega, Below.refl _ _, ⟨Nat.le_refl _, by omega⟩⟩
        case round =>
          obtain ⟨k, n, rfl, rfl, hk, hn5, hB, HK⟩ := hrel
          by_cases hlt : k < s.size
          · have hr0 := HI.out.below hB (Nat.le_refl _)
            have HR0 := hid hr0
            clear hr0
            go_wp2_with (first | (at_builtin; refine wpList_app wr rfl (.tmp 33) (.tmp 34) 23 rfl wr.heap.size 3 (.int .i64 0) 8 Try.underlying23 Try.info3 rfl (.slice none 0 0) 0 [] rfl (World.ownsRow_nil _ _ _ _) (some ⟨g, o, none⟩) l.length c _ rfl (by rw [List.length_map]) HR0.out ?hnil (ints_one _) (by omega) (by omega) (Nat.le_refl _) ?_))
            case hnil => exact HN.out
            intro v1 w1 hown1 hg1 _
            obtain ⟨a1, c1, rfl, hr1⟩ := ownsRow_ints (l := l) (by simpa using hown1)
            have hsz1 := hg1.size
            have hb1 : Below w.heap.size w w1 := hB.grown hg1 hB.size (by simp [Value.ownBlock])
            have HO1 := hid hown1
            have HG1 := hid hg1
            clear hown1 hg1 hr1
            go_wp2_with (first | (at_builtin; refine wpList_app (w1.alloc (.cells #[.int .i64 k] 3)) rfl (.tmp 38) (.tmp 40) 23 rfl wr.heap.size 3 (.int .i64 0) 8 Try.underlying23 Try.info3 rfl (.slice a1 l.length c1) l.length _ rfl (by simpa using HO1.out.alloc _) (some ⟨w1.heap.size, 0, none⟩) 1 1 [.int .i64 k] rfl rfl (vals_new _ _ _ _ rfl) (fun h => by cases h) (by simp [Value.oneCell']) (by omega) (by omega) (by simp; omega) ?_))
            intro v2 w2 hown2 hg2 _
            obtain ⟨L2, hL2⟩ : ∃ L2, L2 = l ++ [(k : Int)] := ⟨_, rfl⟩
            obtain ⟨a2, c2, rfl, hr2⟩ := ownsRow_ints (l := L2) (by rw [hL2]; simpa using hown2)
            have hb2 : Below w.heap.size w w2 := below_app (hb1.alloc hb1.size _) hg2 (HO1.out.alloc _) (by have := hb1.size; simp; omega) hB.size
            obtain ⟨-, hlc2, hn2⟩ := ownsRow_facts hown2
            have hc2 : cutsB s.size 0 L2 = true := by
              rw [hL2]; exact cutsB_snoc _ _ _ _ HC.out (fun x hx => by have := HA.out x hx; have := HK.out.1; omega) (by omega) (by omega)
            have hf2 : k + 1 = match L2.getLast? with | none => 1 | some x => x.toNat + 1 := by rw [hL2]; simp
            have CALL := hid (IH.out a2 c2 L2 (k + 1) w2 hr2 hn2 (by rw [hL2]; simp; omega) hlc2 hc2 hf2 (by omega))
            have hst := waysN_step s.data.toList l m k (by rw [bytes_len]; exact hlt)
            rw [← hL2] at hst
            have htot := waysN_le s.data.toList l (m + 1) (p + 1) (by rw [bytes_len]; omega) (by omega)
            have hkk := HK.out.2
            obtain ⟨y, hy⟩ : ∃ y, y = waysN s.data.toList L2 m (k + 1) := ⟨_, rfl⟩
            have hyb : n + y ≤ 500000 := by omega
            have hnew : (p + 1) ≤ k + 1 ∧ waysN s.data.toList l (m + 1) (p + 1) = (n + y) + waysN s.data.toList l (m + 1) (k + 1) := ⟨by have := HK.out.1; omega, by omega⟩
            have HNEW := hid hnew
            rw [← hy] at CALL
            clear hown2 hg2 hr2 hn2 hlc2 hc2 hf2 hL2 hst htot hkk hy hnew
            go_wp2_with fail
            refine CALL.out.mono ?_
            rintro e w3 ⟨rfl, hb3⟩
            have hb4 : Below w.heap.size w w3 := hb2.trans (hb3.mono hb2.size)
            go_wp2
            go_roundw
            case rel => exact ⟨k + 1, n + y, by go_num, by go_num, by omega, hyb, hb4, HNEW⟩
            case measure => simp [intOf]; omega
          · have hfin : waysN s.data.toList l (m + 1) (p + 1) = n := by rw [HK.out.2, waysN_end _ _ _ _ (by rw [bytes_len]; omega)]; rfl
            have HF2 := hid hfin
            clear hfin
            go_wp2
            go_ret
            exact ⟨ret_int (by rw [HF2.out]), hB⟩
      )
    exact L.out
end Go.Proofs.Ythelnggbcgjbcaa
