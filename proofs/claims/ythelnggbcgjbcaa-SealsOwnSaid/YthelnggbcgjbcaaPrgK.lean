/-
  Walks: Fair, Check, CheckRing, Shares.
-/
import Derived.Test.YthelnggbcgjbcaaPrgJ
namespace Go.Proofs.Ythelnggbcgjbcaa
open Go.RowKit

theorem cutsLoop_some (n f : Int) : ∀ (l : List Int) (p : Int), f ≤ p → cutsLoop n f (some p) l = cutsB n (p + 1) l := by
  intro l
  induction l with
  | nil => intro p _; rfl
  | cons c r ih =>
    intro p hp
    simp only [cutsLoop, cutsB]
    by_cases h : p + 1 ≤ c
    · rw [ih c (by omega)]
      have h1 : f ≤ c := by omega
      have h2 : p < c := by omega
      simp [h, h1, h2]
    · have h2 : ¬ p < c := by omega
      simp [h, h2]
theorem cutsLoop_none (n f : Int) (l : List Int) : cutsLoop n f none l = cutsB n f l := by
  cases l with
  | nil => rfl
  | cons c r =>
    simp only [cutsLoop, cutsB]
    by_cases h : f ≤ c
    · rw [cutsLoop_some n f r c h]
    · simp [h]
theorem cutsB_len (n : Int) : ∀ (l : List Int) (f : Int), cutsB n f l = true → (l.length : Int) ≤ max 0 (n - f) := by
  intro l
  induction l with
  | nil => intro f _; simp; omega
  | cons c r ih =>
    intro f h
    simp only [cutsB, Bool.and_eq_true, decide_eq_true_eq] at h
    have := ih _ h.2
    simp only [List.length_cons]; omega

/-- The cuts and the error of Least. -/
def leastC (l : List UInt8) : List Int := if evenChainB l then (tryN (firstB false l) (List.range (kindsN l + 1))).getD [] else []
def leastE (l : List UInt8) : Int := if evenChainB l then 0 else 2
def ringC (l : List UInt8) : List Int := if evenChainB l then (ringT l).getD [] else []

theorem least_any (s : ByteArray) (w : World) (hs : s.size ≤ 900) : Calls Try.prog 15 #[.string s] w (RetCuts (leastC s.data.toList) (leastE s.data.toList) w) := by
  by_cases h : evenChainB s.data.toList = true
  · rw [leastC, leastE, if_pos h, if_pos h]; exact least_even s w hs h
  · rw [leastC, leastE, if_neg h, if_neg h]; exact (least_odd s w (by omega) (by simpa using h)).mono fun _ _ h => h.ret
theorem least_anyO (s : ByteArray) (w : World) (hs : s.size ≤ 900) : Calls Try.prog 15 #[.string s] w (RetCutsO (leastC s.data.toList) (leastE s.data.toList) w) := by
  by_cases h : evenChainB s.data.toList = true
  · rw [leastC, leastE, if_pos h, if_pos h]; exact least_evenO s w hs h
  · rw [leastC, leastE, if_neg h, if_neg h]; exact least_odd s w (by omega) (by simpa using h)
theorem ring_anyO (s : ByteArray) (w : World) (hs : s.size ≤ 900) : Calls Try.prog 28 #[.string s] w (RetCutsO (ringC s.data.toList) (leastE s.data.toList) w) := by
  by_cases h : evenChainB s.data.toList = true
  · rw [ringC, leastE, if_pos h, if_pos h]; exact ring_evenO s w hs h
  · rw [ringC, leastE, if_neg h, if_neg h]; exact ring_odd s w (by omega) (by simpa using h)
theorem ring_any (s : ByteArray) (w : World) (hs : s.size ≤ 900) : Calls Try.prog 28 #[.string s] w (RetCuts (ringC s.data.toList) (leastE s.data.toList) w) := by
  by_cases h : evenChainB s.data.toList = true
  · rw [ringC, leastE, if_pos h, if_pos h]; exact ring_even s w hs h
  · rw [ringC, leastE, if_neg h, if_neg h]; exact (ring_odd s w (by omega) (by simpa using h)).mono fun _ _ h => h.ret

set_option maxHeartbeats 400000 in
theorem fair_any (s : ByteArray) (w : World) (hs : s.size ≤ 900) : Calls Try.prog 16 #[.string s] w (RetCuts (leastC s.data.toList) (leastE s.data.toList) w) := by
  go_enter Try.func16, Try.ntmps16
  go_wp2_with fail
  refine (least_any s _ hs).mono ?_
  rintro e w1 ⟨a, c, rfl, hi, hn, hc, hb⟩
  have HI := hid hi
  clear hi
  go_wp2
  go_ret2
  exact ⟨a, c, rfl, HI.out, hn, hc, hb⟩

/-- What Check and CheckRing return. -/
def checkE (l : List UInt8) (cuts : List Int) : Int := if evenChainB l && cutsB l.length 1 cuts then (if fairB l cuts then 0 else 10) else 2
def checkRE (l : List UInt8) (cuts : List Int) : Int := if evenChainB l && cuts.length % 2 == 0 && cutsB l.length 0 cuts then (if fairRingB l cuts then 0 else 10) else 2
def sharesE (l : List UInt8) (cuts : List Int) : Bool := chainB l && cutsB l.length 1 cuts

set_option maxHeartbeats 1000000 in
theorem check_any (s : ByteArray) (a : Option Addr) (c : Nat) (l : List Int) (w : World) (hs : s.size ≤ 900) (ha : Ints w a l) (hn : a = none → c = 0) (hlc : l.length ≤ c) (hl : l.length ≤ 900) :
    Calls Try.prog 21 #[.string s, .slice a l.length c] w fun e w' => e = .returned (.int .i64 (checkE s.data.toList l)) ∧ Below w.heap.size w w' := by
  obtain ⟨b1, h1⟩ : ∃ b, b = evenChainB s.data.toList := ⟨_, rfl⟩
  obtain ⟨b2, h2⟩ : ∃ b, b = cutsB s.data.toList.length 1 l := ⟨_, rfl⟩
  obtain ⟨b3, h3⟩ : ∃ b, b = fairB s.data.toList l := ⟨_, rfl⟩
  have hR : checkE s.data.toList l = if b1 && b2 then (if b3 then 0 else 10) else 2 := by rw [checkE, ← h1, ← h2, ← h3]
  rw [hR]
  clear hR
  have H1 := hid h1
  have H2 := hid h2
  have H3 := hid h3
  have HA := hid ha
  clear h1 h2 h3 ha
  go_enter Try.func21, Try.ntmps21
  go_wp2_with fail
  refine (isEven_any s _ (by omega)).mono ?_
  rintro e w1 ⟨rfl, hb⟩
  rw [← H1.out]
  have HA1 := hid (HA.out.below hb (Nat.le_refl _))
  cases b1
  · go_wp2
    go_ret
    exact ⟨rfl, hb⟩
  · go_wp2_with fail
    refine (areCuts_any s a c l 1 w1 (by omega) HA1.out (by omega)).mono ?_
    rintro e w2 ⟨rfl, rfl⟩
    rw [cutsLoop_none, ← bytes_len, ← H2.out]
    cases b2
    · go_wp2
      go_ret
      exact ⟨rfl, hb⟩
    · have hc0 : cutsB s.size 0 l = true := cutsB_weak _ _ _ _ H2.out.symm (by omega)
      have hok : s.data.toList.all okb = true := by
        have := H1.out
        simp [evenChainB, chainB] at this; simpa using this.1.1
      have HK := hid hok
      have HC := hid hc0
      clear hok hc0
      go_wp2_with fail
      refine (isFair_any s a c l w1 (by omega) HA1.out hn hlc hl HC.out HK.out).mono ?_
      rintro e w2 ⟨rfl, hb2⟩
      rw [← H3.out]
      have hbb := hb.trans (hb2.mono hb.size)
      cases b3
      · go_wp2
        go_ret
        exact ⟨rfl, hbb⟩
      · go_wp2
        go_ret
        exact ⟨rfl, hbb⟩

set_option maxHeartbeats 1000000 in
theorem checkRing_any (s : ByteArray) (a : Option Addr) (c : Nat) (l : List Int) (w : World) (hs : s.size ≤ 900) (ha : Ints w a l) (hn : a = none → c = 0) (hlc : l.length ≤ c) (hl : l.length ≤ 900) :
    Calls Try.prog 29 #[.string s, .slice a l.length c] w fun e w' => e = .returned (.int .i64 (checkRE s.data.toList l)) ∧ Below w.heap.size w w' := by
  obtain ⟨b1, h1⟩ : ∃ b, b = evenChainB s.data.toList := ⟨_, rfl⟩
  obtain ⟨b2, h2⟩ : ∃ b, b = cutsB s.data.toList.length 0 l := ⟨_, rfl⟩
  obtain ⟨b3, h3⟩ : ∃ b, b = fairRingB s.data.toList l := ⟨_, rfl⟩
  have hR : checkRE s.data.toList l = if b1 && l.length % 2 == 0 && b2 then (if b3 then 0 else 10) else 2 := by rw [checkRE, ← h1, ← h2, ← h3]
  rw [hR]
  clear hR
  obtain ⟨R, hR⟩ : ∃ R : Int, R = if b1 && l.length % 2 == 0 && b2 then (if b3 then 0 else 10) else 2 := ⟨_, rfl⟩
  rw [← hR]
  have HR := hid hR
  clear hR
  have H1 := hid h1
  have H2 := hid h2
  have H3 := hid h3
  have HA := hid ha
  clear h1 h2 h3 ha
  have hsm : Int.tmod (l.length : Int) 2 = ((l.length % 2 : Nat) : Int) := by
    rw [Int.tmod_eq_emod_of_nonneg (by omega)]; omega
  by_cases hodd : l.length % 2 = 1
  · have t1 : ((l.length : Int).tmod 2 == 1) = true := by rw [hsm, hodd]; rfl
    go_enter Try.func29, Try.ntmps29
    go_wp2_with fail
    refine (isEven_any s _ (by omega)).mono ?_
    rintro e w1 ⟨rfl, hb⟩
    rw [← H1.out]
    cases b1
    · go_wp2
      go_ret
      exact ⟨by rw [HR.out]; simp, hb⟩
    · go_wp2
      go_ret
      exact ⟨by rw [HR.out]; simp [hodd], hb⟩
  · have hev : l.length % 2 = 0 := by omega
    have t1 : ((l.length : Int).tmod 2 == 1) = false := by rw [hsm, hev]; rfl
    go_enter Try.func29, Try.ntmps29
    go_wp2_with fail
    refine (isEven_any s _ (by omega)).mono ?_
    rintro e w1 ⟨rfl, hb⟩
    rw [← H1.out]
    have HA1 := hid (HA.out.below hb (Nat.le_refl _))
    cases b1
    · go_wp2
      go_ret
      exact ⟨by rw [HR.out]; simp, hb⟩
    · go_wp2_with fail
      refine (areCuts_any s a c l 0 w1 (by omega) HA1.out (by omega)).mono ?_
      rintro e w2 ⟨rfl, rfl⟩
      rw [cutsLoop_none, ← bytes_len, ← H2.out]
      cases b2
      · go_wp2
        go_ret
        exact ⟨by rw [HR.out]; simp, hb⟩
      · have hc0 : cutsB s.size 0 l = true := H2.out.symm
        have hok : s.data.toList.all okb = true := by
          have := H1.out
          simp [evenChainB, chainB] at this; simpa using this.1.1
        obtain ⟨o1, o2, o3, o4⟩ := open_ok s.data.toList hok l H2.out.symm
        have HK := hid hok
        have HC := hid hc0
        have HO1 := hid o1
        have HO2 := hid o2
        have HO3 := hid o3
        have HO4 := hid o4
        clear hok hc0 o1 o2 o3 o4
        go_wp2_with fail
        refine (opened_any s a c l w1 (by omega) HA1.out hlc hn hl HC.out).mono ?_
        rintro e w2 ⟨a3, c3, rfl, hi3, hn3, hc3, hb2⟩
        have hlo : (openC l).length ≤ 900 := by have := HO4.out; omega
        have HI3 := hid hi3
        have hfa : ∀ W, Ints W a3 (openC l) → Calls Try.prog 46 #[.string (mkS (openL s.data.toList l)), .slice a3 (openC l).length c3] W fun e w' => e = .returned (.bool (fairRingB s.data.toList l)) ∧ Below W.heap.size W w' := by
          intro W hW
          have e1 : (mkS (openL s.data.toList l)).size = s.size := by rw [mkS_size, HO1.out, bytes_len]
          rw [← fairRingP_eq _ HK.out]
          have := isFair_any (mkS (openL s.data.toList l)) a3 c3 (openC l) W (by rw [e1]; omega) hW hn3 hc3 (by omega) (by rw [e1, ← bytes_len]; exact HO3.out) (by rw [mkS_data]; exact HO2.out)
          rw [mkS_data] at this
          exact this
        have hbb := hb.trans (hb2.mono hb.size)
        have HF := hid hfa
        clear hi3 hfa
        go_wp2_with fail
        refine (HF.out w2 HI3.out).mono ?_
        rintro e w3 ⟨rfl, hb3⟩
        rw [← H3.out]
        have hbb3 := hbb.trans (hb3.mono hbb.size)
        cases b3
        · go_wp2
          go_ret
          exact ⟨by rw [HR.out]; simp [hev], hbb3⟩
        · go_wp2
          go_ret
          exact ⟨by rw [HR.out]; simp [hev], hbb3⟩

/-- What Shares returns. -/
def sharesV (l : List UInt8) (cuts : List Int) : Value := if sharesE l cuts then .tuple #[.string (mkS (shLoop l 0 0 cuts [] []).1), .string (mkS (shLoop l 0 0 cuts [] []).2), .int .i64 0] else .tuple #[.string ⟨#[]⟩, .string ⟨#[]⟩, .int .i64 2]

set_option maxHeartbeats 1000000 in
theorem sharesE_any (s : ByteArray) (a : Option Addr) (c : Nat) (l : List Int) (w : World) (hs : s.size ≤ 900) (ha : Ints w a l) (hn : a = none → c = 0) (hlc : l.length ≤ c) (hl : l.length ≤ 900) :
    Calls Try.prog 22 #[.string s, .slice a l.length c] w fun e w' => e = .returned (sharesV s.data.toList l) ∧ Below w.heap.size w w' := by
  obtain ⟨b1, h1⟩ : ∃ b, b = chainB s.data.toList := ⟨_, rfl⟩
  obtain ⟨b2, h2⟩ : ∃ b, b = cutsB s.data.toList.length 1 l := ⟨_, rfl⟩
  obtain ⟨x, hx⟩ : ∃ x, x = mkS (shLoop s.data.toList 0 0 l [] []).1 := ⟨_, rfl⟩
  obtain ⟨y, hy⟩ : ∃ y, y = mkS (shLoop s.data.toList 0 0 l [] []).2 := ⟨_, rfl⟩
  have hR : sharesV s.data.toList l = if b1 && b2 then .tuple #[.string x, .string y, .int .i64 0] else .tuple #[.string ⟨#[]⟩, .string ⟨#[]⟩, .int .i64 2] := by rw [sharesV, sharesE, ← h1, ← h2, ← hx, ← hy]
  rw [hR]
  clear hR
  have H1 := hid h1
  have H2 := hid h2
  have HX := hid hx
  have HY := hid hy
  have HA := hid ha
  clear h1 h2 hx hy ha
  go_enter Try.func22, Try.ntmps22
  go_wp2_with fail
  refine (isChain_any s _ (by omega)).mono ?_
  rintro e w1 ⟨rfl, hb⟩
  rw [← H1.out]
  have HA1 := hid (HA.out.below hb (Nat.le_refl _))
  cases b1
  · go_wp2
    refine bodyPost_ret (v := .tuple #[.string ⟨#[]⟩, .string ⟨#[]⟩, .int .i64 2]) (by simp [results, Try.results22, go_sem]) rfl ⟨by simp, hb⟩
  · go_wp2_with fail
    refine (areCuts_any s a c l 1 w1 (by omega) HA1.out (by omega)).mono ?_
    rintro e w2 ⟨rfl, rfl⟩
    rw [cutsLoop_none, ← bytes_len, ← H2.out]
    cases b2
    · go_wp2
      refine bodyPost_ret (v := .tuple #[.string ⟨#[]⟩, .string ⟨#[]⟩, .int .i64 2]) (by simp [results, Try.results22, go_sem]) rfl ⟨by simp, hb⟩
    · have hc0 : cutsB s.size 0 l = true := cutsB_weak _ _ _ _ H2.out.symm (by omega)
      have HC := hid hc0
      clear hc0
      go_wp2_with fail
      refine (shares_any s a c l w1 (by omega) HA1.out hn hlc hl HC.out).mono ?_
      rintro e w2 ⟨rfl, hb2⟩
      rw [← HX.out, ← HY.out]
      have hbb := hb.trans (hb2.mono hb.size)
      go_wp2
      refine bodyPost_ret (v := .tuple #[.string x, .string y, .int .i64 0]) (by simp [results, Try.results22, go_sem]) rfl ⟨by simp, hbb⟩
end Go.Proofs.Ythelnggbcgjbcaa
