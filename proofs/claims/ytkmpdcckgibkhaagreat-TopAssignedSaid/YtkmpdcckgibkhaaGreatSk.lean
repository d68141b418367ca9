/-
  Walks: Least, Check.
-/
import Derived.Test.YtkmpdcckgibkhaaGreatSi
namespace Go.Proofs.YtkmpdcckgibkhaaGreat
open Go.RowKit

theorem cutsLoop_some (n f : Int) : ∀ (l : List Int) (p : Int), f ≤ p → cutsLoop n f (some p) l = cutsB n (p + 1) l := by
  intro l
  induction l with
  | nil => intro p _; rfl
  | cons c r ih =>
    intro p hp
    simp only [cutsLoop, cutsB]
    by_cases h : p + 1 ≤ c
    · rw [ih c (by omega)]
      have h1 : f ≤ c := by omega
      have h2 : p < c := by omega
      simp [h, h1, h2]
    · have h2 : ¬ p < c := by omega
      simp [h, h2]
theorem cutsLoop_none (n f : Int) (l : List Int) : cutsLoop n f none l = cutsB n f l := by
  cases l with
  | nil => rfl
  | cons c r =>
    simp only [cutsLoop, cutsB]
    by_cases h : f ≤ c
    · rw [cutsLoop_some n f r c h]
    · simp [h]
theorem cutsB_len (n : Int) : ∀ (l : List Int) (f : Int), cutsB n f l = true → (l.length : Int) ≤ max 0 (n - f) := by
  intro l
  induction l with
  | nil => intro f _; simp; omega
  | cons c r ih =>
    intro f h
    simp only [cutsB, Bool.and_eq_true, decide_eq_true_eq] at h
    have := ih _ h.2
    simp only [List.length_cons]; omega

/-- The cuts and the error of Least. -/
def leastC (l : List UInt8) : List Int := if evenChainB l then (tryN (firstB false l) (List.range (kindsN l + 1))).getD [] else []
def leastE (l : List UInt8) : Int := if evenChainB l then 0 else 2
theorem least_any (s : ByteArray) (w : World) (hs : s.size ≤ 900) : Calls Tryz.prog 19 #[.string s] w (RetCuts (leastC s.data.toList) (leastE s.data.toList) w) := by
  by_cases h : evenChainB s.data.toList = true
  · rw [leastC, leastE, if_pos h, if_pos h]; exact least_even s w hs h
  · rw [leastC, leastE, if_neg h, if_neg h]; exact (least_odd s w (by omega) (by simpa using h)).mono fun _ _ h => h.ret
theorem least_anyO (s : ByteArray) (w : World) (hs : s.size ≤ 900) : Calls Tryz.prog 19 #[.string s] w (RetCutsO (leastC s.data.toList) (leastE s.data.toList) w) := by
  by_cases h : evenChainB s.data.toList = true
  · rw [leastC, leastE, if_pos h, if_pos h]; exact least_evenO s w hs h
  · rw [leastC, leastE, if_neg h, if_neg h]; exact least_odd s w (by omega) (by simpa using h)
/-- What Check and CheckRing return. -/
def checkE (l : List UInt8) (cuts : List Int) : Int := if evenChainB l && cutsB l.length 1 cuts then (if fairB l cuts then 0 else 10) else 2
set_option maxHeartbeats 1000000 in
theorem check_any (s : ByteArray) (a : Option Addr) (c : Nat) (l : List Int) (w : World) (hs : s.size ≤ 900) (ha : Ints w a l) (hn : a = none → c = 0) (hlc : l.length ≤ c) (hl : l.length ≤ 900) :
    Calls Tryz.prog 17 #[.string s, .slice a l.length c] w fun e w' => e = .returned (.int .i64 (checkE s.data.toList l)) ∧ Below w.heap.size w w' := by
  obtain ⟨b1, h1⟩ : ∃ b, b = evenChainB s.data.toList := ⟨_, rfl⟩
  obtain ⟨b2, h2⟩ : ∃ b, b = cutsB s.data.toList.length 1 l := ⟨_, rfl⟩
  obtain ⟨b3, h3⟩ : ∃ b, b = fairB s.data.toList l := ⟨_, rfl⟩
  have hR : checkE s.data.toList l = if b1 && b2 then (if b3 then 0 else 10) else 2 := by rw [checkE, ← h1, ← h2, ← h3]
  rw [hR]
  clear hR
  have H1 := hid h1
  have H2 := hid h2
  have H3 := hid h3
  have HA := hid ha
  clear h1 h2 h3 ha
  go_enter Tryz.func17, Tryz.ntmps17
  go_wp2_with fail
  refine (isEven_any s _ (by omega)).mono ?_
  rintro e w1 ⟨rfl, hb⟩
  rw [← H1.out]
  have HA1 := hid (HA.out.below hb (Nat.le_refl _))
  cases b1
  · go_wp2
    go_ret
    exact ⟨rfl, hb⟩
  · go_wp2_with fail
    refine (areCuts_any s a c l 1 w1 (by omega) HA1.out (by omega)).mono ?_
    rintro e w2 ⟨rfl, rfl⟩
    rw [cutsLoop_none, ← bytes_len, ← H2.out]
    cases b2
    · go_wp2
      go_ret
      exact ⟨rfl, hb⟩
    · have hc0 : cutsB s.size 0 l = true := cutsB_weak _ _ _ _ H2.out.symm (by omega)
      have hok : s.data.toList.all okb = true := by
        have := H1.out
        simp [evenChainB, chainB] at this; simpa using this.1.1
      have HK := hid hok
      have HC := hid hc0
      clear hok hc0
      go_wp2_with fail
      refine (isFair_any s a c l w1 (by omega) HA1.out hn hlc hl HC.out HK.out).mono ?_
      rintro e w2 ⟨rfl, hb2⟩
      rw [← H3.out]
      have hbb := hb.trans (hb2.mono hb.size)
      cases b3
      · go_wp2
        go_ret
        exact ⟨rfl, hbb⟩
      · go_wp2
        go_ret
        exact ⟨rfl, hbb⟩

end Go.Proofs.YtkmpdcckgibkhaaGreat
