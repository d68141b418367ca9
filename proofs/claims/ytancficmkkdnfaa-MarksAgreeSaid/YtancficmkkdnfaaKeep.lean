/-
  Maps that keep words square-free: the test by short words. No program.
-/
import Derived.Test.YtancficmkkdnfaaSqf
import Derived.Test.YtancficmkkdnfaaFree
import Derived.Test.YtancficmkkdnfaaG
namespace Go.Proofs.Ytancficmkkdnfaa

theorem app1 {α : Type} (a b : List α) (i : Nat) (h : i < a.length) : (a ++ b)[i]? = a[i]? := List.getElem?_append_left h
theorem app2 {α : Type} (a b : List α) (i : Nat) : (a ++ b)[a.length + i]? = b[i]? := by
  rw [List.getElem?_append_right (by omega), Nat.add_sub_cancel_left]
theorem free_two {c e : UInt8} (h : c ≠ e) : freeB [c, e] = true := (free_iff _).2 fun ⟨i, p, a, b, d⟩ => by
  simp only [List.length_cons, List.length_nil] at b
  have hi : i = 0 := by omega
  have hp : p = 1 := by omega
  subst hi hp
  have := d 0 (by omega)
  simp at this
  exact h this
theorem free_three {c e g : UInt8} (h : c ≠ e) (h2 : e ≠ g) : freeB [c, e, g] = true := (free_iff _).2 fun ⟨i, p, a, b, d⟩ => by
  simp only [List.length_cons, List.length_nil] at b
  have hp : p = 1 := by omega
  subst hp
  have := d 0 (by omega)
  rcases (show i = 0 ∨ i = 1 by omega) with rfl | rfl
  · simp at this; exact h this
  · simp at this; exact h2 this

section
variable (m : List (List UInt8)) (K : ∀ y, overB 3 y = true → freeB y = true → y.length ≤ 3 → freeB (imgW m y) = true)
include K
theorem cond2 {c e : UInt8} (hc : okk 3 c = true) (he : okk 3 e = true) (t : Nat) (h1 : 1 ≤ t) (h2 : t ≤ (imgL m c).length) (h3 : t ≤ (imgL m e).length)
    (h : ∀ k, k < t → (imgL m c)[(imgL m c).length - t + k]? = (imgL m e)[k]?) : c = e := by
  by_cases hce : c = e
  · exact hce
  · exfalso
    have hf := K [c, e] (by simp [overB, hc, he]) (free_two hce) (by simp)
    rw [imgW_cons, imgW_cons, show imgW m [] = [] from rfl, List.append_nil] at hf
    refine (free_iff _).1 hf ⟨(imgL m c).length - t, t, h1, by rw [List.length_append]; omega, fun k hk => ?_⟩
    rw [app1 _ _ _ (by omega), show (imgL m c).length - t + t + k = (imgL m c).length + k by omega, app2]
    exact h k hk
theorem condT {c e : UInt8} (hc : okk 3 c = true) (he : okk 3 e = true) (hce : c ≠ e) (t : Nat) (h1 : 1 ≤ t) (h2 : t + (imgL m e).length ≤ (imgL m c).length)
    (h : ∀ k, k < t → (imgL m c)[(imgL m c).length - t + k]? = (imgL m c)[k]?) (h' : ∀ k, k < (imgL m e).length → (imgL m c)[t + k]? = (imgL m e)[k]?) : False := by
  have hf := K [c, e, c] (by simp [overB, hc, he]) (free_three hce (Ne.symm hce)) (by simp)
  rw [imgW_cons, imgW_cons, imgW_cons, show imgW m [] = [] from rfl, List.append_nil] at hf
  refine (free_iff _).1 hf ⟨(imgL m c).length - t, t + (imgL m e).length, by omega, by simp only [List.length_append]; omega, fun k hk => ?_⟩
  rw [show (imgL m c).length - t + (t + (imgL m e).length) + k = (imgL m c).length + ((imgL m e).length + k) by omega, app2, app2]
  rcases Nat.lt_or_ge k t with h3 | h3
  · rw [app1 _ _ _ (by omega)]; exact h k h3
  · rw [show (imgL m c).length - t + k = (imgL m c).length + (k - t) by omega, app2, app1 _ _ _ (by omega), ← h' (k - t) (by omega), show t + (k - t) = k by omega]
theorem condU {c e : UInt8} (hc : okk 3 c = true) (he : okk 3 e = true) (hce : c ≠ e) (t : Nat) (h1 : 1 ≤ t) (h2 : t + (imgL m e).length ≤ (imgL m c).length)
    (h : ∀ k, k < t → (imgL m c)[(imgL m c).length - t + k]? = (imgL m c)[k]?) (h' : ∀ k, k < (imgL m e).length → (imgL m c)[(imgL m c).length - t - (imgL m e).length + k]? = (imgL m e)[k]?) : False := by
  have hf := K [c, e, c] (by simp [overB, hc, he]) (free_three hce (Ne.symm hce)) (by simp)
  rw [imgW_cons, imgW_cons, imgW_cons, show imgW m [] = [] from rfl, List.append_nil] at hf
  refine (free_iff _).1 hf ⟨(imgL m c).length - t - (imgL m e).length, t + (imgL m e).length, by omega, by simp only [List.length_append]; omega, fun k hk => ?_⟩
  rw [show (imgL m c).length - t - (imgL m e).length + (t + (imgL m e).length) + k = (imgL m c).length + k by omega, app2]
  rw [app1 (imgL m c) _ _ (by omega)]
  rcases Nat.lt_or_ge k (imgL m e).length with h3 | h3
  · rw [app1 _ _ _ h3]; exact h' k h3
  · have := h (k - (imgL m e).length) (by omega)
    rw [show (imgL m c).length - t + (k - (imgL m e).length) = (imgL m c).length - t - (imgL m e).length + k by omega] at this
    rw [this, show k = (imgL m e).length + (k - (imgL m e).length) by omega, app2, Nat.add_sub_cancel_left]
theorem cond3 {c e g : UInt8} (hc : okk 3 c = true) (he : okk 3 e = true) (hg : okk 3 g = true) (hce : c ≠ e) (heg : e ≠ g) (t : Nat) (h1 : 1 ≤ t) (h2 : t ≤ (imgL m c).length) (h3 : t ≤ (imgL m e).length) (h4 : (imgL m e).length - t ≤ (imgL m g).length)
    (h : ∀ k, k < t → (imgL m c)[(imgL m c).length - t + k]? = (imgL m e)[(imgL m e).length - t + k]?) (h' : ∀ k, k < (imgL m e).length - t → (imgL m e)[k]? = (imgL m g)[k]?) : False := by
  have hf := K [c, e, g] (by simp [overB, hc, he, hg]) (free_three hce heg) (by simp)
  rw [imgW_cons, imgW_cons, imgW_cons, show imgW m [] = [] from rfl, List.append_nil] at hf
  refine (free_iff _).1 hf ⟨(imgL m c).length - t, (imgL m e).length, by omega, by simp only [List.length_append]; omega, fun k hk => ?_⟩
  rcases Nat.lt_or_ge k t with h5 | h5
  · rw [app1 _ _ _ (by omega), show (imgL m c).length - t + (imgL m e).length + k = (imgL m c).length + ((imgL m e).length - t + k) by omega, app2, app1 _ _ _ (by omega)]
    exact h k h5
  · rw [show (imgL m c).length - t + k = (imgL m c).length + (k - t) by omega, app2, app1 _ _ _ (by omega), show (imgL m c).length - t + (imgL m e).length + k = (imgL m c).length + ((imgL m e).length + (k - t)) by omega, app2, app2]
    exact h' (k - t) (by omega)
end

theorem imgW_take (m : List (List UInt8)) (x : List UInt8) (i : Nat) (h : i < x.length) : imgW m (x.take (i + 1)) = imgW m (x.take i) ++ imgL m (x.getD i 0) := by
  rw [List.take_add_one, List.getElem?_eq_getElem h, imgW_append]
  simp [imgW, List.getD, List.getElem?_eq_getElem h]
theorem imgW_split (m : List (List UInt8)) (x : List UInt8) (i : Nat) (h : i < x.length) : imgW m x = imgW m (x.take i) ++ (imgL m (x.getD i 0) ++ imgW m (x.drop (i + 1))) := by
  rw [← List.append_assoc, ← imgW_take m x i h, ← imgW_append, List.take_append_drop]

/-- **A shortest word that is not kept square-free is short.** -/
theorem keep_test (m : List (List UInt8)) (hm : mapB m = true) (x : List UInt8) (hx : overB 3 x = true) (hf : freeB x = true) (hbad : freeB (imgW m x) = false)
    (hmin : ∀ y, overB 3 y = true → freeB y = true → y.length < x.length → freeB (imgW m y) = true) :
    x.length ≤ 3 ∨ ∃ c ∈ x, ∀ sh, (∀ e ∈ x, sh ≤ (imgL m e).length) → (x.length - 2) * sh + 4 ≤ (imgL m c).length := by
  rcases Nat.lt_or_ge 3 x.length with hn | hn
  · right
    obtain ⟨s, d, h1, h2, h3⟩ := (not_free _).1 hbad
    have hg : ∀ i, i < x.length → x[i]? = some (x.getD i 0) := fun i hi => by simp [List.getD, List.getElem?_eq_getElem hi]
    have hmem : ∀ i, i < x.length → x.getD i 0 ∈ x := fun i hi => List.mem_of_getElem? (hg i hi)
    have hok : ∀ i, i < x.length → okk 3 (x.getD i 0) = true := fun i hi => List.all_eq_true.1 hx _ (hmem i hi)
    have K : ∀ y, overB 3 y = true → freeB y = true → y.length ≤ 3 → freeB (imgW m y) = true := fun y a b c => hmin y a b (by omega)
    have hL : Laid x.length (fun i => x.getD i 0) (fun c => (imgL m c).length) (fun c k => (imgL m c)[k]?) (fun i => (imgW m (x.take i)).length) (fun i => (imgW m x)[i]?) s d := {
      o0 := rfl
      os := fun i hi => by rw [imgW_take m x i hi, List.length_append]
      pos := fun i hi => (imgL_len hm (overB_mem hx (hmem i hi))).1
      reads := fun i k hi hk => by
        rw [imgW_split m x i hi, app2, app1 _ _ _ hk]
      d1 := h1
      fit := by rw [List.take_of_length_le (Nat.le_refl _)]; exact h2
      sq := h3
      left := by
        rcases Nat.lt_or_ge s (imgW m (x.take 1)).length with h | h
        · exact h
        · exfalso
          have hff := hmin (x.drop 1) (overB_drop hx 1) (free_drop hf 1) (by rw [List.length_drop]; omega)
          have he : imgW m x = imgW m (x.take 1) ++ imgW m (x.drop 1) := by rw [← imgW_append, List.take_append_drop]
          refine (free_iff _).1 hff ⟨s - (imgW m (x.take 1)).length, d, h1, ?_, fun k hk => ?_⟩
          · rw [he, List.length_append] at h2; omega
          · have := h3 k hk
            rw [he, List.getElem?_append_right (by omega), List.getElem?_append_right (by omega)] at this
            rw [show s - (imgW m (x.take 1)).length + k = s + k - (imgW m (x.take 1)).length by omega, show s - (imgW m (x.take 1)).length + d + k = s + d + k - (imgW m (x.take 1)).length by omega]
            exact this
      right := by
        rcases Nat.lt_or_ge (imgW m (x.take (x.length - 1))).length (s + 2 * d) with h | h
        · exact h
        · exfalso
          have hff := hmin (x.take (x.length - 1)) (overB_take hx _) (free_take hf _) (by rw [List.length_take]; omega)
          have he : imgW m x = imgW m (x.take (x.length - 1)) ++ imgW m (x.drop (x.length - 1)) := by rw [← imgW_append, List.take_append_drop]
          refine (free_iff _).1 hff ⟨s, d, h1, h, fun k hk => ?_⟩
          have := h3 k hk
          rw [he, app1 _ _ _ (by omega), app1 _ _ _ (by omega)] at this
          exact this
      sf := fun p q h4 h5 h6 => (free_iff _).1 hf ⟨p, q, h4, h5, fun k hk => by rw [hg _ (by omega), hg _ (by omega), h6 k hk]⟩
      hO := fun i l hi hl t h4 h5 h6 h7 => cond2 m K (hok i hi) (hok l hl) t h4 h5 h6 h7
      hT := fun i l hi hl hne t h4 h5 h6 h7 => condT m K (hok i hi) (hok l hl) hne t h4 h5 h6 h7
      hU := fun i l hi hl hne t h4 h5 h6 h7 => condU m K (hok i hi) (hok l hl) hne t h4 h5 h6 h7
      h3 := fun i j l hi hj hl hne hne' t h4 h5 h6 h7 h8 h9 => cond3 m K (hok i hi) (hok j hj) (hok l hl) hne hne' t h4 h5 h6 h7 h8 h9 }
    have hsum : ∀ sh, (∀ e ∈ x, sh ≤ (imgL m e).length) → ∀ j, 1 + j ≤ x.length → (imgW m (x.take 1)).length + j * sh ≤ (imgW m (x.take (1 + j))).length := by
      intro sh hsh j
      induction j with
      | zero => intro _; simp
      | succ j ih =>
        intro hj
        have h4 := ih (by omega)
        have h5 := hsh _ (hmem (1 + j) (by omega))
        rw [show 1 + (j + 1) = 1 + j + 1 by omega, imgW_take m x (1 + j) (by omega), List.length_append, Nat.add_mul, Nat.one_mul]
        omega
    rcases hL.long hn with h | h
    · refine ⟨_, hmem 0 (by omega), fun sh hsh => ?_⟩
      have h4 := hsum sh hsh (x.length - 2) (by omega)
      rw [show 1 + (x.length - 2) = x.length - 1 by omega] at h4
      exact Nat.le_trans (by omega) h
    · refine ⟨_, hmem (x.length - 1) (by omega), fun sh hsh => ?_⟩
      have h4 := hsum sh hsh (x.length - 2) (by omega)
      rw [show 1 + (x.length - 2) = x.length - 1 by omega] at h4
      exact Nat.le_trans (by omega) h
  · exact .inl hn
end Go.Proofs.Ytancficmkkdnfaa
