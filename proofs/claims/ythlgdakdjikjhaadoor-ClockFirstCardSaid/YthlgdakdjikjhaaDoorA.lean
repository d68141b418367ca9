/-
  Walks: machines are machines.
-/
import Derived.Test.YthlgdakdjikjhaaDoorBase
import Derived.Test.YthlgdakdjikjhaaDoorPure
import Derived.Test.YthlgdakdjikjhaaDoorChecked
namespace Go.Proofs.YthlgdakdjikjhaaDoor
open Go.RowKit

/-- A slice that reads as lists of numbers. -/
def RowsAt (w : World) (a : Option Addr) (X : List (List Int)) : Prop :=
  ∃ vs : List Value, Vals w a vs ∧ vs.length = X.length ∧ ∀ (i : Nat) (r : List Int), X[i]? = some r → ∃ (b : Option Addr) (c : Nat), vs[i]? = some (Value.slice b r.length c) ∧ Ints w b r ∧ (b = none → c = 0) ∧ r.length ≤ c
theorem RowsAt.below {w w' : World} {a : Option Addr} {X : List (List Int)} {B : Nat} (h : RowsAt w a X) (hb : Below B w w') (hB : w.heap.size ≤ B) : RowsAt w' a X := by
  obtain ⟨vs, h1, h2, h3⟩ := h
  refine ⟨vs, h1.below hb hB, h2, fun i r hr => ?_⟩
  obtain ⟨b, c, k1, k2, k3⟩ := h3 i r hr
  exact ⟨b, c, k1, k2.below hb hB, k3⟩
theorem RowsAt.at {w : World} {a : Option Addr} {X : List (List Int)} (h : RowsAt w a X) (i : Nat) (r : List Int) (hr : X[i]? = some r) :
    ∃ g o b c, a = some ⟨g, o, none⟩ ∧ g < w.heap.size ∧ w.cell? ⟨g, o + i, none⟩ = some (Value.slice b r.length c) ∧ Ints w b r ∧ (b = none → c = 0) ∧ r.length ≤ c := by
  obtain ⟨vs, h1, h2, h3⟩ := h
  obtain ⟨b, c, k1, k2, k3⟩ := h3 i r hr
  rcases h1 with h | ⟨g, o, ha, hg, hc⟩
  · subst h; simp at k1
  · exact ⟨g, o, b, c, ha, hg, hc i _ k1, k2, k3⟩

theorem within_any (n lo hi : Int) (w : World) : Calls Tryd.prog 50 #[.int .i64 n, .int .i64 lo, .int .i64 hi] w fun e w' => e = .returned (.bool (decide (lo ≤ n) && decide (n ≤ hi))) ∧ w = w' := by
  go_enter Tryd.func50, Tryd.ntmps50
  go_wp2
  all_goals (go_ret; exact ⟨ret_bool (by rw [Bool.eq_iff_iff]; simp; omega), rfl⟩)

/-- Is a number no state? -/
def badQ (n : Nat) (q : Int) : Bool := !(decide (0 ≤ q) && decide (q ≤ (n : Int) - 1))
def RetIdx (b : Bool) (w : World) (e : Ending) (w' : World) : Prop := ∃ r : Int, e = .returned (.int .i64 r) ∧ decide (0 ≤ r) = b ∧ w = w'

set_option maxHeartbeats 400000 in
theorem in77_any (q : Int) (n b : Nat) (w : World) (hn : n ≤ 1000) (hc : w.cell? ⟨b, 0, none⟩ = some (.int .i64 n)) :
    Calls Tryd.prog 77 #[.int .i64 q, .pointer (some ⟨b, 0, none⟩)] w fun e w' => e = .returned (.bool (badQ n q)) ∧ w = w' := by
  go_enter Tryd.func77, Tryd.ntmps77
  go_wp2_with (go_at_call 50; refine (within_any _ _ _ _).mono ?_; rintro e w1 ⟨rfl, rfl⟩)
  go_ret
  refine ⟨ret_bool ?_, rfl⟩
  rw [Bool.eq_iff_iff]; simp [badQ]

set_option maxHeartbeats 400000 in
theorem index86_any (a : Option Addr) (c : Nat) (r : List Int) (n b : Nat) (w : World) (hn : n ≤ 1000) (hr : Ints w a r) (hl : r.length ≤ 1000000) (hc : w.cell? ⟨b, 0, none⟩ = some (.int .i64 n)) :
    Calls Tryd.prog 86 #[.slice a r.length c, .func (.func 77) #[] #[.pointer (some ⟨b, 0, none⟩)]] w (RetIdx (r.any (badQ n)) w) := by
  have HR := hid hr
  have HC := fun q => hid (in77_any q n b w hn hc)
  replace HC := hid HC
  clear hr hc
  go_enter Tryd.func86, Tryd.ntmps86
  go_wp2
  go_loop [8] (fun i => ∃ k : Nat, k ≤ r.length ∧ i = .int .i64 k ∧ Hid (r.any (badQ n) = (r.drop k).any (badQ n))) (fun i => r.length - (intOf i).toNat)
  case atStart => exact ⟨0, by omega, rfl, rfl⟩
  case round =>
    obtain ⟨k, hk, rfl, H⟩ := hrel
    by_cases hlt : k < r.length
    · obtain ⟨x, hx, hd⟩ := list_drop_cons r k hlt
      obtain ⟨g, o, rfl, hg, hcell⟩ := HR.out.at (by omega)
      have q1 := hcell k x hx
      have HX := hid hd
      clear hcell hx hd
      cases hb : badQ n x with
      | true =>
        have C1 := HC.out x
        rw [hb] at C1
        have hfin : r.any (badQ n) = true := by rw [H.out, HX.out]; simp [hb]
        have HF := hid hfin
        clear hfin hb
        go_wp2_with (go_at_call 77; refine C1.out.mono ?_; rintro e w1 ⟨rfl, rfl⟩)
        go_ret
        exact ⟨k, rfl, by rw [HF.out]; simp, rfl⟩
      | false =>
        have C1 := HC.out x
        rw [hb] at C1
        have hfin : r.any (badQ n) = (r.drop (k + 1)).any (badQ n) := by rw [H.out, HX.out]; simp [hb]
        have HF := hid hfin
        clear hfin hb
        go_wp2_with (go_at_call 77; refine C1.out.mono ?_; rintro e w1 ⟨rfl, rfl⟩)
        go_round
        case rel => exact ⟨k + 1, by omega, by go_num, HF⟩
        case measure => simp [intOf]; omega
    · have hfin : r.any (badQ n) = false := by rw [H.out, List.drop_eq_nil_of_le (by omega)]; rfl
      have HF := hid hfin
      clear hfin
      go_wp2
      go_ret
      exact ⟨-1, rfl, by rw [HF.out]; rfl, rfl⟩

set_option maxHeartbeats 400000 in
theorem contains76_any (a : Option Addr) (c : Nat) (r : List Int) (n b : Nat) (w : World) (hn : n ≤ 1000) (hr : Ints w a r) (hl : r.length ≤ 1000000) (hc : w.cell? ⟨b, 0, none⟩ = some (.int .i64 n)) :
    Calls Tryd.prog 76 #[.slice a r.length c, .func (.func 77) #[] #[.pointer (some ⟨b, 0, none⟩)]] w fun e w' => e = .returned (.bool (r.any (badQ n))) ∧ w = w' := by
  have HI := hid (index86_any a c r n b w hn hr hl hc)
  clear hr hc
  go_enter Tryd.func76, Tryd.ntmps76
  go_wp2_with (go_at_call 86; refine HI.out.mono ?_; rintro e w1 ⟨r, rfl, hr, rfl⟩; have HR := hid hr; clear hr)
  go_ret
  exact ⟨ret_bool HR.out, rfl⟩

/-- Is a list no row of a machine? -/
def badR (n : Nat) (r : List Int) : Bool := (r.length != n) || r.any (badQ n)

set_option maxRecDepth 20000 in
set_option maxHeartbeats 400000 in
theorem in75_any (a : Option Addr) (c : Nat) (r : List Int) (n b : Nat) (w : World) (hn : n ≤ 1000) (hr : Ints w a r) (hl : r.length ≤ 1000000) (hc : w.cell? ⟨b, 0, none⟩ = some (.int .i64 n)) :
    Calls Tryd.prog 75 #[.slice a r.length c, .pointer (some ⟨b, 0, none⟩)] w fun e w' => e = .returned (.bool (badR n r)) ∧ w = w' := by
  have HI := hid (contains76_any a c r n b w hn hr hl hc)
  clear hr
  by_cases h : n = r.length
  · subst h
    have d1 : ((r.length : Int) != (r.length : Int)) = false := by simp
    have hfin : badR r.length r = r.any (badQ r.length) := by unfold badR; simp
    have HF := hid hfin
    clear hfin
    go_enter Tryd.func75, Tryd.ntmps75
    go_wp2_with (go_at_call 76; refine HI.out.mono ?_; rintro e w1 ⟨rfl, rfl⟩)
    go_ret
    exact ⟨ret_bool HF.out.symm, rfl⟩
  · have d1 : ((r.length : Int) != (n : Int)) = true := by simp; omega
    have hfin : badR n r = true := by unfold badR; simp; exact .inl fun e => h e.symm
    have HF := hid hfin
    clear hfin
    go_enter Tryd.func75, Tryd.ntmps75
    go_wp2_with fail
    go_ret
    exact ⟨ret_bool HF.out.symm, rfl⟩

set_option maxHeartbeats 400000 in
theorem index85_any (a : Option Addr) (c : Nat) (X : List (List Int)) (n b : Nat) (w : World) (hn : n ≤ 1000) (hr : RowsAt w a X) (hl : X.length ≤ 1000000) (hl2 : ∀ r ∈ X, r.length ≤ 1000000) (hc : w.cell? ⟨b, 0, none⟩ = some (.int .i64 n)) :
    Calls Tryd.prog 85 #[.slice a X.length c, .func (.func 75) #[] #[.pointer (some ⟨b, 0, none⟩)]] w (RetIdx (X.any (badR n)) w) := by
  have HR := hid hr
  have HC := hid hc
  have HL2 := hid hl2
  clear hr hc hl2
  go_enter Tryd.func85, Tryd.ntmps85
  go_wp2
  go_loop [8] (fun i => ∃ k : Nat, k ≤ X.length ∧ i = .int .i64 k ∧ Hid (X.any (badR n) = (X.drop k).any (badR n))) (fun i => X.length - (intOf i).toNat)
  case atStart => exact ⟨0, by omega, rfl, rfl⟩
  case round =>
    obtain ⟨k, hk, rfl, H⟩ := hrel
    by_cases hlt : k < X.length
    · obtain ⟨x, hx, hd⟩ := list_drop_cons X k hlt
      obtain ⟨g, o, b1, c1, rfl, hg, q1, hin, -, -⟩ := HR.out.at k x hx
      have C1 := hid (in75_any b1 c1 x n b w hn hin (HL2.out x (List.mem_of_getElem? hx)) HC.out)
      have HX := hid hd
      clear hin hx hd
      cases hb : badR n x with
      | true =>
        rw [hb] at C1
        have hfin : X.any (badR n) = true := by rw [H.out, HX.out]; simp [hb]
        have HF := hid hfin
        clear hfin hb
        go_wp2_with (go_at_call 75; refine C1.out.mono ?_; rintro e w1 ⟨rfl, rfl⟩)
        go_ret
        exact ⟨k, rfl, by rw [HF.out]; simp, rfl⟩
      | false =>
        rw [hb] at C1
        have hfin : X.any (badR n) = (X.drop (k + 1)).any (badR n) := by rw [H.out, HX.out]; simp [hb]
        have HF := hid hfin
        clear hfin hb
        go_wp2_with (go_at_call 75; refine C1.out.mono ?_; rintro e w1 ⟨rfl, rfl⟩)
        go_round
        case rel => exact ⟨k + 1, by omega, by go_num, HF⟩
        case measure => simp [intOf]; omega
    · have hfin : X.any (badR n) = false := by rw [H.out, List.drop_eq_nil_of_le (by omega)]; rfl
      have HF := hid hfin
      clear hfin
      go_wp2
      go_ret
      exact ⟨-1, rfl, by rw [HF.out]; rfl, rfl⟩

set_option maxHeartbeats 400000 in
theorem contains74_any (a : Option Addr) (c : Nat) (X : List (List Int)) (n b : Nat) (w : World) (hn : n ≤ 1000) (hr : RowsAt w a X) (hl : X.length ≤ 1000000) (hl2 : ∀ r ∈ X, r.length ≤ 1000000) (hc : w.cell? ⟨b, 0, none⟩ = some (.int .i64 n)) :
    Calls Tryd.prog 74 #[.slice a X.length c, .func (.func 75) #[] #[.pointer (some ⟨b, 0, none⟩)]] w fun e w' => e = .returned (.bool (X.any (badR n))) ∧ w = w' := by
  have HI := hid (index85_any a c X n b w hn hr hl hl2 hc)
  clear hr hc
  go_enter Tryd.func74, Tryd.ntmps74
  go_wp2_with (go_at_call 85; refine HI.out.mono ?_; rintro e w1 ⟨r, rfl, hr, rfl⟩; have HR := hid hr; clear hr)
  go_ret
  exact ⟨ret_bool HR.out, rfl⟩

theorem machineB_eq (X : List (List Int)) : machineB X = (decide (1 ≤ X.length) && decide (X.length ≤ 4) && (decide (1 ≤ (X.headD []).length) && decide ((X.headD []).length ≤ 9)) && !X.any (badR (X.headD []).length)) := by
  rw [Bool.eq_iff_iff]
  unfold machineB badR badQ
  generalize (X.headD []).length = n
  simp only [Bool.and_eq_true, decide_eq_true_eq, List.all_eq_true, beq_iff_eq, Bool.not_eq_true', List.any_eq_false, Bool.or_eq_true, bne_iff_ne, List.any_eq_true, not_or, Classical.not_not, not_exists, not_and]
  constructor
  · rintro ⟨⟨⟨⟨h1, h2⟩, h3⟩, h4⟩, h5⟩
    refine ⟨⟨⟨h1, h2⟩, h3, h4⟩, fun r hr => ⟨(h5 r hr).1, fun q hq => ?_⟩⟩
    have := (h5 r hr).2 q hq
    simp; omega
  · rintro ⟨⟨⟨h1, h2⟩, h3, h4⟩, h5⟩
    refine ⟨⟨⟨⟨h1, h2⟩, h3⟩, h4⟩, fun r hr => ⟨(h5 r hr).1, fun q hq => ?_⟩⟩
    have := (h5 r hr).2 q hq
    simp at this; omega

set_option maxRecDepth 20000 in
set_option maxHeartbeats 400000 in
theorem isMachine_any (a : Option Addr) (c : Nat) (X : List (List Int)) (w : World) (hr : RowsAt w a X) (hl : X.length ≤ 1000) (hl2 : ∀ r ∈ X, r.length ≤ 1000) :
    Calls Tryd.prog 51 #[.slice a X.length c] w fun e w' => e = .returned (.bool (machineB X)) ∧ Below w.heap.size w w' := by
  have hfin := machineB_eq X
  have HF := hid hfin
  clear hfin
  have HR := hid hr
  clear hr
  by_cases h1 : 1 ≤ X.length ∧ X.length ≤ 4
  · have hw1 : (decide ((1 : Int) ≤ (X.length : Int)) && decide ((X.length : Int) ≤ 4)) = true := by simp; omega
    have hx : X[0]? = some (X.headD []) := by
      cases X with
      | nil => simp at h1
      | cons r X => rfl
    obtain ⟨g, o, b1, c1, rfl, hg, q1, hin, -, -⟩ := HR.out.at 0 _ hx
    obtain ⟨n, hn⟩ : ∃ n, n = (X.headD []).length := ⟨_, rfl⟩
    have hn1 : n ≤ 1000 := by rw [hn]; exact hl2 _ (List.mem_of_getElem? hx)
    rw [← hn] at q1 HF
    rw [Nat.add_zero] at q1
    have hal : Below w.heap.size w (w.alloc (.cells #[.int .i64 (n : Int)] 3)) := (Below.refl _ w).alloc (Nat.le_refl _) _
    have C := hid (contains74_any (some ⟨g, o, none⟩) c X n w.heap.size (w.alloc (.cells #[.int .i64 (n : Int)] 3)) hn1 (HR.out.below hal (Nat.le_refl _)) (by omega) (fun r h => by have := hl2 r h; omega) ((Blk.new w _ 3).cell 0))
    have HAL := hid hal
    clear hal hin hx hn hl2
    have W1 := within_any (X.length : Int) 1 4
    rw [hw1] at W1
    have W1 := fun w => hid (W1 w)
    have W2 := fun w => hid (within_any (n : Int) 1 9 w)
    by_cases h2 : 1 ≤ n ∧ n ≤ 9
    · have hw2 : (decide ((1 : Int) ≤ (n : Int)) && decide ((n : Int) ≤ 9)) = true := by simp; omega
      rw [hw2] at W2
      have hm : machineB X = !X.any (badR n) := by rw [HF.out]; simp; omega
      have HM := hid hm
      clear hm HF hw1 hw2
      go_enter Tryd.func51, Tryd.ntmps51
      go_wp2_with fail
      refine (W1 _).out.mono ?_
      rintro e w1 ⟨rfl, rfl⟩
      go_wp2_with fail
      refine (W2 _).out.mono ?_
      rintro e w1 ⟨rfl, rfl⟩
      go_wp2_with fail
      refine C.out.mono ?_
      rintro e w1 ⟨rfl, rfl⟩
      go_wp2_with fail
      go_ret
      exact ⟨ret_bool HM.out.symm, HAL.out⟩
    · have hw2 : (decide ((1 : Int) ≤ (n : Int)) && decide ((n : Int) ≤ 9)) = false := by simp; omega
      rw [hw2] at W2
      have hm : machineB X = false := by rw [HF.out]; simp; omega
      have HM := hid hm
      clear hm HF hw1 hw2
      go_enter Tryd.func51, Tryd.ntmps51
      go_wp2_with fail
      refine (W1 _).out.mono ?_
      rintro e w1 ⟨rfl, rfl⟩
      go_wp2_with fail
      refine (W2 _).out.mono ?_
      rintro e w1 ⟨rfl, rfl⟩
      go_wp2_with fail
      go_ret
      exact ⟨ret_bool HM.out.symm, HAL.out⟩
  · have hw1 : (decide ((1 : Int) ≤ (X.length : Int)) && decide ((X.length : Int) ≤ 4)) = false := by simp; omega
    have hm : machineB X = false := by rw [HF.out]; simp; omega
    have HM := hid hm
    have W1 := within_any (X.length : Int) 1 4
    rw [hw1] at W1
    have W1 := fun w => hid (W1 w)
    clear hm HF hw1
    go_enter Tryd.func51, Tryd.ntmps51
    go_wp2_with fail
    refine (W1 _).out.mono ?_
    rintro e w1 ⟨rfl, rfl⟩
    go_wp2_with fail
    go_ret
    exact ⟨ret_bool HM.out.symm, Below.refl _ _⟩
end Go.Proofs.YthlgdakdjikjhaaDoor
