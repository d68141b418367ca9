/-
  Texts merged: Bits, A, Mod, Args, B, C, D, Rev, E.
-/
import Derived.Test.YthlgdakdjikjhaaDoorUB
import Derived.Laws.BitsLemmas
import Derived.Laws.Bits64b
import Derived.WalkKit
import Derived.Test.YthlgdakdjikjhaaDoorUA
import Derived.Test.YthlgdakdjikjhaaDoorChecked
import Derived.Deep.Matrix
import Derived.ProofKit
import Derived.OpenShut
/-
  Bits of small numbers. No program.
-/
namespace Go.Proofs.YthlgdakdjikjhaaDoor
open Go.RowKit

theorem wraps_i64 (n : Int) (h0 : 0 ≤ n) (h1 : n < 2 ^ 63) : IntKind.i64.wrap n = n := by
  rw [IntKind.wrap_i64]; omega
theorem and_i64 (a b : Nat) (ha : a < 2 ^ 62) (hb : b < 2 ^ 62) : bits .and .i64 (a : Int) (b : Int) = ((a &&& b : Nat) : Int) :=
  (bits_nat .i64 63 (by decide) wraps_i64 a b (by omega) (by omega)).1
theorem or_i64 (a b : Nat) (ha : a < 2 ^ 62) (hb : b < 2 ^ 62) : bits .or .i64 (a : Int) (b : Int) = ((a ||| b : Nat) : Int) :=
  (bits_nat .i64 63 (by decide) wraps_i64 a b (by omega) (by omega)).2
theorem pow_cast (k : Nat) : ((2 ^ k : Nat) : Int) = (2 : Int) ^ k := by simp
theorem shr_cast (s k : Nat) : (s : Int) / 2 ^ k = ((s / 2 ^ k : Nat) : Int) := by rw [← pow_cast]; simp
theorem pow_small (x : Nat) (h : x < 9) : 2 ^ x < 512 := by
  have : (2 : Nat) ^ x < 2 ^ 9 := Nat.pow_lt_pow_right (by omega) h
  exact this
theorem pow_wrap (x : Nat) (h : x < 9) : wrap64 ((2 : Int) ^ x) = ((2 ^ x : Nat) : Int) := by
  have h1 := pow_small x h
  rw [← pow_cast]
  generalize 2 ^ x = y at h1
  exact IntWalk.wrap64_in _ (by omega)
/-- Is a state in a set? As the walk asks. -/
theorem bit_yes (s k : Nat) (hs : s < 512) (h : s.testBit k = true) : (bits .and .i64 ((s : Int) / 2 ^ k) 1 == 1) = true := by
  have h1 : s / 2 ^ k ≤ s := Nat.div_le_self _ _
  have := and_i64 (s / 2 ^ k) 1 (by omega) (by omega)
  rw [shr_cast]
  rw [Nat.testBit_eq_decide_div_mod_eq] at h
  rw [show ((1 : Int)) = ((1 : Nat) : Int) from rfl, this, Nat.and_one_is_mod, of_decide_eq_true h]; rfl
theorem bit_no (s k : Nat) (hs : s < 512) (h : s.testBit k = false) : (bits .and .i64 ((s : Int) / 2 ^ k) 1 == 1) = false := by
  have h1 : s / 2 ^ k ≤ s := Nat.div_le_self _ _
  have := and_i64 (s / 2 ^ k) 1 (by omega) (by omega)
  rw [shr_cast]
  rw [Nat.testBit_eq_decide_div_mod_eq] at h
  have h3 : s / 2 ^ k % 2 = 0 := by have := of_decide_eq_false h; omega
  rw [show ((1 : Int)) = ((1 : Nat) : Int) from rfl, this, Nat.and_one_is_mod, h3]; rfl
theorem or_pow (out x : Nat) (ho : out < 512) (hx : x < 9) : bits .or .i64 (out : Int) (wrap64 ((2 : Int) ^ x)) = ((out ||| 2 ^ x : Nat) : Int) := by
  have := pow_small x hx
  rw [pow_wrap x hx, or_i64 _ _ (by omega) (by omega)]
theorem or_small (a b : Nat) (ha : a < 512) (hb : b < 512) : a ||| b < 512 := Nat.or_lt_two_pow (n := 9) ha hb
/-- The lowest state of a set. -/
def lowN (x : Nat) : Nat := ((List.range 9).find? x.testBit).getD 0
def dbI (k : Nat) : Nat := 2 ^ k * 285870213051353865 % 2 ^ 64 / 2 ^ 58
def tzK (x : Int) : Int := IntKind.u64.wrap (bits .and .u64 x (IntKind.u64.wrap (-x)) * 285870213051353865) / 288230376151711744
theorem tz_key : ∀ x : Nat, x < 512 → x ≠ 0 → tzK (x : Int) = (dbI (lowN x) : Int) ∧ lowN x < 9 ∧ dbI (lowN x) < 64 := by decide +kernel
def o1 (x : Int) : Int := IntKind.u64.wrap (bits .and .u64 (x / 2) 6148914691236517205 + bits .and .u64 x 6148914691236517205)
def o2 (x : Int) : Int := IntKind.u64.wrap (bits .and .u64 (x / 4) 3689348814741910323 + bits .and .u64 x 3689348814741910323)
def o3 (x : Int) : Int := bits .and .u64 (IntKind.u64.wrap (x / 16 + x)) 1085102592571150095
def o4 (x : Int) : Int := IntKind.u64.wrap (x + x / 256)
def o5 (x : Int) : Int := IntKind.u64.wrap (x + x / 65536)
def o6 (x : Int) : Int := IntKind.u64.wrap (x + x / 4294967296)
def o7 (x : Int) : Int := bits .and .i64 (wrap64 x) 127
theorem oc_key : ∀ x : Nat, x < 512 → 0 ≤ o1 (x : Int) ∧ 0 ≤ o2 (o1 (x : Int)) ∧ 0 ≤ o3 (o2 (o1 (x : Int))) ∧ 0 ≤ o4 (o3 (o2 (o1 (x : Int)))) ∧ 0 ≤ o5 (o4 (o3 (o2 (o1 (x : Int))))) ∧ 0 ≤ o6 (o5 (o4 (o3 (o2 (o1 (x : Int)))))) ∧ o7 (o6 (o5 (o4 (o3 (o2 (o1 (x : Int))))))) = (sizeN x : Int) := by decide +kernel
theorem oc_steps (x : Nat) (hx : x < 512) : ∃ a1 a2 a3 a4 a5 a6 : Nat, o1 x = a1 ∧ o2 a1 = a2 ∧ o3 a2 = a3 ∧ o4 a3 = a4 ∧ o5 a4 = a5 ∧ o6 a5 = a6 ∧ o7 a6 = sizeN x := by
  obtain ⟨h1, h2, h3, h4, h5, h6, h7⟩ := oc_key x hx
  obtain ⟨a1, e1⟩ := Int.eq_ofNat_of_zero_le h1
  rw [e1] at h2 h3 h4 h5 h6 h7
  obtain ⟨a2, e2⟩ := Int.eq_ofNat_of_zero_le h2
  rw [e2] at h3 h4 h5 h6 h7
  obtain ⟨a3, e3⟩ := Int.eq_ofNat_of_zero_le h3
  rw [e3] at h4 h5 h6 h7
  obtain ⟨a4, e4⟩ := Int.eq_ofNat_of_zero_le h4
  rw [e4] at h5 h6 h7
  obtain ⟨a5, e5⟩ := Int.eq_ofNat_of_zero_le h5
  rw [e5] at h6 h7
  obtain ⟨a6, e6⟩ := Int.eq_ofNat_of_zero_le h6
  rw [e6] at h7
  exact ⟨a1, a2, a3, a4, a5, a6, e1, e2, e3, e4, e5, e6, h7⟩
/-- A set without its lowest state. -/
theorem list_step : ∀ x : Nat, x < 512 → x ≠ 0 → listN x = lowN x :: listN (x &&& (x - 1)) ∧ x &&& (x - 1) < x := by decide +kernel
theorem list_zero : listN 0 = [] := by decide
theorem clear_low (x : Nat) (hx : x < 512) (h0 : x ≠ 0) : bits .and .i64 (x : Int) ((x : Int) - 1) = ((x &&& (x - 1) : Nat) : Int) := by
  have := and_i64 x (x - 1) (by omega) (by omega)
  rw [← this, show (x : Int) - 1 = ((x - 1 : Nat) : Int) by omega]
/-- The states of a set from state q on. -/
def listF (x q : Nat) : List Nat := (List.range' q (9 - q)).filter x.testBit
theorem listF_zero (x : Nat) : listF x 0 = listN x := by simp [listF, listN, List.range_eq_range']
theorem listF_step (x q : Nat) (h : q < 9) : listF x q = (if x.testBit q then [q] else []) ++ listF x (q + 1) := by
  unfold listF
  rw [show 9 - q = (9 - (q + 1)) + 1 by omega, List.range'_succ, List.filter_cons]
  split <;> simp
theorem listF_end (x q : Nat) (hx : x / 2 ^ q = 0) : listF x q = [] := by
  unfold listF
  rw [List.filter_eq_nil_iff]
  intro a ha
  have h1 := (List.mem_range'_1.1 ha).1
  rw [Nat.testBit_eq_decide_div_mod_eq]
  have h2 : x < 2 ^ q := by
    rcases Nat.lt_or_ge x (2 ^ q) with h | h
    · exact h
    · have := Nat.div_pos h (Nat.two_pow_pos q); omega
  have h3 : x / 2 ^ a = 0 := Nat.div_eq_of_lt (Nat.lt_of_lt_of_le h2 (Nat.pow_le_pow_right (by omega) h1))
  rw [h3]; simp
theorem shr_end (x q : Nat) (hx : x < 512) (hq : 9 ≤ q) : x / 2 ^ q = 0 :=
  Nat.div_eq_of_lt (Nat.lt_of_lt_of_le hx (Nat.pow_le_pow_right (n := 2) (by omega) hq))
theorem listN_len (x : Nat) : (listN x).length ≤ 9 := Nat.le_trans (List.length_filter_le _ _) (by simp)
theorem tmod_yes (s k : Nat) (h : s.testBit k = true) : (Int.tmod ((s : Int) / 2 ^ k) 2 == 1) = true := by
  rw [Nat.testBit_eq_decide_div_mod_eq] at h
  have h3 := of_decide_eq_true h
  rw [shr_cast]
  generalize s / 2 ^ k = y at *
  rw [show Int.tmod (y : Int) 2 = ((y % 2 : Nat) : Int) from rfl, h3]; rfl
theorem tmod_no (s k : Nat) (h : s.testBit k = false) : (Int.tmod ((s : Int) / 2 ^ k) 2 == 1) = false := by
  rw [Nat.testBit_eq_decide_div_mod_eq] at h
  have h3 : s / 2 ^ k % 2 = 0 := by have := of_decide_eq_false h; omega
  rw [shr_cast]
  generalize s / 2 ^ k = y at *
  rw [show Int.tmod (y : Int) 2 = ((y % 2 : Nat) : Int) from rfl, h3]; rfl
end Go.Proofs.YthlgdakdjikjhaaDoor
/-
  Walks: machines are machines.
-/
namespace Go.Proofs.YthlgdakdjikjhaaDoor
open Go.RowKit

/-- A slice that reads as lists of numbers. -/
def RowsAt (w : World) (a : Option Addr) (X : List (List Int)) : Prop :=
  ∃ vs : List Value, Vals w a vs ∧ vs.length = X.length ∧ ∀ (i : Nat) (r : List Int), X[i]? = some r → ∃ (b : Option Addr) (c : Nat), vs[i]? = some (Value.slice b r.length c) ∧ Ints w b r ∧ (b = none → c = 0) ∧ r.length ≤ c
theorem RowsAt.below {w w' : World} {a : Option Addr} {X : List (List Int)} {B : Nat} (h : RowsAt w a X) (hb : Below B w w') (hB : w.heap.size ≤ B) : RowsAt w' a X := by
  obtain ⟨vs, h1, h2, h3⟩ := h
  refine ⟨vs, h1.below hb hB, h2, fun i r hr => ?_⟩
  obtain ⟨b, c, k1, k2, k3⟩ := h3 i r hr
  exact ⟨b, c, k1, k2.below hb hB, k3⟩
theorem RowsAt.at {w : World} {a : Option Addr} {X : List (List Int)} (h : RowsAt w a X) (i : Nat) (r : List Int) (hr : X[i]? = some r) :
    ∃ g o b c, a = some ⟨g, o, none⟩ ∧ g < w.heap.size ∧ w.cell? ⟨g, o + i, none⟩ = some (Value.slice b r.length c) ∧ Ints w b r ∧ (b = none → c = 0) ∧ r.length ≤ c := by
  obtain ⟨vs, h1, h2, h3⟩ := h
  obtain ⟨b, c, k1, k2, k3⟩ := h3 i r hr
  rcases h1 with h | ⟨g, o, ha, hg, hc⟩
  · subst h; simp at k1
  · exact ⟨g, o, b, c, ha, hg, hc i _ k1, k2, k3⟩

theorem within_any (n lo hi : Int) (w : World) : Calls Tryd.prog 50 #[.int .i64 n, .int .i64 lo, .int .i64 hi] w fun e w' => e = .returned (.bool (decide (lo ≤ n) && decide (n ≤ hi))) ∧ w = w' := by
  go_enter Tryd.func50, Tryd.ntmps50
  go_wp2
  all_goals (go_ret; exact ⟨ret_bool (by rw [Bool.eq_iff_iff]; simp; omega), rfl⟩)

/-- Is a number no state? -/
def badQ (n : Nat) (q : Int) : Bool := !(decide (0 ≤ q) && decide (q ≤ (n : Int) - 1))
def RetIdx (b : Bool) (w : World) (e : Ending) (w' : World) : Prop := ∃ r : Int, e = .returned (.int .i64 r) ∧ decide (0 ≤ r) = b ∧ w = w'

set_option maxHeartbeats 400000 in
theorem in77_any (q : Int) (n b : Nat) (w : World) (hn : n ≤ 1000) (hc : w.cell? ⟨b, 0, none⟩ = some (.int .i64 n)) :
    Calls Tryd.prog 77 #[.int .i64 q, .pointer (some ⟨b, 0, none⟩)] w fun e w' => e = .returned (.bool (badQ n q)) ∧ w = w' := by
  go_enter Tryd.func77, Tryd.ntmps77
  go_wp2_with (go_at_call 50; refine (within_any _ _ _ _).mono ?_; rintro e w1 ⟨rfl, rfl⟩)
  go_ret
  refine ⟨ret_bool ?_, rfl⟩
  rw [Bool.eq_iff_iff]; simp [badQ]

set_option maxHeartbeats 400000 in
theorem index86_any (a : Option Addr) (c : Nat) (r : List Int) (n b : Nat) (w : World) (hn : n ≤ 1000) (hr : Ints w a r) (hl : r.length ≤ 1000000) (hc : w.cell? ⟨b, 0, none⟩ = some (.int .i64 n)) :
    Calls Tryd.prog 86 #[.slice a r.length c, .func (.func 77) #[] #[.pointer (some ⟨b, 0, none⟩)]] w (RetIdx (r.any (badQ n)) w) := by
  have HR := hid hr
  have HC := fun q => hid (in77_any q n b w hn hc)
  replace HC := hid HC
  clear hr hc
  go_enter Tryd.func86, Tryd.ntmps86
  go_wp2
  go_loop [8] (fun i => ∃ k : Nat, k ≤ r.length ∧ i = .int .i64 k ∧ Hid (r.any (badQ n) = (r.drop k).any (badQ n))) (fun i => r.length - (intOf i).toNat)
  case atStart => exact ⟨0, by omega, rfl, rfl⟩
  case round =>
    obtain ⟨k, hk, rfl, H⟩ := hrel
    by_cases hlt : k < r.length
    · obtain ⟨x, hx, hd⟩ := list_drop_cons r k hlt
      obtain ⟨g, o, rfl, hg, hcell⟩ := HR.out.at (by omega)
      have q1 := hcell k x hx
      have HX := hid hd
      clear hcell hx hd
      cases hb : badQ n x with
      | true =>
        have C1 := HC.out x
        rw [hb] at C1
        have hfin : r.any (badQ n) = true := by rw [H.out, HX.out]; simp [hb]
        have HF := hid hfin
        clear hfin hb
        go_wp2_with (go_at_call 77; refine C1.out.mono ?_; rintro e w1 ⟨rfl, rfl⟩)
        go_ret
        exact ⟨k, rfl, by rw [HF.out]; simp, rfl⟩
      | false =>
        have C1 := HC.out x
        rw [hb] at C1
        have hfin : r.any (badQ n) = (r.drop (k + 1)).any (badQ n) := by rw [H.out, HX.out]; simp [hb]
        have HF := hid hfin
        clear hfin hb
        go_wp2_with (go_at_call 77; refine C1.out.mono ?_; rintro e w1 ⟨rfl, rfl⟩)
        go_round
        case rel => exact ⟨k + 1, by omega, by go_num, HF⟩
        case measure => simp [intOf]; omega
    · have hfin : r.any (badQ n) = false := by rw [H.out, List.drop_eq_nil_of_le (by omega)]; rfl
      have HF := hid hfin
      clear hfin
      go_wp2
      go_ret
      exact ⟨-1, rfl, by rw [HF.out]; rfl, rfl⟩

set_option maxHeartbeats 400000 in
theorem contains76_any (a : Option Addr) (c : Nat) (r : List Int) (n b : Nat) (w : World) (hn : n ≤ 1000) (hr : Ints w a r) (hl : r.length ≤ 1000000) (hc : w.cell? ⟨b, 0, none⟩ = some (.int .i64 n)) :
    Calls Tryd.prog 76 #[.slice a r.length c, .func (.func 77) #[] #[.pointer (some ⟨b, 0, none⟩)]] w fun e w' => e = .returned (.bool (r.any (badQ n))) ∧ w = w' := by
  have HI := hid (index86_any a c r n b w hn hr hl hc)
  clear hr hc
  go_enter Tryd.func76, Tryd.ntmps76
  go_wp2_with (go_at_call 86; refine HI.out.mono ?_; rintro e w1 ⟨r, rfl, hr, rfl⟩; have HR := hid hr; clear hr)
  go_ret
  exact ⟨ret_bool HR.out, rfl⟩

/-- Is a list no row of a machine? -/
def badR (n : Nat) (r : List Int) : Bool := (r.length != n) || r.any (badQ n)

set_option maxRecDepth 20000 in
set_option maxHeartbeats 400000 in
theorem in75_any (a : Option Addr) (c : Nat) (r : List Int) (n b : Nat) (w : World) (hn : n ≤ 1000) (hr : Ints w a r) (hl : r.length ≤ 1000000) (hc : w.cell? ⟨b, 0, none⟩ = some (.int .i64 n)) :
    Calls Tryd.prog 75 #[.slice a r.length c, .pointer (some ⟨b, 0, none⟩)] w fun e w' => e = .returned (.bool (badR n r)) ∧ w = w' := by
  have HI := hid (contains76_any a c r n b w hn hr hl hc)
  clear hr
  by_cases h : n = r.length
  · subst h
    have d1 : ((r.length : Int) != (r.length : Int)) = false := by simp
    have hfin : badR r.length r = r.any (badQ r.length) := by unfold badR; simp
    have HF := hid hfin
    clear hfin
    go_enter Tryd.func75, Tryd.ntmps75
    go_wp2_with (go_at_call 76; refine HI.out.mono ?_; rintro e w1 ⟨rfl, rfl⟩)
    go_ret
    exact ⟨ret_bool HF.out.symm, rfl⟩
  · have d1 : ((r.length : Int) != (n : Int)) = true := by simp; omega
    have hfin : badR n r = true := by unfold badR; simp; exact .inl fun e => h e.symm
    have HF := hid hfin
    clear hfin
    go_enter Tryd.func75, Tryd.ntmps75
    go_wp2_with fail
    go_ret
    exact ⟨ret_bool HF.out.symm, rfl⟩

set_option maxHeartbeats 400000 in
theorem index85_any (a : Option Addr) (c : Nat) (X : List (List Int)) (n b : Nat) (w : World) (hn : n ≤ 1000) (hr : RowsAt w a X) (hl : X.length ≤ 1000000) (hl2 : ∀ r ∈ X, r.length ≤ 1000000) (hc : w.cell? ⟨b, 0, none⟩ = some (.int .i64 n)) :
    Calls Tryd.prog 85 #[.slice a X.length c, .func (.func 75) #[] #[.pointer (some ⟨b, 0, none⟩)]] w (RetIdx (X.any (badR n)) w) := by
  have HR := hid hr
  have HC := hid hc
  have HL2 := hid hl2
  clear hr hc hl2
  go_enter Tryd.func85, Tryd.ntmps85
  go_wp2
  go_loop [8] (fun i => ∃ k : Nat, k ≤ X.length ∧ i = .int .i64 k ∧ Hid (X.any (badR n) = (X.drop k).any (badR n))) (fun i => X.length - (intOf i).toNat)
  case atStart => exact ⟨0, by omega, rfl, rfl⟩
  case round =>
    obtain ⟨k, hk, rfl, H⟩ := hrel
    by_cases hlt : k < X.length
    · obtain ⟨x, hx, hd⟩ := list_drop_cons X k hlt
      obtain ⟨g, o, b1, c1, rfl, hg, q1, hin, -, -⟩ := HR.out.at k x hx
      have C1 := hid (in75_any b1 c1 x n b w hn hin (HL2.out x (List.mem_of_getElem? hx)) HC.out)
      have HX := hid hd
      clear hin hx hd
      cases hb : badR n x with
      | true =>
        rw [hb] at C1
        have hfin : X.any (badR n) = true := by rw [H.out, HX.out]; simp [hb]
        have HF := hid hfin
        clear hfin hb
        go_wp2_with (go_at_call 75; refine C1.out.mono ?_; rintro e w1 ⟨rfl, rfl⟩)
        go_ret
        exact ⟨k, rfl, by rw [HF.out]; simp, rfl⟩
      | false =>
        rw [hb] at C1
        have hfin : X.any (badR n) = (X.drop (k + 1)).any (badR n) := by rw [H.out, HX.out]; simp [hb]
        have HF := hid hfin
        clear hfin hb
        go_wp2_with (go_at_call 75; refine C1.out.mono ?_; rintro e w1 ⟨rfl, rfl⟩)
        go_round
        case rel => exact ⟨k + 1, by omega, by go_num, HF⟩
        case measure => simp [intOf]; omega
    · have hfin : X.any (badR n) = false := by rw [H.out, List.drop_eq_nil_of_le (by omega)]; rfl
      have HF := hid hfin
      clear hfin
      go_wp2
      go_ret
      exact ⟨-1, rfl, by rw [HF.out]; rfl, rfl⟩

set_option maxHeartbeats 400000 in
theorem contains74_any (a : Option Addr) (c : Nat) (X : List (List Int)) (n b : Nat) (w : World) (hn : n ≤ 1000) (hr : RowsAt w a X) (hl : X.length ≤ 1000000) (hl2 : ∀ r ∈ X, r.length ≤ 1000000) (hc : w.cell? ⟨b, 0, none⟩ = some (.int .i64 n)) :
    Calls Tryd.prog 74 #[.slice a X.length c, .func (.func 75) #[] #[.pointer (some ⟨b, 0, none⟩)]] w fun e w' => e = .returned (.bool (X.any (badR n))) ∧ w = w' := by
  have HI := hid (index85_any a c X n b w hn hr hl hl2 hc)
  clear hr hc
  go_enter Tryd.func74, Tryd.ntmps74
  go_wp2_with (go_at_call 85; refine HI.out.mono ?_; rintro e w1 ⟨r, rfl, hr, rfl⟩; have HR := hid hr; clear hr)
  go_ret
  exact ⟨ret_bool HR.out, rfl⟩

theorem machineB_eq (X : List (List Int)) : machineB X = (decide (1 ≤ X.length) && decide (X.length ≤ 4) && (decide (1 ≤ (X.headD []).length) && decide ((X.headD []).length ≤ 9)) && !X.any (badR (X.headD []).length)) := by
  rw [Bool.eq_iff_iff]
  unfold machineB badR badQ
  generalize (X.headD []).length = n
  simp only [Bool.and_eq_true, decide_eq_true_eq, List.all_eq_true, beq_iff_eq, Bool.not_eq_true', List.any_eq_false, Bool.or_eq_true, bne_iff_ne, List.any_eq_true, not_or, Classical.not_not, not_exists, not_and]
  constructor
  · rintro ⟨⟨⟨⟨h1, h2⟩, h3⟩, h4⟩, h5⟩
    refine ⟨⟨⟨h1, h2⟩, h3, h4⟩, fun r hr => ⟨(h5 r hr).1, fun q hq => ?_⟩⟩
    have := (h5 r hr).2 q hq
    simp; omega
  · rintro ⟨⟨⟨h1, h2⟩, h3, h4⟩, h5⟩
    refine ⟨⟨⟨⟨h1, h2⟩, h3⟩, h4⟩, fun r hr => ⟨(h5 r hr).1, fun q hq => ?_⟩⟩
    have := (h5 r hr).2 q hq
    simp at this; omega

set_option maxRecDepth 20000 in
set_option maxHeartbeats 400000 in
theorem isMachine_any (a : Option Addr) (c : Nat) (X : List (List Int)) (w : World) (hr : RowsAt w a X) (hl : X.length ≤ 1000) (hl2 : ∀ r ∈ X, r.length ≤ 1000) :
    Calls Tryd.prog 51 #[.slice a X.length c] w fun e w' => e = .returned (.bool (machineB X)) ∧ Below w.heap.size w w' := by
  have hfin := machineB_eq X
  have HF := hid hfin
  clear hfin
  have HR := hid hr
  clear hr
  by_cases h1 : 1 ≤ X.length ∧ X.length ≤ 4
  · have hw1 : (decide ((1 : Int) ≤ (X.length : Int)) && decide ((X.length : Int) ≤ 4)) = true := by simp; omega
    have hx : X[0]? = some (X.headD []) := by
      cases X with
      | nil => simp at h1
      | cons r X => rfl
    obtain ⟨g, o, b1, c1, rfl, hg, q1, hin, -, -⟩ := HR.out.at 0 _ hx
    obtain ⟨n, hn⟩ : ∃ n, n = (X.headD []).length := ⟨_, rfl⟩
    have hn1 : n ≤ 1000 := by rw [hn]; exact hl2 _ (List.mem_of_getElem? hx)
    rw [← hn] at q1 HF
    rw [Nat.add_zero] at q1
    have hal : Below w.heap.size w (w.alloc (.cells #[.int .i64 (n : Int)] 3)) := (Below.refl _ w).alloc (Nat.le_refl _) _
    have C := hid (contains74_any (some ⟨g, o, none⟩) c X n w.heap.size (w.alloc (.cells #[.int .i64 (n : Int)] 3)) hn1 (HR.out.below hal (Nat.le_refl _)) (by omega) (fun r h => by have := hl2 r h; omega) ((Blk.new w _ 3).cell 0))
    have HAL := hid hal
    clear hal hin hx hn hl2
    have W1 := within_any (X.length : Int) 1 4
    rw [hw1] at W1
    have W1 := fun w => hid (W1 w)
    have W2 := fun w => hid (within_any (n : Int) 1 9 w)
    by_cases h2 : 1 ≤ n ∧ n ≤ 9
    · have hw2 : (decide ((1 : Int) ≤ (n : Int)) && decide ((n : Int) ≤ 9)) = true := by simp; omega
      rw [hw2] at W2
      have hm : machineB X = !X.any (badR n) := by rw [HF.out]; simp; omega
      have HM := hid hm
      clear hm HF hw1 hw2
      go_enter Tryd.func51, Tryd.ntmps51
      go_wp2_with fail
      refine (W1 _).out.mono ?_
      rintro e w1 ⟨rfl, rfl⟩
      go_wp2_with fail
      refine (W2 _).out.mono ?_
      rintro e w1 ⟨rfl, rfl⟩
      go_wp2_with fail
      refine C.out.mono ?_
      rintro e w1 ⟨rfl, rfl⟩
      go_wp2_with fail
      go_ret
      exact ⟨ret_bool HM.out.symm, HAL.out⟩
    · have hw2 : (decide ((1 : Int) ≤ (n : Int)) && decide ((n : Int) ≤ 9)) = false := by simp; omega
      rw [hw2] at W2
      have hm : machineB X = false := by rw [HF.out]; simp; omega
      have HM := hid hm
      clear hm HF hw1 hw2
      go_enter Tryd.func51, Tryd.ntmps51
      go_wp2_with fail
      refine (W1 _).out.mono ?_
      rintro e w1 ⟨rfl, rfl⟩
      go_wp2_with fail
      refine (W2 _).out.mono ?_
      rintro e w1 ⟨rfl, rfl⟩
      go_wp2_with fail
      go_ret
      exact ⟨ret_bool HM.out.symm, HAL.out⟩
  · have hw1 : (decide ((1 : Int) ≤ (X.length : Int)) && decide ((X.length : Int) ≤ 4)) = false := by simp; omega
    have hm : machineB X = false := by rw [HF.out]; simp; omega
    have HM := hid hm
    have W1 := within_any (X.length : Int) 1 4
    rw [hw1] at W1
    have W1 := fun w => hid (W1 w)
    clear hm HF hw1
    go_enter Tryd.func51, Tryd.ntmps51
    go_wp2_with fail
    refine (W1 _).out.mono ?_
    rintro e w1 ⟨rfl, rfl⟩
    go_wp2_with fail
    go_ret
    exact ⟨ret_bool HM.out.symm, Below.refl _ _⟩
end Go.Proofs.YthlgdakdjikjhaaDoor
/-
  Walks: a number brought below another one.
-/
namespace Go.Proofs.YthlgdakdjikjhaaDoor
open Go.RowKit

theorem mod_eq (a b : Int) (h : 0 < b) (hb : b ≤ 1000) (_ha : -9223372036854775808 ≤ a ∧ a ≤ 9223372036854775807) : wrap64 ((IntKind.u64.wrap a).tmod (IntKind.u64.wrap b)) = (a % 18446744073709551616) % b := by
  have h1 : IntKind.u64.wrap b = b := IntWalk.u64_in _ (by omega)
  have h2 : IntKind.u64.wrap a = a % 18446744073709551616 := by simp [IntKind.wrap, IntKind.bits, IntKind.signed]
  rw [h1, h2, IntWalk.rem_in _ _ (by omega)]
  exact IntWalk.wrap64_in _ (by have := Int.emod_nonneg (a % 18446744073709551616) (show b ≠ 0 by omega); have := Int.emod_lt_of_pos (a % 18446744073709551616) h; omega)
set_option maxHeartbeats 400000 in
theorem mod_any' (a b : Int) (w : World) (h : 0 < b) (hb : b ≤ 1000) (ha : -9223372036854775808 ≤ a ∧ a ≤ 9223372036854775807) :
    Calls Tryd.prog 20 #[.int .i64 a, .int .i64 b] w fun e w' => e = .returned (.int .i64 ((a % 18446744073709551616) % b)) ∧ w = w' := by
  have H := hid (mod_eq a b h hb ha)
  have hz : ¬ IntKind.u64.wrap b = 0 := by rw [IntWalk.u64_in _ (by omega)]; omega
  go_enter Tryd.func20, Tryd.ntmps20
  go_wp2
  go_ret
  exact ⟨ret_int (by have := H.out; rw [show IntKind.u64.wrap b = b from IntWalk.u64_in _ (by omega)] at this; exact this), rfl⟩
/-- A number below n. -/
def modN (a : Int) (n : Nat) : Nat := ((a % 18446744073709551616) % (n : Int)).toNat
theorem modN_lt (a : Int) (n : Nat) (h : 0 < n) : modN a n < n := by
  unfold modN
  have := Int.emod_nonneg (a % 18446744073709551616) (show (n : Int) ≠ 0 by omega)
  have := Int.emod_lt_of_pos (a % 18446744073709551616) (show 0 < (n : Int) by omega)
  omega
theorem mod_any (a : Int) (n : Nat) (w : World) (h : 0 < n) (hb : n ≤ 1000) (ha : -9223372036854775808 ≤ a ∧ a ≤ 9223372036854775807) :
    Calls Tryd.prog 20 #[.int .i64 a, .int .i64 n] w fun e w' => e = .returned (.int .i64 (modN a n)) ∧ w = w' := by
  refine (mod_any' a n w (by omega) (by omega) ha).mono ?_
  rintro e w' ⟨rfl, hw⟩
  refine ⟨ret_int ?_, hw⟩
  unfold modN
  have := Int.emod_nonneg (a % 18446744073709551616) (show (n : Int) ≠ 0 by omega)
  omega

end Go.Proofs.YthlgdakdjikjhaaDoor
/-
  Arguments that are lists, and lists of lists, as they come in.
-/
namespace Go.Proofs.YthlgdakdjikjhaaDoor
open Go.RowKit Go.WideShapes Go.ChangeAt

theorem vals_addr {w : World} {x : Addr} {l : List Value} (h : ∀ i u, l[i]? = some u → w.cell? (x.add i) = some u) : Vals w (some x) l := by
  cases hl : l with
  | nil => exact Vals.nil _ _
  | cons v r =>
    have hc0 := h 0 v (by rw [hl]; rfl)
    rw [← hl]
    obtain ⟨b, o, sp⟩ := x
    have hadd0 : (⟨b, o, sp⟩ : Addr).add 0 = ⟨b, o, sp⟩ := rfl
    rw [hadd0] at hc0
    have hsp : sp = none := by
      cases sp with
      | none => rfl
      | some k => simp only [World.cell?, Option.isSome_some, if_true] at hc0; split at hc0 <;> cases hc0
    subst hsp
    have hlt : b < w.heap.size := by
      rcases Nat.lt_or_ge b w.heap.size with h | h
      · exact h
      · simp [World.cell?, Array.getElem?_eq_none h] at hc0
    refine .inr ⟨b, o, rfl, hlt, fun i u hu => ?_⟩
    have := h i u hu
    rw [show (⟨b, o, none⟩ : Addr).add i = ⟨b, o + i, none⟩ by unfold Addr.add; split <;> simp_all] at this
    exact this

/-- A slice of integers that came in: nil, or a row of cells. -/
def IsRow (k : IntKind) (w : World) (a : Option Addr) (len cap : Nat) (zs : List Int) : Prop :=
  (a = none ∧ len = 0 ∧ cap = 0 ∧ zs = []) ∨
  ∃ x, a = some x ∧ len ≤ cap ∧ cap ≤ maxLen ∧ zs.length = cap ∧ (∀ i, i < zs.length → w.cell? (x.add i) = some (.int k (zs.getD i 0))) ∧ ∀ n ∈ zs, (Lit.int k n).wf = true

theorem IsRow.ints {w : World} {a : Option Addr} {len cap : Nat} {zs : List Int} (h : IsRow .i64 w a len cap zs) :
    Ints w a (zs.take len) ∧ (zs.take len).length = len ∧ (a = none → cap = 0) ∧ len ≤ cap ∧ cap ≤ maxLen := by
  rcases h with ⟨rfl, rfl, rfl, rfl⟩ | ⟨x, rfl, h1, h2, h3, h4, h5⟩
  · exact ⟨Ints.nil _ _, rfl, fun _ => rfl, Nat.le_refl _, by decide⟩
  · refine ⟨vals_addr fun i u hu => ?_, by rw [List.length_take]; omega, (fun h => by cases h), h1, h2⟩
    rw [List.getElem?_map, List.getElem?_take] at hu
    split at hu
    · rename_i hi
      have hiz : i < zs.length := by omega
      rw [List.getElem?_eq_getElem hiz] at hu
      cases hu
      rw [h4 i hiz]; simp [List.getD, List.getElem?_eq_getElem hiz]
    · cases hu

theorem IsRow.bounds {w : World} {a : Option Addr} {len cap : Nat} {zs : List Int} (h : IsRow .i64 w a len cap zs) : ∀ n ∈ zs, -9223372036854775808 ≤ n ∧ n ≤ 9223372036854775807 := by
  rcases h with ⟨rfl, rfl, rfl, rfl⟩ | ⟨x, rfl, h1, h2, h3, h4, h5⟩
  · intro n hn; cases hn
  · intro n hn; exact bounds_i64 (h5 n hn)

/-- A slice of slices of integers that came in. -/
def IsRows (w : World) (a : Option Addr) (len cap : Nat) (X : List (List Int)) : Prop :=
  X.length = len ∧ len ≤ maxLen ∧ len ≤ cap ∧ RowsAt w a X ∧ ∀ r ∈ X, r.length ≤ maxLen ∧ ∀ n ∈ r, -9223372036854775808 ≤ n ∧ n ≤ 9223372036854775807

theorem isRows_of {H : Type} {enc : TypeId × Value → H} {P : Program} {w : World} {base : Nat} {held : Bool} {t e q : TypeId} {fuel : Nat} {a : Option Addr} {len cap : Nat} {x : DataW H × List MemPlace}
    (ht : P.underlying t = some (.slice e)) (he : P.underlying e = some (.slice q)) (hq : P.underlying q = some (.int .i64)) (ce : P.cellsOf e = 1) (cq : P.cellsOf q = 1)
    (h : DataW.trod enc P w base (fun _ => true) held fuel t [.slice a len cap] = some x) : ∃ X, IsRows w a len cap X := by
  rcases Go.Deep.open_int_rows ht he hq ce cq h with ⟨hcs, -⟩ | ⟨a1, len1, cap1, A, L, C, Z, hcs, -, hl, hm, -, hr⟩
  · simp at hcs
    obtain ⟨rfl, rfl, rfl⟩ := hcs
    exact ⟨[], rfl, by decide, Nat.le_refl _, ⟨[], Vals.nil _ _, rfl, fun i r h => by simp at h⟩, by simp⟩
  · simp at hcs
    obtain ⟨rfl, rfl, rfl⟩ := hcs
    refine ⟨(List.range len).map fun r => (Z r).take (L r), by simp, by omega, hl, ⟨(List.range len).map fun r => Value.slice (A r) (L r) (C r), vals_addr fun i u hu => ?_, by simp, fun i r hi => ?_⟩, ?_⟩
    · rw [List.getElem?_map] at hu
      rcases Nat.lt_or_ge i len with h1 | h1
      · rw [List.getElem?_range h1] at hu
        cases hu
        exact (hr i (by omega)).1
      · rw [List.getElem?_eq_none (by simp; omega)] at hu; cases hu
    · rw [List.getElem?_map] at hi
      rcases Nat.lt_or_ge i len with h1 | h1
      · rw [List.getElem?_range h1] at hi
        cases hi
        obtain ⟨k1, k2, k3, k4, k5, k6, k7⟩ := hr i (by omega)
        have hlen : ((Z i).take (L i)).length = L i := by rw [List.length_take]; omega
        refine ⟨A i, C i, ?_, ?_, k6, by rw [hlen]; exact k2⟩
        · rw [List.getElem?_map, List.getElem?_range h1, hlen]; rfl
        · cases hA : A i with
          | none =>
            have := k6 hA
            have h0 : (Z i).take (L i) = [] := List.eq_nil_of_length_eq_zero (by omega)
            show Ints w none ((Z i).take (L i))
            rw [h0]
            exact Ints.nil _ _
          | some y =>
            refine vals_addr fun j u hu => ?_
            rw [List.getElem?_map, List.getElem?_take] at hu
            split at hu
            · rename_i hj
              have hjz : j < (Z i).length := by omega
              rw [List.getElem?_eq_getElem hjz] at hu
              cases hu
              rw [(k7 y hA).2 j (by omega)]; simp [List.getD, List.getElem?_eq_getElem hjz]
            · cases hu
      · rw [List.getElem?_eq_none (by simp; omega)] at hi; cases hi
    · intro r hr'
      obtain ⟨i, hi, rfl⟩ := List.mem_map.1 hr'
      have hi := List.mem_range.1 hi
      obtain ⟨k1, k2, k3, k4, k5, k6, k7⟩ := hr i (by omega)
      exact ⟨by rw [List.length_take]; omega, fun n hn => bounds_i64 (k5 n (List.mem_of_mem_take hn))⟩
end Go.Proofs.YthlgdakdjikjhaaDoor
/-
  Walks: sets of states as bits.
-/
namespace Go.Proofs.YthlgdakdjikjhaaDoor
open Go.RowKit

set_option maxHeartbeats 400000 in
theorem press_any (a : Option Addr) (c : Nat) (M : List (List Nat)) (s b : Nat) (w : World) (hM : OkM M) (hr : RowsAt w a (intM M)) (hs : s < 512) (hb : b < M.length) :
    Calls Tryd.prog 60 #[.slice a M.length c, .int .i64 s, .int .i64 b] w fun e w' => e = .returned (.int .i64 (press M s b : Nat)) ∧ w = w' := by
  have hx : (intM M)[b]? = some ((M.getD b []).map fun (x : Nat) => (x : Int)) := by
    simp [intM, List.getD, List.getElem?_eq_getElem hb]
  obtain ⟨g, o, b1, c1, rfl, hg, q1, hin, -, -⟩ := hr.at b _ hx
  have hlt := hM.lt _ (getD_mem hb)
  have hrl := hM.row _ (getD_mem hb)
  have hn9 := hM.n9
  have hfin : press M s b = prF s (M.getD b []) 0 0 := rfl
  have HF := hid hfin
  generalize M.getD b [] = row at *
  rw [List.length_map] at q1
  have HIN := hid hin
  have HLT := hid hlt
  clear hfin hin hlt hx hr hM
  go_enter Tryd.func60, Tryd.ntmps60
  go_wp2_with fail
  go_loop [7, 15] (fun v i => ∃ (k out : Nat), k ≤ row.length ∧ i = .int .i64 k ∧ v = .int .i64 out ∧ out < 512 ∧ Hid (press M s b = prF s (row.drop k) k out)) (fun _ i => row.length - (intOf i).toNat)
  case atStart => exact ⟨0, 0, by omega, rfl, rfl, by omega, HF.out⟩
  case round =>
    obtain ⟨k, out, hk, rfl, rfl, ho, H⟩ := hrel
    by_cases hlt : k < row.length
    · obtain ⟨x, hx, hd⟩ := list_drop_cons row k hlt
      have hxl := HLT.out x (List.mem_of_getElem? hx)
      obtain ⟨g2, o2, rfl, hg2, hcell⟩ := HIN.out.at (by rw [List.length_map]; omega)
      have q2 := hcell k (x : Int) (by rw [List.getElem?_map, hx]; rfl)
      have HX := hid hd
      clear hcell hx hd
      cases ht : s.testBit k with
      | true =>
        have d1 := bit_yes s k hs ht
        have d2 := or_pow out x ho (by omega)
        have ho2 := or_small out (2 ^ x) ho (pow_small x (by omega))
        have hfin : press M s b = prF s (row.drop (k + 1)) (k + 1) (out ||| 2 ^ x) := by rw [H.out, HX.out, prF, if_pos ht]
        have HF2 := hid hfin
        clear hfin ht
        go_wp2_with fail
        exact ⟨⟨k + 1, out ||| 2 ^ x, by omega, by go_num, rfl, ho2, HF2⟩, by simp [intOf]; omega⟩
      | false =>
        have d1 := bit_no s k hs ht
        have hfin : press M s b = prF s (row.drop (k + 1)) (k + 1) out := by rw [H.out, HX.out, prF, if_neg (by rw [ht]; simp)]
        have HF2 := hid hfin
        clear hfin ht
        go_wp2_with fail
        exact ⟨⟨k + 1, out, by omega, by go_num, rfl, ho, HF2⟩, by simp [intOf]; omega⟩
    · have hfin : press M s b = out := by rw [H.out, List.drop_eq_nil_of_le (by omega)]; rfl
      have HF2 := hid hfin
      clear hfin
      go_wp2_with fail
      go_ret
      exact ⟨ret_int (by rw [HF2.out]), rfl⟩

set_option maxHeartbeats 400000 in
theorem all_any (a : Option Addr) (c : Nat) (M : List (List Nat)) (w : World) (hM : OkM M) (hr : RowsAt w a (intM M)) :
    Calls Tryd.prog 53 #[.slice a M.length c] w fun e w' => e = .returned (.int .i64 (2 ^ nst M - 1 : Nat)) ∧ w = w' := by
  have h1 := hM.b1
  have hx : (intM M)[0]? = some ((M.getD 0 []).map fun (x : Nat) => (x : Int)) := by
    simp [intM, List.getD, List.getElem?_eq_getElem (show 0 < M.length by omega)]
  obtain ⟨g, o, b1, c1, rfl, hg, q1, hin, -, -⟩ := hr.at 0 _ hx
  have hrl := hM.row _ (getD_mem (M := M) (b := 0) (by omega))
  have hn9 := hM.n9
  rw [List.length_map, hrl, Nat.add_zero] at q1
  generalize nst M = n at *
  have d1 := pow_wrap n
  have e1 : IntKind.i64.wrap ((2 : Int) ^ n) = ((2 ^ n : Nat) : Int) := by
    have h1 : (2 : Nat) ^ n ≤ 2 ^ 9 := Nat.pow_le_pow_right (by omega) hn9
    rw [← pow_cast]
    generalize 2 ^ n = y at h1
    exact IntWalk.i64_in _ (by have : (2 : Nat) ^ 9 = 512 := rfl; omega)
  have h512 : (2 : Nat) ^ n ≤ 512 := Nat.pow_le_pow_right (by omega) hn9
  have hpos : 0 < (2 : Nat) ^ n := Nat.two_pow_pos n
  have e2 : wrap64 ((2 : Int) ^ n - 1) = ((2 ^ n - 1 : Nat) : Int) := by
    rw [← pow_cast]
    generalize 2 ^ n = y at h512 hpos
    rw [IntWalk.wrap64_in _ (by omega)]; omega
  clear hr hx hrl d1 hin
  go_enter Tryd.func53, Tryd.ntmps53
  go_wp2_with fail
  go_ret
  exact ⟨ret_int e2, rfl⟩

/-- The table of the library, as far as it is read. -/
def Glob (w : World) : Prop := ∀ k, k < 9 → w.cell? ⟨1, dbI k, none⟩ = some (.int .u8 (k : Int))
theorem Glob.lt {w : World} (h : Glob w) : 1 < w.heap.size := World.block_lt_of_cell? _ _ (h 0 (by omega))
theorem Glob.below {w w' : World} (h : Glob w) {B : Nat} (hb : Below B w w') (hB : 1 < B) : Glob w' := fun k hk => (hb.cell (p := ⟨1, dbI k, none⟩) hB).trans (h k hk)
theorem Glob.next {w w' : World} (h : Glob w) (hb : Below w.heap.size w w') : Glob w' := h.below hb h.lt

set_option maxHeartbeats 400000 in
theorem tz64_core (x k j : Nat) (w : World) (hx0 : ((x : Int) == 0) = false)
    (key : IntKind.u64.wrap (bits BinOp.and IntKind.u64 (x : Int) (IntKind.u64.wrap (-(x : Int))) * 285870213051353865) / 288230376151711744 = (j : Int))
    (h64 : j < 64) (h9 : k < 9) (hc : w.cell? ⟨1, j, none⟩ = some (.int .u8 k)) : Calls Tryd.prog 80 #[.int .u64 x] w fun e w' => e = .returned (.int .i64 k) ∧ w = w' := by
  go_enter Tryd.func80, Tryd.ntmps80
  go_wp2_with (simp only [key])
  go_ret
  exact ⟨rfl, rfl⟩
theorem tz64_any (x : Nat) (w : World) (hG : Glob w) (hx : x < 512) (h0 : x ≠ 0) : Calls Tryd.prog 80 #[.int .u64 x] w fun e w' => e = .returned (.int .i64 (lowN x)) ∧ w = w' := by
  obtain ⟨key, h9, h64⟩ := tz_key x hx h0
  exact tz64_core x _ _ w (beq_eq_false_iff_ne.2 (by omega)) key h64 h9 (hG (lowN x) h9)
set_option maxHeartbeats 400000 in
theorem oc64_any (x : Nat) (w : World) (hx : x < 512) : Calls Tryd.prog 88 #[.int .u64 x] w fun e w' => e = .returned (.int .i64 (sizeN x)) ∧ w = w' := by
  obtain ⟨a1, a2, a3, a4, a5, a6, e1, e2, e3, e4, e5, e6, e7⟩ := oc_steps x hx
  unfold o1 at e1
  unfold o2 at e2
  unfold o3 at e3
  unfold o4 at e4
  unfold o5 at e5
  unfold o6 at e6
  unfold o7 at e7
  generalize sizeN x = S at *
  go_enter Tryd.func88, Tryd.ntmps88
  go_wp2_with fail
  go_ret
  exact ⟨rfl, rfl⟩

set_option maxHeartbeats 400000 in
theorem oc_any (x : Nat) (w : World) (hx : x < 512) : Calls Tryd.prog 82 #[.int .u64 x] w fun e w' => e = .returned (.int .i64 (sizeN x)) ∧ w = w' := by
  have C := fun w => hid (oc64_any x w hx)
  go_enter Tryd.func82, Tryd.ntmps82
  go_wp2_with fail
  refine (C _).out.mono ?_
  rintro e w1 ⟨rfl, rfl⟩
  go_wp2_with fail
  go_ret
  exact ⟨rfl, rfl⟩
set_option maxHeartbeats 400000 in
theorem tz_any (x : Nat) (w : World) (hG : Glob w) (hx : x < 512) (h0 : x ≠ 0) : Calls Tryd.prog 55 #[.int .u64 x] w fun e w' => e = .returned (.int .i64 (lowN x)) ∧ w = w' := by
  have C := hid (tz64_any x w hG hx h0)
  clear hG
  go_enter Tryd.func55, Tryd.ntmps55
  go_wp2_with fail
  refine C.out.mono ?_
  rintro e w1 ⟨rfl, rfl⟩
  go_wp2_with fail
  go_ret
  exact ⟨rfl, rfl⟩
set_option maxHeartbeats 400000 in
theorem size_any (x : Nat) (w : World) (hx : x < 512) : Calls Tryd.prog 68 #[.int .i64 x] w fun e w' => e = .returned (.int .i64 (sizeN x)) ∧ w = w' := by
  have C := fun w => hid (oc_any x w hx)
  have e1 : IntKind.u64.wrap (x : Int) = x := IntWalk.u64_in _ (by omega)
  go_enter Tryd.func68, Tryd.ntmps68
  go_wp2_with fail
  refine (C _).out.mono ?_
  rintro e w1 ⟨rfl, rfl⟩
  go_wp2_with fail
  go_ret
  exact ⟨rfl, rfl⟩
set_option maxHeartbeats 400000 in
theorem single_any (x : Nat) (w : World) (hx : x < 512) : Calls Tryd.prog 54 #[.int .i64 x] w fun e w' => e = .returned (.bool (sizeN x == 1)) ∧ w = w' := by
  have C := fun w => hid (size_any x w hx)
  go_enter Tryd.func54, Tryd.ntmps54
  go_wp2_with fail
  refine (C _).out.mono ?_
  rintro e w1 ⟨rfl, rfl⟩
  go_wp2_with fail
  go_ret
  exact ⟨ret_bool (by rw [Bool.eq_iff_iff]; simp; omega), rfl⟩
end Go.Proofs.YthlgdakdjikjhaaDoor
/-
  Walks: the states of a set; the reference's sets.
-/
namespace Go.Proofs.YthlgdakdjikjhaaDoor
open Go.RowKit

def natV (x : Nat) : Value := .int .i64 (x : Int)
theorem natV_one (l : List Nat) : ∀ u ∈ l.map natV, u.oneCell' = true := by
  intro u hu; obtain ⟨x, _, rfl⟩ := List.mem_map.1 hu; rfl
/-- What a call returns: a new slice of numbers. -/
def RetN (l : List Nat) (w : World) (e : Ending) (w' : World) : Prop := ∃ a c, e = .returned (.slice a l.length c) ∧ Hid (w'.ownsRow w.heap.size 3 1 (.slice a l.length c) l.length (l.map natV)) ∧ Below w.heap.size w w'
theorem Tryd.info3 : (Tryd.prog.info? 3).map (fun i => (i.zero, i.size, i.bytes)) = some (some (.int .i64 0), 1, 8) := by kernel_rfl
/-- A row of numbers that is a call's own, read. -/
theorem own_vals {w : World} {base : Nat} {a : Option Addr} {c : Nat} {l : List Nat} (h : w.ownsRow base 3 1 (.slice a l.length c) l.length (l.map natV)) : Vals w a (l.map natV) ∧ (a = none → c = 0) ∧ l.length ≤ c := by
  obtain ⟨a1, c1, he, hv, -⟩ := ownsRow_vals h
  rw [List.length_map] at he
  cases he
  exact ⟨hv, (ownsRow_facts h).2.2, (ownsRow_facts h).2.1⟩

set_option maxHeartbeats 4000000 in
theorem list_any (x0 : Nat) (w : World) (hG : Glob w) (hx : x0 < 512) : Calls Tryd.prog 61 #[.int .i64 x0] w (RetN (listN x0) w) := by
  have HG := hid hG
  clear hG
  go_enter Tryd.func61, Tryd.ntmps61
  go_wp2_with fail
  go_loopw [0, 3] (fun sv v wr => ∃ (x : Nat) (L : List Nat), x < 512 ∧ sv = .int .i64 x ∧ L.length ≤ 9 ∧ Below w.heap.size w wr ∧ wr.ownsRow w.heap.size 3 1 v L.length (L.map natV) ∧ Hid (listN x0 = L ++ listN x)) (fun sv _ _ => (intOf sv).toNat)
  case atStart => exact ⟨x0, [], hx, rfl, by simp, Below.refl _ _, World.ownsRow_nil _ _ _ _, rfl⟩
  case round =>
    obtain ⟨x, L, hx5, rfl, hL9, hB, hown, HL⟩ := hrel
    by_cases h0 : x = 0
    · subst h0
      have hfin : listN x0 = L := by rw [HL.out, list_zero, List.append_nil]
      obtain ⟨a1, c1, rfl, hv1, -⟩ := ownsRow_vals hown
      have hll : (L.map natV).length = L.length := List.length_map ..
      rw [hll] at hown ⊢
      have HO := hid hown
      have HFN := hid hfin
      clear hown hv1 hll hfin
      go_wp2_with fail
      go_ret
      exact ⟨a1, c1, by rw [HFN.out]; rfl, by rw [HFN.out]; exact HO, hB⟩
    · have C := hid (tz_any x wr (HG.out.next hB) hx5 h0)
      have e1 : IntKind.u64.wrap (x : Int) = x := IntWalk.u64_in _ (by omega)
      have e2 := clear_low x hx5 h0
      obtain ⟨s1, s2⟩ := list_step x hx5 h0
      have hst := HL.out
      rw [s1] at hst
      have hL8 : L.length ≤ 8 := by
        have h1 := congrArg List.length hst
        rw [List.length_append, List.length_cons] at h1
        have := listN_len x0
        omega
      have HST := hid hst
      have hX : L.map natV ++ [.int .i64 (lowN x : Int)] = (L ++ [lowN x]).map natV := by rw [List.map_append]; rfl
      have HX := hid hX
      generalize lowN x = k at *
      generalize x &&& (x - 1) = y at *
      have d1 : decide ((x : Int) > 0) = true := decide_eq_true (by omega)
      clear s1 hst hX
      go_wp2_with fail
      refine C.out.mono ?_
      rintro e w1 ⟨rfl, rfl⟩
      go_wp2_with (at_builtin; go_must (refine wpList_app _ rfl (.tmp 10) (.tmp 14) 38 rfl w.heap.size 3 (.int .i64 0) 8 Tryd.underlying38 Tryd.info3 rfl _ L.length _ rfl (hown.alloc _) (some ⟨wr.heap.size, 0, none⟩) 1 1 [.int .i64 _] rfl rfl (vals_new _ _ _ _ rfl) (fun h => by cases h) (by simp [Value.oneCell']) (by omega) (by omega) (by have := hB.size; simp; omega) ?_))
      intro v' w1 hown' hgrow _
      rw [HX.out] at hown'
      have hB' := below_app (hB.alloc hB.size _) hgrow (hown.alloc _) (by have := hB.size; simp; omega) (Nat.le_refl _)
      have HO' := hid hown'
      clear hown' hgrow hown
      go_wp2_with fail
      refine ⟨⟨y, L ++ [k], by omega, rfl, by simp; omega, hB', by simpa using HO'.out, ?_⟩, by simp [intOf]; omega⟩
      rw [Hid, HST.out, List.append_assoc]; rfl
end Go.Proofs.YthlgdakdjikjhaaDoor
/-
  Walks: the reference's sets.
-/
namespace Go.Proofs.YthlgdakdjikjhaaDoor
open Go.RowKit

/-- A row of a machine. -/
theorem row_at {w : World} {a : Option Addr} {M : List (List Nat)} (hM : OkM M) (hr : RowsAt w a (intM M)) (b : Nat) (hb : b < M.length) :
    ∃ g o b1 c1, a = some ⟨g, o, none⟩ ∧ g < w.heap.size ∧ w.cell? ⟨g, o + b, none⟩ = some (.slice b1 (nst M) c1) ∧ Ints w b1 ((M.getD b []).map fun (x : Nat) => (x : Int)) := by
  have hx : (intM M)[b]? = some ((M.getD b []).map fun (x : Nat) => (x : Int)) := by
    simp [intM, List.getD, List.getElem?_eq_getElem hb]
  obtain ⟨g, o, b1, c1, ha, hg, q1, hin, -, -⟩ := hr.at b _ hx
  rw [List.length_map, hM.row _ (getD_mem hb)] at q1
  exact ⟨g, o, b1, c1, ha, hg, q1, hin⟩

set_option maxHeartbeats 400000 in
theorem refPress_any (a : Option Addr) (c : Nat) (M : List (List Nat)) (s b : Nat) (w : World) (hM : OkM M) (hr : RowsAt w a (intM M)) (_hs : s < 512) (hb : b < M.length) :
    Calls Tryd.prog 56 #[.slice a M.length c, .int .i64 s, .int .i64 b] w fun e w' => e = .returned (.int .i64 (press M s b : Nat)) ∧ w = w' := by
  obtain ⟨g, o, b1, c1, rfl, hg, q1, hin⟩ := row_at hM hr b hb
  obtain ⟨g', o', b0, c0, he, -, q0, -⟩ := row_at hM hr 0 (by have := hM.b1; omega)
  cases he
  rw [Nat.add_zero] at q0
  have hlt := hM.lt _ (getD_mem hb)
  have hrl := hM.row _ (getD_mem hb)
  have hn9 := hM.n9
  have hfin : press M s b = prF s (M.getD b []) 0 0 := rfl
  have HF := hid hfin
  generalize M.getD b [] = row at *
  rw [← hrl] at hlt hn9 q0 q1
  have HIN := hid hin
  have HLT := hid hlt
  have hm1 := hM.b1
  clear hfin hin hlt hr hM hrl
  go_enter Tryd.func56, Tryd.ntmps56
  go_wp2_with fail
  go_loop [7, 8] (fun v i => ∃ (k out : Nat), k ≤ row.length ∧ i = .int .i64 k ∧ v = .int .i64 out ∧ out < 512 ∧ Hid (press M s b = prF s (row.drop k) k out)) (fun _ i => row.length - (intOf i).toNat)
  case atStart => exact ⟨0, 0, by omega, rfl, rfl, by omega, HF.out⟩
  case round =>
    obtain ⟨k, out, hk, rfl, rfl, ho, H⟩ := hrel
    by_cases hlt : k < row.length
    · obtain ⟨x, hx, hd⟩ := list_drop_cons row k hlt
      have hxl := HLT.out x (List.mem_of_getElem? hx)
      obtain ⟨g2, o2, rfl, hg2, hcell⟩ := HIN.out.at (by rw [List.length_map]; omega)
      have q2 := hcell k (x : Int) (by rw [List.getElem?_map, hx]; rfl)
      have HX := hid hd
      clear hcell hx hd
      cases ht : s.testBit k with
      | true =>
        have d1 := tmod_yes s k ht
        have d2 := or_pow out x ho (by omega)
        have ho2 := or_small out (2 ^ x) ho (pow_small x (by omega))
        have hfin : press M s b = prF s (row.drop (k + 1)) (k + 1) (out ||| 2 ^ x) := by rw [H.out, HX.out, prF, if_pos ht]
        have HF2 := hid hfin
        clear hfin ht
        go_wp2_with fail
        exact ⟨⟨k + 1, out ||| 2 ^ x, by omega, by go_num, rfl, ho2, HF2⟩, by simp [intOf]; omega⟩
      | false =>
        have d1 := tmod_no s k ht
        have hfin : press M s b = prF s (row.drop (k + 1)) (k + 1) out := by rw [H.out, HX.out, prF, if_neg (by rw [ht]; simp)]
        have HF2 := hid hfin
        clear hfin ht
        go_wp2_with fail
        exact ⟨⟨k + 1, out, by omega, by go_num, rfl, ho, HF2⟩, by simp [intOf]; omega⟩
    · have hfin : press M s b = out := by rw [H.out, List.drop_eq_nil_of_le (by omega)]; rfl
      have HF2 := hid hfin
      clear hfin
      go_wp2_with fail
      go_ret
      exact ⟨ret_int (by rw [HF2.out]), rfl⟩

set_option maxHeartbeats 4000000 in
theorem refList_any (x : Nat) (w : World) (hx : x < 512) : Calls Tryd.prog 37 #[.int .i64 x] w (RetN (listN x) w) := by
  go_enter Tryd.func37, Tryd.ntmps37
  go_wp2_with fail
  go_loopw [3, 4] (fun v i wr => ∃ (q : Nat) (L : List Nat), q ≤ 9 ∧ i = .int .i64 q ∧ L.length ≤ q ∧ Below w.heap.size w wr ∧ wr.ownsRow w.heap.size 3 1 v L.length (L.map natV) ∧ Hid (listN x = L ++ listF x q)) (fun _ i _ => 9 - (intOf i).toNat)
  case atStart => exact ⟨0, [], by omega, rfl, by simp, Below.refl _ _, World.ownsRow_nil _ _ _ _, by rw [Hid, listF_zero]; rfl⟩
  case round =>
    obtain ⟨q, L, hq, rfl, hLq, hB, hown, HL⟩ := hrel
    by_cases h0 : x / 2 ^ q = 0
    · have d1 : decide ((x : Int) / 2 ^ q > 0) = false := by rw [shr_cast, h0]; rfl
      have d2 : decide (0 < (x : Int) / 2 ^ q) = false := d1
      have hfin : listN x = L := by rw [HL.out, listF_end x q h0, List.append_nil]
      obtain ⟨a1, c1, rfl, hv1, -⟩ := ownsRow_vals hown
      have hll : (L.map natV).length = L.length := List.length_map ..
      rw [hll] at hown ⊢
      have HO := hid hown
      have HFN := hid hfin
      clear hown hv1 hll hfin h0
      go_wp2_with fail
      go_ret
      exact ⟨a1, c1, by rw [HFN.out]; rfl, by rw [HFN.out]; exact HO, hB⟩
    · have hq9 : q < 9 := by
        rcases Nat.lt_or_ge q 9 with h | h
        · exact h
        · exact absurd (shr_end x q hx h) h0
      have d1 : decide ((x : Int) / 2 ^ q > 0) = true := by
        rw [shr_cast]
        generalize x / 2 ^ q = y at h0
        exact decide_eq_true (by omega)
      have d2 : decide (0 < (x : Int) / 2 ^ q) = true := d1
      have hst := HL.out
      rw [listF_step x q hq9] at hst
      have hX : L.map natV ++ [.int .i64 (q : Int)] = (L ++ [q]).map natV := by rw [List.map_append]; rfl
      have HX := hid hX
      clear h0 hX
      cases ht : x.testBit q with
      | true =>
        have d3 := tmod_yes x q ht
        rw [if_pos ht] at hst
        have HST := hid hst
        clear hst ht
        go_wp2_with (at_builtin; go_must (refine wpList_app _ rfl (.tmp 16) (.tmp 18) 38 rfl w.heap.size 3 (.int .i64 0) 8 Tryd.underlying38 Tryd.info3 rfl _ L.length _ rfl (hown.alloc _) (some ⟨wr.heap.size, 0, none⟩) 1 1 [.int .i64 _] rfl rfl (vals_new _ _ _ _ rfl) (fun h => by cases h) (by simp [Value.oneCell']) (by omega) (by omega) (by have := hB.size; simp; omega) ?_))
        intro v' w1 hown' hgrow _
        rw [HX.out] at hown'
        have hB' := below_app (hB.alloc hB.size _) hgrow (hown.alloc _) (by have := hB.size; simp; omega) (Nat.le_refl _)
        have HO' := hid hown'
        clear hown' hgrow hown
        go_wp2_with fail
        refine ⟨⟨q + 1, L ++ [q], by omega, by go_num, by simp; omega, hB', by simpa using HO'.out, ?_⟩, by simp [intOf]; omega⟩
        rw [Hid, HST.out, List.append_assoc]
      | false =>
        have d3 := tmod_no x q ht
        rw [if_neg (by rw [ht]; simp), List.nil_append] at hst
        have HST := hid hst
        clear hst ht
        go_wp2_with fail
        exact ⟨⟨q + 1, L, by omega, by go_num, by omega, hB, hown, HST⟩, by simp [intOf]; omega⟩

set_option maxHeartbeats 400000 in
theorem refSize_any (x : Nat) (w : World) (hx : x < 512) : Calls Tryd.prog 28 #[.int .i64 x] w fun e w' => e = .returned (.int .i64 (sizeN x)) ∧ Below w.heap.size w w' := by
  have C := hid (refList_any x w hx)
  go_enter Tryd.func28, Tryd.ntmps28
  go_wp2_with fail
  refine C.out.mono ?_
  rintro e w1 ⟨a, c, rfl, ho, hb⟩
  clear ho
  go_wp2_with fail
  go_ret
  exact ⟨rfl, hb⟩

set_option maxHeartbeats 400000 in
theorem refAll_any (a : Option Addr) (c : Nat) (M : List (List Nat)) (w : World) (hM : OkM M) (hr : RowsAt w a (intM M)) :
    Calls Tryd.prog 40 #[.slice a M.length c] w fun e w' => e = .returned (.int .i64 (2 ^ nst M - 1 : Nat)) ∧ w = w' := by
  have h1 := hM.b1
  obtain ⟨g, o, b1, c1, rfl, hg, q1, -⟩ := row_at hM hr 0 (by omega)
  have hn9 := hM.n9
  rw [Nat.add_zero] at q1
  generalize nst M = n at *
  have e1 : IntKind.i64.wrap ((2 : Int) ^ n) = ((2 ^ n : Nat) : Int) := by
    have h1 : (2 : Nat) ^ n ≤ 2 ^ 9 := Nat.pow_le_pow_right (by omega) hn9
    rw [← pow_cast]
    generalize 2 ^ n = y at h1
    exact IntWalk.i64_in _ (by have : (2 : Nat) ^ 9 = 512 := rfl; omega)
  have h512 : (2 : Nat) ^ n ≤ 512 := Nat.pow_le_pow_right (by omega) hn9
  have hpos : 0 < (2 : Nat) ^ n := Nat.two_pow_pos n
  have e2 : wrap64 ((2 : Int) ^ n - 1) = ((2 ^ n - 1 : Nat) : Int) := by
    rw [← pow_cast]
    generalize 2 ^ n = y at h512 hpos
    rw [IntWalk.wrap64_in _ (by omega)]; omega
  clear hr
  go_enter Tryd.func40, Tryd.ntmps40
  go_wp2_with fail
  go_ret
  exact ⟨ret_int e2, rfl⟩
end Go.Proofs.YthlgdakdjikjhaaDoor
/-
  Walks: slices.Reverse over bytes.
-/
namespace Go.Proofs.YthlgdakdjikjhaaDoor
open Go.RowKit
attribute [local go_sem] Oper.semAt_some

/-- i letters from both ends have changed their places. -/
def RevAt (l cur : List UInt8) (i : Nat) : Prop := cur.length = l.length ∧ ∀ k, k < l.length → cur[k]? = if k < i ∨ l.length < k + 1 + i then l[l.length - 1 - k]? else l[k]?
theorem RevAt.next {l cur : List UInt8} {i : Nat} {x y : UInt8} (h : RevAt l cur i) (hi : i + (i + 1) < l.length) (hx : cur[i]? = some x) (hy : cur[l.length - 1 - i]? = some y) : RevAt l ((cur.set i y).set (l.length - 1 - i) x) (i + 1) := by
  obtain ⟨h1, h2⟩ := h
  have hxl := h2 i (by omega)
  rw [if_neg (by omega), hx] at hxl
  have hyl := h2 (l.length - 1 - i) (by omega)
  rw [if_neg (by omega), hy] at hyl
  refine ⟨by simp [h1], fun k hk => ?_⟩
  rw [List.getElem?_set, List.length_set]
  by_cases e1 : l.length - 1 - i = k
  · rw [if_pos e1, if_pos (by omega), if_pos (by omega), ← e1, show l.length - 1 - (l.length - 1 - i) = i by omega]; exact hxl
  · rw [if_neg e1, List.getElem?_set]
    by_cases e2 : i = k
    · subst e2
      rw [if_pos rfl, if_pos (by omega), if_pos (by omega)]; exact hyl
    · rw [if_neg e2, h2 k hk]
      by_cases h3 : k < i ∨ l.length < k + 1 + i
      · rw [if_pos h3, if_pos (by omega)]
      · rw [if_neg h3, if_neg (by omega)]
theorem RevAt.done {l cur : List UInt8} {i : Nat} (h : RevAt l cur i) (hi : l.length ≤ i + (i + 1)) : cur = l.reverse := by
  obtain ⟨h1, h2⟩ := h
  apply List.ext_getElem?
  intro k
  rcases Nat.lt_or_ge k l.length with hk | hk
  · rw [h2 k hk, List.getElem?_reverse hk]
    split
    · rfl
    · rw [show l.length - 1 - k = k by omega]
  · rw [List.getElem?_eq_none (by omega), List.getElem?_eq_none (by simp; omega)]

set_option maxRecDepth 20000 in
set_option maxHeartbeats 4000000 in
theorem reverse_any (a : Option Addr) (c base : Nat) (l : List UInt8) (w : World) (hl : l.length ≤ 1000000) (hown : w.ownsRow base 5 1 (.slice a l.length c) l.length (l.map u8v)) :
    Calls Tryd.prog 78 #[.slice a l.length c] w fun e w' => e = .returned (.tuple #[]) ∧ w'.ownsRow base 5 1 (.slice a l.length c) l.length (l.reverse.map u8v) ∧ Below base w w' := by
  by_cases h0 : l.length = 0
  · have : l = [] := List.eq_nil_of_length_eq_zero h0
    subst this
    have HO := hid hown
    clear hown
    go_enter Tryd.func78, Tryd.ntmps78
    go_wp2_with fail
    go_loopw [2, 3] (fun i j W => i = .int .i64 0 ∧ j = .int .i64 (-1) ∧ W = w) (fun _ _ _ => 0)
    case atStart => exact ⟨rfl, rfl, rfl⟩
    case round =>
      obtain ⟨rfl, rfl, rfl⟩ := hrel
      go_wp2_with fail
      exact bodyPost_end (results_none rfl _ _ _) rfl ⟨rfl, HO.out, Below.refl _ _⟩
  · obtain ⟨g, c', he, hgb, hg, -⟩ : ∃ g c', Value.slice a l.length c = .slice (some ⟨g, 0, none⟩) l.length c' ∧ base ≤ g ∧ g < w.heap.size ∧ True := by
      rcases hown.2 with ⟨_, h⟩ | ⟨g, cap, cur, hv, hb, hg, _⟩
      · omega
      · exact ⟨g, cap, hv, hb, lt_of_block hg, trivial⟩
    cases he
    have HO := hid hown
    clear hown
    go_enter Tryd.func78, Tryd.ntmps78
    go_wp2_with fail
    go_loopw [2, 3] (fun iv jv W => ∃ (i : Nat) (cur : List UInt8), iv = .int .i64 i ∧ jv = .int .i64 ((l.length : Int) - 1 - i) ∧ i ≤ l.length ∧ cur.length = l.length ∧ W.ownsRow base 5 1 (.slice (some ⟨g, 0, none⟩) l.length c) l.length (cur.map u8v) ∧ Below base w W ∧ Hid (RevAt l cur i)) (fun iv _ _ => l.length - (intOf iv).toNat)
    case atStart =>
      refine ⟨0, l, rfl, by go_num, by omega, rfl, HO.out, Below.refl _ _, rfl, fun k hk => ?_⟩
      rw [if_neg (by omega)]
    case round =>
      obtain ⟨i, cur, rfl, rfl, hi, hcl, hown, hB, HR⟩ := hrel
      by_cases hlt : i + (i + 1) < l.length
      · obtain ⟨x, hx⟩ : ∃ x, cur[i]? = some x := ⟨_, List.getElem?_eq_getElem (by omega)⟩
        obtain ⟨y, hy⟩ : ∃ y, cur[l.length - 1 - i]? = some y := ⟨_, List.getElem?_eq_getElem (by omega)⟩
        have q1 : wr.cell? ⟨g, i, none⟩ = some (.int .u8 (x.toNat : Int)) := by
          rw [hown.cellAt i (by omega), List.getElem?_map, hx]; rfl
        have q2 : wr.cell? ⟨g, l.length - 1 - i, none⟩ = some (.int .u8 (y.toNat : Int)) := by
          rw [hown.cellAt (l.length - 1 - i) (by omega), List.getElem?_map, hy]; rfl
        have f1 := hown.frozenAt i
        have f2 := hown.frozenAt (l.length - 1 - i)
        have hst := (((hown.stored i (u8v y)).1).stored (l.length - 1 - i) (u8v x)).1
        have hst2 := (((hown.stored (l.length - 1 - i) (u8v x)).1).stored i (u8v y)).1
        have HST := hid hst
        have HST2 := hid hst2
        have HRN := hid (HR.out.next hlt hx hy)
        obtain ⟨j, hj⟩ : ∃ j, j = l.length - 1 - i := ⟨_, rfl⟩
        have hji : (l.length : Int) - 1 - (i : Int) = (j : Int) := by omega
        rw [← hj] at q2 f2 HST HST2 HRN
        rw [hji]
        have hjl : j < l.length := by omega
        have hij : i ≠ j := by omega
        have d1 : decide ((i : Int) < (j : Int)) = true := decide_eq_true (by omega)
        have d2 : decide (i < j) = true := decide_eq_true (by omega)
        have HOW := hid hown
        have HBB := hid hB
        have HJ := hid hj
        clear hst hst2 hx hy hown hB hj hji
        go_wp2_with fail
        go_region
        have hB2 : Below base w (((wr.setCell ⟨g, i, none⟩ (.int .u8 (y.toNat : Int))).setCell ⟨g, j, none⟩ (.int .u8 (x.toNat : Int))).drew) := ((HBB.out.setCell hgb _).setCell hgb _).drew
        have HB2 := hid hB2
        clear hB2 q1 q2 f1 f2
        go_wp2_with fail
        have hj := HJ.out
        refine ⟨⟨i + 1, (cur.set i y).set j x, by go_num, ?_, by omega, by simp [hcl], ?_, HB2.out, HRN⟩, by simp [intOf]; omega⟩
        · congr 1; omega
        · rw [List.map_set, List.map_set]; exact HST.out
      · have hfin := HR.out.done (by omega)
        have d1 : decide ((i : Int) < (l.length : Int) - 1 - i) = false := decide_eq_false (by omega)
        have hO : wr.ownsRow base 5 1 (.slice (some ⟨g, 0, none⟩) l.length c) l.length (l.reverse.map u8v) := by rw [← hfin]; exact hown
        have HO2 := hid hO
        have HB := hid hB
        clear hfin hown hB hO
        go_wp2_with fail
        exact bodyPost_end (results_none rfl _ _ _) rfl ⟨rfl, HO2.out, HB.out⟩
end Go.Proofs.YthlgdakdjikjhaaDoor
/-
  The table of known sets: a map with numbers as keys.
-/
namespace Go.Proofs.YthlgdakdjikjhaaDoor
open Go.RowKit Go.ChangeMaps

theorem find_nat (a : Nat) : ∀ (l : List (Nat × Value)) (i : Nat), Instr.findNow (.int .i64) (natV a) (ents natV l i) i = some (fnd a l i) := by
  intro l
  induction l with
  | nil => intro i; rfl
  | cons p r ih =>
    intro i
    obtain ⟨b, v⟩ := p
    simp only [ents, fnd, Instr.findNow, natV, Instr.sameNow, if_true]
    by_cases h : a = b
    · subst h; simp
    · have : ((a : Int) == (b : Int)) = false := beq_eq_false_iff_ne.2 (by omega)
      rw [this, if_neg h]
      exact ih (i + 1)
theorem kt75 : KT Tryd.prog 75 natV where
  check em a w := MapKept.run_checkKey Tryd.underlying75 (show MapKept.IsKey (.int .i64) (.int .i64 (a : Int)) from rfl) em 9999
  find a l w := MapKept.run_findKey Tryd.underlying75 (find_nat a l 0)
  same a := by simp [natV, Instr.sameBits]
/-- A step, as the program keeps it. -/
def stepV (e : Ent) : Value := .agg #[.int .i64 (e.frm : Int), .int .u8 (e.btn : Int)]
def knownL (L : List Ent) : List (Nat × Value) := L.map fun e => (e.set, stepV e)
theorem known_none (L : List Ent) (y : Nat) : ∀ (i : Nat), L.any (fun e => e.set == y) = false → fnd y (knownL L) i = none := by
  induction L with
  | nil => intro i _; rfl
  | cons e L ih =>
    intro i h
    simp only [List.any_cons, Bool.or_eq_false_iff, beq_eq_false_iff_ne] at h
    simp only [knownL, List.map_cons, fnd]
    rw [if_neg (fun e => h.1 e.symm)]
    exact ih _ h.2
theorem known_some {L : List Ent} (hn : (L.map (·.set)).Nodup) : ∀ (j i : Nat) (e : Ent), L[j]? = some e → fnd e.set (knownL L) i = some (i + j, stepV e) := by
  induction L with
  | nil => intro j i e h; simp at h
  | cons x L ih =>
    intro j i e h
    rw [List.map_cons, List.nodup_cons] at hn
    simp only [knownL, List.map_cons, fnd]
    cases j with
    | zero => simp only [List.getElem?_cons_zero, Option.some.injEq] at h; subst h; simp
    | succ j =>
      simp only [List.getElem?_cons_succ] at h
      have hne : e.set ≠ x.set := fun he => hn.1 (by rw [← he]; exact List.mem_map_of_mem (List.mem_of_getElem? h))
      rw [if_neg hne]
      have := ih hn.2 j (i + 1) e h
      rw [show i + 1 + j = i + (j + 1) by omega] at this
      exact this
theorem zero100 (w : World) : (zeroValue 100).run Tryd.prog w = .ok (.agg #[.int .i64 0, .int .u8 0]) w := by kernel_rfl
theorem look_new {w : World} {bm : Nat} {L : List Ent} (h : MapIs natV w bm (knownL L)) (y : Nat) (hy : L.any (fun e => e.set == y) = false) :
    (Instr.lookup 101 (.map (some bm)) (.int .i64 (y : Int)) true).run Tryd.prog w = .ok (.tuple #[.agg #[.int .i64 0, .int .u8 0], .bool false]) w := by
  have := h.look kt75 Tryd.underlying101 (zero100 w) y true
  unfold get at this
  rw [known_none L y 0 hy] at this
  exact this
theorem look_old {w : World} {bm : Nat} {L : List Ent} (h : MapIs natV w bm (knownL L)) (hn : (L.map (·.set)).Nodup) (j : Nat) (e : Ent) (he : L[j]? = some e) (c : Bool) :
    (Instr.lookup 101 (.map (some bm)) (.int .i64 (e.set : Int)) c).run Tryd.prog w = .ok (if c then .tuple #[stepV e, .bool true] else stepV e) w := by
  have := h.look kt75 Tryd.underlying101 (zero100 w) e.set c
  unfold get at this
  rw [known_some hn j 0 e he] at this
  cases c <;> exact this
theorem store_new {w : World} {bm : Nat} {L : List Ent} (h : MapIs natV w bm (knownL L)) (e : Ent) (hy : L.any (fun x => x.set == e.set) = false) :
    ∃ w', (Instr.mapUpdate 101 (.map (some bm)) (.int .i64 (e.set : Int)) (.agg #[.int .i64 (e.frm : Int), .int .u8 (e.btn : Int)])).run Tryd.prog w = .ok () w' ∧ MapIs natV w' bm (knownL (L ++ [e])) ∧ ∃ o, w' = setBlock w bm o := by
  obtain ⟨w', h1, h2, h3⟩ := h.store kt75 Tryd.underlying101 e.set (stepV e)
  refine ⟨w', h1, ?_, h3⟩
  rw [ents_fnd_none e.set (knownL L) 0 (known_none L _ 0 hy)] at h2
  simpa [knownL] using h2
theorem any_old {L : List Ent} {y : Nat} (h : L.any (fun e => e.set == y) = true) : ∃ (j : Nat) (e : Ent), L[j]? = some e ∧ e.set = y := by
  obtain ⟨e, he, hy⟩ := List.any_eq_true.1 h
  obtain ⟨j, hj⟩ := List.getElem?_of_mem he
  exact ⟨j, e, hj, beq_iff_eq.1 hy⟩
/-! Images are not empty. -/
theorem prF_ge (s : Nat) : ∀ (r : List Nat) (q out : Nat), out ≠ 0 → prF s r q out ≠ 0 := by
  intro r
  induction r with
  | nil => intro q out h; exact h
  | cons p r ih =>
    intro q out h
    rw [prF]
    refine ih _ _ ?_
    split
    · intro h2
      have := Nat.left_le_or (n := out) (m := 2 ^ p)
      omega
    · exact h
theorem prF_ne (s : Nat) : ∀ (r : List Nat) (q out i : Nat), i < r.length → s.testBit (q + i) = true → prF s r q out ≠ 0 := by
  intro r
  induction r with
  | nil => intro q out i h; simp at h
  | cons p r ih =>
    intro q out i hi ht
    rw [prF]
    cases i with
    | zero =>
      rw [Nat.add_zero] at ht
      rw [if_pos ht]
      refine prF_ge s r _ _ ?_
      intro h2
      have := Nat.right_le_or (n := out) (m := 2 ^ p)
      have := Nat.two_pow_pos p
      omega
    | succ i => exact ih _ _ i (by simpa using hi) (by rw [show q + 1 + i = q + (i + 1) by omega]; exact ht)
theorem press_ne {M : List (List Nat)} (hM : OkM M) {s b : Nat} (hs : s ≠ 0) (h2 : s < 2 ^ nst M) (hb : b < M.length) : press M s b ≠ 0 := by
  obtain ⟨i, hi⟩ := Nat.exists_testBit_of_ne_zero hs
  have hin : i < nst M := by
    rcases Nat.lt_or_ge i (nst M) with h | h
    · exact h
    · rw [Nat.testBit_lt_two_pow (Nat.lt_of_lt_of_le h2 (Nat.pow_le_pow_right (by omega) h))] at hi; cases hi
  refine prF_ne s _ 0 0 i ?_ (by rw [Nat.zero_add]; exact hi)
  rw [hM.row _ (getD_mem hb)]; exact hin
theorem Good.ne {M : List (List Nat)} {s : Nat} {L : List Ent} (h : Good M s L) (hM : OkM M) (hs : s ≠ 0) : ∀ (i : Nat) (e : Ent), L[i]? = some e → e.set ≠ 0 := by
  intro i
  induction i using Nat.strongRecOn with
  | _ i ih =>
    intro e he
    rcases Nat.eq_zero_or_pos i with h0 | h0
    · subst h0; rw [h.head] at he; cases he; exact hs
    · obtain ⟨j, p, h1, h2, -, -, h3, h4, h5⟩ := h.par i e he h0
      rw [h5]
      exact press_ne hM (ih j h1 p h2) (h.lt p (List.mem_of_getElem? h2)) (by omega)
end Go.Proofs.YthlgdakdjikjhaaDoor
