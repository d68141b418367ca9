/-
  Walks: tables of small numbers are tables.
-/
import Derived.Test.YtkmpdcckgibkhaaGreatE
namespace Go.Proofs.YtkmpdcckgibkhaaGreat
open Go.RowKit

/-- A slice that reads as lists of numbers. -/
def RowsAt (w : World) (a : Option Addr) (X : List (List Int)) : Prop :=
  ∃ vs : List Value, Vals w a vs ∧ vs.length = X.length ∧ ∀ (i : Nat) (r : List Int), X[i]? = some r → ∃ (b : Option Addr) (c : Nat), vs[i]? = some (Value.slice b r.length c) ∧ Ints w b r ∧ (b = none → c = 0) ∧ r.length ≤ c
theorem RowsAt.below {w w' : World} {a : Option Addr} {X : List (List Int)} {B : Nat} (h : RowsAt w a X) (hb : Below B w w') (hB : w.heap.size ≤ B) : RowsAt w' a X := by
  obtain ⟨vs, h1, h2, h3⟩ := h
  refine ⟨vs, h1.below hb hB, h2, fun i r hr => ?_⟩
  obtain ⟨b, c, k1, k2, k3⟩ := h3 i r hr
  exact ⟨b, c, k1, k2.below hb hB, k3⟩
theorem RowsAt.at {w : World} {a : Option Addr} {X : List (List Int)} (h : RowsAt w a X) (i : Nat) (r : List Int) (hr : X[i]? = some r) :
    ∃ g o b c, a = some ⟨g, o, none⟩ ∧ g < w.heap.size ∧ w.cell? ⟨g, o + i, none⟩ = some (Value.slice b r.length c) ∧ Ints w b r ∧ (b = none → c = 0) ∧ r.length ≤ c := by
  obtain ⟨vs, h1, h2, h3⟩ := h
  obtain ⟨b, c, k1, k2, k3⟩ := h3 i r hr
  rcases h1 with h | ⟨g, o, ha, hg, hc⟩
  · subst h; simp at k1
  · exact ⟨g, o, b, c, ha, hg, hc i _ k1, k2, k3⟩


theorem in55_ok (x : Int) (w : World) (h1 : 0 ≤ x) (h2 : x ≤ 9) : Calls Tryz.prog 55 #[.int .i64 x] w fun e w' => e = .returned (.bool false) ∧ w = w' := by
  go_enter Tryz.func55, Tryz.ntmps55
  go_wp2_with (go_at_call 56; refine (within56_yes _ _ _ _ h1 h2).mono ?_; rintro e w1 ⟨rfl, rfl⟩)
  go_ret
  exact ⟨rfl, rfl⟩

set_option maxHeartbeats 400000 in
theorem index86_55 (a : Option Addr) (c : Nat) (r : List Int) (w : World)  (hr : Ints w a r) (hl : r.length ≤ 1000000) (hc : ∀ x ∈ r, Calls Tryz.prog 55 #[.int .i64 x] w fun e w' => e = .returned (.bool false) ∧ w = w') :
    Calls Tryz.prog 86 #[.slice a r.length c, .func (.func 55) #[] #[]] w fun e w' => e = .returned (.int .i64 (-1)) ∧ w = w' := by
  have HR := hid hr
  have HC := hid hc
  clear hr hc
  go_enter Tryz.func86, Tryz.ntmps86
  go_wp2
  go_loop [8] (fun i => ∃ k : Nat, k ≤ r.length ∧ i = .int .i64 k) (fun i => r.length - (intOf i).toNat)
  case atStart => exact ⟨0, by omega, rfl⟩
  case round =>
    obtain ⟨k, hk, rfl⟩ := hrel
    by_cases hlt : k < r.length
    · obtain ⟨x, hx, -⟩ := list_drop_cons r k hlt
      obtain ⟨g, o, rfl, hg, hcell⟩ := HR.out.at (by omega)
      have q1 := hcell k x hx
      have C1 := hid (HC.out x (List.mem_of_getElem? hx))
      clear hcell hx
      go_wp2_with (go_at_call 55; refine C1.out.mono ?_; rintro e w1 ⟨rfl, rfl⟩)
      go_round
      case rel => exact ⟨k + 1, by omega, by go_num⟩
      case measure => simp [intOf]; omega
    · go_wp2
      go_ret
      exact ⟨rfl, rfl⟩

theorem contains54_55 (a : Option Addr) (c : Nat) (r : List Int) (w : World)  (hr : Ints w a r) (hl : r.length ≤ 1000000) (hc : ∀ x ∈ r, Calls Tryz.prog 55 #[.int .i64 x] w fun e w' => e = .returned (.bool false) ∧ w = w') :
    Calls Tryz.prog 54 #[.slice a r.length c, .func (.func 55) #[] #[]] w fun e w' => e = .returned (.bool false) ∧ w = w' := by
  have HI := hid (index86_55 a c r w  hr hl hc)
  clear hr hc
  go_enter Tryz.func54, Tryz.ntmps54
  go_wp2_with (go_at_call 86; refine HI.out.mono ?_; rintro e w1 ⟨rfl, rfl⟩)
  go_ret
  exact ⟨rfl, rfl⟩

set_option maxRecDepth 20000 in
set_option maxHeartbeats 400000 in
theorem in53_ok (a : Option Addr) (c : Nat) (r : List Int) (b m ca : Nat) (ba : Option Addr) (w : World) (hr : Ints w a r) (hl : r.length ≤ 1000000) (hm : m = r.length) (hx : ∀ x ∈ r, 0 ≤ x ∧ x ≤ 9) (hc : w.cell? ⟨b, 0, none⟩ = some (.slice ba m ca)) :
    Calls Tryz.prog 53 #[.slice a r.length c, .pointer (some ⟨b, 0, none⟩)] w fun e w' => e = .returned (.bool false) ∧ w = w' := by
  subst hm
  have HI := hid (contains54_55 a c r w hr hl fun x h => in55_ok x w (hx x h).1 (hx x h).2)
  clear hr hx
  have d1 : ((r.length : Int) != (r.length : Int)) = false := by simp
  go_enter Tryz.func53, Tryz.ntmps53
  go_wp2_with (go_at_call 54; refine HI.out.mono ?_; rintro e w1 ⟨rfl, rfl⟩)
  go_ret
  exact ⟨rfl, rfl⟩

set_option maxHeartbeats 400000 in
theorem index85_53 (a : Option Addr) (c : Nat) (X : List (List Int)) (w : World) (bp : Nat) (hr : RowsAt w a X) (hl : X.length ≤ 1000000) (hc : ∀ (b : Option Addr) (c : Nat), ∀ x ∈ X, Ints w b x → (b = none → c = 0) → x.length ≤ c → Calls Tryz.prog 53 #[.slice b x.length c, .pointer (some ⟨bp, 0, none⟩)] w fun e w' => e = .returned (.bool false) ∧ w = w') :
    Calls Tryz.prog 85 #[.slice a X.length c, .func (.func 53) #[] #[.pointer (some ⟨bp, 0, none⟩)]] w fun e w' => e = .returned (.int .i64 (-1)) ∧ w = w' := by
  have HR := hid hr
  have HC := hid hc
  clear hr hc
  go_enter Tryz.func85, Tryz.ntmps85
  go_wp2
  go_loop [8] (fun i => ∃ k : Nat, k ≤ X.length ∧ i = .int .i64 k) (fun i => X.length - (intOf i).toNat)
  case atStart => exact ⟨0, by omega, rfl⟩
  case round =>
    obtain ⟨k, hk, rfl⟩ := hrel
    by_cases hlt : k < X.length
    · obtain ⟨x, hx, -⟩ := list_drop_cons X k hlt
      obtain ⟨g, o, b1, c1, rfl, hg, q1, hin, h0, hc1⟩ := HR.out.at k x hx
      have C1 := hid (HC.out b1 c1 x (List.mem_of_getElem? hx) hin h0 hc1)
      clear hin hx h0 hc1
      go_wp2_with (go_at_call 53; refine C1.out.mono ?_; rintro e w1 ⟨rfl, rfl⟩)
      go_round
      case rel => exact ⟨k + 1, by omega, by go_num⟩
      case measure => simp [intOf]; omega
    · go_wp2
      go_ret
      exact ⟨rfl, rfl⟩

theorem contains52_53 (a : Option Addr) (c : Nat) (X : List (List Int)) (w : World) (bp : Nat) (hr : RowsAt w a X) (hl : X.length ≤ 1000000) (hc : ∀ (b : Option Addr) (c : Nat), ∀ x ∈ X, Ints w b x → (b = none → c = 0) → x.length ≤ c → Calls Tryz.prog 53 #[.slice b x.length c, .pointer (some ⟨bp, 0, none⟩)] w fun e w' => e = .returned (.bool false) ∧ w = w') :
    Calls Tryz.prog 52 #[.slice a X.length c, .func (.func 53) #[] #[.pointer (some ⟨bp, 0, none⟩)]] w fun e w' => e = .returned (.bool false) ∧ w = w' := by
  have HI := hid (index85_53 a c X w bp hr hl hc)
  clear hr hc
  go_enter Tryz.func52, Tryz.ntmps52
  go_wp2_with (go_at_call 85; refine HI.out.mono ?_; rintro e w1 ⟨rfl, rfl⟩)
  go_ret
  exact ⟨rfl, rfl⟩

/-- Is it a square table of numbers from 0 to 9? -/
def Square (X : List (List Int)) : Prop := X.length ≤ 10 ∧ ∀ r ∈ X, r.length = X.length ∧ ∀ x ∈ r, 0 ≤ x ∧ x ≤ 9

set_option maxRecDepth 20000 in
set_option maxHeartbeats 400000 in
theorem isTable_ok (a : Option Addr) (c : Nat) (X : List (List Int)) (w : World) (hr : RowsAt w a X) (hs : Square X) :
    Calls Tryz.prog 25 #[.slice a X.length c] w (RetB (.bool true) w) := by
  have hal : Below w.heap.size w (w.alloc (.cells #[.slice a X.length c] 22)) := (Below.refl _ w).alloc (Nat.le_refl _) _
  have hk := (Blk.new w #[.slice a X.length c] 22).cell 0
  have hk : (w.alloc (.cells #[.slice a X.length c] 22)).cell? ⟨w.heap.size, 0, none⟩ = some (.slice a X.length c) := hk
  have HI := hid (contains52_53 a c X (w.alloc (.cells #[.slice a X.length c] 22)) w.heap.size (hr.below hal (Nat.le_refl _)) (by have := hs.1; omega)
    fun b c' x hx hi _ _ => in53_ok b c' x w.heap.size X.length c a _ hi (by have := hs.1; have := (hs.2 x hx).1; omega) (hs.2 x hx).1.symm (hs.2 x hx).2 hk)
  have h10 := hs.1
  have HAL := hid hal
  clear hr hs hk hal
  go_enter Tryz.func25, Tryz.ntmps25
  go_wp2_with fail
  refine HI.out.mono ?_
  rintro e w1 ⟨rfl, rfl⟩
  go_wp2_with fail
  go_ret
  exact ⟨rfl, HAL.out⟩

end Go.Proofs.YtkmpdcckgibkhaaGreat
