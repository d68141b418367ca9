/-
  Walks: the distances of two stops.
-/
import Derived.Test.YtkmpdcckgibkhaaGreatOM
import Derived.BigRegion
import Derived.BigQuiet
import Derived.Deep.RegionHeld3
namespace Go.Proofs.YtkmpdcckgibkhaaGreat
open Go.RowKit Go.ChangeMaps

theorem in140_ok (x : Int) (w : World) (h1 : 0 ≤ x) (h2 : x ≤ 1000) : Calls Tryz.prog 140 #[.int .i64 x] w fun e w' => e = .returned (.bool false) ∧ w = w' := by
  go_enter Tryz.func140, Tryz.ntmps140
  go_wp2_with (go_at_call 139; refine (within139_yes _ _ _ _ h1 h2).mono ?_; rintro e w1 ⟨rfl, rfl⟩)
  go_ret
  exact ⟨rfl, rfl⟩

set_option maxHeartbeats 400000 in
theorem index86_140 (a : Option Addr) (c : Nat) (r : List Int) (w : World)  (hr : Ints w a r) (hl : r.length ≤ 1000000) (hc : ∀ x ∈ r, Calls Tryz.prog 140 #[.int .i64 x] w fun e w' => e = .returned (.bool false) ∧ w = w') :
    Calls Tryz.prog 86 #[.slice a r.length c, .func (.func 140) #[] #[]] w fun e w' => e = .returned (.int .i64 (-1)) ∧ w = w' := by
  have HR := hid hr
  have HC := hid hc
  clear hr hc
  go_enter Tryz.func86, Tryz.ntmps86
  go_wp2
  go_loop [8] (fun i => ∃ k : Nat, k ≤ r.length ∧ i = .int .i64 k) (fun i => r.length - (intOf i).toNat)
  case atStart => exact ⟨0, by omega, rfl⟩
  case round =>
    obtain ⟨k, hk, rfl⟩ := hrel
    by_cases hlt : k < r.length
    · obtain ⟨x, hx, -⟩ := list_drop_cons r k hlt
      obtain ⟨g, o, rfl, hg, hcell⟩ := HR.out.at (by omega)
      have q1 := hcell k x hx
      have C1 := hid (HC.out x (List.mem_of_getElem? hx))
      clear hcell hx
      go_wp2_with (go_at_call 140; refine C1.out.mono ?_; rintro e w1 ⟨rfl, rfl⟩)
      go_round
      case rel => exact ⟨k + 1, by omega, by go_num⟩
      case measure => simp [intOf]; omega
    · go_wp2
      go_ret
      exact ⟨rfl, rfl⟩

theorem contains54_140 (a : Option Addr) (c : Nat) (r : List Int) (w : World)  (hr : Ints w a r) (hl : r.length ≤ 1000000) (hc : ∀ x ∈ r, Calls Tryz.prog 140 #[.int .i64 x] w fun e w' => e = .returned (.bool false) ∧ w = w') :
    Calls Tryz.prog 54 #[.slice a r.length c, .func (.func 140) #[] #[]] w fun e w' => e = .returned (.bool false) ∧ w = w' := by
  have HI := hid (index86_140 a c r w  hr hl hc)
  clear hr hc
  go_enter Tryz.func54, Tryz.ntmps54
  go_wp2_with (go_at_call 86; refine HI.out.mono ?_; rintro e w1 ⟨rfl, rfl⟩)
  go_ret
  exact ⟨rfl, rfl⟩

/-- The distances of two stops: 0 3, 3 0. -/
structure Mi (w : World) (g : Nat) : Prop where
  a : Blk w g #[.int .i64 0, .int .i64 3] 3
  b : Blk w (g + 1) #[.int .i64 3, .int .i64 0] 3
  t : Blk w (g + 2) #[.slice (some ⟨g, 0, none⟩) 2 2, .slice (some ⟨g + 1, 0, none⟩) 2 2] 24
theorem Mi.below {w w' : World} {g B : Nat} (h : Mi w g) (hb : Below B w w') (hB : g + 2 < B) : Mi w' g := ⟨h.a.below hb (by omega), h.b.below hb (by omega), h.t.below hb hB⟩
theorem Mi.ia {w : World} {g : Nat} (h : Mi w g) : Ints w (some ⟨g, 0, none⟩) [0, 3] := .inr ⟨g, 0, rfl, h.a.lt, fun k u hu => by rw [Nat.zero_add, h.a.cell k]; simpa using hu⟩
theorem Mi.ib {w : World} {g : Nat} (h : Mi w g) : Ints w (some ⟨g + 1, 0, none⟩) [3, 0] := .inr ⟨g + 1, 0, rfl, h.b.lt, fun k u hu => by rw [Nat.zero_add, h.b.cell k]; simpa using hu⟩

set_option maxRecDepth 100000 in
set_option maxHeartbeats 4000000 in
theorem isMiles114 (g : Nat) (w : World) (h : Mi w g) : Calls Tryz.prog 114 #[.slice (some ⟨g + 2, 0, none⟩) 2 2] w fun e w' => e = .returned (.bool true) ∧ w = w' := by
  have H := hid h
  have t0 := h.t.cell 0
  have t1 := h.t.cell 1
  have a0 := h.a.cell 0
  have a1 := h.a.cell 1
  have b0 := h.b.cell 0
  have b1 := h.b.cell 1
  have CA := hid (contains54_140 (some ⟨g, 0, none⟩) 2 [0, 3] w h.ia (by simp) (fun x hx => in140_ok x w (by simp at hx; omega) (by simp at hx; omega)))
  have CB := hid (contains54_140 (some ⟨g + 1, 0, none⟩) 2 [3, 0] w h.ib (by simp) (fun x hx => in140_ok x w (by simp at hx; omega) (by simp at hx; omega)))
  clear h
  go_enter Tryz.func114, Tryz.ntmps114
  go_wp2_with fail
  refine (within139_yes _ _ _ _ (by simp) (by simp)).mono ?_
  rintro e w1 ⟨rfl, rfl⟩
  go_wp2_with fail
  refine wp_loop_rounds 3 ?_
  rw [rounds_succ]
  go_wp2_with fail
  refine CA.out.mono ?_
  rintro e w1 ⟨rfl, rfl⟩
  go_wp2_with fail
  rw [rounds_succ]
  go_wp2_with fail
  refine CB.out.mono ?_
  rintro e w1 ⟨rfl, rfl⟩
  go_wp2_with fail
  rw [rounds_succ]
  go_wp2_with fail
  refine wp_loop_rounds 3 ?_
  rw [rounds_succ]
  go_wp2_with fail
  refine wp_loop_rounds 3 ?_
  rw [rounds_succ]
  go_wp2_with fail
  rw [rounds_succ]
  go_wp2_with fail
  rw [rounds_succ]
  go_wp2_with fail
  rw [rounds_succ]
  go_wp2_with fail
  refine wp_loop_rounds 3 ?_
  rw [rounds_succ]
  go_wp2_with fail
  rw [rounds_succ]
  go_wp2_with fail
  rw [rounds_succ]
  go_wp2_with fail
  rw [rounds_succ]
  go_wp2_with fail
  go_ret
  exact ⟨rfl, rfl⟩

end Go.Proofs.YtkmpdcckgibkhaaGreat
