/-
  Walks: the states of a set; the reference's sets.
-/
import Derived.Test.YthlgdakdjikjhaaDoorB
namespace Go.Proofs.YthlgdakdjikjhaaDoor
open Go.RowKit

def natV (x : Nat) : Value := .int .i64 (x : Int)
theorem natV_one (l : List Nat) : ∀ u ∈ l.map natV, u.oneCell' = true := by
  intro u hu; obtain ⟨x, _, rfl⟩ := List.mem_map.1 hu; rfl
/-- What a call returns: a new slice of numbers. -/
def RetN (l : List Nat) (w : World) (e : Ending) (w' : World) : Prop := ∃ a c, e = .returned (.slice a l.length c) ∧ Hid (w'.ownsRow w.heap.size 3 1 (.slice a l.length c) l.length (l.map natV)) ∧ Below w.heap.size w w'
theorem Tryd.info3 : (Tryd.prog.info? 3).map (fun i => (i.zero, i.size, i.bytes)) = some (some (.int .i64 0), 1, 8) := by kernel_rfl
/-- A row of numbers that is a call's own, read. -/
theorem own_vals {w : World} {base : Nat} {a : Option Addr} {c : Nat} {l : List Nat} (h : w.ownsRow base 3 1 (.slice a l.length c) l.length (l.map natV)) : Vals w a (l.map natV) ∧ (a = none → c = 0) ∧ l.length ≤ c := by
  obtain ⟨a1, c1, he, hv, -⟩ := ownsRow_vals h
  rw [List.length_map] at he
  cases he
  exact ⟨hv, (ownsRow_facts h).2.2, (ownsRow_facts h).2.1⟩

set_option maxHeartbeats 4000000 in
theorem list_any (x0 : Nat) (w : World) (hG : Glob w) (hx : x0 < 512) : Calls Tryd.prog 61 #[.int .i64 x0] w (RetN (listN x0) w) := by
  have HG := hid hG
  clear hG
  go_enter Tryd.func61, Tryd.ntmps61
  go_wp2_with fail
  go_loopw [0, 3] (fun sv v wr => ∃ (x : Nat) (L : List Nat), x < 512 ∧ sv = .int .i64 x ∧ L.length ≤ 9 ∧ Below w.heap.size w wr ∧ wr.ownsRow w.heap.size 3 1 v L.length (L.map natV) ∧ Hid (listN x0 = L ++ listN x)) (fun sv _ _ => (intOf sv).toNat)
  case atStart => exact ⟨x0, [], hx, rfl, by simp, Below.refl _ _, World.ownsRow_nil _ _ _ _, rfl⟩
  case round =>
    obtain ⟨x, L, hx5, rfl, hL9, hB, hown, HL⟩ := hrel
    by_cases h0 : x = 0
    · subst h0
      have hfin : listN x0 = L := by rw [HL.out, list_zero, List.append_nil]
      obtain ⟨a1, c1, rfl, hv1, -⟩ := ownsRow_vals hown
      have hll : (L.map natV).length = L.length := List.length_map ..
      rw [hll] at hown ⊢
      have HO := hid hown
      have HFN := hid hfin
      clear hown hv1 hll hfin
      go_wp2_with fail
      go_ret
      exact ⟨a1, c1, by rw [HFN.out]; rfl, by rw [HFN.out]; exact HO, hB⟩
    · have C := hid (tz_any x wr (HG.out.next hB) hx5 h0)
      have e1 : IntKind.u64.wrap (x : Int) = x := IntWalk.u64_in _ (by omega)
      have e2 := clear_low x hx5 h0
      obtain ⟨s1, s2⟩ := list_step x hx5 h0
      have hst := HL.out
      rw [s1] at hst
      have hL8 : L.length ≤ 8 := by
        have h1 := congrArg List.length hst
        rw [List.length_append, List.length_cons] at h1
        have := listN_len x0
        omega
      have HST := hid hst
      have hX : L.map natV ++ [.int .i64 (lowN x : Int)] = (L ++ [lowN x]).map natV := by rw [List.map_append]; rfl
      have HX := hid hX
      generalize lowN x = k at *
      generalize x &&& (x - 1) = y at *
      have d1 : decide ((x : Int) > 0) = true := decide_eq_true (by omega)
      clear s1 hst hX
      go_wp2_with fail
      refine C.out.mono ?_
      rintro e w1 ⟨rfl, rfl⟩
      go_wp2_with (at_builtin; go_must (refine wpList_app _ rfl (.tmp 10) (.tmp 14) 38 rfl w.heap.size 3 (.int .i64 0) 8 Tryd.underlying38 Tryd.info3 rfl _ L.length _ rfl (hown.alloc _) (some ⟨wr.heap.size, 0, none⟩) 1 1 [.int .i64 _] rfl rfl (vals_new _ _ _ _ rfl) (fun h => by cases h) (by simp [Value.oneCell']) (by omega) (by omega) (by have := hB.size; simp; omega) ?_))
      intro v' w1 hown' hgrow _
      rw [HX.out] at hown'
      have hB' := below_app (hB.alloc hB.size _) hgrow (hown.alloc _) (by have := hB.size; simp; omega) (Nat.le_refl _)
      have HO' := hid hown'
      clear hown' hgrow hown
      go_wp2_with fail
      refine ⟨⟨y, L ++ [k], by omega, rfl, by simp; omega, hB', by simpa using HO'.out, ?_⟩, by simp [intOf]; omega⟩
      rw [Hid, HST.out, List.append_assoc]; rfl
end Go.Proofs.YthlgdakdjikjhaaDoor
