/-
  Walks: copies of lists.
-/
import Derived.Test.YthlgdakdjikjhaaDoorM
namespace Go.Proofs.YthlgdakdjikjhaaDoor
open Go.RowKit Go.ChangeMaps
attribute [local go_sem] Oper.semAt_some

/-- What a call returns: a new slice that reads as a list. -/
def RetI (l : List Int) (w : World) (e : Ending) (w' : World) : Prop := ∃ a c, e = .returned (.slice a l.length c) ∧ Hid (w'.ownsRow w.heap.size 3 1 (.slice a l.length c) l.length (l.map (Value.int .i64))) ∧ Below w.heap.size w w'

set_option maxHeartbeats 400000 in
theorem listc_any (a : Option Addr) (c : Nat) (l : List Int) (w : World) (ha : Ints w a l) (hc : l.length ≤ c) (hn : a = none → c = 0) (hl : l.length ≤ 9223372036854775807) :
    Calls Tryd.prog 30 #[.slice a l.length c] w (RetI (l.take 11) w) := by
  have hT : Ints w a (l.take 11) := ha.take 11
  have hz : a = none → l.length = 0 ∧ c = 0 := fun h => by have := hn h; omega
  have HN := hid hz
  clear hn hz
  have hm : (l.take 11).length = min 11 l.length := List.length_take
  have HM := hid hm
  clear hm
  by_cases h0 : 11 < l.length
  · have hm1 : min (l.length : Int) 11 = 11 := by omega
    go_enter Tryd.func30, Tryd.ntmps30
    go_wp2_with (at_builtin; go_must (refine wpList_app _ rfl (.tmp 4) (.tmp 9) 38 rfl w.heap.size 3 (.int .i64 0) 8 Tryd.underlying38 Tryd.info3 rfl _ 0 [] rfl (World.ownsRow_nil _ _ _ _) a 11 c _ rfl ?_ hT ?_ (ints_one _) (by omega) (by omega) (Nat.le_refl _) ?_))
    · rw [List.length_map, HM.out]; omega
    · intro h; have := (HN.out h); omega
    · intro v' w1 hown hgrow _
      have h11 : (l.take 11).length = 11 := by rw [HM.out]; omega
      replace hown : w1.ownsRow w.heap.size 3 1 v' 11 ((l.take 11).map (Value.int .i64)) := by simpa using hown
      obtain ⟨a', c', rfl, -, -⟩ := ownsRow_vals hown
      rw [List.length_map, h11] at hown ⊢
      have HO := hid hown
      have HG := hid hgrow
      clear hown hgrow
      go_wp2_with fail
      go_ret
      refine ⟨a', c', by rw [h11]; rfl, by rw [h11]; exact HO, (Below.refl _ w).grown HG.out (Nat.le_refl _) (by simp [Value.ownBlock])⟩
  · have hm1 : min (l.length : Int) 11 = (l.length : Int) := by omega
    have ht : l.take 11 = l := List.take_of_length_le (by omega)
    rw [ht] at hT ⊢
    go_enter Tryd.func30, Tryd.ntmps30
    go_wp2_with (at_builtin; go_must (refine wpList_app _ rfl (.tmp 4) (.tmp 9) 38 rfl w.heap.size 3 (.int .i64 0) 8 Tryd.underlying38 Tryd.info3 rfl _ 0 [] rfl (World.ownsRow_nil _ _ _ _) a l.length c _ rfl ?_ hT ?_ (ints_one _) (by omega) (by omega) (Nat.le_refl _) ?_))
    · rw [List.length_map]
    · exact HN.out
    · intro v' w1 hown hgrow _
      replace hown : w1.ownsRow w.heap.size 3 1 v' l.length (l.map (Value.int .i64)) := by simpa using hown
      obtain ⟨a', c', rfl, -, -⟩ := ownsRow_vals hown
      rw [List.length_map] at hown ⊢
      have HO := hid hown
      have HG := hid hgrow
      clear hown hgrow
      go_wp2_with fail
      go_ret
      refine ⟨a', c', rfl, HO, (Below.refl _ w).grown HG.out (Nat.le_refl _) (by simp [Value.ownBlock])⟩
end Go.Proofs.YthlgdakdjikjhaaDoor
