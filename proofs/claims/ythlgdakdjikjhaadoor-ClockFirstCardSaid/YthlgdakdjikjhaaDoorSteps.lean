/-
  Regions that draw their order, walked operation by operation. No program.
-/
import Derived.Test.YthlgdakdjikjhaaDoorBase
import Derived.BigRegion
namespace Go.Proofs.YthlgdakdjikjhaaDoor

section
variable {P : Program} {md : Region.Mode} {ops : Array Oper} {Q : Exit → Act → World → Prop}
/-- An operation that yields in whatever world is taken first; where its value goes is written out. -/
theorem take_d {fuel : Nat} {listed : Array Bool} {a : Act} {w : World} (i : Nat) (d : Option Nat) (v : Value) (hs : Region.noSelect ops = true) (hf : Region.free md ops listed i = true)
    (hr : (Region.ready md ops listed).contains i = true) (hQ : ∀ c a w, Q (.panic c) (a.put d v) w → Q (.panic c) a w) (hy : ∃ oi, ops[i]? = some oi ∧ oi.dst = d ∧ Yields P ops oi v a)
    (h : wpAny P md ops Q fuel (listed.setIfInBounds i true) (a.put d v) w) : wpAny P md ops Q (fuel + 1) listed a w := by
  obtain ⟨oi, h1, rfl, h2⟩ := hy
  exact wpAny_take h1 hs hf hr hQ h2 h
/-- An operation that its guard passes over, where no other one is ready. -/
theorem skip_d {fuel : Nat} {listed : Array Bool} {a : Act} {w : World} (i : Nat) (d : Option Nat) (hr : Region.ready md ops listed = [i]) (hi : ∃ oi, ops[i]? = some oi ∧ oi.dst = d ∧ Region.wanted oi (yielded ops a.tmps) = false)
    (h : wpAny P md ops Q fuel (listed.setIfInBounds i true) (a.put d undef) w) : wpAny P md ops Q (fuel + 1) listed a w := by
  obtain ⟨oi, h1, rfl, h2⟩ := hi
  exact wpAny_ready hr (by simp) (BigFrame.allReady_skip h1 h2 h AllReady.nil)
end
end Go.Proofs.YthlgdakdjikjhaaDoor
