/-
  Proved: the statement MarksAgree holds of the given program for every input, with no condition.
-/
import Derived.Test.YtancficmkkdnfaaLawAgree
import Derived.Test.YtancficmkkdnfaaRows
import Derived.WalkKit
import Derived.ProofKit
import Derived.OpenShut
import Derived.ShutString
import Derived.ChangeOld
import Derived.Below
import Derived.Laws.IdiomArrays
import Derived.SliceStrings
namespace Go.Proofs.Ytancficmkkdnfaa.marksAgree
open Go.ChangeShapes Go.WideShapes Go.ChangeAt Go.RowKit
open Go.ChangeMaps (open_string shut_string)
set_option linter.unusedVariables false

theorem own : ownKnob Try.prog.godebug = none := by kernel_rfl
theorem laidOut : laidOutB Try.prog = true := by kernel_rfl
theorem cellsI : Try.prog.cellsOf 3 = 1 := by kernel_rfl
theorem cells37 : Try.prog.cellsOf 37 = 2 := by kernel_rfl
theorem list2 {α : Type} : ∀ l : List α, l.length = 2 → ∃ a b, l = [a, b]
  | [a, b], _ => ⟨a, b, rfl⟩

set_option maxRecDepth 100000 in
theorem lifted (os : Os) (started : os.Started) (H : Type) (enc : TypeId × Value → H) :
    ReturnsInHanded {} Try.checked os 14 .any (Rows.marksAgreeSpec.pre6 enc Try.prog Try.f14 Rows.marksAgreeRow.domain false) (Rows.marksAgreeSpec.post enc Try.prog Try.f14 false true false false) := by
  refine returnsInHanded_of_change (C := Try.checked) own started (by kernel_rfl) Try.func14
    (ChangeSpec.witness6 (enc := enc) (C := Try.checked) false ⟨#[], #[.string ByteArray.empty, .agg #[.int .i64 0, .int .i64 0]], []⟩ 8 (by kernel_rfl) (by kernel_rfl) (by kernel_rfl) (by kernel_rfl)) ?_
  intro W base args ds gs before hval0 hW hcnd _
  have hval : ∀ (j : Nat) t v, Try.f14.params[j]? = some t → args[j]? = some v → Value.okWide Try.prog W .any base t v := hval0
  have hW' := hW
  obtain ⟨p, q, hA0, hV, rfl, hfz, hnd⟩ := hW
  have hA : DataW.TrodAll enc Try.prog W 0 (fun _ => true) true Try.f14.params.toList args.toList ds p := hA0
  rw [Try.params14] at hA hval
  obtain ⟨v0, vs0, d0, ds0, p0, q0, hargs, rfl, rfl, h0, r0⟩ := trodAll_cons hA
  obtain ⟨v1, vs1, d1, ds1, p1, q1, rfl, rfl, rfl, h1, r1⟩ := trodAll_cons r0
  obtain ⟨rfl, rfl, rfl⟩ := trodAll_nil r1
  obtain rfl : args = #[v0, v1] := by cases args; simp_all
  obtain ⟨rfl, rfl⟩ := trodVars_none hV
  have k0 := h0
  have lt0 : ∀ x ∈ p0, x.block < W.heap.size := by obtain ⟨m, hm⟩ := k0; exact DataW.trod_lt m _ _ _ hm
  have k1 := h1
  have lt1 : ∀ x ∈ p1, x.block < W.heap.size := by obtain ⟨m, hm⟩ := k1; exact DataW.trod_lt m _ _ _ hm
  obtain ⟨a0, rfl, -, -, w0⟩ := open_string Try.underlying9 (hval 0 9 v0 rfl rfl) h0
  obtain ⟨x1, w1, rfl⟩ : ∃ x : Nat → Int, (∀ c, -9223372036854775808 ≤ x c ∧ x c ≤ 9223372036854775807) ∧ v1 = .agg #[.int .i64 (x 0), .int .i64 (x 1)] := by
    obtain ⟨cs, rfl, hsz, -⟩ : ∃ cs, v1 = .agg cs ∧ cs.size = Try.prog.cellsOf 37 ∧ Row.okWide Try.prog W .any base 37 cs := by
      have := hval 1 37 v1 rfl rfl
      simpa [Value.okWide, Try.underlying37] using this
    rw [cells37] at hsz
    obtain ⟨l⟩ := cs
    have hl : l.length = 2 := by simpa using hsz
    obtain ⟨c0, c1, rfl⟩ := list2 l hl
    · obtain ⟨fuel, hf⟩ := h1
      obtain ⟨ys, m, -, -, -, hyl, hy⟩ := DataW.trod_array Try.underlying37 hf
      obtain ⟨y0, e0, u0⟩ : ∃ y : Int, c0 = .int .i64 y ∧ (Lit.int .i64 y).wf = true := by
        have hj := hy 0 (by omega)
        rw [List.getElem?_eq_getElem (by omega)] at hj
        simp [cellsI, Value.cells] at hj
        obtain ⟨y, e, -, u⟩ := DataW.trod_int Try.underlying3 hj
        exact ⟨y, by simpa using e, u⟩
      subst e0
      obtain ⟨y1, e1, u1⟩ : ∃ y : Int, c1 = .int .i64 y ∧ (Lit.int .i64 y).wf = true := by
        have hj := hy 1 (by omega)
        rw [List.getElem?_eq_getElem (by omega)] at hj
        simp [cellsI, Value.cells] at hj
        obtain ⟨y, e, -, u⟩ := DataW.trod_int Try.underlying3 hj
        exact ⟨y, by simpa using e, u⟩
      subst e1
      refine ⟨fun c => if c = 0 then y0 else if c = 1 then y1 else 0, fun c => ?_, rfl⟩
      dsimp only
      split
      · exact bounds_i64 u0
      split
      · exact bounds_i64 u1
      · omega
  clear hA0 hval0
  refine (agree_walk a0 x1 W w0 w1).mono fun e W' ⟨he, bel⟩ => ?_
  subst he
  exact ⟨_, rfl, _, _, _, [], _, [], hW', trodAll_mk1 (shut_bool Try.underlying4 _), (trodAll_cons_mk (Below.trod laidOut (by kernel_rfl) (of_decide_eq_true (by kernel_rfl)) k0 bel lt0) (trodAll_cons_mk (Below.trod laidOut (by kernel_rfl) (of_decide_eq_true (by kernel_rfl)) k1 bel lt1) trodAll_mk0)), rfl, bel.frame _, fun h => by cases h⟩

theorem over : Rows.marksAgreeRow.holds Try.pinned (OpenSpec.ofChange Rows.marksAgreeSpec) :=
  OpenClaim.holds_of_wide 14 Try.f14 rfl rfl rfl rfl rfl rfl rfl ⟨rfl, rfl, rfl, rfl, rfl⟩ rfl rfl rfl rfl rfl (by kernel_rfl) Try.func14 (by kernel_rfl)
    (of_decide_eq_true (by kernel_rfl)) (by unfold Func.isWrapper; first | (rw [if_pos (by decide +kernel)]; kernel_rfl) | (rw [if_neg (by decide +kernel)]; exact ⟨rfl, rfl⟩))
    (fun os started H enc _ => lifted os started H enc)

/-- THE STATEMENT -/
theorem proved : Rows.MarksAgreeSaid := over
#print axioms proved
end Go.Proofs.Ytancficmkkdnfaa.marksAgree
