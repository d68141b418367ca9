/-
  Proved: the statement ClockFirst holds of the given program for every input, with no condition.
-/
import Derived.Test.YthlgdakdjikjhaaDoorLawFirst
import Derived.Test.YthlgdakdjikjhaaDoorRows
import Derived.WalkKit
import Derived.ProofKit
import Derived.OpenShut
import Derived.ShutString
import Derived.ChangeOld
import Derived.Below
import Derived.Laws.IdiomArrays
import Derived.SliceStrings
import Derived.Test.YthlgdakdjikjhaaDoorLaid
import Derived.Test.YthlgdakdjikjhaaDoorCards
import Derived.Test.YthlgdakdjikjhaaDoorTie
import Derived.SevenTiedAt
namespace Go.Proofs.YthlgdakdjikjhaaDoor.clockFirst
open Go.ChangeShapes Go.WideShapes Go.ChangeAt Go.RowKit
open Go.ChangeMaps (open_string shut_string)
set_option linter.unusedVariables false

theorem own : ownKnob Tryd.prog.godebug = none := by kernel_rfl
theorem laidOut : laidOutB Tryd.prog = true := by kernel_rfl
theorem cellsI : Tryd.prog.cellsOf 3 = 1 := by kernel_rfl
theorem cells33 : Tryd.prog.cellsOf 33 = 2 := by kernel_rfl
theorem list2 {α : Type} : ∀ l : List α, l.length = 2 → ∃ a b, l = [a, b]
  | [a, b], _ => ⟨a, b, rfl⟩

set_option maxRecDepth 100000 in
theorem lifted (os : Os) (started : os.Started) (H : Type) (enc : TypeId × Value → H) :
    ReturnsInHanded {} Tryd.checked os 11 .any (fun w args => (Rows.clockFirstSpec.pre enc Tryd.prog Tryd.f11 [] false w args ∧ laidMetH Tryd.prog laid2 w) ∧ sizedMet enc Tryd.prog Tryd.f11 (OpenSpec.ofChange Rows.clockFirstSpec) false w args)
      (Rows.clockFirstSpec.post enc Tryd.prog Tryd.f11 false true false false) := by
  refine returnsInHanded_of_change_and (C := Tryd.checked) (X := fun w _ => laidMetH Tryd.prog laid2 w) (fun _ _ _ hh h => h.of_heap hh) own started (by kernel_rfl) Tryd.func11
    (ChangeSpec.witness_shaped (enc := enc) (C := Tryd.checked) (os := os) (X := fun w _ => laidMetH Tryd.prog laid2 w) false (World.doorLaid Tryd.prog 400 os) #[.slice none 0 0, .agg #[.int .i64 0, .int .i64 0], .string ByteArray.empty] 8 rfl (World.shaped_of_RefB (by kernel_rfl) (by kernel_rfl)) (by kernel_rfl) (by kernel_rfl) (by kernel_rfl) (door_met os _)) ?_
  intro W base args ds gs before hval0 hW _ _ hL _
  have hval : ∀ (j : Nat) t v, Tryd.f11.params[j]? = some t → args[j]? = some v → Value.okWide Tryd.prog W .any base t v := hval0
  have hW' := hW
  obtain ⟨p, q, hA0, hV, rfl, hfz, hnd⟩ := hW
  have hA : DataW.TrodAll enc Tryd.prog W 0 (fun _ => true) true Tryd.f11.params.toList args.toList ds p := hA0
  rw [Tryd.params11] at hA hval
  obtain ⟨v0, vs0, d0, ds0, p0, q0, hargs, rfl, rfl, h0, r0⟩ := trodAll_cons hA
  obtain ⟨v1, vs1, d1, ds1, p1, q1, rfl, rfl, rfl, h1, r1⟩ := trodAll_cons r0
  obtain ⟨v2, vs2, d2, ds2, p2, q2, rfl, rfl, rfl, h2, r2⟩ := trodAll_cons r1
  obtain ⟨rfl, rfl, rfl⟩ := trodAll_nil r2
  obtain rfl : args = #[v0, v1, v2] := by cases args; simp_all
  obtain ⟨rfl, rfl⟩ := trodVars_none hV
  have k0 := h0
  have lt0 : ∀ x ∈ p0, x.block < W.heap.size := by obtain ⟨m, hm⟩ := k0; exact DataW.trod_lt m _ _ _ hm
  have k1 := h1
  have lt1 : ∀ x ∈ p1, x.block < W.heap.size := by obtain ⟨m, hm⟩ := k1; exact DataW.trod_lt m _ _ _ hm
  have k2 := h2
  have lt2 : ∀ x ∈ p2, x.block < W.heap.size := by obtain ⟨m, hm⟩ := k2; exact DataW.trod_lt m _ _ _ hm
  obtain ⟨a0, len0, cap0, rfl⟩ := okWide_slice Tryd.underlying22 (hval 0 22 v0 rfl rfl)
  obtain ⟨z0, w0⟩ : ∃ X, IsRows W a0 len0 cap0 X := by
    obtain ⟨fuel, hf⟩ := h0
    exact isRows_of Tryd.underlying22 Tryd.underlying38 Tryd.underlying3 (by kernel_rfl) (by kernel_rfl) hf
  obtain ⟨x1, w1, rfl⟩ : ∃ x : Nat → Int, (∀ c, -9223372036854775808 ≤ x c ∧ x c ≤ 9223372036854775807) ∧ v1 = .agg #[.int .i64 (x 0), .int .i64 (x 1)] := by
    obtain ⟨cs, rfl, hsz, -⟩ : ∃ cs, v1 = .agg cs ∧ cs.size = Tryd.prog.cellsOf 33 ∧ Row.okWide Tryd.prog W .any base 33 cs := by
      have := hval 1 33 v1 rfl rfl
      simpa [Value.okWide, Tryd.underlying33] using this
    rw [cells33] at hsz
    obtain ⟨l⟩ := cs
    have hl : l.length = 2 := by simpa using hsz
    obtain ⟨c0, c1, rfl⟩ := list2 l hl
    · obtain ⟨fuel, hf⟩ := h1
      obtain ⟨ys, m, -, -, -, hyl, hy⟩ := DataW.trod_array Tryd.underlying33 hf
      obtain ⟨y0, e0, u0⟩ : ∃ y : Int, c0 = .int .i64 y ∧ (Lit.int .i64 y).wf = true := by
        have hj := hy 0 (by omega)
        rw [List.getElem?_eq_getElem (by omega)] at hj
        simp [cellsI, Value.cells] at hj
        obtain ⟨y, e, -, u⟩ := DataW.trod_int Tryd.underlying3 hj
        exact ⟨y, by simpa using e, u⟩
      subst e0
      obtain ⟨y1, e1, u1⟩ : ∃ y : Int, c1 = .int .i64 y ∧ (Lit.int .i64 y).wf = true := by
        have hj := hy 1 (by omega)
        rw [List.getElem?_eq_getElem (by omega)] at hj
        simp [cellsI, Value.cells] at hj
        obtain ⟨y, e, -, u⟩ := DataW.trod_int Tryd.underlying3 hj
        exact ⟨y, by simpa using e, u⟩
      subst e1
      refine ⟨fun c => if c = 0 then y0 else if c = 1 then y1 else 0, fun c => ?_, rfl⟩
      dsimp only
      split
      · exact bounds_i64 u0
      split
      · exact bounds_i64 u1
      · omega
  obtain ⟨a2, rfl, -, -, w2⟩ := open_string Tryd.underlying9 (hval 2 9 v2 rfl rfl) h2
  clear hA0 hval0
  refine (first_walk a0 len0 cap0 z0 x1 a2 W (of_laid hL) w0 w1 w2).mono fun e W' ⟨he, bel⟩ => ?_
  subst he
  exact ⟨_, rfl, _, _, _, [], _, [], hW', trodAll_mk1 (shut_bool Tryd.underlying4 _), (trodAll_cons_mk (Below.trod laidOut (by kernel_rfl) (of_decide_eq_true (by kernel_rfl)) k0 bel lt0) (trodAll_cons_mk (Below.trod laidOut (by kernel_rfl) (of_decide_eq_true (by kernel_rfl)) k1 bel lt1) (trodAll_cons_mk (Below.trod laidOut (by kernel_rfl) (of_decide_eq_true (by kernel_rfl)) k2 bel lt2) trodAll_mk0))), rfl, bel.frame _, fun h => by cases h⟩

theorem over : Rows.clockFirstRow.holds Tryd.pinned (OpenSpec.ofChange Rows.clockFirstSpec) :=
  OpenClaim.holds_of_wide 11 Tryd.f11 rfl rfl rfl rfl rfl rfl rfl ⟨rfl, rfl, rfl, rfl, rfl⟩ rfl rfl rfl rfl rfl (by kernel_rfl) Tryd.func11 (by kernel_rfl)
    (of_decide_eq_true (by kernel_rfl)) (by unfold Func.isWrapper; first | (rw [if_pos (by decide +kernel)]; kernel_rfl) | (rw [if_neg (by decide +kernel)]; exact ⟨rfl, rfl⟩))
    (fun os started H enc _ => lifted os started H enc)

/-- THE STATEMENT -/
theorem proved : Rows.ClockFirstCardSaid :=
  Claim7.holds_tied_plain_at .later [] [.data, .data] true (true, "334643649faa9cab4d28e5e0698c4c08b14c4a8772dd14ad69d60a999747cb79") false
    over (fun _ h => by cases h) (by kernel_rfl) (fun _ h => by cases h) clockFirst_row_tie rfl ⟨rfl, rfl⟩ (by kernel_rfl) rfl
    (fun f fn hf hfn => by
      obtain rfl : f = 11 := Option.some.inj ((show Tryd.prog.funcNamed "lampbox/lampboxlaw10.ClockFirst" = some 11 by kernel_rfl).symm.trans hf) |>.symm
      obtain rfl : fn = Tryd.f11 := (Option.some.inj (Tryd.func11.symm.trans hfn)).symm
      exact ⟨by kernel_rfl, fun j t ht => by
        rw [Tryd.params11] at ht
        have hm : t ∈ [22, 33, 9] := by simpa using Array.mem_of_getElem? ht
        have hall : ([22, 33, 9].all fun u => !Tryd.prog.wantsStandIn u) = true := by kernel_rfl
        exact (show Tryd.prog.wantsStandIn t = false by simpa using List.all_eq_true.1 hall t hm)⟩)
    (by kernel_rfl)
#print axioms proved
end Go.Proofs.YthlgdakdjikjhaaDoor.clockFirst
