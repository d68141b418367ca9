/-
  Maps with keys of two numbers.
-/
import Derived.Test.YtkmpdcckgibkhaaGreatG
namespace Go.Proofs.YtkmpdcckgibkhaaGreat
open Go.RowKit Go.ChangeMaps

def enc2 (x : Int × Int) : Value := .agg #[.int .i64 x.1, .int .i64 x.2]
theorem eqi (a b : Int) (w : World) : (Op.equalIn 9999 3 (.int .i64 a) (.int .i64 b)).run Tryz.prog w = .ok (a == b) w :=
  run_equalIn_int w 9998 3 .i64 .i64 a b Tryz.underlying3
theorem kt105 : KT Tryz.prog 105 enc2 := by
  refine KT.wide (by simp [Tryz.underlying105]) ?_ ?_ ?_
  · rintro ⟨a0, a1⟩ ⟨b0, b1⟩ w
    have hu : ∀ w, (underlying 105).run Tryz.prog w = .ok _ w := fun w => Tryz.runUnderlying105 w
    have hs : ∀ w, (sizeOf 3).run Tryz.prog w = .ok 1 w := fun w => Tryz.sizeOf3 w
    have hg : ∀ w, (isAgg 3).run Tryz.prog w = .ok false w := fun w => Tryz.isAgg3 w
    rw [Op.equal, show Op.maxDepth = 9999 + 1 from rfl, Op.equalIn]
    simp [enc2, hu, Sem.run_bind, go_sem, hs, hg, eqi]
    by_cases h0 : a0 = b0 <;> by_cases h1 : a1 = b1 <;> simp [h0, h1]
  · rintro em ⟨a0, a1⟩ w
    have hu : ∀ w, (underlying 105).run Tryz.prog w = .ok _ w := fun w => Tryz.runUnderlying105 w
    have hs : ∀ w, (sizeOf 3).run Tryz.prog w = .ok 1 w := fun w => Tryz.sizeOf3 w
    have hg : ∀ w, (isAgg 3).run Tryz.prog w = .ok false w := fun w => Tryz.isAgg3 w
    have hk : ∀ (x : Int) (w : World), (Instr.checkKey em 9999 3 (.int .i64 x)).run Tryz.prog w = .ok () w := fun x w => MapKept.run_checkKey Tryz.underlying3 (show MapKept.IsKey (.int .i64) (.int .i64 x) from rfl) em 9998
    rw [show (10000 : Nat) = 9999 + 1 from rfl, Instr.checkKey]
    simp [enc2, hu, Sem.run_bind, go_sem, hs, hg, hk]
  · rintro ⟨a0, a1⟩
    simp [enc2, Instr.sameBits]
theorem kt53 : KT Tryz.prog 53 enc2 := by
  refine KT.wide (by simp [Tryz.underlying53]) ?_ ?_ ?_
  · rintro ⟨a0, a1⟩ ⟨b0, b1⟩ w
    have hu : ∀ w, (underlying 53).run Tryz.prog w = .ok (.array 2 3) w := fun w => Tryz.runUnderlying53 w
    have hs : ∀ w, (sizeOf 3).run Tryz.prog w = .ok 1 w := fun w => Tryz.sizeOf3 w
    have hg : ∀ w, (isAgg 3).run Tryz.prog w = .ok false w := fun w => Tryz.isAgg3 w
    rw [Op.equal, show Op.maxDepth = 9999 + 1 from rfl, Op.equalIn]
    simp [enc2, hu, Sem.run_bind, go_sem, hs, List.range'_succ, hg, eqi]
    by_cases h0 : a0 = b0 <;> by_cases h1 : a1 = b1 <;> simp [h0, h1, go_sem]
  · rintro em ⟨a0, a1⟩ w
    have hu : ∀ w, (underlying 53).run Tryz.prog w = .ok (.array 2 3) w := fun w => Tryz.runUnderlying53 w
    have hs : ∀ w, (sizeOf 3).run Tryz.prog w = .ok 1 w := fun w => Tryz.sizeOf3 w
    have hg : ∀ w, (isAgg 3).run Tryz.prog w = .ok false w := fun w => Tryz.isAgg3 w
    have hk : ∀ (x : Int) (w : World), (Instr.checkKey em 9999 3 (.int .i64 x)).run Tryz.prog w = .ok () w := fun x w => MapKept.run_checkKey Tryz.underlying3 (show MapKept.IsKey (.int .i64) (.int .i64 x) from rfl) em 9998
    rw [show (10000 : Nat) = 9999 + 1 from rfl, Instr.checkKey]
    simp [enc2, hu, Sem.run_bind, go_sem, hs, List.range'_succ, hg, hk]
  · rintro ⟨a0, a1⟩
    simp [enc2, Instr.sameBits]

end Go.Proofs.YtkmpdcckgibkhaaGreat
