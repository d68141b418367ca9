/-
  The slow machines' words, computed.
-/
import Derived.Test.YthlgdakdjikjhaaDoorM
namespace Go.Proofs.YthlgdakdjikjhaaDoor

def cernB (n : Nat) : Bool := match firstE (slowM n) (allS (slowM n)) oneB with
  | some x => x.word.length == (n - 1) * (n - 1) && lowN x.set == 0
  | none => false
theorem cern_low : ∀ n, n < 8 → 2 ≤ n → cernB n = true := by decide +kernel
theorem cern_8 : cernB 8 = true := by decide +kernel
theorem cern_9 : cernB 9 = true := by decide +kernel
theorem cern_all (n : Nat) (h2 : 2 ≤ n) (h9 : n ≤ 9) : cernB n = true := by
  rcases (show n < 8 ∨ n = 8 ∨ n = 9 by omega) with h | h | h
  · exact cern_low n h h2
  · rw [h]; exact cern_8
  · rw [h]; exact cern_9
theorem slow_ok (n : Nat) (h1 : 1 ≤ n) (h9 : n ≤ 9) : OkM (slowM n) := by
  have hn : nst (slowM n) = n := by simp [nst, slowM, slowA_len]
  refine ⟨show 1 ≤ 2 by decide, show 2 ≤ 4 by decide, by omega, by omega, ?_, ?_⟩
  · intro r hr
    simp only [slowM, List.mem_cons, List.not_mem_nil, or_false] at hr
    rcases hr with rfl | rfl
    · rw [slowA_len, hn]
    · rw [slowB_len, hn]
  · intro r hr q hq
    rw [hn]
    simp only [slowM, List.mem_cons, List.not_mem_nil, or_false] at hr
    rcases hr with rfl | rfl
    · obtain ⟨x, hx, rfl⟩ := List.mem_map.1 hq
      exact Nat.mod_lt _ (by omega)
    · obtain ⟨x, hx, rfl⟩ := List.mem_map.1 hq
      have := Nat.mod_lt x (show max 1 (n - 1) > 0 by omega)
      omega
/-- The word of the slow machine. -/
theorem cern_word (n : Nat) (h2 : 2 ≤ n) (h9 : n ≤ 9) : ∃ s : ByteArray, s.size = (n - 1) * (n - 1) ∧ resetV (firstE (slowM n) (allS (slowM n)) oneB) = .tuple #[.string s, .int .i64 0, .int .i64 0] := by
  have h := cern_all n h2 h9
  unfold cernB at h
  cases hf : firstE (slowM n) (allS (slowM n)) oneB with
  | none => rw [hf] at h; cases h
  | some x =>
    rw [hf] at h
    simp only [Bool.and_eq_true, beq_iff_eq] at h
    exact ⟨Go.Proofs.YthlgdakdjikjhaaDoor.mkS x.word, h.1, by simp only [resetV, h.2]; rfl⟩
end Go.Proofs.YthlgdakdjikjhaaDoor
