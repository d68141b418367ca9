/-
  Append to a row of parts of any size; where the row lies afterwards.
-/
import Derived.Test.YthlgdakdjikjhaaDoorBase
namespace Go.Proofs.YthlgdakdjikjhaaDoor
open Go.RowKit

/-- 'append(v, xs...)' for parts of 'size' cells: v is nil or the call's own; xs lies at an address. -/
theorem run_appN {P : Program} (w : World) (base : Nat) (t ty e : TypeId) (z : Value) (size bytes : Nat) (ht : P.underlying t = some (.slice e)) (hi : (P.info? e).map (fun i => (i.zero, i.size, i.bytes)) = some (some z, size, bytes))
    (hz : z.cells.size = size) (hsz : 0 < size) (v : Value) (n : Nat) (xs : List Value) (hown : w.ownsRow base e size v n xs) (ad : Addr) (m c : Nat) (news : List Value) (hm : news.length = m * size) (hcells : ∀ j u, news[j]? = some u → w.cell? (ad.add j) = some u) (h1 : ∀ u ∈ news, u.oneCell' = true)
    (h63 : n + m ≤ 1000000000) (hb8 : bytes ≤ 128) (hbase : base ≤ w.heap.size) (hm0 : 0 < m) :
    ∃ v' w', (Builtin.append_ #[t, t] ty #[v, .slice (some ad) m c]).run P w = .ok v' w' ∧ w'.ownsRow base e size v' (n + m) (xs ++ news) ∧ w.grownBy w' v.ownBlock ∧ (v'.ownBlock = v.ownBlock ∨ v'.ownBlock = some w.heap.size) := by
  obtain ⟨i, h2, hz0, hz1, hz2⟩ : ∃ i, P.info? e = some i ∧ i.zero = some z ∧ i.size = size ∧ i.bytes = bytes := by
    cases h : P.info? e with
    | none => rw [h] at hi; cases hi
    | some i => rw [h] at hi; simp at hi; exact ⟨i, rfl, hi.1, hi.2.1, hi.2.2⟩
  have hbb : (n + m) * bytes ≤ 140737488355328 := by
    calc (n + m) * bytes ≤ 1000000000 * 128 := Nat.mul_le_mul h63 hb8
      _ ≤ _ := by omega
  obtain ⟨v', w', hrun, r1, r2, -⟩ := run_append_own (P := P) w base t ty e i z size bytes ht h2 hz0 hz1 hz2 hz hsz v n xs hown ad m c news hm hcells h1 (by unfold maxLen; omega) hbb hbase
  refine ⟨v', w', hrun, r1, r2, ?_⟩
  have hby : (n + m) * i.bytes ≤ 140737488355328 := by rw [hz2]; exact hbb
  rcases hown.2 with ⟨rfl, rfl⟩ | ⟨g, cap, cur, rfl, _, hg, hnc, _, hcs, _⟩
  · have e := run_append_nil (P := P) w t ty e i z ht h2 hz0 ad m c news (by rw [hz1]; omega) hcells (by omega) (by omega) (by have := hby; rw [Nat.zero_add] at this; omega)
    have e2 := e.symm.trans hrun
    simp only [Result.ok.injEq] at e2
    exact .inr (by rw [← e2.1]; rfl)
  · by_cases hroom : n + m ≤ cap
    · have e := run_append_room (P := P) w t ty e i ht h2 g n cap cur hg ad m c news (by rw [hz1]; omega) hcells h1 hroom (by rw [hz1, hm, ← Nat.add_mul, hcs]; exact Nat.mul_le_mul_right _ hroom)
      have e2 := e.symm.trans hrun
      simp only [Result.ok.injEq] at e2
      exact .inl (by rw [← e2.1]; rfl)
    · have holds : ∀ j u, xs[j]? = some u → w.cell? ((⟨g, 0, none⟩ : Addr).add j) = some u := hown.cells (g := g) rfl
      have e := run_append_grow (P := P) w t ty e i z ht h2 hz0 ⟨g, 0, none⟩ n cap xs (by rw [hown.1, hz1]) holds ad m c news (by rw [hz1]; omega) hcells (by omega) (by omega) (growslice_fits (by omega) hby)
      have e2 := e.symm.trans hrun
      simp only [Result.ok.injEq] at e2
      exact .inr (by rw [← e2.1]; rfl)

theorem wpList_appN {P : Program} (w : World) {ops : Array Oper} {rest : List Oper} {o : Oper} {a : Act} {Q : Exit → Act → World → Prop}
    (hg : o.guard = none) (s x : Operand) (t : TypeId) (hop : o.op = Op.call { callee := Callee.builtin Builtin.append, args := #[s, x], argTypes := #[t, t] })
    (base : Nat) (e : TypeId) (z : Value) (size bytes : Nat) (ht : P.underlying t = some (.slice e)) (hi : (P.info? e).map (fun i => (i.zero, i.size, i.bytes)) = some (some z, size, bytes))
    (hz : z.cells.size = size) (hsz : 0 < size) (v : Value) (n : Nat) (xs : List Value) (hs : a.eval s = v) (hown : w.ownsRow base e size v n xs) (ad : Addr) (m c : Nat) (news : List Value) (hx : a.eval x = .slice (some ad) m c) (hm : news.length = m * size) (hcells : ∀ j u, news[j]? = some u → w.cell? (ad.add j) = some u) (h1 : ∀ u ∈ news, u.oneCell' = true)
    (h63 : n + m ≤ 1000000000) (hb8 : bytes ≤ 128) (hbase : base ≤ w.heap.size) (hm0 : 0 < m)
    (hK : ∀ v' w', w'.ownsRow base e size v' (n + m) (xs ++ news) → w.grownBy w' v.ownBlock → (v'.ownBlock = v.ownBlock ∨ v'.ownBlock = some w.heap.size) → wpList P ops Q rest (a.put o.dst v') w') :
    wpList P ops Q (o :: rest) a w := by
  refine wpList_plain hg fun K hK' => ?_
  obtain ⟨v', w', hrun, r1, r2, r3⟩ := run_appN (P := P) w base t o.type e z size bytes ht hi hz hsz v n xs hown ad m c news hm hcells h1 h63 hb8 hbase hm0
  unfold Oper.wp
  simp [execOp, hop, resolve, invoke, builtin, hs, hx, hrun, Result.andThen]
  exact hK' _ _ (hK v' w' r1 r2 r3)
end Go.Proofs.YthlgdakdjikjhaaDoor
