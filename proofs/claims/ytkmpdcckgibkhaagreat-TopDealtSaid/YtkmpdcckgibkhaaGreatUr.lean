/-
  What comes in: slices of integers, slices of slices of integers.
-/
import Derived.Test.YtkmpdcckgibkhaaGreatF
import Derived.Deep.Matrix
import Derived.ProofKit
import Derived.OpenShut
namespace Go.Proofs.YtkmpdcckgibkhaaGreat
open Go.RowKit

theorem vals_addr {w : World} {x : Addr} {l : List Value} (h : ∀ i u, l[i]? = some u → w.cell? (x.add i) = some u) : Vals w (some x) l := by
  cases hl : l with
  | nil => exact Vals.nil _ _
  | cons v r =>
    have hc0 := h 0 v (by rw [hl]; rfl)
    rw [← hl]
    obtain ⟨b, o, sp⟩ := x
    have hadd0 : (⟨b, o, sp⟩ : Addr).add 0 = ⟨b, o, sp⟩ := rfl
    rw [hadd0] at hc0
    have hsp : sp = none := by
      cases sp with
      | none => rfl
      | some k => simp only [World.cell?, Option.isSome_some, if_true] at hc0; split at hc0 <;> cases hc0
    subst hsp
    have hlt : b < w.heap.size := by
      rcases Nat.lt_or_ge b w.heap.size with h | h
      · exact h
      · simp [World.cell?, Array.getElem?_eq_none h] at hc0
    refine .inr ⟨b, o, rfl, hlt, fun i u hu => ?_⟩
    have := h i u hu
    rw [show (⟨b, o, none⟩ : Addr).add i = ⟨b, o + i, none⟩ by unfold Addr.add; split <;> simp_all] at this
    exact this

/-- A slice of integers that came in: nil, or a row of cells. -/
def IsRow (k : IntKind) (w : World) (a : Option Addr) (len cap : Nat) (zs : List Int) : Prop :=
  (a = none ∧ len = 0 ∧ cap = 0 ∧ zs = []) ∨
  ∃ x, a = some x ∧ len ≤ cap ∧ cap ≤ maxLen ∧ zs.length = cap ∧ (∀ i, i < zs.length → w.cell? (x.add i) = some (.int k (zs.getD i 0))) ∧ ∀ n ∈ zs, (Lit.int k n).wf = true

theorem IsRow.ints {w : World} {a : Option Addr} {len cap : Nat} {zs : List Int} (h : IsRow .i64 w a len cap zs) :
    Ints w a (zs.take len) ∧ (zs.take len).length = len ∧ (a = none → cap = 0) ∧ len ≤ cap ∧ cap ≤ maxLen := by
  rcases h with ⟨rfl, rfl, rfl, rfl⟩ | ⟨x, rfl, h1, h2, h3, h4, h5⟩
  · exact ⟨Ints.nil _ _, rfl, fun _ => rfl, Nat.le_refl _, by decide⟩
  · refine ⟨vals_addr fun i u hu => ?_, by rw [List.length_take]; omega, (fun h => by cases h), h1, h2⟩
    rw [List.getElem?_map, List.getElem?_take] at hu
    split at hu
    · rename_i hi
      have hiz : i < zs.length := by omega
      rw [List.getElem?_eq_getElem hiz] at hu
      cases hu
      rw [h4 i hiz]; simp [List.getD, List.getElem?_eq_getElem hiz]
    · cases hu

theorem IsRow.bounds {w : World} {a : Option Addr} {len cap : Nat} {zs : List Int} (h : IsRow .i64 w a len cap zs) : ∀ n ∈ zs, -9223372036854775808 ≤ n ∧ n ≤ 9223372036854775807 := by
  rcases h with ⟨rfl, rfl, rfl, rfl⟩ | ⟨x, rfl, h1, h2, h3, h4, h5⟩
  · intro n hn; cases hn
  · intro n hn; exact bounds_i64 (h5 n hn)

/-- A slice of slices of integers that came in. -/
def IsRows (w : World) (a : Option Addr) (len cap : Nat) (X : List (List Int)) : Prop :=
  X.length = len ∧ len ≤ maxLen ∧ len ≤ cap ∧ RowsAt w a X ∧ ∀ r ∈ X, r.length ≤ maxLen ∧ ∀ n ∈ r, -9223372036854775808 ≤ n ∧ n ≤ 9223372036854775807

theorem isRows_of {H : Type} {enc : TypeId × Value → H} {P : Program} {w : World} {base : Nat} {held : Bool} {t e q : TypeId} {fuel : Nat} {a : Option Addr} {len cap : Nat} {x : DataW H × List MemPlace}
    (ht : P.underlying t = some (.slice e)) (he : P.underlying e = some (.slice q)) (hq : P.underlying q = some (.int .i64)) (ce : P.cellsOf e = 1) (cq : P.cellsOf q = 1)
    (h : DataW.trod enc P w base (fun _ => true) held fuel t [.slice a len cap] = some x) : ∃ X, IsRows w a len cap X := by
  rcases Go.Deep.open_int_rows ht he hq ce cq h with ⟨hcs, -⟩ | ⟨a1, len1, cap1, A, L, C, Z, hcs, -, hl, hm, -, hr⟩
  · simp at hcs
    obtain ⟨rfl, rfl, rfl⟩ := hcs
    exact ⟨[], rfl, by decide, Nat.le_refl _, ⟨[], Vals.nil _ _, rfl, fun i r h => by simp at h⟩, by simp⟩
  · simp at hcs
    obtain ⟨rfl, rfl, rfl⟩ := hcs
    refine ⟨(List.range len).map fun r => (Z r).take (L r), by simp, by omega, hl, ⟨(List.range len).map fun r => Value.slice (A r) (L r) (C r), vals_addr fun i u hu => ?_, by simp, fun i r hi => ?_⟩, ?_⟩
    · rw [List.getElem?_map] at hu
      rcases Nat.lt_or_ge i len with h1 | h1
      · rw [List.getElem?_range h1] at hu
        cases hu
        exact (hr i (by omega)).1
      · rw [List.getElem?_eq_none (by simp; omega)] at hu; cases hu
    · rw [List.getElem?_map] at hi
      rcases Nat.lt_or_ge i len with h1 | h1
      · rw [List.getElem?_range h1] at hi
        cases hi
        obtain ⟨k1, k2, k3, k4, k5, k6, k7⟩ := hr i (by omega)
        have hlen : ((Z i).take (L i)).length = L i := by rw [List.length_take]; omega
        refine ⟨A i, C i, ?_, ?_, k6, by rw [hlen]; exact k2⟩
        · rw [List.getElem?_map, List.getElem?_range h1, hlen]; rfl
        · cases hA : A i with
          | none =>
            have := k6 hA
            have h0 : (Z i).take (L i) = [] := List.eq_nil_of_length_eq_zero (by omega)
            show Ints w none ((Z i).take (L i))
            rw [h0]
            exact Ints.nil _ _
          | some y =>
            refine vals_addr fun j u hu => ?_
            rw [List.getElem?_map, List.getElem?_take] at hu
            split at hu
            · rename_i hj
              have hjz : j < (Z i).length := by omega
              rw [List.getElem?_eq_getElem hjz] at hu
              cases hu
              rw [(k7 y hA).2 j (by omega)]; simp [List.getD, List.getElem?_eq_getElem hjz]
            · cases hu
      · rw [List.getElem?_eq_none (by simp; omega)] at hi; cases hi
    · intro r hr'
      obtain ⟨i, hi, rfl⟩ := List.mem_map.1 hr'
      have hi := List.mem_range.1 hi
      obtain ⟨k1, k2, k3, k4, k5, k6, k7⟩ := hr i (by omega)
      exact ⟨by rw [List.length_take]; omega, fun n hn => bounds_i64 (k5 n (List.mem_of_mem_take hn))⟩

end Go.Proofs.YtkmpdcckgibkhaaGreat
