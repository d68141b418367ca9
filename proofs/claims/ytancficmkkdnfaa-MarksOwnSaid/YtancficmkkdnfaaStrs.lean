/-
  Rows of strings: what comes in, and what is appended. No program.
-/
import Derived.Test.YtancficmkkdnfaaG
import Derived.Deep.RegionLaw
namespace Go.Proofs.Ytancficmkkdnfaa
open Go.RowKit

/-- A slice of strings that came in: nil, or a row of cells. -/
def IsStrs (w : World) (a : Option Addr) (len cap : Nat) (ss : List ByteArray) : Prop :=
  (a = none ∧ len = 0 ∧ cap = 0 ∧ ss = []) ∨
  ∃ x, a = some x ∧ len ≤ cap ∧ cap ≤ maxLen ∧ ss.length = cap ∧ (∀ i, i < ss.length → w.cell? (x.add i) = some (.string (ss.getD i ByteArray.empty))) ∧ ∀ s ∈ ss, s.size ≤ maxLen

theorem strV_of (s : ByteArray) : strV s.data.toList = .string s := by rw [strV, mkS_of]
theorem IsStrs.strs {w : World} {a : Option Addr} {len cap : Nat} {ss : List ByteArray} (h : IsStrs w a len cap ss) :
    Strs w a ((ss.take len).map (·.data.toList)) ∧ ((ss.take len).map (·.data.toList)).length = len ∧ (a = none → cap = 0) ∧ len ≤ cap ∧ cap ≤ maxLen ∧ ∀ x ∈ (ss.take len).map (·.data.toList), x.length ≤ maxLen := by
  rcases h with ⟨rfl, rfl, rfl, rfl⟩ | ⟨x, rfl, h1, h2, h3, h4, h5⟩
  · exact ⟨Vals.nil _ _, rfl, fun _ => rfl, Nat.le_refl _, by decide, by simp⟩
  · refine ⟨?_, by rw [List.length_map, List.length_take]; omega, (fun h => by cases h), h1, h2, ?_⟩
    · by_cases h0 : ss.length = 0
      · left; rw [List.eq_nil_of_length_eq_zero h0]; simp
      have hc0 := h4 0 (by omega)
      obtain ⟨b, o, sp⟩ := x
      have hadd0 : (⟨b, o, sp⟩ : Addr).add 0 = ⟨b, o, sp⟩ := rfl
      rw [hadd0] at hc0
      have hsp : sp = none := by
        cases sp with
        | none => rfl
        | some k => simp only [World.cell?, Option.isSome_some, if_true] at hc0; split at hc0 <;> cases hc0
      subst hsp
      have hlt : b < w.heap.size := by
        rcases Nat.lt_or_ge b w.heap.size with h | h
        · exact h
        · simp [World.cell?, Array.getElem?_eq_none h] at hc0
      refine .inr ⟨b, o, rfl, hlt, fun i u hu => ?_⟩
      rw [List.map_map, List.getElem?_map, List.getElem?_take] at hu
      split at hu
      · rename_i hi
        have hiz : i < ss.length := by omega
        rw [List.getElem?_eq_getElem hiz] at hu
        have := h4 i hiz
        rw [show (⟨b, o, none⟩ : Addr).add i = ⟨b, o + i, none⟩ by unfold Addr.add; split <;> simp_all] at this
        rw [this]
        simp only [Option.map_some, Function.comp_apply, strV_of] at hu
        rw [← hu]; simp [List.getD, List.getElem?_eq_getElem hiz]
      · cases hu
    · intro y hy
      obtain ⟨s, hs, rfl⟩ := List.mem_map.1 hy
      have := h5 s (List.mem_of_mem_take hs)
      rw [bytes_len]; exact this

/-- 'append' of one-cell values of any size: v is nil or the call's own; xs, nil or not, reads as 'news'. -/
theorem run_appS {P : Program} (w : World) (base : Nat) (t ty e : TypeId) (z : Value) (bytes : Nat) (ht : P.underlying t = some (.slice e)) (hi : (P.info? e).map (fun i => (i.zero, i.size, i.bytes)) = some (some z, 1, bytes))
    (hz : z.cells.size = 1) (v : Value) (n : Nat) (xs : List Value) (hown : w.ownsRow base e 1 v n xs) (ad : Option Addr) (m c : Nat) (news : List Value) (hm : m = news.length) (hs : Vals w ad news) (hnil : ad = none → m = 0 ∧ c = 0) (h1 : ∀ u ∈ news, u.oneCell' = true)
    (h63 : n + m ≤ 1000000000) (hb8 : bytes ≤ 64) (hbase : base ≤ w.heap.size) :
    ∃ v' w', (Builtin.append_ #[t, t] ty #[v, .slice ad m c]).run P w = .ok v' w' ∧ w'.ownsRow base e 1 v' (n + m) (xs ++ news) ∧ w.grownBy w' v.ownBlock ∧ (v' = .slice none 0 0 ↔ v = .slice none 0 0 ∧ m = 0) := by
  obtain ⟨i, h2, hz0, hz1, hz2⟩ := info_parts hi
  subst hm
  cases ad with
  | none =>
    obtain ⟨hn0, rfl⟩ := hnil rfl
    have hnw : news = [] := List.eq_nil_of_length_eq_zero hn0
    subst hnw
    have hrun := run_append_owned_none (P := P) (w := w) base t ty e i 1 ht h2 v n xs hown
    exact ⟨v, w, hrun, by simpa using hown, ⟨rfl, rfl, rfl, Nat.le_refl _, fun _ _ _ => rfl⟩, by simp⟩
  | some ad =>
    refine run_append_own (P := P) w base t ty e i z 1 bytes ht h2 hz0 hz1 hz2 hz (by omega) v n xs hown ad _ c news (by simp) ?_ h1 (by unfold maxLen; omega) ?_ hbase
    · rcases hs with h | ⟨g, o, ha, _, hc⟩
      · subst h; intro j u hu; simp at hu
      · cases ha; exact vals_cells hc
    · calc (n + news.length) * bytes ≤ 1000000000 * 64 := Nat.mul_le_mul h63 hb8
        _ ≤ _ := by omega

theorem wpList_appS {P : Program} (w : World) {ops : Array Oper} {rest : List Oper} {o : Oper} {a : Act} {Q : Exit → Act → World → Prop}
    (hg : o.guard = none) (s x : Operand) (t : TypeId) (hop : o.op = Op.call { callee := Callee.builtin Builtin.append, args := #[s, x], argTypes := #[t, t] })
    (base : Nat) (e : TypeId) (z : Value) (bytes : Nat) (ht : P.underlying t = some (.slice e)) (hi : (P.info? e).map (fun i => (i.zero, i.size, i.bytes)) = some (some z, 1, bytes))
    (hz : z.cells.size = 1) (v : Value) (n : Nat) (xs : List Value) (hs : a.eval s = v) (hown : w.ownsRow base e 1 v n xs) (ad : Option Addr) (m c : Nat) (news : List Value) (hx : a.eval x = .slice ad m c) (hm : m = news.length) (hr : Vals w ad news) (hnil : ad = none → m = 0 ∧ c = 0) (h1 : ∀ u ∈ news, u.oneCell' = true)
    (h63 : n + m ≤ 1000000000) (hb8 : bytes ≤ 64) (hbase : base ≤ w.heap.size)
    (hK : ∀ v' w', w'.ownsRow base e 1 v' (n + m) (xs ++ news) → w.grownBy w' v.ownBlock → wpList P ops Q rest (a.put o.dst v') w') :
    wpList P ops Q (o :: rest) a w := by
  refine wpList_plain hg fun K hK' => ?_
  obtain ⟨v', w', hrun, r1, r2, r3⟩ := run_appS (P := P) w base t o.type e z bytes ht hi hz v n xs hown ad m c news hm hr hnil h1 h63 hb8 hbase
  unfold Oper.wp
  simp [execOp, hop, resolve, invoke, builtin, hs, hx, hrun, Result.andThen]
  exact hK' _ _ (hK v' w' r1 r2)

/-- .. in a region that draws its order. -/
theorem step_appS {P : Program} {ops : Array Oper} {o : Oper} {a : Act} {w : World} {K : Act → World → Prop} {Q : Exit → Act → World → Prop} {E : Prop}
    (hg : o.guard = none) (s x : Operand) (t : TypeId) (hop : o.op = Op.call { callee := Callee.builtin Builtin.append, args := #[s, x], argTypes := #[t, t] })
    (base : Nat) (e : TypeId) (z : Value) (bytes : Nat) (ht : P.underlying t = some (.slice e)) (hi : (P.info? e).map (fun i => (i.zero, i.size, i.bytes)) = some (some z, 1, bytes))
    (hz : z.cells.size = 1) (v : Value) (n : Nat) (xs : List Value) (hs : a.eval s = v) (hown : w.ownsRow base e 1 v n xs) (ad : Option Addr) (m c : Nat) (news : List Value) (hx : a.eval x = .slice ad m c) (hm : m = news.length) (hr : Vals w ad news) (hnil : ad = none → m = 0 ∧ c = 0) (h1 : ∀ u ∈ news, u.oneCell' = true)
    (h63 : n + m ≤ 1000000000) (hb8 : bytes ≤ 64) (hbase : base ≤ w.heap.size)
    (hK : ∀ v' w', w'.ownsRow base e 1 v' (n + m) (xs ++ news) → w.grownBy w' v.ownBlock → K (a.put o.dst v') w') :
    if Region.wanted o (yielded ops a.tmps) = true then Oper.wp P o a w K Q else E := by
  have hw : Region.wanted o (yielded ops a.tmps) = true := by simp [Region.wanted, hg]
  rw [if_pos hw]
  obtain ⟨v', w', hrun, r1, r2, -⟩ := run_appS (P := P) w base t o.type e z bytes ht hi hz v n xs hown ad m c news hm hr hnil h1 h63 hb8 hbase
  unfold Oper.wp
  simp [execOp, hop, resolve, invoke, builtin, hs, hx, hrun, Result.andThen]
  exact hK v' w' r1 r2

theorem strV_one (l : List (List UInt8)) : ∀ u ∈ l.map strV, u.oneCell' = true := by
  intro u hu; obtain ⟨x, _, rfl⟩ := List.mem_map.1 hu; rfl
theorem Try.info9 : (Try.prog.info? 9).map (fun i => (i.zero, i.size, i.bytes)) = some (some (.string ⟨#[]⟩), 1, 16) := by kernel_rfl
/-- What a call returns: a slice of strings. -/
def RetS (m : List (List UInt8)) (w : World) (e : Ending) (w' : World) : Prop := ∃ a c, e = .returned (.slice a m.length c) ∧ Strs w' a m ∧ (a = none → c = 0) ∧ m.length ≤ c ∧ Below w.heap.size w w'
end Go.Proofs.Ytancficmkkdnfaa
