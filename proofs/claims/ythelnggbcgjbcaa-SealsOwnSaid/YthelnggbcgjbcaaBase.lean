/-
  Small lemmas on strings, lists and blocks of memory, for the walks. No program.
-/
import Derived.WalkKit
import Derived.WalkSpells
import Derived.WalkLawsBesides
import Derived.Laws.AppendOwnNone
import Derived.OwnWalkIn
import Derived.Lib.Strings
import Derived.Deep.QuietTactic
import Derived.BigQuiet
import Derived.Deep.RegionWith
import Derived.StillTailTactics
namespace Go.Proofs.Ythelnggbcgjbcaa
open Go.RowKit

theorem hid {p : Prop} (h : p) : Hid p := h

theorem ret_bool {a b : Bool} (h : a = b) : Ending.returned (.bool a) = .returned (.bool b) := by rw [h]
theorem ret_int {k : IntKind} {a b : Int} (h : a = b) : Ending.returned (.int k a) = .returned (.int k b) := by rw [h]

theorem list_drop_cons {α : Type} (l : List α) (k : Nat) (h : k < l.length) : ∃ x, l[k]? = some x ∧ l.drop k = x :: l.drop (k + 1) :=
  ⟨l[k], List.getElem?_eq_getElem h, by rw [List.drop_eq_getElem_cons h]⟩

theorem bytes_len (s : ByteArray) : s.data.toList.length = s.size := rfl

theorem bytes_drop (s : ByteArray) (k : Nat) (h : k < s.size) : s.data.toList.drop k = s[k] :: s.data.toList.drop (k + 1) := by
  rw [List.drop_eq_getElem_cons (show k < s.data.toList.length from h)]
  rfl

theorem bytes_drop_end (s : ByteArray) (k : Nat) (h : s.size ≤ k) : s.data.toList.drop k = [] :=
  List.drop_eq_nil_of_le (by rw [bytes_len]; exact h)

/-- The slice with the address 'a' and the length of 'vs' reads as the values 'vs'. -/
def Vals (w : World) (a : Option Addr) (vs : List Value) : Prop :=
  vs = [] ∨ ∃ g o, a = some ⟨g, o, none⟩ ∧ g < w.heap.size ∧ ∀ i u, vs[i]? = some u → w.cell? ⟨g, o + i, none⟩ = some u

theorem Vals.nil (w : World) (a : Option Addr) : Vals w a [] := .inl rfl

theorem Vals.below {w w' : World} {a : Option Addr} {l : List Value} {B : Nat} (h : Vals w a l) (hb : Below B w w') (hB : w.heap.size ≤ B) : Vals w' a l := by
  rcases h with h | ⟨g, o, ha, hg, hc⟩
  · exact .inl h
  · exact .inr ⟨g, o, ha, Nat.lt_of_lt_of_le hg hb.size, fun i x hx => (hb.cell (p := ⟨g, o + i, none⟩) (Nat.lt_of_lt_of_le hg hB)).trans (hc i x hx)⟩

theorem Vals.take {w : World} {a : Option Addr} {l : List Value} (h : Vals w a l) (n : Nat) : Vals w a (l.take n) := by
  rcases h with h | ⟨g, o, ha, hg, hc⟩
  · subst h; exact .inl (by simp)
  · exact .inr ⟨g, o, ha, hg, fun i x hx => hc i x (by rw [List.getElem?_take] at hx; split at hx <;> simp_all)⟩

theorem Vals.drop {w : World} {g o : Nat} {l : List Value} (h : Vals w (some ⟨g, o, none⟩) l) (n : Nat) : Vals w (some ⟨g, o + n, none⟩) (l.drop n) := by
  rcases h with h | ⟨g', o', ha, hg, hc⟩
  · subst h; exact .inl (by simp)
  · cases ha
    refine .inr ⟨g, o + n, rfl, hg, fun i x hx => ?_⟩
    rw [List.getElem?_drop] at hx
    have := hc (n + i) x hx
    rwa [← Nat.add_assoc] at this

/-- The slice reads as the numbers 'l'. -/
def Ints (w : World) (a : Option Addr) (l : List Int) : Prop := Vals w a (l.map (Value.int .i64))

theorem Ints.nil (w : World) (a : Option Addr) : Ints w a [] := .inl rfl

theorem Ints.below {w w' : World} {a : Option Addr} {l : List Int} {B : Nat} (h : Ints w a l) (hb : Below B w w') (hB : w.heap.size ≤ B) : Ints w' a l := Vals.below h hb hB

theorem Ints.at {w : World} {a : Option Addr} {l : List Int} (h : Ints w a l) (hl : 0 < l.length) :
    ∃ g o, a = some ⟨g, o, none⟩ ∧ g < w.heap.size ∧ ∀ i x, l[i]? = some x → w.cell? ⟨g, o + i, none⟩ = some (.int .i64 x) := by
  rcases h with h | ⟨g, o, ha, hg, hc⟩
  · have : l = [] := by simpa using h
    subst this; exact absurd hl (by simp)
  · exact ⟨g, o, ha, hg, fun i x hx => hc i _ (by rw [List.getElem?_map, hx]; rfl)⟩

theorem Ints.take {w : World} {a : Option Addr} {l : List Int} (h : Ints w a l) (n : Nat) : Ints w a (l.take n) := by
  unfold Ints; rw [List.map_take]; exact Vals.take h n

/-- A block of cells. -/
def Blk (w : World) (b : Nat) (cs : Array Value) (t : TypeId) : Prop := w.heap[b]? = some (.cells cs t (0, 0))

theorem Blk.lt {w : World} {b : Nat} {cs : Array Value} {t : TypeId} (h : Blk w b cs t) : b < w.heap.size := lt_of_block h
theorem Blk.cell {w : World} {b : Nat} {cs : Array Value} {t : TypeId} (h : Blk w b cs t) (j : Nat) : w.cell? ⟨b, j, none⟩ = cs[j]? := cell_of_row w b j cs t (0, 0) h
theorem Blk.free {w : World} {b : Nat} {cs : Array Value} {t : TypeId} (h : Blk w b cs t) (j : Nat) : w.frozen? ⟨b, j, none⟩ = false := by
  unfold Blk at h; simp [World.frozen?, h]
theorem Blk.below {w w' : World} {b : Nat} {cs : Array Value} {t : TypeId} {B : Nat} (h : Blk w b cs t) (hb : Below B w w') (hB : b < B) : Blk w' b cs t :=
  (hb.block b hB).trans h
theorem Blk.alloc {w : World} {b : Nat} {cs : Array Value} {t : TypeId} (h : Blk w b cs t) (o : Obj) : Blk (w.alloc o) b cs t :=
  (Below.heap_alloc w o b h.lt).trans h
theorem Blk.new (w : World) (cs : Array Value) (t : TypeId) : Blk (w.alloc (.cells cs t)) w.heap.size cs t := by
  show (w.heap.push _)[w.heap.size]? = _
  simp
theorem Blk.mk' {w : World} {n : Nat} {cs cs' : Array Value} {t : TypeId} (hn : n = w.heap.size) (hc : cs = cs') : Blk (w.alloc (.cells cs t)) n cs' t := by
  subst hn hc; exact Blk.new w cs t
theorem Blk.set {w : World} {b : Nat} {cs : Array Value} {t : TypeId} (h : Blk w b cs t) (j : Nat) (u : Value) : Blk (w.setCell ⟨b, j, none⟩ u) b (cs.setIfInBounds j u) t := by
  have hlt := h.lt
  have h' : w.heap[b] = .cells cs t (0, 0) := by have := h; unfold Blk at this; simpa [Array.getElem?_eq_getElem hlt] using this
  show (w.heap.modify b _)[b]? = _
  rw [Array.getElem?_eq_getElem (by simpa using hlt), Array.getElem_modify_self, h']
  rfl
theorem Blk.other {w : World} {b : Nat} {cs : Array Value} {t : TypeId} (h : Blk w b cs t) (p : Addr) (hp : b ≠ p.block) (u : Value) : Blk (w.setCell p u) b cs t :=
  (Below.heap_setCell w p u b hp).trans h
theorem Blk.drew {w : World} {b : Nat} {cs : Array Value} {t : TypeId} (h : Blk w b cs t) : Blk w.drew b cs t := h


/-- An array of four numbers. -/
def arr4 (f : Nat → Int) : Array Value := #[.int .i64 (f 0), .int .i64 (f 1), .int .i64 (f 2), .int .i64 (f 3)]
theorem arr4_get (f : Nat → Int) (j : Nat) (h : j < 4) : (arr4 f)[j]? = some (.int .i64 (f j)) := by
  match j, h with
  | 0, _ => rfl
  | 1, _ => rfl
  | 2, _ => rfl
  | 3, _ => rfl
theorem arr4_set (f : Nat → Int) (j : Nat) (x : Int) (h : j < 4) : (arr4 f).setIfInBounds j (.int .i64 x) = arr4 (fun i => if i = j then x else f i) := by
  match j, h with
  | 0, _ => rfl
  | 1, _ => rfl
  | 2, _ => rfl
  | 3, _ => rfl
theorem arr4_congr {f g : Nat → Int} (h : ∀ j, j < 4 → f j = g j) : arr4 f = arr4 g := by
  unfold arr4; rw [h 0 (by omega), h 1 (by omega), h 2 (by omega), h 3 (by omega)]
theorem Blk.cell4 {w : World} {b : Nat} {f : Nat → Int} {t : TypeId} (h : Blk w b (arr4 f) t) (j : Nat) (hj : j < 4) : w.cell? ⟨b, j, none⟩ = some (.int .i64 (f j)) :=
  (h.cell j).trans (arr4_get f j hj)

theorem Blk.store4 {w : World} {b : Nat} {f g : Nat → Int} {t : TypeId} (h : Blk w b (arr4 f) t) (j : Nat) (x : Int) (hj : j < 4) (hg : ∀ i, i < 4 → g i = if i = j then x else f i) : Blk (w.setCell ⟨b, j, none⟩ (.int .i64 x)) b (arr4 g) t := by
  have := h.set j (.int .i64 x)
  rw [arr4_set f j x hj, ← arr4_congr hg] at this
  exact this

theorem Blk.all4 {w : World} {b : Nat} {f : Nat → Int} {t : TypeId} (h : Blk w b (arr4 f) t) :
    w.cell? ⟨b, 0, none⟩ = some (.int .i64 (f 0)) ∧ w.cell? ⟨b, 1, none⟩ = some (.int .i64 (f 1)) ∧ w.cell? ⟨b, 2, none⟩ = some (.int .i64 (f 2)) ∧ w.cell? ⟨b, 3, none⟩ = some (.int .i64 (f 3)) ∧
    w.frozen? ⟨b, 0, none⟩ = false ∧ w.frozen? ⟨b, 1, none⟩ = false ∧ w.frozen? ⟨b, 2, none⟩ = false ∧ w.frozen? ⟨b, 3, none⟩ = false :=
  ⟨h.cell4 0 (by omega), h.cell4 1 (by omega), h.cell4 2 (by omega), h.cell4 3 (by omega), h.free 0, h.free 1, h.free 2, h.free 3⟩

/-- What a call returns: a slice that reads as 'l'; what was there is as it was. -/
def RetInts (l : List Int) (w : World) (e : Ending) (w' : World) : Prop := ∃ a c, e = .returned (.slice a l.length c) ∧ Ints w' a l ∧ Below w.heap.size w w'

theorem ownsRow_vals {w : World} {base e n : Nat} {v : Value} {l : List Value} (h : w.ownsRow base e 1 v n l) :
    ∃ a c, v = .slice a l.length c ∧ Vals w a l ∧ n = l.length := by
  obtain ⟨h1, h2⟩ := h
  rw [Nat.mul_one] at h1
  rcases h2 with ⟨hv, hn⟩ | ⟨g, cap, cur, hv, _, hg, _, _, _, ht⟩
  · subst hn
    have : l = [] := List.eq_nil_of_length_eq_zero h1
    subst this
    exact ⟨none, 0, hv, .inl rfl, rfl⟩
  · refine ⟨some ⟨g, 0, none⟩, cap, by rw [hv, h1], .inr ⟨g, 0, rfl, lt_of_block hg, fun i x hx => ?_⟩, h1.symm⟩
    rw [Nat.zero_add, cell_of_row w g i cur e (0, 0) hg]
    rw [← ht, List.getElem?_take] at hx
    split at hx
    · simpa using hx
    · cases hx

theorem ownsRow_ints {w : World} {base e n : Nat} {v : Value} {l : List Int} (h : w.ownsRow base e 1 v n (l.map (Value.int .i64))) :
    ∃ a c, v = .slice a l.length c ∧ Ints w a l := by
  obtain ⟨a, c, hv, hr, _⟩ := ownsRow_vals h
  exact ⟨a, c, by rw [hv, List.length_map], hr⟩

theorem ownsRow_facts {w : World} {base e n m c : Nat} {a : Option Addr} {xs : List Value} (h : w.ownsRow base e 1 (.slice a n c) m xs) : n = m ∧ n ≤ c ∧ (a = none → c = 0) := by
  rcases h.2 with ⟨h, h'⟩ | ⟨g, cap, cur, h, _, _, h', _⟩
  · simp only [Value.slice.injEq] at h
    obtain ⟨_, h1, h2⟩ := h
    subst h1 h2
    exact ⟨h'.symm, by omega, fun _ => rfl⟩
  · simp only [Value.slice.injEq] at h
    obtain ⟨h0, h1, h2⟩ := h
    subst h0 h1 h2
    exact ⟨rfl, h', fun h => by cases h⟩

theorem vals_cells {w : World} {g o : Nat} {l : List Value} (h : ∀ i u, l[i]? = some u → w.cell? ⟨g, o + i, none⟩ = some u) :
    ∀ j u, l[j]? = some u → w.cell? ((⟨g, o, none⟩ : Addr).add j) = some u := by
  intro j u hu
  have := h j u hu
  unfold Addr.add; split
  · rename_i h0; subst h0; simpa using this
  · exact this

theorem vals_new (w : World) (cs : Array Value) (t : TypeId) (l : List Value) (h : cs.toList = l) : Vals (w.alloc (.cells cs t)) (some ⟨w.heap.size, 0, none⟩) l := by
  subst h
  refine .inr ⟨w.heap.size, 0, rfl, by simp, fun i u hu => ?_⟩
  rw [Nat.zero_add, (Blk.new w cs t).cell i]
  simpa using hu

/-- 'append(v, xs...)': v is nil or the call's own; xs, nil or not, reads as 'news'. -/
theorem run_app {P : Program} (w : World) (base : Nat) (t ty e : TypeId) (z : Value) (bytes : Nat) (ht : P.underlying t = some (.slice e)) (hi : (P.info? e).map (fun i => (i.zero, i.size, i.bytes)) = some (some z, 1, bytes))
    (hz : z.cells.size = 1) (v : Value) (n : Nat) (xs : List Value) (hown : w.ownsRow base e 1 v n xs) (ad : Option Addr) (m c : Nat) (news : List Value) (hm : m = news.length) (hs : Vals w ad news) (hnil : ad = none → m = 0 ∧ c = 0) (h1 : ∀ u ∈ news, u.oneCell' = true)
    (h63 : n + m ≤ 17592186044416) (hb8 : bytes ≤ 8) (hbase : base ≤ w.heap.size) :
    ∃ v' w', (Builtin.append_ #[t, t] ty #[v, .slice ad m c]).run P w = .ok v' w' ∧ w'.ownsRow base e 1 v' (n + m) (xs ++ news) ∧ w.grownBy w' v.ownBlock ∧ (v' = .slice none 0 0 ↔ v = .slice none 0 0 ∧ m = 0) := by
  obtain ⟨i, h2, hz0, hz1, hz2⟩ := info_parts hi
  subst hm
  cases ad with
  | none =>
    obtain ⟨hn0, rfl⟩ := hnil rfl
    have hnw : news = [] := List.eq_nil_of_length_eq_zero hn0
    subst hnw
    have hrun := run_append_owned_none (P := P) (w := w) base t ty e i 1 ht h2 v n xs hown
    exact ⟨v, w, hrun, by simpa using hown, ⟨rfl, rfl, rfl, Nat.le_refl _, fun _ _ _ => rfl⟩, by simp⟩
  | some ad =>
    refine run_append_own (P := P) w base t ty e i z 1 bytes ht h2 hz0 hz1 hz2 hz (by omega) v n xs hown ad _ c news (by simp) ?_ h1 (by unfold maxLen; omega) ?_ hbase
    · rcases hs with h | ⟨g, o, ha, _, hc⟩
      · subst h; intro j u hu; simp at hu
      · cases ha; exact vals_cells hc
    · calc (n + news.length) * bytes ≤ 17592186044416 * 8 := Nat.mul_le_mul h63 hb8
        _ ≤ _ := by omega

/-- Where the row lies behind an append: where it lay, or in a new block. -/
theorem run_app_where {P : Program} (w : World) (base : Nat) (t ty e : TypeId) (z : Value) (bytes : Nat) (ht : P.underlying t = some (.slice e)) (hi : (P.info? e).map (fun i => (i.zero, i.size, i.bytes)) = some (some z, 1, bytes))
    (v : Value) (n : Nat) (xs : List Value) (hown : w.ownsRow base e 1 v n xs) (ad : Option Addr) (m c : Nat) (news : List Value) (hm : m = news.length) (hs : Vals w ad news) (hnil : ad = none → m = 0 ∧ c = 0) (h1 : ∀ u ∈ news, u.oneCell' = true)
    (h63 : n + m ≤ 17592186044416) (hb8 : bytes ≤ 8) {v' : Value} {w' : World} (hrun : (Builtin.append_ #[t, t] ty #[v, .slice ad m c]).run P w = .ok v' w') : v'.ownBlock = v.ownBlock ∨ v'.ownBlock = some w.heap.size := by
  obtain ⟨i, h2, hz0, hz1, hz2⟩ := info_parts hi
  subst hm
  cases ad with
  | none =>
    obtain ⟨hn0, rfl⟩ := hnil rfl
    have hnw : news = [] := List.eq_nil_of_length_eq_zero hn0
    subst hnw
    have := run_append_owned_none (P := P) (w := w) base t ty e i 1 ht h2 v n xs hown
    have e := this.symm.trans hrun
    simp only [Result.ok.injEq] at e
    exact .inl (by rw [e.1])
  | some ad =>
    have hcells : ∀ j u, news[j]? = some u → w.cell? (ad.add j) = some u := by
      rcases hs with h | ⟨g, o, ha, _, hc⟩
      · subst h; intro j u hu; simp at hu
      · cases ha; exact vals_cells hc
    have hby : (n + news.length) * i.bytes ≤ 140737488355328 := by
      rw [hz2]
      calc (n + news.length) * bytes ≤ 17592186044416 * 8 := Nat.mul_le_mul h63 hb8
        _ ≤ _ := by omega
    rcases hown.2 with ⟨rfl, rfl⟩ | ⟨g, cap, cur, rfl, _, hg, hnc, _, hcs, _⟩
    · by_cases h0 : news.length = 0
      · have hnw : news = [] := List.eq_nil_of_length_eq_zero h0
        subst hnw
        have e : (Builtin.append_ #[t, t] ty #[.slice none 0 0, .slice (some ad) 0 c]).run P w = .ok (.slice none 0 0) w := by
          simp [Builtin.append_, run_underlying ht, sizeOf, typeInfo, h2, Builtin.lenOf, Builtin.firstCells, loadCells, loadCellsFrom]
        have e2 := e.symm.trans hrun
        simp only [Result.ok.injEq] at e2
        exact .inl (by rw [← e2.1])
      · have e := run_append_nil (P := P) w t ty e i z ht h2 hz0 ad news.length c news (by rw [hz1]; omega) hcells (by omega) (by omega) (by have := hby; rw [Nat.zero_add] at this; omega)
        have e2 := e.symm.trans hrun
        simp only [Result.ok.injEq] at e2
        exact .inr (by rw [← e2.1]; rfl)
    · by_cases hroom : n + news.length ≤ cap
      · have e := run_append_room (P := P) w t ty e i ht h2 g n cap cur hg ad news.length c news (by rw [hz1]; omega) hcells h1 hroom (by rw [hz1]; omega)
        have e2 := e.symm.trans hrun
        simp only [Result.ok.injEq] at e2
        exact .inl (by rw [← e2.1]; rfl)
      · have holds : ∀ j u, xs[j]? = some u → w.cell? ((⟨g, 0, none⟩ : Addr).add j) = some u := hown.cells (g := g) rfl
        have e := run_append_grow (P := P) w t ty e i z ht h2 hz0 ⟨g, 0, none⟩ n cap xs (by rw [hown.1, hz1]) holds ad news.length c news (by rw [hz1]; omega) hcells (by omega) (by omega) (growslice_fits (by omega) hby)
        have e2 := e.symm.trans hrun
        simp only [Result.ok.injEq] at e2
        exact .inr (by rw [← e2.1]; rfl)

theorem wpList_app {P : Program} (w : World) {ops : Array Oper} {rest : List Oper} {o : Oper} {a : Act} {Q : Exit → Act → World → Prop}
    (hg : o.guard = none) (s x : Operand) (t : TypeId) (hop : o.op = Op.call { callee := Callee.builtin Builtin.append, args := #[s, x], argTypes := #[t, t] })
    (base : Nat) (e : TypeId) (z : Value) (bytes : Nat) (ht : P.underlying t = some (.slice e)) (hi : (P.info? e).map (fun i => (i.zero, i.size, i.bytes)) = some (some z, 1, bytes))
    (hz : z.cells.size = 1) (v : Value) (n : Nat) (xs : List Value) (hs : a.eval s = v) (hown : w.ownsRow base e 1 v n xs) (ad : Option Addr) (m c : Nat) (news : List Value) (hx : a.eval x = .slice ad m c) (hm : m = news.length) (hr : Vals w ad news) (hnil : ad = none → m = 0 ∧ c = 0) (h1 : ∀ u ∈ news, u.oneCell' = true)
    (h63 : n + m ≤ 17592186044416) (hb8 : bytes ≤ 8) (hbase : base ≤ w.heap.size)
    (hK : ∀ v' w', w'.ownsRow base e 1 v' (n + m) (xs ++ news) → w.grownBy w' v.ownBlock → (v' = .slice none 0 0 ↔ v = .slice none 0 0 ∧ m = 0) → wpList P ops Q rest (a.put o.dst v') w') :
    wpList P ops Q (o :: rest) a w := by
  refine wpList_plain hg fun K hK' => ?_
  obtain ⟨v', w', hrun, r1, r2, r3⟩ := run_app (P := P) w base t o.type e z bytes ht hi hz v n xs hown ad m c news hm hr hnil h1 h63 hb8 hbase
  unfold Oper.wp
  simp [execOp, hop, resolve, invoke, builtin, hs, hx, hrun, Result.andThen]
  exact hK' _ _ (hK v' w' r1 r2 r3)

theorem wpListIn_app {F : Fence} {nF : Nat} {P : Program} (w : World) {ops : Array Oper} {rest : List Oper} {o : Oper} {a : Act} {Q : Exit → Act → World → Prop}
    (hg : o.guard = none) (s x : Operand) (t : TypeId) (hop : o.op = Op.call { callee := Callee.builtin Builtin.append, args := #[s, x], argTypes := #[t, t] })
    (base : Nat) (e : TypeId) (z : Value) (bytes : Nat) (ht : P.underlying t = some (.slice e)) (hi : (P.info? e).map (fun i => (i.zero, i.size, i.bytes)) = some (some z, 1, bytes))
    (hz : z.cells.size = 1) (v : Value) (n : Nat) (xs : List Value) (hs : a.eval s = v) (hown : w.ownsRow base e 1 v n xs) (ad : Option Addr) (m c : Nat) (news : List Value) (hx : a.eval x = .slice ad m c) (hm : m = news.length) (hr : Vals w ad news) (hnil : ad = none → m = 0 ∧ c = 0) (h1 : ∀ u ∈ news, u.oneCell' = true)
    (h63 : n + m ≤ 17592186044416) (hb8 : bytes ≤ 8) (hbase : base ≤ w.heap.size)
    (hK : ∀ v' w', w'.ownsRow base e 1 v' (n + m) (xs ++ news) → w.grownBy w' v.ownBlock → (v'.ownBlock = v.ownBlock ∨ v'.ownBlock = some w.heap.size) → wpListIn F nF P ops Q rest (a.put o.dst v') w') :
    wpListIn F nF P ops Q (o :: rest) a w := by
  refine wpListIn_plain hg fun K hK' => ?_
  obtain ⟨v', w', hrun, r1, r2, -⟩ := run_app (P := P) w base t o.type e z bytes ht hi hz v n xs hown ad m c news hm hr hnil h1 h63 hb8 hbase
  have r4 := run_app_where (P := P) w base t o.type e z bytes ht hi v n xs hown ad m c news hm hr hnil h1 h63 hb8 hrun
  unfold Oper.wpIn
  refine ⟨?_, ?_⟩
  · simp [Oper.about, hop, resolve, Target.leads, Sem.run_pure]
  · rw [Oper.semAt_plain F _ _ (by rw [hop]; intro c hc'; cases hc')]
    simp [execOp, hop, resolve, invoke, builtin, hs, hx, hrun, Result.andThen]
    exact hK' _ _ (hK v' w' r1 r2 r4)

theorem ints_one (l : List Int) : ∀ u ∈ l.map (Value.int .i64), u.oneCell' = true := by
  intro u hu; obtain ⟨x, _, rfl⟩ := List.mem_map.1 hu; rfl

/-- Behind an append: nothing below the base has turned. -/
theorem below_app {B : Nat} {w0 w w' : World} {v : Value} {base e n : Nat} {xs : List Value} (h : Below B w0 w) (hg : w.grownBy w' v.ownBlock) (hown : w.ownsRow base e 1 v n xs) (hB : B ≤ w.heap.size) (hb : B ≤ base) : Below B w0 w' :=
  h.grown hg hB fun k hk => Nat.le_trans hb (hown.lt k hk).1

/-- The string of a list of bytes. -/
def mkS (l : List UInt8) : ByteArray := ⟨l.toArray⟩
theorem mkS_data (l : List UInt8) : (mkS l).data.toList = l := rfl
theorem mkS_size (l : List UInt8) : (mkS l).size = l.length := rfl
theorem mkS_eq (s : ByteArray) (l : List UInt8) (h : s.data.toList = l) : s = mkS l := by
  subst h; rfl
theorem mkS_of (s : ByteArray) : mkS s.data.toList = s := rfl
theorem data_append (a b : ByteArray) : (a ++ b).data.toList = a.data.toList ++ b.data.toList := by simp
theorem data_extract (s : ByteArray) (a b : Nat) : (s.extract a b).data.toList = (s.data.toList.drop a).take (b - a) := Lib.extract_data s a b
theorem mkS_append (a b : List UInt8) : mkS a ++ mkS b = mkS (a ++ b) := mkS_eq _ _ (by rw [data_append, mkS_data, mkS_data])
theorem byte_mem (s : ByteArray) (k : Nat) (h : k < s.size) : s[k] ∈ s.data.toList :=
  List.mem_iff_getElem.2 ⟨k, h, rfl⟩
theorem take_succ_bytes (s : ByteArray) (k : Nat) (h : k < s.size) : s.data.toList.take (k + 1) = s.data.toList.take k ++ [s[k]] := by
  rw [List.take_succ_eq_append_getElem (show k < s.data.toList.length from h)]
  rfl
theorem take_all_bytes (s : ByteArray) (k : Nat) (h : s.size ≤ k) : s.data.toList.take k = s.data.toList :=
  List.take_of_length_le (by rw [bytes_len]; exact h)

/-- '[]byte(s)': the world behind it, and the capacity of the new row. -/
def bytesW (e : TypeId) (w : World) (s : ByteArray) : World := w.drew.alloc (.cells (bytesRow s (grownCap w s.size 0 e)) e ((bytesRow s (grownCap w s.size 0 e)).size, (bytesRow s (grownCap w s.size 0 e)).size + 1))
def bytesC (e : TypeId) (w : World) (s : ByteArray) : Nat := grownCap w s.size 0 e
theorem run_bytesW {P : Program} (src dst e : TypeId) (s : ByteArray) (hs : P.underlying src = some .string) (hd : P.underlying dst = some (.slice e)) (he : P.underlying e = some (.int .u8)) (w : World) :
    (convert src dst (.string s)).run P w = .ok (.slice (some ⟨w.heap.size, 0, none⟩) s.size (bytesC e w s)) (bytesW e w s) := run_bytes_of_string w src dst e s hs hd he
theorem bytesW_below {B : Nat} {a w : World} (e : TypeId) (s : ByteArray) (h : Below B a w) (hB : B ≤ w.heap.size) : Below B a (bytesW e w s) := h.drew.alloc hB _
theorem bytesW_size (e : TypeId) (w : World) (s : ByteArray) : (bytesW e w s).heap.size = w.heap.size + 1 := by
  show (w.heap.push _).size = _
  simp
theorem bytesW_cell (e : TypeId) (w : World) (s : ByteArray) (k : Nat) (hk : k < s.size) : (bytesW e w s).cell? ⟨w.heap.size, k, none⟩ = some (.int .u8 s[k].toNat) := by
  refine (World.cell?_alloc_mark w.drew _ e _ k).trans ?_
  unfold bytesRow
  rw [Array.getElem?_append_left (by simpa using hk)]
  simp [hk]
  rfl
end Go.Proofs.Ythelnggbcgjbcaa
