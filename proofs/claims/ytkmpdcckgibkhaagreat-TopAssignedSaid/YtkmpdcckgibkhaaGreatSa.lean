/-
  What the walks of the layer seals speak of.
-/
import Derived.Test.YtkmpdcckgibkhaaGreatA
import Derived.Test.YtkmpdcckgibkhaaGreatChecked
namespace Go.Proofs.YtkmpdcckgibkhaaGreat
open Go.RowKit

/-- Is a byte a letter from a to d? -/
def okb (c : UInt8) : Bool := decide (97 ≤ c.toNat) && decide (c.toNat ≤ 100)
theorem all_ok (c : UInt8) (r : List UInt8) (h : 97 ≤ (c.toNat : Int) ∧ (c.toNat : Int) ≤ 100) : (c :: r).all okb = r.all okb := by
  have : okb c = true := by simp [okb]; omega
  simp [this]
theorem all_bad (c : UInt8) (r : List UInt8) (h : (c.toNat : Int) < 97 ∨ 100 < (c.toNat : Int)) : (c :: r).all okb = false := by
  have : okb c = false := by simp [okb]; omega
  simp [this]
/-- A chain. -/
def chainB (l : List UInt8) : Bool := l.all okb && decide (l.length ≤ 24)
/-- How often letter j occurs. -/
def cn (l : List UInt8) (j : Nat) : Nat := l.countP (fun c => c.toNat == 97 + j)
theorem cn_snoc (l : List UInt8) (c : UInt8) (j : Nat) : cn (l ++ [c]) j = cn l j + if c.toNat = 97 + j then 1 else 0 := by
  unfold cn
  rw [List.countP_append]
  by_cases h : c.toNat = 97 + j <;> simp [h]
theorem cn_cons (l : List UInt8) (c : UInt8) (j : Nat) : cn (c :: l) j = cn l j + if c.toNat = 97 + j then 1 else 0 := by
  unfold cn
  rw [List.countP_cons]
  by_cases h : c.toNat = 97 + j <;> simp [h]
theorem cn_append (a b : List UInt8) (j : Nat) : cn (a ++ b) j = cn a j + cn b j := List.countP_append
theorem cn_le (l : List UInt8) (j : Nat) : cn l j ≤ l.length := List.countP_le_length
theorem okb_iff (c : UInt8) : okb c = true ↔ 97 ≤ c.toNat ∧ c.toNat ≤ 100 := by simp [okb]
/-- Each letter occurs an even number of times. -/
def evenB (l : List UInt8) : Bool := cn l 0 % 2 == 0 && cn l 1 % 2 == 0 && cn l 2 % 2 == 0 && cn l 3 % 2 == 0
/-- The number of letters that occur. -/
def kindsN (l : List UInt8) : Nat := min (cn l 0) 1 + min (cn l 1) 1 + min (cn l 2) 1 + min (cn l 3) 1
/-- Ascending positions from a first one to n - 1. -/
def cutsB (n : Int) : Int → List Int → Bool
  | _, [] => true
  | first, c :: r => decide (first ≤ c) && decide (c < n) && cutsB n (c + 1) r
/-- What the carrier of the next piece gets, and the other one, from a position on. -/
def shareGo (l : List UInt8) : Nat → List Int → List UInt8 × List UInt8
  | at_, [] => (l.drop at_, [])
  | at_, c :: r => ((l.drop at_).take (c.toNat - at_) ++ (shareGo l c.toNat r).2, (shareGo l c.toNat r).1)
/-- Do two strings have the same letters? -/
def sameB (a b : List UInt8) : Bool := cn a 0 == cn b 0 && cn a 1 == cn b 1 && cn a 2 == cn b 2 && cn a 3 == cn b 3
/-- Are cuts fair? -/
def fairB (l : List UInt8) (cuts : List Int) : Bool := sameB (shareGo l 0 cuts).1 (shareGo l 0 cuts).2
/-- All lists of so many ascending positions, in lexicographic order: 'fuel' positions are left from 'from_' on. -/
def lsts : Nat → Nat → Nat → List (List Int)
  | 0, _, _ => [[]]
  | _ + 1, _, 0 => []
  | m + 1, from_, fuel + 1 => (lsts m (from_ + 1) fuel).map ((from_ : Int) :: ·) ++ lsts (m + 1) (from_ + 1) fuel
/-- A ring opened at its first cut. -/
def openL (l : List UInt8) : List Int → List UInt8
  | [] => l
  | c :: _ => l.drop c.toNat ++ l.take c.toNat
def openC : List Int → List Int
  | [] => []
  | c :: r => r.map (· - c)
def fairRingP (l : List UInt8) (cuts : List Int) : Bool := fairB (openL l cuts) (openC cuts)

theorem mod_eq (a b : Int) (h : 0 < b) (hb : b ≤ 1000) (_ha : -9223372036854775808 ≤ a ∧ a ≤ 9223372036854775807) : wrap64 ((IntKind.u64.wrap a).tmod (IntKind.u64.wrap b)) = (a % 18446744073709551616) % b := by
  have h1 : IntKind.u64.wrap b = b := IntWalk.u64_in _ (by omega)
  have h2 : IntKind.u64.wrap a = a % 18446744073709551616 := by simp [IntKind.wrap, IntKind.bits, IntKind.signed]
  rw [h1, h2, IntWalk.rem_in _ _ (by omega)]
  exact IntWalk.wrap64_in _ (by have := Int.emod_nonneg (a % 18446744073709551616) (show b ≠ 0 by omega); have := Int.emod_lt_of_pos (a % 18446744073709551616) h; omega)
theorem letter_lt (s : ByteArray) (k : Nat) (h : s.data.toList.all okb = true) (hk : k < s.size) : 97 ≤ s[k].toNat ∧ s[k].toNat ≤ 100 := by
  rw [List.all_eq_true] at h
  exact (okb_iff _).1 (h s[k] (byte_mem s k hk))
def cutsLoop (n first : Int) : Option Int → List Int → Bool
  | _, [] => true
  | none, c :: r => decide (first ≤ c) && decide (c < n) && cutsLoop n first (some c) r
  | some p, c :: r => decide (first ≤ c) && decide (c < n) && decide (p < c) && cutsLoop n first (some c) r
def pv (l : List Int) (k : Nat) : Option Int := if k = 0 then none else l[k - 1]?
theorem pv_succ (l : List Int) (k : Nat) (x : Int) (h : l[k]? = some x) : pv l (k + 1) = some x := by simp [pv, h]

def kSum (f : Nat → Nat) : Nat → Nat
  | 0 => 0
  | k + 1 => kSum f k + min (f k) 1
theorem kSum_le (f : Nat → Nat) (k : Nat) : kSum f k ≤ k := by
  induction k with
  | zero => simp [kSum]
  | succ k ih => simp [kSum]; omega
/-- The loop of the reference's Shares: carrier, position, the cuts that are left, what both have. -/
def shLoop (l : List UInt8) : Nat → Nat → List Int → List UInt8 → List UInt8 → List UInt8 × List UInt8
  | 0, fr, [], a, b => (a ++ l.drop fr, b)
  | _ + 1, fr, [], a, b => (a, b ++ l.drop fr)
  | 0, fr, c :: r, a, b => shLoop l 1 c.toNat r (a ++ (l.drop fr).take (c.toNat - fr)) b
  | _ + 1, fr, c :: r, a, b => shLoop l 0 c.toNat r a (b ++ (l.drop fr).take (c.toNat - fr))
def ShRel (l : List UInt8) (n : Nat) (cuts : List Int) (tgt : List UInt8 × List UInt8) (k car fr : Nat) (x y : ByteArray) : Prop :=
  (k ≤ cuts.length ∧ shLoop l car fr (cuts.drop k) x.data.toList y.data.toList = tgt ∧ (∃ p : Int, (fr : Int) ≤ p ∧ cutsB n p (cuts.drop k) = true) ∧ fr ≤ n ∧ x.size + y.size ≤ fr) ∨ (k = cuts.length + 1 ∧ (x.data.toList, y.data.toList) = tgt)
theorem shLoop_all (l : List UInt8) (h : l.all okb = true) : ∀ (cuts : List Int) (car fr : Nat) (a b : List UInt8), a.all okb = true → b.all okb = true → (shLoop l car fr cuts a b).1.all okb = true ∧ (shLoop l car fr cuts a b).2.all okb = true := by
  have hd : ∀ n, (l.drop n).all okb = true := fun n => by
    rw [List.all_eq_true] at h ⊢; exact fun x hx => h x (List.mem_of_mem_drop hx)
  have ht : ∀ n m, ((l.drop n).take m).all okb = true := fun n m => by
    have := hd n; rw [List.all_eq_true] at this ⊢; exact fun x hx => this x (List.mem_of_mem_take hx)
  intro cuts
  induction cuts with
  | nil => intro car fr a b ha hb; cases car <;> simp only [shLoop, List.all_append, ha, hb, hd, Bool.and_self, and_self]
  | cons c r ih =>
    intro car fr a b ha hb
    cases car
    · exact ih _ _ _ _ (by rw [List.all_append, ha, ht]; rfl) hb
    · exact ih _ _ _ _ ha (by rw [List.all_append, hb, ht]; rfl)
theorem shLoop_len (l : List UInt8) : ∀ (cuts : List Int) (car fr : Nat) (a b : List UInt8), (shLoop l car fr cuts a b).1.length ≤ a.length + (cuts.length + 1) * l.length ∧ (shLoop l car fr cuts a b).2.length ≤ b.length + (cuts.length + 1) * l.length := by
  intro cuts
  induction cuts with
  | nil => intro car fr a b; cases car <;> simp [shLoop] <;> omega
  | cons c r ih =>
    intro car fr a b
    have e : (r.length + 1 + 1) * l.length = (r.length + 1) * l.length + l.length := by rw [Nat.add_mul, Nat.one_mul]
    have hle : ((l.drop fr).take (c.toNat - fr)).length ≤ l.length := by simp; omega
    cases car
    · have := ih 1 c.toNat (a ++ (l.drop fr).take (c.toNat - fr)) b
      rw [List.length_append] at this
      simp only [shLoop, List.length_cons, e]
      omega
    · have := ih 0 c.toNat a (b ++ (l.drop fr).take (c.toNat - fr))
      rw [List.length_append] at this
      simp only [shLoop, List.length_cons, e]
      omega
theorem shLoop_share (l : List UInt8) : ∀ (cuts : List Int) (fr : Nat) (a b : List UInt8),
    shLoop l 0 fr cuts a b = (a ++ (shareGo l fr cuts).1, b ++ (shareGo l fr cuts).2) ∧ shLoop l 1 fr cuts a b = (a ++ (shareGo l fr cuts).2, b ++ (shareGo l fr cuts).1) := by
  intro cuts
  induction cuts with
  | nil => intro fr a b; simp [shLoop, shareGo]
  | cons c r ih =>
    intro fr a b
    refine ⟨?_, ?_⟩
    · rw [shLoop, (ih _ _ _).2]; simp [shareGo]
    · rw [shLoop, (ih _ _ _).1]; simp [shareGo]
theorem eqi (a b : Int) (w : World) : (Op.equalIn 9999 3 (.int .i64 a) (.int .i64 b)).run Tryz.prog w = .ok (a == b) w :=
  run_equalIn_int w 9998 3 .i64 .i64 a b Tryz.underlying3

/-- Do cuts divide a ring fairly? -/
def fairRingB (l : List UInt8) : List Int → Bool
  | [] => l.isEmpty
  | c :: r => fairB (l.drop c.toNat ++ l.take c.toNat) (r.map (· - c))
theorem cutsB_ge (n : Int) : ∀ (l : List Int) (f : Int), cutsB n f l = true → ∀ x ∈ l, f ≤ x ∧ x < n := by
  intro l
  induction l with
  | nil => intro f _ x hx; simp at hx
  | cons c r ih =>
    intro f h x hx
    simp only [cutsB, Bool.and_eq_true, decide_eq_true_eq] at h
    rcases List.mem_cons.1 hx with rfl | hx
    · exact h.1
    · have := ih _ h.2 x hx; omega
theorem cutsB_sub (n : Int) : ∀ (l : List Int) (f c : Int), cutsB n f l = true → 0 ≤ c → cutsB n (f - c) (l.map (· - c)) = true := by
  intro l
  induction l with
  | nil => intro f c _ _; rfl
  | cons x r ih =>
    intro f c h hc
    simp only [cutsB, Bool.and_eq_true, decide_eq_true_eq] at h
    have := ih (x + 1) c h.2 hc
    simp only [List.map_cons, cutsB, Bool.and_eq_true, decide_eq_true_eq]
    rw [show x + 1 - c = x - c + 1 by omega] at this
    exact ⟨⟨by omega, by omega⟩, this⟩
theorem cutsB_weak (n : Int) (l : List Int) (f g : Int) (h : cutsB n f l = true) (hg : g ≤ f) : cutsB n g l = true := by
  cases l with
  | nil => rfl
  | cons x r =>
    simp only [cutsB, Bool.and_eq_true, decide_eq_true_eq] at h ⊢
    exact ⟨⟨by omega, h.1.2⟩, h.2⟩

/-- Are cuts of a chain, or of a ring, fair? -/
def testB (ring : Bool) (l : List UInt8) (c : List Int) : Bool := if ring then fairRingB l c else fairB l c
/-- The first fair list that begins with some cuts and has so many more from a position on. -/
def srch (ring : Bool) (l : List UInt8) (cuts : List Int) (more from_ : Nat) : Option (List Int) :=
  ((lsts more from_ (l.length - from_)).map (cuts ++ ·)).find? (testB ring l)
theorem srch_zero (ring : Bool) (l : List UInt8) (cuts : List Int) (f : Nat) : srch ring l cuts 0 f = if testB ring l cuts then some cuts else none := by
  simp [srch, lsts]
theorem srch_end (ring : Bool) (l : List UInt8) (cuts : List Int) (m f : Nat) (h : l.length ≤ f) : srch ring l cuts (m + 1) f = none := by
  simp [srch, Nat.sub_eq_zero_of_le h, lsts]
theorem srch_step (ring : Bool) (l : List UInt8) (cuts : List Int) (m f : Nat) (h : f < l.length) :
    srch ring l cuts (m + 1) f = (srch ring l (cuts ++ [(f : Int)]) m (f + 1)).or (srch ring l cuts (m + 1) (f + 1)) := by
  obtain ⟨d, hd⟩ : ∃ d, l.length = f + 1 + d := ⟨l.length - (f + 1), by omega⟩
  unfold srch
  rw [show l.length - f = d + 1 by omega, show l.length - (f + 1) = d by omega, lsts, List.map_append, List.find?_append, List.map_map]
  rw [show ((fun x => cuts ++ x) ∘ fun x => (f : Int) :: x) = (fun x => cuts ++ [(f : Int)] ++ x) from funext fun x => by simp]
theorem ret2_sb {a : Option Addr} {n c : Nat} {b b' : Bool} (h : b = b') : Ending.returned (.tuple #[.slice a n c, .bool b]) = .returned (.tuple #[.slice a n c, .bool b']) := by rw [h]
theorem if_isSome {α : Type} (b : Bool) (x : α) : b = (if b then some x else none).isSome := by cases b <;> rfl
/-- What search returns. -/
def RetSearch (res : Option (List Int)) (w : World) (e : Ending) (w' : World) : Prop :=
  ∃ a c L ok, e = .returned (.tuple #[.slice a L.length c, .bool ok]) ∧ ok = res.isSome ∧ Ints w' a L ∧ (a = none → c = 0) ∧ L.length ≤ 1000 ∧ (∀ r, res = some r → L = r) ∧ Below w.heap.size w w'
theorem cutsB_snoc (n : Int) (l : List Int) (f k : Int) (h : cutsB n f l = true) (hk : ∀ x ∈ l, x < k) (hf : f ≤ k) (hn : k < n) : cutsB n f (l ++ [k]) = true := by
  induction l generalizing f with
  | nil => simp [cutsB]; omega
  | cons x r ih =>
    simp only [cutsB, Bool.and_eq_true, decide_eq_true_eq, List.cons_append] at h ⊢
    refine ⟨h.1, ih (x + 1) h.2 (fun y hy => hk y (List.mem_cons_of_mem _ hy)) ?_⟩
    have := hk x (by simp); omega
theorem cutsB_last (n : Int) : ∀ (l : List Int) (f : Int), cutsB n f l = true → ∀ x ∈ l, ∀ y, l.getLast? = some y → x ≤ y := by
  intro l
  induction l with
  | nil => intro f _ x hx; simp at hx
  | cons c r ih =>
    intro f h x hx y hy
    simp only [cutsB, Bool.and_eq_true, decide_eq_true_eq] at h
    cases r with
    | nil => simp at hx hy; omega
    | cons d r' =>
      rw [List.getLast?_cons_cons] at hy
      rcases List.mem_cons.1 hx with rfl | hx
      · have h1 := ih _ h.2 d (by simp) y hy
        have h2 := cutsB_ge _ _ _ h.2 d (by simp)
        omega
      · exact ih _ h.2 x hx y hy

/-- The first list that is found at all. -/
def tryN (f : Nat → Option (List Int)) : List Nat → Option (List Int)
  | [] => none
  | n :: r => (f n).or (tryN f r)
theorem infoS3 : (Tryz.prog.info? 3).map (fun i => (i.zero, i.size, i.bytes)) = some (some (.int .i64 0), 1, 8) := by kernel_rfl
end Go.Proofs.YtkmpdcckgibkhaaGreat
