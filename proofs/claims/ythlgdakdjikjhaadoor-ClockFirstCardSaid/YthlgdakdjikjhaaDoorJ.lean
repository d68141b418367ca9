/-
  Walks: the slow machine.
-/
import Derived.Test.YthlgdakdjikjhaaDoorI
namespace Go.Proofs.YthlgdakdjikjhaaDoor
open Go.RowKit Go.ChangeMaps
attribute [local go_sem] Oper.semAt_some

def slowA (n k : Nat) : List Nat := (List.range k).map fun q => (q + 1) % n
def slowB (n k : Nat) : List Nat := (List.range k).map fun q => q % max 1 (n - 1)
/-- The machine that needs a long word. -/
def slowM (n : Nat) : List (List Nat) := [slowA n n, slowB n n]
theorem slowA_succ (n k : Nat) : slowA n (k + 1) = slowA n k ++ [(k + 1) % n] := by simp [slowA, List.range_succ]
theorem slowB_succ (n k : Nat) : slowB n (k + 1) = slowB n k ++ [k % max 1 (n - 1)] := by simp [slowB, List.range_succ]
theorem slowA_len (n k : Nat) : (slowA n k).length = k := by simp [slowA]
theorem slowB_len (n k : Nat) : (slowB n k).length = k := by simp [slowB]
theorem tmod_nn (a b : Nat) : Int.tmod (a : Int) (b : Int) = ((a % b : Nat) : Int) := rfl
/-- Two rows of a call's own that do not share memory. -/
structure Two (w0 W : World) (va vb : Value) (A B : List Nat) : Prop where
  below : Below w0.heap.size w0 W
  a : W.ownsRow w0.heap.size 3 1 va A.length (A.map natV)
  b : W.ownsRow w0.heap.size 3 1 vb B.length (B.map natV)
  ne : ∀ k, va.ownBlock = some k → vb.ownBlock ≠ some k
theorem Two.growA {w0 W W' : World} {va vb va' : Value} {A B : List Nat} {x : Nat} (h : Two w0 W va vb A B) (o : Obj) (ho : W'.ownsRow w0.heap.size 3 1 va' (A.length + 1) (A.map natV ++ [natV x])) (hg : (W.alloc o).grownBy W' va.ownBlock) (hw : va'.ownBlock = va.ownBlock ∨ va'.ownBlock = some (W.heap.size + 1)) :
    Two w0 W' va' vb (A ++ [x]) B := by
  refine ⟨below_app (h.below.alloc h.below.size _) hg (h.a.alloc o) (by have := h.below.size; simp; omega) (Nat.le_refl _), by simpa using ho, ?_, ?_⟩
  · refine (h.b.alloc o).kept hg ?_
    cases hb : vb.ownBlock with
    | none => exact .inl rfl
    | some k => exact .inr fun e => h.ne k e.symm hb
  · intro k hk hb
    rcases hw with hw | hw
    · exact h.ne k (by rw [← hw]; exact hk) hb
    · rw [hw] at hk
      have h1 := (h.b.lt k hb).2
      have h2 := Option.some.inj hk
      omega
theorem Two.growB {w0 W W' : World} {va vb vb' : Value} {A B : List Nat} {x : Nat} (h : Two w0 W va vb A B) (o : Obj) (ho : W'.ownsRow w0.heap.size 3 1 vb' (B.length + 1) (B.map natV ++ [natV x])) (hg : (W.alloc o).grownBy W' vb.ownBlock) (hw : vb'.ownBlock = vb.ownBlock ∨ vb'.ownBlock = some (W.heap.size + 1)) :
    Two w0 W' va vb' A (B ++ [x]) := by
  have h' : Two w0 W vb va B A := ⟨h.below, h.b, h.a, fun k hk hb => h.ne k hb hk⟩
  have := h'.growA o ho hg hw
  exact ⟨this.below, this.b, this.a, fun k hk hb => this.ne k hb hk⟩

theorem natV_ints (l : List Nat) : (l.map fun (x : Nat) => (x : Int)).map (Value.int .i64) = l.map natV := by
  rw [List.map_map]; rfl
/-- Two rows laid into a row of rows. -/
theorem Two.rows {w0 W : World} {A B : List Nat} {a b : Option Addr} {ca cb : Nat} (h : Two w0 W (.slice a A.length ca) (.slice b B.length cb) A B) :
    RowsAt (W.alloc (.cells #[.slice a A.length ca, .slice b B.length cb] 38)) (some ⟨W.heap.size, 0, none⟩) (intM [A, B]) := by
  have hal : Below W.heap.size W (W.alloc (.cells #[.slice a A.length ca, .slice b B.length cb] 38)) := (Below.refl _ W).alloc (Nat.le_refl _) _
  obtain ⟨v1, n1, l1⟩ := own_vals h.a
  obtain ⟨v2, n2, l2⟩ := own_vals h.b
  refine ⟨[.slice a A.length ca, .slice b B.length cb], vals_new W _ _ _ rfl, rfl, fun i r hr => ?_⟩
  match i with
  | 0 =>
    simp only [intM, List.map_cons, List.getElem?_cons_zero, Option.some.injEq] at hr
    subst hr
    refine ⟨a, ca, by simp, ?_, n1, by simpa using l1⟩
    unfold Ints; rw [natV_ints]; exact v1.below hal (Nat.le_refl _)
  | 1 =>
    simp only [intM, List.map_cons, List.getElem?_cons_succ, List.getElem?_cons_zero, Option.some.injEq] at hr
    subst hr
    refine ⟨b, cb, by simp, ?_, n2, by simpa using l2⟩
    unfold Ints; rw [natV_ints]; exact v2.below hal (Nat.le_refl _)
  | k + 2 => simp [intM] at hr

set_option maxHeartbeats 4000000 in
theorem Slow_yes (n : Nat) (w : World) (h1 : 1 ≤ n) (h9 : n ≤ 9) :
    Calls Tryd.prog 16 #[.int .i64 n] w fun e w' => ∃ a c, e = .returned (.tuple #[.slice a (slowM n).length c, .int .i64 0]) ∧ RowsAt w' a (intM (slowM n)) ∧ Below w.heap.size w w' := by
  have W1 := hid (within_any (n : Int) 1 9 w)
  rw [show (decide ((1 : Int) ≤ (n : Int)) && decide ((n : Int) ≤ 9)) = true by simp; omega] at W1
  have hmax : max (1 : Int) ((n : Int) - 1) = ((max 1 (n - 1) : Nat) : Int) := by omega
  obtain ⟨m, hm⟩ : ∃ m, m = max 1 (n - 1) := ⟨_, rfl⟩
  rw [← hm] at hmax
  have hm1 : 1 ≤ m := by omega
  have HM := hid hm
  clear hm
  go_enter Tryd.func16, Tryd.ntmps16
  go_wp2_with fail
  refine W1.out.mono ?_
  rintro e w1 ⟨rfl, rfl⟩
  go_wp2_with fail
  go_loopw [4, 5, 11] (fun va vb qv W => ∃ q : Nat, q ≤ n ∧ qv = .int .i64 q ∧ Hid (Two w W va vb (slowA n q) (slowB n q))) (fun _ _ qv _ => n - (intOf qv).toNat)
  case atStart => exact ⟨0, by omega, rfl, Below.refl _ _, World.ownsRow_nil _ _ _ _, World.ownsRow_nil _ _ _ _, fun k hk => by simp [Value.ownBlock] at hk⟩
  case round =>
    obtain ⟨q, hq, rfl, HT⟩ := hrel
    have hsz := HT.out.below.size
    by_cases hlt : q < n
    · have t1 : Int.tmod ((q : Int) + 1) (n : Int) = (((q + 1) % n : Nat) : Int) := tmod_nn (q + 1) n
      have t2 : Int.tmod (q : Int) (m : Int) = ((q % m : Nat) : Int) := tmod_nn q m
      have ho := HT.out.a
      have hla : (slowA n q).length ≤ 9 := by rw [slowA_len]; omega
      have hlb : (slowB n q).length ≤ 9 := by rw [slowB_len]; omega
      obtain ⟨x, hx⟩ : ∃ x, x = (q + 1) % n := ⟨_, rfl⟩
      obtain ⟨y, hy⟩ : ∃ y, y = q % m := ⟨_, rfl⟩
      rw [← hx] at t1
      rw [← hy] at t2
      have hA : slowA n (q + 1) = slowA n q ++ [x] := by rw [slowA_succ, hx]
      have hB : slowB n (q + 1) = slowB n q ++ [y] := by rw [slowB_succ, hy, HM.out]
      have HA := hid hA
      have HB := hid hB
      have hz1 : ¬ (m : Int) = 0 := by omega
      have hz2 : ((m : Int) == 0) = false := beq_eq_false_iff_ne.2 hz1
      generalize slowA n q = A at *
      generalize slowB n q = B at *
      have hyc : (3 ≤ n ∧ (q : Int) % ((n : Int) - 1) = (y : Int)) ∨ (n ≤ 2 ∧ y = 0 ∧ m = 1) := by
        have hm2 := HM.out
        rcases (show 3 ≤ n ∨ n ≤ 2 by omega) with h | h
        · refine .inl ⟨h, ?_⟩
          rw [show (n : Int) - 1 = (m : Int) by omega, hy]; rfl
        · have hm3 : m = 1 := by omega
          refine .inr ⟨h, ?_, hm3⟩
          rw [hy, hm3, Nat.mod_one]
      clear hx hy hA hB
      go_wp2_with (at_builtin; go_must (refine wpList_app2 _ rfl (.tmp 14) (.tmp 19) 38 rfl w.heap.size 3 (.int .i64 0) 8 Tryd.underlying38 Tryd.info3 rfl _ A.length _ rfl (ho.alloc _) (some ⟨wr.heap.size, 0, none⟩) 1 1 [.int .i64 _] rfl rfl (vals_new wr _ _ _ rfl) (fun h => by cases h) (by simp [Value.oneCell']) (by omega) (by omega) (by simp; omega) ?_))
      intro v' w2 hown' hgrow hwh
      have HT2 := hid (HT.out.growA (x := x) _ hown' hgrow hwh)
      have ho2 := HT2.out.b
      have hsz2 := HT2.out.below.size
      clear hown' hgrow hwh ho
      rcases hyc with ⟨hn3, t3⟩ | ⟨hn2, hy0, hm0⟩
      · have c1 : (1 : Int) ≤ (n : Int) - 1 := by omega
        have c2 : (1 : Int) < (n : Int) - 1 := by omega
        go_wp2_with (at_builtin; go_must (refine wpList_app2 _ rfl (.tmp 21) (.tmp 27) 38 rfl w.heap.size 3 (.int .i64 0) 8 Tryd.underlying38 Tryd.info3 rfl _ B.length _ rfl (ho2.alloc _) (some ⟨w2.heap.size, 0, none⟩) 1 1 [.int .i64 _] rfl rfl (vals_new w2 _ _ _ rfl) (fun h => by cases h) (by simp [Value.oneCell']) (by omega) (by omega) (by simp; omega) ?_))
        intro v2' w3 hown2' hgrow2 hwh2
        have HT3 := hid (HT2.out.growB (x := y) _ hown2' hgrow2 hwh2)
        clear hown2' hgrow2 hwh2 ho2
        go_wp2_with fail
        exact ⟨⟨q + 1, by omega, by go_num, by rw [HA.out, HB.out]; exact HT3⟩, by simp [intOf]; omega⟩
      · subst hy0
        have c1 : ¬ (1 : Int) < (n : Int) - 1 := by omega
        have c2 : (n : Int) - 1 ≤ 1 := by omega
        go_wp2_with (at_builtin; go_must (refine wpList_app2 _ rfl (.tmp 21) (.tmp 27) 38 rfl w.heap.size 3 (.int .i64 0) 8 Tryd.underlying38 Tryd.info3 rfl _ B.length _ rfl (ho2.alloc _) (some ⟨w2.heap.size, 0, none⟩) 1 1 [.int .i64 _] rfl rfl (vals_new w2 _ _ _ rfl) (fun h => by cases h) (by simp [Value.oneCell']) (by omega) (by omega) (by simp; omega) ?_))
        intro v2' w3 hown2' hgrow2 hwh2
        have HT3 := hid (HT2.out.growB (x := 0) _ hown2' hgrow2 hwh2)
        clear hown2' hgrow2 hwh2 ho2
        go_wp2_with fail
        exact ⟨⟨q + 1, by omega, by go_num, by rw [HA.out, HB.out]; exact HT3⟩, by simp [intOf]; omega⟩
    · have hqn : q = n := by omega
      subst hqn
      obtain ⟨a1, c1, rfl, -, -⟩ := ownsRow_vals HT.out.a
      obtain ⟨a2, c2, rfl, -, -⟩ := ownsRow_vals HT.out.b
      rw [List.length_map] at HT ⊢
      rw [List.length_map] at HT ⊢
      have HR := hid HT.out.rows
      have HBE := hid (HT.out.below.alloc hsz (.cells #[.slice a1 (slowA q q).length c1, .slice a2 (slowB q q).length c2] 38))
      clear hsz
      go_wp2_with fail
      refine bodyPost_ret (results_tmp2 rfl _ _ _) rfl ?_
      exact ⟨_, 2, rfl, HR.out, HBE.out⟩
end Go.Proofs.YthlgdakdjikjhaaDoor
