/-
  Walks: the reference's slow machine; tables are equal.
-/
import Derived.Test.YthlgdakdjikjhaaDoorJ
namespace Go.Proofs.YthlgdakdjikjhaaDoor
open Go.RowKit Go.ChangeMaps
attribute [local go_sem] Oper.semAt_some

set_option maxHeartbeats 4000000 in
theorem refSlow_yes (n : Nat) (w : World) (h1 : 1 ≤ n) (h9 : n ≤ 9) :
    Calls Tryd.prog 19 #[.int .i64 n] w fun e w' => ∃ a c, e = .returned (.slice a (slowM n).length c) ∧ RowsAt w' a (intM (slowM n)) ∧ Below w.heap.size w w' := by
  have hmax : max (1 : Int) ((n : Int) - 1) = ((max 1 (n - 1) : Nat) : Int) := by omega
  obtain ⟨m, hm⟩ : ∃ m, m = max 1 (n - 1) := ⟨_, rfl⟩
  rw [← hm] at hmax
  have hm1 : 1 ≤ m := by omega
  have HM := hid hm
  clear hm
  go_enter Tryd.func19, Tryd.ntmps19
  go_wp2_with fail
  go_loopw [3, 4, 5] (fun va vb qv W => ∃ q : Nat, q ≤ n ∧ qv = .int .i64 q ∧ Hid (Two w W va vb (slowA n q) (slowB n q))) (fun _ _ qv _ => n - (intOf qv).toNat)
  case atStart => exact ⟨0, by omega, rfl, Below.refl _ _, World.ownsRow_nil _ _ _ _, World.ownsRow_nil _ _ _ _, fun k hk => by simp [Value.ownBlock] at hk⟩
  case round =>
    obtain ⟨q, hq, rfl, HT⟩ := hrel
    have hsz := HT.out.below.size
    by_cases hlt : q < n
    · have t1 : Int.tmod ((q : Int) + 1) (n : Int) = (((q + 1) % n : Nat) : Int) := tmod_nn (q + 1) n
      have t2 : Int.tmod (q : Int) (m : Int) = ((q % m : Nat) : Int) := tmod_nn q m
      have ho := HT.out.a
      have hla : (slowA n q).length ≤ 9 := by rw [slowA_len]; omega
      have hlb : (slowB n q).length ≤ 9 := by rw [slowB_len]; omega
      obtain ⟨x, hx⟩ : ∃ x, x = (q + 1) % n := ⟨_, rfl⟩
      obtain ⟨y, hy⟩ : ∃ y, y = q % m := ⟨_, rfl⟩
      rw [← hx] at t1
      rw [← hy] at t2
      have hA : slowA n (q + 1) = slowA n q ++ [x] := by rw [slowA_succ, hx]
      have hB : slowB n (q + 1) = slowB n q ++ [y] := by rw [slowB_succ, hy, HM.out]
      have HA := hid hA
      have HB := hid hB
      have hz1 : ¬ (m : Int) = 0 := by omega
      have hz2 : ((m : Int) == 0) = false := beq_eq_false_iff_ne.2 hz1
      generalize slowA n q = A at *
      generalize slowB n q = B at *
      have hyc : (3 ≤ n ∧ (q : Int) % ((n : Int) - 1) = (y : Int)) ∨ (n ≤ 2 ∧ y = 0 ∧ m = 1) := by
        have hm2 := HM.out
        rcases (show 3 ≤ n ∨ n ≤ 2 by omega) with h | h
        · refine .inl ⟨h, ?_⟩
          rw [show (n : Int) - 1 = (m : Int) by omega, hy]; rfl
        · have hm3 : m = 1 := by omega
          refine .inr ⟨h, ?_, hm3⟩
          rw [hy, hm3, Nat.mod_one]
      clear hx hy hA hB
      go_wp2_with (at_builtin; go_must (refine wpList_app2 _ rfl (.tmp 11) (.tmp 16) 38 rfl w.heap.size 3 (.int .i64 0) 8 Tryd.underlying38 Tryd.info3 rfl _ A.length _ rfl (ho.alloc _) (some ⟨wr.heap.size, 0, none⟩) 1 1 [.int .i64 _] rfl rfl (vals_new wr _ _ _ rfl) (fun h => by cases h) (by simp [Value.oneCell']) (by omega) (by omega) (by simp; omega) ?_))
      intro v' w2 hown' hgrow hwh
      have HT2 := hid (HT.out.growA (x := x) _ hown' hgrow hwh)
      have ho2 := HT2.out.b
      have hsz2 := HT2.out.below.size
      clear hown' hgrow hwh ho
      rcases hyc with ⟨hn3, t3⟩ | ⟨hn2, hy0, hm0⟩
      · have c1 : (1 : Int) ≤ (n : Int) - 1 := by omega
        have c2 : (1 : Int) < (n : Int) - 1 := by omega
        go_wp2_with (at_builtin; go_must (refine wpList_app2 _ rfl (.tmp 18) (.tmp 24) 38 rfl w.heap.size 3 (.int .i64 0) 8 Tryd.underlying38 Tryd.info3 rfl _ B.length _ rfl (ho2.alloc _) (some ⟨w2.heap.size, 0, none⟩) 1 1 [.int .i64 _] rfl rfl (vals_new w2 _ _ _ rfl) (fun h => by cases h) (by simp [Value.oneCell']) (by omega) (by omega) (by simp; omega) ?_))
        intro v2' w3 hown2' hgrow2 hwh2
        have HT3 := hid (HT2.out.growB (x := y) _ hown2' hgrow2 hwh2)
        clear hown2' hgrow2 hwh2 ho2
        go_wp2_with fail
        exact ⟨⟨q + 1, by omega, by go_num, by rw [HA.out, HB.out]; exact HT3⟩, by simp [intOf]; omega⟩
      · subst hy0
        rcases (show (n : Int) - 1 < 1 ∨ ((n : Int) - 1 = 1) by omega) with c1 | c1
        · have c2 : ¬ (1 : Int) ≤ (n : Int) - 1 := by omega
          go_wp2_with (at_builtin; go_must (refine wpList_app2 _ rfl (.tmp 18) (.tmp 24) 38 rfl w.heap.size 3 (.int .i64 0) 8 Tryd.underlying38 Tryd.info3 rfl _ B.length _ rfl (ho2.alloc _) (some ⟨w2.heap.size, 0, none⟩) 1 1 [.int .i64 _] rfl rfl (vals_new w2 _ _ _ rfl) (fun h => by cases h) (by simp [Value.oneCell']) (by omega) (by omega) (by simp; omega) ?_))
          intro v2' w3 hown2' hgrow2 hwh2
          have HT3 := hid (HT2.out.growB (x := 0) _ hown2' hgrow2 hwh2)
          clear hown2' hgrow2 hwh2 ho2
          go_wp2_with fail
          exact ⟨⟨q + 1, by omega, by go_num, by rw [HA.out, HB.out]; exact HT3⟩, by simp [intOf]; omega⟩
        · have t3 : (q : Int) % ((n : Int) - 1) = 0 := by rw [c1]; omega
          have c2 : (1 : Int) ≤ (n : Int) - 1 := by omega
          have c3 : ¬ (n : Int) - 1 < 1 := by omega
          clear c1
          go_wp2_with (at_builtin; go_must (refine wpList_app2 _ rfl (.tmp 18) (.tmp 24) 38 rfl w.heap.size 3 (.int .i64 0) 8 Tryd.underlying38 Tryd.info3 rfl _ B.length _ rfl (ho2.alloc _) (some ⟨w2.heap.size, 0, none⟩) 1 1 [.int .i64 _] rfl rfl (vals_new w2 _ _ _ rfl) (fun h => by cases h) (by simp [Value.oneCell']) (by omega) (by omega) (by simp; omega) ?_))
          intro v2' w3 hown2' hgrow2 hwh2
          have HT3 := hid (HT2.out.growB (x := 0) _ hown2' hgrow2 hwh2)
          clear hown2' hgrow2 hwh2 ho2
          go_wp2_with fail
          exact ⟨⟨q + 1, by omega, by go_num, by rw [HA.out, HB.out]; exact HT3⟩, by simp [intOf]; omega⟩
    · have hqn : q = n := by omega
      subst hqn
      obtain ⟨a1, c1, rfl, -, -⟩ := ownsRow_vals HT.out.a
      obtain ⟨a2, c2, rfl, -, -⟩ := ownsRow_vals HT.out.b
      rw [List.length_map] at HT ⊢
      rw [List.length_map] at HT ⊢
      have HR := hid HT.out.rows
      have HBE := hid (HT.out.below.alloc hsz (.cells #[.slice a1 (slowA q q).length c1, .slice a2 (slowB q q).length c2] 38))
      clear hsz
      go_wp2_with fail
      go_ret
      exact ⟨_, 2, rfl, HR.out, HBE.out⟩

set_option maxHeartbeats 1000000 in
theorem Slow_no (n : Int) (w : World) (h : n < 1 ∨ 9 < n) :
    Calls Tryd.prog 16 #[.int .i64 n] w fun e w' => e = .returned (.tuple #[.slice none 0 0, .int .i64 2]) ∧ w = w' := by
  have W1 := hid (within_any n 1 9 w)
  rw [show (decide ((1 : Int) ≤ n) && decide (n ≤ 9)) = false by simp; omega] at W1
  go_enter Tryd.func16, Tryd.ntmps16
  go_wp2_with fail
  refine W1.out.mono ?_
  rintro e w1 ⟨rfl, rfl⟩
  go_wp2_with fail
  refine bodyPost_ret (results_tmp2 rfl _ _ _) rfl ?_
  exact ⟨rfl, rfl⟩
end Go.Proofs.YthlgdakdjikjhaaDoor
