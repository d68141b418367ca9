/-
  Walks: copies of lists of lists; lists are a machine.
-/
import Derived.Test.YthlgdakdjikjhaaDoorN
import Derived.Test.YthlgdakdjikjhaaDoorApp4
import Derived.Test.YthlgdakdjikjhaaDoorArgs
namespace Go.Proofs.YthlgdakdjikjhaaDoor
open Go.RowKit Go.ChangeMaps
attribute [local go_sem] Oper.semAt_some

/-- A row of rows, all of them a call's own. -/
structure Tab (w0 W : World) (v : Value) (T : List (List Int)) : Prop where
  below : Below w0.heap.size w0 W
  ex : ∃ vs, W.ownsRow w0.heap.size 38 1 v T.length vs ∧ ∀ (i : Nat) (r : List Int), T[i]? = some r → ∃ b c, vs[i]? = some (.slice b r.length c) ∧ W.ownsRow w0.heap.size 3 1 (.slice b r.length c) r.length (r.map (Value.int .i64)) ∧ ∀ k, v.ownBlock = some k → (Value.slice b r.length c).ownBlock ≠ some k
theorem Tab.start (w : World) : Tab w w (.slice none 0 0) [] where
  below := Below.refl _ _
  ex := ⟨[], World.ownsRow_nil _ _ _ _, fun i r h => by simp at h⟩
theorem own_block_lt {w : World} {base e size n : Nat} {v : Value} {xs : List Value} (h : w.ownsRow base e size v n xs) (k : Nat) (hk : v.ownBlock = some k) : base ≤ k ∧ k < w.heap.size := h.lt k hk
/-- Memory that is made or written above changes nothing. -/
theorem Tab.next {w0 W W' : World} {v : Value} {T : List (List Int)} (h : Tab w0 W v T) (hb : Below W.heap.size W W') : Tab w0 W' v T where
  below := h.below.trans (hb.mono h.below.size)
  ex := by
    obtain ⟨vs, h1, h2⟩ := h.ex
    refine ⟨vs, ownsRow_low h1 hb (Nat.le_refl _), fun i r hr => ?_⟩
    obtain ⟨b, c, k1, k2, k3⟩ := h2 i r hr
    exact ⟨b, c, k1, ownsRow_low k2 hb (Nat.le_refl _), k3⟩
theorem own_base {w : World} {base base' e size n : Nat} {v : Value} {xs : List Value} (h : w.ownsRow base e size v n xs) (hb : base' ≤ base) : w.ownsRow base' e size v n xs :=
  ⟨h.1, h.2.imp id fun ⟨g, cap, cur, e1, e2, e3⟩ => ⟨g, cap, cur, e1, Nat.le_trans hb e2, e3⟩⟩
/-- A new row joins. -/
theorem Tab.add {w0 W W1 W2 : World} {v v' : Value} {T : List (List Int)} {r : List Int} {b : Option Addr} {c : Nat} {vs : List Value} (h : Tab w0 W v T) (hb : Below W.heap.size W W1) (hr : W1.ownsRow W.heap.size 3 1 (.slice b r.length c) r.length (r.map (Value.int .i64))) (o : Obj)
    (hvs : W.ownsRow w0.heap.size 38 1 v T.length vs ∧ ∀ (i : Nat) (r : List Int), T[i]? = some r → ∃ b c, vs[i]? = some (.slice b r.length c) ∧ W.ownsRow w0.heap.size 3 1 (.slice b r.length c) r.length (r.map (Value.int .i64)) ∧ ∀ k, v.ownBlock = some k → (Value.slice b r.length c).ownBlock ≠ some k)
    (ho : W2.ownsRow w0.heap.size 38 1 v' (T.length + 1) (vs ++ [.slice b r.length c])) (hg : (W1.alloc o).grownBy W2 v.ownBlock) (hw : v'.ownBlock = v.ownBlock ∨ v'.ownBlock = some (W1.heap.size + 1)) : Tab w0 W2 v' (T ++ [r]) where
  below := by
    have h1 := h.below.size
    have h2 := hb.size
    exact below_app ((h.below.trans (hb.mono h1)).alloc (by omega) _) hg ((ownsRow_low hvs.1 hb (Nat.le_refl _)).alloc o) (by simp; omega) (Nat.le_refl _)
  ex := by
    obtain ⟨h1, h2⟩ := hvs
    have hvl : vs.length = T.length := by
      have := ho.1
      have := h1.1
      omega
    have s1 := h.below.size
    have s2 := hb.size
    refine ⟨_, by simpa using ho, fun i q hq => ?_⟩
    rcases Nat.lt_or_ge i T.length with hi | hi
    · rw [List.getElem?_append_left hi] at hq
      obtain ⟨b', c', k1, k2, k3⟩ := h2 i q hq
      refine ⟨b', c', by rw [List.getElem?_append_left (by omega)]; exact k1, ?_, ?_⟩
      · refine ((ownsRow_low k2 hb (Nat.le_refl _)).alloc o).kept hg ?_
        cases hbk : (Value.slice b' q.length c').ownBlock with
        | none => exact .inl rfl
        | some k => exact .inr fun e => k3 k e.symm hbk
      · intro k hk hb'
        have hl := (k2.lt k hb').2
        rcases hw with hw | hw
        · exact k3 k (by rw [← hw]; exact hk) hb'
        · rw [hw] at hk
          have := Option.some.inj hk
          omega
    · have hi0 : i = T.length := by
        have := (List.getElem?_eq_some_iff.1 hq).1
        rw [List.length_append] at this
        simp at this; omega
      subst hi0
      rw [List.getElem?_append_right (Nat.le_refl _)] at hq
      simp only [Nat.sub_self, List.getElem?_cons_zero, Option.some.injEq] at hq
      subst hq
      refine ⟨b, c, by rw [← hvl, List.getElem?_append_right (Nat.le_refl _)]; simp, ?_, ?_⟩
      · refine (own_base (hr.alloc o) (by omega)).kept hg ?_
        cases hbk : (Value.slice b r.length c).ownBlock with
        | none => exact .inl rfl
        | some k =>
          refine .inr fun e => ?_
          have h3 := (h1.lt k e.symm).2
          have h4 := (hr.lt k hbk).1
          omega
      · intro k hk hb'
        have hl := hr.lt k hb'
        rcases hw with hw | hw
        · rw [hw] at hk
          have h3 := (h1.lt k hk).2
          omega
        · rw [hw] at hk
          have := Option.some.inj hk
          omega
theorem Tab.rows {w0 W : World} {a : Option Addr} {n c : Nat} {T : List (List Int)} (h : Tab w0 W (.slice a n c) T) : n = T.length ∧ RowsAt W a T ∧ (a = none → c = 0) ∧ n ≤ c := by
  obtain ⟨vs, h1, h2⟩ := h.ex
  obtain ⟨a1, c1, he, hv, -⟩ := ownsRow_vals h1
  have hvl : vs.length = T.length := by
    have := h1.1
    omega
  rw [hvl] at he
  cases he
  refine ⟨rfl, ⟨vs, hv, hvl, fun i r hr => ?_⟩, (ownsRow_facts h1).2.2, (ownsRow_facts h1).2.1⟩
  obtain ⟨b, c2, k1, k2, -⟩ := h2 i r hr
  exact ⟨b, c2, k1, (ownsRow_ints k2).elim fun a' ⟨c', e, k⟩ => by cases e; exact k, (ownsRow_facts k2).2.2, (ownsRow_facts k2).2.1⟩

/-- A copy of at most six lists, each of at most eleven numbers. -/
def tabL (X : List (List Int)) : List (List Int) := (X.take 6).map (·.take 11)
/-- What a call returns: a table of the call's own. -/
def RetT (T : List (List Int)) (w : World) (e : Ending) (w' : World) : Prop := ∃ a c, e = .returned (.slice a T.length c) ∧ Hid (Tab w w' (.slice a T.length c) T)
theorem Tryd.info38 : (Tryd.prog.info? 38).map (fun i => (i.zero, i.size, i.bytes)) = some (some (.slice none 0 0), 1, 24) := by kernel_rfl

theorem cells_new (w : World) (u : Value) (t : TypeId) : ∀ (j : Nat) (x : Value), [u][j]? = some x → (w.alloc (.cells #[u] t)).cell? ((⟨w.heap.size, 0, none⟩ : Addr).add j) = some x := by
  intro j x h
  have hj : j = 0 := by
    have := (List.getElem?_eq_some_iff.1 h).1
    simp at this; exact this
  subst hj
  simp only [List.getElem?_cons_zero, Option.some.injEq] at h
  subst h
  exact (Blk.new w #[u] t).cell 0
theorem Tab.vs_len {w0 W : World} {v : Value} {T : List (List Int)} {vs : List Value} (h : W.ownsRow w0.heap.size 38 1 v T.length vs) : vs.length = T.length := by have := h.1; omega

set_option maxHeartbeats 1000000 in
theorem table_any (a : Option Addr) (c : Nat) (X : List (List Int)) (w : World) (hr : RowsAt w a X) (hl : X.length ≤ maxLen) (hl2 : ∀ r ∈ X, r.length ≤ maxLen) :
    Calls Tryd.prog 22 #[.slice a X.length c] w (RetT (tabL X) w) := by
  have HR := hid hr
  have HL := hid hl2
  have hmx : maxLen ≤ 9223372036854775807 := by decide
  clear hr hl2
  go_enter Tryd.func22, Tryd.ntmps22
  go_wp2_with fail
  go_loopw [3, 4] (fun v iv W => ∃ i : Nat, i ≤ X.length ∧ i ≤ 6 ∧ iv = .int .i64 i ∧ Hid (Tab w W v ((X.take i).map (·.take 11)))) (fun _ iv _ => 6 - (intOf iv).toNat)
  case atStart => exact ⟨0, by omega, by omega, rfl, Tab.start w⟩
  case round =>
    obtain ⟨i, hi, hi6, rfl, HT⟩ := hrel
    by_cases h : i < X.length ∧ i < 6
    · obtain ⟨h1, h2⟩ := h
      have d1 : decide ((i : Int) < (X.length : Int)) = true := decide_eq_true (by omega)
      have d2 : decide ((i : Int) < 6) = true := decide_eq_true (by omega)
      have hB := HT.out.below
      obtain ⟨g, o, b, cr, rfl, hg, q1, hin, hnil, hcap⟩ := HR.out.at i X[i] (List.getElem?_eq_getElem h1)
      have q2 := (hB.cell (p := ⟨g, o + i, none⟩) hg).trans q1
      have C := hid (listc_any b cr X[i] wr (hin.below hB (Nat.le_refl _)) hcap hnil (Nat.le_trans (HL.out _ (List.getElem_mem h1)) hmx))
      have hst : (X.take (i + 1)).map (·.take 11) = (X.take i).map (·.take 11) ++ [X[i].take 11] := by
        rw [List.take_succ_eq_append_getElem h1, List.map_append]; rfl
      have HST := hid hst
      obtain ⟨vs, hvs⟩ := HT.out.ex
      have HVS := hid hvs
      have hTl : ((X.take i).map (·.take 11)).length = i := by rw [List.length_map, List.length_take]; omega
      have HTL := hid hTl
      have hs1 := hid hB.size
      generalize (X.take i).map (·.take 11) = T at *
      generalize X[i] = row at *
      clear hin hnil hcap q1 hst hvs hTl hB
      go_wp2_with fail
      refine C.out.mono ?_
      rintro e w1 ⟨a1, c1, rfl, ho, hb1⟩
      have hbs := hb1.size
      have hv2 := (ownsRow_low HVS.out.1 hb1 (Nat.le_refl _)).alloc (.cells #[.slice a1 (row.take 11).length c1] 38)
      have HB1 := hid hb1
      have HSZ := hid (show (w1.alloc (.cells #[.slice a1 (row.take 11).length c1] 38)).heap.size = w1.heap.size + 1 by simp)
      clear hb1
      generalize hrow : row.take 11 = row' at *
      go_wp2_with (at_builtin; go_must (refine wpList_appN _ rfl (.tmp 15) (.tmp 21) 22 rfl w.heap.size 38 (.slice none 0 0) 1 24 Tryd.underlying22 Tryd.info38 rfl (by omega) _ T.length vs rfl hv2 ⟨w1.heap.size, 0, none⟩ 1 1 [.slice a1 row'.length c1] rfl rfl (cells_new w1 _ 38) (by simp [Value.oneCell']) (by rw [HTL.out]; omega) (by omega) (by rw [HSZ.out]; have := hs1.out; omega) (by omega) ?_))
      intro v' w2 hown' hgrow hwh
      have hadd := HT.out.add (W1 := w1) (W2 := w2) (v' := v') HB1.out ho.out (.cells #[.slice a1 row'.length c1] 38) HVS.out (by simpa using hown') hgrow (by rcases hwh with h | h; exact .inl h; exact .inr h)
      rw [← HST.out] at hadd
      have HADD := hid hadd
      clear hadd hown' hgrow hwh hv2 ho
      go_wp2_with fail
      exact ⟨⟨i + 1, by omega, by omega, by go_num, HADD⟩, by simp [intOf]; omega⟩
    · have hfin : (X.take i).map (·.take 11) = tabL X := by
        unfold tabL
        rcases (show i = 6 ∨ X.length ≤ i by omega) with h6 | h6
        · rw [h6]
        · rw [List.take_of_length_le h6, List.take_of_length_le (by omega)]
      rw [hfin] at HT
      have hB := HT.out.below
      obtain ⟨vs, hvs, -⟩ := HT.out.ex
      obtain ⟨a1, c1, rfl, -, -⟩ := ownsRow_vals hvs
      have hvl := Tab.vs_len hvs
      rw [hvl] at HT ⊢
      clear hvs hfin hvl
      rcases (show ¬ i < X.length ∨ (i < X.length ∧ ¬ i < 6) by omega) with h1 | ⟨h0, h1⟩
      · have d1 : decide ((i : Int) < (X.length : Int)) = false := decide_eq_false (by omega)
        go_wp2_with fail
        go_ret
        exact ⟨a1, c1, rfl, HT⟩
      · have d1 : decide ((i : Int) < (X.length : Int)) = true := decide_eq_true (by omega)
        have d2 : decide ((i : Int) < 6) = false := decide_eq_false (by omega)
        go_wp2_with fail
        go_ret
        exact ⟨a1, c1, rfl, HT⟩

def inR (n : Nat) (q : Int) : Bool := decide (0 ≤ q) && decide (q < (n : Int))
def rowOk (n : Nat) (r : List Int) : Bool := r.length == n && r.all (inR n)
theorem machineB_rows (X : List (List Int)) (h1 : 1 ≤ X.length) (h4 : X.length ≤ 4) : machineB X = ((decide (1 ≤ (X.headD []).length) && decide ((X.headD []).length ≤ 9)) && X.all (rowOk (X.headD []).length)) := by
  unfold machineB
  rw [decide_eq_true h1, decide_eq_true h4]
  simp only [Bool.true_and]
  rfl
theorem inR_no {n : Nat} {q : Int} (h : q < 0 ∨ (n : Int) ≤ q) : inR n q = false := by
  unfold inR
  rcases h with h | h
  · rw [decide_eq_false (by omega)]; rfl
  · rw [decide_eq_false (p := q < (n : Int)) (by omega), Bool.and_false]
theorem inR_yes {n : Nat} {q : Int} (h : 0 ≤ q) (h2 : q < (n : Int)) : inR n q = true := by
  unfold inR
  rw [decide_eq_true h, decide_eq_true h2]; rfl

set_option maxHeartbeats 1000000 in
theorem refMachine_any (a : Option Addr) (c : Nat) (X : List (List Int)) (w : World) (hr : RowsAt w a X) (hl : X.length ≤ 1000000) (hl2 : ∀ r ∈ X, r.length ≤ 1000000) :
    Calls Tryd.prog 24 #[.slice a X.length c] w fun e w' => e = .returned (.bool (machineB X)) ∧ w = w' := by
  by_cases h14 : 1 ≤ X.length ∧ X.length ≤ 4
  · obtain ⟨h1, h4⟩ := h14
    have hm := machineB_rows X h1 h4
    obtain ⟨r0, X', rfl⟩ : ∃ r X', X = r :: X' := by
      cases X with
      | nil => simp at h1
      | cons r X' => exact ⟨r, X', rfl⟩
    obtain ⟨g, o, b0, c0, rfl, hg, q1, -, -, -⟩ := hr.at 0 r0 rfl
    rw [Nat.add_zero] at q1
    have hn := hl2 r0 (List.mem_cons_self ..)
    rw [show ((r0 :: X').headD []).length = r0.length from rfl] at hm
    have HR := hid (fun i r h => hr.at i r h)
    have HL := hid hl2
    have HM := hid hm
    have hN : ∃ N, N = r0.length := ⟨_, rfl⟩
    obtain ⟨N, hN⟩ := hN
    rw [← hN] at hn q1 HM
    have c1 : decide (((r0 :: X').length : Int) < 1) = false := decide_eq_false (by omega)
    have c2 : decide (((r0 :: X').length : Int) > 4) = false := decide_eq_false (by omega)
    generalize r0 :: X' = X at *
    clear hm hr hl2 hN
    go_enter Tryd.func24, Tryd.ntmps24
    go_wp2_with fail
    go_loop [4] (fun iv => ∃ i : Nat, i ≤ X.length ∧ iv = .int .i64 i ∧ Hid (machineB X = ((decide (1 ≤ N) && decide (N ≤ 9)) && (X.drop i).all (rowOk N)))) (fun iv => X.length - (intOf iv).toNat)
    case atStart => exact ⟨0, by omega, rfl, HM⟩
    case round =>
      obtain ⟨i, hi, rfl, H⟩ := hrel
      by_cases hlt : i < X.length
      · obtain ⟨row, hx, hd⟩ := list_drop_cons X i hlt
        obtain ⟨g', o', b1, c1, he, -, q2, hin, -, -⟩ := HR.out i row hx
        cases he
        have hrl := HL.out row (List.mem_of_getElem? hx)
        have HD := hid hd
        clear hd
        by_cases hlen : row.length = N
        · have hrow : rowOk N row = row.all (inR N) := by unfold rowOk; rw [hlen, beq_self_eq_true, Bool.true_and]
          have HROW := hid hrow
          have HIN := hid hin
          subst hlen
          clear hrow hin hx
          go_wp2_with fail
          go_loop [5] (fun qv => ∃ q : Nat, q ≤ row.length ∧ qv = .int .i64 q ∧ Hid (row.all (inR row.length) = (row.drop q).all (inR row.length))) (fun qv => row.length - (intOf qv).toNat)
          case atStart => exact ⟨0, by omega, rfl, rfl⟩
          case round =>
            obtain ⟨q, hq, rfl, HQ⟩ := hrel
            by_cases hqn : q < row.length
            · obtain ⟨x, hx, hd⟩ := list_drop_cons row q hqn
              obtain ⟨g2, o2, rfl, hg2, hcell⟩ := HIN.out.at (by omega)
              have q3 := hcell q x hx
              have HD2 := hid hd
              clear hcell hx hd
              by_cases hx0 : x < 0
              · have hfin : machineB X = false := by
                  rw [H.out, HD.out, List.all_cons, HROW.out, HQ.out, HD2.out, List.all_cons, inR_no (.inl hx0)]
                  simp
                have HF := hid hfin
                have d1 : decide (x < 0) = true := decide_eq_true hx0
                clear hfin
                go_wp2_with fail
                go_ret
                exact ⟨ret_bool HF.out.symm, rfl⟩
              · have d1 : decide (x < 0) = false := decide_eq_false hx0
                by_cases hxn : x < (row.length : Int)
                · have hfin : row.all (inR row.length) = (row.drop (q + 1)).all (inR row.length) := by
                    rw [HQ.out, HD2.out, List.all_cons, inR_yes (by omega) hxn, Bool.true_and]
                  have HF := hid hfin
                  have d2 : decide (x ≥ (row.length : Int)) = false := decide_eq_false (by omega)
                  clear hfin
                  go_wp2_with fail
                  exact ⟨⟨q + 1, by omega, by go_num, HF⟩, by simp [intOf]; omega⟩
                · have hfin : machineB X = false := by
                    rw [H.out, HD.out, List.all_cons, HROW.out, HQ.out, HD2.out, List.all_cons, inR_no (.inr (by omega))]
                    simp
                  have HF := hid hfin
                  have d2 : decide (x ≥ (row.length : Int)) = true := decide_eq_true (by omega)
                  clear hfin
                  go_wp2_with fail
                  go_ret
                  exact ⟨ret_bool HF.out.symm, rfl⟩
            · have hfin : machineB X = ((decide (1 ≤ row.length) && decide (row.length ≤ 9)) && (X.drop (i + 1)).all (rowOk row.length)) := by
                rw [H.out, HD.out, List.all_cons, HROW.out, HQ.out, List.drop_eq_nil_of_le (by omega), List.all_nil, Bool.true_and]
              have HF := hid hfin
              clear hfin
              go_wp2_with fail
              exact ⟨⟨i + 1, by omega, by go_num, HF⟩, by simp [intOf]; omega⟩
        · have hfin : machineB X = false := by
            rw [H.out, HD.out, List.all_cons]
            unfold rowOk
            rw [beq_eq_false_iff_ne.2 hlen]; simp
          have HF := hid hfin
          have d1 : decide ((row.length : Int) = (N : Int)) = false := decide_eq_false (by omega)
          clear hfin
          go_wp2_with fail
          go_ret
          exact ⟨ret_bool HF.out.symm, rfl⟩
      · have hfin : machineB X = (decide (1 ≤ N) && decide (N ≤ 9)) := by
          rw [H.out, List.drop_eq_nil_of_le (by omega), List.all_nil, Bool.and_true]
        have HF := hid hfin
        clear hfin
        go_wp2_with fail
        all_goals (go_ret; exact ⟨ret_bool (by rw [HF.out, Bool.eq_iff_iff]; simp; omega), rfl⟩)
  · have hfin : machineB X = false := by
      unfold machineB
      rcases (show ¬ 1 ≤ X.length ∨ ¬ X.length ≤ 4 by omega) with h | h
      · rw [decide_eq_false h]; simp
      · rw [decide_eq_false h]; simp
    have HF := hid hfin
    clear hfin hr hl2
    go_enter Tryd.func24, Tryd.ntmps24
    rcases (show (X.length : Int) < 1 ∨ (¬ (X.length : Int) < 1 ∧ (X.length : Int) > 4) by omega) with h | ⟨h, h'⟩
    · go_wp2_with fail
      go_ret
      exact ⟨ret_bool HF.out.symm, rfl⟩
    · go_wp2_with fail
      go_ret
      exact ⟨ret_bool HF.out.symm, rfl⟩
end Go.Proofs.YthlgdakdjikjhaaDoor
