/-
  Walks: a machine made from any lists.
-/
import Derived.Test.YthlgdakdjikjhaaDoorLawMerges
import Derived.Test.YthlgdakdjikjhaaDoorRowA
import Derived.Test.YthlgdakdjikjhaaDoorMod
namespace Go.Proofs.YthlgdakdjikjhaaDoor
open Go.RowKit Go.ChangeMaps
attribute [local go_sem] Oper.semAt_some

theorem own_row {w : World} {g n base : Nat} {cs : Array Value} {t : TypeId} (h : Blk w g cs t) (hs : cs.size = n) (hb : base ≤ g) (hn : n ≤ 1000) : w.ownsRow base t 1 (.slice (some ⟨g, 0, none⟩) n n) n cs.toList :=
  ⟨by rw [Array.length_toList, hs]; omega, .inr ⟨g, n, cs, rfl, hb, h, Nat.le_refl _, Nat.le_trans hn (by decide), by omega, by rw [List.take_of_length_le (by rw [Array.length_toList]; omega)]⟩⟩
/-- A row of numbers below n. -/
def rowN (f : Nat → Nat) (n : Nat) : List Nat := (List.range n).map f
theorem rowN_len (f : Nat → Nat) (n : Nat) : (rowN f n).length = n := by simp [rowN]
theorem rowA_list (f : Nat → Nat) (n : Nat) : (rowA (fun i => (f i : Int)) n).toList = ((rowN f n).map fun (x : Nat) => (x : Int)).map (Value.int .i64) := by
  unfold rowA rowN
  rw [List.map_map, List.map_map]
  rfl
theorem rowA_size (f : Nat → Int) (n : Nat) : (rowA f n).size = n := by simp [rowA]
theorem Tab.next' {w W : World} (h : Tab w w (.slice none 0 0) []) (hb : Below w.heap.size w W) : Tab w W (.slice none 0 0) [] := h.next hb
/-- What a call returns: a machine, in memory of the call's own. -/
def RetM (w : World) (e : Ending) (w' : World) : Prop := ∃ M a c, OkM M ∧ e = .returned (.slice a M.length c) ∧ Hid (Tab w w' (.slice a M.length c) (intM M))
theorem intM_snoc (M : List (List Nat)) (r : List Nat) : intM M ++ [r.map fun (x : Nat) => (x : Int)] = intM (M ++ [r]) := by simp [intM]

set_option maxRecDepth 100000 in
set_option maxHeartbeats 4000000 in
theorem tame_any (a : Option Addr) (c : Nat) (X : List (List Int)) (w : World) (hX : IsRows w a X.length c X) : Calls Tryd.prog 26 #[.slice a X.length c] w (RetM w) := by
  obtain ⟨-, hl, -, hr, hl2⟩ := hX
  have hmx : maxLen ≤ 9223372036854775807 := by decide
  have TB := hid (table_any a c X w hr hl fun r h => (hl2 r h).1)
  have hTl := tabL_len X
  have hTr := tabL_rows X
  cases hm : machineB (tabL X) with
  | true =>
    obtain ⟨M, hMT, hM⟩ := machine_ok _ hm
    rw [hMT] at TB hTl hTr
    have RM := hid (fun a' c' W (hr' : RowsAt W a' (intM M)) => refMachine_any a' c' (intM M) W hr' (by omega) (fun r h => by have := hTr r h; omega))
    rw [ok_machine M hM] at RM
    have HM := hid hM
    clear hr hl2 hTr hMT hm hM
    go_enter Tryd.func26, Tryd.ntmps26
    go_wp2_with fail
    refine TB.out.mono ?_
    rintro e w1 ⟨a1, c1, rfl, ht⟩
    obtain ⟨-, hr1, -, -⟩ := ht.out.rows
    have RM1 := hid (RM.out a1 c1 w1 hr1)
    clear hr1
    rw [intM_length] at *
    go_wp2_with fail
    refine RM1.out.mono ?_
    rintro e w2 ⟨rfl, rfl⟩
    go_wp2_with fail
    go_ret
    exact ⟨M, a1, c1, HM.out, rfl, ht⟩
  | false =>
    have RM := hid (fun a' c' W (hr' : RowsAt W a' (tabL X)) => refMachine_any a' c' (tabL X) W hr' (by omega) (fun r h => by have := hTr r h; omega))
    rw [hm] at RM
    have HR := hid (fun W (hb : Below w.heap.size w W) => hr.below hb (Nat.le_refl _))
    have HL2 := hid hl2
    have MK := hid (fun W => mod_any ((X.length : Int) - 1) 4 W (by omega) (by omega) (by omega))
    have hk4 := modN_lt ((X.length : Int) - 1) 4 (by omega)
    generalize modN ((X.length : Int) - 1) 4 = k at *
    generalize tabL X = T at *
    clear hr hl2 hTr hm
    go_enter Tryd.func26, Tryd.ntmps26
    go_wp2_with fail
    refine TB.out.mono ?_
    rintro e w1 ⟨a1, c1, rfl, ht⟩
    obtain ⟨-, hr1, -, -⟩ := ht.out.rows
    have RM1 := hid (RM.out a1 c1 w1 hr1)
    have HB1 := hid ht.out.below
    clear hr1 ht
    go_wp2_with fail
    refine RM1.out.mono ?_
    rintro e w2 ⟨rfl, rfl⟩
    go_wp2_with fail
    refine (MK.out w1).mono ?_
    rintro e w2 ⟨rfl, rfl⟩
    by_cases h0 : 0 < X.length
    · obtain ⟨g0, o0, b0, c0, ha0, hg0, qh, -, -, -⟩ := (HR.out w (Below.refl _ w)).at 0 X[0] (List.getElem?_eq_getElem h0)
      rw [Nat.add_zero] at qh
      have hxl := (HL2.out X[0] (List.getElem_mem h0)).1
      have MN := hid (fun W => mod_any ((X[0].length : Int) - 1) 9 W (by omega) (by omega) (by omega))
      have hk9 := modN_lt ((X[0].length : Int) - 1) 9 (by omega)
      generalize modN ((X[0].length : Int) - 1) 9 = k2 at *
      generalize X[0].length = r0 at *
      have qh1 := (HB1.out.cell (p := ⟨g0, o0, none⟩) hg0).trans qh
      subst ha0
      go_wp2_with fail
      refine (MN.out w1).mono ?_
      rintro e w2 ⟨rfl, rfl⟩
      go_wp2_with fail
      obtain ⟨n, hn⟩ : ∃ n, n = 1 + k2 := ⟨_, rfl⟩
      obtain ⟨K, hK⟩ : ∃ K, K = 1 + k := ⟨_, rfl⟩
      have hn1 : 1 ≤ n := by omega
      have hn9 : n ≤ 9 := by omega
      rw [show (1 + (k : Int)) = (K : Int) by omega]
      rw [show (1 + (k2 : Int)) = (n : Int) by omega]
      have hK4 : K ≤ 4 := by omega
      have hK1 : 1 ≤ K := by omega
      have HN := hid hn
      have HK := hid hK
      clear hn hK
      go_loopw [6, 7] (fun out bv W => ∃ (b : Nat) (Ms : List (List Nat)), bv = .int .i64 b ∧ b ≤ K ∧ Ms.length = b ∧ Hid (∀ r ∈ Ms, r.length = n ∧ ∀ x ∈ r, x < n) ∧ Hid (Tab w W out (intM Ms))) (fun _ bv _ => K - (intOf bv).toNat)
      case atStart => exact ⟨0, [], rfl, by omega, rfl, fun r h => by simp at h, (Tab.start w).next' HB1.out⟩
      case round =>
        obtain ⟨b, Ms, rfl, hb, hMs, HMS, HT⟩ := hrel
        obtain ⟨W0, rfl⟩ : ∃ W0, W0 = wr := ⟨_, rfl⟩
        have hsz := HT.out.below.size
        by_cases hlt : b < K
        · have hmk2 : ∀ W : World, (Instr.makeSlice 38 (.int .i64 (n : Int)) (.int .i64 (n : Int))).run Tryd.prog W = .ok (.slice (some ⟨W.heap.size, 0, none⟩) n n) (W.alloc (.cells (rowA (fun _ => 0) n) 3)) := by
            intro W
            have hmk := run_make_row' (P := Tryd.prog) 38 3 (.int .i64 0) 8 Tryd.underlying38 Tryd.info3 rfl .i64 .i64 n (by omega) (by omega) W
            rw [← rowA_made]; exact hmk
          have hlen : (intM Ms).length = b := by rw [intM_length, hMs]
          obtain ⟨vs, hvs⟩ := HT.out.ex
          have HVS := hid hvs
          have HLEN := hid hlen
          have HMSL := hid hMs
          have MM := hid (fun (x : Int) (W : World) (hx : -9223372036854775808 ≤ x ∧ x ≤ 9223372036854775807) => mod_any x n W (by omega) (by omega) hx)
          clear hvs hlen hMs
          by_cases hbX : b < X.length
          · obtain ⟨g, o, b1, c3, ha, hg, q1, hin, -, -⟩ := (HR.out W0 HT.out.below).at b X[b] (List.getElem?_eq_getElem hbX)
            first
              | (obtain ⟨e1, e2⟩ : g0 = g ∧ o0 = o := by simpa using ha
                 subst g0 o0)
              | subst ha
            have HX2 := hid (HL2.out X[b] (List.getElem_mem hbX))
            obtain ⟨row, hrow⟩ : ∃ row, row = X[b] := ⟨_, rfl⟩
            rw [← hrow] at q1 hin HX2
            have HIN := hid hin
            have hrl := HX2.out.1
            clear hin hrow
            go_wp2_with fail
            go_loopw [9] (fun qv W => ∃ (q : Nat) (f : Nat → Nat), qv = .int .i64 q ∧ q ≤ n ∧ Hid (∀ i, f i < n) ∧ Below W0.heap.size W0 W ∧ Blk W W0.heap.size (rowA (fun i => (f i : Int)) n) 3) (fun qv _ => n - (intOf qv).toNat)
            case atStart => exact ⟨0, fun _ => 0, rfl, by omega, fun _ => hn1, (Below.refl _ W0).alloc (Nat.le_refl _) _, Blk.new W0 _ _⟩
            case round =>
              obtain ⟨q, f, rfl, hq, HF, hBw, hBlk⟩ := hrel
              have hBw := hid hBw
              have hBlk := hid hBlk
              have q2 := (hBw.out.cell (p := ⟨g, o + b, none⟩) hg).trans q1
              by_cases hqn : q < n
              · by_cases hqr : q < row.length
                · obtain ⟨x, hx, -⟩ := list_drop_cons row q hqr
                  obtain ⟨g2, o2, rfl, hg2, hcell⟩ := HIN.out.at (by omega)
                  have q3 := (hBw.out.cell (p := ⟨g2, o2 + q, none⟩) hg2).trans (hcell q x hx)
                  have C := hid (MM.out x wr (HX2.out.2 x (List.mem_of_getElem? hx)))
                  have hxn := modN_lt x n (by omega)
                  obtain ⟨y, hy⟩ : ∃ y, y = modN x n := ⟨_, rfl⟩
                  rw [← hy] at C hxn
                  have c5 := hBlk.out.rowAt q hqn
                  have f5 := hBlk.out.free q
                  have hput := hBlk.out.rowPut (g := fun i => (((fun i => if i = q then y else f i) i : Nat) : Int)) q (y : Int) (fun i _ => by dsimp only; split <;> rfl)
                  have HPUT := hid hput
                  have HF2 := hid (show ∀ i, (fun i => if i = q then y else f i) i < n from fun i => by
                    dsimp only
                    split
                    · exact hxn
                    · exact HF.out i)
                  have HBW2 := hid (show Below W0.heap.size W0 (wr.setCell ⟨W0.heap.size, q, none⟩ (.int .i64 (y : Int))) from hBw.out.setCell (Nat.le_refl _) _)
                  clear hy hcell hx hput
                  go_wp2_with fail
                  refine C.out.mono ?_
                  rintro e w5 ⟨rfl, rfl⟩
                  go_wp2_with fail
                  exact ⟨⟨q + 1, _, by go_num, by omega, HF2, HBW2.out, HPUT.out⟩, by simp [intOf]; omega⟩
                · have dq : decide ((q : Int) < (row.length : Int)) = false := decide_eq_false (by omega)
                  obtain ⟨hrl2, hr2⟩ : (((rowN f n).map fun (x : Nat) => (x : Int)).length = n) ∧ wr.ownsRow W0.heap.size 3 1 (.slice (some ⟨W0.heap.size, 0, none⟩) n n) n (((rowN f n).map fun (x : Nat) => (x : Int)).map (Value.int .i64)) := ⟨by rw [List.length_map, rowN_len], by rw [← rowA_list]; exact own_row hBlk.out (rowA_size _ _) (Nat.le_refl _) (by omega)⟩
                  have hv2 := (ownsRow_low HVS.out.1 hBw.out (Nat.le_refl _)).alloc (.cells #[.slice (some ⟨W0.heap.size, 0, none⟩) n n] 38)
                  have hbs := hBw.out.size
                  go_wp2_with (at_builtin; go_must (refine wpList_appN _ rfl (.tmp 69) (.tmp 71) 22 rfl w.heap.size 38 (.slice none 0 0) 1 24 Tryd.underlying22 Tryd.info38 rfl (by decide) _ (intM Ms).length vs rfl hv2 ⟨wr.heap.size, 0, none⟩ 1 1 [.slice (some ⟨W0.heap.size, 0, none⟩) n n] rfl rfl (cells_new wr _ 38) (by simp [Value.oneCell']) (by rw [HLEN.out]; omega) (by decide) (by simp; omega) (by decide) ?_))
                  intro v' w4 hown' hgrow hwh
                  have hadd := HT.out.add (W1 := wr) (W2 := w4) (v' := v') (r := (rowN f n).map fun (x : Nat) => (x : Int)) (b := some ⟨W0.heap.size, 0, none⟩) (c := n) hBw.out (by rw [hrl2]; exact hr2) (.cells #[.slice (some ⟨W0.heap.size, 0, none⟩) n n] 38) HVS.out (by rw [hrl2]; exact hown') hgrow hwh
                  rw [intM_snoc] at hadd
                  have HADD := hid hadd
                  have HMS2 := hid (show ∀ r ∈ Ms ++ [rowN f n], r.length = n ∧ ∀ x ∈ r, x < n from fun r hr => by
                    rcases List.mem_append.1 hr with h | h
                    · exact HMS.out r h
                    · rw [List.mem_singleton.1 h]
                      refine ⟨rowN_len f n, fun x hx => ?_⟩
                      obtain ⟨i, -, rfl⟩ := List.mem_map.1 hx
                      exact HF.out i)
                  clear hadd hown' hgrow hwh hv2 hr2 hrl2
                  go_wp2_with fail
                  exact ⟨⟨b + 1, Ms ++ [rowN f n], by go_num, by omega, by rw [List.length_append, HMSL.out]; rfl, HMS2, HADD⟩, by simp [intOf]; omega⟩
              · have dq : decide ((q : Int) < (n : Int)) = false := decide_eq_false (by omega)
                obtain ⟨hrl2, hr2⟩ : (((rowN f n).map fun (x : Nat) => (x : Int)).length = n) ∧ wr.ownsRow W0.heap.size 3 1 (.slice (some ⟨W0.heap.size, 0, none⟩) n n) n (((rowN f n).map fun (x : Nat) => (x : Int)).map (Value.int .i64)) := ⟨by rw [List.length_map, rowN_len], by rw [← rowA_list]; exact own_row hBlk.out (rowA_size _ _) (Nat.le_refl _) (by omega)⟩
                have hv2 := (ownsRow_low HVS.out.1 hBw.out (Nat.le_refl _)).alloc (.cells #[.slice (some ⟨W0.heap.size, 0, none⟩) n n] 38)
                have hbs := hBw.out.size
                go_wp2_with (at_builtin; go_must (refine wpList_appN _ rfl (.tmp 69) (.tmp 71) 22 rfl w.heap.size 38 (.slice none 0 0) 1 24 Tryd.underlying22 Tryd.info38 rfl (by decide) _ (intM Ms).length vs rfl hv2 ⟨wr.heap.size, 0, none⟩ 1 1 [.slice (some ⟨W0.heap.size, 0, none⟩) n n] rfl rfl (cells_new wr _ 38) (by simp [Value.oneCell']) (by rw [HLEN.out]; omega) (by decide) (by simp; omega) (by decide) ?_))
                intro v' w4 hown' hgrow hwh
                have hadd := HT.out.add (W1 := wr) (W2 := w4) (v' := v') (r := (rowN f n).map fun (x : Nat) => (x : Int)) (b := some ⟨W0.heap.size, 0, none⟩) (c := n) hBw.out (by rw [hrl2]; exact hr2) (.cells #[.slice (some ⟨W0.heap.size, 0, none⟩) n n] 38) HVS.out (by rw [hrl2]; exact hown') hgrow hwh
                rw [intM_snoc] at hadd
                have HADD := hid hadd
                have HMS2 := hid (show ∀ r ∈ Ms ++ [rowN f n], r.length = n ∧ ∀ x ∈ r, x < n from fun r hr => by
                  rcases List.mem_append.1 hr with h | h
                  · exact HMS.out r h
                  · rw [List.mem_singleton.1 h]
                    refine ⟨rowN_len f n, fun x hx => ?_⟩
                    obtain ⟨i, -, rfl⟩ := List.mem_map.1 hx
                    exact HF.out i)
                clear hadd hown' hgrow hwh hv2 hr2 hrl2
                go_wp2_with fail
                exact ⟨⟨b + 1, Ms ++ [rowN f n], by go_num, by omega, by rw [List.length_append, HMSL.out]; rfl, HMS2, HADD⟩, by simp [intOf]; omega⟩
          · have db : decide ((b : Int) < (X.length : Int)) = false := decide_eq_false (by omega)
            go_wp2_with fail
            go_loopw [9] (fun qv W => ∃ (q : Nat) (f : Nat → Nat), qv = .int .i64 q ∧ q ≤ n ∧ Hid (∀ i, f i < n) ∧ Below W0.heap.size W0 W ∧ Blk W W0.heap.size (rowA (fun i => (f i : Int)) n) 3) (fun qv _ => n - (intOf qv).toNat)
            case atStart => exact ⟨0, fun _ => 0, rfl, by omega, fun _ => hn1, (Below.refl _ W0).alloc (Nat.le_refl _) _, Blk.new W0 _ _⟩
            case round =>
              obtain ⟨q, f, rfl, hq, HF, hBw, hBlk⟩ := hrel
              have hBw := hid hBw
              have hBlk := hid hBlk
              by_cases hqn : q < n
              · have dq : decide ((q : Int) < (n : Int)) = true := decide_eq_true (by omega)
                obtain ⟨hrl2, hr2⟩ : (((rowN f n).map fun (x : Nat) => (x : Int)).length = n) ∧ wr.ownsRow W0.heap.size 3 1 (.slice (some ⟨W0.heap.size, 0, none⟩) n n) n (((rowN f n).map fun (x : Nat) => (x : Int)).map (Value.int .i64)) := ⟨by rw [List.length_map, rowN_len], by rw [← rowA_list]; exact own_row hBlk.out (rowA_size _ _) (Nat.le_refl _) (by omega)⟩
                have hv2 := (ownsRow_low HVS.out.1 hBw.out (Nat.le_refl _)).alloc (.cells #[.slice (some ⟨W0.heap.size, 0, none⟩) n n] 38)
                have hbs := hBw.out.size
                go_wp2_with (at_builtin; go_must (refine wpList_appN _ rfl (.tmp 69) (.tmp 71) 22 rfl w.heap.size 38 (.slice none 0 0) 1 24 Tryd.underlying22 Tryd.info38 rfl (by decide) _ (intM Ms).length vs rfl hv2 ⟨wr.heap.size, 0, none⟩ 1 1 [.slice (some ⟨W0.heap.size, 0, none⟩) n n] rfl rfl (cells_new wr _ 38) (by simp [Value.oneCell']) (by rw [HLEN.out]; omega) (by decide) (by simp; omega) (by decide) ?_))
                intro v' w4 hown' hgrow hwh
                have hadd := HT.out.add (W1 := wr) (W2 := w4) (v' := v') (r := (rowN f n).map fun (x : Nat) => (x : Int)) (b := some ⟨W0.heap.size, 0, none⟩) (c := n) hBw.out (by rw [hrl2]; exact hr2) (.cells #[.slice (some ⟨W0.heap.size, 0, none⟩) n n] 38) HVS.out (by rw [hrl2]; exact hown') hgrow hwh
                rw [intM_snoc] at hadd
                have HADD := hid hadd
                have HMS2 := hid (show ∀ r ∈ Ms ++ [rowN f n], r.length = n ∧ ∀ x ∈ r, x < n from fun r hr => by
                  rcases List.mem_append.1 hr with h | h
                  · exact HMS.out r h
                  · rw [List.mem_singleton.1 h]
                    refine ⟨rowN_len f n, fun x hx => ?_⟩
                    obtain ⟨i, -, rfl⟩ := List.mem_map.1 hx
                    exact HF.out i)
                clear hadd hown' hgrow hwh hv2 hr2 hrl2
                go_wp2_with fail
                exact ⟨⟨b + 1, Ms ++ [rowN f n], by go_num, by omega, by rw [List.length_append, HMSL.out]; rfl, HMS2, HADD⟩, by simp [intOf]; omega⟩
              · have dq : decide ((q : Int) < (n : Int)) = false := decide_eq_false (by omega)
                obtain ⟨hrl2, hr2⟩ : (((rowN f n).map fun (x : Nat) => (x : Int)).length = n) ∧ wr.ownsRow W0.heap.size 3 1 (.slice (some ⟨W0.heap.size, 0, none⟩) n n) n (((rowN f n).map fun (x : Nat) => (x : Int)).map (Value.int .i64)) := ⟨by rw [List.length_map, rowN_len], by rw [← rowA_list]; exact own_row hBlk.out (rowA_size _ _) (Nat.le_refl _) (by omega)⟩
                have hv2 := (ownsRow_low HVS.out.1 hBw.out (Nat.le_refl _)).alloc (.cells #[.slice (some ⟨W0.heap.size, 0, none⟩) n n] 38)
                have hbs := hBw.out.size
                go_wp2_with (at_builtin; go_must (refine wpList_appN _ rfl (.tmp 69) (.tmp 71) 22 rfl w.heap.size 38 (.slice none 0 0) 1 24 Tryd.underlying22 Tryd.info38 rfl (by decide) _ (intM Ms).length vs rfl hv2 ⟨wr.heap.size, 0, none⟩ 1 1 [.slice (some ⟨W0.heap.size, 0, none⟩) n n] rfl rfl (cells_new wr _ 38) (by simp [Value.oneCell']) (by rw [HLEN.out]; omega) (by decide) (by simp; omega) (by decide) ?_))
                intro v' w4 hown' hgrow hwh
                have hadd := HT.out.add (W1 := wr) (W2 := w4) (v' := v') (r := (rowN f n).map fun (x : Nat) => (x : Int)) (b := some ⟨W0.heap.size, 0, none⟩) (c := n) hBw.out (by rw [hrl2]; exact hr2) (.cells #[.slice (some ⟨W0.heap.size, 0, none⟩) n n] 38) HVS.out (by rw [hrl2]; exact hown') hgrow hwh
                rw [intM_snoc] at hadd
                have HADD := hid hadd
                have HMS2 := hid (show ∀ r ∈ Ms ++ [rowN f n], r.length = n ∧ ∀ x ∈ r, x < n from fun r hr => by
                  rcases List.mem_append.1 hr with h | h
                  · exact HMS.out r h
                  · rw [List.mem_singleton.1 h]
                    refine ⟨rowN_len f n, fun x hx => ?_⟩
                    obtain ⟨i, -, rfl⟩ := List.mem_map.1 hx
                    exact HF.out i)
                clear hadd hown' hgrow hwh hv2 hr2 hrl2
                go_wp2_with fail
                exact ⟨⟨b + 1, Ms ++ [rowN f n], by go_num, by omega, by rw [List.length_append, HMSL.out]; rfl, HMS2, HADD⟩, by simp [intOf]; omega⟩
        · have hbK : b = K := by omega
          obtain ⟨vs, hvs, -⟩ := HT.out.ex
          obtain ⟨a9, c9, rfl, -, -⟩ := ownsRow_vals hvs
          have hvl := Tab.vs_len hvs
          rw [hvl, intM_length] at HT ⊢
          have HOK := hid (show OkM Ms from by
            have hn0 : nst Ms = n := by
              unfold nst
              cases Ms with
              | nil => simp at hMs; omega
              | cons r R => exact (HMS.out r (List.mem_cons_self ..)).1
            exact ⟨by omega, by omega, by omega, by omega, fun r hr => by rw [hn0]; exact (HMS.out r hr).1, fun r hr x hx => by rw [hn0]; exact (HMS.out r hr).2 x hx⟩)
          clear hvs hvl
          go_wp2_with fail
          go_ret
          exact ⟨Ms, a9, c9, HOK.out, rfl, HT⟩
    · go_wp2_with fail
      obtain ⟨n, hn⟩ : ∃ n, n = 3 := ⟨_, rfl⟩
      obtain ⟨K, hK⟩ : ∃ K, K = 1 + k := ⟨_, rfl⟩
      have hn1 : 1 ≤ n := by omega
      have hn9 : n ≤ 9 := by omega
      rw [show (1 + (k : Int)) = (K : Int) by omega]
      rw [show (3 : Int) = (n : Int) by omega]
      have hK4 : K ≤ 4 := by omega
      have hK1 : 1 ≤ K := by omega
      have HN := hid hn
      have HK := hid hK
      clear hn hK
      go_loopw [6, 7] (fun out bv W => ∃ (b : Nat) (Ms : List (List Nat)), bv = .int .i64 b ∧ b ≤ K ∧ Ms.length = b ∧ Hid (∀ r ∈ Ms, r.length = n ∧ ∀ x ∈ r, x < n) ∧ Hid (Tab w W out (intM Ms))) (fun _ bv _ => K - (intOf bv).toNat)
      case atStart => exact ⟨0, [], rfl, by omega, rfl, fun r h => by simp at h, (Tab.start w).next' HB1.out⟩
      case round =>
        obtain ⟨b, Ms, rfl, hb, hMs, HMS, HT⟩ := hrel
        obtain ⟨W0, rfl⟩ : ∃ W0, W0 = wr := ⟨_, rfl⟩
        have hsz := HT.out.below.size
        by_cases hlt : b < K
        · have hmk2 : ∀ W : World, (Instr.makeSlice 38 (.int .i64 (n : Int)) (.int .i64 (n : Int))).run Tryd.prog W = .ok (.slice (some ⟨W.heap.size, 0, none⟩) n n) (W.alloc (.cells (rowA (fun _ => 0) n) 3)) := by
            intro W
            have hmk := run_make_row' (P := Tryd.prog) 38 3 (.int .i64 0) 8 Tryd.underlying38 Tryd.info3 rfl .i64 .i64 n (by omega) (by omega) W
            rw [← rowA_made]; exact hmk
          have hlen : (intM Ms).length = b := by rw [intM_length, hMs]
          obtain ⟨vs, hvs⟩ := HT.out.ex
          have HVS := hid hvs
          have HLEN := hid hlen
          have HMSL := hid hMs
          have MM := hid (fun (x : Int) (W : World) (hx : -9223372036854775808 ≤ x ∧ x ≤ 9223372036854775807) => mod_any x n W (by omega) (by omega) hx)
          clear hvs hlen hMs
          by_cases hbX : b < X.length
          · exfalso; omega
          · have db : decide ((b : Int) < (X.length : Int)) = false := decide_eq_false (by omega)
            go_wp2_with fail
            go_loopw [9] (fun qv W => ∃ (q : Nat) (f : Nat → Nat), qv = .int .i64 q ∧ q ≤ n ∧ Hid (∀ i, f i < n) ∧ Below W0.heap.size W0 W ∧ Blk W W0.heap.size (rowA (fun i => (f i : Int)) n) 3) (fun qv _ => n - (intOf qv).toNat)
            case atStart => exact ⟨0, fun _ => 0, rfl, by omega, fun _ => hn1, (Below.refl _ W0).alloc (Nat.le_refl _) _, Blk.new W0 _ _⟩
            case round =>
              obtain ⟨q, f, rfl, hq, HF, hBw, hBlk⟩ := hrel
              have hBw := hid hBw
              have hBlk := hid hBlk
              by_cases hqn : q < n
              · have dq : decide ((q : Int) < (n : Int)) = true := decide_eq_true (by omega)
                obtain ⟨hrl2, hr2⟩ : (((rowN f n).map fun (x : Nat) => (x : Int)).length = n) ∧ wr.ownsRow W0.heap.size 3 1 (.slice (some ⟨W0.heap.size, 0, none⟩) n n) n (((rowN f n).map fun (x : Nat) => (x : Int)).map (Value.int .i64)) := ⟨by rw [List.length_map, rowN_len], by rw [← rowA_list]; exact own_row hBlk.out (rowA_size _ _) (Nat.le_refl _) (by omega)⟩
                have hv2 := (ownsRow_low HVS.out.1 hBw.out (Nat.le_refl _)).alloc (.cells #[.slice (some ⟨W0.heap.size, 0, none⟩) n n] 38)
                have hbs := hBw.out.size
                go_wp2_with (at_builtin; go_must (refine wpList_appN _ rfl (.tmp 69) (.tmp 71) 22 rfl w.heap.size 38 (.slice none 0 0) 1 24 Tryd.underlying22 Tryd.info38 rfl (by decide) _ (intM Ms).length vs rfl hv2 ⟨wr.heap.size, 0, none⟩ 1 1 [.slice (some ⟨W0.heap.size, 0, none⟩) n n] rfl rfl (cells_new wr _ 38) (by simp [Value.oneCell']) (by rw [HLEN.out]; omega) (by decide) (by simp; omega) (by decide) ?_))
                intro v' w4 hown' hgrow hwh
                have hadd := HT.out.add (W1 := wr) (W2 := w4) (v' := v') (r := (rowN f n).map fun (x : Nat) => (x : Int)) (b := some ⟨W0.heap.size, 0, none⟩) (c := n) hBw.out (by rw [hrl2]; exact hr2) (.cells #[.slice (some ⟨W0.heap.size, 0, none⟩) n n] 38) HVS.out (by rw [hrl2]; exact hown') hgrow hwh
                rw [intM_snoc] at hadd
                have HADD := hid hadd
                have HMS2 := hid (show ∀ r ∈ Ms ++ [rowN f n], r.length = n ∧ ∀ x ∈ r, x < n from fun r hr => by
                  rcases List.mem_append.1 hr with h | h
                  · exact HMS.out r h
                  · rw [List.mem_singleton.1 h]
                    refine ⟨rowN_len f n, fun x hx => ?_⟩
                    obtain ⟨i, -, rfl⟩ := List.mem_map.1 hx
                    exact HF.out i)
                clear hadd hown' hgrow hwh hv2 hr2 hrl2
                go_wp2_with fail
                exact ⟨⟨b + 1, Ms ++ [rowN f n], by go_num, by omega, by rw [List.length_append, HMSL.out]; rfl, HMS2, HADD⟩, by simp [intOf]; omega⟩
              · have dq : decide ((q : Int) < (n : Int)) = false := decide_eq_false (by omega)
                obtain ⟨hrl2, hr2⟩ : (((rowN f n).map fun (x : Nat) => (x : Int)).length = n) ∧ wr.ownsRow W0.heap.size 3 1 (.slice (some ⟨W0.heap.size, 0, none⟩) n n) n (((rowN f n).map fun (x : Nat) => (x : Int)).map (Value.int .i64)) := ⟨by rw [List.length_map, rowN_len], by rw [← rowA_list]; exact own_row hBlk.out (rowA_size _ _) (Nat.le_refl _) (by omega)⟩
                have hv2 := (ownsRow_low HVS.out.1 hBw.out (Nat.le_refl _)).alloc (.cells #[.slice (some ⟨W0.heap.size, 0, none⟩) n n] 38)
                have hbs := hBw.out.size
                go_wp2_with (at_builtin; go_must (refine wpList_appN _ rfl (.tmp 69) (.tmp 71) 22 rfl w.heap.size 38 (.slice none 0 0) 1 24 Tryd.underlying22 Tryd.info38 rfl (by decide) _ (intM Ms).length vs rfl hv2 ⟨wr.heap.size, 0, none⟩ 1 1 [.slice (some ⟨W0.heap.size, 0, none⟩) n n] rfl rfl (cells_new wr _ 38) (by simp [Value.oneCell']) (by rw [HLEN.out]; omega) (by decide) (by simp; omega) (by decide) ?_))
                intro v' w4 hown' hgrow hwh
                have hadd := HT.out.add (W1 := wr) (W2 := w4) (v' := v') (r := (rowN f n).map fun (x : Nat) => (x : Int)) (b := some ⟨W0.heap.size, 0, none⟩) (c := n) hBw.out (by rw [hrl2]; exact hr2) (.cells #[.slice (some ⟨W0.heap.size, 0, none⟩) n n] 38) HVS.out (by rw [hrl2]; exact hown') hgrow hwh
                rw [intM_snoc] at hadd
                have HADD := hid hadd
                have HMS2 := hid (show ∀ r ∈ Ms ++ [rowN f n], r.length = n ∧ ∀ x ∈ r, x < n from fun r hr => by
                  rcases List.mem_append.1 hr with h | h
                  · exact HMS.out r h
                  · rw [List.mem_singleton.1 h]
                    refine ⟨rowN_len f n, fun x hx => ?_⟩
                    obtain ⟨i, -, rfl⟩ := List.mem_map.1 hx
                    exact HF.out i)
                clear hadd hown' hgrow hwh hv2 hr2 hrl2
                go_wp2_with fail
                exact ⟨⟨b + 1, Ms ++ [rowN f n], by go_num, by omega, by rw [List.length_append, HMSL.out]; rfl, HMS2, HADD⟩, by simp [intOf]; omega⟩
        · have hbK : b = K := by omega
          obtain ⟨vs, hvs, -⟩ := HT.out.ex
          obtain ⟨a9, c9, rfl, -, -⟩ := ownsRow_vals hvs
          have hvl := Tab.vs_len hvs
          rw [hvl, intM_length] at HT ⊢
          have HOK := hid (show OkM Ms from by
            have hn0 : nst Ms = n := by
              unfold nst
              cases Ms with
              | nil => simp at hMs; omega
              | cons r R => exact (HMS.out r (List.mem_cons_self ..)).1
            exact ⟨by omega, by omega, by omega, by omega, fun r hr => by rw [hn0]; exact (HMS.out r hr).1, fun r hr x hx => by rw [hn0]; exact (HMS.out r hr).2 x hx⟩)
          clear hvs hvl
          go_wp2_with fail
          go_ret
          exact ⟨Ms, a9, c9, HOK.out, rfl, HT⟩
end Go.Proofs.YthlgdakdjikjhaaDoor
