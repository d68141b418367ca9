/-
  Walks: the law TopAssigned.
-/
import Derived.Test.YtkmpdcckgibkhaaGreatUs
import Derived.Test.YtkmpdcckgibkhaaGreatTa
namespace Go.Proofs.YtkmpdcckgibkhaaGreat
open Go.RowKit

theorem mk24n (n : Nat) (hn : n < 6) (W : World) : (Instr.makeSlice 24 (.int .i64 n) (.int .i64 n)).run Tryz.prog W = .ok (.slice (some ⟨W.heap.size, 0, none⟩) n n) (W.alloc (.cells (rowA (fun _ => 0) n) 3)) := by
  have hmk := run_make_row' (P := Tryz.prog) 24 3 (.int .i64 0) 8 Tryz.underlying24 infoS3 rfl .i64 .i64 n (by omega) (by omega) W
  rw [← rowA_made]; exact hmk
def Z01 (X : List (List Int)) (N : Nat) : Prop := ∀ r ∈ X, r.length = N ∧ ∀ x ∈ r, x = 0 ∨ x = 1
def F01 (f : Nat → Int) : Prop := ∀ i, f i = 0 ∨ f i = 1
theorem mod2 (x : Int) : (x % 18446744073709551616) % 2 = 0 ∨ (x % 18446744073709551616) % 2 = 1 := by omega

theorem facN_small : ∀ j, j < 7 → facN j ≤ 720 := by decide
theorem fac_step (j : Nat) (h : j < 6) : wrap64 ((facN j : Int) * ((j : Int) + 1)) = (facN (j + 1) : Int) ∧ IntKind.i64.wrap ((facN j : Int) * ((j : Int) + 1)) = (facN (j + 1) : Int) := by
  have h1 := facN_small (j + 1) (by omega)
  have h2 : (facN j : Int) * ((j : Int) + 1) = (facN (j + 1) : Nat) := by simp [facN]
  rw [h2]
  generalize facN (j + 1) = y at h1
  exact ⟨by unfold wrap64; omega, by rw [IntKind.wrap_i64]; omega⟩
theorem wrap_up2 (j : Nat) (h : j ≤ 1000) : IntKind.i64.wrap ((j : Int) + 1 + 1) = ((j + 1 : Nat) : Int) + 1 ∧ wrap64 ((j : Int) + 1 + 1) = ((j + 1 : Nat) : Int) + 1 := ⟨by rw [IntKind.wrap_i64]; omega, by unfold wrap64; omega⟩
theorem fitR_take (X : List (List Int)) : ∀ (cols : List Nat) (j : Nat), j < cols.length → j < X.length → fitR X (cols.take (j + 1)) = (fitR X (cols.take j) && decide (0 < (X.getD j []).getD (cols.getD j 0) 0)) := by
  induction X with
  | nil => intro cols j _ h; simp at h
  | cons r X ih =>
    intro cols j hc hX
    cases cols with
    | nil => simp at hc
    | cons c cs =>
      cases j with
      | zero => simp [fitR]
      | succ j =>
        have := ih cs j (by simpa using hc) (by simpa using hX)
        simp only [List.take_succ_cons, fitR, List.getD_cons_succ, this, Bool.and_assoc]
theorem eq_one (y : Int) (h : y = 0 ∨ y = 1) : (y == 1) = decide (0 < y) := by rcases h with rfl | rfl <;> rfl
theorem wrap_one (x : Int) (h1 : 1 ≤ x) (h2 : x ≤ 6) : wrap64 (x - 1) = (((x - 1).toNat : Nat) : Int) ∧ IntKind.i64.wrap (x - 1) = (((x - 1).toNat : Nat) : Int) := ⟨by unfold wrap64; omega, by rw [IntKind.wrap_i64]; omega⟩
theorem fitK_le (X : List (List Int)) (k : Nat) : fitK X k ≤ k := by
  have := List.length_filter_le (fun j => fitR X (colN X.length j)) (List.range k)
  simpa [fitK] using this
/-- What the first loop keeps. -/
def AsgI (w : World) (N i : Nat) (v5 : Value) (W : World) : Prop := ∃ X, X.length = i ∧ Z01 X N ∧ TabI w.heap.size W v5 X ∧ Below w.heap.size w W

theorem AsgI.push {w wr w6 : World} {N b : Nat} {v v6 : Value} {X : List (List Int)} {bs : List Nat} {f : Nat → Int} (e2 : Z01 X N) (e4 : Below w.heap.size w wr) (f1 : bs.length = X.length)
    (f3 : ∀ (j b : Nat) (r : List Int), bs[j]? = some b → X[j]? = some r → w.heap.size ≤ b ∧ Blk wr b (r.map (Value.int .i64)).toArray 3) (hty : ∀ g, v.ownBlock = some g → ∃ cs, Blk wr g cs 24) (hlt : ∀ g, v.ownBlock = some g → w.heap.size ≤ g) (hb : w.heap.size ≤ b)
    (hrow : Blk wr b (((List.range N).map f).map (Value.int .i64)).toArray 3) (hf : F01 f)
    (hown : w6.ownsRow w.heap.size 24 1 v6 (X.length + 1) (((bs.zip X).map fun p => Value.slice (some ⟨p.1, 0, none⟩) p.2.length p.2.length) ++ [.slice (some ⟨b, 0, none⟩) N N]))
    (hg : (wr.alloc (.cells #[.slice (some ⟨b, 0, none⟩) N N] 24)).grownBy w6 v.ownBlock) : AsgI w N (X.length + 1) v6 w6 := by
  have hl : ((List.range N).map f).length = N := by simp
  have hg2 : wr.grownBy w6 v.ownBlock := (grown_alloc wr _ _).trans hg
  refine ⟨X ++ [(List.range N).map f], by simp, ?_, TabI.push f1 f3 b _ hb hrow (by rw [hl]; exact hown) hg2 hty, e4.grown hg2 e4.size hlt⟩
  intro r hr
  rcases List.mem_append.1 hr with h | h
  · exact e2 r h
  · rw [List.mem_singleton] at h
    subst h
    refine ⟨hl, fun x hx => ?_⟩
    obtain ⟨j, -, rfl⟩ := List.mem_map.1 hx
    exact hf j

set_option maxRecDepth 100000 in
set_option maxHeartbeats 16000000 in
theorem topAssigned_walk (n : Int) (a : Option Addr) (len cap : Nat) (Z : List (List Int)) (w : World) (hn : -9223372036854775808 ≤ n ∧ n ≤ 9223372036854775807) (hZ : IsRows w a len cap Z) :
    Calls Tryz.prog 3 #[.int .i64 n, .slice a len cap] w (RetB (.bool true) w) := by
  obtain ⟨N, hN⟩ : ∃ N : Nat, (N : Int) = (n % 18446744073709551616) % 6 := ⟨((n % 18446744073709551616) % 6).toNat, by omega⟩
  have hN6 : N < 6 := by omega
  have hm := mod7 n 6 w (by omega) (by omega) hn
  rw [← hN] at hm
  have HM := hid hm
  have hlz : Z.length = len := hZ.1
  have hlm : len ≤ 9223372036854775807 := by have := hZ.2.1; unfold maxLen at this; omega
  have HZ := hid hZ
  have hmk := mk24n N hN6
  clear hm hN hZ
  go_enter Tryz.func3, Tryz.ntmps3
  go_wp2_with fail
  refine HM.out.mono ?_
  rintro e w1 ⟨rfl, rfl⟩
  go_wp2_with fail
  go_loopw [5, 6] (fun v5 iv W => ∃ i : Nat, i ≤ N ∧ iv = .int .i64 i ∧ Hid (AsgI w N i v5 W)) (fun _ iv _ => N - (intOf iv).toNat)
  case atStart => exact ⟨0, by omega, rfl, [], rfl, (fun r hr => by cases hr), TabI.nil _ _, Below.refl _ _⟩
  case round =>
    obtain ⟨i, hi, rfl, HA⟩ := hrel
    by_cases hlt : i < N
    · have di : decide ((i : Int) < (N : Int)) = true := by simpa using hlt
      go_wp2_with fail
      have hb0 : Blk (wr.alloc (.cells (rowA (fun _ => 0) N) 3)) wr.heap.size (rowA (fun _ => 0) N) 3 := Blk.new wr _ 3
      obtain ⟨b, hb⟩ : ∃ b, b = wr.heap.size := ⟨_, rfl⟩
      have HB := hid hb
      have hbl : w.heap.size ≤ b := by obtain ⟨X, -, -, -, h⟩ := HA.out; rw [hb]; exact h.size
      have hBl : Below b wr (wr.alloc (.cells (rowA (fun _ => 0) N) 3)) := (Below.refl _ wr).alloc (by omega) _
      rw [← hb] at hb0 ⊢
      clear hb
      generalize hW0 : wr.alloc (.cells (rowA (fun _ => 0) N) 3) = W1 at *
      clear hW0
      obtain ⟨W0, hW0⟩ : ∃ W0, W0 = wr := ⟨_, rfl⟩
      rw [← hW0] at HA HB hBl
      clear hW0
      go_loopw [8] (fun kv W => ∃ (k : Nat) (f : Nat → Int), k ≤ N ∧ kv = .int .i64 k ∧ F01 f ∧ Blk W b (rowA f N) 3 ∧ Below b W0 W) (fun kv _ => N - (intOf kv).toNat)
      case atStart => exact ⟨0, fun _ => 0, by omega, rfl, fun _ => .inl rfl, hb0, hBl⟩
      case round =>
        obtain ⟨k, f, hk, rfl, hf, hbk, hBk⟩ := hrel
        have HBK := hid (And.intro hbk hBk)
        by_cases hkn : k < N ∧ i < Z.length ∧ k < (Z.getD i []).length
        · obtain ⟨h1, h2, h3⟩ := hkn
          obtain ⟨r, hr⟩ : ∃ r, Z[i]? = some r := ⟨Z[i], List.getElem?_eq_getElem h2⟩
          rw [show Z.getD i [] = r by simp [List.getD, hr]] at h3
          obtain ⟨X, -, -, -, hB0⟩ := HA.out
          have hBw := hB0.trans (hBk.mono hbl)
          obtain ⟨g, o, b2, c2, rfl, hg, hcell, hri, -, -⟩ := HZ.out.2.2.2.1.at i r hr
          have q1 := (hBw.cell (p := ⟨g, o + i, none⟩) hg).trans hcell
          obtain ⟨x, hx, -⟩ := list_drop_cons r k h3
          obtain ⟨g2, o2, rfl, hg2, hc2⟩ := hri.at (by omega)
          have q2 := (hBw.cell (p := ⟨g2, o2 + k, none⟩) hg2).trans (hc2 k x hx)
          have hxb := (HZ.out.2.2.2.2 r (List.mem_of_getElem? hr)).2 x (List.mem_of_getElem? hx)
          have hrm := (HZ.out.2.2.2.2 r (List.mem_of_getElem? hr)).1
          have hrm2 : r.length ≤ 9223372036854775807 := by unfold maxLen at hrm; omega
          have d1 : decide ((k : Int) < (N : Int)) = true := by simpa using h1
          have d2 : decide ((i : Int) < (len : Int)) = true := by simp; omega
          have d3 : decide ((k : Int) < (r.length : Int)) = true := by simpa using h3
          have i2 : (i : Int) < (len : Int) := by omega
          have M2 := hid (fun w => mod7 x 2 w (by omega) (by omega) hxb)
          have b1 := hbk.rowAt k h1
          have b2 := hbk.free k
          obtain ⟨y, hy⟩ : ∃ y, y = (x % 18446744073709551616) % 2 := ⟨_, rfl⟩
          have hy01 := mod2 x
          rw [← hy] at M2 hy01
          have HP := hid (hbk.rowPut (g := fun j => if j = k then y else f j) k y (fun _ _ => rfl))
          have HBW := hid (hBk.setCell (show b ≤ b from Nat.le_refl _) (.int .i64 y) (p := ⟨b, k, none⟩))
          have HF := hid (show F01 (fun j => if j = k then y else f j) from fun j => by by_cases h : j = k; { simp only [h, if_true]; exact hy01 }; { simp only [h, if_false]; exact hf j })
          clear hr hB0 hBw hcell hri hc2 hx hxb hrm hy hbk hBk
          go_wp2_with fail
          refine (M2.out _).mono ?_
          rintro e w1 ⟨rfl, rfl⟩
          go_wp2_with fail
          exact ⟨⟨k + 1, _, h1, by go_num, HF.out, HP.out, HBW.out⟩, by simp [intOf]; omega⟩
        · have HEND : Hid (∃ X, X.length = i ∧ Z01 X N ∧ TabI w.heap.size wr u5 X ∧ Below w.heap.size w wr) := by
            obtain ⟨X, h1, h2, h3, h4⟩ := HA.out
            exact ⟨X, h1, h2, h3.low hBk (by rw [← HB.out]; exact Nat.le_refl _), h4.trans (hBk.mono hbl)⟩
          have HROW := hid (show Blk wr b (((List.range N).map f).map (Value.int .i64)).toArray 3 by rw [← rowA_list]; exact hbk)
          have HF := hid hf
          clear hbk hBk hf
          by_cases h1 : k < N
          · have d1 : decide ((k : Int) < (N : Int)) = true := by simpa using h1
            by_cases h2 : i < Z.length
            · obtain ⟨r, hr⟩ : ∃ r, Z[i]? = some r := ⟨Z[i], List.getElem?_eq_getElem h2⟩
              have h3 : ¬ k < r.length := fun h => hkn ⟨h1, h2, by simp [List.getD, hr]; exact h⟩
              obtain ⟨X0, -, -, -, hBw⟩ := HEND.out
              obtain ⟨g, o, b2, c2, rfl, hg, hcell, -, -, -⟩ := HZ.out.2.2.2.1.at i r hr
              have q1 := (hBw.cell (p := ⟨g, o + i, none⟩) hg).trans hcell
              have d2 : decide ((i : Int) < (len : Int)) = true := by simp; omega
              have d3 : decide ((k : Int) < (r.length : Int)) = false := by simp; omega
              have i2 : (i : Int) < (len : Int) := by omega
              clear hcell hr hBw
              obtain ⟨X, e1, e2, ⟨bs, f1, f2, f3⟩, e4⟩ := HEND.out
              have hty := (show TabI w.heap.size wr u5 X from ⟨bs, f1, f2, f3⟩).ty
              have hown := f2.alloc (.cells #[.slice (some ⟨b, 0, none⟩) N N] 24)
              have hltv := (fun g h => (f2.lt g h).1 : ∀ g, u5.ownBlock = some g → w.heap.size ≤ g)
              have hsz := e4.size
              have HX := hid (And.intro e2 (And.intro e4 (And.intro f1 (And.intro f3 (And.intro hty hltv)))))
              clear f2 e2 e4 f1 f3 hty hltv
              subst e1
              go_wp2_with (at_builtin; go_must (refine wpList_appS _ rfl (.tmp 62) (.tmp 64) 22 rfl w.heap.size 24 (.slice none 0 0) 24 Tryz.underlying22 info24 rfl _ X.length _ rfl hown (some ⟨wr.heap.size, 0, none⟩) 1 1 [.slice (some ⟨b, 0, none⟩) N N] rfl rfl (vals_new _ _ _ _ rfl) (fun h => by cases h) (by simp [Value.oneCell']) (by omega) (by omega) (by simp; omega) ?_))
              intro v6 w6 hown6 hgrow6
              have HA6 := hid (AsgI.push HX.out.1 HX.out.2.1 HX.out.2.2.1 HX.out.2.2.2.1 HX.out.2.2.2.2.1 HX.out.2.2.2.2.2 hbl HROW.out HF.out hown6 hgrow6)
              clear hown6 hgrow6 hown HX
              go_wp2_with fail
              exact ⟨⟨X.length + 1, by omega, by go_num, HA6⟩, by simp [intOf]; omega⟩
            · have d2 : decide ((i : Int) < (len : Int)) = false := by simp; omega
              obtain ⟨X, e1, e2, ⟨bs, f1, f2, f3⟩, e4⟩ := HEND.out
              have hty := (show TabI w.heap.size wr u5 X from ⟨bs, f1, f2, f3⟩).ty
              have hown := f2.alloc (.cells #[.slice (some ⟨b, 0, none⟩) N N] 24)
              have hltv := (fun g h => (f2.lt g h).1 : ∀ g, u5.ownBlock = some g → w.heap.size ≤ g)
              have hsz := e4.size
              have HX := hid (And.intro e2 (And.intro e4 (And.intro f1 (And.intro f3 (And.intro hty hltv)))))
              clear f2 e2 e4 f1 f3 hty hltv
              subst e1
              go_wp2_with (at_builtin; go_must (refine wpList_appS _ rfl (.tmp 62) (.tmp 64) 22 rfl w.heap.size 24 (.slice none 0 0) 24 Tryz.underlying22 info24 rfl _ X.length _ rfl hown (some ⟨wr.heap.size, 0, none⟩) 1 1 [.slice (some ⟨b, 0, none⟩) N N] rfl rfl (vals_new _ _ _ _ rfl) (fun h => by cases h) (by simp [Value.oneCell']) (by omega) (by omega) (by simp; omega) ?_))
              intro v6 w6 hown6 hgrow6
              have HA6 := hid (AsgI.push HX.out.1 HX.out.2.1 HX.out.2.2.1 HX.out.2.2.2.1 HX.out.2.2.2.2.1 HX.out.2.2.2.2.2 hbl HROW.out HF.out hown6 hgrow6)
              clear hown6 hgrow6 hown HX
              go_wp2_with fail
              exact ⟨⟨X.length + 1, by omega, by go_num, HA6⟩, by simp [intOf]; omega⟩
          · have d1 : decide ((k : Int) < (N : Int)) = false := by simpa using h1
            obtain ⟨X, e1, e2, ⟨bs, f1, f2, f3⟩, e4⟩ := HEND.out
            have hty := (show TabI w.heap.size wr u5 X from ⟨bs, f1, f2, f3⟩).ty
            have hown := f2.alloc (.cells #[.slice (some ⟨b, 0, none⟩) N N] 24)
            have hltv := (fun g h => (f2.lt g h).1 : ∀ g, u5.ownBlock = some g → w.heap.size ≤ g)
            have hsz := e4.size
            have HX := hid (And.intro e2 (And.intro e4 (And.intro f1 (And.intro f3 (And.intro hty hltv)))))
            clear f2 e2 e4 f1 f3 hty hltv
            subst e1
            go_wp2_with (at_builtin; go_must (refine wpList_appS _ rfl (.tmp 62) (.tmp 64) 22 rfl w.heap.size 24 (.slice none 0 0) 24 Tryz.underlying22 info24 rfl _ X.length _ rfl hown (some ⟨wr.heap.size, 0, none⟩) 1 1 [.slice (some ⟨b, 0, none⟩) N N] rfl rfl (vals_new _ _ _ _ rfl) (fun h => by cases h) (by simp [Value.oneCell']) (by omega) (by omega) (by simp; omega) ?_))
            intro v6 w6 hown6 hgrow6
            have HA6 := hid (AsgI.push HX.out.1 HX.out.2.1 HX.out.2.2.1 HX.out.2.2.2.1 HX.out.2.2.2.2.1 HX.out.2.2.2.2.2 hbl HROW.out HF.out hown6 hgrow6)
            clear hown6 hgrow6 hown HX
            go_wp2_with fail
            exact ⟨⟨X.length + 1, by omega, by go_num, HA6⟩, by simp [intOf]; omega⟩
    · have hie : i = N := by omega
      subst hie
      have di : decide ((i : Int) < (i : Int)) = false := by simp
      clear hmk
      go_wp2_with fail
      go_loop [9, 10] (fun av jv => ∃ j : Nat, 1 ≤ j ∧ (j ≤ i ∨ j = 1) ∧ jv = .int .i64 ((j : Int) + 1) ∧ av = .int .i64 (facN j)) (fun _ jv => i + 1 - (intOf jv - 1).toNat)
      case atStart => exact ⟨1, by omega, .inr rfl, rfl, rfl⟩
      case round =>
        obtain ⟨j, hj1, hj2, rfl, rfl⟩ := hrel
        have hj6 : j < 6 := by omega
        by_cases hjl : j + 1 ≤ i
        · have dj : decide (((j : Int) + 1) ≤ (i : Int)) = true := by simp; omega
          have hfj := facN_small j (by omega)
          obtain ⟨z1, z2⟩ := fac_step j hj6
          have z3 := wrap_up2 j (by omega)
          go_wp2_with fail
          clear z1 z2 z3 hfj
          exact ⟨⟨j + 1, by omega, .inl hjl, by go_num, rfl⟩, by simp [intOf]; omega⟩
        · have dj : decide (((j : Int) + 1) ≤ (i : Int)) = false := by simp; omega
          have hfi : facN j = facN i := by
            rcases hj2 with h | h
            · rw [show j = i by omega]
            · subst h
              rcases Nat.eq_zero_or_pos i with h0 | h0
              · rw [h0]; rfl
              · rw [show i = 1 by omega]
          rw [hfi]
          have hft := facN_small i (by omega)
          obtain ⟨X, hXl, hX01, hT, hB⟩ := HA.out
          obtain ⟨a5, c5, rfl, -, hc5, hn5⟩ := hT.rows
          subst hXl
          have HX01 := hid hX01
          have H0 := hid (And.intro hT hB)
          have hcell : ∀ r ∈ X, r.length = X.length := fun r hr => (hX01 r hr).1
          have HCE := hid hcell
          obtain ⟨F, hF⟩ : ∃ F, F = facN X.length := ⟨_, rfl⟩
          rw [← hF] at hft ⊢
          have HFF := hid hF
          clear hfi hT hB hX01 hcell hF HA
          go_wp2_with fail
          go_loopw [11, 12] (fun cv kv W => ∃ k : Nat, k ≤ F ∧ kv = .int .i64 k ∧ cv = .int .i64 (fitK X k) ∧ Hid (TabI w.heap.size W (.slice a5 X.length c5) X ∧ Below w.heap.size w W)) (fun _ kv _ => F - (intOf kv).toNat)
          case atStart => exact ⟨0, by omega, rfl, rfl, H0⟩
          case round =>
            obtain ⟨k, hk, rfl, rfl, H1⟩ := hrel
            by_cases hkF : k < F
            · have dk : decide ((k : Int) < (F : Int)) = true := by simpa using hkF
              go_wp2_with fail
              refine (item_ok X.length k (by omega) (by rw [← HFF.out]; exact hkF) wr).mono ?_
              rintro e w2 ⟨ao, co, rfl, hio, hbo⟩
              have H2 := hid (show TabI w.heap.size w2 (.slice a5 X.length c5) X ∧ Below w.heap.size w w2 from ⟨H1.out.1.low hbo (Nat.le_refl _), H1.out.2.trans (hbo.mono H1.out.2.size)⟩)
              have HIO := hid hio
              clear hio hbo H1
              go_wp2_with fail
              have hlenO : (ordL X.length k).length = X.length := ordL_len _ _
              have hlenC : (colN X.length k).length = X.length := by unfold colN; rw [List.length_map, hlenO]
              have hinO := ord_in X.length (by omega) k (by rw [← HFF.out]; exact hkF)
              have HLO := hid (And.intro hlenO (And.intro hlenC hinO))
              obtain ⟨B2, hB2⟩ : ∃ B2, B2 = w2.heap.size := ⟨_, rfl⟩
              have HB2 := hid hB2
              clear hlenO hlenC hinO hB2
              go_loopw [15, 16, 17] (fun fv colv iv W => ∃ j : Nat, j ≤ X.length ∧ iv = .int .i64 j ∧ fv = .bool (fitR X ((colN X.length k).take j)) ∧ Hid (Below B2 w2 W ∧ W.ownsRow B2 3 1 colv j ((((colN X.length k).take j).map fun d => ((d : Nat) : Int)).map (Value.int .i64)))) (fun _ _ iv _ => X.length - (intOf iv).toNat)
              case atStart => exact ⟨0, by omega, rfl, by cases X <;> rfl, by rw [HB2.out]; exact Below.refl _ _, ⟨rfl, .inl ⟨rfl, rfl⟩⟩⟩
              case round =>
                obtain ⟨j, hj, rfl, rfl, H3⟩ := hrel
                have hsz3 : B2 ≤ wr.heap.size := by rw [HB2.out]; exact H3.out.1.size
                by_cases hjl : j < X.length
                · have dj2 : decide ((j : Int) < (X.length : Int)) = true := by simpa using hjl
                  obtain ⟨x, hx, -⟩ := list_drop_cons (ordL X.length k) j (by rw [HLO.out.1]; exact hjl)
                  have hxb := HLO.out.2.2 x (List.mem_of_getElem? hx)
                  have hx6 : x ≤ 6 := by omega
                  obtain ⟨go', oo', rfl, hgo, hco⟩ := HIO.out.at (by rw [HLO.out.1]; omega)
                  have q0 := hco j x hx
                  have q1 := (H3.out.1.cell (p := ⟨go', oo' + j, none⟩) (by rw [HB2.out]; exact hgo)).trans q0
                  obtain ⟨row, hrow⟩ : ∃ row, X[j]? = some row := ⟨X[j], List.getElem?_eq_getElem hjl⟩
                  have hrl := (HX01.out row (List.mem_of_getElem? hrow)).1
                  have hcx : (colN X.length k)[j]? = some (x - 1).toNat := by unfold colN; rw [List.getElem?_map, hx]; rfl
                  have hxN : (x - 1).toNat < row.length := by rw [hrl]; omega
                  obtain ⟨y, hy, -⟩ := list_drop_cons row (x - 1).toNat hxN
                  have hy01 := (HX01.out row (List.mem_of_getElem? hrow)).2 y (List.mem_of_getElem? hy)
                  have hey := eq_one y hy01
                  have hft2 := fitR_take X (colN X.length k) j (by rw [HLO.out.2.1]; exact hjl) hjl
                  rw [show X.getD j [] = row by simp [List.getD, hrow], show (colN X.length k).getD j 0 = (x - 1).toNat by simp [List.getD, hcx], show row.getD (x - 1).toNat 0 = y by rw [List.getD_eq_getElem?_getD, hy]; rfl] at hft2
                  have hRT := H2.out.1.rows
                  obtain ⟨a6, c6, hv6, hRT, -, -⟩ := hRT
                  simp only [Value.slice.injEq, true_and] at hv6
                  obtain ⟨rfl, rfl⟩ := hv6
                  obtain ⟨g5, o5, b5, c7, rfl, hg5, hc5', hri5, -, -⟩ := hRT.at j row hrow
                  obtain ⟨g6, o6, rfl, hg6, hc6⟩ := hri5.at (by omega)
                  have q3 := hc6 (x - 1).toNat y hy
                  obtain ⟨z1, z2⟩ := wrap_one x hxb.1 hx6
                  obtain ⟨m, hm⟩ : ∃ m, m = (x - 1).toNat := ⟨_, rfl⟩
                  rw [← hm] at z1 z2 q3 hxN hcx
                  clear hm
                  have e1 : j + 1 ≤ 17592186044416 := by omega
                  have e2 : B2 ≤ (wr.alloc (.cells #[.int .i64 (m : Int)] 3)).heap.size := by simp; omega
                  have e3 : ((m : Nat) : Int) < (row.length : Int) := by omega
                  have e4 : (0 : Int) ≤ ((m : Nat) : Int) := by omega
                  have e5 : (1 : Int) ≤ x := hxb.1
                  have e6 : x ≤ (X.length : Int) := hxb.2
                  have dx1 : decide (x < 1) = false := by simp; omega
                  have dx2 : decide ((X.length : Int) < x) = false := by simp; omega
                  have hH3 := hid H3.out
                  have own3 := hid (H3.out.2.alloc (.cells #[.int .i64 (m : Int)] 3))
                  have HTK := hid (show ((colN X.length k).take (j + 1)) = (colN X.length k).take j ++ [m] by rw [List.take_add_one, hcx]; rfl)
                  have HFT := hid hft2
                  have HJ := hid (show j + 1 ≤ X.length ∧ X.length - (j + 1) < X.length - j from ⟨by omega, by omega⟩)
                  have HQ := hid (And.intro q0 (And.intro hc5' q3))
                  have hgs := hid (And.intro hgo (And.intro hg5 hg6))
                  clear hco hx hxb hcx hrow hy hft2 hRT hri5 hc6 hx6 hsz3 q0 hc5' q3
                  generalize hfb : fitR X (List.take j (colN X.length k)) = fb at *
                  clear hfb
                  go_wp2_with (at_builtin; go_must (refine wpList_app _ rfl (.tmp 111) (.tmp 117) 24 rfl B2 3 (.int .i64 0) 8 Tryz.underlying24 infoS3 rfl _ j _ rfl own3.out (some ⟨wr.heap.size, 0, none⟩) 1 1 [.int .i64 (m : Int)] rfl rfl (vals_new _ _ _ _ rfl) (fun h => by cases h) (by simp [Value.oneCell']) e1 (by decide) e2 ?_))
                  intro v6 w6 hown6 hgrow6 _
                  have hb6 := below_app (hH3.out.1.alloc (by rw [HB2.out]; exact hH3.out.1.size) (.cells #[.int .i64 (m : Int)] 3)) hgrow6 own3.out e2 (Nat.le_refl _)
                  have hgo2 : go' < B2 := by rw [HB2.out]; exact hgs.out.1
                  have hg52 : g5 < B2 := by rw [HB2.out]; exact hgs.out.2.1
                  have hg62 : g6 < B2 := by rw [HB2.out]; exact hgs.out.2.2
                  have p1 := (hb6.cell (p := ⟨go', oo' + j, none⟩) hgo2).trans HQ.out.1
                  have p2 := (hb6.cell (p := ⟨g5, o5 + j, none⟩) hg52).trans HQ.out.2.1
                  have p3 := (hb6.cell (p := ⟨g6, o6 + m, none⟩) hg62).trans HQ.out.2.2
                  have HB6 := hid (And.intro hb6 hown6)
                  clear hb6 hown6 hgrow6 q1
                  have e7 : (j : Int) < (X.length : Int) := by omega
                  cases fb with
                  | true =>
                    go_wp2_with fail
                    go_quiet (fail)
                    have HE := hid (show Below B2 w2 (w6.drewN nq) ∧ (w6.drewN nq).ownsRow B2 3 1 v6 (j + 1) ((((colN X.length k).take (j + 1)).map fun d => ((d : Nat) : Int)).map (Value.int .i64)) from
                      ⟨below_drewN HB6.out.1 _, by have h : w6.ownsRow B2 3 1 v6 (j + 1) ((((colN X.length k).take (j + 1)).map fun d => ((d : Nat) : Int)).map (Value.int .i64)) := by { rw [HTK.out, List.map_append, List.map_append]; simpa using HB6.out.2 }; exact h⟩)
                    clear z1 z2 HB6
                    go_wp2_with fail
                    exact ⟨⟨j + 1, HJ.out.1, by go_num, congrArg Value.bool (by rw [HFT.out]; simp), HE⟩, by simpa [intOf] using HJ.out.2⟩
                  | false =>
                    go_wp2_with fail
                    go_quiet (fail)
                    have HE := hid (show Below B2 w2 (w6.drewN nq) ∧ (w6.drewN nq).ownsRow B2 3 1 v6 (j + 1) ((((colN X.length k).take (j + 1)).map fun d => ((d : Nat) : Int)).map (Value.int .i64)) from
                      ⟨below_drewN HB6.out.1 _, by have h : w6.ownsRow B2 3 1 v6 (j + 1) ((((colN X.length k).take (j + 1)).map fun d => ((d : Nat) : Int)).map (Value.int .i64)) := by { rw [HTK.out, List.map_append, List.map_append]; simpa using HB6.out.2 }; exact h⟩)
                    clear z1 z2 HB6
                    go_wp2_with fail
                    exact ⟨⟨j + 1, HJ.out.1, by go_num, congrArg Value.bool (by rw [HFT.out]; simp), HE⟩, by simpa [intOf] using HJ.out.2⟩
                · have hje : j = X.length := by omega
                  subst hje
                  have htk : (colN X.length k).take X.length = colN X.length k := List.take_of_length_le (by rw [HLO.out.2.1]; exact Nat.le_refl _)
                  rw [htk] at H3 ⊢
                  have hl3 : ((colN X.length k).map fun d => ((d : Nat) : Int)).length = X.length := by rw [List.length_map, HLO.out.2.1]
                  obtain ⟨ac, cc, rfl, hic⟩ := ownsRow_ints (l := (colN X.length k).map fun d => ((d : Nat) : Int)) H3.out.2
                  rw [hl3]
                  have HIC := hid hic
                  have H4 := hid (show TabI w.heap.size wr (.slice a5 X.length c5) X ∧ Below w.heap.size w wr from ⟨H2.out.1.low H3.out.1 (by rw [HB2.out]; exact Nat.le_refl _), H2.out.2.trans (H3.out.1.mono (by rw [HB2.out]; exact H2.out.2.size))⟩)
                  have hfs := fitK_succ X k
                  clear hic htk H3
                  cases hfit : fitR X (colN X.length k) with
                  | false =>
                    rw [hfit] at hfs
                    have HFS := hid (show fitK X (k + 1) = fitK X k by rw [hfs]; rfl)
                    have HJ := hid (show k + 1 ≤ F ∧ F - (k + 1) < F - k from ⟨by omega, by omega⟩)
                    clear hfs hfit
                    go_wp2_with fail
                    exact ⟨⟨k + 1, HJ.out.1, by go_num, by rw [HFS.out], H4⟩, by simpa [intOf] using HJ.out.2⟩
                  | true =>
                    rw [hfit] at hfs
                    have HFS := hid (show fitK X (k + 1) = fitK X k + 1 by rw [hfs]; rfl)
                    have hat := fit_at X (by omega) HCE.out k (by rw [← HFF.out]; exact hkF) hfit
                    obtain ⟨a7, c7, hv7, hR7, -, -⟩ := H4.out.1.rows
                    simp only [Value.slice.injEq, true_and] at hv7
                    obtain ⟨rfl, rfl⟩ := hv7
                    have hsq : Square X := ⟨by omega, fun r hr => ⟨HCE.out r hr, fun x hx => by rcases (HX01.out r hr).2 x hx with h | h <;> omega⟩⟩
                    have HPI := hid (postsItem_ok a5 c5 X wr hR7 hsq (by omega) (fitK X k) (colN X.length k) hat)
                    have HJ := hid (show k + 1 ≤ F ∧ F - (k + 1) < F - k from ⟨by omega, by omega⟩)
                    clear hfs hfit hat hR7
                    go_wp2_with fail
                    refine HPI.out.mono ?_
                    rintro e w7 ⟨a8, c8, rfl, hi8, hb8⟩
                    rw [HLO.out.2.1]
                    have hI8 := hid (And.intro hi8 (And.intro (HIC.out.below hb8 (Nat.le_refl _)) hb8))
                    clear hi8 hb8
                    have I10 := ints10 a8 ac c8 cc _ _ w7 hI8.out.1 hI8.out.2.1 (by rw [hl3]; omega) (by rw [hl3]; omega)
                    rw [hl3, show ((colN X.length k).map (fun d => ((d : Nat) : Int)) == (colN X.length k).map (fun d => ((d : Nat) : Int))) = true by simp] at I10
                    have HI10 := hid I10
                    have hfl := fitK_le X k
                    have hwu := wrap_up (fitK X k) (by omega)
                    have hku := wrap_up k (by omega)
                    clear I10 hfl
                    go_wp2_with fail
                    refine HI10.out.mono ?_
                    rintro e w8 ⟨rfl, hb8⟩
                    have H5 := hid (show TabI w.heap.size w8 (.slice a5 X.length c5) X ∧ Below w.heap.size w w8 from
                      ⟨(H4.out.1.low hI8.out.2.2 (Nat.le_refl _)).low hb8 (Nat.le_refl _), (H4.out.2.trans (hI8.out.2.2.mono H4.out.2.size)).trans (hb8.mono (Nat.le_trans H4.out.2.size hI8.out.2.2.size))⟩)
                    clear hb8
                    go_wp2_with fail
                    exact ⟨⟨k + 1, HJ.out.1, by go_num, congrArg (Value.int .i64) (by rw [HFS.out]; simp), H5⟩, by simpa [intOf] using HJ.out.2⟩
            · have hke : k = F := by omega
              subst hke
              have dk : decide ((k : Int) < (k : Int)) = false := by simp
              obtain ⟨a7, c7, hv7, hR7, -, -⟩ := H1.out.1.rows
              simp only [Value.slice.injEq, true_and] at hv7
              obtain ⟨rfl, rfl⟩ := hv7
              have hsq : Square X := ⟨by omega, fun r hr => ⟨HCE.out r hr, fun x hx => by rcases (HX01.out r hr).2 x hx with h | h <;> omega⟩⟩
              have hP := permanent_ok a5 c5 X wr hR7 hsq (by omega)
              rw [fit_end X (by omega) HX01.out, ← HFF.out] at hP
              have HP := hid hP
              clear hP hR7
              go_wp2_with fail
              refine HP.out.mono ?_
              rintro e w9 ⟨rfl, hb9⟩
              have HB9 := hid (H1.out.2.trans (hb9.mono H1.out.2.size))
              clear hb9
              go_wp2_with fail
              refine (seven_any _).mono ?_
              rintro e w10 ⟨rfl, hb10⟩
              have HB10 := hid (HB9.out.trans (hb10.mono HB9.out.size))
              clear hb10
              go_wp2_with fail
              go_ret
              exact ⟨rfl, HB10.out⟩

end Go.Proofs.YtkmpdcckgibkhaaGreat
