/-
  Walks: the search for names in the program.
-/
import Derived.Test.YthlgdakdjikjhaaDoorCt
import Derived.Test.YthlgdakdjikjhaaDoorLawResets
import Derived.Laws.EntriesVeiled
namespace Go.Proofs.YthlgdakdjikjhaaDoor
open Go.RowKit Go.ChangeMaps
attribute [local go_sem] Oper.semAt_some

/-- The blocks of a search for names: machines, names, the function itself. -/
structure Bks where
  m : Nat
  o : Nat
  n : Nat
  e : Nat
def Bks.fn (b : Bks) : Value := .func (.func 63) #[] #[.pointer (some ⟨b.n, 0, none⟩), .pointer (some ⟨b.m, 0, none⟩), .pointer (some ⟨b.o, 0, none⟩), .pointer (some ⟨b.e, 0, none⟩)]
structure SW (w0 W : World) (b : Bks) (vm vo : Value) (L : List Nat) (v : Value) : Prop where
  below : Below w0.heap.size w0 W
  bm : Blk W b.m #[vm] 22
  bo : Blk W b.o #[vo] 22
  be : Blk W b.e #[b.fn] 26
  bn : Blk W b.n #[v] 38
  own : W.ownsRow (b.e + 1) 3 1 v L.length (L.map natV)
structure Bks.ok (w0 : World) (b : Bks) : Prop where
  h1 : w0.heap.size ≤ b.m
  h2 : b.m < b.o
  h3 : b.o < b.n
  h4 : b.n < b.e
theorem SW.next {w0 W W' : World} {b : Bks} {vm vo v : Value} {L : List Nat} (h : SW w0 W b vm vo L v) (hb : Below W.heap.size W W') : SW w0 W' b vm vo L v where
  below := h.below.trans (hb.mono h.below.size)
  bm := h.bm.below hb h.bm.lt
  bo := h.bo.below hb h.bo.lt
  be := h.be.below hb h.be.lt
  bn := h.bn.below hb h.bn.lt
  own := ownsRow_low h.own hb (Nat.le_refl _)
/-- Memory at or above the names' rows is made or written. -/
theorem SW.app {w0 W W1 : World} {b : Bks} {vm vo v v' : Value} {L L' : List Nat} (hk : b.ok w0) (h : SW w0 W b vm vo L v) (hb : Below (b.e + 1) W W1) (ho : W1.ownsRow (b.e + 1) 3 1 v' L'.length (L'.map natV)) : SW w0 (W1.setCell ⟨b.n, 0, none⟩ v') b vm vo L' v' := by
  have h1 := hk.h1
  have h2 := hk.h2
  have h3 := hk.h3
  have h4 := hk.h4
  refine ⟨(h.below.trans (hb.mono (by omega))).setCell (by show _ ≤ b.n; omega) _, ?_, ?_, ?_, ?_, ?_⟩
  · exact (h.bm.below hb (by omega)).other _ (by show b.m ≠ b.n; omega) _
  · exact (h.bo.below hb (by omega)).other _ (by show b.o ≠ b.n; omega) _
  · exact (h.be.below hb (by omega)).other _ (by show b.e ≠ b.n; omega) _
  · exact (h.bn.below hb (by omega)).set 0 v'
  · refine ⟨ho.1, ho.2.imp id ?_⟩
    rintro ⟨g, cap, cur, e1, e2, e3, e4⟩
    exact ⟨g, cap, cur, e1, e2, Blk.other e3 ⟨b.n, 0, none⟩ (by show g ≠ b.n; omega) v', e4⟩
/-- The last name is struck. -/
theorem own_take {w : World} {base e : Nat} {a : Option Addr} {c n : Nat} {xs : List Value} {x : Value} (h : w.ownsRow base e 1 (.slice a (n + 1) c) (n + 1) (xs ++ [x])) : w.ownsRow base e 1 (.slice a n c) n xs := by
  obtain ⟨h1, h2⟩ := h
  have hl : xs.length = n := by rw [List.length_append, List.length_singleton] at h1; omega
  refine ⟨by omega, ?_⟩
  rcases h2 with ⟨-, h3⟩ | ⟨g, cap, cur, e1, e2, e3, e4, e5, e6, e7⟩
  · omega
  · cases e1
    refine .inr ⟨g, c, cur, rfl, e2, e3, by omega, e5, e6, ?_⟩
    have := congrArg (List.take (n * 1)) e7
    rw [List.take_take, Nat.min_eq_left (by omega)] at this
    rw [this, List.take_append_of_le_length (by omega), List.take_of_length_le (by omega)]
def condF (M O : List (List Nat)) (f : Nat) (L : List Nat) (q : Nat) : Bool := !L.contains q && (agreeB M O (L ++ [q]) && extF M O f (L ++ [q]))
def RetE (w0 : World) (b : Bks) (vm vo : Value) (L : List Nat) (r : Bool) (e : Ending) (w' : World) : Prop := ∃ v', e = .returned (.bool r) ∧ Hid (Below w0.heap.size w0 w') ∧ Hid (r = false → SW w0 w' b vm vo L v')
theorem own_ints {w : World} {base : Nat} {a : Option Addr} {c : Nat} {L : List Nat} (h : w.ownsRow base 3 1 (.slice a L.length c) L.length (L.map natV)) : Ints w a (castL L) := by
  unfold Ints; rw [castL_inj]; exact (own_vals h).1

set_option maxRecDepth 100000 in
set_option maxHeartbeats 8000000 in
theorem ext_any (a : Option Addr) (c : Nat) (M : List (List Nat)) (a' : Option Addr) (c' : Nat) (O : List (List Nat)) (w0 : World) (b : Bks) (hk : b.ok w0) (hM : OkM M) (hO : OkM O) (hlen : M.length = O.length) (hn : nst M = nst O) (hr : RowsAt w0 a (intM M)) (hr' : RowsAt w0 a' (intM O)) :
    ∀ (f : Nat) (L : List Nat) (v : Value) (W : World), SW w0 W b (.slice a M.length c) (.slice a' O.length c') L v → L.length + f = nst M → (∀ x ∈ L, x < nst M) →
      Calls Tryd.prog 63 #[.pointer (some ⟨b.n, 0, none⟩), .pointer (some ⟨b.m, 0, none⟩), .pointer (some ⟨b.o, 0, none⟩), .pointer (some ⟨b.e, 0, none⟩)] W (RetE w0 b (.slice a M.length c) (.slice a' O.length c') L (extF M O f L)) := by
  intro f
  induction f with
  | zero =>
    intro L v W hs hl hlt
    obtain ⟨g, o, b1, c1, rfl, hg, q1⟩ := head_at hM hr
    obtain ⟨av, cv, rfl, -, -⟩ := ownsRow_vals hs.own
    rw [List.length_map] at hs
    have c0 : W.cell? ⟨b.n, 0, none⟩ = some (.slice av L.length cv) := hs.bn.cell 0
    have c1' : W.cell? ⟨b.m, 0, none⟩ = some (.slice (some ⟨g, o, none⟩) M.length c) := hs.bm.cell 0
    have c2 := (hs.below.cell (p := ⟨g, o, none⟩) hg).trans q1
    have hm1 := hM.b1
    have HS := hid hs
    have e1 : ((L.length : Int) == (nst M : Int)) = true := beq_iff_eq.2 (by omega)
    have HF := hid (show extF M O 0 L = true by rw [extF, decide_eq_true (by omega)])
    clear hs hr hr' hM hO q1 hlt hn hlen hl
    go_enter Tryd.func63, Tryd.ntmps63
    go_wp2_with fail
    go_ret
    exact ⟨.bool true, ret_bool HF.out.symm, HS.out.below, fun h => by rw [HF.out] at h; cases h⟩
  | succ f ih =>
    intro L v W hs hl hlt
    obtain ⟨g, o, b1, c1, rfl, hg, q1⟩ := head_at hM hr
    obtain ⟨av, cv, rfl, -, -⟩ := ownsRow_vals hs.own
    rw [List.length_map] at hs
    have c0 : W.cell? ⟨b.n, 0, none⟩ = some (.slice av L.length cv) := hs.bn.cell 0
    have c1' : W.cell? ⟨b.m, 0, none⟩ = some (.slice (some ⟨g, o, none⟩) M.length c) := hs.bm.cell 0
    have c2 := (hs.below.cell (p := ⟨g, o, none⟩) hg).trans q1
    have hm1 := hM.b1
    have hn9 := hM.n9
    have HS := hid hs
    have e1 : ((L.length : Int) == (nst M : Int)) = false := beq_eq_false_iff_ne.2 (by omega)
    have HX := hid (show extF M O (f + 1) L = (List.range (nst M)).any (condF M O f L) by
      rw [extF, decide_eq_false (by omega), Bool.false_or]; rfl)
    have IH := hid (fun q v W hs (hq : q < nst M) => ih (L ++ [q]) v W hs (by rw [List.length_append, List.length_singleton]; omega) (snoc_lt hlt hq))
    have AG := hid (fun (q : Nat) (an : Option Addr) (cn : Nat) (W : World) (hb : Below w0.heap.size w0 W) (hI : Ints W an (castL (L ++ [q]))) (hq : q < nst M) =>
      agree_any (some ⟨g, o, none⟩) c M a' c' O an cn (L ++ [q]) W hM hO hlen hn (hr.below hb (Nat.le_refl _)) (hr'.below hb (Nat.le_refl _)) hI (by rw [List.length_append, List.length_singleton]; omega) (snoc_lt hlt hq))
    have HK := hid hk
    have HQ1 := hid q1
    have hll : L.length ≤ 9 := by omega
    have CT := hid (fun (x : Nat) (an : Option Addr) (cn : Nat) (W : World) (hI : Ints W an (castL L)) => contains_any an cn L x W hI (by omega))
    clear hs hr hr' hM hO q1 hlt hn hlen hl ih hk
    generalize nst M = n at *
    go_enter Tryd.func63, Tryd.ntmps63
    go_wp2_with fail
    go_loopw [19] (fun qv W => ∃ (q : Nat) (v : Value), q ≤ n ∧ qv = .int .i64 q ∧ Hid (SW w0 W b (.slice (some ⟨g, o, none⟩) M.length c) (.slice a' O.length c') L v) ∧ Hid (∀ q', q' < q → condF M O f L q' = false)) (fun qv _ => n - (intOf qv).toNat)
    case atStart => exact ⟨0, _, by omega, rfl, HS, fun q' h => by omega⟩
    case round =>
      obtain ⟨q, v, hq, rfl, HSW, HD⟩ := hrel
      obtain ⟨av2, cv2, rfl, -, -⟩ := ownsRow_vals HSW.out.own
      rw [List.length_map] at HSW
      have d0 : wr.cell? ⟨b.n, 0, none⟩ = some (.slice av2 L.length cv2) := HSW.out.bn.cell 0
      have d1 : wr.cell? ⟨b.m, 0, none⟩ = some (.slice (some ⟨g, o, none⟩) M.length c) := HSW.out.bm.cell 0
      have d2 := (HSW.out.below.cell (p := ⟨g, o, none⟩) hg).trans HQ1.out
      by_cases hqn : q < n
      · have CC := hid (CT.out q av2 cv2 wr (own_ints HSW.out.own))
        cases hc : L.contains q with
        | true =>
          rw [hc] at CC
          have HN := hid (show ∀ q', q' < q + 1 → condF M O f L q' = false from fun q' h => by
            rcases Nat.lt_or_ge q' q with h1 | h1
            · exact HD.out q' h1
            · rw [show q' = q by omega]; unfold condF; rw [hc]; rfl)
          clear hc HD
          go_wp2_with fail
          refine CC.out.mono ?_
          rintro e w5 ⟨rfl, rfl⟩
          go_wp2_with fail
          exact ⟨⟨q + 1, _, by omega, by go_num, HSW, HN⟩, by simp [intOf]; omega⟩
        | false =>
          rw [hc] at CC
          have HCN := hid hc
          have hX : L.map natV ++ [.int .i64 (q : Int)] = (L ++ [q]).map natV := by rw [List.map_append]; rfl
          have HX2 := hid hX
          have hbz := HSW.out.be.lt
          clear hc hX
          go_wp2_with (first | (go_at_call 64; refine CC.out.mono ?_; rintro e w5 ⟨rfl, rfl⟩) | (at_builtin; go_must (refine wpList_app _ rfl (.tmp 25) (.tmp 27) 38 rfl (b.e + 1) 3 (.int .i64 0) 8 Tryd.underlying38 Tryd.info3 rfl _ L.length _ rfl (HSW.out.own.alloc _) (some ⟨wr.heap.size, 0, none⟩) 1 1 [.int .i64 _] rfl rfl (vals_new _ _ _ _ rfl) (fun h => by cases h) (by simp [Value.oneCell']) (by omega) (by omega) (by simp; omega) ?_)))
          intro v' w1 hown' hgrow _
          have hbe := below_app ((Below.refl (b.e + 1) wr).alloc (by omega) _) hgrow (HSW.out.own.alloc _) (by simp; omega) (Nat.le_refl _)
          rw [HX2.out] at hown'
          obtain ⟨a3, c3, rfl, -, -⟩ := ownsRow_vals hown'
          rw [List.length_map, List.length_append, List.length_singleton] at hown' ⊢
          have HL1 := hid (show (L ++ [q]).length = L.length + 1 by rw [List.length_append, List.length_singleton])
          obtain ⟨g3, o3, rfl, -, -, hcap⟩ := own_natV (L := L ++ [q]) (by rw [HL1.out]; exact hown') (by rw [HL1.out]; omega)
          rw [HL1.out] at hcap
          have HS2 := hid (HSW.out.app (L' := L ++ [q]) HK.out hbe (by rw [HL1.out]; exact hown'))
          have k0 : w1.cell? ⟨b.n, 0, none⟩ = some (.slice av2 L.length cv2) := (HSW.out.bn.below hbe (by have := HK.out.h4; omega)).cell 0
          have k1 : w1.frozen? ⟨b.n, 0, none⟩ = false := (HSW.out.bn.below hbe (by have := HK.out.h4; omega)).free 0
          have k2 : (w1.setCell ⟨b.n, 0, none⟩ (.slice (some ⟨g3, o3, none⟩) (L.length + 1) c3)).cell? ⟨b.m, 0, none⟩ = some (.slice (some ⟨g, o, none⟩) M.length c) := HS2.out.bm.cell 0
          have k3 : (w1.setCell ⟨b.n, 0, none⟩ (.slice (some ⟨g3, o3, none⟩) (L.length + 1) c3)).cell? ⟨b.o, 0, none⟩ = some (.slice a' O.length c') := HS2.out.bo.cell 0
          have k4 : (w1.setCell ⟨b.n, 0, none⟩ (.slice (some ⟨g3, o3, none⟩) (L.length + 1) c3)).cell? ⟨b.n, 0, none⟩ = some (.slice (some ⟨g3, o3, none⟩) (L.length + 1) c3) := HS2.out.bn.cell 0
          have HGR := hid hgrow
          clear hown' hgrow hbe d0 d1 d2
          go_wp2_with fail
          have HFA := hid hcap
          have AC := AG.out q (some ⟨g3, o3, none⟩) c3 _ HS2.out.below (own_ints (L := L ++ [q]) (by have := HS2.out.own; rw [HL1.out] at this ⊢; exact this)) hqn
          rw [HL1.out] at AC
          refine AC.mono ?_
          rintro e w6 ⟨rfl, hb6⟩
          have HSX := hid (HS2.out.next hb6)
          clear AC hb6 k0 k1 k2 k3 k4 HGR HS2
          cases hag : agreeB M O (L ++ [q]) with
          | false =>
            have HN := hid (show ∀ q', q' < q + 1 → condF M O f L q' = false from fun q' h => by
              rcases Nat.lt_or_ge q' q with h1 | h1
              · exact HD.out q' h1
              · rw [show q' = q by omega]; unfold condF; rw [hag, Bool.false_and, Bool.and_false])
            clear hag HD
            have m0 : w6.cell? ⟨b.n, 0, none⟩ = some (.slice (some ⟨g3, o3, none⟩) (L.length + 1) c3) := HSX.out.bn.cell 0
            have m1 : w6.frozen? ⟨b.n, 0, none⟩ = false := HSX.out.bn.free 0
            have HSL := hid (HSX.out.app (L' := L) HK.out (Below.refl _ _) (own_take (x := .int .i64 (q : Int)) (by have := HSX.out.own; rw [HL1.out, ← HX2.out] at this; exact this)))
            clear HX2
            go_wp2_with fail
            exact ⟨⟨q + 1, _, by omega, by go_num, HSL, HN⟩, by simp [intOf]; omega⟩
          | true =>
            have n0 : w6.cell? ⟨b.e, 0, none⟩ = some (.func (.func 63) #[] #[.pointer (some ⟨b.n, 0, none⟩), .pointer (some ⟨b.m, 0, none⟩), .pointer (some ⟨b.o, 0, none⟩), .pointer (some ⟨b.e, 0, none⟩)]) := HSX.out.be.cell 0
            have HAG := hid hag
            have CI := hid (IH.out q _ w6 HSX.out hqn)
            clear hag
            go_wp2_with fail
            refine CI.out.mono ?_
            rintro e w7 ⟨v7, rfl, hb7, hs7⟩
            cases hr7 : extF M O f (L ++ [q]) with
            | true =>
              have hf : extF M O (f + 1) L = true := by
                rw [HX.out, List.any_eq_true]
                refine ⟨q, List.mem_range.2 hqn, ?_⟩
                unfold condF
                rw [HCN.out, HAG.out, hr7]; rfl
              have HF := hid hf
              clear hf hr7 hs7
              go_wp2_with fail
              go_ret
              exact ⟨.bool true, ret_bool HF.out.symm, hb7, fun h => by rw [HF.out] at h; cases h⟩
            | false =>
              have HN := hid (show ∀ q', q' < q + 1 → condF M O f L q' = false from fun q' h => by
                rcases Nat.lt_or_ge q' q with h1 | h1
                · exact HD.out q' h1
                · rw [show q' = q by omega]; unfold condF; rw [hr7, Bool.and_false, Bool.and_false])
              have HS7 := hid (hs7.out hr7)
              obtain ⟨a7, c7, rfl, -, -⟩ := ownsRow_vals HS7.out.own
              rw [List.length_map, HL1.out] at HS7
              clear hr7 hs7 HD hb7 n0
              obtain ⟨g7, o7, rfl, -, -, hcap7⟩ := own_natV (L := L ++ [q]) (by have := HS7.out.own; rw [← HL1.out] at this; exact this) (by rw [HL1.out]; omega)
              rw [HL1.out] at hcap7
              have m0 : w7.cell? ⟨b.n, 0, none⟩ = some (.slice (some ⟨g7, o7, none⟩) (L.length + 1) c7) := HS7.out.bn.cell 0
              have m1 : w7.frozen? ⟨b.n, 0, none⟩ = false := HS7.out.bn.free 0
              have HSL := hid (HS7.out.app (L' := L) HK.out (Below.refl _ _) (own_take (x := .int .i64 (q : Int)) (by have := HS7.out.own; rw [HL1.out, ← HX2.out] at this; exact this)))
              clear HX2
              go_wp2_with fail
              exact ⟨⟨q + 1, _, by omega, by go_num, HSL, HN⟩, by simp [intOf]; omega⟩
      · have hf : extF M O (f + 1) L = false := by
          rw [HX.out, ← Bool.not_eq_true, List.any_eq_true]
          rintro ⟨x, hx, h⟩
          rw [HD.out x (by have := List.mem_range.1 hx; omega)] at h
          cases h
        have HF := hid hf
        clear hf
        go_wp2_with fail
        go_ret
        exact ⟨_, ret_bool HF.out.symm, HSW.out.below, fun _ => HSW.out⟩
end Go.Proofs.YthlgdakdjikjhaaDoor
