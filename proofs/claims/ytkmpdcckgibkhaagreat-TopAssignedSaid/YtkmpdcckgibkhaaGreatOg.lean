/-
  Walks: the possible choice at a position.
-/
import Derived.Test.YtkmpdcckgibkhaaGreatOf
import Derived.Test.YtkmpdcckgibkhaaGreatOc
namespace Go.Proofs.YtkmpdcckgibkhaaGreat
open Go.RowKit Go.ChangeMaps

/-- What stands while a choice is sought. -/
def IteB (w : World) (X : List (List Int)) (a : Option Addr) (c t k f m B : Nat) (v8 : Value) (O : List Nat) (W : World) : Prop :=
  CW w X a c t k f m W ∧ (∃ M, MapIs enc2 W m M ∧ Kn X 0 M) ∧ W.ownsRow B 3 1 v8 O.length ((O.map fun d => ((d : Nat) : Int)).map (Value.int .i64)) ∧ B ≤ W.heap.size
theorem IteB.count {w W W' : World} {X : List (List Int)} {a : Option Addr} {c t k f m B : Nat} {v8 : Value} {O : List Nat} (h : IteB w X a c t k f m B v8 O W) (hB : m < B) {M' : List ((Int × Int) × Value)} (hM : MapIs enc2 W' m M') (hK : Kn X 0 M') (hg : W.grownBy W' (some m)) : IteB w X a c t k f m B v8 O W' :=
  ⟨h.1.grown hg, ⟨M', hM, hK⟩, h.2.2.1.kept hg (.inr fun e => by have := (h.2.2.1.lt _ e).1; omega), Nat.le_trans h.2.2.2 hg.size⟩

theorem CW.start (w w1 : World) (X : List (List Int)) (a : Option Addr) (c : Nat) (hb : Below w.heap.size w w1) (bt : Blk w1 w.heap.size #[.slice a X.length c] 22) :
    CW w X a c w.heap.size (w1.heap.size + 1) (w1.heap.size + 1 + 1) w1.heap.size (((w1.alloc (.map #[] 0)).alloc (.cells #[.map (some w1.heap.size)] 52)).alloc (.cells #[.func (.func 26) #[] #[.pointer (some ⟨w.heap.size, 0, none⟩), .pointer (some ⟨w1.heap.size + 1, 0, none⟩), .pointer (some ⟨w1.heap.size + 1 + 1, 0, none⟩)]] 23)) ∧
    MapIs enc2 (((w1.alloc (.map #[] 0)).alloc (.cells #[.map (some w1.heap.size)] 52)).alloc (.cells #[.func (.func 26) #[] #[.pointer (some ⟨w.heap.size, 0, none⟩), .pointer (some ⟨w1.heap.size + 1, 0, none⟩), .pointer (some ⟨w1.heap.size + 1 + 1, 0, none⟩)]] 23)) w1.heap.size [] := by
  have hs := hb.size
  have hl := bt.lt
  refine ⟨⟨((hb.alloc hb.size _).alloc (by simp; omega) _).alloc (by simp; omega) _, ((bt.alloc _).alloc _).alloc _, ?_, ?_, hs, by omega, by omega, by omega⟩, ((MapIs.made w1).alloc _).alloc _⟩
  · exact Blk.alloc (Blk.mk' (by simp) rfl) _
  · exact Blk.mk' (by simp) rfl

theorem IteB.push {w W W' : World} {X : List (List Int)} {a : Option Addr} {c t k f m B : Nat} {v8 v' : Value} {O : List Nat} (h : IteB w X a c t k f m B v8 O W) (ht : t < B) (hk : k < B) (hf : f < B) (hm : m < B) (hw : w.heap.size ≤ B) (x : Nat)
    (hown : W'.ownsRow B 3 1 v' (O.length + 1) ((O.map fun d => ((d : Nat) : Int)).map (Value.int .i64) ++ [.int .i64 (x : Int)])) (hg : (W.alloc (.cells #[.int .i64 (x : Int)] 3)).grownBy W' v8.ownBlock) : IteB w X a c t k f m B v' (O ++ [x]) W' := by
  have hg2 : W.grownBy W' v8.ownBlock := (grown_alloc W _ _).trans hg
  have hr : ∀ j, v8.ownBlock = some j → B ≤ j := fun j hj => (h.2.2.1.lt j hj).1
  obtain ⟨M, hM, hK⟩ := h.2.1
  refine ⟨h.1.above hg2 hr ht hk hf hw, ⟨M, (hg2.block m hM.lt (fun e => by have := hr m e.symm; omega)).trans hM, hK⟩, ?_, Nat.le_trans h.2.2.2 hg2.size⟩
  rw [List.length_append, List.map_append, List.map_append]
  exact hown
theorem Kn.all {X : List (List Int)} {r : Nat} {M M' : List ((Int × Int) × Value)} (h : Kn X 0 M) (h1 : Kn X r M') (h2 : SameB r M M') : Kn X 0 M' := fun i u v _ hg => by
  by_cases hi : r ≤ i
  · exact h1 i u v hi hg
  · rw [h2 i u (by omega)] at hg; exact h i u v (Nat.zero_le _) hg
theorem Kn.some {X : List (List Int)} {M : List ((Int × Int) × Value)} (h : Kn X 0 M) (r : Nat) : Kn X r M := fun i u v _ hg => h i u v (Nat.zero_le _) hg
theorem wrap_sub (a b : Nat) (ha : a ≤ 3125) (hb : b ≤ a) : wrap64 ((a : Int) - (b : Int)) = ((a - b : Nat) : Int) ∧ IntKind.i64.wrap ((a : Int) - (b : Int)) = ((a - b : Nat) : Int) := ⟨by unfold wrap64; omega, by rw [IntKind.wrap_i64]; omega⟩

set_option maxRecDepth 100000 in
set_option maxHeartbeats 8000000 in
theorem postsItem_ok (a : Option Addr) (c : Nat) (X : List (List Int)) (w : World) (hr : RowsAt w a X) (hs : Square X) (h5 : X.length ≤ 5) (kq : Nat) (T : List Nat) (hT : (chs X 0)[kq]? = some T) :
    Calls Tryz.prog 9 #[.slice a X.length c, .int .i64 kq] w fun e w' => ∃ a' c', e = .returned (.tuple #[.slice a' T.length c', .int .i64 0]) ∧ Ints w' a' (T.map fun d => ((d : Nat) : Int)) ∧ Below w.heap.size w w' := by
  have hkc : kq < cntC X 0 := by rw [← chs_len]; exact (List.getElem?_eq_some_iff.1 hT).1
  have hcl : cntC X 0 ≤ 3125 := by
    have h1 := cntC_le X 0 (fun row hr => by have := (hs.2 row hr).1; omega)
    have h2 : 5 ^ X.length ≤ 5 ^ 5 := Nat.pow_le_pow_right (by omega) h5
    omega
  have HR := hid hr
  have HSQ := hid hs
  have HT := hid hT
  have hd0 : decide ((kq : Int) < 0) = false := by simp
  have hmm := @run_makeMap Tryz.prog
  have hmf : ∀ (fn : Fn) (first cap : Array Value) (w : World), (Instr.makeFunc fn first cap).run Tryz.prog w = .ok (.func fn first cap) w := fun _ _ _ _ => rfl
  have hb0 := (Below.refl _ w).alloc (Nat.le_refl _) (.cells #[.slice a X.length c] 22)
  have bt0 := Blk.new w #[.slice a X.length c] 22
  have C0 := hid (isTable_ok a c X _ (hr.below hb0 (Nat.le_refl _)) hs)
  have t0 := bt0.cell 0
  clear hr hs hT
  go_enter Tryz.func9, Tryz.ntmps9
  go_wp2_with fail
  refine C0.out.mono ?_
  rintro e w1 ⟨rfl, hb1⟩
  have bt1 := bt0.below hb1 bt0.lt
  have hb2 := hb0.trans (hb1.mono hb0.size)
  clear t0
  obtain ⟨hC, hM⟩ := CW.start w w1 X a c hb2 bt1
  have hnl := bt1.lt
  go_wp2_with fail
  generalize ((w1.alloc (.map #[] 0)).alloc (.cells #[.map (some w1.heap.size)] 52)).alloc (.cells #[.func (.func 26) #[] #[.pointer (some ⟨w.heap.size, 0, none⟩), .pointer (some ⟨w1.heap.size + 1, 0, none⟩), .pointer (some ⟨w1.heap.size + 1 + 1, 0, none⟩)]] 23) = W3 at *
  clear bt0 bt1 hb0 hb1 hb2 hmm hmf C0
  generalize w1.heap.size = m at *
  have CNT := hid (fun (r u : Nat) (M : List ((Int × Int) × Value)) (W : World) (hr : r ≤ X.length) => count_any w X a c w.heap.size (m + 1) (m + 1 + 1) m HR.out HSQ.out h5 (X.length - r) r u M W (by omega))
  refine (CNT.out 0 0 [] W3 (by omega) (Nat.two_pow_pos _) hC hM (fun i u v _ hg => by cases hg)).mono ?_
  rintro e w4 ⟨rfl, M4, hM4, hK4, -, hg4⟩
  have hC4 := hC.grown hg4
  have hcl2 : (cntC (X.drop 0) 0 : Nat) = cntC X 0 := rfl
  rw [hcl2]
  have f4 := hC4.bf.lt
  obtain ⟨B, hB⟩ : ∃ B, B = w4.heap.size := ⟨_, rfl⟩
  have HI0 := hid (show IteB w X a c w.heap.size (m + 1) (m + 1 + 1) m B (.slice none 0 0) [] w4 from ⟨hC4, ⟨M4, hM4, hK4⟩, ⟨rfl, .inl ⟨rfl, rfl⟩⟩, by omega⟩)
  have hdc : decide ((cntC X 0 : Int) ≤ (kq : Int)) = false := by simp; omega
  have q4 := hC4.bt.cell 0
  have hmB : m + 1 + 1 < B := by omega
  have hdn : decide (cntC X 0 ≤ kq) = false := by simp; omega
  clear hC hM hM4 hK4 hg4 hC4 f4 hB hcl2
  go_wp2_with fail
  go_loopw [1, 8, 9, 30] (fun kv v8 uv rv wr => ∃ (k u r : Nat) (O R : List Nat), r ≤ X.length ∧ kv = .int .i64 k ∧ uv = .int .i64 u ∧ rv = .int .i64 r ∧ k ≤ 3125 ∧ u < 2 ^ X.length ∧ Hid (IteB w X a c w.heap.size (m + 1) (m + 1 + 1) m B v8 O wr) ∧ Hid ((chs (X.drop r) u)[k]? = some R ∧ O ++ R = T ∧ O.length = r)) (fun _ _ _ rv _ => X.length - (intOf rv).toNat)
  case atStart => exact ⟨kq, 0, 0, [], T, by omega, rfl, rfl, rfl, by omega, Nat.two_pow_pos _, HI0, HT.out, rfl, rfl⟩
  case round =>
    obtain ⟨k, u, r, O, R, hrN, rfl, rfl, rfl, hk, hu, HI, HC⟩ := hrel
    by_cases hlt : r < X.length
    · obtain ⟨row, hrow⟩ : ∃ row, X[r]? = some row := ⟨X[r], List.getElem?_eq_getElem hlt⟩
      obtain ⟨g, o, b, cr, rfl, hg, hcell, hri, hrn, hrc⟩ := HR.out.at r row hrow
      have q1 := (HI.out.1.below.cell (p := ⟨g, o + r, none⟩) hg).trans hcell
      have hrl := (HSQ.out.2 row (List.mem_of_getElem? hrow)).1
      have hrx := (HSQ.out.2 row (List.mem_of_getElem? hrow)).2
      have hN5 : row.length ≤ 5 := by omega
      have dr : decide ((r : Int) < (X.length : Int)) = true := by simpa using hlt
      have HRR := hid (And.intro hrow (And.intro hrx hrl))
      have HC2 := hid (show (colL (chs (X.drop (r + 1))) u (row.drop 0) 0)[k]? = some R by rw [← chs_row hrow]; exact HC.out.1)
      clear hrow hrx hrl hcell
      go_wp2_with fail
      go_loopw [1, 8, 9, 37] (fun kv v8 uv cv wr => ∃ (kk k' : Nat), kk ≤ row.length ∧ cv = .int .i64 kk ∧ kv = .int .i64 k' ∧ v8 = u8 ∧ uv = .int .i64 u ∧ k' ≤ 3125 ∧ Hid (IteB w X (some ⟨g, o, none⟩) c w.heap.size (m + 1) (m + 1 + 1) m B u8 O wr) ∧ Hid ((colL (chs (X.drop (r + 1))) u (row.drop kk) kk)[k']? = some R)) (fun _ _ _ cv _ => row.length - (intOf cv).toNat)
      case atStart => exact ⟨0, k, by omega, rfl, rfl, rfl, rfl, hk, HI, HC2⟩
      case round =>
        obtain ⟨kk, k', hkk, rfl, rfl, rfl, rfl, hk', HI2, HC3⟩ := hrel
        by_cases hlt2 : kk < row.length
        · obtain ⟨x, hx, -⟩ := list_drop_cons row kk hlt2
          obtain ⟨g2, o2, rfl, hg2, hc2⟩ := hri.at (by omega)
          have q2 := (HI2.out.1.below.cell (p := ⟨g2, o2 + kk, none⟩) hg2).trans (hc2 kk x hx)
          have hx9 := HRR.out.2.1 x (List.mem_of_getElem? hx)
          have hu512 : u < 512 := by have := Nat.pow_le_pow_right (show 0 < 2 by omega) h5; omega
          have dk : decide ((kk : Int) < (row.length : Int)) = true := by simpa using hlt2
          have HX := hid hx
          clear hc2 hx
          by_cases hx0 : x = 0
          · subst hx0
            have HC4 := hid (show (colL (chs (X.drop (r + 1))) u (row.drop (kk + 1)) (kk + 1))[k']? = some R by rw [← colL_skip HX.out (by simp)]; exact HC3.out)
            go_wp2_with fail
            exact ⟨⟨kk + 1, k', by omega, by go_num, rfl, rfl, rfl, hk', HI2, HC4⟩, by simp [intOf]; omega⟩
          · have hxe : (x == 0) = false := by simpa using hx0
            have hx1 : 0 < x := by omega
            cases hbit : u.testBit kk with
            | true =>
              have fb := bit_yes u kk hu512 hbit
              have HC4 := hid (show (colL (chs (X.drop (r + 1))) u (row.drop (kk + 1)) (kk + 1))[k']? = some R by rw [← colL_skip HX.out (by rw [hbit]; simp)]; exact HC3.out)
              go_wp2_with fail
              exact ⟨⟨kk + 1, k', by omega, by go_num, rfl, rfl, rfl, hk', HI2, HC4⟩, by simp [intOf]; omega⟩
            | false =>
              have fb := bit_no u kk hu512 hbit
              have hop := or_pow u kk hu512 (by omega)
              have hop2 := or_pow2 u kk hu512 (by omega)
              have hkl : kk < X.length := by rw [← HRR.out.2.2]; exact hlt2
              have hu2 : u ||| 2 ^ kk < 2 ^ X.length := Nat.or_lt_two_pow hu (Nat.pow_lt_pow_right (by omega) hkl)
              obtain ⟨hC5, ⟨M5, hM5, hK5⟩, hO5, hs5⟩ := HI2.out
              have C := CNT.out (r + 1) (u ||| 2 ^ kk) M5 wr.drew hlt hu2 (hC5.grown (grown_drewN wr 1 (some m))) hM5.drew (hK5.some _)
              have hcb : cntC (X.drop (r + 1)) (u ||| 2 ^ kk) ≤ 3125 := by
                have h1 := cntC_le (X.drop (r + 1)) (u ||| 2 ^ kk) (fun row hr => by have := (HSQ.out.2 row (List.mem_of_mem_drop hr)).1; omega)
                have h2 : 5 ^ (X.drop (r + 1)).length ≤ 5 ^ 5 := Nat.pow_le_pow_right (by omega) (by rw [List.length_drop]; omega)
                omega
              obtain ⟨u2, hu2e⟩ : ∃ u2, u2 = u ||| 2 ^ kk := ⟨_, rfl⟩
              rw [← hu2e] at hop hop2 hu2 C hcb
              obtain ⟨n, hn⟩ : ∃ n, n = cntC (X.drop (r + 1)) u2 := ⟨_, rfl⟩
              unfold CntP at C
              rw [← hn] at C hcb
              have hrw : ((r + 1 : Nat) : Int) = (r : Int) + 1 := by omega
              rw [hrw] at C
              have CH := hid (C.mono (R' := fun e w' => e = .returned (.int .i64 (n : Int)) ∧ Hid (IteB w X (some ⟨g, o, none⟩) c w.heap.size (m + 1) (m + 1 + 1) m B u8 O w')) fun e w' h => by
                obtain ⟨h1, M', h2, h3, h4, h5⟩ := h
                exact ⟨h1, HI2.out.count (by omega) h2 (hK5.all h3 h4) ((grown_drewN wr 1 (some m)).trans h5)⟩)
              have HN := hid (And.intro hn hu2e)
              have f0 := hC5.bf.cell 0
              have hrw1 := wrap_up r (by omega)
              have hlenF : (chs (X.drop (r + 1)) (u ||| 2 ^ kk)).length = n := by rw [chs_len, ← hu2e, ← hn]
              have HLF := hid hlenF
              clear C hrw hn hu2e hC5 hM5 hK5 hO5 hs5 hlenF
              by_cases hkn : k' < n
              · have dkn : decide ((k' : Int) < (n : Int)) = true := by simpa using hkn
                obtain ⟨R', rfl, hR'⟩ := colL_here HX.out ⟨hx1, hbit⟩ HC3.out (by rw [HLF.out]; exact hkn)
                have HR2 := hid hR'
                clear hR'
                go_wp2_with fail
                go_region_with (go_at_call 26; refine CH.out.mono ?_; rintro e w5 ⟨rfl, HI5⟩)
                have hO5 := HI5.out.2.2.1
                have hs5 := HI5.out.2.2.2
                have hOl : O.length ≤ 1000000 := by have := HC.out.2.2; omega
                go_wp2_with (at_builtin; go_must (refine wpList_app _ rfl (.tmp 62) (.tmp 64) 24 rfl B 3 (.int .i64 0) 8 Tryz.underlying24 infoS3 rfl _ O.length _ rfl (hO5.alloc _) (some ⟨w5.heap.size, 0, none⟩) 1 1 [.int .i64 (kk : Int)] rfl rfl (vals_new _ _ _ _ rfl) (fun h => by cases h) (by simp [Value.oneCell']) (by omega) (by omega) (by simp; omega) ?_))
                intro v6 w6 hown6 hgrow6 _
                have HI6 := hid (HI5.out.push (by omega) (by omega) hmB (by omega) (by omega) kk (by simpa using hown6) hgrow6)
                clear hown6 hgrow6 hO5 hs5
                go_wp2_with fail
                refine ⟨⟨k', u2, r + 1, O ++ [kk], R', by omega, rfl, rfl, by go_num, hk', hu2, HI6, ?_, ?_, ?_⟩, by simp [intOf]; omega⟩
                · rw [HN.out.2]; exact HR2.out
                · rw [List.append_assoc]; exact HC.out.2.1
                · rw [List.length_append, HC.out.2.2]; rfl
              · have dkn : decide ((k' : Int) < (n : Int)) = false := by simp; omega
                have HC4 := hid (colL_later HX.out ⟨hx1, hbit⟩ HC3.out (by rw [HLF.out]; omega))
                rw [HLF.out] at HC4
                obtain ⟨z1, z2⟩ := wrap_sub k' n hk' (by omega)
                go_wp2_with fail
                go_region_with (go_at_call 26; refine CH.out.mono ?_; rintro e w5 ⟨rfl, HI5⟩)
                go_wp2_with fail
                exact ⟨⟨kk + 1, k' - n, by omega, by go_num, rfl, rfl, rfl, by omega, HI5, HC4⟩, by simp [intOf]; omega⟩
        · exfalso
          have := HC3.out
          rw [show row.drop kk = [] from List.drop_eq_nil_of_le (by omega), colL] at this
          cases this
    · have hre : r = X.length := by omega
      subst hre
      have hTO : O = T := by
        obtain ⟨h1, h2, -⟩ := HC.out
        rw [List.drop_length, chs] at h1
        have hR : R = [] := by
          cases k with
          | zero => simpa using h1.symm
          | succ k => simp at h1
        rw [hR, List.append_nil] at h2
        exact h2
      subst hTO
      obtain ⟨a', c', rfl, hi⟩ := ownsRow_ints (l := O.map fun d => ((d : Nat) : Int)) (by simpa using HI.out.2.2.1)
      rw [List.length_map]
      have hF := hid (And.intro hi HI.out.1.below)
      clear hi
      go_wp2_with fail
      go_ret2
      exact ⟨a', c', rfl, hF.out⟩

end Go.Proofs.YtkmpdcckgibkhaaGreat
