/-
  Walks: even. Bytes that are appended one by one, and made a string.
-/
import Derived.Test.YthelnggbcgjbcaaRefA
namespace Go.Proofs.Ythelnggbcgjbcaa
open Go.RowKit

def u8v (c : UInt8) : Value := .int .u8 (c.toNat : Int)
theorem u8v_one (l : List UInt8) : ∀ u ∈ l.map u8v, u.oneCell' = true := by
  intro u hu; obtain ⟨x, _, rfl⟩ := List.mem_map.1 hu; rfl
theorem Try.info5 : (Try.prog.info? 5).map (fun i => (i.zero, i.size, i.bytes)) = some (some (.int .u8 0), 1, 1) := by kernel_rfl

theorem ownsRow_low {B base : Nat} {e : TypeId} {k : Nat} {v : Value} {n : Nat} {xs : List Value} {w w' : World} (h : w.ownsRow base e k v n xs) (hb : Below B w w') (hB : w.heap.size ≤ B) : w'.ownsRow base e k v n xs :=
  ⟨h.1, h.2.imp id fun ⟨g, cap, cur, e1, e2, e3, r⟩ => ⟨g, cap, cur, e1, e2, (hb.block g (Nat.lt_of_lt_of_le (lt_of_block e3) hB)).trans e3, r⟩⟩

theorem ret_str {a b : ByteArray} (h : a = b) : Ending.returned (.string a) = .returned (.string b) := by rw [h]
theorem modtwo (n : Nat) : Int.tmod (n : Int) 2 = ((n % 2 : Nat) : Int) := by
  rw [Int.tmod_eq_emod_of_nonneg (by omega)]; omega

theorem wpList_app2 {P : Program} (w : World) {ops : Array Oper} {rest : List Oper} {o : Oper} {a : Act} {Q : Exit → Act → World → Prop}
    (hg : o.guard = none) (s x : Operand) (t : TypeId) (hop : o.op = Op.call { callee := Callee.builtin Builtin.append, args := #[s, x], argTypes := #[t, t] })
    (base : Nat) (e : TypeId) (z : Value) (bytes : Nat) (ht : P.underlying t = some (.slice e)) (hi : (P.info? e).map (fun i => (i.zero, i.size, i.bytes)) = some (some z, 1, bytes))
    (hz : z.cells.size = 1) (v : Value) (n : Nat) (xs : List Value) (hs : a.eval s = v) (hown : w.ownsRow base e 1 v n xs) (ad : Option Addr) (m c : Nat) (news : List Value) (hx : a.eval x = .slice ad m c) (hm : m = news.length) (hr : Vals w ad news) (hnil : ad = none → m = 0 ∧ c = 0) (h1 : ∀ u ∈ news, u.oneCell' = true)
    (h63 : n + m ≤ 17592186044416) (hb8 : bytes ≤ 8) (hbase : base ≤ w.heap.size)
    (hK : ∀ v' w', w'.ownsRow base e 1 v' (n + m) (xs ++ news) → w.grownBy w' v.ownBlock → (v'.ownBlock = v.ownBlock ∨ v'.ownBlock = some w.heap.size) → wpList P ops Q rest (a.put o.dst v') w') :
    wpList P ops Q (o :: rest) a w := by
  refine wpList_plain hg fun K hK' => ?_
  obtain ⟨v', w', hrun, r1, r2, -⟩ := run_app (P := P) w base t o.type e z bytes ht hi hz v n xs hown ad m c news hm hr hnil h1 h63 hb8 hbase
  have r3 := run_app_where (P := P) w base t o.type e z bytes ht hi v n xs hown ad m c news hm hr hnil h1 h63 hb8 hrun
  unfold Oper.wp
  simp [execOp, hop, resolve, invoke, builtin, hs, hx, hrun, Result.andThen]
  exact hK' _ _ (hK v' w' r1 r2 r3)

/-- 'string(b)'. -/
theorem run_strB {P : Program} (src dst e : TypeId) (hs : P.underlying src = some (.slice e)) (he : P.underlying e = some (.int .u8)) (hd : P.underlying dst = some .string)
    (w : World) (a : Option Addr) (c : Nat) (l : List UInt8) (h : Vals w a (l.map u8v)) (hn : a = none → l = []) : (convert src dst (.slice a l.length c)).run P w = .ok (.string (mkS l)) w := by
  cases a with
  | none =>
    obtain rfl := hn rfl
    show (convert src dst (.slice none 0 c)).run P w = _
    rw [run_convert_bytes_string w src dst e none 0 c hs he hd]
    rfl
  | some ad =>
    refine run_convert_bytes_back w src dst e ad c l hs he hd ?_
    rcases h with h | ⟨g, o, ha, _, hc⟩
    · have : l = [] := by simpa using h
      subst this; intro j hj; simp at hj
    · cases ha
      intro j hj
      have := vals_cells hc j (u8v l[j]) (by rw [List.getElem?_map, List.getElem?_eq_getElem hj]; rfl)
      exact this

/-- The letters of an even chain made from any string. -/
def lett (c : UInt8) : UInt8 := UInt8.ofNat (97 + c.toNat % 4)
def oddL (o : List UInt8) (k : Nat) : List UInt8 := ((List.range k).filter (fun j => cn o j % 2 == 1)).map (fun j => UInt8.ofNat (97 + j))
def evenL (l : List UInt8) (most : Nat) : List UInt8 := (l.take (most - 4)).map lett ++ oddL ((l.take (most - 4)).map lett) 4
theorem lett_nat (c : UInt8) : (lett c).toNat = 97 + c.toNat % 4 := by
  unfold lett; rw [UInt8.toNat_ofNat']; omega
theorem lett_ok (l : List UInt8) : (l.map lett).all okb = true := by
  rw [List.all_eq_true]; intro x hx
  obtain ⟨c, _, rfl⟩ := List.mem_map.1 hx
  rw [okb_iff, lett_nat]; omega
theorem oddL_succ (o : List UInt8) (k : Nat) : oddL o (k + 1) = oddL o k ++ if cn o k % 2 = 1 then [UInt8.ofNat (97 + k)] else [] := by
  unfold oddL
  rw [List.range_succ, List.filter_append, List.map_append]
  congr 1
  by_cases h : cn o k % 2 = 1 <;> simp [h]
theorem oddL_len (o : List UInt8) (k : Nat) : (oddL o k).length ≤ k := by
  unfold oddL; rw [List.length_map]
  exact Nat.le_trans (List.length_filter_le _ _) (by simp)
theorem oddL_ok (o : List UInt8) (k : Nat) (hk : k ≤ 4) : (oddL o k).all okb = true := by
  rw [List.all_eq_true]; intro x hx
  obtain ⟨j, hj, rfl⟩ := List.mem_map.1 hx
  have := List.mem_range.1 (List.mem_filter.1 hj).1
  rw [okb_iff, UInt8.toNat_ofNat']; omega
theorem oddL_cn (o : List UInt8) (k j : Nat) (hk : k ≤ 4) (hj : j < 4) : cn (oddL o k) j = if j < k ∧ cn o j % 2 = 1 then 1 else 0 := by
  induction k with
  | zero => simp [oddL, cn]
  | succ k ih =>
    rw [oddL_succ, cn_append, ih (by omega)]
    by_cases h : cn o k % 2 = 1
    · rw [if_pos h]
      have e : cn [UInt8.ofNat (97 + k)] j = if k = j then 1 else 0 := by
        rw [cn_cons, UInt8.toNat_ofNat']
        by_cases hkj : k = j
        · subst hkj; rw [if_pos (by omega), if_pos rfl]; rfl
        · rw [if_neg (by omega), if_neg hkj]; rfl
      rw [e]
      by_cases hkj : k = j
      · subst hkj; simp [h]
      · rw [if_neg hkj]
        by_cases h2 : cn o j % 2 = 1
        · by_cases h3 : j < k
          · rw [if_pos ⟨h3, h2⟩, if_pos ⟨by omega, h2⟩]
          · rw [if_neg (by omega), if_neg (by omega)]
        · rw [if_neg (by omega), if_neg (by omega)]
    · rw [if_neg h]
      have e : cn [] j = 0 := rfl
      rw [e]
      by_cases hkj : k = j
      · subst hkj; rw [if_neg (by omega), if_neg (by omega)]
      · by_cases h2 : j < k ∧ cn o j % 2 = 1
        · rw [if_pos h2, if_pos ⟨by omega, h2.2⟩]
        · rw [if_neg h2, if_neg (by omega)]
theorem evenL_even (l : List UInt8) (m : Nat) : evenB (evenL l m) = true := by
  have : ∀ j, j < 4 → cn (evenL l m) j % 2 = 0 := by
    intro j hj
    rw [evenL, cn_append, oddL_cn _ _ _ (by omega) hj]
    split <;> omega
  simp [evenB, this 0 (by omega), this 1 (by omega), this 2 (by omega), this 3 (by omega)]
theorem evenL_ok (l : List UInt8) (m : Nat) : (evenL l m).all okb = true := by
  rw [evenL, List.all_append, lett_ok, oddL_ok _ _ (Nat.le_refl _)]; rfl
theorem evenL_len (l : List UInt8) (m : Nat) (hm : 4 ≤ m) : (evenL l m).length ≤ m := by
  have := oddL_len ((l.take (m - 4)).map lett) 4
  rw [evenL, List.length_append, List.length_map, List.length_take]; omega

set_option maxHeartbeats 1000000 in
theorem even_any (s : ByteArray) (m : Nat) (w : World) (hs : s.size ≤ 9223372036854775807) (hm : 4 ≤ m) (hm2 : m ≤ 100) :
    Calls Try.prog 32 #[.string s, .int .i64 m] w fun e w' => e = .returned (.string (mkS (evenL s.data.toList m))) ∧ Below w.heap.size w w' := by
  go_enter Try.func32, Try.ntmps32
  go_wp2
  go_loopw [5, 6] (fun v i wr => ∃ (k : Nat) (L : List UInt8), k ≤ s.size ∧ k ≤ m - 4 ∧ i = .int .i64 k ∧ Below w.heap.size w wr ∧ wr.ownsRow w.heap.size 5 1 v L.length (L.map u8v) ∧ Hid (L = (s.data.toList.take k).map lett)) (fun _ i _ => s.size - (intOf i).toNat)
  case atStart => exact ⟨0, [], by omega, by omega, rfl, Below.refl _ _, World.ownsRow_nil _ _ _ _, rfl⟩
  case round =>
    obtain ⟨k, L, hk, hkm, rfl, hB, hown, HL⟩ := hrel
    by_cases hlt : k < s.size ∧ k < m - 4
    · obtain ⟨hlt, hlm⟩ := hlt
      have hLb : L.length ≤ k := by rw [HL.out]; simp; omega
      go_wp2_with (at_builtin; go_must (refine wpList_app _ rfl (.tmp 21) (.tmp 27) 25 rfl w.heap.size 5 (.int .u8 0) 1 Try.underlying25 Try.info5 rfl _ L.length _ rfl (hown.alloc _) (some ⟨wr.heap.size, 0, none⟩) 1 1 [.int .u8 _] rfl rfl (vals_new _ _ _ _ rfl) (fun h => by cases h) (by simp [Value.oneCell']) (by omega) (by omega) (by have := hB.size; simp; omega) ?_))
      intro v' w1 hown' hgrow _
      have hX : ∀ X : Int, X = 97 + s[k].toNat % 4 → L.map u8v ++ [.int .u8 X] = (L ++ [lett s[k]]).map u8v := by
        rintro _ rfl
        simp only [List.map_append, List.map_cons, List.map_nil, u8v]
        rw [lett_nat]; rfl
      rw [hX _ (by omega)] at hown'
      have hB' := below_app (hB.alloc hB.size _) hgrow (hown.alloc _) (by have := hB.size; simp; omega) (Nat.le_refl _)
      have HX := hid hX
      clear hX
      go_wp2
      go_roundw
      case rel => exact ⟨k + 1, L ++ [lett s[k]], by omega, by omega, by go_num, hB', by simpa using hown', by rw [Hid, take_succ_bytes s k hlt, HL.out, List.map_append]; rfl⟩
      case measure => simp [intOf]; omega
    · have hend : L = (s.data.toList.take (m - 4)).map lett := by
        rw [HL.out]
        by_cases h : k < s.size
        · rw [show m - 4 = k by omega]
        · rw [take_all_bytes s k (by omega), List.take_of_length_le (by rw [bytes_len]; omega)]
      obtain ⟨a1, c1, rfl, hv1, -⟩ := ownsRow_vals hown
      have hlen : (L.map u8v).length = L.length := List.length_map ..
      have hn1 := (ownsRow_facts hown).2
      have hnil : a1 = none → L = [] := fun h => List.eq_nil_of_length_eq_zero (by have := hn1.2 h; have := hn1.1; omega)
      have hokL : L.all okb = true := by rw [hend]; exact lett_ok _
      have hLl : L.length ≤ m - 4 := by rw [hend]; simp; omega
      have hcv := run_strB (P := Try.prog) 25 9 5 Try.underlying25 Try.underlying5 Try.underlying9 wr a1 c1 L hv1 hnil
      have HE := hid hend
      have HO := hid hown
      have HOK := hid hokL
      have hms : (mkS L).size ≤ 9223372036854775807 := by rw [mkS_size]; omega
      clear hn1 hnil hend hown hokL hv1
      rw [hlen] at HO ⊢
      clear hlen
      have LC := hid (fun W => Letters_any (mkS L) W hms HOK.out)
      clear hms
      by_cases h1 : k < s.size
      all_goals
        go_wp2_with fail
        refine (LC.out wr).mono ?_
        rintro e w1 ⟨rfl, hb1⟩
        rw [mkS_data]
        go_wp2_with fail
        have hb2 : Below w.heap.size w (w1.alloc (.cells (arr4 fun j => cn L j) 22)) := (hB.trans (hb1.mono hB.size)).alloc (hB.trans (hb1.mono hB.size)).size _
        have hA : Blk (w1.alloc (.cells (arr4 fun j => cn L j) 22)) w1.heap.size (arr4 fun j => cn L j) 22 := Blk.new _ _ _
        have hO2 : (w1.alloc (.cells (arr4 fun j => cn L j) 22)).ownsRow w.heap.size 5 1 (.slice a1 L.length c1) L.length (L.map u8v) := (ownsRow_low HO.out hb1 (Nat.le_refl _)).alloc _
        go_loopw [5, 8] (fun v i wx => ∃ (j : Nat) (L2 : List UInt8), j ≤ 4 ∧ i = .int .i64 j ∧ Below w.heap.size w wx ∧ wx.ownsRow w.heap.size 5 1 v L2.length (L2.map u8v) ∧ Blk wx w1.heap.size (arr4 fun j => cn L j) 22 ∧ L2.length ≤ 100 ∧ w1.heap.size < wx.heap.size ∧ (∀ k, v.ownBlock = some k → k ≠ w1.heap.size) ∧ Hid (L2 = L ++ oddL L j)) (fun _ i _ => 4 - (intOf i).toNat)
        case atStart =>
          refine ⟨0, L, by omega, rfl, hb2, hO2, hA, by omega, by simp, ?_, by simp [Hid, oddL]⟩
          intro k hk
          have h1 := (HO.out.lt k hk).2
          have h2 := hb1.size
          omega
        case round =>
          obtain ⟨j, L2, hj, rfl, hB2, hown2, hA2, hL2, hsz, hnb, HL2⟩ := hrel
          by_cases hj4 : j < 4
          · have hcc := hA2.cell4 j hj4
            have hcb := cn_le L j
            have hsm := modtwo (cn L j)
            have hol := oddL_len L j
            have hos := oddL_succ L j
            have hol2 := oddL_len L (j + 1)
            by_cases hodd : cn L j % 2 = 1
            · rw [if_pos hodd] at hos
              have HOS := hid hos
              clear hos
              go_wp2_with (at_builtin; go_must (refine wpList_app2 _ rfl (.tmp 41) (.tmp 45) 25 rfl w.heap.size 5 (.int .u8 0) 1 Try.underlying25 Try.info5 rfl _ L2.length _ rfl (hown2.alloc _) (some ⟨wr.heap.size, 0, none⟩) 1 1 [.int .u8 _] rfl rfl (vals_new _ _ _ _ rfl) (fun h => by cases h) (by simp [Value.oneCell']) (by omega) (by omega) (by have := hB2.size; simp; omega) ?_))
              intro v' w3 hown' hgrow hloc
              have hX : ∀ X : Int, X = 97 + j → L2.map u8v ++ [.int .u8 X] = (L2 ++ [UInt8.ofNat (97 + j)]).map u8v := by
                rintro _ rfl
                simp only [List.map_append, List.map_cons, List.map_nil, u8v]
                rw [UInt8.toNat_ofNat', show (97 + j) % 2 ^ 8 = 97 + j by omega]; rfl
              rw [hX _ (by omega)] at hown'
              clear hX
              have hB' := below_app (hB2.alloc hB2.size _) hgrow (hown2.alloc _) (by have := hB2.size; simp; omega) (Nat.le_refl _)
              have hA3 : Blk w3 w1.heap.size (arr4 fun j => cn L j) 22 := (hgrow.block w1.heap.size (by simp; omega) (fun e => hnb _ e.symm rfl)).trans (hA2.alloc _)
              have hnb' : ∀ k, v'.ownBlock = some k → k ≠ w1.heap.size := by
                intro k hk
                rcases hloc with h | h
                · exact hnb k (h ▸ hk)
                · rw [h] at hk; cases hk; simp; omega
              have hsz' : w1.heap.size < w3.heap.size := by have := hgrow.size; simp at this; omega
              have hl2' : (L2 ++ [UInt8.ofNat (97 + j)]).length ≤ 100 := by
                rw [HL2.out, List.append_assoc, ← HOS.out, List.length_append]; omega
              go_wp2
              go_roundw
              case rel => exact ⟨j + 1, L2 ++ [UInt8.ofNat (97 + j)], by omega, by go_num, hB', by simpa using hown', hA3, hl2', hsz', hnb', by rw [Hid, HL2.out, HOS.out, List.append_assoc]⟩
              case measure => simp [intOf]; omega
            · rw [if_neg hodd, List.append_nil] at hos
              have HOS := hid hos
              clear hos
              have hev : cn L j % 2 = 0 := by omega
              go_wp2
              go_roundw
              case rel => exact ⟨j + 1, L2, by omega, by go_num, hB2, hown2, hA2, hL2, hsz, hnb, by rw [Hid, HL2.out, HOS.out]⟩
              case measure => simp [intOf]; omega
          · obtain ⟨a3, c3, rfl, hv3, -⟩ := ownsRow_vals hown2
            have hlen3 : (L2.map u8v).length = L2.length := List.length_map ..
            have hn3 := (ownsRow_facts hown2).2
            have hnil3 : a3 = none → L2 = [] := fun h => List.eq_nil_of_length_eq_zero (by have := hn3.2 h; have := hn3.1; omega)
            have hcv3 := run_strB (P := Try.prog) 25 9 5 Try.underlying25 Try.underlying5 Try.underlying9 wr a3 c3 L2 hv3 hnil3
            have hfin : L2 = evenL s.data.toList m := by rw [HL2.out, HE.out, show j = 4 by omega]; rfl
            have HF := hid hfin
            clear hn3 hnil3 hfin hown2
            rw [hlen3]
            clear hlen3
            go_wp2
            go_ret
            exact ⟨ret_str (by rw [HF.out]), hB2⟩
end Go.Proofs.Ythelnggbcgjbcaa
