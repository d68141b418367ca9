/-
  Walks: a part with a sum is taken.
-/
import Derived.Test.YtkmpdcckgibkhaaGreatVf
import Derived.Deep.DeepCutAuto
import Derived.BigQuiet
namespace Go.Proofs.YtkmpdcckgibkhaaGreat
open Go.RowKit Go.ChangeMaps

/-- Places that are ascending, from i on, below k. -/
def Asc (k : Nat) : Nat → List Nat → Prop
  | _, [] => True
  | i, p :: r => i ≤ p ∧ p < k ∧ Asc k (p + 1) r
/-- The sum of the numbers at some places. -/
def sumAt (L : List Int) (P : List Nat) : Int := (P.map fun p => L.getD p 0).sum
theorem Asc.weak {k : Nat} : ∀ (P : List Nat) {i j : Nat}, Asc k j P → i ≤ j → Asc k i P := by
  intro P
  cases P with
  | nil => intro i j _ _; trivial
  | cons p r => intro i j h hij; exact ⟨Nat.le_trans hij h.1, h.2⟩
theorem Asc.lt {k : Nat} : ∀ (P : List Nat) {i : Nat}, Asc k i P → ∀ p ∈ P, p < k := by
  intro P
  induction P with
  | nil => intro i _ p hp; cases hp
  | cons q r ih =>
    intro i h p hp
    rcases List.mem_cons.1 hp with rfl | hp
    · exact h.2.1
    · exact ih h.2.2 p hp
/-- The numbers at ascending places are a part. -/
theorem Asc.sublist (L : List Int) : ∀ (P : List Nat) (i : Nat), Asc L.length i P → (P.map fun p => L.getD p 0).Sublist (L.drop i) := by
  intro P
  induction P with
  | nil => intro i _; exact List.nil_sublist _
  | cons p r ih =>
    intro i h
    have h1 := ih (p + 1) h.2.2
    have hip : i ≤ p := h.1
    have hp : p < L.length := h.2.1
    have h2 : (L.drop p).Sublist (L.drop i) := by
      rw [show L.drop p = (L.drop i).drop (p - i) by rw [List.drop_drop]; congr 1; omega]
      exact List.drop_sublist _ _
    refine List.Sublist.trans ?_ h2
    rw [List.drop_eq_getElem_cons hp, List.map_cons, show L.getD p 0 = L[p] by simp [List.getD, hp]]
    exact List.Sublist.cons_cons _ h1
theorem rest_unique (n s s' x : Int) (h0 : 0 ≤ s') (h1 : s' < n) (h : s = (s' + x) % n) : s' = (s - x + n) % n := by
  subst h
  rw [show (s' + x) % n - x + n = ((s' + x) % n + (n - x)) by omega, Int.emod_add_emod, show s' + x + (n - x) = s' + n by omega, Int.add_emod_right]
  exact (Int.emod_eq_of_lt h0 h1).symm
/-- Where the first number is not taken. -/
theorem Rch.skip {n x : Int} {L : List Int} {m : Nat} {s : Int} (h : Rch n (x :: L) (m + 1) s) (hn : 0 < n) (hno : ¬ Rch n L m ((s - x + n) % n)) : Rch n L (m + 1) s := by
  rcases (Rch.cons n x L (m + 1) s).1 h with h | ⟨m', s', hm, hs, h⟩
  · exact h
  · exfalso
    have : m = m' := by omega
    subst this
    have hr := h.range hn
    rw [rest_unique n s s' x hr.1 hr.2.1 hs] at h
    exact hno h
theorem back_sum (n s x t : Int) (ht : t % n = (s - x + n) % n) (hs : 0 ≤ s) (hs2 : s < n) : (x + t) % n = s := by
  rw [Int.add_comm, ← Int.emod_add_emod, ht, Int.emod_add_emod, show s - x + n + x = s + n by omega, Int.add_emod_right]
  exact Int.emod_eq_of_lt hs hs2

/-- What stands while a part is taken: the group, the elements, the maps; all below t. -/
structure TS (W0 : World) (n : Int) (L : List Int) (g lb rb ro t : Nat) (a : Option Addr) (c : Nat) (fm : Nat → Value) : Prop where
  hg : Blk W0 g #[.int .i64 n, .int .i64 1, .int .i64 1] 59
  hlb : Blk W0 lb #[.slice a L.length c] 60
  hrb : Blk W0 rb #[.slice (some ⟨ro, 0, none⟩) (L.length + 1) (L.length + 1)] 62
  hro : Blk W0 ro (rowW fm (L.length + 1)) 113
  maps : ∀ j, j ≤ L.length → ∃ b M, fm j = .map (some b) ∧ b < t ∧ MapIs enc3 W0 b M ∧ RMap n (L.drop j) M
  els : L = [] ∨ ∃ gv ov, a = some ⟨gv, ov, none⟩ ∧ gv < t ∧ ∀ i u, (elF L)[i]? = some u → W0.cell? ⟨gv, ov + i, none⟩ = some u
  lt : g < t ∧ lb < t ∧ rb < t ∧ ro < t
/-- The result's box and the closure's box. -/
def TK (W0 : World) (g lb rb t : Nat) (v : Value) (O : List Nat) (W : World) : Prop :=
  Below t W0 W ∧ Blk W t #[v] 24 ∧ Blk W (t + 1) #[.func (.func 61) #[] #[.pointer (some ⟨g, 0, none⟩), .pointer (some ⟨lb, 0, none⟩), .pointer (some ⟨rb, 0, none⟩), .pointer (some ⟨t, 0, none⟩), .pointer (some ⟨t + 1, 0, none⟩)]] 111 ∧
    W.ownsRow (t + 2) 3 1 v O.length ((O.map fun d => ((d : Nat) : Int)).map (Value.int .i64)) ∧ t + 2 ≤ W.heap.size
theorem TK.alloc {W0 W : World} {g lb rb t : Nat} {v : Value} {O : List Nat} (h : TK W0 g lb rb t v O W) (o : Obj) : TK W0 g lb rb t v O (W.alloc o) :=
  ⟨h.1.alloc (by have := h.2.2.2.2; omega) o, h.2.1.alloc o, h.2.2.1.alloc o, h.2.2.2.1.alloc o, by have := h.2.2.2.2; simp; omega⟩
theorem TK.low {W0 W W' : World} {g lb rb t : Nat} {v : Value} {O : List Nat} (h : TK W0 g lb rb t v O W) (hb : Below W.heap.size W W') : TK W0 g lb rb t v O W' :=
  ⟨h.1.trans (hb.mono (by have := h.2.2.2.2; omega)), h.2.1.below hb h.2.1.lt, h.2.2.1.below hb h.2.2.1.lt, ownsRow_low h.2.2.2.1 hb (Nat.le_refl _), Nat.le_trans h.2.2.2.2 hb.size⟩

/-- What take leaves. -/
def TakeP (W0 : World) (n : Int) (L : List Int) (g lb rb t fr many : Nat) (s : Int) (O : List Nat) (e : Ending) (W' : World) : Prop :=
  e = .returned (.tuple #[]) ∧ ∃ v' P, TK W0 g lb rb t v' (O ++ P) W' ∧ P.length = many ∧ Asc L.length fr P ∧ sumAt L P % n = s

theorem TK.drew {W0 W : World} {g lb rb t : Nat} {v : Value} {O : List Nat} (h : TK W0 g lb rb t v O W) : TK W0 g lb rb t v O W.drew := ⟨h.1.drew, h.2⟩
theorem own_slice {w : World} {base e : Nat} {v : Value} {n : Nat} {xs : List Value} (h : w.ownsRow base e 1 v n xs) : ∃ a c, v = .slice a n c := by
  rcases h.2 with ⟨rfl, rfl⟩ | ⟨g, cap, cur, rfl, _, _, _, _, _, _⟩
  · exact ⟨none, 0, rfl⟩
  · exact ⟨_, _, rfl⟩
theorem own_ne {w : World} {base : Nat} {v : Value} {n : Nat} {xs : List Value} {b : Nat} {cs : Array Value} {ty : TypeId} (h : w.ownsRow base 3 1 v n xs) (hb : Blk w b cs ty) (ht : ty ≠ 3) : some b ≠ v.ownBlock := by
  intro e
  rcases h.2 with ⟨rfl, -⟩ | ⟨g, cap, cur, rfl, _, hg, _, _, _, _⟩
  · cases e
  · cases e
    unfold Blk at hb
    rw [hb] at hg
    simp only [Option.some.injEq, Obj.cells.injEq] at hg
    exact ht hg.2.1
theorem TK.push {W0 W w6 : World} {g lb rb t i : Nat} {v v' : Value} {O : List Nat} (h : TK W0 g lb rb t v O W) (hown : w6.ownsRow (t + 2) 3 1 v' (O.length + 1) ((O.map fun d => ((d : Nat) : Int)).map (Value.int .i64) ++ [.int .i64 (i : Int)])) (hg : W.grownBy w6 v.ownBlock) :
    TK W0 g lb rb t v' (O ++ [i]) (w6.setCell ⟨t, 0, none⟩ v') := by
  obtain ⟨h1, h2, h3, h4, h5⟩ := h
  have hne : ∀ k, v.ownBlock = some k → t + 2 ≤ k := fun k hk => (h4.lt k hk).1
  have hsz := hg.size
  have b2 : Blk w6 t #[v] 24 := (hg.block t h2.lt (fun e => by have := hne t e.symm; omega)).trans h2
  have b3 : Blk w6 (t + 1) _ 111 := (hg.block (t + 1) h3.lt (fun e => by have := hne (t + 1) e.symm; omega)).trans h3
  refine ⟨(h1.grown hg (by omega) (fun k hk => by have := hne k hk; omega)).setCell (Nat.le_refl _) _, b2.set 0 v', b3.other _ (by simp) _, ?_, by simp; omega⟩
  have := ownsRow_setCell_below hown (a := ⟨t, 0, none⟩) (by show t < t + 2; omega) v'
  simpa using this

theorem wrap_up60 (m : Nat) (h : m ≤ 60) : wrap64 ((m : Int) + 1) = (m : Int) + 1 ∧ IntKind.i64.wrap ((m : Int) + 1) = (m : Int) + 1 := ⟨by unfold wrap64; omega, by rw [IntKind.wrap_i64]; omega⟩
theorem look113 {W : World} {bm : Nat} {M : List ((Int × Int × Int) × Value)} (h : MapIs enc3 W bm M) (m s : Int) (b : Bool) (hg : (get (m, s, (0 : Int)) M).getD (.bool false) = .bool b) : (Instr.lookup 113 (.map (some bm)) (.agg #[.int .i64 m, .int .i64 s, .int .i64 0]) false).run Tryz.prog W = .ok (.bool b) W := by
  have := h.look kt65 Tryz.underlying113 (zeroB4 W) (m, s, (0 : Int)) false
  rw [hg] at this
  exact this

theorem wrap_many (m : Nat) (h : m ≤ 60) : wrap64 (m : Int) = (m : Int) ∧ IntKind.i64.wrap (m : Int) = (m : Int) ∧ IntKind.i64.wrap ((m : Int) + 1 - 1) = (m : Int) := ⟨by unfold wrap64; omega, by rw [IntKind.wrap_i64]; omega, by rw [IntKind.wrap_i64]; omega⟩

set_option maxRecDepth 100000 in
set_option maxHeartbeats 8000000 in
theorem take61 (W0 : World) (n : Int) (L : List Int) (g lb rb ro t : Nat) (a : Option Addr) (c : Nat) (fm : Nat → Value) (hS : TS W0 n L g lb rb ro t a c fm) (hl : L.length ≤ 60) (hn : 2 ≤ n) (hn2 : n ≤ 24) (hL : ∀ x ∈ L, 0 ≤ x ∧ x < n) :
    ∀ (many fr : Nat) (s : Int) (v : Value) (O : List Nat) (W : World), fr ≤ L.length → O.length + many ≤ 60 → Rch n (L.drop fr) many s → TK W0 g lb rb t v O W →
    Calls Tryz.prog 61 #[.int .i64 fr, .agg #[.int .i64 many, .int .i64 s, .int .i64 0], .pointer (some ⟨g, 0, none⟩), .pointer (some ⟨lb, 0, none⟩), .pointer (some ⟨rb, 0, none⟩), .pointer (some ⟨t, 0, none⟩), .pointer (some ⟨t + 1, 0, none⟩)] W (TakeP W0 n L g lb rb t fr many s O) := by
  intro many
  induction many with
  | zero =>
    intro fr s v O W hfr hO hr hT
    have hs0 : s = 0 := by
      obtain ⟨T, h1, h2, h3⟩ := hr
      have : T = [] := List.eq_nil_of_length_eq_zero h2
      subst this
      simpa using h3.symm
    subst hs0
    have HT := hid (hT.alloc (.cells #[.int .i64 0, .int .i64 0, .int .i64 0] 65))
    have q0 := (Blk.new W #[.int .i64 0, .int .i64 0, .int .i64 0] 65).cell 0
    clear hT hr
    go_enter Tryz.func61, Tryz.ntmps61
    go_wp2_with fail
    go_returns
    exact ⟨rfl, v, [], by simpa using HT.out, rfl, trivial, by simp [sumAt]⟩
  | succ many ih =>
    intro fr s v O W hfr hO hr hT
    have IH := hid ih
    have hm60 : many ≤ 60 := by omega
    clear ih
    have hrg := hr.range (by omega)
    have HR := hid hr
    have hmc : ((many + 1 : Nat) : Int) = (many : Int) + 1 := by omega
    rw [hmc]
    have T1 := hT.alloc (.cells #[.int .i64 ((many : Int) + 1), .int .i64 s, .int .i64 0] 65)
    have Kb := Blk.new W #[.int .i64 ((many : Int) + 1), .int .i64 s, .int .i64 0] 65
    have k0 := Kb.cell 0
    have hm0 : ((many : Int) + 1 == 0) = false := by simp; omega
    have hWl := hT.2.2.2.2
    obtain ⟨kb, hkb⟩ : ∃ kb, kb = W.heap.size := ⟨_, rfl⟩
    rw [← hkb] at Kb
    have H0 := hid (And.intro T1 Kb)
    have hkt : t + 2 ≤ kb := by omega
    clear hr hT T1 Kb
    go_enter Tryz.func61, Tryz.ntmps61
    go_wp2_with fail
    rw [← hkb]
    clear hkb k0
    go_loopw [9] (fun iv W => ∃ i : Nat, fr ≤ i ∧ i ≤ L.length ∧ iv = .int .i64 i ∧ Hid (Rch n (L.drop i) (many + 1) s) ∧ Hid (TK W0 g lb rb t v O W ∧ Blk W kb #[.int .i64 ((many : Int) + 1), .int .i64 s, .int .i64 0] 65)) (fun iv _ => L.length - (intOf iv).toNat)
    case atStart => exact ⟨fr, Nat.le_refl _, hfr, rfl, HR, H0⟩
    case round =>
      obtain ⟨i, hfi, hil, rfl, HRi, HW⟩ := hrel
      have hrgi := HRi.out.range (by omega)
      rw [List.length_drop] at hrgi
      have hil2 : i < L.length := by omega
      obtain ⟨x, hx, hxd⟩ := list_drop_cons L i hil2
      have hxb := hL x (List.mem_of_getElem? hx)
      have hRi := HRi.out
      rw [hxd] at hRi
      obtain ⟨bm, M, hfm, hbm, hmM, hrM⟩ := hS.maps (i + 1) (by omega)
      obtain ⟨hTK, hKb⟩ := HW.out
      obtain ⟨gv, ov, rfl, hgv, hcv⟩ := hS.els.resolve_left (fun e => by rw [e] at hil2; simp at hil2)
      obtain ⟨v1, v2⟩ := elF_at L i x hx
      have v1 := hcv _ _ v1
      have v2 := hcv _ _ v2
      rw [← Nat.add_assoc] at v2
      have hlt := hS.lt
      have SS := hid (show ∀ W, Below wr.heap.size wr W → (W.cell? ⟨kb, 0, none⟩ = some (.int .i64 ((many : Int) + 1)) ∧ W.cell? ⟨kb, 1, none⟩ = some (.int .i64 s) ∧ W.cell? ⟨kb, 2, none⟩ = some (.int .i64 0) ∧ W.cell? ⟨g, 0, none⟩ = some (.int .i64 n) ∧ W.cell? ⟨g, 1, none⟩ = some (.int .i64 1) ∧ W.cell? ⟨g, 2, none⟩ = some (.int .i64 1) ∧ W.cell? ⟨lb, 0, none⟩ = some (.slice (some ⟨gv, ov, none⟩) L.length c) ∧ W.cell? ⟨gv, ov + i * 2, none⟩ = some (.int .i64 x) ∧ W.cell? ⟨gv, ov + i * 2 + 1, none⟩ = some (.int .i64 0)) ∧ TK W0 g lb rb t v O W ∧ Blk W kb #[.int .i64 ((many : Int) + 1), .int .i64 s, .int .i64 0] 65 from fun W hg => by
        have hk := hTK.low hg
        have hkb := hKb.below hg hKb.lt
        have hb := hk.1
        have eg := hS.hg.below hb hlt.1
        have el := hS.hlb.below hb hlt.2.1
        exact ⟨⟨hkb.cell 0, hkb.cell 1, hkb.cell 2, eg.cell 0, eg.cell 1, eg.cell 2, el.cell 0, (hb.cell (p := ⟨gv, ov + i * 2, none⟩) hgv).trans v1, (hb.cell (p := ⟨gv, ov + i * 2 + 1, none⟩) hgv).trans v2⟩, hk, hkb⟩)
      obtain ⟨z, hz⟩ : ∃ z, (s - x + n) % n = z := ⟨_, rfl⟩
      have HZ := hid hz
      clear hz
      have C := hid (show Calls Tryz.prog 62 #[.agg #[.int .i64 n, .int .i64 1, .int .i64 1], .agg #[.int .i64 s, .int .i64 0], .agg #[.int .i64 x, .int .i64 0]] wr.drew (RetB (.agg #[.int .i64 z, .int .i64 0]) wr.drew) from minus62 n s x _ HZ.out wr.drew hn hn2 hrgi.1 hrgi.2.1 hxb.1 hxb.2)
      have il : (i : Int) < (L.length : Int) := by omega
      obtain ⟨hwd, hwd2, hwd3⟩ := wrap_many many hm60
      have S7 := (SS.out wr.drew ((Below.refl _ wr).drew)).1
      have HRI := hid (And.intro hRi (And.intro hx hxb))
      have HM := hid (And.intro hbm (And.intro hmM (And.intro hrM hfm)))
      have HV := hid (And.intro hgv hcv)
      have HLT := hid hlt
      have HRG := hid hrgi
      have HXD := hid hxd
      have HSS := hid hS
      clear hTK hKb v1 v2 hlt hRi hx hxb hbm hmM hrM hfm hgv hcv hrgi hxd hS
      go_wp2_with fail
      have S6 := (SS.out (wr.alloc (.cells #[.int .i64 0, .int .i64 0, .int .i64 0] 65)).drew (((Below.refl _ wr).alloc (Nat.le_refl _) _).drew)).1
      have C2 := hid (show Calls Tryz.prog 62 #[.agg #[.int .i64 n, .int .i64 1, .int .i64 1], .agg #[.int .i64 s, .int .i64 0], .agg #[.int .i64 x, .int .i64 0]] (wr.alloc (.cells #[.int .i64 0, .int .i64 0, .int .i64 0] 65)).drew (RetB (.agg #[.int .i64 z, .int .i64 0]) (wr.alloc (.cells #[.int .i64 0, .int .i64 0, .int .i64 0] 65)).drew) from minus62 n s x _ HZ.out _ hn hn2 HRG.out.1 HRG.out.2.1 HRI.out.2.2.1 HRI.out.2.2.2)
      go_cut [10] (fun v10 W' => ∃ nb, v10 = .pointer (some ⟨nb, 0, none⟩) ∧ Hid (TK W0 g lb rb t v O W' ∧ Blk W' kb #[.int .i64 ((many : Int) + 1), .int .i64 s, .int .i64 0] 65 ∧ Blk W' nb #[.int .i64 (many : Int), .int .i64 z, .int .i64 0] 65))
      case first =>
        go_region_held3 (fun W => W.cell? ⟨kb, 0, none⟩ = some (.int .i64 ((many : Int) + 1)) ∧ W.cell? ⟨kb, 1, none⟩ = some (.int .i64 s) ∧ W.cell? ⟨kb, 2, none⟩ = some (.int .i64 0) ∧ W.cell? ⟨g, 0, none⟩ = some (.int .i64 n) ∧ W.cell? ⟨g, 1, none⟩ = some (.int .i64 1) ∧ W.cell? ⟨g, 2, none⟩ = some (.int .i64 1) ∧ W.cell? ⟨lb, 0, none⟩ = some (.slice (some ⟨gv, ov, none⟩) L.length c) ∧ W.cell? ⟨gv, ov + i * 2, none⟩ = some (.int .i64 x) ∧ W.cell? ⟨gv, ov + i * 2 + 1, none⟩ = some (.int .i64 0)) (first | exact S7 | exact S6 | exact S8 | exact S9 | exact S10 | go_keep) (first | (go_at_call 62; first | (refine C.out.mono ?_; rintro e w8 ⟨rfl, hb8⟩; have hW8 := ((Below.refl wr.heap.size wr).drew).trans hb8; have S8 := (SS.out w8 hW8).1; have S9 := (SS.out _ (hW8.alloc hW8.size (.cells #[.int .i64 (many : Int), .int .i64 z, .int .i64 0] 65))).1) | (refine C2.out.mono ?_; rintro e w8 ⟨rfl, hb8⟩; have hW8 := (((Below.refl wr.heap.size wr).alloc (Nat.le_refl _) (.cells #[.int .i64 0, .int .i64 0, .int .i64 0] 65)).drew).trans (hb8.mono (by simp)); have S8 := (SS.out w8 hW8).1; have B8 := ((Blk.new wr #[.int .i64 0, .int .i64 0, .int .i64 0] 65).drew).below hb8 (by simp); have b0 := B8.cell 0; have b1 := B8.cell 1; have b2 := B8.cell 2; have f0 := B8.free 0; have f1 := B8.free 1; have f2 := B8.free 2; have S10 := (SS.out _ (((hW8.setCell (Nat.le_refl _) (.int .i64 (many : Int)) (p := ⟨wr.heap.size, 0, none⟩)).setCell (Nat.le_refl _) (.int .i64 z) (p := ⟨wr.heap.size, 1, none⟩)).setCell (Nat.le_refl _) (.int .i64 0) (p := ⟨wr.heap.size, 2, none⟩))).1)))
        all_goals (go_wp2_with fail)
        · go_meet
          have hb' := hW8.alloc hW8.size (.cells #[.int .i64 (many : Int), .int .i64 z, .int .i64 0] 65)
          exact ⟨w8.heap.size, rfl, hid ⟨(SS.out _ hb').2.1, (SS.out _ hb').2.2, Blk.new w8 _ _⟩⟩
        · go_meet
          have hb' := ((hW8.setCell (Nat.le_refl _) (.int .i64 (many : Int)) (p := ⟨wr.heap.size, 0, none⟩)).setCell (Nat.le_refl _) (.int .i64 z) (p := ⟨wr.heap.size, 1, none⟩)).setCell (Nat.le_refl _) (.int .i64 0) (p := ⟨wr.heap.size, 2, none⟩)
          exact ⟨wr.heap.size, rfl, hid ⟨(SS.out _ hb').2.1, (SS.out _ hb').2.2, ((B8.set 0 _).set 1 _).set 2 _⟩⟩
      case rest =>
        obtain ⟨nb, rfl, HW2⟩ := hcut
        clear hwd hwd2 hwd3
        have hTK2 := HW2.out.1
        have q1 := (HSS.out.hrb.below hTK2.1 HLT.out.2.2.1).cell 0
        have q2 := (HSS.out.hro.below hTK2.1 HLT.out.2.2.2).rowWat (i + 1) (by omega)
        rw [HM.out.2.2.2] at q2
        have q3 := HW2.out.2.2.cell 0
        have q4 := HW2.out.2.2.cell 1
        have q5 := HW2.out.2.2.cell 2
        have hmW := HM.out.2.1.below hTK2.1 HM.out.1
        obtain ⟨bq, hbq, hans⟩ : ∃ bq : Bool, (bq = true ↔ Rch n (L.drop (i + 1)) many z) ∧ (get ((many : Int), z, (0 : Int)) M).getD (.bool false) = .bool bq := by
          classical
          exact ⟨decide (Rch n (L.drop (i + 1)) many z), by simp, HM.out.2.2.1.answer many z⟩
        have hlk := look113 hmW.drew many z bq hans
        have hlk2 := look113 hmW many z bq hans
        have HBQ := hid hbq
        have hi3 : (i : Int) + 1 < (L.length : Int) + 1 := by omega
        have hi4 : ((i : Int) + 1).toNat = i + 1 := by omega
        have hi5 : (0 : Int) ≤ (i : Int) + 1 := by omega
        obtain ⟨hi1, hi2⟩ := wrap_up60 i (by omega)
        have S1 := HW2
        clear hTK2 hmW hans hbq
        go_wp2_with fail
        go_region
        cases bq with
        | true =>
          have hown := HW2.out.1.2.2.2.1
          have c1 := HW2.out.1.2.1.cell 0
          have hts := HW2.out.1.2.2.2.2
          have HRR := hid (show Rch n (L.drop (i + 1)) many z from HBQ.out.1 rfl)
          have hO2 : O.length + 1 ≤ 60 := by omega
          have hx1 : t + 2 ≤ (wc.drew.alloc (.cells #[.int .i64 (i : Int)] 3)).heap.size := by simp; omega
          have hnt : nb ≠ t := by
            intro e
            have h1 := HW2.out.1.2.1
            have h2 := HW2.out.2.2
            rw [e] at h2
            unfold Blk at h1 h2
            rw [h1] at h2
            simp at h2
          have hAs : ∀ P, Asc L.length (i + 1) P → Asc L.length fr (i :: P) := fun P h => ⟨hfi, hil2, h⟩
          have hxi : L.getD i 0 = x := by simp [List.getD, HRI.out.2.1]
          have hts2 : ∀ P, sumAt L P % n = z → sumAt L (i :: P) % n = s := fun P h => by
            unfold sumAt
            rw [List.map_cons, List.sum_cons, hxi]
            exact back_sum n s x _ (by rw [HZ.out]; exact h) HRG.out.1 HRG.out.2.1
          have HF := hid (And.intro hAs hts2)
          have hOi : (O ++ [i]).length + many ≤ 60 := by simp; omega
          clear q1 q2 hlk hlk2 hAs hxi hts2
          have HI1 := hid (And.intro hi1 hi2)
          clear hi1 hi2
          go_wp2_with (at_builtin; go_must (refine wpList_app _ rfl (.tmp 36) (.tmp 38) 24 rfl (t + 2) 3 (.int .i64 0) 8 Tryz.underlying24 info3 rfl _ O.length _ rfl (hown.alloc _) (some ⟨wc.heap.size, 0, none⟩) 1 1 [.int .i64 (i : Int)] rfl rfl (vals_new _ _ _ _ rfl) (fun h => by cases h) (by simp [Value.oneCell']) (by omega) (by omega) hx1 ?_))
          intro v' w6 hown6 hgrow6 _
          obtain ⟨a6, c6, rfl⟩ := own_slice hown6
          have T6 := ((HW2.out.1.drew).alloc (.cells #[.int .i64 (i : Int)] 3)).push (v' := .slice a6 (O.length + 1) c6) (i := i) (by rw [List.map_map]; exact hown6) hgrow6
          have n1 := (HW2.out.2.2.drew).alloc (.cells #[.int .i64 (i : Int)] 3)
          have N6 : Blk w6 nb _ 65 := (hgrow6.block nb n1.lt (own_ne (hown.alloc _) n1 (by decide))).trans n1
          have N7 := N6.other ⟨t, 0, none⟩ hnt (.slice a6 (O.length + 1) c6)
          have b1 := (HW2.out.1.2.1.drew).alloc (.cells #[.int .i64 (i : Int)] 3)
          have B6 : Blk w6 t _ 24 := (hgrow6.block t b1.lt (own_ne (hown.alloc _) b1 (by decide))).trans b1
          have p0 := B6.cell 0
          have p1 := B6.free 0
          have p2 := T6.2.2.1.cell 0
          have p3 := N7.cell 0
          have p4 := N7.cell 1
          have p5 := N7.cell 2
          have CC := IH.out (i + 1) z _ (O ++ [i]) _ (by omega) hOi HRR.out T6
          rw [Int.natCast_add, show ((1 : Nat) : Int) = 1 from rfl] at CC
          have CH := hid CC
          clear CC T6 N6 N7 B6 n1 b1 hown6 hgrow6 hown c1
          obtain ⟨hi1, hi2⟩ := HI1.out
          go_wp2_with fail
          refine CH.out.mono ?_
          rintro e w8 ⟨rfl, v8, P, hT8, hP8, hA8, hS8⟩
          have HE := hid (And.intro hT8 (And.intro hP8 (And.intro hA8 hS8)))
          clear CH hT8 hP8 hA8 hS8 p0 p1 p2 p3 p4 p5 hi1 hi2 HI1
          go_wp2_with fail
          go_returns
          obtain ⟨hT8, hP8, hA8, hS8⟩ := HE.out
          exact ⟨rfl, v8, i :: P, by simpa using hT8, by simp [hP8], HF.out.1 P hA8, HF.out.2 P hS8⟩
        | false =>
          have HRn := hid (show Rch n (L.drop (i + 1)) (many + 1) s from HRI.out.1.skip (by omega) (fun h => by rw [HZ.out] at h; exact absurd (HBQ.out.2 h) (by simp)))
          have HTn := hid (And.intro HW2.out.1.drew HW2.out.2.1.drew)
          clear q1 q2 q3 q4 q5 hlk hlk2 hi1 hi2
          go_wp2_with fail
          exact ⟨⟨i + 1, by omega, by omega, by go_num, HRn, HTn⟩, by simp [intOf]; omega⟩

end Go.Proofs.YtkmpdcckgibkhaaGreat
