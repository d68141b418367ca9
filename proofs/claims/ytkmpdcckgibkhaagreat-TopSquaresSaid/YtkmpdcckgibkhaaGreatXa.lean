/-
  Contracts of the package marks, turned from the texts of the laws of marks (words, squares).
-/
import Derived.Test.YtkmpdcckgibkhaaGreatTa
import Derived.BigQuiet
import Derived.Deep.OwnRows
import Derived.Deep.QuietTactic
import Derived.Deep.RegionWith
import Derived.Deep.RegionLaw
import Derived.Laws.AppendOwnNone
import Derived.Laws.EntriesVeiled
import Derived.Laws.Runes
import Derived.Lib.Strings
import Derived.OwnWalkIn
import Derived.RangeFuncCalls
import Derived.RangeFuncKeeps
import Derived.RangeFuncLeaves
import Derived.Sort.LoopGhostIn
import Derived.WalkKit
import Derived.WalkLawsBesides
import Derived.WalkSpells
namespace Go.Proofs.YtkmpdcckgibkhaaGreat.Mk
open Go.RowKit
def okk (k : Nat) (c : UInt8) : Bool := decide (97 ≤ c.toNat) && decide (c.toNat < 97 + k)
theorem okk_iff (k : Nat) (c : UInt8) : okk k c = true ↔ 97 ≤ c.toNat ∧ c.toNat < 97 + k := by simp [okk]
def overB (k : Nat) (l : List UInt8) : Bool := l.all (okk k)
theorem overB_cons (k : Nat) (c : UInt8) (l : List UInt8) : overB k (c :: l) = (okk k c && overB k l) := rfl
theorem overB_bad (k : Nat) (c : UInt8) (l : List UInt8) (h : c.toNat < 97 ∨ 97 + k ≤ c.toNat) : overB k (c :: l) = false := by
  rw [overB_cons, show okk k c = false by rw [Bool.eq_false_iff]; intro h2; rw [okk_iff] at h2; omega]; rfl
theorem overB_ok (k : Nat) (c : UInt8) (l : List UInt8) (h : 97 ≤ c.toNat ∧ c.toNat < 97 + k) : overB k (c :: l) = overB k l := by
  rw [overB_cons, (okk_iff k c).2 h]; rfl
theorem overB_mem {k : Nat} {l : List UInt8} (h : overB k l = true) {c : UInt8} (hc : c ∈ l) : 97 ≤ c.toNat ∧ c.toNat < 97 + k :=
  (okk_iff k c).1 (List.all_eq_true.1 h c hc)
def wordB (l : List UInt8) : Bool := decide (l.length ≤ 120) && overB 4 l
/-- The smallest period of a square at the beginning, from p on. -/
def sqI (d : List UInt8) (p : Nat) : Option Nat :=
  if 2 * p ≤ d.length then (if d.take p = (d.drop p).take p then some p else sqI d (p + 1)) else none
termination_by d.length + 1 - p
def sqO : List UInt8 → Nat → Option (Nat × Nat)
  | [], _ => none
  | c :: d, i => match sqI (c :: d) 1 with
    | some p => some (i, p)
    | none => sqO d (i + 1)
/-- The first square: its position and its period. -/
def sq (l : List UInt8) : Option (Nat × Nat) := sqO l 0
def freeB (l : List UInt8) : Bool := (sq l).isNone
/-- Does the word end with a square of a period from p on? -/
def endsI (l : List UInt8) (p : Nat) : Bool :=
  if 2 * p ≤ l.length then (if l.drop (l.length - p) = (l.drop (l.length - 2 * p)).take p then true else endsI l (p + 1)) else false
termination_by l.length + 1 - p
def endsB (l : List UInt8) : Bool := endsI l 1
set_option maxHeartbeats 400000 in
theorem within_any (a b c : Int) (w : World) :
    Calls Tryz.prog 78 #[.int .i64 a, .int .i64 b, .int .i64 c] w fun e w' => e = .returned (.bool (decide (b ≤ a) && decide (a ≤ c))) ∧ w = w' := by
  by_cases h : b ≤ a
  · have hd : decide (b ≤ a) = true := by simpa using h
    go_enter Tryz.func78, Tryz.ntmps78
    go_wp2
    go_ret; exact ⟨ret_bool (by simp [h]), rfl⟩
  · have hd : decide (b ≤ a) = false := by simpa using h
    go_enter Tryz.func78, Tryz.ntmps78
    go_wp2
    all_goals (go_ret; exact ⟨ret_bool (by simp), rfl⟩)
set_option maxHeartbeats 400000 in
theorem isOver1_any (r k b : Nat) (w : World) (hr : r ≤ 2147483647) (hk : k ≤ 100) (hc : w.cell? ⟨b, 0, none⟩ = some (.int .i64 k)) :
    Calls Tryz.prog 100 #[.int .i32 r, .pointer (some ⟨b, 0, none⟩)] w fun e w' => e = .returned (.bool (!(decide (97 ≤ r) && decide (r < 97 + k)))) ∧ w = w' := by
  go_enter Tryz.func100, Tryz.ntmps100
  go_wp2_with (go_at_call 78; refine (within_any _ _ _ _).mono ?_; rintro e w1 ⟨rfl, rfl⟩)
  go_ret
  refine ⟨ret_bool ?_, rfl⟩
  rw [Bool.eq_iff_iff]; simp; omega
def RetIdx (b : Bool) (w : World) (e : Ending) (w' : World) : Prop := ∃ r : Int, e = .returned (.int .i64 r) ∧ decide (0 ≤ r) = b ∧ Below w.heap.size w w'
set_option maxHeartbeats 1000000 in
theorem indexFunc_any (s : ByteArray) (k b : Nat) (w : World) (hk : k ≤ 30) (hc : w.cell? ⟨b, 0, none⟩ = some (.int .i64 k)) :
    Calls Tryz.prog 153 #[.string s, .func (.func 100) #[] #[.pointer (some ⟨b, 0, none⟩)], .bool true] w (RetIdx (!overB k s.data.toList) w) := by
  have hcb : b < w.heap.size := World.block_lt_of_cell? _ _ hc
  have HC := hid hc
  clear hc
  go_enter Tryz.func153, Tryz.ntmps153
  go_wp2
  go_loopg [] s.size (fun gf wx => ∃ pos : Nat, wx.heap[w.heap.size]? = some (.stringIter s pos) ∧ Below w.heap.size w wx ∧ Hid (overB k s.data.toList = overB k (s.data.toList.drop pos)) ∧ s.size ≤ pos + gf)
  case atStart => exact ⟨0, World.iter_heap w s 0, (Below.refl _ w).alloc (Nat.le_refl _) _, rfl, by omega⟩
  case round =>
    obtain ⟨pos, hit, hbw, HL, hfu⟩ := hrel
    by_cases hps : pos < s.size
    · obtain ⟨g', rfl⟩ : ∃ g', gk = g' + 1 := ⟨gk - 1, by omega⟩
      have hnx : ∀ ty, (Instr.next (.pointer (some ⟨w.heap.size, 0, none⟩)) true ty).run Tryz.prog wr = _ := fun ty => Lib.run_next_any_at wr w.heap.size s pos ty hit hps
      have H2 := hid (bytes_drop s pos hps)
      have hle := decode_le s pos
      by_cases ha : s[pos].toNat < 128
      · have hde := decode_ascii s pos hps ha
        rw [hde] at hnx hle
        have hit2 := Lib.iterAt_heap wr w.heap.size s pos (pos + 1) hit
        have hbw2 := Lib.below_iterAt hbw (k := w.heap.size) (Nat.le_refl _) s (pos + 1)
        obtain ⟨W, hWd⟩ : ∃ W, wr.iterAt w.heap.size s (pos + 1) = W := ⟨_, rfl⟩
        obtain ⟨R, hR⟩ : ∃ R, s[pos].toNat = R := ⟨_, rfl⟩
        simp only [hR] at hnx hle
        rw [hWd] at hnx hit2 hbw2
        have hcW : W.cell? ⟨b, 0, none⟩ = some (.int .i64 k) := (hbw2.cell (p := ⟨b, 0, none⟩) hcb).trans HC.out
        have cS := hid (isOver1_any R k b W hle (by omega) hcW)
        clear hcW hde hWd
        by_cases hok : 97 ≤ R ∧ R < 97 + k
        · have hfin : overB k s.data.toList = overB k (s.data.toList.drop (pos + 1)) := by rw [HL.out, H2.out, overB_ok _ _ _ (by omega)]
          have HF := hid hfin
          have hv : (!(decide (97 ≤ R) && decide (R < 97 + k))) = false := by simp; omega
          rw [hv] at cS
          clear hfin hR
          go_wp2_with (go_at_call 100; refine cS.out.mono ?_; rintro e W' ⟨rfl, rfl⟩)
          go_roundg g'
          case measure => omega
          case rel => exact ⟨pos + 1, hit2, hbw2, HF, by omega⟩
        · have hfin : overB k s.data.toList = false := by rw [HL.out, H2.out, overB_bad _ _ _ (by omega)]
          have HF := hid hfin
          have hv : (!(decide (97 ≤ R) && decide (R < 97 + k))) = true := by simp; omega
          rw [hv] at cS
          clear hfin hR
          go_wp2_with (go_at_call 100; refine cS.out.mono ?_; rintro e W' ⟨rfl, rfl⟩)
          go_ret
          exact ⟨pos, rfl, by rw [HF.out]; simp, hbw2⟩
      · have hde := (decode_high s pos hps (by omega)).1
        have hit2 := Lib.iterAt_heap wr w.heap.size s pos (pos + (Utf8.decode s pos).2) hit
        have hbw2 := Lib.below_iterAt hbw (k := w.heap.size) (Nat.le_refl _) s (pos + (Utf8.decode s pos).2)
        obtain ⟨W, hWd⟩ : ∃ W, wr.iterAt w.heap.size s (pos + (Utf8.decode s pos).2) = W := ⟨_, rfl⟩
        rw [hWd] at hnx hit2 hbw2
        obtain ⟨R, hR⟩ : ∃ R, (Utf8.decode s pos).1 = R := ⟨_, rfl⟩
        rw [hR] at hnx hle hde
        have hcW : W.cell? ⟨b, 0, none⟩ = some (.int .i64 k) := (hbw2.cell (p := ⟨b, 0, none⟩) hcb).trans HC.out
        have cS := hid (isOver1_any R k b W hle (by omega) hcW)
        have hfin : overB k s.data.toList = false := by rw [HL.out, H2.out, overB_bad _ _ _ (by omega)]
        have HF := hid hfin
        have hv : (!(decide (97 ≤ R) && decide (R < 97 + k))) = true := by simp; omega
        rw [hv] at cS
        clear hfin hR hcW hWd
        go_wp2_with (go_at_call 100; refine cS.out.mono ?_; rintro e W' ⟨rfl, rfl⟩)
        go_ret
        exact ⟨pos, rfl, by rw [HF.out]; simp, hbw2⟩
    · have hnx : ∀ ty, (Instr.next (.pointer (some ⟨w.heap.size, 0, none⟩)) true ty).run Tryz.prog wr = _ := fun ty => Lib.run_next_end_at wr w.heap.size s pos ty hit hps
      have hfin : overB k s.data.toList = true := by rw [HL.out, bytes_drop_end s pos (by omega)]; rfl
      have HF := hid hfin
      clear hfin
      go_wp2
      go_ret
      exact ⟨-1, rfl, by rw [HF.out]; rfl, hbw⟩
set_option maxHeartbeats 400000 in
theorem isOver_any (s : ByteArray) (k : Nat) (w : World) (hk : k ≤ 30) :
    Calls Tryz.prog 65 #[.string s, .int .i64 k] w fun e w' => e = .returned (.bool (overB k s.data.toList)) ∧ Below w.heap.size w w' := by
  have HI := hid (indexFunc_any s k w.heap.size (w.alloc (.cells #[.int .i64 k] 3)) hk ((Blk.new w _ 3).cell 0))
  have HJ : Hid (Calls Tryz.prog 135 #[.string s, .func (.func 100) #[] #[.pointer (some ⟨w.heap.size, 0, none⟩)]] (w.alloc (.cells #[.int .i64 k] 3)) (RetIdx (!overB k s.data.toList) (w.alloc (.cells #[.int .i64 k] 3)))) := by
    show Calls _ _ _ _ _
    go_enter Tryz.func135, Tryz.ntmps135
    go_wp2_with (go_at_call 153; refine HI.out.mono ?_; rintro e w1 ⟨r, rfl, hr, hb⟩; have HR := hid hr; clear hr)
    go_ret
    exact ⟨r, rfl, HR.out, hb⟩
  clear HI
  have HK : Hid (Calls Tryz.prog 99 #[.string s, .func (.func 100) #[] #[.pointer (some ⟨w.heap.size, 0, none⟩)]] (w.alloc (.cells #[.int .i64 k] 3)) (fun e w' => e = .returned (.bool (!overB k s.data.toList)) ∧ Below (w.alloc (.cells #[.int .i64 k] 3)).heap.size (w.alloc (.cells #[.int .i64 k] 3)) w')) := by
    show Calls _ _ _ _ _
    go_enter Tryz.func99, Tryz.ntmps99
    go_wp2_with (go_at_call 135; refine HJ.out.mono ?_; rintro e w1 ⟨r, rfl, hr, hb⟩; have HR := hid hr; clear hr)
    go_ret
    exact ⟨ret_bool HR.out, hb⟩
  clear HJ
  go_enter Tryz.func65, Tryz.ntmps65
  go_wp2_with (go_at_call 99; refine HK.out.mono ?_; rintro e w1 ⟨rfl, hb⟩)
  go_ret
  refine ⟨ret_bool (by simp), ?_⟩
  exact ((Below.refl _ w).alloc (Nat.le_refl _) _).trans (hb.mono (by simp))
set_option maxHeartbeats 400000 in
theorem isWord_any (s : ByteArray) (w : World) :
    Calls Tryz.prog 36 #[.string s] w fun e w' => e = .returned (.bool (wordB s.data.toList)) ∧ Below w.heap.size w w' := by
  have hfin : wordB s.data.toList = (decide (s.size ≤ 120) && overB 4 s.data.toList) := rfl
  have HF := hid hfin
  clear hfin
  have HC := hid (isOver_any s 4 w (by omega))
  by_cases hl : s.size ≤ 120
  · have hd : decide ((s.size : Int) ≤ 120) = true := by simp; omega
    go_enter Tryz.func36, Tryz.ntmps36
    go_wp2_with (go_at_call 65; refine HC.out.mono ?_; rintro e w1 ⟨rfl, hb⟩)
    go_ret
    exact ⟨ret_bool (by rw [HF.out]; simp [hl]), hb⟩
  · have hd : decide ((s.size : Int) ≤ 120) = false := by simp; omega
    go_enter Tryz.func36, Tryz.ntmps36
    go_wp2_with fail
    go_ret
    exact ⟨ret_bool (by rw [HF.out]; simp [hl]), Below.refl _ _⟩
theorem ext_eq (s : ByteArray) (a b c d : Nat) (h : (s.data.toList.drop a).take (b - a) = (s.data.toList.drop c).take (d - c)) : s.extract a b = s.extract c d := by
  rw [mkS_eq (s.extract a b) _ (data_extract s a b), mkS_eq (s.extract c d) _ (data_extract s c d), h]
theorem ext_ne (s : ByteArray) (a b c d : Nat) (h : (s.data.toList.drop a).take (b - a) ≠ (s.data.toList.drop c).take (d - c)) : ((s.extract a b).toList == (s.extract c d).toList) = false := by
  rw [Lib.extract_toList, Lib.extract_toList]
  exact beq_eq_false_iff_ne.2 h
theorem sqI_yes (d : List UInt8) (p : Nat) (h : 2 * p ≤ d.length) (he : d.take p = (d.drop p).take p) : sqI d p = some p := by
  rw [sqI, if_pos h, if_pos he]
theorem sqI_no (d : List UInt8) (p : Nat) (h : 2 * p ≤ d.length) (he : d.take p ≠ (d.drop p).take p) : sqI d p = sqI d (p + 1) := by
  rw [sqI, if_pos h, if_neg he]
theorem sqI_end (d : List UInt8) (p : Nat) (h : d.length < 2 * p) : sqI d p = none := by
  rw [sqI, if_neg (by omega)]
theorem sqO_some (d : List UInt8) (i p : Nat) (h : sqI d 1 = some p) : sqO d i = some (i, p) := by
  cases d with
  | nil => rw [sqI_end _ _ (by simp)] at h; cases h
  | cons c d => rw [sqO, h]
theorem sqO_none (l : List UInt8) (i : Nat) (hi : i < l.length) (h : sqI (l.drop i) 1 = none) : sqO (l.drop i) i = sqO (l.drop (i + 1)) (i + 1) := by
  rw [List.drop_eq_getElem_cons hi] at h ⊢
  rw [sqO, h]
/-- What 'square' returns. -/
def at0 (o : Option (Nat × Nat)) : Int := (o.map fun x => (x.1 : Int)).getD 0
def at1 (o : Option (Nat × Nat)) : Int := (o.map fun x => (x.2 : Int)).getD 0
set_option maxHeartbeats 1000000 in
theorem square_any (s : ByteArray) (w : World) (hs : s.size ≤ 1000000) :
    Calls Tryz.prog 49 #[.string s] w fun e w' => e = .returned (.tuple #[.int .i64 (at0 (sq s.data.toList)), .int .i64 (at1 (sq s.data.toList))]) ∧ Below w.heap.size w w' := by
  go_enter Tryz.func49, Tryz.ntmps49
  go_wp2
  go_loopw [8] (fun i wr => ∃ k : Nat, k ≤ s.size ∧ i = .int .i64 k ∧ Below w.heap.size w wr ∧ Hid (sq s.data.toList = sqO (s.data.toList.drop k) k)) (fun i _ => s.size - (intOf i).toNat)
  case atStart => exact ⟨0, Nat.zero_le _, rfl, Below.refl _ _, rfl⟩
  case round =>
    obtain ⟨k, hk, rfl, hb, H⟩ := hrel
    by_cases hlt : k < s.size
    · go_wp2_with fail
      go_loopw [5] (fun i wx => ∃ p : Nat, p ≤ s.size + 1 ∧ 1 ≤ p ∧ i = .int .i64 p ∧ Below w.heap.size w wx ∧ Hid (sqI (s.data.toList.drop k) 1 = sqI (s.data.toList.drop k) p)) (fun i _ => s.size + 1 - (intOf i).toNat)
      case atStart => exact ⟨1, by omega, by omega, rfl, hb, rfl⟩
      case round =>
        obtain ⟨p, hp, hp1, rfl, hb2, H2⟩ := hrel
        by_cases hle : k + 2 * p ≤ s.size
        · by_cases he : (s.data.toList.drop k).take p = ((s.data.toList.drop k).drop p).take p
          · have hfin : sq s.data.toList = some (k, p) := by
              rw [H.out, sqO_some _ _ p]; rw [H2.out, sqI_yes _ _ (by rw [List.length_drop, bytes_len]; omega) he]
            have HF := hid hfin
            have hx : s.extract k (k + p) = s.extract (k + p) (k + 2 * p) := ext_eq _ _ _ _ _ (by rw [List.drop_drop] at he; rw [show k + p - k = p by omega, show k + 2 * p - (k + p) = p by omega]; exact he)
            clear hfin he
            go_wp2
            go_quiet (fail)
            go_wp2
            go_ret2
            exact ⟨by rw [HF.out]; rfl, below_drewN hb2 _⟩
          · have hfin : sqI (s.data.toList.drop k) 1 = sqI (s.data.toList.drop k) (p + 1) := by
              rw [H2.out, sqI_no _ _ (by rw [List.length_drop, bytes_len]; omega) he]
            have HF := hid hfin
            have hx : ((s.extract k (k + p)).toList == (s.extract (k + p) (k + 2 * p)).toList) = false := ext_ne _ _ _ _ _ (by rw [List.drop_drop] at he; rw [show k + p - k = p by omega, show k + 2 * p - (k + p) = p by omega]; exact he)
            clear hfin he
            go_wp2
            go_quiet (fail)
            go_wp2
            exact ⟨⟨p + 1, by omega, by omega, by go_num, below_drewN hb2 _, HF⟩, by simp [intOf]; omega⟩
        · have hfin : sq s.data.toList = sqO (s.data.toList.drop (k + 1)) (k + 1) := by
            rw [H.out, sqO_none _ _ (by rw [bytes_len]; exact hlt)]
            rw [H2.out, sqI_end _ _ (by rw [List.length_drop, bytes_len]; omega)]
          have HF := hid hfin
          clear hfin
          go_wp2
          exact ⟨⟨k + 1, by omega, by go_num, hb2, HF⟩, by simp [intOf]; omega⟩
    · have hfin : sq s.data.toList = none := by rw [H.out, List.drop_eq_nil_of_le (by rw [bytes_len]; omega)]; rfl
      have HF := hid hfin
      clear hfin
      go_wp2
      go_ret2
      exact ⟨by rw [HF.out]; rfl, hb⟩
def RetSq (l : List UInt8) (w : World) (e : Ending) (w' : World) : Prop :=
  e = .returned (if wordB l then (if freeB l then .tuple #[.int .i64 0, .int .i64 0, .int .i64 6] else .tuple #[.int .i64 (at0 (sq l)), .int .i64 (at1 (sq l)), .int .i64 0]) else .tuple #[.int .i64 0, .int .i64 0, .int .i64 2]) ∧ Below w.heap.size w w'
theorem sqI_pos (d : List UInt8) (p q : Nat) (hp : 1 ≤ p) (h : sqI d p = some q) : p ≤ q ∧ 2 * q ≤ d.length ∧ d.take q = (d.drop q).take q := by
  generalize hn : d.length + 1 - p = n
  induction n generalizing p with
  | zero => rw [sqI_end _ _ (by omega)] at h; cases h
  | succ n ih =>
    by_cases h2 : 2 * p ≤ d.length
    · by_cases he : d.take p = (d.drop p).take p
      · rw [sqI_yes _ _ h2 he] at h; cases h; exact ⟨Nat.le_refl _, h2, he⟩
      · rw [sqI_no _ _ h2 he] at h
        have := ih (p + 1) (by omega) h (by omega)
        exact ⟨by omega, this.2⟩
    · rw [sqI_end _ _ (by omega)] at h; cases h
theorem sqO_pos (l : List UInt8) (i : Nat) (x : Nat × Nat) (h : sqO l i = some x) : 1 ≤ x.2 := by
  induction l generalizing i with
  | nil => cases h
  | cons c d ih =>
    rw [sqO] at h
    cases hq : sqI (c :: d) 1 with
    | none => rw [hq] at h; exact ih _ h
    | some p => rw [hq] at h; cases h; exact (sqI_pos _ _ _ (by omega) hq).1
theorem at1_free (l : List UInt8) : (at1 (sq l) = 0) ↔ freeB l = true := by
  unfold freeB at1
  cases h : sq l with
  | none => simp
  | some x => have := sqO_pos _ _ _ h; simp; omega
set_option maxHeartbeats 400000 in
theorem Square_any (s : ByteArray) (w : World) (hs : s.size ≤ 1000000) :
    Calls Tryz.prog 21 #[.string s] w (RetSq s.data.toList w) := by
  have HW := hid (isWord_any s w)
  have HS := hid (fun W => square_any s W hs)
  have H1 := hid (at1_free s.data.toList)
  by_cases hw : wordB s.data.toList = true
  · rw [hw] at HW
    by_cases hf : freeB s.data.toList = true
    · have hfin : RetSq s.data.toList w = fun e w' => e = .returned (.tuple #[.int .i64 0, .int .i64 0, .int .i64 6]) ∧ Below w.heap.size w w' := by unfold RetSq; rw [if_pos hw, if_pos hf]
      rw [hfin]
      have h0 := H1.out.2 hf
      clear hfin hf hw H1
      go_enter Tryz.func21, Tryz.ntmps21
      go_wp2_with fail
      refine HW.out.mono ?_
      rintro e w1 ⟨rfl, hb⟩
      go_wp2_with fail
      refine (HS.out w1).mono ?_
      rintro e w2 ⟨rfl, hb2⟩
      go_wp2_with fail
      refine bodyPost_ret (results_tmp3 rfl _ _ _) rfl ?_
      exact ⟨rfl, hb.trans (hb2.mono hb.size)⟩
    · have hfin : RetSq s.data.toList w = fun e w' => e = .returned (.tuple #[.int .i64 (at0 (sq s.data.toList)), .int .i64 (at1 (sq s.data.toList)), .int .i64 0]) ∧ Below w.heap.size w w' := by unfold RetSq; rw [if_pos hw, if_neg hf]
      rw [hfin]
      have h0 : ¬ at1 (sq s.data.toList) = 0 := fun h => hf (H1.out.1 h)
      have h0' : (at1 (sq s.data.toList) == 0) = false := beq_eq_false_iff_ne.2 h0
      clear hfin hf hw H1
      go_enter Tryz.func21, Tryz.ntmps21
      go_wp2_with fail
      refine HW.out.mono ?_
      rintro e w1 ⟨rfl, hb⟩
      go_wp2_with fail
      refine (HS.out w1).mono ?_
      rintro e w2 ⟨rfl, hb2⟩
      go_wp2_with fail
      refine bodyPost_ret (results_tmp3 rfl _ _ _) rfl ?_
      exact ⟨rfl, hb.trans (hb2.mono hb.size)⟩
  · have hw' : wordB s.data.toList = false := by simpa using hw
    rw [hw'] at HW
    have hfin : RetSq s.data.toList w = fun e w' => e = .returned (.tuple #[.int .i64 0, .int .i64 0, .int .i64 2]) ∧ Below w.heap.size w w' := by unfold RetSq; rw [if_neg hw]
    rw [hfin]
    clear hfin hw hw' H1
    go_enter Tryz.func21, Tryz.ntmps21
    go_wp2_with fail
    refine HW.out.mono ?_
    rintro e w1 ⟨rfl, hb⟩
    go_wp2_with fail
    refine bodyPost_ret (results_tmp3 rfl _ _ _) rfl ?_
    exact ⟨rfl, hb⟩
theorem endsI_yes (l : List UInt8) (p : Nat) (h : 2 * p ≤ l.length) (he : l.drop (l.length - p) = (l.drop (l.length - 2 * p)).take p) : endsI l p = true := by
  rw [endsI, if_pos h, if_pos he]
theorem endsI_no (l : List UInt8) (p : Nat) (h : 2 * p ≤ l.length) (he : l.drop (l.length - p) ≠ (l.drop (l.length - 2 * p)).take p) : endsI l p = endsI l (p + 1) := by
  rw [endsI, if_pos h, if_neg he]
theorem endsI_end (l : List UInt8) (p : Nat) (h : l.length < 2 * p) : endsI l p = false := by
  rw [endsI, if_neg (by omega)]
set_option maxHeartbeats 1000000 in
theorem ends_any (s : ByteArray) (w : World) (hs : s.size ≤ 1000000) :
    Calls Tryz.prog 113 #[.string s] w fun e w' => e = .returned (.bool (endsB s.data.toList)) ∧ Below w.heap.size w w' := by
  go_enter Tryz.func113, Tryz.ntmps113
  go_wp2
  go_loopw [3] (fun i wx => ∃ p : Nat, p ≤ s.size + 1 ∧ 1 ≤ p ∧ i = .int .i64 p ∧ Below w.heap.size w wx ∧ Hid (endsB s.data.toList = endsI s.data.toList p)) (fun i _ => s.size + 1 - (intOf i).toNat)
  case atStart => exact ⟨1, by omega, by omega, rfl, Below.refl _ _, rfl⟩
  case round =>
    obtain ⟨p, hp, hp1, rfl, hb2, H2⟩ := hrel
    by_cases hle : 2 * p ≤ s.size
    · have hlen : ((s.data.toList.drop (s.size - p)).take (s.size - (s.size - p))) = s.data.toList.drop (s.size - p) := List.take_of_length_le (by rw [List.length_drop, bytes_len]; omega)
      by_cases he : s.data.toList.drop (s.data.toList.length - p) = (s.data.toList.drop (s.data.toList.length - 2 * p)).take p
      · have hfin : endsB s.data.toList = true := by
          rw [H2.out, endsI_yes _ _ (by rw [bytes_len]; omega) he]
        have HF := hid hfin
        have hx : s.extract (s.size - p) s.size = s.extract (s.size - 2 * p) (s.size - p) := ext_eq _ _ _ _ _ (by rw [hlen, show s.size - p - (s.size - 2 * p) = p by omega]; exact he)
        clear hfin he hlen
        go_wp2
        go_quiet (fail)
        go_wp2
        go_ret
        exact ⟨ret_bool HF.out.symm, below_drewN hb2 _⟩
      · have hfin : endsB s.data.toList = endsI s.data.toList (p + 1) := by
          rw [H2.out, endsI_no _ _ (by rw [bytes_len]; omega) he]
        have HF := hid hfin
        have hx : ((s.extract (s.size - p) s.size).toList == (s.extract (s.size - 2 * p) (s.size - p)).toList) = false := ext_ne _ _ _ _ _ (by rw [hlen, show s.size - p - (s.size - 2 * p) = p by omega]; exact he)
        clear hfin he hlen
        go_wp2
        go_quiet (fail)
        go_wp2
        exact ⟨⟨p + 1, by omega, by omega, by go_num, below_drewN hb2 _, HF⟩, by simp [intOf]; omega⟩
    · have hfin : endsB s.data.toList = false := by
        rw [H2.out, endsI_end _ _ (by rw [bytes_len]; omega)]
      have HF := hid hfin
      clear hfin
      go_wp2
      go_ret
      exact ⟨ret_bool HF.out.symm, hb2⟩

end Go.Proofs.YtkmpdcckgibkhaaGreat.Mk
