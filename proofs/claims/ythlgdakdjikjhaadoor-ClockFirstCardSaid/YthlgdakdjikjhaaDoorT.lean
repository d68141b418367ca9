/-
  Walks: the reference's words and images.
-/
import Derived.Test.YthlgdakdjikjhaaDoorImg
import Derived.Test.YthlgdakdjikjhaaDoorD
namespace Go.Proofs.YthlgdakdjikjhaaDoor
open Go.RowKit Go.ChangeMaps
attribute [local go_sem] Oper.semAt_some

/-- A word of a machine with n buttons. -/
def wordB (n : Nat) (l : List UInt8) : Bool := l.all (letB n) && decide (l.length ≤ 1000)

set_option maxHeartbeats 1000000 in
theorem refWord_any (a : Option Addr) (n c : Nat) (s : ByteArray) (w : World) (hs : s.size ≤ maxLen) (_hn : n ≤ 1000) :
    Calls Tryd.prog 27 #[.slice a n c, .string s] w fun e w' => e = .returned (.bool (wordB n s.data.toList)) ∧ w = w' := by
  have hmx : maxLen ≤ 9223372036854775807 := by decide
  have HF0 := hid (show wordB n s.data.toList = ((s.data.toList.drop 0).all (letB n) && decide (s.size ≤ 1000)) by rw [List.drop_zero]; rfl)
  go_enter Tryd.func27, Tryd.ntmps27
  go_wp2_with fail
  go_loop [5] (fun iv => ∃ i : Nat, i ≤ s.size ∧ iv = .int .i64 i ∧ Hid (wordB n s.data.toList = ((s.data.toList.drop i).all (letB n) && decide (s.size ≤ 1000)))) (fun iv => s.size - (intOf iv).toNat)
  case atStart => exact ⟨0, by omega, rfl, HF0⟩
  case round =>
    obtain ⟨i, hi, rfl, H⟩ := hrel
    by_cases hlt : i < s.size
    · have hd := bytes_drop s i hlt
      have HD := hid hd
      have hc := s[i].toNat_lt
      clear hd
      obtain ⟨ch, hch⟩ : ∃ ch, ch = s[i] := ⟨_, rfl⟩
      rw [← hch] at HD hc
      have HCH := hid hch
      have hcn : ((s[i].toNat : Nat) : Int) = (ch.toNat : Int) := by rw [hch]
      clear hch
      by_cases h1 : ch.toNat < 97
      · have hfin : wordB n s.data.toList = false := by
          rw [H.out, HD.out, List.all_cons, show letB n ch = false by simp [letB]; omega]; simp
        have HF := hid hfin
        clear hfin
        go_wp2_with fail
        go_ret
        exact ⟨ret_bool HF.out.symm, rfl⟩
      · have e1 : IntKind.u8.wrap ((ch.toNat : Int) - 97) = ((ch.toNat - 97 : Nat) : Int) := by rw [IntWalk.u8_in _ (by omega)]; omega
        obtain ⟨d, hd⟩ : ∃ d, d = ch.toNat - 97 := ⟨_, rfl⟩
        rw [← hd] at e1
        have HDD := hid hd
        have hd2 : d < 256 := by omega
        clear hd
        by_cases h2 : d < n
        · have hfin : wordB n s.data.toList = ((s.data.toList.drop (i + 1)).all (letB n) && decide (s.size ≤ 1000)) := by
            rw [H.out, HD.out, List.all_cons, show letB n ch = true by simp [letB]; have := HDD.out; omega]; simp
          have HF := hid hfin
          clear hfin
          go_wp2_with fail
          exact ⟨⟨i + 1, by omega, by go_num, HF⟩, by simp [intOf]; omega⟩
        · have hfin : wordB n s.data.toList = false := by
            rw [H.out, HD.out, List.all_cons, show letB n ch = false by simp [letB]; have := HDD.out; omega]; simp
          have HF := hid hfin
          clear hfin
          go_wp2_with fail
          go_ret
          exact ⟨ret_bool HF.out.symm, rfl⟩
    · have hfin : wordB n s.data.toList = decide (s.size ≤ 1000) := by
        rw [H.out, bytes_drop_end s i (by omega)]; simp
      have HF := hid hfin
      clear hfin
      go_wp2_with fail
      go_ret
      exact ⟨ret_bool (by rw [HF.out]; exact decide_eq_decide.2 (by omega)), rfl⟩

set_option maxHeartbeats 1000000 in
theorem refImage_any (a : Option Addr) (c : Nat) (M : List (List Nat)) (x : Nat) (s : ByteArray) (w : World) (hM : OkM M) (hr : RowsAt w a (intM M)) (hx : x < 512) (hs : s.size ≤ maxLen) (hl : s.data.toList.all (letB M.length) = true) :
    Calls Tryd.prog 29 #[.slice a M.length c, .int .i64 x, .string s] w fun e w' => e = .returned (.int .i64 (imgW M x s.data.toList)) ∧ w = w' := by
  have hmx : maxLen ≤ 9223372036854775807 := by decide
  have C := hid (fun (y b : Nat) (hy : y < 512) (hb : b < M.length) => refPress_any a c M y b w hM hr hy hb)
  have HP := hid (fun (y b : Nat) => lt512 hM (press_lt hM y b))
  have HL := hid hl
  have hm4 := hM.b4
  clear hM hr hl
  go_enter Tryd.func29, Tryd.ntmps29
  go_wp2_with fail
  go_loop [1, 7] (fun sv iv => ∃ i y : Nat, i ≤ s.size ∧ iv = .int .i64 i ∧ sv = .int .i64 y ∧ y < 512 ∧ Hid (imgW M x s.data.toList = imgW M y (s.data.toList.drop i))) (fun _ iv => s.size - (intOf iv).toNat)
  case atStart => exact ⟨0, x, by omega, rfl, rfl, hx, by rw [Hid, List.drop_zero]⟩
  case round =>
    obtain ⟨i, y, hi, rfl, rfl, hy, H⟩ := hrel
    by_cases hlt : i < s.size
    · have hd := bytes_drop s i hlt
      have hall := (letB_iff _ _).1 (List.all_eq_true.1 HL.out s[i] (byte_mem s i hlt))
      have HD := hid hd
      clear hd
      obtain ⟨ch, hch⟩ : ∃ ch, ch = s[i] := ⟨_, rfl⟩
      rw [← hch] at HD hall
      have hcn : ((s[i].toNat : Nat) : Int) = (ch.toNat : Int) := by rw [hch]
      have HCH := hid hch
      clear hch
      have e1 : IntKind.u8.wrap ((ch.toNat : Int) - 97) = ((ch.toNat - 97 : Nat) : Int) := by rw [IntWalk.u8_in _ (by omega)]; omega
      have hfin : imgW M x s.data.toList = imgW M (press M y (ch.toNat - 97)) (s.data.toList.drop (i + 1)) := by
        rw [H.out, HD.out, imgW_cons]
      obtain ⟨d, hdd⟩ : ∃ d, d = ch.toNat - 97 := ⟨_, rfl⟩
      rw [← hdd] at e1 hfin
      have hd4 : d < M.length := by omega
      have CC := hid (C.out y d hy hd4)
      have hz5 := HP.out y d
      obtain ⟨z, hz⟩ : ∃ z, z = press M y d := ⟨_, rfl⟩
      rw [← hz] at CC hfin hz5
      have HF := hid hfin
      clear hfin hdd hz
      go_wp2_with fail
      refine CC.out.mono ?_
      rintro e w1 ⟨rfl, rfl⟩
      go_wp2_with fail
      exact ⟨⟨i + 1, z, by omega, by go_num, rfl, hz5, HF⟩, by simp [intOf]; omega⟩
    · have hfin : imgW M x s.data.toList = y := by
        rw [H.out, bytes_drop_end s i (by omega)]; rfl
      have HF := hid hfin
      clear hfin
      go_wp2_with fail
      go_ret
      exact ⟨ret_int (by rw [HF.out]), rfl⟩
end Go.Proofs.YthlgdakdjikjhaaDoor
