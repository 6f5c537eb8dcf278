/- json's parser: digits. -/
import Derived.Test.YtdhdeaknflekpaaDoorWb
set_option linter.unusedSimpArgs false
set_option linter.unusedVariables false
namespace Go.Proofs.YtdhdeaknflekpaaDoor
open Go.RowKit

def TJ.dig (l : List UInt8) : List UInt8 := l.dropWhile TJ.sDigit.contains
set_option maxRecDepth 100000 in
set_option maxHeartbeats 1000000 in
theorem digits_calls (w : World) (pb : Nat) (s : ByteArray) (at_ : Nat) (out : Value) (d c : Int) (h : Par w pb s at_ out d c) (hs : s.size ≤ 140737488355328) (ha : at_ ≤ s.size) :
    Calls Tryd.prog 45 #[.pointer (some ⟨pb, 0, none⟩)] w fun e w' => e = .returned (.bool (TJ.digits ((bl s).drop at_)).1) ∧ At pb s out d c w (TJ.digits ((bl s).drop at_)).2 w' := by
  have ht := Lib.hid (take_calls ⟨#[48, 49, 50, 51, 52, 53, 54, 55, 56, 57]⟩ w pb s at_ out d c h hs ha)
  clear h
  by_cases hh : TJ.has TJ.sDigit ((bl s).drop at_) = true
  · have e1 : TJ.take (bl ⟨#[48, 49, 50, 51, 52, 53, 54, 55, 56, 57]⟩) ((bl s).drop at_) = (true, ((bl s).drop at_).tail) := by
      show TJ.take TJ.sDigit _ = _
      rw [TJ.take, if_pos hh]
    have e2 : TJ.digits ((bl s).drop at_) = (true, TJ.dig ((bl s).drop at_).tail) := by
      rw [TJ.digits, if_pos hh]; rfl
    rw [e1] at ht
    rw [e2]
    clear hh e1 e2
    generalize ((bl s).drop at_).tail = l1 at *
    go_enter Tryd.func45, Tryd.ntmps45
    go_wp2_with fail
    refine ht.out.mono ?_
    rintro e w1 ⟨rfl, a1, ha1, hd1, hP1, hB1⟩
    have HP := Lib.hid hP1
    clear hP1 ht
    go_wp2_with fail
    go_loopw [] (fun wr => ∃ k : Nat, k ≤ s.size ∧ TJ.dig ((bl s).drop k) = TJ.dig l1 ∧ Par wr pb s k out d c ∧ But pb w wr) (fun wr => left s pb wr)
    case atStart => exact ⟨a1, ha1, by rw [hd1], HP.out, hB1⟩
    case round =>
      obtain ⟨k, hk, hbl, hP, hB⟩ := hrel
      have hi := Lib.hid (is_calls ⟨#[48, 49, 50, 51, 52, 53, 54, 55, 56, 57]⟩ wr pb s k out d c hP hs hk)
      have HP1 := Lib.hid hP
      have HBL := Lib.hid hbl
      clear hP hbl
      by_cases hh : TJ.has TJ.sDigit ((bl s).drop k) = true
      · have hlt : k < s.size := by
          apply Decidable.byContradiction
          intro hn
          rw [bl_drop_end s k (by omega)] at hh
          cases hh
        have hnx : Hid (TJ.dig ((bl s).drop (k + 1)) = TJ.dig ((bl s).drop k)) := by
          show _ = _
          rw [bl_drop s k hlt] at hh ⊢
          rw [has_cons] at hh
          simp only [TJ.dig, List.dropWhile_cons, hh, if_true]
        rw [show TJ.has (bl ⟨#[48, 49, 50, 51, 52, 53, 54, 55, 56, 57]⟩) ((bl s).drop k) = true from hh] at hi
        clear hh
        go_wp2_with fail
        refine hi.out.mono ?_
        rintro e w1 ⟨rfl, n, rfl⟩
        obtain ⟨c0, c1, c2, c3, c4, fz⟩ := (HP1.out.draws n).cells
        have f1 := fz ⟨pb, 1, none⟩ rfl
        clear fz c0 c2 c3 c4
        have hl1 := (HP1.out).left
        have hP2 := (HP1.out.draws n).set1 (k + 1) ((k : Int) + 1) (by simp)
        have hl2 := hP2.left
        have HP2 := Lib.hid hP2
        clear hP2
        go_wp2_with fail
        go_roundw
        case rel => exact ⟨k + 1, hlt, hnx.out.trans HBL.out, HP2.out, (hB.draws n).set 1 _⟩
        case measure => rw [hl1, hl2]; omega
      · have hf : TJ.has TJ.sDigit ((bl s).drop k) = false := by simpa using hh
        have hst : TJ.dig ((bl s).drop k) = (bl s).drop k := by
          cases hq : (bl s).drop k with
          | nil => rfl
          | cons a b =>
            rw [hq, has_cons] at hf
            simp only [TJ.dig, List.dropWhile_cons, hf, Bool.false_eq_true, if_false]
        have HST := Lib.hid hst
        rw [show TJ.has (bl ⟨#[48, 49, 50, 51, 52, 53, 54, 55, 56, 57]⟩) ((bl s).drop k) = false from hf] at hi
        clear hh hf hst
        go_wp2_with fail
        refine hi.out.mono ?_
        rintro e w1 ⟨rfl, n, rfl⟩
        go_wp2_with fail
        go_ret
        exact ⟨rfl, k, hk, HST.out.symm.trans HBL.out, HP1.out.draws n, hB.draws n⟩
  · have hf : TJ.has TJ.sDigit ((bl s).drop at_) = false := by simpa using hh
    have e1 : TJ.take (bl ⟨#[48, 49, 50, 51, 52, 53, 54, 55, 56, 57]⟩) ((bl s).drop at_) = (false, (bl s).drop at_) := by
      show TJ.take TJ.sDigit _ = _
      rw [TJ.take, if_neg hh]
    have e2 : TJ.digits ((bl s).drop at_) = (false, (bl s).drop at_) := by
      rw [TJ.digits, if_neg hh]
    rw [e1] at ht
    rw [e2]
    clear hh e1 e2 hf
    go_enter Tryd.func45, Tryd.ntmps45
    go_wp2_with fail
    refine ht.out.mono ?_
    rintro e w1 ⟨rfl, hA⟩
    go_wp2_with fail
    go_ret
    exact ⟨rfl, hA⟩
end Go.Proofs.YtdhdeaknflekpaaDoor
