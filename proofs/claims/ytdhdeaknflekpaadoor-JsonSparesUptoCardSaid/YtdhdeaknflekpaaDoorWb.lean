/- json's parser: take, blanks, digits. -/
import Derived.Test.YtdhdeaknflekpaaDoorWa
set_option linter.unusedSimpArgs false
set_option linter.unusedVariables false
namespace Go.Proofs.YtdhdeaknflekpaaDoor
open Go.RowKit

/-- the parser stands where 'rest' is left -/
def At (pb : Nat) (s : ByteArray) (out : Value) (d c : Int) (w : World) (rest : List UInt8) (w' : World) : Prop :=
  ∃ at' : Nat, at' ≤ s.size ∧ (bl s).drop at' = rest ∧ Par w' pb s at' out d c ∧ But pb w w'
theorem ret_b2 {a b : Bool} {p : Prop} (h : a = b) (hp : p) : Ending.returned (.bool a) = Ending.returned (.bool b) ∧ p := ⟨by rw [h], hp⟩
set_option maxRecDepth 100000 in
set_option maxHeartbeats 1000000 in
theorem take_calls (set : ByteArray) (w : World) (pb : Nat) (s : ByteArray) (at_ : Nat) (out : Value) (d c : Int) (h : Par w pb s at_ out d c) (hs : s.size ≤ 140737488355328) (ha : at_ ≤ s.size) :
    Calls Tryd.prog 42 #[.pointer (some ⟨pb, 0, none⟩), .string set] w fun e w' => e = .returned (.bool (TJ.take (bl set) ((bl s).drop at_)).1) ∧ At pb s out d c w (TJ.take (bl set) ((bl s).drop at_)).2 w' := by
  have hi := Lib.hid (is_calls set w pb s at_ out d c h hs ha)
  have HP := Lib.hid h
  clear h
  by_cases hh : TJ.has (bl set) ((bl s).drop at_) = true
  · have hlt : at_ < s.size := by
      apply Decidable.byContradiction
      intro hn
      rw [bl_drop_end s at_ (by omega)] at hh
      cases hh
    have ht : TJ.take (bl set) ((bl s).drop at_) = (true, (bl s).drop (at_ + 1)) := by
      rw [TJ.take, if_pos hh, bl_drop s at_ hlt]; rfl
    rw [ht]
    rw [hh] at hi
    clear hh ht
    go_enter Tryd.func42, Tryd.ntmps42
    go_wp2_with fail
    refine hi.out.mono ?_
    rintro e w1 ⟨rfl, n, rfl⟩
    obtain ⟨c0, c1, c2, c3, c4, fz⟩ := (HP.out.draws n).cells
    have f1 := fz ⟨pb, 1, none⟩ rfl
    clear fz
    go_wp2_with fail
    go_ret
    exact ⟨rfl, at_ + 1, hlt, rfl, (HP.out.draws n).set1 (at_ + 1) _ (by simp), ((But.refl _ _).draws n).set 1 _⟩
  · have hf : TJ.has (bl set) ((bl s).drop at_) = false := by simpa using hh
    have ht : TJ.take (bl set) ((bl s).drop at_) = (false, (bl s).drop at_) := by
      rw [TJ.take, if_neg hh]
    rw [ht]
    rw [hf] at hi
    clear hh ht hf
    go_enter Tryd.func42, Tryd.ntmps42
    go_wp2_with fail
    refine hi.out.mono ?_
    rintro e w1 ⟨rfl, n, rfl⟩
    go_wp2_with fail
    go_ret
    exact ⟨rfl, at_, ha, rfl, HP.out.draws n, (But.refl _ _).draws n⟩
/-- how far the parser stands from the text's end -/
def left (s : ByteArray) (pb : Nat) (w : World) : Nat := s.size - (intOf ((w.cell? ⟨pb, 1, none⟩).getD undef)).toNat
theorem Par.left {w : World} {pb : Nat} {s : ByteArray} {at_ : Nat} {out : Value} {d c : Int} (h : Par w pb s at_ out d c) : left s pb w = s.size - at_ := by
  rw [YtdhdeaknflekpaaDoor.left, h.cells.2.1]
  simp [intOf]
theorem has_cons {s : List UInt8} {c : UInt8} {r : List UInt8} : TJ.has s (c :: r) = s.contains c := rfl
set_option maxRecDepth 100000 in
set_option maxHeartbeats 1000000 in
theorem blanks_calls (w : World) (pb : Nat) (s : ByteArray) (at_ : Nat) (out : Value) (d c : Int) (h : Par w pb s at_ out d c) (hs : s.size ≤ 140737488355328) (ha : at_ ≤ s.size) :
    Calls Tryd.prog 25 #[.pointer (some ⟨pb, 0, none⟩)] w fun e w' => e = .returned (.tuple #[]) ∧ At pb s out d c w (TJ.blanks ((bl s).drop at_)) w' := by
  have HP := Lib.hid h
  clear h
  go_enter Tryd.func25, Tryd.ntmps25
  go_wp2_with fail
  go_loopw [] (fun wr => ∃ k : Nat, k ≤ s.size ∧ TJ.blanks ((bl s).drop k) = TJ.blanks ((bl s).drop at_) ∧ Par wr pb s k out d c ∧ But pb w wr) (fun wr => left s pb wr)
  case atStart => exact ⟨at_, ha, rfl, HP.out, But.refl _ _⟩
  case round =>
    obtain ⟨k, hk, hbl, hP, hB⟩ := hrel
    have hi := Lib.hid (is_calls ⟨#[32, 9, 10, 13]⟩ wr pb s k out d c hP hs hk)
    have HP1 := Lib.hid hP
    have HBL := Lib.hid hbl
    clear hP hbl
    by_cases hh : TJ.has TJ.sBlank ((bl s).drop k) = true
    · have hlt : k < s.size := by
        apply Decidable.byContradiction
        intro hn
        rw [bl_drop_end s k (by omega)] at hh
        cases hh
      have hnx : Hid (TJ.blanks ((bl s).drop (k + 1)) = TJ.blanks ((bl s).drop k)) := by
        show _ = _
        rw [bl_drop s k hlt] at hh ⊢
        rw [has_cons] at hh
        simp only [TJ.blanks, List.dropWhile_cons, hh, if_true]
      rw [show TJ.has (bl ⟨#[32, 9, 10, 13]⟩) ((bl s).drop k) = true from hh] at hi
      clear hh
      go_wp2_with fail
      refine hi.out.mono ?_
      rintro e w1 ⟨rfl, n, rfl⟩
      obtain ⟨c0, c1, c2, c3, c4, fz⟩ := (HP1.out.draws n).cells
      have f1 := fz ⟨pb, 1, none⟩ rfl
      clear fz c0 c2 c3 c4
      have hl1 := (HP1.out).left
      have hP2 := (HP1.out.draws n).set1 (k + 1) ((k : Int) + 1) (by simp)
      have hl2 := hP2.left
      have HP2 := Lib.hid hP2
      clear hP2
      go_wp2_with fail
      go_roundw
      case rel => exact ⟨k + 1, hlt, hnx.out.trans HBL.out, HP2.out, (hB.draws n).set 1 _⟩
      case measure => rw [hl1, hl2]; omega
    · have hf : TJ.has TJ.sBlank ((bl s).drop k) = false := by simpa using hh
      have hst : TJ.blanks ((bl s).drop k) = (bl s).drop k := by
        cases hq : (bl s).drop k with
        | nil => rfl
        | cons a b =>
          rw [hq, has_cons] at hf
          simp only [TJ.blanks, List.dropWhile_cons, hf, Bool.false_eq_true, if_false]
      have HST := Lib.hid hst
      rw [show TJ.has (bl ⟨#[32, 9, 10, 13]⟩) ((bl s).drop k) = false from hf] at hi
      clear hh hf hst
      go_wp2_with fail
      refine hi.out.mono ?_
      rintro e w1 ⟨rfl, n, rfl⟩
      go_wp2_with fail
      go_end0
      exact ⟨rfl, k, hk, HST.out.symm.trans HBL.out, HP1.out.draws n, hB.draws n⟩
end Go.Proofs.YtdhdeaknflekpaaDoor
