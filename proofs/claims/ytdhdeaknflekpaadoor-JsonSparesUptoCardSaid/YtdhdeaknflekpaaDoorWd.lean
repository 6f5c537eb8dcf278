/- json's parser: number. -/
import Derived.Test.YtdhdeaknflekpaaDoorWc
import Derived.Deep.DeepCutAuto
set_option linter.unusedSimpArgs false
set_option linter.unusedVariables false
namespace Go.Proofs.YtdhdeaknflekpaaDoor
open Go.RowKit

/-- 'is', from a place where 'rest' is left -/
theorem is_at (set : ByteArray) (l : List UInt8) (hl : bl set = l) {pb : Nat} {s : ByteArray} {out : Value} {d c : Int} {w w1 : World} {rest : List UInt8} (h : At pb s out d c w rest w1) (hs : s.size ≤ 140737488355328) :
    Calls Tryd.prog 32 #[.pointer (some ⟨pb, 0, none⟩), .string set] w1 fun e w' => e = .returned (.bool (TJ.has l rest)) ∧ ∃ n, w' = w1.drewN n := by
  subst hl
  obtain ⟨k, hk, rfl, hP, hB⟩ := h
  exact is_calls set w1 pb s k out d c hP hs hk
theorem At.draws {pb : Nat} {s : ByteArray} {out : Value} {d c : Int} {w w1 : World} {rest : List UInt8} (h : At pb s out d c w rest w1) (n : Nat) : At pb s out d c w rest (w1.drewN n) := by
  obtain ⟨k, hk, e, hP, hB⟩ := h
  exact ⟨k, hk, e, hP.draws n, hB.draws n⟩
/-- one byte on -/
theorem At.next {pb : Nat} {s : ByteArray} {out : Value} {d c : Int} {w w1 : World} {rest l : List UInt8} (h : At pb s out d c w rest w1) (hh : TJ.has l rest = true) :
    ∃ k : Nat, w1.cell? ⟨pb, 1, none⟩ = some (.int .i64 k) ∧ w1.frozen? ⟨pb, 1, none⟩ = false ∧ (k : Int) < (s.size : Int) ∧ At pb s out d c w rest.tail (w1.setCell ⟨pb, 1, none⟩ (.int .i64 ((k : Int) + 1))) := by
  obtain ⟨k, hk, rfl, hP, hB⟩ := h
  have hlt : k < s.size := by
    apply Decidable.byContradiction
    intro hn
    rw [bl_drop_end s k (by omega)] at hh
    cases hh
  obtain ⟨c0, c1, c2, c3, c4, fz⟩ := hP.cells
  refine ⟨k, c1, fz _ rfl, by omega, k + 1, hlt, ?_, hP.set1 (k + 1) _ (by simp), hB.set 1 _⟩
  rw [bl_drop s k hlt]
  rfl
theorem take_at (set : ByteArray) (l : List UInt8) (hl : bl set = l) {pb : Nat} {s : ByteArray} {out : Value} {d c : Int} {w w1 : World} {rest : List UInt8} (h : At pb s out d c w rest w1) (hs : s.size ≤ 140737488355328) :
    Calls Tryd.prog 42 #[.pointer (some ⟨pb, 0, none⟩), .string set] w1 fun e w' => e = .returned (.bool (TJ.take l rest).1) ∧ At pb s out d c w (TJ.take l rest).2 w' := by
  subst hl
  obtain ⟨k, hk, rfl, hP, hB⟩ := h
  refine (take_calls set w1 pb s k out d c hP hs hk).mono fun e w' ⟨h1, k', hk', e', hP', hB'⟩ => ⟨h1, k', hk', e', hP', hB.trans hB'⟩
theorem digits_at {pb : Nat} {s : ByteArray} {out : Value} {d c : Int} {w w1 : World} {rest : List UInt8} (h : At pb s out d c w rest w1) (hs : s.size ≤ 140737488355328) :
    Calls Tryd.prog 45 #[.pointer (some ⟨pb, 0, none⟩)] w1 fun e w' => e = .returned (.bool (TJ.digits rest).1) ∧ At pb s out d c w (TJ.digits rest).2 w' := by
  obtain ⟨k, hk, rfl, hP, hB⟩ := h
  refine (digits_calls w1 pb s k out d c hP hs hk).mono fun e w' ⟨h1, k', hk', e', hP', hB'⟩ => ⟨h1, k', hk', e', hP', hB.trans hB'⟩
theorem blanks_at {pb : Nat} {s : ByteArray} {out : Value} {d c : Int} {w w1 : World} {rest : List UInt8} (h : At pb s out d c w rest w1) (hs : s.size ≤ 140737488355328) :
    Calls Tryd.prog 25 #[.pointer (some ⟨pb, 0, none⟩)] w1 fun e w' => e = .returned (.tuple #[]) ∧ At pb s out d c w (TJ.blanks rest) w' := by
  obtain ⟨k, hk, rfl, hP, hB⟩ := h
  refine (blanks_calls w1 pb s k out d c hP hs hk).mono fun e w' ⟨h1, k', hk', e', hP', hB'⟩ => ⟨h1, k', hk', e', hP', hB.trans hB'⟩
end Go.Proofs.YtdhdeaknflekpaaDoor
