/- Plain laws: where the words stand. -/
import Derived.Test.YtjkhbcacpfaagaaDoorPe
set_option linter.unusedSimpArgs false
set_option linter.unusedVariables false
namespace Go.Proofs.YtjkhbcacpfaagaaDoor.TW

theorem cut_pos : ∀ (l : List UInt8) (j : Int) (m : Nat), m ≤ l.length → ∀ x ∈ (cut l j m).1, j ≤ x.pos ∧ x.pos < j + l.length
  | [], j, m, _, x, hx => by cases m <;> simp [cut] at hx
  | _ :: r, j, m + 1, h, x, hx => by
    rw [cut] at hx
    have := cut_pos r (j + 1) m (by simp at h; omega) x hx
    simp only [List.length_cons]; omega
  | c :: r, j, 0, h, x, hx => by
    rw [cut] at hx
    simp only [List.length_cons]
    cases hs : step (c :: r) with
    | skip n =>
      rw [hs] at hx
      have hn := step_skip c r n hs
      have := cut_pos r (j + 1) (n - 1) (by omega) x hx
      omega
    | err code off => rw [hs] at hx; simp at hx
    | word k t n len =>
      rw [hs] at hx
      have hw := step_word c r k t n len hs
      have hin : x = ⟨k, t, n, j⟩ ∨ x ∈ (cut r (j + 1) (len - 1)).1 := by
        simp only [wapp] at hx
        split at hx
        · simpa using hx
        · exact .inr hx
      rcases hin with rfl | hin
      · simp only; omega
      · have := cut_pos r (j + 1) (len - 1) (by have := hw.len2; omega) x hin
        omega
theorem Cut_pos (l : List UInt8) : ∀ x ∈ (Cut l).1, 0 ≤ x.pos ∧ x.pos < l.length := by
  intro x hx
  unfold Cut at hx
  split at hx
  · simp at hx
  · have := cut_pos l 0 0 (by omega) x hx
    omega
end Go.Proofs.YtjkhbcacpfaagaaDoor.TW
