/- Plain law of JsonFirm. -/
import Derived.Test.YtdhdeaknflekpaaDoorPf
namespace Go.Proofs.YtdhdeaknflekpaaDoor.TJ

theorem val0 {d : Nat} {key : List UInt8} : ∀ a r, value d key [] ≠ .ok a r := by
  intro a r h
  have := (value_bound d key [] a r h).2
  simp at this
theorem top_good : Good (fun l => value 64 [] (blanks l)) := Good.blanks (value_good 64 []) val0
theorem parse_eq (l : List UInt8) : parse l = match value 64 [] (blanks l) with
  | .no b l' => .no b l'
  | .ok v l' => if blanks l' = [] then .ok v [] else .no false (blanks l') := rfl
theorem parse_firm {l r : List UInt8} {d : Bool} (h : parse l = .no d r) (hr : r ≠ []) (t : List UInt8) : parse (l ++ t) = .no d (r ++ t) := by
  rw [parse_eq] at h ⊢
  cases hv : value 64 [] (blanks l) with
  | no b l' =>
    rw [hv] at h
    injection h with h1 h2
    subst h1 h2
    have := top_good.f1 (l := l) hv hr t
    rw [this]
  | ok v l' =>
    rw [hv] at h
    dsimp only at h
    split at h
    · cases h
    · rename_i hb
      injection h with h1 h2
      subst h1 h2
      have hl : l' ≠ [] := by rintro rfl; exact hb rfl
      have := top_good.s1 (l := l) hv hl t
      rw [this]
      dsimp only
      rw [blanks_app hb, if_neg (by simp [hb])]
theorem parse_deep {l r : List UInt8} (h : parse l = .no true r) : r ≠ [] := by
  rw [parse_eq] at h
  cases hv : value 64 [] (blanks l) with
  | no b l' =>
    rw [hv] at h
    injection h with h1 h2
    subst h1 h2
    exact top_good.d (l := l) hv
  | ok v l' =>
    rw [hv] at h
    dsimp only at h
    split at h <;> cases h
theorem parse_cut {x z : List UInt8} (h : ∀ d r, parse (x ++ z) = .no d r → r = []) : (∃ v, parse x = .ok v []) ∨ parse x = .no false [] := by
  cases hp : parse x with
  | ok v r =>
    left
    refine ⟨v, ?_⟩
    rw [parse_eq] at hp
    cases hv : value 64 [] (blanks x) with
    | no b l' => rw [hv] at hp; cases hp
    | ok u l' =>
      rw [hv] at hp
      dsimp only at hp
      split at hp
      · cases hp; rfl
      · cases hp
  | no d r =>
    right
    by_cases hr : r = []
    · subst hr
      cases d with
      | false => rfl
      | true => exact absurd rfl (parse_deep hp)
    · have := h d _ (parse_firm hp hr z)
      simp [hr] at this
end Go.Proofs.YtdhdeaknflekpaaDoor.TJ
