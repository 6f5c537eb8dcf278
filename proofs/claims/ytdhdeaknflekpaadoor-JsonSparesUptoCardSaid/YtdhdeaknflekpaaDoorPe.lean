/- Plain laws: values, lists, objects, texts are read alike whatever stands behind them. -/
import Derived.Test.YtdhdeaknflekpaaDoorPc
namespace Go.Proofs.YtdhdeaknflekpaaDoor.TJ

/-- too deep where a bracket stands -/
def deep0 {α : Type} (l : List UInt8) : R α := if has [91, 123] l then .no true l else .no false l
theorem deep0_good {α : Type} : Good (deep0 : List UInt8 → R α) where
  s := by intro l a r h; unfold deep0 at h; split at h <;> cases h
  s1 := by intro l a r h; unfold deep0 at h; split at h <;> cases h
  s2 := by intro l a h; unfold deep0 at h; split at h <;> cases h
  n := by intro l d r h; unfold deep0 at h; split at h <;> (cases h; exact ⟨[], rfl⟩)
  d := by
    intro l r h
    unfold deep0 at h
    split at h
    · cases h; exact has_ne ‹_›
    · cases h
  f1 := by
    intro l d r h hr t
    unfold deep0 at h ⊢
    split at h
    · cases h; rw [has_app hr, if_pos ‹_›]
    · cases h; rw [has_app hr, if_neg ‹_›]
  f2 := by
    intro l d h t ht
    unfold deep0 at h ⊢
    split at h
    · cases h; cases ‹has [91, 123] [] = true›
    · cases h
      refine ⟨t, ?_, Nat.le_refl _⟩
      rw [List.nil_append, if_neg (by rw [has_bk (by decide) ht.stop]; simp)]
/-- the key, if it is new -/
def fresh (keys : List (List UInt8)) (l : List UInt8) : R (List UInt8) :=
  match str l with
  | (none, l') => .no false l'
  | (some s, l') => if keys.contains s then .no false l else .ok s l'
theorem str_ofO {l l' : List UInt8} {o : Option (List UInt8)} (h : str l = (o, l')) : ofO (str l) = ofO (o, l') := by rw [h]
theorem fresh_strong (keys : List (List UInt8)) : Strong (fresh keys) where
  e := by
    intro l a r h
    unfold fresh at h
    cases hs : str l with
    | mk o l' =>
      rw [hs] at h
      cases o with
      | none => cases h
      | some s =>
        dsimp only at h
        split at h
        · cases h
        · rename_i hc
          injection h with h1 h2
          subst h1 h2
          obtain ⟨x, rfl, hx⟩ := str_strong.e (l := l) (a := s) (r := l') (by show ofO (str l) = _; rw [hs]; rfl)
          refine ⟨x, rfl, fun t => ?_⟩
          have := ofO_inj (p := str (x ++ t)) (q := (some s, t)) (hx t)
          unfold fresh
          rw [this]
          dsimp only
          rw [if_neg hc]
  n := by
    intro l d r h
    unfold fresh at h
    cases hs : str l with
    | mk o l' =>
      rw [hs] at h
      cases o with
      | none =>
        injection h with h1 h2
        subst h1 h2
        exact str_strong.n (l := l) (d := false) (r := l') (by show ofO (str l) = _; rw [hs]; rfl)
      | some s =>
        dsimp only at h
        split at h
        · cases h; exact ⟨[], rfl⟩
        · cases h
  d := by
    intro l r h
    unfold fresh at h
    cases hs : str l with
    | mk o l' =>
      rw [hs] at h
      cases o with
      | none => cases h
      | some s =>
        dsimp only at h
        split at h <;> cases h
  f1 := by
    intro l d r h hr t
    unfold fresh at h ⊢
    cases hs : str l with
    | mk o l' =>
      rw [hs] at h
      cases o with
      | none =>
        injection h with h1 h2
        subst h1 h2
        have := ofO_inj (p := str (l ++ t)) (q := (none, l' ++ t)) (str_strong.f1 (l := l) (d := false) (r := l') (by show ofO (str l) = _; rw [hs]; rfl) hr t)
        rw [this]
      | some s =>
        dsimp only at h
        split at h
        · rename_i hc
          injection h with h1 h2
          subst h1 h2
          obtain ⟨x, hl, hx⟩ := str_strong.e (l := l) (a := s) (r := l') (by show ofO (str l) = _; rw [hs]; rfl)
          have := ofO_inj (p := str (l ++ t)) (q := (some s, l' ++ t)) (by rw [hl, List.append_assoc]; exact hx (l' ++ t))
          rw [this]
          dsimp only
          rw [if_pos hc]
        · cases h
  f2 := by
    intro l d h t ht
    unfold fresh at h ⊢
    cases hs : str l with
    | mk o l' =>
      rw [hs] at h
      cases o with
      | none =>
        cases h
        obtain ⟨r, h1, h2⟩ := str_strong.f2 (l := l) (d := false) (by show ofO (str l) = _; rw [hs]; rfl) t ht
        have := ofO_inj (p := str (l ++ t)) (q := (none, r)) h1
        rw [this]
        exact ⟨r, rfl, h2⟩
      | some s =>
        dsimp only at h
        split at h
        · cases h
          cases hs
        · cases h
/-- the key and the colon -/
def kd (keys : List (List UInt8)) (l : List UInt8) : R (List UInt8) := (fresh keys l).bind fun s l => TJ.opt [58] (fun l => .ok s l) (fun l => .no false l) (blanks l)
theorem kd_good (keys : List (List UInt8)) : Good (kd keys) := by
  unfold kd
  refine Good.bind (fresh_strong keys).good fun s => Good.blanks (Good.opt (by decide) (.inr fun _ _ h => by cases h) (Strong.ok s).good Strong.no.good) fun a r h => ?_
  cases h
theorem keyed_kd (keys : List (List UInt8)) (l : List UInt8) : ofO (keyed keys l) = (kd keys l).bind fun s l => .ok s (blanks l) := by
  unfold keyed kd fresh
  generalize str l = q
  obtain ⟨o, l'⟩ := q
  cases o with
  | none => rfl
  | some s =>
    dsimp only
    split
    · rfl
    · show _ = R.bind (TJ.opt [58] (fun l => .ok s l) (fun l => .no false l) (blanks l')) _
      unfold TJ.opt
      split <;> rfl
end Go.Proofs.YtdhdeaknflekpaaDoor.TJ
