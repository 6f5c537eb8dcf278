/- Plain law of JsonBlanks. -/
import Derived.Test.YtdhdeaknflekpaaDoorPg
namespace Go.Proofs.YtdhdeaknflekpaaDoor.TJ

theorem blanks_front {a l : List UInt8} (h : Bk a) : blanks (a ++ l) = blanks l := blanks_app_nil (blanks_bk h)
theorem parse_front {a l : List UInt8} (h : Bk a) : parse (a ++ l) = parse l := by rw [parse_eq, parse_eq, blanks_front h]
theorem parse_ok {l r : List UInt8} {v : List N} (h : parse l = .ok v r) : ∃ r1, value 64 [] (blanks l) = .ok v r1 ∧ blanks r1 = [] := by
  rw [parse_eq] at h
  cases hv : value 64 [] (blanks l) with
  | no b l' => rw [hv] at h; cases h
  | ok u l' =>
    rw [hv] at h
    dsimp only at h
    split at h
    · injection h with h1 h2
      subst h1
      exact ⟨l', rfl, ‹_›⟩
    · cases h
theorem blanks_ok {a l r : List UInt8} {v : List N} (ha : Bk a) (h : parse l = .ok v r) : parse (a ++ l ++ a) = .ok v [] := by
  rw [List.append_assoc, parse_front ha]
  obtain ⟨r1, h1, h2⟩ := parse_ok h
  rw [parse_eq]
  by_cases hr : r1 = []
  · subst hr
    have := top_good.s2 (l := l) h1 a ha.stop
    rw [this]
    dsimp only
    rw [blanks_bk ha, if_pos rfl]
  · have := top_good.s1 (l := l) h1 hr a
    rw [this]
    dsimp only
    rw [blanks_app_nil h2, blanks_bk ha, if_pos rfl]
theorem blanks_no {a l r : List UInt8} {d : Bool} (ha : Bk a) (h : parse l = .no d r) (hr : r ≠ []) : parse (a ++ l ++ a) = .no d (r ++ a) := by
  rw [List.append_assoc, parse_front ha]
  exact parse_firm h hr a
theorem blanks_end {a l : List UInt8} {d : Bool} (ha : Bk a) (h : parse l = .no d []) : ∃ r, parse (a ++ l ++ a) = .no false r ∧ r.length ≤ a.length := by
  rw [List.append_assoc, parse_front ha]
  rw [parse_eq] at h ⊢
  cases hv : value 64 [] (blanks l) with
  | no b l' =>
    rw [hv] at h
    injection h with h1 h2
    subst h1 h2
    obtain ⟨r, h3, h4⟩ := top_good.f2 (l := l) hv a ha
    rw [h3]
    exact ⟨r, rfl, h4⟩
  | ok v l' =>
    rw [hv] at h
    dsimp only at h
    split at h
    · cases h
    · rename_i hb
      injection h with h1 h2
      exact absurd h2 hb
/-- a smaller depth: the same, or too deep -/
def Near {α : Type} (x y : R α) : Prop := x = y ∨ ∃ r, x = .no true r
theorem Near.bind {α β : Type} {x y : R α} (h : Near x y) {f g : α → List UInt8 → R β} (hf : ∀ a l, Near (f a l) (g a l)) : Near (x.bind f) (y.bind g) := by
  rcases h with rfl | ⟨r, rfl⟩
  · cases x with
    | ok a l => exact hf a l
    | no d l => exact .inl rfl
  · exact .inr ⟨r, rfl⟩
theorem items_near {val val' : List UInt8 → List UInt8 → R (List N)} (h : ∀ k l, Near (val k l) (val' k l)) (obj : Bool) : ∀ (f : Nat) (keys : List (List UInt8)) (l : List UInt8), Near (items val obj f keys l) (items val' obj f keys l)
  | 0, _, _ => .inl rfl
  | f + 1, keys, l => by
    have e1 := congrFun (items_eq val obj f keys) l
    have e2 := congrFun (items_eq val' obj f keys) l
    rw [e1, e2]
    refine Near.bind (.inl rfl) fun k l1 => Near.bind ?_ fun v l2 => ?_
    · unfold valP
      cases obj with
      | true => exact h k (blanks l1)
      | false => exact h k l1
    · unfold rest opt
      split
      · exact .inl rfl
      · split
        · exact Near.bind (items_near h obj f _ _) fun _ _ => .inl rfl
        · exact .inl rfl
theorem body_near {val val' : List UInt8 → List UInt8 → R (List N)} (h : ∀ k l, Near (val k l) (val' k l)) (obj : Bool) (l : List UInt8) : Near (body val obj l) (body val' obj l) := by
  unfold body opt
  split
  · exact .inl rfl
  · exact items_near h obj _ _ _
theorem value_near : ∀ (d : Nat) (k l : List UInt8), Near (value d k l) (value (d + 1) k l)
  | d, k, l => by
    rw [value_eq, value_eq]
    unfold valueP alt
    split
    · exact .inl rfl
    · split
      · exact .inl rfl
      · split
        · exact .inl rfl
        · split
          · exact .inl rfl
          · split
            · rename_i hb
              cases d with
              | zero => exact .inr ⟨l, by show deep0 l = _; rw [deep0, if_pos hb]⟩
              | succ d =>
                rw [brack_succ, brack_succ]
                split
                · exact Near.bind (body_near (fun k l => value_near d k l) true _) fun _ _ => .inl rfl
                · split
                  · exact Near.bind (body_near (fun k l => value_near d k l) false _) fun _ _ => .inl rfl
                  · exact .inl rfl
            · exact .inl rfl
/-- the first node's key -/
def setKey (k : List UInt8) : List N → List N
  | [] => []
  | n :: r => { n with key := k } :: r
def R.mapV {α β : Type} (f : α → β) : R α → R β
  | .ok a l => .ok (f a) l
  | .no d l => .no d l
theorem value_key (d : Nat) (k l : List UInt8) : value d k l = (value d [] l).mapV (setKey k) := by
  rw [value_eq, value_eq]
  unfold valueP alt
  have hw : ∀ kind w, wordP kind k w l = (wordP kind [] w l).mapV (setKey k) := by
    intro kind w
    unfold wordP
    generalize ofB (word w l) = x
    cases x <;> rfl
  split
  · exact hw _ _
  · split
    · exact hw _ _
    · split
      · exact hw _ _
      · split
        · unfold strP
          generalize ofO (str l) = x
          cases x <;> rfl
        · split
          · cases d with
            | zero =>
              show deep0 l = (deep0 l : R (List N)).mapV _
              unfold deep0
              split <;> rfl
            | succ d =>
              rw [brack_succ, brack_succ]
              split
              · generalize body (value d) true l.tail = x
                cases x <;> rfl
              · split
                · generalize body (value d) false l.tail = x
                  cases x <;> rfl
                · rfl
          · unfold numP told
            dsimp only
            generalize ofB (number l) = x
            cases x <;> rfl
end Go.Proofs.YtdhdeaknflekpaaDoor.TJ
