/- Plain law of JsonBlanks: brackets. -/
import Derived.Test.YtdhdeaknflekpaaDoorPh
namespace Go.Proofs.YtdhdeaknflekpaaDoor.TJ

theorem value_93 (d : Nat) (k r : List UInt8) : value d k (93 :: r) = .no false (93 :: r) := by rw [value_eq]; rfl
theorem value_125 (d : Nat) (k r : List UInt8) : value d k (125 :: r) = .no false (125 :: r) := by rw [value_eq]; rfl
theorem blanks_one {c : UInt8} {r : List UInt8} (h : sBlank.contains c = false) : blanks (c :: r) = c :: r := by
  unfold blanks
  rw [List.dropWhile_cons, if_neg (by rw [h]; simp)]
/-- a value that stands before a closing bracket -/
theorem value_shut {l r1 : List UInt8} {v : List N} (h1 : value 64 [] (blanks l) = .ok v r1) (h2 : blanks r1 = []) :
    (∀ c, c ∈ stops → sBlank.contains c = false → ∃ r, value 63 [] (blanks (l ++ [c])) = .no true r) ∨ ∀ c, c ∈ stops → sBlank.contains c = false → ∃ r2, value 63 [] (blanks (l ++ [c])) = .ok v r2 ∧ blanks r2 = [c] := by
  have hl : blanks l ≠ [] := by
    intro e
    rw [e] at h1
    exact val0 _ _ h1
  rcases value_near 63 [] (blanks l) with h | ⟨r, h⟩
  · right
    intro c hc hb
    rw [blanks_app hl]
    rw [h1] at h
    refine ⟨r1 ++ [c], ?_, by rw [blanks_app_nil h2, blanks_one hb]⟩
    by_cases hr : r1 = []
    · subst hr
      exact (value_good 63 []).s2 h [c] (by rintro d r e; cases e; exact hc)
    · exact (value_good 63 []).s1 h hr [c]
  · left
    intro c hc hb
    rw [blanks_app hl]
    have hr := (value_good 63 []).d h
    exact ⟨r ++ [c], (value_good 63 []).f1 h hr [c]⟩
theorem not_shut {l r1 : List UInt8} {v : List N} (h1 : value 64 [] (blanks l) = .ok v r1) (c : UInt8) : has [93] (blanks (l ++ [c])) = false := by
  have hl : blanks l ≠ [] := by
    intro e
    rw [e] at h1
    exact val0 _ _ h1
  rw [blanks_app hl, has_app hl]
  cases hbl : blanks l with
  | nil => rfl
  | cons x r =>
    by_cases hx : x = 93
    · subst hx
      rw [hbl, value_93] at h1
      cases h1
    · simpa [has] using hx
theorem list_value (X : List UInt8) : value 64 [] (91 :: X) = (body (value 63) false X).bind fun p l => .ok (⟨6, [], [], p.1⟩ :: p.2) l := by
  rw [value_eq]
  show brack (63 + 1) [] (91 :: X) = _
  rw [brack_succ]
  rfl
theorem obj_value (X : List UInt8) : value 64 [] (123 :: X) = (body (value 63) true X).bind fun p l => .ok (⟨7, [], [], p.1⟩ :: p.2) l := by
  rw [value_eq]
  show brack (63 + 1) [] (123 :: X) = _
  rw [brack_succ]
  rfl
theorem body_list {l r1 : List UInt8} {v : List N} (h1 : value 64 [] (blanks l) = .ok v r1) :
    body (value 63) false (l ++ [93]) = (value 63 [] (blanks (l ++ [93]))).bind fun v x => rest (value 63) false (blanks (l ++ [93])).length [] [] v (blanks x) := by
  unfold body opt
  rw [if_neg (by rw [show shut false = 93 from rfl, not_shut h1 93]; simp)]
  have := congrFun (items_eq (value 63) false (blanks (l ++ [93])).length []) (blanks (l ++ [93]))
  refine this.trans ?_
  rfl
theorem key_k (Y : List UInt8) : str (34 :: 107 :: 34 :: Y) = (some [107], Y) := rfl
theorem body_obj (Y : List UInt8) : body (value 63) true (34 :: 107 :: 34 :: 58 :: Y) = (value 63 [107] (blanks Y)).bind fun v x => rest (value 63) true (34 :: 107 :: 34 :: 58 :: Y).length [] [107] v (blanks x) := by
  have hb : blanks (34 :: 107 :: 34 :: 58 :: Y) = 34 :: 107 :: 34 :: 58 :: Y := blanks_one rfl
  unfold body
  rw [hb]
  unfold opt
  rw [if_neg (by simp [has, shut])]
  have := congrFun (items_eq (value 63) true (34 :: 107 :: 34 :: 58 :: Y).length []) (34 :: 107 :: 34 :: 58 :: Y)
  refine this.trans ?_
  have hk : keyP true [] (34 :: 107 :: 34 :: 58 :: Y) = .ok [107] Y := by
    show kd [] (34 :: 107 :: 34 :: 58 :: Y) = _
    unfold kd fresh
    rw [key_k]
    dsimp only
    rw [if_neg (by simp)]
    show TJ.opt [58] (fun l => .ok [107] l) (fun l => .no false l) (blanks (58 :: Y)) = _
    rw [blanks_one rfl]
    rfl
  rw [hk]
  rfl
theorem rest_shut (val : List UInt8 → List UInt8 → R (List N)) (obj : Bool) (f : Nat) (keys : List (List UInt8)) (k : List UInt8) (v : List N) : rest val obj f keys k v [shut obj] = .ok (1, v) [] := by
  unfold rest opt
  rw [if_pos (by cases obj <;> rfl)]
  rfl
/-- what parse makes of a value -/
def endR : R (List N) → R (List N)
  | .no b l' => .no b l'
  | .ok v l' => if blanks l' = [] then .ok v [] else .no false (blanks l')
theorem parse_end (l : List UInt8) : parse l = endR (value 64 [] (blanks l)) := rfl
theorem brackets {l r : List UInt8} {v : List N} (h : parse l = .ok v r) :
    (∃ r2, parse (91 :: l ++ [93]) = .no true r2 ∧ r2.length < l.length + 2) ∨
    (parse (91 :: l ++ [93]) = .ok (⟨6, [], [], 1⟩ :: v) [] ∧ parse ([123, 34, 107, 34, 58] ++ l ++ [125]) = .ok (⟨7, [], [], 1⟩ :: setKey [107] v) []) := by
  obtain ⟨r1, h1, h2⟩ := parse_ok h
  have hp : parse (91 :: l ++ [93]) = endR (value 64 [] (91 :: (l ++ [93]))) := by
    rw [parse_end, List.cons_append, blanks_one rfl]
  have hp2 : parse ([123, 34, 107, 34, 58] ++ l ++ [125]) = endR (value 64 [] (123 :: 34 :: 107 :: 34 :: 58 :: (l ++ [125]))) := by
    rw [parse_end]
    show endR (value 64 [] (blanks (123 :: 34 :: 107 :: 34 :: 58 :: (l ++ [125])))) = _
    rw [blanks_one rfl]
  rw [list_value, body_list h1] at hp
  rw [obj_value, body_obj, value_key] at hp2
  rcases value_shut h1 h2 with hv | hv
  · left
    obtain ⟨r2, hv⟩ := hv 93 (by decide) rfl
    rw [hv] at hp
    refine ⟨r2, hp, ?_⟩
    obtain ⟨x, hx⟩ := (value_good 63 []).n hv
    have h4 := blanks_len (l ++ [93])
    rw [hx] at h4
    simp at h4
    omega
  · right
    obtain ⟨r2, hv1, hb⟩ := hv 93 (by decide) rfl
    obtain ⟨r3, hv3, hb3⟩ := hv 125 (by decide) rfl
    rw [hv1] at hp
    rw [hv3] at hp2
    have e1 : rest (value 63) false (blanks (l ++ [93])).length [] [] v (blanks r2) = .ok (1, v) [] := by rw [hb]; exact rest_shut _ false _ _ _ _
    have e2 : rest (value 63) true (34 :: 107 :: 34 :: 58 :: (l ++ [125])).length [] [107] (setKey [107] v) (blanks r3) = .ok (1, setKey [107] v) [] := by rw [hb3]; exact rest_shut _ true _ _ _ _
    constructor
    · rw [hp]
      show endR ((rest (value 63) false (blanks (l ++ [93])).length [] [] v (blanks r2)).bind _) = _
      rw [e1]
      rfl
    · rw [hp2]
      show endR ((rest (value 63) true (34 :: 107 :: 34 :: 58 :: (l ++ [125])).length [] [107] (setKey [107] v) (blanks r3)).bind _) = _
      rw [e2]
      rfl
end Go.Proofs.YtdhdeaknflekpaaDoor.TJ
