/- Plain laws: values, lists, objects are read alike whatever stands behind them. -/
import Derived.Test.YtdhdeaknflekpaaDoorPe
namespace Go.Proofs.YtdhdeaknflekpaaDoor.TJ

theorem join_bind (n : Nat) (v : List N) (x : R (Nat × List N)) : R.join n v x = x.bind fun p l => .ok (n + p.1, v ++ p.2) l := by
  cases x <;> rfl
/-- behind a value of a list or an object -/
def rest (val : List UInt8 → List UInt8 → R (List N)) (obj : Bool) (f : Nat) (keys : List (List UInt8)) (k : List UInt8) (v : List N) : List UInt8 → R (Nat × List N) :=
  opt [shut obj] (fun l => .ok (1, v) l) (opt [44] (fun l => (items val obj f (k :: keys) (blanks l)).bind fun p l => .ok (1 + p.1, v ++ p.2) l) (fun l => .no false l))
def keyP (obj : Bool) (keys : List (List UInt8)) : List UInt8 → R (List UInt8) := if obj then kd keys else fun l => .ok [] l
def valP (val : List UInt8 → List UInt8 → R (List N)) (obj : Bool) (k : List UInt8) : List UInt8 → R (List N) := if obj then fun l => val k (blanks l) else val k
theorem items_eq (val : List UInt8 → List UInt8 → R (List N)) (obj : Bool) (f : Nat) (keys : List (List UInt8)) :
    (fun l => items val obj (f + 1) keys l) = fun l => (keyP obj keys l).bind fun k l => (valP val obj k l).bind fun v l => rest val obj f keys k v (blanks l) := by
  funext l
  have hr : ∀ (k : List UInt8) (x : R (List N)), (match x with
      | .no d l2 => .no d l2
      | .ok v l2 =>
        if has [shut obj] (blanks l2) then .ok (1, v) (blanks l2).tail
        else if has [44] (blanks l2) then R.join 1 v (items val obj f (k :: keys) (blanks (blanks l2).tail))
        else .no false (blanks l2)) = x.bind fun v l => rest val obj f keys k v (blanks l) := by
    intro k x
    cases x with
    | no d l2 => rfl
    | ok v l2 =>
      show (if has [shut obj] (blanks l2) then R.ok (1, v) (blanks l2).tail
        else if has [44] (blanks l2) then R.join 1 v (items val obj f (k :: keys) (blanks (blanks l2).tail))
        else R.no false (blanks l2)) = rest val obj f keys k v (blanks l2)
      rw [join_bind]
      rfl
  rw [items_succ]
  cases obj with
  | false =>
    exact hr [] (val [] l)
  | true =>
    have h := keyed_kd keys l
    rw [show keyOr true keys l = keyed keys l from rfl]
    show _ = (kd keys l).bind _
    revert h
    generalize keyed keys l = q
    generalize kd keys l = p
    intro h
    obtain ⟨o, l1⟩ := q
    cases o with
    | none =>
      cases p with
      | no d l2 => cases h; rfl
      | ok s l2 => cases h
    | some k =>
      cases p with
      | no d l2 => cases h
      | ok s l2 =>
        injection h with h1 h2
        subst h1 h2
        exact hr _ (val k (blanks l2))
theorem items_good {val : List UInt8 → List UInt8 → R (List N)} (hv : Bound val) (hg : ∀ k, Good (val k)) (obj : Bool) : ∀ (f : Nat) (keys : List (List UInt8)), Good (fun l => items val obj f keys l)
  | 0, _ => Strong.no.good
  | f + 1, keys => by
    rw [items_eq]
    have hv0 : ∀ k a r, val k [] ≠ .ok a r := by
      intro k a r h
      have := (hv k [] a r h).2
      simp at this
    refine Good.bind ?_ fun k => Good.bind ?_ fun v => Good.blanks ?_ ?_
    · unfold keyP
      split
      · exact kd_good keys
      · exact (Strong.ok _).good
    · unfold valP
      split
      · exact Good.blanks (hg k) (hv0 k)
      · exact hg k
    · unfold rest
      refine Good.opt (by cases obj <;> decide) (.inr fun _ _ h => by cases h) (Strong.ok _).good (Good.opt (by decide) (.inr fun _ _ h => by cases h) (Good.bind (Good.blanks (items_good hv hg obj f _) ?_) fun p => (Strong.ok _).good) Strong.no.good)
      rintro ⟨n, u⟩ r h
      have := (items_len hv obj f _ _ _ _ _ h).2
      simp at this
    · intro a r h
      unfold rest opt at h
      cases h
/-- behind an opening bracket -/
def body (val : List UInt8 → List UInt8 → R (List N)) (obj : Bool) (l : List UInt8) : R (Nat × List N) :=
  opt [shut obj] (fun l => .ok (0, []) l) (fun l => items val obj (l.length + 1) [] l) (blanks l)
theorem body_good {val : List UInt8 → List UInt8 → R (List N)} (hv : Bound val) (hg : ∀ k, Good (val k)) (obj : Bool) : Good (body val obj) := by
  have hi : Good (fun l => items val obj (l.length + 1) [] l) := Good.of_fuel (P := fun F l => items val obj F [] l) (fun F => items_good hv hg obj F []) fun F l h => items_fuel hv obj _ _ _ _ (Nat.lt_succ_self _) h
  have h0 : ∀ (a : Nat × List N) r, items val obj (([] : List UInt8).length + 1) [] [] ≠ .ok a r := by
    rintro ⟨n, u⟩ r h
    have := (items_len hv obj _ _ _ _ _ _ h).2
    simp at this
  refine Good.blanks (Good.opt (by cases obj <;> decide) (.inr h0) (Strong.ok _).good hi) ?_
  intro a r h
  unfold opt at h
  rw [if_neg (by simp [has])] at h
  exact h0 a r h
theorem many_body (val : List UInt8 → List UInt8 → R (List N)) (l : List UInt8) : many val l = body val (has [123] l) l.tail := by
  unfold many body opt
  rfl
/-- a list or an object -/
def brack (d : Nat) (key : List UInt8) : List UInt8 → R (List N) :=
  match d with
  | 0 => deep0
  | d + 1 => opt [123] (fun l => (body (value d) true l).bind fun p l => .ok (⟨7, key, [], p.1⟩ :: p.2) l) (opt [91] (fun l => (body (value d) false l).bind fun p l => .ok (⟨6, key, [], p.1⟩ :: p.2) l) (fun l => .no false l))
theorem brack_succ (d : Nat) (key l : List UInt8) : brack (d + 1) key l = if has [123] l then (body (value d) true l.tail).bind fun p l => .ok (⟨7, key, [], p.1⟩ :: p.2) l
    else if has [91] l then (body (value d) false l.tail).bind fun p l => .ok (⟨6, key, [], p.1⟩ :: p.2) l else .no false l := rfl
def wordP (kind : Int) (key w l : List UInt8) : R (List N) := (ofB (word w l)).bind fun _ r => .ok [⟨kind, key, [], 0⟩] r
theorem wordP_leaf (kind : Int) (key w l : List UInt8) : leaf kind key [] (word w l) = wordP kind key w l := by
  unfold leaf wordP
  generalize word w l = q
  obtain ⟨b, r⟩ := q
  cases b <;> rfl
def numP (key : List UInt8) : List UInt8 → R (List N) := told (fun x _ => [⟨4, key, x, 0⟩]) (fun l => ofB (number l))
theorem numP_leaf (key l : List UInt8) : leaf 4 key (l.take (l.length - (number l).2.length)) (number l) = numP key l := by
  unfold leaf numP told
  dsimp only
  generalize number l = q
  obtain ⟨b, r⟩ := q
  cases b <;> rfl
def strP (key l : List UInt8) : R (List N) := (ofO (str l)).bind fun s r => .ok [⟨5, key, s, 0⟩] r
def valueP (d : Nat) (key : List UInt8) : List UInt8 → R (List N) :=
  alt [110] (wordP 1 key [110, 117, 108, 108]) (alt [102] (wordP 2 key [102, 97, 108, 115, 101]) (alt [116] (wordP 3 key [116, 114, 117, 101])
    (alt [34] (strP key) (alt [91, 123] (brack d key) (numP key)))))
theorem value_eq (d : Nat) (key : List UInt8) : value d key = valueP d key := by
  funext l
  rw [value.eq_def]
  unfold valueP alt
  dsimp only
  split
  · exact wordP_leaf _ _ _ _
  · split
    · exact wordP_leaf _ _ _ _
    · split
      · exact wordP_leaf _ _ _ _
      · split
        · unfold strP
          generalize str l = q
          obtain ⟨o, r⟩ := q
          cases o <;> rfl
        · split
          · rename_i hb
            cases d with
            | zero =>
              show R.no true l = deep0 l
              rw [deep0, if_pos hb]
            | succ d =>
              show (match many (value d) l with
                | .no b l' => .no b l'
                | .ok (n, v) l' => _) = brack (d + 1) key l
              rw [many_body]
              rw [brack_succ]
              by_cases h1 : has [123] l = true
              · rw [if_pos h1, h1]
                generalize body (value d) true l.tail = q
                cases q <;> rfl
              · have h2 : has [91] l = true := by
                  cases l with
                  | nil => cases hb
                  | cons c l => simp [has] at hb h1 ⊢; exact hb.resolve_right h1
                have h3 : has [123] l = false := by simpa using h1
                rw [if_neg h1, h3, if_pos h2]
                generalize body (value d) false l.tail = q
                cases q <;> rfl
          · exact numP_leaf _ _
theorem value_good : ∀ (d : Nat) (key : List UInt8), Good (value d key)
  | d, key => by
    rw [value_eq]
    have hw : ∀ (kind : Int) (w : List UInt8), (∀ c ∈ w, c ∉ sBlank) → Good (wordP kind key w) := fun kind w h => (Strong.bind (word_strong w h) fun _ => Strong.ok _).good
    have hs : Good (strP key) := (Strong.bind str_strong fun _ => Strong.ok _).good
    have hb : Good (brack d key) := by
      cases d with
      | zero => exact deep0_good
      | succ d =>
        unfold brack
        refine Good.opt (by decide) (.inl (by decide)) (Good.bind (body_good (value_bound d) (value_good d) true) fun _ => (Strong.ok _).good) (Good.opt (by decide) (.inl (by decide)) (Good.bind (body_good (value_bound d) (value_good d) false) fun _ => (Strong.ok _).good) Strong.no.good)
    have hb0 : ∀ a r, brack d key [] ≠ .ok a r := by
      intro a r h
      cases d with
      | zero => cases h
      | succ d => cases h
    exact Good.alt (by decide) (hw _ _ (by decide)) (fun _ _ h => by cases h) (Good.alt (by decide) (hw _ _ (by decide)) (fun _ _ h => by cases h) (Good.alt (by decide) (hw _ _ (by decide)) (fun _ _ h => by cases h)
      (Good.alt (by decide) hs (fun _ _ h => by cases h) (Good.alt (by decide) hb hb0 (Good.told number_good)))))
end Go.Proofs.YtdhdeaknflekpaaDoor.TJ
