/- Plain laws: how much is read; that the number of rounds does not matter. -/
import Derived.Test.YtdhdeaknflekpaaDoorPb
namespace Go.Proofs.YtdhdeaknflekpaaDoor.TJ

theorem dropWhile_len (p : UInt8 → Bool) (l : List UInt8) : (l.dropWhile p).length ≤ l.length := (List.dropWhile_suffix p).length_le
theorem blanks_len (l : List UInt8) : (blanks l).length ≤ l.length := dropWhile_len _ l
theorem has_len {s l : List UInt8} (h : has s l = true) : l.tail.length + 1 = l.length := by
  cases l with
  | nil => cases h
  | cons c l => rfl
theorem digits_len {l r : List UInt8} (h : digits l = (true, r)) : r.length + 1 ≤ l.length := by
  unfold digits at h
  split at h
  · cases h
    have h1 := has_len ‹has sDigit l = true›
    have h2 := dropWhile_len sDigit.contains l.tail
    omega
  · cases h
theorem exp_len {l r : List UInt8} (h : exp l = (true, r)) : r.length ≤ l.length := by
  unfold exp at h
  split at h
  · have h1 := has_len ‹has [101, 69] l = true›
    split at h
    · have h2 := has_len ‹has [43, 45] l.tail = true›
      have := digits_len h; omega
    · have := digits_len h; omega
  · cases h; exact Nat.le_refl _
theorem frac_len {l r : List UInt8} (h : frac l = (true, r)) : r.length ≤ l.length := by
  unfold frac at h
  split at h
  · have h1 := has_len ‹has [46] l = true›
    cases hd : digits l.tail with
    | mk b q =>
      rw [hd] at h
      dsimp only at h
      cases b with
      | true =>
        have := digits_len hd
        have := exp_len h
        omega
      | false => cases h
  · exact exp_len h
theorem whole_len {l r : List UInt8} (h : whole l = (true, r)) : r.length + 1 ≤ l.length := by
  unfold whole at h
  split at h
  · have h1 := has_len ‹has [48] l = true›
    have := frac_len h
    omega
  · cases hd : digits l with
    | mk b q =>
      rw [hd] at h
      dsimp only at h
      cases b with
      | true =>
        have := digits_len hd
        have := frac_len h
        omega
      | false => cases h
theorem number_len {l r : List UInt8} (h : number l = (true, r)) : r.length + 1 ≤ l.length := by
  unfold number at h
  split at h
  · have h1 := has_len ‹has [45] l = true›
    have := whole_len h
    omega
  · exact whole_len h
theorem word_len : ∀ {s l r : List UInt8}, word s l = (true, r) → r.length + s.length ≤ l.length
  | [], l, r, h => by cases h; simp
  | c :: s, l, r, h => by
    rw [word] at h
    split at h
    · have h1 := has_len ‹has [c] l = true›
      have := word_len h
      simp only [List.length_cons]; omega
    · cases h
theorem escape_shrink {l r b : List UInt8} (h : escape l = (some b, r)) : r.length ≤ l.length := escape_strong.shorter (l := l) (a := b) (r := r) (by show ofO (escape l) = _; rw [h]; rfl)
theorem char_shrink {l r b : List UInt8} {c : UInt8} (h : char (c :: l) = (some b, r)) : r.length ≤ l.length := by
  have h2 : ofO (char (c :: l)) = head lead (c :: l) := congrFun char_eq _
  rw [h, head_cons] at h2
  cases hl : lead c with
  | none => rw [hl] at h2; cases h2
  | some P => rw [hl] at h2; exact (lead_strong c P hl).shorter h2.symm
theorem strs_len : ∀ {f : Nat} {acc l b r : List UInt8}, strs f acc l = (some b, r) → r.length + 1 ≤ l.length
  | 0, _, _, _, _, h => by cases h
  | f + 1, acc, [], _, _, h => by cases h
  | f + 1, acc, c :: l, b, r, h => by
    rw [strs] at h
    split at h
    · cases h; simp
    · split at h
      · cases h
      · rename_i b' l' heq
        have := strs_len h
        split at heq
        · have h1 := escape_shrink heq
          simp only [List.length_cons]; omega
        · have h1 := char_shrink heq
          simp only [List.length_cons]; omega
theorem str_len {l b r : List UInt8} (h : str l = (some b, r)) : r.length + 2 ≤ l.length := by
  unfold str at h
  split at h
  · have h1 := has_len ‹has [34] l = true›
    have := strs_len h
    omega
  · cases h
theorem keyed_len {keys : List (List UInt8)} {l b r : List UInt8} (h : keyed keys l = (some b, r)) : r.length + 3 ≤ l.length := by
  unfold keyed at h
  split at h
  · cases h
  · rename_i s l' hs
    split at h
    · cases h
    · split at h
      · cases h
        have h1 := str_len hs
        have h2 := has_len ‹has [58] (blanks l') = true›
        have h3 := blanks_len l'
        have h4 := blanks_len (blanks l').tail
        omega
      · cases h
def Bound (val : List UInt8 → List UInt8 → R (List N)) : Prop := ∀ k l v r, val k l = .ok v r → v.length + r.length ≤ l.length ∧ r.length + 1 ≤ l.length
theorem join_ok {n m : Nat} {v u : List N} {x : R (Nat × List N)} {r : List UInt8} (h : R.join n v x = .ok (m, u) r) : ∃ m' u', x = .ok (m', u') r ∧ m = n + m' ∧ u = v ++ u' := by
  cases x with
  | no d l => cases h
  | ok a l =>
    obtain ⟨m', u'⟩ := a
    cases h
    exact ⟨m', u', rfl, rfl, rfl⟩
theorem join_no {n : Nat} {v : List N} {x : R (Nat × List N)} {d : Bool} {r : List UInt8} (h : R.join n v x = .no d r) : x = .no d r := by
  cases x with
  | no d l => cases h; rfl
  | ok a l => cases h
theorem join_join (a b : Nat) (u v : List N) (x : R (Nat × List N)) : R.join a u (R.join b v x) = R.join (a + b) (u ++ v) x := by
  cases x with
  | no d l => rfl
  | ok q l =>
    obtain ⟨m, w⟩ := q
    simp only [R.join, List.append_assoc, Nat.add_assoc]
/-- the key of a value to come -/
def keyOr (obj : Bool) (keys : List (List UInt8)) (l : List UInt8) : Option (List UInt8) × List UInt8 := if obj then keyed keys l else (some [], l)
theorem keyOr_len {obj : Bool} {keys : List (List UInt8)} {l b r : List UInt8} (h : keyOr obj keys l = (some b, r)) : r.length ≤ l.length := by
  unfold keyOr at h
  split at h
  · have := keyed_len h; omega
  · cases h; exact Nat.le_refl _
theorem items_succ (val : List UInt8 → List UInt8 → R (List N)) (obj : Bool) (f : Nat) (keys : List (List UInt8)) (l : List UInt8) : items val obj (f + 1) keys l =
    match keyOr obj keys l with
    | (none, l1) => .no false l1
    | (some k, l1) =>
      match val k l1 with
      | .no d l2 => .no d l2
      | .ok v l2 =>
        if has [shut obj] (blanks l2) then .ok (1, v) (blanks l2).tail
        else if has [44] (blanks l2) then R.join 1 v (items val obj f (k :: keys) (blanks (blanks l2).tail))
        else .no false (blanks l2) := by
  rw [items]
  rfl
theorem items_fuel {val : List UInt8 → List UInt8 → R (List N)} (hv : Bound val) (obj : Bool) : ∀ (f f' : Nat) (keys : List (List UInt8)) (l : List UInt8), l.length < f → l.length < f' → items val obj f keys l = items val obj f' keys l
  | 0, _, _, _, h, _ => by omega
  | _ + 1, 0, _, _, _, h => by omega
  | f + 1, f' + 1, keys, l, h, h' => by
    rw [items_succ, items_succ]
    cases hk : keyOr obj keys l with
    | mk o l1 =>
      cases o with
      | none => rfl
      | some k =>
        have h1 := keyOr_len hk
        dsimp only
        cases hq : val k l1 with
        | no d l2 => rfl
        | ok v l2 =>
          have h2 := (hv _ _ _ _ hq).2
          dsimp only
          split
          · rfl
          · split
            · have h3 := blanks_len l2
              have h4 := has_len ‹has [44] (blanks l2) = true›
              have h5 := blanks_len (blanks l2).tail
              rw [items_fuel hv obj f f' _ _ (by omega) (by omega)]
            · rfl
theorem items_len {val : List UInt8 → List UInt8 → R (List N)} (hv : Bound val) (obj : Bool) : ∀ (f : Nat) (keys : List (List UInt8)) (l : List UInt8) (n : Nat) (v : List N) (r : List UInt8), items val obj f keys l = .ok (n, v) r → v.length + r.length ≤ l.length ∧ r.length + 1 ≤ l.length
  | 0, _, _, _, _, _, h => by cases h
  | f + 1, keys, l, n, v, r, h => by
    rw [items_succ] at h
    cases hk : keyOr obj keys l with
    | mk o l1 =>
      rw [hk] at h
      cases o with
      | none => cases h
      | some k =>
        have h1 := keyOr_len hk
        dsimp only at h
        cases hq : val k l1 with
        | no d l2 => rw [hq] at h; cases h
        | ok u l2 =>
          rw [hq] at h
          have h2 := hv _ _ _ _ hq
          dsimp only at h
          have h3 := blanks_len l2
          split at h
          · have h4 := has_len ‹has [shut obj] (blanks l2) = true›
            cases h
            omega
          · split at h
            · obtain ⟨m', u', h6, -, rfl⟩ := join_ok h
              have h4 := has_len ‹has [44] (blanks l2) = true›
              have h5 := blanks_len (blanks l2).tail
              have h7 := items_len hv obj f _ _ _ _ _ h6
              simp only [List.length_append]
              omega
            · cases h
theorem many_len {val : List UInt8 → List UInt8 → R (List N)} (hv : Bound val) {l : List UInt8} (hl : l ≠ []) {n : Nat} {v : List N} {r : List UInt8} (h : many val l = .ok (n, v) r) : v.length + 1 + r.length ≤ l.length ∧ r.length + 1 ≤ l.length := by
  unfold many at h
  have h1 : l.tail.length + 1 = l.length := by
    cases l with
    | nil => exact absurd rfl hl
    | cons c l => rfl
  have h2 := blanks_len l.tail
  split at h
  · have h3 := has_len ‹has [shut (has [123] l)] (blanks l.tail) = true›
    cases h
    simp; omega
  · have := items_len hv _ _ _ _ _ _ _ h
    omega
theorem leaf_ok {kind : Int} {key text : List UInt8} {p : Bool × List UInt8} {v : List N} {r : List UInt8} (h : leaf kind key text p = .ok v r) : p = (true, r) ∧ v = [⟨kind, key, text, 0⟩] := by
  obtain ⟨b, q⟩ := p
  unfold leaf at h
  cases b with
  | true => cases h; exact ⟨rfl, rfl⟩
  | false => cases h
theorem value_bound : ∀ d : Nat, Bound (value d) := by
  intro d
  induction d with
  | zero =>
    intro k l v r h
    rw [value.eq_def] at h
    dsimp only at h
    split at h
    · obtain ⟨h1, rfl⟩ := leaf_ok h; have := word_len h1; simp at *; omega
    · split at h
      · obtain ⟨h1, rfl⟩ := leaf_ok h; have := word_len h1; simp at *; omega
      · split at h
        · obtain ⟨h1, rfl⟩ := leaf_ok h; have := word_len h1; simp at *; omega
        · split at h
          · split at h
            · cases h
            · cases h; have := str_len ‹str l = _›; simp; omega
          · split at h
            · cases h
            · obtain ⟨h1, rfl⟩ := leaf_ok h; have := number_len h1; simp; omega
  | succ d ih =>
    intro k l v r h
    rw [value.eq_def] at h
    dsimp only at h
    split at h
    · obtain ⟨h1, rfl⟩ := leaf_ok h; have := word_len h1; simp at *; omega
    · split at h
      · obtain ⟨h1, rfl⟩ := leaf_ok h; have := word_len h1; simp at *; omega
      · split at h
        · obtain ⟨h1, rfl⟩ := leaf_ok h; have := word_len h1; simp at *; omega
        · split at h
          · split at h
            · cases h
            · cases h; have := str_len ‹str l = _›; simp; omega
          · split at h
            · split at h
              · cases h
              · cases h
                have := many_len ih (has_ne ‹has [91, 123] l = true›) ‹many (value d) l = _›
                simp only [List.length_cons]; omega
            · obtain ⟨h1, rfl⟩ := leaf_ok h; have := number_len h1; simp; omega
end Go.Proofs.YtdhdeaknflekpaaDoor.TJ
