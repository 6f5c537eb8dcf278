/- Plain functions on lists of bytes: what the program's functions of package words compute. -/
namespace Go.Proofs.YtjkhbcacpfaagaaDoor.TW

/-! Bytes are whole numbers here (a byte's own number: 'c.toNat'). -/
def letter (c : Int) : Bool := (decide (97 ≤ c) && decide (c ≤ 122)) || (decide (65 ≤ c) && decide (c ≤ 90)) || c == 95
def digit (c : Int) : Bool := decide (48 ≤ c) && decide (c ≤ 57)
def blank (c : Int) : Bool := c == 32 || c == 9 || c == 13 || c == 10
/-- a digit of base 16: its value, and whether it is one. -/
def hex (c : Int) : Int × Bool :=
  if 48 ≤ c ∧ c ≤ 57 then (c - 48, true) else if 97 ≤ c ∧ c ≤ 102 then (c - 87, true) else if 65 ≤ c ∧ c ≤ 70 then (c - 55, true) else (0, false)
theorem hex_bd (c : Int) : 0 ≤ (hex c).1 ∧ (hex c).1 ≤ 15 := by
  unfold hex
  split
  · simp only; omega
  · split
    · simp only; omega
    · split
      · simp only; omega
      · simp only; omega
/-- the number of the byte at a place; -1: there is none. -/
def byteAt (l : List UInt8) (i : Nat) : Int := match l[i]? with | some c => (c.toNat : Int) | none => -1
/-- what the escape that begins with the list's first byte stands for, and how many bytes it has (0: it is none). -/
def escape (l : List UInt8) : Int × Int :=
  let c := byteAt l 1
  if c = 34 ∨ c = 92 then (c, 2) else if c = 110 then (10, 2) else if c = 116 then (9, 2) else if c = 114 then (13, 2)
  else if c = 120 then
    if (hex (byteAt l 2)).2 && (hex (byteAt l 3)).2 then (16 * (hex (byteAt l 2)).1 + (hex (byteAt l 3)).1, 4) else (0, 0)
  else (0, 0)
/-- a byte more ahead of what has been read, if all was well -/
def qcons (l : List UInt8) (r : List UInt8 × Int × Int) : List UInt8 × Int × Int := if r.2.1 = 0 then (l ++ r.1, r.2.1, r.2.2) else r
/-- A string behind its quote ('from' is the quote's place, 'j' the place of the list's first byte): the bytes, the code, the place. -/
def quoted (from_ : Int) : List UInt8 → Int → Nat → List UInt8 × Int × Int
  | [], _, _ => ([], 82, from_)
  | _ :: r, j, m + 1 => quoted from_ r (j + 1) m
  | c :: r, j, 0 =>
    if (c.toNat : Int) = 10 then ([], 82, from_)
    else if (c.toNat : Int) = 34 then ([], 0, j + 1)
    else if (c.toNat : Int) = 92 then
      if (escape (c :: r)).2 = 0 then ([], 82, j)
      else qcons [UInt8.ofNat (escape (c :: r)).1.toNat] (quoted from_ r (j + 1) ((escape (c :: r)).2.toNat - 1))
    else qcons [c] (quoted from_ r (j + 1) 0)
theorem qcons_nil (r : List UInt8 × Int × Int) : qcons [] r = r := by
  unfold qcons
  split <;> simp
theorem qcons_qcons (l m : List UInt8) (r : List UInt8 × Int × Int) : qcons l (qcons m r) = qcons (l ++ m) r := by
  unfold qcons
  by_cases h : r.2.1 = 0 <;> simp [h]
theorem quoted_nl (f : Int) (c : UInt8) (r : List UInt8) (j : Int) (h : (c.toNat : Int) = 10) : quoted f (c :: r) j 0 = ([], 82, f) := by rw [quoted, if_pos h]
theorem quoted_quote (f : Int) (c : UInt8) (r : List UInt8) (j : Int) (h : (c.toNat : Int) = 34) : quoted f (c :: r) j 0 = ([], 0, j + 1) := by rw [quoted, if_neg (by omega), if_pos h]
theorem quoted_bad (f : Int) (c : UInt8) (r : List UInt8) (j : Int) (h : (c.toNat : Int) = 92) (h' : (escape (c :: r)).2 = 0) : quoted f (c :: r) j 0 = ([], 82, j) := by rw [quoted, if_neg (by omega), if_neg (by omega), if_pos h, if_pos h']
theorem quoted_plain (f : Int) (c : UInt8) (r : List UInt8) (j : Int) (h1 : (c.toNat : Int) ≠ 10) (h2 : (c.toNat : Int) ≠ 34) (h3 : (c.toNat : Int) ≠ 92) : quoted f (c :: r) j 0 = qcons [c] (quoted f r (j + 1) 0) := by
  rw [quoted, if_neg h1, if_neg h2, if_neg h3]
theorem escape_len (l : List UInt8) : (escape l).2 = 0 ∨ (escape l).2 = 2 ∨ (escape l).2 = 4 := by
  unfold escape
  simp only
  repeat' split
  all_goals simp
theorem escape_fits (l : List UInt8) : (escape l).2 = 0 ∨ 2 ≤ (escape l).2 ∧ (escape l).2 ≤ l.length := by
  have hb : ∀ i, byteAt l i ≠ -1 → i < l.length := fun i h => by
    apply Decidable.byContradiction
    intro hn
    exact h (by simp [byteAt, List.getElem?_eq_none (Nat.le_of_not_lt hn)])
  have hx : (hex (-1)).2 = false := by decide
  unfold escape
  simp only
  repeat' split
  all_goals first | (left; rfl) | skip
  all_goals right
  all_goals refine ⟨by simp, ?_⟩
  · have := hb 1 (by omega); simp only; omega
  · have := hb 1 (by omega); simp only; omega
  · have := hb 1 (by omega); simp only; omega
  · have := hb 1 (by omega); simp only; omega
  · rename_i h
    have := hb 3 (fun e => by rw [e, hx] at h; simp at h); simp only; omega
theorem byteAt_le (l : List UInt8) (i : Nat) : byteAt l i ≤ 255 := by
  unfold byteAt
  split
  · rename_i c _; have := c.toNat_lt; omega
  · omega
theorem escape_byte (l : List UInt8) : 0 ≤ (escape l).1 ∧ (escape l).1 ≤ 255 := by
  have h1 := hex_bd (byteAt l 2)
  have h2 := hex_bd (byteAt l 3)
  have h3 := byteAt_le l 1
  unfold escape
  simp only
  repeat' split
  all_goals simp only
  all_goals omega
theorem quoted_skip (from_ : Int) : ∀ (l : List UInt8) (j : Int) (m : Nat), quoted from_ l j m = quoted from_ (l.drop m) (j + m) 0
  | [], _, m => by cases m <;> simp [quoted]
  | _ :: r, j, m + 1 => by
    rw [quoted, quoted_skip from_ r (j + 1) m, List.drop_succ_cons, show j + 1 + (m : Int) = j + ((m + 1 : Nat) : Int) by omega]
  | c :: r, j, 0 => by simp
theorem quoted_escape (f : Int) (c : UInt8) (r : List UInt8) (j : Int) (h : (c.toNat : Int) = 92) (h' : (escape (c :: r)).2 ≠ 0) :
    quoted f (c :: r) j 0 = qcons [UInt8.ofNat (escape (c :: r)).1.toNat] (quoted f ((c :: r).drop (escape (c :: r)).2.toNat) (j + (escape (c :: r)).2) 0) := by
  have h2 := escape_fits (c :: r)
  rw [quoted, if_neg (by omega), if_neg (by omega), if_pos h, if_neg h', quoted_skip]
  generalize (escape (c :: r)).2 = n at *
  obtain ⟨m, rfl⟩ : ∃ m : Nat, n = (m : Int) + 1 := ⟨(n - 1).toNat, by omega⟩
  rw [show ((m : Int) + 1).toNat = m + 1 by omega, List.drop_succ_cons, show m + 1 - 1 = m by omega, show j + 1 + (m : Int) = j + ((m : Int) + 1) by omega]
/-- How many bytes stand ahead of a regex's closing slash. -/
def slashed : List UInt8 → Nat → Option Nat
  | [], _ => none
  | _ :: r, m + 1 => (slashed r m).map (· + 1)
  | c :: r, 0 =>
    if (c.toNat : Int) = 10 then none
    else if (c.toNat : Int) = 47 then some 0
    else if (c.toNat : Int) = 92 ∧ byteAt r 0 ≠ -1 ∧ byteAt r 0 ≠ 10 then (slashed r 1).map (· + 1)
    else (slashed r 0).map (· + 1)
theorem slashed_stop (c : UInt8) (r : List UInt8) (h : (c.toNat : Int) = 10) : slashed (c :: r) 0 = none := by rw [slashed, if_pos h]
theorem slashed_end (c : UInt8) (r : List UInt8) (h : (c.toNat : Int) = 47) : slashed (c :: r) 0 = some 0 := by rw [slashed, if_neg (by omega), if_pos h]
theorem slashed_two (c : UInt8) (r : List UInt8) (h : (c.toNat : Int) = 92) (h1 : byteAt r 0 ≠ -1) (h2 : byteAt r 0 ≠ 10) : slashed (c :: r) 0 = (slashed (r.drop 1) 0).map (· + 2) := by
  rw [slashed, if_neg (by omega), if_neg (by omega), if_pos ⟨h, h1, h2⟩]
  cases r with
  | nil => simp [slashed]
  | cons d r => simp only [slashed, List.drop_succ_cons, List.drop_zero]; cases slashed r 0 <;> simp
theorem slashed_one (c : UInt8) (r : List UInt8) (h1 : (c.toNat : Int) ≠ 10) (h2 : (c.toNat : Int) ≠ 47) (h3 : ¬ ((c.toNat : Int) = 92 ∧ byteAt r 0 ≠ -1 ∧ byteAt r 0 ≠ 10)) : slashed (c :: r) 0 = (slashed r 0).map (· + 1) := by
  rw [slashed, if_neg h1, if_neg h2, if_neg h3]
/-- A regex behind its slash: as 'quoted' tells it. -/
def slashes (from_ : Int) (l : List UInt8) : List UInt8 × Int × Int := match slashed l 0 with | some n => (l.take n, 0, from_ + n + 2) | none => ([], 82, from_)
end Go.Proofs.YtjkhbcacpfaagaaDoor.TW
