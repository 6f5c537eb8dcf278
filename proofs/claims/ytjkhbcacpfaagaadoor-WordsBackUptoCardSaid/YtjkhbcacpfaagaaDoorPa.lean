/- Plain laws: a spelling is cut as just its word. -/
import Derived.Test.YtjkhbcacpfaagaaDoorWh
set_option linter.unusedSimpArgs false
set_option linter.unusedVariables false
namespace Go.Proofs.YtjkhbcacpfaagaaDoor.TW

theorem takeWhile_all {p : UInt8 → Bool} : ∀ (l r : List UInt8), l.all p = true → (r = [] ∨ ∃ d r', r = d :: r' ∧ p d = false) → (l ++ r).takeWhile p = l
  | [], r, _, h => by
    rcases h with rfl | ⟨d, r', rfl, hd⟩
    · rfl
    · simp [List.takeWhile_cons, hd]
  | c :: l, r, ha, h => by
    simp only [List.all_cons, Bool.and_eq_true] at ha
    rw [List.cons_append, List.takeWhile_cons, if_pos ha.1, takeWhile_all l r ha.2 h]
theorem isN_32 : isN 32 = false := by decide
theorem isD_32 : isD 32 = false := by decide
/-- what may stand behind a word: nothing, or a blank -/
def Behind (r : List UInt8) : Prop := r = [] ∨ ∃ r', r = 32 :: r'
theorem Behind.stop {p : UInt8 → Bool} (hp : p 32 = false) {r : List UInt8} (h : Behind r) : r = [] ∨ ∃ d r', r = d :: r' ∧ p d = false := by
  rcases h with h | ⟨r', h⟩
  · exact .inl h
  · exact .inr ⟨32, r', h, hp⟩
theorem letter_facts (c : UInt8) (h : letter c.toNat = true) : blank c.toNat = false ∧ (c.toNat : Int) ≠ 35 := by
  have h1 : ((97 ≤ (c.toNat : Int) ∧ (c.toNat : Int) ≤ 122) ∨ 65 ≤ (c.toNat : Int) ∧ (c.toNat : Int) ≤ 90) ∨ (c.toNat : Int) = 95 := by simpa [letter] using h
  refine ⟨?_, by omega⟩
  simp only [blank, Bool.or_eq_false_iff, beq_eq_false_iff_ne]
  omega
theorem digit_facts (c : UInt8) (h : digit c.toNat = true) : blank c.toNat = false ∧ (c.toNat : Int) ≠ 35 ∧ letter c.toNat = false := by
  have h1 : 48 ≤ (c.toNat : Int) ∧ (c.toNat : Int) ≤ 57 := by simpa [digit] using h
  refine ⟨?_, by omega, ?_⟩
  · simp only [blank, Bool.or_eq_false_iff, beq_eq_false_iff_ne]
    omega
  · simp only [letter, Bool.or_eq_false_iff, Bool.and_eq_false_iff, decide_eq_false_iff_not, beq_eq_false_iff_ne]
    omega
theorem step_name (t r : List UInt8) (hs : nsound t = true) (hr : Behind r) : step (t ++ r) = .word 1 t 0 t.length ∧ t ≠ [] := by
  simp only [nsound, Bool.and_eq_true, decide_eq_true_eq, Bool.not_eq_true'] at hs
  obtain ⟨⟨⟨h1, h2⟩, h3⟩, h4⟩ := hs
  refine ⟨?_, h1⟩
  cases t with
  | nil => exact absurd rfl h1
  | cons c t =>
    simp only [List.all_cons, Bool.and_eq_true] at h4
    have hd : digit c.toNat = false := by simpa [byteAt] using h3
    have hl : letter c.toNat = true := by have := h4.1; simpa [isN, hd] using this
    obtain ⟨f1, f2⟩ := letter_facts c hl
    have ht := takeWhile_all t r h4.2 (hr.stop isN_32)
    rw [List.cons_append, step, if_neg (by simp [f1]), if_neg f2, if_pos hl, ht, if_neg (by simp only [List.length_cons] at h2; omega)]
    simp only [List.length_cons, Nat.add_comm 1]
theorem hex_hexd : ∀ (n : Nat), n < 16 → hex ((hexd n).toNat : Int) = ((n : Int), true) := by decide
theorem quoted_byte (f : Int) (c : UInt8) (r : List UInt8) (j : Int) : quoted f (qbyte c ++ r) j 0 = qcons [c] (quoted f r (j + (qbyte c).length) 0) := by
  have hc := c.toNat_lt
  have hq : (92 : UInt8).toNat = 92 := rfl
  unfold qbyte
  split
  · rename_i h
    have he : escape (92 :: c :: r) = ((c.toNat : Int), 2) := by
      unfold escape
      exact if_pos h
    rw [List.cons_append, List.cons_append, List.nil_append, quoted_escape f 92 (c :: r) j rfl (by rw [he]; simp), he]
    simp
  · split
    · rename_i h
      have hcc : c = 10 := UInt8.toNat_inj.1 (by have : c.toNat = 10 := by omega
                                                 rw [this]; rfl)
      subst hcc
      have he : escape (92 :: 110 :: r) = (10, 2) := by simp [escape, byteAt]
      rw [List.cons_append, List.cons_append, List.nil_append, quoted_escape f 92 (110 :: r) j rfl (by rw [he]; simp), he]
      simp
    · split
      · rename_i h
        have hcc : c = 9 := UInt8.toNat_inj.1 (by have : c.toNat = 9 := by omega
                                                  rw [this]; rfl)
        subst hcc
        have he : escape (92 :: 116 :: r) = (9, 2) := by simp [escape, byteAt]
        rw [List.cons_append, List.cons_append, List.nil_append, quoted_escape f 92 (116 :: r) j rfl (by rw [he]; simp), he]
        simp
      · split
        · rename_i h
          have hcc : c = 13 := UInt8.toNat_inj.1 (by have : c.toNat = 13 := by omega
                                                     rw [this]; rfl)
          subst hcc
          have he : escape (92 :: 114 :: r) = (13, 2) := by simp [escape, byteAt]
          rw [List.cons_append, List.cons_append, List.nil_append, quoted_escape f 92 (114 :: r) j rfl (by rw [he]; simp), he]
          simp
        · split
          · have h1 := hex_hexd (c.toNat / 16) (by omega)
            have h2 := hex_hexd (c.toNat % 16) (by omega)
            have he : escape (92 :: 120 :: hexd (c.toNat / 16) :: hexd (c.toNat % 16) :: r) = ((c.toNat : Int), 4) := by
              simp only [escape, byteAt, List.getElem?_cons_succ, List.getElem?_cons_zero, h1, h2]
              simp
              omega
            simp only [List.cons_append, List.nil_append]
            rw [quoted_escape f 92 _ j rfl (by rw [he]; simp), he]
            simp
          · rw [List.cons_append, List.nil_append, quoted_plain f c r j (by omega) (by omega) (by omega)]
            simp
theorem quoted_flat (f : Int) : ∀ (t r : List UInt8) (j : Int), quoted f (t.flatMap qbyte ++ 34 :: r) j 0 = (t, 0, j + (t.flatMap qbyte).length + 1)
  | [], r, j => by rw [List.flatMap_nil, List.nil_append, quoted_quote f 34 r j rfl]; simp
  | c :: t, r, j => by
    rw [List.flatMap_cons, List.append_assoc, quoted_byte, quoted_flat f t r]
    simp only [qcons, if_true, List.length_append]
    refine Prod.ext rfl (Prod.ext rfl ?_)
    simp only
    omega
theorem slashed_flat : ∀ (n : Nat) (t r : List UInt8), t.length ≤ n → rsound t 0 = true → slashed (t ++ 47 :: r) 0 = some t.length
  | _, [], r, _, _ => by rw [List.nil_append, slashed_end 47 r rfl]; rfl
  | 0, c :: t, r, hn, _ => by simp at hn
  | n + 1, c :: t, r, hn, hs => by
    simp only [List.length_cons] at hn
    by_cases h1 : (c.toNat : Int) = 47 ∨ (c.toNat : Int) = 10
    · rw [rsound_bad c t h1] at hs; cases hs
    · by_cases h2 : (c.toNat : Int) = 92
      · by_cases h3 : byteAt t 0 = -1 ∨ byteAt t 0 = 10
        · rw [rsound_esc c t h2 h3] at hs; cases hs
        · rw [rsound_two c t h2 (by omega) (by omega)] at hs
          cases t with
          | nil => exact absurd (.inl rfl) h3
          | cons d t =>
            simp only [List.length_cons] at hn
            have hb : byteAt (d :: (t ++ 47 :: r)) 0 = byteAt (d :: t) 0 := rfl
            rw [List.cons_append, List.cons_append, slashed_two c _ h2 (by rw [hb]; omega) (by rw [hb]; omega)]
            simp only [List.drop_succ_cons, List.drop_zero] at hs ⊢
            rw [slashed_flat n t r (by omega) hs]
            simp
      · rw [rsound_one c t (by omega) (by omega) h2] at hs
        rw [List.cons_append, slashed_one c _ (by omega) (by omega) (fun h => h2 h.1), slashed_flat n t r (by omega) hs]
        simp
end Go.Proofs.YtjkhbcacpfaagaaDoor.TW
