/- Plain laws: the words of a joined text are the words that were joined. -/
import Derived.Test.YtjkhbcacpfaagaaDoorPa
set_option linter.unusedSimpArgs false
set_option linter.unusedVariables false
namespace Go.Proofs.YtjkhbcacpfaagaaDoor.TW

theorem number_snoc (l : List UInt8) (c : UInt8) (n : Int) : number (l ++ [c]) n = min (10 * number l n + ((c.toNat : Int) - 48)) 65536 := by simp [number]
theorem dig_byte (k : Nat) (h : k < 10) : (UInt8.ofNat (48 + k)).toNat = 48 + k := by rw [UInt8.toNat_ofNat']; omega
theorem decDigits_spec : ∀ (m n : Nat), n ≤ m → n ≤ 65535 → (Lib.decDigits n).all isD = true ∧ number (Lib.decDigits n) 0 = n ∧ Lib.decDigits n ≠ []
  | m, n, hm, hn => by
    rw [Lib.decDigits]
    split
    · rename_i h
      have hb := dig_byte n h
      refine ⟨?_, ?_, by simp⟩
      · simp only [List.all_cons, List.all_nil, Bool.and_true, isD, digit, Bool.and_eq_true, decide_eq_true_eq]; omega
      · simp only [number, List.foldl_cons, List.foldl_nil]; omega
    · rename_i h
      cases m with
      | zero => omega
      | succ m =>
        obtain ⟨h1, h2, h3⟩ := decDigits_spec m (n / 10) (by omega) (by omega)
        have hb := dig_byte (n % 10) (by omega)
        refine ⟨?_, ?_, by simp⟩
        · rw [List.all_append, h1]
          simp only [List.all_cons, List.all_nil, Bool.and_true, isD, digit, Bool.true_and, Bool.and_eq_true, decide_eq_true_eq]; omega
        · rw [number_snoc, h2]; omega
theorem step_number (n : Int) (r : List UInt8) (h0 : 0 ≤ n) (h1 : n ≤ 65535) (hr : Behind r) : step (Lib.itoa n ++ r) = .word 4 [] n (Lib.itoa n).length ∧ Lib.itoa n ≠ [] := by
  obtain ⟨k, rfl⟩ : ∃ k : Nat, n = k := ⟨n.toNat, by omega⟩
  have hi : Lib.itoa (k : Int) = Lib.decDigits k := by rw [Lib.itoa, if_neg (by omega)]; rfl
  obtain ⟨g1, g2, g3⟩ := decDigits_spec k k (Nat.le_refl _) (by omega)
  rw [hi]
  refine ⟨?_, g3⟩
  generalize Lib.decDigits k = t at *
  cases t with
  | nil => exact absurd rfl g3
  | cons c t =>
    simp only [List.all_cons, Bool.and_eq_true] at g1
    have hd : digit c.toNat = true := g1.1
    obtain ⟨f1, f2, f3⟩ := digit_facts c hd
    have ht := takeWhile_all t r g1.2 (hr.stop isD_32)
    rw [List.cons_append, step, if_neg (by simp [f1]), if_neg f2, if_neg (by simp [f3]), if_pos hd, ht, g2, if_neg (by omega)]
    simp only [List.length_cons, Nat.add_comm 1]
theorem sign_facts (c : UInt8) (h : signs.contains c = true) : blank c.toNat = false ∧ (c.toNat : Int) ≠ 35 ∧ letter c.toNat = false ∧ digit c.toNat = false ∧ (c.toNat : Int) ≠ 34 ∧ (c.toNat : Int) ≠ 47 := by
  have hm : c ∈ signs := List.contains_iff_mem.1 h
  simp only [signs, List.mem_cons, List.not_mem_nil, or_false] at hm
  rcases hm with rfl | rfl | rfl | rfl | rfl | rfl | rfl | rfl | rfl | rfl | rfl | rfl | rfl <;> decide
theorem step_sign (c : UInt8) (r : List UInt8) (h : signs.contains c = true) : step (c :: r) = .word 5 [c] 0 1 := by
  obtain ⟨f1, f2, f3, f4, f5, f6⟩ := sign_facts c h
  rw [step, if_neg (by simp [f1]), if_neg f2, if_neg (by simp [f3]), if_neg (by simp [f4]), if_neg f5, if_neg f6, if_pos h]
/-- a word as it comes back: fields that its kind does not use are zero -/
def back (x : W) (p : Int) : W := ⟨x.kind, if x.kind = 4 then [] else x.text, if x.kind = 4 then x.n else 0, p⟩
/-- A SPELLING IS CUT AS JUST THAT WORD. -/
theorem step_spell (x : W) (r : List UInt8) (hs : soundW x = true) (hr : Behind r) : step (spellW x ++ r) = .word x.kind (if x.kind = 4 then [] else x.text) (if x.kind = 4 then x.n else 0) (spellW x).length ∧ spellW x ≠ [] := by
  obtain ⟨k, t, n, p⟩ := x
  simp only [soundW] at hs
  simp only [spellW]
  rw [spell_yes hs]
  unfold sound at hs
  by_cases k1 : k = 1
  · subst k1
    simp only [if_true] at hs
    exact step_name t r hs hr
  rw [if_neg k1] at hs
  by_cases k2 : k = 2
  · subst k2
    refine ⟨?_, by simp [quote]⟩
    simp only [if_true]
    have hq := quoted_flat 0 t r 1
    rw [quote, List.append_assoc, List.cons_append, List.cons_append, List.nil_append, step, if_neg (by decide), if_neg (by decide), if_neg (by decide), if_neg (by decide), if_pos (by decide), hq]
    simp only [if_true, List.length_cons, List.length_append, List.length_nil]
    congr 1
    omega
  rw [if_neg k2] at hs
  by_cases k3 : k = 3
  · subst k3
    simp only [if_true] at hs
    refine ⟨?_, by simp⟩
    have hq := slashed_flat t.length t r (Nat.le_refl _) hs
    have hsl : slashes 0 (t ++ 47 :: r) = (t, 0, (t.length : Int) + 2) := by simp [slashes, hq]
    have e : ((47 : UInt8) :: t ++ [47] ++ r) = 47 :: (t ++ 47 :: r) := by simp
    simp only [show ¬ ((3 : Int) = 2) by decide, if_false, if_true, show ¬ ((3 : Int) = 4) by decide]
    rw [e, step, if_neg (by decide), if_neg (by decide), if_neg (by decide), if_neg (by decide), if_neg (by decide), if_pos (by decide), hsl]
    simp only [if_true, List.length_cons, List.length_append, List.length_nil]
    congr 1
  rw [if_neg k3] at hs
  by_cases k4 : k = 4
  · subst k4
    simp only [if_true, Bool.and_eq_true, decide_eq_true_eq] at hs
    exact step_number n r hs.1 hs.2 hr
  rw [if_neg k4] at hs
  by_cases k5 : k = 5
  · subst k5
    simp only [if_true, Bool.and_eq_true, decide_eq_true_eq] at hs
    obtain ⟨c, rfl⟩ := List.length_eq_one_iff.1 hs.1
    refine ⟨?_, by simp⟩
    exact step_sign c r hs.2
  · rw [if_neg k5] at hs; cases hs
/-- the words of a list at their places -/
def place : List W → Int → List W
  | [], _ => []
  | x :: r, j => back x j :: place r (j + (spellW x).length + 1)
theorem drop_app {α : Type} (a b : List α) : (a ++ b).drop a.length = b := by simp
theorem cut_word (x : W) (r : List UInt8) (j : Int) (hs : soundW x = true) (hr : Behind r) : cut (spellW x ++ r) j 0 = wapp [back x j] (cut r (j + (spellW x).length) 0) := by
  obtain ⟨h1, h2⟩ := step_spell x r hs hr
  generalize hy : spellW x = y at *
  cases y with
  | nil => exact absurd rfl h2
  | cons c y =>
    rw [List.cons_append] at h1 ⊢
    rw [cut_step, h1]
    simp only [List.length_cons, back]
    rw [show 1 + (y.length + 1 - 1) = (c :: y).length by simp; omega, show c :: (y ++ r) = (c :: y) ++ r by rfl, drop_app]
    simp only [List.length_cons]
theorem cut_join : ∀ (l : List W) (j : Int), l.all soundW = true → cut (Lib.join (l.map spellW) [32]) j 0 = (place l j, 0, 0)
  | [], j, _ => rfl
  | [x], j, hs => by
    simp only [List.all_cons, List.all_nil, Bool.and_true] at hs
    have := cut_word x [] j hs (.inl rfl)
    rw [List.append_nil] at this
    rw [List.map_cons, List.map_nil, Lib.join_one, this]
    rfl
  | x :: y :: r, j, hs => by
    simp only [List.all_cons, Bool.and_eq_true] at hs
    have e : Lib.join ((x :: y :: r).map spellW) [32] = spellW x ++ 32 :: Lib.join ((y :: r).map spellW) [32] := by
      rw [List.map_cons, Lib.join_cons, List.map_cons, Lib.join_cons]
      simp [Lib.joinTail]
    have ih := cut_join (y :: r) (j + (spellW x).length + 1) (by simp only [List.all_cons, Bool.and_eq_true]; exact hs.2)
    rw [e, cut_word x _ j hs.1 (.inr ⟨_, rfl⟩), cut_blank 32 _ _ (by decide), ih]
    simp [wapp, place]
end Go.Proofs.YtjkhbcacpfaagaaDoor.TW
