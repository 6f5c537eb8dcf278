/- json, plain: the decimal digits of an int. -/
import Derived.Test.YtdhdeaknflekpaaDoorWx
namespace Go.Proofs.YtdhdeaknflekpaaDoor

theorem ofNat_digit {i : Nat} (h : i < 10) : (UInt8.ofNat (48 + i)).toNat = 48 + i := by
  rw [UInt8.toNat_ofNat']; omega
theorem dec_all (u : Nat) : ∀ c ∈ Lib.decDigits u, 48 ≤ c.toNat ∧ c.toNat ≤ 57 := by
  induction u using Nat.strongRecOn with
  | ind u ih =>
    by_cases h : u < 10
    · rw [Lib.decDigits, dif_pos h]
      intro c hc
      simp only [List.mem_cons, List.not_mem_nil, or_false] at hc
      subst hc
      rw [ofNat_digit h]
      omega
    · rw [Lib.decDigits, dif_neg h]
      intro c hc
      rcases List.mem_append.1 hc with h1 | h1
      · exact ih _ (by omega) c h1
      · simp only [List.mem_cons, List.not_mem_nil, or_false] at h1
        subst h1
        rw [ofNat_digit (by omega)]
        omega
theorem dec_val (u : Nat) : dval (Lib.decDigits u) = u := by
  induction u using Nat.strongRecOn with
  | ind u ih =>
    by_cases h : u < 10
    · rw [Lib.decDigits, dif_pos h]
      simp only [dval, List.foldl_cons, List.foldl_nil]
      rw [ofNat_digit h]
      omega
    · rw [Lib.decDigits, dif_neg h, dval_snoc, ih _ (by omega), ofNat_digit (by omega)]
      omega
theorem dec_head (u : Nat) (h1 : 1 ≤ u) : ∃ c r, Lib.decDigits u = c :: r ∧ c ≠ 48 := by
  induction u using Nat.strongRecOn with
  | ind u ih =>
    by_cases h : u < 10
    · rw [Lib.decDigits, dif_pos h]
      refine ⟨_, _, rfl, fun e => ?_⟩
      have := congrArg UInt8.toNat e
      rw [ofNat_digit h] at this
      have h2 : (48 : UInt8).toNat = 48 := rfl
      omega
    · obtain ⟨c, r, h2, h3⟩ := ih (u / 10) (by omega) (by omega)
      rw [Lib.decDigits, dif_neg h, h2]
      exact ⟨c, _, rfl, h3⟩
theorem digit_mem {c : UInt8} (h : 48 ≤ c.toNat ∧ c.toNat ≤ 57) : TJ.sDigit.contains c = true := by
  have : ∀ n : Fin 256, 48 ≤ n.val ∧ n.val ≤ 57 → TJ.sDigit.contains (UInt8.ofNat n.val) = true := by decide +kernel
  have h2 := this ⟨c.toNat, c.toNat_lt⟩ h
  simpa using h2
theorem drop_digits : ∀ l : List UInt8, (∀ c ∈ l, 48 ≤ c.toNat ∧ c.toNat ≤ 57) → l.dropWhile TJ.sDigit.contains = []
  | [], _ => rfl
  | c :: l, h => by
    rw [List.dropWhile_cons_of_pos (digit_mem (h c (by simp)))]
    exact drop_digits l fun d hd => h d (by simp [hd])
theorem whole_dec (u : Nat) : TJ.whole (Lib.decDigits u) = (true, []) := by
  have hall := dec_all u
  by_cases h0 : u = 0
  · subst h0
    rw [Lib.decDigits]
    rfl
  · obtain ⟨c, r, h1, h2⟩ := dec_head u (by omega)
    rw [h1] at hall ⊢
    have hc := digit_mem (hall c (by simp))
    have hr := drop_digits r fun d hd => hall d (by simp [hd])
    have e1 : TJ.has [48] (c :: r) = false := by simpa [TJ.has] using h2
    have e2 : TJ.digits (c :: r) = (true, []) := by
      have : TJ.has TJ.sDigit (c :: r) = true := hc
      rw [TJ.digits, if_pos this]
      simp only [List.tail_cons, hr]
    rw [TJ.whole, e1, e2]
    rfl
theorem itoa_split (n : Int) : ∃ (neg : Bool) (u : Nat), Lib.itoa n = (if neg then [45] else []) ++ Lib.decDigits u ∧ n = (if neg then -(u : Int) else u) ∧ (neg = true → 1 ≤ u) := by
  by_cases h : n < 0
  · refine ⟨true, n.natAbs, ?_, ?_, fun _ => by omega⟩
    · rw [Lib.itoa, if_pos h]; rfl
    · simp; omega
  · refine ⟨false, n.toNat, ?_, ?_, fun h => by cases h⟩
    · rw [Lib.itoa, if_neg h]; rfl
    · simp; omega
theorem itoa_num (n : Int) : TJ.isNum (Lib.itoa n) = true := by
  obtain ⟨neg, u, h1, -, -⟩ := itoa_split n
  rw [h1]
  have hw := whole_dec u
  cases neg with
  | true =>
    show decide (TJ.number (45 :: Lib.decDigits u) = (true, [])) = true
    exact decide_eq_true hw
  | false =>
    show decide (TJ.number (Lib.decDigits u) = (true, [])) = true
    have hall := dec_all u
    cases hd : Lib.decDigits u with
    | nil => rw [hd] at hw; cases hw
    | cons c r =>
      rw [hd] at hw hall
      have : TJ.has [45] (c :: r) = false := by
        have := (hall c (by simp)).1
        have hc : c ≠ 45 := by intro h; subst h; simp at this
        simpa [TJ.has] using hc
      rw [TJ.number, this]
      exact decide_eq_true hw
/-- an object with one number -/
def intsV (key : List UInt8) (n : Int) : List TJ.N := [⟨7, [], [], 1⟩, ⟨4, key, Lib.itoa n, 0⟩]
theorem ints_shaped (key : List UInt8) (n : Int) : TJ.shaped (intsV key n) = TJ.valid key := by
  have h1 : TJ.sound ⟨4, key, Lib.itoa n, 0⟩ = TJ.valid key := by
    cases hv : TJ.valid key <;> simp [TJ.sound, hv, itoa_num]
  have h0 : TJ.sound ⟨7, [], [], 1⟩ = true := by decide +kernel
  have h2 : TJ.sub 63 true [⟨4, key, Lib.itoa n, 0⟩] = if TJ.valid key then some [] else none := by
    rw [TJ.sub.eq_def]
    simp only [h1]
    cases TJ.valid key <;> simp
  rw [TJ.shaped, intsV, TJ.sub.eq_def]
  simp only [h0]
  have h3 : TJ.subs (TJ.sub 63 true) true 1 [] [⟨4, key, Lib.itoa n, 0⟩] = if TJ.valid key then some [] else none := by
    rw [TJ.subs, h2]
    cases TJ.valid key <;> simp [TJ.subs]
  cases hv : TJ.valid key <;> simp [hv] at h3 <;> simp [h3]
end Go.Proofs.YtdhdeaknflekpaaDoor
