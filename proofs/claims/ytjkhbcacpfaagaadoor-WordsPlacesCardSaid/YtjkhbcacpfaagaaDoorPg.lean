/- Plain laws: what is cut off behind a step does not change the step. -/
import Derived.Test.YtjkhbcacpfaagaaDoorPf
set_option linter.unusedSimpArgs false
set_option linter.unusedVariables false
namespace Go.Proofs.YtjkhbcacpfaagaaDoor.TW

theorem takeWhile_take {p : UInt8 → Bool} : ∀ (r : List UInt8) (m : Nat), (r.takeWhile p).length ≤ m → (r.take m).takeWhile p = r.takeWhile p
  | [], m, _ => by simp
  | c :: r, 0, h => by
    by_cases hc : p c
    · simp [List.takeWhile_cons, hc] at h
    · simp [List.takeWhile_cons, hc]
  | c :: r, m + 1, h => by
    rw [List.take_succ_cons, List.takeWhile_cons, List.takeWhile_cons]
    by_cases hc : p c
    · rw [if_pos hc, if_pos hc, takeWhile_take r m (by simpa [List.takeWhile_cons, hc] using h)]
    · rw [if_neg hc, if_neg hc]
theorem byteAt_take (l : List UInt8) (k i : Nat) (h : i < k) : byteAt (l.take k) i = byteAt l i := by
  unfold byteAt
  rw [List.getElem?_take, if_pos h]
theorem escape_take (l : List UInt8) (k : Nat) (h : (escape l).2 ≠ 0) (hk : (escape l).2 ≤ k) : escape (l.take k) = escape l := by
  have h2 := escape_fits l
  have e1 : byteAt (l.take k) 1 = byteAt l 1 := byteAt_take l k 1 (by omega)
  by_cases h4 : (escape l).2 = 4
  · have e2 : byteAt (l.take k) 2 = byteAt l 2 := byteAt_take l k 2 (by omega)
    have e3 : byteAt (l.take k) 3 = byteAt l 3 := byteAt_take l k 3 (by omega)
    unfold escape
    rw [e1, e2, e3]
  · have hl := escape_len l
    unfold escape at *
    simp only [e1] at *
    repeat' split
    all_goals first | rfl | (exfalso; simp_all; done)
theorem quoted_take (f : Int) : ∀ (r : List UInt8) (j : Int) (m k : Nat), (quoted f r j m).2.1 = 0 → (quoted f r j m).2.2 ≤ j + k → quoted f (r.take k) j m = quoted f r j m
  | [], _, _, _, _, _ => by simp
  | c :: r, j, m, 0, h, hk => by
    exfalso
    have := quoted_ends f (c :: r) j m
    omega
  | c :: r, j, m + 1, k + 1, h, hk => by
    rw [quoted] at h hk
    rw [List.take_succ_cons, quoted, quoted, quoted_take f r (j + 1) m k h (by omega)]
  | c :: r, j, 0, k + 1, h, hk => by
    have hq : ∀ (x : List UInt8) (q : List UInt8 × Int × Int), (qcons x q).2 = q.2 := fun x q => by unfold qcons; split <;> rfl
    by_cases h1 : (c.toNat : Int) = 10
    · rw [quoted_nl f c r j h1] at h; cases h
    by_cases h2 : (c.toNat : Int) = 34
    · rw [List.take_succ_cons, quoted_quote f c _ j h2, quoted_quote f c _ j h2]
    by_cases h3 : (c.toNat : Int) = 92
    · by_cases he : (escape (c :: r)).2 = 0
      · rw [quoted_bad f c r j h3 he] at h; cases h
      · have hx := escape_fits (c :: r)
        have e0 : quoted f (c :: r) j 0 = qcons [UInt8.ofNat (escape (c :: r)).1.toNat] (quoted f r (j + 1) ((escape (c :: r)).2.toNat - 1)) := by
          rw [quoted, if_neg h1, if_neg h2, if_pos h3, if_neg he]
        rw [e0, hq] at h hk
        have hs := quoted_skip f r (j + 1) ((escape (c :: r)).2.toNat - 1)
        have hn := quoted_ends f (r.drop ((escape (c :: r)).2.toNat - 1)) (j + 1 + ((escape (c :: r)).2.toNat - 1 : Nat)) 0
        rw [← hs] at hn
        have et : escape (c :: r.take k) = escape (c :: r) := by
          have := escape_take (c :: r) (k + 1) he (by omega)
          rwa [List.take_succ_cons] at this
        rw [e0, List.take_succ_cons, quoted, if_neg h1, if_neg h2, if_pos h3, et, if_neg he, quoted_take f r (j + 1) _ k h (by omega)]
    · rw [quoted_plain f c r j h1 h2 h3, hq] at h hk
      rw [List.take_succ_cons, quoted_plain f c _ j h1 h2 h3, quoted_plain f c _ j h1 h2 h3, quoted_take f r (j + 1) 0 k h (by omega)]
theorem slashed_take : ∀ (r : List UInt8) (m k n : Nat), slashed r m = some n → n < k → slashed (r.take k) m = some n
  | [], _, _, _, h, _ => by simp [slashed] at h
  | c :: r, m, 0, n, h, hk => by omega
  | c :: r, m + 1, k + 1, n, h, hk => by
    rw [slashed] at h
    obtain ⟨i, hi, rfl⟩ := Option.map_eq_some_iff.1 h
    rw [List.take_succ_cons, slashed, slashed_take r m k i hi (by omega)]
    rfl
  | c :: r, 0, k + 1, n, h, hk => by
    rw [List.take_succ_cons]
    by_cases h1 : (c.toNat : Int) = 10
    · rw [slashed_stop c r h1] at h; cases h
    by_cases h2 : (c.toNat : Int) = 47
    · rw [slashed_end c r h2] at h; rw [slashed_end c _ h2]; exact h
    by_cases h3 : (c.toNat : Int) = 92 ∧ byteAt r 0 ≠ -1 ∧ byteAt r 0 ≠ 10
    · have e : slashed (c :: r) 0 = (slashed r 1).map (· + 1) := by rw [slashed, if_neg h1, if_neg h2, if_pos h3]
      rw [e] at h
      obtain ⟨i, hi, rfl⟩ := Option.map_eq_some_iff.1 h
      have hb : byteAt (r.take k) 0 = byteAt r 0 := byteAt_take r k 0 (by omega)
      rw [slashed, if_neg h1, if_neg h2, hb, if_pos h3, slashed_take r 1 k i hi (by omega)]
      rfl
    · rw [slashed_one c r h1 h2 h3] at h
      obtain ⟨i, hi, rfl⟩ := Option.map_eq_some_iff.1 h
      have hb : byteAt (r.take k) 0 = byteAt r 0 := byteAt_take r k 0 (by omega)
      rw [slashed_one c _ h1 h2 (by rw [hb]; exact h3), slashed_take r 0 k i hi (by omega)]
      rfl
def slen : Step → Nat
  | .skip n => n
  | .word _ _ _ len => len
  | .err _ _ => 0
def sgood : Step → Bool
  | .err _ _ => false
  | _ => true
theorem step_take (c : UInt8) (r : List UInt8) (k : Nat) (hg : sgood (step (c :: r)) = true) (h : slen (step (c :: r)) ≤ k + 1) : step (c :: r.take k) = step (c :: r) := by
  rw [step] at h hg
  rw [step, step]
  by_cases h1 : blank c.toNat = true
  · rw [if_pos h1, if_pos h1]
  rw [if_neg h1] at h hg
  rw [if_neg h1, if_neg h1]
  by_cases h2 : (c.toNat : Int) = 35
  · rw [if_pos h2] at h
    simp only [slen] at h
    rw [if_pos h2, if_pos h2, takeWhile_take r k (by omega)]
  rw [if_neg h2] at h hg
  rw [if_neg h2, if_neg h2]
  by_cases h3 : letter c.toNat = true
  · rw [if_pos h3] at h hg
    by_cases h4 : 1 + (r.takeWhile isN).length > 24
    · rw [if_pos h4] at hg; cases hg
    rw [if_neg h4] at h
    simp only [slen] at h
    rw [if_pos h3, if_pos h3, takeWhile_take r k (by omega)]
  rw [if_neg h3] at h hg
  rw [if_neg h3, if_neg h3]
  by_cases h4 : digit c.toNat = true
  · rw [if_pos h4] at h hg
    by_cases h5 : number (c :: r.takeWhile isD) 0 > 65535
    · rw [if_pos h5] at hg; cases hg
    rw [if_neg h5] at h
    simp only [slen] at h
    rw [if_pos h4, if_pos h4, takeWhile_take r k (by omega)]
  rw [if_neg h4] at h hg
  rw [if_neg h4, if_neg h4]
  by_cases h5 : (c.toNat : Int) = 34
  · rw [if_pos h5] at h hg
    by_cases h6 : (quoted 0 r 1 0).2.1 = 0
    · rw [if_pos h6] at h
      simp only [slen] at h
      have := quoted_ends 0 r 1 0
      rw [if_pos h5, if_pos h5, quoted_take 0 r 1 0 k h6 (by omega)]
    · rw [if_neg h6] at hg; cases hg
  rw [if_neg h5] at h hg
  rw [if_neg h5, if_neg h5]
  by_cases h6 : (c.toNat : Int) = 47
  · rw [if_pos h6] at h hg
    rw [if_pos h6, if_pos h6]
    unfold slashes at *
    cases hs : slashed r 0 with
    | none => rw [hs] at hg; simp [sgood] at hg
    | some n =>
      rw [hs] at h
      simp only [if_true, slen] at h
      rw [slashed_take r 0 k n hs (by omega)]
      simp only [List.take_take]
      rw [Nat.min_eq_left (by omega)]
  rw [if_neg h6] at h hg
  rw [if_neg h6, if_neg h6]
end Go.Proofs.YtjkhbcacpfaagaaDoor.TW
