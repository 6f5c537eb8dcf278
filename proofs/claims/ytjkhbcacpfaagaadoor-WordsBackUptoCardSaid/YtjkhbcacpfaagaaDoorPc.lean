/- Plain laws: what is cut is sound; where errors lie. -/
import Derived.Test.YtjkhbcacpfaagaaDoorPb
set_option linter.unusedSimpArgs false
set_option linter.unusedVariables false
namespace Go.Proofs.YtjkhbcacpfaagaaDoor.TW

theorem tw_le (p : UInt8 → Bool) (l : List UInt8) : (l.takeWhile p).length ≤ l.length := (List.takeWhile_prefix p).length_le
theorem quoted_len (f : Int) : ∀ (l : List UInt8) (j : Int) (m : Nat), (quoted f l j m).1.length ≤ l.length
  | [], _, _ => by simp [quoted]
  | _ :: r, j, m + 1 => by
    have := quoted_len f r (j + 1) m
    rw [quoted]; simp only [List.length_cons]; omega
  | c :: r, j, 0 => by
    have hq : ∀ (x : UInt8) (q : List UInt8 × Int × Int), (qcons [x] q).1.length ≤ q.1.length + 1 := fun x q => by unfold qcons; split <;> simp
    have h1 := quoted_len f r (j + 1) 0
    have h2 := quoted_len f r (j + 1) ((escape (c :: r)).2.toNat - 1)
    rw [quoted]
    simp only [List.length_cons]
    repeat' split
    · simp
    · simp
    · simp
    · have := hq (UInt8.ofNat (escape (c :: r)).1.toNat) (quoted f r (j + 1) ((escape (c :: r)).2.toNat - 1)); omega
    · have := hq c (quoted f r (j + 1) 0); omega
theorem quoted_place (f : Int) : ∀ (l : List UInt8) (j : Int) (m : Nat), f ≤ j → (quoted f l j m).2.1 ≠ 0 → f ≤ (quoted f l j m).2.2 ∧ (quoted f l j m).2.2 ≤ j + l.length
  | [], j, _, hf, _ => by simp [quoted]; omega
  | _ :: r, j, m + 1, hf, h => by
    rw [quoted] at h ⊢
    have := quoted_place f r (j + 1) m (by omega) h
    simp only [List.length_cons]; omega
  | c :: r, j, 0, hf, h => by
    have hq : ∀ (x : List UInt8) (q : List UInt8 × Int × Int), (qcons x q).2 = q.2 := fun x q => by unfold qcons; split <;> rfl
    have h1 := quoted_place f r (j + 1) 0 (by omega)
    have h2 := quoted_place f r (j + 1) ((escape (c :: r)).2.toNat - 1) (by omega)
    rw [quoted] at h ⊢
    simp only [List.length_cons]
    repeat' split
    all_goals rename_i g
    · simp; omega
    · rename_i g1; rw [if_neg g1, if_pos g] at h; simp at h
    · simp; omega
    · rename_i g1 g2 g3; rw [if_neg g1, if_neg g2, if_pos g3, if_neg g, hq] at h; rw [hq]; have := h2 h; omega
    · rename_i g1 g2; rw [if_neg g1, if_neg g2, if_neg g, hq] at h; rw [hq]; have := h1 h; omega
theorem rsound_take : ∀ (n : Nat) (l : List UInt8) (k : Nat), l.length ≤ n → slashed l 0 = some k → rsound (l.take k) 0 = true
  | _, [], k, _, h => by simp [slashed] at h
  | 0, c :: r, k, hn, h => by simp at hn
  | n + 1, c :: r, k, hn, h => by
    simp only [List.length_cons] at hn
    by_cases h1 : (c.toNat : Int) = 10
    · rw [slashed_stop c r h1] at h; cases h
    by_cases h2 : (c.toNat : Int) = 47
    · rw [slashed_end c r h2] at h; cases h; rfl
    by_cases h3 : (c.toNat : Int) = 92 ∧ byteAt r 0 ≠ -1 ∧ byteAt r 0 ≠ 10
    · rw [slashed_two c r h3.1 h3.2.1 h3.2.2] at h
      obtain ⟨m, hm, rfl⟩ := Option.map_eq_some_iff.1 h
      cases r with
      | nil => exact absurd rfl h3.2.1
      | cons d r =>
        simp only [List.drop_succ_cons, List.drop_zero, List.length_cons] at hm hn
        have hb : byteAt (d :: r.take m) 0 = byteAt (d :: r) 0 := rfl
        rw [show m + 2 = (m + 1) + 1 by omega, List.take_succ_cons, List.take_succ_cons, rsound_two c _ h3.1 (by rw [hb]; exact h3.2.1) (by rw [hb]; exact h3.2.2)]
        simp only [List.drop_succ_cons, List.drop_zero]
        exact rsound_take n r m (by omega) hm
    · rw [slashed_one c r h1 h2 h3] at h
      obtain ⟨m, hm, rfl⟩ := Option.map_eq_some_iff.1 h
      rw [List.take_succ_cons]
      by_cases h4 : (c.toNat : Int) = 92
      · -- a backslash that nothing may follow: then no slash follows
        exfalso
        have hr : byteAt r 0 = -1 ∨ byteAt r 0 = 10 := by omega
        cases r with
        | nil => simp [slashed] at hm
        | cons d r =>
          have : (d.toNat : Int) = 10 := by
            rcases hr with hr | hr
            · simp [byteAt] at hr
            · simpa [byteAt] using hr
          rw [slashed_stop d r this] at hm
          cases hm
      · rw [rsound_one c _ h2 h1 h4]
        exact rsound_take n r m (by omega) hm
theorem number_ge : ∀ (l : List UInt8) (n : Int), l.all isD = true → 0 ≤ n → 0 ≤ number l n
  | [], n, _, h => h
  | c :: l, n, ha, h => by
    simp only [List.all_cons, Bool.and_eq_true, isD, digit, decide_eq_true_eq] at ha
    have hc := ha.1
    show 0 ≤ number l (min (10 * n + ((c.toNat : Int) - 48)) 65536)
    exact number_ge l _ (by simpa [isD] using ha.2) (by omega)
/-- what a step's word is -/
structure WordOk (k : Int) (t : List UInt8) (n : Int) (len m : Nat) : Prop where
  sound : sound k t n = true
  text : t.length ≤ m
  lo : 0 ≤ n
  hi : n ≤ 65535
  len1 : 1 ≤ len
  len2 : len ≤ m
  idle : (k = 4 → t = []) ∧ (k ≠ 4 → n = 0)
theorem step_word (c : UInt8) (r : List UInt8) (k : Int) (t : List UInt8) (n : Int) (len : Nat) (h : step (c :: r) = .word k t n len) : WordOk k t n len (r.length + 1) := by
  rw [step] at h
  split at h
  · cases h
  split at h
  · cases h
  split at h
  · rename_i hl
    split at h
    · cases h
    · rename_i h24
      cases h
      have hlt := tw_le isN r
      have hnd : digit c.toNat = false := by
        have h1 : ((97 ≤ (c.toNat : Int) ∧ (c.toNat : Int) ≤ 122) ∨ 65 ≤ (c.toNat : Int) ∧ (c.toNat : Int) ≤ 90) ∨ (c.toNat : Int) = 95 := by simpa [letter] using hl
        simp only [digit, Bool.and_eq_false_iff, decide_eq_false_iff_not]; omega
      have hb : byteAt (c :: r.takeWhile isN) 0 = c.toNat := rfl
      refine ⟨?_, by simp; omega, by omega, by omega, by omega, by omega, by simp⟩
      rw [TW.sound, if_pos rfl, nsound, hb, hnd]
      simp only [List.all_cons, Bool.not_false, Bool.and_true, Bool.and_eq_true, decide_eq_true_eq, List.length_cons]
      refine ⟨⟨by simp, by omega⟩, by simp [isN, hl], List.all_takeWhile⟩
  split at h
  · rename_i hd
    split at h
    · cases h
    · rename_i hbig
      cases h
      have hlt := tw_le isD r
      have hge := number_ge (c :: r.takeWhile isD) 0 (by simp only [List.all_cons, Bool.and_eq_true]; exact ⟨hd, List.all_takeWhile⟩) (by omega)
      refine ⟨?_, by simp, hge, by omega, by omega, by omega, by simp⟩
      rw [TW.sound, if_neg (by decide), if_neg (by decide), if_neg (by decide), if_pos rfl]
      simp only [Bool.and_eq_true, decide_eq_true_eq]
      omega
  split at h
  · split at h
    · rename_i hz
      cases h
      have h1 := quoted_len 0 r 1 0
      have h2 := quoted_ends 0 r 1 0
      refine ⟨by rw [TW.sound, if_neg (by decide), if_pos rfl], by omega, by omega, by omega, by omega, by omega, by simp⟩
    · cases h
  split at h
  · split at h
    · rename_i hz
      cases h
      unfold slashes at *
      cases hs : slashed r 0 with
      | none => rw [hs] at hz; simp at hz
      | some m =>
        have hlt := slashed_lt r 0 m hs
        have hrs := rsound_take r.length r m (Nat.le_refl _) hs
        simp only
        refine ⟨by rw [TW.sound, if_neg (by decide), if_neg (by decide), if_pos rfl]; exact hrs, by simp; omega, by omega, by omega, by omega, by omega, by simp⟩
    · cases h
  split at h
  · rename_i hs
    cases h
    refine ⟨?_, by simp, by omega, by omega, by omega, by omega, by simp⟩
    rw [TW.sound, if_neg (by decide), if_neg (by decide), if_neg (by decide), if_neg (by decide), if_pos rfl]
    simp only [List.length_cons, List.length_nil, Nat.zero_add, decide_true, Bool.true_and, List.headD_cons]
    exact hs
  · cases h
theorem step_err (c : UInt8) (r : List UInt8) (code off : Int) (h : step (c :: r) = .err code off) : code ≠ 0 ∧ 0 ≤ off ∧ off ≤ r.length + 1 := by
  rw [step] at h
  split at h
  · cases h
  split at h
  · cases h
  split at h
  · split at h
    · cases h; omega
    · cases h
  split at h
  · split at h
    · cases h; omega
    · cases h
  split at h
  · split at h
    · cases h
    · rename_i hz
      cases h
      have := quoted_place 0 r 1 0 (by omega) hz
      omega
  split at h
  · split at h
    · cases h
    · rename_i hz
      cases h
      unfold slashes at *
      cases hs : slashed r 0 with
      | none => simp; omega
      | some m => rw [hs] at hz; simp at hz
  split at h
  · cases h
  · cases h; omega
theorem step_skip (c : UInt8) (r : List UInt8) (n : Nat) (h : step (c :: r) = .skip n) : 1 ≤ n ∧ n ≤ r.length + 1 := by
  rw [step] at h
  split at h
  · cases h; omega
  split at h
  · cases h
    have := tw_le (fun d : UInt8 => (d.toNat : Int) != 10) r
    omega
  split at h
  · split at h <;> cases h
  split at h
  · split at h <;> cases h
  split at h
  · split at h <;> cases h
  split at h
  · split at h <;> cases h
  split at h <;> cases h
/-- what a cut text's words are; and where an error lies -/
def Good (l : List UInt8) (r : List W × Int × Int) : Prop :=
  (r.2.1 = 0 ∧ r.2.2 = 0 ∧ r.1.all soundW = true ∧ (∀ x ∈ r.1, x.text.length ≤ l.length ∧ 0 ≤ x.n ∧ x.n ≤ 65535 ∧ (x.kind = 4 → x.text = []) ∧ (x.kind ≠ 4 → x.n = 0)) ∧ r.1.length ≤ l.length) ∨ (r.2.1 ≠ 0 ∧ r.1 = [])
theorem cut_good : ∀ (l : List UInt8) (j : Int) (m : Nat), Good l (cut l j m)
  | [], j, m => by left; cases m <;> simp [cut]
  | _ :: r, j, m + 1 => by
    rw [cut]
    rcases cut_good r (j + 1) m with ⟨h1, h2, h3, h4, h5⟩ | h
    · exact .inl ⟨h1, h2, h3, fun x hx => by have := h4 x hx; simp only [List.length_cons]; exact ⟨by omega, this.2⟩, by simp only [List.length_cons]; omega⟩
    · exact .inr h
  | c :: r, j, 0 => by
    rw [cut]
    cases hs : step (c :: r) with
    | skip n =>
      rcases cut_good r (j + 1) (n - 1) with ⟨h1, h2, h3, h4, h5⟩ | h
      · exact .inl ⟨h1, h2, h3, fun x hx => by have := h4 x hx; simp only [List.length_cons]; exact ⟨by omega, this.2⟩, by simp only [List.length_cons]; omega⟩
      · exact .inr h
    | err code off =>
      have := step_err c r code off hs
      exact .inr ⟨this.1, rfl⟩
    | word k t n len =>
      have hw := step_word c r k t n len hs
      simp only
      rcases cut_good r (j + 1) (len - 1) with ⟨h1, h2, h3, h4, h5⟩ | ⟨h1, h2⟩
      · left
        simp only [wapp, h1, if_true]
        refine ⟨trivial, h2, ?_, ?_, ?_⟩
        · simp only [List.cons_append, List.nil_append, List.all_cons, h3, Bool.and_true]; exact hw.sound
        · intro x hx
          simp only [List.cons_append, List.nil_append, List.mem_cons] at hx
          rcases hx with rfl | hx
          · exact ⟨hw.text, hw.lo, hw.hi, hw.idle⟩
          · have := h4 x hx; simp only [List.length_cons]; exact ⟨by omega, this.2⟩
        · simp only [List.cons_append, List.nil_append, List.length_cons]; omega
      · right
        simp only [wapp, if_neg h1]
        exact ⟨h1, h2⟩
theorem cut_place : ∀ (l : List UInt8) (j : Int) (m : Nat), m ≤ l.length → (cut l j m).2.1 ≠ 0 → j ≤ (cut l j m).2.2 ∧ (cut l j m).2.2 ≤ j + l.length
  | [], j, m, _, h => by simp [cut] at h
  | _ :: r, j, m + 1, hm, h => by
    rw [cut] at h ⊢
    have := cut_place r (j + 1) m (by simp at hm; omega) h
    simp only [List.length_cons]; omega
  | c :: r, j, 0, hm, h => by
    rw [cut] at h ⊢
    cases hs : step (c :: r) with
    | skip n =>
      rw [hs] at h
      have hn := step_skip c r n hs
      have := cut_place r (j + 1) (n - 1) (by omega) h
      simp only [List.length_cons]; omega
    | err code off =>
      have := step_err c r code off hs
      simp only [List.length_cons]; omega
    | word k t n len =>
      rw [hs] at h
      have hw := step_word c r k t n len hs
      have hne : (cut r (j + 1) (len - 1)).2.1 ≠ 0 := by
        intro e
        simp [wapp, e] at h
      have := cut_place r (j + 1) (len - 1) (by have := hw.len2; omega) hne
      simp only [wapp, if_neg hne, List.length_cons]; omega
end Go.Proofs.YtjkhbcacpfaagaaDoor.TW
