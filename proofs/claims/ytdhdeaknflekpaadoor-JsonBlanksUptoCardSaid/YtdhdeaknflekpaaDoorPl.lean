/- Plain law: a string's print is read as the string; what is read is well formed, and its print no longer. -/
import Derived.Test.YtdhdeaknflekpaaDoorPk
set_option linter.unusedSimpArgs false
set_option linter.unusedVariables false
namespace Go.Proofs.YtdhdeaknflekpaaDoor.TJ

theorem all_bytes {p : UInt8 → Prop} [DecidablePred p] (h : ∀ i : Fin 256, p (UInt8.ofNat i.val)) (c : UInt8) : p c := by
  have := h ⟨c.toNat, c.toNat_lt⟩
  simpa using this
theorem written_says (c : UInt8) : written c ≠ 0 → says (written c) = c := by
  revert c
  exact all_bytes (p := fun c => written c ≠ 0 → says (written c) = c) (by decide +kernel)
theorem says_len (c : UInt8) : says c ≠ 0 → (qbyte (says c)).length ≤ 2 ∧ says c < 128 := by
  revert c
  exact all_bytes (p := fun c => says c ≠ 0 → (qbyte (says c)).length ≤ 2 ∧ says c < 128) (by decide +kernel)
theorem qbyte_high (c : UInt8) : 128 ≤ c → qbyte c = [c] := by
  revert c
  exact all_bytes (p := fun c => 128 ≤ c → qbyte c = [c]) (by decide +kernel)
theorem qbyte_len (c : UInt8) : (qbyte c).length ≤ 6 := by
  revert c
  exact all_bytes (p := fun c => (qbyte c).length ≤ 6) (by decide +kernel)
theorem qbyte_plain (c : UInt8) : 32 ≤ c → c ≠ 34 → c ≠ 92 → qbyte c = [c] := by
  revert c
  exact all_bytes (p := fun c => 32 ≤ c → c ≠ 34 → c ≠ 92 → qbyte c = [c]) (by decide +kernel)
theorem hex_digit : ∀ k : Fin 16, sHex.contains (hexd k.val) = true ∧ hexOf (hexd k.val) = k.val := by decide +kernel
theorem rune_low (c : UInt8) (h : c < 128) : rune (c.toNat : Int) = [c] := by
  unfold rune
  dsimp only
  rw [if_pos (by rw [UInt8.lt_iff_toNat_lt] at h; simp at h; omega)]
  simp
theorem escape_low (c : UInt8) (hc : c < 32) (t : List UInt8) : escape (117 :: 48 :: 48 :: hexd (c.toNat / 16) :: hexd (c.toNat % 16) :: t) = (some [c], t) := by
  have hn : c.toNat < 32 := by rw [UInt8.lt_iff_toNat_lt] at hc; simpa using hc
  obtain ⟨a1, a2⟩ := hex_digit ⟨c.toNat / 16, by omega⟩
  obtain ⟨b1, b2⟩ := hex_digit ⟨c.toNat % 16, by omega⟩
  dsimp only at a1 a2 b1 b2
  have hf : four false (48 :: 48 :: hexd (c.toNat / 16) :: hexd (c.toNat % 16) :: t) = (some (c.toNat : Int), t) := by
    unfold four
    rw [if_neg (by simp), if_neg (by simp [has])]
    simp only [hexes, a1, b1, a2, b2, show sHex.contains 48 = true by decide, if_true]
    refine congrArg (fun x => (some x, t)) ?_
    have : hexOf 48 = 0 := by decide
    rw [this]
    omega
  rw [escape, if_neg (by decide), if_pos rfl, hf]
  dsimp only
  rw [if_neg (by omega), rune_low c (by rw [UInt8.lt_iff_toNat_lt]; simp; omega)]
theorem more_app : ∀ {n : Nat} {lo hi : UInt8} {pre l b r : List UInt8}, 128 ≤ lo → more n lo hi pre l = (some b, r) → ∃ x, l = x ++ r ∧ b = pre ++ x ∧ ∀ y ∈ x, 128 ≤ y
  | 0, _, _, pre, l, b, r, _, h => by
    rw [more] at h
    cases h
    exact ⟨[], rfl, by simp, by simp⟩
  | n + 1, lo, hi, pre, [], b, r, _, h => by rw [more] at h; cases h
  | n + 1, lo, hi, pre, c :: l, b, r, hlo, h => by
    rw [more] at h
    split at h
    · rename_i hc
      obtain ⟨x, rfl, rfl, hx⟩ := more_app (by decide) h
      refine ⟨c :: x, rfl, by simp, fun y hy => ?_⟩
      rcases List.mem_cons.1 hy with rfl | hy
      · exact UInt8.le_trans hlo hc.1
      · exact hx y hy
    · cases h
/-- a character: its own bytes; from 128 on all of them are -/
theorem char_app {c : UInt8} {l b r : List UInt8} (h : char (c :: l) = (some b, r)) : c :: l = b ++ r ∧ 32 ≤ c ∧ (c < 128 ∧ b = [c] ∧ r = l ∨ 128 ≤ c ∧ ∀ y ∈ b, 128 ≤ y) := by
  have hm : ∀ {n : Nat} {lo hi : UInt8}, 128 ≤ lo → 128 ≤ c → more n lo hi [c] l = (some b, r) → c :: l = b ++ r ∧ ∀ y ∈ b, 128 ≤ y := by
    intro n lo hi hlo hc h
    obtain ⟨x, rfl, rfl, hx⟩ := more_app hlo h
    refine ⟨by simp, fun y hy => ?_⟩
    rcases List.mem_append.1 hy with hy | hy
    · rw [List.mem_singleton.1 hy]; exact hc
    · exact hx y hy
  rw [char] at h
  split at h
  · cases h
  · rename_i h32
    have h32' : 32 ≤ c := by rw [UInt8.le_iff_toNat_le]; rw [UInt8.lt_iff_toNat_lt] at h32; omega
    split at h
    · cases h
      exact ⟨rfl, h32', .inl ⟨‹_›, rfl, rfl⟩⟩
    · rename_i h128
      have h128' : 128 ≤ c := by rw [UInt8.le_iff_toNat_le]; rw [UInt8.lt_iff_toNat_lt] at h128; omega
      split at h
      · obtain ⟨h1, h2⟩ := hm (by decide) h128' h
        exact ⟨h1, h32', .inr ⟨h128', h2⟩⟩
      · split at h
        · obtain ⟨h1, h2⟩ := hm (by split <;> decide) h128' h
          exact ⟨h1, h32', .inr ⟨h128', h2⟩⟩
        · split at h
          · obtain ⟨h1, h2⟩ := hm (by split <;> decide) h128' h
            exact ⟨h1, h32', .inr ⟨h128', h2⟩⟩
          · cases h
theorem flat_high {b : List UInt8} (h : ∀ y ∈ b, 128 ≤ y) : b.flatMap qbyte = b := by
  induction b with
  | nil => rfl
  | cons c b ih => rw [List.flatMap_cons, qbyte_high c (h c (by simp)), ih fun y hy => h y (by simp [hy])]; rfl
theorem char_ext {c : UInt8} {l b r : List UInt8} (h : char (c :: l) = (some b, r)) (t : List UInt8) : char (b ++ t) = (some b, t) := by
  have e := congrFun char_eq (c :: l)
  try dsimp only at e
  rw [head_cons, h] at e
  obtain ⟨ha, -⟩ := char_app h
  cases hl : lead c with
  | none => rw [hl] at e; cases e
  | some P =>
    rw [hl] at e
    dsimp only at e
    obtain ⟨x, hx, hy⟩ := (lead_strong c P hl).e (l := l) (a := b) (r := r) e.symm
    subst hx
    obtain rfl : b = c :: x := by
      have : (c :: x) ++ r = b ++ r := ha
      exact (List.append_cancel_right this).symm
    have e2 := congrFun char_eq (c :: x ++ t)
    try dsimp only at e2
    rw [List.cons_append, head_cons, hl] at e2
    dsimp only at e2
    rw [hy t] at e2
    exact ofO_inj (p := char (c :: x ++ t)) (q := (some (c :: x), t)) e2
theorem strs_more {f f' : Nat} {acc l : List UInt8} (h : l.length < f) (h' : l.length < f') : strs f acc l = strs f' acc l := ofO_inj (strs_fuel f f' acc l h h')
/-- so many bytes: what the quoted bytes say -/
theorem strs_quote : ∀ (n : Nat) (s acc t : List UInt8) (f : Nat), utf n s = true → (s.flatMap qbyte ++ 34 :: t).length < f → strs f acc (s.flatMap qbyte ++ 34 :: t) = (some (acc ++ s), t)
  | n, [], acc, t, 0, _, hf => by omega
  | n, [], acc, t, f + 1, _, _ => by
    show strs (f + 1) acc (34 :: t) = _
    rw [strs, if_pos rfl, List.append_nil]
  | 0, _ :: _, _, _, _, h, _ => by rw [utf] at h; cases h
  | n + 1, c :: r, acc, t, 0, h, hf => by omega
  | n + 1, c :: r, acc, t, f + 1, h, hf => by
    rw [utf] at h
    rw [List.flatMap_cons] at hf ⊢
    have one : ∀ (q b rr : List UInt8), utf n rr = true → qbyte c ++ r.flatMap qbyte = q ++ rr.flatMap qbyte → q ≠ [] → c :: r = b ++ rr → (∀ F t', (q ++ t').length < F + 1 → ∃ t'', q ++ t' = t'' ∧ strs (F + 1) acc t'' = strs F (acc ++ b) t') →
        strs (f + 1) acc (qbyte c ++ r.flatMap qbyte ++ 34 :: t) = (some (acc ++ c :: r), t) := by
      intro q b rr hu hq hq0 hb hs
      rw [hq] at hf ⊢
      rw [List.append_assoc] at hf ⊢
      obtain ⟨t'', h1, h2⟩ := hs f _ hf
      rw [h1, h2, strs_quote n rr _ t f hu, hb, List.append_assoc]
      have : 0 < q.length := List.length_pos_iff.2 hq0
      rw [List.length_append] at hf
      omega
    by_cases hc : c < 128
    · rw [if_pos hc] at h
      by_cases hw : written c ≠ 0
      · have w1 := written_says c hw
        refine one (qbyte c) [c] r h rfl (by unfold qbyte; rw [if_pos hw]; simp) rfl fun F t' hF => ⟨_, rfl, ?_⟩
        unfold qbyte
        rw [if_pos hw]
        show strs (F + 1) acc (92 :: written c :: t') = _
        rw [strs, if_neg (by decide), if_pos rfl]
        have : escape (written c :: t') = (some [c], t') := by
          rw [escape, w1, if_pos]
          intro e
          rw [e] at hw
          exact hw (by decide)
        rw [this]
      · by_cases h32 : c < 32
        · refine one (qbyte c) [c] r h rfl (by unfold qbyte; rw [if_neg hw, if_pos h32]; simp) rfl fun F t' hF => ⟨_, rfl, ?_⟩
          unfold qbyte
          rw [if_neg hw, if_pos h32]
          show strs (F + 1) acc (92 :: 117 :: 48 :: 48 :: hexd (c.toNat / 16) :: hexd (c.toNat % 16) :: t') = _
          rw [strs, if_neg (by decide), if_pos rfl, escape_low c h32]
        · refine one (qbyte c) [c] r h rfl (by unfold qbyte; rw [if_neg hw, if_neg h32]; simp) rfl fun F t' hF => ⟨_, rfl, ?_⟩
          unfold qbyte
          rw [if_neg hw, if_neg h32]
          show strs (F + 1) acc (c :: t') = _
          have h34 : c ≠ 34 := by rintro rfl; exact hw (by decide)
          have h92 : c ≠ 92 := by rintro rfl; exact hw (by decide)
          rw [strs, if_neg h34, if_neg h92, char, if_neg h32, if_pos hc]
    · rw [if_neg hc] at h
      have h34 : c ≠ 34 := by rintro rfl; exact hc (by decide)
      have h92 : c ≠ 92 := by rintro rfl; exact hc (by decide)
      cases hq : char (c :: r) with
      | mk o rr =>
        rw [hq] at h
        cases o with
        | none => cases h
        | some b =>
          dsimp only at h
          obtain ⟨h1, h2, h3⟩ := char_app hq
          rcases h3 with ⟨h3, -, -⟩ | ⟨h3, h4⟩
          · exact absurd h3 hc
          · refine one b b rr h ?_ ?_ h1 fun F t' hF => ⟨_, rfl, ?_⟩
            · rw [← List.flatMap_cons, h1, List.flatMap_append, flat_high h4]
            · rintro rfl
              have := char_ext hq []
              simp [char] at this
            · have hx := char_ext hq t'
              obtain ⟨c', b', hb'⟩ : ∃ c' b', b = c' :: b' := by
                cases b with
                | nil =>
                  have := char_ext hq []
                  simp [char] at this
                | cons c' b' => exact ⟨c', b', rfl⟩
              subst hb'
              have hcc : c' = c := by
                rw [List.cons_append] at h1
                injection h1 with h1 _
                exact h1.symm
              subst hcc
              rw [List.cons_append] at hx ⊢
              rw [strs, if_neg h34, if_neg h92, hx]
theorem str_quote {s : List UInt8} (h : valid s = true) (t : List UInt8) : str (quote s ++ t) = (some s, t) := by
  unfold quote
  have e : (34 :: s.flatMap qbyte ++ [34] ++ t : List UInt8) = 34 :: (s.flatMap qbyte ++ 34 :: t) := by simp
  rw [e]
  unfold str
  rw [if_pos (by simp [has])]
  exact strs_quote s.length s [] t _ h (Nat.lt_succ_self _)
end Go.Proofs.YtdhdeaknflekpaaDoor.TJ
