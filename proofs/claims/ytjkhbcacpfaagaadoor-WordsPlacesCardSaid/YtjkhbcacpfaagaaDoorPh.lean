/- Plain laws: every word's own piece of a text is cut as that word alone; ahead of the first word there is none. -/
import Derived.Test.YtjkhbcacpfaagaaDoorPg
set_option linter.unusedSimpArgs false
set_option linter.unusedVariables false
namespace Go.Proofs.YtjkhbcacpfaagaaDoor.TW

theorem take_cons (c : UInt8) (r : List UInt8) (m : Nat) (h : 1 ≤ m) : (c :: r).take m = c :: r.take (m - 1) := by
  obtain ⟨k, rfl⟩ : ∃ k, m = k + 1 := ⟨m - 1, by omega⟩
  rfl
theorem cut_skip_take (c : UInt8) (r : List UInt8) (n m : Nat) (j : Int) (h : step (c :: r) = .skip n) (hm : n ≤ m) :
    cut ((c :: r).take m) j 0 = cut (((c :: r).drop n).take (m - n)) (j + n) 0 := by
  have hn := step_skip c r n h
  have hs := step_take c r (m - 1) (by rw [h]; rfl) (by rw [h]; simp only [slen]; omega)
  have e := cut_step c (r.take (m - 1)) j
  rw [hs, h] at e
  simp only at e
  rw [← take_cons c r m (by omega), show 1 + (n - 1) = n by omega, List.drop_take] at e
  exact e
theorem cut_word_take (c : UInt8) (r : List UInt8) (k : Int) (t : List UInt8) (i : Int) (n m : Nat) (j : Int) (h : step (c :: r) = .word k t i n) (hm : n ≤ m) :
    cut ((c :: r).take m) j 0 = wapp [⟨k, t, i, j⟩] (cut (((c :: r).drop n).take (m - n)) (j + n) 0) := by
  have hn := (step_word c r k t i n h).len1
  have hs := step_take c r (m - 1) (by rw [h]; rfl) (by rw [h]; simp only [slen]; omega)
  have e := cut_step c (r.take (m - 1)) j
  rw [hs, h] at e
  simp only at e
  rw [← take_cons c r m (by omega), show 1 + (n - 1) = n by omega, List.drop_take] at e
  exact e
def pos' (ws : List W) (L : Int) (i : Nat) : Int := match ws[i]? with | some x => x.pos | none => L
structure Pieces (l : List UInt8) (j : Int) (ws : List W) : Prop where
  lo : j ≤ pos' ws (j + l.length) 0
  hi : pos' ws (j + l.length) 0 ≤ j + l.length
  gap : ∀ j', cut (l.take (pos' ws (j + l.length) 0 - j).toNat) j' 0 = ([], 0, 0)
  each : ∀ (i : Nat) (x : W), ws[i]? = some x → j ≤ x.pos ∧ x.pos < pos' ws (j + l.length) (i + 1) ∧ pos' ws (j + l.length) (i + 1) ≤ j + l.length ∧
    ∀ j', cut ((l.drop (x.pos - j).toNat).take (pos' ws (j + l.length) (i + 1) - x.pos).toNat) j' 0 = ([⟨x.kind, x.text, x.n, j'⟩], 0, 0)
theorem pieces : ∀ (n : Nat) (l : List UInt8) (j : Int), l.length ≤ n → (cut l j 0).2.1 = 0 → Pieces l j (cut l j 0).1
  | _, [], j, _, _ => by
    refine ⟨by simp [cut, pos'], by simp [cut, pos'], fun j' => by simp [cut], fun i x h => by simp [cut] at h⟩
  | 0, c :: r, _, h, _ => by simp at h
  | n + 1, c :: r, j, hn, hz => by
    cases hs : step (c :: r) with
    | err code off =>
      exfalso
      have := step_err c r code off hs
      rw [cut_step, hs] at hz
      exact this.1 hz
    | skip k =>
      have hk := step_skip c r k hs
      have e : cut (c :: r) j 0 = cut ((c :: r).drop k) (j + k) 0 := by
        rw [cut_step, hs]
        simp only
        rw [show 1 + (k - 1) = k by omega]
      rw [e] at hz ⊢
      have hl : ((c :: r).drop k).length = r.length + 1 - k := by simp
      obtain ⟨h1, h2, h3, h4⟩ := pieces n ((c :: r).drop k) (j + k) (by rw [hl]; simp at hn; omega) hz
      have hL : j + (k : Int) + (((c :: r).drop k).length : Int) = j + ((c :: r).length : Int) := by rw [hl]; simp only [List.length_cons]; omega
      rw [hL] at h1 h2 h3 h4
      generalize (cut ((c :: r).drop k) (j + k) 0).1 = ws at *
      refine ⟨by omega, h2, fun j' => ?_, fun i x hx => ?_⟩
      · have := h3 (j' + k)
        rw [cut_skip_take c r k _ j' hs (by omega), ← this]
        congr 2
        omega
      · obtain ⟨g1, g2, g3, g4⟩ := h4 i x hx
        refine ⟨by omega, g2, g3, fun j' => ?_⟩
        rw [← g4 j', List.drop_drop]
        congr 3
        omega
    | word k t v len =>
      have hw := step_word c r k t v len hs
      have hlen := hw.len1
      have hlen2 := hw.len2
      have e : cut (c :: r) j 0 = wapp [⟨k, t, v, j⟩] (cut ((c :: r).drop len) (j + len) 0) := by
        rw [cut_step, hs]
        simp only
        rw [show 1 + (len - 1) = len by omega]
      rw [e] at hz ⊢
      have hz' : (cut ((c :: r).drop len) (j + len) 0).2.1 = 0 := by
        apply Decidable.byContradiction
        intro hne
        simp [wapp, hne] at hz
      have hl : ((c :: r).drop len).length = r.length + 1 - len := by simp
      obtain ⟨h1, h2, h3, h4⟩ := pieces n ((c :: r).drop len) (j + len) (by rw [hl]; simp at hn; omega) hz'
      have hL : j + (len : Int) + (((c :: r).drop len).length : Int) = j + ((c :: r).length : Int) := by rw [hl]; simp only [List.length_cons]; omega
      rw [hL] at h1 h2 h3 h4
      simp only [wapp, if_pos hz', List.cons_append, List.nil_append]
      generalize (cut ((c :: r).drop len) (j + len) 0).1 = ws at *
      have hp : ∀ i, pos' ((⟨k, t, v, j⟩ : W) :: ws) (j + ((c :: r).length : Int)) (i + 1) = pos' ws (j + ((c :: r).length : Int)) i := fun i => rfl
      have hp0 : pos' ((⟨k, t, v, j⟩ : W) :: ws) (j + ((c :: r).length : Int)) 0 = j := rfl
      refine ⟨by rw [hp0]; omega, by rw [hp0]; omega, fun j' => by rw [hp0, show (j - j).toNat = 0 by omega]; simp [cut], fun i x hx => ?_⟩
      rw [hp]
      cases i with
      | zero =>
        cases hx
        refine ⟨by simp only; omega, by simp only; omega, h2, fun j' => ?_⟩
        simp only
        rw [show (j - j).toNat = 0 by omega, List.drop_zero, cut_word_take c r k t v len _ j' hs (by omega)]
        have := h3 (j' + len)
        rw [show (pos' ws (j + ((c :: r).length : Int)) 0 - j).toNat - len = (pos' ws (j + ((c :: r).length : Int)) 0 - (j + len)).toNat by omega, this]
        simp [wapp]
      | succ i =>
        obtain ⟨g1, g2, g3, g4⟩ := h4 i x hx
        refine ⟨by omega, g2, g3, fun j' => ?_⟩
        rw [← g4 j', List.drop_drop]
        congr 3
        omega
theorem Pieces.Cut {l : List UInt8} (h : (Cut l).2.1 = 0) : l.length ≤ 16384 ∧ Pieces l 0 (Cut l).1 := by
  unfold TW.Cut at *
  split at h
  · cases h
  · rename_i hl
    rw [if_neg hl]
    exact ⟨by omega, pieces l.length l 0 (Nat.le_refl _) h⟩
/-- a piece of a text that is not too long: cut by itself -/
theorem Cut_short {l : List UInt8} (h : l.length ≤ 16384) : TW.Cut l = cut l 0 0 := by
  rw [TW.Cut, if_neg (by omega)]
end Go.Proofs.YtjkhbcacpfaagaaDoor.TW
