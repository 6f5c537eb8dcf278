/- Plain law: what the library's ValidString computes is what the parser takes for characters. -/
import Derived.Test.YtdhdeaknflekpaaDoorWi
import Derived.Lib.ValidLaws
import Derived.Lib.TrimUEq
set_option linter.unusedSimpArgs false
set_option linter.unusedVariables false
namespace Go.Proofs.YtdhdeaknflekpaaDoor
open Go.RowKit

theorem dec_bad {n b0 b1 b2 b3 : Nat} (h : ¬ b0 < 128) (h1 : ¬ (194 ≤ b0 ∧ b0 ≤ 223 ∧ 1 < n ∧ b1 / 64 = 2)) (h2 : ¬ (224 ≤ b0 ∧ b0 ≤ 239 ∧ 1 < n ∧ 2 < n ∧ (if b0 = 224 then 160 else 128) ≤ b1 ∧ b1 ≤ (if b0 = 237 then 159 else 191) ∧ b2 / 64 = 2))
    (h3 : ¬ (240 ≤ b0 ∧ b0 ≤ 244 ∧ 1 < n ∧ 2 < n ∧ 3 < n ∧ (if b0 = 240 then 144 else 128) ≤ b1 ∧ b1 ≤ (if b0 = 244 then 143 else 191) ∧ b2 / 64 = 2 ∧ b3 / 64 = 2)) (hb0 : b0 < 256) (hb1 : b1 < 256) : Lib.decodeN n b0 b1 b2 b3 = (65533, 1) := by
  unfold Lib.decodeN
  rw [if_neg h]
  split
  · rw [if_neg]; omega
  · split
    · rename_i h4 h5
      rw [if_neg]
      intro h6
      apply h2
      refine ⟨by omega, by omega, by omega, by omega, ?_, ?_, by omega⟩
      · split <;> omega
      · split <;> omega
    · split
      · rename_i h4 h5 h7
        rw [if_neg]
        intro h6
        apply h3
        refine ⟨by omega, by omega, by omega, by omega, by omega, ?_, ?_, by omega, by omega⟩
        · split <;> omega
        · split <;> omega
      · rfl
theorem dec_two {n b0 b1 b2 b3 : Nat} (h : 194 ≤ b0 ∧ b0 ≤ 223 ∧ 1 < n ∧ b1 / 64 = 2) : ∃ c, Lib.decodeN n b0 b1 b2 b3 = (c, 2) := by
  unfold Lib.decodeN
  rw [if_neg (by omega), if_pos (by omega), if_pos (by omega)]
  exact ⟨_, rfl⟩
theorem dec_three {n b0 b1 b2 b3 : Nat} (h : 224 ≤ b0 ∧ b0 ≤ 239 ∧ 1 < n ∧ 2 < n ∧ (if b0 = 224 then 160 else 128) ≤ b1 ∧ b1 ≤ (if b0 = 237 then 159 else 191) ∧ b2 / 64 = 2) : ∃ c, Lib.decodeN n b0 b1 b2 b3 = (c, 3) := by
  obtain ⟨h1, h2, h3, h4, h5, h6, h7⟩ := h
  have h8 : b1 / 64 = 2 := by split at h5 <;> split at h6 <;> omega
  have h9 : b0 % 16 * 4096 + b1 % 64 * 64 + b2 % 64 ≥ 2048 ∧ (b0 % 16 * 4096 + b1 % 64 * 64 + b2 % 64 < 55296 ∨ (57344 ≤ b0 % 16 * 4096 + b1 % 64 * 64 + b2 % 64 ∧ b0 % 16 * 4096 + b1 % 64 * 64 + b2 % 64 ≤ 1114111)) := by
    split at h5 <;> split at h6 <;> omega
  unfold Lib.decodeN
  rw [if_neg (by omega), if_neg (by omega), if_pos (by omega), if_pos h9]
  exact ⟨_, rfl⟩
theorem dec_four {n b0 b1 b2 b3 : Nat} (h : 240 ≤ b0 ∧ b0 ≤ 244 ∧ 1 < n ∧ 2 < n ∧ 3 < n ∧ (if b0 = 240 then 144 else 128) ≤ b1 ∧ b1 ≤ (if b0 = 244 then 143 else 191) ∧ b2 / 64 = 2 ∧ b3 / 64 = 2) : ∃ c, Lib.decodeN n b0 b1 b2 b3 = (c, 4) := by
  obtain ⟨h1, h2, h3, h4, h4', h5, h6, h7, h7'⟩ := h
  have h8 : b1 / 64 = 2 := by split at h5 <;> split at h6 <;> omega
  have h9 : b0 % 8 * 262144 + b1 % 64 * 4096 + b2 % 64 * 64 + b3 % 64 ≥ 65536 ∧ (b0 % 8 * 262144 + b1 % 64 * 4096 + b2 % 64 * 64 + b3 % 64 < 55296 ∨ (57344 ≤ b0 % 8 * 262144 + b1 % 64 * 4096 + b2 % 64 * 64 + b3 % 64 ∧ b0 % 8 * 262144 + b1 % 64 * 4096 + b2 % 64 * 64 + b3 % 64 ≤ 1114111)) := by
    split at h5 <;> split at h6 <;> omega
  unfold Lib.decodeN
  rw [if_neg (by omega), if_neg (by omega), if_neg (by omega), if_pos (by omega), if_pos h9]
  exact ⟨_, rfl⟩
theorem more1 (lo hi : Int) (h0 : 0 ≤ lo) (h1 : lo ≤ 255) (h2 : 0 ≤ hi) (h3 : hi ≤ 255) (n : Nat) (pre r : List UInt8) :
    TJ.more (n + 1) (UInt8.ofNat lo.toNat) (UInt8.ofNat hi.toNat) pre r = if 0 < r.length ∧ lo ≤ ((r.getD 0 0).toNat : Int) ∧ ((r.getD 0 0).toNat : Int) ≤ hi then TJ.more n (UInt8.ofNat (128 : Int).toNat) (UInt8.ofNat (191 : Int).toNat) (pre ++ [r.getD 0 0]) r.tail else (none, r) := by
  cases r with
  | nil => rw [more_nil]; simp
  | cons b l =>
    rw [more_cons n lo hi h0 h1 h2 h3]
    simp
/-- a character by the library's decoding -/
theorem char_dec (c : UInt8) (r : List UInt8) (h : 128 ≤ c.toNat) : (∀ p q, TJ.char (c :: r) = (some p, q) → ¬ ((Lib.decodeL (c :: r)).1 = 65533 ∧ (Lib.decodeL (c :: r)).2 = 1) ∧ (c :: r).drop (Lib.decodeL (c :: r)).2 = q)
    ∧ (∀ q, TJ.char (c :: r) = (none, q) → Lib.decodeL (c :: r) = (65533, 1)) := by
  have hN : Lib.decodeL (c :: r) = Lib.decodeN (r.length + 1) c.toNat (r.getD 0 0).toNat (r.getD 1 0).toNat (r.getD 2 0).toNat := by
    rw [Lib.decodeL_N]
    simp
  have hc := c.toNat_lt
  have hb1 := (r.getD 0 0).toNat_lt
  have hb2 := (r.getD 1 0).toNat_lt
  have hb3 := (r.getD 2 0).toNat_lt
  by_cases hok : leadOk (c.toNat : Int)
  · obtain ⟨o1, o2, o3⟩ := hok
    have hlo : 128 ≤ leadLo c.toNat ∧ leadLo c.toNat ≤ 160 := by unfold leadLo; split <;> (try split) <;> omega
    have hhi : 143 ≤ leadHi c.toNat ∧ leadHi c.toNat ≤ 191 := by unfold leadHi; split <;> (try split) <;> omega
    have hch := char_good (b := c) (l := r) ⟨o1, o2, o3⟩
    rw [hN, hch]
    by_cases k1 : (c.toNat : Int) ≤ 223
    · rw [lead1 (by omega) k1, more1 _ _ (by omega) (by omega) (by omega) (by omega)]
      have e1 : leadLo c.toNat = 128 := by unfold leadLo; rw [if_neg (by omega), if_neg (by omega)]
      have e2 : leadHi c.toNat = 191 := by unfold leadHi; rw [if_neg (by omega), if_neg (by omega)]
      rw [e1, e2]
      split
      · rename_i hh
        obtain ⟨d, hd⟩ := dec_two (n := r.length + 1) (b0 := c.toNat) (b1 := (r.getD 0 0).toNat) (b2 := (r.getD 1 0).toNat) (b3 := (r.getD 2 0).toNat) (by omega)
        rw [hd]
        refine ⟨fun p q e => ?_, fun q e => by cases e⟩
        cases e
        exact ⟨by simp, by cases r <;> rfl⟩
      · rename_i hh
        refine ⟨(fun p q e => by cases e), fun q e => ?_⟩
        exact dec_bad (by omega) (by omega) (by omega) (by omega) (by omega) (by omega)
    by_cases k2 : (c.toNat : Int) ≤ 239
    · rw [lead2 (by omega) k2, more1 _ _ (by omega) (by omega) (by omega) (by omega), more1 _ _ (by omega) (by omega) (by omega) (by omega)]
      obtain ⟨L, hL⟩ : ∃ L : Nat, L = if c.toNat = 224 then 160 else 128 := ⟨_, rfl⟩
      obtain ⟨H, hH⟩ : ∃ H : Nat, H = if c.toNat = 237 then 159 else 191 := ⟨_, rfl⟩
      have e1 : leadLo c.toNat = (L : Int) := by
        unfold leadLo
        by_cases q : c.toNat = 224
        · rw [hL, if_pos (by omega), if_pos q]; rfl
        · rw [hL, if_neg (by omega), if_neg (by omega), if_neg q]; rfl
      have e2 : leadHi c.toNat = (H : Int) := by
        unfold leadHi
        by_cases q : c.toNat = 237
        · rw [hH, if_pos (by omega), if_pos q]; rfl
        · rw [hH, if_neg (by omega), if_neg (by omega), if_neg q]; rfl
      have e3 : r.tail.getD 0 0 = r.getD 1 0 := by cases r <;> simp
      have e4 : r.tail.length = r.length - 1 := by simp
      rw [e1, e2, e3, e4]
      clear e1 e2
      by_cases hh : 0 < r.length ∧ (L : Int) ≤ ((r.getD 0 0).toNat : Int) ∧ ((r.getD 0 0).toNat : Int) ≤ (H : Int)
      · rw [if_pos hh]
        by_cases hg : 0 < r.length - 1 ∧ 128 ≤ ((r.getD 1 0).toNat : Int) ∧ ((r.getD 1 0).toNat : Int) ≤ 191
        · rw [if_pos hg]
          obtain ⟨d, hd⟩ := dec_three (n := r.length + 1) (b0 := c.toNat) (b1 := (r.getD 0 0).toNat) (b2 := (r.getD 1 0).toNat) (b3 := (r.getD 2 0).toNat) ⟨by omega, by omega, by omega, by omega, by rw [← hL]; omega, by rw [← hH]; omega, by omega⟩
          rw [hd]
          refine ⟨fun p q e => ?_, fun q e => by cases e⟩
          cases e
          exact ⟨by simp, by cases r with | nil => rfl | cons a r => cases r <;> rfl⟩
        · rw [if_neg hg]
          refine ⟨(fun p q e => by cases e), fun q e => ?_⟩
          exact dec_bad (by omega) (by omega) (fun hx => hg ⟨by omega, by omega, by omega⟩) (by omega) (by omega) (by omega)
      · rw [if_neg hh]
        refine ⟨(fun p q e => by cases e), fun q e => ?_⟩
        exact dec_bad (by omega) (by omega) (fun hx => by rw [← hL, ← hH] at hx; exact hh ⟨by omega, by omega, by omega⟩) (by omega) (by omega) (by omega)
    · rw [lead3 (by omega) (by omega), more1 _ _ (by omega) (by omega) (by omega) (by omega), more1 _ _ (by omega) (by omega) (by omega) (by omega), more1 _ _ (by omega) (by omega) (by omega) (by omega)]
      obtain ⟨L, hL⟩ : ∃ L : Nat, L = if c.toNat = 240 then 144 else 128 := ⟨_, rfl⟩
      obtain ⟨H, hH⟩ : ∃ H : Nat, H = if c.toNat = 244 then 143 else 191 := ⟨_, rfl⟩
      have e1 : leadLo c.toNat = (L : Int) := by
        unfold leadLo
        by_cases q : c.toNat = 240
        · rw [hL, if_neg (by omega), if_pos (by omega), if_pos q]; rfl
        · rw [hL, if_neg (by omega), if_neg (by omega), if_neg q]; rfl
      have e2 : leadHi c.toNat = (H : Int) := by
        unfold leadHi
        by_cases q : c.toNat = 244
        · rw [hH, if_neg (by omega), if_pos (by omega), if_pos q]; rfl
        · rw [hH, if_neg (by omega), if_neg (by omega), if_neg q]; rfl
      have e3 : r.tail.getD 0 0 = r.getD 1 0 := by cases r <;> simp
      have e3' : r.tail.tail.getD 0 0 = r.getD 2 0 := by cases r with | nil => simp | cons a r => cases r <;> simp
      have e4 : r.tail.length = r.length - 1 := by simp
      have e4' : r.tail.tail.length = r.length - 2 := by simp; omega
      rw [e1, e2, e3, e4, e3', e4']
      clear e1 e2
      by_cases hh : 0 < r.length ∧ (L : Int) ≤ ((r.getD 0 0).toNat : Int) ∧ ((r.getD 0 0).toNat : Int) ≤ (H : Int)
      · rw [if_pos hh]
        by_cases hg : 0 < r.length - 1 ∧ 128 ≤ ((r.getD 1 0).toNat : Int) ∧ ((r.getD 1 0).toNat : Int) ≤ 191
        · rw [if_pos hg]
          by_cases hk : 0 < r.length - 2 ∧ 128 ≤ ((r.getD 2 0).toNat : Int) ∧ ((r.getD 2 0).toNat : Int) ≤ 191
          · rw [if_pos hk]
            obtain ⟨d, hd⟩ := dec_four (n := r.length + 1) (b0 := c.toNat) (b1 := (r.getD 0 0).toNat) (b2 := (r.getD 1 0).toNat) (b3 := (r.getD 2 0).toNat) ⟨by omega, by omega, by omega, by omega, by omega, by rw [← hL]; omega, by rw [← hH]; omega, by omega, by omega⟩
            rw [hd]
            refine ⟨fun p q e => ?_, fun q e => by cases e⟩
            cases e
            exact ⟨by simp, by cases r with | nil => rfl | cons a r => cases r with | nil => rfl | cons a r => cases r <;> rfl⟩
          · rw [if_neg hk]
            refine ⟨(fun p q e => by cases e), fun q e => ?_⟩
            exact dec_bad (by omega) (by omega) (by omega) (fun hx => hk ⟨by omega, by omega, by omega⟩) (by omega) (by omega)
        · rw [if_neg hg]
          refine ⟨(fun p q e => by cases e), fun q e => ?_⟩
          exact dec_bad (by omega) (by omega) (by omega) (fun hx => hg ⟨by omega, by omega, by omega⟩) (by omega) (by omega)
      · rw [if_neg hh]
        refine ⟨(fun p q e => by cases e), fun q e => ?_⟩
        exact dec_bad (by omega) (by omega) (by omega) (fun hx => by rw [← hL, ← hH] at hx; exact hh ⟨by omega, by omega, by omega⟩) (by omega) (by omega)
  · rw [char_bad hok, hN]
    unfold leadOk at hok
    refine ⟨(fun p q e => by cases e), fun q e => ?_⟩
    exact dec_bad (by omega) (by omega) (by omega) (by omega) (by omega) (by omega)
theorem char_shrink' {l r b : List UInt8} {c : UInt8} (h : TJ.char (c :: l) = (some b, r)) : r.length ≤ l.length := char_short h
theorem utf_eq : ∀ (f : Nat) (l : List UInt8), l.length ≤ f → TJ.utf f l = Lib.validD l
  | _, [], _ => by rw [Lib.validD_nil]; unfold TJ.utf; rfl
  | 0, _ :: _, h => by simp at h
  | f + 1, c :: r, h => by
    simp only [List.length_cons] at h
    rw [TJ.utf]
    by_cases hc : c < 128
    · rw [if_pos hc, Lib.validD_cons c r (by rw [UInt8.lt_iff_toNat_lt] at hc; exact hc), utf_eq f r (by omega)]
    · rw [if_neg hc]
      have hc2 : 128 ≤ c.toNat := by rw [UInt8.lt_iff_toNat_lt] at hc; simp at hc; omega
      obtain ⟨d1, d2⟩ := char_dec c r hc2
      rw [Lib.validD_step _ (by simp)]
      cases hq : TJ.char (c :: r) with
      | mk o q =>
        cases o with
        | none =>
          have := d2 q hq
          rw [this]
          rfl
        | some p =>
          obtain ⟨e1, e2⟩ := d1 p q hq
          rw [if_neg e1, e2]
          exact utf_eq f q (by have := char_shrink' hq; omega)
theorem valid_eq (l : List UInt8) : Lib.validD l = TJ.valid l := (utf_eq _ l (Nat.le_refl _)).symm
end Go.Proofs.YtdhdeaknflekpaaDoor
