/- Plain laws: a line end parts texts; places move. -/
import Derived.Test.YtjkhbcacpfaagaaDoorPd
set_option linter.unusedSimpArgs false
set_option linter.unusedVariables false
namespace Go.Proofs.YtjkhbcacpfaagaaDoor.TW

theorem takeWhile_line {p : UInt8 → Bool} (hp : p 10 = false) : ∀ (r b : List UInt8), (r ++ 10 :: b).takeWhile p = r.takeWhile p
  | [], b => by simp [List.takeWhile_cons, hp]
  | c :: r, b => by
    rw [List.cons_append, List.takeWhile_cons, List.takeWhile_cons, takeWhile_line hp r b]
theorem hex_10 : hex 10 = (0, false) := by decide
theorem hex_m1 : hex (-1) = (0, false) := by decide
theorem escape_line (r b : List UInt8) (c : UInt8) : escape (c :: (r ++ 10 :: b)) = escape (c :: r) := by
  match r with
  | [] => simp [escape, byteAt, hex_m1]
  | [d] => simp [escape, byteAt, hex_m1, hex_10]
  | [d, e] => simp [escape, byteAt, hex_m1, hex_10]
  | d :: e :: g :: r => simp [escape, byteAt]
theorem quoted_line (f : Int) (b : List UInt8) : ∀ (r : List UInt8) (j : Int) (m : Nat), m ≤ r.length → quoted f (r ++ 10 :: b) j m = quoted f r j m
  | [], j, 0, _ => by rw [List.nil_append, quoted_nl f 10 b j rfl]; rfl
  | [], j, m + 1, h => by simp at h
  | _ :: r, j, m + 1, h => by
    rw [List.cons_append, quoted, quoted, quoted_line f b r (j + 1) m (by simp at h; omega)]
  | c :: r, j, 0, h => by
    have he := escape_line r b c
    have hf := escape_fits (c :: r)
    simp only [List.length_cons] at hf
    rw [List.cons_append, quoted, quoted, he, quoted_line f b r (j + 1) 0 (by omega)]
    by_cases hz : (escape (c :: r)).2 = 0
    · simp only [hz, if_true]
    · rw [quoted_line f b r (j + 1) ((escape (c :: r)).2.toNat - 1) (by omega)]
theorem slashed_line (b : List UInt8) : ∀ (r : List UInt8) (m : Nat), m ≤ r.length → slashed (r ++ 10 :: b) m = slashed r m
  | [], 0, _ => by rw [List.nil_append, slashed_stop 10 b rfl]; rfl
  | [], m + 1, h => by simp at h
  | _ :: r, m + 1, h => by rw [List.cons_append, slashed, slashed, slashed_line b r m (by simp at h; omega)]
  | c :: r, 0, h => by
    rw [List.cons_append, slashed, slashed]
    cases r with
    | nil =>
      have h0 := slashed_line b [] 0 (by simp)
      rw [List.nil_append] at h0 ⊢
      simp only [h0]
      simp [byteAt, slashed]
    | cons d r =>
      have hb : byteAt (d :: r ++ 10 :: b) 0 = byteAt (d :: r) 0 := rfl
      rw [hb, slashed_line b (d :: r) 1 (by simp), slashed_line b (d :: r) 0 (by simp)]
theorem step_line (b : List UInt8) (c : UInt8) (r : List UInt8) : step (c :: (r ++ 10 :: b)) = step (c :: r) := by
  have hN : isN 10 = false := by decide
  have hD : isD 10 = false := by decide
  have hq := quoted_line 0 b r 1 0 (by omega)
  have hs : slashes 0 (r ++ 10 :: b) = slashes 0 r := by
    unfold slashes
    rw [slashed_line b r 0 (by omega)]
    cases h : slashed r 0 with
    | none => rfl
    | some n =>
      have := slashed_lt r 0 n h
      simp only
      rw [List.take_append_of_le_length (by omega)]
  rw [step, step, takeWhile_line hN, takeWhile_line hD, takeWhile_line (by decide), hq, hs]
theorem cut_line (b : List UInt8) : ∀ (a : List UInt8) (j : Int) (m : Nat), m ≤ a.length →
    cut (a ++ 10 :: b) j m = if (cut a j m).2.1 = 0 then wapp (cut a j m).1 (cut b (j + a.length + 1) 0) else cut a j m
  | [], j, 0, _ => by
    rw [List.nil_append, cut_blank 10 b j (by decide)]
    simp [cut, wapp_nil]
  | [], j, m + 1, h => by simp at h
  | _ :: r, j, m + 1, h => by
    rw [List.cons_append, cut, cut, cut_line b r (j + 1) m (by simp at h; omega)]
    simp only [List.length_cons]
    rw [show j + 1 + (r.length : Int) + 1 = j + ((r.length + 1 : Nat) : Int) + 1 by omega]
  | c :: r, j, 0, h => by
    rw [List.cons_append, cut, cut, step_line]
    have hlen : j + 1 + (r.length : Int) + 1 = j + ((r.length + 1 : Nat) : Int) + 1 := by omega
    cases hs : step (c :: r) with
    | skip n =>
      have := step_skip c r n hs
      simp only
      rw [cut_line b r (j + 1) (n - 1) (by omega), hlen, List.length_cons]
    | err code off =>
      have := step_err c r code off hs
      simp only
      rw [if_neg this.1]
    | word k t n len =>
      have hw := step_word c r k t n len hs
      simp only
      rw [cut_line b r (j + 1) (len - 1) (by have := hw.len2; omega), hlen, List.length_cons]
      have h2 : ∀ (q : List W × Int × Int) (x : W), (wapp [x] q).2.1 = q.2.1 := fun q x => by unfold wapp; split <;> rfl
      rw [h2]
      by_cases hz : (cut r (j + 1) (len - 1)).2.1 = 0
      · rw [if_pos hz, if_pos hz, wapp_wapp]
        congr 1
        simp [wapp, hz]
      · rw [if_neg hz, if_neg hz]
/-- places moved -/
def moved (d : Int) (x : W) : W := ⟨x.kind, x.text, x.n, x.pos + d⟩
theorem cut_moved (d : Int) : ∀ (l : List UInt8) (j : Int) (m : Nat), cut l (j + d) m = ((cut l j m).1.map (moved d), (cut l j m).2.1, if (cut l j m).2.1 = 0 then (cut l j m).2.2 else (cut l j m).2.2 + d)
  | [], j, m => by cases m <;> simp [cut]
  | _ :: r, j, m + 1 => by rw [cut, cut, show j + d + 1 = j + 1 + d by omega, cut_moved d r (j + 1) m]
  | c :: r, j, 0 => by
    rw [cut, cut]
    cases hs : step (c :: r) with
    | skip n => simp only; rw [show j + d + 1 = j + 1 + d by omega, cut_moved d r (j + 1) (n - 1)]
    | err code off =>
      have := step_err c r code off hs
      simp only
      rw [if_neg this.1]
      simp
      omega
    | word k t n len =>
      simp only
      rw [show j + d + 1 = j + 1 + d by omega, cut_moved d r (j + 1) (len - 1)]
      unfold wapp
      by_cases hz : (cut r (j + 1) (len - 1)).2.1 = 0
      · simp [hz, moved]
      · simp [hz]
/-- A LINE END PARTS TWO TEXTS. -/
theorem apart (a b : List UInt8) (h : a.length + b.length < 16384) :
    ((Cut a).2.1 ≠ 0 → Cut (a ++ 10 :: b) = Cut a) ∧
    ((Cut a).2.1 = 0 → (Cut b).2.1 ≠ 0 → Cut (a ++ 10 :: b) = ([], (Cut b).2.1, (Cut b).2.2 + (a.length + 1))) ∧
    ((Cut a).2.1 = 0 → (Cut b).2.1 = 0 → Cut (a ++ 10 :: b) = ((Cut a).1 ++ (Cut b).1.map (moved (a.length + 1)), 0, 0)) := by
  have e1 : Cut a = cut a 0 0 := by rw [Cut, if_neg (by omega)]
  have e2 : Cut b = cut b 0 0 := by rw [Cut, if_neg (by omega)]
  have e3 : Cut (a ++ 10 :: b) = cut (a ++ 10 :: b) 0 0 := by rw [Cut, if_neg (by simp; omega)]
  have hm := cut_moved ((a.length : Int) + 1) b 0 0
  have hl := cut_line b a 0 0 (by omega)
  rw [show (0 : Int) + a.length + 1 = 0 + ((a.length : Int) + 1) by omega, hm] at hl
  have ha := cut_good a 0 0
  have hb := cut_good b 0 0
  rw [e1, e2, e3, hl]
  refine ⟨fun h => by rw [if_neg h], fun h1 h2 => ?_, fun h1 h2 => ?_⟩
  · rw [if_pos h1, if_neg h2]
    have hw : (cut b 0 0).1 = [] := by
      rcases hb with ⟨g, _⟩ | ⟨_, g⟩
      · exact absurd g h2
      · exact g
    rw [wapp]
    simp [h2, hw]
  · rw [if_pos h1, if_pos h2]
    have hp : (cut b 0 0).2.2 = 0 := by
      rcases hb with ⟨_, g, _⟩ | ⟨g, _⟩
      · exact g
      · exact absurd h2 g
    simp [wapp, h2, hp]
end Go.Proofs.YtjkhbcacpfaagaaDoor.TW
