/- Plain functions on lists of bytes: the cutter. -/
import Derived.Test.YtjkhbcacpfaagaaDoorMa
set_option linter.unusedSimpArgs false
set_option linter.unusedVariables false
namespace Go.Proofs.YtjkhbcacpfaagaaDoor.TW

structure W where
  kind : Int
  text : List UInt8
  n : Int
  pos : Int
deriving DecidableEq
def signs : List UInt8 := [123, 125, 40, 41, 124, 42, 43, 63, 58, 59, 44, 61, 64]
def isN (c : UInt8) : Bool := letter c.toNat || digit c.toNat
def isD (c : UInt8) : Bool := digit c.toNat
def number (l : List UInt8) (n : Int) : Int := l.foldl (fun n c => min (10 * n + ((c.toNat : Int) - 48)) 65536) n
/-- What stands at the head of a list: so many bytes to be passed over, a word of so many bytes, or an error so far behind. -/
inductive Step where
  | skip (n : Nat)
  | word (kind : Int) (text : List UInt8) (n : Int) (len : Nat)
  | err (code : Int) (off : Int)
def step : List UInt8 → Step
  | [] => .skip 1
  | c :: r =>
    if blank c.toNat then .skip 1
    else if (c.toNat : Int) = 35 then .skip (1 + (r.takeWhile fun d => (d.toNat : Int) != 10).length)
    else if letter c.toNat then
      if 1 + (r.takeWhile isN).length > 24 then .err 83 0 else .word 1 (c :: r.takeWhile isN) 0 (1 + (r.takeWhile isN).length)
    else if digit c.toNat then
      if number (c :: r.takeWhile isD) 0 > 65535 then .err 84 0 else .word 4 [] (number (c :: r.takeWhile isD) 0) (1 + (r.takeWhile isD).length)
    else if (c.toNat : Int) = 34 then
      if (quoted 0 r 1 0).2.1 = 0 then .word 2 (quoted 0 r 1 0).1 0 (quoted 0 r 1 0).2.2.toNat else .err (quoted 0 r 1 0).2.1 (quoted 0 r 1 0).2.2
    else if (c.toNat : Int) = 47 then
      if (slashes 0 r).2.1 = 0 then .word 3 (slashes 0 r).1 0 (slashes 0 r).2.2.toNat else .err (slashes 0 r).2.1 (slashes 0 r).2.2
    else if signs.contains c then .word 5 [c] 0 1
    else .err 81 0
/-- words ahead of what is cut behind them, if all was well -/
def wapp (l : List W) (r : List W × Int × Int) : List W × Int × Int := if r.2.1 = 0 then (l ++ r.1, r.2.1, r.2.2) else r
def cut : List UInt8 → Int → Nat → List W × Int × Int
  | [], _, _ => ([], 0, 0)
  | _ :: r, j, m + 1 => cut r (j + 1) m
  | c :: r, j, 0 =>
    match step (c :: r) with
    | .skip n => cut r (j + 1) (n - 1)
    | .word k t n len => wapp [⟨k, t, n, j⟩] (cut r (j + 1) (len - 1))
    | .err code off => ([], code, j + off)
def Cut (l : List UInt8) : List W × Int × Int := if l.length > 16384 then ([], 80, 16384) else cut l 0 0
theorem wapp_nil (r : List W × Int × Int) : wapp [] r = r := by
  unfold wapp
  split <;> simp
theorem wapp_wapp (l m : List W) (r : List W × Int × Int) : wapp l (wapp m r) = wapp (l ++ m) r := by
  unfold wapp
  by_cases h : r.2.1 = 0 <;> simp [h]
theorem wapp_err (l : List W) (c p : Int) (h : c ≠ 0) : wapp l ([], c, p) = ([], c, p) := by simp [wapp, h]
theorem cut_skip : ∀ (l : List UInt8) (j : Int) (m : Nat), cut l j m = cut (l.drop m) (j + m) 0
  | [], _, m => by cases m <;> simp [cut]
  | _ :: r, j, m + 1 => by
    rw [cut, cut_skip r (j + 1) m, List.drop_succ_cons, show j + 1 + (m : Int) = j + ((m + 1 : Nat) : Int) by omega]
  | c :: r, j, 0 => by simp
/-- one step, all in one -/
theorem cut_step (c : UInt8) (r : List UInt8) (j : Int) : cut (c :: r) j 0 =
    match step (c :: r) with
    | .skip n => cut ((c :: r).drop (1 + (n - 1))) (j + (1 + (n - 1) : Nat)) 0
    | .word k t n len => wapp [⟨k, t, n, j⟩] (cut ((c :: r).drop (1 + (len - 1))) (j + (1 + (len - 1) : Nat)) 0)
    | .err code off => ([], code, j + off) := by
  rw [cut]
  have h : ∀ m : Nat, cut r (j + 1) m = cut ((c :: r).drop (1 + m)) (j + (1 + m : Nat)) 0 := fun m => by
    rw [cut_skip r, Nat.add_comm 1 m, List.drop_succ_cons, show j + 1 + (m : Int) = j + ((m + 1 : Nat) : Int) by omega]
  cases step (c :: r) <;> simp [h]
/-! The machine's other states: in a comment, in a name, in a number. -/
def cutC (l : List UInt8) (j : Int) : List W × Int × Int := cut (l.dropWhile fun d => (d.toNat : Int) != 10) (j + (l.takeWhile fun d => (d.toNat : Int) != 10).length) 0
def cutN (pre l : List UInt8) (f j : Int) : List W × Int × Int :=
  if pre.length + (l.takeWhile isN).length > 24 then ([], 83, f) else wapp [⟨1, pre ++ l.takeWhile isN, 0, f⟩] (cut (l.dropWhile isN) (j + (l.takeWhile isN).length) 0)
def cutD (l : List UInt8) (n f j : Int) : List W × Int × Int :=
  if number (l.takeWhile isD) n > 65535 then ([], 84, f) else wapp [⟨4, [], number (l.takeWhile isD) n, f⟩] (cut (l.dropWhile isD) (j + (l.takeWhile isD).length) 0)
theorem drop_takeWhile (p : UInt8 → Bool) : ∀ l : List UInt8, l.drop (l.takeWhile p).length = l.dropWhile p
  | [] => rfl
  | c :: r => by
    by_cases h : p c <;> simp [List.takeWhile_cons, List.dropWhile_cons, h, drop_takeWhile p r]
theorem cutC_end (j : Int) : cutC [] j = cut [] j 0 := by simp [cutC]
theorem cutC_nl (c : UInt8) (r : List UInt8) (j : Int) (h : (c.toNat : Int) = 10) : cutC (c :: r) j = cut (c :: r) j 0 := by simp [cutC, List.takeWhile_cons, List.dropWhile_cons, h]
theorem cutC_go (c : UInt8) (r : List UInt8) (j : Int) (h : (c.toNat : Int) ≠ 10) : cutC (c :: r) j = cutC r (j + 1) := by
  have h' : ((c.toNat : Int) != 10) = true := by rw [bne_iff_ne]; exact h
  simp only [cutC, List.takeWhile_cons, List.dropWhile_cons, h', if_true, List.length_cons]
  rw [show j + ((List.takeWhile (fun d : UInt8 => (d.toNat : Int) != 10) r).length + 1 : Nat) = j + 1 + (List.takeWhile (fun d : UInt8 => (d.toNat : Int) != 10) r).length by omega]
theorem cutN_end (pre : List UInt8) (f j : Int) : cutN pre [] f j = if pre.length > 24 then ([], 83, f) else wapp [⟨1, pre, 0, f⟩] (cut [] j 0) := by simp [cutN]
theorem cutN_stop (pre r : List UInt8) (c : UInt8) (f j : Int) (h : isN c = false) : cutN pre (c :: r) f j = if pre.length > 24 then ([], 83, f) else wapp [⟨1, pre, 0, f⟩] (cut (c :: r) j 0) := by
  simp [cutN, List.takeWhile_cons, List.dropWhile_cons, h]
theorem cutN_go (pre r : List UInt8) (c : UInt8) (f j : Int) (h : isN c = true) : cutN pre (c :: r) f j = cutN (pre ++ [c]) r f (j + 1) := by
  simp only [cutN, List.takeWhile_cons, List.dropWhile_cons, h, if_true, List.length_cons, List.length_append, List.length_nil, List.append_assoc, List.cons_append, List.nil_append]
  rw [show j + ((List.takeWhile isN r).length + 1 : Nat) = j + 1 + (List.takeWhile isN r).length by omega, show pre.length + ((List.takeWhile isN r).length + 1) = pre.length + (0 + 1) + (List.takeWhile isN r).length by omega]
theorem cutD_end (n f j : Int) : cutD [] n f j = if n > 65535 then ([], 84, f) else wapp [⟨4, [], n, f⟩] (cut [] j 0) := by simp [cutD, number]
theorem cutD_stop (r : List UInt8) (c : UInt8) (n f j : Int) (h : isD c = false) : cutD (c :: r) n f j = if n > 65535 then ([], 84, f) else wapp [⟨4, [], n, f⟩] (cut (c :: r) j 0) := by
  simp [cutD, List.takeWhile_cons, List.dropWhile_cons, h, number]
theorem cutD_go (r : List UInt8) (c : UInt8) (n f j : Int) (h : isD c = true) : cutD (c :: r) n f j = cutD r (min (10 * n + ((c.toNat : Int) - 48)) 65536) f (j + 1) := by
  simp only [cutD, List.takeWhile_cons, List.dropWhile_cons, h, if_true, List.length_cons]
  rw [show j + ((List.takeWhile isD r).length + 1 : Nat) = j + 1 + (List.takeWhile isD r).length by omega]
  rfl
/-! What 'cut' is, by the head byte. -/
theorem cut_blank (c : UInt8) (r : List UInt8) (j : Int) (h : blank c.toNat = true) : cut (c :: r) j 0 = cut r (j + 1) 0 := by
  rw [cut_step, step, if_pos h]; simp
theorem cut_comment (c : UInt8) (r : List UInt8) (j : Int) (h1 : blank c.toNat = false) (h : (c.toNat : Int) = 35) : cut (c :: r) j 0 = cutC (c :: r) j := by
  rw [cut_step, step, if_neg (by simp [h1]), if_pos h, cutC_go _ _ _ (by omega), cutC, ← drop_takeWhile]
  simp only [Nat.add_sub_cancel_left]
  rw [Nat.add_comm 1, List.drop_succ_cons]
  congr 1
  omega
theorem cut_name (c : UInt8) (r : List UInt8) (j : Int) (h1 : blank c.toNat = false) (h2 : (c.toNat : Int) ≠ 35) (h : letter c.toNat = true) : cut (c :: r) j 0 = cutN [] (c :: r) j j := by
  have hn : isN c = true := by simp [isN, h]
  rw [cut_step, step, if_neg (by simp [h1]), if_neg h2, if_pos h, cutN_go _ _ _ _ _ hn, cutN, ← drop_takeWhile]
  simp only [List.nil_append, List.length_cons, List.length_nil, Nat.zero_add]
  by_cases hl : 1 + (List.takeWhile isN r).length > 24
  · simp [hl]
  · simp only [hl, if_false, Nat.add_sub_cancel_left]
    rw [Nat.add_comm 1, List.drop_succ_cons]
    congr 2
    omega
theorem cut_number (c : UInt8) (r : List UInt8) (j : Int) (h1 : blank c.toNat = false) (h2 : (c.toNat : Int) ≠ 35) (h3 : letter c.toNat = false) (h : digit c.toNat = true) : cut (c :: r) j 0 = cutD (c :: r) 0 j j := by
  have hn : isD c = true := by simp [isD, h]
  have hN : ∀ l : List UInt8, number (c :: l) 0 = number l (min (10 * 0 + ((c.toNat : Int) - 48)) 65536) := fun l => rfl
  rw [cut_step, step, if_neg (by simp [h1]), if_neg h2, if_neg (by simp [h3]), if_pos h, cutD_go _ _ _ _ _ hn, cutD, ← drop_takeWhile, hN]
  by_cases hl : number (List.takeWhile isD r) (min (10 * 0 + ((c.toNat : Int) - 48)) 65536) > 65535
  · simp only [if_pos hl]
    rw [Int.add_zero]
  · simp only [if_neg hl, Nat.add_sub_cancel_left]
    rw [Nat.add_comm 1, List.drop_succ_cons]
    congr 2
    omega
theorem letter_not (c : Int) (h : c = 34 ∨ c = 47) : blank c = false ∧ c ≠ 35 ∧ letter c = false ∧ digit c = false := by
  rcases h with rfl | rfl <;> decide
/-! Strings and regexes at whatever place. -/
def shift (d : Int) (r : List UInt8 × Int × Int) : List UInt8 × Int × Int := (r.1, r.2.1, r.2.2 + d)
theorem shift_qcons (d : Int) (l : List UInt8) (r : List UInt8 × Int × Int) : shift d (qcons l r) = qcons l (shift d r) := by
  unfold shift qcons
  by_cases h : r.2.1 = 0 <;> simp [h]
theorem quoted_shift (d f : Int) : ∀ (l : List UInt8) (j : Int) (m : Nat), quoted (f + d) l (j + d) m = shift d (quoted f l j m)
  | [], _, _ => by simp [quoted, shift]
  | _ :: r, j, m + 1 => by
    rw [quoted, quoted, ← quoted_shift d f r, show j + d + 1 = j + 1 + d by omega]
  | c :: r, j, 0 => by
    rw [quoted, quoted]
    repeat' split
    · simp [shift]
    · simp only [shift]; congr 2; omega
    · simp [shift]
    · rw [shift_qcons, ← quoted_shift d f r, show j + d + 1 = j + 1 + d by omega]
    · rw [shift_qcons, ← quoted_shift d f r, show j + d + 1 = j + 1 + d by omega]
/-- where a string ends: behind its quote, within the list -/
theorem quoted_ends (f : Int) : ∀ (l : List UInt8) (j : Int) (m : Nat), (quoted f l j m).2.1 = 0 ∧ j + 1 ≤ (quoted f l j m).2.2 ∧ (quoted f l j m).2.2 ≤ j + l.length ∨ (quoted f l j m).2.1 = 82
  | [], _, _ => by simp [quoted]
  | c :: r, j, m + 1 => by
    have := quoted_ends f r (j + 1) m
    rw [quoted]
    simp only [List.length_cons]
    omega
  | c :: r, j, 0 => by
    have hq : ∀ (x : List UInt8) (q : List UInt8 × Int × Int), (qcons x q).2 = q.2 := fun x q => by unfold qcons; split <;> rfl
    have h1 := quoted_ends f r (j + 1) 0
    have h2 := quoted_ends f r (j + 1) ((escape (c :: r)).2.toNat - 1)
    rw [quoted]
    simp only [List.length_cons]
    repeat' split
    · simp
    · simp; omega
    · simp
    · rw [hq]; omega
    · rw [hq]; omega
theorem slashed_lt : ∀ (l : List UInt8) (m n : Nat), slashed l m = some n → n < l.length
  | [], _, _, h => by simp [slashed] at h
  | _ :: r, m + 1, n, h => by
    rw [slashed] at h
    obtain ⟨k, hk, rfl⟩ := Option.map_eq_some_iff.1 h
    have := slashed_lt r m k hk
    simp only [List.length_cons]; omega
  | c :: r, 0, n, h => by
    rw [slashed] at h
    split at h
    · cases h
    · split at h
      · cases h; simp
      · split at h
        all_goals
          obtain ⟨k, hk, rfl⟩ := Option.map_eq_some_iff.1 h
          have := slashed_lt r _ k hk
          simp only [List.length_cons]; omega
theorem cut_str (c : UInt8) (r : List UInt8) (f : Int) (h : (c.toNat : Int) = 34) : cut (c :: r) f 0 =
    if (quoted f r (f + 1) 0).2.1 = 0 then wapp [⟨2, (quoted f r (f + 1) 0).1, 0, f⟩] (cut ((c :: r).drop ((quoted f r (f + 1) 0).2.2 - f).toNat) (quoted f r (f + 1) 0).2.2 0) else ([], (quoted f r (f + 1) 0).2.1, (quoted f r (f + 1) 0).2.2) := by
  obtain ⟨n1, n2, n3, n4⟩ := letter_not c.toNat (.inl h)
  have hs := quoted_shift f 0 r 1 0
  have he := quoted_ends 0 r 1 0
  rw [Int.zero_add, show 1 + f = f + 1 by omega] at hs
  rw [cut_step, step, if_neg (by simp [n1]), if_neg n2, if_neg (by simp [n3]), if_neg (by simp [n4]), if_pos h, hs]
  generalize quoted 0 r 1 0 = q at *
  obtain ⟨b, code, p⟩ := q
  simp only [shift] at *
  by_cases hc : code = 0
  · subst hc
    obtain ⟨m, rfl⟩ : ∃ m : Nat, p = (m : Int) + 1 := ⟨(p - 1).toNat, by omega⟩
    simp only [if_true, Int.add_sub_cancel]
    rw [show ((m : Int) + 1).toNat = m + 1 by omega, show 1 + (m + 1 - 1) = m + 1 by omega]
    congr 2
    omega
  · simp only [if_neg hc]
    rw [Int.add_comm]
    exact (if_neg hc).symm
theorem cut_regex (c : UInt8) (r : List UInt8) (f : Int) (h : (c.toNat : Int) = 47) : cut (c :: r) f 0 =
    if (slashes f r).2.1 = 0 then wapp [⟨3, (slashes f r).1, 0, f⟩] (cut ((c :: r).drop ((slashes f r).2.2 - f).toNat) (slashes f r).2.2 0) else ([], (slashes f r).2.1, (slashes f r).2.2) := by
  obtain ⟨n1, n2, n3, n4⟩ := letter_not c.toNat (.inr h)
  rw [cut_step, step, if_neg (by simp [n1]), if_neg n2, if_neg (by simp [n3]), if_neg (by simp [n4]), if_neg (by omega), if_pos h]
  unfold slashes
  cases hs : slashed r 0 with
  | none => simp
  | some m =>
    simp only [if_true]
    rw [show (0 + (m : Int) + 2).toNat = m + 2 by omega, show 1 + (m + 2 - 1) = m + 2 by omega, show (f + (m : Int) + 2 - f).toNat = m + 2 by omega]
    congr 2
    omega
theorem slashes_ends (f : Int) (l : List UInt8) : (slashes f l).2.1 = 0 ∧ f + 2 ≤ (slashes f l).2.2 ∧ (slashes f l).2.2 ≤ f + 1 + l.length ∨ (slashes f l).2.1 = 82 := by
  unfold slashes
  cases hs : slashed l 0 with
  | none => simp
  | some m =>
    have := slashed_lt l 0 m hs
    exact .inl ⟨rfl, by simp only; omega, by simp only; omega⟩
end Go.Proofs.YtjkhbcacpfaagaaDoor.TW
