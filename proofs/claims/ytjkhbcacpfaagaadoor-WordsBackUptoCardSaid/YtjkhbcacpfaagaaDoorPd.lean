/- Plain laws: the canonical text. -/
import Derived.Test.YtjkhbcacpfaagaaDoorPc
import Derived.Lib.ItoaLen
set_option linter.unusedSimpArgs false
set_option linter.unusedVariables false
namespace Go.Proofs.YtjkhbcacpfaagaaDoor.TW

/-- fields that a kind does not use are zero -/
def Idle (x : W) : Prop := (x.kind = 4 → x.text = []) ∧ (x.kind ≠ 4 → x.n = 0)
theorem back_bare (x : W) (p : Int) (h : Idle x) : bare (back x p) = bare x := by
  obtain ⟨h1, h2⟩ := h
  unfold back bare
  by_cases k : x.kind = 4
  · simp [k, h1 k]
  · simp [k, h2 k]
theorem place_bare : ∀ (l : List W) (j : Int), (∀ x ∈ l, Idle x) → (place l j).map bare = l.map bare
  | [], _, _ => rfl
  | x :: r, j, h => by
    rw [place, List.map_cons, List.map_cons, back_bare x j (h x (by simp)), place_bare r _ fun y hy => h y (by simp [hy])]
theorem joinW_bare {a b : List W} (h : a.map bare = b.map bare) : joinW a = joinW b := by
  have e1 : ∀ l : List W, l.all soundW = (l.map bare).all fun x => sound x.1 x.2.1 x.2.2 := fun l => by
    rw [List.all_map]; rfl
  have e2 : ∀ l : List W, l.map spellW = (l.map bare).map fun x => spell x.1 x.2.1 x.2.2 := fun l => by
    rw [List.map_map]; rfl
  rw [joinW, joinW, e1 a, e1 b, e2 a, e2 b, h]
theorem quote_len (t : List UInt8) : (quote t).length ≤ 4 * t.length + 2 := by
  have : (t.flatMap qbyte).length ≤ 4 * t.length := by
    induction t with
    | nil => simp
    | cons c t ih =>
      have : (qbyte c).length ≤ 4 := by unfold qbyte; repeat' split
                                        all_goals simp
      simp only [List.flatMap_cons, List.length_append, List.length_cons]; omega
  simp only [quote, List.cons_append, List.length_cons, List.length_append, List.length_nil]; omega
theorem spell_len (x : W) (h0 : -9223372036854775808 ≤ x.n) (h1 : x.n ≤ 9223372036854775807) : (spellW x).length ≤ 4 * x.text.length + 21 := by
  have h2 := quote_len x.text
  have h3 := Lib.itoa_length_le x.n h0 h1
  unfold spellW spell
  repeat' split
  · omega
  · simp; omega
  · omega
  · omega
  · simp
theorem join_len (B : Nat) : ∀ l : List W, (∀ x ∈ l, (spellW x).length ≤ B) → (Lib.join (l.map spellW) [32]).length ≤ l.length * (B + 1)
  | [], _ => by simp [Lib.join_nil]
  | [x], h => by rw [List.map_cons, List.map_nil, Lib.join_one]; have := h x (by simp); simp only [List.length_cons, List.length_nil]; omega
  | x :: y :: r, h => by
    have e : Lib.join ((x :: y :: r).map spellW) [32] = spellW x ++ 32 :: Lib.join ((y :: r).map spellW) [32] := by
      rw [List.map_cons, Lib.join_cons, List.map_cons, Lib.join_cons]
      simp [Lib.joinTail]
    have ih := join_len B (y :: r) fun z hz => h z (by simp only [List.mem_cons] at *; exact .inr hz)
    have hx := h x (by simp)
    rw [e]
    simp only [List.length_append, List.length_cons] at *
    have : (r.length + 1 + 1) * (B + 1) = (r.length + 1) * (B + 1) + (B + 1) := by rw [Nat.add_mul (r.length + 1) 1, Nat.one_mul]
    omega
/-- what is known of a text's words -/
theorem Cut_ok (l : List UInt8) : ((Cut l).2.1 ≠ 0 ∧ (Cut l).1 = [] ∧ 0 ≤ (Cut l).2.2 ∧ (Cut l).2.2 ≤ l.length) ∨
    (l.length ≤ 16384 ∧ Cut l = ((Cut l).1, 0, 0) ∧ (Cut l).1.all soundW = true ∧ (∀ x ∈ (Cut l).1, x.text.length ≤ l.length ∧ 0 ≤ x.n ∧ x.n ≤ 65535 ∧ Idle x) ∧ (Cut l).1.length ≤ l.length) := by
  unfold Cut
  by_cases h : l.length > 16384
  · left
    rw [if_pos h]
    exact ⟨by decide, rfl, by decide, by simp only; omega⟩
  · rw [if_neg h]
    have hp := cut_place l 0 0 (Nat.zero_le _)
    rcases cut_good l 0 0 with ⟨h1, h2, h3, h4, h5⟩ | ⟨h1, h2⟩
    · exact .inr ⟨by omega, Prod.ext rfl (Prod.ext h1 h2), h3, fun x hx => by have := h4 x hx; exact ⟨this.1, this.2.1, this.2.2.1, this.2.2.2⟩, h5⟩
    · have := hp h1
      exact .inl ⟨h1, h2, by omega, by omega⟩
theorem words_fit (l : List UInt8) (ws : List W) (h : l.length ≤ 16384) (h1 : ∀ x ∈ ws, x.text.length ≤ l.length ∧ 0 ≤ x.n ∧ x.n ≤ 65535 ∧ Idle x) (h2 : ws.length ≤ l.length) :
    ws.length ≤ 16384 ∧ (∀ x ∈ ws, WOk x) ∧ (Lib.join (ws.map spellW) [32]).length ≤ 1100000000 := by
  refine ⟨by omega, fun x hx => by have := h1 x hx; exact ⟨by omega, by omega, by omega⟩, ?_⟩
  have hb := join_len 65557 ws fun x hx => by
    have h3 := h1 x hx
    have := spell_len x (by omega) (by omega)
    omega
  have : ws.length * (65557 + 1) ≤ 16384 * (65557 + 1) := Nat.mul_le_mul_right _ (by omega)
  omega
theorem place_ok : ∀ (l : List W) (j : Int), (∀ x ∈ l, WOk x) → ∀ y ∈ place l j, WOk y
  | [], _, _, y, hy => by simp [place] at hy
  | x :: r, j, h, y, hy => by
    rw [place, List.mem_cons] at hy
    rcases hy with rfl | hy
    · have := h x (by simp)
      unfold back WOk
      obtain ⟨h1, h2, h3⟩ := this
      refine ⟨?_, ?_, ?_⟩
      · show (if x.kind = 4 then [] else x.text).length ≤ _
        split
        · simp
        · exact h1
      · show _ ≤ (if x.kind = 4 then x.n else 0)
        split <;> omega
      · show (if x.kind = 4 then x.n else 0) ≤ _
        split <;> omega
    · exact place_ok r _ (fun z hz => h z (by simp [hz])) y hy
theorem join_same {a b : List W} (h : a.map bare = b.map bare) : Lib.join (a.map spellW) [32] = Lib.join (b.map spellW) [32] := by
  have e2 : ∀ l : List W, l.map spellW = (l.map bare).map fun x => spell x.1 x.2.1 x.2.2 := fun l => by
    rw [List.map_map]; rfl
  rw [e2 a, e2 b, h]
/-- the joined text is cut into the same words -/
theorem canon (ws : List W) (hs : ws.all soundW = true) (hi : ∀ x ∈ ws, Idle x) (hl : (joinW ws).length ≤ 16384) :
    Cut (joinW ws) = (place ws 0, 0, 0) ∧ (place ws 0).map bare = ws.map bare ∧ joinW (place ws 0) = joinW ws := by
  have hp := place_bare ws 0 hi
  refine ⟨?_, hp, joinW_bare hp⟩
  rw [Cut, if_neg (by omega), joinW, if_pos hs, cut_join ws 0 hs]
end Go.Proofs.YtjkhbcacpfaagaaDoor.TW
