/- Plain laws: where the words of a joined text stand. -/
import Derived.Test.YtjkhbcacpfaagaaDoorPd
set_option linter.unusedSimpArgs false
set_option linter.unusedVariables false
namespace Go.Proofs.YtjkhbcacpfaagaaDoor.TW

/-- how many bytes the spellings of a list take, each with a blank behind it -/
def adv (l : List W) : Nat := (l.map fun x => (spellW x).length + 1).sum
theorem adv_nil : adv [] = 0 := rfl
theorem adv_cons (x : W) (l : List W) : adv (x :: l) = (spellW x).length + 1 + adv l := by simp [adv]
theorem adv_snoc (l : List W) (x : W) : adv (l ++ [x]) = adv l + (spellW x).length + 1 := by
  induction l with
  | nil => simp [adv]
  | cons y l ih => rw [List.cons_append, adv_cons, adv_cons, ih]; omega
theorem place_snoc : ∀ (l : List W) (x : W) (p : Int), place (l ++ [x]) p = place l p ++ [back x (p + adv l)]
  | [], x, p => by simp [place, adv]
  | y :: l, x, p => by
    rw [List.cons_append, place, place, place_snoc l x, adv_cons, List.cons_append]
    congr 4
    omega
theorem spell_none {x : W} (h : soundW x = false) : spellW x = [] := spell_no h
theorem spell_some {x : W} (h : soundW x = true) : spellW x ≠ [] := (step_spell x [] h (.inl rfl)).2
theorem join_adv : ∀ (l : List W), l ≠ [] → (Lib.join (l.map spellW) [32]).length + 1 = adv l
  | [], h => absurd rfl h
  | [x], _ => by simp [Lib.join_one, adv]
  | x :: y :: r, _ => by
    have e : Lib.join ((x :: y :: r).map spellW) [32] = spellW x ++ 32 :: Lib.join ((y :: r).map spellW) [32] := by
      rw [List.map_cons, Lib.join_cons, List.map_cons, Lib.join_cons]
      simp [Lib.joinTail]
    have ih := join_adv (y :: r) (by simp)
    rw [e, adv_cons, List.length_append, List.length_cons]
    omega
theorem adv_take_le (l : List W) (k : Nat) : adv (l.take k) ≤ adv l := by
  induction l generalizing k with
  | nil => simp
  | cons x l ih =>
    cases k with
    | zero => simp [adv]
    | succ k => rw [List.take_succ_cons, adv_cons, adv_cons]; have := ih k; omega
end Go.Proofs.YtjkhbcacpfaagaaDoor.TW
