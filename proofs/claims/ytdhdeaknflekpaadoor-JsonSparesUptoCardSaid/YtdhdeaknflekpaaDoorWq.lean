/- json.subtree: what it asks of the memory, and plain facts. -/
import Derived.Test.YtdhdeaknflekpaaDoorWp
set_option linter.unusedSimpArgs false
set_option linter.unusedVariables false
namespace Go.Proofs.YtdhdeaknflekpaaDoor
open Go.RowKit Go.Maps

/-- a slice of nodes reads as a list -/
def RN (w : World) (v : Value) (l : List TJ.N) : Prop :=
  ∃ a c, v = .slice a l.length c ∧ l.length ≤ c ∧ (l ≠ [] → ∃ b o, a = some ⟨b, o, none⟩ ∧ ∀ i (hi : i < l.length),
    w.cell? ⟨b, o + i * 4, none⟩ = some (.int .i64 (l[i]'hi).kind) ∧ w.cell? ⟨b, o + i * 4 + 1, none⟩ = some (.string ⟨(l[i]'hi).key.toArray⟩)
    ∧ w.cell? ⟨b, o + i * 4 + 2, none⟩ = some (.string ⟨(l[i]'hi).text.toArray⟩) ∧ w.cell? ⟨b, o + i * 4 + 3, none⟩ = some (.int .i64 (l[i]'hi).kids))
theorem RN.below {w w1 : World} {v : Value} {l : List TJ.N} (h : RN w v l) (hb : Below w.heap.size w w1) : RN w1 v l := by
  obtain ⟨a, c, rfl, hc, hcl⟩ := h
  refine ⟨a, c, rfl, hc, fun hne => ?_⟩
  obtain ⟨b, o, rfl, hcm⟩ := hcl hne
  have mv : ∀ (q : Addr) (u : Value), w.cell? q = some u → w1.cell? q = some u := fun q u h => (hb.cell (World.block_lt_of_cell? w _ h)).trans h
  exact ⟨b, o, rfl, fun i hi => ⟨mv _ _ (hcm i hi).1, mv _ _ (hcm i hi).2.1, mv _ _ (hcm i hi).2.2.1, mv _ _ (hcm i hi).2.2.2⟩⟩
theorem nvals_at (l : List TJ.N) (i : Nat) (hi : i < l.length) (j : Nat) (hj : j < 4) : (nvals l)[4 * i + j]? = (nvals1 (l[i]'hi))[j]? := by
  induction l generalizing i with
  | nil => simp at hi
  | cons x l ih =>
    have e : nvals (x :: l) = nvals1 x ++ nvals l := rfl
    have hx : (nvals1 x).length = 4 := rfl
    rw [e]
    cases i with
    | zero => rw [List.getElem?_append_left (by rw [hx]; omega)]; simp
    | succ i =>
      rw [List.getElem?_append_right (by rw [hx]; omega), hx, show 4 * (i + 1) + j - 4 = 4 * i + j by omega]
      exact ih i (by simpa using hi)
theorem RN.own {w : World} {base : Nat} {v : Value} {l : List TJ.N} (h : w.ownsRow base 36 4 v l.length (nvals l)) : RN w v l := by
  have hl := h.1
  rcases h.2 with ⟨rfl, h0⟩ | ⟨g, cap, cur, rfl, _, hh, hnc, _⟩
  · have : l = [] := List.eq_nil_of_length_eq_zero h0
    subst this
    exact ⟨none, 0, rfl, by simp, fun h => absurd rfl h⟩
  · refine ⟨_, cap, rfl, hnc, fun _ => ⟨g, 0, rfl, fun i hi => ?_⟩⟩
    have hcell : ∀ j u, j < 4 → (nvals1 (l[i]'hi))[j]? = some u → w.cell? ⟨g, 0 + (4 * i + j), none⟩ = some u := fun j u hj hu => by
      have := h.cells (g := g) rfl (4 * i + j) u (by rw [nvals_at l i hi j hj]; exact hu)
      rwa [Addr.add_lit] at this
    have d0 := hcell 0 _ (by omega) rfl
    have d1 := hcell 1 _ (by omega) rfl
    have d2 := hcell 2 _ (by omega) rfl
    have d3 := hcell 3 _ (by omega) rfl
    rw [show 0 + (4 * i + 0) = 0 + i * 4 by omega] at d0
    rw [show 0 + (4 * i + 1) = 0 + i * 4 + 1 by omega] at d1
    rw [show 0 + (4 * i + 2) = 0 + i * 4 + 2 by omega] at d2
    rw [show 0 + (4 * i + 3) = 0 + i * 4 + 3 by omega] at d3
    exact ⟨d0, d1, d2, d3⟩
/-- a node as it may lie in memory -/
structure NOk (x : TJ.N) : Prop where
  key : x.key.length ≤ 16777216
  text : x.text.length ≤ 16777216
  lo : -9223372036854775808 ≤ x.kids
  hi : x.kids ≤ 9223372036854775807
theorem sub_tail : ∀ (D : Nat) (key : Bool) (l r : List TJ.N), TJ.sub D key l = some r → r.length + 1 ≤ l.length ∧ l.drop (l.length - r.length) = r := by
  have subs_tail : ∀ (f : List TJ.N → Option (List TJ.N)), (∀ l r, f l = some r → r.length + 1 ≤ l.length ∧ l.drop (l.length - r.length) = r) → ∀ (obj : Bool) (k : Nat) (keys : List (List UInt8)) (l r : List TJ.N), TJ.subs f obj k keys l = some r → r.length ≤ l.length ∧ l.drop (l.length - r.length) = r := by
    intro f hf obj k
    induction k with
    | zero => intro keys l r h; cases h; simp
    | succ k ih =>
      intro keys l r h
      rw [TJ.subs] at h
      cases hq : f l with
      | none => rw [hq] at h; cases h
      | some r' =>
        rw [hq] at h
        obtain ⟨h1, h2⟩ := hf l r' hq
        have key : ∀ keys, TJ.subs f obj k keys r' = some r → r.length ≤ l.length ∧ l.drop (l.length - r.length) = r := by
          intro keys h
          obtain ⟨h3, h4⟩ := ih keys r' r h
          refine ⟨by omega, ?_⟩
          rw [← h2, List.drop_drop, List.length_drop] at h4
          rw [show l.length - r.length = l.length - r'.length + (l.length - (l.length - r'.length) - r.length) by omega]
          exact h4
        dsimp only at h
        split at h
        · split at h
          · cases h
          · exact key _ h
        · exact key _ h
  intro D
  induction D with
  | zero =>
    intro key l r h
    cases l with
    | nil => rw [TJ.sub] at h; cases h
    | cons n l =>
      rw [TJ.sub] at h
      split at h
      · cases h
      · split at h
        · cases h
        · cases h; exact ⟨by simp, by simp⟩
  | succ D ih =>
    intro key l r h
    cases l with
    | nil => rw [TJ.sub] at h; cases h
    | cons n l =>
      rw [TJ.sub] at h
      split at h
      · cases h
      · split at h
        · obtain ⟨h1, h2⟩ := subs_tail _ (ih _) _ _ _ _ _ h
          refine ⟨by simp only [List.length_cons]; omega, ?_⟩
          rw [List.length_cons, show l.length + 1 - r.length = (l.length - r.length) + 1 by omega, List.drop_succ_cons]
          exact h2
        · cases h; exact ⟨by simp, by simp⟩
/-- the place of what is left -/
def subR (l : List TJ.N) : Option (List TJ.N) → Int
  | some r => (l.length : Int) - (r.length : Int)
  | none => -1
theorem sub_at {D : Nat} {key : Bool} {l r : List TJ.N} {a : Nat} (h : TJ.sub D key (l.drop a) = some r) : ∃ p : Nat, subR l (some r) = (p : Int) ∧ p ≤ l.length ∧ l.drop p = r ∧ a < p := by
  obtain ⟨h1, h2⟩ := sub_tail D key _ _ h
  rw [List.length_drop] at h1 h2
  refine ⟨l.length - r.length, ?_, by omega, ?_, by omega⟩
  · show (l.length : Int) - (r.length : Int) = _
    omega
  · rw [List.drop_drop] at h2
    rw [← show a + (l.length - a - r.length) = l.length - r.length by omega]
    exact h2
end Go.Proofs.YtdhdeaknflekpaaDoor
