/- Plain laws: how long a print is; what the nodes of what was read may hold. -/
import Derived.Test.YtdhdeaknflekpaaDoorPn
set_option linter.unusedSimpArgs false
set_option linter.unusedVariables false
namespace Go.Proofs.YtdhdeaknflekpaaDoor.TJ

def lo (v : List N) : Nat := (v.map fun n => n.key.length + n.text.length).sum
def hi (v : List N) : Nat := (v.map fun n => 6 * n.key.length + 6 * n.text.length + 10).sum
theorem lo_app (a b : List N) : lo (a ++ b) = lo a + lo b := by simp [lo]
theorem hi_app (a b : List N) : hi (a ++ b) = hi a + hi b := by simp [hi]
theorem lo_cons (n : N) (b : List N) : lo (n :: b) = n.key.length + n.text.length + lo b := by simp [lo]
theorem hi_cons (n : N) (b : List N) : hi (n :: b) = 6 * n.key.length + 6 * n.text.length + 10 + hi b := by simp [hi]
theorem qbyte_pos (c : UInt8) : 1 ≤ (qbyte c).length := by
  revert c
  exact all_bytes (p := fun c => 1 ≤ (qbyte c).length) (by decide +kernel)
theorem quote_len (s : List UInt8) : s.length + 2 ≤ (quote s).length ∧ (quote s).length ≤ 6 * s.length + 2 := by
  have : s.length ≤ (s.flatMap qbyte).length ∧ (s.flatMap qbyte).length ≤ 6 * s.length := by
    induction s with
    | nil => simp
    | cons c s ih =>
      rw [List.flatMap_cons, List.length_append, List.length_cons]
      have h1 := qbyte_pos c
      have h2 := qbyte_len c
      omega
  unfold quote
  simp only [List.length_append, List.length_cons, List.length_nil]
  omega
/-- how long; how many kids -/
structure Long (d : Nat) (kf : Bool) (l r v : List N) : Prop where
  parts : l = v ++ r
  back : (prt d kf l).2 = r
  lo : lo v ≤ (prt d kf l).1.length
  hi : (prt d kf l).1.length + 1 ≤ hi v
  one : 1 ≤ v.length
  kids : ∀ x ∈ v, 0 ≤ x.kids ∧ x.kids.toNat ≤ v.length
theorem prts_long {d : Nat} {obj : Bool} (ih : ∀ l r, sub d obj l = some r → ∃ v, Long d obj l r v) : ∀ (k : Nat) (keys : List (List UInt8)) (l r : List N) (more : Bool), subs (sub d obj) obj k keys l = some r →
    ∃ v, l = v ++ r ∧ (prts (prt d obj) k more l).2 = r ∧ TJ.lo v ≤ (prts (prt d obj) k more l).1.length ∧ (prts (prt d obj) k more l).1.length ≤ TJ.hi v ∧ k ≤ v.length ∧ ∀ x ∈ v, 0 ≤ x.kids ∧ x.kids.toNat ≤ v.length
  | 0, keys, l, r, more, h => by
    rw [subs] at h
    injection h with h
    subst h
    exact ⟨[], rfl, by rw [prts], by simp [TJ.lo], by simp [prts], Nat.zero_le _, by simp⟩
  | k + 1, keys, l, r, more, h => by
    rw [subs] at h
    cases h1 : sub d obj l with
    | none => rw [h1] at h; cases h
    | some r1 =>
      rw [h1] at h
      dsimp only at h
      obtain ⟨v1, p1, p2, p3, p4, p5, p6⟩ := ih l r1 h1
      obtain ⟨keys2, h2⟩ : ∃ keys2, subs (sub d obj) obj k keys2 r1 = some r := by
        split at h
        · split at h
          · cases h
          · exact ⟨_, h⟩
        · exact ⟨_, h⟩
      obtain ⟨v2, e1, e2, e3, e4, e5, e6⟩ := prts_long ih k keys2 r1 r true h2
      rw [prts]
      dsimp only
      rw [p2]
      refine ⟨v1 ++ v2, by rw [p1, e1]; simp, e2, ?_, ?_, by rw [List.length_append]; omega, ?_⟩
      · rw [lo_app]
        simp only [List.length_append]
        omega
      · rw [hi_app]
        simp only [List.length_append]
        have : (if more = true then [44] else [] : List UInt8).length ≤ 1 := by cases more <;> simp
        omega
      · intro x hx
        rw [List.length_append]
        rcases List.mem_append.1 hx with hx | hx
        · have := p6 x hx; omega
        · have := e6 x hx; omega
theorem long : ∀ (d : Nat) (kf : Bool) (l r : List N), sub d kf l = some r → ∃ v, Long d kf l r v
  | d, kf, [], r, h => by rw [sub] at h; cases h
  | d, kf, n :: r0, r, h => by
    rw [sub.eq_def] at h
    dsimp only at h
    split at h
    · cases h
    · rename_i h0
      simp only [Bool.or_eq_true, Bool.not_eq_true', Bool.and_eq_true, not_or, Bool.not_eq_false, not_and] at h0
      obtain ⟨hs, hkey⟩ := h0
      have hnk : kf = false → n.key = [] := fun e => List.isEmpty_iff.1 (by simpa using hkey (by rw [e]))
      obtain ⟨hk0, hval, hcases⟩ := sound_cases hs
      obtain ⟨K, hK⟩ : ∃ K : List UInt8, K = if kf then quote n.key ++ [58] else [] := ⟨_, rfl⟩
      have hKl : n.key.length ≤ K.length ∧ K.length ≤ 6 * n.key.length + 3 := by
        rw [hK]
        cases kf with
        | false => rw [hnk rfl]; simp
        | true =>
          have := quote_len n.key
          simp only [if_true, List.length_append, List.length_cons, List.length_nil]
          omega
      split at h
      · rename_i h67
        have ht : n.text = [] := by
          rcases hcases with hc | hc | hc | hc
          · exact hc.2
          all_goals (exfalso; omega)
        cases d with
        | zero => cases h
        | succ d =>
          dsimp only at h
          obtain ⟨v, e1, e2, e3, e4, e5, e6⟩ := prts_long (long d _) n.kids.toNat [] r0 r false h
          have hp : prt (d + 1) kf (n :: r0) = (K ++ [if n.kind = 7 then 123 else 91] ++ (prts (prt d (n.kind = 7)) n.kids.toNat false r0).1 ++ [if n.kind = 7 then 125 else 93], (prts (prt d (n.kind = 7)) n.kids.toNat false r0).2) := by
            rw [prt.eq_def]
            dsimp only
            rw [if_neg (by omega), if_neg (by omega), if_neg (by omega), if_neg (by omega), if_neg (by omega), hK]
          refine ⟨n :: v, by rw [e1]; rfl, by rw [hp]; exact e2, ?_, ?_, by simp, ?_⟩
          · rw [hp, lo_cons, ht]
            simp only [List.length_append, List.length_cons, List.length_nil]
            omega
          · rw [hp, hi_cons, ht]
            simp only [List.length_append, List.length_cons, List.length_nil]
            omega
          · intro x hx
            rcases List.mem_cons.1 hx with rfl | hx
            · exact ⟨hk0, by simp; omega⟩
            · have := e6 x hx
              simp only [List.length_cons]
              omega
      · rename_i h67
        injection h with h
        subst h
        have leaf : ∀ p : List UInt8, prt d kf (n :: r0) = (K ++ p, r0) → n.kids = 0 → n.text.length ≤ p.length → p.length ≤ 6 * n.text.length + 6 → ∃ v, Long d kf (n :: r0) r0 v := by
          intro p hp hk h1 h2
          refine ⟨[n], rfl, by rw [hp], ?_, ?_, by simp, ?_⟩
          · rw [hp, lo_cons]
            simp only [List.length_append, TJ.lo, List.map_nil, List.sum_nil]
            omega
          · rw [hp, hi_cons]
            simp only [List.length_append, TJ.hi, List.map_nil, List.sum_nil]
            omega
          · intro x hx
            rw [List.mem_singleton.1 hx, hk]
            simp
        rcases hcases with hc | ⟨hc, hk, ht⟩ | ⟨hc, hk, ht⟩ | ⟨hc, hk, ht⟩
        · exact absurd hc.1 h67
        · refine leaf n.text ?_ hk (Nat.le_refl _) (by omega)
          rw [prt.eq_def]
          dsimp only
          rw [if_neg (by omega), if_neg (by omega), if_neg (by omega), if_pos hc, hK]
        · have := quote_len n.text
          refine leaf (quote n.text) ?_ hk (by omega) (by omega)
          rw [prt.eq_def]
          dsimp only
          rw [if_neg (by omega), if_neg (by omega), if_neg (by omega), if_neg (by omega), if_pos hc, hK]
        · rcases hc with hc | hc | hc
          · refine leaf [110, 117, 108, 108] ?_ hk (by rw [ht]; simp) (by rw [ht]; simp)
            rw [prt.eq_def]
            dsimp only
            rw [if_pos hc, hK]
          · refine leaf [102, 97, 108, 115, 101] ?_ hk (by rw [ht]; simp) (by rw [ht]; simp)
            rw [prt.eq_def]
            dsimp only
            rw [if_neg (by omega), if_pos hc, hK]
          · refine leaf [116, 114, 117, 101] ?_ hk (by rw [ht]; simp) (by rw [ht]; simp)
            rw [prt.eq_def]
            dsimp only
            rw [if_neg (by omega), if_neg (by omega), if_pos hc, hK]
termination_by d => d
theorem lo_mem {v : List N} {x : N} (h : x ∈ v) : x.key.length + x.text.length ≤ lo v := by
  induction v with
  | nil => cases h
  | cons a v ih =>
    rw [lo_cons]
    rcases List.mem_cons.1 h with rfl | h
    · omega
    · have := ih h; omega
theorem shaped_long {v : List N} (h : shaped v = true) : (print v).length ≤ hi v ∧ ∀ x ∈ v, x.key.length ≤ (print v).length ∧ x.text.length ≤ (print v).length ∧ 0 ≤ x.kids ∧ x.kids.toNat ≤ v.length := by
  have h1 : sub 64 false v = some [] := by simpa [shaped] using h
  obtain ⟨u, p1, p2, p3, p4, p5, p6⟩ := long 64 false v [] h1
  rw [List.append_nil] at p1
  subst p1
  unfold print
  refine ⟨by omega, fun x hx => ?_⟩
  have := lo_mem hx
  have := p6 x hx
  omega
theorem parse_ne {l r : List UInt8} {v : List N} (h : parse l = .ok v r) : ∃ n u, v = n :: u ∧ n.key = [] := by
  obtain ⟨r1, h1, h2⟩ := parse_ok h
  obtain ⟨n, u, hv, hk, hr⟩ := reads 64 [] (blanks l) v r1 h1
  exact ⟨n, u, hv, hk⟩
end Go.Proofs.YtdhdeaknflekpaaDoor.TJ
