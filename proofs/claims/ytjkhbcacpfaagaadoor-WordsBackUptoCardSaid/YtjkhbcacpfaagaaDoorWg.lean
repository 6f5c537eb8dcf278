/- What the comparisons of the laws return. -/
import Derived.Test.YtjkhbcacpfaagaaDoorWf
import Derived.Deep.QuietTactic
import Derived.BigQuiet
import Derived.Deep.RegionWith
set_option linter.unusedSimpArgs false
set_option linter.unusedVariables false
namespace Go.Proofs.YtjkhbcacpfaagaaDoor
open Go.RowKit

theorem below_two (w : World) (o o' : Obj) : Below w.heap.size w ((w.alloc o).alloc o') := ((Below.refl _ _).alloc (Nat.le_refl _) _).alloc (by simp) _
/-- a word as it lies in memory -/
def wv (x : TW.W) : Value := .agg #[.int .i64 x.kind, .string ⟨x.text.toArray⟩, .int .i64 x.n, .int .i64 x.pos]
set_option maxHeartbeats 1000000 in
theorem sameWord_calls (x y : TW.W) (w : World) : Calls Tryd.prog 23 #[wv x, wv y] w fun e w' => e = .returned (.bool (decide (x = y))) ∧ Below w.heap.size w w' := by
  obtain ⟨k, t, n, p⟩ := x
  obtain ⟨k', t', n', p'⟩ := y
  unfold wv
  simp only
  go_enter Tryd.func23, Tryd.ntmps23
  go_wp2_with fail
  all_goals go_ret
  all_goals refine ⟨ret_b ?_, below_two _ _ _⟩
  all_goals rw [Bool.eq_iff_iff]
  all_goals simp_all
/-- the cells of one word of a slice that reads -/
theorem RW.cells {w : World} {v : Value} {l : List TW.W} (h : RW w v l) : ∃ a c, v = .slice a l.length c ∧ l.length ≤ c ∧ (l ≠ [] → ∃ b o, a = some ⟨b, o, none⟩ ∧ ∀ i (hi : i < l.length),
    w.cell? ⟨b, o + i * 4, none⟩ = some (.int .i64 (l[i]'hi).kind) ∧ w.cell? ⟨b, o + i * 4 + 1, none⟩ = some (.string ⟨(l[i]'hi).text.toArray⟩)
    ∧ w.cell? ⟨b, o + i * 4 + 2, none⟩ = some (.int .i64 (l[i]'hi).n) ∧ w.cell? ⟨b, o + i * 4 + 3, none⟩ = some (.int .i64 (l[i]'hi).pos)) := by
  obtain ⟨a, c, rfl, hc, hcl⟩ := h
  refine ⟨a, c, rfl, hc, fun hne => ?_⟩
  obtain ⟨b, o, rfl, hcm⟩ := hcl hne
  refine ⟨b, o, rfl, fun i hi => ?_⟩
  have hcell : ∀ j u, j < 4 → (wvals1 (l[i]'hi))[j]? = some u → w.cell? ⟨b, o + (4 * i + j), none⟩ = some u := fun j u hj hu => hcm (4 * i + j) u (by rw [wvals_at l i hi j hj]; exact hu)
  have d0 := hcell 0 _ (by omega) rfl
  have d1 := hcell 1 _ (by omega) rfl
  have d2 := hcell 2 _ (by omega) rfl
  have d3 := hcell 3 _ (by omega) rfl
  rw [show o + (4 * i + 0) = o + i * 4 by omega] at d0
  rw [show o + (4 * i + 1) = o + i * 4 + 1 by omega] at d1
  rw [show o + (4 * i + 2) = o + i * 4 + 2 by omega] at d2
  rw [show o + (4 * i + 3) = o + i * 4 + 3 by omega] at d3
  exact ⟨d0, d1, d2, d3⟩
theorem RW.below {w w1 : World} {v : Value} {l : List TW.W} (h : RW w v l) (hb : Below w.heap.size w w1) : RW w1 v l := by
  obtain ⟨a, c, rfl, hc, hcl⟩ := h
  refine ⟨a, c, rfl, hc, fun hne => ?_⟩
  obtain ⟨b, o, rfl, hcm⟩ := hcl hne
  exact ⟨b, o, rfl, fun j u hu => (hb.cell (p := ⟨b, o + j, none⟩) (World.block_lt_of_cell? w _ (hcm j u hu))).trans (hcm j u hu)⟩
theorem RW.own {w : World} {base n : Nat} {v : Value} {l : List TW.W} (h : w.ownsRow base 28 4 v n (wvals l)) : RW w v l := by
  have hl : l.length = n := by have := h.1; rw [wvals_length] at this; omega
  rcases h.2 with ⟨rfl, rfl⟩ | ⟨g, cap, cur, rfl, _, _, hnc, _⟩
  · obtain rfl := List.eq_nil_of_length_eq_zero hl
    exact ⟨none, 0, rfl, by simp, fun h => absurd rfl h⟩
  · refine ⟨some ⟨g, 0, none⟩, cap, by rw [hl], by omega, fun _ => ⟨g, 0, rfl, fun j u hu => ?_⟩⟩
    have := h.cells (g := g) rfl j u hu
    rwa [Addr.add_lit] at this
set_option maxRecDepth 100000 in
set_option maxHeartbeats 1000000 in
theorem same_calls (x y : List TW.W) (v v' : Value) (w : World) (hv : RW w v x) (hv' : RW w v' y) (hx : x.length ≤ 140737488355328) (hy : y.length ≤ 140737488355328) :
    Calls Tryd.prog 11 #[v, v'] w fun e w' => e = .returned (.bool (decide (x = y))) ∧ Below w.heap.size w w' := by
  obtain ⟨a, c, rfl, hc, hcl⟩ := hv.cells
  obtain ⟨a', c', rfl, hc', hcl'⟩ := hv'.cells
  clear hv hv'
  by_cases hne : x.length = y.length
  · have hneb : ((x.length : Int) != (y.length : Int)) = false := by rw [hne]; simp
    by_cases h0 : x = []
    · subst h0
      obtain rfl : y = [] := List.eq_nil_of_length_eq_zero hne.symm
      clear hcl hcl' hne
      go_enter Tryd.func11, Tryd.ntmps11
      go_wp2_with fail
      refine wp_loop_once ?_
      go_wp2_with fail
      go_ret
      exact ⟨rfl, Below.refl _ _⟩
    · obtain ⟨b, o, rfl, hcx⟩ := hcl h0
      obtain ⟨b', o', rfl, hcy⟩ := hcl' (fun e => h0 (List.eq_nil_of_length_eq_zero (by rw [hne, e]; rfl)))
      clear hcl hcl'
      have HN := Lib.hid hne
      have hNe : y.length = x.length := hne.symm
      clear hne
      rw [hNe] at hneb hc' hy ⊢
      have HNe := Lib.hid hNe
      clear hNe
      go_enter Tryd.func11, Tryd.ntmps11
      go_wp2_with fail
      go_loopw [5] (fun i wr => ∃ k : Nat, k ≤ x.length ∧ i = .int .i64 k ∧ x.take k = y.take k ∧ Below w.heap.size w wr ∧ w.heap.size ≤ wr.heap.size) (fun i _ => x.length - (intOf i).toNat)
      case atStart => exact ⟨0, Nat.zero_le _, rfl, by simp, Below.refl _ _, Nat.le_refl _⟩
      case round =>
        obtain ⟨k, hk, rfl, htk, HB, hsz⟩ := hrel
        have HT := Lib.hid htk
        clear htk
        by_cases hlt : k < x.length
        · have hlt' : (k : Int) < (x.length : Int) := by omega
          have hly : k < y.length := by have := HN.out; omega
          obtain ⟨d0, d1, d2, d3⟩ := hcx k hlt
          obtain ⟨f0, f1, f2, f3⟩ := hcy k hly
          have mv : ∀ (q : Addr) (u : Value), w.cell? q = some u → wr.cell? q = some u := fun q u h => (HB.cell (World.block_lt_of_cell? w _ h)).trans h
          have d0 := mv _ _ d0
          have d1 := mv _ _ d1
          have d2 := mv _ _ d2
          have d3 := mv _ _ d3
          have f0 := mv _ _ f0
          have f1 := mv _ _ f1
          have f2 := mv _ _ f2
          have f3 := mv _ _ f3
          clear hcx hcy mv
          by_cases hxy : x[k]'hlt = y[k]'hly
          · have hd : decide (x[k]'hlt = y[k]'hly) = true := decide_eq_true hxy
            have HXY := Lib.hid hxy
            clear hxy
            go_wp2_with fail
            go_region_with (go_at_call 23; refine (sameWord_calls (x[k]'hlt) (y[k]'hly) _).mono ?_; rintro e w1 ⟨rfl, hb1⟩; have HB1 := below_then HB.drew hsz hb1)
            all_goals
              go_wp2_with fail
              go_roundw
              case rel => exact ⟨k + 1, hlt, by go_num, by rw [List.take_succ_eq_append_getElem hlt, List.take_succ_eq_append_getElem hly, HT.out, HXY.out], HB1, HB1.size⟩
              case measure => simp [intOf]; omega
          · have hd : decide (x[k]'hlt = y[k]'hly) = false := decide_eq_false hxy
            have hx0 : Hid (decide (x = y) = false) := decide_eq_false fun e => hxy (by subst e; rfl)
            clear hxy
            go_wp2_with fail
            go_region_with (go_at_call 23; refine (sameWord_calls (x[k]'hlt) (y[k]'hly) _).mono ?_; rintro e w1 ⟨rfl, hb1⟩; have HB1 := below_then HB.drew hsz hb1)
            all_goals
              go_wp2_with fail
              go_ret
              exact ⟨ret_b hx0.out.symm, HB1⟩
        · have hlt' : ¬ (k : Int) < (x.length : Int) := by omega
          have hx1 : Hid (decide (x = y) = true) := decide_eq_true (by
            have := HT.out
            rwa [List.take_of_length_le (by omega), List.take_of_length_le (by have := HN.out; omega)] at this)
          clear hcx hcy
          go_wp2_with fail
          go_ret
          exact ⟨ret_b hx1.out.symm, HB⟩
  · have hneb : ((x.length : Int) != (y.length : Int)) = true := by rw [bne_iff_ne]; omega
    have hd : decide (x = y) = false := decide_eq_false fun e => hne (by rw [e])
    rw [hd]
    clear hcl hcl' hne hd
    go_enter Tryd.func11, Tryd.ntmps11
    go_wp2_with fail
    go_ret
    exact ⟨rfl, Below.refl _ _⟩
end Go.Proofs.YtjkhbcacpfaagaaDoor
