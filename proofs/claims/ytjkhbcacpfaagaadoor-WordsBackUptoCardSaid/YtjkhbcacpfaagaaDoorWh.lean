/- What trellislaw8.alike returns. -/
import Derived.Test.YtjkhbcacpfaagaaDoorWg
set_option linter.unusedSimpArgs false
set_option linter.unusedVariables false
namespace Go.Proofs.YtjkhbcacpfaagaaDoor
open Go.RowKit

theorem below_draws {B : Nat} {a w : World} (h : Below B a w) (n : Nat) : Below B a (w.drewN n) := ⟨h.os, h.tape, h.output, h.size, h.block⟩
/-- a word without its place -/
def bare (x : TW.W) : Int × List UInt8 × Int := (x.kind, x.text, x.n)
theorem bare_eq {x y : TW.W} (h1 : x.kind = y.kind) (h2 : x.text = y.text) (h3 : x.n = y.n) : bare x = bare y := by simp [bare, h1, h2, h3]
set_option maxRecDepth 100000 in
set_option maxHeartbeats 1000000 in
theorem alike_calls (x y : List TW.W) (v v' : Value) (w : World) (hv : RW w v x) (hv' : RW w v' y) (hx : x.length ≤ 140737488355328) (hy : y.length ≤ 140737488355328) :
    Calls Tryd.prog 12 #[v, v'] w fun e w' => e = .returned (.bool (decide (x.map bare = y.map bare))) ∧ Below w.heap.size w w' := by
  obtain ⟨a, c, rfl, hc, hcl⟩ := hv.cells
  obtain ⟨a', c', rfl, hc', hcl'⟩ := hv'.cells
  clear hv hv'
  by_cases hne : x.length = y.length
  · have hneb : ((x.length : Int) != (y.length : Int)) = false := by rw [hne]; simp
    by_cases h0 : x = []
    · subst h0
      obtain rfl : y = [] := List.eq_nil_of_length_eq_zero hne.symm
      clear hcl hcl' hne
      go_enter Tryd.func12, Tryd.ntmps12
      go_wp2_with fail
      refine wp_loop_once ?_
      go_wp2_with fail
      go_ret
      exact ⟨rfl, Below.refl _ _⟩
    · obtain ⟨b, o, rfl, hcx⟩ := hcl h0
      obtain ⟨b', o', rfl, hcy⟩ := hcl' (fun e => h0 (List.eq_nil_of_length_eq_zero (by rw [hne, e]; rfl)))
      clear hcl hcl'
      have HN := Lib.hid hne
      have hNe : y.length = x.length := hne.symm
      clear hne
      rw [hNe] at hneb hc' hy ⊢
      clear hNe
      go_enter Tryd.func12, Tryd.ntmps12
      go_wp2_with fail
      go_loopw [5] (fun i wr => ∃ k : Nat, k ≤ x.length ∧ i = .int .i64 k ∧ (x.take k).map bare = (y.take k).map bare ∧ Below w.heap.size w wr ∧ w.heap.size ≤ wr.heap.size) (fun i _ => x.length - (intOf i).toNat)
      case atStart => exact ⟨0, Nat.zero_le _, rfl, by simp, Below.refl _ _, Nat.le_refl _⟩
      case round =>
        obtain ⟨k, hk, rfl, htk, HB, hsz⟩ := hrel
        have HT := Lib.hid htk
        clear htk
        by_cases hlt : k < x.length
        · have hlt' : (k : Int) < (x.length : Int) := by omega
          have hly : k < y.length := by have := HN.out; omega
          obtain ⟨d0, d1, d2, -⟩ := hcx k hlt
          obtain ⟨f0, f1, f2, -⟩ := hcy k hly
          have mv : ∀ (q : Addr) (u : Value), w.cell? q = some u → wr.cell? q = some u := fun q u h => (HB.cell (World.block_lt_of_cell? w _ h)).trans h
          have d0 := mv _ _ d0
          have d1 := mv _ _ d1
          have d2 := mv _ _ d2
          have f0 := mv _ _ f0
          have f1 := mv _ _ f1
          have f2 := mv _ _ f2
          clear hcx hcy mv
          have i0 : (0 : Int) ≤ (k : Int) := by omega
          have hbare : Hid (∀ (x1 y1 : TW.W), x[k]'hlt = x1 → y[k]'hly = y1 → decide (x.map bare = y.map bare) = true → bare x1 = bare y1) := fun x1 y1 h1 h2 h => by
            subst h1 h2
            have := congrArg (fun l => l[k]?) (of_decide_eq_true h)
            simpa [List.getElem?_eq_getElem hlt, List.getElem?_eq_getElem hly] using this
          have htk1 : Hid (bare (x[k]'hlt) = bare (y[k]'hly) → (x.take (k + 1)).map bare = (y.take (k + 1)).map bare) := fun h => by
            rw [List.take_succ_eq_append_getElem hlt, List.take_succ_eq_append_getElem hly, List.map_append, List.map_append, HT.out]
            simp [h]
          generalize hxk : x[k]'hlt = xk at *
          generalize hyk : y[k]'hly = yk at *
          obtain ⟨k1, t1, n1, p1⟩ := xk
          obtain ⟨k2, t2, n2, p2⟩ := yk
          simp only at d0 d1 d2 f0 f1 f2
          have HXK := Lib.hid hxk
          have HYK := Lib.hid hyk
          clear hxk hyk
          by_cases e1 : k1 = k2
          · subst e1
            by_cases e2 : t1 = t2
            · subst e2
              by_cases e3 : n1 = n2
              · subst e3
                go_wp2_with fail
                go_quiet (fail)
                go_wp2_with fail
                go_roundw
                case rel => exact ⟨k + 1, hlt, by go_num, htk1.out rfl, below_draws HB _, hsz⟩
                case measure => simp [intOf]; omega
              · have b3 : (n1 != n2) = true := by rw [bne_iff_ne]; exact e3
                have hf : Hid (decide (x.map bare = y.map bare) = false) := by
                  show decide (x.map bare = y.map bare) = false
                  by_cases h : decide (x.map bare = y.map bare) = true
                  · have := hbare.out _ _ rfl rfl h
                    simp [bare] at this
                    exact absurd this (by assumption)
                  · simpa using h
                go_wp2_with fail
                go_quiet (fail)
                go_wp2_with fail
                go_ret
                exact ⟨ret_b hf.out.symm, below_draws HB _⟩
            · have b2 : (t1 == t2) = false := by rw [beq_eq_false_iff_ne]; exact e2
              have hf : Hid (decide (x.map bare = y.map bare) = false) := by
                show decide (x.map bare = y.map bare) = false
                by_cases h : decide (x.map bare = y.map bare) = true
                · have := hbare.out _ _ rfl rfl h
                  simp [bare] at this
                  exact absurd this.1 (by assumption)
                · simpa using h
              go_wp2_with fail
              go_quiet (fail)
              go_wp2_with fail
              go_ret
              exact ⟨ret_b hf.out.symm, below_draws HB _⟩
          · have b1 : (k1 != k2) = true := by rw [bne_iff_ne]; exact e1
            have hf : Hid (decide (x.map bare = y.map bare) = false) := by
              show decide (x.map bare = y.map bare) = false
              by_cases h : decide (x.map bare = y.map bare) = true
              · have := hbare.out _ _ rfl rfl h
                simp [bare] at this
                exact absurd this.1 (by assumption)
              · simpa using h
            go_wp2_with fail
            go_quiet (fail)
            go_wp2_with fail
            go_ret
            exact ⟨ret_b hf.out.symm, below_draws HB _⟩
        · have hlt' : ¬ (k : Int) < (x.length : Int) := by omega
          have hx1 : Hid (decide (x.map bare = y.map bare) = true) := decide_eq_true (by
            have := HT.out
            rwa [List.take_of_length_le (by omega), List.take_of_length_le (by have := HN.out; omega)] at this)
          clear hcx hcy
          go_wp2_with fail
          go_ret
          exact ⟨ret_b hx1.out.symm, HB⟩
  · have hneb : ((x.length : Int) != (y.length : Int)) = true := by rw [bne_iff_ne]; omega
    have hd : decide (x.map bare = y.map bare) = false := decide_eq_false fun e => hne (by have := congrArg List.length e; simpa using this)
    rw [hd]
    clear hcl hcl' hne hd
    go_enter Tryd.func12, Tryd.ntmps12
    go_wp2_with fail
    go_ret
    exact ⟨rfl, Below.refl _ _⟩
end Go.Proofs.YtjkhbcacpfaagaaDoor
