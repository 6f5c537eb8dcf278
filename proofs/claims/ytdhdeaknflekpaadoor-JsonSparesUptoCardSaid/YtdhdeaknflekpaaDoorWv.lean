/- json: same, twin. -/
import Derived.Test.YtdhdeaknflekpaaDoorWu
import Derived.Laws.StructEq
set_option linter.unusedSimpArgs false
set_option linter.unusedVariables false
namespace Go.Proofs.YtdhdeaknflekpaaDoor
open Go.RowKit Go.Maps

theorem guard36 : Tryd.prog.eqGuardType Tryd.prog.depth 36 = false := by kernel_rfl
theorem stood36 : Tryd.prog.stoodInHeld 36 = false := by kernel_rfl
theorem neq_node (w : World) (x y : TJ.N) :
    (binOp .neq 36 (.agg #[.int .i64 x.kind, .string ⟨x.key.toArray⟩, .string ⟨x.text.toArray⟩, .int .i64 x.kids]) (.agg #[.int .i64 y.kind, .string ⟨y.key.toArray⟩, .string ⟨y.text.toArray⟩, .int .i64 y.kids])).run Tryd.prog w
      = .ok (.bool (!(decide (x = y)))) w := by
  rw [run_neq_struct]
  have h1 := Tryd.underlying36
  rw [run_equalIn_agg _ _ _ _ _ (by unfold Program.fieldsOf; rw [h1]) stood36]
  unfold Program.fieldsOf
  rw [h1]
  obtain ⟨a0, a1, a2, a3⟩ := x
  obtain ⟨b0, b1, b2, b3⟩ := y
  simp [Op.eqFields, go_sem, ByteArray.toList_eq]
  split <;> rename_i h0
  · split <;> rename_i h1
    · split <;> rename_i h2
      · split <;> rename_i h3
        · simp [h0, h1, h2, h3]
        · simp [h3]
      · simp [h2]
    · simp [h1]
  · simp [h0]
attribute [local go_sem high] neq_node guard36
set_option maxRecDepth 100000 in
set_option maxHeartbeats 1000000 in
theorem same_calls (x y : List TJ.N) (v v' : Value) (w : World) (hv : RN w v x) (hv' : RN w v' y) (hx : x.length ≤ 140737488355328) (hy : y.length ≤ 140737488355328) :
    Calls Tryd.prog 14 #[v, v'] w fun e w' => e = .returned (.bool (decide (x = y))) ∧ Below w.heap.size w w' := by
  obtain ⟨a, c, rfl, hc, hcl⟩ := hv
  obtain ⟨a', c', rfl, hc', hcl'⟩ := hv'
  by_cases hne : x.length = y.length
  · have hneb : ((x.length : Int) != (y.length : Int)) = false := by rw [hne]; simp
    by_cases h0 : x = []
    · subst h0
      obtain rfl : y = [] := List.eq_nil_of_length_eq_zero hne.symm
      clear hcl hcl' hne
      go_enter Tryd.func14, Tryd.ntmps14
      go_wp2_with fail
      refine wp_loop_once ?_
      go_wp2_with fail
      go_ret
      exact ⟨rfl, Below.refl _ _⟩
    · obtain ⟨b, o, rfl, hcx⟩ := hcl h0
      obtain ⟨b', o', rfl, hcy⟩ := hcl' (fun e => h0 (List.eq_nil_of_length_eq_zero (by rw [hne, e]; rfl)))
      clear hcl hcl'
      have HN := Lib.hid hne
      have hNe : y.length = x.length := hne.symm
      clear hne
      rw [hNe] at hneb hc' hy ⊢
      have HNe := Lib.hid hNe
      clear hNe
      go_enter Tryd.func14, Tryd.ntmps14
      go_wp2_with fail
      go_loopw [5] (fun i wr => ∃ k : Nat, k ≤ x.length ∧ i = .int .i64 k ∧ x.take k = y.take k ∧ Below w.heap.size w wr ∧ w.heap.size ≤ wr.heap.size) (fun i _ => x.length - (intOf i).toNat)
      case atStart => exact ⟨0, Nat.zero_le _, rfl, by simp, Below.refl _ _, Nat.le_refl _⟩
      case round =>
        obtain ⟨k, hk, rfl, htk, HB, hsz⟩ := hrel
        have HT := Lib.hid htk
        clear htk
        by_cases hlt : k < x.length
        · have hlt' : (k : Int) < (x.length : Int) := by omega
          have hly : k < y.length := by have := HN.out; omega
          obtain ⟨d0, d1, d2, d3⟩ := hcx k hlt
          obtain ⟨f0, f1, f2, f3⟩ := hcy k hly
          have mv : ∀ (q : Addr) (u : Value), w.cell? q = some u → wr.cell? q = some u := fun q u h => (HB.cell (World.block_lt_of_cell? w _ h)).trans h
          have d0 := mv _ _ d0
          have d1 := mv _ _ d1
          have d2 := mv _ _ d2
          have d3 := mv _ _ d3
          have f0 := mv _ _ f0
          have f1 := mv _ _ f1
          have f2 := mv _ _ f2
          have f3 := mv _ _ f3
          clear hcx hcy mv
          by_cases hxy : x[k]'hlt = y[k]'hly
          · have hd : decide (x[k]'hlt = y[k]'hly) = true := decide_eq_true hxy
            have HXY := Lib.hid hxy
            clear hxy
            go_wp2_with fail
            go_quiet (fail)
            go_wp2_with fail
            go_roundw
            case rel => exact ⟨k + 1, hlt, by go_num, by rw [List.take_succ_eq_append_getElem hlt, List.take_succ_eq_append_getElem hly, HT.out, HXY.out], below_draws HB _, hsz⟩
            case measure => simp [intOf]; omega
          · have hd : decide (x[k]'hlt = y[k]'hly) = false := decide_eq_false hxy
            have hx0 : Hid (decide (x = y) = false) := decide_eq_false fun e => hxy (by subst e; rfl)
            clear hxy
            go_wp2_with fail
            go_quiet (fail)
            go_wp2_with fail
            go_ret
            exact ⟨ret_b hx0.out.symm, below_draws HB _⟩
        · have hlt' : ¬ (k : Int) < (x.length : Int) := by omega
          have hx1 : Hid (decide (x = y) = true) := decide_eq_true (by
            have := HT.out
            rwa [List.take_of_length_le (by omega), List.take_of_length_le (by have := HN.out; omega)] at this)
          clear hcx hcy
          go_wp2_with fail
          go_ret
          exact ⟨ret_b hx1.out.symm, HB⟩
  · have hneb : ((x.length : Int) != (y.length : Int)) = true := by rw [bne_iff_ne]; omega
    have hd : decide (x = y) = false := decide_eq_false fun e => hne (by rw [e])
    rw [hd]
    clear hcl hcl' hne hd
    go_enter Tryd.func14, Tryd.ntmps14
    go_wp2_with fail
    go_ret
    exact ⟨rfl, Below.refl _ _⟩
end Go.Proofs.YtdhdeaknflekpaaDoor
