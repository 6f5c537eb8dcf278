/- json laws: twin; stores into a slice of nodes. -/
import Derived.Test.YtdhdeaknflekpaaDoorLf
import Derived.Test.YtdhdeaknflekpaaDoorGd
set_option linter.unusedSimpArgs false
set_option linter.unusedVariables false
namespace Go.Proofs.YtdhdeaknflekpaaDoor
open Go.RowKit Go.Maps

theorem nvals_set (a b : List TJ.N) (x y : TJ.N) : ((((nvals (a ++ x :: b)).set (a.length * 4) (.int .i64 y.kind)).set (a.length * 4 + 1) (.string ⟨y.key.toArray⟩)).set (a.length * 4 + 2) (.string ⟨y.text.toArray⟩)).set (a.length * 4 + 3) (.int .i64 y.kids) = nvals (a ++ y :: b) := by
  rw [nvals_app, nvals_app]
  have e1 : nvals (x :: b) = nvals1 x ++ nvals b := rfl
  have e2 : nvals (y :: b) = nvals1 y ++ nvals b := rfl
  have hl := nvals_len a
  rw [e1, e2]
  rw [List.set_append_right _ _ (by omega), List.set_append_right _ _ (by omega), List.set_append_right _ _ (by omega), List.set_append_right _ _ (by omega)]
  rw [hl, show a.length * 4 - 4 * a.length = 0 by omega, show a.length * 4 + 1 - 4 * a.length = 1 by omega, show a.length * 4 + 2 - 4 * a.length = 2 by omega, show a.length * 4 + 3 - 4 * a.length = 3 by omega]
  rfl
set_option maxRecDepth 100000 in
set_option maxHeartbeats 1000000 in
theorem twin_calls (x : List TJ.N) (v : Value) (w : World) (hv : RN w v x) (hx : x.length ≤ 2000000000) :
    Calls Tryd.prog 15 #[v] w fun e w' => ∃ out, e = .returned out ∧ w'.ownsRow w.heap.size 36 4 out x.length (nvals x) ∧ Below w.heap.size w w' := by
  obtain ⟨a, c, rfl, hc, hcl⟩ := hv
  go_enter Tryd.func15, Tryd.ntmps15
  go_wp2_with fail
  go_loopw [3, 4] (fun o i wr => ∃ k : Nat, k ≤ x.length ∧ i = .int .i64 k ∧ wr.ownsRow w.heap.size 36 4 o k (nvals (x.take k)) ∧ Below w.heap.size w wr ∧ w.heap.size ≤ wr.heap.size) (fun _ i _ => x.length - (intOf i).toNat)
  case atStart => exact ⟨0, Nat.zero_le _, rfl, World.ownsRow_nil _ _ _ _, Below.refl _ _, Nat.le_refl _⟩
  case round =>
    obtain ⟨k, hk, rfl, HO, HB, hsz⟩ := hrel
    by_cases hlt : k < x.length
    · have hlt' : (k : Int) < (x.length : Int) := by omega
      obtain ⟨b, off, rfl, hcx⟩ := hcl (by rintro rfl; simp at hlt)
      obtain ⟨d0, d1, d2, d3⟩ := hcx k hlt
      have mv : ∀ (q : Addr) (u : Value), w.cell? q = some u → wr.cell? q = some u := fun q u h => (HB.cell (World.block_lt_of_cell? w _ h)).trans h
      have d0 := mv _ _ d0
      have d1 := mv _ _ d1
      have d2 := mv _ _ d2
      have d3 := mv _ _ d3
      have HS := Lib.hid (show nvals (x.take k) ++ nvals1 (x[k]'hlt) = nvals (x.take (k + 1)) by rw [List.take_succ_eq_append_getElem hlt, nvals_app]; rfl)
      clear hcx hcl mv
      go_wp2_with (first | (at_builtin; go_must (refine append_one (w0 := w) w.heap.size rfl _ _ 22 36 (.agg #[.int .i64 0, .string ⟨#[]⟩, .string ⟨#[]⟩, .int .i64 0]) 4 48 rfl Tryd.underlying22 info36 rfl (by decide) (by decide) u3 k (nvals (x.take k)) _ rfl rfl rfl nvals_one HO HB hsz (by omega) ?_); intro v1 w2 HO2 HB2 _ _))
      have HO3 : w2.ownsRow w.heap.size 36 4 v1 (k + 1) (nvals (x.take k) ++ nvals1 (x[k]'hlt)) := HO2
      rw [HS.out] at HO3
      have hsz2 := HB2.size
      clear HO2 d0 d1 d2 d3 HO HB
      go_wp2_with fail
      go_roundw
      case rel => exact ⟨k + 1, hlt, by go_num, HO3, HB2, by omega⟩
      case measure => simp [intOf]; omega
    · have hlt' : ¬ (k : Int) < (x.length : Int) := by omega
      obtain rfl : k = x.length := by omega
      rw [List.take_length] at HO
      go_wp2_with fail
      go_ret
      exact ⟨_, rfl, HO, HB⟩
end Go.Proofs.YtdhdeaknflekpaaDoor
