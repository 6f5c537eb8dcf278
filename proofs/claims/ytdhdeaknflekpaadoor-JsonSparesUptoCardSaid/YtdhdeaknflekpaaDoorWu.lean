/- json.Print. -/
import Derived.Test.YtdhdeaknflekpaaDoorWt
set_option linter.unusedSimpArgs false
set_option linter.unusedVariables false
namespace Go.Proofs.YtdhdeaknflekpaaDoor
open Go.RowKit Go.Maps

theorem clo_all (D : Nat) : CloC D := by
  induction D with
  | zero => exact clo_calls 0 (fun D' h => by omega)
  | succ D ih => exact clo_calls (D + 1) (fun D' h => by cases h; exact ih)
/-- what Print returns -/
def printV (l : List TJ.N) : Value := if TJ.shaped l then .tuple #[.string ⟨(TJ.print l).toArray⟩, .int .i64 0] else .tuple #[.string ⟨#[]⟩, .int .i64 43]
theorem print_start {w w1 : World} {v : Value} {l : List TJ.N} (hRN : RN w v l) (hok : ∀ x ∈ l, NOk x) (hlen : l.length ≤ 4194304) (hT : Tabs w) (hb1 : Below (w.alloc (.cells #[v] 22)).heap.size (w.alloc (.cells #[v] 22)) w1) {W : World}
    (hW : W = ((w1.alloc (.cells #[.pointer none, .slice none 0 0] 48)).alloc (.cells #[.int .i64 0] 3)).alloc (.cells #[FV w.heap.size (w1.heap.size + 1) w1.heap.size (w1.heap.size + 1 + 1)] 49)) :
    CPre w.heap.size w.heap.size (w1.heap.size + 1) w1.heap.size (w1.heap.size + 1 + 1) v l W ∧ PS w.heap.size w.heap.size (w1.heap.size + 1) w1.heap.size (w1.heap.size + 1 + 1) v (FV w.heap.size (w1.heap.size + 1) w1.heap.size (w1.heap.size + 1 + 1)) 0 [] W ∧ Below w.heap.size w W := by
  have hs1 : w.heap.size + 1 ≤ w1.heap.size := by have := hb1.size; simpa using this
  have hlt := hT.lt
  have hB : Below w.heap.size w W := by
    rw [hW]
    exact (((below_then (below_one w _) (by simp) hb1).alloc (by omega) _).alloc (by simp; omega) _).alloc (by simp; omega) _
  have hsz : W.heap.size = w1.heap.size + 3 := by rw [hW]; simp
  refine ⟨⟨⟨by omega, by omega, by omega, by omega, by omega, by omega, Nat.le_refl _, by omega, by omega, by omega⟩, fun w' h => hRN.below (hB.trans h), hok, hlen, hT.below hB hlt, hlt, hB.size⟩, ⟨?_, ?_, ?_, ?_⟩, hB⟩
  · rw [hW, heap_alloc_old _ _ (by simp; omega), heap_alloc_old _ _ (by simp; omega), heap_alloc_old _ _ (by omega), hb1.block _ (by simp), heap_alloc_new]
  · rw [hW, heap_alloc_old _ _ (by simp)]
    have := heap_alloc_new (w1.alloc (.cells #[.pointer none, .slice none 0 0] 48)) (.cells #[.int .i64 0] 3)
    rwa [show (w1.alloc (.cells #[.pointer none, .slice none 0 0] 48)).heap.size = w1.heap.size + 1 by simp] at this
  · rw [hW]
    have := heap_alloc_new ((w1.alloc (.cells #[.pointer none, .slice none 0 0] 48)).alloc (.cells #[.int .i64 0] 3)) (.cells #[FV w.heap.size (w1.heap.size + 1) w1.heap.size (w1.heap.size + 1 + 1)] 49)
    rwa [show ((w1.alloc (.cells #[.pointer none, .slice none 0 0] 48)).alloc (.cells #[.int .i64 0] 3)).heap.size = w1.heap.size + 1 + 1 by simp] at this
  · refine .inl ⟨by omega, .slice none 0 0, ?_, ⟨by simp, .inl ⟨rfl, rfl⟩⟩, by simp [Value.ownBlock]⟩
    rw [hW, heap_alloc_old _ _ (by simp; omega), heap_alloc_old _ _ (by simp), heap_alloc_new]
set_option maxRecDepth 100000 in
set_option maxHeartbeats 4000000 in
theorem Print_calls (l : List TJ.N) (v : Value) (w : World) (hRN : RN w v l) (hok : ∀ x ∈ l, NOk x) (hlen : l.length ≤ 4194304) (hT : Tabs w) (hpl : TJ.shaped l = true → (TJ.print l).length ≤ 1073741824) :
    Calls Tryd.prog 11 #[v] w fun e w' => e = .returned (printV l) ∧ Below w.heap.size w w' := by
  have hb0 := below_one w (.cells #[v] 22)
  have hs := Lib.hid (Shaped_calls l v _ (hRN.below hb0) hok hlen (hT.below hb0 hT.lt))
  have HRN := Lib.hid hRN
  have HOK := Lib.hid hok
  have HT := Lib.hid hT
  obtain ⟨ad, cp, rfl, hcp, -⟩ := hRN
  unfold printV
  cases hsh : TJ.shaped l with
  | false =>
    rw [hsh] at hs
    clear hT hok hpl hsh hb0
    go_enter Tryd.func11, Tryd.ntmps11
    go_wp2_with fail
    refine hs.out.mono ?_
    rintro e w1 ⟨rfl, hb1⟩
    go_wp2_with fail
    go_ret2
    exact ⟨rfl, below_then (below_one _ _) (by simp) hb1⟩
  | true =>
    rw [hsh] at hs
    have HPL := Lib.hid (hpl hsh)
    have HSH := Lib.hid hsh
    clear hT hok hpl hsh hb0
    go_enter Tryd.func11, Tryd.ntmps11
    go_wp2_with fail
    refine hs.out.mono ?_
    rintro e w1 ⟨rfl, hb1⟩
    have HB1 := Lib.hid hb1
    clear hs hb1
    go_wp2_with fail
    obtain ⟨hC, hPS, hB⟩ := print_start HRN.out HOK.out hlen HT.out HB1.out rfl
    have hsub : TJ.sub 64 false (l.drop 0) = some [] := by simpa [TJ.shaped] using HSH.out
    have hcalls := clo_all 64 _ _ _ _ _ _ l [] 0 false [] _ hC hPS hsub (by simpa [TJ.print] using HPL.out)
    have HBB := Lib.hid hB
    have HC := Lib.hid hC
    clear hB hC hPS hsub
    refine hcalls.mono ?_
    rintro e w2 ⟨rfl, ⟨a', -, -, hPS2⟩, hck⟩
    have hIs := Lib.hid hPS2.b
    have hB2 := Lib.hid (HBB.out.trans hck.below)
    clear hPS2 hck
    go_wp2_with fail
    refine (String_calls w.heap.size _ (TJ.print l) w2 (by have := hIs.out; simpa [bvals, Lib.byteCells, TJ.print] using this) hB2.out.size).mono ?_
    rintro e w3 ⟨rfl, -, hb3, -⟩
    have hB3 := hB2.out.trans hb3
    clear hb3
    go_wp2_with fail
    go_ret2
    exact ⟨rfl, hB3⟩
end Go.Proofs.YtdhdeaknflekpaaDoor
