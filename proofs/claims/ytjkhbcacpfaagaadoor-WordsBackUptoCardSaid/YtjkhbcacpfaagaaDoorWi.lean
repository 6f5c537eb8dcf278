/- What trellislaw8.started returns: true. -/
import Derived.Test.YtjkhbcacpfaagaaDoorWh
set_option linter.unusedSimpArgs false
set_option linter.unusedVariables false
namespace Go.Proofs.YtjkhbcacpfaagaaDoor
open Go.RowKit

def startText : List UInt8 := [97, 32, 61, 32, 34, 92, 110, 34, 32, 47, 98, 47, 32, 48, 55, 59]
def startWords : List TW.W := [⟨1, [97], 0, 0⟩, ⟨5, [61], 0, 2⟩, ⟨2, [10], 0, 4⟩, ⟨3, [98], 0, 9⟩, ⟨4, [], 7, 13⟩, ⟨5, [59], 0, 15⟩]
theorem start_cut : TW.Cut startText = (startWords, 0, 0) := by decide +kernel
theorem itoa7 : Lib.itoa 7 = [55] := by
  rw [Lib.itoa, if_neg (by decide), Lib.decDigits]
  rfl
theorem start_join : joinW startWords = [97, 32, 61, 32, 34, 92, 110, 34, 32, 47, 98, 47, 32, 55, 32, 59] := by
  have h : startWords.all soundW = true := by decide +kernel
  have hs : startWords.map spellW = [[97], [61], [34, 92, 110, 34], [47, 98, 47], [55], [59]] := by
    have h5 : spellW ⟨4, [], 7, 13⟩ = [55] := by
      rw [spellW, spell_yes (by decide), if_neg (by decide), if_neg (by decide), if_pos rfl]
      exact itoa7
    have h1 : spellW ⟨1, [97], 0, 0⟩ = [97] := by rw [spellW, spell_yes (by decide +kernel)]; rfl
    have h2 : spellW ⟨5, [61], 0, 2⟩ = [61] := by rw [spellW, spell_yes (by decide +kernel)]; rfl
    have h3 : spellW ⟨2, [10], 0, 4⟩ = [34, 92, 110, 34] := by rw [spellW, spell_yes (by decide +kernel)]; rfl
    have h4 : spellW ⟨3, [98], 0, 9⟩ = [47, 98, 47] := by rw [spellW, spell_yes (by decide +kernel)]; rfl
    have h6 : spellW ⟨5, [59], 0, 15⟩ = [59] := by rw [spellW, spell_yes (by decide +kernel)]; rfl
    simp only [startWords, List.map_cons, List.map_nil, h1, h2, h3, h4, h5, h6]
  rw [joinW, if_pos h, hs]
  rfl
set_option maxRecDepth 100000 in
set_option maxHeartbeats 1000000 in
theorem started_calls (w : World) (hT : Tab w) : Calls Tryd.prog 7 #[] w fun e w' => e = .returned (.bool true) ∧ Below w.heap.size w w' := by
  have HT := Lib.hid hT
  clear hT
  have hcut : Calls Tryd.prog 10 #[.string ⟨startText.toArray⟩] w (CPost (startWords, 0, 0) w) := by
    have h := Cut_calls ⟨startText.toArray⟩ w (by decide)
    have e : bl ⟨startText.toArray⟩ = startText := rfl
    rw [e, start_cut] at h
    exact h
  have HC := Lib.hid hcut
  clear hcut
  go_enter Tryd.func7, Tryd.ntmps7
  go_wp2_with fail
  refine HC.out.mono ?_
  rintro e w1 ⟨v, rfl, HO, HB⟩
  have hrw := RW.own HO
  obtain ⟨a, c, rfl, hc, hcl⟩ := hrw.cells
  obtain ⟨b, o, rfl, hcx⟩ := hcl (by decide)
  have hJ := Join_calls startWords (.slice (some ⟨b, o, none⟩) 6 c) w1 hrw (by decide) (by
    intro x hx
    simp only [startWords, List.mem_cons, List.not_mem_nil, or_false] at hx
    rcases hx with rfl | rfl | rfl | rfl | rfl | rfl <;> simp [WOk]) (by
      have h := start_join
      rw [joinW, if_pos (by decide +kernel)] at h
      rw [h]; decide) (HT.out.below HB)
  rw [start_join] at hJ
  have HJ := Lib.hid hJ
  have d2 : w1.cell? ⟨b, o + 2 * 4 + 1, none⟩ = some (.string ⟨#[10]⟩) := (hcx 2 (by decide)).2.1
  have d4 : w1.cell? ⟨b, o + 4 * 4 + 2, none⟩ = some (.int .i64 7) := (hcx 4 (by decide)).2.2.1
  have d5 : w1.cell? ⟨b, o + 5 * 4 + 3, none⟩ = some (.int .i64 15) := (hcx 5 (by decide)).2.2.2
  clear hJ hcx hcl hrw HO
  have hc6 : 6 ≤ c := hc
  clear hc
  show _
  simp only [startWords, List.length_cons, List.length_nil]
  go_wp2_with (go_at_call 8; refine HJ.out.mono ?_; rintro e w2 ⟨rfl, HB2⟩)
  go_ret
  exact ⟨rfl, below_then HB HB.size HB2⟩
end Go.Proofs.YtjkhbcacpfaagaaDoor
