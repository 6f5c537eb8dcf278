/- json laws: started. -/
import Derived.Test.YtdhdeaknflekpaaDoorWx
set_option linter.unusedSimpArgs false
set_option linter.unusedVariables false
namespace Go.Proofs.YtdhdeaknflekpaaDoor
open Go.RowKit Go.Maps

def st0 : List TJ.N := [⟨7, [], [], 1⟩, ⟨6, [97], [], 2⟩, ⟨4, [], [49], 0⟩, ⟨5, [], [195, 169], 0⟩]
def st0s : ByteArray := ⟨#[32, 123, 34, 97, 34, 58, 91, 49, 44, 34, 92, 117, 48, 48, 101, 57, 34, 93, 125]⟩
theorem st0_parse : TJ.parse (bl st0s) = .ok st0 [] := by kernel_rfl
theorem st0_shaped : TJ.shaped st0 = true := by kernel_rfl
theorem st0_print : TJ.print st0 = [123, 34, 97, 34, 58, 91, 49, 44, 34, 195, 169, 34, 93, 125] := by kernel_rfl
theorem st0_ok : ∀ x ∈ st0, NOk x := by
  intro x hx
  simp only [st0, List.mem_cons, List.not_mem_nil, or_false] at hx
  rcases hx with rfl | rfl | rfl | rfl <;> exact ⟨by simp, by simp, by simp, by simp⟩
set_option maxRecDepth 100000 in
set_option maxHeartbeats 2000000 in
theorem started_calls (w : World) (hT : Tabs w) : Calls Tryd.prog 10 #[] w fun e w' => e = .returned (.bool true) ∧ Below w.heap.size w w' := by
  have hp := Lib.hid (Parse_calls st0s w (by decide) hT.says)
  rw [st0_parse] at hp
  have HT := Lib.hid hT
  clear hT
  go_enter Tryd.func10, Tryd.ntmps10
  go_wp2_with fail
  refine hp.out.mono ?_
  rintro e w1 ⟨hb1, out, rfl, hO, -⟩
  have HRN := Lib.hid (RN.own hO)
  have HB1 := Lib.hid hb1
  have HT1 := Lib.hid (HT.out.below hb1 HT.out.lt)
  clear hO hb1 hp HT
  have hpr := Lib.hid (Print_calls st0 out w1 HRN.out st0_ok (by decide) HT1.out (fun _ => by rw [st0_print]; decide))
  rw [printV, if_pos st0_shaped, st0_print] at hpr
  go_wp2_with fail
  refine hpr.out.mono ?_
  rintro e w2 ⟨rfl, hb2⟩
  have HB2 := Lib.hid (below_then HB1.out HB1.out.size hb2)
  have HT2 := Lib.hid (HT1.out.below hb2 HT1.out.lt)
  have HRN2 := Lib.hid (HRN.out.below hb2)
  clear hpr hb2 HT1 HRN HB1
  have hin := Lib.hid (Int_calls st0 2 (by decide) out w2 HRN2.out st0_ok (by decide) HT2.out st0_shaped rfl false ⟨#[49]⟩ rfl (by intro c hc; simp [bl] at hc; subst hc; decide) (.inl (by decide)))
  rw [intV] at hin
  go_wp2_with fail
  refine hin.out.mono ?_
  rintro e w3 ⟨rfl, hb3⟩
  have HB3 := Lib.hid (below_then HB2.out HB2.out.size hb3)
  have HT3 := Lib.hid (HT2.out.below hb3 HT2.out.lt)
  have HRN3 := Lib.hid (HRN2.out.below hb3)
  clear hin hb3 HT2 HRN2 HB2
  have hme := Lib.hid (Member_calls ⟨7, [], [], 1⟩ ⟨6, [97], [], 2⟩ [⟨4, [], [49], 0⟩, ⟨5, [], [195, 169], 0⟩] out [97] w3 HRN3.out st0_ok (by decide) HT3.out rfl rfl (.inl rfl))
  rw [if_pos ⟨st0_shaped, rfl⟩] at hme
  obtain ⟨a, c, rfl, hc, hcl⟩ := HRN3.out
  obtain ⟨b, o, rfl, hcx⟩ := hcl (by decide)
  obtain ⟨-, d1, -, -⟩ := hcx 1 (by decide)
  obtain ⟨-, -, d2, -⟩ := hcx 3 (by decide)
  have d1 : w3.cell? ⟨b, o + 4 + 1, none⟩ = some (.string ⟨#[97]⟩) := d1
  have d2 : w3.cell? ⟨b, o + 12 + 2, none⟩ = some (.string ⟨#[195, 169]⟩) := d2
  clear hcl hcx HRN3
  go_wp2_with fail
  refine hme.out.mono ?_
  rintro e w4 ⟨rfl, hb4⟩
  have hb5 := below_then HB3.out HB3.out.size hb4
  go_wp2_with fail
  go_ret
  exact ⟨rfl, hb5⟩
end Go.Proofs.YtdhdeaknflekpaaDoor
