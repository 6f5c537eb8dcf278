/- json laws: JsonReads. -/
import Derived.Test.YtdhdeaknflekpaaDoorLf
import Derived.Test.YtdhdeaknflekpaaDoorPo
set_option linter.unusedSimpArgs false
set_option linter.unusedVariables false
namespace Go.Proofs.YtdhdeaknflekpaaDoor
open Go.RowKit Go.Maps

theorem nok_of {v : List TJ.N} (h : TJ.shaped v = true) (h1 : (TJ.print v).length ≤ 16777216) (h2 : v.length ≤ 16777216) : ∀ x ∈ v, NOk x := by
  intro x hx
  obtain ⟨q1, q2, q3, q4⟩ := (TJ.shaped_long h).2 x hx
  exact ⟨by omega, by omega, by omega, by omega⟩
set_option maxRecDepth 100000 in
set_option maxHeartbeats 4000000 in
theorem JsonReads_calls (text : ByteArray) (w : World) (hs : text.size ≤ 1048576) (hT : Tabs w) :
    Calls Tryd.prog 4 #[.string text] w fun e w' => e = .returned (.bool true) ∧ Below w.heap.size w w' := by
  have HT := Lib.hid hT
  clear hT
  go_enter Tryd.func4, Tryd.ntmps4
  go_wp2_with fail
  refine (started_calls w HT.out).mono ?_
  rintro e w1 ⟨rfl, hb1⟩
  have HB1 := Lib.hid hb1
  have HT1 := Lib.hid (HT.out.below hb1 HT.out.lt)
  clear hb1 HT
  have hp := Lib.hid (Parse_calls text w1 (by omega) HT1.out.says)
  go_wp2_with fail
  obtain ⟨R, hR⟩ : ∃ R, R = TJ.parse (bl text) := ⟨_, rfl⟩
  rw [← hR] at hp
  cases R with
  | no d r =>
    refine hp.out.mono ?_
    rintro e w2 ⟨hb2, rfl, hrl⟩
    have HB2 := Lib.hid (below_then HB1.out HB1.out.size hb2)
    clear hb2 hp HB1 HT1 hR
    obtain ⟨q, hq⟩ : ∃ q : Int, q = if d then 251 else 250 := ⟨_, rfl⟩
    have hq0 : (q != 0) = true := by rw [hq]; cases d <;> rfl
    rw [← hq]
    have h1 : 0 ≤ (text.size : Int) - (r.length : Int) := by omega
    have h2 : (text.size : Int) - (r.length : Int) ≤ (text.size : Int) := by omega
    have hqq : q = 251 ∨ q = 250 := by rw [hq]; cases d <;> simp
    generalize (text.size : Int) - (r.length : Int) = z at *
    clear hq hrl
    rcases hqq with rfl | rfl
    · go_wp2_with fail
      go_ret
      exact ⟨by simp [h1, h2], HB2.out⟩
    · go_wp2_with fail
      go_ret
      exact ⟨by simp [h1, h2], HB2.out⟩
  | ok v r =>
    obtain ⟨k1, k2, k3⟩ := TJ.parse_reads hR.symm
    rw [bl_len] at k2
    refine hp.out.mono ?_
    rintro e w2 ⟨hb2, out, rfl, hown, hvl⟩
    have HB2 := Lib.hid (below_then HB1.out HB1.out.size hb2)
    have HT2 := Lib.hid (HT1.out.below hb2 HT1.out.lt)
    have HRN := Lib.hid (RN.own hown)
    have hok := nok_of k1 (by omega) (by omega)
    have hpr := Lib.hid (Print_calls v out w2 HRN.out hok (by omega) HT2.out (fun _ => by omega))
    have HOK := Lib.hid hok
    unfold printV at hpr
    rw [if_pos k1] at hpr
    obtain ⟨S, hS⟩ : ∃ S : ByteArray, S = ⟨(TJ.print v).toArray⟩ := ⟨_, rfl⟩
    have hSb : bl S = TJ.print v := by rw [hS, bl_mk]
    have hSs : S.size = (TJ.print v).length := by rw [hS]; exact size_mk _
    rw [← hS] at hpr
    rw [← hSb] at k3
    rw [← hSs] at k2
    have HK1 := Lib.hid k1
    have HK3 := Lib.hid k3
    clear hb2 hp HB1 HT1 hR hown hok hS hSb hSs k1 k3
    go_wp2_with fail
    refine hpr.out.mono ?_
    rintro e w3 ⟨rfl, hb3⟩
    have HB3 := Lib.hid (below_then HB2.out HB2.out.size hb3)
    have HT3 := Lib.hid (HT2.out.below hb3 HT2.out.lt)
    have HRN3 := Lib.hid (HRN.out.below hb3)
    have hp2 := Lib.hid (Parse_calls S w3 (by omega) HT3.out.says)
    rw [HK3.out] at hp2
    clear hb3 hpr HT2 HB2 HRN
    go_wp2_with fail
    refine hp2.out.mono ?_
    rintro e w4 ⟨hb4, out2, rfl, hown2, -⟩
    have HB4 := Lib.hid (below_then HB3.out HB3.out.size hb4)
    have HT4 := Lib.hid (HT3.out.below hb4 HT3.out.lt)
    have HRN4 := Lib.hid (HRN3.out.below hb4)
    have HR2 := Lib.hid (RN.own hown2)
    have hsh := Lib.hid (Shaped_calls v out w4 HRN4.out HOK.out (by omega) HT4.out)
    rw [HK1.out] at hsh
    have k2' : (S.size : Int) ≤ (text.size : Int) := by omega
    clear hb4 hown2 hp2 HB3 HT3 HRN3
    go_wp2_with fail
    refine hsh.out.mono ?_
    rintro e w5 ⟨rfl, hb5⟩
    have HB5 := Lib.hid (below_then HB4.out HB4.out.size hb5)
    have hsame := Lib.hid (same_calls v v out out2 w5 (HRN4.out.below hb5) (HR2.out.below hb5) (by omega) (by omega))
    rw [decide_eq_true rfl] at hsame
    clear hb5 hsh HB4 HRN4 HR2 HT4
    go_wp2_with fail
    refine hsame.out.mono ?_
    rintro e w6 ⟨rfl, hb6⟩
    have HB6 := Lib.hid (below_then HB5.out HB5.out.size hb6)
    clear hsame
    go_wp2_with fail
    go_ret
    exact ⟨rfl, HB6.out⟩
end Go.Proofs.YtdhdeaknflekpaaDoor
