/- trellislaw8.WordsCanon returns true. -/
import Derived.Test.YtjkhbcacpfaagaaDoorWi
import Derived.Test.YtjkhbcacpfaagaaDoorPd
set_option linter.unusedSimpArgs false
set_option linter.unusedVariables false
namespace Go.Proofs.YtjkhbcacpfaagaaDoor
open Go.RowKit

set_option maxRecDepth 100000 in
set_option maxHeartbeats 1000000 in
theorem WordsCanon_calls (s : ByteArray) (w : World) (hs : s.size ≤ 140737488355328) (hT : Tab w) : Calls Tryd.prog 4 #[.string s] w fun e w' => e = .returned (.bool true) ∧ Below w.heap.size w w' := by
  have HT := Lib.hid hT
  have hok := TW.Cut_ok (bl s)
  have hcut := fun w1 : World => Cut_calls s w1 hs
  rw [bl_length] at hok
  generalize TW.Cut (bl s) = r at *
  obtain ⟨ws, code, p⟩ := r
  simp only at hok
  have HC := Lib.hid hcut
  clear hcut hT
  rcases hok with ⟨h1, rfl, h2, h3⟩ | ⟨h0, h1, h2, h3, h4⟩
  · have hcb : (code != 0) = true := by rw [bne_iff_ne]; exact h1
    clear h1
    go_enter Tryd.func4, Tryd.ntmps4
    go_wp2_with (first | (go_at_call 7; refine (started_calls _ HT.out).mono ?_; rintro e w1 ⟨rfl, hb1⟩) | (go_at_call 10; refine (HC.out _).mono ?_; rintro e w2 ⟨v, rfl, HO, hb2⟩; obtain ⟨a, c, rfl, hc, -⟩ := (RW.own HO).cells; clear HO))
    go_ret
    exact ⟨rfl, below_then hb1 hb1.size hb2⟩
  · obtain ⟨rfl, rfl⟩ : code = 0 ∧ p = 0 := by simpa using h1
    obtain ⟨g1, g2, g3⟩ := TW.words_fit (bl s) ws (by rw [bl_length]; exact h0) (by rw [bl_length]; exact h3) (by rw [bl_length]; exact h4)
    have hidle : ∀ x ∈ ws, TW.Idle x := fun x hx => (h3 x hx).2.2.2
    have hjl : (joinW ws).length ≤ 1100000000 := by rw [joinW, if_pos h2]; exact g3
    have HI := Lib.hid hidle
    have HS := Lib.hid h2
    have HF := Lib.hid g2
    have HL := Lib.hid g3
    clear h1 h2 h3 h4 hidle g2 g3
    go_enter Tryd.func4, Tryd.ntmps4
    go_wp2_with fail
    refine (started_calls _ HT.out).mono ?_
    rintro e w1 ⟨rfl, hb1⟩
    go_wp2_with fail
    refine (HC.out _).mono ?_
    rintro e w2 ⟨v, rfl, HO, hb2⟩
    have hB2 := below_then hb1 hb1.size hb2
    have HR := RW.own HO
    clear HO
    go_wp2_with fail
    refine (Join_calls ws v w2 HR (by omega) HF.out (by have := HL.out; omega) (HT.out.below hB2)).mono ?_
    rintro e w3 ⟨rfl, hb3⟩
    have hB3 := below_then hB2 hB2.size hb3
    have HR3 := HR.below hb3
    go_wp2_with fail
    have hc2 := Cut_calls ⟨(joinW ws).toArray⟩ w3 (by show (joinW ws).toArray.size ≤ _; simp; omega)
    have ebl : bl ⟨(joinW ws).toArray⟩ = joinW ws := rfl
    rw [ebl] at hc2
    by_cases hlong : (joinW ws).length ≤ 16384
    · obtain ⟨q1, q2, q3⟩ := TW.canon ws HS.out HI.out hlong
      rw [q1] at hc2
      have HQ := Lib.hid q3
      have HJ := Lib.hid (TW.join_same q2)
      have hal : decide (ws.map bare = (TW.place ws 0).map bare) = true := decide_eq_true q2.symm
      have hpl : (TW.place ws 0).length = ws.length := by have := congrArg List.length q2; simpa using this
      have hpok : Hid (∀ x ∈ TW.place ws 0, WOk x) := TW.place_ok ws 0 HF.out
      generalize TW.place ws 0 = ms at *
      have hlg : ¬ (16384 : Int) < ((joinW ws).length : Int) := by omega
      clear q1 q2 q3
      refine hc2.mono ?_
      rintro e w4 ⟨v4, rfl, HO4, hb4⟩
      have hB4 := below_then hB3 hB3.size hb4
      have HR4 := RW.own HO4
      have HR4' := HR3.below hb4
      have hpl' : Hid (ms.length = ws.length) := hpl
      clear HO4 hpl
      go_wp2_with fail
      refine (alike_calls ws ms v v4 w4 HR4' HR4 (by omega) (by have := hpl'.out; omega)).mono ?_
      rintro e w5 ⟨rfl, hb5⟩
      have hB5 := below_then hB4 hB4.size hb5
      have HR5 := HR4.below hb5
      go_wp2_with fail
      refine (Join_calls ms v4 w5 HR5 (by have := hpl'.out; omega) hpok.out (by rw [HJ.out]; have := HL.out; omega) (HT.out.below hB5)).mono ?_
      rintro e w6 ⟨rfl, hb6⟩
      rw [HQ.out]
      go_wp2_with fail
      go_ret
      exact ⟨rfl, below_then hB5 hB5.size hb6⟩
    · have hq : TW.Cut (joinW ws) = ([], 80, 16384) := by rw [TW.Cut, if_pos (by omega)]
      rw [hq] at hc2
      have hlg : (16384 : Int) < ((joinW ws).length : Int) := by omega
      clear hq hlong
      refine hc2.mono ?_
      rintro e w4 ⟨v4, rfl, HO4, hb4⟩
      clear HO4
      go_wp2_with fail
      go_ret
      exact ⟨rfl, below_then hB3 hB3.size hb4⟩
end Go.Proofs.YtjkhbcacpfaagaaDoor
