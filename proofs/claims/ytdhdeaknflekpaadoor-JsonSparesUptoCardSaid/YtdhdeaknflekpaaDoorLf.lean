/- json laws: JsonFirm. -/
import Derived.Test.YtdhdeaknflekpaaDoorWy
import Derived.Test.YtdhdeaknflekpaaDoorPg
set_option linter.unusedSimpArgs false
set_option linter.unusedVariables false
namespace Go.Proofs.YtdhdeaknflekpaaDoor
open Go.RowKit Go.Maps

theorem bl_app (s t : ByteArray) : bl (s ++ t) = bl s ++ bl t := by simp [bl]
theorem bl_len (s : ByteArray) : (bl s).length = s.size := by simp [bl]
/-- what Parse answered, in numbers -/
def codeR : TJ.R (List TJ.N) → Int
  | .ok _ _ => 0
  | .no deep _ => if deep then 251 else 250
set_option maxRecDepth 100000 in
set_option maxHeartbeats 4000000 in
theorem JsonFirm_calls (text other : ByteArray) (cut : Int) (w : World) (hs : text.size + other.size ≤ 1048576) (hT : Tabs w) :
    Calls Tryd.prog 5 #[.string text, .string other, .int .i64 cut] w fun e w' => e = .returned (.bool true) ∧ Below w.heap.size w w' := by
  have HT := Lib.hid hT
  clear hT
  go_enter Tryd.func5, Tryd.ntmps5
  go_wp2_with fail
  refine (started_calls w HT.out).mono ?_
  rintro e w1 ⟨rfl, hb1⟩
  have HB1 := Lib.hid hb1
  have HT1 := Lib.hid (HT.out.below hb1 HT.out.lt)
  clear hb1 HT
  have hp := Lib.hid (Parse_calls text w1 (by omega) HT1.out.says)
  go_wp2_with fail
  by_cases hcase : ∃ d r, TJ.parse (bl text) = .no d r ∧ r ≠ []
  · obtain ⟨d, r, hpr, hr⟩ := hcase
    have hfirm := TJ.parse_firm hpr hr (bl other)
    rw [← bl_app] at hfirm
    rw [hpr] at hp
    refine hp.out.mono ?_
    rintro e w2 ⟨hb2, rfl, hrl⟩
    have HB2 := Lib.hid (below_then HB1.out HB1.out.size hb2)
    have HT2 := Lib.hid (HT1.out.below hb2 HT1.out.lt)
    have hr0 : 0 < r.length := List.length_pos_iff.2 hr
    have hat : (text.size : Int) - (r.length : Int) < (text.size : Int) := by omega
    have hp2 := Lib.hid (Parse_calls (text ++ other) w2 (by simp; omega) HT2.out.says)
    rw [hfirm] at hp2
    have HF := Lib.hid hr
    clear hpr hr hfirm hb2 hp HB1 HT1
    obtain ⟨q, hq⟩ : ∃ q : Int, q = if d then 251 else 250 := ⟨_, rfl⟩
    have hq0 : (q != 0) = true := by rw [hq]; cases d <;> rfl
    have hw1 : IntKind.i64.wrap ((text.size : Int) - (r.length : Int)) = (text.size : Int) - (r.length : Int) := IntWalk.i64_in _ (by omega)
    rw [← hq]
    have HQ := Lib.hid hq
    clear hq
    go_wp2_with fail
    refine hp2.out.mono ?_
    rintro e w3 ⟨hb3, rfl, hrl2⟩
    have hb4 := below_then HB2.out HB2.out.size hb3
    have hz : ((text ++ other).size : Int) - ((r ++ bl other).length : Int) = (text.size : Int) - (r.length : Int) := by
      rw [List.length_append, bl_len, ByteArray.size_append]
      omega
    rw [hz, ← HQ.out]
    clear hb3 hz hrl2
    go_wp2_with fail
    go_ret
    exact ⟨by simp, hb4⟩
  · have hno : ∀ d r, TJ.parse (bl text) = .no d r → r = [] := fun d r h => Classical.byContradiction fun hr => hcase ⟨d, r, h, hr⟩
    have HNO := Lib.hid hno
    clear hno hcase
    refine hp.out.mono ?_
    intro e w2 hpp
    obtain ⟨out, c, at', he, hca, hb2⟩ : ∃ (out : Value) (c at' : Int), e = .returned (.tuple #[out, .int .i64 c, .int .i64 at']) ∧ (((c != 0) && decide (at' < (text.size : Int))) = false) ∧ Below w1.heap.size w1 w2 := by
      obtain ⟨hb2, hpp⟩ := hpp
      cases hpa : TJ.parse (bl text) with
      | ok v l =>
        rw [hpa] at hpp
        obtain ⟨out, he, -, -⟩ := hpp
        exact ⟨out, 0, 0, he, rfl, hb2⟩
      | no d l =>
        have := HNO.out d l hpa
        subst this
        rw [hpa] at hpp
        exact ⟨_, _, _, hpp.1, by simp, hb2⟩
    subst he
    have HB2 := Lib.hid (below_then HB1.out HB1.out.size hb2)
    have HT2 := Lib.hid (HT1.out.below hb2 HT1.out.lt)
    clear hpp hp HB1 HT1 hb2
    have hcase2 : (c != 0) = false ∨ decide (at' < (text.size : Int)) = false := by
      cases h1 : (c != 0) with
      | false => exact .inl rfl
      | true => rw [h1] at hca; exact .inr hca
    have tail : ∀ (W : World), Below w.heap.size w W → Tabs W → 0 ≤ cut → cut ≤ (text.size : Int) → ∃ s2 : ByteArray, s2 = text.extract 0 cut.toNat ∧ s2.size = cut.toNat ∧ Hid (Calls Tryd.prog 13 #[.string s2] W fun e w' => ∃ (out : Value) (c2 a2 : Int), e = .returned (.tuple #[out, .int .i64 c2, .int .i64 a2]) ∧ (c2 = 0 ∨ c2 = 250 ∧ a2 = cut) ∧ Below w.heap.size w w') := by
      intro W hb hT h0 h1
      have hsz : (text.extract 0 cut.toNat).size = cut.toNat := by simp; omega
      refine ⟨_, rfl, hsz, (Parse_calls _ W (by omega) hT.says).mono ?_⟩
      have hx : bl text = bl (text.extract 0 cut.toNat) ++ (bl text).drop cut.toNat := by
        have : bl (text.extract 0 cut.toNat) = (bl text).take cut.toNat := by simp [bl]
        rw [this, List.take_append_drop]
      have hcut := TJ.parse_cut (x := bl (text.extract 0 cut.toNat)) (z := (bl text).drop cut.toNat) (by rw [← hx]; exact HNO.out)
      intro e w' hpp
      rcases hcut with ⟨v, hv⟩ | hv
      · rw [hv] at hpp
        obtain ⟨hb5, out, he, -, -⟩ := hpp
        exact ⟨out, 0, 0, he, .inl rfl, below_then hb hb.size hb5⟩
      · rw [hv] at hpp
        obtain ⟨hb5, he, -⟩ := hpp
        refine ⟨_, _, _, he, .inr ⟨rfl, ?_⟩, below_then hb hb.size hb5⟩
        rw [hsz]
        simp
        omega
    have HTAIL := Lib.hid tail
    clear tail hca
    by_cases hc : cut < 0 ∨ (text.size : Int) < cut
    · clear HTAIL
      by_cases hc0 : cut < 0
      · clear hc
        cases hcc : (c != 0) with
        | false =>
          go_wp2_with fail
          go_ret
          exact ⟨rfl, HB2.out⟩
        | true =>
          have hlt : ¬ (at' < (text.size : Int)) := by
            rcases hcase2 with h | h
            · rw [hcc] at h; cases h
            · exact of_decide_eq_false h
          clear hcase2
          go_wp2_with fail
          go_ret
          exact ⟨rfl, HB2.out⟩
      · have hc1 : (text.size : Int) < cut := hc.resolve_left hc0
        clear hc
        cases hcc : (c != 0) with
        | false =>
          go_wp2_with fail
          go_ret
          exact ⟨rfl, HB2.out⟩
        | true =>
          have hlt : ¬ (at' < (text.size : Int)) := by
            rcases hcase2 with h | h
            · rw [hcc] at h; cases h
            · exact of_decide_eq_false h
          clear hcase2
          go_wp2_with fail
          go_ret
          exact ⟨rfl, HB2.out⟩
    · have h0 : 0 ≤ cut := by omega
      have h1 : cut ≤ (text.size : Int) := by omega
      obtain ⟨s2, hs2, hsz2, hp3⟩ := HTAIL.out w2 HB2.out HT2.out h0 h1
      have hg : ¬ (cut > (text.size : Int)) := by omega
      clear hc HTAIL
      have hs3 : text.extract 0 cut.toNat = s2 := hs2.symm
      clear hs2
      cases hcc : (c != 0) with
      | false =>
        go_wp2_with fail
        refine hp3.out.mono ?_
        rintro e w3 ⟨out2, c2, a2, rfl, hor, hb3⟩
        rcases hor with rfl | ⟨rfl, rfl⟩
        · go_wp2_with fail
          go_ret
          exact ⟨rfl, hb3⟩
        · go_wp2_with fail
          go_ret
          exact ⟨by simp, hb3⟩
      | true =>
        have hlt : ¬ (at' < (text.size : Int)) := by
          rcases hcase2 with h | h
          · rw [hcc] at h; cases h
          · exact of_decide_eq_false h
        clear hcase2
        go_wp2_with fail
        refine hp3.out.mono ?_
        rintro e w3 ⟨out2, c2, a2, rfl, hor, hb3⟩
        rcases hor with rfl | ⟨rfl, rfl⟩
        · go_wp2_with fail
          go_ret
          exact ⟨rfl, hb3⟩
        · go_wp2_with fail
          go_ret
          exact ⟨by simp, hb3⟩
end Go.Proofs.YtdhdeaknflekpaaDoor
