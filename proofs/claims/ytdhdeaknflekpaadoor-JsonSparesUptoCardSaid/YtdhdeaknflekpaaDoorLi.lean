/- json laws: JsonInts. -/
import Derived.Test.YtdhdeaknflekpaaDoorWy
import Derived.Test.YtdhdeaknflekpaaDoorPi
import Derived.WalkSmall
import Derived.Lib.AppendIntMem
import Derived.Lib.ItoaLen
set_option linter.unusedSimpArgs false
set_option linter.unusedVariables false
namespace Go.Proofs.YtdhdeaknflekpaaDoor
open Go.RowKit Go.Maps

theorem gPow : Tryd.prog.globalNamed "internal/strconv.uint64pow10" = some 4 := by kernel_rfl
theorem tab_below {w w' : World} (h : Lib.TabIs Tryd.prog w "internal/strconv.uint64pow10" .u64 Lib.pow10Tab) (hb : Below w.heap.size w w') : Lib.TabIs Tryd.prog w' "internal/strconv.uint64pow10" .u64 Lib.pow10Tab := by
  have hc := Lib.TabIs.cell h gPow 0 (by decide)
  exact var?_below hb gPow (World.block_lt_of_cell? w _ hc) h
theorem ints_rn (w : World) (key : ByteArray) (n : Int) : RN (w.alloc (.cells #[.int .i64 7, .string ⟨#[]⟩, .string ⟨#[]⟩, .int .i64 1, .int .i64 4, .string key, .string ⟨(Lib.itoa n).toArray⟩, .int .i64 0] 36)) (.slice (some ⟨w.heap.size, 0, none⟩) 2 2) (intsV (bl key) n) := by
  have hc : ∀ i v, (#[Value.int .i64 7, .string ⟨#[]⟩, .string ⟨#[]⟩, .int .i64 1, .int .i64 4, .string key, .string ⟨(Lib.itoa n).toArray⟩, .int .i64 0] : Array Value)[i]? = some v → (w.alloc (.cells #[.int .i64 7, .string ⟨#[]⟩, .string ⟨#[]⟩, .int .i64 1, .int .i64 4, .string key, .string ⟨(Lib.itoa n).toArray⟩, .int .i64 0] 36)).cell? ⟨w.heap.size, i, none⟩ = some v := by
    intro i v h
    rw [cell_of_row _ _ _ _ _ _ (heap_alloc_new w _)]
    exact h
  have ek : (⟨(bl key).toArray⟩ : ByteArray) = key := (ba_eq rfl).symm
  refine ⟨_, 2, rfl, Nat.le_refl _, fun _ => ⟨_, _, rfl, fun i hi => ?_⟩⟩
  have hi2 : i = 0 ∨ i = 1 := by
    have : i < 2 := hi
    omega
  rcases hi2 with rfl | rfl
  · exact ⟨hc 0 _ rfl, hc 1 _ rfl, hc 2 _ rfl, hc 3 _ rfl⟩
  · refine ⟨hc 4 _ rfl, ?_, hc 6 _ rfl, hc 7 _ rfl⟩
    show _ = some (Value.string ⟨(bl key).toArray⟩)
    rw [ek]
    exact hc 5 _ rfl
theorem ints_ok (key : ByteArray) (n : Int) (h0 : -9223372036854775808 ≤ n) (h1 : n ≤ 9223372036854775807) (hk : key.size ≤ 1048576) : ∀ x ∈ intsV (bl key) n, NOk x := by
  have hl : (bl key).length = key.size := by simp [bl]
  have h2 := Lib.itoa_length_le n h0 h1
  intro x hx
  simp only [intsV, List.mem_cons, List.not_mem_nil, or_false] at hx
  rcases hx with rfl | rfl
  · exact ⟨by simp, by simp, by simp, by simp⟩
  · exact ⟨by show (bl key).length ≤ _; omega, by show (Lib.itoa n).length ≤ _; omega, by simp, by simp⟩
theorem mk_bl (s : ByteArray) : (⟨(bl s).toArray⟩ : ByteArray) = s := (ba_eq rfl).symm
set_option maxRecDepth 100000 in
set_option maxHeartbeats 4000000 in
theorem JsonInts_calls (n : Int) (key other : ByteArray) (w : World) (h0 : -9223372036854775808 ≤ n) (h1 : n ≤ 9223372036854775807) (hk : key.size ≤ 1048576) (hT : Tabs w) (hP : Lib.TabIs Tryd.prog w "internal/strconv.uint64pow10" .u64 Lib.pow10Tab) :
    Calls Tryd.prog 8 #[.int .i64 n, .string key, .string other] w fun e w' => e = .returned (.bool true) ∧ Below w.heap.size w w' := by
  have HT := Lib.hid hT
  have HP := Lib.hid hP
  have hok := Lib.hid (ints_ok key n h0 h1 hk)
  clear hT hP
  go_enter Tryd.func8, Tryd.ntmps8
  go_wp2_with fail
  refine (started_calls w HT.out).mono ?_
  rintro e w1 ⟨rfl, hb1⟩
  have HB1 := Lib.hid hb1
  clear hb1
  have HT1 := Lib.hid (HT.out.below HB1.out HT.out.lt)
  have HP1 := Lib.hid (tab_below HP.out HB1.out)
  have hit := Lib.hid (Tryd.strconv_Itoa n h0 h1 w1 HP1.out)
  go_wp2_with fail
  refine hit.out.mono ?_
  rintro e w2 ⟨rfl, kk, os, hw2⟩
  have hb2 : Below w1.heap.size w1 w2 := by rw [hw2]; exact Lib.below_grow _ _ (Nat.le_refl _) _ _
  have HB2 := Lib.hid (below_then HB1.out HB1.out.size hb2)
  have HT2 := Lib.hid (HT1.out.below hb2 HT1.out.lt)
  clear hw2 hb2 hit HP1 HP HT1 HB1
  have hrn := ints_rn w2 key n
  have hbA := below_one w2 (.cells #[.int .i64 7, .string ⟨#[]⟩, .string ⟨#[]⟩, .int .i64 1, .int .i64 4, .string key, .string ⟨(Lib.itoa n).toArray⟩, .int .i64 0] 36)
  have HB3 := Lib.hid (below_then HB2.out HB2.out.size hbA)
  have HT3 := Lib.hid (HT2.out.below hbA HT2.out.lt)
  go_wp2_with fail
  generalize w2.alloc _ = w3 at *
  have HRN := Lib.hid hrn
  clear hrn hbA HB2 HT2
  obtain ⟨sl, hsl⟩ : ∃ sl : Addr, sl = ⟨w2.heap.size, 0, none⟩ := ⟨_, rfl⟩
  rw [← hsl] at HRN ⊢
  clear hsl
  have hsh := Lib.hid (Shaped_calls _ _ w3 HRN.out hok.out (by simp [intsV]) HT3.out)
  have hs := ints_shaped (bl key) n
  rw [hs] at hsh
  have HS := Lib.hid hs
  clear hs
  cases hv : TJ.valid (bl key) with
  | false =>
    rw [hv] at hsh HS
    clear hv
    refine hsh.out.mono ?_
    rintro e w4 ⟨rfl, hb4⟩
    have HB4 := Lib.hid (below_then HB3.out HB3.out.size hb4)
    have hme := Lib.hid (Member_calls ⟨7, [], [], 1⟩ ⟨4, bl key, Lib.itoa n, 0⟩ [] _ (bl key) w4 (HRN.out.below hb4) hok.out (by simp) (HT3.out.below hb4 HT3.out.lt) rfl rfl (.inl rfl))
    have hf : ¬ (TJ.shaped [⟨7, [], [], 1⟩, ⟨4, bl key, Lib.itoa n, 0⟩] = true ∧ bl key = bl key) := by
      intro h
      have := h.1.symm.trans HS.out
      cases this
    rw [if_neg hf, mk_bl key] at hme
    clear hb4 hf hsh
    go_wp2_with fail
    refine hme.out.mono ?_
    rintro e w5 ⟨rfl, hb5⟩
    have hb6 := below_then HB4.out HB4.out.size hb5
    go_wp2_with fail
    go_ret
    exact ⟨rfl, hb6⟩
  | true =>
    rw [hv] at hsh HS
    clear hv
    refine hsh.out.mono ?_
    rintro e w4 ⟨rfl, hb4⟩
    have HB4 := Lib.hid (below_then HB3.out HB3.out.size hb4)
    have HT4 := Lib.hid (HT3.out.below hb4 HT3.out.lt)
    have HRN4 := Lib.hid (HRN.out.below hb4)
    clear hb4 hsh HB3 HT3 HRN
    obtain ⟨neg, u, hu1, hu2, hu3⟩ := itoa_split n
    have edec : bl ⟨(Lib.decDigits u).toArray⟩ = Lib.decDigits u := by simp [bl]
    have hin := Lib.hid (Int_calls (intsV (bl key) n) 1 (by simp [intsV]) _ w4 HRN4.out hok.out (by simp [intsV]) HT4.out HS.out rfl neg ⟨(Lib.decDigits u).toArray⟩ (by rw [edec]; exact hu1) (by rw [edec]; exact dec_all u) (by
      rw [edec, dec_val]
      cases neg with
      | true => right; exact ⟨rfl, by simp at hu2; omega⟩
      | false => left; simp at hu2; omega))
    have eI : intV neg (dval (bl ⟨(Lib.decDigits u).toArray⟩)) = .tuple #[.int .i64 n, .bool true] := by rw [edec, dec_val, intV, ← hu2]
    rw [eI] at hin
    clear hu1 hu2 hu3 edec eI
    go_wp2_with fail
    refine hin.out.mono ?_
    rintro e w5 ⟨rfl, hb5⟩
    have HB5 := Lib.hid (below_then HB4.out HB4.out.size hb5)
    have HT5 := Lib.hid (HT4.out.below hb5 HT4.out.lt)
    have HRN5 := Lib.hid (HRN4.out.below hb5)
    clear hb5 hin HB4 HT4 HRN4
    have hme := Lib.hid (Member_calls ⟨7, [], [], 1⟩ ⟨4, bl key, Lib.itoa n, 0⟩ [] _ (bl other) w5 HRN5.out hok.out (by simp) HT5.out rfl rfl (.inr rfl))
    obtain ⟨r, hr⟩ : ∃ r : Int, r = if TJ.shaped [⟨7, [], [], 1⟩, ⟨4, bl key, Lib.itoa n, 0⟩] = true ∧ bl key = bl other then 1 else -1 := ⟨_, rfl⟩
    have hme2 : Hid (Calls Tryd.prog 17 #[.slice (some sl) 2 2, .int .i64 0, .string other] w5 fun e w' => e = .returned (.int .i64 r) ∧ Below w5.heap.size w5 w') := by
      rw [hr, ← mk_bl other]
      exact hme
    clear hme
    have HR := Lib.hid hr
    clear hr
    go_wp2_with fail
    refine hme2.out.mono ?_
    rintro e w6 ⟨rfl, hb6⟩
    have HB6 := Lib.hid (below_then HB5.out HB5.out.size hb6)
    have HT6 := Lib.hid (HT5.out.below hb6 HT5.out.lt)
    have HRN6 := Lib.hid (HRN5.out.below hb6)
    clear hb6 hme2 HB5 HT5 HRN5
    have hmk := Lib.hid (Member_calls ⟨7, [], [], 1⟩ ⟨4, bl key, Lib.itoa n, 0⟩ [] _ (bl key) w6 HRN6.out hok.out (by simp) HT6.out rfl rfl (.inl rfl))
    rw [if_pos ⟨HS.out, rfl⟩, mk_bl key] at hmk
    have nn : (n == n) = true := by simp
    by_cases hko : key = other
    · have hr1 : r = 1 := by rw [HR.out, if_pos ⟨HS.out, by rw [hko]⟩]
      subst hr1
      subst hko
      go_wp2_with fail
      refine hmk.out.mono ?_
      rintro e w7 ⟨rfl, hb7⟩
      have hb8 := below_then HB6.out HB6.out.size hb7
      go_wp2_with fail
      go_ret
      exact ⟨by simp, hb8⟩
    · have hr1 : r = -1 := by rw [HR.out, if_neg (fun h => hko (by rw [← mk_bl key, ← mk_bl other, h.2]))]
      subst hr1
      have e1 : (other.toList == key.toList) = false := by
        rw [beq_eq_false_iff_ne, ByteArray.toList_eq, ByteArray.toList_eq]
        intro h
        exact hko (by rw [← mk_bl key, ← mk_bl other]; show (⟨key.data.toList.toArray⟩ : ByteArray) = ⟨other.data.toList.toArray⟩; rw [h])
      have HKO := Lib.hid hko
      clear hko
      go_wp2_with fail
      refine hmk.out.mono ?_
      rintro e w7 ⟨rfl, hb7⟩
      have hb8 := below_then HB6.out HB6.out.size hb7
      go_wp2_with fail
      go_ret
      exact ⟨by simp, hb8⟩
end Go.Proofs.YtdhdeaknflekpaaDoor
