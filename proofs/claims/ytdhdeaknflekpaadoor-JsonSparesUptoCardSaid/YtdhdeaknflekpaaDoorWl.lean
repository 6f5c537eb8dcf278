/- json's parser: a list or an object, walked. -/
import Derived.Test.YtdhdeaknflekpaaDoorWk
set_option linter.unusedSimpArgs false
set_option linter.unusedVariables false
namespace Go.Proofs.YtdhdeaknflekpaaDoor
open Go.RowKit Go.Maps

set_option maxRecDepth 100000 in
set_option maxHeartbeats 8000000 in
theorem many_at (D : Nat) (hV : ValC D) : ManyC D := by
  intro pb s d w0 l out nodes h hh
  have hA := h.st.at_
  have hsz := h.size
  have hroom := h.room
  have HH := Lib.hid h
  have HV := Lib.hid hV
  have HHas := Lib.hid hh
  obtain ⟨obj, hobj⟩ : ∃ obj, obj = TJ.has [123] l := ⟨_, rfl⟩
  obtain ⟨r, hr⟩ : ∃ r, r = TJ.many (TJ.value D) l := ⟨_, rfl⟩
  rw [← hr, ← hobj]
  unfold TJ.many at hr
  rw [← hobj] at hr
  have HR := Lib.hid hr
  have hi := Lib.hid (is_at ⟨#[123]⟩ [123] rfl hA (by omega))
  rw [← hobj] at hi
  have hpb : pb < w0.heap.size := by obtain ⟨-, -, hP, -⟩ := hA.place; exact hP.lt
  have HA := Lib.hid hA
  have HObj := Lib.hid hobj
  clear h hV hh hr hA hobj
  go_enter Tryd.func35, Tryd.ntmps35
  go_wp2_with fail
  refine hi.out.mono ?_
  rintro e w1 ⟨rfl, n, rfl⟩
  have HA1 := Lib.hid (HA.out.draws n)
  clear hi HA
  generalize w0.drewN n = wd at *
  go_upto_if 14 with fail
  go_cut [5, 6] (fun s5 s6 wx => s5 = .int .i64 (kindI obj) ∧ s6 = .string ⟨#[TJ.shut obj]⟩ ∧ wx = wd)
  case first =>
    cases obj with
    | true => go_wp2_with fail; go_meet; exact ⟨rfl, rfl, rfl⟩
    | false => go_wp2_with fail; go_meet; exact ⟨rfl, rfl, rfl⟩
  case rest =>
    obtain ⟨rfl, rfl, rfl⟩ := hcut
    obtain ⟨k, c1, f1, hk, hA2⟩ := HA1.out.next HHas.out
    have hbk := Lib.hid (blanks_at hA2.here (by omega))
    have HA2 := Lib.hid hA2
    clear hA2 HA1
    go_wp2_with fail
    generalize wc.setCell _ _ = we at *
    refine hbk.out.mono ?_
    rintro e w2 ⟨rfl, hA3⟩
    have HA3 := Lib.hid (HA2.out.trans hA3)
    have hi := Lib.hid (is_at ⟨#[TJ.shut obj]⟩ _ (shut_str obj) hA3 (by omega))
    clear hA3 hbk HA2 c1 f1 hk
    generalize hl1 : TJ.blanks l.tail = l1 at *
    go_wp2_with fail
    refine hi.out.mono ?_
    rintro e w3 ⟨rfl, n, rfl⟩
    have HA4 := Lib.hid (HA3.out.draws n)
    clear hi HA3
    generalize w2.drewN n = w4 at *
    have hl1' : l1.length + 1 ≤ l.length := by
      have h1 := TJ.has_len HHas.out
      have h2 := TJ.blanks_len l.tail
      rw [hl1] at h2
      omega
    have HL1 := Lib.hid hl1
    clear hl1
    by_cases hsh : TJ.has [TJ.shut obj] l1 = true
    · have hr := HR.out
      rw [if_pos hsh] at hr
      have HR := Lib.hid hr
      obtain ⟨k2, c1, f1, hk, hA5⟩ := HA4.out.next hsh
      have HA5 := Lib.hid hA5
      rw [hsh]
      clear hA5 hr hsh HA4
      go_wp2_with fail
      go_ret3
      exact many_none HH.out HA5.out HR.out rfl
    · have hr := HR.out
      rw [if_neg hsh] at hr
      have HR := Lib.hid hr
      have hf : TJ.has [TJ.shut obj] l1 = false := by simpa using hsh
      have hmm := @run_makeMap Tryd.prog
      rw [hf]
      clear hr hsh hf
      go_wp2_with fail
      clear hmm
      go_loopg [8] l1.length (ManyRel pb s D d w0 out nodes w4.heap.size obj r)
      case atStart => exact ⟨0, 0, [], [], [], l1, out, rfl, rfl, many_start HH.out HA4.out, fun _ => rfl, Nat.le_refl _, by omega, by simp only [List.length_nil]; omega, by rw [HR.out]; exact (join_nil _).symm⟩
      case round =>
        clear HR HA4 HL1
        obtain ⟨k, kk, keys, ks, vs, l2, out2, rfl, rfl, hms, hks, hkk, hkl, hrm, hr⟩ := hrel
        have HMS := Lib.hid hms
        have HKS := Lib.hid hks
        have HR := Lib.hid hr
        clear hms hks hr
        go_upto_if 39 with fail
        go_cut [9] (KeyRel pb s d w0 out nodes vs w4.heap.size obj keys l2 out2 kk)
        case first =>
          cases obj with
          | false =>
            have hk7 : (kindI false == 7) = false := rfl
            go_wp2_with fail
            go_meet
            exact ⟨[], ks, kk, l2, rfl, rfl, HMS.out, (fun h => by cases h), by omega⟩
          | true =>
            have hk7 : (kindI true == 7) = true := rfl
            obtain rfl := HKS.out rfl
            obtain ⟨hq1, hq2, hqP, -⟩ := HMS.out.st.at_.place
            obtain ⟨a0, ha0⟩ : ∃ a0, a0 = s.size - l2.length := ⟨_, rfl⟩
            rw [← ha0] at hqP hq2
            obtain ⟨c0, c1, -, -, -, -⟩ := hqP.cells
            have HD := Lib.hid hq2
            have HB := Lib.hid (HMS.out.keep.base HH.out.base HH.out.three HH.out.st.row)
            have hs := Lib.hid (str_at HB.out HMS.out.st.at_ (by omega) hqP.lt)
            have hle : a0 ≤ s.size := by omega
            clear hq1 hq2 hqP ha0 HB HKS
            cases hq : TJ.str l2 with
            | mk o l3 =>
              have HQ := Lib.hid hq
              rw [hq] at hs
              clear hq
              cases o with
              | none =>
                go_wp2_with fail
                refine hs.out.mono ?_
                rintro e w5 ⟨he, hA5⟩
                obtain rfl : e = .returned (.tuple #[.string ⟨#[]⟩, .bool false]) := he
                have HMS2 := Lib.hid (HMS.out.step hA5)
                clear hA5 hs c0 c1 hk7
                go_wp2_with fail
                go_ret3
                exact HMS2.out.no (by rw [HR.out]; exact items_nokey (keyOr_none HQ.out)) _ _
              | some sk =>
                have hsk : sk.length ≤ 134217728 := by have := str_fits HQ.out; omega
                have hkey : keyOf Tryd.prog 9 (.string ⟨sk.toArray⟩) = some (.string sk) := by
                  have := WideMaps.keyOf_string_mk (P := Tryd.prog) Tryd.underlying9 (s := ⟨sk.toArray⟩) (by show sk.toArray.size ≤ _; simp [maxLen]; omega)
                  simpa using this
                go_wp2_with fail
                refine hs.out.mono ?_
                rintro e w5 ⟨he, hA5⟩
                obtain rfl : e = .returned (.tuple #[.string ⟨sk.toArray⟩, .bool true]) := he
                have HMS2 := Lib.hid (HMS.out.step hA5)
                have hmap := HMS2.out.map
                clear hA5 hs c0 c1 hk7
                by_cases hc : ks.contains sk = true
                · obtain ⟨hq1, hq2, hqP, -⟩ := HMS2.out.st.at_.place
                  obtain ⟨-, c1, -, -, -, fz⟩ := hqP.cells
                  have f1 := fz ⟨pb, 1, none⟩ rfl
                  have HMS3 := Lib.hid (HMS2.out.but (l2 := l2) (w2 := w5.setCell ⟨pb, 1, none⟩ (.int .i64 (a0 : Int))) ⟨a0, hle, HD.out, hqP.set1 a0 _ rfl, But.refl _ _⟩ ((But.refl _ _).set 1 _))
                  have HC := Lib.hid hc
                  clear hq1 hq2 hqP fz hc
                  go_wp2_with (at_lookup; go_must (refine wpList_lookup_own_int _ rfl _ _ 68 rfl 9 3 .i64 law9 Tryd.underlying68 Tryd.underlying3 (zero3 _) w4.heap.size kk _ rfl hmap _ _ rfl hkey ?_); intro c hat hwc; obtain rfl : c = 1 := by rw [look_c hat, if_pos HC.out])
                  go_ret3
                  exact HMS3.out.no (by rw [HR.out]; exact items_nokey (keyOr_twice HQ.out HC.out)) _ _
                · have HC := Lib.hid hc
                  clear hc
                  go_wp2_with (first
                    | (at_lookup; go_must (refine wpList_lookup_own_int _ rfl _ _ 68 rfl 9 3 .i64 law9 Tryd.underlying68 Tryd.underlying3 (zero3 _) w4.heap.size kk _ rfl hmap _ _ rfl hkey ?_); intro c hat hwc; obtain rfl : c = 0 := by rw [look_c hat, if_neg HC.out])
                    | (at_mapUpdate; go_must (refine wpList_mapUpdate_own _ rfl _ _ _ 68 rfl 9 3 law9 Tryd.underlying68 _ w4.heap.size kk _ rfl hmap (by unfold maxLen; omega) _ _ _ rfl rfl hkey _ [] (plainElem_int Tryd.underlying3 (by decide)) ?_); intro w6 hm6 hg6))
                  have HMS3 := Lib.hid (HMS2.out.stored hm6 hg6)
                  have hbk := Lib.hid (blanks_at HMS3.out.st.at_ (by omega))
                  clear hmap hm6 hg6 hat hwc
                  refine hbk.out.mono ?_
                  rintro e w7 ⟨rfl, hA7⟩
                  have HMS4 := Lib.hid (HMS3.out.step hA7)
                  have ht := Lib.hid (take_at ⟨#[58]⟩ [58] rfl HMS4.out.st.at_ (by omega))
                  clear hA7 hbk
                  by_cases h58 : TJ.has [58] (TJ.blanks l3) = true
                  · rw [TJ.take, if_pos h58] at ht
                    have H58 := Lib.hid h58
                    clear h58
                    go_wp2_with fail
                    refine ht.out.mono ?_
                    rintro e w8 ⟨rfl, hA8⟩
                    have HMS5 := Lib.hid (HMS4.out.step hA8)
                    have hbk := Lib.hid (blanks_at HMS5.out.st.at_ (by omega))
                    clear hA8 ht
                    go_wp2_with fail
                    refine hbk.out.mono ?_
                    rintro e w9 ⟨rfl, hA9⟩
                    have HMS6 := Lib.hid (HMS5.out.step hA9)
                    clear hA9 hbk
                    go_wp2_with fail
                    go_meet
                    exact ⟨sk, _, _, _, rfl, keyOr_colon HQ.out HC.out H58.out, HMS6.out, fun _ => rfl, Nat.le_refl _⟩
                  · rw [TJ.take, if_neg h58] at ht
                    have H58 := Lib.hid h58
                    clear h58
                    go_wp2_with fail
                    refine ht.out.mono ?_
                    rintro e w8 ⟨rfl, hA8⟩
                    have HMS5 := Lib.hid (HMS4.out.step hA8)
                    clear hA8 ht
                    go_wp2_with fail
                    go_ret3
                    exact HMS5.out.no (by rw [HR.out]; exact items_nokey (keyOr_bad HQ.out HC.out H58.out)) _ _
        case rest =>
          obtain ⟨key, ks2, k2, l3, rfl, hko, hms, hks2, hk2⟩ := hcut
          have HKO := Lib.hid hko
          have HMS1 := Lib.hid hms
          have HKS2 := Lib.hid hks2
          have hl3 := TJ.keyOr_len hko
          have hval := Lib.hid (HV.out pb s d wc l3 key out2 (nodes ++ vs) ⟨hms.keep.base HH.out.base HH.out.three HH.out.st.row, HH.out.three, hsz, HH.out.deep, HH.out.low, by simp only [List.length_append]; omega, by simpa only [List.length_append] using hms.st⟩)
          clear hko hms hks2 HMS HKS
          cases hv : TJ.value D key l3 with
          | no deep l4 =>
            rw [hv] at hval
            have HVv := Lib.hid hv
            clear hv
            go_wp2_with fail
            refine hval.out.mono ?_
            rintro e w5 ⟨b, out3, c', m, xs, l4', rfl, hst, hm, hk, ho, rfl, rfl, rfl⟩
            have HST := Lib.hid hst
            have HK := Lib.hid hk
            have HO := Lib.hid ho
            have HM := Lib.hid hm
            clear hst hk ho hval hm
            go_wp2_with fail
            go_ret3
            exact ⟨false, _, _, out3, _, m, xs, _, rfl, HST.out, by have := HM.out; simp only [List.length_append] at this; omega, HMS1.out.keep.trans HK.out HMS1.out.own, HMS1.out.own.trans HO.out HMS1.out.keep.size, by rw [HR.out, items_noval HKO.out HVv.out]; exact ⟨rfl, rfl, rfl⟩⟩
          | ok v l4 =>
            rw [hv] at hval
            have HVv := Lib.hid hv
            clear hv
            go_wp2_with fail
            refine hval.out.mono ?_
            rintro e w5 ⟨b, out3, c', m, xs, l4', rfl, hst, hm, hk, ho, rfl, rfl, rfl, hm2, hx2⟩
            have HMS2 := Lib.hid (HMS1.out.value (v := v) hst (by rw [hm2]; simp only [List.length_append]; omega) (by rw [hx2, List.append_assoc]) hk ho)
            have hbk := Lib.hid (blanks_at HMS2.out.st.at_ (by omega))
            clear hst hk ho hval hm hm2 hx2 HMS1
            go_wp2_with fail
            refine hbk.out.mono ?_
            rintro e w6 ⟨rfl, hA6⟩
            have HMS3 := Lib.hid (HMS2.out.step hA6)
            have hi := Lib.hid (is_at ⟨#[TJ.shut obj]⟩ _ (shut_str obj) HMS3.out.st.at_ (by omega))
            clear hA6 hbk HMS2
            go_wp2_with fail
            refine hi.out.mono ?_
            rintro e w7 ⟨rfl, n7, rfl⟩
            have HMS4 := Lib.hid (HMS3.out.draws n7)
            clear hi HMS3
            generalize w6.drewN n7 = w8 at *
            by_cases hsh : TJ.has [TJ.shut obj] (TJ.blanks l4') = true
            · obtain ⟨q, c1, f1, hk, hA9⟩ := HMS4.out.st.at_.next hsh
              have HMS5 := Lib.hid (HMS4.out.step hA9)
              have HSH := Lib.hid hsh
              rw [hsh]
              clear hA9 hsh
              go_wp2_with fail
              go_ret3
              exact HMS5.out.yes (n := k + 1) (by rw [HR.out]; exact items_shut HKO.out HVv.out HSH.out) rfl (by simp)
            · have HSH := Lib.hid hsh
              have hf : TJ.has [TJ.shut obj] (TJ.blanks l4') = false := by simpa using hsh
              have ht := Lib.hid (take_at ⟨#[44]⟩ [44] rfl HMS4.out.st.at_ (by omega))
              rw [hf]
              clear hsh hf
              by_cases h44 : TJ.has [44] (TJ.blanks l4') = true
              · rw [TJ.take, if_pos h44] at ht
                have H44 := Lib.hid h44
                clear h44
                go_wp2_with fail
                refine ht.out.mono ?_
                rintro e w9 ⟨rfl, hA9⟩
                have HMS5 := Lib.hid (HMS4.out.step hA9)
                have hbk := Lib.hid (blanks_at HMS5.out.st.at_ (by omega))
                clear hA9 ht HMS4
                go_wp2_with fail
                refine hbk.out.mono ?_
                rintro e w10 ⟨rfl, hA10⟩
                have HMS6 := Lib.hid (HMS5.out.step hA10)
                clear hA10 hbk HMS5
                go_wp2_with fail
                go_roundg (TJ.blanks (TJ.blanks l4').tail).length
                case measure => have := (items_next_len (TJ.value_bound D) HKO.out HVv.out H44.out).2; omega
                case rel =>
                  have hb := items_next_len (TJ.value_bound D) HKO.out HVv.out H44.out
                  exact ⟨k + 1, k2, key :: keys, ks2, vs ++ v, _, out3, by go_num, rfl, HMS6.out, HKS2.out, by omega, by omega, by simp only [List.length_append]; omega, by rw [HR.out]; exact items_next (TJ.value_bound D) HKO.out HVv.out HSH.out H44.out⟩
              · rw [TJ.take, if_neg h44] at ht
                have H44 := Lib.hid h44
                clear h44
                go_wp2_with fail
                refine ht.out.mono ?_
                rintro e w9 ⟨rfl, hA9⟩
                have HMS5 := Lib.hid (HMS4.out.step hA9)
                clear hA9 ht HMS4
                go_wp2_with fail
                go_ret3
                exact HMS5.out.no (by rw [HR.out]; exact items_bad HKO.out HVv.out HSH.out H44.out) _ _
theorem both (D : Nat) : ValC D ∧ ManyC D := by
  induction D with
  | zero =>
    have hv := value_at 0 (fun D' h => by omega)
    exact ⟨hv, many_at 0 hv⟩
  | succ D ih =>
    have hv := value_at (D + 1) (fun D' h => by cases h; exact ih.2)
    exact ⟨hv, many_at (D + 1) hv⟩
end Go.Proofs.YtdhdeaknflekpaaDoor
