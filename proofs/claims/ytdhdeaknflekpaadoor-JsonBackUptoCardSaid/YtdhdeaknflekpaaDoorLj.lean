/- json laws: Beyond, JsonBack. -/
import Derived.Test.YtdhdeaknflekpaaDoorLh
import Derived.Test.YtdhdeaknflekpaaDoorGd
set_option linter.unusedSimpArgs false
set_option linter.unusedVariables false
namespace Go.Proofs.YtdhdeaknflekpaaDoor
open Go.RowKit Go.Maps

theorem info3 : (Tryd.prog.info? 3).map (fun i => (i.zero, i.size, i.bytes)) = some (some (.int .i64 0), 1, 8) := by kernel_rfl
def ivals (l : List Int) : List Value := l.map (Value.int .i64)
theorem ivals_len (l : List Int) : (ivals l).length = l.length := by simp [ivals]
theorem ints_one (x : Int) (u : Value) (h : u ∈ (#[.int .i64 x] : Array Value).toList) : u.oneCell' = true := by
  simp at h; subst h; rfl
theorem row_drop {w : World} {base g n cap : Nat} {xs : List Value} {x : Value} (h : w.ownsRow base 3 1 (.slice (some ⟨g, 0, none⟩) (n + 1) cap) (n + 1) (xs ++ [x])) : w.ownsRow base 3 1 (.slice (some ⟨g, 0, none⟩) n cap) n xs := by
  obtain ⟨h1, h2⟩ := h
  simp only [List.length_append, List.length_cons, List.length_nil] at h1
  rcases h2 with ⟨h2, -⟩ | ⟨g', cap', cur, hv, hg, hh, r1, r2, r3, r4⟩
  · cases h2
  · simp only [Value.slice.injEq, Option.some.injEq, Addr.mk.injEq, and_true, true_and] at hv
    obtain ⟨rfl, rfl⟩ := hv
    refine ⟨by omega, .inr ⟨g, cap, cur, rfl, hg, hh, by omega, r2, r3, ?_⟩⟩
    have : (cur.toList.take ((n + 1) * 1)).take n = (xs ++ [x]).take n := by rw [r4]
    rw [List.take_take, show min n ((n + 1) * 1) = n by omega, List.take_left' (by omega)] at this
    simpa using this
theorem row_last {w : World} {base g n cap : Nat} {xs : List Value} {x : Value} (h : w.ownsRow base 3 1 (.slice (some ⟨g, 0, none⟩) (n + 1) cap) (n + 1) (xs ++ [x])) : w.cell? ⟨g, n, none⟩ = some x := by
  have h1 := h.1
  simp only [List.length_append, List.length_cons, List.length_nil] at h1
  rw [h.cellAt n (by omega), List.getElem?_append_right (by omega)]
  simp [show n - xs.length = 0 by omega]
theorem row_shape {w : World} {base : Nat} {e : TypeId} {size n : Nat} {v : Value} {xs : List Value} (h : w.ownsRow base e size v n xs) : ∃ a cap, v = .slice a n cap := by
  rcases h.2 with ⟨rfl, rfl⟩ | ⟨g, cap, cur, rfl, -⟩
  · exact ⟨_, _, rfl⟩
  · exact ⟨_, _, rfl⟩
theorem row_pack {w : World} {base : Nat} {e : TypeId} {size n : Nat} {v : Value} {xs : List Value} (h : w.ownsRow base e size v n xs) : ∃ a m cap, v = .slice a m cap ∧ Hid (m = n) ∧ Hid (w.ownsRow base e size (.slice a m cap) m xs) := by
  obtain ⟨a, cap, rfl⟩ := row_shape h
  exact ⟨a, n, cap, rfl, rfl, h⟩
theorem one_pack {w : World} {base n1 n : Nat} {a : Option Addr} {cap : Nat} {L : List Int} {k : Int} (h : Hid (n1 = n + 1)) (h2 : Hid (w.ownsRow base 3 1 (.slice a n1 cap) n1 (ivals L ++ #[Value.int .i64 k].toList))) (hl : L.length = n := by rfl) : w.ownsRow base 3 1 (.slice a n1 cap) (L ++ [k]).length (ivals (L ++ [k])) := by
  have h1 := h.out
  have e1 : (L ++ [k]).length = n1 := by simp; omega
  have e2 : ivals (L ++ [k]) = ivals L ++ #[Value.int .i64 k].toList := by simp [ivals]
  rw [e1, e2]
  exact h2.out
theorem last_ok {L : List Int} {z k : Int} (h : Hid (∀ q ∈ L ++ [z], -9223372036854775808 ≤ q ∧ q ≤ 9223372036854775807)) (hz : 0 < z) (hk : -9223372036854775808 ≤ k ∧ k ≤ 9223372036854775807) : ∀ q ∈ L ++ [z - 1] ++ [k], -9223372036854775808 ≤ q ∧ q ≤ 9223372036854775807 := by
  intro q hq
  have h1 := h.out z (by simp)
  simp only [List.append_assoc, List.mem_append, List.mem_cons, List.not_mem_nil, or_false] at hq
  rcases hq with hq | rfl | rfl
  · exact h.out q (by simp [hq])
  · omega
  · exact hk
/-- some answer -/
def Says2 (e : Ending) : Prop := e = .returned (.bool false) ∨ e = .returned (.bool true)
set_option maxRecDepth 100000 in
set_option maxHeartbeats 2000000 in
theorem Beyond_calls (x : List TJ.N) (v : Value) (w : World) (hv : RN w v x) (hok : ∀ n ∈ x, NOk n) (hx : x.length ≤ 2000000000) :
    Calls Tryd.prog 9 #[v] w fun e w' => Says2 e ∧ Below w.heap.size w w' := by
  obtain ⟨a, c, rfl, hc, hcl⟩ := hv
  have HOK := Lib.hid hok
  clear hok
  go_enter Tryd.func9, Tryd.ntmps9
  go_wp2_with fail
  go_loopw [3, 4] (fun o i wr => ∃ (k : Nat) (L : List Int), k ≤ x.length ∧ i = .int .i64 k ∧ wr.ownsRow w.heap.size 3 1 o L.length (ivals L) ∧ L.length ≤ 65536 ∧ (∀ z ∈ L, -9223372036854775808 ≤ z ∧ z ≤ 9223372036854775807) ∧ Below w.heap.size w wr ∧ w.heap.size ≤ wr.heap.size) (fun _ i _ => x.length - (intOf i).toNat)
  case atStart => exact ⟨0, [], Nat.zero_le _, rfl, World.ownsRow_nil _ _ _ _, by simp, by simp, Below.refl _ _, Nat.le_refl _⟩
  case round =>
    obtain ⟨k, L, hk, rfl, HO, hL, hLr, HB, hsz⟩ := hrel
    have HLr := Lib.hid hLr
    clear hLr
    by_cases hlt : k < x.length
    · have hlt' : (k : Int) < (x.length : Int) := by omega
      go_wp2_with fail
      obtain ⟨wo, rfl⟩ : ∃ wo : World, wo = wr := ⟨_, rfl⟩
      have HO0 := Lib.hid HO
      have HB0 := Lib.hid HB
      clear HO HB
      go_loopw [3] (fun o wr => ∃ L : List Int, wr.ownsRow w.heap.size 3 1 o L.length (ivals L) ∧ L.length ≤ 65536 ∧ (∀ z ∈ L, -9223372036854775808 ≤ z ∧ z ≤ 9223372036854775807) ∧ Below w.heap.size w wr ∧ w.heap.size ≤ wr.heap.size) (fun o _ => match o with | .slice _ n _ => n | _ => 0)
      case atStart => exact ⟨L, HO0.out, hL, HLr.out, HB0.out, hsz⟩
      case round =>
        obtain ⟨L2, HO, hL2, hLr2, HB, hsz2⟩ := hrel
        have HLr2 := Lib.hid hLr2
        clear hLr2
        rcases List.eq_nil_or_concat L2 with rfl | ⟨L3, z, rfl⟩
        · obtain ⟨a0, cp0, hu⟩ := row_shape HO
          subst hu
          have HO : wr.ownsRow w.heap.size 3 1 (.slice a0 0 cp0) 0 [] := HO
          obtain ⟨b, off, rfl, hcx⟩ := hcl (by rintro rfl; simp at hlt)
          obtain ⟨-, -, -, d3⟩ := hcx k hlt
          have d3 : wr.cell? ⟨b, off + k * 4 + 3, none⟩ = some (.int .i64 (x[k]'hlt).kids) := (HB.cell (World.block_lt_of_cell? w _ d3)).trans d3
          have hko := HOK.out _ (List.getElem_mem hlt)
          have hk1 := hko.lo
          have hk2 := hko.hi
          obtain ⟨kk, hkk⟩ : ∃ kk : Int, kk = (x[k]'hlt).kids := ⟨_, rfl⟩
          rw [← hkk] at d3 hk1 hk2
          clear hcl hcx hko hkk
          go_wp2_with (first | (at_builtin; go_must (refine append_one (w0 := w) w.heap.size rfl _ _ 44 3 (.int .i64 0) 1 8 rfl Tryd.underlying44 info3 rfl (by decide) (by decide) (.slice a0 0 cp0) 0 [] _ rfl rfl rfl (ints_one _) HO HB hsz2 (by omega) ?_); intro v1 w2 HO2 HB2 _ _; obtain ⟨a1, n1, cp1, hu, hn1, HO3⟩ := row_pack HO2; have hn2 : n1 ≤ 65536 := (by have := hn1.out; omega); subst hu; clear HO2))
          have hsz3 := HB2.size
          go_roundw
          case rel => exact ⟨k + 1, [kk], hlt, by go_num, one_pack (L := []) hn1 HO3, by simp, by simp; omega, HB2, by omega⟩
          case measure => simp [intOf]; omega
        · obtain ⟨g, cap, cur, hv, hg, hh, -, hn1, hn2, -⟩ := row_form HO (by simp)
          subst hv
          obtain ⟨m, hm⟩ : ∃ m, m = L3.length := ⟨_, rfl⟩
          rw [List.concat_eq_append] at HO hL2 hn1 HLr2 ⊢
          have hlen : (L3 ++ [z]).length = m + 1 := by simp [hm]
          rw [hlen] at HO hL2 hn1 ⊢
          have hiv : ivals (L3 ++ [z]) = ivals L3 ++ [.int .i64 z] := by simp [ivals]
          rw [hiv] at HO
          have hm64 : ((m : Int) + 1 - 1) = (m : Int) := by omega
          have hcell := row_last HO
          have hfz := HO.frozenAt m
          have HO1 := Lib.hid HO
          have hzr := HLr2.out z (by simp)
          have HM := Lib.hid hm
          clear HO hh hn2 hiv hlen hm
          by_cases hz : z ≤ 0
          · go_wp2_with fail
            go_roundw
            case rel => exact ⟨L3, by rw [← HM.out]; exact row_drop HO1.out, by have := HM.out; omega, fun q hq => HLr2.out q (by simp [hq]), HB, hsz2⟩
            case measure => simp
          · obtain ⟨b, off, rfl, hcx⟩ := hcl (by rintro rfl; simp at hlt)
            obtain ⟨-, -, -, d3⟩ := hcx k hlt
            have hB2 := HB.setCell (p := ⟨g, m, none⟩) hg (.int .i64 (z - 1))
            have HB2 := Lib.hid hB2
            have HO2 := Lib.hid (HO1.out.stored m (.int .i64 (z - 1))).1
            have hset : (ivals L3 ++ [Value.int .i64 z]).set m (.int .i64 (z - 1)) = ivals (L3 ++ [z - 1]) := by
              have hl : (ivals L3).length = m := by rw [ivals_len]; exact HM.out.symm
              rw [List.set_append_right _ _ (by omega), hl, Nat.sub_self]
              simp [ivals]
            rw [hset] at HO2
            have d3 : (wr.setCell ⟨g, m, none⟩ (.int .i64 (z - 1))).cell? ⟨b, off + k * 4 + 3, none⟩ = some (.int .i64 (x[k]'hlt).kids) := (hB2.cell (World.block_lt_of_cell? w _ d3)).trans d3
            have hko := HOK.out _ (List.getElem_mem hlt)
            have hk1 := hko.lo
            have hk2 := hko.hi
            obtain ⟨kk, hkk⟩ : ∃ kk : Int, kk = (x[k]'hlt).kids := ⟨_, rfl⟩
            rw [← hkk] at d3 hk1 hk2
            have hm65 : m ≤ 65535 := by omega
            have hz1 : ¬ z ≤ 0 := hz
            clear hcl hcx hko hkk hset hB2 HO1 hz
            have hszS : w.heap.size ≤ (wr.setCell ⟨g, m, none⟩ (.int .i64 (z - 1))).heap.size := HB2.out.size
            have HLZ := Lib.hid (show (L3 ++ [z - 1]).length = m + 1 by simp; exact HM.out.symm)
            go_wp2_with (first | (at_builtin; go_must (refine append_one_at (w0 := w) wr.heap.size w.heap.size rfl _ _ 44 3 (.int .i64 0) 1 8 rfl Tryd.underlying44 info3 rfl (by decide) (by decide) (.slice (some ⟨g, 0, none⟩) (m + 1) cap) (m + 1) (ivals (L3 ++ [z - 1])) _ rfl rfl rfl (ints_one _) (by simp) HO2.out HB2.out hszS (by omega) ?_); intro v1 w2 HO3 HB3 _ _; obtain ⟨a1, n1, cp1, hu, hn1, HO4⟩ := row_pack HO3; have hn2 : n1 ≤ 65537 := (by have := hn1.out; omega); subst hu; clear HO3))
            · go_ret
              exact ⟨.inr rfl, HB3⟩
            · have hle : n1 ≤ 65536 := by omega
              have hsz3 := HB3.size
              go_roundw
              case rel => exact ⟨k + 1, L3 ++ [z - 1] ++ [kk], hlt, by go_num, one_pack hn1 HO4 HLZ.out, by have := hn1.out; have := HLZ.out; simp at this ⊢; omega, last_ok HLr2 (by omega) (by omega), HB3, by omega⟩
              case measure => simp [intOf]; omega
    · have hlt' : ¬ (k : Int) < (x.length : Int) := by omega
      go_wp2_with fail
      go_ret
      exact ⟨.inl rfl, HB⟩
set_option maxRecDepth 100000 in
set_option maxHeartbeats 4000000 in
theorem JsonBack_calls (l : List TJ.N) (v : Value) (w : World) (hRN : RN w v l) (hok : ∀ x ∈ l, NOk x) (hlen : l.length ≤ 4194304) (hhi : TJ.hi l ≤ 33554432) (hT : Tabs w) :
    Calls Tryd.prog 3 #[v] w fun e w' => e = .returned (.bool true) ∧ Below w.heap.size w w' := by
  have HT := Lib.hid hT
  have HOK := Lib.hid hok
  have HRN := Lib.hid hRN
  obtain ⟨vb, hvb⟩ : ∃ vb, vb = v := ⟨_, rfl⟩
  rw [← hvb] at HRN ⊢
  clear hT hok hRN hvb
  have hbe := Lib.hid (Beyond_calls l vb w HRN.out HOK.out (by omega))
  go_enter Tryd.func3, Tryd.ntmps3
  go_wp2_with fail
  refine hbe.out.mono ?_
  rintro e w1 ⟨hsay, hb1⟩
  have HB1 := Lib.hid hb1
  have HT1 := Lib.hid (HT.out.below hb1 HT.out.lt)
  have HRN1 := Lib.hid (HRN.out.below hb1)
  clear hb1 HT HRN hbe
  rcases hsay with rfl | rfl
  · go_wp2_with fail
    refine (started_calls w1 HT1.out).mono ?_
    rintro e w2 ⟨rfl, hb2⟩
    have HB2 := Lib.hid (below_then HB1.out HB1.out.size hb2)
    have HT2 := Lib.hid (HT1.out.below hb2 HT1.out.lt)
    have HRN2 := Lib.hid (HRN1.out.below hb2)
    clear hb2 HT1 HRN1 HB1
    have hpb : TJ.shaped l = true → (TJ.print l).length ≤ 33554432 := fun h => by have := (TJ.shaped_long h).1; omega
    have HPB := Lib.hid hpb
    have hpr := Lib.hid (Print_calls l vb w2 HRN2.out HOK.out hlen HT2.out (fun h => by have := hpb h; omega))
    clear hpb
    unfold printV at hpr
    cases hsh : TJ.shaped l with
    | false =>
      rw [hsh] at hpr
      rw [if_neg (by simp)] at hpr
      have HSH := Lib.hid hsh
      clear hsh
      go_wp2_with fail
      refine hpr.out.mono ?_
      rintro e w3 ⟨rfl, hb3⟩
      have HB3 := Lib.hid (below_then HB2.out HB2.out.size hb3)
      have HT3 := Lib.hid (HT2.out.below hb3 HT2.out.lt)
      have HRN3 := Lib.hid (HRN2.out.below hb3)
      have hs := Lib.hid (Shaped_calls l vb w3 HRN3.out HOK.out hlen HT3.out)
      rw [HSH.out] at hs
      clear hb3 hpr HT2 HRN2 HB2
      go_wp2_with fail
      refine hs.out.mono ?_
      rintro e w4 ⟨rfl, hb4⟩
      have hb5 := below_then HB3.out HB3.out.size hb4
      go_wp2_with fail
      go_ret
      exact ⟨by simp, hb5⟩
    | true =>
      rw [hsh] at hpr
      rw [if_pos rfl] at hpr
      obtain ⟨S, hS⟩ : ∃ S : ByteArray, S = ⟨(TJ.print l).toArray⟩ := ⟨_, rfl⟩
      have hSb : bl S = TJ.print l := by rw [hS, bl_mk]
      have hSs : S.size = (TJ.print l).length := by rw [hS]; exact size_mk _
      have hSz : S.size ≤ 33554432 := by rw [hSs]; exact HPB.out hsh
      have hpa := TJ.parse_print hsh
      rw [← hSb] at hpa
      rw [← hS] at hpr
      have HSH := Lib.hid hsh
      have HPA := Lib.hid hpa
      clear hsh hS hSb hSs hpa
      go_wp2_with fail
      refine hpr.out.mono ?_
      rintro e w3 ⟨rfl, hb3⟩
      have HB3 := Lib.hid (below_then HB2.out HB2.out.size hb3)
      have HT3 := Lib.hid (HT2.out.below hb3 HT2.out.lt)
      have HRN3 := Lib.hid (HRN2.out.below hb3)
      have hs := Lib.hid (Shaped_calls l vb w3 HRN3.out HOK.out hlen HT3.out)
      rw [HSH.out] at hs
      clear hb3 hpr HT2 HRN2 HB2
      go_wp2_with fail
      refine hs.out.mono ?_
      rintro e w4 ⟨rfl, hb4⟩
      have HB4 := Lib.hid (below_then HB3.out HB3.out.size hb4)
      have HT4 := Lib.hid (HT3.out.below hb4 HT3.out.lt)
      have HRN4 := Lib.hid (HRN3.out.below hb4)
      have hp2 := Lib.hid (Parse_calls S w4 hSz HT4.out.says)
      rw [HPA.out] at hp2
      clear hb4 hs HT3 HRN3 HB3
      go_wp2_with fail
      refine hp2.out.mono ?_
      rintro e w5 ⟨hb5, out2, rfl, hown2, -⟩
      have HB5 := Lib.hid (below_then HB4.out HB4.out.size hb5)
      have hsame := Lib.hid (same_calls l l vb out2 w5 (HRN4.out.below hb5) (RN.own hown2) (by omega) (by omega))
      rw [decide_eq_true rfl] at hsame
      clear hb5 hown2 hp2 HB4 HRN4
      go_wp2_with fail
      refine hsame.out.mono ?_
      rintro e w6 ⟨rfl, hb6⟩
      have hb7 := below_then HB5.out HB5.out.size hb6
      go_wp2_with fail
      go_ret
      exact ⟨rfl, hb7⟩
  · go_wp2_with fail
    go_ret
    exact ⟨rfl, HB1.out⟩
end Go.Proofs.YtdhdeaknflekpaaDoor
