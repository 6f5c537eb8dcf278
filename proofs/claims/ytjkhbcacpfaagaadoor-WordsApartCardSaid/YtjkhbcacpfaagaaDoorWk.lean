/- trellislaw8.WordsApart returns true. -/
import Derived.Test.YtjkhbcacpfaagaaDoorWi
import Derived.Test.YtjkhbcacpfaagaaDoorPf
import Derived.Test.YtjkhbcacpfaagaaDoorGc
set_option linter.unusedSimpArgs false
set_option linter.unusedVariables false
namespace Go.Proofs.YtjkhbcacpfaagaaDoor
open Go.RowKit

theorem line_str (a b : ByteArray) : bl (a ++ (⟨#[10]⟩ : ByteArray) ++ b) = bl a ++ 10 :: bl b := by
  simp [bl, ByteArray.data_append]
theorem wsnoc' {w : World} {b e n : Nat} {v : Value} {out : List TW.W} {x : TW.W} {cs : Array Value} (hx : cs.toList = wvals1 x)
    (h : w.ownsRow b e 4 v (n + 1) (wvals out ++ cs.toList)) : w.ownsRow b e 4 v (n + 1) (wvals (out ++ [x])) := by
  rw [hx] at h
  simpa [wvals] using h
set_option maxRecDepth 100000 in
set_option maxHeartbeats 2000000 in
theorem WordsApart_calls (s t : ByteArray) (w : World) (hs : s.size ≤ 140737488355328) (ht : t.size ≤ 140737488355328) (hT : Tab w) : Calls Tryd.prog 5 #[.string s, .string t] w fun e w' => e = .returned (.bool true) ∧ Below w.heap.size w w' := by
  have HT := Lib.hid hT
  clear hT
  by_cases hbig : 16384 ≤ s.size + t.size
  · have hbb : (16384 : Int) ≤ (s.size : Int) + (t.size : Int) := by omega
    clear hbig
    go_enter Tryd.func5, Tryd.ntmps5
    go_wp2_with (first | (go_at_call 7; refine (started_calls _ HT.out).mono ?_; rintro e w1 ⟨rfl, hb1⟩))
    go_ret
    exact ⟨rfl, hb1⟩
  have hbb : (s.size : Int) + (t.size : Int) < 16384 := by omega
  have hap := TW.apart (bl s) (bl t) (by rw [bl_length, bl_length]; omega)
  have hoka := TW.Cut_ok (bl s)
  have hokb := TW.Cut_ok (bl t)
  have hposb := TW.Cut_pos (bl t)
  have hca := fun w1 : World => Cut_calls s w1 hs
  have hcb := fun w1 : World => Cut_calls t w1 ht
  have hcc := fun w1 : World => Cut_calls (s ++ (⟨#[10]⟩ : ByteArray) ++ t) w1 (by rw [← bl_length, line_str, List.length_append, List.length_cons, bl_length, bl_length]; omega)
  rw [line_str] at hcc
  rw [bl_length] at hoka hokb hap hposb
  generalize TW.Cut (bl s) = ra at *
  generalize TW.Cut (bl t) = rb at *
  generalize TW.Cut (bl s ++ 10 :: bl t) = rc at *
  obtain ⟨la, ea, pa⟩ := ra
  obtain ⟨lb, eb, pb⟩ := rb
  obtain ⟨lc, ec, pc⟩ := rc
  simp only [Prod.mk.injEq] at hap hoka hokb
  have HCA := Lib.hid hca
  have HCB := Lib.hid hcb
  have HCC := Lib.hid hcc
  clear hca hcb hcc
  obtain ⟨hap1, hap2, hap3⟩ := hap
  have HA1 := Lib.hid hap1
  have HA2 := Lib.hid hap2
  have HA3 := Lib.hid hap3
  have HPB := Lib.hid hposb
  have HOA := Lib.hid hoka
  have HOB := Lib.hid hokb
  clear hposb hap1 hap2 hap3 hoka hokb hbig
  go_enter Tryd.func5, Tryd.ntmps5
  go_wp2_with fail
  refine (started_calls _ HT.out).mono ?_
  rintro e w1 ⟨rfl, hb1⟩
  go_wp2_with fail
  refine (HCA.out _).mono ?_
  rintro e w2 ⟨va, rfl, OA, hb2⟩
  have hB2 := below_then hb1 hb1.size hb2
  have RA := RW.own OA
  clear OA hb1
  go_wp2_with fail
  refine (HCB.out _).mono ?_
  rintro e w3 ⟨vb, rfl, OB, hb3⟩
  have hB3 := below_then hB2 hB2.size hb3
  have RB' := RW.own OB
  have RA3 := RA.below hb3
  clear OB RA hb2 hB2
  go_wp2_with fail
  refine (HCC.out _).mono ?_
  rintro e w4 ⟨vc, rfl, OC, hb4⟩
  have hB4 := below_then hB3 hB3.size hb4
  have RC := RW.own OC
  have RA4 := RA3.below hb4
  have RB4 := RB'.below hb4
  clear OC RA3 RB' hb3 hB3 hb4
  by_cases hea : ea = 0
  · subst hea
    by_cases heb : eb = 0
    · subst heb
      obtain ⟨rfl, rfl, rfl⟩ := HA3.out rfl rfl
      have hka : la.length ≤ 16384 := by
        rcases HOA.out with h | h
        · rw [h.2.1]; simp
        · have := h.2.2.2.2; omega
      have hkb : lb.length ≤ 16384 := by
        rcases HOB.out with h | h
        · rw [h.2.1]; simp
        · have := h.2.2.2.2; omega
      have hpz : t.size < 16384 := by omega
      obtain ⟨a1, c1, rfl, hc1, hx1⟩ := RA4.cells
      obtain ⟨a2, c2, rfl, hc2, hx2⟩ := RB4.cells
      clear RA4 RB4
      go_wp2_with fail
      go_loopw [14, 15] (fun v i wr => ∃ k : Nat, k ≤ la.length ∧ i = .int .i64 k ∧ wr.ownsRow w4.heap.size 28 4 v k (wvals (la.take k)) ∧ Below w4.heap.size w4 wr ∧ w4.heap.size ≤ wr.heap.size) (fun _ i _ => la.length - (intOf i).toNat)
      case atStart => exact ⟨0, Nat.zero_le _, rfl, World.ownsRow_nil _ _ _ _, Below.refl _ _, Nat.le_refl _⟩
      case round =>
        obtain ⟨k, hk, rfl, HO, HB, hsz⟩ := hrel
        by_cases hlt : k < la.length
        · have hlt' : (k : Int) < (la.length : Int) := by omega
          obtain ⟨b, o, rfl, hcx⟩ := hx1 (fun e => by rw [e] at hlt; simp at hlt)
          have mv : ∀ (q : Addr) (u : Value), w4.cell? q = some u → wr.cell? q = some u := fun q u h => (HB.cell (World.block_lt_of_cell? w4 _ h)).trans h
          obtain ⟨d0, d1, d2, d3⟩ := hcx k hlt
          have d0 := mv _ _ d0
          have d1 := mv _ _ d1
          have d2 := mv _ _ d2
          have d3 := mv _ _ d3
          clear hcx mv hx1 hx2
          go_wp2_with (at_builtin; go_must (refine append_one (w0 := w4) w4.heap.size rfl _ _ 22 28 (.agg #[.int .i64 0, .string ⟨#[]⟩, .int .i64 0, .int .i64 0]) 4 40 rfl Tryd.underlying22 info28 rfl (by decide) (by decide) u14 k (wvals (la.take k)) _ rfl rfl rfl wvals_one HO HB hsz (by omega) ?_); intro v1 w5 HO2 HB2 _ _)
          go_roundw
          case rel => exact ⟨k + 1, hlt, by go_num, by rw [List.take_succ_eq_append_getElem hlt]; exact wsnoc' rfl HO2, HB2, HB2.size⟩
          case measure => simp [intOf]; omega
        · have hlt' : ¬ (k : Int) < (la.length : Int) := by omega
          rw [List.take_of_length_le (by omega)] at HO
          obtain rfl : k = la.length := by omega
          clear hx1
          go_wp2_with fail
          go_loopw [14, 16] (fun v i wr => ∃ k : Nat, k ≤ lb.length ∧ i = .int .i64 k ∧ wr.ownsRow w4.heap.size 28 4 v (la.length + k) (wvals (la ++ (lb.take k).map (TW.moved ((s.size : Int) + 1)))) ∧ Below w4.heap.size w4 wr ∧ w4.heap.size ≤ wr.heap.size) (fun _ i _ => lb.length - (intOf i).toNat)
          case atStart => exact ⟨0, Nat.zero_le _, rfl, by simpa using HO, HB, hsz⟩
          case round =>
            clear HO HB hsz
            obtain ⟨k, hk2, rfl, HO2, HB2, hsz2⟩ := hrel
            by_cases hlt : k < lb.length
            · have hlt2 : (k : Int) < (lb.length : Int) := by omega
              obtain ⟨b, o, rfl, hcx⟩ := hx2 (fun e => by rw [e] at hlt; simp at hlt)
              have mv : ∀ (q : Addr) (u : Value), w4.cell? q = some u → wr.cell? q = some u := fun q u h => (HB2.cell (World.block_lt_of_cell? w4 _ h)).trans h
              obtain ⟨d0, d1, d2, d3⟩ := hcx k hlt
              have d0 := mv _ _ d0
              have d1 := mv _ _ d1
              have d2 := mv _ _ d2
              have d3 := mv _ _ d3
              have hps := HPB.out _ (List.getElem_mem hlt)
              obtain ⟨hps1, hps2⟩ := hps
              clear hcx mv hx2
              go_wp2_with (at_builtin; go_must (refine append_one_at (w0 := w4) (wr.heap.size + 1) w4.heap.size rfl _ _ 22 28 (.agg #[.int .i64 0, .string ⟨#[]⟩, .int .i64 0, .int .i64 0]) 4 40 rfl Tryd.underlying22 info28 rfl (by decide) (by decide) u14 (la.length + k) (wvals (la ++ (lb.take k).map (TW.moved ((s.size : Int) + 1)))) _ rfl rfl rfl wvals_one (by simp) (HO2.alloc _) (HB2.alloc hsz2 _) (by simp; omega) (by omega) ?_); intro v1 w5 HO3 HB3 _ _)
              go_roundw
              case rel => exact ⟨k + 1, hlt, by go_num, by rw [List.take_succ_eq_append_getElem hlt, List.map_append, ← List.append_assoc]; exact wsnoc' (by simp [wvals1, TW.moved, Int.add_assoc]) HO3, HB3, HB3.size⟩
              case measure => simp [intOf]; omega
            · have hlt2 : ¬ (k : Int) < (lb.length : Int) := by omega
              rw [List.take_of_length_le (by omega)] at HO2
              have RW' := RW.own HO2
              have RC' := RC.below HB2
              clear hx2 HO2
              go_wp2_with (go_at_call 11; refine (same_calls _ _ _ _ _ RC' RW' (by simp only [List.length_append, List.length_map]; omega) (by simp only [List.length_append, List.length_map]; omega)).mono ?_; rintro e w6 ⟨rfl, hb6⟩)
              go_ret
              exact ⟨ret_b (by simp), below_then (below_then hB4 hB4.size HB2) (Nat.le_trans hB4.size hsz2) hb6⟩
    · have heb' : (eb != 0) = true := by rw [bne_iff_ne]; exact heb
      obtain ⟨rfl, rfl, rfl⟩ := HA2.out rfl heb
      obtain ⟨ac, cc, rfl, -, -⟩ := RC.cells
      have hpb : 0 ≤ pb ∧ pb ≤ t.size := by
        rcases HOB.out with h | h
        · exact h.2.2
        · exact absurd h.2.1.2.1 heb
      clear RC RA4 RB4 heb
      obtain ⟨hp1, hp2⟩ := hpb
      have hadd : pb + ((s.size : Int) + 1) = pb + (s.size : Int) + 1 := by omega
      have hadb : (pb + ((s.size : Int) + 1) == pb + (s.size : Int) + 1) = true := by rw [hadd]; simp
      clear hadd
      go_wp2_with fail
      all_goals go_ret
      all_goals exact ⟨ret_b (by first | rfl | (simp; omega)), hB4⟩
  · have hea' : (ea != 0) = true := by rw [bne_iff_ne]; exact hea
    obtain ⟨rfl, rfl, rfl⟩ := HA1.out hea
    have hla : lc = [] := by
      rcases HOA.out with h | h
      · exact h.2.1
      · exact absurd h.2.1.2.1 hea
    subst hla
    obtain ⟨ac, cc, rfl, -, -⟩ := RC.cells
    clear RC RA4 RB4 hea
    go_wp2_with fail
    go_ret
    exact ⟨rfl, hB4⟩
end Go.Proofs.YtjkhbcacpfaagaaDoor
