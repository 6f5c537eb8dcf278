/- trellislaw8.WordsBack returns true. -/
import Derived.Test.YtjkhbcacpfaagaaDoorWi
import Derived.Test.YtjkhbcacpfaagaaDoorPi
import Derived.Test.YtjkhbcacpfaagaaDoorGc
set_option linter.unusedSimpArgs false
set_option linter.unusedVariables false
namespace Go.Proofs.YtjkhbcacpfaagaaDoor
open Go.RowKit

theorem TW.place_len : ∀ (l : List TW.W) (p : Int), (TW.place l p).length = l.length
  | [], _ => rfl
  | x :: l, p => by rw [TW.place, List.length_cons, TW.place_len l, List.length_cons]
theorem wsnoc'' {w : World} {b e n : Nat} {v : Value} {out : List TW.W} {x : TW.W} {cs : Array Value} (hx : cs.toList = wvals1 x)
    (h : w.ownsRow b e 4 v (n + 1) (wvals out ++ cs.toList)) : w.ownsRow b e 4 v (n + 1) (wvals (out ++ [x])) := by
  rw [hx] at h
  simpa [wvals] using h
set_option maxRecDepth 100000 in
set_option maxHeartbeats 2000000 in
theorem WordsBack_calls (l : List TW.W) (v : Value) (w : World) (hv : RW w v l) (hn : l.length ≤ 1073741824) (hok : ∀ x ∈ l, WOk x) (hadv : TW.adv l ≤ 137438953472) (hT : Tab w) :
    Calls Tryd.prog 3 #[v] w fun e w' => e = .returned (.bool true) ∧ Below w.heap.size w w' := by
  have HT := Lib.hid hT
  have hjl : (Lib.join (l.map spellW) [32]).length ≤ 137438953472 := by
    by_cases h : l = []
    · subst h; simp [Lib.join_nil]
    · have := TW.join_adv l h; omega
  have hjw : (joinW l).length ≤ 137438953472 := by
    rw [joinW]; split
    · exact hjl
    · simp
  have HOK := Lib.hid hok
  have HJL := Lib.hid hjl
  have HJW := Lib.hid hjw
  have HADV := Lib.hid hadv
  have HRW := Lib.hid hv
  have hcut := fun w1 : World => Cut_calls ⟨(joinW l).toArray⟩ w1 (by show (joinW l).toArray.size ≤ _; simp; omega)
  have ebl : bl ⟨(joinW l).toArray⟩ = joinW l := rfl
  rw [ebl] at hcut
  have HC := Lib.hid hcut
  clear hcut ebl hok hjl hjw hadv hT
  obtain ⟨a, c, rfl, hc, hcl⟩ := hv.cells
  have HCL := Lib.hid hcl
  clear hv hcl
  go_enter Tryd.func3, Tryd.ntmps3
  go_wp2_with fail
  refine (started_calls _ HT.out).mono ?_
  rintro e w1 ⟨rfl, hb1⟩
  have HR1 := HRW.out.below hb1
  have HJ := Lib.hid (Join_calls l _ w1 HR1 (by omega) HOK.out (by have := HJL.out; omega) (HT.out.below hb1))
  go_wp2_with fail
  refine HJ.out.mono ?_
  rintro e w2 ⟨rfl, hb2⟩
  have hB2 := below_then hb1 hb1.size hb2
  have HR2 := HR1.below hb2
  clear HJ
  go_wp2_with fail
  go_loopw [4, 5, 6] (fun pa vw i wr => ∃ k : Nat, k ≤ l.length ∧ i = .int .i64 k ∧ pa = .int .i64 (TW.adv (l.take k) : Int) ∧ (∀ j (hj : j < l.length), j < k → soundW (l[j]'hj) = true)
      ∧ wr.ownsRow w2.heap.size 28 4 vw k (wvals (TW.place (l.take k) 0)) ∧ Below w2.heap.size w2 wr ∧ w2.heap.size ≤ wr.heap.size) (fun _ _ i _ => l.length - (intOf i).toNat)
  case atStart => exact ⟨0, Nat.zero_le _, rfl, rfl, fun j hj h => by omega, World.ownsRow_nil _ _ _ _, Below.refl _ _, Nat.le_refl _⟩
  case round =>
    obtain ⟨k, hk, rfl, rfl, hsnd, HO, HB, hsz⟩ := hrel
    have HSN := Lib.hid hsnd
    clear hsnd
    by_cases hlt : k < l.length
    · have hlt' : (k : Int) < (l.length : Int) := by omega
      obtain ⟨b, o, rfl, hcx⟩ := HCL.out (fun e => by rw [e] at hlt; simp at hlt)
      have mv : ∀ (q : Addr) (u : Value), w.cell? q = some u → wr.cell? q = some u := fun q u h => (HB.cell (Nat.lt_of_lt_of_le (World.block_lt_of_cell? w _ h) hB2.size)).trans ((hB2.cell (World.block_lt_of_cell? w _ h)).trans h)
      obtain ⟨d0, d1, d2, d3⟩ := hcx k hlt
      have d0 := mv _ _ d0
      have d1 := mv _ _ d1
      have d2 := mv _ _ d2
      have d3 := mv _ _ d3
      clear hcx mv
      have hwok := HOK.out _ (List.getElem_mem hlt)
      have HSP := Lib.hid (Spell_word (l[k]'hlt) wr hwok ((HT.out.below hB2).below HB))
      clear hwok
      have hxok := HOK.out _ (List.getElem_mem hlt)
      have hsnoc : Hid (∀ x : TW.W, l[k]'hlt = x → l.take (k + 1) = l.take k ++ [x]) := fun x hx => by rw [List.take_succ_eq_append_getElem hlt, hx]
      have hmem : Hid (∀ x : TW.W, l[k]'hlt = x → x ∈ l) := fun x hx => by rw [← hx]; exact List.getElem_mem hlt
      have hnow : Hid (∀ x : TW.W, l[k]'hlt = x → soundW x = true → ∀ j (hj : j < l.length), j < k + 1 → soundW (l[j]'hj) = true) := fun x hx hs j hj hjk => by
        by_cases e : j = k
        · subst e; rw [hx]; exact hs
        · exact HSN.out j hj (by omega)
      generalize hxe : l[k]'hlt = x at *
      have HXE := Lib.hid hxe
      clear hxe
      by_cases hsk : soundW x = true
      · have hne := TW.spell_some hsk
        have hap : TW.adv (l.take (k + 1)) = TW.adv (l.take k) + (spellW x).length + 1 := by rw [hsnoc.out x rfl, TW.adv_snoc]
        have hpl : TW.place (l.take (k + 1)) 0 = TW.place (l.take k) 0 ++ [TW.back x (TW.adv (l.take k) : Int)] := by rw [hsnoc.out x rfl, TW.place_snoc, Int.zero_add]
        have hal := Nat.le_trans (TW.adv_take_le l (k + 1)) HADV.out
        rw [hap] at hal
        have HAP := Lib.hid hap
        have HPL := Lib.hid hpl
        have HNW := Lib.hid (hnow.out x rfl hsk)
        generalize TW.adv (l.take k) = A at *
        generalize hsp : spellW x = sp at *
        have hts : (⟨sp.toArray⟩ : ByteArray).size = sp.length := by show sp.toArray.size = _; simp
        have htn : (⟨sp.toArray⟩ : ByteArray).toList.isEmpty = false := by
          rw [Lib.toList_data]
          show sp.isEmpty = false
          cases sp with
          | nil => exact absurd rfl hne
          | cons a b => rfl
        generalize (⟨sp.toArray⟩ : ByteArray) = t at *
        obtain ⟨xk, xt, xn, xp⟩ := x
        simp only at d0 d1 d2 d3
        have HSK := Lib.hid hsk
        clear hsk hap hpl hnow hsnoc hmem hxok hne hsp
        go_wp2_with fail
        refine HSP.out.mono ?_
        rintro e w3 ⟨rfl, hb3⟩
        have HB3 := below_then HB hsz hb3
        have hsz3 : w2.heap.size ≤ w3.heap.size := HB3.size
        have HO3 := own_below HO hb3
        have mv : ∀ (q : Addr) (u : Value), wr.cell? q = some u → w3.cell? q = some u := fun q u h => (hb3.cell (World.block_lt_of_cell? wr _ h)).trans h
        have d0 := mv _ _ d0
        have d1 := mv _ _ d1
        have d2 := mv _ _ d2
        have av : ∀ (q : Addr) (u : Value), w3.cell? q = some u → ∀ Z : Obj, (w3.alloc Z).cell? q = some u := fun q u h Z => (((Below.refl w3.heap.size w3).alloc (Nat.le_refl _) Z).cell (World.block_lt_of_cell? w3 _ h)).trans h
        have a0 := av _ _ d0
        have a1 := av _ _ d1
        have a2 := av _ _ d2
        clear mv HO HSP av
        by_cases hk4 : xk = 4
        · subst hk4
          go_wp2_with fail
          go_region
          go_wp2_with (at_builtin; go_must (refine append_one_at (w0 := w2) (W := (w3.alloc (.cells #[.int .i64 4, .string ⟨#[]⟩, .int .i64 xn, .int .i64 (A : Int)] 28)).drew) (w3.heap.size + 1) w2.heap.size rfl _ _ 22 28 (.agg #[.int .i64 0, .string ⟨#[]⟩, .int .i64 0, .int .i64 0]) 4 40 rfl Tryd.underlying22 info28 rfl (by decide) (by decide) _ k (wvals (TW.place (l.take k) 0)) #[.int .i64 4, .string ⟨#[]⟩, .int .i64 xn, .int .i64 (A : Int)] rfl rfl rfl wvals_one (by show _ = (w3.alloc _).heap.size; simp) (own_below HO3 (below_one w3 _).drew) (HB3.alloc hsz3 _).drew (by show _ ≤ (w3.alloc _).heap.size; simp; omega) (by omega) ?_); intro v1 w5 HO5 HB5 _ _)
          go_roundw
          case rel => exact ⟨k + 1, hlt, by go_num, by rw [HAP.out]; go_num, HNW.out, by rw [HPL.out]; exact wsnoc'' rfl HO5, HB5, HB5.size⟩
          case measure => simp [intOf]; omega
        · have hk4b : (xk == 4) = false := by rw [beq_eq_false_iff_ne]; exact hk4
          have hbk : TW.back ⟨xk, xt, xn, xp⟩ (A : Int) = ⟨xk, xt, 0, A⟩ := by simp [TW.back, hk4]
          rw [hbk] at HPL
          clear hbk
          go_wp2_with fail
          go_region
          go_wp2_with (at_builtin; go_must (refine append_one_at (w0 := w2) (W := (w3.alloc (.cells #[.int .i64 xk, .string ⟨xt.toArray⟩, .int .i64 0, .int .i64 (A : Int)] 28)).drew) (w3.heap.size + 1) w2.heap.size rfl _ _ 22 28 (.agg #[.int .i64 0, .string ⟨#[]⟩, .int .i64 0, .int .i64 0]) 4 40 rfl Tryd.underlying22 info28 rfl (by decide) (by decide) _ k (wvals (TW.place (l.take k) 0)) #[.int .i64 xk, .string ⟨xt.toArray⟩, .int .i64 0, .int .i64 (A : Int)] rfl rfl rfl wvals_one (by show _ = (w3.alloc _).heap.size; simp) (own_below HO3 (below_one w3 _).drew) (HB3.alloc hsz3 _).drew (by show _ ≤ (w3.alloc _).heap.size; simp; omega) (by omega) ?_); intro v1 w5 HO5 HB5 _ _)
          go_roundw
          case rel => exact ⟨k + 1, hlt, by go_num, by rw [HAP.out]; go_num, HNW.out, by rw [HPL.out]; exact wsnoc'' rfl HO5, HB5, HB5.size⟩
          case measure => simp [intOf]; omega
      · have hsf : soundW x = false := by simpa using hsk
        have hj0 : joinW l = [] := by
          rw [joinW, if_neg]
          intro ha
          rw [List.all_eq_true] at ha
          exact hsk (ha x (hmem.out x rfl))
        have hsp : spellW x = [] := TW.spell_none hsf
        rw [hsp] at HSP
        rw [hj0]
        obtain ⟨xk, xt, xn, xp⟩ := x
        simp only at d0 d1 d2 d3
        clear hsk hsf hj0 hsp hnow hsnoc hmem hxok
        go_wp2_with fail
        refine HSP.out.mono ?_
        rintro e w3 ⟨rfl, hb3⟩
        go_wp2_with fail
        go_ret
        exact ⟨rfl, below_then (below_then hB2 hB2.size HB) (by have := hB2.size; omega) hb3⟩
    · have hlt' : ¬ (k : Int) < (l.length : Int) := by omega
      obtain rfl : k = l.length := by omega
      have hall : l.all soundW = true := by
        rw [List.all_eq_true]
        intro x hx
        obtain ⟨j, hj, rfl⟩ := List.getElem_of_mem hx
        exact HSN.out j hj hj
      have hje : joinW l = Lib.join (l.map spellW) [32] := by rw [joinW, if_pos hall]
      have hcj : TW.cut (joinW l) 0 0 = (TW.place l 0, 0, 0) := by rw [hje]; exact TW.cut_join l 0 hall
      have hadj : l ≠ [] → TW.adv l = (joinW l).length + 1 := fun h => by rw [hje]; exact (TW.join_adv l h).symm
      have hpll : (TW.place l 0).length = l.length := TW.place_len l 0
      rw [List.take_length] at HO ⊢
      have hjb := HJW.out
      generalize joinW l = J at *
      have HCJ := Lib.hid hcj
      have HPLL := Lib.hid hpll
      clear hcj hpll hall hje HCL HR1 HR2 HRW
      by_cases hpos : 0 < l.length
      · have hp1 : (0 : Int) < (l.length : Int) := by omega
        have had := hadj (fun e => by rw [e] at hpos; simp at hpos)
        rw [had]
        clear hadj had
        go_wp2_with fail
        by_cases hbig : 16384 < J.length
        · have hbi : (16384 : Int) < (J.length : Int) := by omega
          rw [TW.Cut, if_pos hbig] at HC
          refine (HC.out _).mono ?_
          rintro e w3 ⟨v3, rfl, O3, hb3⟩
          obtain ⟨a3, c3, rfl, -, -⟩ := (RW.own O3).cells
          clear O3 hbig
          go_wp2_with fail
          go_ret
          exact ⟨rfl, below_then (below_then hB2 hB2.size HB) (by have := hB2.size; omega) hb3⟩
        · have hbi : ¬ (16384 : Int) < (J.length : Int) := by omega
          rw [TW.Cut, if_neg hbig, HCJ.out] at HC
          refine (HC.out _).mono ?_
          rintro e w3 ⟨v3, rfl, O3, hb3⟩
          have R3 := RW.own O3
          have RO := (RW.own HO).below hb3
          clear O3 hbig HO
          have hpll : (TW.place l 0).length ≤ 140737488355328 := by have := HPLL.out; omega
          have hsame := same_calls (TW.place l 0) (TW.place l 0) _ _ w3 R3 RO hpll hpll
          rw [show decide (TW.place l 0 = TW.place l 0) = true from decide_eq_true rfl] at hsame
          have HS := Lib.hid hsame
          clear hsame R3 RO hpll
          go_wp2_with fail
          refine HS.out.mono ?_
          rintro e w4 ⟨rfl, hb4⟩
          go_wp2_with fail
          go_ret
          exact ⟨rfl, below_then (below_then (below_then hB2 hB2.size HB) (by have := hB2.size; omega) hb3) (by have := hB2.size; have := hb3.size; omega) hb4⟩
      · have hp1 : ¬ (0 : Int) < (l.length : Int) := by omega
        clear hadj
        go_wp2_with fail
        by_cases hbig : 16384 < J.length
        · have hbi : (16384 : Int) < (J.length : Int) := by omega
          rw [TW.Cut, if_pos hbig] at HC
          refine (HC.out _).mono ?_
          rintro e w3 ⟨v3, rfl, O3, hb3⟩
          obtain ⟨a3, c3, rfl, -, -⟩ := (RW.own O3).cells
          clear O3 hbig
          go_wp2_with fail
          go_ret
          exact ⟨rfl, below_then (below_then hB2 hB2.size HB) (by have := hB2.size; omega) hb3⟩
        · have hbi : ¬ (16384 : Int) < (J.length : Int) := by omega
          rw [TW.Cut, if_neg hbig, HCJ.out] at HC
          refine (HC.out _).mono ?_
          rintro e w3 ⟨v3, rfl, O3, hb3⟩
          have R3 := RW.own O3
          have RO := (RW.own HO).below hb3
          clear O3 hbig HO
          have hpll : (TW.place l 0).length ≤ 140737488355328 := by have := HPLL.out; omega
          have hsame := same_calls (TW.place l 0) (TW.place l 0) _ _ w3 R3 RO hpll hpll
          rw [show decide (TW.place l 0 = TW.place l 0) = true from decide_eq_true rfl] at hsame
          have HS := Lib.hid hsame
          clear hsame R3 RO hpll
          go_wp2_with fail
          refine HS.out.mono ?_
          rintro e w4 ⟨rfl, hb4⟩
          go_wp2_with fail
          go_ret
          exact ⟨rfl, below_then (below_then (below_then hB2 hB2.size HB) (by have := hB2.size; omega) hb3) (by have := hB2.size; have := hb3.size; omega) hb4⟩
end Go.Proofs.YtjkhbcacpfaagaaDoor
