/- json.sound; the tables; slices of nodes that read. -/
import Derived.Test.YtdhdeaknflekpaaDoorWo
import Derived.Test.YtdhdeaknflekpaaDoorShelfV
import Derived.Test.YtdhdeaknflekpaaDoorPd
set_option linter.unusedSimpArgs false
set_option linter.unusedVariables false
namespace Go.Proofs.YtdhdeaknflekpaaDoor
open Go.RowKit

/-- the tables that json reads -/
structure Tabs (w : World) : Prop where
  says : Says w
  wrt : Wrt w
  utf : Lib.Utf8Tabs 1 2 w
theorem Tabs.lt {w : World} (h : Tabs w) : 3 < w.heap.size := h.says.lt
theorem Tabs.below {w w' : World} (h : Tabs w) {B : Nat} (hb : Below B w w') (hB : 3 < B) : Tabs w' := by
  refine ⟨h.says.below hb hB, h.wrt.below hb (by omega), ?_⟩
  obtain ⟨h1, h2⟩ := h.utf
  refine ⟨fun c hc => (hb.cell (p := ⟨1, c, none⟩) (by show 1 < B; omega)).trans (h1 c hc), fun i hi => ?_⟩
  obtain ⟨a, b⟩ := h2 i hi
  exact ⟨(hb.cell (p := ⟨2, _, none⟩) (by show 2 < B; omega)).trans a, (hb.cell (p := ⟨2, _, none⟩) (by show 2 < B; omega)).trans b⟩
theorem below_then' {B : Nat} {w w1 w2 : World} (h : Below B w w1) (hB : B ≤ w1.heap.size) (k : Below w1.heap.size w1 w2) : Below B w w2 := below_then h hB k
theorem valid_at (s : ByteArray) {w0 w : World} (hs : s.size ≤ 1073741824) (hT : Tabs w) : Calls Tryd.prog 40 #[.string s] w fun e w' => e = .returned (.bool (TJ.valid (bl s))) ∧ Below w.heap.size w w' := by
  refine (Tryd.utf8_ValidString s w (by omega) hT.utf).mono ?_
  rintro e w' ⟨rfl, h⟩
  exact ⟨by rw [valid_eq], h⟩
theorem At.drew {pb : Nat} {s : ByteArray} {out : Value} {d c : Int} {w w1 : World} {l : List UInt8} (h : At pb s out d c w l w1) : At pb s out d c w l w1.drew := by
  obtain ⟨k, h1, h2, h3, h4⟩ := h
  exact ⟨k, h1, h2, h3, ⟨h4.os, h4.tape, h4.output, h4.size, h4.block⟩⟩
/-- the parser was made above -/
theorem below_but {B pb : Nat} {w w1 w2 : World} (h : Below B w w1) (hB : B ≤ pb) (hp : pb ≤ w1.heap.size) (hb : But pb w1 w2) (hBw : B ≤ w1.heap.size) : Below B w w2 :=
  ⟨hb.os.trans h.os, hb.tape.trans h.tape, hb.output.trans h.output, Nat.le_trans h.size hb.size, fun k hk => (hb.block k (by omega) (by omega)).trans (h.block k hk)⟩
theorem num_facts {pb q : Nat} {tb : ByteArray} {out : Value} {d c : Int} {w w2 : World} {l2 : List UInt8} (h : At pb tb out d c w l2 w2) (hd : w.cell? ⟨q, 2, none⟩ = some (.string tb)) (hq : q ≠ pb) :
    w2.cell? ⟨pb, 1, none⟩ = some (.int .i64 ((tb.size - l2.length : Nat) : Int)) ∧ w2.cell? ⟨q, 2, none⟩ = some (.string tb) := by
  obtain ⟨-, -, hP, hB⟩ := h.place
  exact ⟨hP.cells.2.1, hB.cell hd hq⟩
theorem ret_b' {a b : Bool} {p : Prop} (h : a = b) (hp : p) : Ending.returned (.bool a) = Ending.returned (.bool b) ∧ p := ⟨by rw [h], hp⟩
theorem empty_iff (s : ByteArray) : s.toList.isEmpty = (bl s).isEmpty := by
  rw [ByteArray.toList_eq]
set_option maxRecDepth 100000 in
set_option maxHeartbeats 4000000 in
theorem sound_calls (kd : Int) (kb tb : ByteArray) (kids : Int) (w : World) (hk : kb.size ≤ 1073741824) (ht : tb.size ≤ 1073741824) (hT : Tabs w) :
    Calls Tryd.prog 31 #[.agg #[.int .i64 kd, .string kb, .string tb, .int .i64 kids]] w fun e w' => e = .returned (.bool (TJ.sound ⟨kd, bl kb, bl tb, kids⟩)) ∧ Below w.heap.size w w' := by
  obtain ⟨r, hr⟩ : ∃ r, r = TJ.sound ⟨kd, bl kb, bl tb, kids⟩ := ⟨_, rfl⟩
  rw [← hr]
  unfold TJ.sound at hr
  dsimp only at hr
  have hT1 := hT.below (below_one w (.cells #[.int .i64 kd, .string kb, .string tb, .int .i64 kids] 36)) hT.lt
  have hv := Lib.hid (valid_at (w0 := w) kb hk hT1)
  have HT := Lib.hid hT
  clear hT hT1
  by_cases hneg : kids < 0
  · have hn : decide (kids < 0) = true := by simpa using hneg
    rw [hn, Bool.true_or, if_pos rfl] at hr
    have HR := Lib.hid hr
    clear hr hv
    go_enter Tryd.func31, Tryd.ntmps31
    go_wp2_with fail
    go_ret
    exact ret_b' HR.out.symm (below_one _ _)
  · have hn : decide (kids < 0) = false := by simpa using hneg
    rw [hn, Bool.false_or] at hr
    generalize TJ.valid (bl kb) = b at *
    cases b with
    | false =>
      have hr2 : r = false := by rw [hr]; rfl
      have HR := Lib.hid hr2
      clear hr hr2
      go_enter Tryd.func31, Tryd.ntmps31
      go_wp2_with fail
      refine hv.out.mono ?_
      rintro e w1 ⟨rfl, hb1⟩
      clear hv
      go_wp2_with fail
      go_ret
      exact ret_b' HR.out.symm (below_then (below_one _ _) (by simp) hb1)
    | true =>
      rw [if_neg (by simp)] at hr
      have HR := Lib.hid hr
      clear hr
      go_enter Tryd.func31, Tryd.ntmps31
      go_wp2_with fail
      refine hv.out.mono ?_
      rintro e w1 ⟨rfl, hb1⟩
      have c0 : w1.cell? ⟨w.heap.size, 0, none⟩ = some (.int .i64 kd) := (hb1.cell (p := ⟨w.heap.size, 0, none⟩) (by simp)).trans ((block_cells (heap_alloc_new w _)).1 0 _ rfl)
      have c2 : w1.cell? ⟨w.heap.size, 2, none⟩ = some (.string tb) := (hb1.cell (p := ⟨w.heap.size, 2, none⟩) (by simp)).trans ((block_cells (heap_alloc_new w _)).1 2 _ rfl)
      have c3 : w1.cell? ⟨w.heap.size, 3, none⟩ = some (.int .i64 kids) := (hb1.cell (p := ⟨w.heap.size, 3, none⟩) (by simp)).trans ((block_cells (heap_alloc_new w _)).1 3 _ rfl)
      have HB := Lib.hid (below_then (below_one w (.cells #[.int .i64 kd, .string kb, .string tb, .int .i64 kids] 36)) (by simp) hb1)
      have HB1 := hb1.size
      clear hv hb1
      by_cases k6 : kd = 6
      · subst k6
        have hr2 : r = (bl tb).isEmpty := HR.out
        have HR2 := Lib.hid hr2
        clear hr2
        go_wp2_with fail
        go_ret
        exact ret_b' (by rw [HR2.out, empty_iff]) HB.out
      by_cases k7 : kd = 7
      · subst k7
        have hr2 : r = (bl tb).isEmpty := HR.out
        have HR2 := Lib.hid hr2
        clear hr2
        go_wp2_with fail
        go_ret
        exact ret_b' (by rw [HR2.out, empty_iff]) HB.out
      by_cases k4 : kd = 4
      · subst k4
        have hr2 : r = (kids == 0 && TJ.isNum (bl tb)) := HR.out
        have HR2 := Lib.hid hr2
        clear hr2
        have hlt1 : w.heap.size < w1.heap.size := Nat.lt_of_lt_of_le (by simp) HB1
        have hb2 := below_one w1 (.cells #[.string tb, .int .i64 0, .slice none 0 0, .int .i64 0, .int .i64 0] 60)
        have d2 := (hb2.cell (p := ⟨w.heap.size, 2, none⟩) hlt1).trans c2
        have d3 := (hb2.cell (p := ⟨w.heap.size, 3, none⟩) hlt1).trans c3
        have hP0 : Par (w1.alloc (.cells #[.string tb, .int .i64 0, .slice none 0 0, .int .i64 0, .int .i64 0] 60)) w1.heap.size tb 0 (.slice none 0 0) 0 0 := heap_alloc_new w1 _
        have hA0 : At w1.heap.size tb (.slice none 0 0) 0 0 (w1.alloc (.cells #[.string tb, .int .i64 0, .slice none 0 0, .int .i64 0, .int .i64 0] 60)) (bl tb) (w1.alloc (.cells #[.string tb, .int .i64 0, .slice none 0 0, .int .i64 0, .int .i64 0] 60)) := ⟨0, by omega, rfl, hP0, But.refl _ _⟩
        have hB2 := below_then HB.out HB.out.size hb2
        have HA0 := Lib.hid hA0
        have HB2 := Lib.hid hB2
        clear hP0 hA0 hB2 hb2 HR hneg hn
        by_cases hk0 : kids = 0
        · have hkb : (kids == 0) = true := by simpa using hk0
          clear hk0
          by_cases he : (bl tb).isEmpty = true
          · have he1 : tb.toList.isEmpty = true := by rw [empty_iff]; exact he
            have he2 : (!tb.toList.isEmpty) = false := by rw [he1]; rfl
            have hr3 : r = false := by
              rw [HR2.out, hkb]
              have : bl tb = [] := by simpa using he
              rw [this]
              decide
            have HR3 := Lib.hid hr3
            clear hr3 he HR2
            go_wp2_with fail
            clear c0 c2 c3
            generalize w1.alloc _ = W2 at *
            go_quiet (fail)
            go_wp2_with fail
            go_ret
            exact ret_b' HR3.out.symm (below_draws HB2.out _)
          · have he1 : tb.toList.isEmpty = false := by rw [empty_iff]; simpa using he
            have he2 : (!tb.toList.isEmpty) = true := by rw [he1]; rfl
            have hbt : tb.size ≤ 140737488355328 := by omega
            cases hq : TJ.number (bl tb) with
            | mk b l2 =>
              have hr3 : r = (b && l2.isEmpty) := by
                rw [HR2.out, hkb, TJ.isNum, hq]
                cases b <;> cases l2 <;> rfl
              have HR3 := Lib.hid hr3
              clear he hr3 HR2
              cases b with
              | false =>
                go_wp2_with fail
                clear c0 c2 c3
                generalize w1.alloc _ = W2 at *
                have hn := Lib.hid (number_at HA0.out.drew hbt)
                rw [hq] at hn
                first
                  | (go_region_law (go_simp; go_at_call 36; refine hn.out.mono ?_; rintro e w2 ⟨rfl, hA2⟩; have HA2 := Lib.hid hA2; clear hA2)
                     all_goals
                       go_wp2_with fail
                       go_ret
                       exact ret_b' HR3.out.symm (below_but HB2.out HB.out.size (Nat.le_of_lt HA0.out.place.2.2.1.lt) HA2.out.but HB2.out.size))
                  | fail
              | true =>
                have hqp : w.heap.size ≠ w1.heap.size := by omega
                have hpbW := HA0.out.place.2.2.1.lt
                obtain ⟨a2, ha2⟩ : ∃ a2, a2 = tb.size - l2.length := ⟨_, rfl⟩
                have hl2 : l2.length ≤ tb.size := by have := number_short (bl tb); rw [hq, bl_length] at this; exact this
                have he3 : ((a2 : Int) == (tb.size : Int)) = r := by
                  rw [HR3.out, Bool.true_and, Bool.eq_iff_iff, beq_iff_eq, List.isEmpty_iff_length_eq_zero]
                  rw [ha2]
                  have : 0 < tb.size := by
                    rw [← bl_length]
                    apply Decidable.byContradiction
                    intro hn
                    have : bl tb = [] := List.eq_nil_of_length_eq_zero (by omega)
                    rw [empty_iff, this] at he1
                    cases he1
                  omega
                have HAA := Lib.hid ha2
                clear HR3 ha2 hl2
                go_wp2_with fail
                clear c0 c2 c3
                generalize w1.alloc _ = W2 at *
                have hn := Lib.hid (number_at HA0.out.drew hbt)
                rw [hq] at hn
                have D2 := Lib.hid d2
                clear hq
                first
                  | (go_region_law (go_simp; go_at_call 36; refine hn.out.mono ?_; rintro e w2 ⟨rfl, hA2⟩; have HA2 := Lib.hid hA2; obtain ⟨k1, k2⟩ := num_facts hA2 D2.out hqp; rw [← HAA.out] at k1; clear hA2)
                     all_goals
                       go_wp2_with fail
                       go_ret
                       exact ⟨rfl, below_but HB2.out HB.out.size (Nat.le_of_lt hpbW) HA2.out.but HB2.out.size⟩)
                  | fail
        · have hk0b : (kids == 0) = false := by simpa using hk0
          have hr3 : r = false := by rw [HR2.out, hk0b]; rfl
          have HR3 := Lib.hid hr3
          clear hr3 hk0 HR2
          go_wp2_with fail
          clear c0 c2 c3
          generalize w1.alloc _ = W2 at *
          go_quiet (fail)
          go_wp2_with fail
          go_ret
          exact ret_b' HR3.out.symm (below_draws HB2.out _)
      by_cases k5 : kd = 5
      · subst k5
        have hr2 : r = (kids == 0 && TJ.valid (bl tb)) := HR.out
        by_cases hk0 : kids = 0
        · subst hk0
          have hv := Lib.hid (valid_at (w0 := w) tb ht (HT.out.below HB.out HT.out.lt))
          have hr3 : TJ.valid (bl tb) = r := by rw [hr2]; simp
          rw [hr3] at hv
          clear hr2 hr3
          go_wp2_with fail
          refine hv.out.mono ?_
          rintro e w2 ⟨rfl, hb2⟩
          go_wp2_with fail
          go_ret
          exact ⟨rfl, below_then HB.out HB.out.size hb2⟩
        · have hk0b : (kids == 0) = false := by simpa using hk0
          rw [hk0b] at hr2
          have HR2 := Lib.hid hr2
          clear hr2 hk0
          go_wp2_with fail
          go_ret
          exact ret_b' HR2.out.symm HB.out
      by_cases k123 : kd = 1 ∨ kd = 2 ∨ kd = 3
      · have hr2 : r = (kids == 0 && (bl tb).isEmpty) := by
          have := HR.out
          rcases k123 with rfl | rfl | rfl <;> exact this
        have HR2 := Lib.hid hr2
        clear hr2
        rcases k123 with rfl | rfl | rfl
        all_goals
          by_cases hk0 : kids = 0
          · subst hk0
            go_wp2_with fail
            go_ret
            exact ret_b' (by rw [HR2.out, empty_iff]; simp) HB.out
          · have hk0b : (kids == 0) = false := by simpa using hk0
            clear hk0
            go_wp2_with fail
            go_ret
            exact ret_b' (by rw [HR2.out, hk0b]; rfl) HB.out
      · have hr2 : r = false := by
          rw [HR.out, if_neg (by omega), if_neg k4, if_neg k5, if_neg k123]
        have HR2 := Lib.hid hr2
        have j1 : (kd == 1) = false := by rw [beq_eq_false_iff_ne]; omega
        have j2 : (kd == 2) = false := by rw [beq_eq_false_iff_ne]; omega
        have j3 : (kd == 3) = false := by rw [beq_eq_false_iff_ne]; omega
        have j4 : (kd == 4) = false := by rw [beq_eq_false_iff_ne]; omega
        have j5 : (kd == 5) = false := by rw [beq_eq_false_iff_ne]; omega
        have j6 : (kd == 6) = false := by rw [beq_eq_false_iff_ne]; omega
        have j7 : (kd == 7) = false := by rw [beq_eq_false_iff_ne]; omega
        clear hr2 k6 k7 k4 k5 k123
        go_wp2_with fail
        go_ret
        exact ret_b' HR2.out.symm HB.out
end Go.Proofs.YtdhdeaknflekpaaDoor
