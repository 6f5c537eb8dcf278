/- json.Parse. -/
import Derived.Test.YtdhdeaknflekpaaDoorWl
set_option linter.unusedSimpArgs false
set_option linter.unusedVariables false
namespace Go.Proofs.YtdhdeaknflekpaaDoor
open Go.RowKit

/-- the table of what stands behind a backslash -/
def Says (w : World) : Prop := ∀ c : UInt8, w.cell? ⟨3, c.toNat, none⟩ = some (.int .u8 (TJ.says c).toNat)
theorem Says.lt {w : World} (h : Says w) : 3 < w.heap.size := World.block_lt_of_cell? w _ (h 0)
theorem Says.below {w w' : World} (h : Says w) {B : Nat} (hb : Below B w w') (hB : 3 < B) : Says w' := fun c => (hb.cell (p := ⟨3, c.toNat, none⟩) hB).trans (h c)
/-- what Parse leaves -/
def PPost (s : ByteArray) (w : World) (r : TJ.R (List TJ.N)) (e : Ending) (w' : World) : Prop :=
  Below w.heap.size w w' ∧ match r with
    | .ok v _ => ∃ out, e = .returned (.tuple #[out, .int .i64 0, .int .i64 0]) ∧ w'.ownsRow w.heap.size 36 4 out v.length (nvals v) ∧ v.length ≤ s.size
    | .no deep l => e = .returned (.tuple #[.slice none 0 0, .int .i64 (if deep then 251 else 250), .int .i64 ((s.size : Int) - (l.length : Int))]) ∧ l.length ≤ s.size
theorem below_one (w : World) (o : Obj) : Below w.heap.size w (w.alloc o) := (Below.refl _ w).alloc (Nat.le_refl _) o
theorem below_draws {B : Nat} {w w1 : World} (h : Below B w w1) (n : Nat) : Below B w (w1.drewN n) := ⟨h.os, h.tape, h.output, h.size, h.block⟩
theorem ppost_no {s : ByteArray} {w w' : World} {r : TJ.R (List TJ.N)} {deep : Bool} {l : List UInt8} (hr : r = .no deep l) (hb : Below w.heap.size w w') {c : Int} {a : Nat} (hc : c = if deep then 251 else 250) (ha : a = s.size - l.length) (hl : l.length ≤ s.size) :
    PPost s w r (.returned (.tuple #[.slice none 0 0, .int .i64 c, .int .i64 a])) w' := by
  subst hr hc ha
  refine ⟨hb, ?_, hl⟩
  have : ((s.size - l.length : Nat) : Int) = (s.size : Int) - (l.length : Int) := by omega
  rw [this]
theorem ppost_ok {s : ByteArray} {w w' : World} {r : TJ.R (List TJ.N)} {v : List TJ.N} {l : List UInt8} (hr : r = .ok v l) (hb : Below w.heap.size w w') {out : Value} (hO : w'.ownsRow w.heap.size 36 4 out v.length (nvals v)) (hl : v.length ≤ s.size) :
    PPost s w r (.returned (.tuple #[out, .int .i64 0, .int .i64 0])) w' := by
  subst hr
  exact ⟨hb, out, rfl, hO, hl⟩
theorem own_mono {w : World} {base base' : Nat} {e : TypeId} {size : Nat} {v : Value} {n : Nat} {xs : List Value} (h : w.ownsRow base e size v n xs) (hb : base' ≤ base) : w.ownsRow base' e size v n xs := by
  obtain ⟨h1, h2⟩ := h
  refine ⟨h1, ?_⟩
  rcases h2 with h2 | ⟨g, cap, cur, hv, hg, r⟩
  · exact .inl h2
  · exact .inr ⟨g, cap, cur, hv, by omega, r⟩
theorem keep_below {pb : Nat} {w w' : World} {cs : Array Value} {t : TypeId} (hpb : pb = w.heap.size) {ob : Option Nat} (hob : ob = none) (h : Keep pb ob (w.alloc (.cells cs t)) w') : Below w.heap.size w w' :=
  ⟨h.os, h.tape, h.output, by have := h.size; simp at this; omega, fun k hk => (h.block k (by simp; omega) (by omega) (by rw [hob]; simp)).trans (heap_alloc_old w _ hk)⟩
set_option maxRecDepth 100000 in
set_option maxHeartbeats 4000000 in
theorem Parse_calls (s : ByteArray) (w : World) (hs : s.size ≤ 33554432) (hT : Says w) : Calls Tryd.prog 13 #[.string s] w (PPost s w (TJ.parse (bl s))) := by
  obtain ⟨r, hr⟩ : ∃ r, r = TJ.parse (bl s) := ⟨_, rfl⟩
  rw [← hr]
  have HR := Lib.hid hr
  have h3 := hT.lt
  have hP0 : Par (w.alloc (.cells #[.string s, .int .i64 (0 : Nat), .slice none 0 0, .int .i64 0, .int .i64 250] 60)) w.heap.size s 0 (.slice none 0 0) 0 250 := heap_alloc_new w _
  have hA0 : At w.heap.size s (.slice none 0 0) 0 250 (w.alloc (.cells #[.string s, .int .i64 (0 : Nat), .slice none 0 0, .int .i64 0, .int .i64 250] 60)) (bl s) (w.alloc (.cells #[.string s, .int .i64 (0 : Nat), .slice none 0 0, .int .i64 0, .int .i64 250] 60)) := ⟨0, by omega, rfl, hP0, But.refl _ _⟩
  have hB0 : Base w.heap.size (w.alloc (.cells #[.string s, .int .i64 (0 : Nat), .slice none 0 0, .int .i64 0, .int .i64 250] 60)) := ⟨hT.below (below_one _ _) h3, by omega⟩
  have HB0 := Lib.hid hB0
  have HA0 := Lib.hid hA0
  have hbk := Lib.hid (blanks_at hA0 (by omega))
  have H3 := Lib.hid h3
  clear hr hP0 hA0 hB0 hT h3
  go_enter Tryd.func13, Tryd.ntmps13
  go_wp2_with fail
  refine hbk.out.mono ?_
  rintro e w1 ⟨rfl, hA1⟩
  have HA1 := Lib.hid (HA0.out.trans hA1)
  have hv := Lib.hid ((both 64).1 w.heap.size s 0 w1 (TJ.blanks (bl s)) [] (.slice none 0 0) [] ⟨HB0.out.here HA1.out, H3.out, hs, by omega, by omega, by have := TJ.blanks_len (bl s); rw [bl_length] at this; simp; omega, ⟨HA1.out.here, World.ownsRow_nil _ _ _ _⟩⟩)
  clear hA1 hbk
  have hr := HR.out
  unfold TJ.parse at hr
  have hbd := fun v rest => TJ.value_bound 64 [] (TJ.blanks (bl s)) v rest
  have hbl0 := TJ.blanks_len (bl s)
  rw [bl_length] at hbl0
  cases hq : TJ.value 64 [] (TJ.blanks (bl s)) with
  | no deep l =>
    rw [hq] at hr hv
    have HR := Lib.hid hr
    clear hr hq hbd hbl0
    go_wp2_with fail
    refine hv.out.mono ?_
    rintro e w2 ⟨b, out', c', m, xs, l', rfl, hst, hm, hk, ho, rfl, hc, rfl⟩
    obtain ⟨q1, q2, q3, -⟩ := hst.at_.place
    obtain ⟨a1, ha1⟩ : ∃ a1, a1 = s.size - l'.length := ⟨_, rfl⟩
    rw [← ha1] at q3
    obtain ⟨-, c1, -, -, c4, -⟩ := q3.cells
    have HK := Lib.hid ((Keep.of_but _ HA1.out.but).trans hk (Own.refl _ _))
    have Q1 := Lib.hid q1
    have HC := Lib.hid hc
    have HA := Lib.hid ha1
    clear hst hm hk ho hv q1 q2 q3 HA1 HA0 HB0 hc ha1
    go_wp2_with fail
    go_quiet (fail)
    go_wp2_with fail
    go_ret3
    exact ppost_no HR.out (below_draws (keep_below rfl rfl HK.out) _) HC.out HA.out Q1.out
  | ok v l =>
    rw [hq] at hr hv
    have hvl := (hbd v l hq).1
    have HR0 := Lib.hid hr
    clear hq hbd hr
    go_wp2_with fail
    refine hv.out.mono ?_
    rintro e w2 ⟨b, out', c', m, xs, l', rfl, hst, hm, hk, ho, rfl, rfl, rfl, hm2, hx2⟩
    have hbk := Lib.hid (blanks_at hst.at_ (by omega))
    have HR := HR0
    have HK := Lib.hid ((Keep.of_but _ HA1.out.but).trans hk (Own.refl _ _))
    have hO := hst.row
    have hpb : w.heap.size < w2.heap.size := by obtain ⟨-, -, q3, -⟩ := hst.at_.place; exact q3.lt
    simp only [List.length_nil, Nat.zero_add] at hm2
    subst hm2 hx2
    have HO := Lib.hid hO
    clear hst hm hk ho hv HA1 HA0 HB0 HR0 hO
    go_wp2_with fail
    refine hbk.out.mono ?_
    rintro e w3 ⟨rfl, hA3⟩
    have HK2 := Lib.hid (HK.out.trans (Keep.of_but _ hA3.but) (v1 := .slice none 0 0) (Own.refl _ _))
    have HO2 := Lib.hid (own_but HO.out hA3.but (by omega))
    obtain ⟨q1, q2, q3, -⟩ := hA3.place
    obtain ⟨a1, ha1⟩ : ∃ a1, a1 = s.size - (TJ.blanks l').length := ⟨_, rfl⟩
    rw [← ha1] at q3
    obtain ⟨-, c1, c2, -, c4, -⟩ := q3.cells
    clear hA3 hbk q2 q3 HK HO
    by_cases he : TJ.blanks l' = []
    · have hat : ((a1 : Int) == (s.size : Int)) = true := by rw [beq_iff_eq, ha1, he]; simp
      have hr := HR.out
      rw [if_pos he] at hr
      have HR := Lib.hid hr
      clear hr he ha1 q1
      go_wp2_with fail
      go_ret3
      exact ppost_ok HR.out (keep_below rfl rfl HK2.out) (own_mono HO2.out (by omega)) (by omega)
    · have hlen : 0 < (TJ.blanks l').length := List.length_pos_iff.2 he
      have hat : ((a1 : Int) == (s.size : Int)) = false := by rw [beq_eq_false_iff_ne, ha1]; omega
      have hr := HR.out
      rw [if_neg he] at hr
      have HR := Lib.hid hr
      have Q1 := Lib.hid q1
      have HA := Lib.hid ha1
      clear hr he ha1 hlen q1
      go_wp2_with fail
      go_quiet (fail)
      go_wp2_with fail
      go_ret3
      exact ppost_no HR.out (below_draws (keep_below rfl rfl HK2.out) _) rfl HA.out Q1.out
end Go.Proofs.YtdhdeaknflekpaaDoor
