/- A slice of words that came in: its cells, and what its bulk bounds. -/
import Derived.Test.YtjkhbcacpfaagaaDoorWm
import Derived.Test.YtjkhbcacpfaagaaDoorRows
import Derived.Deep.Slices
import Derived.Deep.Fields
import Derived.ChangeSame
set_option linter.unusedSimpArgs false
set_option linter.unusedVariables false
namespace Go.Proofs.YtjkhbcacpfaagaaDoor
open Go.RowKit Go.ChangeShapes Go.WideShapes Go.Deep

section
variable {H : Type} {enc : TypeId × Value → H} {P : Program} {w : World} {base : Nat} {spare : Nat → Bool} {held : Bool}
theorem open_slice_fields {t e : TypeId} {fs : Array Field} {fuel : Nat} {cs : List Value} {x : DataW H × List MemPlace} (ht : P.underlying t = some (.slice e)) (he : P.underlying e = some (.struct fs))
    (hone : oneCellFields P fs = true) (hC : P.cellsOf e = fs.size) (h : DataW.trod enc P w base spare held fuel t cs = some x) :
    (cs = [.slice none 0 0] ∧ x = (.nil, [])) ∨
    ∃ (a : Addr) (len cap m : Nat) (D : Nat → DataW H) (Pl : Nat → List MemPlace), cs = [.slice (some a) len cap] ∧ base ≤ a.block ∧ len ≤ cap ∧ cap ≤ maxLen ∧ m = (if spare a.block then cap else len) ∧
      x = (.slice ((List.range len).map D) ((List.range (m - len)).map fun j => D (len + j)), MemPlace.row a (m * fs.size) ++ (List.range m).flatMap Pl) ∧
      ∀ i, i < m → ∃ (ys : List (DataW H × List MemPlace)) (n : Nat), D i = .agg (ys.map (·.1)) ∧ Pl i = ys.flatMap (·.2) ∧ ys.length = fs.size ∧
        ∀ (j : Nat) (f : Field), fs[j]? = some f → ∃ (v : Value) (y : DataW H × List MemPlace), w.cell? (a.add (i * fs.size + j)) = some v ∧ ys[j]? = some y ∧ DataW.trod enc P w base spare held n f.type [v] = some y := by
  rcases open_slice ht h with h0 | ⟨a, len, cap, m, n, D, Pl, hcs, hb, hl, hm, hmm, hx, hi⟩
  · exact .inl h0
  · refine .inr ⟨a, len, cap, m, D, Pl, hcs, hb, hl, hm, hmm, by rw [hC] at hx; exact hx, fun i him => ?_⟩
    obtain ⟨cs', hc, ht'⟩ := hi i him
    rw [hC] at hc
    obtain ⟨ys, n', hn', hy, hlen, hyl, hf⟩ := DataW.trod_struct he ht'
    obtain ⟨_, hcl, hat⟩ := World.cells?_some hc
    simp only [Prod.mk.injEq] at hy
    refine ⟨ys, n', hy.1, hy.2, hyl, fun j f hj => ?_⟩
    obtain ⟨ho, hk⟩ := hone_of hone j f hj
    have hjl : j < fs.size := (Array.getElem?_eq_some_iff.1 hj).1
    have hcell := hat j hjl
    have hv : cs'[j]? = some (cs'[j]'(by omega)) := List.getElem?_eq_getElem (by omega)
    have h1 := hf j f hj
    rw [ho, hk] at h1
    have hone' : (cs'.drop j).take 1 = [cs'[j]'(by omega)] := by
      rw [List.drop_eq_getElem_cons (by omega)]
      rfl
    rw [hone'] at h1
    have hys : ys[j]? = some (ys[j]'(by omega)) := List.getElem?_eq_getElem (by omega)
    refine ⟨_, _, ?_, hys, h1.trans hys⟩
    rw [← Go.Deep.add_add, hcell, hv]
end
instance : Inhabited TW.W := ⟨⟨0, [], 0, 0⟩⟩
theorem bulk_mem {H : Type} {d : DataW H} : ∀ {l : List (DataW H)}, d ∈ l → Rows.uptoBulk d ≤ Rows.uptoBulkAll l
  | [], h => by cases h
  | x :: r, h => by
    simp only [Rows.uptoBulkAll]
    rcases List.mem_cons.1 h with e | e
    · subst e; omega
    · have := bulk_mem e; omega
theorem cells28 : Tryd.prog.cellsOf 28 = 4 := by kernel_rfl
/-- one word of a slice that came in -/
def ReadsW {H : Type} (w : World) (a : Addr) (i : Nat) (d : DataW H) (x : TW.W) : Prop :=
  w.cell? (a.add (i * 4 + 0)) = some (.int .i64 x.kind) ∧ w.cell? (a.add (i * 4 + 1)) = some (.string ⟨x.text.toArray⟩) ∧ w.cell? (a.add (i * 4 + 2)) = some (.int .i64 x.n) ∧ w.cell? (a.add (i * 4 + 3)) = some (.int .i64 x.pos)
    ∧ x.text.length ≤ Rows.uptoBulk d ∧ -9223372036854775808 ≤ x.n ∧ x.n ≤ 9223372036854775807
theorem wf_i64 {n : Int} (h : (Lit.int .i64 n).wf = true) : -9223372036854775808 ≤ n ∧ n ≤ 9223372036854775807 := by
  have : (decide (-9223372036854775808 ≤ n) && decide (n ≤ 9223372036854775807)) = true := h
  simpa using this
theorem sum_le {f g : Nat → Nat} (c : Nat) : ∀ (l : List Nat), (∀ i ∈ l, f i ≤ c * g i) → (l.map f).sum ≤ c * (l.map g).sum
  | [], _ => by simp
  | x :: l, h => by
    have h1 := h x (by simp)
    have h2 := sum_le c l fun i hi => h i (by simp [hi])
    simp only [List.map_cons, List.sum_cons, Nat.mul_add]
    omega
theorem ones_sum : ∀ l : List Nat, (l.map fun _ => (1 : Nat)).sum = l.length
  | [] => rfl
  | x :: l => by rw [List.map_cons, List.sum_cons, ones_sum l, List.length_cons, Nat.add_comm]
theorem bulk_sum {H : Type} : ∀ (l : List (DataW H)), Rows.uptoBulkAll l = (l.map Rows.uptoBulk).sum
  | [] => rfl
  | x :: l => by rw [Rows.uptoBulkAll, List.map_cons, List.sum_cons, bulk_sum l]
/-- A SLICE OF WORDS THAT CAME IN, OF BULK AT MOST 2^20. -/
theorem words_read {H : Type} {enc : TypeId × Value → H} {W : World} {v : Value} {d : DataW H} {ps : List MemPlace} (h : DataW.Trod enc Tryd.prog W 0 (fun _ => true) true 22 v d ps) (hv : ∃ a len cap, v = .slice a len cap) (hb : Rows.uptoBulk d ≤ 1048576) :
    ∃ l : List TW.W, RW W v l ∧ l.length ≤ 1048576 ∧ (∀ x ∈ l, WOk x) ∧ TW.adv l ≤ 137438953472 := by
  obtain ⟨fuel, hf⟩ := h
  obtain ⟨a0, len0, cap0, rfl⟩ := hv
  have hcs : Value.cells (.slice a0 len0 cap0) = #[.slice a0 len0 cap0] := rfl
  rcases open_slice_fields (enc := enc) Tryd.underlying22 Tryd.underlying28 (by kernel_rfl) (by kernel_rfl) hf with ⟨h1, h2⟩ | ⟨a, len, cap, m, D, Pl, h1, -, hl, hm, hmm, hx, hi⟩
  · have h1' : [Value.slice a0 len0 cap0] = [.slice none 0 0] := h1
    simp only [List.cons.injEq, and_true, Value.slice.injEq] at h1'
    obtain ⟨rfl, rfl, rfl⟩ := h1'
    exact ⟨[], ⟨none, 0, rfl, Nat.le_refl _, fun h => absurd rfl h⟩, by simp, by simp, by simp [TW.adv]⟩
  · have h1' : [Value.slice a0 len0 cap0] = [.slice (some a) len cap] := h1
    simp only [List.cons.injEq, and_true, Value.slice.injEq] at h1'
    obtain ⟨rfl, rfl, rfl⟩ := h1'
    have hlm : len0 ≤ m := by rw [hmm]; split <;> omega
    have each : ∀ i, i < len0 → ∃ x : TW.W, ReadsW W a i (D i) x := by
      intro i hil
      obtain ⟨ys, n, hD, hP, hyl, hfl⟩ := hi i (by omega)
      obtain ⟨v0, y0, c0, e0, t0⟩ := hfl 0 _ rfl
      obtain ⟨v1, y1, c1, e1, t1⟩ := hfl 1 _ rfl
      obtain ⟨v2, y2, c2, e2, t2⟩ := hfl 2 _ rfl
      obtain ⟨v3, y3, c3, e3, t3⟩ := hfl 3 _ rfl
      obtain ⟨k, hk, rfl, wk⟩ := DataW.trod_int Tryd.underlying26 t0
      obtain ⟨s, hs, rfl, ws⟩ := DataW.trod_string Tryd.underlying9 t1
      obtain ⟨nn, hn, rfl, wn⟩ := DataW.trod_int Tryd.underlying3 t2
      obtain ⟨p, hp, rfl, wp⟩ := DataW.trod_int Tryd.underlying3 t3
      simp only [List.cons.injEq, and_true] at hk hs hn hp
      subst hk hs hn hp
      refine ⟨⟨k, bl s, nn, p⟩, c0, c1, c2, c3, ?_, wf_i64 wn⟩
      have hmem : DataW.lit (.string s.data.toList) ∈ ys.map (·.1) := List.mem_map.2 ⟨_, List.mem_of_getElem? e1, rfl⟩
      have hle := bulk_mem (H := H) hmem
      have hst : Rows.uptoBulk (DataW.lit (H := H) (.string s.data.toList)) = s.data.toList.length + 1 := by simp only [Rows.uptoBulk]
      rw [hD]
      simp only [Rows.uptoBulk]
      show s.data.toList.length ≤ _
      rw [hst] at hle
      omega
    obtain ⟨X, hX⟩ := choose_lt each
    have hd : d = .slice ((List.range len0).map D) ((List.range (m - len0)).map fun j => D (len0 + j)) := congrArg Prod.fst hx
    have hbulk : Rows.uptoBulkAll ((List.range len0).map D) ≤ 1048576 := by
      rw [hd] at hb
      simp only [Rows.uptoBulk] at hb
      omega
    have hone : ∀ d : DataW H, 1 ≤ Rows.uptoBulk d := fun d => by
      cases d with
      | lit l => cases l <;> simp [Rows.uptoBulk]
      | nil => simp [Rows.uptoBulk]
      | ptr d => simp [Rows.uptoBulk]
      | slice elems spare => simp [Rows.uptoBulk]
      | agg parts => simp [Rows.uptoBulk]
      | iface t d => simp [Rows.uptoBulk]
      | map entries => simp [Rows.uptoBulk]
      | held h => simp [Rows.uptoBulk]
    have hsum := hbulk
    rw [bulk_sum, List.map_map] at hsum
    have hpart : ∀ i, i < len0 → Rows.uptoBulk (D i) ≤ 1048576 := fun i hi => Nat.le_trans (bulk_mem (List.mem_map.2 ⟨i, List.mem_range.2 hi, rfl⟩)) hbulk
    have hwok : ∀ i, i < len0 → WOk (X i) := fun i hi => by
      have h1 := (hX i hi).2.2.2.2
      have h2 := hpart i hi
      exact ⟨by omega, h1.2.1, h1.2.2⟩
    have hlen : len0 ≤ 1048576 := by
      have := sum_le (f := fun _ => 1) (g := fun i => Rows.uptoBulk (D i)) 1 (List.range len0) fun i _ => by have := hone (D i); omega
      have e : ((List.range len0).map fun _ => (1 : Nat)).sum = len0 := by rw [ones_sum, List.length_range]
      rw [e] at this
      have e2 : (List.map (Rows.uptoBulk ∘ D) (List.range len0)) = List.map (fun i => Rows.uptoBulk (D i)) (List.range len0) := rfl
      rw [e2] at hsum
      omega
    refine ⟨(List.range len0).map X, ⟨some a, cap0, by simp, by simp only [List.length_map, List.length_range]; exact hl, fun hne => ?_⟩, by simp only [List.length_map, List.length_range]; exact hlen, ?_, ?_⟩
    · have h0 : 0 < len0 := by
        cases len0 with
        | zero => exact absurd rfl hne
        | succ n => omega
      have hsp := World.cell?_spot (hX 0 h0).1
      obtain ⟨b, o, sp⟩ := a
      have hsp' : sp = none := hsp
      subst hsp'
      refine ⟨b, o, rfl, fun j u hu => ?_⟩
      have hj : j < (wvals ((List.range len0).map X)).length := by
        apply Decidable.byContradiction
        intro hn
        rw [List.getElem?_eq_none (by omega)] at hu
        cases hu
      rw [wvals_length, List.length_map, List.length_range] at hj
      have hq : j / 4 < len0 := by omega
      have hr : j % 4 < 4 := by omega
      have hat := wvals_at ((List.range len0).map X) (j / 4) (by simpa using hq) (j % 4) hr
      rw [show 4 * (j / 4) + j % 4 = j by omega, hu] at hat
      simp only [List.getElem_map, List.getElem_range] at hat
      obtain ⟨g0, g1, g2, g3, -⟩ := hX (j / 4) hq
      rw [Addr.add_lit] at g0 g1 g2 g3
      have hjj : j = j / 4 * 4 + j % 4 := by omega
      generalize j / 4 = q at *
      generalize j % 4 = r at *
      subst hjj
      match r, hr, hat with
      | 0, _, hat => simp [wvals1] at hat; rw [hat]; exact g0
      | 1, _, hat => simp [wvals1] at hat; rw [hat]; exact g1
      | 2, _, hat => simp [wvals1] at hat; rw [hat]; exact g2
      | 3, _, hat => simp [wvals1] at hat; rw [hat]; exact g3
    · intro x hx
      obtain ⟨i, hi, rfl⟩ := List.mem_map.1 hx
      exact hwok i (List.mem_range.1 hi)
    · have h26 := sum_le (f := fun i => (spellW (X i)).length + 1) (g := fun i => Rows.uptoBulk (D i)) 26 (List.range len0) fun i hi => by
        have hi' := List.mem_range.1 hi
        have h1 := TW.spell_len (X i) (hwok i hi').2.1 (hwok i hi').2.2
        have h2 := (hX i hi').2.2.2.2.1
        have h3 := hone (D i)
        omega
      have e : TW.adv ((List.range len0).map X) = ((List.range len0).map fun i => (spellW (X i)).length + 1).sum := by
        rw [TW.adv, List.map_map]; rfl
      have e2 : (List.map (Rows.uptoBulk ∘ D) (List.range len0)) = List.map (fun i => Rows.uptoBulk (D i)) (List.range len0) := rfl
      rw [e2] at hsum
      rw [e]
      omega
end Go.Proofs.YtjkhbcacpfaagaaDoor
