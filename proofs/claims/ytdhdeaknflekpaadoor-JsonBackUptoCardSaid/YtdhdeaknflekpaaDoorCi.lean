/- THE ROW AND THE CARD OF trellis/trellislaw25.JsonBack, where what it reads is of bulk at most 2^20: for all lists of nodes the law returns true; the list reads as it read before. -/
import Derived.Test.YtdhdeaknflekpaaDoorCards
import Derived.Test.YtdhdeaknflekpaaDoorTie
import Derived.Test.YtdhdeaknflekpaaDoorLb
import Derived.Test.YtdhdeaknflekpaaDoorLj
import Derived.Deep.Slices
import Derived.Deep.Fields
import Derived.ChangeSame
import Derived.ReadAgain
import Derived.ChangeReads
import Derived.ChangeOld
set_option linter.unusedSimpArgs false
set_option linter.unusedVariables false
namespace Go.Proofs.YtdhdeaknflekpaaDoor
open Go.RowKit Go.ChangeShapes Go.WideShapes Go.Deep

section
variable {H : Type} {enc : TypeId × Value → H} {P : Program} {w : World} {base : Nat} {spare : Nat → Bool} {held : Bool}
theorem open_slice_fields {t e : TypeId} {fs : Array Field} {fuel : Nat} {cs : List Value} {x : DataW H × List MemPlace} (ht : P.underlying t = some (.slice e)) (he : P.underlying e = some (.struct fs))
    (hone : oneCellFields P fs = true) (hC : P.cellsOf e = fs.size) (h : DataW.trod enc P w base spare held fuel t cs = some x) :
    (cs = [.slice none 0 0] ∧ x = (.nil, [])) ∨
    ∃ (a : Addr) (len cap m : Nat) (D : Nat → DataW H) (Pl : Nat → List MemPlace), cs = [.slice (some a) len cap] ∧ base ≤ a.block ∧ len ≤ cap ∧ cap ≤ maxLen ∧ m = (if spare a.block then cap else len) ∧
      x = (.slice ((List.range len).map D) ((List.range (m - len)).map fun j => D (len + j)), MemPlace.row a (m * fs.size) ++ (List.range m).flatMap Pl) ∧
      ∀ i, i < m → ∃ (ys : List (DataW H × List MemPlace)) (n : Nat), D i = .agg (ys.map (·.1)) ∧ Pl i = ys.flatMap (·.2) ∧ ys.length = fs.size ∧
        ∀ (j : Nat) (f : Field), fs[j]? = some f → ∃ (v : Value) (y : DataW H × List MemPlace), w.cell? (a.add (i * fs.size + j)) = some v ∧ ys[j]? = some y ∧ DataW.trod enc P w base spare held n f.type [v] = some y := by
  rcases open_slice ht h with h0 | ⟨a, len, cap, m, n, D, Pl, hcs, hb, hl, hm, hmm, hx, hi⟩
  · exact .inl h0
  · refine .inr ⟨a, len, cap, m, D, Pl, hcs, hb, hl, hm, hmm, by rw [hC] at hx; exact hx, fun i him => ?_⟩
    obtain ⟨cs', hc, ht'⟩ := hi i him
    rw [hC] at hc
    obtain ⟨ys, n', hn', hy, hlen, hyl, hf⟩ := DataW.trod_struct he ht'
    obtain ⟨_, hcl, hat⟩ := World.cells?_some hc
    simp only [Prod.mk.injEq] at hy
    refine ⟨ys, n', hy.1, hy.2, hyl, fun j f hj => ?_⟩
    obtain ⟨ho, hk⟩ := hone_of hone j f hj
    have hjl : j < fs.size := (Array.getElem?_eq_some_iff.1 hj).1
    have hcell := hat j hjl
    have hv : cs'[j]? = some (cs'[j]'(by omega)) := List.getElem?_eq_getElem (by omega)
    have h1 := hf j f hj
    rw [ho, hk] at h1
    have hone' : (cs'.drop j).take 1 = [cs'[j]'(by omega)] := by
      rw [List.drop_eq_getElem_cons (by omega)]
      rfl
    rw [hone'] at h1
    have hys : ys[j]? = some (ys[j]'(by omega)) := List.getElem?_eq_getElem (by omega)
    refine ⟨_, _, ?_, hys, h1.trans hys⟩
    rw [← Go.Deep.add_add, hcell, hv]
end
theorem bulk_mem {H : Type} {d : DataW H} : ∀ {l : List (DataW H)}, d ∈ l → Rows.uptoBulk d ≤ Rows.uptoBulkAll l
  | [], h => by cases h
  | x :: r, h => by
    simp only [Rows.uptoBulkAll]
    rcases List.mem_cons.1 h with e | e
    · subst e; omega
    · have := bulk_mem e; omega
theorem cells36 : Tryd.prog.cellsOf 36 = 4 := by kernel_rfl
theorem wf_i64 {n : Int} (h : (Lit.int .i64 n).wf = true) : -9223372036854775808 ≤ n ∧ n ≤ 9223372036854775807 := by
  have : (decide (-9223372036854775808 ≤ n) && decide (n ≤ 9223372036854775807)) = true := h
  simpa using this
/-- one node of a slice that came in -/
def ReadsN {H : Type} (w : World) (a : Addr) (i : Nat) (d : DataW H) (x : TJ.N) : Prop :=
  w.cell? (a.add (i * 4 + 0)) = some (.int .i64 x.kind) ∧ w.cell? (a.add (i * 4 + 1)) = some (.string ⟨x.key.toArray⟩) ∧ w.cell? (a.add (i * 4 + 2)) = some (.string ⟨x.text.toArray⟩) ∧ w.cell? (a.add (i * 4 + 3)) = some (.int .i64 x.kids)
    ∧ x.key.length + x.text.length + 5 ≤ Rows.uptoBulk d ∧ -9223372036854775808 ≤ x.kids ∧ x.kids ≤ 9223372036854775807
theorem sum_le {f g : Nat → Nat} (c : Nat) : ∀ (l : List Nat), (∀ i ∈ l, f i ≤ c * g i) → (l.map f).sum ≤ c * (l.map g).sum
  | [], _ => by simp
  | x :: l, h => by
    have h1 := h x (by simp)
    have h2 := sum_le c l fun i hi => h i (by simp [hi])
    simp only [List.map_cons, List.sum_cons, Nat.mul_add]
    omega
theorem ones_sum : ∀ l : List Nat, (l.map fun _ => (1 : Nat)).sum = l.length
  | [] => rfl
  | x :: l => by rw [List.map_cons, List.sum_cons, ones_sum l, List.length_cons, Nat.add_comm]
theorem bulk_sum {H : Type} : ∀ (l : List (DataW H)), Rows.uptoBulkAll l = (l.map Rows.uptoBulk).sum
  | [] => rfl
  | x :: l => by rw [Rows.uptoBulkAll, List.map_cons, List.sum_cons, bulk_sum l]
theorem ba_list (s : ByteArray) : (⟨(bl s).toArray⟩ : ByteArray) = s := by simp [bl]
/-- A SLICE OF NODES THAT CAME IN, OF BULK AT MOST 2^20. -/
theorem nodes_read {H : Type} {enc : TypeId × Value → H} {W : World} {v : Value} {d : DataW H} {ps : List MemPlace} (h : DataW.Trod enc Tryd.prog W 0 (fun _ => true) true 22 v d ps) (hv : ∃ a len cap, v = .slice a len cap) (hb : Rows.uptoBulk d ≤ 1048576) :
    ∃ l : List TJ.N, RN W v l ∧ l.length ≤ 1048576 ∧ (∀ x ∈ l, NOk x) ∧ TJ.hi l ≤ 6291456 := by
  obtain ⟨fuel, hf⟩ := h
  obtain ⟨a0, len0, cap0, rfl⟩ := hv
  have hcs : Value.cells (.slice a0 len0 cap0) = #[.slice a0 len0 cap0] := rfl
  rcases open_slice_fields (enc := enc) Tryd.underlying22 Tryd.underlying36 (by kernel_rfl) (by kernel_rfl) hf with ⟨h1, h2⟩ | ⟨a, len, cap, m, D, Pl, h1, -, hl, hm, hmm, hx, hi⟩
  · have h1' : [Value.slice a0 len0 cap0] = [.slice none 0 0] := h1
    simp only [List.cons.injEq, and_true, Value.slice.injEq] at h1'
    obtain ⟨rfl, rfl, rfl⟩ := h1'
    exact ⟨[], ⟨none, 0, rfl, Nat.le_refl _, fun h => absurd rfl h⟩, by simp, by simp, by simp [TJ.hi]⟩
  · have h1' : [Value.slice a0 len0 cap0] = [.slice (some a) len cap] := h1
    simp only [List.cons.injEq, and_true, Value.slice.injEq] at h1'
    obtain ⟨rfl, rfl, rfl⟩ := h1'
    have hlm : len0 ≤ m := by rw [hmm]; split <;> omega
    have each : ∀ i, i < len0 → ∃ x : TJ.N, ReadsN W a i (D i) x := by
      intro i hil
      obtain ⟨ys, n, hD, hP, hyl, hfl⟩ := hi i (by omega)
      obtain ⟨v0, y0, c0, e0, t0⟩ := hfl 0 _ rfl
      obtain ⟨v1, y1, c1, e1, t1⟩ := hfl 1 _ rfl
      obtain ⟨v2, y2, c2, e2, t2⟩ := hfl 2 _ rfl
      obtain ⟨v3, y3, c3, e3, t3⟩ := hfl 3 _ rfl
      obtain ⟨k, hk, rfl, wk⟩ := DataW.trod_int Tryd.underlying34 t0
      obtain ⟨s, hs, rfl, ws⟩ := DataW.trod_string Tryd.underlying9 t1
      obtain ⟨s2, hs2, rfl, ws2⟩ := DataW.trod_string Tryd.underlying9 t2
      obtain ⟨p, hp, rfl, wp⟩ := DataW.trod_int Tryd.underlying3 t3
      simp only [List.cons.injEq, and_true] at hk hs hs2 hp
      subst hk hs hs2 hp
      refine ⟨⟨k, bl s, bl s2, p⟩, c0, by rw [ba_list]; exact c1, by rw [ba_list]; exact c2, c3, ?_, wf_i64 wp⟩
      obtain ⟨z0, z1, z2, z3, rfl⟩ : ∃ z0 z1 z2 z3, ys = [z0, z1, z2, z3] := by
        match ys, (show ys.length = 4 from hyl) with
        | [z0, z1, z2, z3], _ => exact ⟨_, _, _, _, rfl⟩
      obtain rfl := Option.some.inj e0
      obtain rfl := Option.some.inj e1
      obtain rfl := Option.some.inj e2
      obtain rfl := Option.some.inj e3
      have b1 : (bl s).length = s.data.toList.length := rfl
      have b2 : (bl s2).length = s2.data.toList.length := rfl
      rw [hD]
      simp only [Rows.uptoBulk, List.map_cons, List.map_nil, Rows.uptoBulkAll]
      omega
    obtain ⟨X, hX⟩ := choose_lt each
    have hd : d = .slice ((List.range len0).map D) ((List.range (m - len0)).map fun j => D (len0 + j)) := congrArg Prod.fst hx
    have hbulk : Rows.uptoBulkAll ((List.range len0).map D) ≤ 1048576 := by
      rw [hd] at hb
      simp only [Rows.uptoBulk] at hb
      omega
    have hsum := hbulk
    rw [bulk_sum, List.map_map] at hsum
    have hpart : ∀ i, i < len0 → Rows.uptoBulk (D i) ≤ 1048576 := fun i hi => Nat.le_trans (bulk_mem (List.mem_map.2 ⟨i, List.mem_range.2 hi, rfl⟩)) hbulk
    have hwok : ∀ i, i < len0 → NOk (X i) := fun i hi => by
      have h1 := (hX i hi).2.2.2.2
      have h2 := hpart i hi
      exact ⟨by omega, by omega, h1.2.1, h1.2.2⟩
    have e2 : (List.map (Rows.uptoBulk ∘ D) (List.range len0)) = List.map (fun i => Rows.uptoBulk (D i)) (List.range len0) := rfl
    rw [e2] at hsum
    have hlen : len0 ≤ 1048576 := by
      have := sum_le (f := fun _ => 1) (g := fun i => Rows.uptoBulk (D i)) 1 (List.range len0) fun i hi => by have := (hX i (List.mem_range.1 hi)).2.2.2.2.1; omega
      have e : ((List.range len0).map fun _ => (1 : Nat)).sum = len0 := by rw [ones_sum, List.length_range]
      rw [e] at this
      omega
    refine ⟨(List.range len0).map X, ⟨some a, cap0, by simp, by simp only [List.length_map, List.length_range]; exact hl, fun hne => ?_⟩, by simp only [List.length_map, List.length_range]; exact hlen, ?_, ?_⟩
    · have h0 : 0 < len0 := by
        cases len0 with
        | zero => exact absurd rfl hne
        | succ n => omega
      have hsp := World.cell?_spot (hX 0 h0).1
      obtain ⟨b, o, sp⟩ := a
      have hsp' : sp = none := hsp
      subst hsp'
      refine ⟨b, o, rfl, fun i hi => ?_⟩
      simp only [List.length_map, List.length_range] at hi
      simp only [List.getElem_map, List.getElem_range]
      obtain ⟨g0, g1, g2, g3, -⟩ := hX i hi
      rw [Addr.add_lit] at g0 g1 g2 g3
      exact ⟨g0, g1, g2, g3⟩
    · intro x hx
      obtain ⟨i, hi, rfl⟩ := List.mem_map.1 hx
      exact hwok i (List.mem_range.1 hi)
    · have h6 := sum_le (f := fun i => 6 * (X i).key.length + 6 * (X i).text.length + 10) (g := fun i => Rows.uptoBulk (D i)) 6 (List.range len0) fun i hi => by
        have := (hX i (List.mem_range.1 hi)).2.2.2.2.1
        omega
      have e : TJ.hi ((List.range len0).map X) = ((List.range len0).map fun i => 6 * (X i).key.length + 6 * (X i).text.length + 10).sum := by
        rw [TJ.hi, List.map_map]; rfl
      rw [e]
      omega
namespace cJsonBack
open Go.ChangeShapes Go.WideShapes Go.ChangeAt Go.RowKit

theorem contract (H : Type) (enc : TypeId × Value → H) (W : World) (base : Nat) (args : Array Value) (ds gs : List (DataW H)) (before : List MemPlace)
    (hval : ∀ (j : Nat) t v, Tryd.f3.params[j]? = some t → args[j]? = some v → Value.okWide Tryd.prog W .any base t v)
    (hW : DataW.Whole enc Tryd.prog Tryd.f3.params.toList Rows.jsonBackSpec.vars false W args.toList ds gs before)
    (hk : Rows.uptoSmall H (ds ++ gs) = true) (hL : laidMetH Tryd.prog laid4 W) :
    Calls Tryd.prog 3 args W fun e W' => ∃ v, e = .returned v ∧ Rows.jsonBackSpec.post enc Tryd.prog Tryd.f3 false true false false W args v W' := by
  have hW' := hW
  obtain ⟨p, q, hA0, hV, rfl, hfz, hnd⟩ := hW
  have hA : DataW.TrodAll enc Tryd.prog W 0 (fun _ => true) true Tryd.f3.params.toList args.toList ds p := hA0
  rw [Tryd.params3] at hA hval
  obtain ⟨v0, vs0, d0, ds0, p0, q0, hargs, rfl, rfl, h0, r0⟩ := trodAll_cons hA
  obtain ⟨rfl, rfl, rfl⟩ := trodAll_nil r0
  obtain rfl : args = #[v0] := by cases args; simp_all
  obtain ⟨rfl, rfl⟩ := trodVars_none hV
  have hv0 := okWide_slice Tryd.underlying22 (hval 0 22 v0 rfl rfl)
  have hb0 : Rows.uptoBulk d0 ≤ 1048576 := by
    have h := of_decide_eq_true hk
    simp only [List.append_nil, Rows.uptoBulkAll] at h
    omega
  obtain ⟨l, hrw, hlen, hok, hhi⟩ := nodes_read h0 hv0 hb0
  clear hA0
  simp only [List.append_nil] at hW'
  refine (JsonBack_calls l v0 W hrw hok (by omega) (by omega) (tabs hL)).mono fun e W' ⟨he, hb⟩ => ?_
  subst he
  have h1 : DataW.Trod enc Tryd.prog W' 0 (fun _ => true) true 22 v0 d0 p0 := by
    obtain ⟨n, hn⟩ := h0
    exact ⟨n, DataW.trod_carry n _ _ _ hn (fun p hp => hb.same (DataW.trod_lt n _ _ _ hn p hp))⟩
  have hlt : ∀ p ∈ p0, p.block < W.heap.size := by
    obtain ⟨n, hn⟩ := h0
    exact DataW.trod_lt n _ _ _ hn
  have h2 : ∀ sp : Nat → Bool, (∀ p ∈ p0, sp p.block = true) → DataW.Trod enc Tryd.prog W' 0 sp true 22 v0 d0 p0 := fun sp hs =>
    h1.respare (kids_rows (by kernel_rfl) (by kernel_rfl)) (slices_full_of Tryd.prog (by kernel_rfl)) (by decide +kernel) hs
  exact ⟨_, rfl, _, _, _, [], p0, [], hW', trodAll_cons_mk (shut_bool Tryd.underlying4 _) trodAll_mk0, trodAll_mk1 (h2 _ fun p hp => decide_eq_true (hlt p hp)), rfl, hb.frame _, fun h => by cases h⟩

theorem laid_met (os : Os) : laidMet Tryd.prog laid4 ((laidWorld os).forCall (fun _ _ => 0) ⟨#[], #[.slice none 0 0], []⟩).memory :=
  (laid_in4 os _).met
theorem reads (os : Os) {H : Type} (enc : TypeId × Value → H) : ∃ places, DataW.whole enc Tryd.prog ((laidWorld os).forCall (fun _ _ => 0) ⟨#[], #[.slice none 0 0], []⟩).memory Tryd.f3.params.toList Rows.jsonBackSpec.vars false #[Value.slice none 0 0].toList 8 = some ([.nil], [], places) :=
  ⟨[], by kernel_rfl⟩
set_option maxRecDepth 100000 in
theorem lifted (os : Os) (started : os.Started) (H : Type) (enc : TypeId × Value → H) (F : Stop.Interp) :
    ReturnsInHanded {} Tryd.checked os 3 .any ((Rows.OpenSpec.upto Rows.jsonBackSpec).preRow enc Tryd.prog Tryd.f3 Rows.jsonBackUptoRow.domain false Rows.jsonBackUptoRow.laid) (((Rows.OpenSpec.upto Rows.jsonBackSpec).at F).post enc Tryd.prog Tryd.f3 false true false false) := by
  obtain ⟨places, hx⟩ := reads os enc
  refine returnsInHanded_of_row (C := Tryd.checked) (s := Rows.OpenSpec.upto Rows.jsonBackSpec) own started (by kernel_rfl) Tryd.func3
    (witness_row_at (enc := enc) (C := Tryd.checked) false (laidWorld os) #[.slice none 0 0] rfl (by kernel_rfl) (by kernel_rfl) (by kernel_rfl)
      (OpenSpec.preRow_of_cond 8 hx (by kernel_rfl) (fun k hk => by cases hk; kernel_rfl) (by kernel_rfl) (laid_met os))) ?_
  intro W base args ds gs before hval hW _ hcond hreach hL _ _
  exact contract H enc W base args ds gs before hval hW (hcond _ rfl) hL
theorem said : Rows.JsonBackUptoSaid :=
  OpenClaim.holds_of_cond 3 Tryd.f3 rfl rfl rfl rfl rfl rfl rfl ⟨rfl, rfl, rfl, rfl, rfl⟩ rfl rfl rfl rfl rfl (by kernel_rfl) Tryd.func3 (by kernel_rfl)
    (of_decide_eq_true (by kernel_rfl)) (by unfold Func.isWrapper; first | (rw [if_pos (by decide +kernel)]; kernel_rfl) | (rw [if_neg (by decide +kernel)]; exact ⟨rfl, rfl⟩))
    (fun os started H enc _ F => by rw [OpenClaim.pre_eq_preRow]; exact lifted os started H enc F)
theorem plain (f : FuncId) (fn : Func) (hf : Tryd.pinned.checked.prog.funcNamed "trellis/trellislaw25.JsonBack" = some f) (hfn : Tryd.pinned.checked.prog.funcs[f]? = some fn) :
    false = Tryd.pinned.checked.prog.looks [] ∧ ∀ (j : Nat) t, fn.params[j]? = some t → Tryd.pinned.checked.prog.wantsStandIn t = false := by
  obtain rfl : f = 3 := Option.some.inj ((show Tryd.prog.funcNamed "trellis/trellislaw25.JsonBack" = some 3 by kernel_rfl).symm.trans hf) |>.symm
  obtain rfl : fn = Tryd.f3 := (Option.some.inj (Tryd.func3.symm.trans hfn)).symm
  refine ⟨by kernel_rfl, fun j t ht => ?_⟩
  rw [Tryd.params3] at ht
  obtain rfl : t = 22 := by simpa using Array.mem_of_getElem? ht
  exact (show Tryd.prog.wantsStandIn 22 = false by kernel_rfl)
/-- THE CARD -/
theorem card : Rows.JsonBackUptoCardSaid :=
  Claim7.holds_tied_plain_at .later [] _ _ _ _ said (fun _ h => by cases h) (by kernel_rfl) (fun _ h => by cases h) jsonBackUpto_row_tie rfl ⟨rfl, rfl⟩ (by kernel_rfl) rfl plain (by kernel_rfl)
end cJsonBack
end Go.Proofs.YtdhdeaknflekpaaDoor
