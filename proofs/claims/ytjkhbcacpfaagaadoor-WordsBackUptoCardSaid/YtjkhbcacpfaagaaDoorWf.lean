/- What words.Spell and words.Join return. -/
import Derived.Test.YtjkhbcacpfaagaaDoorWe
import Derived.WalkSmall
import Derived.Lib.AppendIntMem
set_option linter.unusedSimpArgs false
set_option linter.unusedVariables false
namespace Go.Proofs.YtjkhbcacpfaagaaDoor
open Go.RowKit

def spell (k : Int) (l : List UInt8) (n : Int) : List UInt8 :=
  if TW.sound k l n then (if k = 2 then TW.quote l else if k = 3 then 47 :: l ++ [47] else if k = 4 then Lib.itoa n else l) else []
/-- the library's table of powers of ten -/
def Tab (w : World) : Prop := Lib.TabIs Tryd.prog w "internal/strconv.uint64pow10" .u64 Lib.pow10Tab
theorem gPow : Tryd.prog.globalNamed "internal/strconv.uint64pow10" = some 1 := by kernel_rfl
theorem Tab.below {w w' : World} (h : Tab w) (hb : Below w.heap.size w w') : Tab w' := by
  have hc := Lib.TabIs.cell h gPow 0 (by decide)
  exact var?_below hb gPow (World.block_lt_of_cell? w _ hc) h
theorem box_cells {w w1 : World} {cs : Array Value} {e : TypeId} (hb : Below (w.alloc (.cells cs e)).heap.size (w.alloc (.cells cs e)) w1) (i : Nat) (v : Value) (h : cs[i]? = some v) : w1.cell? ⟨w.heap.size, i, none⟩ = some v := by
  rw [hb.cell (p := ⟨w.heap.size, i, none⟩) (by simp), cell_of_row _ _ _ _ _ _ (heap_alloc_new w _)]
  exact h
theorem box_below {w w1 : World} {o : Obj} (hb : Below (w.alloc o).heap.size (w.alloc o) w1) : Below w.heap.size w w1 := below_then (below_one w o) (by simp) hb
theorem slash_str (t : ByteArray) : (⟨#[47]⟩ : ByteArray) ++ t ++ (⟨#[47]⟩ : ByteArray) = ⟨(47 :: bl t ++ [47]).toArray⟩ := by
  apply ByteArray.ext
  simp [bl, ByteArray.data_append]
theorem str_bl (t : ByteArray) : t = ⟨(bl t).toArray⟩ := by
  apply ByteArray.ext
  simp [bl]
theorem spell_no {k n : Int} {l : List UInt8} (h : TW.sound k l n = false) : spell k l n = [] := by simp [spell, h]
theorem spell_yes {k n : Int} {l : List UInt8} (h : TW.sound k l n = true) : spell k l n = if k = 2 then TW.quote l else if k = 3 then 47 :: l ++ [47] else if k = 4 then Lib.itoa n else l := by simp [spell, h]
set_option maxRecDepth 100000 in
set_option maxHeartbeats 1000000 in
theorem Spell_calls (k : Int) (t : ByteArray) (n p : Int) (w : World) (ht : t.size ≤ 1073741824) (hT : Tab w) (h0 : -9223372036854775808 ≤ n) (h1 : n ≤ 9223372036854775807) :
    Calls Tryd.prog 9 #[wagg k t n p] w fun e w' => e = .returned (.string ⟨(spell k (bl t) n).toArray⟩) ∧ Below w.heap.size w w' := by
  have HT := Lib.hid hT
  have hnn : Hid (-9223372036854775808 ≤ n ∧ n ≤ 9223372036854775807) := ⟨h0, h1⟩
  clear hT h0 h1
  unfold wagg
  by_cases hs : TW.sound k (bl t) n = true
  · rw [spell_yes hs]
    by_cases k2 : k = 2
    · subst k2
      go_enter Tryd.func9, Tryd.ntmps9
      go_wp2_with (first | (go_at_call 13; refine (sound_calls _ _ _ _ _ (by omega)).mono ?_; rintro e w1 ⟨rfl, hb1⟩; have c0 := box_cells hb1 0 _ rfl; have c1 := box_cells hb1 1 _ rfl; have c2 := box_cells hb1 2 _ rfl; have c3 := box_cells hb1 3 _ rfl; have hb1' := box_below hb1; clear hb1) | (go_at_call 15; refine (quote_calls _ _ ht).mono ?_; rintro e w2 ⟨rfl, hb2⟩))
      go_ret
      exact ⟨rfl, below_then hb1' hb1'.size hb2⟩
    have k2b : (k == 2) = false := by rw [beq_eq_false_iff_ne]; exact k2
    rw [if_neg k2]
    by_cases k3 : k = 3
    · subst k3
      go_enter Tryd.func9, Tryd.ntmps9
      go_wp2_with (first | (go_at_call 13; refine (sound_calls _ _ _ _ _ (by omega)).mono ?_; rintro e w1 ⟨rfl, hb1⟩; have c0 := box_cells hb1 0 _ rfl; have c1 := box_cells hb1 1 _ rfl; have c2 := box_cells hb1 2 _ rfl; have c3 := box_cells hb1 3 _ rfl; have hb1' := box_below hb1; clear hb1))
      go_ret
      exact ⟨ret_s (slash_str t), hb1'⟩
    have k3b : (k == 3) = false := by rw [beq_eq_false_iff_ne]; exact k3
    rw [if_neg k3]
    by_cases k4 : k = 4
    · subst k4
      go_enter Tryd.func9, Tryd.ntmps9
      go_wp2_with (first | (go_at_call 13; refine (sound_calls _ _ _ _ _ (by omega)).mono ?_; rintro e w1 ⟨rfl, hb1⟩; have c0 := box_cells hb1 0 _ rfl; have c1 := box_cells hb1 1 _ rfl; have c2 := box_cells hb1 2 _ rfl; have c3 := box_cells hb1 3 _ rfl; have hb1' := box_below hb1; clear hb1) | (go_at_call 16; refine (Tryd.strconv_Itoa _ hnn.out.1 hnn.out.2 _ (HT.out.below hb1')).mono ?_; rintro e w2 ⟨rfl, kk, os, rfl⟩))
      go_ret
      exact ⟨rfl, below_then hb1' hb1'.size (Lib.below_grow _ _ (Nat.le_refl _) _ _)⟩
    have k4b : (k == 4) = false := by rw [beq_eq_false_iff_ne]; exact k4
    rw [if_neg k4]
    clear k2 k3 k4
    go_enter Tryd.func9, Tryd.ntmps9
    go_wp2_with (first | (go_at_call 13; refine (sound_calls _ _ _ _ _ (by omega)).mono ?_; rintro e w1 ⟨rfl, hb1⟩; have c0 := box_cells hb1 0 _ rfl; have c1 := box_cells hb1 1 _ rfl; have c2 := box_cells hb1 2 _ rfl; have c3 := box_cells hb1 3 _ rfl; have hb1' := box_below hb1; clear hb1))
    go_ret
    exact ⟨ret_s (str_bl t), hb1'⟩
  · have hs : TW.sound k (bl t) n = false := by simpa using hs
    rw [spell_no hs]
    go_enter Tryd.func9, Tryd.ntmps9
    go_wp2_with (first | (go_at_call 13; refine (sound_calls _ _ _ _ _ (by omega)).mono ?_; rintro e w1 ⟨rfl, hb1⟩; have c0 := box_cells hb1 0 _ rfl; have c1 := box_cells hb1 1 _ rfl; have c2 := box_cells hb1 2 _ rfl; have c3 := box_cells hb1 3 _ rfl; have hb1' := box_below hb1; clear hb1))
    go_ret
    exact ⟨rfl, hb1'⟩

/-! ### Join -/
/-- A slice of words reads as a list. -/
def RW (w : World) (v : Value) (l : List TW.W) : Prop :=
  ∃ a c, v = .slice a l.length c ∧ l.length ≤ c ∧ (l ≠ [] → ∃ b o, a = some ⟨b, o, none⟩ ∧ ∀ j u, (wvals l)[j]? = some u → w.cell? ⟨b, o + j, none⟩ = some u)
def spellW (x : TW.W) : List UInt8 := spell x.kind x.text x.n
def soundW (x : TW.W) : Bool := TW.sound x.kind x.text x.n
def svals (l : List TW.W) : List Value := l.map fun x => .string ⟨(spellW x).toArray⟩
def joinW (l : List TW.W) : List UInt8 := if l.all soundW then Lib.join (l.map spellW) [32] else []
def WOk (x : TW.W) : Prop := x.text.length ≤ 1073741824 ∧ -9223372036854775808 ≤ x.n ∧ x.n ≤ 9223372036854775807
theorem wvals_at (l : List TW.W) (i : Nat) (h : i < l.length) (j : Nat) (hj : j < 4) : (wvals l)[4 * i + j]? = (wvals1 (l[i]'h))[j]? := by
  induction l generalizing i with
  | nil => simp at h
  | cons x r ih =>
    cases i with
    | zero =>
      rw [wvals, List.flatMap_cons, List.getElem?_append_left (by simp [wvals1]; omega)]
      simp
    | succ i =>
      rw [wvals, List.flatMap_cons, List.getElem?_append_right (by simp [wvals1]; omega)]
      have := ih i (by simpa using h)
      simp only [wvals1, List.length_cons, List.length_nil, List.getElem_cons_succ] at *
      rw [show 4 * (i + 1) + j - (0 + 1 + 1 + 1 + 1) = 4 * i + j by omega]
      exact this
theorem info9 : (Tryd.prog.info? 9).map (fun i => (i.zero, i.size, i.bytes)) = some (some (.string (⟨#[]⟩ : ByteArray)), 1, 16) := by kernel_rfl
theorem sound_word (x : TW.W) (w : World) (h : x.text.length ≤ 1073741824) :
    Calls Tryd.prog 13 #[.agg #[.int .i64 x.kind, .string ⟨x.text.toArray⟩, .int .i64 x.n, .int .i64 x.pos]] w (SPost (soundW x) w) :=
  sound_calls x.kind ⟨x.text.toArray⟩ x.n x.pos w (by show x.text.toArray.size ≤ _; simp; omega)
theorem Spell_word (x : TW.W) (w : World) (h : WOk x) (hT : Tab w) :
    Calls Tryd.prog 9 #[.agg #[.int .i64 x.kind, .string ⟨x.text.toArray⟩, .int .i64 x.n, .int .i64 x.pos]] w fun e w' => e = .returned (.string ⟨(spellW x).toArray⟩) ∧ Below w.heap.size w w' :=
  Spell_calls x.kind ⟨x.text.toArray⟩ x.n x.pos w (by show x.text.toArray.size ≤ _; simp; exact h.1) hT h.2.1 h.2.2
theorem Tab.below' {w w1 : World} (h : Tab w) (hb : Below w.heap.size w w1) : Tab w1 := h.below hb
theorem sval_one (x : ByteArray) (u : Value) (h : u ∈ (#[.string x] : Array Value).toList) : u.oneCell' = true := by
  simp at h; subst h; rfl
theorem join_spells (l : List TW.W) : Lib.join ((l.map fun x => (⟨(spellW x).toArray⟩ : ByteArray)).map (·.data.toList)) (⟨#[32]⟩ : ByteArray).data.toList = Lib.join (l.map spellW) [32] := by
  rw [List.map_map]
  rfl
set_option maxRecDepth 100000 in
set_option maxHeartbeats 1000000 in
theorem Join_calls (l : List TW.W) (v : Value) (w : World) (hv : RW w v l) (hn : l.length ≤ 1073741824) (hok : ∀ x ∈ l, WOk x) (hlen : (Lib.join (l.map spellW) [32]).length ≤ 140737488355328) (hT : Tab w) :
    Calls Tryd.prog 8 #[v] w fun e w' => e = .returned (.string ⟨(joinW l).toArray⟩) ∧ Below w.heap.size w w' := by
  obtain ⟨a, c, rfl, hc, hcells⟩ := hv
  by_cases hne : l = []
  · subst hne
    clear hcells hok hlen hT
    go_enter Tryd.func8, Tryd.ntmps8
    go_wp2_with fail
    refine wp_loop_once ?_
    go_wp2_with (go_at_call 14; refine (Tryd.strings_Join_none _ _ _ _).mono ?_; rintro e w' ⟨rfl, rfl⟩)
    go_ret
    exact ⟨rfl, Below.refl _ _⟩
  · obtain ⟨b, o, rfl, hcl⟩ := hcells hne
    clear hcells
    generalize hN : l.length = N at *
    have hpos : 0 < N := by rw [← hN]; exact List.length_pos_iff.2 hne
    go_enter Tryd.func8, Tryd.ntmps8
    go_wp2_with fail
    go_loopw [3, 8] (fun v i wr => ∃ k : Nat, k ≤ N ∧ i = .int .i64 k ∧ (l.take k).all soundW = true ∧ wr.ownsRow w.heap.size 9 1 v k (svals (l.take k)) ∧ Below w.heap.size w wr ∧ w.heap.size ≤ wr.heap.size) (fun _ i _ => N - (intOf i).toNat)
    case atStart => exact ⟨0, Nat.zero_le _, rfl, by simp, World.ownsRow_nil _ _ _ _, Below.refl _ _, Nat.le_refl _⟩
    case round =>
      obtain ⟨k, hk, rfl, hall, HO, HB, hsz⟩ := hrel
      by_cases hlt : k < N
      · have hlt' : (k : Int) < (N : Int) := by omega
        have hkl : k < l.length := by omega
        have hcell : ∀ j u, j < 4 → (wvals1 (l[k]'hkl))[j]? = some u → wr.cell? ⟨b, o + (4 * k + j), none⟩ = some u := fun j u hj hu => by
          have h1 := hcl (4 * k + j) u (by rw [wvals_at l k hkl j hj]; exact hu)
          exact (HB.cell (p := ⟨b, o + (4 * k + j), none⟩) (World.block_lt_of_cell? w _ h1)).trans h1
        have d0 := hcell 0 _ (by omega) rfl
        have d1 := hcell 1 _ (by omega) rfl
        have d2 := hcell 2 _ (by omega) rfl
        have d3 := hcell 3 _ (by omega) rfl
        rw [show o + (4 * k + 0) = o + k * 4 by omega] at d0
        rw [show o + (4 * k + 1) = o + k * 4 + 1 by omega] at d1
        rw [show o + (4 * k + 2) = o + k * 4 + 2 by omega] at d2
        rw [show o + (4 * k + 3) = o + k * 4 + 3 by omega] at d3
        clear hcell
        have hmem : l[k]'hkl ∈ l := List.getElem_mem hkl
        have hok1 := Lib.hid (hok _ hmem)
        have HT1 : Hid (∀ w1 : World, Below wr.heap.size wr w1 → Tab w1) := fun w1 hb => (hT.below' HB).below hb
        clear hcl hmem hok
        by_cases hs : soundW (l[k]'hkl) = true
        · go_wp2_with (first | (go_at_call 13; refine (sound_word (l[k]'hkl) _ hok1.out.1).mono ?_; rintro e w1 ⟨rfl, hb1⟩; have c0 := box_cells hb1 0 _ rfl; have c1 := box_cells hb1 1 _ rfl; have c2 := box_cells hb1 2 _ rfl; have c3 := box_cells hb1 3 _ rfl; have hb1' := box_below hb1; clear hb1 d0 d1 d2 d3) | (go_at_call 9; refine (Spell_word (l[k]'hkl) _ hok1.out (HT1.out _ hb1')).mono ?_; rintro e w2 ⟨rfl, hb2⟩; have HB2 := below_then (below_then HB hsz hb1') (Nat.le_trans hsz hb1'.size) hb2; have HO2 := own_below (own_below HO hb1') hb2; have hsz2 := HB2.size; clear c0 c1 c2 c3) | (at_builtin; go_must (refine append_one (w0 := w) w.heap.size rfl _ _ 36 9 (.string ⟨#[]⟩) 1 16 rfl Tryd.underlying36 info9 rfl (by decide) (by decide) u3 k (svals (l.take k)) _ rfl rfl rfl (sval_one _) HO2 HB2 hsz2 (by omega) ?_); intro v1 w3 HO3 HB3 _ _))
          go_roundw
          case rel => exact ⟨k + 1, hlt, by go_num, by rw [List.take_succ_eq_append_getElem hkl, List.all_append, hall]; simp [hs], by rw [List.take_succ_eq_append_getElem hkl, svals, List.map_append]; exact HO3, HB3, HB3.size⟩
          case measure => simp [intOf]; omega
        · have hs : soundW (l[k]'hkl) = false := by simpa using hs
          have hj : joinW l = [] := by
            rw [joinW, if_neg]
            intro h
            rw [List.all_eq_true] at h
            rw [h _ (List.getElem_mem hkl)] at hs
            cases hs
          have HJ := Lib.hid hj
          clear hj
          go_wp2_with (first | (go_at_call 13; refine (sound_word (l[k]'hkl) _ hok1.out.1).mono ?_; rintro e w1 ⟨rfl, hb1⟩; have c0 := box_cells hb1 0 _ rfl; have c1 := box_cells hb1 1 _ rfl; have c2 := box_cells hb1 2 _ rfl; have c3 := box_cells hb1 3 _ rfl; have hb1' := box_below hb1; clear hb1 d0 d1 d2 d3))
          go_ret
          exact ⟨by rw [HJ.out]; rfl, below_then HB hsz hb1'⟩
      · have hlt' : ¬ (k : Int) < (N : Int) := by omega
        obtain rfl : k = N := by omega
        rw [List.take_of_length_le (by omega)] at hall HO
        have hj : joinW l = Lib.join (l.map spellW) [32] := by rw [joinW, if_pos hall]
        have HJW := Lib.hid hj
        have hlen2 : (svals l).length = k := by simp [svals, hN]
        obtain ⟨g, cap, cur, hv, -, -, hcap, -⟩ := (HO.2.resolve_left (fun h => by omega))
        have hcells : ∀ j u, (svals l)[j]? = some u → wr.cell? ⟨g, 0 + j, none⟩ = some u := fun j u hu => by
          have := HO.cells (g := g) (by rw [hv]; rfl) j u hu
          rwa [Addr.add_lit] at this
        have hbk : g < wr.heap.size := (HO.lt g (by rw [hv]; rfl)).2
        subst hv
        have hJ := Tryd.strings_Join g 0 cap (l.map fun x => (⟨(spellW x).toArray⟩ : ByteArray)) ⟨#[32]⟩ wr (fun j x hx => hcells j (.string x) (by rw [svals, List.getElem?_map] at *; revert hx; cases l[j]? <;> simp)) hbk (by simp; omega) (by simp; omega) (by rw [join_spells]; exact hlen)
        rw [join_spells, List.length_map, hN] at hJ
        have HJ := Lib.hid hJ
        clear hJ hcells hlen2 HO hall hlen hj hcl
        go_wp2_with (go_at_call 14; refine HJ.out.mono ?_; rintro e w2 ⟨rfl, hb2⟩)
        go_ret
        exact ⟨by rw [HJW.out]; rfl, below_then HB hsz hb2⟩
end Go.Proofs.YtjkhbcacpfaagaaDoor
