/- json.Print: what its closure finds in the memory; plain facts. -/
import Derived.Test.YtdhdeaknflekpaaDoorWr
set_option linter.unusedSimpArgs false
set_option linter.unusedVariables false
namespace Go.Proofs.YtdhdeaknflekpaaDoor
open Go.RowKit Go.Maps

/-- what the closure leaves alone: what is below B, and every block that is neither the builder, nor the place, nor a row of bytes -/
structure CK (B bb ab : Nat) (w w' : World) : Prop where
  below : Below B w w'
  kept : ∀ k o, w.heap[k]? = some o → k ≠ bb → k ≠ ab → (∀ c fz, o ≠ .cells c 5 fz) → w'.heap[k]? = some o
theorem CK.refl (B bb ab : Nat) (w : World) : CK B bb ab w w := ⟨Below.refl _ _, fun _ _ h _ _ _ => h⟩
theorem CK.trans {B bb ab : Nat} {a b c : World} (h : CK B bb ab a b) (k : CK B bb ab b c) : CK B bb ab a c := ⟨h.below.trans k.below, fun i o h1 h2 h3 h4 => k.kept i o (h.kept i o h1 h2 h3 h4) h2 h3 h4⟩
theorem CK.of {B bb ab : Nat} {w w' : World} (h : PK B bb w w') : CK B bb ab w w' := ⟨h.below, fun k o h1 h2 _ h4 => h.others k o h1 (by intro e; cases e; exact h2 rfl) h4⟩
theorem CK.alloc {B bb ab : Nat} {w w' : World} (h : CK B bb ab w w') (hB : B ≤ w'.heap.size) (o : Obj) : CK B bb ab w (w'.alloc o) :=
  ⟨h.below.alloc hB o, fun k x h1 h2 h3 h4 => by
    have h5 := h.kept k x h1 h2 h3 h4
    rw [heap_alloc_old w' o (Array.getElem?_eq_some_iff.1 h5).1]
    exact h5⟩
theorem CK.set {B bb ab : Nat} {w w' : World} (h : CK B bb ab w w') (hB : B ≤ ab) (o : Nat) (v : Value) : CK B bb ab w (w'.setCell ⟨ab, o, none⟩ v) :=
  ⟨h.below.setCell (p := ⟨ab, o, none⟩) hB v, fun k x h1 h2 h3 h4 => (setCell_other h3).trans (h.kept k x h1 h2 h3 h4)⟩
/-- the closure's captured variables -/
structure PS (B vb ab bb fb : Nat) (v FV : Value) (a : Nat) (bs : List Value) (w : World) : Prop where
  v : w.heap[vb]? = some (.cells #[v] 22 (0, 0))
  a : w.heap[ab]? = some (.cells #[.int .i64 a] 3 (0, 0))
  f : w.heap[fb]? = some (.cells #[FV] 49 (0, 0))
  b : IsB B bb bs w
structure PD (B vb ab bb fb : Nat) : Prop where
  nva : vb ≠ ab
  nvb : vb ≠ bb
  nvf : vb ≠ fb
  nab : ab ≠ bb
  naf : ab ≠ fb
  nbf : bb ≠ fb
  lv : B ≤ vb
  la : B ≤ ab
  lb : B ≤ bb
  lf : B ≤ fb
theorem PS.write {B vb ab bb fb : Nat} {v FV : Value} {a : Nat} {bs bs' : List Value} {w w' : World} (h : PS B vb ab bb fb v FV a bs w) (hd : PD B vb ab bb fb) (hb : IsB B bb bs' w') (hk : PK B bb w w') : PS B vb ab bb fb v FV a bs' w' where
  v := hk.others _ _ h.v (by intro e; exact hd.nvb (Option.some.inj e)) (fun _ _ e => by injection e with _ e2; cases e2)
  a := hk.others _ _ h.a (by intro e; exact hd.nab (Option.some.inj e)) (fun _ _ e => by injection e with _ e2; cases e2)
  f := hk.others _ _ h.f (by intro e; exact hd.nbf (Option.some.inj e).symm) (fun _ _ e => by injection e with _ e2; cases e2)
  b := hb
theorem isB_other {B bb : Nat} {bs : List Value} {w w' : World} (h : IsB B bb bs w) (hb : w'.heap[bb]? = w.heap[bb]?) (ho : ∀ (k : Nat) (c : Array Value) (fz : Nat × Nat), w.heap[k]? = some (Obj.cells c 5 fz) → w'.heap[k]? = some (Obj.cells c 5 fz)) : IsB B bb bs w' := by
  rcases h with ⟨h1, v, h2, ⟨q1, q2⟩, h4⟩ | ⟨h1, v, h2, ⟨q1, q2⟩, h4⟩
  · refine .inl ⟨h1, v, hb.trans h2, ⟨q1, ?_⟩, h4⟩
    rcases q2 with q2 | ⟨g, cap, cur, fz, e1, e2, e3, r⟩
    · exact .inl q2
    · exact .inr ⟨g, cap, cur, fz, e1, e2, ho _ _ _ e3, r⟩
  · refine .inr ⟨h1, v, hb.trans h2, ⟨q1, ?_⟩, h4⟩
    rcases q2 with q2 | ⟨g, cap, cur, fz, e1, e2, e3, r⟩
    · exact .inl q2
    · exact .inr ⟨g, cap, cur, fz, e1, e2, ho _ _ _ e3, r⟩
theorem PS.alloc {B vb ab bb fb : Nat} {v FV : Value} {a : Nat} {bs : List Value} {w : World} (h : PS B vb ab bb fb v FV a bs w) (o : Obj) : PS B vb ab bb fb v FV a bs (w.alloc o) := by
  have old : ∀ k x, w.heap[k]? = some x → (w.alloc o).heap[k]? = some x := fun k x hx => by rw [heap_alloc_old w o (Array.getElem?_eq_some_iff.1 hx).1]; exact hx
  have hlt : bb < w.heap.size := by
    rcases h.b with ⟨_, v, h2, _⟩ | ⟨_, v, h2, _⟩ <;> exact (Array.getElem?_eq_some_iff.1 h2).1
  exact ⟨old _ _ h.v, old _ _ h.a, old _ _ h.f, isB_other h.b (heap_alloc_old w o hlt) fun k c fz hx => old _ _ hx⟩
theorem PS.go {B vb ab bb fb : Nat} {v FV : Value} {a : Nat} {bs : List Value} {w : World} (h : PS B vb ab bb fb v FV a bs w) (hd : PD B vb ab bb fb) (a2 : Nat) (m : Int) (hm : m = a2) : PS B vb ab bb fb v FV a2 bs (w.setCell ⟨ab, 0, none⟩ (.int .i64 m)) where
  v := (setCell_other hd.nva).trans h.v
  a := by rw [setCell_block h.a, hm]; rfl
  f := (setCell_other hd.naf.symm).trans h.f
  b := isB_other h.b (setCell_other hd.nab.symm) fun k c fz hx => by
    rw [setCell_other]
    · exact hx
    · rintro rfl
      rw [h.a] at hx
      injection hx with hx
      injection hx with _ e2
      cases e2
theorem PS.cells {B vb ab bb fb : Nat} {v FV : Value} {a : Nat} {bs : List Value} {w : World} (h : PS B vb ab bb fb v FV a bs w) :
    w.cell? ⟨vb, 0, none⟩ = some v ∧ w.cell? ⟨ab, 0, none⟩ = some (.int .i64 a) ∧ w.cell? ⟨fb, 0, none⟩ = some FV ∧ w.frozen? ⟨ab, 0, none⟩ = false :=
  ⟨(block_cells h.v).1 0 _ rfl, (block_cells h.a).1 0 _ rfl, (block_cells h.f).1 0 _ rfl, (block_cells h.a).2 0⟩
theorem prts_rest (f : List TJ.N → Option (List TJ.N)) (g : List TJ.N → List UInt8 × List TJ.N) (hfg : ∀ l r, f l = some r → (g l).2 = r) (obj : Bool) : ∀ (k : Nat) (more : Bool) (keys : List (List UInt8)) (l r : List TJ.N), TJ.subs f obj k keys l = some r → (TJ.prts g k more l).2 = r := by
  intro k
  induction k with
  | zero => intro more keys l r h; cases h; rfl
  | succ k ih =>
    intro more keys l r h
    rw [TJ.subs] at h
    rw [TJ.prts]
    cases hq : f l with
    | none => rw [hq] at h; cases h
    | some r' =>
      rw [hq] at h
      have e := hfg l r' hq
      dsimp only at h ⊢
      rw [e]
      split at h
      · split at h
        · cases h
        · exact ih true _ _ _ h
      · exact ih true _ _ _ h
theorem sound_kind {n : TJ.N} (h : TJ.sound n = true) : n.kind = 1 ∨ n.kind = 2 ∨ n.kind = 3 ∨ n.kind = 4 ∨ n.kind = 5 ∨ n.kind = 6 ∨ n.kind = 7 := by
  unfold TJ.sound at h
  split at h
  · cases h
  · split at h
    · omega
    · split at h
      · omega
      · split at h
        · omega
        · split at h
          · omega
          · cases h
theorem prt_rest : ∀ (D : Nat) (key : Bool) (l r : List TJ.N), TJ.sub D key l = some r → (TJ.prt D key l).2 = r := by
  intro D
  induction D with
  | zero =>
    intro key l r h
    cases l with
    | nil => cases h
    | cons n l =>
      rw [TJ.sub.eq_def] at h
      dsimp only at h
      split at h
      · cases h
      · rename_i hc
        split at h
        · cases h
        · rename_i hk
          cases h
          have hs : TJ.sound n = true := by
            cases hs : TJ.sound n with
            | true => rfl
            | false => rw [hs] at hc; simp at hc
          rw [TJ.prt.eq_def]
          dsimp only
          rcases sound_kind hs with h | h | h | h | h | h | h
          · rw [if_pos h]
          · rw [if_neg (by omega), if_pos h]
          · rw [if_neg (by omega), if_neg (by omega), if_pos h]
          · rw [if_neg (by omega), if_neg (by omega), if_neg (by omega), if_pos h]
          · rw [if_neg (by omega), if_neg (by omega), if_neg (by omega), if_neg (by omega), if_pos h]
          · exact absurd (.inl h) hk
          · exact absurd (.inr h) hk
  | succ D ih =>
    intro key l r h
    cases l with
    | nil => cases h
    | cons n l =>
      rw [TJ.sub.eq_def] at h
      dsimp only at h
      split at h
      · cases h
      · rename_i hc
        have hs : TJ.sound n = true := by
          cases hs : TJ.sound n with
          | true => rfl
          | false => rw [hs] at hc; simp at hc
        rw [TJ.prt.eq_def]
        dsimp only
        split at h
        · rename_i hk
          rw [if_neg (by omega), if_neg (by omega), if_neg (by omega), if_neg (by omega), if_neg (by omega)]
          exact prts_rest _ _ (ih _) _ _ _ _ _ _ h
        · rename_i hk
          cases h
          rcases sound_kind hs with h | h | h | h | h | h | h
          · rw [if_pos h]
          · rw [if_neg (by omega), if_pos h]
          · rw [if_neg (by omega), if_neg (by omega), if_pos h]
          · rw [if_neg (by omega), if_neg (by omega), if_neg (by omega), if_pos h]
          · rw [if_neg (by omega), if_neg (by omega), if_neg (by omega), if_neg (by omega), if_pos h]
          · exact absurd (.inl h) hk
          · exact absurd (.inr h) hk
end Go.Proofs.YtdhdeaknflekpaaDoor
