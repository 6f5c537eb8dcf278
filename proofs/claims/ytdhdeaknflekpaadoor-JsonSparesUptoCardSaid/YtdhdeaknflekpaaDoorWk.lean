/- json's parser: a list or an object. -/
import Derived.Test.YtdhdeaknflekpaaDoorWj
import Derived.Test.YtdhdeaknflekpaaDoorPc
import Derived.Maps.OwnOps
import Derived.Maps.Own
import Derived.Maps.Views
import Derived.StringKeys
import Derived.Deep.LoopGhost
set_option linter.unusedSimpArgs false
set_option linter.unusedVariables false
namespace Go.Proofs.YtdhdeaknflekpaaDoor
open Go.RowKit Go.Maps

/-- the keys that were met, as a map -/
def keysD : List (List UInt8) → DataW Unit
  | [] => .map []
  | k :: ks => (keysD ks).put (.string k) (.lit (.int .i64 1))
theorem keysD_map : ∀ ks, IsMap (keysD ks)
  | [] => ⟨_, rfl⟩
  | k :: ks => (keysD_map ks).put _ _
theorem keysD_at (s : List UInt8) : ∀ ks : List (List UInt8), (keysD ks).atKey (.string s) (.lit (.int .i64 0)) = .lit (.int .i64 (if ks.contains s then 1 else 0))
  | [] => rfl
  | k :: ks => by
    by_cases h : s = k
    · subst h
      rw [keysD, atKey_put_same (keysD_map ks) (by exact trivial)]
      simp
    · rw [keysD, atKey_put_other (by intro e; apply h; cases e; rfl), keysD_at s ks]
      have : (k :: ks).contains s = ks.contains s := by simp [List.contains_cons, h]
      rw [this]
theorem law9 : Keyed Tryd.prog 9 := string_keyed Tryd.underlying9
theorem zero3 (w : World) : (zeroValue 3).run Tryd.prog w = .ok (.int .i64 0) w := by kernel_rfl
theorem map_at {w w' : World} {b n : Nat} {D : DataW Unit} (h : w.ownsMap Tryd.prog 9 (plainElem Tryd.prog 3) b n D) (hb : w'.heap[b]? = w.heap[b]?) : w'.ownsMap Tryd.prog 9 (plainElem Tryd.prog 3) b n D := by
  obtain ⟨es, clock, hh, r⟩ := h
  exact ⟨es, clock, hb.trans hh, r⟩
/-- within 'many': the values so far, the keys so far -/
structure MS (pb : Nat) (s : ByteArray) (d : Int) (w0 : World) (out : Value) (nodes vs : List TJ.N) (mb k : Nat) (ks : List (List UInt8)) (l : List UInt8) (out2 : Value) (w : World) : Prop where
  st : St pb s d 250 l out2 (nodes.length + vs.length) (nvals (nodes ++ vs)) w
  keep : Keep pb out.ownBlock w0 w
  own : Own w0 out out2
  map : w.ownsMap Tryd.prog 9 (plainElem Tryd.prog 3) mb k (keysD ks)
  mbl : w0.heap.size ≤ mb
  ne : out2.ownBlock ≠ some mb
  new : pb < w0.heap.size
theorem MS.but {pb : Nat} {s : ByteArray} {d : Int} {w0 : World} {out : Value} {nodes vs : List TJ.N} {mb k : Nat} {ks : List (List UInt8)} {l : List UInt8} {out2 : Value} {w : World} (h : MS pb s d w0 out nodes vs mb k ks l out2 w)
    {l2 : List UInt8} {w2 : World} (hA : At pb s out2 d 250 w2 l2 w2) (hB : But pb w w2) : MS pb s d w0 out nodes vs mb k ks l2 out2 w2 where
  st := ⟨hA, own_but h.st.row hB (by omega)⟩
  keep := h.keep.trans (Keep.of_but _ hB) h.own
  own := h.own
  map := map_at h.map (hB.block mb h.map.lt (by have := h.mbl; have := h.new; omega))
  mbl := h.mbl
  ne := h.ne
  new := h.new
theorem MS.step {pb : Nat} {s : ByteArray} {d : Int} {w0 : World} {out : Value} {nodes vs : List TJ.N} {mb k : Nat} {ks : List (List UInt8)} {l : List UInt8} {out2 : Value} {w : World} (h : MS pb s d w0 out nodes vs mb k ks l out2 w)
    {l2 : List UInt8} {w2 : World} (hA : At pb s out2 d 250 w l2 w2) : MS pb s d w0 out nodes vs mb k ks l2 out2 w2 := h.but hA.here hA.but
theorem MS.draws {pb : Nat} {s : ByteArray} {d : Int} {w0 : World} {out : Value} {nodes vs : List TJ.N} {mb k : Nat} {ks : List (List UInt8)} {l : List UInt8} {out2 : Value} {w : World} (h : MS pb s d w0 out nodes vs mb k ks l out2 w) (n : Nat) :
    MS pb s d w0 out nodes vs mb k ks l out2 (w.drewN n) := h.step (h.st.at_.draws n)
/-- behind a store into the map -/
theorem MS.stored {pb : Nat} {s : ByteArray} {d : Int} {w0 : World} {out : Value} {nodes vs : List TJ.N} {mb k : Nat} {ks : List (List UInt8)} {l : List UInt8} {out2 : Value} {w : World} (h : MS pb s d w0 out nodes vs mb k ks l out2 w)
    {w2 : World} {key : List UInt8} (hm : w2.ownsMap Tryd.prog 9 (plainElem Tryd.prog 3) mb (k + 1) (keysD (key :: ks))) (hg : w.grownBy w2 (some mb)) : MS pb s d w0 out nodes vs mb (k + 1) (key :: ks) l out2 w2 where
  st := by
    obtain ⟨a, h1, h2, h3, -⟩ := h.st.at_
    have hmb := h.mbl
    have hnew := h.new
    have hne := h.ne
    refine ⟨⟨a, h1, h2, (hg.block pb h3.lt (by intro e; cases e; omega)).trans h3, But.refl _ _⟩, ?_⟩
    exact h.st.row.kept hg (.inr h.ne)
  keep := ⟨hg.os.trans h.keep.os, hg.tape.trans h.keep.tape, hg.output.trans h.keep.output, Nat.le_trans h.keep.size hg.size, fun q hq hp hv =>
    (hg.block q (Nat.lt_of_lt_of_le hq h.keep.size) (by intro e; cases e; have := h.mbl; omega)).trans (h.keep.block q hq hp hv)⟩
  own := h.own
  map := hm
  mbl := h.mbl
  ne := h.ne
  new := h.new
/-- behind a value -/
theorem MS.value {pb : Nat} {s : ByteArray} {d : Int} {w0 : World} {out : Value} {nodes vs : List TJ.N} {mb k : Nat} {ks : List (List UInt8)} {l : List UInt8} {out2 : Value} {w : World} (h : MS pb s d w0 out nodes vs mb k ks l out2 w)
    {v : List TJ.N} {l2 : List UInt8} {out3 : Value} {m : Nat} {xs : List Value} {w2 : World} (hs : St pb s d 250 l2 out3 m xs w2) (hm : m = nodes.length + (vs ++ v).length) (hx : xs = nvals (nodes ++ (vs ++ v))) (hk : Keep pb out2.ownBlock w w2) (ho : Own w out2 out3) :
    MS pb s d w0 out nodes (vs ++ v) mb k ks l2 out3 w2 where
  st := by subst hm hx; exact hs
  keep := h.keep.trans hk h.own
  own := h.own.trans ho h.keep.size
  map := map_at h.map (hk.block mb h.map.lt (by have := h.mbl; have := h.new; omega) (fun e => h.ne e.symm))
  mbl := h.mbl
  ne := by
    rcases ho with e | ⟨b, e, hb⟩
    · rw [e]; exact h.ne
    · rw [e]; intro e2; cases e2; have := h.map.lt; omega
  new := h.new
def kindI (obj : Bool) : Int := if obj then 7 else 6
theorem MS.no {pb : Nat} {s : ByteArray} {d : Int} {w0 : World} {out : Value} {nodes vs : List TJ.N} {mb k : Nat} {ks : List (List UInt8)} {l : List UInt8} {out2 : Value} {w : World} (h : MS pb s d w0 out nodes vs mb k ks l out2 w)
    {obj : Bool} {r : TJ.R (Nat × List TJ.N)} (hr : r = .no false l) (kd cnt : Int) : MPost pb s d w0 out nodes obj r (.returned (.tuple #[.int .i64 kd, .int .i64 cnt, .bool false])) w := by
  subst hr
  exact ⟨false, kd, cnt, out2, 250, _, _, l, rfl, h.st, by omega, h.keep, h.own, rfl, rfl, rfl⟩
theorem MS.yes {pb : Nat} {s : ByteArray} {d : Int} {w0 : World} {out : Value} {nodes vs : List TJ.N} {mb k : Nat} {ks : List (List UInt8)} {l : List UInt8} {out2 : Value} {w : World} (h : MS pb s d w0 out nodes vs mb k ks l out2 w)
    {obj : Bool} {r : TJ.R (Nat × List TJ.N)} {n : Nat} (hr : r = .ok (n, vs) l) {kd cnt : Int} (hk : kd = kindI obj) (hn : cnt = n) : MPost pb s d w0 out nodes obj r (.returned (.tuple #[.int .i64 kd, .int .i64 cnt, .bool true])) w := by
  subst hr hk hn
  exact ⟨true, _, n, out2, 250, _, _, l, rfl, h.st, by omega, h.keep, h.own, rfl, rfl, rfl, rfl, rfl, rfl, rfl⟩
theorem shut_str (obj : Bool) : bl (⟨#[TJ.shut obj]⟩ : ByteArray) = [TJ.shut obj] := rfl
theorem many_none {pb : Nat} {s : ByteArray} {D : Nat} {d : Int} {w0 w : World} {l l2 : List UInt8} {out : Value} {nodes : List TJ.N} (h : VPre 1 pb s D d l out nodes w0) (hA : At pb s out d 250 w0 l2 w) {obj : Bool} {r : TJ.R (Nat × List TJ.N)} (hr : r = .ok (0, []) l2) {kd : Int} (hk : kd = kindI obj) :
    MPost pb s d w0 out nodes obj r (.returned (.tuple #[.int .i64 kd, .int .i64 0, .bool true])) w := by
  subst hr hk
  exact ⟨true, _, 0, out, 250, nodes.length, nvals nodes, l2, rfl, ⟨hA.here, own_but h.st.row hA.but (by omega)⟩, Nat.le_refl _, Keep.of_but _ hA.but, Own.refl _ _, rfl, rfl, rfl, rfl, rfl, by simp, by simp⟩
theorem many_start {pb : Nat} {s : ByteArray} {D : Nat} {d : Int} {w0 w : World} {l l2 : List UInt8} {out : Value} {nodes : List TJ.N} (h : VPre 1 pb s D d l out nodes w0) (hA : At pb s out d 250 w0 l2 w) :
    MS pb s d w0 out nodes [] w.heap.size 0 [] l2 out (w.alloc (.map #[] 0)) where
  st := by
    have hb := hA.but
    obtain ⟨a, h1, h2, h3, -⟩ := hA
    refine ⟨⟨a, h1, h2, (heap_alloc_old w _ h3.lt).trans h3, But.refl _ _⟩, ?_⟩
    have := (own_but h.st.row hb (by omega)).alloc (.map #[] 0)
    simpa using this
  keep := (Keep.of_but _ hA.but).alloc _
  own := Own.refl _ _
  map := World.ownsMap_made _ _ _ _
  mbl := hA.but.size
  ne := fun e => by have := (h.st.row.lt _ e).2; have := hA.but.size; omega
  new := by obtain ⟨-, -, hP, -⟩ := h.st.at_.place; exact hP.lt
theorem join_nil (x : TJ.R (Nat × List TJ.N)) : TJ.R.join 0 [] x = x := by
  cases x with
  | no d l => rfl
  | ok q l => obtain ⟨m, u⟩ := q; simp [TJ.R.join]
def ManyRel (pb : Nat) (s : ByteArray) (D : Nat) (d : Int) (w0 : World) (out : Value) (nodes : List TJ.N) (mb : Nat) (obj : Bool) (r : TJ.R (Nat × List TJ.N)) (g : Nat) (s8 : Value) (w : World) : Prop :=
  ∃ (k kk : Nat) (keys ks : List (List UInt8)) (vs : List TJ.N) (l : List UInt8) (out2 : Value), s8 = .int .i64 ((k + 1 : Nat) : Int) ∧ g = l.length ∧ MS pb s d w0 out nodes vs mb kk ks l out2 w ∧ (obj = true → ks = keys) ∧ kk ≤ k ∧ k + l.length ≤ s.size ∧ nodes.length + vs.length + l.length ≤ s.size
    ∧ r = TJ.R.join k vs (TJ.items (TJ.value D) obj (l.length + 1) keys l)
/-- a value is to come: its key is read -/
def KeyRel (pb : Nat) (s : ByteArray) (d : Int) (w0 : World) (out : Value) (nodes vs : List TJ.N) (mb : Nat) (obj : Bool) (keys : List (List UInt8)) (l : List UInt8) (out2 : Value) (kk : Nat) (s9 : Value) (w : World) : Prop :=
  ∃ (key : List UInt8) (ks : List (List UInt8)) (k2 : Nat) (l1 : List UInt8), s9 = .string ⟨key.toArray⟩ ∧ TJ.keyOr obj keys l = (some key, l1) ∧ MS pb s d w0 out nodes vs mb k2 ks l1 out2 w ∧ (obj = true → ks = key :: keys) ∧ k2 ≤ kk + 1
theorem look_c {ks : List (List UInt8)} {sk : List UInt8} {c : Int} (h : (keysD ks).atKey (.string sk) (.lit (.int .i64 0)) = .lit (.int .i64 c)) : c = if ks.contains sk then 1 else 0 := by
  rw [keysD_at] at h
  have h2 : DataW.lit (.int .i64 (if ks.contains sk then 1 else 0)) = (DataW.lit (.int .i64 c) : DataW Unit) := h
  injection h2 with h3
  injection h3 with _ h4
  exact h4.symm
theorem items_nokey {val : List UInt8 → List UInt8 → TJ.R (List TJ.N)} {obj : Bool} {f k : Nat} {vs : List TJ.N} {keys : List (List UInt8)} {l l1 : List UInt8} (h : TJ.keyOr obj keys l = (none, l1)) : TJ.R.join k vs (TJ.items val obj (f + 1) keys l) = .no false l1 := by
  rw [TJ.items_succ, h]; rfl
theorem items_noval {val : List UInt8 → List UInt8 → TJ.R (List TJ.N)} {obj : Bool} {f k : Nat} {vs : List TJ.N} {keys : List (List UInt8)} {l l1 l2 key : List UInt8} {d : Bool} (h : TJ.keyOr obj keys l = (some key, l1)) (h2 : val key l1 = .no d l2) :
    TJ.R.join k vs (TJ.items val obj (f + 1) keys l) = .no d l2 := by
  rw [TJ.items_succ, h]; dsimp only; rw [h2]; rfl
theorem items_shut {val : List UInt8 → List UInt8 → TJ.R (List TJ.N)} {obj : Bool} {f k : Nat} {vs v : List TJ.N} {keys : List (List UInt8)} {l l1 l2 key : List UInt8} (h : TJ.keyOr obj keys l = (some key, l1)) (h2 : val key l1 = .ok v l2) (h3 : TJ.has [TJ.shut obj] (TJ.blanks l2) = true) :
    TJ.R.join k vs (TJ.items val obj (f + 1) keys l) = .ok (k + 1, vs ++ v) (TJ.blanks l2).tail := by
  rw [TJ.items_succ, h]; dsimp only; rw [h2]; dsimp only; rw [if_pos h3]; rfl
theorem items_bad {val : List UInt8 → List UInt8 → TJ.R (List TJ.N)} {obj : Bool} {f k : Nat} {vs v : List TJ.N} {keys : List (List UInt8)} {l l1 l2 key : List UInt8} (h : TJ.keyOr obj keys l = (some key, l1)) (h2 : val key l1 = .ok v l2) (h3 : ¬ TJ.has [TJ.shut obj] (TJ.blanks l2) = true) (h4 : ¬ TJ.has [44] (TJ.blanks l2) = true) :
    TJ.R.join k vs (TJ.items val obj (f + 1) keys l) = .no false (TJ.blanks l2) := by
  rw [TJ.items_succ, h]; dsimp only; rw [h2]; dsimp only; rw [if_neg h3, if_neg h4]; rfl
theorem items_next {val : List UInt8 → List UInt8 → TJ.R (List TJ.N)} (hv : TJ.Bound val) {obj : Bool} {k : Nat} {vs v : List TJ.N} {keys : List (List UInt8)} {l l1 l2 key : List UInt8} (h : TJ.keyOr obj keys l = (some key, l1)) (h2 : val key l1 = .ok v l2) (h3 : ¬ TJ.has [TJ.shut obj] (TJ.blanks l2) = true) (h4 : TJ.has [44] (TJ.blanks l2) = true) :
    TJ.R.join k vs (TJ.items val obj (l.length + 1) keys l) = TJ.R.join (k + 1) (vs ++ v) (TJ.items val obj ((TJ.blanks (TJ.blanks l2).tail).length + 1) (key :: keys) (TJ.blanks (TJ.blanks l2).tail)) := by
  rw [TJ.items_succ, h]; dsimp only; rw [h2]; dsimp only; rw [if_neg h3, if_pos h4, TJ.join_join]
  have b1 := TJ.keyOr_len h
  have b2 := (hv _ _ _ _ h2).2
  have b3 := TJ.blanks_len l2
  have b4 := TJ.has_len h4
  have b5 := TJ.blanks_len (TJ.blanks l2).tail
  rw [TJ.items_fuel hv obj l.length ((TJ.blanks (TJ.blanks l2).tail).length + 1) _ _ (by omega) (by omega)]
theorem items_next_len {val : List UInt8 → List UInt8 → TJ.R (List TJ.N)} (hv : TJ.Bound val) {obj : Bool} {v : List TJ.N} {keys : List (List UInt8)} {l l1 l2 key : List UInt8} (h : TJ.keyOr obj keys l = (some key, l1)) (h2 : val key l1 = .ok v l2) (h4 : TJ.has [44] (TJ.blanks l2) = true) :
    v.length + (TJ.blanks (TJ.blanks l2).tail).length + 1 ≤ l.length ∧ (TJ.blanks (TJ.blanks l2).tail).length + 1 ≤ l.length := by
  have b1 := TJ.keyOr_len h
  have b2 := hv _ _ _ _ h2
  have b3 := TJ.blanks_len l2
  have b4 := TJ.has_len h4
  have b5 := TJ.blanks_len (TJ.blanks l2).tail
  omega
theorem keyOr_none {keys : List (List UInt8)} {l l1 : List UInt8} (h : TJ.str l = (none, l1)) : TJ.keyOr true keys l = (none, l1) := by
  unfold TJ.keyOr TJ.keyed; rw [if_pos rfl, h]
theorem keyOr_twice {keys : List (List UInt8)} {l l1 sk : List UInt8} (h : TJ.str l = (some sk, l1)) (hc : keys.contains sk = true) : TJ.keyOr true keys l = (none, l) := by
  unfold TJ.keyOr TJ.keyed; rw [if_pos rfl, h]; dsimp only; rw [if_pos hc]
theorem keyOr_colon {keys : List (List UInt8)} {l l1 sk : List UInt8} (h : TJ.str l = (some sk, l1)) (hc : ¬ keys.contains sk = true) (h2 : TJ.has [58] (TJ.blanks l1) = true) : TJ.keyOr true keys l = (some sk, TJ.blanks (TJ.blanks l1).tail) := by
  unfold TJ.keyOr TJ.keyed; rw [if_pos rfl, h]; dsimp only; rw [if_neg hc, if_pos h2]
theorem keyOr_bad {keys : List (List UInt8)} {l l1 sk : List UInt8} (h : TJ.str l = (some sk, l1)) (hc : ¬ keys.contains sk = true) (h2 : ¬ TJ.has [58] (TJ.blanks l1) = true) : TJ.keyOr true keys l = (none, TJ.blanks l1) := by
  unfold TJ.keyOr TJ.keyed; rw [if_pos rfl, h]; dsimp only; rw [if_neg hc, if_neg h2]
theorem str_fits {l l1 sk : List UInt8} (h : TJ.str l = (some sk, l1)) : sk.length ≤ 4 * l.length := by
  have key : ∀ (f : Nat) (acc l b r : List UInt8), TJ.strs f acc l = (some b, r) → b.length ≤ acc.length + 4 * l.length := by
    intro f
    induction f with
    | zero => intro acc l b r h; cases h
    | succ f ih =>
      intro acc l b r h
      cases l with
      | nil => cases h
      | cons c l =>
        rw [TJ.strs] at h
        split at h
        · cases h; omega
        · split at h
          · cases h
          · rename_i b' l' heq
            have h1 := ih _ _ _ _ h
            simp only [List.length_append] at h1
            simp only [List.length_cons]
            split at heq
            · have := escape_len heq; have := escape_short heq; omega
            · have := char_len heq; have := char_short heq; omega
  unfold TJ.str at h
  split at h
  · have h1 := key _ _ _ _ _ h
    have h2 := TJ.has_len ‹TJ.has [34] l = true›
    simp at h1
    omega
  · cases h
end Go.Proofs.YtdhdeaknflekpaaDoor
