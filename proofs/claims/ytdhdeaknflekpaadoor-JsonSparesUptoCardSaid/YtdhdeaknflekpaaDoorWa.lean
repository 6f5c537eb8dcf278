/- json's parser: its block, and what 'is' returns. -/
import Derived.Test.YtdhdeaknflekpaaDoorGc
import Derived.Test.YtdhdeaknflekpaaDoorMa
import Derived.Test.YtdhdeaknflekpaaDoorShelf
import Derived.Deep.QuietTactic
import Derived.BigQuiet
import Derived.Deep.RegionWith
set_option linter.unusedSimpArgs false
set_option linter.unusedVariables false
namespace Go.Proofs.YtdhdeaknflekpaaDoor
open Go.RowKit

/-- all blocks but one are as they were -/
structure But (pb : Nat) (w w' : World) : Prop where
  os : w'.os = w.os
  tape : w'.tape = w.tape
  output : w'.output = w.output
  size : w.heap.size ≤ w'.heap.size
  block : ∀ k, k < w.heap.size → k ≠ pb → w'.heap[k]? = w.heap[k]?
theorem But.refl (pb : Nat) (w : World) : But pb w w := ⟨rfl, rfl, rfl, Nat.le_refl _, fun _ _ _ => rfl⟩
theorem But.trans {pb : Nat} {a b c : World} (h : But pb a b) (k : But pb b c) : But pb a c :=
  ⟨k.os.trans h.os, k.tape.trans h.tape, k.output.trans h.output, Nat.le_trans h.size k.size, fun i hi hp => (k.block i (Nat.lt_of_lt_of_le hi h.size) hp).trans (h.block i hi hp)⟩
theorem But.draws {pb : Nat} {a w : World} (h : But pb a w) (n : Nat) : But pb a (w.drewN n) := ⟨h.os, h.tape, h.output, h.size, h.block⟩
/-- the parser's block: the text, the place, what is put out, the depth, the code -/
def Par (w : World) (pb : Nat) (s : ByteArray) (at_ : Nat) (out : Value) (d c : Int) : Prop :=
  w.heap[pb]? = some (.cells #[.string s, .int .i64 at_, out, .int .i64 d, .int .i64 c] 60)
theorem Par.draws {w : World} {pb : Nat} {s : ByteArray} {at_ : Nat} {out : Value} {d c : Int} (h : Par w pb s at_ out d c) (n : Nat) : Par (w.drewN n) pb s at_ out d c := h
theorem Par.lt {w : World} {pb : Nat} {s : ByteArray} {at_ : Nat} {out : Value} {d c : Int} (h : Par w pb s at_ out d c) : pb < w.heap.size := by
  apply Decidable.byContradiction
  intro hn
  rw [Par, Array.getElem?_eq_none (by omega)] at h
  cases h
theorem Par.cells {w : World} {pb : Nat} {s : ByteArray} {at_ : Nat} {out : Value} {d c : Int} (h : Par w pb s at_ out d c) :
    w.cell? ⟨pb, 0, none⟩ = some (.string s) ∧ w.cell? ⟨pb, 1, none⟩ = some (.int .i64 at_) ∧ w.cell? ⟨pb, 2, none⟩ = some out ∧ w.cell? ⟨pb, 3, none⟩ = some (.int .i64 d) ∧ w.cell? ⟨pb, 4, none⟩ = some (.int .i64 c)
      ∧ ∀ a : Addr, a.block = pb → w.frozen? a = false := by
  have hc : ∀ i v, (#[Value.string s, .int .i64 at_, out, .int .i64 d, .int .i64 c] : Array Value)[i]? = some v → w.cell? ⟨pb, i, none⟩ = some v := fun i v hv => by
    unfold World.cell?
    rw [h]
    exact hv
  refine ⟨hc 0 _ rfl, hc 1 _ rfl, hc 2 _ rfl, hc 3 _ rfl, hc 4 _ rfl, fun a ha => ?_⟩
  unfold World.frozen?
  rw [ha, h]
  simp
theorem Par.set1 {w : World} {pb : Nat} {s : ByteArray} {at_ : Nat} {out : Value} {d c : Int} (h : Par w pb s at_ out d c) (n : Nat) (m : Int) (hm : m = (n : Int)) : Par (w.setCell ⟨pb, 1, none⟩ (.int .i64 m)) pb s n out d c := by
  subst hm
  unfold Par World.setCell
  simp only [Array.getElem?_modify, if_true]
  rw [h]
  rfl
theorem But.set {pb : Nat} {a w : World} (h : But pb a w) (o : Nat) (v : Value) : But pb a (w.setCell ⟨pb, o, none⟩ v) :=
  h.trans ⟨rfl, rfl, rfl, by simp [World.setCell], fun k _ hk => Below.heap_setCell _ _ _ _ hk⟩
abbrev bl (s : ByteArray) : List UInt8 := s.data.toList
theorem bl_length (s : ByteArray) : (bl s).length = s.size := by simp [bl]
theorem bl_drop (s : ByteArray) (k : Nat) (h : k < s.size) : (bl s).drop k = s[k]'h :: (bl s).drop (k + 1) := by
  rw [List.drop_eq_getElem_cons (by rw [bl_length]; exact h)]; rfl
theorem bl_drop_end (s : ByteArray) (k : Nat) (h : s.size ≤ k) : (bl s).drop k = [] := List.drop_eq_nil_of_le (by rw [bl_length]; exact h)
theorem index_mem (c : UInt8) : ∀ l : List UInt8, (0 ≤ Lib.indexByte l c ↔ c ∈ l) ∧ (Lib.indexByte l c = -1 ∨ 0 ≤ Lib.indexByte l c)
  | [] => by simp [Lib.indexByte]
  | b :: l => by
    obtain ⟨ih1, ih2⟩ := index_mem c l
    have e : Lib.indexByte (b :: l) c = if b == c then 0 else if Lib.indexByte l c == -1 then -1 else Lib.indexByte l c + 1 := rfl
    rw [e, List.mem_cons]
    by_cases h : b = c
    · subst h; simp
    · have h1 : (b == c) = false := by simpa using h
      have h2 : ¬ c = b := fun e => h e.symm
      rw [h1]
      simp only [Bool.false_eq_true, if_false, h2, false_or]
      by_cases hm : Lib.indexByte l c = -1
      · have h3 : (Lib.indexByte l c == -1) = true := by simpa using hm
        rw [h3, ← ih1, hm]
        simp
      · have h3 : (Lib.indexByte l c == -1) = false := by simpa using hm
        rw [h3, ← ih1]
        simp only [Bool.false_eq_true, if_false]
        omega
theorem index_has (c : UInt8) (l : List UInt8) : decide (0 ≤ Lib.indexByte l c) = l.contains c := by
  rw [Bool.eq_iff_iff, decide_eq_true_iff, (index_mem c l).1]
  simp
theorem ret_b {a b : Bool} (h : a = b) : Ending.returned (.bool a) = Ending.returned (.bool b) := by rw [h]
set_option maxRecDepth 100000 in
set_option maxHeartbeats 1000000 in
theorem is_calls (set : ByteArray) (w : World) (pb : Nat) (s : ByteArray) (at_ : Nat) (out : Value) (d c : Int) (h : Par w pb s at_ out d c) (hs : s.size ≤ 140737488355328) (ha : at_ ≤ s.size) :
    Calls Tryd.prog 32 #[.pointer (some ⟨pb, 0, none⟩), .string set] w fun e w' => e = .returned (.bool (TJ.has (bl set) ((bl s).drop at_))) ∧ ∃ n, w' = w.drewN n := by
  obtain ⟨c0, c1, -, -, -, -⟩ := h.cells
  by_cases hlt : at_ < s.size
  · have hlt' : (at_ : Int) < (s.size : Int) := by omega
    have hd : decide ((at_ : Int) < (s.size : Int)) = true := decide_eq_true hlt'
    have hr : TJ.has (bl set) ((bl s).drop at_) = decide (0 ≤ Lib.indexByte set.data.toList (s[at_]'hlt)) := by
      rw [bl_drop s at_ hlt, index_has]; rfl
    rw [hr]
    clear hr
    go_enter Tryd.func32, Tryd.ntmps32
    go_wp2_with fail
    go_quiet (first | (go_at_call 41; refine Calls.quiet_of_same (Tryd.strings_IndexByte _ _ _)))
    go_wp2_with fail
    go_ret
    exact ⟨ret_b (by simp), _, rfl⟩
  · have hlt' : ¬ (at_ : Int) < (s.size : Int) := by omega
    have hd : decide ((at_ : Int) < (s.size : Int)) = false := decide_eq_false hlt'
    have hr : TJ.has (bl set) ((bl s).drop at_) = false := by
      rw [bl_drop_end s at_ (by omega)]; rfl
    rw [hr]
    clear hr
    go_enter Tryd.func32, Tryd.ntmps32
    go_wp2_with fail
    go_quiet (fail)
    go_wp2_with fail
    go_ret
    exact ⟨rfl, _, rfl⟩
end Go.Proofs.YtdhdeaknflekpaaDoor
