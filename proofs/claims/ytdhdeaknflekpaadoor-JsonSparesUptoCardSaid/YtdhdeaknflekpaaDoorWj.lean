/- json's parser: a value (what it leaves; what stands on the row). -/
import Derived.Test.YtdhdeaknflekpaaDoorWi
set_option linter.unusedSimpArgs false
set_option linter.unusedVariables false
namespace Go.Proofs.YtdhdeaknflekpaaDoor
open Go.RowKit

/-- the cells of a node, of nodes -/
def nvals1 (x : TJ.N) : List Value := [.int .i64 x.kind, .string ⟨x.key.toArray⟩, .string ⟨x.text.toArray⟩, .int .i64 x.kids]
def nvals (l : List TJ.N) : List Value := l.flatMap nvals1
theorem nvals_app (a b : List TJ.N) : nvals (a ++ b) = nvals a ++ nvals b := by simp [nvals]
theorem nvals_len (l : List TJ.N) : (nvals l).length = 4 * l.length := by
  induction l with
  | nil => rfl
  | cons x l ih =>
    have : nvals (x :: l) = nvals1 x ++ nvals l := rfl
    rw [this, List.length_append, ih]
    simp [nvals1]
    omega
/-- all blocks but the parser's and one more are as they were -/
structure Keep (pb : Nat) (ob : Option Nat) (w w' : World) : Prop where
  os : w'.os = w.os
  tape : w'.tape = w.tape
  output : w'.output = w.output
  size : w.heap.size ≤ w'.heap.size
  block : ∀ k, k < w.heap.size → k ≠ pb → some k ≠ ob → w'.heap[k]? = w.heap[k]?
theorem Keep.refl (pb : Nat) (ob : Option Nat) (w : World) : Keep pb ob w w := ⟨rfl, rfl, rfl, Nat.le_refl _, fun _ _ _ _ => rfl⟩
theorem Keep.of_but {pb : Nat} {w w' : World} (ob : Option Nat) (h : But pb w w') : Keep pb ob w w' := ⟨h.os, h.tape, h.output, h.size, fun k hk hp _ => h.block k hk hp⟩
/-- the row's block is the old one, or new -/
def Own (w : World) (v v' : Value) : Prop := v'.ownBlock = v.ownBlock ∨ ∃ b, v'.ownBlock = some b ∧ w.heap.size ≤ b
theorem Own.refl (w : World) (v : Value) : Own w v v := .inl rfl
theorem Keep.trans {pb : Nat} {v v1 : Value} {a b c : World} (h : Keep pb v.ownBlock a b) (k : Keep pb v1.ownBlock b c) (ho : Own a v v1) : Keep pb v.ownBlock a c :=
  ⟨k.os.trans h.os, k.tape.trans h.tape, k.output.trans h.output, Nat.le_trans h.size k.size, fun i hi hp hv => (k.block i (Nat.lt_of_lt_of_le hi h.size) hp (by
    rcases ho with e | ⟨b', e, hb⟩
    · rw [e]; exact hv
    · rw [e]; intro e2; cases e2; omega)).trans (h.block i hi hp hv)⟩
theorem Own.trans {a b : World} {v v1 v2 : Value} (h : Own a v v1) (k : Own b v1 v2) (hs : a.heap.size ≤ b.heap.size) : Own a v v2 := by
  rcases k with e | ⟨x, e, hx⟩
  · rcases h with e' | ⟨y, e', hy⟩
    · exact .inl (e.trans e')
    · exact .inr ⟨y, e.trans e', hy⟩
  · exact .inr ⟨x, e, Nat.le_trans hs hx⟩
theorem Keep.alloc {pb : Nat} {ob : Option Nat} {a b : World} (h : Keep pb ob a b) (o : Obj) : Keep pb ob a (b.alloc o) :=
  ⟨h.os, h.tape, h.output, Nat.le_trans h.size (by simp), fun i hi hp hv => (heap_alloc_old b o (r := i) (Nat.lt_of_lt_of_le hi h.size)).trans (h.block i hi hp hv)⟩
theorem info36 : (Tryd.prog.info? 36).map (fun i => (i.zero, i.size, i.bytes)) = some (some (.agg #[.int .i64 0, .string ⟨#[]⟩, .string ⟨#[]⟩, .int .i64 0]), 4, 48) := by kernel_rfl
/-- how it stands: the text left, the row of nodes, how deep, the code -/
structure St (pb : Nat) (s : ByteArray) (d c : Int) (l : List UInt8) (out : Value) (m : Nat) (xs : List Value) (w : World) : Prop where
  at_ : At pb s out d c w l w
  row : w.ownsRow (pb + 1) 36 4 out m xs
/-- what 'value' leaves -/
def VPost (pb : Nat) (s : ByteArray) (d : Int) (w0 : World) (out : Value) (nodes : List TJ.N) (r : TJ.R (List TJ.N)) (e : Ending) (w' : World) : Prop :=
  ∃ (b : Bool) (out' : Value) (c' : Int) (m : Nat) (xs : List Value) (l' : List UInt8), e = .returned (.bool b) ∧ St pb s d c' l' out' m xs w' ∧ nodes.length < m ∧ Keep pb out.ownBlock w0 w' ∧ Own w0 out out'
    ∧ match r with
      | .ok v rest => b = true ∧ c' = 250 ∧ l' = rest ∧ m = nodes.length + v.length ∧ xs = nvals (nodes ++ v)
      | .no deep rest => b = false ∧ c' = (if deep then 251 else 250) ∧ l' = rest
/-- what is asked where 'value' is called -/
structure VPre (k : Nat) (pb : Nat) (s : ByteArray) (D : Nat) (d : Int) (l : List UInt8) (out : Value) (nodes : List TJ.N) (w : World) : Prop where
  base : Base pb w
  three : 3 < pb
  size : s.size ≤ 33554432
  deep : d + D = 64
  low : 0 ≤ d
  room : nodes.length + l.length ≤ s.size + k
  st : St pb s d 250 l out nodes.length (nvals nodes) w
def ValC (D : Nat) : Prop := ∀ (pb : Nat) (s : ByteArray) (d : Int) (w0 : World) (l key : List UInt8) (out : Value) (nodes : List TJ.N), VPre 0 pb s D d l out nodes w0 →
  Calls Tryd.prog 26 #[.pointer (some ⟨pb, 0, none⟩), .string ⟨key.toArray⟩] w0 (VPost pb s d w0 out nodes (TJ.value D key l))
theorem alloc2 (w : World) (o1 o2 : Obj) : ((w.alloc o1).alloc o2).heap[w.heap.size + 1]? = some o2 := by
  have h := heap_alloc_new (w.alloc o1) o2
  rwa [show (w.alloc o1).heap.size = w.heap.size + 1 by simp] at h
theorem row_form {w : World} {base : Nat} {e : TypeId} {size n : Nat} {v : Value} {xs : List Value} (h : w.ownsRow base e size v n xs) (hn : 0 < n) :
    ∃ g cap cur, v = .slice (some ⟨g, 0, none⟩) n cap ∧ base ≤ g ∧ w.heap[g]? = some (.cells cur e (0, 0)) ∧ cur.toList.take (n * size) = xs ∧ n ≤ cap ∧ cap ≤ maxLen ∧ cur.size = cap * size := by
  rcases h.2 with ⟨-, h0⟩ | ⟨g, cap, cur, hv, hg, hh, r1, r2, r3, r4⟩
  · omega
  · exact ⟨g, cap, cur, hv, hg, hh, r4, r1, r2, r3⟩
/-- the cells of a block -/
theorem block_cells {w : World} {b : Nat} {cs : Array Value} {t : TypeId} (h : w.heap[b]? = some (.cells cs t (0, 0))) : (∀ (i : Nat) (v : Value), cs[i]? = some v → w.cell? ⟨b, i, none⟩ = some v) ∧ ∀ i, w.frozen? ⟨b, i, none⟩ = false := by
  refine ⟨fun i v hv => ?_, fun i => ?_⟩
  · unfold World.cell?
    rw [h]
    exact hv
  · unfold World.frozen?
    rw [h]
    simp
theorem nvals_one {a : Int} {b e : ByteArray} {g : Int} (u : Value) (h : u ∈ (#[.int .i64 a, .string b, .string e, .int .i64 g] : Array Value).toList) : u.oneCell' = true := by
  simp at h
  rcases h with rfl | rfl | rfl | rfl <;> rfl
def hole (key : List UInt8) : TJ.N := ⟨0, key, [], 0⟩
/-- within 'value': the node that is being made lies in a block of its own -/
structure Mid (pb : Nat) (s : ByteArray) (d : Int) (w0 : World) (out : Value) (key : List UInt8) (kd : Int) (tx : ByteArray) (kids c : Int) (l : List UInt8) (out' : Value) (m : Nat) (xs : List Value) (w : World) : Prop where
  st : St pb s d c l out' m xs w
  nb : w.heap[w0.heap.size]? = some (.cells #[.int .i64 kd, .string ⟨key.toArray⟩, .string tx, .int .i64 kids] 36 (0, 0))
  ne : out'.ownBlock ≠ some w0.heap.size
  keep : Keep pb out.ownBlock w0 w
  own : Own w0 out out'
  new : pb < w0.heap.size
theorem Mid.lt {pb : Nat} {s : ByteArray} {d : Int} {w0 : World} {out : Value} {key : List UInt8} {kd : Int} {tx : ByteArray} {kids c : Int} {l : List UInt8} {out' : Value} {m : Nat} {xs : List Value} {w : World} (h : Mid pb s d w0 out key kd tx kids c l out' m xs w) : w0.heap.size < w.heap.size := by
  apply Decidable.byContradiction
  intro hn
  have := h.nb
  rw [Array.getElem?_eq_none (by omega)] at this
  cases this
theorem Mid.but {pb : Nat} {s : ByteArray} {d : Int} {w0 : World} {out : Value} {key : List UInt8} {kd : Int} {tx : ByteArray} {kids c : Int} {l : List UInt8} {out' : Value} {m : Nat} {xs : List Value} {w : World} (h : Mid pb s d w0 out key kd tx kids c l out' m xs w)
    {d2 c2 : Int} {l2 : List UInt8} {w2 : World} (hA : At pb s out' d2 c2 w2 l2 w2) (hB : But pb w w2) : Mid pb s d2 w0 out key kd tx kids c2 l2 out' m xs w2 where
  st := ⟨hA, own_but h.st.row hB (by omega)⟩
  nb := (hB.block _ h.lt (by have := h.new; omega)).trans h.nb
  ne := h.ne
  keep := h.keep.trans (Keep.of_but _ hB) h.own
  own := h.own
  new := h.new
theorem Mid.step {pb : Nat} {s : ByteArray} {d : Int} {w0 : World} {out : Value} {key : List UInt8} {kd : Int} {tx : ByteArray} {kids c : Int} {l : List UInt8} {out' : Value} {m : Nat} {xs : List Value} {w : World} (h : Mid pb s d w0 out key kd tx kids c l out' m xs w)
    {l2 : List UInt8} {w2 : World} (hA : At pb s out' d c w l2 w2) : Mid pb s d w0 out key kd tx kids c l2 out' m xs w2 := h.but hA.here hA.but
theorem Mid.draws {pb : Nat} {s : ByteArray} {d : Int} {w0 : World} {out : Value} {key : List UInt8} {kd : Int} {tx : ByteArray} {kids c : Int} {l : List UInt8} {out' : Value} {m : Nat} {xs : List Value} {w : World} (h : Mid pb s d w0 out key kd tx kids c l out' m xs w) (n : Nat) :
    Mid pb s d w0 out key kd tx kids c l out' m xs (w.drewN n) := h.but (h.st.at_.draws n).here ((But.refl _ _).draws n)
theorem Mid.cells {pb : Nat} {s : ByteArray} {d : Int} {w0 : World} {out : Value} {key : List UInt8} {kd : Int} {tx : ByteArray} {kids c : Int} {l : List UInt8} {out' : Value} {m : Nat} {xs : List Value} {w : World} (h : Mid pb s d w0 out key kd tx kids c l out' m xs w) :
    w.cell? ⟨w0.heap.size, 0, none⟩ = some (.int .i64 kd) ∧ w.cell? ⟨w0.heap.size, 1, none⟩ = some (.string ⟨key.toArray⟩) ∧ w.cell? ⟨w0.heap.size, 2, none⟩ = some (.string tx) ∧ w.cell? ⟨w0.heap.size, 3, none⟩ = some (.int .i64 kids) ∧ ∀ i, w.frozen? ⟨w0.heap.size, i, none⟩ = false :=
  ⟨(block_cells h.nb).1 0 _ rfl, (block_cells h.nb).1 1 _ rfl, (block_cells h.nb).1 2 _ rfl, (block_cells h.nb).1 3 _ rfl, (block_cells h.nb).2⟩
theorem setCell_other {w : World} {b k o : Nat} {v : Value} (h : k ≠ b) : (w.setCell ⟨b, o, none⟩ v).heap[k]? = w.heap[k]? := Below.heap_setCell _ _ _ _ h
theorem setCell_block {w : World} {b o : Nat} {v : Value} {cs : Array Value} {t : TypeId} (h : w.heap[b]? = some (.cells cs t (0, 0))) : (w.setCell ⟨b, o, none⟩ v).heap[b]? = some (.cells (cs.setIfInBounds o v) t (0, 0)) := by
  unfold World.setCell
  simp only [Array.getElem?_modify, if_true]
  rw [h]
  rfl
/-- a store into the node that is being made -/
theorem Mid.put {pb : Nat} {s : ByteArray} {d : Int} {w0 : World} {out : Value} {key : List UInt8} {kd : Int} {tx : ByteArray} {kids c : Int} {l : List UInt8} {out' : Value} {m : Nat} {xs : List Value} {w : World} (h : Mid pb s d w0 out key kd tx kids c l out' m xs w)
    (o : Nat) (v : Value) {kd2 kids2 : Int} {tx2 : ByteArray} (hv : (#[.int .i64 kd, .string ⟨key.toArray⟩, .string tx, .int .i64 kids] : Array Value).setIfInBounds o v = #[.int .i64 kd2, .string ⟨key.toArray⟩, .string tx2, .int .i64 kids2]) :
    Mid pb s d w0 out key kd2 tx2 kids2 c l out' m xs (w.setCell ⟨w0.heap.size, o, none⟩ v) where
  st := by
    obtain ⟨k, h1, h2, h3, -⟩ := h.st.at_
    refine ⟨⟨k, h1, h2, ?_, But.refl _ _⟩, ?_⟩
    · unfold Par
      rw [setCell_other (by have := h.new; omega)]
      exact h3
    · obtain ⟨q1, q2⟩ := h.st.row
      refine ⟨q1, ?_⟩
      rcases q2 with q2 | ⟨g, cap, cur, hv, hg, hh, r⟩
      · exact .inl q2
      · refine .inr ⟨g, cap, cur, hv, hg, ?_, r⟩
        rw [setCell_other (by
          intro e
          apply h.ne
          rw [hv]
          simp [Value.ownBlock, e])]
        exact hh
  nb := by rw [setCell_block h.nb, hv]
  ne := h.ne
  keep := ⟨h.keep.os, h.keep.tape, h.keep.output, by have := h.keep.size; simpa [World.setCell] using this, fun k hk hp hv => (setCell_other (by omega)).trans (h.keep.block k hk hp hv)⟩
  own := h.own
  new := h.new
/-- a store into the parser's block -/
theorem Par.setd {w : World} {pb : Nat} {s : ByteArray} {at_ : Nat} {out : Value} {d c : Int} (h : Par w pb s at_ out d c) (m : Int) : Par (w.setCell ⟨pb, 3, none⟩ (.int .i64 m)) pb s at_ out m c := by
  unfold Par at *
  rw [setCell_block h]
  rfl
theorem Par.setc {w : World} {pb : Nat} {s : ByteArray} {at_ : Nat} {out : Value} {d c : Int} (h : Par w pb s at_ out d c) (m : Int) : Par (w.setCell ⟨pb, 4, none⟩ (.int .i64 m)) pb s at_ out d m := by
  unfold Par at *
  rw [setCell_block h]
  rfl
theorem Par.seto {w : World} {pb : Nat} {s : ByteArray} {at_ : Nat} {out : Value} {d c : Int} (h : Par w pb s at_ out d c) (v : Value) : Par (w.setCell ⟨pb, 2, none⟩ v) pb s at_ v d c := by
  unfold Par at *
  rw [setCell_block h]
  rfl
theorem Mid.setd {pb : Nat} {s : ByteArray} {d : Int} {w0 : World} {out : Value} {key : List UInt8} {kd : Int} {tx : ByteArray} {kids c : Int} {l : List UInt8} {out' : Value} {m : Nat} {xs : List Value} {w : World} (h : Mid pb s d w0 out key kd tx kids c l out' m xs w) (d2 : Int) :
    Mid pb s d2 w0 out key kd tx kids c l out' m xs (w.setCell ⟨pb, 3, none⟩ (.int .i64 d2)) := by
  obtain ⟨k, h1, h2, h3, -⟩ := h.st.at_
  exact h.but ⟨k, h1, h2, h3.setd d2, But.refl _ _⟩ ((But.refl _ _).set 3 _)
theorem Mid.setc {pb : Nat} {s : ByteArray} {d : Int} {w0 : World} {out : Value} {key : List UInt8} {kd : Int} {tx : ByteArray} {kids c : Int} {l : List UInt8} {out' : Value} {m : Nat} {xs : List Value} {w : World} (h : Mid pb s d w0 out key kd tx kids c l out' m xs w) (c2 : Int) :
    Mid pb s d w0 out key kd tx kids c2 l out' m xs (w.setCell ⟨pb, 4, none⟩ (.int .i64 c2)) := by
  obtain ⟨k, h1, h2, h3, -⟩ := h.st.at_
  exact h.but ⟨k, h1, h2, h3.setc c2, But.refl _ _⟩ ((But.refl _ _).set 4 _)
/-- behind 'many' -/
theorem Mid.far {pb : Nat} {s : ByteArray} {d : Int} {w0 : World} {out : Value} {key : List UInt8} {kd : Int} {tx : ByteArray} {kids c : Int} {l : List UInt8} {out' : Value} {m : Nat} {xs : List Value} {w : World} (h : Mid pb s d w0 out key kd tx kids c l out' m xs w)
    {c2 : Int} {l2 : List UInt8} {out2 : Value} {m2 : Nat} {xs2 : List Value} {w2 : World} (hs : St pb s d c2 l2 out2 m2 xs2 w2) (hk : Keep pb out'.ownBlock w w2) (ho : Own w out' out2) : Mid pb s d w0 out key kd tx kids c2 l2 out2 m2 xs2 w2 where
  st := hs
  nb := (hk.block _ h.lt (by have := h.new; omega) (fun e => h.ne e.symm)).trans h.nb
  ne := by
    rcases ho with e | ⟨b, e, hb⟩
    · rw [e]; exact h.ne
    · rw [e]; intro e2; cases e2; have := h.lt; omega
  keep := h.keep.trans hk h.own
  own := h.own.trans ho h.keep.size
  new := h.new
/-- what 'many' leaves -/
def MPost (pb : Nat) (s : ByteArray) (d : Int) (w0 : World) (out : Value) (nodes : List TJ.N) (obj : Bool) (r : TJ.R (Nat × List TJ.N)) (e : Ending) (w' : World) : Prop :=
  ∃ (b : Bool) (kd cnt : Int) (out' : Value) (c' : Int) (m : Nat) (xs : List Value) (l' : List UInt8), e = .returned (.tuple #[.int .i64 kd, .int .i64 cnt, .bool b]) ∧ St pb s d c' l' out' m xs w' ∧ nodes.length ≤ m ∧ Keep pb out.ownBlock w0 w' ∧ Own w0 out out'
    ∧ match r with
      | .ok (n, v) rest => b = true ∧ kd = (if obj then 7 else 6) ∧ cnt = n ∧ c' = 250 ∧ l' = rest ∧ m = nodes.length + v.length ∧ xs = nvals (nodes ++ v)
      | .no deep rest => b = false ∧ c' = (if deep then 251 else 250) ∧ l' = rest
def ManyC (D : Nat) : Prop := ∀ (pb : Nat) (s : ByteArray) (d : Int) (w0 : World) (l : List UInt8) (out : Value) (nodes : List TJ.N), VPre 1 pb s D d l out nodes w0 → TJ.has [91, 123] l = true →
  Calls Tryd.prog 35 #[.pointer (some ⟨pb, 0, none⟩)] w0 (MPost pb s d w0 out nodes (TJ.has [123] l) (TJ.many (TJ.value D) l))
/-- behind the choice: what stands in the slots -/
def VMid (pb : Nat) (s : ByteArray) (d : Int) (w0 : World) (out : Value) (nodes : List TJ.N) (key : List UInt8) (r : TJ.R (List TJ.N)) (s8 : Value) (w : World) : Prop :=
  ∃ (b : Bool) (kd kids : Int) (tx : List UInt8) (l' : List UInt8) (c' : Int) (out' : Value) (m : Nat) (xs : List Value), s8 = .bool b ∧ Mid pb s d w0 out key kd ⟨tx.toArray⟩ kids c' l' out' m xs w ∧ nodes.length < m
    ∧ match r with
      | .ok v rest => b = true ∧ c' = 250 ∧ l' = rest ∧ ∃ v', v = ⟨kd, key, tx, kids⟩ :: v' ∧ m = nodes.length + 1 + v'.length ∧ xs = nvals (nodes ++ hole key :: v')
      | .no deep rest => b = false ∧ c' = (if deep then 251 else 250) ∧ l' = rest
theorem vmid_leaf {pb : Nat} {s : ByteArray} {d : Int} {w0 : World} {out : Value} {nodes : List TJ.N} {key tx : List UInt8} {kd : Int} {r : TJ.R (List TJ.N)} {b : Bool} {l2 : List UInt8} {out' : Value} {w : World} (hr : r = TJ.leaf kd key tx (b, l2))
    (hm : Mid pb s d w0 out key kd ⟨tx.toArray⟩ 0 250 l2 out' (nodes.length + 1) (nvals (nodes ++ [hole key])) w) : VMid pb s d w0 out nodes key r (.bool b) w := by
  refine ⟨b, kd, 0, tx, l2, 250, out', _, _, rfl, hm, by omega, ?_⟩
  subst hr
  unfold TJ.leaf
  cases b with
  | true => exact ⟨rfl, rfl, rfl, [], rfl, by simp, rfl⟩
  | false => exact ⟨rfl, rfl, rfl⟩
theorem ba_eq {x : ByteArray} {t : List UInt8} (h : bl x = t) : x = ⟨t.toArray⟩ := by
  apply ByteArray.ext
  rw [← h]
theorem Keep.base {pb : Nat} {w w' : World} {v : Value} {e : TypeId} {size n : Nat} {xs : List Value} (h : Keep pb v.ownBlock w w') (hb : Base pb w) (h3 : 3 < pb) (hO : w.ownsRow (pb + 1) e size v n xs) : Base pb w' :=
  ⟨fun c => by
    have hc := hb.says c
    have hlt := World.block_lt_of_cell? w _ hc
    unfold World.cell? at hc ⊢
    rw [h.block 3 hlt (by omega) (fun e => by have := (hO.lt 3 e.symm).1; omega)]
    exact hc, hb.ne⟩
theorem leaf_of (kd : Int) (key tx : List UInt8) (p : Bool × List UInt8) : TJ.leaf kd key tx p = TJ.leaf kd key tx (p.1, p.2) := rfl
theorem number_short (l : List UInt8) : (TJ.number l).2.length ≤ l.length := by
  have h := TJ.number_good
  cases hq : TJ.ofB (TJ.number l) with
  | ok a r =>
    obtain ⟨x, hx, -⟩ := h.s (l := l) hq
    have e : (TJ.number l).2 = r := by
      revert hq
      generalize TJ.number l = q
      obtain ⟨b, l2⟩ := q
      cases b <;> intro hq <;> cases hq
      rfl
    rw [e, hx]
    simp
  | no d r =>
    obtain ⟨x, hx⟩ := h.n (l := l) hq
    have e : (TJ.number l).2 = r := by
      revert hq
      generalize TJ.number l = q
      obtain ⟨b, l2⟩ := q
      cases b <;> intro hq <;> cases hq
      rfl
    rw [e, hx]
    simp
theorem value_start {pb : Nat} {s : ByteArray} {d : Int} {w0 w2 : World} {a0 : Nat} {l key : List UInt8} {nodes : List TJ.N} {out v1 : Value} {N X : Array Value} (HP : Par w0 pb s a0 out d 250) (HP2 : (bl s).drop a0 = l) (HA0 : a0 = s.size - l.length) (hpb : pb < w0.heap.size)
    (HO : w0.ownsRow (pb + 1) 36 4 out nodes.length (nvals nodes)) (HO2 : w2.ownsRow (pb + 1) 36 4 v1 (nodes.length + 1) (nvals nodes ++ nvals1 (hole key))) (HB2 : Below (pb + 1) w0 w2)
    (HG : ((w0.alloc (.cells N 36)).alloc (.cells X 36)).grownBy w2 out.ownBlock) (HOW : v1.ownBlock = out.ownBlock ∨ v1.ownBlock = some ((w0.alloc (.cells N 36)).alloc (.cells X 36)).heap.size) (hN : N = (nvals1 (hole key)).toArray) :
    Mid pb s d w0 out key 0 ⟨#[]⟩ 0 250 l v1 (nodes.length + 1) (nvals (nodes ++ [hole key])) (w2.setCell ⟨pb, 2, none⟩ v1) where
  st := ⟨⟨a0, by omega, HP2, (HP.below HB2 (by omega)).seto v1, But.refl _ _⟩, by
    rw [nvals_app]
    exact own_but HO2 ((But.refl pb w2).set 2 v1) (by omega)⟩
  nb := by
    rw [setCell_other (by omega), HG.block _ (by simp; omega) (fun e => by have := (HO.lt _ e.symm).2; omega), heap_alloc_old _ _ (by simp), heap_alloc_new, hN]
    rfl
  ne := by
    intro e
    rcases HOW with h | h
    · rw [h] at e
      have := (HO.lt _ e).2
      omega
    · rw [h] at e
      have e2 := Option.some.inj e
      simp at e2
      omega
  keep := ⟨HB2.os, HB2.tape, HB2.output, by have := HB2.size; simpa [World.setCell] using this, fun k hk hp hv => by
    rw [setCell_other hp, HG.block _ (by simp; omega) hv, heap_alloc_old _ _ (by simp; omega), heap_alloc_old _ _ hk]⟩
  own := by
    rcases HOW with h | h
    · exact .inl h
    · exact .inr ⟨_, h, by simp; omega⟩
  new := hpb
/-- four cells laid anew -/
def put4 (w : World) (g o : Nat) (a b c d : Value) : World := (((w.setCell ⟨g, o, none⟩ a).setCell ⟨g, o + 1, none⟩ b).setCell ⟨g, o + 2, none⟩ c).setCell ⟨g, o + 3, none⟩ d
theorem put4_block {w : World} {g o : Nat} {a b c d : Value} {cs : Array Value} {t : TypeId} (h : w.heap[g]? = some (.cells cs t (0, 0))) :
    (put4 w g o a b c d).heap[g]? = some (.cells ((((cs.setIfInBounds o a).setIfInBounds (o + 1) b).setIfInBounds (o + 2) c).setIfInBounds (o + 3) d) t (0, 0)) :=
  setCell_block (setCell_block (setCell_block (setCell_block h)))
theorem put4_other {w : World} {g o k : Nat} {a b c d : Value} (h : k ≠ g) : (put4 w g o a b c d).heap[k]? = w.heap[k]? := by
  unfold put4
  rw [setCell_other h, setCell_other h, setCell_other h, setCell_other h]
theorem set4 {A R : List Value} {o : Nat} (ho : A.length = o) (h0 h1 h2 h3 a b c d : Value) : (((((A ++ h0 :: h1 :: h2 :: h3 :: R).set o a).set (o + 1) b).set (o + 2) c).set (o + 3) d) = A ++ a :: b :: c :: d :: R := by
  subst ho
  simp [List.set_append]
theorem put4_row {w : World} {base g n m cap : Nat} {a b c d : Value} {xs : List Value} (h : w.ownsRow base 36 4 (.slice (some ⟨g, 0, none⟩) m cap) m xs) (hn : n < m) :
    ∃ xs', (put4 w g (n * 4) a b c d).ownsRow base 36 4 (.slice (some ⟨g, 0, none⟩) m cap) m xs' ∧ xs' = ((((xs.set (n * 4) a).set (n * 4 + 1) b).set (n * 4 + 2) c).set (n * 4 + 3) d) := by
  obtain ⟨g', cap', cur, hv, hg, hh, hr, hc, hx, hz⟩ := row_form h (by omega)
  cases hv
  refine ⟨_, ⟨?_, .inr ⟨g, cap, _, rfl, hg, put4_block hh, hc, hx, ?_, ?_⟩⟩, rfl⟩
  · have := h.1
    simpa using this
  · simpa using hz
  · rw [← hr]
    simp [List.take_set]
theorem put4_same (w : World) (g o : Nat) (a b c d : Value) : (put4 w g o a b c d).os = w.os ∧ (put4 w g o a b c d).tape = w.tape ∧ (put4 w g o a b c d).output = w.output ∧ (put4 w g o a b c d).heap.size = w.heap.size := by
  refine ⟨rfl, rfl, rfl, ?_⟩
  simp [put4, World.setCell]
theorem value_end {pb : Nat} {s : ByteArray} {d : Int} {w0 w : World} {out : Value} {key tx : List UInt8} {nodes : List TJ.N} {kd kids c' : Int} {l' : List UInt8} {g cap m : Nat} {xs : List Value} {b : Bool} {r : TJ.R (List TJ.N)}
    (hm : Mid pb s d w0 out key kd ⟨tx.toArray⟩ kids c' l' (.slice (some ⟨g, 0, none⟩) m cap) m xs w) (hlt : nodes.length < m)
    (hres : match r with
      | .ok v rest => b = true ∧ c' = 250 ∧ l' = rest ∧ ∃ v', v = ⟨kd, key, tx, kids⟩ :: v' ∧ m = nodes.length + 1 + v'.length ∧ xs = nvals (nodes ++ hole key :: v')
      | .no deep rest => b = false ∧ c' = (if deep then 251 else 250) ∧ l' = rest) :
    VPost pb s d w0 out nodes r (.returned (.bool b)) (put4 w g (nodes.length * 4) (.int .i64 kd) (.string ⟨key.toArray⟩) (.string ⟨tx.toArray⟩) (.int .i64 kids)).drew := by
  obtain ⟨xs', hO, hx⟩ := put4_row (a := .int .i64 kd) (b := .string ⟨key.toArray⟩) (c := .string ⟨tx.toArray⟩) (d := .int .i64 kids) hm.st.row hlt
  obtain ⟨e1, e2, e3, e4⟩ := put4_same w g (nodes.length * 4) (.int .i64 kd) (.string ⟨key.toArray⟩) (.string ⟨tx.toArray⟩) (.int .i64 kids)
  have ho := fun k => put4_other (w := w) (g := g) (o := nodes.length * 4) (k := k) (a := .int .i64 kd) (b := .string ⟨key.toArray⟩) (c := .string ⟨tx.toArray⟩) (d := .int .i64 kids)
  have hgp : pb + 1 ≤ g := (hm.st.row.lt g rfl).1
  generalize put4 w g (nodes.length * 4) (.int .i64 kd) (.string ⟨key.toArray⟩) (.string ⟨tx.toArray⟩) (.int .i64 kids) = W at *
  obtain ⟨k, h1, h2, h3, -⟩ := hm.st.at_
  have hP : Par W pb s k (.slice (some ⟨g, 0, none⟩) m cap) d c' := (ho pb (by omega)).trans h3
  have hsz : w0.heap.size ≤ W.heap.size := by rw [e4]; exact hm.keep.size
  have hkeep : ∀ q, q < w0.heap.size → q ≠ pb → some q ≠ out.ownBlock → W.heap[q]? = w0.heap[q]? := fun q hq hp hv => by
    rw [ho q, hm.keep.block q hq hp hv]
    intro e
    rcases hm.own with h | ⟨b', h, hb⟩
    · exact hv (by rw [← h, e]; rfl)
    · have : some g = some b' := h
      have := Option.some.inj this
      omega
  refine ⟨b, _, c', m, xs', l', rfl, ⟨⟨k, h1, h2, hP, But.refl _ _⟩, hO⟩, hlt, ⟨e1.trans hm.keep.os, e2.trans hm.keep.tape, e3.trans hm.keep.output, hsz, hkeep⟩, hm.own, ?_⟩
  cases r with
  | no deep rest => exact hres
  | ok v rest =>
    obtain ⟨q1, q2, q3, v', rfl, q5, q6⟩ := hres
    refine ⟨q1, q2, q3, by simp only [List.length_cons]; omega, ?_⟩
    rw [hx, q6, nvals_app, nvals_app]
    have : (nvals nodes).length = nodes.length * 4 := by rw [nvals_len]; omega
    exact set4 this _ _ _ _ _ _ _ _
set_option maxRecDepth 100000 in
set_option maxHeartbeats 8000000 in
theorem value_at (D : Nat) (hM : ∀ D', D = D' + 1 → ManyC D') : ValC D := by
  intro pb s d w0 l key out nodes h
  have hA := h.st.at_
  have hO := h.st.row
  have hsz := h.size
  have hroom := h.room
  have HH := Lib.hid h
  have HM := Lib.hid hM
  obtain ⟨r, hr⟩ : ∃ r, r = TJ.value D key l := ⟨_, rfl⟩
  rw [← hr]
  have HR := Lib.hid hr
  obtain ⟨hp1, hp2, hP, -⟩ := hA.place
  obtain ⟨a0, ha0⟩ : ∃ a0, a0 = s.size - l.length := ⟨_, rfl⟩
  rw [← ha0] at hp2 hP
  obtain ⟨c0, c1, c2, c3, c4, fz⟩ := hP.cells
  have f2 := fz ⟨pb, 2, none⟩ rfl
  have hpb := hP.lt
  have HO := Lib.hid hO
  have hvo : ∃ ad cp, out = .slice ad nodes.length cp := by
    rcases hO.2 with ⟨rfl, hz⟩ | ⟨g, cap, cur, rfl, -⟩
    · exact ⟨none, 0, by rw [hz]⟩
    · exact ⟨_, _, rfl⟩
  obtain ⟨ad, cp, rfl⟩ := hvo
  have HP := Lib.hid hP
  have HP2 := Lib.hid hp2
  have HA0 := Lib.hid ha0
  have hlen : nodes.length ≤ 33554432 := by omega
  clear h hA hO hp2 fz ha0 hp1 hM hr hP
  go_enter Tryd.func26, Tryd.ntmps26
  go_upto_region 3 with fail
  go_cut [] (fun wx => ∃ g1 cp1, Mid pb s d w0 (.slice ad nodes.length cp) key 0 ⟨#[]⟩ 0 250 l (.slice (some ⟨g1, 0, none⟩) (nodes.length + 1) cp1) (nodes.length + 1) (nvals (nodes ++ [hole key])) wx)
  case first =>
    go_region_law (go_must (
      refine step_append_many (w0 := w0) (pb + 1) rfl (.tmp 20) (.tmp 22) 22 36 (.agg #[.int .i64 0, .string ⟨#[]⟩, .string ⟨#[]⟩, .int .i64 0]) 4 48 rfl Tryd.underlying22 info36 rfl (by decide) (by decide) (.slice ad nodes.length cp) nodes.length 1 (w0.heap.size + 1) _ (#[.int .i64 0, .string ⟨key.toArray⟩, .string ⟨#[]⟩, .int .i64 0]) rfl rfl rfl nvals_one ?_ ((HO.out.alloc _).alloc _) ?_ ?_ ?_ ?_
      · exact alloc2 _ _ _
      · exact (Below.alloc (Below.alloc (Below.refl (pb + 1) w0) (show pb + 1 ≤ w0.heap.size by omega) _) (by simp; omega) _).drew
      · simp; omega
      · omega
      intro v1 w2 HO2 HB2 hg how
      obtain ⟨g1, cp1, cur1, hv1, hg1, hh1, hr1⟩ := row_form HO2 (by omega)
      subst hv1
      have HR1 := Lib.hid hr1
      have HH1 := Lib.hid hh1
      have HG := Lib.hid hg
      have HOW := Lib.hid how
      clear hr1 hh1 hg how
      have f2' : w2.frozen? ⟨pb, 2, none⟩ = false := (HB2.frozen (p := ⟨pb, 2, none⟩) (by simp)).trans f2
      have c2' : w2.cell? ⟨pb, 2, none⟩ = some (.slice ad nodes.length cp) := (HB2.cell (p := ⟨pb, 2, none⟩) (by simp)).trans c2))
    all_goals
      go_wp2_with fail
      go_meet
      exact ⟨g1, cp1, value_start HP.out HP2.out HA0.out hpb HO.out HO2 HB2 ⟨HG.out.os, HG.out.tape, HG.out.output, HG.out.size, HG.out.block⟩ HOW.out rfl⟩
  case rest =>
    obtain ⟨g1, cp1, hmid⟩ := hcut
    obtain ⟨hq1, hq2, hqP, -⟩ := hmid.st.at_.place
    rw [← HA0.out] at hqP
    obtain ⟨c0, c1, c2, c3, c4, fz⟩ := hqP.cells
    have f3 := fz ⟨pb, 3, none⟩ rfl
    have f4 := fz ⟨pb, 4, none⟩ rfl
    have HMid := Lib.hid hmid
    have hr := HR.out
    rw [TJ.value.eq_def] at hr
    dsimp only at hr
    clear hmid hq1 hq2 hqP fz HR HP
    go_upto_block 0 with (fail)
    go_cut [8] (fun s8 wx => VMid pb s d w0 (.slice ad nodes.length cp) nodes key r s8 wx)
    case first =>
      clear c0 c1 c2 c3 c4 f3 f4
      have hi := Lib.hid (is_at ⟨#[110]⟩ [110] rfl HMid.out.st.at_ (by omega))
      by_cases hh : TJ.has [110] l = true
      · rw [if_pos hh] at hr
        rw [hh] at hi
        have HR := Lib.hid hr
        clear hr hh
        go_wp2_with fail
        refine hi.out.mono ?_
        rintro e w1 ⟨rfl, n, rfl⟩
        have HM2 := Lib.hid (HMid.out.draws n)
        clear hi HMid
        generalize wc.drewN n = wd at *
        have hw := Lib.hid (word_at ⟨#[110, 117, 108, 108]⟩ HM2.out.st.at_ (by omega) (by decide))
        have HR2 := HR.out
        rw [show bl ⟨#[110, 117, 108, 108]⟩ = [110, 117, 108, 108] from rfl] at hw
        clear HR
        generalize TJ.word [110, 117, 108, 108] l = q at *
        obtain ⟨b, l2⟩ := q
        have HR := Lib.hid HR2
        clear HR2
        go_wp2_with fail
        refine hw.out.mono ?_
        rintro e w2 ⟨rfl, hA2⟩
        have HM3 := Lib.hid (HM2.out.step hA2)
        obtain ⟨n0, n1, n2, n3, fn⟩ := HM3.out.cells
        have fn0 := fn 0
        clear hA2 hw HM2 fn
        go_wp2_with fail
        go_meet
        exact vmid_leaf HR.out (HM3.out.put 0 (.int .i64 1) rfl)
      have hf : TJ.has [110] l = false := by simpa using hh
      rw [if_neg hh] at hr
      rw [hf] at hi
      have HRR := Lib.hid hr
      clear hr hh hf
      go_wp2_with fail
      refine hi.out.mono ?_
      rintro e w1 ⟨rfl, n, rfl⟩
      have HM2 := Lib.hid (HMid.out.draws n)
      clear hi HMid
      generalize wc.drewN n = wd at *
      clear wc
      rename World => wc
      have HMid := HM2
      have hr := HRR.out
      clear HM2 HRR
      have hi := Lib.hid (is_at ⟨#[102]⟩ [102] rfl HMid.out.st.at_ (by omega))
      by_cases hh : TJ.has [102] l = true
      · rw [if_pos hh] at hr
        rw [hh] at hi
        have HR := Lib.hid hr
        clear hr hh
        go_wp2_with fail
        refine hi.out.mono ?_
        rintro e w1 ⟨rfl, n, rfl⟩
        have HM2 := Lib.hid (HMid.out.draws n)
        clear hi HMid
        generalize wc.drewN n = wd at *
        have hw := Lib.hid (word_at ⟨#[102, 97, 108, 115, 101]⟩ HM2.out.st.at_ (by omega) (by decide))
        have HR2 := HR.out
        rw [show bl ⟨#[102, 97, 108, 115, 101]⟩ = [102, 97, 108, 115, 101] from rfl] at hw
        clear HR
        generalize TJ.word [102, 97, 108, 115, 101] l = q at *
        obtain ⟨b, l2⟩ := q
        have HR := Lib.hid HR2
        clear HR2
        go_wp2_with fail
        refine hw.out.mono ?_
        rintro e w2 ⟨rfl, hA2⟩
        have HM3 := Lib.hid (HM2.out.step hA2)
        obtain ⟨n0, n1, n2, n3, fn⟩ := HM3.out.cells
        have fn0 := fn 0
        clear hA2 hw HM2 fn
        go_wp2_with fail
        go_meet
        exact vmid_leaf HR.out (HM3.out.put 0 (.int .i64 2) rfl)
      have hf : TJ.has [102] l = false := by simpa using hh
      rw [if_neg hh] at hr
      rw [hf] at hi
      have HRR := Lib.hid hr
      clear hr hh hf
      go_wp2_with fail
      refine hi.out.mono ?_
      rintro e w1 ⟨rfl, n, rfl⟩
      have HM2 := Lib.hid (HMid.out.draws n)
      clear hi HMid
      generalize wc.drewN n = wd at *
      clear wc
      rename World => wc
      have HMid := HM2
      have hr := HRR.out
      clear HM2 HRR
      have hi := Lib.hid (is_at ⟨#[116]⟩ [116] rfl HMid.out.st.at_ (by omega))
      by_cases hh : TJ.has [116] l = true
      · rw [if_pos hh] at hr
        rw [hh] at hi
        have HR := Lib.hid hr
        clear hr hh
        go_wp2_with fail
        refine hi.out.mono ?_
        rintro e w1 ⟨rfl, n, rfl⟩
        have HM2 := Lib.hid (HMid.out.draws n)
        clear hi HMid
        generalize wc.drewN n = wd at *
        have hw := Lib.hid (word_at ⟨#[116, 114, 117, 101]⟩ HM2.out.st.at_ (by omega) (by decide))
        have HR2 := HR.out
        rw [show bl ⟨#[116, 114, 117, 101]⟩ = [116, 114, 117, 101] from rfl] at hw
        clear HR
        generalize TJ.word [116, 114, 117, 101] l = q at *
        obtain ⟨b, l2⟩ := q
        have HR := Lib.hid HR2
        clear HR2
        go_wp2_with fail
        refine hw.out.mono ?_
        rintro e w2 ⟨rfl, hA2⟩
        have HM3 := Lib.hid (HM2.out.step hA2)
        obtain ⟨n0, n1, n2, n3, fn⟩ := HM3.out.cells
        have fn0 := fn 0
        clear hA2 hw HM2 fn
        go_wp2_with fail
        go_meet
        exact vmid_leaf HR.out (HM3.out.put 0 (.int .i64 3) rfl)
      have hf : TJ.has [116] l = false := by simpa using hh
      rw [if_neg hh] at hr
      rw [hf] at hi
      have HRR := Lib.hid hr
      clear hr hh hf
      go_wp2_with fail
      refine hi.out.mono ?_
      rintro e w1 ⟨rfl, n, rfl⟩
      have HM2 := Lib.hid (HMid.out.draws n)
      clear hi HMid
      generalize wc.drewN n = wd at *
      clear wc
      rename World => wc
      have HMid := HM2
      have hr := HRR.out
      clear HM2 HRR
      have hi := Lib.hid (is_at ⟨#[34]⟩ [34] rfl HMid.out.st.at_ (by omega))
      by_cases hh : TJ.has [34] l = true
      · rw [if_pos hh] at hr
        rw [hh] at hi
        have HR := Lib.hid hr
        clear hr hh
        go_wp2_with fail
        refine hi.out.mono ?_
        rintro e w1 ⟨rfl, n, rfl⟩
        have HM2 := Lib.hid (HMid.out.draws n)
        clear hi HMid
        generalize wc.drewN n = wd at *
        clear wc
        obtain ⟨n0, n1, n2, n3, fn⟩ := HM2.out.cells
        have fn0 := fn 0
        have HM4 := Lib.hid (HM2.out.put 0 (.int .i64 5) rfl)
        clear fn
        go_wp2_with fail
        clear n0 n1 n2 n3 fn0
        generalize wd.setCell _ _ = we at *
        have HB := Lib.hid (HM4.out.keep.base HH.out.base HH.out.three HO.out)
        have hs := Lib.hid (str_at HB.out HM4.out.st.at_ (by omega) (Nat.lt_trans HM4.out.new HM4.out.lt))
        have HR2 := HR.out
        clear HR HB
        generalize TJ.str l = q at *
        obtain ⟨o, l2⟩ := q
        cases o with
        | none =>
          have hr2 : r = .no false l2 := HR2
          have HR := Lib.hid hr2
          clear HR2 hr2
          refine hs.out.mono ?_
          rintro e w2 ⟨he, hA2⟩
          obtain rfl : e = .returned (.tuple #[.string ⟨#[]⟩, .bool false]) := he
          have HM5 := Lib.hid (HM4.out.step hA2)
          obtain ⟨n0, n1, n2, n3, fn⟩ := HM5.out.cells
          have fn2 := fn 2
          clear hA2 hs HM4 fn HM2
          go_wp2_with fail
          go_meet
          exact ⟨false, 5, 0, [], l2, 250, _, _, _, rfl, HM5.out.put 2 (.string ⟨#[]⟩) rfl, by omega, by rw [HR.out]; exact ⟨rfl, rfl, rfl⟩⟩
        | some b =>
          have hr2 : r = .ok [⟨5, key, b, 0⟩] l2 := HR2
          have HR := Lib.hid hr2
          clear HR2 hr2
          refine hs.out.mono ?_
          rintro e w2 ⟨he, hA2⟩
          obtain rfl : e = .returned (.tuple #[.string ⟨b.toArray⟩, .bool true]) := he
          have HM5 := Lib.hid (HM4.out.step hA2)
          obtain ⟨n0, n1, n2, n3, fn⟩ := HM5.out.cells
          have fn2 := fn 2
          clear hA2 hs HM4 fn HM2
          go_wp2_with fail
          go_meet
          exact ⟨true, 5, 0, b, l2, 250, _, _, _, rfl, HM5.out.put 2 (.string ⟨b.toArray⟩) rfl, by omega, by rw [HR.out]; exact ⟨rfl, rfl, rfl, [], rfl, by simp, rfl⟩⟩
      have hf : TJ.has [34] l = false := by simpa using hh
      rw [if_neg hh] at hr
      rw [hf] at hi
      have HRR := Lib.hid hr
      clear hr hh hf
      go_wp2_with fail
      refine hi.out.mono ?_
      rintro e w1 ⟨rfl, n, rfl⟩
      have HM2 := Lib.hid (HMid.out.draws n)
      clear hi HMid
      generalize wc.drewN n = wd at *
      clear wc
      rename World => wc
      have HMid := HM2
      have hr := HRR.out
      clear HM2 HRR
      have hi := Lib.hid (is_at ⟨#[91, 123]⟩ [91, 123] rfl HMid.out.st.at_ (by omega))
      by_cases hh : TJ.has [91, 123] l = true
      · rw [if_pos hh] at hr
        rw [hh] at hi
        have HHH := Lib.hid hh
        have hdp := HH.out.deep
        have hlow := HH.out.low
        clear hh
        cases D with
        | zero =>
          have hr2 : r = .no true l := hr
          have HR := Lib.hid hr2
          have hd : (d == 64) = true := by rw [beq_iff_eq]; omega
          clear hr hr2
          go_wp2_with fail
          refine hi.out.mono ?_
          rintro e w1 ⟨rfl, n, rfl⟩
          have HM2 := Lib.hid (HMid.out.draws n)
          clear hi HMid
          generalize wc.drewN n = wd at *
          clear wc
          obtain ⟨hq1, hq2, hqP, -⟩ := HM2.out.st.at_.place
          obtain ⟨c0, c1, c2, c3, c4, fz⟩ := hqP.cells
          have f4 := fz ⟨pb, 4, none⟩ rfl
          clear hq1 hq2 hqP fz
          go_wp2_with fail
          go_ret
          exact ⟨false, _, 251, _, _, l, rfl, (HM2.out.setc 251).st, by omega, (HM2.out.setc 251).keep, (HM2.out.setc 251).own, by rw [HR.out]; exact ⟨rfl, rfl, rfl⟩⟩
        | succ D =>
          have HR := Lib.hid hr
          have hd : (d == 64) = false := by rw [beq_eq_false_iff_ne]; omega
          have hd2 : d ≤ 63 := by omega
          clear hr
          go_wp2_with fail
          refine hi.out.mono ?_
          rintro e w1 ⟨rfl, n, rfl⟩
          have HM2 := Lib.hid (HMid.out.draws n)
          clear hi HMid
          generalize wc.drewN n = wd at *
          clear wc
          obtain ⟨hq1, hq2, hqP, -⟩ := HM2.out.st.at_.place
          obtain ⟨c0, c1, c2, c3, c4, fz⟩ := hqP.cells
          have f3 := fz ⟨pb, 3, none⟩ rfl
          have HM3 := Lib.hid (HM2.out.setd (d + 1))
          clear hq1 hq2 hqP fz hdp
          go_wp2_with fail
          clear c0 c1 c2 c3 c4 f3 hd HM2
          generalize wd.setCell _ _ = we at *
          have hmany := Lib.hid (HM.out D rfl pb s (d + 1) we l _ (nodes ++ [hole key]) ⟨HM3.out.keep.base HH.out.base HH.out.three HO.out, HH.out.three, hsz, by have := HH.out.deep; omega, by omega, by simp; omega, by simpa using HM3.out.st⟩ HHH.out)
          have HR2 := HR.out
          clear HR
          try dsimp only at HR2
          generalize TJ.many (TJ.value D) l = q at *
          refine hmany.out.mono ?_
          rintro e w2 ⟨b, kd, cnt, out2, c2, m2, xs2, l2, rfl, hst, hm, hk, ho, hres⟩
          have HM4 := Lib.hid (HM3.out.far hst hk ho)
          have HRes := Lib.hid hres
          have HR := Lib.hid HR2
          have Hm := Lib.hid hm
          obtain ⟨n0, n1, n2, n3, fn⟩ := HM4.out.cells
          have fn0 := fn 0
          have fn3 := fn 3
          obtain ⟨hq1, hq2, hqP, -⟩ := HM4.out.st.at_.place
          obtain ⟨-, -, -, k3, -, fz⟩ := hqP.cells
          have f3 := fz ⟨pb, 3, none⟩ rfl
          have hne : ¬ pb = w0.heap.size := by have := HM4.out.new; omega
          have hne2 : ¬ w0.heap.size = pb := fun e => hne e.symm
          clear hq1 hq2 hqP fz hst hm hk ho hres HR2 hmany HM3 fn
          go_wp2_with fail
          go_meet
          refine ⟨b, kd, cnt, [], l2, c2, out2, m2, xs2, rfl, ((HM4.out.put 0 (.int .i64 kd) rfl).put 3 (.int .i64 cnt) rfl).setd d, by have := Hm.out; simp at this; omega, ?_⟩
          have h1 := HRes.out
          rw [HR.out]
          cases q with
          | no deep rest => exact h1
          | ok nv rest =>
            obtain ⟨n, v⟩ := nv
            obtain ⟨rfl, rfl, rfl, rfl, rfl, rfl, rfl⟩ := h1
            exact ⟨rfl, rfl, rfl, v, rfl, by simp, by simp⟩
      have hf : TJ.has [91, 123] l = false := by simpa using hh
      rw [if_neg hh] at hr
      rw [hf] at hi
      have HRR := Lib.hid hr
      clear hr hh hf
      go_wp2_with fail
      refine hi.out.mono ?_
      rintro e w1 ⟨rfl, n, rfl⟩
      have HM2 := Lib.hid (HMid.out.draws n)
      clear hi HMid
      generalize wc.drewN n = wd at *
      clear wc
      have hn := Lib.hid (number_at HM2.out.st.at_ (by omega))
      have hr := HRR.out
      clear HRR
      have hsh : (TJ.number l).2.length ≤ l.length := number_short l
      generalize TJ.number l = q at *
      obtain ⟨b, l2⟩ := q
      have HR := Lib.hid hr
      clear hr
      go_wp2_with fail
      refine hn.out.mono ?_
      rintro e w2 ⟨rfl, hA2⟩
      have HM3 := Lib.hid (HM2.out.step hA2)
      obtain ⟨n0, n1, n2, n3, fn⟩ := HM3.out.cells
      have fn0 := fn 0
      have fn2 := fn 2
      have HM4 := Lib.hid ((HM3.out.put 0 (.int .i64 4) rfl))
      clear hA2 hn HM2 fn
      go_wp2_with fail
      clear n0 n1 n2 n3 fn0 fn2
      generalize w2.setCell _ _ = we at *
      obtain ⟨n0, n1, n2, n3, fn⟩ := HM4.out.cells
      have fn2 := fn 2
      obtain ⟨hq1, hq2, hqP, -⟩ := HM4.out.st.at_.place
      obtain ⟨a2, ha2⟩ : ∃ a2, a2 = s.size - l2.length := ⟨_, rfl⟩
      rw [← ha2] at hqP
      obtain ⟨k0, k1, -, -, -, -⟩ := hqP.cells
      have z0 : (0 : Int) ≤ (a0 : Int) := by omega
      have z1 : (a0 : Int) ≤ (a2 : Int) := by have := HA0.out; omega
      have z2 : (a2 : Int) ≤ (s.size : Int) := by omega
      have hex : s.extract a0 a2 = ⟨(l.take (l.length - l2.length)).toArray⟩ := ba_eq (by
        rw [bl_extract, HP2.out]
        congr 1
        have := HA0.out
        omega)
      have HX := Lib.hid hex
      clear hq1 hq2 hqP fn ha2 hex hsh
      have z3 : decide ((a0 : Int) ≤ (a2 : Int)) = true := by simpa using z1
      go_region
      all_goals
        go_wp2_with fail
        go_meet
        have HM5 := HM4.out.put 2 (.string (s.extract a0 a2)) (kd2 := 4) (kids2 := 0) (tx2 := s.extract a0 a2) rfl
        rw [HX.out] at HM5 ⊢
        exact vmid_leaf HR.out (HM5.draws 1)
    case rest =>
      obtain ⟨b, kd, kids, tx, l2, c2', out2, m2, xs2, rfl, hm, hlt, hres⟩ := hcut
      have HM5 := Lib.hid hm
      have HRes := Lib.hid hres
      obtain ⟨g2, cap2, cur2, hv2, hg2, hh2, hr2, hc2, hc3, hc4⟩ := row_form hm.st.row (by omega)
      subst hv2
      obtain ⟨n0, n1, n2, n3, fn⟩ := hm.cells
      obtain ⟨hq1, hq2, hqP, -⟩ := hm.st.at_.place
      obtain ⟨k0, k1, k2, k3, k4, fz⟩ := hqP.cells
      clear c0 c1 c2 c3 c4 f3 f4 fz hqP hq2 hq1 fn hm hres f2 HMid hr
      have HG2 := Lib.hid hh2
      have HR2 := Lib.hid hr2
      have HC4 := Lib.hid hc4
      have hcell : ∀ i, i < 4 → ∃ u, wc.cell? ⟨g2, nodes.length * 4 + i, none⟩ = some u := fun i hi =>
        ⟨_, (block_cells hh2).1 (nodes.length * 4 + i) _ (Array.getElem?_eq_getElem (show nodes.length * 4 + i < cur2.size by rw [hc4]; omega))⟩
      have hfz := (block_cells hh2).2
      obtain ⟨x0, y0⟩ := hcell 0 (by omega)
      obtain ⟨x1, y1⟩ := hcell 1 (by omega)
      obtain ⟨x2, y2⟩ := hcell 2 (by omega)
      obtain ⟨x3, y3⟩ := hcell 3 (by omega)
      have y0 : wc.cell? ⟨g2, nodes.length * 4, none⟩ = some x0 := y0
      have z0 := hfz (nodes.length * 4)
      have z1 := hfz (nodes.length * 4 + 1)
      have z2 := hfz (nodes.length * 4 + 2)
      have z3 := hfz (nodes.length * 4 + 3)
      clear hh2 hr2 hc4 hcell hfz
      go_wp2_with fail
      go_region
      all_goals
        go_wp2_with fail
        go_ret
        exact value_end HM5.out hlt HRes.out
end Go.Proofs.YtdhdeaknflekpaaDoor
