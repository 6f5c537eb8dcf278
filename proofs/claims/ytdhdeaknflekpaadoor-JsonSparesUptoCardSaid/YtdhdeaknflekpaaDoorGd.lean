/- General laws, more: append of one element, told apart: in place, or into a new block, when nothing else is written. -/
import Derived.Test.YtdhdeaknflekpaaDoorG
import Derived.ArgAppend
import Derived.OwnWalk
import Derived.Laws.OwnMore
namespace Go.Proofs.YtdhdeaknflekpaaDoor
open Go.RowKit

theorem append_apart {P : Program} {ops : Array Oper} {rest : List Oper} {o : Oper} {a : Act} {Q : Exit → Act → World → Prop} {w0 W : World} (base : Nat) (hgd : o.guard = none) (s x : Operand) (t e : TypeId) (z : Value) (size bytes : Nat)
    (ho : o.op = .call { callee := .builtin .append, args := #[s, x], argTypes := #[t, t] })
    (ht : P.underlying t = some (.slice e)) (hinfo : (P.info? e).map (fun i => (i.zero, i.size, i.bytes)) = some (some z, size, bytes)) (hz : z.cells.size = size) (hs0 : 0 < size) (hb0 : 0 < bytes)
    (v : Value) (n : Nat) (xs : List Value) (cs : Array Value) (hs : a.eval s = v) (hx : a.eval x = .slice (some ⟨W.heap.size, 0, none⟩) 1 1) (hcs : cs.size = size) (h1 : ∀ u ∈ cs.toList, u.oneCell' = true)
    (HO : W.ownsRow base e size v n xs) (HB : Below base w0 W) (hbase : base ≤ W.heap.size) (hl : (n + 1) * bytes ≤ 140737488355328)
    (h : ∀ v1 w1, w1.ownsRow base e size v1 (n + 1) (xs ++ cs.toList) → Below base w0 w1 → (v1.ownBlock = v.ownBlock ∧ W.grownBy w1 v.ownBlock ∨ W.grownBy w1 none ∧ ∃ b, v1.ownBlock = some b ∧ W.heap.size ≤ b) → wpList P ops Q rest (a.put o.dst v1) w1) :
    wpList P ops Q (o :: rest) a (W.alloc (.cells cs e)) := by
  obtain ⟨i0, hi, hz0, hz1, hz2⟩ := info_parts hinfo
  have hlen : n + 1 ≤ 140737488355328 := Nat.le_trans (Nat.le_mul_of_pos_right _ hb0) hl
  have hrow : ∀ k, v.ownBlock = some k → base ≤ k := fun k hk => (HO.lt k hk).1
  have HA := HO.alloc (.cells cs e)
  have hnews : ∀ j u, cs.toList[j]? = some u → (W.alloc (.cells cs e)).cell? ((⟨W.heap.size, 0, none⟩ : Addr).add j) = some u := World.news_of_block (cs := cs) (t := e) (fr := (0, 0)) (heap_alloc_new W _)
  have grow : ∀ v1 w1, w1.ownsRow (W.alloc (.cells cs e)).heap.size e size v1 (n + 1) (xs ++ cs.toList) → (W.alloc (.cells cs e)).grownBy w1 none → wpList P ops Q rest (a.put o.dst v1) w1 := by
    intro v1 w1 h2 h3
    refine h v1 w1 ?_ ((HB.alloc hbase _).grown h3 (by simp; omega) (fun k hk => by cases hk)) (.inr ⟨World.grownBy.trans (World.grownBy_alloc W _ _) h3, ?_⟩)
    · obtain ⟨q1, q2⟩ := h2
      refine ⟨q1, ?_⟩
      rcases q2 with q2 | ⟨g, cap, cur, hv, hg, r⟩
      · exact .inl q2
      · exact .inr ⟨g, cap, cur, hv, by simp at hg; omega, r⟩
    · rcases h2.2 with ⟨-, q⟩ | ⟨g, cap, cur, hv, hg, r⟩
      · omega
      · exact ⟨g, by rw [hv]; rfl, by simp at hg; omega⟩
  rcases HO.2 with ⟨rfl, rfl⟩ | ⟨g, cap, cur, rfl, hbg, hg, hnc, hcm, hcsz, htake⟩
  · have hx0 : xs = [] := List.eq_nil_of_length_eq_zero (by simpa using HO.1)
    subst hx0
    exact wpList_append_grows (W.alloc (.cells cs e)) hgd s x t ho e i0 z size bytes ht hi hz0 hz1 hz2 hz hs0 none 0 0 [] hs (fun _ => ⟨rfl, rfl⟩) (by simp) (fun b hb => by cases hb) ⟨W.heap.size, 0, none⟩ 1 1 cs.toList hx (by simpa using hcs) hnews h1 (by omega) (by simp only [maxLen]; omega) hl grow
  · by_cases hr : n + 1 ≤ cap
    · refine wpList_append_fits (W.alloc (.cells cs e)) hgd s x t ho base e i0 size ht hi hz1 g n cap xs hs HA ⟨W.heap.size, 0, none⟩ 1 1 cs.toList hx (by simpa using hcs) hnews h1 hr ?_
      intro w1 h2 h3
      exact h _ w1 h2 ((HB.alloc hbase _).grown h3 (by simp; omega) (fun k hk => by cases hk; exact hbg)) (.inl ⟨rfl, World.grownBy.trans (World.grownBy_alloc W _ _) h3⟩)
    · exact wpList_append_grows (W.alloc (.cells cs e)) hgd s x t ho e i0 z size bytes ht hi hz0 hz1 hz2 hz hs0 (some ⟨g, 0, none⟩) n cap xs hs (fun h => by cases h) HA.1 (fun b hb => by cases hb; exact HA.cells (g := g) rfl) ⟨W.heap.size, 0, none⟩ 1 1 cs.toList hx (by simpa using hcs) hnews h1 (by omega) (by simp only [maxLen]; omega) hl grow
end Go.Proofs.YtdhdeaknflekpaaDoor
