/- json laws: JsonSpares. -/
import Derived.Test.YtdhdeaknflekpaaDoorWz
set_option linter.unusedSimpArgs false
set_option linter.unusedVariables false
namespace Go.Proofs.YtdhdeaknflekpaaDoor
open Go.RowKit Go.Maps

/-- the nodes of an answer -/
def lstR : TJ.R (List TJ.N) → List TJ.N
  | .ok v _ => v
  | .no _ _ => []
theorem parse_any (s : ByteArray) (w : World) (hs : s.size ≤ 1048576) (hT : Says w) : Calls Tryd.prog 13 #[.string s] w fun e w' =>
    ∃ (out : Value) (a : Int), e = .returned (.tuple #[out, .int .i64 (codeR (TJ.parse (bl s))), .int .i64 a]) ∧ w'.ownsRow w.heap.size 36 4 out (lstR (TJ.parse (bl s))).length (nvals (lstR (TJ.parse (bl s)))) ∧ (lstR (TJ.parse (bl s))).length ≤ 1048576 ∧ Below w.heap.size w w' := by
  refine (Parse_calls s w (by omega) hT).mono ?_
  rintro e w' ⟨hb, hpp⟩
  cases hR : TJ.parse (bl s) with
  | ok v l =>
    rw [hR] at hpp
    obtain ⟨out, he, ho, hl⟩ := hpp
    exact ⟨out, 0, he, ho, by show v.length ≤ _; omega, hb⟩
  | no d l =>
    rw [hR] at hpp
    exact ⟨.slice none 0 0, _, hpp.1, World.ownsRow_nil _ _ _ _, by show ([] : List TJ.N).length ≤ _; simp, hb⟩
def spoilt : TJ.N := ⟨9, [], [115, 112, 111, 105, 108, 116], 0⟩
def eight : TJ.N := ⟨8, [], [], 0⟩
theorem own_set {w : World} {base g n cap : Nat} {xs : List Value} (h : w.ownsRow base 36 4 (.slice (some ⟨g, 0, none⟩) n cap) n xs) (j : Nat) (u : Value) : (w.setCell ⟨g, j, none⟩ u).ownsRow base 36 4 (.slice (some ⟨g, 0, none⟩) n cap) n (xs.set j u) := (h.stored j u).1
theorem own_spoil {w : World} {base g n cap : Nat} {l : List TJ.N} {k : Nat} (hk : k < l.length) (hn : n = l.length)
    (h : w.ownsRow base 36 4 (.slice (some ⟨g, 0, none⟩) n cap) n (nvals (List.replicate k spoilt ++ l.drop k))) :
    ((((w.setCell ⟨g, k * 4, none⟩ (.int .i64 9)).setCell ⟨g, k * 4 + 1, none⟩ (.string ⟨#[]⟩)).setCell ⟨g, k * 4 + 2, none⟩ (.string ⟨#[115, 112, 111, 105, 108, 116]⟩)).setCell ⟨g, k * 4 + 3, none⟩ (.int .i64 0)).ownsRow base 36 4 (.slice (some ⟨g, 0, none⟩) n cap) n (nvals (List.replicate (k + 1) spoilt ++ l.drop (k + 1))) := by
  have h4 := own_set (own_set (own_set (own_set h (k * 4) (.int .i64 9)) (k * 4 + 1) (.string ⟨#[]⟩)) (k * 4 + 2) (.string ⟨#[115, 112, 111, 105, 108, 116]⟩)) (k * 4 + 3) (.int .i64 0)
  have hs := nvals_set (List.replicate k spoilt) (l.drop (k + 1)) (l[k]'hk) spoilt
  rw [List.length_replicate, ← List.drop_eq_getElem_cons hk] at hs
  have hs2 : nvals (List.replicate (k + 1) spoilt ++ l.drop (k + 1)) = nvals (List.replicate k spoilt ++ spoilt :: l.drop (k + 1)) := by
    rw [List.replicate_succ', List.append_assoc]
    rfl
  rw [hs2, ← hs]
  exact h4
theorem row_eq {w : World} {base : Nat} {n : Nat} {v : Value} {l : List TJ.N} (h : w.ownsRow base 36 4 v n (nvals l)) : n = l.length := by
  have := h.1
  rw [nvals_len] at this
  omega
/-- nothing of the row's block is written -/
theorem RN.kept {w w' : World} {v : Value} {l : List TJ.N} {row : Option Nat} (h : RN w v l) (hg : w.grownBy w' row) (hne : ∀ b o n c, v = .slice (some ⟨b, o, none⟩) n c → l ≠ [] → row ≠ some b) : RN w' v l := by
  obtain ⟨a, c, rfl, hc, hcl⟩ := h
  refine ⟨a, c, rfl, hc, fun hl => ?_⟩
  obtain ⟨b, o, rfl, hcx⟩ := hcl hl
  have hb := hne b o _ _ rfl hl
  have mv : ∀ (j : Nat) (u : Value), w.cell? ⟨b, j, none⟩ = some u → w'.cell? ⟨b, j, none⟩ = some u := fun j u h => by
    have := World.cell?_of_block (w := w) (w' := w') (a := ⟨b, j, none⟩) (hg.block b (World.block_lt_of_cell? w _ h) (fun e => hb e.symm))
    exact this.trans h
  exact ⟨b, o, rfl, fun i hi => ⟨mv _ _ (hcx i hi).1, mv _ _ (hcx i hi).2.1, mv _ _ (hcx i hi).2.2.1, mv _ _ (hcx i hi).2.2.2⟩⟩
theorem RN.prefix {w : World} {base g c m : Nat} {lv : Value} {a b : List TJ.N} (h : w.ownsRow base 36 4 lv m (nvals (a ++ b))) (hg : lv.ownBlock = some g) (hc : a.length ≤ c) : RN w (.slice (some ⟨g, 0, none⟩) a.length c) a := by
  have hm := row_eq h
  subst hm
  obtain ⟨ad, cp, rfl, hcp, hcl⟩ := RN.own h
  refine ⟨_, _, rfl, hc, fun hne => ⟨g, 0, rfl, fun i hi => ?_⟩⟩
  obtain ⟨b', o, rfl, hcx⟩ := hcl (by intro e; exact hne (List.append_eq_nil_iff.1 e).1)
  rcases h.2 with ⟨h1, -⟩ | ⟨g', cap', cur, h1, -⟩
  · cases h1
  · simp only [Value.slice.injEq, Option.some.injEq, Addr.mk.injEq, and_true, true_and] at h1
    obtain ⟨⟨rfl, rfl⟩, -⟩ := h1
    have e : b' = g := by simpa [Value.ownBlock] using hg
    subst e
    have := hcx i (by simp; omega)
    rw [List.getElem_append_left hi] at this
    exact this
/-- what holds while the answer is grown -/
structure Grown (B1 B2 B3 B4 : Nat) (n : Nat) (v outw want lv : Value) (l : List TJ.N) (j : Nat) (wr : World) : Prop where
  row : wr.ownsRow B1 36 4 lv (n + j) (nvals (List.replicate n spoilt ++ List.replicate j eight))
  reads : RN wr v (List.replicate n spoilt)
  two : wr.ownsRow B2 36 4 outw n (nvals l)
  three : wr.ownsRow B3 36 4 want n (nvals l)
  apart : ∀ b, lv.ownBlock = some b → b < B2 ∨ B4 ≤ b
  ltw : ∀ b, outw.ownBlock = some b → b < B3
  lt3 : ∀ b, want.ownBlock = some b → b < B4
  s1 : B2 ≤ B3
  s2 : B3 ≤ B4
  s3 : B4 ≤ wr.heap.size
  off : ∀ b o n' c', v = .slice (some ⟨b, o, none⟩) n' c' → o = 0
theorem Grown.step {B1 B2 B3 B4 n j : Nat} {v outw want lv v1 : Value} {l : List TJ.N} {wr w1 : World} (h : Grown B1 B2 B3 B4 n v outw want lv l j wr)
    (hO : w1.ownsRow B1 36 4 v1 (n + j + 1) (nvals (List.replicate n spoilt ++ List.replicate j eight) ++ nvals1 eight))
    (how : v1.ownBlock = lv.ownBlock ∧ wr.grownBy w1 lv.ownBlock ∨ wr.grownBy w1 none ∧ ∃ b, v1.ownBlock = some b ∧ wr.heap.size ≤ b) :
    Grown B1 B2 B3 B4 n v outw want v1 l (j + 1) w1 := by
  have hO2 : w1.ownsRow B1 36 4 v1 (n + (j + 1)) (nvals (List.replicate n spoilt ++ List.replicate (j + 1) eight)) := by
    have e : nvals (List.replicate n spoilt ++ List.replicate (j + 1) eight) = nvals (List.replicate n spoilt ++ List.replicate j eight) ++ nvals1 eight := by
      rw [List.replicate_succ', ← List.append_assoc, nvals_app]
      rfl
    rw [e]
    exact hO
  have lt2 := h.two.lt
  have lt3 := h.three.lt
  rcases how with ⟨hb, hg⟩ | ⟨hg, b1, hb1, hb2⟩
  · have keep : ∀ (o : Value), (∀ b, o.ownBlock = some b → B2 ≤ b ∧ b < B4) → o.ownBlock = none ∨ o.ownBlock ≠ lv.ownBlock := by
      intro o ho
      cases hoo : o.ownBlock with
      | none => exact .inl rfl
      | some b =>
        right
        intro e
        have h1 := ho b hoo
        have h2 := h.apart b e.symm
        omega
    have hs := hg.size
    refine ⟨hO2, ?_, h.two.kept hg (keep _ fun b hb => ⟨(lt2 b hb).1, by have := h.ltw b hb; have := h.s2; omega⟩), h.three.kept hg (keep _ fun b hb => ⟨by have := (lt3 b hb).1; have := h.s1; omega, h.lt3 b hb⟩), by rw [hb]; exact h.apart, h.ltw, h.lt3, h.s1, h.s2, by have := h.s3; omega, h.off⟩
    obtain ⟨av, cv, hv, hcv, hcl⟩ := id h.reads
    have hoff := h.off
    have hkept := h.reads.kept hg
    clear h
    subst hv
    have hdone : True := trivial
    by_cases hsame : ∃ b o, av = some ⟨b, o, none⟩ ∧ List.replicate n spoilt ≠ [] ∧ lv.ownBlock = some b
    · obtain ⟨b, o, rfl, hne, hlb⟩ := hsame
      obtain ⟨b', o', e, hcx⟩ := hcl hne
      simp only [Option.some.injEq, Addr.mk.injEq, and_true] at e
      obtain ⟨rfl, rfl⟩ := e
      obtain rfl := hoff _ _ _ _ rfl
      have hp := RN.prefix (g := b) (c := cv) hO2 (by rw [hb]; exact hlb) hcv
      exact hp
    · refine hkept fun b o n' c' e hne hrow => hsame ⟨b, o, ?_, hne, hrow⟩
      simp only [Value.slice.injEq] at e
      exact e.1
  · have hs := hg.size
    refine ⟨hO2, h.reads.kept hg (fun b o n' c' e hne hrow => by cases hrow), h.two.kept hg ?_, h.three.kept hg ?_, fun b hb => ?_, h.ltw, h.lt3, h.s1, h.s2, by have := h.s3; omega, h.off⟩
    · cases hoo : outw.ownBlock with
      | none => exact .inl rfl
      | some b => exact .inr (by simp)
    · cases hoo : want.ownBlock with
      | none => exact .inl rfl
      | some b => exact .inr (by simp)
    · rw [hb1] at hb
      cases hb
      have := h.s3
      omega
theorem grown_start {B1 B2 B3 B4 n : Nat} {v outw want : Value} {l : List TJ.N} {wr : World} (hv : wr.ownsRow B1 36 4 v n (nvals (List.replicate n spoilt))) (ho : wr.ownsRow B2 36 4 outw n (nvals l)) (hw : wr.ownsRow B3 36 4 want n (nvals l))
    (l2 : ∀ b, v.ownBlock = some b → B1 ≤ b ∧ b < B2) (l3 : ∀ b, outw.ownBlock = some b → B2 ≤ b ∧ b < B3) (l4 : ∀ b, want.ownBlock = some b → B3 ≤ b ∧ b < B4) (h1 : B2 ≤ B3) (h2 : B3 ≤ B4) (h3 : B4 ≤ wr.heap.size) :
    Grown B1 B2 B3 B4 n v outw want v l 0 wr := by
  refine ⟨by simpa using hv, ?_, ho, hw, fun b hb => .inl (l2 b hb).2, fun b hb => (l3 b hb).2, fun b hb => (l4 b hb).2, h1, h2, h3, ?_⟩
  · have := RN.own (w := wr) (base := B1) (v := v) (l := List.replicate n spoilt) (by simpa using hv)
    exact this
  · intro b o n' c' e
    rcases hv.2 with ⟨h, -⟩ | ⟨g, cap, cur, h, -⟩
    · rw [h] at e; cases e
    · rw [h] at e
      simp only [Value.slice.injEq, Option.some.injEq, Addr.mk.injEq] at e
      exact e.1.2.1.symm
theorem below_grown {B B1 : Nat} {w wr w1 : World} {lv v1 : Value} (hb : Below B w wr) (hlt : ∀ k, lv.ownBlock = some k → B1 ≤ k ∧ k < wr.heap.size) (how : v1.ownBlock = lv.ownBlock ∧ wr.grownBy w1 lv.ownBlock ∨ wr.grownBy w1 none ∧ ∃ b, v1.ownBlock = some b ∧ wr.heap.size ≤ b) (h1 : B ≤ wr.heap.size) (h2 : B ≤ B1) : Below B w w1 := by
  rcases how with ⟨-, hg⟩ | ⟨hg, -⟩
  · exact hb.grown hg h1 fun k hk => by have := (hlt k hk).1; omega
  · exact hb.grown hg h1 fun k hk => by cases hk
theorem v_kind {w : World} {av : Option Addr} {n cv q : Nat} (h : RN w (.slice av n cv) (List.replicate n spoilt)) (hq : q < n) : ∃ b o, av = some ⟨b, o, none⟩ ∧ w.cell? ⟨b, o + q * 4, none⟩ = some (.int .i64 9) := by
  obtain ⟨a, c, he, hc, hcl⟩ := h
  simp only [Value.slice.injEq, List.length_replicate] at he
  obtain ⟨rfl, -, rfl⟩ := he
  obtain ⟨b, o, rfl, hcx⟩ := hcl (by intro e; have := congrArg List.length e; simp at this; omega)
  refine ⟨b, o, rfl, ?_⟩
  have := (hcx q (by simpa using hq)).1
  rw [List.getElem_replicate] at this
  exact this
theorem long_kind {w : World} {B n j q : Nat} {lv : Value} (h : w.ownsRow B 36 4 lv (n + j) (nvals (List.replicate n spoilt ++ List.replicate j eight))) (hq : q < n) : ∃ g c, lv = .slice (some ⟨g, 0, none⟩) (n + j) c ∧ w.cell? ⟨g, q * 4, none⟩ = some (.int .i64 9) := by
  obtain ⟨g, cap, cur, rfl, -⟩ := row_form h (by omega)
  refine ⟨g, cap, rfl, ?_⟩
  have hlen : (List.replicate n spoilt ++ List.replicate j eight).length = n + j := by simp
  have hr := RN.own (l := List.replicate n spoilt ++ List.replicate j eight) (by rw [hlen]; exact h)
  obtain ⟨a, c, he, hc, hcl⟩ := hr
  obtain ⟨b, o, rfl, hcx⟩ := hcl (by intro e; have := congrArg List.length e; simp at this; omega)
  simp only [Value.slice.injEq, Option.some.injEq, Addr.mk.injEq, and_true] at he
  obtain ⟨⟨rfl, rfl⟩, -⟩ := he
  have := (hcx q (by simp; omega)).1
  rw [List.getElem_append_left (by simpa using hq), List.getElem_replicate, Nat.zero_add] at this
  exact this
set_option maxRecDepth 100000 in
set_option maxHeartbeats 4000000 in
theorem JsonSpares_calls (text : ByteArray) (w : World) (hs : text.size ≤ 1048576) (hT : Tabs w) :
    Calls Tryd.prog 7 #[.string text] w fun e w' => e = .returned (.bool true) ∧ Below w.heap.size w w' := by
  obtain ⟨l, hl⟩ : ∃ l, l = lstR (TJ.parse (bl text)) := ⟨_, rfl⟩
  obtain ⟨c, hc⟩ : ∃ c, c = codeR (TJ.parse (bl text)) := ⟨_, rfl⟩
  have hpa : Hid (∀ W : World, Tabs W → Calls Tryd.prog 13 #[.string text] W fun e w' => ∃ (out : Value) (a : Int), e = .returned (.tuple #[out, .int .i64 c, .int .i64 a]) ∧ w'.ownsRow W.heap.size 36 4 out l.length (nvals l) ∧ l.length ≤ 1048576 ∧ Below W.heap.size W w') := fun W h => by
    rw [hl, hc]
    exact parse_any text W hs h.says
  clear hl hc
  have HT := Lib.hid hT
  clear hT
  have hcc : (c != c) = false := by simp
  go_enter Tryd.func7, Tryd.ntmps7
  go_wp2_with fail
  refine (started_calls w HT.out).mono ?_
  rintro e w1 ⟨rfl, hb1⟩
  have HB1 := Lib.hid hb1
  have HT1 := Lib.hid (HT.out.below hb1 HT.out.lt)
  clear hb1
  go_wp2_with fail
  refine (hpa.out w1 HT1.out).mono ?_
  rintro e w2 ⟨v, a1, rfl, hv, hn, hb2⟩
  have HB2 := Lib.hid (below_then HB1.out HB1.out.size hb2)
  have HT2 := Lib.hid (HT1.out.below hb2 HT1.out.lt)
  have HV := Lib.hid hv
  have HS12 := Lib.hid hb2.size
  clear hb2 HT1 hv
  go_wp2_with fail
  refine (hpa.out w2 HT2.out).mono ?_
  rintro e w3 ⟨ow, a2, rfl, ho, -, hb3⟩
  have HB3 := Lib.hid (below_then HB2.out HB2.out.size hb3)
  have HT3 := Lib.hid (HT2.out.below hb3 HT2.out.lt)
  have HS23 := Lib.hid hb3.size
  have HV3 := Lib.hid (own_below HV.out hb3)
  have HO := Lib.hid ho
  have htw := Lib.hid (twin_calls l ow w3 (RN.own ho) (by omega))
  clear hb3 HT2 ho
  go_wp2_with fail
  refine htw.out.mono ?_
  rintro e w4 ⟨want, rfl, hw, hb4⟩
  have HB4 := Lib.hid (below_then HB3.out HB3.out.size hb4)
  have HT4 := Lib.hid (HT3.out.below hb4 HT3.out.lt)
  have HS34 := Lib.hid hb4.size
  have HV4 := Lib.hid (own_below HV3.out hb4)
  have HO4 := Lib.hid (own_below HO.out hb4)
  have HW4 := Lib.hid hw
  have hsm := Lib.hid (same_calls l l v ow w4 (RN.own HV4.out) (RN.own HO4.out) (by omega) (by omega))
  rw [decide_eq_true rfl] at hsm
  clear hb4 htw HT3 hw
  go_wp2_with fail
  refine hsm.out.mono ?_
  rintro e w5 ⟨rfl, hb5⟩
  have HB5 := Lib.hid (below_then HB4.out HB4.out.size hb5)
  have HT5 := Lib.hid (HT4.out.below hb5 HT4.out.lt)
  have HS45 := Lib.hid hb5.size
  have HV5 := Lib.hid (own_below HV4.out hb5)
  have HO5 := Lib.hid (own_below HO4.out hb5)
  have HW5 := Lib.hid (own_below HW4.out hb5)
  have HVL := Lib.hid HV.out.lt
  have HOL := Lib.hid HO.out.lt
  have HWL := Lib.hid HW4.out.lt
  obtain ⟨av, cv, hvv⟩ : ∃ a c, v = .slice a l.length c := by
    rcases HV.out.2 with ⟨hv, h0⟩ | ⟨g, cap, cur, hv, -⟩
    · exact ⟨none, 0, by rw [hv, h0]⟩
    · exact ⟨_, _, hv⟩
  subst hvv
  obtain ⟨n, hnl⟩ : ∃ n, n = l.length := ⟨_, rfl⟩
  have HNL := Lib.hid hnl
  rw [← hnl] at HV HV5 HO5 HW5 hn HVL ⊢
  clear hb5 hsm HT4 HV3 HV4 HO4 HW4 HO hnl
  go_wp2_with fail
  go_loopw [10] (fun i wr => ∃ k : Nat, k ≤ n ∧ i = .int .i64 k ∧ wr.ownsRow w1.heap.size 36 4 (.slice av n cv) n (nvals (List.replicate k spoilt ++ l.drop k)) ∧ wr.ownsRow w2.heap.size 36 4 ow n (nvals l) ∧ wr.ownsRow w3.heap.size 36 4 want n (nvals l) ∧ Below w.heap.size w wr ∧ w5.heap.size ≤ wr.heap.size) (fun i _ => n - (intOf i).toNat)
  case atStart => exact ⟨0, Nat.zero_le _, rfl, HV5.out, HO5.out, HW5.out, HB5.out, Nat.le_refl _⟩
  case round =>
    obtain ⟨k, hk, rfl, hv, ho, hw, hb, hsz⟩ := hrel
    have HO6 := Lib.hid ho
    have HW6 := Lib.hid hw
    have HB6 := Lib.hid hb
    have HV6 := Lib.hid hv
    clear ho hw hb
    by_cases hlt : k < n
    · have hlt' : (k : Int) < (n : Int) := by omega
      obtain ⟨g, cap, cur, hgv, hg1, hgh, -, hg2, hg3, hg4⟩ := row_form hv (by omega)
      simp only [Value.slice.injEq, true_and] at hgv
      obtain ⟨rfl, rfl⟩ := hgv
      have hg5 : g < w2.heap.size := (HVL.out g rfl).2
      obtain ⟨hcl, hfz⟩ := block_cells hgh
      have hcell : ∀ i, i < 4 → ∃ u, wr.cell? ⟨g, k * 4 + i, none⟩ = some u := fun i hi =>
        ⟨_, hcl (k * 4 + i) _ (Array.getElem?_eq_getElem (show k * 4 + i < cur.size by rw [hg4]; omega))⟩
      obtain ⟨x0, y0⟩ := hcell 0 (by omega)
      obtain ⟨x1, y1⟩ := hcell 1 (by omega)
      obtain ⟨x2, y2⟩ := hcell 2 (by omega)
      obtain ⟨x3, y3⟩ := hcell 3 (by omega)
      have y0 : wr.cell? ⟨g, k * 4, none⟩ = some x0 := y0
      have z0 := hfz (k * 4)
      have z1 := hfz (k * 4 + 1)
      have z2 := hfz (k * 4 + 2)
      have z3 := hfz (k * 4 + 3)
      clear hv hgh hcl hfz hcell hg4
      go_wp2_with fail
      go_roundw
      case rel =>
        refine ⟨k + 1, hlt, by go_num, own_spoil (by have := HNL.out; omega) HNL.out HV6.out, ?_, ?_, ?_, by simp; omega⟩
        · exact ownsRow_setCell_below (ownsRow_setCell_below (ownsRow_setCell_below (ownsRow_setCell_below HO6.out hg5 _) hg5 _) hg5 _) hg5 _
        · have hg6 : g < w3.heap.size := by have := HS23.out; omega
          exact ownsRow_setCell_below (ownsRow_setCell_below (ownsRow_setCell_below (ownsRow_setCell_below HW6.out hg6 _) hg6 _) hg6 _) hg6 _
        · have hg7 : w.heap.size ≤ g := by have := HB1.out.size; omega
          exact (((HB6.out.setCell hg7 _).setCell hg7 _).setCell hg7 _).setCell hg7 _
      case measure => simp [intOf]; omega
    · have hlt' : ¬ (k : Int) < (n : Int) := by omega
      obtain rfl : k = n := by omega
      have hz : l.drop k = [] := List.drop_eq_nil_of_le (by have := HNL.out; omega)
      rw [hz, List.append_nil] at HV6
      have HG0 := Lib.hid (grown_start HV6.out HO6.out HW6.out HVL.out HOL.out HWL.out HS23.out HS34.out (by have := HS45.out; omega))
      clear hv hz HV6 HO6 HW6 HV HV5 HO5 HW5 HVL HOL HWL HB5 HB4 HB3 HB2
      go_wp2_with fail
      obtain ⟨wo, rfl⟩ : ∃ wo : World, wo = wr := ⟨_, rfl⟩
      go_loopw [11, 12] (fun lv i wr => ∃ j : Nat, j ≤ 64 ∧ i = .int .i64 j ∧ Grown w1.heap.size w2.heap.size w3.heap.size w4.heap.size k (.slice av k cv) ow want lv l j wr ∧ Below w.heap.size w wr) (fun _ i _ => 64 - (intOf i).toNat)
      case atStart => exact ⟨0, by omega, rfl, HG0.out, HB6.out⟩
      case round =>
        obtain ⟨j, hj, rfl, hg, hb⟩ := hrel
        have HG := Lib.hid hg
        have HB := Lib.hid hb
        clear hg hb
        by_cases hlt2 : j < 64
        · have hlt2' : (j : Int) < 64 := by omega
          have hbs := HG.out.s3
          have hbase : w1.heap.size ≤ wr.heap.size := by have := HS12.out; have := HG.out.s1; have := HG.out.s2; omega
          have HBB := Lib.hid (Below.refl w1.heap.size wr)
          go_wp2_with (first | (at_builtin; go_must (refine append_apart (w0 := wr) w1.heap.size rfl _ _ 22 36 (.agg #[.int .i64 0, .string ⟨#[]⟩, .string ⟨#[]⟩, .int .i64 0]) 4 48 rfl Tryd.underlying22 info36 rfl (by decide) (by decide) u11 (k + j) _ _ rfl rfl rfl nvals_one HG.out.row HBB.out hbase (by omega) ?_); intro v1 wn HO2 HB2 how))
          have HG2 := Lib.hid (HG.out.step HO2 how)
          have HBn := Lib.hid (below_grown HB.out HG.out.row.lt how (by have := HB1.out.size; have := HS12.out; omega) (by have := HB1.out.size; omega))
          clear HO2 how HB2 HBB
          go_roundw
          case rel => exact ⟨j + 1, by omega, by go_num, HG2.out, HBn.out⟩
          case measure => simp [intOf]; omega
        · have hlt2' : ¬ (j : Int) < 64 := by omega
          obtain rfl : j = 64 := by omega
          go_wp2_with fail
          obtain ⟨wp, rfl⟩ : ∃ wp : World, wp = wr := ⟨_, rfl⟩
          go_loopw [13] (fun i wr => ∃ q : Nat, q ≤ k ∧ i = .int .i64 q ∧ Grown w1.heap.size w2.heap.size w3.heap.size w4.heap.size k (.slice av k cv) ow want u11 l 64 wr ∧ Below w.heap.size w wr) (fun i _ => k - (intOf i).toNat)
          case atStart => exact ⟨0, by omega, rfl, HG.out, HB.out⟩
          case round =>
            obtain ⟨q, hq, rfl, hg, hb⟩ := hrel
            have HG := Lib.hid hg
            have HB := Lib.hid hb
            clear hg hb
            by_cases hlt3 : q < k
            · have hlt3' : (q : Int) < (k : Int) := by omega
              obtain ⟨bv, ov, rfl, k1⟩ := v_kind HG.out.reads hlt3
              obtain ⟨gl, cl, rfl, k2⟩ := long_kind HG.out.row hlt3
              have hq64 : (q : Int) < (k : Int) + 64 := by omega
              go_wp2_with fail
              go_roundw
              case rel => exact ⟨q + 1, hlt3, by go_num, HG.out, HB.out⟩
              case measure => simp [intOf]; omega
            · have hlt3' : ¬ (q : Int) < (k : Int) := by omega
              have HTn := Lib.hid (HT.out.below HB.out HT.out.lt)
              go_wp2_with fail
              refine (hpa.out wr HTn.out).mono ?_
              rintro e w7 ⟨x, a3, rfl, hx, -, hb7⟩
              have HB7 := Lib.hid (below_then HB.out HB.out.size hb7)
              have hRO := RN.own (by have := HG.out.two; rw [HNL.out] at this; exact this)
              have hRW := RN.own (by have := HG.out.three; rw [HNL.out] at this; exact this)
              have hRX := RN.own hx
              have hs1 := Lib.hid (same_calls l l ow want w7 (hRO.below hb7) (hRW.below hb7) (by have := HNL.out; omega) (by have := HNL.out; omega))
              have HRW := Lib.hid (hRW.below hb7)
              have HRX := Lib.hid hRX
              rw [decide_eq_true rfl] at hs1
              clear hRO hRW hRX hx hb7
              go_wp2_with fail
              refine hs1.out.mono ?_
              rintro e w8 ⟨rfl, hb8⟩
              have HB8 := Lib.hid (below_then HB7.out HB7.out.size hb8)
              have hs2 := Lib.hid (same_calls l l x want w8 (HRX.out.below hb8) (HRW.out.below hb8) (by have := HNL.out; omega) (by have := HNL.out; omega))
              rw [decide_eq_true rfl] at hs2
              clear hb8 hs1
              go_wp2_with fail
              refine hs2.out.mono ?_
              rintro e w9 ⟨rfl, hb9⟩
              have hb10 := below_then HB8.out HB8.out.size hb9
              clear hs2
              go_wp2_with fail
              go_ret
              exact ⟨rfl, hb10⟩
end Go.Proofs.YtdhdeaknflekpaaDoor
