/- json laws: JsonBlanks. -/
import Derived.Test.YtdhdeaknflekpaaDoorLf
import Derived.Test.YtdhdeaknflekpaaDoorPo
set_option linter.unusedSimpArgs false
set_option linter.unusedVariables false
namespace Go.Proofs.YtdhdeaknflekpaaDoor
open Go.RowKit Go.Maps

theorem RN.tail {w : World} {n0 : TJ.N} {l : List TJ.N} {b o c : Nat} (h : RN w (.slice (some ⟨b, o, none⟩) (n0 :: l).length c) (n0 :: l)) : RN w (.slice (some ⟨b, o + 4, none⟩) l.length (c - 1)) l := by
  obtain ⟨a, c', he, hc, hcl⟩ := h
  obtain ⟨b', o', ha, hcx⟩ := hcl (by simp)
  subst ha
  injection he with h1 h2 h3
  injection h1 with h1
  injection h1 with h4 h5
  subst h3 h4 h5
  refine ⟨_, _, rfl, by simp at hc; omega, fun _ => ⟨_, _, rfl, fun i hi => ?_⟩⟩
  have := hcx (i + 1) (by simpa using hi)
  rw [show o + (i + 1) * 4 = o + 4 + i * 4 by omega] at this
  exact this
theorem RN.rekey {w : World} {n0 n1 : TJ.N} {l : List TJ.N} {b o c : Nat} (k : List UInt8) (h : RN w (.slice (some ⟨b, o, none⟩) (n0 :: n1 :: l).length c) (n0 :: n1 :: l)) :
    RN (w.setCell ⟨b, o + 4 + 1, none⟩ (.string ⟨k.toArray⟩)) (.slice (some ⟨b, o, none⟩) (n0 :: n1 :: l).length c) (n0 :: { n1 with key := k } :: l) := by
  obtain ⟨a, c', he, hc, hcl⟩ := h
  obtain ⟨b', o', ha, hcx⟩ := hcl (by simp)
  subst ha
  injection he with h1 h2 h3
  injection h1 with h1
  injection h1 with h4 h5
  subst h3 h4 h5
  have oth : ∀ j u, j ≠ o + 4 + 1 → w.cell? ⟨b, j, none⟩ = some u → (w.setCell ⟨b, o + 4 + 1, none⟩ (.string ⟨k.toArray⟩)).cell? ⟨b, j, none⟩ = some u := fun j u hj hu => by
    have hne : (⟨b, o + 4 + 1, none⟩ : Addr) ≠ ⟨b, j, none⟩ := by intro e; injection e with _ e; exact hj e.symm
    exact (World.cell?_setCell_other _ _ _ _ hne).trans hu
  refine ⟨_, _, rfl, hc, fun _ => ⟨_, _, rfl, fun i hi => ?_⟩⟩
  by_cases h1 : i = 1
  · subst h1
    obtain ⟨d0, d1, d2, d3⟩ := hcx 1 (by simp)
    refine ⟨oth _ _ (by omega) d0, ?_, oth _ _ (by omega) d2, oth _ _ (by omega) d3⟩
    exact World.cell?_setCell_same _ _ _ (u := .string ⟨n1.key.toArray⟩) d1
  · obtain ⟨d0, d1, d2, d3⟩ := hcx i hi
    have e : ({ n1 with key := k } : TJ.N) = { n1 with key := k } := rfl
    have hget : (n0 :: { n1 with key := k } :: l)[i]'hi = (n0 :: n1 :: l)[i]'hi := by
      match i, h1 with
      | 0, _ => rfl
      | i + 2, _ => rfl
    rw [hget]
    exact ⟨oth _ _ (by omega) d0, oth _ _ (by omega) d1, oth _ _ (by omega) d2, oth _ _ (by omega) d3⟩
theorem x_form {w w1 : World} {x : Value} {n0 : TJ.N} {l : List TJ.N} (h : RN w x (n0 :: l)) (hb : Below w.heap.size w w1) :
    ∃ b o c, x = .slice (some ⟨b, o, none⟩) (n0 :: l).length c ∧ RN w (.slice (some ⟨b, o + 4, none⟩) l.length (c - 1)) l ∧ w1.cell? ⟨b, o + 3, none⟩ = some (.int .i64 n0.kids) ∧ (n0 :: l).length ≤ c := by
  obtain ⟨a, c, rfl, hc, hcl⟩ := h
  obtain ⟨b, o, rfl, hcx⟩ := hcl (by simp)
  refine ⟨b, o, c, rfl, RN.tail ⟨_, _, rfl, hc, fun _ => ⟨b, o, rfl, hcx⟩⟩, ?_⟩
  have h3 := (hcx 0 (by simp)).2.2.2
  rw [show o + 0 * 4 + 3 = o + 3 by omega] at h3
  exact ⟨(hb.cell (World.block_lt_of_cell? w _ h3)).trans h3, hc⟩
theorem y_form {w : World} {n0 n1 : TJ.N} {l : List TJ.N} {b o c : Nat} (h : RN w (.slice (some ⟨b, o, none⟩) (n0 :: TJ.setKey [107] (n1 :: l)).length c) (n0 :: TJ.setKey [107] (n1 :: l))) (hk : n1.key = []) :
    RN (w.setCell ⟨b, o + 4 + 1, none⟩ (.string ⟨#[]⟩)) (.slice (some ⟨b, o + 4, none⟩) (n1 :: l).length (c - 1)) (n1 :: l) ∧ w.cell? ⟨b, o + 3, none⟩ = some (.int .i64 n0.kids) ∧ w.cell? ⟨b, o + 4 + 1, none⟩ = some (.string ⟨#[107]⟩) := by
  obtain ⟨a, c', he, hc, hcl⟩ := id h
  obtain ⟨b', o', ha, hcx⟩ := hcl (by simp)
  subst ha
  injection he with h1 h2 h3
  injection h1 with h1
  injection h1 with h4 h5
  subst h3 h4 h5
  have e3 := (hcx 0 (by simp)).2.2.2
  rw [show o + 0 * 4 + 3 = o + 3 by omega] at e3
  have e1 := (hcx 1 (by simp [TJ.setKey])).2.1
  rw [show o + 1 * 4 + 1 = o + 4 + 1 by omega] at e1
  refine ⟨?_, e3, e1⟩
  have hr : RN (w.setCell ⟨b, o + 4 + 1, none⟩ (.string ⟨([] : List UInt8).toArray⟩)) (.slice (some ⟨b, o, none⟩) (n0 :: TJ.setKey [107] (n1 :: l)).length c) (n0 :: { ({ n1 with key := [107] } : TJ.N) with key := [] } :: l) := RN.rekey [] h
  have en : ({ ({ n1 with key := [107] } : TJ.N) with key := [] } : TJ.N) = n1 := by
    obtain ⟨p, q, r, s⟩ := n1
    simp only at hk
    rw [hk]
  rw [en] at hr
  exact RN.tail (n0 := n0) (l := n1 :: l) hr
/-- so many blanks -/
def blk (k : Nat) : List UInt8 := (List.range k).map fun i => [32, 9, 10, 13].getD (i % 4) 32
theorem blk_bk (k : Nat) : TJ.Bk (blk k) := by
  intro c hc
  obtain ⟨i, -, rfl⟩ := List.mem_map.1 hc
  have : i % 4 < 4 := Nat.mod_lt _ (by omega)
  have h : ∀ j : Fin 4, ([32, 9, 10, 13] : List UInt8).getD j.val 32 ∈ TJ.sBlank := by decide
  exact h ⟨i % 4, this⟩
theorem blk_succ (k : Nat) : blk (k + 1) = blk k ++ [[32, 9, 10, 13].getD (k % 4) 32] := by simp [blk, List.range_succ]
theorem blk_len (k : Nat) : (blk k).length = k := by simp [blk]
set_option maxRecDepth 100000 in
set_option maxHeartbeats 4000000 in
theorem JsonBlanks_calls (text : ByteArray) (n : Int) (w : World) (hs : text.size ≤ 1048576) (hT : Tabs w) :
    Calls Tryd.prog 6 #[.string text, .int .i64 n] w fun e w' => e = .returned (.bool true) ∧ Below w.heap.size w w' := by
  have HT := Lib.hid hT
  clear hT
  go_enter Tryd.func6, Tryd.ntmps6
  go_wp2_with fail
  refine (started_calls w HT.out).mono ?_
  rintro e w1 ⟨rfl, hb1⟩
  have HB1 := Lib.hid hb1
  have HT1 := Lib.hid (HT.out.below hb1 HT.out.lt)
  clear hb1 HT
  have hp := Lib.hid (Parse_calls text w1 (by omega) HT1.out.says)
  go_wp2_with fail
  obtain ⟨R, hR⟩ : ∃ R, R = TJ.parse (bl text) := ⟨_, rfl⟩
  rw [← hR] at hp
  refine hp.out.mono ?_
  intro e w2 hpp
  have hpost := Lib.hid hpp
  obtain ⟨out, c, a1, rfl, hb2⟩ : ∃ (out : Value) (c a1 : Int), e = .returned (.tuple #[out, .int .i64 c, .int .i64 a1]) ∧ Below w1.heap.size w1 w2 := by
    obtain ⟨hb2, hpp⟩ := hpp
    cases R with
    | ok v l => obtain ⟨out, he, -, -⟩ := hpp; exact ⟨out, 0, 0, he, hb2⟩
    | no d l => exact ⟨_, _, _, hpp.1, hb2⟩
  have HB2 := Lib.hid (below_then HB1.out HB1.out.size hb2)
  have HT2 := Lib.hid (HT1.out.below hb2 HT1.out.lt)
  clear hpp hb2 hp
  go_wp2_with fail
  have hblk := heap_alloc_new w2 (.cells #[.string ⟨#[32]⟩, .string ⟨#[9]⟩, .string ⟨#[10]⟩, .string ⟨#[13]⟩] 33)
  have HB3 := Lib.hid (HB2.out.alloc HB2.out.size (.cells #[.string ⟨#[32]⟩, .string ⟨#[9]⟩, .string ⟨#[10]⟩, .string ⟨#[13]⟩] 33))
  have hba := below_one w2 (.cells #[.string ⟨#[32]⟩, .string ⟨#[9]⟩, .string ⟨#[10]⟩, .string ⟨#[13]⟩] 33)
  have HBA := Lib.hid hba
  generalize w2.alloc _ = w3 at *
  have hcells := block_cells hblk
  have q0 := hcells.1 0 _ rfl
  have q1 := hcells.1 1 _ rfl
  have q2 := hcells.1 2 _ rfl
  have q3 := hcells.1 3 _ rfl
  have HQ := Lib.hid (show ∀ k : Nat, w3.cell? ⟨w2.heap.size, k % 4, none⟩ = some (.string ⟨#[([32, 9, 10, 13] : List UInt8).getD (k % 4) 32]⟩) from fun k => by
    have : k % 4 = 0 ∨ k % 4 = 1 ∨ k % 4 = 2 ∨ k % 4 = 3 := by omega
    rcases this with h | h | h | h <;> rw [h] <;> assumption)
  clear hcells q0 q1 q2 q3 hblk hba
  go_loop [9, 10] (fun s i => ∃ k : Nat, k ≤ 9 ∧ s = .string ⟨(blk k).toArray⟩ ∧ i = .int .i64 k) (fun _ i => 9 - (intOf i).toNat)
  case atStart => exact ⟨0, by omega, rfl, rfl⟩
  case round =>
    obtain ⟨k, hk, rfl, rfl⟩ := hrel
    by_cases hlt : (k : Int) < n ∧ k < 9
    · obtain ⟨hlt1, hlt2⟩ := hlt
      have hlt3 : (k : Int) < 9 := by omega
      have hq := HQ.out k
      have hm : (k : Int).tmod 4 = ((k % 4 : Nat) : Int) := by rw [Int.tmod_eq_emod_of_nonneg (by omega)]; omega
      have hm4 : k % 4 < 4 := Nat.mod_lt _ (by omega)
      have hov : ¬ 9223372036854775807 < (blk k).length + 1 := by rw [blk_len]; omega
      go_wp2_with fail
      refine ⟨⟨k + 1, by omega, ?_, by go_num⟩, by simp [intOf]; omega⟩
      rw [blk_succ]
      refine congrArg Value.string (ByteArray.ext ?_)
      simp
      rw [List.getElem?_eq_getElem (by simpa using hm4)]
      rfl
    · have HK := Lib.hid hk
      have hex : ¬ (k : Int) < n ∨ ((k : Int) < n ∧ ¬ (k : Int) < 9) := by omega
      clear hlt
      obtain ⟨A, hA⟩ : ∃ A : ByteArray, A = ⟨(blk k).toArray⟩ := ⟨_, rfl⟩
      have hAs : A.size = k := by rw [hA]; exact blk_len k
      have hAb : bl A = blk k := by rw [hA]
      have HAB := Lib.hid hAb
      rw [← hA]
      clear hA hAb
      have HT3 := Lib.hid (HT2.out.below HBA.out HT2.out.lt)
      rcases hex with hx | ⟨hx, hx9⟩
      all_goals
        have hp2 := Lib.hid (Parse_calls (A ++ text ++ A) w3 (by simp; omega) HT3.out.says)
        go_wp2_with fail
        cases R with
        | no d r =>
          have hab : bl (A ++ text ++ A) = blk k ++ bl text ++ blk k := by rw [bl_app, bl_app, HAB.out]
          obtain ⟨-, he, hrl⟩ := hpost.out
          have he2 : (#[out, Value.int .i64 c, Value.int .i64 a1] : Array Value) = #[.slice none 0 0, .int .i64 (if d then 251 else 250), .int .i64 ((text.size : Int) - (r.length : Int))] := by
            injection he with he
            injection he
          have e0 : out = .slice none 0 0 := Option.some.inj (congrArg (fun x : Array Value => x[0]?) he2)
          have e1 : c = if d then 251 else 250 := by
            have := Option.some.inj (congrArg (fun x : Array Value => x[1]?) he2)
            injection this
          have e2 : a1 = (text.size : Int) - (r.length : Int) := by
            have := Option.some.inj (congrArg (fun x : Array Value => x[2]?) he2)
            injection this
          subst e0 e2
          have hc0 : (c != 0) = true := by rw [e1]; cases d <;> rfl
          have E1 := Lib.hid e1
          clear he he2 e1
          by_cases hr : r = []
          · subst hr
            obtain ⟨r2, h3, h4⟩ := TJ.blanks_end (blk_bk k) hR.symm
            rw [← hab] at h3
            rw [h3] at hp2
            rw [blk_len] at h4
            clear h3 hab hpost hR hrl
            refine hp2.out.mono ?_
            rintro e w4 ⟨hb4, rfl, hrl2⟩
            have hb5 := below_then HB3.out HB3.out.size hb4
            clear hb4 hp2
            have z1 : ((A ++ text ++ A).size : Int) - (r2.length : Int) ≥ (A.size : Int) + (text.size : Int) := by
              rw [ByteArray.size_append, ByteArray.size_append]
              omega
            generalize ((A ++ text ++ A).size : Int) - (r2.length : Int) = z at *
            go_wp2_with fail
            go_ret
            exact ⟨by simp, hb5⟩
          · have h3 := TJ.blanks_no (blk_bk k) hR.symm hr
            have hr0 : 0 < r.length := List.length_pos_iff.2 hr
            rw [← hab] at h3
            rw [h3] at hp2
            clear h3 hab hpost hR
            refine hp2.out.mono ?_
            rintro e w4 ⟨hb4, rfl, hrl2⟩
            have hb5 := below_then HB3.out HB3.out.size hb4
            clear hb4 hp2
            have z1 : ((A ++ text ++ A).size : Int) - ((r ++ blk k).length : Int) = (text.size : Int) - (r.length : Int) + (A.size : Int) := by
              rw [ByteArray.size_append, ByteArray.size_append, List.length_append, blk_len]
              omega
            rw [z1, ← E1.out]
            have z2 : (((text.size : Int) - (r.length : Int)) == (text.size : Int)) = false := by rw [beq_eq_false_iff_ne]; omega
            clear z1
            go_wp2_with fail
            go_ret
            exact ⟨by simp, hb5⟩
        | ok v r =>
          have hab : bl (A ++ text ++ A) = blk k ++ bl text ++ blk k := by rw [bl_app, bl_app, HAB.out]
          obtain ⟨-, out', he, hown, hvl⟩ := hpost.out
          have he2 : (#[out, Value.int .i64 c, Value.int .i64 a1] : Array Value) = #[out', .int .i64 0, .int .i64 0] := by
            injection he with he
            injection he
          have e0 : out = out' := Option.some.inj (congrArg (fun x : Array Value => x[0]?) he2)
          have e1 : c = 0 := by
            have := Option.some.inj (congrArg (fun x : Array Value => x[1]?) he2)
            injection this
          have e2 : a1 = 0 := by
            have := Option.some.inj (congrArg (fun x : Array Value => x[2]?) he2)
            injection this
          subst e0 e1 e2
          have HRN := Lib.hid (RN.own hown)
          have h3 := TJ.blanks_ok (blk_bk k) hR.symm
          obtain ⟨n1, l1, hv1, hk1⟩ := TJ.parse_ne hR.symm
          rw [← hab] at h3
          rw [h3] at hp2
          have hbr := Lib.hid (TJ.brackets hR.symm)
          clear he he2 hown hpost h3 hab hR
          refine hp2.out.mono ?_
          rintro e w4 ⟨hb4, out2, rfl, hown2, -⟩
          have HB4 := Lib.hid (below_then HB3.out HB3.out.size hb4)
          have HT4 := Lib.hid (HT3.out.below hb4 HT3.out.lt)
          have HRN4 := Lib.hid ((HRN.out.below HBA.out).below hb4)
          have hsame := Lib.hid (same_calls v v _ out2 w4 HRN4.out (RN.own hown2) (by omega) (by omega))
          rw [decide_eq_true rfl] at hsame
          clear hb4 hp2 hown2 HRN
          go_wp2_with fail
          refine hsame.out.mono ?_
          rintro e w5 ⟨rfl, hb5⟩
          have HB5 := Lib.hid (below_then HB4.out HB4.out.size hb5)
          have HT5 := Lib.hid (HT4.out.below hb5 HT4.out.lt)
          have HRN5 := Lib.hid (HRN4.out.below hb5)
          clear hb5 hsame HRN4 HT4 HB4
          have hbb : bl (⟨#[91]⟩ ++ text ++ ⟨#[93]⟩) = 91 :: bl text ++ [93] := by rw [bl_app, bl_app]; rfl
          have hbz : ((⟨#[91]⟩ : ByteArray) ++ text ++ ⟨#[93]⟩).size = text.size + 2 := by rw [← bl_len, hbb]; simp [bl_len]
          have hp3 := Lib.hid (Parse_calls (⟨#[91]⟩ ++ text ++ ⟨#[93]⟩) w5 (by omega) HT5.out.says)
          rcases hbr.out with ⟨r2, hb1, hb2⟩ | ⟨hb1, hb2⟩
          · rw [← hbb] at hb1
            rw [hb1] at hp3
            rw [bl_len] at hb2
            clear hb1 hbb
            go_wp2_with fail
            refine hp3.out.mono ?_
            rintro e w6 ⟨hb6, rfl, hrl6⟩
            have hb7 := below_then HB5.out HB5.out.size hb6
            have z1 : 0 < (((⟨#[91]⟩ : ByteArray) ++ text ++ ⟨#[93]⟩).size : Int) - (r2.length : Int) := by omega
            generalize (((⟨#[91]⟩ : ByteArray) ++ text ++ ⟨#[93]⟩).size : Int) - (r2.length : Int) = z at *
            clear hb6 hp3
            go_wp2_with fail
            go_ret
            exact ⟨by simp, hb7⟩
          · rw [← hbb] at hb1
            rw [hb1] at hp3
            clear hb1 hbb
            go_wp2_with fail
            refine hp3.out.mono ?_
            rintro e w6 ⟨hb6, x, rfl, hownx, -⟩
            have HB6 := Lib.hid (below_then HB5.out HB5.out.size hb6)
            have HT6 := Lib.hid (HT5.out.below hb6 HT5.out.lt)
            have HRN6 := Lib.hid (HRN5.out.below hb6)
            have HX6 := Lib.hid (RN.own hownx)
            clear hb6 hp3 hownx HRN5 HT5 HB5
            have hbc : bl (⟨#[123, 34, 107, 34, 58]⟩ ++ text ++ ⟨#[125]⟩) = [123, 34, 107, 34, 58] ++ bl text ++ [125] := by rw [bl_app, bl_app]
            have hbz2 : ((⟨#[123, 34, 107, 34, 58]⟩ : ByteArray) ++ text ++ ⟨#[125]⟩).size = text.size + 6 := by rw [← bl_len, hbc]; simp [bl_len]
            have hp4 := Lib.hid (Parse_calls (⟨#[123, 34, 107, 34, 58]⟩ ++ text ++ ⟨#[125]⟩) w6 (by omega) HT6.out.says)
            rw [← hbc] at hb2
            rw [hb2] at hp4
            clear hb2 hbc
            go_wp2_with fail
            refine hp4.out.mono ?_
            rintro e w7 ⟨hb7, y, rfl, howny, -⟩
            have HB7 := Lib.hid (below_then HB6.out HB6.out.size hb7)
            have HRN7 := Lib.hid (HRN6.out.below hb7)
            have HX7 := Lib.hid (HX6.out.below hb7)
            have HXL := Lib.hid HX6.out
            have HBY := Lib.hid hb7
            obtain ⟨g, cap, cur, hyv, hyg, hyh, -, hcap, -, -⟩ := row_form howny (by simp)
            have HY := RN.own howny
            have hyfz := (block_cells hyh).2
            obtain ⟨oy, hoy⟩ : ∃ oy : Nat, oy = 0 := ⟨_, rfl⟩
            subst hyv
            rw [← hoy] at HY ⊢
            subst hv1
            obtain ⟨Y, hY⟩ : ∃ Y, Y = (n1 :: l1).length := ⟨_, rfl⟩
            have hYle : Y ≤ 33554432 := by rw [hY]; omega
            have hY1 : 1 ≤ Y := by rw [hY]; simp
            obtain ⟨bx, ox, cx, hxv, hxt, hx3, hcx⟩ := x_form HX6.out HBY.out
            subst hxv
            obtain ⟨hyt, hy3, hy1⟩ := y_form HY hk1
            have hfz := hyfz (oy + 4 + 1)
            obtain ⟨av, cv, hov, -, -⟩ := HRN7.out
            subst hov
            have hlx : ((⟨6, [], [], 1⟩ : TJ.N) :: n1 :: l1).length = Y + 1 := by rw [hY]; rfl
            have hly : ((⟨7, [], [], 1⟩ : TJ.N) :: TJ.setKey [107] (n1 :: l1)).length = Y + 1 := by rw [hY]; rfl
            rw [hlx] at hcx
            rw [hly] at hcap
            have hcx2 : ¬ cx = 1 := by omega
            have hcap2 : ¬ cap = 1 := by omega
            rw [hlx, hly, ← hY]
            rw [← hY] at hxt hyt
            have HO6 := Lib.hid (show RN w6 (.slice av Y cv) (n1 :: l1) from by rw [hY]; exact HRN6.out)
            have HXT := Lib.hid hxt
            have HYT := Lib.hid hyt
            have hB8 := Lib.hid (HBY.out.setCell (p := ⟨g, oy + 4 + 1, none⟩) hyg (.string ⟨#[]⟩))
            have hneq : (((Y : Int) + 1) != ((Y : Int) + 1)) = false := by simp
            have hYY := Lib.hid hY
            clear hp4 HT6 hk1 hyfz hyh HY hxt hyt hY hlx hly howny hoy hb7
            have hs1 := Lib.hid (same_calls (n1 :: l1) (n1 :: l1) (.slice (some ⟨bx, ox + 4, none⟩) Y (cx - 1)) (.slice av Y cv) (w7.setCell ⟨g, oy + 4 + 1, none⟩ (.string ⟨#[]⟩)) (HXT.out.below hB8.out) (HO6.out.below hB8.out) (by rw [← hYY.out]; omega) (by rw [← hYY.out]; omega))
            rw [decide_eq_true rfl] at hs1
            have HB9 := Lib.hid (below_then HB6.out HB6.out.size hB8.out)
            go_wp2_with fail
            refine hs1.out.mono ?_
            rintro e w9 ⟨rfl, hb9⟩
            have HB10 := Lib.hid (below_then HB9.out HB9.out.size hb9)
            have hs2 := Lib.hid (same_calls (n1 :: l1) (n1 :: l1) (.slice (some ⟨g, oy + 4, none⟩) Y (cap - 1)) (.slice av Y cv) w9 (HYT.out.below hb9) ((HO6.out.below hB8.out).below hb9) (by rw [← hYY.out]; omega) (by rw [← hYY.out]; omega))
            rw [decide_eq_true rfl] at hs2
            clear hb9 hs1
            go_wp2_with fail
            refine hs2.out.mono ?_
            rintro e w10 ⟨rfl, hb10⟩
            have hb11 := below_then HB10.out HB10.out.size hb10
            clear hs2
            go_wp2_with fail
            go_ret
            exact ⟨rfl, hb11⟩
