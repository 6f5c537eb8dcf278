/- trellislaw8.WordsPlaces returns true. -/
import Derived.Test.YtjkhbcacpfaagaaDoorWi
import Derived.Test.YtjkhbcacpfaagaaDoorPh
set_option linter.unusedSimpArgs false
set_option linter.unusedVariables false
namespace Go.Proofs.YtjkhbcacpfaagaaDoor
open Go.RowKit

theorem RW.sub {w : World} {b o n c : Nat} {l : List TW.W} (h : RW w (.slice (some ⟨b, o, none⟩) n c) l) (k : Nat) (hk : k < l.length) (c' : Nat) (hc' : 1 ≤ c') :
    RW w (.slice (some ⟨b, o + k * 4, none⟩) 1 c') [l[k]'hk] := by
  obtain ⟨a, c1, e, hc, hcl⟩ := h.cells
  obtain ⟨rfl, rfl, rfl⟩ : a = some ⟨b, o, none⟩ ∧ n = l.length ∧ c = c1 := by
    simp only [Value.slice.injEq] at e
    exact ⟨e.1.symm, e.2.1, e.2.2⟩
  obtain ⟨b1, o1, e1, hcx⟩ := hcl (fun h0 => by rw [h0] at hk; simp at hk)
  simp only [Option.some.injEq, Addr.mk.injEq, and_true] at e1
  obtain ⟨rfl, rfl⟩ := e1
  obtain ⟨d0, d1, d2, d3⟩ := hcx k hk
  refine ⟨_, _, rfl, hc', fun _ => ⟨b, o + k * 4, rfl, fun j u hu => ?_⟩⟩
  simp only [wvals, wvals1, List.flatMap_cons, List.flatMap_nil, List.append_nil] at hu
  match j, hu with
  | 0, hu => simp at hu; subst hu; exact d0
  | 1, hu => simp at hu; subst hu; exact d1
  | 2, hu => simp at hu; subst hu; exact d2
  | 3, hu => simp at hu; subst hu; exact d3
  | j + 4, hu => simp at hu
theorem piece_cut (s : ByteArray) (a b : Nat) (hs : s.size ≤ 16384) (hab : a ≤ b) (hb : b ≤ s.size) : TW.Cut (bl (s.extract a b)) = TW.cut (((bl s).drop a).take (b - a)) 0 0 := by
  rw [TW.Cut_short (by rw [bl_length, ByteArray.size_extract]; omega)]
  congr 1
  exact bl_extract s a b
set_option maxRecDepth 100000 in
set_option maxHeartbeats 8000000 in
theorem WordsPlaces_calls (s : ByteArray) (w : World) (hs : s.size ≤ 140737488355328) (hT : Tab w) : Calls Tryd.prog 6 #[.string s] w fun e w' => e = .returned (.bool true) ∧ Below w.heap.size w w' := by
  have HT := Lib.hid hT
  clear hT
  have hca := fun w1 : World => Cut_calls s w1 hs
  have hpc := fun h => TW.Pieces.Cut (l := bl s) h
  have hok := TW.Cut_ok (bl s)
  generalize TW.Cut (bl s) = ra at *
  obtain ⟨ws, code, p⟩ := ra
  have HCA := Lib.hid hca
  clear hca
  by_cases hcode : code = 0
  · subst hcode
    obtain ⟨hlen, hP⟩ := hpc rfl
    have hwl : ws.length ≤ 16384 := by
      rcases hok with h | h
      · exact absurd rfl h.1
      · have := h.2.2.2.2; simp only at this; omega
    clear hpc hok
    have hLO := hP.lo
    have hHI := hP.hi
    have hG := hP.gap
    have hE := hP.each
    clear hP
    rw [bl_length] at hlen hHI
    simp only [Int.zero_add, bl_length] at hLO hHI hG hE
    have hpiece : ∀ (k : Nat) (x : TW.W), ws[k]? = some x → ∀ w1 : World, Calls Tryd.prog 10 #[.string (s.extract x.pos.toNat (TW.pos' ws (s.size : Int) (k + 1)).toNat)] w1 (CPost ([⟨x.kind, x.text, x.n, 0⟩], 0, 0) w1) := fun k x hx w1 => by
      obtain ⟨g1, g2, g3, g4⟩ := hE k x hx
      have h := Cut_calls (s.extract x.pos.toNat (TW.pos' ws (s.size : Int) (k + 1)).toNat) w1 (by rw [ByteArray.size_extract]; omega)
      have g := g4 0
      rw [show (x.pos - 0).toNat = x.pos.toNat by omega, show (TW.pos' ws (s.size : Int) (k + 1) - x.pos).toNat = (TW.pos' ws (s.size : Int) (k + 1)).toNat - x.pos.toNat by omega] at g
      rwa [piece_cut s _ _ hlen (by omega) (by omega), g] at h
    have hfirst : ∀ w1 : World, Calls Tryd.prog 10 #[.string (s.extract 0 (TW.pos' ws (s.size : Int) 0).toNat)] w1 (CPost ([], 0, 0) w1) := fun w1 => by
      have h := Cut_calls (s.extract 0 (TW.pos' ws (s.size : Int) 0).toNat) w1 (by rw [ByteArray.size_extract]; omega)
      have g := hG 0
      rw [show (TW.pos' ws (s.size : Int) 0 - 0).toNat = (TW.pos' ws (s.size : Int) 0).toNat by omega] at g
      rwa [piece_cut s _ _ hlen (by omega) (by omega), List.drop_zero, Nat.sub_zero, g] at h
    have HF := Lib.hid hfirst
    have HPC := Lib.hid hpiece
    have HE : Hid (∀ (k : Nat) (x : TW.W), ws[k]? = some x → 0 ≤ x.pos ∧ x.pos < TW.pos' ws (s.size : Int) (k + 1) ∧ TW.pos' ws (s.size : Int) (k + 1) ≤ (s.size : Int)) := fun k x hx => by
      obtain ⟨g1, g2, g3, -⟩ := hE k x hx
      exact ⟨g1, g2, g3⟩
    clear hfirst hpiece hG hE
    go_enter Tryd.func6, Tryd.ntmps6
    go_wp2_with fail
    refine (started_calls _ HT.out).mono ?_
    rintro e w1 ⟨rfl, hb1⟩
    go_wp2_with fail
    refine (HCA.out _).mono ?_
    rintro e w2 ⟨va, rfl, OA, hb2⟩
    have hB2 := below_then hb1 hb1.size hb2
    have RA := RW.own OA
    clear OA hb1 hb2
    obtain ⟨a, c, rfl, hc, hcl⟩ := RA.cells
    go_wp2_with fail
    go_loopw [6] (fun i wr => ∃ k : Nat, k ≤ ws.length ∧ i = .int .i64 k ∧ Below w2.heap.size w2 wr ∧ w2.heap.size ≤ wr.heap.size) (fun i _ => ws.length - (intOf i).toNat)
    case atStart => exact ⟨0, Nat.zero_le _, rfl, Below.refl _ _, Nat.le_refl _⟩
    case round =>
      obtain ⟨k, hk, rfl, HB, hsz⟩ := hrel
      by_cases hlt : k < ws.length
      · have hlt' : (k : Int) < (ws.length : Int) := by omega
        obtain ⟨b, o, rfl, hcx⟩ := hcl (fun e => by rw [e] at hlt; simp at hlt)
        have mv : ∀ (q : Addr) (u : Value), w2.cell? q = some u → wr.cell? q = some u := fun q u h => (HB.cell (World.block_lt_of_cell? w2 _ h)).trans h
        have RX := RW.sub RA k hlt (c - k) (by omega)
        have hx := List.getElem?_eq_getElem hlt
        obtain ⟨e1, e2, e3⟩ := HE.out k _ hx
        have hcut := HPC.out k _ hx
        have d3 := mv _ _ (hcx k hlt).2.2.2
        have hnext : ∀ h : k + 1 < ws.length, wr.cell? ⟨b, o + (k + 1) * 4 + 3, none⟩ = some (.int .i64 (TW.pos' ws (s.size : Int) (k + 1))) := fun h => by
          have := mv _ _ (hcx (k + 1) h).2.2.2
          rwa [TW.pos', List.getElem?_eq_getElem h]
        have hlast : ¬ k + 1 < ws.length → TW.pos' ws (s.size : Int) (k + 1) = (s.size : Int) := fun h => by
          rw [TW.pos', List.getElem?_eq_none (by omega)]
        have hprev : ∀ i : Nat, k = i + 1 → ∃ p1 : Int, wr.cell? ⟨b, o + i * 4 + 3, none⟩ = some (.int .i64 p1) ∧ p1 < (ws[k]'hlt).pos := fun i hi => by
          have hil : i < ws.length := by omega
          have := (HE.out i _ (List.getElem?_eq_getElem hil)).2.1
          refine ⟨_, mv _ _ (hcx i hil).2.2.2, ?_⟩
          subst hi
          rw [TW.pos', List.getElem?_eq_getElem hlt] at this
          exact this
        have HCUT := Lib.hid hcut
        have HRX := Lib.hid RX
        have HPV := Lib.hid hprev
        have HNX := Lib.hid hnext
        have HLS := Lib.hid hlast
        clear hcut RX hprev hnext hlast hcx mv hcl
        generalize hxe : ws[k]'hlt = x at *
        obtain ⟨xk, xt, xn, xp⟩ := x
        simp only at e1 e2 e3 d3
        generalize TW.pos' ws (s.size : Int) (k + 1) = q at *
        have n1 : ¬ xp < 0 := by omega
        have n2 : ¬ q ≤ xp := by omega
        have n3 : ¬ (s.size : Int) < q := by omega
        have n4 : xp ≤ q := by omega
        have q0 : 0 ≤ q := by omega
        clear hxe hx
        by_cases hnx : k + 1 < ws.length
        · have hnx' : (k : Int) + 1 < (ws.length : Int) := by omega
          have d5 := HNX.out hnx
          go_wp2_with fail
          have b1 : decide (xp < 0) = false := decide_eq_false (by omega)
          have b2 : decide (q ≤ xp) = false := decide_eq_false (by omega)
          have b3 : decide ((s.size : Int) < q) = false := decide_eq_false (by omega)
          by_cases h0 : k = 0
          · have b4 : decide (0 < (k : Int)) = false := decide_eq_false (by omega)
            have b4n : ¬ 0 < k := by omega
            clear h0 d5
            go_quiet (fail)
            go_wp2_with fail
            refine (HCUT.out _).mono ?_
            rintro e w3 ⟨v3, rfl, O3, hb3⟩
            have HB3 : Below w2.heap.size w2 w3 := below_then (below_draws HB _) hsz hb3
            have hsz3 : w2.heap.size ≤ w3.heap.size := HB3.size
            have R3 := RW.own O3
            clear O3 hb3
            obtain ⟨a3, c3, rfl, hc3, hcl3⟩ := R3.cells
            obtain ⟨b3', o3, rfl, hc3x⟩ := hcl3 (by simp)
            have z3 : w3.cell? ⟨b3', o3 + 3, none⟩ = some (.int .i64 0) := by have := (hc3x 0 (by simp)).2.2.2; simpa using this
            clear hcl3 hc3x
            have hal := alike_calls [⟨xk, xt, xn, 0⟩] [⟨xk, xt, xn, xp⟩] _ _ w3 R3 (HRX.out.below HB3) (by simp) (by simp)
            rw [show decide (List.map bare [(⟨xk, xt, xn, 0⟩ : TW.W)] = List.map bare [⟨xk, xt, xn, xp⟩]) = true from decide_eq_true rfl] at hal
            have HAL := Lib.hid hal
            clear hal R3
            go_wp2_with fail
            refine HAL.out.mono ?_
            rintro e w4 ⟨rfl, hb4⟩
            have HB4 := below_then HB3 hsz3 hb4
            go_wp2_with fail
            go_roundw
            case rel => exact ⟨k + 1, hlt, by go_num, HB4, HB4.size⟩
            case measure => simp [intOf]; omega
          · have b4 : decide (0 < (k : Int)) = true := decide_eq_true (by omega)
            have b4n : 0 < k := by omega
            obtain ⟨i, hi⟩ : ∃ i, k = i + 1 := ⟨k - 1, by omega⟩
            obtain ⟨p1, d6, hp1⟩ := HPV.out i hi
            have b5 : decide (xp ≤ p1) = false := decide_eq_false (by omega)
            have i1 : (k : Int) - 1 = (i : Int) := by omega
            have i2 : i < ws.length := by omega
            have i3 : (i : Int) < (ws.length : Int) := by omega
            clear d5 hi h0
            go_quiet (fail)
            go_wp2_with fail
            refine (HCUT.out _).mono ?_
            rintro e w3 ⟨v3, rfl, O3, hb3⟩
            have HB3 : Below w2.heap.size w2 w3 := below_then (below_draws HB _) hsz hb3
            have hsz3 : w2.heap.size ≤ w3.heap.size := HB3.size
            have R3 := RW.own O3
            clear O3 hb3
            obtain ⟨a3, c3, rfl, hc3, hcl3⟩ := R3.cells
            obtain ⟨b3', o3, rfl, hc3x⟩ := hcl3 (by simp)
            have z3 : w3.cell? ⟨b3', o3 + 3, none⟩ = some (.int .i64 0) := by have := (hc3x 0 (by simp)).2.2.2; simpa using this
            clear hcl3 hc3x
            have hal := alike_calls [⟨xk, xt, xn, 0⟩] [⟨xk, xt, xn, xp⟩] _ _ w3 R3 (HRX.out.below HB3) (by simp) (by simp)
            rw [show decide (List.map bare [(⟨xk, xt, xn, 0⟩ : TW.W)] = List.map bare [⟨xk, xt, xn, xp⟩]) = true from decide_eq_true rfl] at hal
            have HAL := Lib.hid hal
            clear hal R3
            go_wp2_with fail
            refine HAL.out.mono ?_
            rintro e w4 ⟨rfl, hb4⟩
            have HB4 := below_then HB3 hsz3 hb4
            go_wp2_with fail
            go_roundw
            case rel => exact ⟨k + 1, hlt, by go_num, HB4, HB4.size⟩
            case measure => simp [intOf]; omega
        · have hq := HLS.out hnx
          have hnx' : ¬ (k : Int) + 1 < (ws.length : Int) := by omega
          subst hq
          clear HNX HLS
          go_wp2_with fail
          have b1 : decide (xp < 0) = false := decide_eq_false (by omega)
          have b2 : decide ((s.size : Int) ≤ xp) = false := decide_eq_false (by omega)
          have b3 : decide ((s.size : Int) < (s.size : Int)) = false := decide_eq_false (by omega)
          by_cases h0 : k = 0
          · have b4 : decide (0 < (k : Int)) = false := decide_eq_false (by omega)
            have b4n : ¬ 0 < k := by omega
            clear h0
            go_quiet (fail)
            go_wp2_with fail
            refine (HCUT.out _).mono ?_
            rintro e w3 ⟨v3, rfl, O3, hb3⟩
            have HB3 : Below w2.heap.size w2 w3 := below_then (below_draws HB _) hsz hb3
            have hsz3 : w2.heap.size ≤ w3.heap.size := HB3.size
            have R3 := RW.own O3
            clear O3 hb3
            obtain ⟨a3, c3, rfl, hc3, hcl3⟩ := R3.cells
            obtain ⟨b3', o3, rfl, hc3x⟩ := hcl3 (by simp)
            have z3 : w3.cell? ⟨b3', o3 + 3, none⟩ = some (.int .i64 0) := by have := (hc3x 0 (by simp)).2.2.2; simpa using this
            clear hcl3 hc3x
            have hal := alike_calls [⟨xk, xt, xn, 0⟩] [⟨xk, xt, xn, xp⟩] _ _ w3 R3 (HRX.out.below HB3) (by simp) (by simp)
            rw [show decide (List.map bare [(⟨xk, xt, xn, 0⟩ : TW.W)] = List.map bare [⟨xk, xt, xn, xp⟩]) = true from decide_eq_true rfl] at hal
            have HAL := Lib.hid hal
            clear hal R3
            go_wp2_with fail
            refine HAL.out.mono ?_
            rintro e w4 ⟨rfl, hb4⟩
            have HB4 := below_then HB3 hsz3 hb4
            go_wp2_with fail
            go_roundw
            case rel => exact ⟨k + 1, hlt, by go_num, HB4, HB4.size⟩
            case measure => simp [intOf]; omega
          · have b4 : decide (0 < (k : Int)) = true := decide_eq_true (by omega)
            have b4n : 0 < k := by omega
            obtain ⟨i, hi⟩ : ∃ i, k = i + 1 := ⟨k - 1, by omega⟩
            obtain ⟨p1, d6, hp1⟩ := HPV.out i hi
            have b5 : decide (xp ≤ p1) = false := decide_eq_false (by omega)
            have i1 : (k : Int) - 1 = (i : Int) := by omega
            have i2 : i < ws.length := by omega
            have i3 : (i : Int) < (ws.length : Int) := by omega
            clear hi h0
            go_quiet (fail)
            go_wp2_with fail
            refine (HCUT.out _).mono ?_
            rintro e w3 ⟨v3, rfl, O3, hb3⟩
            have HB3 : Below w2.heap.size w2 w3 := below_then (below_draws HB _) hsz hb3
            have hsz3 : w2.heap.size ≤ w3.heap.size := HB3.size
            have R3 := RW.own O3
            clear O3 hb3
            obtain ⟨a3, c3, rfl, hc3, hcl3⟩ := R3.cells
            obtain ⟨b3', o3, rfl, hc3x⟩ := hcl3 (by simp)
            have z3 : w3.cell? ⟨b3', o3 + 3, none⟩ = some (.int .i64 0) := by have := (hc3x 0 (by simp)).2.2.2; simpa using this
            clear hcl3 hc3x
            have hal := alike_calls [⟨xk, xt, xn, 0⟩] [⟨xk, xt, xn, xp⟩] _ _ w3 R3 (HRX.out.below HB3) (by simp) (by simp)
            rw [show decide (List.map bare [(⟨xk, xt, xn, 0⟩ : TW.W)] = List.map bare [⟨xk, xt, xn, xp⟩]) = true from decide_eq_true rfl] at hal
            have HAL := Lib.hid hal
            clear hal R3
            go_wp2_with fail
            refine HAL.out.mono ?_
            rintro e w4 ⟨rfl, hb4⟩
            have HB4 := below_then HB3 hsz3 hb4
            go_wp2_with fail
            go_roundw
            case rel => exact ⟨k + 1, hlt, by go_num, HB4, HB4.size⟩
            case measure => simp [intOf]; omega
      · have hlt' : ¬ (k : Int) < (ws.length : Int) := by omega
        by_cases h0 : ws = []
        · subst h0
          have hf := HF.out
          have hq : TW.pos' [] (s.size : Int) 0 = (s.size : Int) := rfl
          rw [hq, Int.toNat_natCast, ByteArray.extract_zero_size] at hf
          have HF2 := Lib.hid hf
          clear hf hq HF HPC HE hcl RA hLO hHI
          go_wp2_with fail
          refine (HF2.out _).mono ?_
          rintro e w3 ⟨v3, rfl, O3, hb3⟩
          obtain ⟨a3, c3, rfl, -, -⟩ := (RW.own O3).cells
          clear O3
          go_wp2_with fail
          go_ret
          exact ⟨rfl, below_then (below_then hB2 hB2.size HB) (by have := hB2.size; omega) hb3⟩
        · obtain ⟨b, o, rfl, hcx⟩ := hcl h0
          have hpos : 0 < ws.length := List.length_pos_iff.2 h0
          have hposi : (0 : Int) < (ws.length : Int) := by omega
          have d3 := (HB.cell (World.block_lt_of_cell? w2 _ (hcx 0 hpos).2.2.2)).trans (hcx 0 hpos).2.2.2
          have hq : TW.pos' ws (s.size : Int) 0 = (ws[0]'hpos).pos := by rw [TW.pos', List.getElem?_eq_getElem hpos]
          have hf := HF.out
          rw [hq] at hf hLO hHI
          generalize (ws[0]'hpos).pos = q at *
          have HF2 := Lib.hid hf
          simp only [Nat.zero_mul, Nat.add_zero] at d3
          clear hf hq HF HPC HE hcx hcl RA
          go_wp2_with fail
          refine (HF2.out _).mono ?_
          rintro e w3 ⟨v3, rfl, O3, hb3⟩
          obtain ⟨a3, c3, rfl, -, -⟩ := (RW.own O3).cells
          clear O3
          go_wp2_with fail
          go_ret
          exact ⟨rfl, below_then (below_then hB2 hB2.size HB) (by have := hB2.size; omega) hb3⟩
  · have hcb : (code != 0) = true := by rw [bne_iff_ne]; exact hcode
    clear hpc hok hcode
    go_enter Tryd.func6, Tryd.ntmps6
    go_wp2_with fail
    refine (started_calls _ HT.out).mono ?_
    rintro e w1 ⟨rfl, hb1⟩
    go_wp2_with fail
    refine (HCA.out _).mono ?_
    rintro e w2 ⟨va, rfl, OA, hb2⟩
    obtain ⟨a, c, rfl, -, -⟩ := (RW.own OA).cells
    clear OA
    go_wp2_with fail
    go_ret
    exact ⟨rfl, below_then hb1 hb1.size hb2⟩
end Go.Proofs.YtjkhbcacpfaagaaDoor
