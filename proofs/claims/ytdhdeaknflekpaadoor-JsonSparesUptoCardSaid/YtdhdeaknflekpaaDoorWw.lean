/- json: size, Member: where an object of one member stands first. -/
import Derived.Test.YtdhdeaknflekpaaDoorWv
set_option linter.unusedSimpArgs false
set_option linter.unusedVariables false
namespace Go.Proofs.YtdhdeaknflekpaaDoor
open Go.RowKit Go.Maps

set_option maxRecDepth 100000 in
theorem size_calls (n0 n1 : TJ.N) (l : List TJ.N) (v : Value) (w : World) (hRN : RN w v (n0 :: n1 :: l)) (hk : n1.kids = 0) (hlen : (n0 :: n1 :: l).length ≤ 4194304) :
    Calls Tryd.prog 28 #[v, .int .i64 1] w fun e w' => e = .returned (.int .i64 1) ∧ Below w.heap.size w w' := by
  obtain ⟨a, c, rfl, hc, hcl⟩ := hRN
  obtain ⟨b, o, rfl, hcx⟩ := hcl (by simp)
  obtain ⟨d0, d1, d2, d3⟩ := hcx 1 (by simp)
  have d3 : w.cell? ⟨b, o + 4 + 3, none⟩ = some (.int .i64 0) := by rw [← hk]; exact d3
  have hl1 : (1 : Int) < ((n0 :: n1 :: l).length : Nat) := by simp; omega
  have hl2 : 1 < (n0 :: n1 :: l).length := by simp
  clear hcl hcx d0 d1 d2
  generalize (n0 :: n1 :: l).length = m at *
  go_enter Tryd.func28, Tryd.ntmps28
  go_wp2_with fail
  refine wp_loop_once ?_
  go_wp2_with fail
  go_ret
  exact ⟨rfl, Below.refl _ _⟩
set_option maxRecDepth 100000 in
set_option maxHeartbeats 2000000 in
theorem Member_calls (n0 n1 : TJ.N) (l : List TJ.N) (v : Value) (key : List UInt8) (w : World) (hRN : RN w v (n0 :: n1 :: l)) (hok : ∀ x ∈ (n0 :: n1 :: l), NOk x) (hlen : (n0 :: n1 :: l).length ≤ 4194304) (hT : Tabs w)
    (h7 : n0.kind = 7) (hk1 : n0.kids = 1) (hk : n1.key = key ∨ n1.kids = 0) :
    Calls Tryd.prog 17 #[v, .int .i64 0, .string ⟨key.toArray⟩] w fun e w' => e = .returned (.int .i64 (if TJ.shaped (n0 :: n1 :: l) ∧ n1.key = key then 1 else -1)) ∧ Below w.heap.size w w' := by
  have hs := Lib.hid (Shaped_calls _ v _ hRN hok hlen hT)
  have HRN := Lib.hid hRN
  have hsz := fun w2 (hb : Below w.heap.size w w2) (hk : n1.kids = 0) => Lib.hid (size_calls n0 n1 l v w2 (hRN.below hb) hk hlen)
  have HSZ := Lib.hid hsz
  clear hsz
  obtain ⟨a, c, rfl, hc, hcl⟩ := hRN
  obtain ⟨b, o, rfl, hcx⟩ := hcl (by simp)
  obtain ⟨d0, -, -, -⟩ := hcx 0 (by simp)
  obtain ⟨-, -, -, d3⟩ := hcx 0 (by simp)
  obtain ⟨-, f1, -, -⟩ := hcx 1 (by simp)
  have d0 : w.cell? ⟨b, o, none⟩ = some (.int .i64 7) := by rw [← h7]; simpa using d0
  have d3 : w.cell? ⟨b, o + 3, none⟩ = some (.int .i64 1) := by rw [← hk1]; simpa using d3
  have f1 : w.cell? ⟨b, o + 4 + 1, none⟩ = some (.string ⟨n1.key.toArray⟩) := f1
  have hl0 : (0 : Int) < ((n0 :: n1 :: l).length : Nat) := by simp; omega
  have hl1 : (1 : Int) < ((n0 :: n1 :: l).length : Nat) := by simp; omega
  have hlg : decide ((0 : Int) ≥ ((n0 :: n1 :: l).length : Nat)) = false := decide_eq_false (by omega)
  have hl2 : 1 < (n0 :: n1 :: l).length := by simp
  have hl3 : 0 < (n0 :: n1 :: l).length := by simp
  have HC := Lib.hid (show ∀ w2, Below w.heap.size w w2 → ∀ (p : Addr) (x : Value), w.cell? p = some x → w2.cell? p = some x from fun w2 hb q u h => (hb.cell (World.block_lt_of_cell? w _ h)).trans h)
  clear hcl hcx h7 hk1 hT hok
  obtain ⟨r, hr⟩ : ∃ r, r = TJ.shaped (n0 :: n1 :: l) := ⟨_, rfl⟩
  rw [← hr] at hs ⊢
  clear hr HRN
  generalize (n0 :: n1 :: l).length = m at *
  cases r with
  | false =>
    rw [if_neg (by simp)]
    go_enter Tryd.func17, Tryd.ntmps17
    go_wp2_with fail
    refine hs.out.mono ?_
    rintro e w1 ⟨rfl, hb1⟩
    go_wp2_with fail
    go_ret
    exact ⟨rfl, hb1⟩
  | true =>
    by_cases hkk : n1.key = key
    · rw [if_pos ⟨rfl, hkk⟩]
      have he : (n1.key == key) = true := by rw [hkk]; simp
      clear hkk
      have HKK := Lib.hid hk
      clear hk
      go_enter Tryd.func17, Tryd.ntmps17
      go_wp2_with fail
      refine hs.out.mono ?_
      rintro e w1 ⟨rfl, hb1⟩
      have d3 := HC.out w1 hb1 _ _ d3
      have f1 := HC.out w1 hb1 _ _ f1
      go_wp2_with fail
      refine wp_loop_once ?_
      go_wp2_with fail
      go_ret
      exact ⟨rfl, hb1⟩
    · rw [if_neg (fun h => hkk h.2)]
      have he : (n1.key == key) = false := by simpa using hkk
      have hk0 : n1.kids = 0 := hk.resolve_left hkk
      have HSZ2 := Lib.hid fun w2 hb => HSZ.out w2 hb hk0
      clear hkk hk hk0 HSZ
      go_enter Tryd.func17, Tryd.ntmps17
      go_wp2_with fail
      refine hs.out.mono ?_
      rintro e w1 ⟨rfl, hb1⟩
      have d3 := HC.out w1 hb1 _ _ d3
      go_wp2_with fail
      go_loopw [36, 7] (fun i k wr => ∃ j : Nat, j ≤ 1 ∧ i = .int .i64 j ∧ k = .int .i64 (j + 1 : Nat) ∧ Below w.heap.size w wr) (fun i _ _ => 1 - (intOf i).toNat)
      case atStart => exact ⟨0, by omega, rfl, rfl, hb1⟩
      case round =>
        obtain ⟨j, hj, rfl, rfl, HB⟩ := hrel
        by_cases hj0 : j = 0
        · subst hj0
          have f1 := HC.out wr HB _ _ f1
          have HBB := Lib.hid HB
          go_wp2_with fail
          refine (HSZ2.out wr HBB.out).out.mono ?_
          rintro e w2 ⟨rfl, hb2⟩
          have hb3 := below_then HBB.out HBB.out.size hb2
          go_wp2_with fail
          go_roundw
          case rel => exact ⟨1, by omega, rfl, rfl, hb3⟩
          case measure => simp [intOf]
        · obtain rfl : j = 1 := by omega
          go_wp2_with fail
          go_ret
          exact ⟨rfl, HB⟩
end Go.Proofs.YtdhdeaknflekpaaDoor
