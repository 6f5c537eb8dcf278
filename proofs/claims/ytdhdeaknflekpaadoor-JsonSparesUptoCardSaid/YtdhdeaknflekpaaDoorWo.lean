/- json.quote. -/
import Derived.Test.YtdhdeaknflekpaaDoorWn
set_option linter.unusedSimpArgs false
set_option linter.unusedVariables false
namespace Go.Proofs.YtdhdeaknflekpaaDoor
open Go.RowKit

/-- the table of what is written behind a backslash -/
def Wrt (w : World) : Prop := ∀ c : UInt8, w.cell? ⟨0, c.toNat, none⟩ = some (.int .u8 (TJ.written c).toNat)
theorem Wrt.below {w w' : World} (h : Wrt w) {B : Nat} (hb : Below B w w') (hB : 0 < B) : Wrt w' := fun c => (hb.cell (p := ⟨0, c.toNat, none⟩) hB).trans (h c)
/-- what a builder's method leaves alone -/
structure PK (B b : Nat) (w w' : World) : Prop where
  below : Below B w w'
  others : Lib.OthersKept 5 (some b) w w'
theorem PK.refl (B b : Nat) (w : World) : PK B b w w := ⟨Below.refl _ _, Lib.OthersKept.refl _ _ _⟩
theorem PK.trans {B b : Nat} {a c d : World} (h : PK B b a c) (k : PK B b c d) : PK B b a d := ⟨h.below.trans k.below, h.others.trans k.others⟩
theorem qtake (s : ByteArray) (k : Nat) (h : k < s.size) : ((bl s).take (k + 1)).flatMap TJ.qbyte = ((bl s).take k).flatMap TJ.qbyte ++ TJ.qbyte (s[k]'h) := by
  have h2 : k < (bl s).length := by rw [bl_length]; exact h
  rw [List.take_succ_eq_append_getElem h2, List.flatMap_append]
  simp
  rfl
theorem qbyte_len (c : UInt8) : (TJ.qbyte c).length ≤ 6 := by
  unfold TJ.qbyte
  split
  · simp
  · split <;> simp
theorem quote_len (l : List UInt8) : (l.flatMap TJ.qbyte).length ≤ 6 * l.length := by
  induction l with
  | nil => simp
  | cons c l ih =>
    have := qbyte_len c
    simp only [List.flatMap_cons, List.length_append, List.length_cons]
    omega
def QRel (s : ByteArray) (B b : Nat) (bs : List Value) (w : World) (i : Value) (wr : World) : Prop :=
  ∃ k : Nat, k ≤ s.size ∧ i = .int .i64 k ∧ IsB B b (bs ++ bvals (34 :: ((bl s).take k).flatMap TJ.qbyte)) wr ∧ PK B b w wr
theorem QRel.next {s : ByteArray} {B b : Nat} {bs xs : List Value} {w w' : World} {k : Nat} (hlt : k < s.size) (hI : IsB B b xs w') (hx : xs = bs ++ bvals (34 :: ((bl s).take k).flatMap TJ.qbyte) ++ bvals (TJ.qbyte (s[k]'hlt))) (hP : PK B b w w') :
    QRel s B b bs w (.int .i64 ((k : Int) + 1)) w' := by
  refine ⟨k + 1, hlt, by go_num, ?_, hP⟩
  rw [qtake s k hlt]
  have : bs ++ bvals (34 :: (((bl s).take k).flatMap TJ.qbyte ++ TJ.qbyte (s[k]'hlt))) = xs := by rw [hx]; simp [bvals]
  rw [this]
  exact hI
theorem hexd_at : ∀ (n : Nat) (h : n < 16), (⟨#[48, 49, 50, 51, 52, 53, 54, 55, 56, 57, 97, 98, 99, 100, 101, 102]⟩ : ByteArray)[n]'h = TJ.hexd n := by decide
set_option maxRecDepth 100000 in
set_option maxHeartbeats 4000000 in
theorem quote_calls (B b : Nat) (bs : List Value) (s : ByteArray) (w : World) (hI : IsB B b bs w) (hlen : bs.length ≤ 1073741824) (hs : s.size ≤ 16777216) (hBw : B ≤ w.heap.size) (hT : Wrt w) (hB0 : 0 < B) :
    Calls Tryd.prog 20 #[.pointer (some ⟨b, 0, none⟩), .string s] w fun e w' => e = .returned (.tuple #[]) ∧ IsB B b (bs ++ bvals (TJ.quote (bl s))) w' ∧ PK B b w w' := by
  have HI := Lib.hid hI
  have HT := Lib.hid hT
  clear hI hT
  go_enter Tryd.func20, Tryd.ntmps20
  go_wp2_with fail
  refine (WriteByte_calls B b bs 34 _ HI.out (by omega) hBw).mono ?_
  rintro e w1 ⟨rfl, hI1, hb1, ho1⟩
  have HI1 := Lib.hid hI1
  have HP1 := Lib.hid (show PK B b w w1 from ⟨hb1, ho1⟩)
  clear hI1 hb1 ho1 HI
  go_wp2_with fail
  go_loopw [4] (QRel s B b bs w) (fun i _ => s.size - (intOf i).toNat)
  case atStart => exact ⟨0, Nat.zero_le _, rfl, HI1.out, HP1.out⟩
  case round =>
    clear HI1 HP1
    obtain ⟨k, hk, rfl, hI, hP⟩ := hrel
    have HI := Lib.hid hI
    have HP := Lib.hid hP
    have hsz : B ≤ wr.heap.size := Nat.le_trans hBw hP.below.size
    have hT := HT.out.below hP.below hB0
    have hl : (bs ++ bvals (34 :: ((bl s).take k).flatMap TJ.qbyte)).length ≤ 1174405121 := by
      have := quote_len ((bl s).take k)
      have h2 : ((bl s).take k).length ≤ k := List.length_take_le _ _
      simp only [List.length_append, bvals_length, List.length_cons]
      omega
    clear hI hP
    by_cases hlt : k < s.size
    · have hlt' : (k : Int) < (s.size : Int) := by omega
      obtain ⟨c, hc⟩ : ∃ c, c = s[k]'hlt := ⟨_, rfl⟩
      have htc := hT c
      rw [hc] at htc
      obtain ⟨x, hx⟩ : ∃ x : Int, x = ((TJ.written c).toNat : Int) := ⟨_, rfl⟩
      rw [← hc, ← hx, hc] at htc
      have z0 : (0 : Int) ≤ ((s[k]'hlt).toNat : Int) := by omega
      have z1 : ((s[k]'hlt).toNat : Int) < 256 := by have := (s[k]'hlt).toNat_lt; omega
      by_cases hw : TJ.written c = 0
      · have hx0 : x = 0 := by rw [hx, hw]; rfl
        subst hx0
        by_cases h32 : ((s[k]'hlt).toNat : Int) < 32
        · have hq : TJ.qbyte (s[k]'hlt) = [92, 117, 48, 48, TJ.hexd ((s[k]'hlt).toNat / 16), TJ.hexd ((s[k]'hlt).toNat % 16)] := by
            rw [← hc, TJ.qbyte, if_neg (by simp [hw]), if_pos (by rw [UInt8.lt_iff_toNat_lt]; rw [hc]; simp; omega)]
          have HQ := Lib.hid hq
          have hstr : Lib.strCells ⟨#[92, 117, 48, 48]⟩ = bvals [92, 117, 48, 48] := strCells_bl _
          have q0 : (0 : Int) ≤ ((s[k]'hlt).toNat : Int) / 16 := by omega
          have q1 : ((s[k]'hlt).toNat : Int) / 16 < 16 := by omega
          have q2 : (0 : Int) ≤ ((s[k]'hlt).toNat : Int) % 16 := by omega
          have q3 : ((s[k]'hlt).toNat : Int) % 16 < 16 := by omega
          have e1 : (((s[k]'hlt).toNat : Int) / 16).toNat = (s[k]'hlt).toNat / 16 := by omega
          have e2 : (((s[k]'hlt).toNat : Int) % 16).toNat = (s[k]'hlt).toNat % 16 := by omega
          have g1 : (s[k]'hlt).toNat / 16 < 16 := by omega
          have g2 : (s[k]'hlt).toNat % 16 < 16 := by omega
          have HH1 := Lib.hid (hexd_at _ g1)
          have HH2 := Lib.hid (hexd_at _ g2)
          have hws := Lib.hid (WriteString_calls B b _ ⟨#[92, 117, 48, 48]⟩ _ HI.out (by have : (⟨#[92, 117, 48, 48]⟩ : ByteArray).size = 4 := rfl; omega) hsz)
          rw [hstr] at hws
          clear hq hx hT hc hstr HI
          go_wp2_with fail
          refine hws.out.mono ?_
          rintro e w2 ⟨rfl, hI2, hb2, ho2⟩
          have hsz2 : B ≤ w2.heap.size := Nat.le_trans hsz hb2.size
          have HI2 := Lib.hid hI2
          have HP2 := Lib.hid (HP.out.trans ⟨hb2, ho2⟩)
          clear hI2 hb2 ho2 HP htc hws
          go_wp2_with fail
          have hl2 : (bs ++ bvals (34 :: ((bl s).take k).flatMap TJ.qbyte) ++ bvals [92, 117, 48, 48]).length ≤ 1174405125 := by
            rw [List.length_append]
            have : (bvals [92, 117, 48, 48]).length = 4 := rfl
            omega
          refine (WriteByte_calls B b _ _ _ HI2.out (by omega) hsz2).mono ?_
          rintro e w3 ⟨rfl, hI3, hb3, ho3⟩
          have hsz3 : B ≤ w3.heap.size := Nat.le_trans hsz2 hb3.size
          have HI3 := Lib.hid hI3
          have HP3 := Lib.hid (HP2.out.trans ⟨hb3, ho3⟩)
          clear hI3 hb3 ho3 HI2 HP2
          go_wp2_with fail
          refine (WriteByte_calls B b _ _ _ HI3.out (by rw [List.length_append]; simp only [List.length_cons, List.length_nil]; omega) hsz3).mono ?_
          rintro e w4 ⟨rfl, hI4, hb4, ho4⟩
          have HI4 := Lib.hid hI4
          have HP4 := Lib.hid (HP3.out.trans ⟨hb4, ho4⟩)
          clear hI4 hb4 ho4 HI3 HP3
          go_wp2_with fail
          go_roundw
          case rel => exact QRel.next hlt HI4.out (by rw [HQ.out, HH1.out, HH2.out]; simp [bvals]) HP4.out
          case measure => simp [intOf]; omega
        · have hq : bvals (TJ.qbyte (s[k]'hlt)) = [.int .u8 ((s[k]'hlt).toNat : Int)] := by
            rw [← hc, TJ.qbyte, if_neg (by simp [hw]), if_neg (by rw [UInt8.lt_iff_toNat_lt]; rw [hc]; simp; omega)]; rfl
          have HQ := Lib.hid hq
          clear hq hx hT hc
          go_wp2_with fail
          refine (WriteByte_calls B b _ _ _ HI.out (by omega) hsz).mono ?_
          rintro e w2 ⟨rfl, hI2, hb2, ho2⟩
          have HI2 := Lib.hid hI2
          have HP2 := Lib.hid (HP.out.trans ⟨hb2, ho2⟩)
          clear hI2 hb2 ho2 HI HP htc
          go_wp2_with fail
          go_roundw
          case rel => exact QRel.next hlt HI2.out (by rw [HQ.out]) HP2.out
          case measure => simp [intOf]; omega
      · have hx1 : (x != 0) = true := by
          rw [bne_iff_ne, hx]
          intro h
          apply hw
          apply UInt8.toNat_inj.1
          simpa using h
        have hq : bvals (TJ.qbyte (s[k]'hlt)) = [.int .u8 92, .int .u8 x] := by
          rw [← hc, TJ.qbyte, if_pos hw, hx]; rfl
        have HQ := Lib.hid hq
        clear hq hx hT hc
        go_wp2_with fail
        refine (WriteByte_calls B b _ 92 _ HI.out (by omega) hsz).mono ?_
        rintro e w2 ⟨rfl, hI2, hb2, ho2⟩
        have htc2 := (hb2.cell (p := ⟨0, (s[k]'hlt).toNat, none⟩) hB0).trans htc
        have hsz2 : B ≤ w2.heap.size := Nat.le_trans hsz hb2.size
        have HI2 := Lib.hid hI2
        have HP2 := Lib.hid (HP.out.trans ⟨hb2, ho2⟩)
        clear hI2 hb2 ho2 HI HP htc
        go_wp2_with fail
        refine (WriteByte_calls B b _ x _ HI2.out (by simp only [List.length_append, List.length_cons, List.length_nil] at hl ⊢; omega) hsz2).mono ?_
        rintro e w3 ⟨rfl, hI3, hb3, ho3⟩
        have HI3 := Lib.hid hI3
        have HP3 := Lib.hid (HP2.out.trans ⟨hb3, ho3⟩)
        clear hI3 hb3 ho3 HI2 HP2 htc2
        go_wp2_with fail
        go_roundw
        case rel => exact QRel.next hlt HI3.out (by rw [HQ.out]; simp) HP3.out
        case measure => simp [intOf]; omega
    · have hlt' : ¬ (k : Int) < (s.size : Int) := by omega
      have hq : bs ++ bvals (34 :: ((bl s).take k).flatMap TJ.qbyte) ++ [.int .u8 34] = bs ++ bvals (TJ.quote (bl s)) := by
        rw [List.take_of_length_le (by rw [bl_length]; omega)]
        simp [bvals, TJ.quote]
      have HQ := Lib.hid hq
      clear hq hT
      go_wp2_with fail
      refine (WriteByte_calls B b _ 34 _ HI.out (by omega) hsz).mono ?_
      rintro e w2 ⟨rfl, hI2, hb2, ho2⟩
      rw [HQ.out] at hI2
      have HI2 := Lib.hid hI2
      have HP2 := Lib.hid (HP.out.trans ⟨hb2, ho2⟩)
      clear hI2 hb2 ho2 HI HP
      go_wp2_with fail
      go_end0
      exact ⟨rfl, HI2.out, HP2.out⟩
end Go.Proofs.YtdhdeaknflekpaaDoor
