/- What the small functions of package words return. -/
import Derived.Test.YtjkhbcacpfaagaaDoorProg
import Derived.Test.YtjkhbcacpfaagaaDoorMa
import Derived.WalkKit
import Derived.KernelRfl
import Derived.Lib.Hide
namespace Go.Proofs.YtjkhbcacpfaagaaDoor
open Go.RowKit

theorem ret_b {a b : Bool} (h : a = b) : Ending.returned (.bool a) = Ending.returned (.bool b) := by rw [h]
theorem ret_s {a b : ByteArray} (h : a = b) : Ending.returned (.string a) = Ending.returned (.string b) := by rw [h]
theorem ret_ub {a b : Int} {p q : Bool} (h : a = b) (h' : p = q) : Ending.returned (.tuple #[.int .u8 a, .bool p]) = Ending.returned (.tuple #[.int .u8 b, .bool q]) := by rw [h, h']
theorem ret_ui {a b c d : Int} (h : a = b) (h' : c = d) : Ending.returned (.tuple #[.int .u8 a, .int .i64 c]) = Ending.returned (.tuple #[.int .u8 b, .int .i64 d]) := by rw [h, h']
theorem letter_calls (c : Int) (w : World) : Calls Tryd.prog 18 #[.int .u8 c] w fun e w' => e = .returned (.bool (TW.letter c)) ∧ w = w' := by
  go_enter Tryd.func18, Tryd.ntmps18
  go_wp2
  all_goals go_ret
  all_goals exact ⟨ret_b (by rw [Bool.eq_iff_iff]; simp [TW.letter]; omega), rfl⟩
theorem digit_calls (c : Int) (w : World) : Calls Tryd.prog 19 #[.int .u8 c] w fun e w' => e = .returned (.bool (TW.digit c)) ∧ w = w' := by
  go_enter Tryd.func19, Tryd.ntmps19
  go_wp2
  all_goals go_ret
  all_goals exact ⟨ret_b (by rw [Bool.eq_iff_iff]; simp [TW.digit]; omega), rfl⟩
theorem blank_calls (c : Int) (w : World) : Calls Tryd.prog 17 #[.int .u8 c] w fun e w' => e = .returned (.bool (TW.blank c)) ∧ w = w' := by
  go_enter Tryd.func17, Tryd.ntmps17
  go_wp2
  all_goals go_ret
  all_goals exact ⟨ret_b (by rw [Bool.eq_iff_iff]; simp [TW.blank, *]), rfl⟩
theorem hex_calls (c : Int) (w : World) : Calls Tryd.prog 36 #[.int .u8 c] w fun e w' => e = .returned (.tuple #[.int .u8 (TW.hex c).1, .bool (TW.hex c).2]) ∧ w = w' := by
  by_cases h1 : 48 ≤ c ∧ c ≤ 57
  · have hd : TW.digit c = true := by simp [TW.digit]; omega
    have hx : TW.hex c = (c - 48, true) := by simp [TW.hex, h1]
    have HX := Lib.hid hx
    clear hx
    obtain ⟨h1a, h1b⟩ := h1
    go_enter Tryd.func36, Tryd.ntmps36
    go_wp2_with (go_at_call 19; refine (digit_calls _ _).mono ?_; rintro e w' ⟨rfl, rfl⟩)
    go_ret2
    rw [HX.out]
    exact ⟨rfl, rfl⟩
  · have hd : TW.digit c = false := by simp [TW.digit]; omega
    have hx : TW.hex c = if 97 ≤ c ∧ c ≤ 102 then (c - 87, true) else if 65 ≤ c ∧ c ≤ 70 then (c - 55, true) else (0, false) := by simp [TW.hex, h1]
    have HX := Lib.hid hx
    clear hx h1
    go_enter Tryd.func36, Tryd.ntmps36
    go_wp2_with (go_at_call 19; refine (digit_calls _ _).mono ?_; rintro e w' ⟨rfl, rfl⟩)
    all_goals go_ret2
    all_goals rw [HX.out]
    all_goals first | rw [if_pos (by omega)] | (rw [if_neg (by omega)]; first | rw [if_pos (by omega)] | rw [if_neg (by omega)])
    all_goals exact ⟨ret_ub (by simp only; try omega) rfl, rfl⟩

/-- The bytes of a string as a list. -/
abbrev bl (s : ByteArray) : List UInt8 := s.data.toList
theorem bl_length (s : ByteArray) : (bl s).length = s.size := by simp [bl]
theorem byteAt_bl (s : ByteArray) (k i : Nat) (h : k + i < s.size) : TW.byteAt ((bl s).drop k) i = ((s[k + i]'h).toNat : Int) := by
  have h2 : (bl s)[k + i]? = some (s[k + i]'h) := by
    rw [List.getElem?_eq_getElem (by rw [bl_length]; exact h)]; rfl
  simp [TW.byteAt, h2]
theorem bl_drop (s : ByteArray) (k : Nat) (h : k < s.size) : (bl s).drop k = s[k]'h :: (bl s).drop (k + 1) := by
  have h2 : k < (bl s).length := by rw [bl_length]; exact h
  rw [List.drop_eq_getElem_cons h2]; rfl
theorem bl_drop_end (s : ByteArray) (k : Nat) (h : s.size ≤ k) : (bl s).drop k = [] := List.drop_eq_nil_of_le (by rw [bl_length]; exact h)
theorem byteAt_none (s : ByteArray) (k i : Nat) (h : s.size ≤ k + i) : TW.byteAt ((bl s).drop k) i = -1 := by
  have h2 : (bl s)[k + i]? = none := by rw [List.getElem?_eq_none]; rw [bl_length]; exact h
  simp [TW.byteAt, h2]
set_option maxHeartbeats 400000 in
theorem escape_calls (s : ByteArray) (k : Nat) (w : World) (hk : k < s.size) (hs : s.size ≤ 1099511627776) :
    Calls Tryd.prog 30 #[.string s, .int .i64 k] w fun e w' => e = .returned (.tuple #[.int .u8 (TW.escape ((bl s).drop k)).1, .int .i64 (TW.escape ((bl s).drop k)).2]) ∧ w = w' := by
  by_cases h1 : k + 1 < s.size
  · have b1 := byteAt_bl s k 1 h1
    by_cases h3 : k + 3 < s.size
    · have h2 : k + 2 < s.size := by omega
      have b2 := byteAt_bl s k 2 h2
      have b3 := byteAt_bl s k 3 h3
      have hx2 := TW.hex_bd ((s[k + 2]'h2).toNat : Int)
      have hx3 := TW.hex_bd ((s[k + 3]'h3).toNat : Int)
      obtain ⟨x2a, x2b⟩ := hx2
      obtain ⟨x3a, x3b⟩ := hx3
      have B1 := Lib.hid b1
      have B2 := Lib.hid b2
      have B3 := Lib.hid b3
      clear b1 b2 b3
      go_enter Tryd.func30, Tryd.ntmps30
      go_wp2_with (go_at_call 36; refine (hex_calls _ _).mono ?_; rintro e w' ⟨rfl, rfl⟩)
      all_goals go_ret2
      all_goals (refine ⟨?_, rfl⟩; simp_all [TW.escape, B1.out, B2.out, B3.out])
    · have b3 := byteAt_none s k 3 (by omega)
      have hx3 : TW.hex (-1) = (0, false) := by decide
      have B1 := Lib.hid b1
      have B3 := Lib.hid b3
      have HX := Lib.hid hx3
      clear b1 b3 hx3
      go_enter Tryd.func30, Tryd.ntmps30
      go_wp2_with fail
      all_goals go_ret2
      all_goals (refine ⟨?_, rfl⟩; simp_all [TW.escape, B1.out, B3.out, HX.out])
  · have b1 := byteAt_none s k 1 (by omega)
    have B1 := Lib.hid b1
    clear b1
    go_enter Tryd.func30, Tryd.ntmps30
    go_wp2_with fail
    all_goals go_ret2
    all_goals (refine ⟨?_, rfl⟩; simp [TW.escape, B1.out])
end Go.Proofs.YtjkhbcacpfaagaaDoor
