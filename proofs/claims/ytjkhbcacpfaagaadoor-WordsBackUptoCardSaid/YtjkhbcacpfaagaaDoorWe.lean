/- What words.quote returns. -/
import Derived.Test.YtjkhbcacpfaagaaDoorWd
import Derived.Test.YtjkhbcacpfaagaaDoorGb
set_option linter.unusedSimpArgs false
set_option linter.unusedVariables false
namespace Go.Proofs.YtjkhbcacpfaagaaDoor
open Go.RowKit

theorem own_lit {W : World} {l : List UInt8} (h : 0 < l.length) (hl : l.length ≤ 1000) : (W.alloc (.cells (bvals l).toArray 5)).ownsRow W.heap.size 5 1 (.slice (some ⟨W.heap.size, 0, none⟩) l.length l.length) l.length (bvals l) :=
  ⟨by rw [bvals_length]; omega, .inr ⟨W.heap.size, l.length, (bvals l).toArray, rfl, Nat.le_refl _, by rw [heap_alloc_new], Nat.le_refl _, by simp only [maxLen]; omega, by simp [bvals], by simp [bvals, List.take_of_length_le]⟩⟩
theorem wrap_u8 (x : Int) (h0 : 0 ≤ x) (h1 : x ≤ 255) : IntKind.u8.wrap x = x := by
  rw [IntKind.wrap_u8]; omega
theorem bvals_two {x y : Int} (u : Value) (h : u ∈ (#[.int .u8 x, .int .u8 y] : Array Value).toList) : u.oneCell' = true := by
  simp at h
  rcases h with rfl | rfl <;> rfl
theorem bvals_four {x y z q : Int} (u : Value) (h : u ∈ (#[.int .u8 x, .int .u8 y, .int .u8 z, .int .u8 q] : Array Value).toList) : u.oneCell' = true := by
  simp at h
  rcases h with rfl | rfl | rfl | rfl <;> rfl
theorem own_more {w : World} {b n m : Nat} {v : Value} {l r : List UInt8} {cs : Array Value} (hc : cs.toList = bvals r) (h : w.ownsRow b 5 1 v (n + m) (bvals l ++ cs.toList)) : w.ownsRow b 5 1 v (n + m) (bvals (l ++ r)) := by
  rw [hc] at h
  simpa [bvals] using h
theorem qtake (s : ByteArray) (k : Nat) (h : k < s.size) : ((bl s).take (k + 1)).flatMap TW.qbyte = ((bl s).take k).flatMap TW.qbyte ++ TW.qbyte (s[k]'h) := by
  have h2 : k < (bl s).length := by rw [bl_length]; exact h
  rw [List.take_succ_eq_append_getElem h2, List.flatMap_append]
  simp
  rfl
def QRel (t : ByteArray) (w : World) (v i : Value) (wr : World) : Prop :=
  ∃ k : Nat, k ≤ t.size ∧ i = .int .i64 k ∧ ∃ n, n ≤ 4 * k + 1 ∧ wr.ownsRow w.heap.size 5 1 v n (bvals (34 :: ((bl t).take k).flatMap TW.qbyte)) ∧ Below w.heap.size w wr ∧ w.heap.size ≤ wr.heap.size
theorem hexd_at : ∀ (n : Nat) (h : n < 16), (⟨#[48, 49, 50, 51, 52, 53, 54, 55, 56, 57, 97, 98, 99, 100, 101, 102]⟩ : ByteArray)[n]'h = TW.hexd n := by decide
theorem hex_cells (c : UInt8) (h1 : ((c.toNat : Int) / 16).toNat < 16) (h2 : ((c.toNat : Int) % 16).toNat < 16) :
    (#[Value.int .u8 92, .int .u8 120, .int .u8 (((⟨#[48, 49, 50, 51, 52, 53, 54, 55, 56, 57, 97, 98, 99, 100, 101, 102]⟩ : ByteArray)[((c.toNat : Int) / 16).toNat]'h1).toNat : Int), .int .u8 (((⟨#[48, 49, 50, 51, 52, 53, 54, 55, 56, 57, 97, 98, 99, 100, 101, 102]⟩ : ByteArray)[((c.toNat : Int) % 16).toNat]'h2).toNat : Int)] : Array Value).toList
      = bvals [92, 120, TW.hexd (c.toNat / 16), TW.hexd (c.toNat % 16)] := by
  rw [hexd_at, hexd_at, show ((c.toNat : Int) / 16).toNat = c.toNat / 16 by omega, show ((c.toNat : Int) % 16).toNat = c.toNat % 16 by omega]
  rfl
theorem QRel.next {t : ByteArray} {w w2 : World} {v1 : Value} {k n m : Nat} {cs : Array Value} (hlt : k < t.size) (hn : n ≤ 4 * k + 1) (hm : m ≤ 4) (hc : cs.toList = bvals (TW.qbyte (t[k]'hlt)))
    (HO2 : w2.ownsRow w.heap.size 5 1 v1 (n + m) (bvals (34 :: ((bl t).take k).flatMap TW.qbyte) ++ cs.toList)) (HB2 : Below w.heap.size w w2) : QRel t w v1 (.int .i64 ((k : Int) + 1)) w2 :=
  ⟨k + 1, hlt, by go_num, n + m, by omega, by rw [qtake t k hlt]; exact own_more hc HO2, HB2, HB2.size⟩
set_option maxRecDepth 100000 in
set_option maxHeartbeats 4000000 in
theorem quote_calls (t : ByteArray) (w : World) (ht : t.size ≤ 1073741824) : Calls Tryd.prog 15 #[.string t] w fun e w' => e = .returned (.string ⟨(TW.quote (bl t)).toArray⟩) ∧ Below w.heap.size w w' := by
  have h0 := own_lit (W := w) (l := [34]) (by simp) (by simp)
  go_enter Tryd.func15, Tryd.ntmps15
  go_wp2_with fail
  go_loopw [3, 4] (QRel t w) (fun _ i _ => t.size - (intOf i).toNat)
  case atStart => exact ⟨0, Nat.zero_le _, rfl, 1, by omega, h0, below_one _ _, by simp⟩
  case round =>
    obtain ⟨k, hk, rfl, n, hn, HO, HB, hsz⟩ := hrel
    clear h0
    by_cases hlt : k < t.size
    · have hlt' : (k : Int) < (t.size : Int) := by omega
      have hc0 : 0 ≤ ((t[k]'hlt).toNat : Int) := by omega
      have hc1 : ((t[k]'hlt).toNat : Int) ≤ 255 := by have := (t[k]'hlt).toNat_lt; omega
      by_cases c34 : ((t[k]'hlt).toNat : Int) = 34
      · have c34b : (((t[k]'hlt).toNat : Int) == 34) = true := by rw [c34]; rfl
        have hq : TW.qbyte (t[k]'hlt) = [92, t[k]'hlt] := by rw [TW.qbyte, if_pos (.inl c34)]
        have Hq := Lib.hid hq
        clear hq c34
        go_wp2_with (first | (at_builtin; go_must (refine append_many (w0 := w) w.heap.size rfl _ _ 41 5 (.int .u8 0) 1 1 rfl Tryd.underlying41 info5 rfl (by decide) (by decide) u3 n 2 _ _ rfl rfl rfl bvals_two HO HB hsz (by omega) ?_); intro v1 w2 HO2 HB2 _ _))
        go_roundw
        case rel => exact QRel.next (m := 2) hlt hn (by omega) (by rw [Hq.out]; rfl) HO2 HB2
        case measure => simp [intOf]; omega
      have c34b : (((t[k]'hlt).toNat : Int) == 34) = false := by rw [beq_eq_false_iff_ne]; exact c34
      by_cases c92 : ((t[k]'hlt).toNat : Int) = 92
      · have c92b : (((t[k]'hlt).toNat : Int) == 92) = true := by rw [c92]; rfl
        have hq : TW.qbyte (t[k]'hlt) = [92, t[k]'hlt] := by rw [TW.qbyte, if_pos (.inr c92)]
        have Hq := Lib.hid hq
        clear hq c92
        go_wp2_with (first | (at_builtin; go_must (refine append_many (w0 := w) w.heap.size rfl _ _ 41 5 (.int .u8 0) 1 1 rfl Tryd.underlying41 info5 rfl (by decide) (by decide) u3 n 2 _ _ rfl rfl rfl bvals_two HO HB hsz (by omega) ?_); intro v1 w2 HO2 HB2 _ _))
        go_roundw
        case rel => exact QRel.next (m := 2) hlt hn (by omega) (by rw [Hq.out]; rfl) HO2 HB2
        case measure => simp [intOf]; omega
      have c92b : (((t[k]'hlt).toNat : Int) == 92) = false := by rw [beq_eq_false_iff_ne]; exact c92
      by_cases c10 : ((t[k]'hlt).toNat : Int) = 10
      · have c10b : (((t[k]'hlt).toNat : Int) == 10) = true := by rw [c10]; rfl
        have hq : TW.qbyte (t[k]'hlt) = [92, 110] := by rw [TW.qbyte, if_neg (by omega), if_pos c10]
        have Hq := Lib.hid hq
        clear hq c10
        go_wp2_with (first | (at_builtin; go_must (refine append_many (w0 := w) w.heap.size rfl _ _ 41 5 (.int .u8 0) 1 1 rfl Tryd.underlying41 info5 rfl (by decide) (by decide) u3 n 2 _ _ rfl rfl rfl bvals_two HO HB hsz (by omega) ?_); intro v1 w2 HO2 HB2 _ _))
        go_roundw
        case rel => exact QRel.next (m := 2) hlt hn (by omega) (by rw [Hq.out]; rfl) HO2 HB2
        case measure => simp [intOf]; omega
      have c10b : (((t[k]'hlt).toNat : Int) == 10) = false := by rw [beq_eq_false_iff_ne]; exact c10
      by_cases c9 : ((t[k]'hlt).toNat : Int) = 9
      · have c9b : (((t[k]'hlt).toNat : Int) == 9) = true := by rw [c9]; rfl
        have hq : TW.qbyte (t[k]'hlt) = [92, 116] := by rw [TW.qbyte, if_neg (by omega), if_neg (by omega), if_pos c9]
        have Hq := Lib.hid hq
        clear hq c9
        go_wp2_with (first | (at_builtin; go_must (refine append_many (w0 := w) w.heap.size rfl _ _ 41 5 (.int .u8 0) 1 1 rfl Tryd.underlying41 info5 rfl (by decide) (by decide) u3 n 2 _ _ rfl rfl rfl bvals_two HO HB hsz (by omega) ?_); intro v1 w2 HO2 HB2 _ _))
        go_roundw
        case rel => exact QRel.next (m := 2) hlt hn (by omega) (by rw [Hq.out]; rfl) HO2 HB2
        case measure => simp [intOf]; omega
      have c9b : (((t[k]'hlt).toNat : Int) == 9) = false := by rw [beq_eq_false_iff_ne]; exact c9
      by_cases c13 : ((t[k]'hlt).toNat : Int) = 13
      · have c13b : (((t[k]'hlt).toNat : Int) == 13) = true := by rw [c13]; rfl
        have hq : TW.qbyte (t[k]'hlt) = [92, 114] := by rw [TW.qbyte, if_neg (by omega), if_neg (by omega), if_neg (by omega), if_pos c13]
        have Hq := Lib.hid hq
        clear hq c13
        go_wp2_with (first | (at_builtin; go_must (refine append_many (w0 := w) w.heap.size rfl _ _ 41 5 (.int .u8 0) 1 1 rfl Tryd.underlying41 info5 rfl (by decide) (by decide) u3 n 2 _ _ rfl rfl rfl bvals_two HO HB hsz (by omega) ?_); intro v1 w2 HO2 HB2 _ _))
        go_roundw
        case rel => exact QRel.next (m := 2) hlt hn (by omega) (by rw [Hq.out]; rfl) HO2 HB2
        case measure => simp [intOf]; omega
      have c13b : (((t[k]'hlt).toNat : Int) == 13) = false := by rw [beq_eq_false_iff_ne]; exact c13
      by_cases cp : 32 ≤ ((t[k]'hlt).toNat : Int) ∧ ((t[k]'hlt).toNat : Int) ≤ 126
      · have hq : TW.qbyte (t[k]'hlt) = [t[k]'hlt] := by rw [TW.qbyte, if_neg (by omega), if_neg c10, if_neg c9, if_neg c13, if_neg (by omega)]
        have Hq := Lib.hid hq
        obtain ⟨p1, p2⟩ := cp
        clear hq c34 c92 c10 c9 c13
        go_wp2_with (first | (at_builtin; go_must (refine append_many (w0 := w) w.heap.size rfl _ _ 41 5 (.int .u8 0) 1 1 rfl Tryd.underlying41 info5 rfl (by decide) (by decide) u3 n 1 _ _ rfl rfl rfl (bvals_one _) HO HB hsz (by omega) ?_); intro v1 w2 HO2 HB2 _ _))
        go_roundw
        case rel => exact QRel.next (m := 1) hlt hn (by omega) (by rw [Hq.out]; rfl) HO2 HB2
        case measure => simp [intOf]; omega
      have hq : TW.qbyte (t[k]'hlt) = [92, 120, TW.hexd ((t[k]'hlt).toNat / 16), TW.hexd ((t[k]'hlt).toNat % 16)] := by rw [TW.qbyte, if_neg (by omega), if_neg c10, if_neg c9, if_neg c13, if_pos (by omega)]
      have Hq := Lib.hid hq
      have q0 : (0 : Int) ≤ ((t[k]'hlt).toNat : Int) / 16 := by omega
      have q1 : ((t[k]'hlt).toNat : Int) / 16 < 16 := by omega
      have q2 : (0 : Int) ≤ ((t[k]'hlt).toNat : Int) % 16 := by omega
      have q3 : ((t[k]'hlt).toNat : Int) % 16 < 16 := by omega
      have q4 : IntKind.u8.wrap (((t[k]'hlt).toNat : Int) / 16) = ((t[k]'hlt).toNat : Int) / 16 := wrap_u8 _ (by omega) (by omega)
      have q5 : IntKind.u8.wrap (((t[k]'hlt).toNat : Int) % 16) = ((t[k]'hlt).toNat : Int) % 16 := wrap_u8 _ (by omega) (by omega)
      have q6 : ((t[k]'hlt).toNat : Int).tmod 16 = ((t[k]'hlt).toNat : Int) % 16 := Int.tmod_eq_emod_of_nonneg (by omega)
      by_cases c32 : ((t[k]'hlt).toNat : Int) < 32
      · clear hq c34 c92 c10 c9 c13 cp
        go_wp2_with fail
        go_region_law (go_must (
          refine step_append_many (w0 := w) w.heap.size rfl (.tmp 56) (.tmp 63) 41 5 (.int .u8 0) 1 1 rfl Tryd.underlying41 info5 rfl (by decide) (by decide) u3 n 4 wr.heap.size _ _ rfl rfl rfl bvals_four (heap_alloc_new wr _) (HO.alloc _) (HB.alloc hsz _).drew ?_ ?_ ?_
          · simp; omega
          · omega
          intro v1 w2 HO2 HB2 _ _))
        all_goals
          go_wp2_with fail
          go_roundw
          case rel => exact QRel.next (m := 4) hlt hn (by omega) (by rw [Hq.out]; exact hex_cells _ _ _) HO2 HB2
          case measure => simp [intOf]; omega
      · have c126 : 126 < ((t[k]'hlt).toNat : Int) := by omega
        clear hq c34 c92 c10 c9 c13 cp
        go_wp2_with fail
        go_region_law (go_must (
          refine step_append_many (w0 := w) w.heap.size rfl (.tmp 56) (.tmp 63) 41 5 (.int .u8 0) 1 1 rfl Tryd.underlying41 info5 rfl (by decide) (by decide) u3 n 4 wr.heap.size _ _ rfl rfl rfl bvals_four (heap_alloc_new wr _) (HO.alloc _) (HB.alloc hsz _).drew ?_ ?_ ?_
          · simp; omega
          · omega
          intro v1 w2 HO2 HB2 _ _))
        all_goals
          go_wp2_with fail
          go_roundw
          case rel => exact QRel.next (m := 4) hlt hn (by omega) (by rw [Hq.out]; exact hex_cells _ _ _) HO2 HB2
          case measure => simp [intOf]; omega
    · have hlt' : ¬ (k : Int) < (t.size : Int) := by omega
      rw [List.take_of_length_le (by rw [bl_length]; omega)] at HO
      go_wp2_with (first | (at_builtin; go_must (refine append_many (w0 := w) w.heap.size rfl _ _ 41 5 (.int .u8 0) 1 1 rfl Tryd.underlying41 info5 rfl (by decide) (by decide) u3 n 1 _ _ rfl rfl rfl (bvals_one _) HO HB hsz (by omega) ?_); intro v1 w2 HO2 HB2 _ _; have hcv := (RB.own (own_more (r := [34]) rfl HO2)).conv (P := Tryd.prog) (src := 41) (dst := 9) (e := 5) Tryd.underlying41 Tryd.underlying5 Tryd.underlying9))
      go_ret
      exact ⟨rfl, HB2⟩
end Go.Proofs.YtjkhbcacpfaagaaDoor
