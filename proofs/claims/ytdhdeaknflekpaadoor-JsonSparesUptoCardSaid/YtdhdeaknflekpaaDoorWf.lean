/- json's parser: word, hex, four. -/
import Derived.Test.YtdhdeaknflekpaaDoorWe
set_option linter.unusedSimpArgs false
set_option linter.unusedVariables false
namespace Go.Proofs.YtdhdeaknflekpaaDoor
open Go.RowKit

/-- where it stands -/
theorem At.place {pb : Nat} {s : ByteArray} {out : Value} {d c : Int} {w w1 : World} {rest : List UInt8} (h : At pb s out d c w rest w1) :
    rest.length ≤ s.size ∧ (bl s).drop (s.size - rest.length) = rest ∧ Par w1 pb s (s.size - rest.length) out d c ∧ But pb w w1 := by
  obtain ⟨k, hk, hd, hP, hB⟩ := h
  have e : rest.length = s.size - k := by rw [← hd, List.length_drop, bl_length]
  have e2 : s.size - rest.length = k := by omega
  rw [e2]
  exact ⟨by omega, hd, hP, hB⟩
theorem drop_get {s : ByteArray} {k : Nat} {b : UInt8} {r : List UInt8} (h : (bl s).drop k = b :: r) : ∃ hk : k < s.size, s[k]'hk = b ∧ (bl s).drop (k + 1) = r := by
  have hk : k < s.size := by
    apply Decidable.byContradiction
    intro hn
    rw [bl_drop_end s k (by omega)] at h
    cases h
  rw [bl_drop s k hk] at h
  cases h
  exact ⟨hk, rfl, rfl⟩
theorem bl_extract (s : ByteArray) (i j : Nat) : bl (s.extract i j) = ((bl s).drop i).take (j - i) := by
  unfold bl
  rw [Lib.extract_data]
theorem bl_one (s : ByteArray) (k : Nat) (h : k < s.size) : bl (s.extract k (k + 1)) = [s[k]'h] := by
  rw [bl_extract, bl_drop s k h]
  simp
set_option maxRecDepth 100000 in
set_option maxHeartbeats 2000000 in
theorem word_at (sb : ByteArray) {pb : Nat} {s : ByteArray} {out : Value} {d c : Int} {w w0 : World} {l0 : List UInt8} (hA : At pb s out d c w l0 w0) (hs : s.size ≤ 140737488355328) (hsb : sb.size ≤ 140737488355328) :
    Calls Tryd.prog 33 #[.pointer (some ⟨pb, 0, none⟩), .string sb] w0 fun e w' => e = .returned (.bool (TJ.word (bl sb) l0).1) ∧ At pb s out d c w (TJ.word (bl sb) l0).2 w' := by
  obtain ⟨r, hr⟩ : ∃ r, r = TJ.word (bl sb) l0 := ⟨_, rfl⟩
  rw [← hr]
  have HR := Lib.hid hr
  have HA := Lib.hid hA
  clear hr hA
  go_enter Tryd.func33, Tryd.ntmps33
  go_wp2_with fail
  go_loopw [8] (fun v wr => ∃ k : Nat, k ≤ sb.size ∧ v = .int .i64 k ∧ Next pb s out d c w (TJ.word ((bl sb).drop k)) r wr) (fun v _ => sb.size - (intOf v).toNat)
  case atStart => exact ⟨0, Nat.zero_le _, rfl, _, HR.out, HA.out⟩
  case round =>
    obtain ⟨k, hk, rfl, l1, hr, hA⟩ := hrel
    clear HR HA
    by_cases hlt : k < sb.size
    · have hlt' : (k : Int) < (sb.size : Int) := by omega
      have z0 : (0 : Int) ≤ (k : Int) := by omega
      have z1 : (k : Int) ≤ (k : Int) + 1 := by omega
      have z2 : (k : Int) + 1 ≤ (sb.size : Int) := by omega
      have ht := Lib.hid (take_at (sb.extract k (k + 1)) _ (bl_one sb k hlt) hA hs)
      rw [bl_drop sb k hlt, TJ.word] at hr
      by_cases hh : TJ.has [sb[k]'hlt] l1 = true
      · rw [if_pos hh] at hr
        have HR := Lib.hid hr
        rw [TJ.take, if_pos hh] at ht
        clear hr hh hA
        go_wp2_with fail
        refine ht.out.mono ?_
        rintro e w1 ⟨rfl, hA1⟩
        have HA1 := Lib.hid hA1
        clear hA1 ht
        go_wp2_with fail
        go_roundw
        case rel => exact ⟨k + 1, hlt, by go_num, _, HR.out, HA1.out⟩
        case measure => simp [intOf]; omega
      · rw [if_neg hh] at hr
        have HR := Lib.hid hr
        rw [TJ.take, if_neg hh] at ht
        clear hr hh hA
        go_wp2_with fail
        refine ht.out.mono ?_
        rintro e w1 ⟨rfl, hA1⟩
        have HA1 := Lib.hid hA1
        clear hA1 ht
        go_wp2_with fail
        go_ret
        obtain rfl := HR.out
        exact ⟨rfl, HA1.out⟩
    · have hlt' : ¬ (k : Int) < (sb.size : Int) := by omega
      rw [bl_drop_end sb k (by omega)] at hr
      have HR := Lib.hid hr
      have HA := Lib.hid hA
      clear hr hA
      go_wp2_with fail
      go_ret
      obtain rfl := HR.out
      exact ⟨rfl, HA.out⟩
theorem or_tab : ∀ n : Fin 256, bits BinOp.or IntKind.u8 (n.1 : Int) 32 = (((UInt8.ofNat n.1) ||| 32).toNat : Int) := by decide +kernel
theorem or_hex (b : UInt8) : wrap32 (wrap32 (wrap32 (bits BinOp.or IntKind.u8 (b.toNat : Int) 32) - 97) + 10) = ((b ||| 32).toNat : Int) - 87 := by
  have h := or_tab ⟨b.toNat, b.toNat_lt⟩
  simp only [UInt8.ofNat_toNat] at h
  rw [h]
  have h1 := (b ||| 32).toNat_lt
  rw [IntWalk.wrap32_in ((b ||| 32).toNat : Int) ⟨by omega, by omega⟩, IntWalk.wrap32_in (((b ||| 32).toNat : Int) - 97) ⟨by omega, by omega⟩, IntWalk.wrap32_in _ ⟨by omega, by omega⟩]
  omega
/-- what 'hex' returns -/
def TJ.hexd1 (ls : List UInt8) : List UInt8 → Option Int × List UInt8
  | [] => (none, [])
  | c :: r => if ls.contains c then (some (TJ.hexOf c), r) else (none, c :: r)
def optI : Option Int → Value
  | some n => .tuple #[.int .i32 n, .bool true]
  | none => .tuple #[.int .i32 0, .bool false]
theorem ret_hex {a b : Int} {p : Prop} (h : a = b) (hp : p) : Ending.returned (.tuple #[.int .i32 a, .bool true]) = Ending.returned (optI (some b)) ∧ p := ⟨by rw [h]; rfl, hp⟩
set_option maxRecDepth 100000 in
set_option maxHeartbeats 2000000 in
theorem hex_at (sb : ByteArray) (ls : List UInt8) (hls : bl sb = ls) (h48 : ∀ x ∈ ls, 48 ≤ x.toNat) {pb : Nat} {s : ByteArray} {out : Value} {d c : Int} {w w0 : World} {l0 : List UInt8} (hA : At pb s out d c w l0 w0) (hs : s.size ≤ 140737488355328) :
    Calls Tryd.prog 61 #[.pointer (some ⟨pb, 0, none⟩), .string sb] w0 fun e w' => e = .returned (optI (TJ.hexd1 ls l0).1) ∧ At pb s out d c w (TJ.hexd1 ls l0).2 w' := by
  have ht := Lib.hid (take_at sb ls hls hA hs)
  by_cases hh : TJ.has ls l0 = true
  · cases l0 with
    | nil => cases hh
    | cons b l1 =>
      have hb : ls.contains b = true := hh
      have e1 : TJ.hexd1 ls (b :: l1) = (some (TJ.hexOf b), l1) := by rw [TJ.hexd1, if_pos hb]
      have h3 : 48 ≤ b.toNat := h48 b (by simpa using hb)
      rw [e1]
      rw [TJ.take, if_pos hh] at ht
      obtain ⟨hp1, hp2, -, -⟩ := hA.place
      obtain ⟨hk, hkb, -⟩ := drop_get hp2
      simp only [List.length_cons] at hp1 hk hkb
      clear hp2 hA hh hb e1
      go_enter Tryd.func61, Tryd.ntmps61
      go_wp2_with fail
      refine ht.out.mono ?_
      rintro e w1 ⟨rfl, hA1⟩
      have HA1 := Lib.hid hA1
      obtain ⟨q1, -, q3, -⟩ := hA1.place
      simp only [List.tail_cons] at q1 q3
      obtain ⟨k, hk0⟩ : ∃ k, k = s.size - (l1.length + 1) := ⟨_, rfl⟩
      have e2 : s.size - l1.length = k + 1 := by omega
      rw [e2] at q3
      obtain ⟨c0, c1, -, -, -, -⟩ := q3.cells
      have hkk : k < s.size := by omega
      have hkb1 : s[k]'hkk = b := by
        simp only [hk0]
        exact hkb
      have hkb2 := Lib.hid hkb1
      clear hkb1
      have hi1 : ((k + 1 : Nat) : Int) - 1 = (k : Int) := by omega
      clear hA1 ht hkb hk q3 hp1 e2 hk0 q1
      go_wp2_with fail
      go_quiet (fail)
      rw [show s[k] = b from hkb2.out]
      clear c0 c1 hi1 hkb2
      by_cases h57 : (b.toNat : Int) ≤ 57
      · have h57' : decide ((b.toNat : Int) ≤ 57) = true := by simpa using h57
        have h48' : (48 : Int) ≤ (b.toNat : Int) := by omega
        have w8 : IntKind.u8.wrap ((b.toNat : Int) - 48) = (b.toNat : Int) - 48 := by rw [IntKind.wrap_u8]; omega
        go_wp2_with fail
        go_ret2
        refine ret_hex ?_ (HA1.out.draws _)
        rw [TJ.hexOf, if_pos (by omega)]
      · have h57' : decide ((b.toNat : Int) ≤ 57) = false := by simpa using h57
        go_wp2_with fail
        go_ret2
        refine ret_hex ?_ (HA1.out.draws _)
        rw [TJ.hexOf, if_neg (by omega)]
        exact or_hex b
  · have e1 : TJ.hexd1 ls l0 = (none, l0) := by
      cases l0 with
      | nil => rfl
      | cons b l1 => rw [TJ.hexd1, if_neg (show ¬ ls.contains b = true from hh)]
    rw [e1]
    rw [TJ.take, if_neg hh] at ht
    clear hh e1 hA
    go_enter Tryd.func61, Tryd.ntmps61
    go_wp2_with fail
    refine ht.out.mono ?_
    rintro e w1 ⟨rfl, hA1⟩
    have HA1 := Lib.hid hA1
    clear hA1 ht
    go_wp2_with fail
    go_ret2
    exact ⟨rfl, HA1.out⟩

/-- four digits -/
def sets (s0 s1 : List UInt8) : Nat → List (List UInt8)
  | 0 => [s0, s1, TJ.sHex, TJ.sHex]
  | 1 => [s1, TJ.sHex, TJ.sHex]
  | 2 => [TJ.sHex, TJ.sHex]
  | 3 => [TJ.sHex]
  | _ => []
def top : Nat → Int
  | 0 => 0
  | 1 => 15
  | 2 => 255
  | 3 => 4095
  | _ => 65535
def Hex (ls : List UInt8) : Prop := (∀ x ∈ ls, 48 ≤ x.toNat) ∧ ∀ x ∈ ls, 0 ≤ TJ.hexOf x ∧ TJ.hexOf x ≤ 15
theorem Hex.hex : Hex TJ.sHex := ⟨by decide, by decide⟩
theorem hexes_cons (s : List UInt8) (ss : List (List UInt8)) (m : Int) (l : List UInt8) : TJ.hexes (s :: ss) m l = match TJ.hexd1 s l with
    | (some d, r) => TJ.hexes ss (16 * m + d) r
    | (none, r) => (none, r) := by
  cases l with
  | nil => rfl
  | cons c r =>
    rw [TJ.hexes, TJ.hexd1]
    split <;> rfl
theorem hexd1_le {ls : List UInt8} (h : Hex ls) {l : List UInt8} {d : Int} {r : List UInt8} (e : TJ.hexd1 ls l = (some d, r)) : 0 ≤ d ∧ d ≤ 15 := by
  cases l with
  | nil => cases e
  | cons c l =>
    rw [TJ.hexd1] at e
    split at e
    · cases e; exact h.2 c (by simpa using ‹ls.contains c = true›)
    · cases e
theorem top_step {m d : Int} {i : Nat} (hi : i < 4) (h0 : 0 ≤ m) (h1 : m ≤ top i) (h2 : 0 ≤ d) (h3 : d ≤ 15) : 0 ≤ 16 * m + d ∧ 16 * m + d ≤ top (i + 1) := by
  have : i = 0 ∨ i = 1 ∨ i = 2 ∨ i = 3 := by omega
  rcases this with rfl | rfl | rfl | rfl <;> simp only [top] at h1 ⊢ <;> omega
theorem top_le (i : Nat) : top i ≤ 65535 := by
  unfold top
  split <;> omega
def FourRel (pb : Nat) (s : ByteArray) (out : Value) (d c : Int) (w : World) (s0 s1 : List UInt8) (r : Option Int × List UInt8) (n k : Value) (wr : World) : Prop :=
  ∃ (i : Nat) (m : Int) (l : List UInt8), i ≤ 4 ∧ k = .int .i64 i ∧ n = .int .i32 m ∧ 0 ≤ m ∧ m ≤ top i ∧ r = TJ.hexes (sets s0 s1 i) m l ∧ At pb s out d c w l wr
theorem ix33_0 (x0 x1 x2 x3 : Value) (w : World) : (Instr.index 33 (.agg #[x0, x1, x2, x3]) (.int .i64 0)).run Tryd.prog w = .ok x0 w := by kernel_rfl
theorem ix33_1 (x0 x1 x2 x3 : Value) (w : World) : (Instr.index 33 (.agg #[x0, x1, x2, x3]) (.int .i64 1)).run Tryd.prog w = .ok x1 w := by kernel_rfl
theorem ix33_2 (x0 x1 x2 x3 : Value) (w : World) : (Instr.index 33 (.agg #[x0, x1, x2, x3]) (.int .i64 2)).run Tryd.prog w = .ok x2 w := by kernel_rfl
theorem ix33_3 (x0 x1 x2 x3 : Value) (w : World) : (Instr.index 33 (.agg #[x0, x1, x2, x3]) (.int .i64 3)).run Tryd.prog w = .ok x3 w := by kernel_rfl
/-- the loop's start -/
theorem FourRel.start {pb : Nat} {s : ByteArray} {out : Value} {d c : Int} {w wr : World} {s0 s1 : List UInt8} {r : Option Int × List UInt8} {l : List UInt8} (hr : r = TJ.hexes [s0, s1, TJ.sHex, TJ.sHex] 0 l) (hA : At pb s out d c w l wr) :
    FourRel pb s out d c w s0 s1 r (.int .i32 0) (.int .i64 0) wr := ⟨0, 0, l, by omega, rfl, rfl, by omega, by simp [top], hr, hA⟩

set_option maxRecDepth 100000 in
set_option maxHeartbeats 4000000 in
theorem four_low {pb : Nat} {s : ByteArray} {out : Value} {d c : Int} {w w0 : World} {l0 : List UInt8} (hA : At pb s out d c w l0 w0) (hs : s.size ≤ 140737488355328) :
    Calls Tryd.prog 53 #[.pointer (some ⟨pb, 0, none⟩), .bool true] w0 fun e w' => e = .returned (optI (TJ.four true l0).1) ∧ At pb s out d c w (TJ.four true l0).2 w' := by
  obtain ⟨r, hr⟩ : ∃ r, r = TJ.four true l0 := ⟨_, rfl⟩
  rw [← hr]
  have hr1 : r = TJ.hexes [[100, 68], TJ.sLow, TJ.sHex, TJ.sHex] 0 l0 := hr
  have HR := Lib.hid hr1
  have HA := Lib.hid hA
  clear hr hA hr1
  go_enter Tryd.func53, Tryd.ntmps53
  go_wp2_with fail
  go_loopw [8, 21] (FourRel pb s out d c w [100, 68] TJ.sLow r) (fun _ v _ => 4 - (intOf v).toNat)
  case atStart => exact FourRel.start HR.out HA.out
  case round =>
    obtain ⟨i, m, l, hi, rfl, rfl, hm0, hm1, hr, hA⟩ := hrel
    clear HR HA
    by_cases hlt : i < 4
    · have hst := fun d => top_step (d := d) hlt hm0 hm1
      have hcase : i = 0 ∨ i = 1 ∨ i = 2 ∨ i = 3 := by omega
      rcases hcase with rfl | rfl | rfl | rfl
      · have hix := fun w => ix33_0 (.string ⟨#[100, 68]⟩) (.string ⟨#[99, 100, 101, 102, 67, 68, 69, 70]⟩) (.string ⟨#[48, 49, 50, 51, 52, 53, 54, 55, 56, 57, 97, 98, 99, 100, 101, 102, 65, 66, 67, 68, 69, 70]⟩) (.string ⟨#[48, 49, 50, 51, 52, 53, 54, 55, 56, 57, 97, 98, 99, 100, 101, 102, 65, 66, 67, 68, 69, 70]⟩) w
        have ht := Lib.hid (hex_at ⟨#[100, 68]⟩ [100, 68] rfl (by decide) hA hs)
        have hr2 : r = _ := hr.trans (hexes_cons [100, 68] [TJ.sLow, TJ.sHex, TJ.sHex] m l)
        have hd := fun (d : Int) (q : List UInt8) (e : TJ.hexd1 [100, 68] l = (some d, q)) => hexd1_le (ls := [100, 68]) ⟨by decide, by decide⟩ e
        clear hr hA hlt
        generalize TJ.hexd1 [100, 68] l = q at *
        obtain ⟨o, l1⟩ := q
        cases o with
        | none =>
          have hr3 : r = (none, l1) := hr2
          have HR := Lib.hid hr3
          clear hr2 hr3 hd hst hm0 hm1 hi
          go_wp2_with fail
          refine ht.out.mono ?_
          rintro e w1 ⟨he, hA1⟩
          obtain rfl : e = .returned (.tuple #[.int .i32 0, .bool false]) := he
          have HA1 := Lib.hid hA1
          clear hA1 ht
          go_wp2_with fail
          go_ret2
          obtain rfl := HR.out
          exact ⟨rfl, HA1.out⟩
        | some x =>
          have hr3 : r = TJ.hexes [TJ.sLow, TJ.sHex, TJ.sHex] (16 * m + x) l1 := hr2
          have HR := Lib.hid hr3
          obtain ⟨x0, x1⟩ := hd x l1 rfl
          obtain ⟨y0, y1⟩ := hst x x0 x1
          simp only [top] at hm1
          have Y1 := Lib.hid y1
          have htop := Int.le_trans y1 (top_le _)
          clear hr2 hr3 hd hst hi y1
          go_wp2_with fail
          refine ht.out.mono ?_
          rintro e w1 ⟨he, hA1⟩
          obtain rfl : e = .returned (.tuple #[.int .i32 x, .bool true]) := he
          have HA1 := Lib.hid hA1
          clear hA1 ht
          go_wp2_with fail
          go_roundw
          case rel => exact ⟨0 + 1, 16 * m + x, l1, by omega, rfl, rfl, y0, Y1.out, HR.out, HA1.out⟩
          case measure => simp [intOf]
      · have hix := fun w => ix33_1 (.string ⟨#[100, 68]⟩) (.string ⟨#[99, 100, 101, 102, 67, 68, 69, 70]⟩) (.string ⟨#[48, 49, 50, 51, 52, 53, 54, 55, 56, 57, 97, 98, 99, 100, 101, 102, 65, 66, 67, 68, 69, 70]⟩) (.string ⟨#[48, 49, 50, 51, 52, 53, 54, 55, 56, 57, 97, 98, 99, 100, 101, 102, 65, 66, 67, 68, 69, 70]⟩) w
        have ht := Lib.hid (hex_at ⟨#[99, 100, 101, 102, 67, 68, 69, 70]⟩ TJ.sLow rfl (by decide) hA hs)
        have hr2 : r = _ := hr.trans (hexes_cons TJ.sLow [TJ.sHex, TJ.sHex] m l)
        have hd := fun (d : Int) (q : List UInt8) (e : TJ.hexd1 TJ.sLow l = (some d, q)) => hexd1_le (ls := TJ.sLow) ⟨by decide, by decide⟩ e
        clear hr hA hlt
        generalize TJ.hexd1 TJ.sLow l = q at *
        obtain ⟨o, l1⟩ := q
        cases o with
        | none =>
          have hr3 : r = (none, l1) := hr2
          have HR := Lib.hid hr3
          clear hr2 hr3 hd hst hm0 hm1 hi
          go_wp2_with fail
          refine ht.out.mono ?_
          rintro e w1 ⟨he, hA1⟩
          obtain rfl : e = .returned (.tuple #[.int .i32 0, .bool false]) := he
          have HA1 := Lib.hid hA1
          clear hA1 ht
          go_wp2_with fail
          go_ret2
          obtain rfl := HR.out
          exact ⟨rfl, HA1.out⟩
        | some x =>
          have hr3 : r = TJ.hexes [TJ.sHex, TJ.sHex] (16 * m + x) l1 := hr2
          have HR := Lib.hid hr3
          obtain ⟨x0, x1⟩ := hd x l1 rfl
          obtain ⟨y0, y1⟩ := hst x x0 x1
          simp only [top] at hm1
          have Y1 := Lib.hid y1
          have htop := Int.le_trans y1 (top_le _)
          clear hr2 hr3 hd hst hi y1
          go_wp2_with fail
          refine ht.out.mono ?_
          rintro e w1 ⟨he, hA1⟩
          obtain rfl : e = .returned (.tuple #[.int .i32 x, .bool true]) := he
          have HA1 := Lib.hid hA1
          clear hA1 ht
          go_wp2_with fail
          go_roundw
          case rel => exact ⟨1 + 1, 16 * m + x, l1, by omega, rfl, rfl, y0, Y1.out, HR.out, HA1.out⟩
          case measure => simp [intOf]
      · have hix := fun w => ix33_2 (.string ⟨#[100, 68]⟩) (.string ⟨#[99, 100, 101, 102, 67, 68, 69, 70]⟩) (.string ⟨#[48, 49, 50, 51, 52, 53, 54, 55, 56, 57, 97, 98, 99, 100, 101, 102, 65, 66, 67, 68, 69, 70]⟩) (.string ⟨#[48, 49, 50, 51, 52, 53, 54, 55, 56, 57, 97, 98, 99, 100, 101, 102, 65, 66, 67, 68, 69, 70]⟩) w
        have ht := Lib.hid (hex_at ⟨#[48, 49, 50, 51, 52, 53, 54, 55, 56, 57, 97, 98, 99, 100, 101, 102, 65, 66, 67, 68, 69, 70]⟩ TJ.sHex rfl (by decide) hA hs)
        have hr2 : r = _ := hr.trans (hexes_cons TJ.sHex [TJ.sHex] m l)
        have hd := fun (d : Int) (q : List UInt8) (e : TJ.hexd1 TJ.sHex l = (some d, q)) => hexd1_le (ls := TJ.sHex) ⟨by decide, by decide⟩ e
        clear hr hA hlt
        generalize TJ.hexd1 TJ.sHex l = q at *
        obtain ⟨o, l1⟩ := q
        cases o with
        | none =>
          have hr3 : r = (none, l1) := hr2
          have HR := Lib.hid hr3
          clear hr2 hr3 hd hst hm0 hm1 hi
          go_wp2_with fail
          refine ht.out.mono ?_
          rintro e w1 ⟨he, hA1⟩
          obtain rfl : e = .returned (.tuple #[.int .i32 0, .bool false]) := he
          have HA1 := Lib.hid hA1
          clear hA1 ht
          go_wp2_with fail
          go_ret2
          obtain rfl := HR.out
          exact ⟨rfl, HA1.out⟩
        | some x =>
          have hr3 : r = TJ.hexes [TJ.sHex] (16 * m + x) l1 := hr2
          have HR := Lib.hid hr3
          obtain ⟨x0, x1⟩ := hd x l1 rfl
          obtain ⟨y0, y1⟩ := hst x x0 x1
          simp only [top] at hm1
          have Y1 := Lib.hid y1
          have htop := Int.le_trans y1 (top_le _)
          clear hr2 hr3 hd hst hi y1
          go_wp2_with fail
          refine ht.out.mono ?_
          rintro e w1 ⟨he, hA1⟩
          obtain rfl : e = .returned (.tuple #[.int .i32 x, .bool true]) := he
          have HA1 := Lib.hid hA1
          clear hA1 ht
          go_wp2_with fail
          go_roundw
          case rel => exact ⟨2 + 1, 16 * m + x, l1, by omega, rfl, rfl, y0, Y1.out, HR.out, HA1.out⟩
          case measure => simp [intOf]
      · have hix := fun w => ix33_3 (.string ⟨#[100, 68]⟩) (.string ⟨#[99, 100, 101, 102, 67, 68, 69, 70]⟩) (.string ⟨#[48, 49, 50, 51, 52, 53, 54, 55, 56, 57, 97, 98, 99, 100, 101, 102, 65, 66, 67, 68, 69, 70]⟩) (.string ⟨#[48, 49, 50, 51, 52, 53, 54, 55, 56, 57, 97, 98, 99, 100, 101, 102, 65, 66, 67, 68, 69, 70]⟩) w
        have ht := Lib.hid (hex_at ⟨#[48, 49, 50, 51, 52, 53, 54, 55, 56, 57, 97, 98, 99, 100, 101, 102, 65, 66, 67, 68, 69, 70]⟩ TJ.sHex rfl (by decide) hA hs)
        have hr2 : r = _ := hr.trans (hexes_cons TJ.sHex [] m l)
        have hd := fun (d : Int) (q : List UInt8) (e : TJ.hexd1 TJ.sHex l = (some d, q)) => hexd1_le (ls := TJ.sHex) ⟨by decide, by decide⟩ e
        clear hr hA hlt
        generalize TJ.hexd1 TJ.sHex l = q at *
        obtain ⟨o, l1⟩ := q
        cases o with
        | none =>
          have hr3 : r = (none, l1) := hr2
          have HR := Lib.hid hr3
          clear hr2 hr3 hd hst hm0 hm1 hi
          go_wp2_with fail
          refine ht.out.mono ?_
          rintro e w1 ⟨he, hA1⟩
          obtain rfl : e = .returned (.tuple #[.int .i32 0, .bool false]) := he
          have HA1 := Lib.hid hA1
          clear hA1 ht
          go_wp2_with fail
          go_ret2
          obtain rfl := HR.out
          exact ⟨rfl, HA1.out⟩
        | some x =>
          have hr3 : r = TJ.hexes [] (16 * m + x) l1 := hr2
          have HR := Lib.hid hr3
          obtain ⟨x0, x1⟩ := hd x l1 rfl
          obtain ⟨y0, y1⟩ := hst x x0 x1
          simp only [top] at hm1
          have Y1 := Lib.hid y1
          have htop := Int.le_trans y1 (top_le _)
          clear hr2 hr3 hd hst hi y1
          go_wp2_with fail
          refine ht.out.mono ?_
          rintro e w1 ⟨he, hA1⟩
          obtain rfl : e = .returned (.tuple #[.int .i32 x, .bool true]) := he
          have HA1 := Lib.hid hA1
          clear hA1 ht
          go_wp2_with fail
          go_roundw
          case rel => exact ⟨3 + 1, 16 * m + x, l1, by omega, rfl, rfl, y0, Y1.out, HR.out, HA1.out⟩
          case measure => simp [intOf]
    · obtain rfl : i = 4 := by omega
      have hr2 : r = (some m, l) := hr
      have HR := Lib.hid hr2
      have HA := Lib.hid hA
      clear hr hA hr2 hlt hi hm0 hm1
      go_wp2_with fail
      go_ret2
      obtain rfl := HR.out
      exact ⟨rfl, HA.out⟩
set_option maxRecDepth 100000 in
set_option maxHeartbeats 4000000 in
theorem four_high {pb : Nat} {s : ByteArray} {out : Value} {d c : Int} {w w0 : World} {l0 : List UInt8} (hA : At pb s out d c w l0 w0) (hs : s.size ≤ 140737488355328) :
    Calls Tryd.prog 53 #[.pointer (some ⟨pb, 0, none⟩), .bool false] w0 fun e w' => e = .returned (optI (TJ.four false l0).1) ∧ At pb s out d c w (TJ.four false l0).2 w' := by
  obtain ⟨r, hr⟩ : ∃ r, r = TJ.four false l0 := ⟨_, rfl⟩
  rw [← hr]
  have hi := Lib.hid (is_at ⟨#[100, 68]⟩ [100, 68] rfl hA hs)
  have HA := Lib.hid hA
  clear hA
  by_cases hh : TJ.has [100, 68] l0 = true
  · have hr1 : r = TJ.hexes [TJ.sHex, TJ.sHigh, TJ.sHex, TJ.sHex] 0 l0 := by
      rw [hr]; unfold TJ.four; rw [if_neg (by simp), if_pos hh]
    have HR := Lib.hid hr1
    rw [hh] at hi
    clear hr hr1 hh
    go_enter Tryd.func53, Tryd.ntmps53
    go_wp2_with fail
    refine hi.out.mono ?_
    rintro e w1 ⟨rfl, n, rfl⟩
    have HA1 := Lib.hid (HA.out.draws n)
    clear hi HA
    go_wp2_with fail
    go_loopw [8, 21] (FourRel pb s out d c w TJ.sHex TJ.sHigh r) (fun _ v _ => 4 - (intOf v).toNat)
    case atStart => exact FourRel.start HR.out HA1.out
    case round =>
      obtain ⟨i, m, l, hi, rfl, rfl, hm0, hm1, hr, hA⟩ := hrel
      clear HR HA1
      by_cases hlt : i < 4
      · have hst := fun d => top_step (d := d) hlt hm0 hm1
        have hcase : i = 0 ∨ i = 1 ∨ i = 2 ∨ i = 3 := by omega
        rcases hcase with rfl | rfl | rfl | rfl
        · have hix := fun w => ix33_0 (.string ⟨#[48, 49, 50, 51, 52, 53, 54, 55, 56, 57, 97, 98, 99, 100, 101, 102, 65, 66, 67, 68, 69, 70]⟩) (.string ⟨#[48, 49, 50, 51, 52, 53, 54, 55, 56, 57, 97, 98, 65, 66]⟩) (.string ⟨#[48, 49, 50, 51, 52, 53, 54, 55, 56, 57, 97, 98, 99, 100, 101, 102, 65, 66, 67, 68, 69, 70]⟩) (.string ⟨#[48, 49, 50, 51, 52, 53, 54, 55, 56, 57, 97, 98, 99, 100, 101, 102, 65, 66, 67, 68, 69, 70]⟩) w
          have ht := Lib.hid (hex_at ⟨#[48, 49, 50, 51, 52, 53, 54, 55, 56, 57, 97, 98, 99, 100, 101, 102, 65, 66, 67, 68, 69, 70]⟩ TJ.sHex rfl (by decide) hA hs)
          have hr2 : r = _ := hr.trans (hexes_cons TJ.sHex [TJ.sHigh, TJ.sHex, TJ.sHex] m l)
          have hd := fun (d : Int) (q : List UInt8) (e : TJ.hexd1 TJ.sHex l = (some d, q)) => hexd1_le (ls := TJ.sHex) ⟨by decide, by decide⟩ e
          clear hr hA hlt
          generalize TJ.hexd1 TJ.sHex l = q at *
          obtain ⟨o, l1⟩ := q
          cases o with
          | none =>
            have hr3 : r = (none, l1) := hr2
            have HR := Lib.hid hr3
            clear hr2 hr3 hd hst hm0 hm1 hi
            go_wp2_with fail
            refine ht.out.mono ?_
            rintro e w1 ⟨he, hA1⟩
            obtain rfl : e = .returned (.tuple #[.int .i32 0, .bool false]) := he
            have HA1 := Lib.hid hA1
            clear hA1 ht
            go_wp2_with fail
            go_ret2
            obtain rfl := HR.out
            exact ⟨rfl, HA1.out⟩
          | some x =>
            have hr3 : r = TJ.hexes [TJ.sHigh, TJ.sHex, TJ.sHex] (16 * m + x) l1 := hr2
            have HR := Lib.hid hr3
            obtain ⟨x0, x1⟩ := hd x l1 rfl
            obtain ⟨y0, y1⟩ := hst x x0 x1
            simp only [top] at hm1
            have Y1 := Lib.hid y1
            have htop := Int.le_trans y1 (top_le _)
            clear hr2 hr3 hd hst hi y1
            go_wp2_with fail
            refine ht.out.mono ?_
            rintro e w1 ⟨he, hA1⟩
            obtain rfl : e = .returned (.tuple #[.int .i32 x, .bool true]) := he
            have HA1 := Lib.hid hA1
            clear hA1 ht
            go_wp2_with fail
            go_roundw
            case rel => exact ⟨0 + 1, 16 * m + x, l1, by omega, rfl, rfl, y0, Y1.out, HR.out, HA1.out⟩
            case measure => simp [intOf]
        · have hix := fun w => ix33_1 (.string ⟨#[48, 49, 50, 51, 52, 53, 54, 55, 56, 57, 97, 98, 99, 100, 101, 102, 65, 66, 67, 68, 69, 70]⟩) (.string ⟨#[48, 49, 50, 51, 52, 53, 54, 55, 56, 57, 97, 98, 65, 66]⟩) (.string ⟨#[48, 49, 50, 51, 52, 53, 54, 55, 56, 57, 97, 98, 99, 100, 101, 102, 65, 66, 67, 68, 69, 70]⟩) (.string ⟨#[48, 49, 50, 51, 52, 53, 54, 55, 56, 57, 97, 98, 99, 100, 101, 102, 65, 66, 67, 68, 69, 70]⟩) w
          have ht := Lib.hid (hex_at ⟨#[48, 49, 50, 51, 52, 53, 54, 55, 56, 57, 97, 98, 65, 66]⟩ TJ.sHigh rfl (by decide) hA hs)
          have hr2 : r = _ := hr.trans (hexes_cons TJ.sHigh [TJ.sHex, TJ.sHex] m l)
          have hd := fun (d : Int) (q : List UInt8) (e : TJ.hexd1 TJ.sHigh l = (some d, q)) => hexd1_le (ls := TJ.sHigh) ⟨by decide, by decide⟩ e
          clear hr hA hlt
          generalize TJ.hexd1 TJ.sHigh l = q at *
          obtain ⟨o, l1⟩ := q
          cases o with
          | none =>
            have hr3 : r = (none, l1) := hr2
            have HR := Lib.hid hr3
            clear hr2 hr3 hd hst hm0 hm1 hi
            go_wp2_with fail
            refine ht.out.mono ?_
            rintro e w1 ⟨he, hA1⟩
            obtain rfl : e = .returned (.tuple #[.int .i32 0, .bool false]) := he
            have HA1 := Lib.hid hA1
            clear hA1 ht
            go_wp2_with fail
            go_ret2
            obtain rfl := HR.out
            exact ⟨rfl, HA1.out⟩
          | some x =>
            have hr3 : r = TJ.hexes [TJ.sHex, TJ.sHex] (16 * m + x) l1 := hr2
            have HR := Lib.hid hr3
            obtain ⟨x0, x1⟩ := hd x l1 rfl
            obtain ⟨y0, y1⟩ := hst x x0 x1
            simp only [top] at hm1
            have Y1 := Lib.hid y1
            have htop := Int.le_trans y1 (top_le _)
            clear hr2 hr3 hd hst hi y1
            go_wp2_with fail
            refine ht.out.mono ?_
            rintro e w1 ⟨he, hA1⟩
            obtain rfl : e = .returned (.tuple #[.int .i32 x, .bool true]) := he
            have HA1 := Lib.hid hA1
            clear hA1 ht
            go_wp2_with fail
            go_roundw
            case rel => exact ⟨1 + 1, 16 * m + x, l1, by omega, rfl, rfl, y0, Y1.out, HR.out, HA1.out⟩
            case measure => simp [intOf]
        · have hix := fun w => ix33_2 (.string ⟨#[48, 49, 50, 51, 52, 53, 54, 55, 56, 57, 97, 98, 99, 100, 101, 102, 65, 66, 67, 68, 69, 70]⟩) (.string ⟨#[48, 49, 50, 51, 52, 53, 54, 55, 56, 57, 97, 98, 65, 66]⟩) (.string ⟨#[48, 49, 50, 51, 52, 53, 54, 55, 56, 57, 97, 98, 99, 100, 101, 102, 65, 66, 67, 68, 69, 70]⟩) (.string ⟨#[48, 49, 50, 51, 52, 53, 54, 55, 56, 57, 97, 98, 99, 100, 101, 102, 65, 66, 67, 68, 69, 70]⟩) w
          have ht := Lib.hid (hex_at ⟨#[48, 49, 50, 51, 52, 53, 54, 55, 56, 57, 97, 98, 99, 100, 101, 102, 65, 66, 67, 68, 69, 70]⟩ TJ.sHex rfl (by decide) hA hs)
          have hr2 : r = _ := hr.trans (hexes_cons TJ.sHex [TJ.sHex] m l)
          have hd := fun (d : Int) (q : List UInt8) (e : TJ.hexd1 TJ.sHex l = (some d, q)) => hexd1_le (ls := TJ.sHex) ⟨by decide, by decide⟩ e
          clear hr hA hlt
          generalize TJ.hexd1 TJ.sHex l = q at *
          obtain ⟨o, l1⟩ := q
          cases o with
          | none =>
            have hr3 : r = (none, l1) := hr2
            have HR := Lib.hid hr3
            clear hr2 hr3 hd hst hm0 hm1 hi
            go_wp2_with fail
            refine ht.out.mono ?_
            rintro e w1 ⟨he, hA1⟩
            obtain rfl : e = .returned (.tuple #[.int .i32 0, .bool false]) := he
            have HA1 := Lib.hid hA1
            clear hA1 ht
            go_wp2_with fail
            go_ret2
            obtain rfl := HR.out
            exact ⟨rfl, HA1.out⟩
          | some x =>
            have hr3 : r = TJ.hexes [TJ.sHex] (16 * m + x) l1 := hr2
            have HR := Lib.hid hr3
            obtain ⟨x0, x1⟩ := hd x l1 rfl
            obtain ⟨y0, y1⟩ := hst x x0 x1
            simp only [top] at hm1
            have Y1 := Lib.hid y1
            have htop := Int.le_trans y1 (top_le _)
            clear hr2 hr3 hd hst hi y1
            go_wp2_with fail
            refine ht.out.mono ?_
            rintro e w1 ⟨he, hA1⟩
            obtain rfl : e = .returned (.tuple #[.int .i32 x, .bool true]) := he
            have HA1 := Lib.hid hA1
            clear hA1 ht
            go_wp2_with fail
            go_roundw
            case rel => exact ⟨2 + 1, 16 * m + x, l1, by omega, rfl, rfl, y0, Y1.out, HR.out, HA1.out⟩
            case measure => simp [intOf]
        · have hix := fun w => ix33_3 (.string ⟨#[48, 49, 50, 51, 52, 53, 54, 55, 56, 57, 97, 98, 99, 100, 101, 102, 65, 66, 67, 68, 69, 70]⟩) (.string ⟨#[48, 49, 50, 51, 52, 53, 54, 55, 56, 57, 97, 98, 65, 66]⟩) (.string ⟨#[48, 49, 50, 51, 52, 53, 54, 55, 56, 57, 97, 98, 99, 100, 101, 102, 65, 66, 67, 68, 69, 70]⟩) (.string ⟨#[48, 49, 50, 51, 52, 53, 54, 55, 56, 57, 97, 98, 99, 100, 101, 102, 65, 66, 67, 68, 69, 70]⟩) w
          have ht := Lib.hid (hex_at ⟨#[48, 49, 50, 51, 52, 53, 54, 55, 56, 57, 97, 98, 99, 100, 101, 102, 65, 66, 67, 68, 69, 70]⟩ TJ.sHex rfl (by decide) hA hs)
          have hr2 : r = _ := hr.trans (hexes_cons TJ.sHex [] m l)
          have hd := fun (d : Int) (q : List UInt8) (e : TJ.hexd1 TJ.sHex l = (some d, q)) => hexd1_le (ls := TJ.sHex) ⟨by decide, by decide⟩ e
          clear hr hA hlt
          generalize TJ.hexd1 TJ.sHex l = q at *
          obtain ⟨o, l1⟩ := q
          cases o with
          | none =>
            have hr3 : r = (none, l1) := hr2
            have HR := Lib.hid hr3
            clear hr2 hr3 hd hst hm0 hm1 hi
            go_wp2_with fail
            refine ht.out.mono ?_
            rintro e w1 ⟨he, hA1⟩
            obtain rfl : e = .returned (.tuple #[.int .i32 0, .bool false]) := he
            have HA1 := Lib.hid hA1
            clear hA1 ht
            go_wp2_with fail
            go_ret2
            obtain rfl := HR.out
            exact ⟨rfl, HA1.out⟩
          | some x =>
            have hr3 : r = TJ.hexes [] (16 * m + x) l1 := hr2
            have HR := Lib.hid hr3
            obtain ⟨x0, x1⟩ := hd x l1 rfl
            obtain ⟨y0, y1⟩ := hst x x0 x1
            simp only [top] at hm1
            have Y1 := Lib.hid y1
            have htop := Int.le_trans y1 (top_le _)
            clear hr2 hr3 hd hst hi y1
            go_wp2_with fail
            refine ht.out.mono ?_
            rintro e w1 ⟨he, hA1⟩
            obtain rfl : e = .returned (.tuple #[.int .i32 x, .bool true]) := he
            have HA1 := Lib.hid hA1
            clear hA1 ht
            go_wp2_with fail
            go_roundw
            case rel => exact ⟨3 + 1, 16 * m + x, l1, by omega, rfl, rfl, y0, Y1.out, HR.out, HA1.out⟩
            case measure => simp [intOf]
      · obtain rfl : i = 4 := by omega
        have hr2 : r = (some m, l) := hr
        have HR := Lib.hid hr2
        have HA := Lib.hid hA
        clear hr hA hr2 hlt hi hm0 hm1
        go_wp2_with fail
        go_ret2
        obtain rfl := HR.out
        exact ⟨rfl, HA.out⟩
  · have hr1 : r = TJ.hexes [TJ.sHex, TJ.sHex, TJ.sHex, TJ.sHex] 0 l0 := by
      rw [hr]; unfold TJ.four; rw [if_neg (by simp), if_neg hh]
    have HR := Lib.hid hr1
    have hf : TJ.has [100, 68] l0 = false := by simpa using hh
    rw [hf] at hi
    clear hr hr1 hh hf
    go_enter Tryd.func53, Tryd.ntmps53
    go_wp2_with fail
    refine hi.out.mono ?_
    rintro e w1 ⟨rfl, n, rfl⟩
    have HA1 := Lib.hid (HA.out.draws n)
    clear hi HA
    go_wp2_with fail
    go_loopw [8, 21] (FourRel pb s out d c w TJ.sHex TJ.sHex r) (fun _ v _ => 4 - (intOf v).toNat)
    case atStart => exact FourRel.start HR.out HA1.out
    case round =>
      obtain ⟨i, m, l, hi, rfl, rfl, hm0, hm1, hr, hA⟩ := hrel
      clear HR HA1
      by_cases hlt : i < 4
      · have hst := fun d => top_step (d := d) hlt hm0 hm1
        have hcase : i = 0 ∨ i = 1 ∨ i = 2 ∨ i = 3 := by omega
        rcases hcase with rfl | rfl | rfl | rfl
        · have hix := fun w => ix33_0 (.string ⟨#[48, 49, 50, 51, 52, 53, 54, 55, 56, 57, 97, 98, 99, 100, 101, 102, 65, 66, 67, 68, 69, 70]⟩) (.string ⟨#[48, 49, 50, 51, 52, 53, 54, 55, 56, 57, 97, 98, 99, 100, 101, 102, 65, 66, 67, 68, 69, 70]⟩) (.string ⟨#[48, 49, 50, 51, 52, 53, 54, 55, 56, 57, 97, 98, 99, 100, 101, 102, 65, 66, 67, 68, 69, 70]⟩) (.string ⟨#[48, 49, 50, 51, 52, 53, 54, 55, 56, 57, 97, 98, 99, 100, 101, 102, 65, 66, 67, 68, 69, 70]⟩) w
          have ht := Lib.hid (hex_at ⟨#[48, 49, 50, 51, 52, 53, 54, 55, 56, 57, 97, 98, 99, 100, 101, 102, 65, 66, 67, 68, 69, 70]⟩ TJ.sHex rfl (by decide) hA hs)
          have hr2 : r = _ := hr.trans (hexes_cons TJ.sHex [TJ.sHex, TJ.sHex, TJ.sHex] m l)
          have hd := fun (d : Int) (q : List UInt8) (e : TJ.hexd1 TJ.sHex l = (some d, q)) => hexd1_le (ls := TJ.sHex) ⟨by decide, by decide⟩ e
          clear hr hA hlt
          generalize TJ.hexd1 TJ.sHex l = q at *
          obtain ⟨o, l1⟩ := q
          cases o with
          | none =>
            have hr3 : r = (none, l1) := hr2
            have HR := Lib.hid hr3
            clear hr2 hr3 hd hst hm0 hm1 hi
            go_wp2_with fail
            refine ht.out.mono ?_
            rintro e w1 ⟨he, hA1⟩
            obtain rfl : e = .returned (.tuple #[.int .i32 0, .bool false]) := he
            have HA1 := Lib.hid hA1
            clear hA1 ht
            go_wp2_with fail
            go_ret2
            obtain rfl := HR.out
            exact ⟨rfl, HA1.out⟩
          | some x =>
            have hr3 : r = TJ.hexes [TJ.sHex, TJ.sHex, TJ.sHex] (16 * m + x) l1 := hr2
            have HR := Lib.hid hr3
            obtain ⟨x0, x1⟩ := hd x l1 rfl
            obtain ⟨y0, y1⟩ := hst x x0 x1
            simp only [top] at hm1
            have Y1 := Lib.hid y1
            have htop := Int.le_trans y1 (top_le _)
            clear hr2 hr3 hd hst hi y1
            go_wp2_with fail
            refine ht.out.mono ?_
            rintro e w1 ⟨he, hA1⟩
            obtain rfl : e = .returned (.tuple #[.int .i32 x, .bool true]) := he
            have HA1 := Lib.hid hA1
            clear hA1 ht
            go_wp2_with fail
            go_roundw
            case rel => exact ⟨0 + 1, 16 * m + x, l1, by omega, rfl, rfl, y0, Y1.out, HR.out, HA1.out⟩
            case measure => simp [intOf]
        · have hix := fun w => ix33_1 (.string ⟨#[48, 49, 50, 51, 52, 53, 54, 55, 56, 57, 97, 98, 99, 100, 101, 102, 65, 66, 67, 68, 69, 70]⟩) (.string ⟨#[48, 49, 50, 51, 52, 53, 54, 55, 56, 57, 97, 98, 99, 100, 101, 102, 65, 66, 67, 68, 69, 70]⟩) (.string ⟨#[48, 49, 50, 51, 52, 53, 54, 55, 56, 57, 97, 98, 99, 100, 101, 102, 65, 66, 67, 68, 69, 70]⟩) (.string ⟨#[48, 49, 50, 51, 52, 53, 54, 55, 56, 57, 97, 98, 99, 100, 101, 102, 65, 66, 67, 68, 69, 70]⟩) w
          have ht := Lib.hid (hex_at ⟨#[48, 49, 50, 51, 52, 53, 54, 55, 56, 57, 97, 98, 99, 100, 101, 102, 65, 66, 67, 68, 69, 70]⟩ TJ.sHex rfl (by decide) hA hs)
          have hr2 : r = _ := hr.trans (hexes_cons TJ.sHex [TJ.sHex, TJ.sHex] m l)
          have hd := fun (d : Int) (q : List UInt8) (e : TJ.hexd1 TJ.sHex l = (some d, q)) => hexd1_le (ls := TJ.sHex) ⟨by decide, by decide⟩ e
          clear hr hA hlt
          generalize TJ.hexd1 TJ.sHex l = q at *
          obtain ⟨o, l1⟩ := q
          cases o with
          | none =>
            have hr3 : r = (none, l1) := hr2
            have HR := Lib.hid hr3
            clear hr2 hr3 hd hst hm0 hm1 hi
            go_wp2_with fail
            refine ht.out.mono ?_
            rintro e w1 ⟨he, hA1⟩
            obtain rfl : e = .returned (.tuple #[.int .i32 0, .bool false]) := he
            have HA1 := Lib.hid hA1
            clear hA1 ht
            go_wp2_with fail
            go_ret2
            obtain rfl := HR.out
            exact ⟨rfl, HA1.out⟩
          | some x =>
            have hr3 : r = TJ.hexes [TJ.sHex, TJ.sHex] (16 * m + x) l1 := hr2
            have HR := Lib.hid hr3
            obtain ⟨x0, x1⟩ := hd x l1 rfl
            obtain ⟨y0, y1⟩ := hst x x0 x1
            simp only [top] at hm1
            have Y1 := Lib.hid y1
            have htop := Int.le_trans y1 (top_le _)
            clear hr2 hr3 hd hst hi y1
            go_wp2_with fail
            refine ht.out.mono ?_
            rintro e w1 ⟨he, hA1⟩
            obtain rfl : e = .returned (.tuple #[.int .i32 x, .bool true]) := he
            have HA1 := Lib.hid hA1
            clear hA1 ht
            go_wp2_with fail
            go_roundw
            case rel => exact ⟨1 + 1, 16 * m + x, l1, by omega, rfl, rfl, y0, Y1.out, HR.out, HA1.out⟩
            case measure => simp [intOf]
        · have hix := fun w => ix33_2 (.string ⟨#[48, 49, 50, 51, 52, 53, 54, 55, 56, 57, 97, 98, 99, 100, 101, 102, 65, 66, 67, 68, 69, 70]⟩) (.string ⟨#[48, 49, 50, 51, 52, 53, 54, 55, 56, 57, 97, 98, 99, 100, 101, 102, 65, 66, 67, 68, 69, 70]⟩) (.string ⟨#[48, 49, 50, 51, 52, 53, 54, 55, 56, 57, 97, 98, 99, 100, 101, 102, 65, 66, 67, 68, 69, 70]⟩) (.string ⟨#[48, 49, 50, 51, 52, 53, 54, 55, 56, 57, 97, 98, 99, 100, 101, 102, 65, 66, 67, 68, 69, 70]⟩) w
          have ht := Lib.hid (hex_at ⟨#[48, 49, 50, 51, 52, 53, 54, 55, 56, 57, 97, 98, 99, 100, 101, 102, 65, 66, 67, 68, 69, 70]⟩ TJ.sHex rfl (by decide) hA hs)
          have hr2 : r = _ := hr.trans (hexes_cons TJ.sHex [TJ.sHex] m l)
          have hd := fun (d : Int) (q : List UInt8) (e : TJ.hexd1 TJ.sHex l = (some d, q)) => hexd1_le (ls := TJ.sHex) ⟨by decide, by decide⟩ e
          clear hr hA hlt
          generalize TJ.hexd1 TJ.sHex l = q at *
          obtain ⟨o, l1⟩ := q
          cases o with
          | none =>
            have hr3 : r = (none, l1) := hr2
            have HR := Lib.hid hr3
            clear hr2 hr3 hd hst hm0 hm1 hi
            go_wp2_with fail
            refine ht.out.mono ?_
            rintro e w1 ⟨he, hA1⟩
            obtain rfl : e = .returned (.tuple #[.int .i32 0, .bool false]) := he
            have HA1 := Lib.hid hA1
            clear hA1 ht
            go_wp2_with fail
            go_ret2
            obtain rfl := HR.out
            exact ⟨rfl, HA1.out⟩
          | some x =>
            have hr3 : r = TJ.hexes [TJ.sHex] (16 * m + x) l1 := hr2
            have HR := Lib.hid hr3
            obtain ⟨x0, x1⟩ := hd x l1 rfl
            obtain ⟨y0, y1⟩ := hst x x0 x1
            simp only [top] at hm1
            have Y1 := Lib.hid y1
            have htop := Int.le_trans y1 (top_le _)
            clear hr2 hr3 hd hst hi y1
            go_wp2_with fail
            refine ht.out.mono ?_
            rintro e w1 ⟨he, hA1⟩
            obtain rfl : e = .returned (.tuple #[.int .i32 x, .bool true]) := he
            have HA1 := Lib.hid hA1
            clear hA1 ht
            go_wp2_with fail
            go_roundw
            case rel => exact ⟨2 + 1, 16 * m + x, l1, by omega, rfl, rfl, y0, Y1.out, HR.out, HA1.out⟩
            case measure => simp [intOf]
        · have hix := fun w => ix33_3 (.string ⟨#[48, 49, 50, 51, 52, 53, 54, 55, 56, 57, 97, 98, 99, 100, 101, 102, 65, 66, 67, 68, 69, 70]⟩) (.string ⟨#[48, 49, 50, 51, 52, 53, 54, 55, 56, 57, 97, 98, 99, 100, 101, 102, 65, 66, 67, 68, 69, 70]⟩) (.string ⟨#[48, 49, 50, 51, 52, 53, 54, 55, 56, 57, 97, 98, 99, 100, 101, 102, 65, 66, 67, 68, 69, 70]⟩) (.string ⟨#[48, 49, 50, 51, 52, 53, 54, 55, 56, 57, 97, 98, 99, 100, 101, 102, 65, 66, 67, 68, 69, 70]⟩) w
          have ht := Lib.hid (hex_at ⟨#[48, 49, 50, 51, 52, 53, 54, 55, 56, 57, 97, 98, 99, 100, 101, 102, 65, 66, 67, 68, 69, 70]⟩ TJ.sHex rfl (by decide) hA hs)
          have hr2 : r = _ := hr.trans (hexes_cons TJ.sHex [] m l)
          have hd := fun (d : Int) (q : List UInt8) (e : TJ.hexd1 TJ.sHex l = (some d, q)) => hexd1_le (ls := TJ.sHex) ⟨by decide, by decide⟩ e
          clear hr hA hlt
          generalize TJ.hexd1 TJ.sHex l = q at *
          obtain ⟨o, l1⟩ := q
          cases o with
          | none =>
            have hr3 : r = (none, l1) := hr2
            have HR := Lib.hid hr3
            clear hr2 hr3 hd hst hm0 hm1 hi
            go_wp2_with fail
            refine ht.out.mono ?_
            rintro e w1 ⟨he, hA1⟩
            obtain rfl : e = .returned (.tuple #[.int .i32 0, .bool false]) := he
            have HA1 := Lib.hid hA1
            clear hA1 ht
            go_wp2_with fail
            go_ret2
            obtain rfl := HR.out
            exact ⟨rfl, HA1.out⟩
          | some x =>
            have hr3 : r = TJ.hexes [] (16 * m + x) l1 := hr2
            have HR := Lib.hid hr3
            obtain ⟨x0, x1⟩ := hd x l1 rfl
            obtain ⟨y0, y1⟩ := hst x x0 x1
            simp only [top] at hm1
            have Y1 := Lib.hid y1
            have htop := Int.le_trans y1 (top_le _)
            clear hr2 hr3 hd hst hi y1
            go_wp2_with fail
            refine ht.out.mono ?_
            rintro e w1 ⟨he, hA1⟩
            obtain rfl : e = .returned (.tuple #[.int .i32 x, .bool true]) := he
            have HA1 := Lib.hid hA1
            clear hA1 ht
            go_wp2_with fail
            go_roundw
            case rel => exact ⟨3 + 1, 16 * m + x, l1, by omega, rfl, rfl, y0, Y1.out, HR.out, HA1.out⟩
            case measure => simp [intOf]
      · obtain rfl : i = 4 := by omega
        have hr2 : r = (some m, l) := hr
        have HR := Lib.hid hr2
        have HA := Lib.hid hA
        clear hr hA hr2 hlt hi hm0 hm1
        go_wp2_with fail
        go_ret2
        obtain rfl := HR.out
        exact ⟨rfl, HA.out⟩

end Go.Proofs.YtdhdeaknflekpaaDoor
