/- What words.sound returns. -/
import Derived.Test.YtjkhbcacpfaagaaDoorWc
import Derived.Test.YtjkhbcacpfaagaaDoorMc
set_option linter.unusedSimpArgs false
set_option linter.unusedVariables false
namespace Go.Proofs.YtjkhbcacpfaagaaDoor
open Go.RowKit

/-- a word as a value -/
def wagg (k : Int) (t : ByteArray) (n p : Int) : Value := .agg #[.int .i64 k, .string t, .int .i64 n, .int .i64 p]
def SPost (b : Bool) (w : World) (e : Ending) (w' : World) : Prop := e = .returned (.bool b) ∧ Below w.heap.size w w'
theorem below_one (w : World) (o : Obj) : Below w.heap.size w (w.alloc o) := (Below.refl _ _).alloc (Nat.le_refl _) _
theorem sound_name (t : ByteArray) (n p : Int) (w : World) (ht : t.size ≤ 140737488355328) : Calls Tryd.prog 13 #[wagg 1 t n p] w (SPost (TW.nsound (bl t)) w) := by
  by_cases h0 : t.size = 0
  · have e : t = ⟨#[]⟩ := by apply ByteArray.ext; exact Array.eq_empty_of_size_eq_zero h0
    subst e
    have hz : TW.nsound (bl ⟨#[]⟩) = false := rfl
    rw [hz]
    unfold wagg
    clear hz h0 ht
    go_enter Tryd.func13, Tryd.ntmps13
    go_wp2_with fail
    go_ret
    exact ⟨rfl, below_one _ _⟩
  · have h0' : 0 < t.size := by omega
    have he : t.toList.isEmpty = false := by
      rw [Lib.toList_data]
      cases h : t.data.toList with
      | nil => have := bl_length t; rw [bl, h] at this; simp at this; omega
      | cons => rfl
    unfold wagg
    have hb0 := byteAt_bl t 0 0 h0'
    simp only [List.drop_zero, Nat.add_zero] at hb0
    have hne : bl t ≠ [] := fun e => by have := bl_length t; rw [e] at this; simp at this; omega
    by_cases hl : t.size ≤ 24
    · have hl' : ¬ (24 : Int) < (t.size : Int) := by omega
      by_cases hdg : TW.digit ((t[0]'h0').toNat : Int) = true
      · have hz : TW.nsound (bl t) = false := by simp [TW.nsound, hb0, hdg]
        rw [hz]
        clear hz hb0 hne
        go_enter Tryd.func13, Tryd.ntmps13
        go_wp2_with (first | (go_at_call 18; refine (letter_calls _ _).mono ?_; rintro e w' ⟨rfl, rfl⟩) | (go_at_call 19; refine (digit_calls _ _).mono ?_; rintro e w' ⟨rfl, rfl⟩))
        go_ret
        exact ⟨rfl, below_one _ _⟩
      have hdg : TW.digit ((t[0]'h0').toNat : Int) = false := by simpa using hdg
      have hz : TW.nsound (bl t) = (bl t).all TW.isN := by simp [TW.nsound, hb0, hdg, hne, bl_length, hl]
      rw [hz]
      generalize hB : (bl t).all TW.isN = B
      have HB := Lib.hid hB
      clear hz hb0 hne hB
      go_enter Tryd.func13, Tryd.ntmps13
      go_wp2_with (first | (go_at_call 18; refine (letter_calls _ _).mono ?_; rintro e w' ⟨rfl, rfl⟩) | (go_at_call 19; refine (digit_calls _ _).mono ?_; rintro e w' ⟨rfl, rfl⟩))
      go_loop [3] (fun i => ∃ k : Nat, k ≤ t.size ∧ i = .int .i64 k ∧ B = ((bl t).drop k).all TW.isN) (fun i => t.size - (intOf i).toNat)
      case atStart => exact ⟨0, Nat.zero_le _, rfl, HB.out.symm⟩
      case round =>
        obtain ⟨k, hk, rfl, heq⟩ := hrel
        by_cases hlt : k < t.size
        · have hlt' : (k : Int) < (t.size : Int) := by omega
          rw [bl_drop t k hlt, List.all_cons] at heq
          by_cases hle : TW.letter ((t[k]'hlt).toNat : Int) = true
          · have Heq := Lib.hid heq
            clear heq
            go_wp2_with (first | (go_at_call 18; refine (letter_calls _ _).mono ?_; rintro e w' ⟨rfl, rfl⟩) | (go_at_call 19; refine (digit_calls _ _).mono ?_; rintro e w' ⟨rfl, rfl⟩))
            go_round
            case rel => exact ⟨k + 1, hlt, by go_num, by rw [Heq.out]; simp [TW.isN, hle]⟩
            case measure => simp [intOf]; omega
          · have hle : TW.letter ((t[k]'hlt).toNat : Int) = false := by simpa using hle
            by_cases hdk : TW.digit ((t[k]'hlt).toNat : Int) = true
            · have Heq := Lib.hid heq
              clear heq
              go_wp2_with (first | (go_at_call 18; refine (letter_calls _ _).mono ?_; rintro e w' ⟨rfl, rfl⟩) | (go_at_call 19; refine (digit_calls _ _).mono ?_; rintro e w' ⟨rfl, rfl⟩))
              go_round
              case rel => exact ⟨k + 1, hlt, by go_num, by rw [Heq.out]; simp [TW.isN, hle, hdk]⟩
              case measure => simp [intOf]; omega
            · have hdk : TW.digit ((t[k]'hlt).toNat : Int) = false := by simpa using hdk
              have Heq := Lib.hid heq
              clear heq
              go_wp2_with (first | (go_at_call 18; refine (letter_calls _ _).mono ?_; rintro e w' ⟨rfl, rfl⟩) | (go_at_call 19; refine (digit_calls _ _).mono ?_; rintro e w' ⟨rfl, rfl⟩))
              go_ret
              exact ⟨ret_b (by rw [Heq.out]; simp [TW.isN, hle, hdk]), below_one _ _⟩
        · have hlt' : ¬ (k : Int) < (t.size : Int) := by omega
          rw [bl_drop_end t k (by omega)] at heq
          have Heq := Lib.hid heq
          clear heq
          go_wp2_with fail
          go_ret
          exact ⟨ret_b (by rw [Heq.out]; rfl), below_one _ _⟩
    · have hl' : (24 : Int) < (t.size : Int) := by omega
      have hz : TW.nsound (bl t) = false := by simp [TW.nsound, bl_length, hl]
      rw [hz]
      clear hz hb0 hne
      go_enter Tryd.func13, Tryd.ntmps13
      go_wp2_with (first | (go_at_call 18; refine (letter_calls _ _).mono ?_; rintro e w' ⟨rfl, rfl⟩) | (go_at_call 19; refine (digit_calls _ _).mono ?_; rintro e w' ⟨rfl, rfl⟩))
      go_ret
      exact ⟨rfl, below_one _ _⟩
theorem sound_string (t : ByteArray) (n p : Int) (w : World) : Calls Tryd.prog 13 #[wagg 2 t n p] w (SPost true w) := by
  unfold wagg
  go_enter Tryd.func13, Tryd.ntmps13
  go_wp2_with fail
  go_ret
  exact ⟨rfl, below_one _ _⟩
theorem sound_number (t : ByteArray) (n p : Int) (w : World) : Calls Tryd.prog 13 #[wagg 4 t n p] w (SPost (decide (0 ≤ n) && decide (n ≤ 65535)) w) := by
  unfold wagg
  go_enter Tryd.func13, Tryd.ntmps13
  go_wp2_with fail
  all_goals go_ret
  all_goals exact ⟨ret_b (by rw [Bool.eq_iff_iff]; simp; omega), below_one _ _⟩
theorem sound_none (k : Int) (t : ByteArray) (n p : Int) (w : World) (h : k ≠ 1 ∧ k ≠ 2 ∧ k ≠ 3 ∧ k ≠ 4 ∧ k ≠ 5) : Calls Tryd.prog 13 #[wagg k t n p] w (SPost false w) := by
  have h1 : (k == 1) = false := by rw [beq_eq_false_iff_ne]; exact h.1
  have h2 : (k == 2) = false := by rw [beq_eq_false_iff_ne]; exact h.2.1
  have h3 : (k == 3) = false := by rw [beq_eq_false_iff_ne]; exact h.2.2.1
  have h4 : (k == 4) = false := by rw [beq_eq_false_iff_ne]; exact h.2.2.2.1
  have h5 : (k == 5) = false := by rw [beq_eq_false_iff_ne]; exact h.2.2.2.2
  unfold wagg
  clear h
  go_enter Tryd.func13, Tryd.ntmps13
  go_wp2_with fail
  go_ret
  exact ⟨rfl, below_one _ _⟩
theorem sound_sign (t : ByteArray) (n p : Int) (w : World) (ht : t.size ≤ 140737488355328) : Calls Tryd.prog 13 #[wagg 5 t n p] w (SPost (decide ((bl t).length = 1) && TW.signs.contains ((bl t).headD 0)) w) := by
  by_cases h1 : t.size = 1
  · obtain ⟨c, rfl⟩ : ∃ c : UInt8, t = ⟨#[c]⟩ := by
      obtain ⟨c, hc⟩ := List.length_eq_one_iff.1 (show (bl t).length = 1 by rw [bl_length]; exact h1)
      exact ⟨c, ByteArray.ext (Array.toList_inj.1 hc)⟩
    have hsg := sign_index c
    have hr : (decide ((bl ⟨#[c]⟩).length = 1) && TW.signs.contains ((bl ⟨#[c]⟩).headD 0)) = TW.signs.contains c := by simp [bl]
    rw [hr, ← hsg]
    unfold wagg
    clear h1 hr hsg ht
    go_enter Tryd.func13, Tryd.ntmps13
    go_wp2_with (go_at_call 24; refine (Tryd.strings_Contains_one _ _ _).mono ?_; rintro e w' ⟨rfl, rfl⟩)
    go_ret
    exact ⟨rfl, below_one _ _⟩
  · have h1b : ((t.size : Int) == 1) = false := by rw [beq_eq_false_iff_ne]; omega
    have hz : decide ((bl t).length = 1) = false := by rw [bl_length]; simp [h1]
    rw [hz]
    unfold wagg
    clear hz h1
    go_enter Tryd.func13, Tryd.ntmps13
    go_wp2_with fail
    go_ret
    exact ⟨rfl, below_one _ _⟩
theorem sound_regex (t : ByteArray) (n p : Int) (w : World) (ht : t.size ≤ 140737488355328) : Calls Tryd.prog 13 #[wagg 3 t n p] w (SPost (TW.rsound (bl t) 0) w) := by
  unfold wagg
  generalize hB : TW.rsound (bl t) 0 = B
  have HB := Lib.hid hB
  clear hB
  go_enter Tryd.func13, Tryd.ntmps13
  go_wp2_with fail
  go_loop [4] (fun i => ∃ k : Nat, k ≤ t.size ∧ i = .int .i64 k ∧ B = TW.rsound ((bl t).drop k) 0) (fun i => t.size - (intOf i).toNat)
  case atStart => exact ⟨0, Nat.zero_le _, rfl, HB.out.symm⟩
  case round =>
    obtain ⟨k, hk, rfl, heq⟩ := hrel
    by_cases hlt : k < t.size
    · have hlt' : (k : Int) < (t.size : Int) := by omega
      have hd := bl_drop t k hlt
      rw [hd] at heq
      by_cases c47 : ((t[k]'hlt).toNat : Int) = 47
      · have c47b : (((t[k]'hlt).toNat : Int) == 47) = true := by rw [c47]; rfl
        rw [TW.rsound_bad _ _ (.inl c47)] at heq
        have Heq := Lib.hid heq
        clear heq hd c47
        go_wp2_with fail
        go_ret
        exact ⟨ret_b (by rw [Heq.out]), below_one _ _⟩
      have c47b : (((t[k]'hlt).toNat : Int) == 47) = false := by rw [beq_eq_false_iff_ne]; exact c47
      by_cases c10 : ((t[k]'hlt).toNat : Int) = 10
      · have c10b : (((t[k]'hlt).toNat : Int) == 10) = true := by rw [c10]; rfl
        rw [TW.rsound_bad _ _ (.inr c10)] at heq
        have Heq := Lib.hid heq
        clear heq hd c47 c10
        go_wp2_with fail
        go_ret
        exact ⟨ret_b (by rw [Heq.out]), below_one _ _⟩
      have c10b : (((t[k]'hlt).toNat : Int) == 10) = false := by rw [beq_eq_false_iff_ne]; exact c10
      by_cases c92 : ((t[k]'hlt).toNat : Int) = 92
      · have c92b : (((t[k]'hlt).toNat : Int) == 92) = true := by rw [c92]; rfl
        by_cases h1 : k + 1 < t.size
        · have hb1 := byteAt_bl t (k + 1) 0 h1
          simp only [Nat.add_zero] at hb1
          have h1b : ((k : Int) + 1 == (t.size : Int)) = false := by rw [beq_eq_false_iff_ne]; omega
          have a4 : (k : Int) + 1 < (t.size : Int) := by omega
          have a5 : (0 : Int) ≤ (k : Int) + 1 := by omega
          by_cases d10 : ((t[k + 1]'h1).toNat : Int) = 10
          · have d10b : (((t[k + 1]'h1).toNat : Int) == 10) = true := by rw [d10]; rfl
            rw [TW.rsound_esc _ _ c92 (.inr (by rw [hb1]; exact d10))] at heq
            have Heq := Lib.hid heq
            clear heq hd c47 c10 c92 d10 hb1
            go_wp2_with fail
            go_ret
            exact ⟨ret_b (by rw [Heq.out]), below_one _ _⟩
          · have d10b : (((t[k + 1]'h1).toNat : Int) == 10) = false := by rw [beq_eq_false_iff_ne]; exact d10
            rw [TW.rsound_two _ _ c92 (by rw [hb1]; omega) (by rw [hb1]; exact d10), List.drop_drop] at heq
            have Heq := Lib.hid heq
            clear heq hd c47 c10 c92 d10 hb1
            go_wp2_with fail
            go_round
            case rel => exact ⟨k + 2, by omega, by go_num, Heq.out⟩
            case measure => simp [intOf]; omega
        · have h1b : ((k : Int) + 1 == (t.size : Int)) = true := by rw [beq_iff_eq]; omega
          rw [TW.rsound_esc _ _ c92 (.inl (byteAt_none t (k + 1) 0 (by omega)))] at heq
          have Heq := Lib.hid heq
          clear heq hd c47 c10 c92
          go_wp2_with fail
          go_ret
          exact ⟨ret_b (by rw [Heq.out]), below_one _ _⟩
      have c92b : (((t[k]'hlt).toNat : Int) == 92) = false := by rw [beq_eq_false_iff_ne]; exact c92
      rw [TW.rsound_one _ _ c47 c10 c92] at heq
      have Heq := Lib.hid heq
      clear heq hd c47 c10 c92
      go_wp2_with fail
      go_round
      case rel => exact ⟨k + 1, by omega, by go_num, Heq.out⟩
      case measure => simp [intOf]; omega
    · have hlt' : ¬ (k : Int) < (t.size : Int) := by omega
      rw [bl_drop_end t k (by omega)] at heq
      have Heq := Lib.hid heq
      clear heq
      go_wp2_with fail
      go_ret
      exact ⟨ret_b (by rw [Heq.out]; rfl), below_one _ _⟩
theorem sound_calls (k : Int) (t : ByteArray) (n p : Int) (w : World) (ht : t.size ≤ 140737488355328) : Calls Tryd.prog 13 #[wagg k t n p] w (SPost (TW.sound k (bl t) n) w) := by
  unfold TW.sound
  by_cases h1 : k = 1
  · subst h1; exact sound_name t n p w ht
  by_cases h2 : k = 2
  · subst h2; exact sound_string t n p w
  by_cases h3 : k = 3
  · subst h3; exact sound_regex t n p w ht
  by_cases h4 : k = 4
  · subst h4; exact sound_number t n p w
  by_cases h5 : k = 5
  · subst h5; exact sound_sign t n p w ht
  rw [if_neg h1, if_neg h2, if_neg h3, if_neg h4, if_neg h5]
  exact sound_none k t n p w ⟨h1, h2, h3, h4, h5⟩
end Go.Proofs.YtjkhbcacpfaagaaDoor
