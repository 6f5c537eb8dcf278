/- What the functions of package words with labels return. -/
import Derived.Test.YtjkhbcacpfaagaaDoorWa
import Derived.Test.YtjkhbcacpfaagaaDoorG
import Derived.Deep.DeepMust
namespace Go.Proofs.YtjkhbcacpfaagaaDoor
open Go.RowKit

theorem info5 : (Tryd.prog.info? 5).map (fun i => (i.zero, i.size, i.bytes)) = some (some (.int .u8 0), 1, 1) := by kernel_rfl
/-- what holds at the label -/
def QJ (s : ByteArray) (k : Nat) (w0 : World) (a : Act) (w : World) : Prop :=
  ∃ (j : Nat) (xs : List UInt8) (v : Value), j ≤ s.size ∧ xs.length ≤ j ∧ TW.quoted k ((bl s).drop (k + 1)) (k + 1) 0 = TW.qcons xs (TW.quoted k ((bl s).drop j) j 0)
    ∧ w.ownsRow w0.heap.size 5 1 v xs.length (bvals xs) ∧ Below w0.heap.size w0 w ∧ w0.heap.size ≤ w.heap.size ∧ ∃ t2 t3 t9 t10 t11 t12 t13 t14 t15 t16 t17 t18 t19 t20 t21 t22 t23 t24 t25 t26 t27 t28 t29 t30 t31 t32 t33 t34 t35 t36 t37 t38 t39 t40 t41 t42 t43 t44 t45 t46 t47 t48 t49 t50 t51 t52 t53 t54 t55 t56 t57 : Value, a = ⟨#[.string s, .int .i64 k, t2, t3, .slice none 0 0, .int .i64 0, .int .i64 0, v, .int .i64 j, t9, t10, t11, t12, t13, t14, t15, t16, t17, t18, t19, t20, t21, t22, t23, t24, t25, t26, t27, t28, t29, t30, t31, t32, t33, t34, t35, t36, t37, t38, t39, t40, t41, t42, t43, t44, t45, t46, t47, t48, t49, t50, t51, t52, t53, t54, t55, t56, t57], []⟩
def QM (s : ByteArray) (a : Act) (_ : World) : Nat := s.size - (intOf (a.tmps.getD 8 undef)).toNat
def QPost (r : List UInt8 × Int × Int) (w : World) (e : Ending) (w' : World) : Prop :=
  ∃ v, e = .returned (.tuple #[v, .int .i64 r.2.1, .int .i64 r.2.2]) ∧ RB w' v r.1 ∧ Below w.heap.size w w'
theorem snoc_row {w : World} {b e n : Nat} {v : Value} {xs : List UInt8} {c : UInt8} {x : Int} (hc : (c.toNat : Int) = x) (h : w.ownsRow b e 1 v (n + 1) (bvals xs ++ (#[Value.int .u8 x] : Array Value).toList)) (hn : xs.length = n) :
    w.ownsRow b e 1 v (xs ++ [c]).length (bvals (xs ++ [c])) := by
  subst hc hn
  rw [← bvals_snoc]
  simpa using h
set_option maxHeartbeats 1000000 in
theorem quoted_calls (s : ByteArray) (k : Nat) (w : World) (hk : k < s.size) (hs : s.size ≤ 1099511627776) :
    Calls Tryd.prog 21 #[.string s, .int .i64 k] w (QPost (TW.quoted k ((bl s).drop (k + 1)) (k + 1) 0) w) := by
  go_enter Tryd.func21, Tryd.ntmps21
  go_wp2
  refine wp_scope_label 0 (QJ s k w) (QM s) rfl ?_ ?_
  · intro a w1 hJ
    obtain ⟨j, xs, v, hj, hx, heq, HO, HB, hsz, t2, t3, t9, t10, t11, t12, t13, t14, t15, t16, t17, t18, t19, t20, t21, t22, t23, t24, t25, t26, t27, t28, t29, t30, t31, t32, t33, t34, t35, t36, t37, t38, t39, t40, t41, t42, t43, t44, t45, t46, t47, t48, t49, t50, t51, t52, t53, t54, t55, t56, t57, rfl⟩ := hJ
    by_cases hjl : j < s.size
    · have hje : ((j : Int) == (s.size : Int)) = false := by rw [beq_eq_false_iff_ne]; omega
      have hd := bl_drop s j hjl
      by_cases c10 : ((s[j]'hjl).toNat : Int) = 10
      · have c10b : (((s[j]'hjl).toNat : Int) == 10) = true := by rw [c10]; rfl
        rw [hd, TW.quoted_nl _ _ _ _ c10] at heq
        have Heq := Lib.hid heq
        clear heq hd c10
        go_wp2_with fail
        simp only [Exit.jump]
        go_ret3
        rw [Heq.out]
        exact ⟨_, rfl, RB.nil _, HB⟩
      have c10b : (((s[j]'hjl).toNat : Int) == 10) = false := by rw [beq_eq_false_iff_ne]; exact c10
      by_cases c34 : ((s[j]'hjl).toNat : Int) = 34
      · have c34b : (((s[j]'hjl).toNat : Int) == 34) = true := by rw [c34]; rfl
        rw [hd, TW.quoted_quote _ _ _ _ c34] at heq
        have Heq := Lib.hid heq
        clear heq hd c34 c10
        go_wp2_with fail
        simp only [Exit.jump]
        go_ret3
        rw [Heq.out]
        exact ⟨_, rfl, by simpa [TW.qcons] using RB.own HO, HB⟩
      have c34b : (((s[j]'hjl).toNat : Int) == 34) = false := by rw [beq_eq_false_iff_ne]; exact c34
      by_cases c92 : ((s[j]'hjl).toNat : Int) = 92
      · have c92b : (((s[j]'hjl).toNat : Int) == 92) = true := by rw [c92]; rfl
        have hb := TW.escape_byte ((bl s).drop j)
        have hf := TW.escape_fits ((bl s).drop j)
        by_cases hz : (TW.escape ((bl s).drop j)).2 = 0
        · rw [hd, TW.quoted_bad _ _ _ _ c92 (by rw [← hd]; exact hz)] at heq
          have Heq := Lib.hid heq
          have hzb : ((TW.escape ((bl s).drop j)).2 == 0) = true := by rw [hz]; rfl
          clear heq hd c34 c10 c92 hb hf hz
          go_wp2_with (go_at_call 30; refine (escape_calls _ _ _ hjl hs).mono ?_; rintro e w' ⟨rfl, rfl⟩)
          simp only [Exit.jump]
          go_ret3
          rw [Heq.out]
          exact ⟨_, rfl, RB.nil _, HB⟩
        · rw [hd, TW.quoted_escape _ _ _ _ c92 (by rw [← hd]; exact hz), TW.qcons_qcons, ← hd] at heq
          have hzb : ((TW.escape ((bl s).drop j)).2 == 0) = false := by rw [beq_eq_false_iff_ne]; exact hz
          rw [List.length_drop, bl_length] at hf
          obtain ⟨hb1, hb2⟩ := hb
          obtain ⟨n, hn⟩ : ∃ n : Nat, (TW.escape ((bl s).drop j)).2 = (n : Int) := ⟨(TW.escape ((bl s).drop j)).2.toNat, by omega⟩
          have hn2 : 2 ≤ n ∧ j + n ≤ s.size := by omega
          rw [hn, Int.toNat_natCast, List.drop_drop] at heq
          have Heq := Lib.hid heq
          have hesc := escape_calls s j w1 hjl hs
          generalize TW.escape ((bl s).drop j) = E at *
          obtain ⟨x, y⟩ := E
          simp only at hb1 hb2 hn hzb hesc hz
          obtain ⟨hn3, hn4⟩ := hn2
          subst hn
          have Hesc := Lib.hid hesc
          clear heq hd c34 c10 c92 hf hz hesc
          go_wp2_with (first | (go_at_call 30; refine Hesc.out.mono ?_; rintro e w' ⟨rfl, rfl⟩) | (at_builtin; go_must (refine append_one (w0 := w) w.heap.size rfl _ _ 41 5 (.int .u8 0) 1 1 rfl Tryd.underlying41 info5 rfl (by decide) (by decide) v xs.length (bvals xs) _ rfl rfl rfl (bvals_one _) HO HB hsz (by omega) ?_); intro v1 w2 HO2 HB2 _ _))
          refine wp_goto ?_
          go_wp2_with fail
          simp only [Exit.jump]
          refine ⟨trivial, ⟨j + n, xs ++ [UInt8.ofNat x.toNat], v1, by omega, by simp; omega, by rw [Heq.out]; rfl, snoc_row (by rw [UInt8.toNat_ofNat']; omega) HO2 rfl, HB2, HB2.size, _, _, _, _, _, _, _, _, _, _, _, _, _, _, _, _, _, _, _, _, _, _, _, _, _, _, _, _, _, _, _, _, _, _, _, _, _, _, _, _, _, _, _, _, _, _, _, _, _, _, _, rfl⟩, ?_⟩
          simp [QM, intOf]
          omega
      · have c92b : (((s[j]'hjl).toNat : Int) == 92) = false := by rw [beq_eq_false_iff_ne]; exact c92
        rw [hd, TW.quoted_plain _ _ _ _ c10 c34 c92, TW.qcons_qcons] at heq
        have Heq := Lib.hid heq
        clear heq hd c34 c10 c92
        go_wp2_with (first | (at_builtin; go_must (refine append_one (w0 := w) w.heap.size rfl _ _ 41 5 (.int .u8 0) 1 1 rfl Tryd.underlying41 info5 rfl (by decide) (by decide) v xs.length (bvals xs) _ rfl rfl rfl (bvals_one _) HO HB hsz (by omega) ?_); intro v1 w2 HO2 HB2 _ _))
        refine wp_goto ?_
        go_wp2_with fail
        simp only [Exit.jump]
        refine ⟨trivial, ⟨j + 1, xs ++ [s[j]], v1, by omega, by simp; omega, Heq.out, snoc_row rfl HO2 rfl, HB2, HB2.size, _, _, _, _, _, _, _, _, _, _, _, _, _, _, _, _, _, _, _, _, _, _, _, _, _, _, _, _, _, _, _, _, _, _, _, _, _, _, _, _, _, _, _, _, _, _, _, _, _, _, _, rfl⟩, ?_⟩
        simp [QM, intOf]
        omega
    · have hje : ((j : Int) == (s.size : Int)) = true := by rw [beq_iff_eq]; omega
      rw [bl_drop_end s j (by omega)] at heq
      have Heq := Lib.hid heq
      clear heq
      go_wp2_with fail
      simp only [Exit.jump]
      go_ret3
      rw [Heq.out]
      exact ⟨_, rfl, RB.nil _, HB⟩
  · intro H
    go_wp2_with fail
    refine wp_label ?_
    go_step
    go_step
    exact H _ _ ⟨k + 1, [], _, by omega, by simp, by rw [TW.qcons_nil]; rfl, World.ownsRow_nil _ _ _ _, Below.refl _ _, Nat.le_refl _, _, _, _, _, _, _, _, _, _, _, _, _, _, _, _, _, _, _, _, _, _, _, _, _, _, _, _, _, _, _, _, _, _, _, _, _, _, _, _, _, _, _, _, _, _, _, _, _, _, _, _, rfl⟩

def SJ (s : ByteArray) (k : Nat) (a : Act) (w0 w : World) : Prop :=
  ∃ (j : Nat), k < j ∧ j ≤ s.size ∧ TW.slashed ((bl s).drop (k + 1)) 0 = (TW.slashed ((bl s).drop j) 0).map (· + (j - (k + 1))) ∧ w = w0
    ∧ ∃ t2 t3 t8 t9 t10 t11 t12 t13 t14 t15 t16 t17 t18 t19 t20 t21 t22 t23 t24 t25 t26 t27 t28 t29 t30 t31 t32 t33 t34 t35 t36 t37 t38 t39 t40 t41 t42 t43 t44 t45 t46 t47 t48 t49 t50 t51 t52 t53 t54 t55 t56 t57 : Value, a = ⟨#[.string s, .int .i64 k, t2, t3, .slice none 0 0, .int .i64 0, .int .i64 0, .int .i64 j, t8, t9, t10, t11, t12, t13, t14, t15, t16, t17, t18, t19, t20, t21, t22, t23, t24, t25, t26, t27, t28, t29, t30, t31, t32, t33, t34, t35, t36, t37, t38, t39, t40, t41, t42, t43, t44, t45, t46, t47, t48, t49, t50, t51, t52, t53, t54, t55, t56, t57], []⟩
def SM (s : ByteArray) (a : Act) (_ : World) : Nat := s.size - (intOf (a.tmps.getD 7 undef)).toNat
theorem ret3_place {v : Value} {c a b : Int} (h : a = b) : Ending.returned (.tuple #[v, .int .i64 c, .int .i64 a]) = Ending.returned (.tuple #[v, .int .i64 c, .int .i64 b]) := by rw [h]
theorem bl_extract (s : ByteArray) (a b : Nat) : (s.extract a b).data.toList = ((bl s).drop a).take (b - a) := by
  simp [bl, ByteArray.data_extract, List.extract_eq_take_drop]
theorem slash_map (o : Option Nat) (a b c : Nat) (h : c = a + b) : (o.map (· + a)).map (· + b) = o.map (· + c) := by
  subst h
  cases o <;> simp; omega
set_option maxHeartbeats 1000000 in
theorem slashed_calls (s : ByteArray) (k : Nat) (w : World) (hk : k < s.size) (hs : s.size ≤ 1099511627776) :
    Calls Tryd.prog 22 #[.string s, .int .i64 k] w (QPost (TW.slashes k ((bl s).drop (k + 1))) w) := by
  have kb := fun W s => Lib.run_convert_string_bytes (P := Tryd.prog) W 9 41 5 s Tryd.underlying9 Tryd.underlying41 Tryd.underlying5
  go_enter Tryd.func22, Tryd.ntmps22
  go_wp2
  refine wp_scope_label 0 (fun a w1 => SJ s k a w w1) (SM s) rfl ?_ ?_
  · intro a w1 hJ
    obtain ⟨j, hkj, hj, heq, rfl, t2, t3, t8, t9, t10, t11, t12, t13, t14, t15, t16, t17, t18, t19, t20, t21, t22, t23, t24, t25, t26, t27, t28, t29, t30, t31, t32, t33, t34, t35, t36, t37, t38, t39, t40, t41, t42, t43, t44, t45, t46, t47, t48, t49, t50, t51, t52, t53, t54, t55, t56, t57, rfl⟩ := hJ
    by_cases hjl : j < s.size
    · have hje : ((j : Int) == (s.size : Int)) = false := by rw [beq_eq_false_iff_ne]; omega
      have hd := bl_drop s j hjl
      by_cases c10 : ((s[j]'hjl).toNat : Int) = 10
      · have c10b : (((s[j]'hjl).toNat : Int) == 10) = true := by rw [c10]; rfl
        rw [hd, TW.slashed_stop _ _ c10] at heq
        have Heq := Lib.hid heq
        clear heq hd c10 kb
        go_wp2_with fail
        simp only [Exit.jump]
        go_ret3
        rw [TW.slashes, Heq.out]
        exact ⟨_, rfl, RB.nil _, Below.refl _ _⟩
      have c10b : (((s[j]'hjl).toNat : Int) == 10) = false := by rw [beq_eq_false_iff_ne]; exact c10
      by_cases c47 : ((s[j]'hjl).toNat : Int) = 47
      · have c47b : (((s[j]'hjl).toNat : Int) == 47) = true := by rw [c47]; rfl
        rw [hd, TW.slashed_end _ _ c47] at heq
        have Heq := Lib.hid heq
        have a1 : (0 : Int) ≤ (k : Int) + 1 := by omega
        have a2 : (k : Int) + 1 ≤ (j : Int) := by omega
        have a3 : (j : Int) ≤ (s.size : Int) := by omega
        clear heq hd c47 c10
        go_wp2_with fail
        simp only [Exit.jump]
        go_ret3
        rw [TW.slashes, Heq.out]
        refine ⟨_, ret3_place (by simp; omega), ?_, bytes_below (Below.refl _ _) (Nat.le_refl _) _ _⟩
        have hb := RB.bytes w1 5 (s.extract (k + 1) j)
        rw [bl_extract] at hb
        simpa [Nat.min_eq_left hj] using hb
      have c47b : (((s[j]'hjl).toNat : Int) == 47) = false := by rw [beq_eq_false_iff_ne]; exact c47
      by_cases c92 : ((s[j]'hjl).toNat : Int) = 92
      · have c92b : (((s[j]'hjl).toNat : Int) == 92) = true := by rw [c92]; rfl
        by_cases h1 : j + 1 < s.size
        · have hb1 := byteAt_bl s (j + 1) 0 h1
          have a4 : (j : Int) + 1 < (s.size : Int) := by omega
          have a5 : (0 : Int) ≤ (j : Int) + 1 := by omega
          by_cases d10 : ((s[j + 1]'h1).toNat : Int) = 10
          · have d10b : (((s[j + 1]'h1).toNat : Int) != 10) = false := by rw [d10]; rfl
            have hno : ¬ (((s[j]'hjl).toNat : Int) = 92 ∧ TW.byteAt ((bl s).drop (j + 1)) 0 ≠ -1 ∧ TW.byteAt ((bl s).drop (j + 1)) 0 ≠ 10) := by rw [hb1]; simp only [Nat.add_zero, d10]; simp
            clear hb1 d10 c92 kb
            rw [hd, TW.slashed_one _ _ c10 c47 hno, slash_map _ _ _ (j + 1 - (k + 1)) (by omega)] at heq
            have Heq := Lib.hid heq
            clear heq hd c47 c10 hno
            go_wp2_with fail
            refine wp_goto ?_
            go_wp2_with fail
            simp only [Exit.jump]
            refine ⟨trivial, ⟨j + 1, by omega, by omega, Heq.out, rfl, _, _, _, _, _, _, _, _, _, _, _, _, _, _, _, _, _, _, _, _, _, _, _, _, _, _, _, _, _, _, _, _, _, _, _, _, _, _, _, _, _, _, _, _, _, _, _, _, _, _, _, _, rfl⟩, ?_⟩
            simp [SM, intOf]
            omega
          · have d10b : (((s[j + 1]'h1).toNat : Int) != 10) = true := by rw [bne_iff_ne]; exact d10
            rw [hd, TW.slashed_two _ _ c92 (by rw [hb1]; simp only [Nat.add_zero]; omega) (by rw [hb1]; exact d10), slash_map _ _ _ (j + 2 - (k + 1)) (by omega), List.drop_drop] at heq
            have Heq := Lib.hid heq
            clear heq hd c47 c10 c92 d10 hb1 kb
            go_wp2_with fail
            refine wp_goto ?_
            go_wp2_with fail
            simp only [Exit.jump]
            refine ⟨trivial, ⟨j + 2, by omega, by omega, Heq.out, rfl, _, _, _, _, _, _, _, _, _, _, _, _, _, _, _, _, _, _, _, _, _, _, _, _, _, _, _, _, _, _, _, _, _, _, _, _, _, _, _, _, _, _, _, _, _, _, _, _, _, _, _, _, rfl⟩, ?_⟩
            simp [SM, intOf]
            omega
        · have hno : ¬ (((s[j]'hjl).toNat : Int) = 92 ∧ TW.byteAt ((bl s).drop (j + 1)) 0 ≠ -1 ∧ TW.byteAt ((bl s).drop (j + 1)) 0 ≠ 10) := by rw [byteAt_none s (j + 1) 0 (by omega)]; simp
          have a4 : (s.size : Int) ≤ (j : Int) + 1 := by omega
          clear c92 kb
          rw [hd, TW.slashed_one _ _ c10 c47 hno, slash_map _ _ _ (j + 1 - (k + 1)) (by omega)] at heq
          have Heq := Lib.hid heq
          clear heq hd c47 c10 hno
          go_wp2_with fail
          refine wp_goto ?_
          go_wp2_with fail
          simp only [Exit.jump]
          refine ⟨trivial, ⟨j + 1, by omega, by omega, Heq.out, rfl, _, _, _, _, _, _, _, _, _, _, _, _, _, _, _, _, _, _, _, _, _, _, _, _, _, _, _, _, _, _, _, _, _, _, _, _, _, _, _, _, _, _, _, _, _, _, _, _, _, _, _, _, rfl⟩, ?_⟩
          simp [SM, intOf]
          omega
      · have c92b : (((s[j]'hjl).toNat : Int) == 92) = false := by rw [beq_eq_false_iff_ne]; exact c92
        have hno : ¬ (((s[j]'hjl).toNat : Int) = 92 ∧ TW.byteAt ((bl s).drop (j + 1)) 0 ≠ -1 ∧ TW.byteAt ((bl s).drop (j + 1)) 0 ≠ 10) := fun h => c92 h.1
        clear c92 kb
        rw [hd, TW.slashed_one _ _ c10 c47 hno, slash_map _ _ _ (j + 1 - (k + 1)) (by omega)] at heq
        have Heq := Lib.hid heq
        clear heq hd c47 c10 hno
        go_wp2_with fail
        refine wp_goto ?_
        go_wp2_with fail
        simp only [Exit.jump]
        refine ⟨trivial, ⟨j + 1, by omega, by omega, Heq.out, rfl, _, _, _, _, _, _, _, _, _, _, _, _, _, _, _, _, _, _, _, _, _, _, _, _, _, _, _, _, _, _, _, _, _, _, _, _, _, _, _, _, _, _, _, _, _, _, _, _, _, _, _, _, rfl⟩, ?_⟩
        simp [SM, intOf]
        omega
    · have hje : ((j : Int) == (s.size : Int)) = true := by rw [beq_iff_eq]; omega
      rw [bl_drop_end s j (by omega)] at heq
      have Heq := Lib.hid heq
      clear heq kb
      go_wp2_with fail
      simp only [Exit.jump]
      go_ret3
      rw [TW.slashes, Heq.out]
      exact ⟨_, rfl, RB.nil _, Below.refl _ _⟩
  · intro H
    go_wp2_with fail
    refine wp_label ?_
    go_step
    go_step
    exact H _ _ ⟨k + 1, by omega, by omega, by cases TW.slashed ((bl s).drop (k + 1)) 0 <;> simp, rfl, _, _, _, _, _, _, _, _, _, _, _, _, _, _, _, _, _, _, _, _, _, _, _, _, _, _, _, _, _, _, _, _, _, _, _, _, _, _, _, _, _, _, _, _, _, _, _, _, _, _, _, _, rfl⟩
end Go.Proofs.YtjkhbcacpfaagaaDoor
