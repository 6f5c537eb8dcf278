/- json's parser: one character as it is. -/
import Derived.Test.YtdhdeaknflekpaaDoorWg
import Derived.Lib.AppendStr
import Derived.Deep.CutBlock
set_option linter.unusedSimpArgs false
set_option linter.unusedVariables false
namespace Go.Proofs.YtdhdeaknflekpaaDoor
open Go.RowKit

/-- append(b, s...) as a step of a region -/
theorem step_append_str {P : Program} {ops : Array Oper} {o : Oper} {a : Act} {w0 w : World} {K : Act → World → Prop} {Q : Exit → Act → World → Prop} {E : Prop}
    (base : Nat) (hgd : o.guard = none) (sl x : Operand) (t u e : TypeId)
    (ho : o.op = .call { callee := .builtin .append, args := #[sl, x], argTypes := #[t, u] })
    (ht : P.underlying t = some (.slice e)) (hu : P.underlying u = some .string) (hinfo : (P.info? e).map (fun i => (i.zero, i.size, i.bytes)) = some (some (.int .u8 0), 1, 1))
    (v : Value) (n : Nat) (xs : List Value) (s : ByteArray) (hs : a.eval sl = v) (hx : a.eval x = .string s)
    (HO : w.ownsRow base e 1 v n xs) (HB : Below base w0 w) (hbase : base ≤ w.heap.size) (hl : n + s.size ≤ 140737488355328)
    (h : ∀ v1 w1, w1.ownsRow base e 1 v1 (n + s.size) (xs ++ Lib.strCells s) → Below base w0 w1 → K (a.put o.dst v1) w1) :
    if Region.wanted o (yielded ops a.tmps) = true then Oper.wp P o a w K Q else E := by
  have hw : Region.wanted o (yielded ops a.tmps) = true := by simp [Region.wanted, hgd]
  rw [if_pos hw]
  obtain ⟨i0, hi, hz0, hz1, hz2⟩ := info_parts hinfo
  have hrow : ∀ k, v.ownBlock = some k → base ≤ k := fun k hk => (HO.lt k hk).1
  obtain ⟨v', w', hr, h2, h3, h4⟩ := Lib.run_append_own_string (P := P) w base t u o.type e i0 ht hu hi hz0 hz1 hz2 v n xs HO s (by simp only [maxLen]; omega) hl hbase
  unfold Oper.wp execOp
  simp only [ho, resolve, invoke, builtin, Sem.run_bind, Sem.run_pure, Result.andThen_ok, List.map_toArray, List.map_cons, List.map_nil, hs, hx, hr]
  exact h v' w' h2 (HB.grown h3 hbase hrow)
theorem strCells_bl (s : ByteArray) : Lib.strCells s = bvals (bl s) := by
  simp [Lib.strCells, bvals, bl]
/-- how many bytes stand behind the first, and which the second may be -/
def leadN (x : Int) : Nat := if x < 128 then 0 else if x < 224 then 1 else if x < 240 then 2 else 3
def leadLo (x : Int) : Int := if x = 224 then 160 else if x = 240 then 144 else 128
def leadHi (x : Int) : Int := if x = 237 then 159 else if x = 244 then 143 else 191
def leadOk (x : Int) : Prop := 32 ≤ x ∧ (x < 128 ∨ 194 ≤ x) ∧ x ≤ 244
instance (x : Int) : Decidable (leadOk x) := inferInstanceAs (Decidable (_ ∧ _ ∧ _))
def trip (b : UInt8) : Option (Nat × UInt8 × UInt8) :=
  if b < 32 then none else if b < 128 then some (0, 128, 191) else if 194 ≤ b ∧ b ≤ 223 then some (1, 128, 191)
  else if 224 ≤ b ∧ b ≤ 239 then some (2, if b = 224 then 160 else 128, if b = 237 then 159 else 191)
  else if 240 ≤ b ∧ b ≤ 244 then some (3, if b = 240 then 144 else 128, if b = 244 then 143 else 191) else none
theorem char_trip (b : UInt8) (l : List UInt8) : TJ.char (b :: l) = match trip b with
    | none => (none, b :: l)
    | some (n, lo, hi) => TJ.more n (if n = 0 then 128 else lo) hi [b] l := by
  rw [TJ.char]
  unfold trip
  split
  · rfl
  · split
    · rfl
    · split
      · rfl
      · split
        · rfl
        · split <;> rfl
theorem trip_tab : ∀ n : Fin 256, trip (UInt8.ofNat n.1) = if leadOk (n.1 : Int) then some (leadN (n.1 : Int), UInt8.ofNat (leadLo (n.1 : Int)).toNat, UInt8.ofNat (leadHi (n.1 : Int)).toNat) else none := by decide +kernel
theorem lo_tab : ∀ n : Fin 256, leadOk (n.1 : Int) → leadN (n.1 : Int) = 0 → UInt8.ofNat (leadLo (n.1 : Int)).toNat = 128 := by decide +kernel
theorem char_bad {b : UInt8} {l : List UInt8} (h : ¬ leadOk (b.toNat : Int)) : TJ.char (b :: l) = (none, b :: l) := by
  have e := trip_tab ⟨b.toNat, b.toNat_lt⟩
  simp only [UInt8.ofNat_toNat, if_neg h] at e
  rw [char_trip, e]
theorem char_good {b : UInt8} {l : List UInt8} (h : leadOk (b.toNat : Int)) : TJ.char (b :: l) = TJ.more (leadN b.toNat) (UInt8.ofNat (leadLo b.toNat).toNat) (UInt8.ofNat (leadHi b.toNat).toNat) [b] l := by
  have e := trip_tab ⟨b.toNat, b.toNat_lt⟩
  have e2 := lo_tab ⟨b.toNat, b.toNat_lt⟩ h
  simp only [UInt8.ofNat_toNat, if_pos h] at e
  rw [char_trip, e]
  dsimp only
  split
  · rw [← e2 ‹_›]
  · rfl
theorem lead0 {x : Int} (h : x < 128) : leadN x = 0 := by unfold leadN; rw [if_pos h]
theorem lead1 {x : Int} (h : 194 ≤ x) (h' : x ≤ 223) : leadN x = 1 := by unfold leadN; rw [if_neg (by omega), if_pos (by omega)]
theorem lead2 {x : Int} (h : 224 ≤ x) (h' : x ≤ 239) : leadN x = 2 := by unfold leadN; rw [if_neg (by omega), if_neg (by omega), if_pos (by omega)]
theorem lead3 {x : Int} (h : 240 ≤ x) (h' : x ≤ 244) : leadN x = 3 := by unfold leadN; rw [if_neg (by omega), if_neg (by omega), if_neg (by omega)]
def CharRel (pb : Nat) (s : ByteArray) (out : Value) (d c : Int) (w0 : World) (k : Nat) (r : Option (List UInt8) × List UInt8) (n v8 v9 : Value) (wr : World) : Prop :=
  ∃ (m : Nat) (lo hi : Int) (pre l : List UInt8), n = .int .i64 m ∧ v8 = .int .u8 lo ∧ v9 = .int .u8 hi ∧ m + pre.length ≤ 4 ∧ 0 ≤ lo ∧ lo ≤ 255 ∧ 0 ≤ hi ∧ hi ≤ 255
    ∧ r = TJ.more m (UInt8.ofNat lo.toNat) (UInt8.ofNat hi.toNat) pre l ∧ (bl s).drop k = pre ++ l ∧ At pb s out d c w0 l wr
theorem leadN_le (x : Int) : leadN x ≤ 3 := by
  unfold leadN
  split
  · omega
  · split
    · omega
    · split <;> omega
theorem more_cons (n : Nat) (lo hi : Int) (h0 : 0 ≤ lo) (h1 : lo ≤ 255) (h2 : 0 ≤ hi) (h3 : hi ≤ 255) (pre : List UInt8) (b : UInt8) (l : List UInt8) :
    TJ.more (n + 1) (UInt8.ofNat lo.toNat) (UInt8.ofNat hi.toNat) pre (b :: l) = if lo ≤ (b.toNat : Int) ∧ (b.toNat : Int) ≤ hi then TJ.more n (UInt8.ofNat (128 : Int).toNat) (UInt8.ofNat (191 : Int).toNat) (pre ++ [b]) l else (none, b :: l) := by
  rw [TJ.more]
  have e : (UInt8.ofNat lo.toNat ≤ b ∧ b ≤ UInt8.ofNat hi.toNat) = (lo ≤ (b.toNat : Int) ∧ (b.toNat : Int) ≤ hi) := by
    rw [UInt8.le_iff_toNat_le, UInt8.le_iff_toNat_le]
    simp
    omega
  simp only [e]
  rfl
theorem more_nil (n : Nat) (lo hi : UInt8) (pre : List UInt8) : TJ.more (n + 1) lo hi pre [] = (none, []) := rfl
set_option maxRecDepth 100000 in
set_option maxHeartbeats 4000000 in
theorem char_at {pb : Nat} {s : ByteArray} {out : Value} {d c : Int} {w w0 : World} {b : UInt8} {l0 acc : List UInt8} {v : Value} (hA : At pb s out d c w (b :: l0) w0) (hs : s.size ≤ 140737488355328)
    (hO : w0.ownsRow w.heap.size 5 1 v acc.length (bvals acc)) (hpb : pb < w.heap.size) (hacc : acc.length ≤ 1073741824) :
    Calls Tryd.prog 44 #[.pointer (some ⟨pb, 0, none⟩), v] w0 (Got pb s out d c w acc (TJ.char (b :: l0))) := by
  obtain ⟨r, hr⟩ : ∃ r, r = TJ.char (b :: l0) := ⟨_, rfl⟩
  rw [← hr]
  obtain ⟨hp1, hp2, hP, hB⟩ := hA.place
  obtain ⟨hk, hkb, hp3⟩ := drop_get hp2
  have HA := Lib.hid hA
  have HO := Lib.hid hO
  obtain ⟨k, hk0⟩ : ∃ k, k = s.size - (b :: l0).length := ⟨_, rfl⟩
  rw [← hk0] at hP hp3
  have hkk : k < s.size := by omega
  have hkb1 : s[k]'hkk = b := by
    simp only [hk0]
    exact hkb
  have HB1 := Lib.hid hkb1
  have HP := Lib.hid hP
  have HP3 := Lib.hid hp3
  have hsz : w.heap.size ≤ w0.heap.size := hB.size
  obtain ⟨c0, c1, -, -, -, -⟩ := hP.cells
  clear hp1 hp2 hk hkb hP hB hA hk0 hp3 hO
  obtain ⟨x, hx⟩ : ∃ x : Int, x = (b.toNat : Int) := ⟨_, rfl⟩
  have x0 : 0 ≤ x := by omega
  have x1 : x ≤ 255 := by have := b.toNat_lt; omega
  have HX := Lib.hid hx
  have hsx : ((s[k]'hkk).toNat : Int) = x := by rw [hkb1, hx]
  by_cases hok : leadOk x
  · have hr2 : r = TJ.more (leadN x) (UInt8.ofNat (leadLo x).toNat) (UInt8.ofNat (leadHi x).toNat) [b] l0 := by
      rw [hr, hx]; exact char_good (by rw [← hx]; exact hok)
    have HR := Lib.hid hr2
    obtain ⟨o1, o2, o3⟩ := hok
    clear hr hr2 hkb1 hx
    go_enter Tryd.func44, Tryd.ntmps44
    go_wp2_with fail
    go_quiet (fail)
    clear hsx
    go_upto_block 0 with (fail)
    go_cut [7] (fun s7 wx => s7 = .int .i64 (leadN x) ∧ wx = w0.drewN nq)
    case first =>
      go_wp2_with fail
      all_goals (first | (go_meet; first | exact ⟨by rw [lead0 (by omega)]; rfl, rfl⟩ | exact ⟨by rw [lead1 (by omega) (by omega)]; rfl, rfl⟩ | exact ⟨by rw [lead2 (by omega) (by omega)]; rfl, rfl⟩ | exact ⟨by rw [lead3 (by omega) (by omega)]; rfl, rfl⟩) | (exfalso; omega))
    case rest =>
      obtain ⟨rfl, rfl⟩ := hcut
      go_upto_block 1 with (fail)
      go_cut [8, 9] (fun s8 s9 wx => s8 = .int .u8 (leadLo x) ∧ s9 = .int .u8 (leadHi x) ∧ wx = w0.drewN nq)
      case first =>
        by_cases h1 : x = 224
        · subst h1; go_wp2_with fail; go_meet; exact ⟨rfl, rfl, rfl⟩
        by_cases h2 : x = 237
        · subst h2; go_wp2_with fail; go_meet; exact ⟨rfl, rfl, rfl⟩
        by_cases h3 : x = 240
        · subst h3; go_wp2_with fail; go_meet; exact ⟨rfl, rfl, rfl⟩
        by_cases h4 : x = 244
        · subst h4; go_wp2_with fail; go_meet; exact ⟨rfl, rfl, rfl⟩
        have g1 : (x == 224) = false := by simpa using h1
        have g2 : (x == 237) = false := by simpa using h2
        have g3 : (x == 240) = false := by simpa using h3
        have g4 : (x == 244) = false := by simpa using h4
        have e1 : leadLo x = 128 := by rw [leadLo, if_neg h1, if_neg h3]
        have e2 : leadHi x = 191 := by rw [leadHi, if_neg h2, if_neg h4]
        have E1 := Lib.hid e1
        have E2 := Lib.hid e2
        clear h1 h2 h3 h4 e1 e2
        go_wp2_with fail; go_meet; exact ⟨by rw [E1.out], by rw [E2.out], rfl⟩
      case rest =>
        obtain ⟨rfl, rfl, rfl⟩ := hcut
        clear o1 o2 o3 x0 x1
        have hl8 : 128 ≤ leadLo x ∧ leadLo x ≤ 160 := by unfold leadLo; split <;> (try split) <;> omega
        have hl9 : 143 ≤ leadHi x ∧ leadHi x ≤ 191 := by unfold leadHi; split <;> (try split) <;> omega
        obtain ⟨-, -, -, -, -, fz⟩ := (HP.out.draws nq).cells
        have f1 := fz ⟨pb, 1, none⟩ rfl
        clear fz
        have HP4 := Lib.hid ((HP.out.draws nq).set1 (k + 1) ((k : Int) + 1) (by simp))
        have HB4 := Lib.hid ((((But.refl pb w0)).draws nq).set 1 (.int .i64 ((k : Int) + 1)))
        go_wp2_with fail
        clear f1 c0 c1
        generalize (w0.drewN nq).setCell ⟨pb, 1, none⟩ (.int .i64 ((k : Int) + 1)) = W2 at *
        go_loopw [7, 8, 9] (CharRel pb s out d c w0 k r) (fun n _ _ _ => (intOf n).toNat)
        case atStart => exact ⟨leadN x, leadLo x, leadHi x, [b], l0, rfl, rfl, rfl, by have := leadN_le x; simp; omega, by omega, by omega, by omega, by omega, HR.out, by rw [bl_drop s k hkk, HB1.out, HP3.out]; rfl, k + 1, hkk, HP3.out, HP4.out, HB4.out⟩
        case round =>
          clear HP4 HB4 HR hl8 hl9
          obtain ⟨m, lo, hi, pre, l, rfl, rfl, rfl, hm, y0, y1, y2, y3, hr, hd, hA1⟩ := hrel
          have HD := Lib.hid hd
          have HA1 := Lib.hid hA1
          obtain ⟨hp1, hp2, hP, -⟩ := hA1.place
          obtain ⟨a1, ha1⟩ : ∃ a1, a1 = s.size - l.length := ⟨_, rfl⟩
          rw [← ha1] at hp2 hP
          obtain ⟨c0, c1, -, -, -, fz⟩ := hP.cells
          have HP := Lib.hid hP
          cases m with
          | zero =>
            have hr2 : r = (some pre, l) := hr
            have HR := Lib.hid hr2
            have hlen : s.size = k + pre.length + l.length := by
              have := congrArg List.length hd
              rw [List.length_drop, bl_length, List.length_append] at this
              omega
            have hbx : bl (s.extract k a1) = pre := by
              rw [bl_extract, hd, List.take_left' (by omega)]
            have hsx2 : (s.extract k a1).size = pre.length := by rw [← bl_length, hbx]
            have HBX := Lib.hid hbx
            have HSX := Lib.hid hsx2
            have HO1 := Lib.hid (own_but HO.out HA1.out.but hpb)
            have hz1 : w.heap.size ≤ wr.heap.size := Nat.le_trans HA.out.but.size HA1.out.but.size
            have z0 : (0 : Int) ≤ (k : Int) := by omega
            have z1 : (k : Int) ≤ (a1 : Int) := by omega
            have z2 : (a1 : Int) ≤ (s.size : Int) := by omega
            clear hr hr2 hd hA1 hP hlen hbx hsx2 ha1 hp2 fz
            go_wp2_with fail
            go_region_law (go_must (
              refine step_append_str (w0 := wr) w.heap.size rfl (.tmp 117) (.tmp 127) 46 9 5 rfl Tryd.underlying46 Tryd.underlying9 info5 v acc.length (bvals acc) (s.extract k a1) rfl rfl HO1.out (Below.refl _ _).drew ?_ ?_ ?_
              · simp; omega
              · rw [HSX.out]; omega
              intro v1 w2 HO2 HB2))
            all_goals
              go_wp2_with fail
              go_ret2
              exact Got.yes HR.out ((HA.out.trans HA1.out).below hpb HB2) (by rw [HSX.out]) (by rw [strCells_bl, HBX.out]; simp [bvals]) HO2
          | succ q =>
            have hq : (0 : Int) < ((q + 1 : Nat) : Int) := by omega
            cases l with
            | nil =>
              rw [more_nil] at hr
              have HR := Lib.hid hr
              simp only [List.length_nil, Nat.sub_zero] at ha1
              have he : ((a1 : Int) == (s.size : Int)) = true := by rw [ha1]; simp
              clear hr hd hA1 hP ha1 hp2 fz
              go_wp2_with fail
              go_quiet (fail)
              go_wp2_with fail
              go_ret2
              exact Got.no HR.out (HA.out.trans (HA1.out.draws _))
            | cons ch l =>
              obtain ⟨hk1, hkb1, hp3⟩ := drop_get hp2
              rw [more_cons q lo hi y0 y1 y2 y3] at hr
              obtain ⟨y, hy⟩ : ∃ y : Int, y = (ch.toNat : Int) := ⟨_, rfl⟩
              have hsy : ((s[a1]'hk1).toNat : Int) = y := by rw [hkb1, hy]
              rw [← hy] at hr
              have he : ((a1 : Int) == (s.size : Int)) = false := by rw [beq_eq_false_iff_ne]; omega
              have y4 : 0 ≤ y := by omega
              have y5 : y ≤ 255 := by have := ch.toNat_lt; omega
              have z0 : (a1 : Int) < (s.size : Int) := by omega
              clear hd hA1 hP ha1 hp2 hkb1 hy
              by_cases hlo : y < lo
              · have hlo' : decide (y < lo) = true := by simpa using hlo
                rw [if_neg (by omega)] at hr
                have HR := Lib.hid hr
                clear hr fz
                go_wp2_with fail
                go_quiet (fail)
                go_wp2_with fail
                go_ret2
                exact Got.no HR.out (HA.out.trans (HA1.out.draws _))
              have hlo' : decide (y < lo) = false := by simpa using hlo
              by_cases hhi : hi < y
              · have hhi' : decide (hi < y) = true := by simpa using hhi
                rw [if_neg (by omega)] at hr
                have HR := Lib.hid hr
                clear hr fz
                go_wp2_with fail
                go_quiet (fail)
                go_wp2_with fail
                go_ret2
                exact Got.no HR.out (HA.out.trans (HA1.out.draws _))
              have hhi' : decide (hi < y) = false := by simpa using hhi
              rw [if_pos ⟨by omega, by omega⟩] at hr
              have HR := Lib.hid hr
              have HP3' := Lib.hid hp3
              clear hr hp3
              go_wp2_with fail
              go_quiet (fail)
              have f1 := (HP.out.draws nq).cells.2.2.2.2.2 ⟨pb, 1, none⟩ rfl
              clear fz
              go_wp2_with fail
              go_roundw
              case rel => exact ⟨q, 128, 191, pre ++ [ch], l, by go_num, rfl, rfl, by simp; omega, by omega, by omega, by omega, by omega, HR.out, by rw [HD.out]; simp, a1 + 1, hk1, HP3'.out, (HP.out.draws _).set1 (a1 + 1) _ (by simp), (HA1.out.but.draws _).set 1 _⟩
              case measure => simp [intOf]
  · have hr2 : r = (none, b :: l0) := by
      rw [hr]; exact char_bad (by rw [← hx]; exact hok)
    have HR := Lib.hid hr2
    have hok2 : x < 32 ∨ (128 ≤ x ∧ x < 194) ∨ 244 < x := by unfold leadOk at hok; omega
    clear hr hr2 hkb1 hx hok
    go_enter Tryd.func44, Tryd.ntmps44
    go_wp2_with fail
    go_quiet (fail)
    clear hsx
    go_wp2_with fail
    all_goals (first | (go_ret2; exact Got.no HR.out (HA.out.draws nq)) | (exfalso; omega))
end Go.Proofs.YtdhdeaknflekpaaDoor
