/- json's parser: a string. -/
import Derived.Test.YtdhdeaknflekpaaDoorWh
import Derived.Test.YtdhdeaknflekpaaDoorPb
set_option linter.unusedSimpArgs false
set_option linter.unusedVariables false
namespace Go.Proofs.YtdhdeaknflekpaaDoor
open Go.RowKit

theorem Base.here {pb : Nat} {s : ByteArray} {out : Value} {d c : Int} {w w1 : World} {l : List UInt8} (h : Base pb w) (hA : At pb s out d c w l w1) : Base pb w1 := ⟨fun x => hA.says h x, h.ne⟩
def strV : Option (List UInt8) → Value
  | some b => .tuple #[.string ⟨b.toArray⟩, .bool true]
  | none => .tuple #[.string ⟨#[]⟩, .bool false]
theorem rune_len (n : Int) : (TJ.rune n).length ≤ 4 := by
  unfold TJ.rune
  dsimp only
  split
  · simp
  · split
    · simp
    · split <;> simp
theorem more_len : ∀ (n : Nat) (lo hi : UInt8) (pre l b q : List UInt8), TJ.more n lo hi pre l = (some b, q) → b.length ≤ pre.length + n
  | 0, lo, hi, pre, l, b, q, h => by cases h; simp
  | n + 1, lo, hi, pre, [], b, q, h => by cases h
  | n + 1, lo, hi, pre, c :: r, b, q, h => by
    rw [TJ.more] at h
    split at h
    · have := more_len n _ _ _ _ _ _ h
      simp at this
      omega
    · cases h
theorem char_len {l b q : List UInt8} (h : TJ.char l = (some b, q)) : b.length ≤ 4 := by
  cases l with
  | nil => cases h
  | cons c r =>
    rw [TJ.char] at h
    split at h
    · cases h
    · split at h
      · cases h; simp
      · split at h
        · have := more_len _ _ _ _ _ _ _ h; simp at this; omega
        · split at h
          · have := more_len _ _ _ _ _ _ _ h; simp at this; omega
          · split at h
            · have := more_len _ _ _ _ _ _ _ h; simp at this; omega
            · cases h
theorem escape_len {l b q : List UInt8} (h : TJ.escape l = (some b, q)) : b.length ≤ 4 := by
  by_cases hs : ∀ c r, l = c :: r → TJ.says c = 0
  · rw [escape_rest hs] at h
    split at h
    · cases h
    · split at h
      · cases h
      · split at h
        · split at h
          · cases h
          · split at h
            · cases h
            · split at h
              · cases h
              · cases h; exact rune_len _
        · cases h; exact rune_len _
  · cases l with
    | nil => cases h
    | cons c r =>
      rw [TJ.escape, if_pos (by
        intro e; apply hs; intro c' r' e'; cases e'; exact e)] at h
      cases h
      simp
theorem escape_short {l b q : List UInt8} (h : TJ.escape l = (some b, q)) : q.length ≤ l.length := TJ.escape_strong.shorter (l := l) (a := b) (r := q) (by show TJ.ofO (TJ.escape l) = _; rw [h]; rfl)
theorem char_short {l b q : List UInt8} {c : UInt8} (h : TJ.char (c :: l) = (some b, q)) : q.length ≤ l.length := by
  have h2 : TJ.ofO (TJ.char (c :: l)) = TJ.head TJ.lead (c :: l) := congrFun TJ.char_eq _
  rw [h, TJ.head_cons] at h2
  cases hl : TJ.lead c with
  | none => rw [hl] at h2; cases h2
  | some P => rw [hl] at h2; exact (TJ.lead_strong c P hl).shorter h2.symm
theorem At.left {pb : Nat} {s : ByteArray} {out : Value} {d c : Int} {w w1 : World} {l : List UInt8} (hA : At pb s out d c w l w1) : YtdhdeaknflekpaaDoor.left s pb w1 = l.length := by
  obtain ⟨h1, -, h2, -⟩ := hA.place
  rw [h2.left]
  omega
theorem strs_any {f : Nat} {acc l : List UInt8} (h : l.length < f) : TJ.strs f acc l = TJ.strs (l.length + 1) acc l := TJ.ofO_inj (TJ.strs_fuel _ _ _ _ h (by omega))
def StrRel (pb : Nat) (s : ByteArray) (out : Value) (d c : Int) (w0 : World) (r : Option (List UInt8) × List UInt8) (v b : Value) (wr : World) : Prop :=
  ∃ acc l : List UInt8, b = .bool true ∧ acc.length + 4 * l.length ≤ 4 * s.size ∧ r = TJ.strs (l.length + 1) acc l ∧ wr.ownsRow w0.heap.size 5 1 v acc.length (bvals acc) ∧ At pb s out d c w0 l wr
theorem ret_str {e : Ending} {p : Prop} {o : Option (List UInt8)} {v : Value} (he : e = .returned v) (hv : v = strV o) (hp : p) : e = .returned (strV o) ∧ p := ⟨by rw [he, hv], hp⟩
set_option maxRecDepth 100000 in
set_option maxHeartbeats 4000000 in
theorem str_at {pb : Nat} {s : ByteArray} {out : Value} {d c : Int} {w w0 : World} {l0 : List UInt8} (hb : Base pb w) (hA : At pb s out d c w l0 w0) (hs : s.size ≤ 67108864) (hpb : pb < w.heap.size) :
    Calls Tryd.prog 34 #[.pointer (some ⟨pb, 0, none⟩)] w0 fun e w' => e = .returned (strV (TJ.str l0).1) ∧ At pb s out d c w (TJ.str l0).2 w' := by
  obtain ⟨r, hr⟩ : ∃ r, r = TJ.str l0 := ⟨_, rfl⟩
  rw [← hr]
  have hb0 := Lib.hid (hb.here hA)
  have hpb0 : pb < w0.heap.size := Nat.lt_of_lt_of_le hpb hA.but.size
  have HA := Lib.hid hA
  have ht := Lib.hid (take_at ⟨#[34]⟩ [34] rfl hA.here (by omega))
  unfold TJ.str at hr
  by_cases hh : TJ.has [34] l0 = true
  · rw [if_pos hh] at hr
    rw [TJ.take, if_pos hh] at ht
    have HR := Lib.hid hr
    clear hr hh hA hb hpb
    go_enter Tryd.func34, Tryd.ntmps34
    go_wp2_with fail
    refine ht.out.mono ?_
    rintro e w1 ⟨rfl, hA1⟩
    have HA1 := Lib.hid hA1
    clear hA1 ht
    go_wp2_with fail
    go_loopw [4, 5] (StrRel pb s out d c w0 r) (fun _ _ wr => left s pb wr)
    case atStart => exact ⟨[], l0.tail, rfl, by have := HA1.out.place.1; simp only [List.length_nil]; omega, HR.out, World.ownsRow_nil _ _ _ _, HA1.out⟩
    case round =>
      clear HR HA1
      obtain ⟨acc, l, rfl, hlen, hr, hO, hA1⟩ := hrel
      have ht := Lib.hid (take_at ⟨#[34]⟩ [34] rfl hA1.here (by omega))
      have HA1 := Lib.hid hA1
      have hB1 : w0.heap.size ≤ wr.heap.size := hA1.but.size
      cases l with
      | nil =>
        have hr2 : r = (none, []) := hr
        have HR := Lib.hid hr2
        clear hr hr2 hA1 hO hlen
        go_wp2_with fail
        refine ht.out.mono ?_
        rintro e w2 ⟨rfl, hA2⟩
        have hA2 : At pb s out d c wr [] w2 := hA2
        obtain ⟨-, -, hP, -⟩ := hA2.place
        simp only [List.length_nil, Nat.sub_zero] at hP
        obtain ⟨c0, c1, -, -, -, -⟩ := hP.cells
        have he : ((s.size : Int) == (s.size : Int)) = true := by simp
        have HA2 := Lib.hid hA2
        clear hA2 hP ht
        go_wp2_with fail
        go_quiet (fail)
        go_wp2_with fail
        go_ret2
        obtain rfl := HR.out
        exact ⟨rfl, HA.out.trans (HA1.out.trans (HA2.out.draws _))⟩
      | cons ch l =>
        rw [TJ.strs] at hr
        by_cases h34 : ch = 34
        · rw [if_pos h34] at hr
          have HR := Lib.hid hr
          have hh : TJ.has [34] (ch :: l) = true := by rw [h34]; rfl
          rw [TJ.take, if_pos hh] at ht
          have HO := Lib.hid hO
          clear hr hA1 hlen h34 hh hO
          go_wp2_with fail
          refine ht.out.mono ?_
          rintro e w2 ⟨rfl, hA2⟩
          have HA2 := Lib.hid hA2
          have hcv := (RB.own (own_but HO.out hA2.but hpb0)).conv (P := Tryd.prog) (src := 46) (dst := 9) (e := 5) Tryd.underlying46 Tryd.underlying5 Tryd.underlying9
          clear hA2 ht
          go_wp2_with fail
          go_ret2
          obtain rfl := HR.out
          exact ⟨rfl, HA.out.trans (HA1.out.trans HA2.out)⟩
        · rw [if_neg h34] at hr
          have hh : ¬ TJ.has [34] (ch :: l) = true := by simpa [TJ.has] using h34
          rw [TJ.take, if_neg hh] at ht
          have HO := Lib.hid hO
          simp only [List.length_cons] at hlen
          have HL := Lib.hid hlen
          have hac : acc.length ≤ 1073741824 := by omega
          clear hA1 h34 hh hO hlen
          by_cases h92 : ch = 92
          · rw [if_pos h92] at hr
            have HR := Lib.hid hr
            clear hr
            go_wp2_with fail
            refine ht.out.mono ?_
            rintro e w2 ⟨rfl, hA2⟩
            obtain ⟨-, hp2, hP, -⟩ := hA2.place
            obtain ⟨a1, ha1⟩ : ∃ a1, a1 = s.size - (ch :: l).length := ⟨_, rfl⟩
            rw [← ha1] at hp2 hP
            obtain ⟨hk1, hkb1, hp3⟩ := drop_get hp2
            obtain ⟨c0, c1, -, -, -, fz⟩ := hP.cells
            have HP := Lib.hid hP
            have HP3 := Lib.hid hp3
            have HA2 := Lib.hid hA2
            have hsy : ((s[a1]'hk1).toNat : Int) = 92 := by rw [hkb1, h92]; rfl
            have he : ((a1 : Int) == (s.size : Int)) = false := by rw [beq_eq_false_iff_ne]; omega
            have z0 : (a1 : Int) < (s.size : Int) := by omega
            have f1 := fz ⟨pb, 1, none⟩ rfl
            clear hA2 hP ht hkb1 h92 hp2 ha1 hp3 fz
            go_wp2_with fail
            go_quiet (fail)
            go_wp2_with fail
            go_quiet (fail)
            go_wp2_with fail
            have HA4 := fun n : Nat => Lib.hid ((show At pb s out d c w0 l ((w2.drewN n).setCell ⟨pb, 1, none⟩ (.int .i64 ((a1 : Int) + 1))) from ⟨a1 + 1, hk1, HP3.out, (HP.out.draws _).set1 (a1 + 1) _ (by simp), ((HA1.out.trans HA2.out).but.draws _).set 1 _⟩))
            have HO4 := fun n : Nat => Lib.hid (own_but HO.out ((HA2.out.but.draws n).set 1 (.int .i64 ((a1 : Int) + 1))) hpb0)
            have hc := fun n : Nat => Lib.hid (escape_at hb0.out (HA4 n).out (by omega) (HO4 n).out hpb0 hac)
            have hl4 := fun (b q : List UInt8) (e : TJ.escape l = (some b, q)) => escape_len e
            have hs4 := fun (b q : List UInt8) (e : TJ.escape l = (some b, q)) => escape_short e
            have HR2 := HR.out
            clear HR HA4 HO4 HO
            generalize TJ.escape l = q at *
            obtain ⟨o, l2⟩ := q
            cases o with
            | none =>
              have hr2 : r = (none, l2) := HR2
              have HR := Lib.hid hr2
              clear HR2 hr2 hl4 hs4
              refine (hc _).out.mono ?_
              rintro e w4 ⟨v', rfl, hA4, -⟩
              have HA5 := Lib.hid hA4
              clear hA4 hc
              go_wp2_with fail
              go_ret2
              obtain rfl := HR.out
              exact ⟨rfl, HA.out.trans HA5.out⟩
            | some b =>
              have hr2 : r = TJ.strs (l.length + 1) (acc ++ b) l2 := HR2
              have h1 := hl4 b l2 rfl
              have h2 := hs4 b l2 rfl
              rw [strs_any (by omega)] at hr2
              have HR := Lib.hid hr2
              have H1 := Lib.hid h1
              have H2 := Lib.hid h2
              clear HR2 hr2 hl4 hs4 h1 h2
              refine (hc _).out.mono ?_
              rintro e w4 ⟨v', rfl, hA4, hO4⟩
              have HO5 := Lib.hid (hO4 b rfl)
              have HA5 := Lib.hid hA4
              have hl1 := HA1.out.left
              have hl5 := HA5.out.left
              clear hA4 hO4 hc
              go_wp2_with fail
              go_roundw
              case rel => exact ⟨acc ++ b, l2, rfl, by have := HL.out; have := H1.out; have := H2.out; simp only [List.length_append]; omega, HR.out, by simpa using HO5.out, HA5.out⟩
              case measure => rw [hl1, hl5]; have := H2.out; simp only [List.length_cons]; omega
          · rw [if_neg h92] at hr
            have HR := Lib.hid hr
            clear hr
            go_wp2_with fail
            refine ht.out.mono ?_
            rintro e w2 ⟨rfl, hA2⟩
            obtain ⟨-, hp2, hP, -⟩ := hA2.place
            obtain ⟨a1, ha1⟩ : ∃ a1, a1 = s.size - (ch :: l).length := ⟨_, rfl⟩
            rw [← ha1] at hp2 hP
            obtain ⟨hk1, hkb1, hp3⟩ := drop_get hp2
            obtain ⟨c0, c1, -, -, -, fz⟩ := hP.cells
            have HP := Lib.hid hP
            have HP3 := Lib.hid hp3
            have HA2 := Lib.hid hA2
            obtain ⟨y, hy⟩ : ∃ y : Int, y = (ch.toNat : Int) := ⟨_, rfl⟩
            have hsy : ((s[a1]'hk1).toNat : Int) = y := by rw [hkb1, hy]
            have hy92 : (y == 92) = false := by
              rw [beq_eq_false_iff_ne, hy]
              intro h
              apply h92
              apply UInt8.toNat_inj.1
              have : ch.toNat = 92 := by omega
              rw [this]; rfl
            have he : ((a1 : Int) == (s.size : Int)) = false := by rw [beq_eq_false_iff_ne]; omega
            have z0 : (a1 : Int) < (s.size : Int) := by omega
            clear hA2 hP ht hkb1 h92 hp2 ha1 hp3 fz hy
            go_wp2_with fail
            go_quiet (fail)
            go_wp2_with fail
            go_quiet (fail)
            go_wp2_with fail
            have HA4 := fun n : Nat => Lib.hid ((HA1.out.trans HA2.out).draws n)
            have HO4 := fun n : Nat => Lib.hid (own_but HO.out ((HA2.out.but.draws n)) hpb0)
            have hc := fun n : Nat => Lib.hid (char_at (HA4 n).out (by omega) (HO4 n).out hpb0 hac)
            have hl4 := fun (b q : List UInt8) (e : TJ.char (ch :: l) = (some b, q)) => char_len e
            have hs4 := fun (b q : List UInt8) (e : TJ.char (ch :: l) = (some b, q)) => char_short e
            have HR2 := HR.out
            clear HR HA4 HO4 HO
            generalize TJ.char (ch :: l) = q at *
            obtain ⟨o, l2⟩ := q
            cases o with
            | none =>
              have hr2 : r = (none, l2) := HR2
              have HR := Lib.hid hr2
              clear HR2 hr2 hl4 hs4
              refine (hc _).out.mono ?_
              rintro e w4 ⟨v', rfl, hA4, -⟩
              have HA5 := Lib.hid hA4
              clear hA4 hc
              go_wp2_with fail
              go_ret2
              obtain rfl := HR.out
              exact ⟨rfl, HA.out.trans HA5.out⟩
            | some b =>
              have hr2 : r = TJ.strs (l.length + 1) (acc ++ b) l2 := HR2
              have h1 := hl4 b l2 rfl
              have h2 := hs4 b l2 rfl
              rw [strs_any (by omega)] at hr2
              have HR := Lib.hid hr2
              have H1 := Lib.hid h1
              have H2 := Lib.hid h2
              clear HR2 hr2 hl4 hs4 h1 h2
              refine (hc _).out.mono ?_
              rintro e w4 ⟨v', rfl, hA4, hO4⟩
              have HO5 := Lib.hid (hO4 b rfl)
              have HA5 := Lib.hid hA4
              have hl1 := HA1.out.left
              have hl5 := HA5.out.left
              clear hA4 hO4 hc
              go_wp2_with fail
              go_roundw
              case rel => exact ⟨acc ++ b, l2, rfl, by have := HL.out; have := H1.out; have := H2.out; simp only [List.length_append]; omega, HR.out, by simpa using HO5.out, HA5.out⟩
              case measure => rw [hl1, hl5]; have := H2.out; simp only [List.length_cons]; omega
  · rw [if_neg hh] at hr
    rw [TJ.take, if_neg hh] at ht
    have HR := Lib.hid hr
    clear hr hh hA hb hpb
    go_enter Tryd.func34, Tryd.ntmps34
    go_wp2_with fail
    refine ht.out.mono ?_
    rintro e w1 ⟨rfl, hA1⟩
    have HA1 := Lib.hid hA1
    clear hA1 ht
    go_wp2_with fail
    go_ret2
    obtain rfl := HR.out
    exact ⟨rfl, HA.out.trans HA1.out⟩
end Go.Proofs.YtdhdeaknflekpaaDoor
