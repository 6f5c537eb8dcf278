/- json's parser: number. -/
import Derived.Test.YtdhdeaknflekpaaDoorWd
set_option linter.unusedSimpArgs false
set_option linter.unusedVariables false
namespace Go.Proofs.YtdhdeaknflekpaaDoor
open Go.RowKit

/-- it stands where 'g' is still to be read, and what that gives is 'r' -/
def Next (pb : Nat) (s : ByteArray) (out : Value) (d c : Int) (w : World) (g : List UInt8 → Bool × List UInt8) (r : Bool × List UInt8) (wx : World) : Prop :=
  ∃ l, r = g l ∧ At pb s out d c w l wx
set_option maxRecDepth 100000 in
set_option maxHeartbeats 2000000 in
theorem number_at {pb : Nat} {s : ByteArray} {out : Value} {d c : Int} {w w0 : World} {l0 : List UInt8} (hA : At pb s out d c w l0 w0) (hs : s.size ≤ 140737488355328) :
    Calls Tryd.prog 36 #[.pointer (some ⟨pb, 0, none⟩)] w0 fun e w' => e = .returned (.bool (TJ.number l0).1) ∧ At pb s out d c w (TJ.number l0).2 w' := by
  obtain ⟨r, hr⟩ : ∃ r, r = TJ.number l0 := ⟨_, rfl⟩
  rw [← hr]
  have hr1 : r = TJ.whole (if TJ.has [45] l0 then l0.tail else l0) := hr
  have HR := Lib.hid hr1
  have hi := Lib.hid (is_at ⟨#[45]⟩ [45] rfl hA hs)
  have HA := Lib.hid hA
  clear hA hr hr1
  go_enter Tryd.func36, Tryd.ntmps36
  go_wp2_with fail
  refine hi.out.mono ?_
  rintro e w1 ⟨rfl, n, rfl⟩
  have HA1 := Lib.hid (HA.out.draws n)
  clear hi HA
  go_upto_if 4 with fail
  go_cut [] (fun wx => Next pb s out d c w TJ.whole r wx)
  case first =>
    by_cases hh : TJ.has [45] l0 = true
    · obtain ⟨k, c1, f1, hk, hA2⟩ := HA1.out.next hh
      rw [if_pos hh] at HR
      have HA2 := Lib.hid hA2
      rw [hh]
      clear hA2 hh HA1
      go_wp2_with fail
      go_meet
      exact ⟨_, HR.out, HA2.out⟩
    · rw [if_neg hh] at HR
      have hf : TJ.has [45] l0 = false := by simpa using hh
      rw [hf]
      clear hh hf
      go_wp2_with fail
      go_meet
      exact ⟨_, HR.out, HA1.out⟩
  case rest =>
    obtain ⟨l1, hr, hA⟩ := hcut
    clear HR HA1
    have HR := Lib.hid hr
    have hi := Lib.hid (is_at ⟨#[48]⟩ [48] rfl hA hs)
    have HA := Lib.hid hA
    clear hA hr
    go_wp2_with fail
    refine hi.out.mono ?_
    rintro e w2 ⟨rfl, n, rfl⟩
    have HA1 := Lib.hid (HA.out.draws n)
    clear hi HA
    go_upto_if 13 with fail
    go_cut [] (fun wx => Next pb s out d c w TJ.frac r wx)
    case first =>
      by_cases hh : TJ.has [48] l1 = true
      · obtain ⟨k, c1, f1, hk, hA2⟩ := HA1.out.next hh
        have HR2 := Lib.hid (HR.out.trans (show _ = _ by rw [TJ.whole, if_pos hh]))
        have HA2 := Lib.hid hA2
        rw [hh]
        clear hA2 hh HA1 HR
        go_wp2_with fail
        go_meet
        exact ⟨_, HR2.out, HA2.out⟩
      · have HR2 := Lib.hid (HR.out.trans (show _ = _ by rw [TJ.whole, if_neg hh]))
        have hf : TJ.has [48] l1 = false := by simpa using hh
        have hd := Lib.hid (digits_at HA1.out hs)
        rw [hf]
        clear hh hf HA1 HR
        generalize TJ.digits l1 = dg at *
        obtain ⟨b, l2⟩ := dg
        go_wp2_with fail
        refine hd.out.mono ?_
        rintro e w3 ⟨rfl, hA3⟩
        have HA3 := Lib.hid hA3
        clear hA3 hd
        cases b with
        | true =>
          go_wp2_with fail
          go_meet
          exact ⟨_, HR2.out, HA3.out⟩
        | false =>
          go_wp2_with fail
          go_ret
          obtain rfl := HR2.out
          exact ⟨rfl, HA3.out⟩
    case rest =>
      obtain ⟨l2, hr, hA⟩ := hcut
      clear HR HA1
      have HR := Lib.hid hr
      have hi := Lib.hid (is_at ⟨#[46]⟩ [46] rfl hA hs)
      have HA := Lib.hid hA
      clear hA hr
      go_wp2_with fail
      refine hi.out.mono ?_
      rintro e w2 ⟨rfl, n, rfl⟩
      have HA1 := Lib.hid (HA.out.draws n)
      clear hi HA
      go_upto_if 25 with fail
      go_cut [] (fun wx => Next pb s out d c w TJ.exp r wx)
      case first =>
        by_cases hh : TJ.has [46] l2 = true
        · obtain ⟨k, c1, f1, hk, hA2⟩ := HA1.out.next hh
          have HR2 := Lib.hid (HR.out.trans (show _ = _ by rw [TJ.frac, if_pos hh]))
          have hd := Lib.hid (digits_at hA2 hs)
          rw [hh]
          clear hA2 hh HA1 HR
          generalize TJ.digits l2.tail = dg at *
          obtain ⟨b, l3⟩ := dg
          go_wp2_with fail
          refine hd.out.mono ?_
          rintro e w3 ⟨rfl, hA3⟩
          have HA3 := Lib.hid hA3
          clear hA3 hd
          cases b with
          | true =>
            go_wp2_with fail
            go_meet
            exact ⟨_, HR2.out, HA3.out⟩
          | false =>
            go_wp2_with fail
            go_ret
            obtain rfl := HR2.out
            exact ⟨rfl, HA3.out⟩
        · have HR2 := Lib.hid (HR.out.trans (show _ = _ by rw [TJ.frac, if_neg hh]))
          have hf : TJ.has [46] l2 = false := by simpa using hh
          rw [hf]
          clear hh hf HR
          go_wp2_with fail
          go_meet
          exact ⟨_, HR2.out, HA1.out⟩
      case rest =>
        obtain ⟨l3, hr, hA⟩ := hcut
        clear HR HA1
        have HR := Lib.hid hr
        have hi := Lib.hid (is_at ⟨#[101, 69]⟩ [101, 69] rfl hA hs)
        have HA := Lib.hid hA
        clear hA hr
        go_wp2_with fail
        refine hi.out.mono ?_
        rintro e w2 ⟨rfl, n, rfl⟩
        have HA1 := Lib.hid (HA.out.draws n)
        clear hi HA
        by_cases hh : TJ.has [101, 69] l3 = true
        · obtain ⟨k, c1, f1, hk, hA2⟩ := HA1.out.next hh
          have HR2 := Lib.hid (HR.out.trans (show _ = _ by rw [TJ.exp, if_pos hh]))
          have hi := Lib.hid (is_at ⟨#[43, 45]⟩ [43, 45] rfl hA2 hs)
          have HA2 := Lib.hid hA2
          rw [hh]
          clear hA2 hh HA1 HR
          go_wp2_with fail
          refine hi.out.mono ?_
          rintro e w3 ⟨rfl, n, rfl⟩
          have HA3 := Lib.hid (HA2.out.draws n)
          clear hi HA2 c1 f1 hk
          by_cases hh : TJ.has [43, 45] l3.tail = true
          · obtain ⟨k, c1, f1, hk, hA4⟩ := HA3.out.next hh
            rw [if_pos hh] at HR2
            have hd := Lib.hid (digits_at hA4 hs)
            rw [hh]
            clear hh hA4 HA3
            go_wp2_with fail
            refine hd.out.mono ?_
            rintro e w3 ⟨rfl, hA3⟩
            have HA3 := Lib.hid hA3
            clear hA3 hd
            go_wp2_with fail
            go_ret
            obtain rfl := HR2.out
            exact ⟨rfl, HA3.out⟩
          · rw [if_neg hh] at HR2
            have hd := Lib.hid (digits_at HA3.out hs)
            have hf : TJ.has [43, 45] l3.tail = false := by simpa using hh
            rw [hf]
            clear hh hf HA3
            go_wp2_with fail
            refine hd.out.mono ?_
            rintro e w3 ⟨rfl, hA3⟩
            have HA3 := Lib.hid hA3
            clear hA3 hd
            go_wp2_with fail
            go_ret
            obtain rfl := HR2.out
            exact ⟨rfl, HA3.out⟩
        · have HR2 := Lib.hid (HR.out.trans (show _ = _ by rw [TJ.exp, if_neg hh]))
          have hf : TJ.has [101, 69] l3 = false := by simpa using hh
          rw [hf]
          clear hh hf HR
          go_wp2_with fail
          go_ret
          obtain rfl := HR2.out
          exact ⟨rfl, HA1.out⟩
end Go.Proofs.YtdhdeaknflekpaaDoor
