/- Plain functions on lists of bytes: which words are sound, and how they are spelt. -/
import Derived.Test.YtjkhbcacpfaagaaDoorMb
set_option linter.unusedSimpArgs false
set_option linter.unusedVariables false
namespace Go.Proofs.YtjkhbcacpfaagaaDoor.TW

/-- May a regex's text stand between slashes? -/
def rsound : List UInt8 → Nat → Bool
  | [], _ => true
  | _ :: r, m + 1 => rsound r m
  | c :: r, 0 =>
    if (c.toNat : Int) = 47 ∨ (c.toNat : Int) = 10 then false
    else if (c.toNat : Int) = 92 then (if byteAt r 0 = -1 ∨ byteAt r 0 = 10 then false else rsound r 1)
    else rsound r 0
def nsound (l : List UInt8) : Bool := decide (l ≠ []) && decide (l.length ≤ 24) && !digit (byteAt l 0) && l.all isN
def sound (k : Int) (l : List UInt8) (n : Int) : Bool :=
  if k = 1 then nsound l else if k = 2 then true else if k = 3 then rsound l 0 else if k = 4 then decide (0 ≤ n) && decide (n ≤ 65535)
  else if k = 5 then decide (l.length = 1) && signs.contains (l.headD 0) else false
theorem rsound_bad (c : UInt8) (r : List UInt8) (h : (c.toNat : Int) = 47 ∨ (c.toNat : Int) = 10) : rsound (c :: r) 0 = false := by rw [rsound, if_pos h]
theorem rsound_esc (c : UInt8) (r : List UInt8) (h : (c.toNat : Int) = 92) (h1 : byteAt r 0 = -1 ∨ byteAt r 0 = 10) : rsound (c :: r) 0 = false := by rw [rsound, if_neg (by omega), if_pos h, if_pos h1]
theorem rsound_two (c : UInt8) (r : List UInt8) (h : (c.toNat : Int) = 92) (h1 : byteAt r 0 ≠ -1) (h2 : byteAt r 0 ≠ 10) : rsound (c :: r) 0 = rsound (r.drop 1) 0 := by
  rw [rsound, if_neg (by omega), if_pos h, if_neg (by omega)]
  cases r <;> simp [rsound]
theorem rsound_one (c : UInt8) (r : List UInt8) (h1 : (c.toNat : Int) ≠ 47) (h2 : (c.toNat : Int) ≠ 10) (h3 : (c.toNat : Int) ≠ 92) : rsound (c :: r) 0 = rsound r 0 := by rw [rsound, if_neg (by omega), if_neg h3]
def hexd (n : Nat) : UInt8 := if n < 10 then UInt8.ofNat (48 + n) else UInt8.ofNat (87 + n)
/-- how a byte is written in a string -/
def qbyte (c : UInt8) : List UInt8 :=
  if (c.toNat : Int) = 34 ∨ (c.toNat : Int) = 92 then [92, c] else if (c.toNat : Int) = 10 then [92, 110] else if (c.toNat : Int) = 9 then [92, 116] else if (c.toNat : Int) = 13 then [92, 114]
  else if (c.toNat : Int) < 32 ∨ 126 < (c.toNat : Int) then [92, 120, hexd (c.toNat / 16), hexd (c.toNat % 16)] else [c]
def quote (l : List UInt8) : List UInt8 := 34 :: l.flatMap qbyte ++ [34]
end Go.Proofs.YtjkhbcacpfaagaaDoor.TW
