/- Plain functions on lists of bytes: what the methods of json's parser compute. A list is what is left of the text; a pair's second part is what is left behind. -/
namespace Go.Proofs.YtdhdeaknflekpaaDoor.TJ

def has (s l : List UInt8) : Bool := match l with | [] => false | c :: _ => s.contains c
def take (s l : List UInt8) : Bool × List UInt8 := if has s l then (true, l.tail) else (false, l)
def sBlank : List UInt8 := [32, 9, 10, 13]
def sDigit : List UInt8 := [48, 49, 50, 51, 52, 53, 54, 55, 56, 57]
def sHex : List UInt8 := sDigit ++ [97, 98, 99, 100, 101, 102, 65, 66, 67, 68, 69, 70]
def sLow : List UInt8 := [99, 100, 101, 102, 67, 68, 69, 70]
def sHigh : List UInt8 := sDigit ++ [97, 98, 65, 66]
def blanks (l : List UInt8) : List UInt8 := l.dropWhile sBlank.contains
def digits (l : List UInt8) : Bool × List UInt8 := if has sDigit l then (true, l.tail.dropWhile sDigit.contains) else (false, l)
def exp (l : List UInt8) : Bool × List UInt8 := if has [101, 69] l then digits (if has [43, 45] l.tail then l.tail.tail else l.tail) else (true, l)
def frac (l : List UInt8) : Bool × List UInt8 := if has [46] l then (if (digits l.tail).1 then exp (digits l.tail).2 else (false, (digits l.tail).2)) else exp l
def whole (l : List UInt8) : Bool × List UInt8 := if has [48] l then frac l.tail else if (digits l).1 then frac (digits l).2 else (false, (digits l).2)
def number (l : List UInt8) : Bool × List UInt8 := whole (if has [45] l then l.tail else l)
def word : List UInt8 → List UInt8 → Bool × List UInt8
  | [], l => (true, l)
  | c :: s, l => if has [c] l then word s l.tail else (false, l)
def hexOf (c : UInt8) : Int := if c.toNat ≤ 57 then (c.toNat : Int) - 48 else ((c ||| 32).toNat : Int) - 87
/-- so many digits, each of its set: the number, or the place of what is none -/
def hexes : List (List UInt8) → Int → List UInt8 → Option Int × List UInt8
  | [], n, l => (some n, l)
  | s :: ss, n, c :: r => if s.contains c then hexes ss (16 * n + hexOf c) r else (none, c :: r)
  | _ :: _, _, [] => (none, [])
def four (low : Bool) (l : List UInt8) : Option Int × List UInt8 :=
  if low then hexes [[100, 68], sLow, sHex, sHex] 0 l else if has [100, 68] l then hexes [sHex, sHigh, sHex, sHex] 0 l else hexes [sHex, sHex, sHex, sHex] 0 l
/-- what a backslash and a byte say -/
def says (c : UInt8) : UInt8 := if c = 34 then 34 else if c = 92 then 92 else if c = 47 then 47 else if c = 98 then 8 else if c = 102 then 12 else if c = 110 then 10 else if c = 114 then 13 else if c = 116 then 9 else 0
/-- the bytes of a code point -/
def rune (n : Int) : List UInt8 :=
  let b (k : Int) : UInt8 := UInt8.ofNat k.toNat
  if n < 128 then [b n] else if n < 2048 then [b (192 + n / 64), b (128 + n % 64)]
  else if n < 65536 then [b (224 + n / 4096), b (128 + n / 64 % 64), b (128 + n % 64)]
  else [b (240 + n / 262144), b (128 + n / 4096 % 64), b (128 + n / 64 % 64), b (128 + n % 64)]
/-- behind a backslash: the bytes, or none; what is left -/
def escape : List UInt8 → Option (List UInt8) × List UInt8
  | [] => (none, [])
  | c :: r =>
    if says c ≠ 0 then (some [says c], r)
    else if c = 117 then
      match four false r with
      | (none, l) => (none, l)
      | (some n, l) =>
        if 55296 ≤ n ∧ n ≤ 56319 then
          if has [92] l then
            if has [117] l.tail then
              match four true l.tail.tail with
              | (none, l') => (none, l')
              | (some m, l') => (some (rune (65536 + (n - 55296) * 1024 + (m - 56320))), l')
            else (none, l.tail)
          else (none, l)
        else (some (rune n), l)
    else (none, c :: r)
/-- so many bytes more, the first between 'lo' and 'hi' -/
def more : Nat → UInt8 → UInt8 → List UInt8 → List UInt8 → Option (List UInt8) × List UInt8
  | 0, _, _, pre, l => (some pre, l)
  | n + 1, lo, hi, pre, c :: r => if lo ≤ c ∧ c ≤ hi then more n 128 191 (pre ++ [c]) r else (none, c :: r)
  | _ + 1, _, _, _, [] => (none, [])
/-- a character as it is -/
def char : List UInt8 → Option (List UInt8) × List UInt8
  | [] => (none, [])
  | c :: r =>
    if c < 32 then (none, c :: r)
    else if c < 128 then (some [c], r)
    else if 194 ≤ c ∧ c ≤ 223 then more 1 128 191 [c] r
    else if 224 ≤ c ∧ c ≤ 239 then more 2 (if c = 224 then 160 else 128) (if c = 237 then 159 else 191) [c] r
    else if 240 ≤ c ∧ c ≤ 244 then more 3 (if c = 240 then 144 else 128) (if c = 244 then 143 else 191) [c] r
    else (none, c :: r)
end Go.Proofs.YtdhdeaknflekpaaDoor.TJ
