/- Plain functions on lists of bytes: strings, values, lists and objects, texts; the shape of a list of nodes, its print. -/
import Derived.Test.YtdhdeaknflekpaaDoorMa
namespace Go.Proofs.YtdhdeaknflekpaaDoor.TJ

/-- behind an opening quote: what the string says, or none; what is left -/
def strs : Nat → List UInt8 → List UInt8 → Option (List UInt8) × List UInt8
  | 0, _, l => (none, l)
  | _ + 1, _, [] => (none, [])
  | f + 1, acc, c :: r =>
    if c = 34 then (some acc, r)
    else
      match (if c = 92 then escape r else char (c :: r)) with
      | (none, l) => (none, l)
      | (some b, l) => strs f (acc ++ b) l
def str (l : List UInt8) : Option (List UInt8) × List UInt8 := if has [34] l then strs (l.tail.length + 1) [] l.tail else (none, l)

inductive R (α : Type) where
  | ok (a : α) (l : List UInt8)
  | no (deep : Bool) (l : List UInt8)
structure N where
  kind : Int
  key : List UInt8
  text : List UInt8
  kids : Int
deriving DecidableEq, Inhabited

/-- a member's key and its colon -/
def keyed (keys : List (List UInt8)) (l : List UInt8) : Option (List UInt8) × List UInt8 :=
  match str l with
  | (none, l') => (none, l')
  | (some s, l') => if keys.contains s then (none, l) else if has [58] (blanks l') then (some s, blanks (blanks l').tail) else (none, blanks l')
def shut (obj : Bool) : UInt8 := if obj then 125 else 93
def R.join (n : Nat) (v : List N) : R (Nat × List N) → R (Nat × List N)
  | .ok (m, u) l => .ok (n + m, v ++ u) l
  | .no d l => .no d l
/-- the values of a list, the members of an object, up to the end -/
def items (val : List UInt8 → List UInt8 → R (List N)) (obj : Bool) : Nat → List (List UInt8) → List UInt8 → R (Nat × List N)
  | 0, _, l => .no false l
  | f + 1, keys, l =>
    match (if obj then keyed keys l else (some [], l)) with
    | (none, l1) => .no false l1
    | (some k, l1) =>
      match val k l1 with
      | .no d l2 => .no d l2
      | .ok v l2 =>
        if has [shut obj] (blanks l2) then .ok (1, v) (blanks l2).tail
        else if has [44] (blanks l2) then R.join 1 v (items val obj f (k :: keys) (blanks (blanks l2).tail))
        else .no false (blanks l2)
/-- a list, an object: its kind is an object's; how many values; their nodes -/
def many (val : List UInt8 → List UInt8 → R (List N)) (l : List UInt8) : R (Nat × List N) :=
  if has [shut (has [123] l)] (blanks l.tail) then .ok (0, []) (blanks l.tail).tail
  else items val (has [123] l) ((blanks l.tail).length + 1) [] (blanks l.tail)
def leaf (kind : Int) (key text : List UInt8) (p : Bool × List UInt8) : R (List N) := if p.1 then .ok [⟨kind, key, text, 0⟩] p.2 else .no false p.2
/-- one value; 'd': how many brackets may be opened still -/
def value : Nat → List UInt8 → List UInt8 → R (List N)
  | d, key, l =>
    if has [110] l then leaf 1 key [] (word [110, 117, 108, 108] l)
    else if has [102] l then leaf 2 key [] (word [102, 97, 108, 115, 101] l)
    else if has [116] l then leaf 3 key [] (word [116, 114, 117, 101] l)
    else if has [34] l then
      match str l with
      | (none, l') => .no false l'
      | (some s, l') => .ok [⟨5, key, s, 0⟩] l'
    else if has [91, 123] l then
      match d with
      | 0 => .no true l
      | d + 1 =>
        match many (value d) l with
        | .no b l' => .no b l'
        | .ok (n, v) l' => .ok (⟨if has [123] l then 7 else 6, key, [], n⟩ :: v) l'
    else leaf 4 key (l.take (l.length - (number l).2.length)) (number l)
/-- a text: the value, or whether it is too deep, and the place -/
def parse (l : List UInt8) : R (List N) :=
  match value 64 [] (blanks l) with
  | .no b l' => .no b l'
  | .ok v l' => if blanks l' = [] then .ok v [] else .no false (blanks l')

/-! ### The shape -/
/-- well formed UTF-8 -/
def utf : Nat → List UInt8 → Bool
  | _, [] => true
  | 0, _ :: _ => false
  | f + 1, c :: r => if c < 128 then utf f r else match char (c :: r) with
    | (none, _) => false
    | (some _, l) => utf f l
def valid (l : List UInt8) : Bool := utf l.length l
def isNum (l : List UInt8) : Bool := number l = (true, [])
/-- may the node stand in a value, by itself? -/
def sound (n : N) : Bool :=
  if n.kids < 0 || !valid n.key then false
  else if n.kind = 6 ∨ n.kind = 7 then n.text.isEmpty
  else if n.kind = 4 then n.kids == 0 && isNum n.text
  else if n.kind = 5 then n.kids == 0 && valid n.text
  else if n.kind = 1 ∨ n.kind = 2 ∨ n.kind = 3 then n.kids == 0 && n.text.isEmpty
  else false
/-- so many values of an object or a list, one behind the other: what is behind them -/
def subs (f : List N → Option (List N)) (obj : Bool) : Nat → List (List UInt8) → List N → Option (List N)
  | 0, _, r => some r
  | k + 1, keys, r =>
    match f r with
    | none => none
    | some r' => if obj then (if keys.contains r.head!.key then none else subs f obj k (r.head!.key :: keys) r') else subs f obj k keys r'
/-- what is behind the value that stands there; none: it is no value -/
def sub : Nat → Bool → List N → Option (List N)
  | _, _, [] => none
  | d, key, n :: r =>
    if !sound n || (!key && !n.key.isEmpty) then none
    else if n.kind = 6 ∨ n.kind = 7 then
      match d with
      | 0 => none
      | d + 1 => subs (sub d (n.kind = 7)) (n.kind = 7) n.kids.toNat [] r
    else some r
def shaped (v : List N) : Bool := sub 64 false v == some []

/-! ### The print -/
def hexd (n : Nat) : UInt8 := if n < 10 then UInt8.ofNat (48 + n) else UInt8.ofNat (87 + n)
def written (c : UInt8) : UInt8 := if c = 34 then 34 else if c = 92 then 92 else if c = 8 then 98 else if c = 12 then 102 else if c = 10 then 110 else if c = 13 then 114 else if c = 9 then 116 else 0
def qbyte (c : UInt8) : List UInt8 := if written c ≠ 0 then [92, written c] else if c < 32 then [92, 117, 48, 48, hexd (c.toNat / 16), hexd (c.toNat % 16)] else [c]
def quote (s : List UInt8) : List UInt8 := 34 :: s.flatMap qbyte ++ [34]
/-- so many values, a comma between: the bytes, the nodes behind -/
def prts (f : List N → List UInt8 × List N) : Nat → Bool → List N → List UInt8 × List N
  | 0, _, r => ([], r)
  | k + 1, more, r =>
    let (b, r1) := f r
    let (c, r2) := prts f k true r1
    ((if more then [44] else []) ++ b ++ c, r2)
def prt : Nat → Bool → List N → List UInt8 × List N
  | _, _, [] => ([], [])
  | d, key, n :: r =>
    let k := if key then quote n.key ++ [58] else []
    if n.kind = 1 then (k ++ [110, 117, 108, 108], r)
    else if n.kind = 2 then (k ++ [102, 97, 108, 115, 101], r)
    else if n.kind = 3 then (k ++ [116, 114, 117, 101], r)
    else if n.kind = 4 then (k ++ n.text, r)
    else if n.kind = 5 then (k ++ quote n.text, r)
    else
      match d with
      | 0 => ([], [])
      | d + 1 =>
        let (b, r1) := prts (prt d (n.kind = 7)) n.kids.toNat false r
        (k ++ [if n.kind = 7 then 123 else 91] ++ b ++ [if n.kind = 7 then 125 else 93], r1)
def print (v : List N) : List UInt8 := (prt 64 false v).1
end Go.Proofs.YtdhdeaknflekpaaDoor.TJ
