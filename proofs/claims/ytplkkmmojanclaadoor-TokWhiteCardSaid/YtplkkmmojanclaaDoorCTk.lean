/- Part of the proof; printed or typed in this session; unused declarations and remarks struck by a program (wip/prune.py). -/
import Derived.Test.YtplkkmmojanclaaDoorCPrep
set_option linter.all false
namespace Go.Proofs.YtplkkmmojanclaaDoor.Tk
def hd (s : List Int) (k : Nat) : Int := s.getD k (-1)
def cp (c : Int) : Int := if 0 ≤ c ∧ c ≤ 1114111 ∧ (c < 55296 ∨ c > 57343) then c else 65533
def isW (c : Int) : Bool := decide (c = 9 ∨ c = 10 ∨ c = 32)
def isD (c : Int) : Bool := decide (48 ≤ c ∧ c ≤ 57)
def isS (c : Int) : Bool := decide (97 ≤ c ∧ c ≤ 122 ∨ 65 ≤ c ∧ c ≤ 90 ∨ c = 95 ∨ 128 ≤ c)
def isP (c : Int) : Bool := isS c || isD c || decide (c = 45)
def esc (s : List Int) (k : Nat) : Bool := decide (hd s k = 92 ∧ hd s (k + 1) ≠ 10 ∧ hd s (k + 1) ≠ -1)
def nam (s : List Int) (k : Nat) : Bool := if hd s k = 45 then isS (hd s (k + 1)) || decide (hd s (k + 1) = 45) || esc s (k + 1) else isS (hd s k) || esc s k
def sgn (s : List Int) : Bool := decide (hd s 0 = 43 ∨ hd s 0 = 45)
def numAt (s : List Int) (k : Nat) : Bool := isD (hd s k) || decide (hd s k = 46) && isD (hd s (k + 1))
def num (s : List Int) : Bool := numAt s (if sgn s then 1 else 0)
def hex (c : Int) : Int := if isD c then c - 48 else if 97 ≤ c ∧ c ≤ 102 then c - 87 else if 65 ≤ c ∧ c ≤ 70 then c - 55 else -1
def hexes : Nat → Int → List Int → Int × List Int
  | 0, n, s => (n, s)
  | k + 1, n, s => if hex (hd s 0) = -1 then (n, s) else hexes k (n * 16 + hex (hd s 0)) (s.drop 1)
def fin (q : Int × List Int) : Int × List Int :=
  (if q.1 = 0 ∨ q.1 > 1114111 ∨ 55296 ≤ q.1 ∧ q.1 ≤ 57343 then 65533 else q.1, if isW (hd q.2 0) then q.2.drop 1 else q.2)
def escd (s : List Int) : Int × List Int := if hex (hd s 0) = -1 then (hd s 0, s.drop 1) else fin (hexes 6 0 s)
def points : Nat → List Int → List Int × List Int
  | 0, s => ([], s)
  | f + 1, s =>
    if esc s 0 then ((escd (s.drop 1)).1 :: (points f (escd (s.drop 1)).2).1, (points f (escd (s.drop 1)).2).2)
    else if isP (hd s 0) then (hd s 0 :: (points f (s.drop 1)).1, (points f (s.drop 1)).2)
    else ([], s)
def name (s : List Int) : List Int × List Int := points s.length s
def quoted : Nat → Int → List Int → Option (List Int) × List Int
  | 0, _, s => (some [], s)
  | f + 1, q, s =>
    if hd s 0 = 10 then (none, s)
    else if hd s 0 = -1 then (some [], s)
    else if hd s 0 = q then (some [], s.drop 1)
    else if hd s 0 ≠ 92 then ((quoted f q (s.drop 1)).1.map (hd s 0 :: ·), (quoted f q (s.drop 1)).2)
    else if hd s 1 = 10 then quoted f q (s.drop 2)
    else if hd s 1 ≠ -1 then ((quoted f q (escd (s.drop 1)).2).1.map ((escd (s.drop 1)).1 :: ·), (quoted f q (escd (s.drop 1)).2).2)
    else quoted f q (s.drop 1)
structure Tok where
  k : Int
  t : List Int := []
  n : Int := 0
  w : Bool := false
  c : Int := 0
  deriving DecidableEq
def strTok : Option (List Int) → Tok
  | some t => { k := 4, t := t }
  | none => { k := 5 }
def str (s : List Int) : Tok × List Int := (strTok (quoted s.length (hd s 0) (s.drop 1)).1, (quoted s.length (hd s 0) (s.drop 1)).2)
def capN (n : Int) : Int := if n < -2147483647 then -2147483647 else if n > 2147483647 then 2147483647 else n
def valD (l : List Int) : Int := l.foldl (fun n c => if n * 10 + (c - 48) < 1099511627776 then n * 10 + (c - 48) else 1099511627776) 0
def dig (l : List Int) (i : Nat) : Int := if i < l.length then l.getD i 48 - 48 else 0
def thou (w f : List Int) : Int := ((valD w * 10 + dig f 0) * 10 + dig f 1) * 10 + dig f 2
def valN (neg : Bool) (w f : List Int) : Int := capN (if neg then -thou w f else thou w f)
def unit (n : Int) (whole : Bool) (s : List Int) : Tok × List Int :=
  if nam s 0 then ({ k := 8, n := n, t := (name s).1 }, (name s).2)
  else if hd s 0 = 37 then ({ k := 7, n := n }, s.drop 1)
  else ({ k := 6, n := n, w := whole }, s)
def amt (neg : Bool) (s : List Int) : Tok × List Int :=
  if hd (s.dropWhile isD) 0 ≠ 46 ∨ isD (hd (s.dropWhile isD) 1) = false then unit (valN neg (s.takeWhile isD) []) true (s.dropWhile isD)
  else unit (valN neg (s.takeWhile isD) (((s.dropWhile isD).drop 1).takeWhile isD)) false (((s.dropWhile isD).drop 1).dropWhile isD)
def amount (s : List Int) : Tok × List Int := amt (decide (hd s 0 = 45)) (if sgn s then s.drop 1 else s)
def signs (c : Int) : Int :=
  if c = 58 then 11 else if c = 59 then 12 else if c = 44 then 13 else if c = 123 then 14 else if c = 125 then 15 else if c = 40 then 16 else if c = 41 then 17 else if c = 91 then 18 else if c = 93 then 19 else 10
def sign (s : List Int) : Tok × List Int := (if signs (hd s 0) = 10 then { k := 10, c := hd s 0 } else { k := signs (hd s 0) }, s.drop 1)
def word (s : List Int) : Tok × List Int := if hd (name s).2 0 = 40 then ({ k := 20, t := (name s).1 }, (name s).2.drop 1) else ({ k := 1, t := (name s).1 }, (name s).2)
def tok (s : List Int) : Tok × List Int :=
  if isW (hd s 0) then ({ k := 9 }, s.dropWhile isW)
  else if hd s 0 = 34 ∨ hd s 0 = 39 then str s
  else if hd s 0 = 35 ∧ (isP (hd s 1) = true ∨ esc s 1 = true) then ({ k := 3, t := (name (s.drop 1)).1 }, (name (s.drop 1)).2)
  else if num s then amount s
  else if hd s 0 = 64 ∧ nam s 1 = true then ({ k := 2, t := (name (s.drop 1)).1 }, (name (s.drop 1)).2)
  else if nam s 0 then word s
  else sign s
def past : List Int → List Int
  | [] => []
  | c :: s => if c = 42 ∧ hd s 0 = 47 then s.drop 1 else past s
def toks : Nat → List Int → List Tok
  | 0, _ => []
  | f + 1, s =>
    if s = [] then []
    else if hd s 0 = 47 ∧ hd s 1 = 42 then toks f (past (s.drop 2))
    else (tok s).1 :: toks f (tok s).2
end Go.Proofs.YtplkkmmojanclaaDoor.Tk
