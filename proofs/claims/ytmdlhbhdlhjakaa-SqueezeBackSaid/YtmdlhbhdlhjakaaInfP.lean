/- Plain: what deflated bytes tell. -/
import Derived.Test.YtmdlhbhdlhjakaaFixP
set_option linter.unusedVariables false
set_option linter.unusedSimpArgs false
namespace Go.Proofs.Ytmdlhbhdlhjakaa
open Go.RowKit

def getS (s : ByteArray) (p d : Nat) : Except Nat (Nat × Nat) := if p + d ≤ 8 * s.size then .ok (val (bit s) p d, p + d) else .error 5
def symS (s : ByteArray) (ls : List Int) (p : Nat) : Except Nat (Nat × Nat) :=
  if (readOf ls (bit s) (8 * s.size) p).2.1 = 0 then .ok ((readOf ls (bit s) (8 * s.size) p).1.toNat, (readOf ls (bit s) (8 * s.size) p).2.2) else .error (readOf ls (bit s) (8 * s.size) p).2.1.toNat
def toldS (s : ByteArray) (x : Nat × Nat) (p : Nat) : Except Nat (Nat × Nat) :=
  match getS s p x.2 with
  | .error e => .error e
  | .ok (n, q) => .ok (x.1 + n, q)
def copyL (b : Nat) : Nat → List Nat → List Nat
  | 0, o => o
  | n + 1, o => copyL b n (o ++ [o.getD (o.length - b) 0])
def repeatS (s : ByteArray) (most : Nat) (fl : List Int) (k p : Nat) (o : List Nat) : Except Nat (List Nat × Nat) :=
  match toldS s (lenT.getD k (0, 0)) p with
  | .error e => .error e
  | .ok (n, p1) =>
    match symS s fl p1 with
    | .error e => .error e
    | .ok (d, p2) =>
      if 30 ≤ d then .error 4
      else match toldS s (distT.getD d (0, 0)) p2 with
        | .error e => .error e
        | .ok (b, p3) => if o.length < b then .error 3 else if most < o.length + n then .error 7 else .ok (copyL b n o, p3)
/-- What one symbol of a block comes to: an error, the block's end, more. -/
inductive Rd
  | err (e : Nat)
  | fin (o : List Nat) (p : Nat)
  | go (o : List Nat) (p : Nat)
def roundS (s : ByteArray) (most : Nat) (nl fl : List Int) (p : Nat) (o : List Nat) : Rd :=
  match symS s nl p with
  | .error e => .err e
  | .ok (n, p1) =>
    if n = 256 then .fin o p1
    else if 286 ≤ n then .err 4
    else if 256 < n then
      match repeatS s most fl (n - 257) p1 o with
      | .error e => .err e
      | .ok (o', p2) => .go o' p2
    else if most < o.length + 1 then .err 7
    else .go (o ++ [n]) p1
def codedS (s : ByteArray) (most : Nat) (nl fl : List Int) : Nat → Nat → List Nat → Except Nat (List Nat × Nat)
  | 0, _, _ => .error 4
  | k + 1, p, o =>
    match roundS s most nl fl p o with
    | .err e => .error e
    | .fin o' q => .ok (o', q)
    | .go o' q => codedS s most nl fl k q o'
def bytesAt (s : ByteArray) (q n : Nat) : List Nat := (List.range n).map fun i => byteAt s (q + i)
def storedS (s : ByteArray) (most p : Nat) (o : List Nat) : Except Nat (List Nat × Nat) :=
  match getS s (8 * ((p + 7) / 8)) 16 with
  | .error e => .error e
  | .ok (n, p1) =>
    match getS s p1 16 with
    | .error e => .error e
    | .ok (m, p2) =>
      if n + m ≠ 65535 then .error 4
      else if s.size < p2 / 8 + n then .error 5
      else if most < o.length + n then .error 7
      else .ok (o ++ bytesAt s (p2 / 8) n, p2 + 8 * n)
def orderL : List Nat := [16, 17, 18, 0, 8, 7, 9, 6, 10, 5, 11, 4, 12, 3, 13, 2, 14, 1, 15]
def headFrom (s : ByteArray) : Nat → Nat → Nat → List Int → Except Nat (List Int × Nat)
  | 0, _, p, l => .ok (l, p)
  | k + 1, i, p, l =>
    match getS s p 3 with
    | .error e => .error e
    | .ok (n, q) => headFrom s k (i + 1) q (l.set (orderL.getD i 0) (n : Int))
def headsS (s : ByteArray) (many p : Nat) : Except Nat (List Int × Nat) :=
  match headFrom s many 0 p (List.replicate 19 0) with
  | .error e => .error e
  | .ok (l, q) => if checkOf l ≠ 0 then .error 4 else .ok (l, q)
def spanOf (n : Nat) : Nat × Nat := if n = 16 then (3, 2) else if n = 17 then (3, 3) else if n = 18 then (11, 7) else (1, 0)
def whatOf (n : Nat) (row : List Nat) : Nat := if n = 16 then row.getD (row.length - 1) 0 else if n = 17 then 0 else if n = 18 then 0 else n
def rowS (s : ByteArray) (tl : List Int) (many : Nat) : Nat → Nat → List Nat → Except Nat (List Nat × Nat)
  | 0, _, _ => .error 4
  | k + 1, p, row =>
    if many ≤ row.length then .ok (row, p)
    else match symS s tl p with
      | .error e => .error e
      | .ok (n, p1) =>
        if n = 16 ∧ row.length = 0 then .error 4
        else match toldS s (spanOf n) p1 with
          | .error e => .error e
          | .ok (t, p2) => if many < row.length + t then .error 4 else rowS s tl many k p2 (row ++ List.replicate t (whatOf n row))
def sumL (l : List Nat) : Nat := l.foldl (fun a x => a + x) 0
def reachB (l : List Nat) : Bool := decide (sumL l < 2) || decide (checkOf (castL l) = 0)
def rowBad (row : List Nat) (near : Nat) : Bool := decide (checkOf (castL (row.take near)) ≠ 0) || decide (row.getD 256 0 = 0) || !reachB (row.drop near)
def ownS (s : ByteArray) (most p : Nat) (o : List Nat) : Except Nat (List Nat × Nat) :=
  match getS s p 5 with
  | .error e => .error e
  | .ok (a, p1) => match getS s p1 5 with
    | .error e => .error e
    | .ok (b, p2) => match getS s p2 4 with
      | .error e => .error e
      | .ok (c, p3) =>
        if 29 < a ∨ 29 < b then .error 4
        else match headsS s (c + 4) p3 with
          | .error e => .error e
          | .ok (tl, p4) => match rowS s tl (a + 257 + (b + 1)) (a + 257 + (b + 1) + 1) p4 [] with
            | .error e => .error e
            | .ok (row, p5) => if rowBad row (a + 257) then .error 4 else codedS s most (castL (row.take (a + 257))) (castL (row.drop (a + 257))) (8 * s.size + 1) p5 o
def kindS (s : ByteArray) (most kind p : Nat) (o : List Nat) : Except Nat (List Nat × Nat) :=
  if kind = 0 then storedS s most p o else if kind = 1 then codedS s most litL distL (8 * s.size + 1) p o else if kind = 2 then ownS s most p o else .error 4
def inflS (s : ByteArray) (most : Nat) : Nat → Nat → List Nat → Except Nat (List Nat × Nat)
  | 0, _, _ => .error 4
  | k + 1, p, o =>
    match getS s p 1 with
    | .error e => .error e
    | .ok (last, p1) => match getS s p1 2 with
      | .error e => .error e
      | .ok (kind, p2) => match kindS s most kind p2 o with
        | .error e => .error e
        | .ok (o', p3) => if last = 1 then .ok (o', (p3 + 7) / 8) else inflS s most k p3 o'
def inflateS (s : ByteArray) (most : Nat) : Except Nat (List Nat × Nat) := inflS s most (8 * s.size + 1) 0 []
end Go.Proofs.Ytmdlhbhdlhjakaa
