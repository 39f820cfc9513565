/- Plain specifications of layer 2 (terms): names, nodes, checks, variables, substitution. -/
import Derived.Test.YthaocbfmdcmkkaaDoorTm
set_option linter.unusedVariables false
namespace Go.Proofs.YthaocbfmdcmkkaaDoor.K

def wideB (w : Int) : Bool := decide (1 ≤ w) && decide (w ≤ 64)
def maskI (w : Int) : Int := if wideB w then 2 ^ w.toNat - 1 else 0
def okB (w x : Int) : Bool := wideB w && decide (x ≤ maskI w)
def loadsB (w : Int) : Bool := w == 8 || w == 16 || w == 32 || w == 64
def letterB (c : UInt8) : Bool := (decide (97 ≤ c.toNat) && decide (c.toNat ≤ 122)) || (decide (65 ≤ c.toNat) && decide (c.toNat ≤ 90))
def otherB (c : UInt8) : Bool := c == 95 || (decide (48 ≤ c.toNat) && decide (c.toNat ≤ 57))
def nameL : List UInt8 → Bool
  | [] => false
  | c :: cs => letterB c && cs.all (fun d => letterB d || otherB d) && decide (cs.length < 24)
def nameB (s : ByteArray) : Bool := nameL s.data.toList
def varL : List UInt8 → Bool
  | 114 :: 46 :: cs => nameL cs
  | cs => nameL cs
def varB (s : ByteArray) : Bool := varL s.data.toList

/-- How the widths of parts depend on that of the term: the kind's number of parts and way. -/
def partsI (k : Int) : Int := if k = 3 ∨ k = 4 ∨ (21 ≤ k ∧ k ≤ 24) then 1 else if (5 ≤ k ∧ k ≤ 18) ∨ k = 20 then 2 else if k = 19 then 3 else 0
def howI (k : Int) : Int := if 3 ≤ k ∧ k ≤ 15 then 1 else if 16 ≤ k ∧ k ≤ 18 then 2 else if k = 19 then 3 else if k = 20 then 4 else if k = 21 then 5 else if k = 22 ∨ k = 23 then 6 else if k = 24 then 7 else 0

def wdH (h : Int) (t : Tm) : Bool :=
  let w := t.width
  match h, t.sub with
  | 1, xs => xs.all (fun y => y.width == w)
  | 2, [x, y] => w == 1 && y.width == x.width
  | 3, [x, y, z] => x.width == 1 && y.width == w && z.width == w
  | 4, [x, y] => wideB x.width && wideB y.width && x.width + y.width == w
  | 5, [x] => decide (0 ≤ t.low) && wideB x.width && decide (w ≤ x.width) && decide (t.low ≤ x.width - w)
  | 6, [x] => decide (x.width ≤ w)
  | _, _ => loadsB w
def wdB (t : Tm) : Bool := wdH (howI t.kind) t

/-- A node is well-formed, but for its parts. -/
def nodeB (t : Tm) : Bool :=
  wideB t.width &&
  (if partsI t.kind = 0 then
    t.sub.isEmpty && t.low == 0 && ((t.kind == 1 && t.name.toList.isEmpty && okB t.width t.bits) || (t.kind == 2 && t.bits == 0 && varB t.name))
  else t.bits == 0 && t.name.toList.isEmpty && (t.low == 0 || t.kind == 21) && ((t.sub.length : Int) == partsI t.kind) && wdB t)

def Tm.isVar (t : Tm) : Bool := t.kind == 2
def varsL (ns : List Tm) : List (ByteArray × Int) := (ns.filter Tm.isVar).map fun t => (t.name, t.width)
def Tm.vars (t : Tm) : List (ByteArray × Int) := varsL t.nodes
/-- A name occurs with two widths. -/
def clash (l : List (ByteArray × Int)) : Bool := l.any fun a => l.any fun b => decide (a.1 = b.1) && a.2 != b.2
def checkE (t : Tm) : Int :=
  if 400 < t.size ∨ 60 < t.depth then 4
  else if !(t.nodes.all nodeB) then 8
  else if clash t.vars then 14 else 0
def pureB (t : Tm) : Bool := checkE t == 0 && t.nodes.all (fun x => x.kind != 24)

mutual
def putT (n : ByteArray) (u : Tm) : Tm → Tm
  | ⟨k, w, b, m, l, sub⟩ => if k = 2 ∧ m = n then u else ⟨k, w, b, m, l, puts n u sub⟩
def puts (n : ByteArray) (u : Tm) : List Tm → List Tm
  | [] => []
  | t :: ts => putT n u t :: puts n u ts
end
def timesN (n : ByteArray) (l : List (ByteArray × Int)) : Nat := (l.filter fun v => decide (v.1 = n)).length
def noTm : Tm := ⟨0, 0, 0, ⟨#[]⟩, 0, []⟩
def substE (t : Tm) (n : ByteArray) (u : Tm) : Tm × Int :=
  if checkE t ≠ 0 then (noTm, checkE t)
  else if checkE u ≠ 0 then (noTm, checkE u)
  else if t.vars.any (fun v => decide (v.1 = n) && v.2 != u.width) then (noTm, 14)
  else if 400 < (t.size : Int) + timesN n t.vars * (u.size - 1) then (noTm, 4)
  else if checkE (putT n u t) ≠ 0 then (noTm, checkE (putT n u t))
  else (putT n u t, 0)
end Go.Proofs.YthaocbfmdcmkkaaDoor.K
