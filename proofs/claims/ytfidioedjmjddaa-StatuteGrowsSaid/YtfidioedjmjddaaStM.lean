/-
  The plain model of chapter 8: rules, questions, findings; what is so; which lists prove an answer.
-/
import Derived.WalkKit
namespace Go.Proofs.Ytfidioedjmjddaa

structure Cl where
  pub : Int
  f : Int
  t : Int
  needs : List Int
  bars : List Int
  gives : Int
structure Rp where
  cl : Int
  pub : Int
  frm : Int
structure Fa where
  thing : Int
  says : Int
  f : Int
  t : Int
  kf : Int
  kt : Int
structure Rb where
  cls : List Cl
  rps : List Rp
  fas : List Fa
structure Qn where
  thing : Int
  says : Int
  at_ : Int
  known : Int
structure Fd where
  says : Int
  holds : Bool
  fact : Int
  cl : Int
deriving DecidableEq

instance : Inhabited Cl := ⟨⟨0, 0, 0, [], [], 0⟩⟩
instance : Inhabited Rp := ⟨⟨0, 0, 0⟩⟩
instance : Inhabited Fa := ⟨⟨0, 0, 0, 0, 0, 0⟩⟩
instance : Inhabited Fd := ⟨⟨0, false, 0, 0⟩⟩

def isInB (n low high : Int) : Bool := decide (low ≤ n) && decide (n ≤ high)
def secB (n : Int) : Bool := isInB n 0 10000000
def spellB (f t : Int) : Bool := secB f && isInB t (f + 1) 10000001
def hasB (f t s : Int) : Bool := isInB s f (t - 1)

/-- Strictly ascending from behind 'last' on, below 'below'. -/
def ascGo (below : Int) : Int → List Int → Bool
  | _, [] => true
  | last, n :: l => isInB n (last + 1) (below - 1) && ascGo below n l
def ascB (l : List Int) (below : Int) : Bool := decide (l.length ≤ 4) && ascGo below (-1) l

def clB (x : Cl) : Bool := secB x.pub && spellB x.f x.t && isInB x.gives 0 19 && ascB x.needs x.gives && ascB x.bars x.gives
def rpB (n : Nat) (x : Rp) : Bool := isInB x.cl 0 (n - 1) && secB x.pub && secB x.frm
def faB (x : Fa) : Bool := isInB x.thing 0 99999999 && isInB x.says 0 19 && spellB x.f x.t && spellB x.kf x.kt
def validB (c : Rb) : Bool := decide (c.cls.length ≤ 20) && decide (c.rps.length ≤ 10) && decide (c.fas.length ≤ 20) && c.cls.all clB && c.rps.all (rpB c.cls.length) && c.fas.all faB
def asksB (q : Qn) : Bool := isInB q.thing 0 99999999 && isInB q.says 0 19 && secB q.at_ && secB q.known

def statesB (x : Fa) (q : Qn) : Bool := decide (x.thing = q.thing) && hasB x.f x.t q.at_ && hasB x.kf x.kt q.known
def repB (i : Int) (q : Qn) (r : Rp) : Bool := decide (r.cl = i) && decide (r.pub ≤ q.known) && decide (r.frm ≤ q.at_)
def rulesB (c : Rb) (q : Qn) (i : Nat) : Bool :=
  let x := c.cls.getD i default
  decide (x.pub ≤ q.known) && hasB x.f x.t q.at_ && !c.rps.any (repB i q)

/-- The numbers below n that meet p. -/
def pickN (p : Nat → Bool) (n : Nat) : List Int := ((List.range n).filter p).map fun (i : Nat) => (i : Int)
def factsOf (c : Rb) (q : Qn) : List Int := pickN (fun i => statesB (c.fas.getD i default) q) c.fas.length
def clausesOf (c : Rb) (q : Qn) : List Int := pickN (rulesB c q) c.cls.length

def Rb.fa (c : Rb) (i : Int) : Fa := c.fas.getD i.toNat default
def Rb.cl (c : Rb) (i : Int) : Cl := c.cls.getD i.toNat default

/-- Does a clause give n, all its needs so, and none of its bars? -/
def givesB (c : Rb) (so : Int → Bool) (n : Int) (i : Int) : Bool := decide ((c.cl i).gives = n) && (c.cl i).needs.all so && !(c.cl i).bars.any so
def findW (c : Rb) (fs cs : List Int) (so : Int → Bool) (n : Int) : Fd :=
  match fs.find? (fun i => decide ((c.fa i).says = n)) with
  | some i => ⟨n, true, i, -1⟩
  | none => match cs.find? (givesB c so n) with
    | some i => ⟨n, true, -1, i⟩
    | none => ⟨n, false, -1, -1⟩

/-- The findings about 0, .. , k - 1. -/
def fdTo (c : Rb) (fs cs : List Int) : Nat → List Fd
  | 0 => []
  | k + 1 => fdTo c fs cs k ++ [findW c fs cs (fun i => ((fdTo c fs cs k).getD i.toNat default).holds) k]
def fdOf (c : Rb) (fs cs : List Int) (n : Int) : Fd := (fdTo c fs cs (n.toNat + 1)).getD n.toNat default
def soB (c : Rb) (fs cs : List Int) (n : Int) : Bool := (fdOf c fs cs n).holds

def findsB (l : List Fd) (n : Int) (h : Bool) : Bool := l.any fun y => decide (y.says = n) && y.holds == h
def barredB (c : Rb) (l : List Fd) (i : Int) : Bool := (c.cl i).needs.any (fun n => findsB l n false) || (c.cl i).bars.any (fun n => findsB l n true)
def rightB (c : Rb) (fs cs : List Int) (x : Fd) (l : List Fd) : Bool :=
  if x.holds && decide (x.cl = -1) then fs.contains x.fact && decide ((c.fa x.fact).says = x.says)
  else if x.holds then
    decide (x.fact = -1) && cs.contains x.cl && decide ((c.cl x.cl).gives = x.says) && (c.cl x.cl).needs.all (fun n => findsB l n true) && (c.cl x.cl).bars.all (fun n => findsB l n false)
  else decide (x.fact = -1) && decide (x.cl = -1) && !fs.any (fun i => decide ((c.fa i).says = x.says)) && !cs.any (fun i => decide ((c.cl i).gives = x.says) && !barredB c l i)

/-- Are the findings of the list ascending from behind 'last' on, and right in l? -/
def provesGo (c : Rb) (fs cs : List Int) (l : List Fd) : Int → List Fd → Bool
  | _, [] => true
  | last, x :: r => isInB x.says (last + 1) 19 && rightB c fs cs x l && provesGo c fs cs l x.says r
def lastOf (l : List Fd) : Int := (l.getLast?.map (·.says)).getD (-1)
def provesB (c : Rb) (fs cs : List Int) (n : Int) (h : Bool) (l : List Fd) : Bool :=
  provesGo c fs cs l (-1) l && decide (l ≠ []) && decide (lastOf l = n) && ((l.getLast?.map (·.holds)).getD false == h)

/-- Decide's last loop: what can be left out is left out, from the k-th finding down. -/
def prune (c : Rb) (fs cs : List Int) (n : Int) (h : Bool) : Nat → List Fd → List Fd
  | 0, l => l
  | k + 1, l => prune c fs cs n h k (if provesB c fs cs n h (l.eraseIdx k) then l.eraseIdx k else l)

def decideL (c : Rb) (q : Qn) : List Fd :=
  let fs := factsOf c q
  let cs := clausesOf c q
  prune c fs cs q.says (soB c fs cs q.says) q.says.toNat (fdTo c fs cs (q.says.toNat + 1))
def decideA (c : Rb) (q : Qn) : Bool := soB c (factsOf c q) (clausesOf c q) q.says
def okB (c : Rb) (q : Qn) : Bool := validB c && asksB q
def checkB (c : Rb) (q : Qn) (h : Bool) (l : List Fd) : Bool := okB c q && provesB c (factsOf c q) (clausesOf c q) q.says h l

/-- A number into an ascending list. -/
def insI : List Int → Int → List Int
  | [], x => [x]
  | y :: l, x => if x < y then x :: y :: l else if x = y then y :: l else y :: insI l x
def useF (l : List Fd) : List Int := l.foldl (fun a x => if 0 ≤ x.fact then insI a x.fact else a) []
def useC (c : Rb) (cs : List Int) (l : List Fd) : List Int := l.foldl (fun a x => if 0 ≤ x.fact then a else if 0 ≤ x.cl then insI a x.cl else cs.foldl (fun a i => if (c.cl i).gives = x.says then insI a i else a) a) []
def usesB (c : Rb) (q : Qn) (l : List Fd) : Bool := checkB c q true l || checkB c q false l

end Go.Proofs.Ytfidioedjmjddaa
