/-
  What the layer code and its reference compute, in plain Lean; their data as abstract values.
-/
import Derived.Test.YtdlekkhjkcbbnaaGreatDoorCoGl
import Derived.Test.YtdlekkhjkcbbnaaGreatDoorWoT
import Derived.Test.YtdlekkhjkcbbnaaGreatDoorCoV
set_option linter.unusedVariables false
set_option linter.unusedSimpArgs false
set_option linter.unusedSectionVars false
namespace Go.Proofs.YtdlekkhjkcbbnaaGreatDoor
open Go.Ab Go.Id Go.Wo Go

/-- an instruction -/
structure Ins where
  op : Int
  a : Int
  b : Int
  c : Int
  deriving DecidableEq
def Ins.av (x : Ins) : AV := .agg [iv x.op, iv x.a, iv x.b, iv x.c]
def codeAV (l : List Ins) : AV := .sl 4 (l.map Ins.av)
/-- a program -/
structure Prg where
  code : List Ins
  strs : List Bytes
  pages : Int
  deriving DecidableEq
def Prg.av (p : Prg) : AV := .agg [codeAV p.code, strsB p.strs, iv p.pages]
def zeroI : Ins := ⟨0, 0, 0, 0⟩
def zeroP : Prg := ⟨[], [], 0⟩

def nameS (op : Nat) : Bytes := (formsB[op]?.getD ([], [])).1
def letsS (op : Nat) : Bytes := (formsB[op]?.getD ([], [])).2

def fitsS (l : Nat) (n len : Int) : Bool :=
  if l = 114 then decide (0 ≤ n) && decide (n < 8) else if l = 110 then decide (-9007199254740992 ≤ n) && decide (n ≤ 9007199254740992) else if l = 116 then decide (0 ≤ n) && decide (n ≤ len)
  else if l = 111 then decide (0 ≤ n) && decide (n ≤ 256) else decide (1 ≤ n) && decide (n ≤ 24)
def opsOK (len : Int) : Bytes → List Int → Bool
  | [], ns => ns.all fun n => decide (n = 0)
  | _ :: _, [] => true
  | l :: ls, n :: ns => fitsS l.toNat n len && opsOK len ls ns
def Ins.nums (x : Ins) : List Int := [x.a, x.b, x.c]
def rightS (x : Ins) (len : Int) : Bool := decide (0 ≤ x.op) && decide (x.op < 13) && opsOK len (letsS x.op.toNat) x.nums
/-- the first from i on that is not right -/
def badS (len : Int) : Nat → List Ins → Option Nat
  | _, [] => none
  | i, x :: l => if rightS x len = true then badS len (i + 1) l else some i
def checkS (p : Prg) : Int × Int :=
  if 256 < p.code.length ∨ 32 < p.strs.length ∨ (p.strs.any fun s => decide (128 < s.length)) = true then (0, 3) else if p.pages < 0 ∨ 16 < p.pages then (0, 2) else
  match badS p.code.length 0 p.code with
  | some i => (i, 1)
  | none => (0, 0)

def opT (l : UInt8) (n : Int) : Bytes := if l.toNat = 114 then 114 :: Lib.itoa n else Lib.itoa n
def opsT : Bytes → List Int → List Bytes
  | l :: ls, n :: ns => opT l n :: opsT ls ns
  | _, _ => []
def lineS (x : Ins) : Bytes := nameS x.op.toNat ++ ((opsT (letsS x.op.toNat) x.nums).flatMap fun w => 32 :: w) ++ [10]
def strS (s : Bytes) : Bytes := (joinS [[115, 116, 114, 105, 110, 103], s]).1 ++ [10]
def headS (n : Int) : Bytes := [112, 97, 103, 101, 115, 32] ++ Lib.itoa n ++ [10]
def textS (p : Prg) : Bytes := headS p.pages ++ p.strs.flatMap strS ++ p.code.flatMap lineS
def formatP (p : Prg) : Bytes × Int := if (checkS p).2 = 0 then (textS p, 0) else ([], (checkS p).2)

def numO (w : Bytes) : Option Int := if (numS w).2 = 0 then some (numS w).1 else none
def operandO (l : Nat) (w : Bytes) : Option Int := if l ≠ 114 then numO w else if w.length = 2 ∧ w[0]? = some 114 then numO (w.drop 1) else none
def operandsO : Bytes → List Bytes → Option (List Int)
  | l :: ls, w :: ws => match operandO l.toNat w, operandsO ls ws with
    | some n, some ns => some (n :: ns)
    | _, _ => none
  | _, _ => some []
def opIx (w : Bytes) : Option Nat := formsB.findIdx? fun f => decide (f.1 = w)
def insOf (op : Nat) (ns : List Int) : Ins := ⟨op, ns[0]?.getD 0, ns[1]?.getD 0, ns[2]?.getD 0⟩
def instrO (l : List Bytes) : Option Ins :=
  match l with
  | [] => none
  | w :: ws => match opIx w with
    | none => none
    | some op => if ws.length = (letsS op).length then (operandsO (letsS op) ws).map (insOf op) else none
/-- the state of a reader: the program so far, and whether its pages were told -/
def takeO (s : Prg × Bool) (l : List Bytes) : Option (Prg × Bool) :=
  match l with
  | [] => none
  | w :: ws =>
    if w = [112, 97, 103, 101, 115] then (if ws.length = 1 ∧ s.2 = false ∧ s.1.strs = [] ∧ s.1.code = [] then (numO (ws[0]?.getD [])).map fun n => (⟨s.1.code, s.1.strs, n⟩, true) else none)
    else if w = [115, 116, 114, 105, 110, 103] then (if ws.length = 1 ∧ s.1.code = [] then some (⟨s.1.code, s.1.strs ++ [ws[0]?.getD []], s.1.pages⟩, s.2) else none)
    else (instrO l).map fun x => (⟨s.1.code ++ [x], s.1.strs, s.1.pages⟩, s.2)
/-- lines from number i on: what is read, or the line and the error -/
def readL : Nat → List Bytes → Prg × Bool → (Prg × Bool) ⊕ (Int × Int)
  | _, [], s => .inl s
  | i, x :: l, s => if x = [] ∨ x[0]? = some 35 then readL (i + 1) l s else
    if (splitS x).2 ≠ 0 then .inr ((i : Int) + 1, (splitS x).2) else match takeO s (splitS x).1 with
    | none => .inr ((i : Int) + 1, 5)
    | some s' => readL (i + 1) l s'
def parseS (t : Bytes) : Prg × Int × Int :=
  if 65536 < t.length then (zeroP, 0, 3) else match readL 0 (linesL t) (zeroP, false) with
  | .inr (i, e) => (zeroP, i, e)
  | .inl s => if (checkS s.1).2 = 0 then (s.1, 0, 0) else (zeroP, 0, (checkS s.1).2)

theorem insAV (a b c d : Int) : Ins.av ⟨a, b, c, d⟩ = .agg [iv a, iv b, iv c, iv d] := rfl

variable [GlobFacts]
theorem pure_ins (x : Ins) : Pure x.av := ⟨trivial, trivial, trivial, trivial, trivial⟩
theorem pure_codeL (l : List Ins) : PureL (l.map Ins.av) := pureL_map (f := Ins.av) pure_ins l
theorem pure_strL (l : List Bytes) : PureL (l.map sv) := pureL_map (f := sv) (fun _ => trivial) l
@[go_sem] theorem allIL_codeL (n : Nat) (l : List Ins) : AllIL (· < n) (l.map Ins.av) = True := eq_true (AllIL.mono (fun _ h => h.elim) _ (pure_codeL l))
@[go_sem] theorem frzL_codeL (i g e : Nat) (es : List AV) (l : List Ins) : frzL i g e es (l.map Ins.av) = l.map Ins.av := frzL_pure _ _ _ _ (pure_codeL l)
end Go.Proofs.YtdlekkhjkcbbnaaGreatDoor
