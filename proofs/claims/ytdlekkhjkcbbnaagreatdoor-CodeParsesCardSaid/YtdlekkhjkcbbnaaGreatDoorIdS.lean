/-
  What the layer ident and its reference compute, in plain Lean; their data as abstract values.
  What the layer words and its reference compute, in plain Lean; their data as abstract values.
-/
import Derived.Test.YtdlekkhjkcbbnaaGreatDoorAbW
import Derived.Lib.Join
import Derived.Lib.ItoaNum
set_option linter.unusedVariables false
set_option linter.unusedSimpArgs false
set_option linter.unusedSectionVars false
namespace Go.Id
open Go.Ab

abbrev iv (n : Int) : AV := .v (.int .i64 n)
abbrev uv (n : Int) : AV := .v (.int .u64 n)
abbrev bv (b : Bool) : AV := .v (.bool b)
abbrev sv (s : List UInt8) : AV := .v (.string ⟨s.toArray⟩)
def uints (l : List Int) : AV := .sl 1 (l.map uv)

theorem pureL_map {α : Type} {f : α → AV} (h : ∀ a, Pure (f a)) : ∀ l : List α, PureL (l.map f)
  | [] => trivial
  | a :: l => ⟨h a, pureL_map h l⟩
theorem pure_uints (l : List Int) : Pure (uints l) := pureL_map (f := uv) (fun _ => trivial) l
variable [GlobFacts]
@[go_sem] theorem allIL_uints (n : Nat) (l : List Int) : AllIL (· < n) (l.map uv) = True := eq_true (by have := (pure_uints l).allI (n := n); simpa only [uints, AllI] using this)
@[go_sem] theorem frzL_uints (i g e : Nat) (es : List AV) (l : List Int) : frzL i g e es (l.map uv) = l.map uv := frzL_pure _ _ _ _ (pure_uints l)

/-- an allocator -/
structure Allo where
  node : Int
  boot : Int
  serial : Int
  deriving DecidableEq
def Allo.vs (a : Allo) : List Value := [.int .i64 a.node, .int .i64 a.boot, .int .i64 a.serial]
def Allo.av (a : Allo) : AV := .agg [.v (.int .i64 a.node), .v (.int .i64 a.boot), .v (.int .i64 a.serial)]

def within (n b : Int) : Bool := decide (0 ≤ n) && decide (n ≤ 127) && decide (0 ≤ b) && decide (b ≤ 65535)
def idOf (n b s : Int) : Int := bitsOp BinOp.or IntKind.u64 (bitsOp BinOp.or IntKind.u64 (IntKind.u64.wrap (IntKind.u64.wrap n * 2 ^ min (Int.toNat 56) 64)) (IntKind.u64.wrap (IntKind.u64.wrap b * 2 ^ min (Int.toNat 40) 64))) (IntKind.u64.wrap s)
def makeS (n b s : Int) : Int × Int := if within n b = true ∧ 1 ≤ s ∧ s ≤ 1099511627775 then (idOf n b s, 0) else (0, 2)
def nodeOf (id : Int) : Int := IntKind.i64.wrap (id.fdiv (2 ^ min (Int.toNat 56) 64))
def bootOf (id : Int) : Int := IntKind.i64.wrap (bitsOp BinOp.and IntKind.u64 (id.fdiv (2 ^ min (Int.toNat 40) 64)) 65535)
def serOf (id : Int) : Int := IntKind.i64.wrap (bitsOp BinOp.and IntKind.u64 id 1099511627775)
def validS (id : Int) : Bool := decide ((makeS (nodeOf id) (bootOf id) (serOf id)).2 = 0) && decide ((makeS (nodeOf id) (bootOf id) (serOf id)).1 = id)
def zeroA : Allo := ⟨0, 0, 0⟩
def newS (n b : Int) : Allo × Int := if within n b = true then (⟨n, b, 0⟩, 0) else (zeroA, 2)
def idsS (a : Allo) (k : Nat) : List Int := (List.range k).map fun (i : Nat) => idOf a.node a.boot (a.serial + ((i : Int) + 1))
def nextS (a : Allo) (n : Int) : List Int × Allo × Int :=
  if within a.node a.boot = true ∧ 0 ≤ a.serial ∧ a.serial ≤ 1099511627775 then
    (if n < 0 ∨ 64 < n then ([], zeroA, 2) else if 1099511627775 < a.serial + n then ([], zeroA, 3) else (idsS a n.toNat, ⟨a.node, a.boot, a.serial + n⟩, 0))
  else ([], zeroA, 1)
theorem idsS_succ (a : Allo) (k : Nat) : idsS a (k + 1) = idsS a k ++ [idOf a.node a.boot (a.serial + (k + 1))] := by simp [idsS, List.range_succ]
theorem idsS_length (a : Allo) (k : Nat) : (idsS a k).length = k := by simp [idsS]
/-- the list of a digits' text -/
def formatS (id : Int) : List UInt8 := Lib.join [Lib.itoa (nodeOf id), Lib.itoa (bootOf id), Lib.itoa (serOf id)] [46]

abbrev w64 (n : Int) : Int := IntKind.i64.wrap n
theorem wrap_i64 {x : Int} (h1 : -9223372036854775808 ≤ x) (h2 : x ≤ 9223372036854775807) : IntKind.i64.wrap x = x := by
  simp [IntKind.wrap, IntKind.bits, IntKind.signed]
  split <;> omega
theorem inc (k : Nat) (h : k < 2^62) : IntKind.i64.wrap ((k : Int) + 1) = ((k + 1 : Nat) : Int) := by
  rw [wrap_i64 (by omega) (by omega)]; omega

theorem take_app1 {σ junk : Heap} {o : AObj} : List.take (σ.length + 1) (σ ++ (o :: junk)) = σ ++ [o] :=
  (congrArg (List.take _) (List.append_assoc σ [o] junk).symm).trans (List.take_left' (by simp))
theorem take_app2 {σ junk : Heap} {o o' : AObj} : List.take (σ.length + 2) (σ ++ (o :: o' :: junk)) = σ ++ [o, o'] :=
  (congrArg (List.take _) (List.append_assoc σ [o, o'] junk).symm).trans (List.take_left' (by simp))
theorem wfH_row1 {σ : Heap} {g e : Nat} {es : List AV} (hw : WfH σ.length σ) (hp : PureL es) : WfH (σ.length + 1) (σ ++ [.row g e es]) := wfH_app (l := [.row g e es]) hw fun o ho => by
  rw [List.mem_singleton] at ho; subst ho; exact AllIL.mono (fun _ h => h.elim) _ hp
theorem wfH_row2 {σ : Heap} {g e g' e' : Nat} {es es' : List AV} (hw : WfH σ.length σ) (hp : PureL es) (hp' : PureL es') : WfH (σ.length + 2) (σ ++ [.row g e es, .row g' e' es']) := wfH_app (l := [.row g e es, .row g' e' es']) hw fun o ho => by
  simp only [List.mem_cons, List.not_mem_nil, or_false] at ho
  rcases ho with rfl | rfl
  · exact AllIL.mono (fun _ h => h.elim) _ hp
  · exact AllIL.mono (fun _ h => h.elim) _ hp'
end Go.Id
set_option linter.unusedVariables false
set_option linter.unusedSimpArgs false
set_option linter.unusedSectionVars false
namespace Go.Wo
open Go.Ab Go.Id

abbrev sw (s : ByteArray) : AV := .v (.string s)
def strs (l : List ByteArray) : AV := .sl 1 (l.map sw)
theorem pure_strs (l : List ByteArray) : Pure (strs l) := pureL_map (f := sw) (fun _ => trivial) l

/-- the reference's lines: those that ended among the first i bytes, and where the next begins -/
def linesS (s : ByteArray) : Nat → List ByteArray × Nat
  | 0 => ([], 0)
  | i + 1 => if (s.data.toList[i]?.getD 0).toNat = 10 then ((linesS s i).1 ++ [s.extract (linesS s i).2 i], i + 1) else linesS s i
def rLines (s : ByteArray) : List ByteArray := if (linesS s s.size).2 < s.size then (linesS s s.size).1 ++ [s.extract (linesS s s.size).2 s.size] else (linesS s s.size).1
theorem linesS_le (s : ByteArray) (i : Nat) : (linesS s i).2 ≤ i ∧ (linesS s i).1.length ≤ i := by
  induction i with
  | zero => simp [linesS]
  | succ i ih =>
    unfold linesS
    split
    · simp only [List.length_append, List.length_singleton]; omega
    · omega

def keptS (l : List ByteArray) : Bool := decide (l.length ≤ 70) && l.all fun w => decide (w.size ≤ 200)

variable [GlobFacts]
@[go_sem] theorem allIL_strs (n : Nat) (l : List ByteArray) : AllIL (· < n) (l.map sw) = True := eq_true (by have := (pure_strs l).allI (n := n); simpa only [strs, AllI] using this)
@[go_sem] theorem frzL_strs (i g e : Nat) (es : List AV) (l : List ByteArray) : frzL i g e es (l.map sw) = l.map sw := frzL_pure _ _ _ _ (pure_strs l)
end Go.Wo
