/-
  What the functions of the layer judge and of its reference compute, in plain Lean; their data as abstract values.
-/
import Derived.Test.YtkpdjbklnjjedaaAbS
set_option linter.unusedVariables false
set_option linter.unusedSimpArgs false
namespace Go.Ju
open Go.Ab

abbrev iv (n : Int) : AV := .v (.int .i64 n)
abbrev bv (b : Bool) : AV := .v (.bool b)

def ints (l : List Int) : AV := .sl 1 (l.map iv)

/-- an access -/
structure Acc where
  p : Int
  o : Int
  s : Int
  m : Int
  deriving DecidableEq

def Acc.av (a : Acc) : AV := .agg [.v (.int .u64 a.p), .v (.int .u64 a.o), .v (.int .i64 a.s), .v (.int .i64 a.m)]
def accs (l : List Acc) : AV := .sl 4 (l.map Acc.av)

theorem pureL_map {α : Type} {f : α → AV} (h : ∀ a, Pure (f a)) : ∀ l : List α, PureL (l.map f)
  | [] => trivial
  | a :: l => ⟨h a, pureL_map h l⟩
theorem pure_ints (l : List Int) : Pure (ints l) := pureL_map (f := iv) (fun _ => trivial) l
theorem pure_accs (l : List Acc) : Pure (accs l) := pureL_map (f := Acc.av) (fun _ => ⟨trivial, trivial, trivial, trivial, trivial⟩) l

@[go_sem] theorem allIL_accs (n : Nat) (l : List Acc) : AllIL (· < n) (l.map Acc.av) = True := eq_true (by have := (pure_accs l).allI (n := n); simpa only [accs, AllI] using this)
@[go_sem] theorem allIL_ints (n : Nat) (l : List Int) : AllIL (· < n) (l.map iv) = True := eq_true (by have := (pure_ints l).allI (n := n); simpa only [ints, AllI] using this)
@[go_sem] theorem frzL_accs (i g e : Nat) (es : List AV) (l : List Acc) : frzL i g e es (l.map Acc.av) = l.map Acc.av := frzL_pure _ _ _ _ (pure_accs l)
@[go_sem] theorem frzL_ints (i g e : Nat) (es : List AV) (l : List Int) : frzL i g e es (l.map iv) = l.map iv := frzL_pure _ _ _ _ (pure_ints l)

theorem wrap_i64 {x : Int} (h1 : -9223372036854775808 ≤ x) (h2 : x ≤ 9223372036854775807) : IntKind.i64.wrap x = x := by
  simp [IntKind.wrap, IntKind.bits, IntKind.signed]
  split <;> omega

abbrev w64 (n : Int) : Int := IntKind.i64.wrap n

/-- Go's remainder, made not negative -/
def modS (v n : Int) : Int := if v.tmod n < 0 then w64 (v.tmod n + n) else v.tmod n

def rLast (l : List Acc) (o : Int) : Int := l.foldl (fun most a => if a.o = o then (if a.m > most then a.m else most) else most) 1
def rMade (l : List Acc) (o v : Int) : Bool := l.any fun a => decide (a.o = o) && decide (a.m = v)
def rPlace (l : List Int) (n : Int) : Int := match l.idxOf? n with | some i => i | none => -1
def rBefore (a b : Acc) (i k : Int) : Bool :=
  if a.p = b.p ∧ i < k then true else if a.o ≠ b.o ∨ i = k then false else
    (!decide (a.m = 0) && decide (a.m = b.s)) || (!decide (b.m = 0) && decide (a.s = w64 (b.m - 1)) && !decide (a.m = b.m))

theorem rLast_snoc (l : List Acc) (a : Acc) (o : Int) : rLast (l ++ [a]) o = if a.o = o then (if a.m > rLast l o then a.m else rLast l o) else rLast l o := by
  simp [rLast]
theorem rMade_snoc (l : List Acc) (a : Acc) (o v : Int) : rMade (l ++ [a]) o v = (rMade l o v || (decide (a.o = o) && decide (a.m = v))) := by
  simp [rMade]
theorem take_snoc {α : Type} {l : List α} {k : Nat} (h : k < l.length) : l.take (k + 1) = l.take k ++ [l[k]] := by
  rw [List.take_add_one, List.getElem?_eq_getElem h]; rfl
theorem rPlace_some {l : List Int} {n : Int} {k : Nat} (h : k < l.length) (he : l[k] = n) (hn : n ∉ l.take k) : rPlace l n = k := by
  have : l.idxOf? n = some k := by
    rw [List.idxOf?, List.findIdx?_eq_some_iff_getElem]
    refine ⟨h, by simpa using he, fun j hj => ?_⟩
    have : l[j]'(by omega) ∈ l.take k := by rw [List.mem_take_iff_getElem]; exact ⟨j, by omega, rfl⟩
    simp; intro e; rw [e] at this; exact hn this
  simp [rPlace, this]
theorem rPlace_none {l : List Int} {n : Int} (h : n ∉ l) : rPlace l n = -1 := by
  have : l.idxOf? n = none := by simpa [List.idxOf?_eq_none_iff] using h
  simp [rPlace, this]

/-- whether the access i of a list may stand there -/
def rOk (l : List Acc) (i : Nat) : Bool :=
  match l[i]? with
  | none => true
  | some a => !(decide (a.p = 0) || decide (a.o = 0) || decide (a.s < 1) || (!decide (a.m = 0) && !decide (w64 (a.m - 1) = a.s)) || (decide (a.s > 1) && !rMade l a.o a.s)) && !(!decide (a.m = 0) && rMade (l.take i) a.o a.m)
def allTo (n : Nat) (p : Nat → Bool) : Bool := (List.range n).all p
theorem allTo_true {n : Nat} {p : Nat → Bool} : allTo n p = true ↔ ∀ i < n, p i = true := by simp [allTo]
theorem allTo_succ {n : Nat} {p : Nat → Bool} : allTo (n + 1) p = (allTo n p && p n) := by simp [allTo, List.range_succ]
theorem allTo_false {n k : Nat} {p : Nat → Bool} (hk : k < n) (h : p k = false) : allTo n p = false := by
  cases hh : allTo n p with
  | false => rfl
  | true => rw [allTo_true.1 hh k hk] at h; cases h
def rValid (l : List Acc) : Bool := decide (l.length ≤ 512) && allTo l.length (rOk l)
def rBef (l : List Acc) (i k : Nat) : Bool :=
  match l[i]?, l[k]? with
  | some a, some b => rBefore a b i k
  | _, _ => false
def rExplains (l : List Acc) (order : List Int) : Bool :=
  rValid l && decide (order.length = l.length) && allTo l.length fun i => !decide (rPlace order i < 0) && allTo l.length fun k => !(rBef l i k && decide (rPlace order i ≥ rPlace order k))
def rFree (l : List Acc) (order : List Int) (i : Nat) (n : Nat) : Bool := decide (rPlace order i < 0) && allTo n fun k => !rBef l k i || decide (rPlace order k ≥ 0)
def rNext (l : List Acc) (order : List Int) : Option Nat := (List.range l.length).find? fun i => rFree l order i l.length
def rNextI (l : List Acc) (order : List Int) : Int := match rNext l order with | some i => i | none => -1
def rGo (l : List Acc) : Nat → List Int → Option (List Int)
  | 0, order => some order
  | n + 1, order => match rNext l order with
    | some i => rGo l n (order ++ [(i : Int)])
    | none => none
/-- the explanation -/
def rOrder (l : List Acc) : Option (List Int) := if rValid l then rGo l l.length [] else none

theorem rBef_eq {l : List Acc} {i k : Nat} (hi : i < l.length) (hk : k < l.length) : rBef l i k = rBefore l[i] l[k] i k := by
  simp only [rBef, List.getElem?_eq_getElem hi, List.getElem?_eq_getElem hk]
theorem rFree_mono {l : List Acc} {order : List Int} {i k n : Nat} (h : rFree l order i k = false) (hk : k ≤ n) : rFree l order i n = false := by
  cases hh : rFree l order i n with
  | false => rfl
  | true =>
    simp only [rFree, Bool.and_eq_true, allTo_true] at hh
    have : rFree l order i k = true := by simp only [rFree, Bool.and_eq_true, allTo_true]; exact ⟨hh.1, fun j hj => hh.2 j (by omega)⟩
    rw [h] at this; cases this
theorem rNext_some {l : List Acc} {order : List Int} {i : Nat} (hi : i < l.length) (h : rFree l order i l.length = true) (hn : ∀ j < i, rFree l order j l.length = false) : rNextI l order = i := by
  have : rNext l order = some i := List.find?_range_eq_some.2 ⟨h, by simpa using hi, fun j hj => by simp [hn j hj]⟩
  simp only [rNextI, this]
theorem rNext_none {l : List Acc} {order : List Int} (hn : ∀ j < l.length, rFree l order j l.length = false) : rNextI l order = -1 := by
  have : rNext l order = none := List.find?_eq_none.2 fun j hj => by simp [hn j (by simpa using hj)]
  simp only [rNextI, this]
theorem rMade_lt {l : List Acc} {i : Nat} {a : Acc} (h : l[i]? = some a) : rMade l a.o a.m = true := List.any_eq_true.2 ⟨a, List.mem_of_getElem? h, by simp⟩

/-! ### made records -/

def deck (L : List Int) (at_ : Nat) : AV := .agg [ints L, iv at_]
def dNum (L : List Int) (k : Nat) (n : Int) : Int := match L[k]? with | some v => modS v n | none => 0
def dAt (L : List Int) (k : Nat) : Nat := if k < L.length then k + 1 else k
theorem dAt_le {L : List Int} {k : Nat} (h : k ≤ L.length) : dAt L k ≤ L.length := by unfold dAt; split <;> omega

def u64 (n : Int) : Int := IntKind.u64.wrap n
def madeAcc (L : List Int) (out : List Acc) (k : Nat) : Acc :=
  let o := u64 (w64 (1 + dNum L (dAt L k) 3))
  let s := rLast out o
  ⟨u64 (w64 (1 + dNum L k 3)), o, s, if dNum L (dAt L (dAt L k)) 2 = 0 then w64 (s + 1) else 0⟩
def madeGo (L : List Int) : Nat → List Acc → Nat → List Acc
  | 0, out, _ => out
  | n + 1, out, k => madeGo L n (out ++ [madeAcc L out k]) (dAt L (dAt L (dAt L k)))
/-- the record that is made of numbers -/
def madeS (L : List Int) : List Acc := madeGo L (dNum L 0 16).toNat [] (dAt L 0)

theorem modS_bound {v n : Int} (h : 0 < n) (hn : n < 2^62) : 0 ≤ modS v n ∧ modS v n < n := by
  have h1 := Int.tmod_lt_of_pos v h
  have h2 := Int.lt_tmod_of_pos v h
  unfold modS
  split
  · rw [w64, wrap_i64 (by omega) (by omega)]; omega
  · omega
theorem dNum_bound {L : List Int} {k : Nat} {n : Int} (h : 0 < n) (hn : n < 2^62) : 0 ≤ dNum L k n ∧ dNum L k n < n := by
  unfold dNum
  split
  · exact modS_bound h hn
  · omega

/-! ### sets -/

abbrev uv (n : Int) : AV := .v (.int .u64 n)
def setV (ws : List Int) : AV := .agg (ws.map uv)
def hasW (w : Int) (x : Nat) : Bool := decide (bitsOp .and .u64 (w.fdiv (2 ^ min (x % 64) 64)) 1 = 1)
def addW (w : Int) (x : Nat) : Int := bitsOp .or .u64 w (IntKind.u64.wrap (1 * 2 ^ min (x % 64) 64))
def hasS (ws : List Int) (x : Nat) : Bool := hasW (ws.getD (x / 64) 0) x
def addS (ws : List Int) (x : Nat) : List Int := ws.set (x / 64) (addW (ws.getD (x / 64) 0) x)
def insideS (ws vs : List Int) : Bool := allTo 8 fun k => decide (bitsOp .andNot .u64 (ws.getD k 0) (vs.getD k 0) = 0)
theorem addS_length (ws : List Int) (x : Nat) : (addS ws x).length = ws.length := by simp [addS]
theorem pure_setV (ws : List Int) : Pure (setV ws) := pureL_map (f := uv) (fun _ => trivial) ws
theorem tdiv64 {x : Nat} (h : x < 512) : IntKind.i64.wrap ((x : Int).tdiv 64) = ((x / 64 : Nat) : Int) := by
  have : (x : Int).tdiv 64 = ((x / 64 : Nat) : Int) := rfl
  rw [this, wrap_i64 (by omega) (by omega)]
theorem tmod64 (x : Nat) : (x : Int).tmod 64 = ((x % 64 : Nat) : Int) := rfl

/-! ### who made a version -/

abbrev ver (a b : Int) : Go.Value := .agg #[.int .u64 a, .int .i64 b]
/-- the access that made a version -/
def jfind (l : List Acc) (o n : Int) : Option Nat := if n = 0 then none else l.findIdx? (fun a => decide (a.o = o) && decide (a.m = n))
theorem jfind_nil (o n : Int) : jfind [] o n = none := by simp [jfind]
theorem jfind_snoc (l : List Acc) (a : Acc) (o n : Int) : jfind (l ++ [a]) o n = match jfind l o n with | some i => some i | none => if n ≠ 0 ∧ a.o = o ∧ a.m = n then some l.length else none := by
  unfold jfind
  by_cases h : n = 0
  · simp [h]
  · simp only [h, if_false, List.findIdx?_append]
    cases hf : l.findIdx? (fun a => decide (a.o = o) && decide (a.m = n)) with
    | some i => simp
    | none => by_cases h' : a.o = o ∧ a.m = n <;> simp [List.findIdx?_cons, h, h']
theorem jfind_isSome {l : List Acc} {o n : Int} (h : n ≠ 0) : (jfind l o n).isSome = rMade l o n := by
  simp only [jfind, h, if_false, rMade, List.findIdx?_isSome]
def MapOf (es : List (Go.Value × AV)) (l : List Acc) : Prop := (∀ a b, mfind (ver a b) es = (jfind l a b).map fun i => iv i) ∧ ∀ p ∈ es, (∃ a b, p.1 = ver a b) ∧ Pure p.2
def jUniq (l : List Acc) (i : Nat) : Bool := match l[i]? with | some a => decide (a.m = 0) || !rMade (l.take i) a.o a.m | none => true

theorem mapOf_nil : MapOf [] [] := ⟨fun a b => by simp [mfind, jfind], fun p hp => by cases hp⟩
theorem mapOf_skip {es : List (Go.Value × AV)} {l : List Acc} {a : Acc} (h : MapOf es l) (hm : a.m = 0) : MapOf es (l ++ [a]) := by
  refine ⟨fun x y => ?_, h.2⟩
  rw [h.1, jfind_snoc]
  cases jfind l x y with
  | some i => rfl
  | none => rw [if_neg (by rintro ⟨h1, _, h2⟩; rw [hm] at h2; exact h1 h2.symm)]
theorem mapOf_set {es : List (Go.Value × AV)} {l : List Acc} {a : Acc} (h : MapOf es l) (hm : a.m ≠ 0) (hn : rMade l a.o a.m = false) : MapOf (mset (ver a.o a.m) (iv l.length) es) (l ++ [a]) := by
  refine ⟨fun x y => ?_, mset_keys (V := fun p => (∃ a b, p.1 = ver a b) ∧ Pure p.2) (k := ver a.o a.m) (v := iv l.length) ⟨⟨_, _, rfl⟩, trivial⟩ (fun b hb => ⟨⟨_, _, hb⟩, trivial⟩) h.2⟩
  rw [mfind_mset, h.1, jfind_snoc]
  by_cases he : a.o = x ∧ a.m = y
  · obtain ⟨rfl, rfl⟩ := he
    have : jfind l a.o a.m = none := by
      have := jfind_isSome (l := l) (o := a.o) hm
      rw [hn] at this; simpa using this
    rw [if_pos rfl, this]; simp [hm]
  · rw [if_neg (by intro e; simp [ver] at e; exact he e)]
    cases jfind l x y with
    | some i => rfl
    | none => rw [if_neg (fun h => he h.2)]

def jOk (l : List Acc) (i : Nat) : Bool :=
  match l[i]? with
  | none => true
  | some a => !(decide (a.p = 0) || decide (a.o = 0) || decide (a.s < 1) || (!decide (a.m = 0) && !decide (a.m = w64 (a.s + 1))) || (decide (1 < a.s) && !(jfind l a.o a.s).isSome))
def jValid (l : List Acc) : Bool := decide (l.length ≤ 512) && (allTo l.length (jUniq l) && allTo l.length (jOk l))

/-! ### who comes directly before -/

/-- the last access of a process among the first k -/
def jlast (l : List Acc) : Nat → Int → Option Nat
  | 0, _ => none
  | k + 1, p => match l[k]? with
    | some a => if a.p = p then some k else jlast l k p
    | none => jlast l k p
theorem jlast_lt {l : List Acc} {p : Int} : ∀ {k j : Nat}, jlast l k p = some j → j < k
  | 0, _, h => by simp [jlast] at h
  | k + 1, j, h => by
    unfold jlast at h
    split at h
    · split at h
      · cases h; omega
      · have := jlast_lt h; omega
    · have := jlast_lt h; omega
def LastOf (es : List (Go.Value × AV)) (l : List Acc) (k : Nat) : Prop := (∀ p, mfind (.int .u64 p) es = (jlast l k p).map fun i => iv i) ∧ ∀ q ∈ es, (∃ a, q.1 = .int .u64 a) ∧ Pure q.2
theorem lastOf_nil (l : List Acc) : LastOf [] l 0 := ⟨fun p => by simp [mfind, jlast], fun p hp => by cases hp⟩
theorem lastOf_set {es : List (Go.Value × AV)} {l : List Acc} {k : Nat} (h : LastOf es l k) (hk : k < l.length) : LastOf (mset (.int .u64 l[k].p) (iv k) es) l (k + 1) := by
  refine ⟨fun x => ?_, mset_keys (V := fun p => (∃ a, p.1 = .int .u64 a) ∧ Pure p.2) (k := .int .u64 l[k].p) (v := iv k) ⟨⟨_, rfl⟩, trivial⟩ (fun b hb => ⟨⟨_, hb⟩, trivial⟩) h.2⟩
  rw [mfind_mset, h.1]
  simp only [jlast, List.getElem?_eq_getElem hk]
  by_cases e : l[k].p = x
  · rw [if_pos (by rw [e]), if_pos e]; rfl
  · rw [if_neg (by intro e'; cases e'; exact e rfl), if_neg e]
theorem jfind_lt {l : List Acc} {o n : Int} {j : Nat} (h : jfind l o n = some j) : j < l.length := by
  unfold jfind at h
  split at h
  · cases h
  · exact (List.findIdx?_eq_some_iff_getElem.1 h).1

def jAdd (out : List (List Int)) (i x : Nat) : List (List Int) := out.set i (addS (out.getD i []) x)
def optAdd (out : List (List Int)) (i : Nat) : Option Nat → List (List Int)
  | some x => jAdd out i x
  | none => out
def jRound (l : List Acc) (k : Nat) (out : List (List Int)) : List (List Int) :=
  match l[k]? with
  | none => out
  | some a =>
    let out2 := optAdd (optAdd out k (jlast l k a.p)) k (jfind l a.o a.s)
    match jfind l a.o (w64 (a.s + 1)) with
    | some j => if j = k then out2 else jAdd out2 j k
    | none => out2
abbrev zset : List Int := [0, 0, 0, 0, 0, 0, 0, 0]
def jBef (l : List Acc) : Nat → List (List Int)
  | 0 => List.replicate l.length zset
  | k + 1 => jRound l k (jBef l k)
def Sets (n : Nat) (out : List (List Int)) : Prop := out.length = n ∧ ∀ i < n, ∃ ws, out[i]? = some ws ∧ ws.length = 8
theorem sets_add {n i x : Nat} {out : List (List Int)} (h : Sets n out) (hi : i < n) : Sets n (jAdd out i x) := by
  refine ⟨by rw [jAdd, List.length_set, h.1], fun j hj => ?_⟩
  obtain ⟨ws, h1, h2⟩ := h.2 j hj
  obtain ⟨vs, h3, h4⟩ := h.2 i hi
  unfold jAdd
  rw [List.getElem?_set]
  split
  · rw [if_pos (by rw [h.1]; omega)]; exact ⟨_, rfl, by rw [addS_length, List.getD_eq_getElem?_getD, h3]; exact h4⟩
  · exact ⟨ws, h1, h2⟩
theorem sets_opt {n i : Nat} {o : Option Nat} {out : List (List Int)} (h : Sets n out) (hi : i < n) : Sets n (optAdd out i o) := by
  cases o with
  | none => exact h
  | some x => exact sets_add h hi
theorem sets_bef (l : List Acc) : ∀ k, Sets l.length (jBef l k)
  | 0 => ⟨by simp [jBef], fun i hi => ⟨zset, by simp [jBef, hi], rfl⟩⟩
  | k + 1 => by
    have ih := sets_bef l k
    unfold jBef jRound
    split
    · exact ih
    · rename_i a ha
      have hk : k < l.length := (List.getElem?_eq_some_iff.1 ha).1
      have h2 := sets_opt (o := jfind l a.o a.s) (sets_opt (o := jlast l k a.p) ih hk) hk
      simp only
      split
      · rename_i j hj
        split
        · exact h2
        · exact sets_add h2 (jfind_lt hj)
      · exact h2

def jFree (sets : List (List Int)) (d : List Int) (i : Nat) : Bool := !hasS d i && insideS (sets.getD i []) d
def jGoE (sets : List (List Int)) (n : Nat) : List Int → List Int → Bool
  | [], _ => true
  | i :: r, d => if i < 0 ∨ (n : Int) ≤ i then false else if jFree sets d i.toNat then jGoE sets n r (addS d i.toNat) else false
def jExplains (l : List Acc) (order : List Int) : Bool := jValid l && decide (order.length = l.length) && jGoE (jBef l l.length) l.length order zset
def jNext (sets : List (List Int)) (n : Nat) (d : List Int) : Option Nat := (List.range n).find? fun i => jFree sets d i
def jGoO (sets : List (List Int)) (n : Nat) : Nat → List Int → List Int → Option (List Int)
  | 0, out, _ => some out
  | m + 1, out, d => match jNext sets n d with
    | some i => jGoO sets n m (out ++ [(i : Int)]) (addS d i)
    | none => none
def jOrder (l : List Acc) : Option (List Int) := if jValid l then jGoO (jBef l l.length) l.length l.length [] zset else none
theorem jValid_uniq {l : List Acc} (h : jValid l = true) : l.length ≤ 512 ∧ allTo l.length (jUniq l) = true := by
  simp only [jValid, Bool.and_eq_true, decide_eq_true_eq] at h; exact ⟨h.1, h.2.1⟩
theorem allIL_1 {V : Nat → Prop} {a : AV} (h : Pure a) : AllIL V [a] := ⟨AllI.mono (fun _ h => h.elim) a h, trivial⟩

end Go.Ju
