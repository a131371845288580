/-
  Operations that leave memory alone: each of them, and that it is so.
-/
import Derived.Test.YtdlekkhjkcbbnaaGreatDoorAbE
import Derived.Laws.Small
import Derived.Laws.Pointers
import Derived.Laws.BytesString
import Derived.Laws.StructEq
set_option linter.unusedVariables false
set_option linter.unusedSimpArgs false
set_option linter.unusedSectionVars false
namespace Go.Ab
open Go
variable [GlobFacts]

/-- the length of a slice -/
def alen (σ : Heap) : AV → Option AV
  | .sl _ es => some (.v (.int .i64 es.length))
  | .v (.slice none 0 0) => some (.v (.int .i64 0))
  | .v (.string s) => some (.v (.int .i64 s.size))
  | .os i g _ n => if alive σ i g then some (.v (.int .i64 n)) else none
  | .mp i g => match σ[i]? with
    | some (.map g' es) => if g = g' then some (.v (.int .i64 es.length)) else none
    | _ => none
  | .v (.map none) => some (.v (.int .i64 0))
  | _ => none

/-- the generation and the cells of an element of a row -/
def rowE (σ : Heap) (i : Nat) : Option (Nat × Nat) :=
  match σ[i]? with
  | some (.row g e _) => some (g, e)
  | _ => none

theorem rowE_some {σ : Heap} {i g e : Nat} (h : rowE σ i = some (g, e)) : ∃ es, σ[i]? = some (.row g e es) := by
  unfold rowE at h
  split at h
  · rename_i g' e' es ho; cases h; exact ⟨es, ho⟩
  · cases h

def aindexAddr (P : Program) (σ : Heap) (t : TypeId) (x ix : AV) : Option (Prop × AV) :=
  match ix with
  | .v (.int _ i) =>
    match tinf P t with
    | some ti => match ti.kind with
      | .sl e => match tinf P e with
        | some te => match x with
          | .sl e' es => if e' = te.size then some (0 ≤ i ∧ i < es.length, .rp (es[i.toNat]?.getD .any)) else none
          | .os j g k n => match rowE σ j with
            | some (g', e') => if g = g' ∧ e' = te.size then some (0 ≤ i ∧ i < n, .ptr j g (k + i.toNat) 0) else none
            | _ => none
          | _ => none
        | none => none
      | .arr n e => match tinf P e with
        | some te => match x with
          | .ptr j g k off => if alive σ j g then some (0 ≤ i ∧ i < n, .ptr j g k (off + i.toNat * te.size)) else none
          | .rp a => match asub te a (i.toNat * te.size) with
            | some (s, r) => some (0 ≤ i ∧ i < n ∧ s, .rp r)
            | none => none
          | _ => none
        | none => none
      | _ => none
    | none => none
  | _ => none

def afieldAddr (P : Program) (σ : Heap) (t : TypeId) (x : AV) (f : Nat) : Option (Prop × AV) :=
  match tinf P t with
  | some ti => match ti.kind with
    | .st fs => match fs[f]? with
      | some (o, ft) => match tinf P ft with
        | some tf => if tf.size = 0 then none else match x with
          | .ptr i g k off => if alive σ i g then some (True, .ptr i g k (off + o)) else none
          | .rp a => match asub tf a o with
            | some (s, r) => some (s, .rp r)
            | none => none
          | _ => none
        | none => none
      | none => none
    | _ => none
  | none => none

def afield (P : Program) (t : TypeId) (x : AV) (f : Nat) : Option (Prop × AV) :=
  match tinf P t with
  | some ti => match ti.kind with
    | .st fs => match fs[f]? with
      | some (o, ft) => match tinf P ft with
        | some tf => match x with
          | .agg cs => asub tf (.agg cs) o
          | _ => none
        | none => none
      | none => none
    | _ => none
  | none => none

def aindex (P : Program) (t : TypeId) (x ix : AV) : Option (Prop × AV) :=
  match ix with
  | .v (.int _ i) =>
    match tinf P t with
    | some ti => match ti.kind with
      | .str => match x with
        | .v (.string s) => some (0 ≤ i ∧ i < s.size, .v (.int .u8 (s.data.toList[i.toNat]?.getD 0).toNat))
        | _ => none
      | .arr n e => match tinf P e with
        | some te => match x with
          | .agg cs => match asub te (.agg cs) (i.toNat * te.size) with
            | some (s, r) => some (0 ≤ i ∧ i < n ∧ s, r)
            | none => none
          | _ => none
        | none => none
      | _ => none
    | none => none
  | _ => none

/-- a bound of a slice expression: the one that stands there, or a default -/
def abound (d : Int) : Option AV → Option Int
  | none => some d
  | some (.v (.int _ i)) => some i
  | _ => none

/-- the elements of an array, of e cells each -/
def chunks (e : Nat) : Nat → List AV → List AV
  | 0, _ => []
  | n + 1, cs => .agg (cs.take e) :: chunks e n (cs.drop e)

def aslice (P : Program) (σ : Heap) (t : TypeId) (x : AV) (lo hi mx : Option AV) : Option (Prop × AV) :=
  match mx with
  | some _ => none
  | none =>
  match tinf P t with
  | some ti => match ti.kind, x with
    | .str, .v (.string s) => match abound 0 lo, abound s.size hi with
      | some l, some h => some (0 ≤ l ∧ l ≤ h ∧ h ≤ s.size, .v (.string (s.extract l.toNat h.toNat)))
      | _, _ => none
    | .sl e, .sl e' es => match tinf P e with
      | some te => if e' = te.size then match abound 0 lo, abound es.length hi with
        | some l, some h => some (0 ≤ l ∧ l ≤ h ∧ h ≤ es.length, .sl e' ((es.take h.toNat).drop l.toNat))
        | _, _ => none
        else none
      | none => none
    | .sl e, .os j g k n => match tinf P e, rowE σ j with
      | some te, some (g', e') => if g = g' ∧ e' = te.size then match abound 0 lo, abound n hi with
        | some l, some h => some (0 ≤ l ∧ l ≤ h ∧ h ≤ n, .os j g (k + l.toNat) (h - l).toNat)
        | _, _ => none
        else none
      | _, _ => none
    | .arr n e, .rp (.agg cs) => match lo, hi, tinf P e with
      | none, none, some te => if te.agg = true then some (cs.length = n * te.size, .sl te.size (chunks te.size n cs)) else none
      | _, _, _ => none
    | _, _ => none
  | none => none

def aunary (op : UnOp) (x : AV) : Option (Prop × AV) :=
  match op, x with
  | .not, .v (.bool b) => some (True, .v (.bool !b))
  | .neg, .v (.int k n) => some (True, .v (.int k (k.wrap (0 - n))))
  | _, _ => none

/-- a byte -/
def byteV (b : UInt8) : AV := .v (.int .u8 b.toNat)

/-- the bytes of a row of bytes -/
def bytesOf : List AV → Option (List UInt8)
  | [] => some []
  | .v (.int .u8 n) :: r => match bytesOf r with
    | some l => if 0 ≤ n ∧ n < 256 then some (UInt8.ofNat n.toNat :: l) else none
    | none => none
  | _ :: _ => none

theorem bytesOf_map : ∀ l : List UInt8, bytesOf (l.map byteV) = some l
  | [] => rfl
  | b :: l => by
    have hb : (b.toNat : Int) < 256 := by have := b.toNat_lt; omega
    simp only [List.map_cons, byteV, bytesOf]
    rw [bytesOf_map l]
    simp only
    rw [if_pos ⟨by omega, hb⟩]
    simp

/-- what bytes are, as a string -/
def strOf (l : List UInt8) : ByteArray := ⟨l.toArray⟩

def aconvert (P : Program) (σ : Heap) (src dst : TypeId) (x : AV) : Option (Prop × AV) :=
  match tinf P src, tinf P dst with
  | some ts, some td => match td.kind, x with
    | .int k, .v (.int _ n) => some (True, .v (.int k (k.wrap n)))
    | .str, .v (.string s) => some (True, .v (.string s))
    | .str, x => match ts.kind with
      | .sl e => match tinf P e with
        | some te => if te.kind = .int .u8 then match x with
          | .v (.slice none 0 0) => some (True, .v (.string (strOf [])))
          | .sl 1 es => match bytesOf es with
            | some l => some (True, .v (.string (strOf l)))
            | none => none
          | .os j g k n => match σ[j]? with
            | some (.row g' 1 es) => if g = g' then match bytesOf ((es.drop k).take n) with
              | some l => some (k + n ≤ es.length, .v (.string (strOf l)))
              | none => none
              else none
            | _ => none
          | _ => none
          else none
        | none => none
      | _ => none
    | _, _ => none
  | _, _ => none

def abuiltin (P : Program) (σ : Heap) (b : Builtin) (ts : List TypeId) (xs : List AV) : Option (Prop × AV) :=
  match b, ts, xs with
  | .len, [t], [x] => match tinf P t with
    | some ti => match ti.kind, x with
      | .str, .v (.string s) => some (True, .v (.int .i64 s.size))
      | .sl _, .sl _ es => some (True, .v (.int .i64 es.length))
      | .sl _, .v (.slice none 0 0) => some (True, .v (.int .i64 0))
      | .sl _, .os i g _ n => if alive σ i g then some (True, .v (.int .i64 n)) else none
      | .arr n _, _ => some (True, .v (.int .i64 n))
      | .map _ _, .mp i g => match σ[i]? with
        | some (.map g' es) => if g = g' then some (True, .v (.int .i64 es.length)) else none
        | _ => none
      | _, _ => none
    | none => none
  | .max, _, [.v (.int k a), .v (.int k' b)] => if k = k' then some (True, .v (.int k (if b > a then b else a))) else none
  | .min, _, [.v (.int k a), .v (.int k' b)] => if k = k' then some (True, .v (.int k (if b < a then b else a))) else none
  | _, _, _ => none

/-- the fields of a struct of numbers, from the i-th on -/
def fieldsInt (P : Program) : Nat → List Field → Bool
  | _, [] => true
  | i, f :: fs => (f.name != "_") && decide (f.offset = i) && (match P.underlying f.type with | some (.int _) => true | _ => false) && fieldsInt P (i + 1) fs
/-- of a struct of numbers alone: how many there are -/
def eqN (P : Program) (t : TypeId) : Option Nat :=
  match P.underlying t with
  | some (.struct fs) => if (fieldsInt P 0 fs.toList && !P.stoodInHeld t && !P.eqGuardType P.depth t) = true then some fs.size else none
  | _ => none
def aints : List AV → Option (List Int)
  | [] => some []
  | .v (.int .i64 n) :: r => match aints r with
    | some l => some (n :: l)
    | none => none
  | _ :: _ => none

theorem aints_rep {w : World} {L : LM} : ∀ {cs : List AV} {is : List Int} {xs : List Value}, aints cs = some is → RepL w L cs xs → xs = is.map (.int .i64)
  | [], is, xs, h, H => by simp only [aints] at h; cases h; exact H
  | a :: r, is, xs, h, H => by
    unfold aints at h
    split at h
    · rename_i he; cases he
    · rename_i n r' he
      split at h
      · rename_i l hl
        cases h
        cases he
        obtain ⟨y, ys, rfl, hy, hs⟩ := H
        simp only [Rep] at hy
        rw [hy, aints_rep hl hs]; rfl
      · cases h
    · cases h

theorem run_eqFields_int {P : Program} (w : World) : ∀ (fs : List Field) (is js pre qre : List Int), fieldsInt P pre.length fs = true → pre.length = qre.length → is.length = fs.length → js.length = fs.length →
    (Op.eqFields 9999 ((pre ++ is).map (Value.int .i64)).toArray ((qre ++ js).map (Value.int .i64)).toArray fs).run P w = .ok (decide (is = js)) w
  | [], is, js, pre, qre, hf, hp, hi, hj => by
    rw [List.eq_nil_of_length_eq_zero hi, List.eq_nil_of_length_eq_zero hj]; simp [Op.eqFields]
  | f :: fs, [], js, pre, qre, hf, hp, hi, hj => by simp at hi
  | f :: fs, i :: is, [], pre, qre, hf, hp, hi, hj => by simp at hj
  | f :: fs, i :: is, j :: js, pre, qre, hf, hp, hi, hj => by
    simp only [fieldsInt, Bool.and_eq_true, bne_iff_ne, ne_eq, decide_eq_true_eq] at hf
    obtain ⟨⟨⟨h1, h2⟩, h3⟩, h4⟩ := hf
    split at h3
    · rename_i k hu
      have hpart : ∀ (l : List Int) (x : Int), l[f.offset]? = some x → (part f.type (l.map (Value.int .i64)).toArray f.offset).run P w = .ok (.int .i64 x) w := fun l x hx => by
        simp [part, isAgg, run_underlying hu, hx]
      have e1 := hpart (pre ++ i :: is) i (by rw [h2, List.getElem?_append_right (Nat.le_refl _)]; simp)
      have e2 := hpart (qre ++ j :: js) j (by rw [h2, hp, List.getElem?_append_right (Nat.le_refl _)]; simp)
      have e3 : (Op.equalIn 9999 f.type (.int .i64 i) (.int .i64 j)).run P w = .ok (i == j) w := run_equalIn_int w 9998 f.type .i64 k i j hu
      simp only [Op.eqFields, if_pos h1, ne_eq, Sem.run_bind, e1, e2, e3, Result.andThen_ok]
      by_cases hij : i = j
      · subst hij
        have ih := run_eqFields_int w fs is js (pre ++ [i]) (qre ++ [i]) (by simpa using h4) (by simp [hp]) (by simpa using hi) (by simpa using hj)
        simp only [List.append_assoc, List.singleton_append] at ih
        simp only [beq_self_eq_true, Bool.not_true, Bool.false_eq_true, if_false]
        rw [ih]
        simp
      · simp [hij]
    · cases h3

theorem run_eqN {P : Program} {t : TypeId} {n : Nat} (h : eqN P t = some n) (w : World) {is js : List Int} (hi : is.length = n) (hj : js.length = n) :
    P.eqGuardType P.depth t = false ∧ (Op.equalIn 10000 t (.agg (is.map (Value.int .i64)).toArray) (.agg (js.map (Value.int .i64)).toArray)).run P w = .ok (decide (is = js)) w := by
  unfold eqN at h
  split at h
  · rename_i fs hu
    split at h
    · rename_i hc
      cases h
      simp only [Bool.and_eq_true, Bool.not_eq_true'] at hc
      have hfs : P.fieldsOf t = fs := by unfold Program.fieldsOf; rw [hu]
      refine ⟨hc.2, ?_⟩
      rw [run_equalIn_struct w 9999 t _ _ (by rw [hfs]; exact hu) hc.1.2, hfs]
      exact run_eqFields_int w fs.toList is js [] [] hc.1.1 rfl (by simpa using hi) (by simpa using hj)
    · cases h
  · cases h

/-- comparisons that look at the type -/
def abinT (P : Program) (op : BinOp) (t : TypeId) (x y : AV) : Option (Prop × AV) :=
  match abin op x y with
  | some r => some r
  | none => match tinf P t with
    | some ti => match ti.kind, op, x, y with
      | .bool, .eql, .v (.bool a), .v (.bool b) => some (True, .v (.bool (decide (a = b))))
      | .bool, .neq, .v (.bool a), .v (.bool b) => some (True, .v (.bool (!decide (a = b))))
      | .ptr _, .eql, .v (.pointer none), .v (.pointer none) => some (True, .v (.bool true))
      | .ptr _, .neq, .v (.pointer none), .v (.pointer none) => some (True, .v (.bool false))
      | .ptr _, .eql, .rp _, .v (.pointer none) => some (True, .v (.bool false))
      | .ptr _, .neq, .rp _, .v (.pointer none) => some (True, .v (.bool true))
      | .st _, .eql, .agg cs, .agg ds => match eqN P t, aints cs, aints ds with
        | some n, some is, some js => some (is.length = n ∧ js.length = n, .v (.bool (decide (is = js))))
        | _, _, _ => none
      | .st _, .neq, .agg cs, .agg ds => match eqN P t, aints cs, aints ds with
        | some n, some is, some js => some (is.length = n ∧ js.length = n, .v (.bool (!decide (is = js))))
        | _, _, _ => none
      | _, _, _, _ => none
    | none => none

theorem abinT_sound {P : Program} {t : TypeId} {op : BinOp} {x y r : AV} {s : Prop} {w : World} {L : LM} {u v : Value} (h : abinT P op t x y = some (s, r)) (hs : s) (hx : Rep w L x u) (hy : Rep w L y v) :
    ∃ z, (binOp op t u v).run P w = .ok z w ∧ Rep w L r z ∧ (((∀ m, u ≠ .agg m) ∧ u ≠ .nilIface) ∨ (P.eqGuardType P.depth t = false ∧ ∃ xs ys, u = .agg xs ∧ v = .agg ys)) := by
  unfold abinT at h
  split at h
  · rename_i r' hr'
    cases h
    obtain ⟨z, z1, z2, z3⟩ := abin_sound (P := P) (t := t) hr' hs hx hy
    exact ⟨z, z1, z2, .inl z3⟩
  · split at h
    · rename_i ti ht
      obtain ⟨d, hd, hk, hu⟩ := tinf_underlying ht w
      have hb : ti.kind = .bool → P.underlying t = some .bool := fun h => by
        rw [hk] at h
        cases d <;> simp [TK.of] at h
        exact hd
      have hp : ∀ e, ti.kind = .ptr e → P.underlying t = some (.pointer (P.pointee t)) := fun e h => by
        rw [hk] at h
        cases d <;> simp [TK.of] at h
        unfold Program.pointee
        rw [hd]
      have bd : ∀ a b : Bool, (a == b) = decide (a = b) := by decide
      split at h
      · rename_i a b hk' _
        cases h; simp only [Rep] at hx hy; subst hx; subst hy
        exact ⟨_, run_eql_bool w t a b (hb hk'), by rw [bd]; rfl, .inl ⟨by simp, by simp⟩⟩
      · rename_i a b hk' _
        cases h; simp only [Rep] at hx hy; subst hx; subst hy
        exact ⟨_, run_neq_bool w t a b (hb hk'), by rw [bd]; rfl, .inl ⟨by simp, by simp⟩⟩
      · rename_i e hk' _
        cases h; simp only [Rep] at hx hy; subst hx; subst hy
        exact ⟨_, run_eql_pointer_nil w t none (hp e hk'), rfl, .inl ⟨by simp, by simp⟩⟩
      · rename_i e hk' _
        cases h; simp only [Rep] at hx hy; subst hx; subst hy
        exact ⟨_, run_neq_pointer_nil w t none (hp e hk'), rfl, .inl ⟨by simp, by simp⟩⟩
      · rename_i e a hk' _
        cases h; simp only [Rep] at hx hy; subst hy
        obtain ⟨b, off, hx, _⟩ := hx; subst hx
        exact ⟨_, run_eql_pointer_nil w t _ (hp e hk'), rfl, .inl ⟨by simp, by simp⟩⟩
      · rename_i e a hk' _
        cases h; simp only [Rep] at hx hy; subst hy
        obtain ⟨b, off, hx, _⟩ := hx; subst hx
        exact ⟨_, run_neq_pointer_nil w t _ (hp e hk'), rfl, .inl ⟨by simp, by simp⟩⟩
      · rename_i fs cs ds hk' _
        split at h
        · rename_i n is js hn hi hj
          cases h
          simp only [Rep] at hx hy
          obtain ⟨xs, rfl, h1, _⟩ := hx
          obtain ⟨ys, rfl, h2, _⟩ := hy
          obtain rfl := aints_rep hi h1
          obtain rfl := aints_rep hj h2
          obtain ⟨e1, e2⟩ := run_eqN hn w hs.1 hs.2
          exact ⟨_, by rw [run_eql_struct, e2]; rfl, rfl, .inr ⟨e1, _, _, rfl, rfl⟩⟩
        · cases h
      · rename_i fs cs ds hk' _
        split at h
        · rename_i n is js hn hi hj
          cases h
          simp only [Rep] at hx hy
          obtain ⟨xs, rfl, h1, _⟩ := hx
          obtain ⟨ys, rfl, h2, _⟩ := hy
          obtain rfl := aints_rep hi h1
          obtain rfl := aints_rep hj h2
          obtain ⟨e1, e2⟩ := run_eqN hn w hs.1 hs.2
          exact ⟨_, by rw [run_neq_struct, e2]; rfl, rfl, .inr ⟨e1, _, _, rfl, rfl⟩⟩
        · cases h
      · cases h
    · cases h

def apure (P : Program) (σ : Heap) (op : Op) (ev : Operand → AV) : Option (Prop × AV) :=
  match op with
  | .move x => some (True, ev x)
  | .assign x => some (True, ev x)
  | .load t x => match tinf P t with
    | some ti => aload σ ti (ev x)
    | none => none
  | .nilCheck x => match ev x with
    | .ptr i g k off => if alive σ i g then some (True, .ptr i g k off) else none
    | .rp a => some (True, .rp a)
    | _ => none
  | .binOp op t x y _ => abinT P op t (ev x) (ev y)
  | .unOp op _ x => aunary op (ev x)
  | .convert s d x => aconvert P σ s d (ev x)
  | .makeFunc f first cap => some (True, .fn f (first.toList.map ev) (cap.toList.map ev))
  | .field t x f => afield P t (ev x) f
  | .fieldAddr t x f => afieldAddr P σ t (ev x) f
  | .indexAddr t x ix => aindexAddr P σ t (ev x) (ev ix)
  | .index t x ix => aindex P t (ev x) (ev ix)
  | .slice t x lo hi mx => aslice P σ t (ev x) (lo.map ev) (hi.map ev) (mx.map ev)
  | .extract x k => match ev x with
    | .tup vs => match vs[k]? with
      | some r => some (True, r)
      | none => none
    | _ => none
  | .call c => match c.callee with
    | .builtin b => abuiltin P σ b c.argTypes.toList (c.args.toList.map ev)
    | _ => none
  | _ => none

section
variable {P : Program} {σ : Heap} {w : World} {ρ : Locs}

/-- What an operation that leaves memory alone is shown to do. -/
def Does (P : Program) (w : World) (L : LM) (s : Sem Value) (r : AV) : Prop := ∃ z, s.run P w = .ok z w ∧ Rep w L r z

theorem alive_row (hh : HeapOK w σ ρ) {i g : Nat} (h : alive σ i g = true) : lm σ ρ i g = .nilv ∨ ∃ b e sz, lm σ ρ i g = .here b e sz := by
  unfold alive at h
  cases ho : σ[i]? with
  | none => simp [ho] at h
  | some o =>
    rw [ho] at h
    have hlt := (List.getElem?_eq_some_iff.1 ho).1
    have hr : ρ[i]? = some (ρ[i]'(by rw [hh.len]; exact hlt)) := List.getElem?_eq_getElem _
    have hob := hh.obj i o _ ho hr
    cases o with
    | dead g' => simp at h
    | hole => simp at h
    | row g' e es =>
      simp at h; subst h
      cases hc : ρ[i]'(by rw [hh.len]; exact hlt) with
      | none => left; rw [hc] at hr; simp [lm, ho, hr, loOf, AObj.gen]
      | some p => right; rw [hc] at hr; exact ⟨p.1, e, p.2, by simp [lm, ho, hr, loOf, AObj.gen]⟩
    | map g' es =>
      simp at h; subst h
      cases hc : ρ[i]'(by rw [hh.len]; exact hlt) with
      | none => rw [hc] at hob; exact hob.elim
      | some p => right; rw [hc] at hr; exact ⟨p.1, 0, p.2, by simp [lm, ho, hr, loOf, AObj.gen]⟩
    | tro g' t e es => simp at h
    | it g' s n => simp at h

/-- A live pointer is one to where its object lies. -/
theorem rep_ptr_alive (hh : HeapOK w σ ρ) {i g k off : Nat} (h : alive σ i g = true) {x : Value} (hx : Rep w (lm σ ρ) (.ptr i g k off) x) : ∃ b e sz, lm σ ρ i g = .here b e sz ∧ x = .pointer (some ⟨b, k * e + off, none⟩) := by
  simp only [Rep] at hx
  rcases alive_row hh h with h1 | ⟨b, e, sz, h1⟩
  · rw [h1] at hx; exact hx.elim
  · rw [h1] at hx; exact ⟨b, e, sz, h1, hx⟩

theorem does_load (hh : HeapOK w σ ρ) {t : TypeId} {ti : TI} (ht : tinf P t = some ti) {p r : AV} {s : Prop} (h : aload σ ti p = some (s, r)) (hs : s) {x : Value} (hx : Rep w (lm σ ρ) p x) :
    Does P w (lm σ ρ) (Instr.loadAt t x) r := by
  unfold aload at h
  cases ha : aref σ p with
  | none => simp [ha] at h
  | some q =>
    obtain ⟨s1, a, off⟩ := q
    simp only [ha] at h
    cases hb : asub ti a off with
    | none => simp [hb] at h
    | some q =>
      obtain ⟨s2, r2⟩ := q
      simp only [hb] at h
      cases h
      unfold aref at ha
      split at ha
      · rename_i a'
        cases ha
        simp only [Rep] at hx
        obtain ⟨b, off, rfl, hb1, hb2, y, hy, hc⟩ := hx
        obtain ⟨z, hz, hr⟩ := asub_sound hb hs.2 hy
        refine ⟨z, ?_, hr⟩
        have := run_loadSub ht hz hc
        simp [Instr.loadAt, Instr.sureAddr]
        simpa using this
      · rename_i i g k off'
        split at ha
        · rename_i g' e es ho
          split at ha
          · rename_i hg
            subst hg
            cases ha
            rcases hh.row ho with ⟨_, he, _⟩ | ⟨b, sz, xs, ys, t', fr, hl, _, hblk, hlen, _, hrep⟩
            · subst he; exact absurd hs.1 (by simp)
            · obtain ⟨hxl, hget⟩ := repE_get hrep
              obtain ⟨y, hy, hye, pre, post, hxs, hpre, _⟩ := hget k _ (List.getElem?_eq_getElem hs.1)
              rw [List.getElem?_eq_getElem hs.1] at hb
              obtain ⟨z, hz, hr⟩ := asub_sound hb hs.2 hy
              refine ⟨z, ?_, hr⟩
              simp only [Rep, hl, ptrAt] at hx
              subst hx
              have hc : Cells w b (k * e) y.cells.toList := by
                intro j hj
                simp only [World.cell?, hblk]
                simp only [Option.isSome_none, Bool.false_eq_true, if_false, List.getElem?_toArray]
                rw [hxs, ← hpre, List.append_assoc, List.append_assoc, List.getElem?_append_right (by omega), List.getElem?_append_left (by simpa using hj)]
                simp
              have := run_loadSub ht hz hc
              simp [Instr.loadAt, Instr.sureAddr, this]
          · cases ha
        · cases ha
      · cases ha

end

end Go.Ab
