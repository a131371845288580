/-
  Operations that leave memory alone: what they yield (apure).
-/
import Derived.Test.YtdlekkhjkcbbnaaGreatDoorAbD
import Derived.Laws.Strings
set_option linter.unusedVariables false
set_option linter.unusedSimpArgs false
set_option linter.unusedSectionVars false
namespace Go.Ab
open Go
variable [GlobFacts]

/-- A part of a variable: the condition, and what it holds. -/
def asub (ti : TI) (a : AV) (off : Nat) : Option (Prop × AV) :=
  match ti.agg, a with
  | true, .agg cs => some (off + ti.size ≤ cs.length, .agg ((cs.drop off).take ti.size))
  | false, .agg cs => some (off < cs.length, cs[off]?.getD .any)
  | false, .v x => if vagg x then none else some (off = 0, .v x)
  | false, .sl e es => some (off = 0, .sl e es)
  | false, .rp a => some (off = 0, .rp a)
  | false, .ptr i g k o => some (off = 0, .ptr i g k o)
  | false, .os i g k n => some (off = 0, .os i g k n)
  | false, .mp i g => some (off = 0, .mp i g)
  | false, .fn f x y => some (off = 0, .fn f x y)
  | false, .ifc t a => some (off = 0, .ifc t a)
  | _, _ => none

theorem repL_drop {w : World} {L : LM} : ∀ {l : List AV} {xs : List Value} (n : Nat), RepL w L l xs → RepL w L (l.drop n) (xs.drop n)
  | _, _, 0, H => by simpa using H
  | [], xs, n + 1, H => by simp only [RepL] at H; subst H; simp [RepL]
  | a :: l, xs, n + 1, H => by obtain ⟨y, ys, rfl, _, hs⟩ := H; simpa using repL_drop n hs
theorem repL_take {w : World} {L : LM} : ∀ {l : List AV} {xs : List Value} (n : Nat), RepL w L l xs → RepL w L (l.take n) (xs.take n)
  | _, _, 0, H => by simp [RepL]
  | [], xs, n + 1, H => by simp only [RepL] at H; subst H; simp [RepL]
  | a :: l, xs, n + 1, H => by obtain ⟨y, ys, rfl, hr, hs⟩ := H; exact ⟨y, ys.take n, by simp, hr, repL_take n hs⟩

theorem cellV_cells {z : Value} (h : cellV z = true) : z.cells = #[z] := by cases z <;> first | rfl | cases h

/-- the part of a variable that is read -/
structure IsSub (ti : TI) (y : Value) (off : Nat) (z : Value) : Prop where
  len : off + ti.size ≤ y.cells.size ∨ ti.agg = false
  agg : ti.agg = true → z = .agg ((y.cells.toList.drop off).take ti.size).toArray
  one : ti.agg = false → y.cells[off]? = some z ∧ z.cells = #[z]

theorem asub_sound {w : World} {L : LM} {ti : TI} {a r : AV} {off : Nat} {s : Prop} {y : Value} (h : asub ti a off = some (s, r)) (hs : s) (ha : Rep w L a y) : ∃ z, IsSub ti y off z ∧ Rep w L r z := by
  unfold asub at h
  split at h
  · rename_i cs hag
    cases h
    obtain ⟨xs, rfl, hr, hq⟩ := ha
    obtain ⟨hl, hg⟩ := repL_get hr
    exact ⟨_, ⟨.inl (by simp only [cells_agg, List.size_toArray]; omega), fun _ => rfl, fun h => (by rw [hag] at h; cases h)⟩, ⟨_, by simp [cells_agg], repL_take _ (repL_drop _ hr),
      fun y hy => hq y (List.mem_of_mem_drop (List.mem_of_mem_take hy))⟩⟩
  · rename_i cs hag
    cases h
    obtain ⟨xs, rfl, hr, hq⟩ := ha
    obtain ⟨hl, hg⟩ := repL_get hr
    obtain ⟨x, hx, hrx⟩ := hg off _ (List.getElem?_eq_getElem hs)
    exact ⟨x, ⟨.inr hag, fun h => (by rw [hag] at h; cases h), fun _ => ⟨by simpa [cells_agg] using hx, cellV_cells (hq x (List.mem_of_getElem? hx))⟩⟩, by rw [List.getElem?_eq_getElem hs]; exact hrx⟩
  · rename_i x hag
    split at h
    · cases h
    · rename_i hv
      cases h; cases hs
      simp only [Rep] at ha; subst ha
      exact ⟨y, ⟨.inr hag, fun h => (by rw [hag] at h; cases h), fun _ => by rw [cells_of_not_agg (by simpa using hv)]; exact ⟨rfl, rfl⟩⟩, rfl⟩
  · rename_i e es hag
    cases h; cases hs
    have h0 := ha
    simp only [Rep] at ha
    refine ⟨y, ⟨.inr hag, fun h => (by rw [hag] at h; cases h), fun _ => ?_⟩, h0⟩
    rcases ha with ⟨_, rfl⟩ | ⟨b, off, cap, rfl, _⟩ <;> exact ⟨rfl, rfl⟩
  · rename_i a' hag
    cases h; cases hs
    have h0 := ha
    simp only [Rep] at ha
    refine ⟨y, ⟨.inr hag, fun h => (by rw [hag] at h; cases h), fun _ => ?_⟩, h0⟩
    obtain ⟨b, off, rfl, _⟩ := ha; exact ⟨rfl, rfl⟩
  · rename_i i g k o hag
    cases h; cases hs
    have h0 := ha
    simp only [Rep] at ha
    refine ⟨y, ⟨.inr hag, fun h => (by rw [hag] at h; cases h), fun _ => ?_⟩, h0⟩
    obtain ⟨r, rfl⟩ := ha.stale; exact ⟨rfl, rfl⟩
  · rename_i i g k n hag
    cases h; cases hs
    have h0 := ha
    simp only [Rep] at ha
    refine ⟨y, ⟨.inr hag, fun h => (by rw [hag] at h; cases h), fun _ => ?_⟩, h0⟩
    obtain ⟨r, m, c, rfl⟩ := ha.stale; exact ⟨rfl, rfl⟩
  · rename_i i g hag
    cases h; cases hs
    have h0 := ha
    simp only [Rep] at ha
    refine ⟨y, ⟨.inr hag, fun h => (by rw [hag] at h; cases h), fun _ => ?_⟩, h0⟩
    obtain ⟨r, rfl⟩ := ha.stale; exact ⟨rfl, rfl⟩
  · rename_i f x z hag
    cases h; cases hs
    have h0 := ha
    simp only [Rep] at ha
    refine ⟨y, ⟨.inr hag, fun h => (by rw [hag] at h; cases h), fun _ => ?_⟩, h0⟩
    obtain ⟨xs, ys, rfl, _⟩ := ha; exact ⟨rfl, rfl⟩
  · rename_i t a hag
    cases h; cases hs
    have h0 := ha
    simp only [Rep] at ha
    refine ⟨y, ⟨.inr hag, fun h => (by rw [hag] at h; cases h), fun _ => ?_⟩, h0⟩
    obtain ⟨z, rfl, _⟩ := ha; exact ⟨rfl, rfl⟩
  · cases h

/-- A variable's part is loaded. -/
theorem run_loadSub {P : Program} {t : TypeId} {ti : TI} (ht : tinf P t = some ti) {w : World} {b base off : Nat} {y z : Value} (hz : IsSub ti y off z) (hc : Cells w b base y.cells.toList) :
    (loadVar t ⟨b, base + off, none⟩).run P w = .ok z w := by
  unfold loadVar
  simp only [Sem.run_bind, tinf_agg ht, Result.andThen_ok]
  cases ha : ti.agg with
  | false =>
    have h1 := (hz.one ha).1
    have h2 := (Array.getElem?_eq_some_iff.1 h1).1
    have h3 := hc off (by simpa using h2)
    simp only [Array.getElem?_toList, h1] at h3
    simp [h3]
  | true =>
    have h1 := hz.agg ha
    have h2 := hz.len.resolve_right (by simp [ha])
    have := run_loadCells_list (P := P) (w := w) ⟨b, base + off, none⟩ ((y.cells.toList.drop off).take ti.size) (fun j v hv => by
      have hj := (List.getElem?_eq_some_iff.1 hv).1
      simp at hj
      have h3 := hc (off + j) (by simp; omega)
      rw [addr_add, Nat.add_assoc, h3, ← hv]
      rw [List.getElem?_take, if_pos (by omega), List.getElem?_drop])
    rw [show ((y.cells.toList.drop off).take ti.size).length = ti.size from by simp; omega] at this
    simp [tinf_size ht, this, h1]

/-! ### the operations -/

/-- what a read-only pointer or a pointer into the heap leads to: the condition, the variable, the offset in it -/
def aref (σ : Heap) : AV → Option (Prop × AV × Nat)
  | .rp a => some (True, a, 0)
  | .ptr i g k off => match σ[i]? with
    | some (.row g' _ es) => if g = g' then some (k < es.length, es[k]?.getD .any, off) else none
    | _ => none
  | _ => none

def aload (σ : Heap) (ti : TI) (p : AV) : Option (Prop × AV) :=
  match aref σ p with
  | some (s, a, off) => match asub ti a off with
    | some (s', r) => some (s ∧ s', r)
    | none => none
  | none => none

/-- a pointer that is live is no nil pointer -/
def alive (σ : Heap) (i g : Nat) : Bool :=
  match σ[i]? with
  | some (.row g' _ _) => g == g'
  | some (.map g' _) => g == g'
  | _ => false

def bitsOp (op : BinOp) (k : IntKind) (x y : Int) : Int :=
  let a := BitVec.ofInt k.bits x
  let b := BitVec.ofInt k.bits y
  match op with
  | .and => k.wrap (a &&& b).toNat
  | .or => k.wrap (a ||| b).toNat
  | .xor => k.wrap (a ^^^ b).toNat
  | _ => k.wrap (a &&& ~~~b).toNat

def abin (op : BinOp) (x y : AV) : Option (Prop × AV) :=
  match op, x, y with
  | .shl, .v (.int k a), .v (.int _ b) => some (0 ≤ b, .v (.int k (k.wrap (a * 2 ^ (min b.toNat k.bits)))))
  | .shr, .v (.int k a), .v (.int _ b) => some (0 ≤ b, .v (.int k (a.fdiv (2 ^ (min b.toNat k.bits)))))
  | .add, .v (.int k a), .v (.int k' b) => if k = k' then some (True, .v (.int k (k.wrap (a + b)))) else none
  | .sub, .v (.int k a), .v (.int k' b) => if k = k' then some (True, .v (.int k (k.wrap (a - b)))) else none
  | .mul, .v (.int k a), .v (.int k' b) => if k = k' then some (True, .v (.int k (k.wrap (a * b)))) else none
  | .quo, .v (.int k a), .v (.int k' b) => if k = k' then some (b ≠ 0, .v (.int k (k.wrap (a.tdiv b)))) else none
  | .rem, .v (.int k a), .v (.int k' b) => if k = k' then some (b ≠ 0, .v (.int k (a.tmod b))) else none
  | .and, .v (.int k a), .v (.int k' b) => if k = k' then some (True, .v (.int k (bitsOp .and k a b))) else none
  | .or, .v (.int k a), .v (.int k' b) => if k = k' then some (True, .v (.int k (bitsOp .or k a b))) else none
  | .xor, .v (.int k a), .v (.int k' b) => if k = k' then some (True, .v (.int k (bitsOp .xor k a b))) else none
  | .andNot, .v (.int k a), .v (.int k' b) => if k = k' then some (True, .v (.int k (bitsOp .andNot k a b))) else none
  | .eql, .v (.int k a), .v (.int k' b) => if k = k' then some (True, .v (.bool (decide (a = b)))) else none
  | .neq, .v (.int k a), .v (.int k' b) => if k = k' then some (True, .v (.bool (!decide (a = b)))) else none
  | .lss, .v (.int k a), .v (.int k' b) => if k = k' then some (True, .v (.bool (decide (a < b)))) else none
  | .leq, .v (.int k a), .v (.int k' b) => if k = k' then some (True, .v (.bool (decide (a ≤ b)))) else none
  | .gtr, .v (.int k a), .v (.int k' b) => if k = k' then some (True, .v (.bool (decide (b < a)))) else none
  | .geq, .v (.int k a), .v (.int k' b) => if k = k' then some (True, .v (.bool (decide (b ≤ a)))) else none
  | .add, .v (.string a), .v (.string b) => some (((a.size + b.size : Nat) : Int) ≤ 9223372036854775807, .v (.string (a ++ b)))
  | .eql, .v (.string a), .v (.string b) => some (True, .v (.bool (decide (a = b))))
  | .neq, .v (.string a), .v (.string b) => some (True, .v (.bool (!decide (a = b))))
  | _, _, _ => none

theorem beq_dec (a b : Int) : (a == b) = decide (a = b) := by rw [Bool.eq_iff_iff]; simp
theorem bne_dec (a b : Int) : (a != b) = !decide (a = b) := by rw [Bool.eq_iff_iff]; simp

theorem abin_sound {P : Program} {t : TypeId} {op : BinOp} {x y r : AV} {s : Prop} {w : World} {L : LM} {u v : Value} (h : abin op x y = some (s, r)) (hs : s) (hx : Rep w L x u) (hy : Rep w L y v) :
    ∃ z, (binOp op t u v).run P w = .ok z w ∧ Rep w L r z ∧ (∀ m, u ≠ .agg m) ∧ u ≠ .nilIface := by
  unfold abin at h
  split at h
  all_goals (try (split at h))
  all_goals (first | (cases h; done) | skip)
  all_goals (try (rename_i hk; cases hk))
  all_goals (cases h; simp only [Rep] at hx hy; subst hx; subst hy; refine ⟨_, ?_, rfl, by simp, by simp⟩)
  all_goals first
    | (simp [binOp, Op.intArith]; done)
    | (simp [binOp, Op.intBits, bitsOp]; done)
    | (simp [binOp, Op.intDiv, hs]; done)
    | (simp [binOp, Op.intCmp]; done)
    | (simp only [binOp, Op.intCmp, Sem.run_pure, ne_eq, not_true_eq_false, if_false, beq_dec, bne_dec]; done)
    | (simp only [binOp, Op.shift]; rw [if_neg (by omega)]; rfl)
    | (simp only [binOp, Op.stringOp]; rw [if_neg (by have : IntKind.i64.max = 9223372036854775807 := rfl; omega)]; rfl)
    | (simp only [binOp, Op.stringOp, Sem.run_pure]; congr 2; rw [Bool.eq_iff_iff]; simp [ByteArray.toList_eq, ByteArray.ext_iff, Array.toList_inj]; done)

end Go.Ab
