/-
  The abstract heap: abstract values (AV), what they stand for in a world (Rep), how a step keeps that (Tr), and the state of a walk (St).
  No program is named here.
-/
import Derived.Calls
import Derived.Orders
import Derived.Below
set_option linter.unusedVariables false
set_option linter.unusedSimpArgs false
set_option linter.unusedSectionVars false
namespace Go.Ab
open Go

/-- A value with its data in it: 'sl' a slice that is only read (its elements), 'rp' a pointer that is only read (what it leads to); 'ptr', 'os', 'mp' lead into the abstract heap. -/
inductive AV where
  | any
  | v (x : Value)
  | sl (e : Nat) (es : List AV)
  | rp (a : AV)
  | ptr (i g k off : Nat)
  | os (i g k n : Nat)
  | mp (i g : Nat)
  | agg (cs : List AV)
  | tup (vs : List AV)
  | fn (f : Fn) (first cap : List AV)
  | ifc (t : TypeId) (a : AV)
  deriving Inhabited

/-- Where an abstract block lies: its block, the cells of one element, all its cells. -/
inductive Lo where
  | bad
  | stale
  | nilv
  | here (b e sz : Nat)

abbrev LM := Nat → Nat → Lo

def Owned (L : LM) (b : Nat) : Prop := ∃ i g e sz, L i g = .here b e sz

def ptrAt (l : Lo) (k off : Nat) (x : Value) : Prop :=
  match l with
  | .bad | .nilv => False
  | .stale => ∃ r, x = .pointer r
  | .here b e _ => x = .pointer (some ⟨b, k * e + off, none⟩)

def osAt (l : Lo) (k n : Nat) (x : Value) : Prop :=
  match l with
  | .bad => False
  | .stale => ∃ r m c, x = .slice r m c
  | .nilv => k = 0 ∧ n = 0 ∧ x = .slice none 0 0
  | .here b e sz => (∃ cap, x = .slice (some ⟨b, k * e, none⟩) n cap ∧ n ≤ cap ∧ (k + cap) * e ≤ sz) ∨ (n = 0 ∧ ∃ r, x = .slice r 0 0 ∧ ∀ a, r = some a → a.block = b ∧ a.spot = none)

def mpAt (l : Lo) (x : Value) : Prop :=
  match l with
  | .bad | .nilv => False
  | .stale => ∃ r, x = .map r
  | .here b _ _ => x = .map (some b)

theorem ptrAt.stale {l : Lo} {k off : Nat} {x : Value} (h : ptrAt l k off x) : ptrAt .stale k off x := by
  cases l with
  | bad => exact h.elim
  | nilv => exact h.elim
  | stale => exact h
  | here b e sz => exact ⟨_, h⟩
theorem osAt.stale {l : Lo} {k n : Nat} {x : Value} (h : osAt l k n x) : osAt .stale k n x := by
  cases l with
  | bad => exact h.elim
  | nilv => exact ⟨_, _, _, h.2.2⟩
  | stale => exact h
  | here b e sz => rcases h with ⟨cap, h, _⟩ | ⟨_, r, h, _⟩ <;> exact ⟨_, _, _, h⟩
theorem mpAt.stale {l : Lo} {x : Value} (h : mpAt l x) : mpAt .stale x := by
  cases l with
  | bad => exact h.elim
  | nilv => exact h.elim
  | stale => exact h
  | here b e sz => exact ⟨_, h⟩

/-- A cell's value: no struct, no tuple. -/
def cellV : Value → Bool
  | .agg _ => false
  | .tuple _ => false
  | _ => true

/-- Cells from an address on. -/
def Cells (w : World) (b off : Nat) (xs : List Value) : Prop := ∀ j, j < xs.length → w.cell? ⟨b, off + j, none⟩ = xs[j]?

mutual
def Rep (w : World) (L : LM) : AV → Value → Prop
  | .any, _ => True
  | .v y, x => x = y
  | .sl e es, x => (es = [] ∧ x = .slice none 0 0) ∨ ∃ b off cap, x = .slice (some ⟨b, off, none⟩) es.length cap ∧ es.length ≤ cap ∧ b < w.heap.size ∧ ¬ Owned L b ∧
      ∃ xs, RepE w L e es xs ∧ Cells w b off xs
  | .rp a, x => ∃ b off, x = .pointer (some ⟨b, off, none⟩) ∧ b < w.heap.size ∧ ¬ Owned L b ∧ ∃ y, Rep w L a y ∧ Cells w b off y.cells.toList
  | .ptr i g k off, x => ptrAt (L i g) k off x
  | .os i g k n, x => osAt (L i g) k n x
  | .mp i g, x => mpAt (L i g) x
  | .agg cs, x => ∃ xs, x = .agg xs.toArray ∧ RepL w L cs xs ∧ ∀ y ∈ xs, cellV y = true
  | .tup vs, x => ∃ xs, x = .tuple xs.toArray ∧ RepL w L vs xs
  | .fn f first cap, x => ∃ xs ys, x = .func f xs.toArray ys.toArray ∧ RepL w L first xs ∧ RepL w L cap ys
  | .ifc t a, x => ∃ y, x = .iface t y ∧ Rep w L a y
/-- one by one -/
def RepL (w : World) (L : LM) : List AV → List Value → Prop
  | [], xs => xs = []
  | a :: as, xs => ∃ y ys, xs = y :: ys ∧ Rep w L a y ∧ RepL w L as ys
/-- the cells of a row of elements of e cells each -/
def RepE (w : World) (L : LM) (e : Nat) : List AV → List Value → Prop
  | [], xs => xs = []
  | a :: as, xs => ∃ y zs, xs = y.cells.toList ++ zs ∧ (y.cells.size = e ∧ ∀ c ∈ y.cells.toList, cellV c = true) ∧ Rep w L a y ∧ RepE w L e as zs
end

mutual
/-- Every id that is named is one of V. -/
def AllI (V : Nat → Prop) : AV → Prop
  | .any => True
  | .v _ => True
  | .sl _ es => AllIL V es
  | .rp a => AllI V a
  | .ptr i _ _ _ => V i
  | .os i _ _ _ => V i
  | .mp i _ => V i
  | .agg cs => AllIL V cs
  | .tup vs => AllIL V vs
  | .fn _ first cap => AllIL V first ∧ AllIL V cap
  | .ifc _ a => AllI V a
def AllIL (V : Nat → Prop) : List AV → Prop
  | [] => True
  | a :: as => AllI V a ∧ AllIL V as
end

abbrev Pure (a : AV) : Prop := AllI (fun _ => False) a
abbrev PureL (l : List AV) : Prop := AllIL (fun _ => False) l

theorem allIL_iff {V : Nat → Prop} : ∀ {l : List AV}, AllIL V l ↔ ∀ a ∈ l, AllI V a
  | [] => by simp [AllIL]
  | a :: l => by simp [AllIL, allIL_iff (l := l)]

mutual
theorem AllI.mono {V V' : Nat → Prop} (h : ∀ i, V i → V' i) : ∀ a, AllI V a → AllI V' a
  | .any, _ => trivial
  | .v _, _ => trivial
  | .sl _ es, H => by simp only [AllI] at *; exact AllIL.mono h es H
  | .rp a, H => by simp only [AllI] at *; exact AllI.mono h a H
  | .ptr i _ _ _, H => h i H
  | .os i _ _ _, H => h i H
  | .mp i _, H => h i H
  | .agg cs, H => by simp only [AllI] at *; exact AllIL.mono h cs H
  | .tup cs, H => by simp only [AllI] at *; exact AllIL.mono h cs H
  | .fn _ x y, H => by simp only [AllI] at *; exact ⟨AllIL.mono h x H.1, AllIL.mono h y H.2⟩
  | .ifc _ a, H => by simp only [AllI] at *; exact AllI.mono h a H
theorem AllIL.mono {V V' : Nat → Prop} (h : ∀ i, V i → V' i) : ∀ l, AllIL V l → AllIL V' l
  | [], _ => trivial
  | a :: l, H => ⟨AllI.mono h a H.1, AllIL.mono h l H.2⟩
end

mutual
theorem AllI.all {V : Nat → Prop} (h : ∀ i, V i) : ∀ a, AllI V a
  | .any => trivial
  | .v _ => trivial
  | .sl _ es => by simp only [AllI]; exact AllIL.all h es
  | .rp a => by simp only [AllI]; exact AllI.all h a
  | .ptr i _ _ _ => h i
  | .os i _ _ _ => h i
  | .mp i _ => h i
  | .agg cs => by simp only [AllI]; exact AllIL.all h cs
  | .tup cs => by simp only [AllI]; exact AllIL.all h cs
  | .fn _ x y => by simp only [AllI]; exact ⟨AllIL.all h x, AllIL.all h y⟩
  | .ifc _ a => by simp only [AllI]; exact AllI.all h a
theorem AllIL.all {V : Nat → Prop} (h : ∀ i, V i) : ∀ l, AllIL V l
  | [] => trivial
  | a :: l => ⟨AllI.all h a, AllIL.all h l⟩
end

/-- What a step keeps, for whoever looks on from (w, L), of ids in V. -/
structure TrV (V : Nat → Prop) (w : World) (L : LM) (w' : World) (L' : LM) : Prop where
  os : w'.os = w.os
  output : w'.output = w.output
  size : w.heap.size ≤ w'.heap.size
  keep : ∀ b, b < w.heap.size → ¬ Owned L b → w'.heap[b]? = w.heap[b]?
  own : ∀ b, Owned L' b → Owned L b ∨ w.heap.size ≤ b
  loc : ∀ i g, V i → L i g ≠ .bad → L' i g = L i g ∨ L' i g = .stale

abbrev Tr := TrV (fun _ => True)

theorem TrV.refl (V : Nat → Prop) (w : World) (L : LM) : TrV V w L w L := ⟨rfl, rfl, Nat.le_refl _, fun _ _ _ => rfl, fun _ h => .inl h, fun _ _ _ _ => .inl rfl⟩
theorem Tr.refl (w : World) (L : LM) : Tr w L w L := TrV.refl _ w L

theorem TrV.trans {V : Nat → Prop} {w w1 w2 : World} {L L1 L2 : LM} (h : TrV V w L w1 L1) (h' : TrV V w1 L1 w2 L2) : TrV V w L w2 L2 := by
  refine ⟨h'.os.trans h.os, h'.output.trans h.output, Nat.le_trans h.size h'.size, fun b hb ho => ?_, fun b ho => ?_, fun i g hv hg => ?_⟩
  · rw [h'.keep b (Nat.lt_of_lt_of_le hb h.size) (fun ho1 => (h.own b ho1).elim ho (fun hle => by omega)), h.keep b hb ho]
  · rcases h'.own b ho with h1 | h1
    · exact h.own b h1
    · exact .inr (Nat.le_trans h.size h1)
  · rcases h.loc i g hv hg with h1 | h1
    · rcases h'.loc i g hv (by rw [h1]; exact hg) with h2 | h2
      · exact .inl (h2.trans h1)
      · exact .inr h2
    · rcases h'.loc i g hv (by rw [h1]; simp) with h2 | h2
      · exact .inr (h2.trans h1)
      · exact .inr h2

theorem TrV.mono {V V' : Nat → Prop} {w w1 : World} {L L1 : LM} (h : TrV V w L w1 L1) (hv : ∀ i, V' i → V i) : TrV V' w L w1 L1 :=
  ⟨h.os, h.output, h.size, h.keep, h.own, fun i g hi => h.loc i g (hv i hi)⟩

theorem Cells.tr {V : Nat → Prop} {w w' : World} {L L' : LM} (h : TrV V w L w' L') {b off : Nat} {xs : List Value} (hb : b < w.heap.size) (ho : ¬ Owned L b) (hc : Cells w b off xs) : Cells w' b off xs := by
  intro j hj
  rw [← hc j hj]
  simp only [World.cell?, h.keep b hb ho]

theorem Owned.tr {V : Nat → Prop} {w w' : World} {L L' : LM} (h : TrV V w L w' L') {b : Nat} (hb : b < w.heap.size) (ho : ¬ Owned L b) : ¬ Owned L' b :=
  fun h1 => (h.own b h1).elim ho (fun h2 => by omega)

mutual
theorem Rep.trV {V : Nat → Prop} {w w' : World} {L L' : LM} (h : TrV V w L w' L') : ∀ a x, AllI V a → Rep w L a x → Rep w' L' a x
  | .any, _, _, _ => trivial
  | .v _, _, _, H => H
  | .sl e es, x, hv, H => by
    simp only [Rep, AllI] at *
    rcases H with H | ⟨b, off, cap, hx, hn, hb, ho, xs, hr, hc⟩
    · exact .inl H
    · exact .inr ⟨b, off, cap, hx, hn, Nat.lt_of_lt_of_le hb h.size, Owned.tr h hb ho, xs, RepE.trV h e es xs hv hr, Cells.tr h hb ho hc⟩
  | .rp a, x, hv, H => by
    simp only [Rep, AllI] at *
    obtain ⟨b, off, hx, hb, ho, y, hr, hc⟩ := H
    exact ⟨b, off, hx, Nat.lt_of_lt_of_le hb h.size, Owned.tr h hb ho, y, Rep.trV h a y hv hr, Cells.tr h hb ho hc⟩
  | .ptr i g k off, x, hv, H => by
    simp only [Rep, AllI] at *
    by_cases hg : L i g = .bad
    · rw [hg] at H; exact H.elim
    · rcases h.loc i g hv hg with h1 | h1 <;> rw [h1]
      · exact H
      · exact H.stale
  | .os i g k n, x, hv, H => by
    simp only [Rep, AllI] at *
    by_cases hg : L i g = .bad
    · rw [hg] at H; exact H.elim
    · rcases h.loc i g hv hg with h1 | h1 <;> rw [h1]
      · exact H
      · exact H.stale
  | .mp i g, x, hv, H => by
    simp only [Rep, AllI] at *
    by_cases hg : L i g = .bad
    · rw [hg] at H; exact H.elim
    · rcases h.loc i g hv hg with h1 | h1 <;> rw [h1]
      · exact H
      · exact H.stale
  | .agg cs, x, hv, H => by
    simp only [Rep, AllI] at *
    obtain ⟨xs, hx, hr, hq⟩ := H
    exact ⟨xs, hx, RepL.trV h cs xs hv hr, hq⟩
  | .tup cs, x, hv, H => by
    simp only [Rep, AllI] at *
    obtain ⟨xs, hx, hr⟩ := H
    exact ⟨xs, hx, RepL.trV h cs xs hv hr⟩
  | .fn f c d, x, hv, H => by
    simp only [Rep, AllI] at *
    obtain ⟨xs, ys, hx, hr, hs⟩ := H
    exact ⟨xs, ys, hx, RepL.trV h c xs hv.1 hr, RepL.trV h d ys hv.2 hs⟩
  | .ifc t a, x, hv, H => by
    simp only [Rep, AllI] at *
    obtain ⟨y, hx, hr⟩ := H
    exact ⟨y, hx, Rep.trV h a y hv hr⟩
theorem RepL.trV {V : Nat → Prop} {w w' : World} {L L' : LM} (h : TrV V w L w' L') : ∀ l xs, AllIL V l → RepL w L l xs → RepL w' L' l xs
  | [], _, _, H => H
  | a :: l, xs, hv, H => by
    simp only [RepL, AllIL] at *
    obtain ⟨y, ys, hx, hr, hs⟩ := H
    exact ⟨y, ys, hx, Rep.trV h a y hv.1 hr, RepL.trV h l ys hv.2 hs⟩
theorem RepE.trV {V : Nat → Prop} {w w' : World} {L L' : LM} (h : TrV V w L w' L') (e : Nat) : ∀ l xs, AllIL V l → RepE w L e l xs → RepE w' L' e l xs
  | [], _, _, H => H
  | a :: l, xs, hv, H => by
    simp only [RepE, AllIL] at *
    obtain ⟨y, ys, hx, hl, hr, hs⟩ := H
    exact ⟨y, ys, hx, hl, Rep.trV h a y hv.1 hr, RepE.trV h e l ys hv.2 hs⟩
end

theorem Rep.tr {w w' : World} {L L' : LM} (h : Tr w L w' L') {a : AV} {x : Value} (H : Rep w L a x) : Rep w' L' a x := Rep.trV h a x (AllI.all (fun _ => trivial) a) H
theorem RepL.tr {w w' : World} {L L' : LM} (h : Tr w L w' L') {a : List AV} {x : List Value} (H : RepL w L a x) : RepL w' L' a x := RepL.trV h a x (AllIL.all (fun _ => trivial) a) H
theorem RepE.tr {w w' : World} {L L' : LM} (h : Tr w L w' L') {e : Nat} {a : List AV} {x : List Value} (H : RepE w L e a x) : RepE w' L' e a x := RepE.trV h e a x (AllIL.all (fun _ => trivial) a) H

mutual
/-- What is represented names only ids that are there. -/
theorem Rep.ids {w : World} {L : LM} {V : Nat → Prop} (hL : ∀ i g, L i g ≠ .bad → V i) : ∀ a x, Rep w L a x → AllI V a
  | .any, _, _ => trivial
  | .v _, _, _ => trivial
  | .sl e es, x, H => by
    simp only [Rep, AllI] at *
    rcases H with ⟨rfl, _⟩ | ⟨b, off, cap, hx, hn, hb, ho, xs, hr, hc⟩
    · trivial
    · exact RepE.ids hL e es xs hr
  | .rp a, x, H => by
    simp only [Rep, AllI] at *
    obtain ⟨b, off, hx, hb, ho, y, hr, hc⟩ := H
    exact Rep.ids hL a y hr
  | .ptr i g k off, x, H => by
    simp only [Rep, AllI] at *
    exact hL i g (fun e => by rw [e] at H; exact H)
  | .os i g k n, x, H => by
    simp only [Rep, AllI] at *
    exact hL i g (fun e => by rw [e] at H; exact H)
  | .mp i g, x, H => by
    simp only [Rep, AllI] at *
    exact hL i g (fun e => by rw [e] at H; exact H)
  | .agg cs, x, H => by
    simp only [Rep, AllI] at *
    obtain ⟨xs, hx, hr, _⟩ := H
    exact RepL.ids hL cs xs hr
  | .tup cs, x, H => by
    simp only [Rep, AllI] at *
    obtain ⟨xs, hx, hr⟩ := H
    exact RepL.ids hL cs xs hr
  | .fn f c d, x, H => by
    simp only [Rep, AllI] at *
    obtain ⟨xs, ys, hx, hr, hs⟩ := H
    exact ⟨RepL.ids hL c xs hr, RepL.ids hL d ys hs⟩
  | .ifc t a, x, H => by
    simp only [Rep, AllI] at *
    obtain ⟨y, hx, hr⟩ := H
    exact Rep.ids hL a y hr
theorem RepL.ids {w : World} {L : LM} {V : Nat → Prop} (hL : ∀ i g, L i g ≠ .bad → V i) : ∀ l xs, RepL w L l xs → AllIL V l
  | [], _, _ => trivial
  | a :: l, xs, H => by
    simp only [RepL, AllIL] at *
    obtain ⟨y, ys, hx, hr, hs⟩ := H
    exact ⟨Rep.ids hL a y hr, RepL.ids hL l ys hs⟩
theorem RepE.ids {w : World} {L : LM} {V : Nat → Prop} (hL : ∀ i g, L i g ≠ .bad → V i) (e : Nat) : ∀ l xs, RepE w L e l xs → AllIL V l
  | [], _, _ => trivial
  | a :: l, xs, H => by
    simp only [RepE, AllIL] at *
    obtain ⟨y, ys, hx, hl, hr, hs⟩ := H
    exact ⟨Rep.ids hL a y hr, RepE.ids hL e l ys hs⟩
end

/-- An object of the abstract heap. -/
inductive AObj where
  | dead (g : Nat)
  /-- an object that will be made -/
  | hole
  /-- a variable, or a row that is appended to: its elements, of e cells each; nil if it lies nowhere -/
  | row (g e : Nat) (es : List AV)
  | map (g : Nat) (es : List (Value × AV))
  /-- a row whose block's type is known, and of which nothing is frozen -/
  | tro (g t e : Nat) (es : List AV)
  /-- an iterator over a string: the string, and where it stands -/
  | it (g : Nat) (s : ByteArray) (pos : Nat)
  deriving Inhabited

def AObj.gen : AObj → Nat
  | .dead g => g
  | .hole => 0
  | .row g _ _ => g
  | .map g _ => g
  | .tro g _ _ _ => g
  | .it g _ _ => g

abbrev Heap := List AObj
/-- where each object lies: block, cells -/
abbrev Locs := List (Option (Nat × Nat))

def loOf (o : AObj) (r : Option (Nat × Nat)) (g : Nat) : Lo :=
  if o.gen < g then .bad else if g < o.gen then .stale else
  match o, r with
  | .dead _, _ => .stale
  | .hole, _ => .bad
  | .row _ e _, some (b, sz) => .here b e sz
  | .row _ _ _, none => .nilv
  | .map _ _, some (b, sz) => .here b 0 sz
  | .map _ _, none => .stale
  | .tro _ _ e _, some (b, sz) => .here b e sz
  | .tro _ _ _ _, none => .stale
  | .it _ _ _, some (b, sz) => .here b 0 sz
  | .it _ _ _, none => .stale

def lm (σ : Heap) (ρ : Locs) : LM := fun i g =>
  match σ[i]?, ρ[i]? with
  | some o, some r => loOf o r g
  | _, _ => .bad

/-- No cell below sz is frozen. -/
def Free (fr : Nat × Nat) (sz : Nat) : Prop := ∀ off, off < sz → ¬ (fr.1 ≤ off ∧ off < fr.2)

def mapRep (w : World) (L : LM) : List (Value × AV) → List MapEntry → Prop
  | [], l => l = []
  | (k, a) :: es, l => ∃ m ms, l = m :: ms ∧ m.key = k ∧ Rep w L a m.val ∧ mapRep w L es ms

def ObjOK (w : World) (L : LM) : AObj → Option (Nat × Nat) → Prop
  | .dead _, r => r = none
  | .hole, r => r = none
  | .row _ _ es, none => es = []
  | .row _ e es, some (b, sz) => ∃ xs ys t fr, w.heap[b]? = some (.cells (xs ++ ys).toArray t fr) ∧ (xs ++ ys).length = sz ∧ Free fr sz ∧ RepE w L e es xs
  | .map _ _, none => False
  | .tro _ _ _ _, none => False
  | .it _ _ _, none => False
  | .it _ s pos, some (b, sz) => sz = 0 ∧ w.heap[b]? = some (.stringIter s pos)
  | .tro _ t e es, some (b, sz) => ∃ xs ys, w.heap[b]? = some (.cells (xs ++ ys).toArray t (0, 0)) ∧ ((xs ++ ys).length = sz ∧ (e = 1 ∨ ys = [])) ∧ RepE w L e es xs
  | .map _ es, some (b, sz) => sz = 0 ∧ ∃ ms clock, w.heap[b]? = some (.map ms clock) ∧ mapRep w L es ms.toList

/-- What program variables hold that nobody writes: some blocks, and what is known of them. -/
class GlobFacts where
  blocks : List Nat
  fact : List (Option Obj) → Prop
  /-- what a variable's address reads as, if the code reads it itself -/
  av : Nat → Option AV := fun _ => none
  pure : ∀ g a, av g = some a → Pure a := by intro g a h; cases h

variable [GlobFacts]

def GlobOK (w : World) (L : LM) : Prop := (∀ g ∈ GlobFacts.blocks, g < w.heap.size ∧ ¬ Owned L g) ∧ GlobFacts.fact (GlobFacts.blocks.map fun g => w.heap[g]?) ∧ ∀ g a, GlobFacts.av g = some a → Rep w L a (.pointer (some ⟨g, 0, none⟩))

theorem GlobOK.tr {V : Nat → Prop} {w w' : World} {L L' : LM} (h : GlobOK w L) (ht : TrV V w L w' L') : GlobOK w' L' := by
  refine ⟨fun g hg => ?_, ?_, fun g a ha => Rep.trV ht a _ (AllI.mono (fun _ h => h.elim) a (GlobFacts.pure g a ha)) (h.2.2 g a ha)⟩
  · obtain ⟨h1, h2⟩ := h.1 g hg
    exact ⟨Nat.lt_of_lt_of_le h1 ht.size, Owned.tr ht h1 h2⟩
  · have : (GlobFacts.blocks.map fun g => w'.heap[g]?) = GlobFacts.blocks.map fun g => w.heap[g]? := List.map_congr_left fun g hg => ht.keep g (h.1 g hg).1 (h.1 g hg).2
    rw [this]; exact h.2.1

structure HeapOK (w : World) (σ : Heap) (ρ : Locs) : Prop where
  len : ρ.length = σ.length
  obj : ∀ (i : Nat) o r, σ[i]? = some o → ρ[i]? = some r → ObjOK w (lm σ ρ) o r
  inj : ∀ (i j : Nat) b s s', ρ[i]? = some (some (b, s)) → ρ[j]? = some (some (b, s')) → i = j
  glob : GlobOK w (lm σ ρ)

/-- env: what the slots hold: a slot, the condition under which it was written, what it then holds -/
structure EV where
  c : Bool
  a : AV
abbrev Env := List (Nat × EV)

def Env.get (t : Nat) : Env → Option EV
  | [] => none
  | (u, x) :: r => if u = t then some x else Env.get t r

def Env.put (t : Nat) (x : EV) : Env → Env
  | [] => [(t, x)]
  | (u, y) :: r => if u = t then (t, x) :: r else (u, y) :: Env.put t x r

theorem Env.get_put (t : Nat) (x : EV) (u : Nat) : ∀ E : Env, (Env.put t x E).get u = if u = t then some x else E.get u
  | [] => by by_cases h : u = t <;> simp [Env.put, Env.get, h]; exact fun h' => absurd h'.symm h
  | (u', y) :: r => by
    have ih := Env.get_put t x u r
    by_cases h1 : u' = t
    · subst h1
      by_cases h2 : u = u'
      · simp [Env.put, Env.get, h2]
      · simp [Env.put, Env.get, h2, Ne.symm h2]
    · by_cases h2 : u' = u
      · subst h2; simp [Env.put, Env.get, h1]
      · simp [Env.put, Env.get, h1, h2, ih]

def EV.ok (w : World) (L : LM) (x : EV) (y : Value) : Prop := if x.c then Rep w L x.a y else y = undef

structure St (N : Nat) (a : Act) (w : World) (ρ : Locs) (E : Env) (σ : Heap) : Prop where
  tmps : a.tmps.size = N
  defers : a.defers = []
  env : ∀ t x, E.get t = some x → ∃ y, a.tmps[t]? = some y ∧ x.ok w (lm σ ρ) y
  heap : HeapOK w σ ρ

theorem EV.ok.tr {w w' : World} {L L' : LM} (h : Tr w L w' L') {x : EV} {y : Value} (H : x.ok w L y) : x.ok w' L' y := by
  unfold EV.ok at *
  split
  · rename_i hc; rw [if_pos hc] at H; exact Rep.tr h H
  · rename_i hc; rw [if_neg hc] at H; exact H

/-- Behind an operation: its value is put into its slot. -/
theorem St.put {N : Nat} {a : Act} {w w' : World} {ρ ρ' : Locs} {E : Env} {σ σ' : Heap} (h : St N a w ρ E σ) (htr : Tr w (lm σ ρ) w' (lm σ' ρ')) (hh : HeapOK w' σ' ρ')
    {d : Nat} (hd : d < N) {x : EV} {y : Value} (hx : x.ok w' (lm σ' ρ') y) : St N (a.put (some d) y) w' ρ' (E.put d x) σ' := by
  refine ⟨by simp [Act.put, h.tmps], by simp [Act.put, h.defers], fun t z ht => ?_, hh⟩
  rw [Env.get_put] at ht
  simp only [Act.put]
  by_cases htd : t = d
  · subst htd
    simp at ht; subst ht
    exact ⟨y, by simp [h.tmps, hd], hx⟩
  · rw [if_neg htd] at ht
    obtain ⟨u, hu, hu'⟩ := h.env t z ht
    exact ⟨u, by rw [Array.getElem?_setIfInBounds_ne (Ne.symm htd)]; exact hu, hu'.tr htr⟩

theorem St.none {N : Nat} {a : Act} {w w' : World} {ρ ρ' : Locs} {E : Env} {σ σ' : Heap} (h : St N a w ρ E σ) (htr : Tr w (lm σ ρ) w' (lm σ' ρ')) (hh : HeapOK w' σ' ρ') : St N a w' ρ' E σ' :=
  ⟨h.tmps, h.defers, fun t z ht => let ⟨u, hu, hu'⟩ := h.env t z ht; ⟨u, hu, hu'.tr htr⟩, hh⟩

end Go.Ab
