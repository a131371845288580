/-
  What the reader of lines and its reference compute, in plain Lean, and that they are the same.
  What joining words computes, in plain Lean, and that the words come back.
  Numbers of strings, in plain Lean.
-/
import Derived.Test.YtdlekkhjkcbbnaaGreatDoorIdS
import Derived.Lib.ParseIntBCases
import Derived.Lib.ItoaNum
import Derived.Lib.Strings
set_option linter.unusedVariables false
set_option linter.unusedSimpArgs false
namespace Go.Wo
open Go

abbrev Bytes := List UInt8
/-- simple bytes -/
def simB (c : UInt8) : Bool := decide (32 < c.toNat) && decide (c.toNat < 127) && !decide (c.toNat = 34) && !decide (c.toNat = 92)
/-- what a pair stands for -/
def meanB (c : UInt8) : UInt8 × Bool := if c.toNat = 34 ∨ c.toNat = 92 then (c, true) else if c.toNat = 110 then (10, true) else if c.toNat = 114 then (13, true) else (0, false)

/-- a reader: its state, the word that it is in, the words before -/
structure Rd where
  st : Nat
  wd : Bytes
  ws : List Bytes

def pushS (r : Rd) : Rd := ⟨0, [], r.ws ++ [r.wd]⟩
def takeS (r : Rd) (c : UInt8) : Rd × Bool :=
  if r.st = 0 then (if c.toNat = 34 then (⟨2, r.wd, r.ws⟩, true) else (⟨1, r.wd ++ [c], r.ws⟩, simB c))
  else if r.st = 1 ∨ r.st = 4 then (if c.toNat = 32 then (pushS r, true) else (⟨r.st, r.wd ++ [c], r.ws⟩, decide (r.st = 1) && simB c))
  else if r.st = 2 then (if c.toNat = 34 then (⟨4, r.wd, r.ws⟩, true) else if c.toNat = 92 then (⟨3, r.wd, r.ws⟩, true) else if c.toNat = 10 ∨ c.toNat = 13 then (r, false) else (⟨2, r.wd ++ [c], r.ws⟩, true))
  else (⟨2, r.wd ++ [(meanB c).1], r.ws⟩, (meanB c).2)
def runM : Bytes → Rd → Option Rd
  | [], r => some r
  | c :: l, r => if (takeS r c).2 = true then runM l (takeS r c).1 else none
/-- the words, if the reader may end here -/
def finM : Option Rd → Option (List Bytes)
  | some r => if r.st = 1 ∨ r.st = 4 then some (r.ws ++ [r.wd]) else none
  | none => none
/-- words, or the error's number -/
def splitS (l : Bytes) : List Bytes × Int :=
  if 4096 < l.length then ([], 3) else if l = [] then ([], 0) else
  match finM (runM l ⟨0, [], []⟩) with
  | none => ([], 5)
  | some ws => if 64 < ws.length then ([], 3) else (ws, 0)

/-- the reference: the rest of a word in quotes -/
def wordQ : Bytes → Bytes → Nat → Option (Bytes × Nat)
  | [], _, _ => none
  | [c], out, i => if c.toNat = 34 then some (out, i + 1) else none
  | c :: d :: l, out, i =>
    if c.toNat = 34 then some (out, i + 1) else if c.toNat = 10 ∨ c.toNat = 13 then none
    else if c.toNat = 92 then (if (meanB d).2 = true then wordQ l (out ++ [(meanB d).1]) (i + 2) else none)
    else wordQ (d :: l) (out ++ [c]) (i + 1)
def wordS (l : Bytes) (at_ : Nat) : Option (Bytes × Nat) :=
  if (l[at_]?.map (·.toNat)) = some 34 then wordQ (l.drop (at_ + 1)) [] (at_ + 1)
  else if (l.drop at_).takeWhile simB = [] then none else some ((l.drop at_).takeWhile simB, at_ + ((l.drop at_).takeWhile simB).length)
def splitR (l : Bytes) : Nat → Nat → Option (List Bytes)
  | 0, _ => none
  | f + 1, at_ => match wordS l at_ with
    | none => none
    | some (w, to) => if to = l.length then some [w] else if (l[to]?.map (·.toNat)) = some 32 then (splitR l f (to + 1)).map (w :: ·) else none
def rSplitS (l : Bytes) : List Bytes × Int :=
  if 4096 < l.length then ([], 3) else if l = [] then ([], 0) else
  match splitR l (l.length + 1) 0 with
  | none => ([], 5)
  | some ws => if 64 < ws.length then ([], 3) else (ws, 0)

/-! ### the two are one -/

theorem simB_not {c : UInt8} (h : simB c = true) : c.toNat ≠ 34 ∧ c.toNat ≠ 32 ∧ c.toNat ≠ 92 ∧ c.toNat ≠ 10 ∧ c.toNat ≠ 13 := by
  simp only [simB, Bool.and_eq_true, decide_eq_true_eq, Bool.not_eq_true', decide_eq_false_iff_not] at h
  omega

theorem run_plain : ∀ (p rest : Bytes) (wd : Bytes) (ws : List Bytes), (∀ c ∈ p, simB c = true) → runM (p ++ rest) ⟨1, wd, ws⟩ = runM rest ⟨1, wd ++ p, ws⟩
  | [], rest, wd, ws, _ => by simp
  | c :: p, rest, wd, ws, h => by
    have hc := h c (by simp)
    have hn := simB_not hc
    have ht : takeS ⟨1, wd, ws⟩ c = (⟨1, wd ++ [c], ws⟩, true) := by simp [takeS, hn.2.1, hc]
    rw [List.cons_append, runM, ht, if_pos rfl, run_plain p rest _ ws (fun x hx => h x (List.mem_cons_of_mem _ hx))]
    simp

theorem run_quoted : ∀ (l wd : Bytes) (ws : List Bytes) (i : Nat), match wordQ l wd i with
    | none => finM (runM l ⟨2, wd, ws⟩) = none
    | some (w, to) => i < to ∧ to ≤ i + l.length ∧ runM l ⟨2, wd, ws⟩ = runM (l.drop (to - i)) ⟨4, w, ws⟩
  | [], wd, ws, i => by simp [wordQ, runM, finM]
  | [c], wd, ws, i => by
    by_cases h1 : c.toNat = 34
    · simp [wordQ, h1, runM, takeS]
    · simp only [wordQ, if_neg h1]
      by_cases h2 : c.toNat = 92
      · simp [runM, takeS, h1, h2, finM]
      · by_cases h3 : c.toNat = 10 ∨ c.toNat = 13
        · simp [runM, takeS, h1, h2, h3, finM]
        · simp [runM, takeS, h1, h2, h3, finM]
  | c :: d :: l, wd, ws, i => by
    by_cases h1 : c.toNat = 34
    · simp [wordQ, h1, runM, takeS]
    · by_cases h2 : c.toNat = 10 ∨ c.toNat = 13
      · have h3 : ¬ c.toNat = 92 := by omega
        simp [wordQ, runM, takeS, h1, h2, h3, finM]
      · by_cases h3 : c.toNat = 92
        · have e : runM (c :: d :: l) ⟨2, wd, ws⟩ = if (meanB d).2 = true then runM l ⟨2, wd ++ [(meanB d).1], ws⟩ else none := by
            simp [runM, takeS, h3]
          rw [e]
          simp only [wordQ, if_neg h1, if_neg h2, if_pos h3]
          cases hm : (meanB d).2 with
          | false => simp [finM]
          | true =>
            have ih := run_quoted l (wd ++ [(meanB d).1]) ws (i + 2)
            simp only [if_true]
            cases hq : wordQ l (wd ++ [(meanB d).1]) (i + 2) with
            | none => rw [hq] at ih; exact ih
            | some p =>
              obtain ⟨w, to⟩ := p
              rw [hq] at ih
              obtain ⟨i1, i2, i3⟩ := ih
              simp only
              refine ⟨by omega, by simp only [List.length_cons]; omega, ?_⟩
              rw [i3, show to - i = (to - (i + 2)) + 2 by omega]
              rfl
        · have e : runM (c :: d :: l) ⟨2, wd, ws⟩ = runM (d :: l) ⟨2, wd ++ [c], ws⟩ := by
            rw [runM]; simp [takeS, h1, h2, h3]
          rw [e]
          simp only [wordQ, if_neg h1, if_neg h2, if_neg h3]
          have ih := run_quoted (d :: l) (wd ++ [c]) ws (i + 1)
          cases hq : wordQ (d :: l) (wd ++ [c]) (i + 1) with
          | none => rw [hq] at ih; exact ih
          | some p =>
            obtain ⟨w, to⟩ := p
            rw [hq] at ih
            obtain ⟨i1, i2, i3⟩ := ih
            simp only
            refine ⟨by omega, by simp only [List.length_cons] at i2 ⊢; omega, ?_⟩
            rw [i3, show to - i = (to - (i + 1)) + 1 by omega]
            rfl

/-- Behind a word: the reader in a state in which a word may end. -/
theorem run_after (l : Bytes) (to : Nat) (st : Nat) (w : Bytes) (ws : List Bytes) (hst : st = 4 ∨ (st = 1 ∧ ∀ c, l[to]? = some c → simB c = false)) (hto : to ≤ l.length) :
    (to = l.length → finM (runM (l.drop to) ⟨st, w, ws⟩) = some (ws ++ [w])) ∧ (to ≠ l.length → finM (runM (l.drop to) ⟨st, w, ws⟩) = if (l[to]?.map (·.toNat)) = some 32 then finM (runM (l.drop (to + 1)) ⟨0, [], ws ++ [w]⟩) else none) := by
  refine ⟨fun h => ?_, fun h => ?_⟩
  · rw [h, List.drop_length]
    rcases hst with rfl | ⟨rfl, _⟩ <;> simp [runM, finM]
  · have hlt : to < l.length := by omega
    rw [List.drop_eq_getElem_cons hlt, List.getElem?_eq_getElem hlt, runM]
    by_cases h32 : l[to].toNat = 32
    · have ht : takeS ⟨st, w, ws⟩ l[to] = (⟨0, [], ws ++ [w]⟩, true) := by rcases hst with rfl | ⟨rfl, _⟩ <;> simp [takeS, h32, pushS]
      rw [ht]; simp [h32]
    · have ht : (takeS ⟨st, w, ws⟩ l[to]).2 = false := by
        rcases hst with rfl | ⟨rfl, hs⟩
        · simp [takeS, h32]
        · simp [takeS, h32, hs _ (List.getElem?_eq_getElem hlt)]
      rw [ht]; simp [h32, finM]

theorem takeWhile_spec (p : UInt8 → Bool) : ∀ l : Bytes, l = l.takeWhile p ++ l.drop (l.takeWhile p).length ∧ (∀ c ∈ l.takeWhile p, p c = true) ∧ ∀ c, l[(l.takeWhile p).length]? = some c → p c = false
  | [] => by simp
  | x :: l => by
    obtain ⟨h1, h2, h3⟩ := takeWhile_spec p l
    by_cases hx : p x = true
    · rw [List.takeWhile_cons_of_pos hx]
      refine ⟨by simpa using h1, ?_, by simpa using h3⟩
      intro c hc
      rcases List.mem_cons.1 hc with rfl | hc
      · exact hx
      · exact h2 c hc
    · rw [List.takeWhile_cons_of_neg hx]
      refine ⟨rfl, by simp, ?_⟩
      intro c hc
      simp at hc; subst hc
      simpa using hx

theorem run_split (l : Bytes) : ∀ (f at_ : Nat) (ws : List Bytes), at_ ≤ l.length → l.length < f + at_ → finM (runM (l.drop at_) ⟨0, [], ws⟩) = (splitR l f at_).map (ws ++ ·)
  | 0, at_, ws, h1, h2 => by omega
  | f + 1, at_, ws, h1, h2 => by
    have key : ∀ (st : Nat) (w : Bytes) (to : Nat), at_ ≤ to → to ≤ l.length → (st = 4 ∨ (st = 1 ∧ ∀ c, l[to]? = some c → simB c = false)) → runM (l.drop at_) ⟨0, [], ws⟩ = runM (l.drop to) ⟨st, w, ws⟩ → wordS l at_ = some (w, to) →
        finM (runM (l.drop at_) ⟨0, [], ws⟩) = (splitR l (f + 1) at_).map (ws ++ ·) := by
      intro st w to h3 h4 h5 h6 h7
      rw [h6, splitR, h7]
      obtain ⟨a1, a2⟩ := run_after l to st w ws h5 h4
      by_cases he : to = l.length
      · rw [a1 he]; simp [he]
      · rw [a2 he]
        simp only [if_neg he]
        by_cases h32 : (l[to]?.map (·.toNat)) = some 32
        · rw [if_pos h32, if_pos h32, run_split l f (to + 1) (ws ++ [w]) (by omega) (by omega), Option.map_map]
          congr 1
          funext x
          simp
        · rw [if_neg h32, if_neg h32]; rfl
    by_cases hq : (l[at_]?.map (·.toNat)) = some 34
    · have hlt : at_ < l.length := by
        rcases Nat.lt_or_ge at_ l.length with h | h
        · exact h
        · rw [List.getElem?_eq_none h] at hq; cases hq
      have hc : l[at_].toNat = 34 := by rw [List.getElem?_eq_getElem hlt] at hq; simpa using hq
      have e : runM (l.drop at_) ⟨0, [], ws⟩ = runM (l.drop (at_ + 1)) ⟨2, [], ws⟩ := by
        rw [List.drop_eq_getElem_cons hlt, runM]; simp [takeS, hc]
      have hw : wordS l at_ = wordQ (l.drop (at_ + 1)) [] (at_ + 1) := by rw [wordS, if_pos hq]
      have hr := run_quoted (l.drop (at_ + 1)) [] ws (at_ + 1)
      cases hwq : wordQ (l.drop (at_ + 1)) [] (at_ + 1) with
      | none => rw [hwq] at hr; rw [e, hr, splitR, hw, hwq]; rfl
      | some p =>
        obtain ⟨w, to⟩ := p
        rw [hwq] at hr
        obtain ⟨r1, r2, r3⟩ := hr
        rw [List.length_drop] at r2
        refine key 4 w to (by omega) (by omega) (.inl rfl) ?_ (by rw [hw, hwq])
        rw [e, r3, List.drop_drop, show at_ + 1 + (to - (at_ + 1)) = to by omega]
    · obtain ⟨t1, t2, t3⟩ := takeWhile_spec simB (l.drop at_)
      by_cases hp : (l.drop at_).takeWhile simB = []
      · have hw : wordS l at_ = none := by rw [wordS, if_neg hq, if_pos hp]
        rw [splitR, hw]
        simp only [Option.map_none]
        rcases Nat.lt_or_ge at_ l.length with hlt | hge
        · rw [List.drop_eq_getElem_cons hlt, runM]
          have hs : simB l[at_] = false := t3 _ (by rw [hp, List.length_nil, List.getElem?_drop]; simp [hlt])
          have hn : l[at_].toNat ≠ 34 := fun h => hq (by rw [List.getElem?_eq_getElem hlt]; simp [h])
          simp [takeS, hn, hs, finM]
        · rw [List.drop_of_length_le hge]; rfl
      · have hw : wordS l at_ = some ((l.drop at_).takeWhile simB, at_ + ((l.drop at_).takeWhile simB).length) := by rw [wordS, if_neg hq, if_neg hp]
        have hlen : ((l.drop at_).takeWhile simB).length ≤ (l.drop at_).length := (List.takeWhile_sublist _).length_le
        rw [List.length_drop] at hlen
        refine key 1 ((l.drop at_).takeWhile simB) (at_ + ((l.drop at_).takeWhile simB).length) (by omega) (by omega) (.inr ⟨rfl, fun c hc => t3 c (by rw [List.getElem?_drop]; exact hc)⟩) ?_ hw
        have e1 : l.drop (at_ + ((l.drop at_).takeWhile simB).length) = (l.drop at_).drop ((l.drop at_).takeWhile simB).length := by rw [List.drop_drop]
        rw [e1]
        conv => lhs; rw [t1]
        cases htw : (l.drop at_).takeWhile simB with
        | nil => exact absurd htw hp
        | cons c p =>
          rw [htw] at t2
          have hc := t2 c (by simp)
          have hn := simB_not hc
          rw [List.cons_append, runM]
          simp only [takeS, if_true, if_neg hn.1, hc, List.nil_append]
          rw [run_plain p _ _ ws (fun x hx => t2 x (List.mem_cons_of_mem _ hx))]
          rfl

theorem split_same (l : Bytes) : splitS l = rSplitS l := by
  unfold splitS rSplitS
  have h := run_split l (l.length + 1) 0 [] (by omega) (by omega)
  rw [List.drop_zero] at h
  rw [h]
  simp
end Go.Wo
set_option linter.unusedVariables false
set_option linter.unusedSimpArgs false
namespace Go.Wo
open Go

def bareB (s : Bytes) : Bool := s.all simB && !s.isEmpty
def escB (c : UInt8) : Bytes := if c.toNat = 34 ∨ c.toNat = 92 then [92, c] else if c.toNat = 10 then [92, 110] else if c.toNat = 13 then [92, 114] else [c]
def writeS (s : Bytes) : Bytes := if bareB s = true then s else 34 :: (s.flatMap escB ++ [34])
def joinB : List Bytes → Bytes
  | [] => []
  | x :: r => writeS x ++ r.flatMap fun w => 32 :: writeS w
def joinS (l : List Bytes) : Bytes × Int := if 64 < l.length then ([], 3) else if 4096 < (joinB l).length then ([], 3) else (joinB l, 0)

theorem escB_len (c : UInt8) : 1 ≤ (escB c).length ∧ (escB c).length ≤ 2 := by
  unfold escB
  repeat' split
  all_goals simp
theorem esc_len : ∀ s : Bytes, s.length ≤ (s.flatMap escB).length ∧ (s.flatMap escB).length ≤ 2 * s.length
  | [] => by simp
  | c :: s => by
    have h1 := escB_len c
    have h2 := esc_len s
    simp only [List.flatMap_cons, List.length_append, List.length_cons]
    omega
theorem writeS_len (s : Bytes) : s.length ≤ (writeS s).length ∧ (writeS s).length ≤ 2 * s.length + 2 := by
  unfold writeS
  have := esc_len s
  split
  · omega
  · simp only [List.length_cons, List.length_append, List.length_singleton]; simp only [List.length_nil]; omega
theorem joinB_snoc (l : List Bytes) (x : Bytes) : joinB (l ++ [x]) = joinB l ++ (if l = [] then [] else [32]) ++ writeS x := by
  cases l with
  | nil => simp [joinB]
  | cons a r => simp [joinB, List.flatMap_append]
theorem joinB_take {l : List Bytes} {k : Nat} (h : k < l.length) : joinB (l.take (k + 1)) = joinB (l.take k) ++ (if k = 0 then [] else [32]) ++ writeS (l[k]?.getD []) := by
  rw [List.take_add_one, List.getElem?_eq_getElem h]
  simp only [Option.toList_some, Option.getD_some]
  rw [joinB_snoc]
  congr 2
  by_cases h0 : k = 0
  · subst h0; simp
  · rw [if_neg (fun h' => h0 (by have := congrArg List.length h'; rw [List.length_take, List.length_nil] at this; omega)), if_neg h0]
theorem joinB_mono (l : List Bytes) (k : Nat) : (joinB (l.take k)).length ≤ (joinB l).length := by
  rcases Nat.lt_or_ge k l.length with h | h
  · have step : ∀ d, k + d ≤ l.length → (joinB (l.take k)).length ≤ (joinB (l.take (k + d))).length := by
      intro d
      induction d with
      | zero => intro _; exact Nat.le_refl _
      | succ d ih =>
        intro hd
        have := ih (by omega)
        rw [← Nat.add_assoc, joinB_take (by omega)]
        simp only [List.length_append]
        omega
    have := step (l.length - k) (by omega)
    rw [show k + (l.length - k) = l.length by omega, List.take_length] at this
    exact this
  · rw [List.take_of_length_le h]; exact Nat.le_refl _

/-! ### words come back from their line -/

theorem meanB_esc {c : UInt8} (h : c.toNat = 34 ∨ c.toNat = 92) : meanB c = (c, true) := if_pos h
/-- An escaped byte, read in quotes. -/
theorem run_esc (c : UInt8) (rest wd : Bytes) (ws : List Bytes) : runM (escB c ++ rest) ⟨2, wd, ws⟩ = runM rest ⟨2, wd ++ [c], ws⟩ := by
  have t92 : ∀ wd, takeS ⟨2, wd, ws⟩ 92 = (⟨3, wd, ws⟩, true) := fun wd => by simp [takeS]
  unfold escB
  by_cases h1 : c.toNat = 34 ∨ c.toNat = 92
  · rw [if_pos h1]
    show runM (92 :: c :: rest) _ = _
    rw [runM, t92, if_pos rfl, runM]
    have : takeS ⟨3, wd, ws⟩ c = (⟨2, wd ++ [c], ws⟩, true) := by simp [takeS, meanB_esc h1]
    simp only [this, if_true]
  · rw [if_neg h1]
    by_cases h2 : c.toNat = 10
    · rw [if_pos h2]
      obtain rfl : c = 10 := by apply UInt8.toNat_inj.1; exact h2
      show runM (92 :: 110 :: rest) _ = _
      rw [runM, t92, if_pos rfl, runM]
      have : takeS ⟨3, wd, ws⟩ 110 = (⟨2, wd ++ [10], ws⟩, true) := by simp [takeS, meanB]
      simp only [this, if_true]
    · rw [if_neg h2]
      by_cases h3 : c.toNat = 13
      · rw [if_pos h3]
        obtain rfl : c = 13 := by apply UInt8.toNat_inj.1; exact h3
        show runM (92 :: 114 :: rest) _ = _
        rw [runM, t92, if_pos rfl, runM]
        have : takeS ⟨3, wd, ws⟩ 114 = (⟨2, wd ++ [13], ws⟩, true) := by simp [takeS, meanB]
        simp only [this, if_true]
      · rw [if_neg h3]
        show runM (c :: rest) _ = _
        rw [runM]
        have : takeS ⟨2, wd, ws⟩ c = (⟨2, wd ++ [c], ws⟩, true) := by
          have a1 : ¬ c.toNat = 34 := fun h => h1 (.inl h)
          have a2 : ¬ c.toNat = 92 := fun h => h1 (.inr h)
          simp [takeS, a1, a2, h2, h3]
        simp only [this, if_true]
theorem run_escs : ∀ (s rest wd : Bytes) (ws : List Bytes), runM (s.flatMap escB ++ rest) ⟨2, wd, ws⟩ = runM rest ⟨2, wd ++ s, ws⟩
  | [], rest, wd, ws => by simp
  | c :: s, rest, wd, ws => by
    rw [List.flatMap_cons, List.append_assoc, run_esc, run_escs s]
    simp
/-- A written word, read from the beginning of a word. -/
theorem run_write (s rest : Bytes) (ws : List Bytes) : ∃ st, (st = 1 ∨ st = 4) ∧ runM (writeS s ++ rest) ⟨0, [], ws⟩ = runM rest ⟨st, s, ws⟩ := by
  unfold writeS
  by_cases hb : bareB s = true
  · rw [if_pos hb]
    refine ⟨1, .inl rfl, ?_⟩
    unfold bareB at hb
    simp only [Bool.and_eq_true, List.all_eq_true] at hb
    cases s with
    | nil => simp at hb
    | cons c s =>
      have hc := hb.1 c (by simp)
      have hn := simB_not hc
      rw [List.cons_append, runM]
      have : takeS ⟨0, [], ws⟩ c = (⟨1, [c], ws⟩, true) := by simp [takeS, hn.1, hc]
      simp only [this, if_true]
      rw [run_plain s rest [c] ws (fun x hx => hb.1 x (List.mem_cons_of_mem _ hx))]
      rfl
  · rw [if_neg hb]
    refine ⟨4, .inr rfl, ?_⟩
    rw [List.cons_append, runM]
    have : takeS ⟨0, [], ws⟩ 34 = (⟨2, [], ws⟩, true) := by simp [takeS]
    simp only [this, if_true]
    rw [List.append_assoc, run_escs, List.nil_append]
    show runM (34 :: rest) _ = _
    rw [runM]
    have : takeS ⟨2, s, ws⟩ 34 = (⟨4, s, ws⟩, true) := by simp [takeS]
    simp only [this, if_true]
theorem run_join (r : List Bytes) : ∀ (x : Bytes) (ws : List Bytes), finM (runM (joinB (x :: r)) ⟨0, [], ws⟩) = some (ws ++ x :: r) := by
  induction r with
  | nil =>
    intro x ws
    obtain ⟨st, hst, h⟩ := run_write x [] ws
    rw [joinB, List.flatMap_nil, h]
    rcases hst with rfl | rfl <;> rfl
  | cons y r ih =>
    intro x ws
    obtain ⟨st, hst, h⟩ := run_write x (32 :: joinB (y :: r)) ws
    have e : joinB (x :: y :: r) = writeS x ++ 32 :: joinB (y :: r) := by simp [joinB]
    rw [e, h, runM]
    have : takeS ⟨st, x, ws⟩ 32 = (⟨0, [], ws ++ [x]⟩, true) := by rcases hst with rfl | rfl <;> simp [takeS, pushS]
    simp only [this, if_true]
    rw [ih]
    simp

theorem writeS_ne (s : Bytes) : writeS s ≠ [] := by
  unfold writeS
  split
  · rename_i h
    intro h'
    rw [h'] at h
    simp [bareB] at h
  · simp
theorem joinB_ne {l : List Bytes} (h : l ≠ []) : joinB l ≠ [] := by
  cases l with
  | nil => exact absurd rfl h
  | cons x r => intro h'; rw [joinB] at h'; exact writeS_ne x (List.append_eq_nil_iff.1 h').1
/-- **Words come back from their line.** -/
theorem split_join (l : List Bytes) (h : (joinS l).2 = 0) : splitS (joinS l).1 = (l, 0) := by
  unfold joinS at h ⊢
  by_cases h1 : 64 < l.length
  · rw [if_pos h1] at h; simp at h
  · rw [if_neg h1] at h ⊢
    by_cases h2 : 4096 < (joinB l).length
    · rw [if_pos h2] at h; simp at h
    · rw [if_neg h2]
      simp only
      unfold splitS
      rw [if_neg h2]
      by_cases h3 : l = []
      · subst h3; rfl
      · rw [if_neg (joinB_ne h3)]
        cases l with
        | nil => exact absurd rfl h3
        | cons x r =>
          rw [run_join]
          simp only [List.nil_append]
          rw [if_neg h1]

/-- A written word has no line feed in it. -/
theorem writeS_nl (s : Bytes) : ∀ c ∈ writeS s, c ≠ 10 := by
  unfold writeS
  split
  · rename_i h
    intro c hc h'
    subst h'
    unfold bareB at h
    simp only [Bool.and_eq_true, List.all_eq_true] at h
    have := h.1 _ hc
    simp [simB] at this
  · intro c hc h'
    subst h'
    simp only [List.mem_cons, List.mem_append, List.mem_flatMap, List.not_mem_nil, or_false] at hc
    rcases hc with hc | ⟨d, hd, hc⟩ | hc
    · cases hc
    · unfold escB at hc
      split at hc
      · rename_i hq
        simp only [List.mem_cons, List.not_mem_nil, or_false] at hc
        rcases hc with hc | hc
        · cases hc
        · subst hc; simp at hq
      · split at hc
        · simp only [List.mem_cons, List.not_mem_nil, or_false] at hc
          rcases hc with hc | hc <;> cases hc
        · split at hc
          · simp only [List.mem_cons, List.not_mem_nil, or_false] at hc
            rcases hc with hc | hc <;> cases hc
          · rename_i h10 _
            simp only [List.mem_cons, List.not_mem_nil, or_false] at hc
            subst hc
            exact h10 rfl
    · cases hc
theorem joinB_nl (l : List Bytes) : ∀ c ∈ joinB l, c ≠ 10 := by
  cases l with
  | nil => simp [joinB]
  | cons x r =>
    intro c hc
    simp only [joinB, List.mem_append, List.mem_flatMap, List.mem_cons] at hc
    rcases hc with hc | ⟨w, hw, hc | hc⟩
    · exact writeS_nl x c hc
    · subst hc; decide
    · exact writeS_nl w c hc
end Go.Wo
set_option linter.unusedVariables false
set_option linter.unusedSimpArgs false
namespace Go.Wo
open Go

def digB (c : UInt8) : Bool := decide (48 ≤ c.toNat) && decide (c.toNat ≤ 57)
/-- what digits spell behind a number -/
def valD (acc : Nat) (l : Bytes) : Nat := l.foldl (fun a c => a * 10 + (c.toNat - 48)) acc
theorem valD_nil (acc : Nat) : valD acc [] = acc := by simp only [valD, List.foldl_nil]
theorem valD_cons (acc : Nat) (c : UInt8) (l : Bytes) : valD acc (c :: l) = valD (acc * 10 + (c.toNat - 48)) l := by simp only [valD, List.foldl_cons]
def negS (s : Bytes) : Bool := decide ((s[0]?.map (·.toNat)) = some 45)
def digsS (s : Bytes) : Bytes := if negS s = true then s.drop 1 else s
def badS (s : Bytes) : Bool := decide (digsS s = []) || (decide (((digsS s)[0]?.map (·.toNat)) = some 48) && (decide (1 < (digsS s).length) || negS s)) || !(digsS s).all digB
def numS (s : Bytes) : Int × Int :=
  if badS s = true then (0, 5)
  else if negS s = true then (if 9223372036854775808 < valD 0 (digsS s) then (0, 2) else (-(valD 0 (digsS s) : Int), 0))
  else (if 9223372036854775808 ≤ valD 0 (digsS s) then (0, 2) else ((valD 0 (digsS s) : Int), 0))

theorem valD_ge : ∀ (l : Bytes) (acc : Nat), acc ≤ valD acc l
  | [], acc => by rw [valD_nil]; exact Nat.le_refl _
  | c :: l, acc => by
    have := valD_ge l (acc * 10 + (c.toNat - 48))
    rw [valD_cons]; omega
theorem valD_app (l m : Bytes) (acc : Nat) : valD acc (l ++ m) = valD (valD acc l) m := by simp only [valD, List.foldl_append]
theorem valD_snoc (l : Bytes) (acc : Nat) (c : UInt8) : valD acc (l ++ [c]) = valD acc l * 10 + (c.toNat - 48) := by rw [valD_app, valD_cons, valD_nil]

theorem dig_iff {c : UInt8} : digB c = true ↔ 48 ≤ c.toNat ∧ c.toNat ≤ 57 := by simp [digB]

theorem parse_val : ∀ (l : Bytes) (acc : Nat), l.all digB = true → acc ≤ 18446744073709551615 → Lib.parseUintM 18446744073709551615 acc l = if valD acc l ≤ 18446744073709551615 then .ok (valD acc l) else .range
  | [], acc, _, ha => by rw [valD_nil, if_pos ha]; rfl
  | c :: l, acc, h, ha => by
    simp only [List.all_cons, Bool.and_eq_true] at h
    have hc := dig_iff.1 h.1
    rw [Lib.parseUintM, if_pos hc, valD_cons]
    have hge := valD_ge l (acc * 10 + (c.toNat - 48))
    by_cases h1 : 1844674407370955162 ≤ acc
    · rw [if_pos h1, if_neg (by omega)]
    · rw [if_neg h1]
      by_cases h2 : 18446744073709551615 < acc * 10 + (c.toNat - 48)
      · rw [if_pos h2, if_neg (by omega)]
      · rw [if_neg h2, parse_val l _ h.2 (by omega)]

/-- Of digits alone: the number, or out of range. -/
theorem parseIntB_digits (s : Bytes) (hb : badS s = false) : Lib.parseIntB 64 s =
    if negS s = true then (if 9223372036854775808 < valD 0 (digsS s) then .range else .ok (-(valD 0 (digsS s) : Int)))
    else (if 9223372036854775808 ≤ valD 0 (digsS s) then .range else .ok (valD 0 (digsS s) : Int)) := by
  unfold badS at hb
  simp only [Bool.or_eq_false_iff, decide_eq_false_iff_not, Bool.not_eq_false'] at hb
  obtain ⟨⟨hne, _⟩, hall⟩ := hb
  have hu : Lib.parseUintB 64 (digsS s) = if valD 0 (digsS s) ≤ 18446744073709551615 then .ok (valD 0 (digsS s)) else .range := by
    unfold Lib.parseUintB
    rw [if_neg hne, show (2 : Nat) ^ 64 - 1 = 18446744073709551615 by decide, parse_val _ _ hall (by omega)]
  cases s with
  | nil => simp [digsS] at hne
  | cons c r =>
    by_cases hc : c.toNat = 45
    · have hn : negS (c :: r) = true := by simp [negS, hc]
      have hd : digsS (c :: r) = r := by rw [digsS, if_pos hn]; rfl
      rw [if_pos hn]
      rw [hd] at hu ⊢
      obtain rfl : c = 45 := UInt8.toNat_inj.1 hc
      rw [Lib.parseIntB_minus, hu, show (2 : Nat) ^ (64 - 1) = 9223372036854775808 by decide]
      split
      · rfl
      · simp only [Lib.signedC]; rw [if_pos (by omega)]
    · have hn : ¬ negS (c :: r) = true := by simp [negS, hc]
      have hd : digsS (c :: r) = c :: r := by rw [digsS, if_neg hn]
      rw [if_neg hn]
      rw [hd] at hu hall ⊢
      simp only [List.all_cons, Bool.and_eq_true] at hall
      have hc2 := dig_iff.1 hall.1
      rw [Lib.parseIntB_plain 64 c r (by omega) (by omega), hu, show (2 : Nat) ^ (64 - 1) = 9223372036854775808 by decide]
      split
      · rfl
      · simp only [Lib.signlessC]; rw [if_pos (by omega)]

/-! ### numbers come back from their strings -/

theorem dec_val (u : Nat) : valD 0 (Lib.decDigits u) = u ∧ (Lib.decDigits u).all digB = true ∧ Lib.decDigits u ≠ [] ∧ (((Lib.decDigits u)[0]?.map (·.toNat)) = some 48 → u = 0) := by
  induction u using Nat.strongRecOn with
  | _ u ih =>
    by_cases h : u < 10
    · rw [Lib.decDigits, dif_pos h]
      have e : (UInt8.ofNat (48 + u)).toNat = 48 + u := by rw [UInt8.toNat_ofNat']; omega
      refine ⟨by rw [valD_cons, valD_nil, e]; omega, by simp only [List.all_cons, List.all_nil, Bool.and_true]; rw [dig_iff, e]; omega, by simp, ?_⟩
      intro h0
      simp only [List.getElem?_cons_zero, Option.map_some, e, Option.some.injEq] at h0
      omega
    · rw [Lib.decDigits, dif_neg h]
      obtain ⟨i1, i2, i3, i4⟩ := ih (u / 10) (by omega)
      have e : (UInt8.ofNat (48 + u % 10)).toNat = 48 + u % 10 := by rw [UInt8.toNat_ofNat']; omega
      refine ⟨?_, ?_, by simp, ?_⟩
      · rw [valD_snoc, i1, e]; omega
      · rw [List.all_append, i2, Bool.true_and]
        simp only [List.all_cons, List.all_nil, Bool.and_true]; rw [dig_iff, e]; omega
      · intro h0
        rw [List.getElem?_append_left (List.length_pos_iff.2 i3)] at h0
        have := i4 h0
        omega
theorem itoa_num (n : Int) (h0 : -9223372036854775808 ≤ n) (h1 : n ≤ 9223372036854775807) : numS (Lib.itoa n) = (n, 0) := by
  unfold Lib.itoa
  by_cases hn : n < 0
  · rw [if_pos hn]
    obtain ⟨d1, d2, d3, d4⟩ := dec_val n.natAbs
    have hneg : negS (45 :: Lib.decDigits n.natAbs) = true := by simp [negS]
    have hd : digsS (45 :: Lib.decDigits n.natAbs) = Lib.decDigits n.natAbs := by rw [digsS, if_pos hneg]; rfl
    have hb : badS (45 :: Lib.decDigits n.natAbs) = false := by
      unfold badS
      rw [hd, d2, decide_eq_false d3]
      have : ¬ ((Lib.decDigits n.natAbs)[0]?.map (·.toNat)) = some 48 := fun h => by have := d4 h; omega
      rw [decide_eq_false this]
      rfl
    rw [numS, hb, if_neg (by simp), if_pos hneg, hd, d1, if_neg (by omega)]
    congr 1
    omega
  · rw [if_neg hn]
    obtain ⟨d1, d2, d3, d4⟩ := dec_val n.toNat
    have hhead : ¬ ((Lib.decDigits n.toNat)[0]?.map (·.toNat)) = some 45 := by
      intro h
      cases hl : Lib.decDigits n.toNat with
      | nil => exact d3 hl
      | cons c r =>
        rw [hl] at h d2
        simp only [List.all_cons, Bool.and_eq_true] at d2
        have := dig_iff.1 d2.1
        simp at h
        omega
    have hneg : ¬ negS (Lib.decDigits n.toNat) = true := by unfold negS; rw [decide_eq_true_eq]; exact hhead
    have hd : digsS (Lib.decDigits n.toNat) = Lib.decDigits n.toNat := by rw [digsS, if_neg hneg]
    have hb : badS (Lib.decDigits n.toNat) = false := by
      unfold badS
      rw [hd, d2, decide_eq_false d3]
      simp only [Bool.not_eq_true] at hneg
      rw [hneg]
      by_cases h48 : ((Lib.decDigits n.toNat)[0]?.map (·.toNat)) = some 48
      · have h0 := d4 h48
        rw [h0, show Lib.decDigits 0 = [48] by rw [Lib.decDigits]; rfl]
        decide
      · rw [decide_eq_false h48]; rfl
    rw [numS, hb, if_neg (by simp), if_neg hneg, hd, d1, if_neg (by omega)]
    congr 1
    omega
end Go.Wo
