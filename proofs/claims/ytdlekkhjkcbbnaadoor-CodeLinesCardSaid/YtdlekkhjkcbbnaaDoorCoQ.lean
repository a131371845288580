/-
  Plain law: a right program comes back from its text, also among comments and empty lines; a line that cannot be read is told by its number.
-/
import Derived.Test.YtdlekkhjkcbbnaaDoorCoP
import Derived.Test.YtdlekkhjkcbbnaaDoorCoC
set_option linter.unusedVariables false
set_option linter.unusedSimpArgs false
set_option maxRecDepth 8000
namespace Go.Proofs.YtdlekkhjkcbbnaaDoor
open Go.Ab Go.Id Go.Wo Go

theorem num_simB {c : UInt8} (h : digB c = true) : simB c = true := by
  have := dig_iff.1 h
  simp only [simB, Bool.and_eq_true, decide_eq_true_eq, Bool.not_eq_true', decide_eq_false_iff_not]
  omega
theorem itoa_bare (n : Int) : bareB (Lib.itoa n) = true := by
  have hd : ∀ u, bareB (Lib.decDigits u) = true := fun u => by
    obtain ⟨_, h2, h3, _⟩ := dec_val u
    unfold bareB
    rw [Bool.and_eq_true]
    refine ⟨List.all_eq_true.2 fun c hc => num_simB (List.all_eq_true.1 h2 c hc), ?_⟩
    cases h : Lib.decDigits u with
    | nil => exact absurd h h3
    | cons a b => rfl
  unfold Lib.itoa
  split
  · have := hd n.natAbs
    unfold bareB at this ⊢
    rw [Bool.and_eq_true] at this
    rw [Bool.and_eq_true]
    refine ⟨?_, rfl⟩
    show List.all (45 :: _) simB = true
    rw [List.all_cons, this.1]
    rfl
  · exact hd _
theorem opT_bare (l : UInt8) (n : Int) : bareB (opT l n) = true := by
  unfold opT
  split
  · have := itoa_bare n
    unfold bareB at this ⊢
    rw [Bool.and_eq_true] at this
    rw [Bool.and_eq_true]
    refine ⟨?_, rfl⟩
    rw [List.all_cons, this.1]
    rfl
  · exact itoa_bare n
theorem writeS_bare {s : Bytes} (h : bareB s = true) : writeS s = s := by rw [writeS, if_pos h]
theorem nameS_bare : ∀ k, k < 13 → bareB (nameS k) = true := by decide
theorem opsT_bare : ∀ (ls : Bytes) (ns : List Int), ∀ w ∈ opsT ls ns, bareB w = true
  | [], _ => fun w hw => by simp [opsT] at hw
  | _ :: _, [] => fun w hw => by simp [opsT] at hw
  | l :: ls, n :: ns => fun w hw => by
    rw [opsT] at hw
    rcases List.mem_cons.1 hw with rfl | hw
    · exact opT_bare l n
    · exact opsT_bare ls ns w hw
theorem joinB_bare {w : Bytes} {ws : List Bytes} (h : bareB w = true) (hs : ∀ x ∈ ws, bareB x = true) : joinB (w :: ws) = w ++ ws.flatMap fun x => 32 :: x := by
  rw [joinB, writeS_bare h]
  congr 1
  induction ws with
  | nil => rfl
  | cons x r ih =>
    rw [List.flatMap_cons, List.flatMap_cons, writeS_bare (hs x List.mem_cons_self), ih fun y hy => hs y (List.mem_cons_of_mem _ hy)]

/-- the words of the lines of a program -/
def wordsI (x : Ins) : List Bytes := nameS x.op.toNat :: opsT (letsS x.op.toNat) x.nums
def wordsH (n : Int) : List Bytes := [[112, 97, 103, 101, 115], Lib.itoa n]
def wordsT (s : Bytes) : List Bytes := [[115, 116, 114, 105, 110, 103], s]
theorem line_join {x : Ins} (h : 0 ≤ x.op ∧ x.op < 13) : lineS x = joinB (wordsI x) ++ [10] := by
  rw [wordsI, joinB_bare (nameS_bare _ (by omega)) (opsT_bare _ _)]
  rfl
theorem head_join (n : Int) : headS n = joinB (wordsH n) ++ [10] := by
  rw [wordsH, joinB_bare (by decide) (by intro x hx; rcases List.mem_cons.1 hx with rfl | hx; exact itoa_bare n; cases hx)]
  simp [headS]
theorem str_join {s : Bytes} (h : s.length ≤ 128) : strS s = joinB (wordsT s) ++ [10] ∧ (joinS (wordsT s)) = (joinB (wordsT s), 0) := by
  have h1 := (writeS_len s).2
  have h2 : (writeS [115, 116, 114, 105, 110, 103]).length = 6 := by decide
  have h3 : (joinB (wordsT s)).length ≤ 399 := by
    simp only [wordsT, joinB, List.flatMap_cons, List.flatMap_nil, List.length_append, List.length_cons, List.length_nil, h2]
    omega
  have h4 : joinS (wordsT s) = (joinB (wordsT s), 0) := by
    unfold joinS
    rw [if_neg (by simp [wordsT]), if_neg (by omega)]
  exact ⟨by unfold strS; rw [show [[115, 116, 114, 105, 110, 103], s] = wordsT s from rfl, h4], h4⟩

theorem split_back {l : List Bytes} (h1 : l.length ≤ 64) (h2 : (joinB l).length ≤ 4096) : splitS (joinB l) = (l, 0) := by
  have h : joinS l = (joinB l, 0) := by unfold joinS; rw [if_neg (by omega), if_neg (by omega)]
  have := split_join l (by rw [h])
  rwa [h] at this

/-- a line that is read as words -/
def Reads (b : Bytes) (ws : List Bytes) : Prop := b = joinB ws ∧ ws ≠ [] ∧ ws.length ≤ 64 ∧ b.length ≤ 4096 ∧ (∃ w, ws[0]? = some w ∧ (writeS w)[0]? ≠ some 35)
theorem reads_line {b : Bytes} {ws : List Bytes} (h : Reads b ws) : ¬ (b = [] ∨ b[0]? = some 35) ∧ splitS b = (ws, 0) := by
  obtain ⟨rfl, h1, h2, h3, w, h4, h5⟩ := h
  refine ⟨?_, split_back h2 h3⟩
  rintro (h | h)
  · exact joinB_ne h1 h
  · cases ws with
    | nil => exact h1 rfl
    | cons x r =>
      simp only [List.getElem?_cons_zero, Option.some.injEq] at h4
      subst h4
      rw [joinB, List.getElem?_append_left (List.length_pos_iff.2 (writeS_ne x))] at h
      exact h5 h
theorem readL_one {i : Nat} {b : Bytes} {l : List Bytes} {ws : List Bytes} {s s' : Prg × Bool} (h : Reads b ws) (ht : takeO s ws = some s') : readL i (b :: l) s = readL (i + 1) l s' := by
  obtain ⟨h1, h2⟩ := reads_line h
  rw [readL, if_neg h1, h2]
  simp [ht]
theorem readL_bad {i : Nat} {b : Bytes} {l : List Bytes} {ws : List Bytes} {s : Prg × Bool} (h : Reads b ws) (ht : takeO s ws = none) : readL i (b :: l) s = .inr ((i : Int) + 1, 5) := by
  obtain ⟨h1, h2⟩ := reads_line h
  rw [readL, if_neg h1, h2]
  simp [ht]
theorem readL_app : ∀ (l m : List Bytes) (i : Nat) (s : Prg × Bool), readL i (l ++ m) s = match readL i l s with
    | .inr e => .inr e
    | .inl s' => readL (i + l.length) m s'
  | [], m, i, s => by simp [readL]
  | x :: l, m, i, s => by
    rw [List.cons_append, readL, readL]
    have e : ∀ s, readL (i + 1) (l ++ m) s = match readL (i + 1) l s with
        | .inr e => .inr e
        | .inl s' => readL (i + (x :: l).length) m s' := fun s => by
      rw [readL_app l m (i + 1) s, List.length_cons, Nat.add_assoc, Nat.add_comm 1]
    split
    · exact e s
    · split
      · rfl
      · split
        · rfl
        · exact e _

theorem opIx_name : ∀ k, k < 13 → opIx (nameS k) = some k := by decide
theorem name_ne : ∀ k, k < 13 → nameS k ≠ [112, 97, 103, 101, 115] ∧ nameS k ≠ [115, 116, 114, 105, 110, 103] := by decide
theorem name_35 : ∀ k, k < 13 → (writeS (nameS k))[0]? ≠ some 35 := by decide
theorem opsT_length : ∀ (ls : Bytes) (ns : List Int), (opsT ls ns).length = min ls.length ns.length
  | [], _ => by simp [opsT]
  | _ :: _, [] => by simp [opsT]
  | l :: ls, n :: ns => by simp only [opsT, List.length_cons, opsT_length ls ns]; omega
theorem reg_itoa : ∀ k : Nat, k < 8 → (Lib.itoa (k : Int)).length = 1 := by
  intro k hk
  have : ∀ k : Nat, k < 8 → Lib.itoa (k : Int) = [UInt8.ofNat (48 + k)] := by
    intro k hk
    unfold Lib.itoa
    rw [if_neg (by omega)]
    rw [Int.toNat_natCast, Lib.decDigits, dif_pos (by omega)]
  rw [this k hk]; rfl
theorem numO_itoa {n : Int} (h : okN n) : numO (Lib.itoa n) = some n := by
  unfold numO
  rw [itoa_num n (okN_64 h).1 (okN_64 h).2]
  simp
theorem operand_back {l : UInt8} {n len : Int} (hl : len ≤ 256) (h : fitsS l.toNat n len = true) : operandO l.toNat (opT l n) = some n := by
  have hn := fitsS_okN hl h
  by_cases h1 : l.toNat = 114
  · unfold fitsS at h
    rw [if_pos h1] at h
    simp only [Bool.and_eq_true, decide_eq_true_eq] at h
    obtain ⟨k, rfl⟩ : ∃ k : Nat, n = k := ⟨n.toNat, by omega⟩
    have hr := reg_itoa k (by omega)
    unfold operandO opT
    rw [if_neg (by omega), if_pos h1, if_pos ⟨by rw [List.length_cons, hr], rfl⟩]
    rw [List.drop_succ_cons, List.drop_zero]
    exact numO_itoa hn
  · unfold operandO opT
    rw [if_pos h1, if_neg h1]
    exact numO_itoa hn
theorem operands_back {len : Int} (hl : len ≤ 256) : ∀ (ls : Bytes) (ns : List Int), ls.length ≤ ns.length → opsOK len ls ns = true → operandsO ls (opsT ls ns) = some (ns.take ls.length)
  | [], ns, _, _ => by simp [operandsO]
  | _ :: _, [], h, _ => by simp at h
  | l :: ls, n :: ns, h, ho => by
    simp only [opsOK, Bool.and_eq_true] at ho
    rw [opsT, operandsO, operand_back hl ho.1, operands_back hl ls ns (by simpa using h) ho.2]
    simp
theorem opsOK_zero {len : Int} : ∀ (ls : Bytes) (ns : List Int) (k : Nat), opsOK len ls ns = true → ls.length ≤ k → ns[k]?.getD 0 = 0
  | [], ns, k, h, _ => by
    simp only [opsOK, List.all_eq_true, decide_eq_true_eq] at h
    cases hk : ns[k]? with
    | none => rfl
    | some n => exact h n (List.mem_of_getElem? hk)
  | _ :: _, [], k, _, _ => by simp
  | l :: ls, n :: ns, k, h, hk => by
    simp only [opsOK, Bool.and_eq_true] at h
    cases k with
    | zero => simp at hk
    | succ k => simpa using opsOK_zero ls ns k h.2 (by simpa using hk)
theorem instr_back {x : Ins} {len : Int} (hl : len ≤ 256) (h : rightS x len = true) : instrO (wordsI x) = some x := by
  simp only [rightS, Bool.and_eq_true, decide_eq_true_eq] at h
  obtain ⟨⟨h0, h1⟩, h2⟩ := h
  have hk : x.op.toNat < 13 := by omega
  have hll := letsS_len x.op.toNat
  unfold instrO wordsI
  simp only [opIx_name _ hk]
  rw [if_pos (by rw [opsT_length, nums_len]; omega), operands_back hl _ _ (by rw [nums_len]; omega) h2]
  simp only [Option.map_some, Option.some.injEq]
  have e : ∀ k : Nat, (x.nums.take (letsS x.op.toNat).length)[k]?.getD 0 = x.nums[k]?.getD 0 := by
    intro k
    by_cases hkk : k < (letsS x.op.toNat).length
    · rw [List.getElem?_take_of_lt hkk]
    · rw [List.getElem?_eq_none (by rw [List.length_take]; omega), opsOK_zero _ _ k h2 (by omega)]; rfl
  unfold insOf
  rw [e, e, e]
  obtain ⟨op, a, b, c⟩ := x
  simp only [Ins.nums]
  simp only [Ins.mk.injEq]
  refine ⟨by simp only at h0; omega, rfl, rfl, rfl⟩

theorem reads_I {x : Ins} {len : Int} (hl : len ≤ 256) (h : rightS x len = true) : Reads (joinB (wordsI x)) (wordsI x) := by
  obtain ⟨⟨h0, h1⟩, h2⟩ := right_okN hl h
  have hlen := lineS_len h2
  rw [line_join ⟨h0, h1⟩, List.length_append] at hlen
  have hll := letsS_len x.op.toNat
  refine ⟨rfl, by simp [wordsI], ?_, by simp at hlen; omega, nameS x.op.toNat, rfl, name_35 _ (by omega)⟩
  simp only [wordsI, List.length_cons, opsT_length, nums_len]
  omega
theorem reads_H {n : Int} (h : okN n) : Reads (joinB (wordsH n)) (wordsH n) := by
  have hlen := headS_len h
  rw [head_join, List.length_append] at hlen
  exact ⟨rfl, by simp [wordsH], by simp [wordsH], by simp at hlen; omega, [112, 97, 103, 101, 115], rfl, by decide⟩
theorem reads_T {s : Bytes} (h : s.length ≤ 128) : Reads (joinB (wordsT s)) (wordsT s) := by
  have hlen := strS_len h
  rw [(str_join h).1, List.length_append] at hlen
  exact ⟨rfl, by simp [wordsT], by simp [wordsT], by simp at hlen; omega, [115, 116, 114, 105, 110, 103], rfl, by decide⟩

theorem read_strs : ∀ (l pre : List Bytes) (i : Nat) (n : Int), (∀ s ∈ l, s.length ≤ 128) → readL i (l.map fun s => joinB (wordsT s)) (⟨[], pre, n⟩, true) = .inl (⟨[], pre ++ l, n⟩, true)
  | [], pre, i, n, _ => by simp [readL]
  | s :: l, pre, i, n, h => by
    rw [List.map_cons, readL_one (s' := (⟨[], pre ++ [s], n⟩, true)) (reads_T (h s List.mem_cons_self)) (by simp [takeO, wordsT]), read_strs l _ _ n fun t ht => h t (List.mem_cons_of_mem _ ht)]
    simp
theorem take_ins {x : Ins} {len : Int} (hl : len ≤ 256) (h : rightS x len = true) (s : Prg × Bool) : takeO s (wordsI x) = some (⟨s.1.code ++ [x], s.1.strs, s.1.pages⟩, s.2) := by
  have h1 := (right_okN hl h).1
  have hn := name_ne x.op.toNat (by omega)
  have hi := instr_back hl h
  unfold wordsI at hi ⊢
  simp only [takeO, if_neg hn.1, if_neg hn.2, hi, Option.map_some]
theorem read_code {len : Int} (hl : len ≤ 256) : ∀ (l : List Ins) (s : Prg × Bool) (i : Nat), (∀ x ∈ l, rightS x len = true) → readL i (l.map fun x => joinB (wordsI x)) s = .inl (⟨s.1.code ++ l, s.1.strs, s.1.pages⟩, s.2)
  | [], s, i, _ => by simp [readL]
  | x :: l, s, i, h => by
    have hx := h x List.mem_cons_self
    rw [List.map_cons, readL_one (reads_I hl hx) (take_ins hl hx s), read_code hl l _ _ fun t ht => h t (List.mem_cons_of_mem _ ht)]
    simp

/-- the lines of a program's text, without their line feeds -/
def bodies (p : Prg) : List Bytes := joinB (wordsH p.pages) :: (p.strs.map fun s => joinB (wordsT s)) ++ p.code.map fun x => joinB (wordsI x)
theorem flatMap_map' {α β : Type} (f : α → β) (g : β → Bytes) (l : List α) : (l.map f).flatMap g = l.flatMap fun x => g (f x) := by
  rw [List.flatMap_map]
theorem flatMap_congr' {α : Type} {f g : α → Bytes} : ∀ {l : List α}, (∀ x ∈ l, f x = g x) → l.flatMap f = l.flatMap g
  | [], _ => rfl
  | x :: l, h => by rw [List.flatMap_cons, List.flatMap_cons, h x List.mem_cons_self, flatMap_congr' fun y hy => h y (List.mem_cons_of_mem _ hy)]
theorem text_bodies {p : Prg} (h : OkP p) : textS p = textL (bodies p) := by
  unfold textS textL bodies
  rw [List.cons_append, List.flatMap_cons, List.flatMap_append, flatMap_map', flatMap_map', head_join, flatMap_congr' (f := strS) (fun s hs => (str_join (h.short s hs)).1),
    flatMap_congr' (f := lineS) (fun x hx => line_join (right_okN (by have := h.code; omega) (h.right x hx)).1)]
  simp [List.append_assoc]
theorem bodies_nl (p : Prg) : ∀ b ∈ bodies p, ∀ c ∈ b, c ≠ 10 := by
  intro b hb
  unfold bodies at hb
  simp only [List.cons_append, List.mem_cons, List.mem_append, List.mem_map] at hb
  rcases hb with rfl | ⟨s, _, rfl⟩ | ⟨s, _, rfl⟩ <;> exact joinB_nl _
theorem cutL_text : ∀ (l : List Bytes) (y : Bytes), (∀ b ∈ l, ∀ c ∈ b, c ≠ 10) → cutL (textL l ++ y) = l ++ cutL y
  | [], y, _ => by simp [textL]
  | b :: l, y, h => by
    have ih := cutL_text l y fun x hx => h x (List.mem_cons_of_mem _ hx)
    unfold textL at ih ⊢
    rw [List.flatMap_cons, List.append_assoc, List.append_assoc, List.singleton_append, cutL_app b _ (h b List.mem_cons_self), ih]
    rfl
theorem lines_text (l : List Bytes) (h : ∀ b ∈ l, ∀ c ∈ b, c ≠ 10) : linesL (textL l) = l := by
  have := cutL_text l [] h
  rw [List.append_nil, cutL] at this
  rw [linesL_of this, if_pos rfl]
theorem lines_text_end (l : List Bytes) (y : Bytes) (h : ∀ b ∈ l, ∀ c ∈ b, c ≠ 10) (hy : ∀ c ∈ y, c ≠ 10) (h0 : y ≠ []) : linesL (textL l ++ y) = l ++ [y] := by
  have hcut : ∀ y : Bytes, (∀ c ∈ y, c ≠ 10) → cutL y = [y] := by
    intro y
    induction y with
    | nil => intro _; rfl
    | cons c y ih =>
      intro hy
      rw [cutL, if_neg (hy c List.mem_cons_self), ih fun d hd => hy d (List.mem_cons_of_mem _ hd)]
      rfl
  have := cutL_text l y h
  rw [hcut y hy] at this
  rw [linesL_of this, if_neg h0]

theorem read_bodies {p : Prg} (h : OkP p) (i : Nat) : readL i (bodies p) (zeroP, false) = .inl (p, true) := by
  have hp := pages_okN h
  have hhead : takeO (zeroP, false) (wordsH p.pages) = some (⟨[], [], p.pages⟩, true) := by
    simp [takeO, wordsH, zeroP, numO_itoa hp]
  unfold bodies
  rw [List.cons_append, readL_one (reads_H hp) hhead, readL_app, read_strs p.strs [] (i + 1) p.pages h.short]
  simp only
  rw [read_code (len := p.code.length) (by have := h.code; omega) p.code _ _ h.right]
  simp
/-- **A program comes back from its text.** -/
theorem parse_text {p : Prg} (h : OkP p) : parseS (textS p) = (p, 0, 0) := by
  unfold parseS
  rw [if_neg (by have := textS_len h; omega), text_bodies h, lines_text _ (bodies_nl p), read_bodies h]
  simp [checkS_ok h]
theorem parse_comments {p : Prg} (h : OkP p) {a e : Bytes} (ha : ∀ c ∈ a, c ≠ 10) (he : ∀ c ∈ e, c ≠ 10) (ha1 : a[0]? = some 35) (he1 : e[0]? = some 35) (hl : a.length + e.length ≤ 1000) :
    parseS (a ++ [10, 10] ++ textS p ++ e) = (p, 0, 0) := by
  have hl2 := textS_len h
  have e0 : a ++ [10, 10] ++ textS p ++ e = textL (a :: [] :: bodies p) ++ e := by
    rw [text_bodies h]
    simp [textL]
  have hne : e ≠ [] := by intro h; rw [h] at he1; cases he1
  have hnl : ∀ b ∈ a :: [] :: bodies p, ∀ c ∈ b, c ≠ 10 := by
    intro b hb
    rcases List.mem_cons.1 hb with rfl | hb
    · exact ha
    · rcases List.mem_cons.1 hb with rfl | hb
      · intro c hc; cases hc
      · exact bodies_nl p b hb
  unfold parseS
  rw [if_neg (by simp only [List.length_append, List.length_cons, List.length_nil]; omega), e0, lines_text_end _ _ hnl he hne, readL_app, readL, if_pos (.inr ha1), readL, if_pos (.inl rfl), read_bodies h]
  simp only
  rw [readL, if_pos (.inr he1), readL]
  simp [checkS_ok h]
theorem textS_inj {p q : Prg} (hp : OkP p) (hq : OkP q) (h : textS p = textS q) : p = q := by
  have h1 := parse_text hp
  rw [h, parse_text hq] at h1
  exact (Prod.mk.inj h1).1.symm

/-- the lines that cannot be read -/
def badLines : List Bytes := [[98, 111, 111], [115, 101, 116, 32, 114, 49], [97, 100, 100, 32, 114, 49, 32, 114, 50, 32, 114, 51, 32, 114, 52], [106, 117, 109, 112, 32, 120], [115, 101, 116, 32, 49, 32, 50], [110, 111, 112, 32], [34]]
theorem takeO_none (s : Prg × Bool) (w : Bytes) (ws : List Bytes) (h1 : w ≠ [112, 97, 103, 101, 115]) (h2 : w ≠ [115, 116, 114, 105, 110, 103]) (h3 : instrO (w :: ws) = none) : takeO s (w :: ws) = none := by
  simp only [takeO, if_neg h1, if_neg h2, h3, Option.map_none]
theorem bad_read (b : Bytes) (hb : b ∈ badLines) (i : Nat) (l : List Bytes) (s : Prg × Bool) : readL i (b :: l) s = .inr ((i : Int) + 1, 5) := by
  have key : ∀ ws, splitS b = (ws, 0) → ¬ (b = [] ∨ b[0]? = some 35) → takeO s ws = none → readL i (b :: l) s = .inr ((i : Int) + 1, 5) := by
    intro ws h1 h2 h3
    rw [readL, if_neg h2, h1]
    simp [h3]
  have key2 : splitS b = ([], 5) → ¬ (b = [] ∨ b[0]? = some 35) → readL i (b :: l) s = .inr ((i : Int) + 1, 5) := by
    intro h1 h2
    rw [readL, if_neg h2, h1]
    simp
  simp only [badLines, List.mem_cons, List.not_mem_nil, or_false] at hb
  rcases hb with rfl | rfl | rfl | rfl | rfl | rfl | rfl
  · exact key [[98, 111, 111]] (by kernel_rfl) (by decide) (takeO_none _ _ _ (by decide) (by decide) (by kernel_rfl))
  · exact key [[115, 101, 116], [114, 49]] (by kernel_rfl) (by decide) (takeO_none _ _ _ (by decide) (by decide) (by kernel_rfl))
  · exact key [[97, 100, 100], [114, 49], [114, 50], [114, 51], [114, 52]] (by kernel_rfl) (by decide) (takeO_none _ _ _ (by decide) (by decide) (by kernel_rfl))
  · exact key [[106, 117, 109, 112], [120]] (by kernel_rfl) (by decide) (takeO_none _ _ _ (by decide) (by decide) (by kernel_rfl))
  · exact key [[115, 101, 116], [49], [50]] (by kernel_rfl) (by decide) (takeO_none _ _ _ (by decide) (by decide) (by kernel_rfl))
  · exact key2 (by kernel_rfl) (by decide)
  · exact key2 (by kernel_rfl) (by decide)
theorem readL_take {l : List Bytes} {s s' : Prg × Bool} {i : Nat} (h : readL i l s = .inl s') (k : Nat) : ∃ s2, readL i (l.take k) s = .inl s2 := by
  have := readL_app (l.take k) (l.drop k) i s
  rw [List.take_append_drop, h] at this
  cases h2 : readL i (l.take k) s with
  | inl s2 => exact ⟨s2, rfl⟩
  | inr e => rw [h2] at this; cases this
/-- **A line that cannot be read is told by its number**, whatever comes after it. -/
theorem parse_bad {p : Prg} (h : OkP p) {b : Bytes} (hb : b ∈ badLines) (k : Nat) (hk : k ≤ (bodies p).length) :
    parseS (textL ((bodies p).take k) ++ (b ++ [10]) ++ textL ((bodies p).drop k)) = (zeroP, (k : Int) + 1, 5) := by
  have hlb : b.length ≤ 100 ∧ ∀ c ∈ b, c ≠ 10 := by
    have : ∀ b ∈ badLines, b.length ≤ 100 ∧ ∀ c ∈ b, c ≠ 10 := by decide
    exact this b hb
  have hl := textS_len h
  rw [text_bodies h, ← List.take_append_drop k (bodies p)] at hl
  have e : textL ((bodies p).take k) ++ (b ++ [10]) ++ textL ((bodies p).drop k) = textL ((bodies p).take k ++ b :: (bodies p).drop k) := by simp [textL]
  have hnl : ∀ x ∈ (bodies p).take k ++ b :: (bodies p).drop k, ∀ c ∈ x, c ≠ 10 := by
    intro x hx
    rcases List.mem_append.1 hx with hx | hx
    · exact bodies_nl p x (List.mem_of_mem_take hx)
    · rcases List.mem_cons.1 hx with rfl | hx
      · exact hlb.2
      · exact bodies_nl p x (List.mem_of_mem_drop hx)
  obtain ⟨s2, h2⟩ := readL_take (read_bodies h 0) k
  unfold parseS
  rw [if_neg ?_, e, lines_text _ hnl, readL_app, h2]
  · simp only
    rw [bad_read b hb, List.length_take, Nat.min_eq_left hk]
    simp
  · rw [e]
    simp only [textL, List.flatMap_append, List.flatMap_cons, List.length_append, List.length_singleton] at hl ⊢
    omega
end Go.Proofs.YtdlekkhjkcbbnaaDoor
