/-
  Plain: made records, parts of them, exchanged neighbours.
-/
import Derived.Test.YtkpdjbklnjjedaaJuP
set_option linter.unusedVariables false
set_option linter.unusedSimpArgs false
namespace Go.Ju
open Go.Ab Go

/-- a record that is made by single steps -/
inductive MadeR : List Acc → Prop
  | nil : MadeR []
  | snoc {l : List Acc} {a : Acc} : MadeR l → a.p ≠ 0 → a.o ≠ 0 → a.s = rLast l a.o → (a.m = 0 ∨ a.m = a.s + 1) → MadeR (l ++ [a])

theorem rLast_ge1 {l : List Acc} (h : MadeR l) (o : Int) : 1 ≤ rLast l o ∧ rLast l o ≤ l.length + 1 := by
  induction h with
  | nil => simp [rLast]
  | snoc h hp ho hs hm ih =>
    rw [rLast_snoc, List.length_append, List.length_singleton]
    split
    · rename_i e
      rw [e] at hs
      split <;> rcases hm with hm | hm <;> omega
    · omega
theorem made_vers {l : List Acc} (h : MadeR l) (o v : Int) : (rMade l o v = true → v = 0 ∨ (2 ≤ v ∧ v ≤ rLast l o)) ∧ (2 ≤ v → v ≤ rLast l o → rMade l o v = true) := by
  induction h with
  | nil =>
    refine ⟨fun h => by simp [rMade] at h, fun h1 h2 => ?_⟩
    have : rLast [] o = 1 := rfl
    omega
  | @snoc l a h hp ho hs hm ih =>
    have h1 := rLast_ge1 h o
    rw [rLast_snoc, rMade_snoc]
    simp only [Bool.or_eq_true, Bool.and_eq_true, decide_eq_true_eq]
    by_cases e : a.o = o
    · rw [if_pos e]
      rw [e] at hs
      by_cases hgt : a.m > rLast l o
      · rw [if_pos hgt]
        have hm' : a.m = a.s + 1 := by rcases hm with hm | hm <;> omega
        refine ⟨?_, fun h2 h3 => ?_⟩
        · rintro (h2 | ⟨_, h2⟩)
          · rcases ih.1 h2 with h3 | h3
            · exact .inl h3
            · exact .inr ⟨h3.1, by omega⟩
          · exact .inr ⟨by omega, by omega⟩
        · by_cases e2 : v = a.m
          · exact .inr ⟨e, e2.symm⟩
          · exact .inl (ih.2 h2 (by omega))
      · rw [if_neg hgt]
        have hm' : a.m = 0 := by rcases hm with hm | hm <;> omega
        refine ⟨?_, fun h2 h3 => .inl (ih.2 h2 h3)⟩
        rintro (h2 | ⟨_, h2⟩)
        · exact ih.1 h2
        · exact .inl (by omega)
    · rw [if_neg e]
      refine ⟨?_, fun h2 h3 => .inl (ih.2 h2 h3)⟩
      rintro (h2 | ⟨h2, _⟩)
      · exact ih.1 h2
      · exact (e h2).elim

theorem made_fits {l : List Acc} (h : MadeR l) (hl : l.length ≤ 512) : FitsL l := by
  induction h with
  | nil => intro a ha; cases ha
  | @snoc l a h hp ho hs hm ih =>
    rw [List.length_append, List.length_singleton] at hl
    intro b hb
    rcases List.mem_append.1 hb with hb | hb
    · exact ih (by omega) b hb
    · rw [List.mem_singleton] at hb; subst hb
      have := rLast_ge1 h b.o
      exact ⟨⟨by omega, by omega⟩, ⟨by rcases hm with hm | hm <;> omega, by rcases hm with hm | hm <;> omega⟩⟩

theorem rMade_mono {l : List Acc} {a : Acc} {o v : Int} (h : rMade l o v = true) : rMade (l ++ [a]) o v = true := by rw [rMade_snoc, h]; rfl

theorem rOk_iff {l : List Acc} {i : Nat} {a : Acc} (h : l[i]? = some a) : rOk l i = true ↔ a.p ≠ 0 ∧ a.o ≠ 0 ∧ 1 ≤ a.s ∧ (a.m ≠ 0 → w64 (a.m - 1) = a.s) ∧ (1 < a.s → rMade l a.o a.s = true) ∧ (a.m ≠ 0 → rMade (l.take i) a.o a.m = false) := by
  simp only [rOk, h]
  simp only [Bool.and_eq_true, Bool.not_eq_true', Bool.or_eq_false_iff, Bool.and_eq_false_iff, decide_eq_false_iff_not, Bool.not_eq_false', decide_eq_true_eq]
  constructor
  · rintro ⟨⟨⟨⟨⟨h1, h2⟩, h3⟩, h4⟩, h5⟩, h6⟩
    exact ⟨h1, h2, by omega, fun hm => h4.resolve_left hm, fun hs => h5.resolve_left (fun hn => hn hs), fun hm => h6.resolve_left hm⟩
  · rintro ⟨h1, h2, h3, h4, h5, h6⟩
    refine ⟨⟨⟨⟨⟨h1, h2⟩, by omega⟩, ?_⟩, ?_⟩, ?_⟩
    · exact Decidable.or_iff_not_imp_left.2 h4
    · exact Decidable.or_iff_not_imp_left.2 fun hn => h5 (Classical.not_not.1 hn)
    · exact Decidable.or_iff_not_imp_left.2 h6

theorem made_valid {l : List Acc} (h : MadeR l) (hl : l.length ≤ 512) : rValid l = true := by
  have key : ∀ i < l.length, rOk l i = true := by
    induction h with
    | nil => intro i hi; simp at hi
    | @snoc l a h hp ho hs hm ih =>
      intro i hi
      rw [List.length_append, List.length_singleton] at hi hl
      have h1 := rLast_ge1 h a.o
      by_cases e : i < l.length
      · have hg : l[i]? = some l[i] := List.getElem?_eq_getElem e
        have hg' : (l ++ [a])[i]? = some l[i] := by rw [List.getElem?_append_left e]; exact hg
        obtain ⟨h2, h3, h4, h5, h6, h7⟩ := (rOk_iff hg).1 (ih (by omega) i e)
        refine (rOk_iff hg').2 ⟨h2, h3, h4, h5, fun hs => rMade_mono (h6 hs), fun hm => ?_⟩
        rw [List.take_append_of_le_length (by omega)]; exact h7 hm
      · have e : i = l.length := by omega
        subst e
        have hg' : (l ++ [a])[l.length]? = some a := by simp
        have hv := made_vers h a.o
        refine (rOk_iff hg').2 ⟨hp, ho, by omega, fun hm0 => ?_, fun h2 => rMade_mono ((hv a.s).2 (by omega) (by omega)), fun hm0 => ?_⟩
        · have : a.m = a.s + 1 := hm.resolve_left hm0
          rw [w64_id (by constructor <;> omega)]; omega
        · rw [List.take_left]
          cases hh : rMade l a.o a.m with
          | false => rfl
          | true => rcases (hv a.m).1 hh with h2 | h2 <;> rcases hm with hm | hm <;> omega
  simp only [rValid, Bool.and_eq_true, decide_eq_true_eq, allTo_true]
  exact ⟨hl, key⟩

theorem rLast_mono {l : List Acc} {a : Acc} {o : Int} : rLast l o ≤ rLast (l ++ [a]) o := by
  rw [rLast_snoc]; split
  · split <;> omega
  · omega
theorem rLast_mem {l : List Acc} {b : Acc} (hM : MadeR l) (h : b ∈ l) : b.m ≤ rLast l b.o := by
  induction hM with
  | nil => cases h
  | @snoc l a hM _ _ _ _ ih =>
    rcases List.mem_append.1 h with h | h
    · exact Int.le_trans (ih h) rLast_mono
    · rw [List.mem_singleton] at h; subst h
      rw [rLast_snoc, if_pos rfl]; split <;> omega

/-- the numbers from 0 on -/
def iota (n : Nat) : List Int := (List.range n).map fun i : Nat => (i : Int)
theorem iota_succ (n : Nat) : iota (n + 1) = iota n ++ [(n : Int)] := by simp [iota, List.range_succ]
theorem iota_length (n : Nat) : (iota n).length = n := by simp [iota]
theorem iota_place {n i : Nat} (h : i < n) : rPlace (iota n) i = i := by
  refine rPlace_some (k := i) (by rw [iota_length]; exact h) (by simp [iota]) ?_
  intro hm
  rw [List.mem_take_iff_getElem] at hm
  obtain ⟨j, hj, e⟩ := hm
  rw [iota_length] at hj
  simp [iota] at e; omega

theorem made_bef {l : List Acc} (h : MadeR l) (hl : l.length ≤ 512) : ∀ i k, rBef l i k = true → i < k := by
  induction h with
  | nil => intro i k hb; have := rBef_lt hb; simp at this
  | @snoc l a h hp ho hs hm ih =>
    rw [List.length_append, List.length_singleton] at hl
    intro i k hb
    obtain ⟨x, y, hx, hy, hb'⟩ := rBef_iff.1 hb
    have hi := (List.getElem?_eq_some_iff.1 hx).1
    have hk := (List.getElem?_eq_some_iff.1 hy).1
    rw [List.length_append, List.length_singleton] at hi hk
    by_cases ei : i < l.length
    · by_cases ek : k < l.length
      · rw [List.getElem?_append_left ei] at hx
        rw [List.getElem?_append_left ek] at hy
        exact ih (by omega) i k (rBef_iff.2 ⟨x, y, hx, hy, hb'⟩)
      · omega
    · have ei : i = l.length := by omega
      subst ei
      have : x = a := by simp at hx; exact hx.symm
      subst this
      by_cases ek : k < l.length
      · exfalso
        rw [List.getElem?_append_left ek] at hy
        have hym := List.mem_of_getElem? hy
        have hyl := rLast_mem h hym
        have hfy := made_fits h (by omega) y hym
        have hv := made_valid h (by omega)
        have V := val_of (made_fits h (by omega)) hv
        have hys := V.s1 k y hy
        have h1 := rLast_ge1 h x.o
        rcases hb' with hb' | ⟨hob, hne, hb' | hb'⟩
        · omega
        · have hyk : ∀ {l' : List Acc} {y : Acc} {k : Nat}, MadeR l' → l'[k]? = some y → y.s ≤ rLast l' y.o := by
            intro l' y k h'
            induction h' generalizing k with
            | nil => intro hy; simp at hy
            | @snoc l'' c h'' _ _ hs'' _ ih'' =>
              intro hy
              by_cases e : k < l''.length
              · rw [List.getElem?_append_left e] at hy
                exact Int.le_trans (ih'' hy) rLast_mono
              · rw [List.getElem?_append_right (by omega)] at hy
                have : y = c := by
                  cases hd : k - l''.length with
                  | zero => rw [hd] at hy; simpa using hy.symm
                  | succ n => rw [hd] at hy; simp at hy
                subst this
                rw [hs'']; exact rLast_mono
          have := hyk h hy
          rw [← hob] at this
          have : x.m = x.s + 1 := hm.resolve_left hb'.1
          omega
        · have := V.step k y hy hb'.1
          have hx2 : i64 y.m := hfy.m
          rw [← hob] at hyl
          have : w64 (y.m - 1) = y.m - 1 := by
            refine w64_id ⟨?_, by have := hx2.2; omega⟩
            have : y.m ≠ -9223372036854775808 := by
              intro e
              have h2 := hfy.s.2
              rw [e, w64_eq] at this
              have h3 := hb'.2.1
              rw [e] at h3
              have h4 : w64 (-9223372036854775808 - 1) = 9223372036854775807 := by decide
              rw [h4] at h3
              omega
            have := hx2.1; omega
          rw [this] at hb'
          omega
      · have ek : k = l.length := by omega
        subst ek
        have : y = x := by simp at hy; exact hy.symm
        subst this
        rcases hb' with hb' | ⟨_, hne, _⟩
        · omega
        · exact (hne rfl).elim

theorem made_expl {l : List Acc} (h : MadeR l) (hl : l.length ≤ 512) : Expl l (iota l.length) :=
  ⟨iota_length _, fun i hi => List.mem_map.2 ⟨i, List.mem_range.2 hi, rfl⟩, fun i k hb => by
    have hlt := made_bef h hl i k hb
    have := rBef_lt hb
    rw [iota_place this.1, iota_place this.2]; omega⟩

/-- **What was made step by step: valid, explained as it was made, and an explanation is found.** -/
theorem made_all {l : List Acc} (h : MadeR l) (hl : l.length ≤ 512) : jValid l = true ∧ jExplains l (iota l.length) = true ∧ ∃ o, jOrder l = some o ∧ jExplains l o = true := by
  have hf := made_fits h hl
  have hv := made_valid h hl
  have he := made_expl h hl
  obtain ⟨o, ho⟩ := order_complete hf hv he
  refine ⟨by rw [jValid_eq hf]; exact hv, (jExplains_iff hf).2 ⟨hv, he⟩, o, by rw [jOrder_eq hf]; exact ho, (jExplains_iff hf).2 (order_sound hf ho)⟩

/-- the same, with some accesses left out that made nothing -/
inductive Thin : List Acc → List Acc → Prop
  | nil : Thin [] []
  | keep {l l' : List Acc} {a : Acc} : Thin l l' → Thin (l ++ [a]) (l' ++ [a])
  | drop {l l' : List Acc} {a : Acc} : Thin l l' → a.m = 0 → Thin (l ++ [a]) l'
theorem snoc_inj {l l' : List Acc} {a b : Acc} (h : l ++ [a] = l' ++ [b]) : l = l' ∧ a = b := by
  have := List.append_inj' h rfl
  exact ⟨this.1, by simpa using this.2⟩
theorem made_inv {l : List Acc} {a : Acc} (h : MadeR (l ++ [a])) : MadeR l ∧ a.p ≠ 0 ∧ a.o ≠ 0 ∧ a.s = rLast l a.o ∧ (a.m = 0 ∨ a.m = a.s + 1) := by
  generalize he : l ++ [a] = L at h
  cases h with
  | nil => simp at he
  | snoc h1 h2 h3 h4 h5 => obtain ⟨rfl, rfl⟩ := snoc_inj he; exact ⟨h1, h2, h3, h4, h5⟩
theorem thin_made {l l' : List Acc} (h : Thin l l') : MadeR l → MadeR l' ∧ ∀ o, rLast l' o = rLast l o := by
  induction h with
  | nil => exact fun _ => ⟨.nil, fun _ => rfl⟩
  | keep h ih =>
    intro hm
    obtain ⟨h1, h2, h3, h4, h5⟩ := made_inv hm
    obtain ⟨i1, i2⟩ := ih h1
    exact ⟨.snoc i1 h2 h3 (by rw [i2]; exact h4) h5, fun o => by rw [rLast_snoc, rLast_snoc, i2]⟩
  | drop h h0 ih =>
    intro hm
    obtain ⟨h1, h2, h3, h4, h5⟩ := made_inv hm
    obtain ⟨i1, i2⟩ := ih h1
    refine ⟨i1, fun o => ?_⟩
    rw [rLast_snoc, i2, h0]
    have := rLast_ge1 h1 o
    split
    · rw [if_neg (by omega)]
    · rfl
theorem thin_len {l l' : List Acc} (h : Thin l l') : l'.length ≤ l.length := by
  induction h with
  | nil => simp
  | keep h ih => simp; exact ih
  | drop h h0 ih => simp; omega

/-! ### the record of the mill is made so -/

theorem u64_small {n : Int} (h : 0 ≤ n) (h' : n < 100) : u64 n = n := by
  simp only [u64, IntKind.wrap, IntKind.bits, IntKind.signed, Bool.false_and]
  rw [if_neg (by simp)]; omega
theorem madeGo_made (L : List Int) : ∀ (n : Nat) (out : List Acc) (k : Nat), MadeR out → out.length + n ≤ 20 → MadeR (madeGo L n out k) ∧ (madeGo L n out k).length = out.length + n
  | 0, out, k, h, hl => ⟨h, rfl⟩
  | n + 1, out, k, h, hl => by
    have hd := dNum_bound (L := L) (k := k) (n := 3) (by omega) (by omega)
    have hd' := dNum_bound (L := L) (k := dAt L k) (n := 3) (by omega) (by omega)
    have e1 : w64 (1 + dNum L k 3) = 1 + dNum L k 3 := w64_id ⟨by omega, by omega⟩
    have e2 : w64 (1 + dNum L (dAt L k) 3) = 1 + dNum L (dAt L k) 3 := w64_id ⟨by omega, by omega⟩
    have h1 := rLast_ge1 h (1 + dNum L (dAt L k) 3)
    have ha : MadeR (out ++ [madeAcc L out k]) := by
      refine .snoc h ?_ ?_ ?_ ?_
      · simp only [madeAcc]; rw [e1, u64_small (by omega) (by omega)]; omega
      · simp only [madeAcc]; rw [e2, u64_small (by omega) (by omega)]; omega
      · simp only [madeAcc]
      · simp only [madeAcc]
        rw [e2, u64_small (by omega) (by omega)]
        split
        · right; exact w64_id ⟨by omega, by omega⟩
        · exact .inl rfl
    obtain ⟨i1, i2⟩ := madeGo_made L n (out ++ [madeAcc L out k]) (dAt L (dAt L (dAt L k))) ha (by simp; omega)
    refine ⟨i1, ?_⟩
    show (madeGo L n _ _).length = _
    rw [i2]; simp; omega
theorem madeS_made (L : List Int) : MadeR (madeS L) ∧ (madeS L).length ≤ 15 := by
  have hb := dNum_bound (L := L) (k := 0) (n := 16) (by omega) (by omega)
  obtain ⟨h1, h2⟩ := madeGo_made L (dNum L 0 16).toNat [] (dAt L 0) .nil (by simp; omega)
  refine ⟨h1, ?_⟩
  show (madeGo L _ _ _).length ≤ 15
  rw [h2]; simp; omega

/-! ### parts -/

def lessS (l : List Acc) (c : Int) : Nat → List Acc
  | 0 => []
  | k + 1 => match l[k]? with
    | some a => if a.m ≠ 0 ∨ (k : Int) ≠ c then lessS l c k ++ [a] else lessS l c k
    | none => lessS l c k
def aloneS (l : List Acc) (c : Int) : Nat → List Acc
  | 0 => []
  | k + 1 => match l[k]? with
    | some a => if a.m ≠ 0 ∨ a.p ≠ c then aloneS l c k ++ [a] else aloneS l c k
    | none => aloneS l c k
def countS (l : List Acc) : Nat → Nat
  | 0 => 0
  | k + 1 => match l[k]? with
    | some a => if a.o = 1 ∧ a.m ≠ 0 then countS l k + 1 else countS l k
    | none => countS l k
theorem less_thin (l : List Acc) (c : Int) : ∀ k ≤ l.length, Thin (l.take k) (lessS l c k)
  | 0, _ => .nil
  | k + 1, hk => by
    have ih := less_thin l c k (by omega)
    rw [take_snoc (by omega)]
    unfold lessS
    rw [List.getElem?_eq_getElem (by omega)]
    simp only
    split
    · exact .keep ih
    · rename_i h
      exact .drop ih (Classical.not_not.1 fun hn => h (.inl hn))
theorem alone_thin (l : List Acc) (c : Int) : ∀ k ≤ l.length, Thin (l.take k) (aloneS l c k)
  | 0, _ => .nil
  | k + 1, hk => by
    have ih := alone_thin l c k (by omega)
    rw [take_snoc (by omega)]
    unfold aloneS
    rw [List.getElem?_eq_getElem (by omega)]
    simp only
    split
    · exact .keep ih
    · rename_i h
      exact .drop ih (Classical.not_not.1 fun hn => h (.inl hn))
theorem made_take {l : List Acc} (h : MadeR l) : ∀ k, MadeR (l.take k) := by
  induction h with
  | nil => intro k; simp; exact .nil
  | @snoc l a h hp ho hs hm ih =>
    intro k
    by_cases e : k ≤ l.length
    · rw [List.take_append_of_le_length e]; exact ih k
    · rw [List.take_of_length_le (by simp; omega)]; exact .snoc h hp ho hs hm
theorem count_last {l : List Acc} (h : MadeR l) : ∀ k ≤ l.length, rLast (l.take k) 1 = countS l k + 1
  | 0, _ => rfl
  | k + 1, hk => by
    have ih := count_last h k (by omega)
    have hm := made_take h (k + 1)
    rw [take_snoc (by omega)] at hm ⊢
    obtain ⟨h1, h2, h3, h4, h5⟩ := made_inv hm
    unfold countS
    rw [List.getElem?_eq_getElem (by omega), rLast_snoc]
    show _ = ((if l[k].o = 1 ∧ l[k].m ≠ 0 then countS l k + 1 else countS l k : Nat) : Int) + 1
    have hge := rLast_ge1 h1 1
    by_cases ho : l[k].o = 1
    · rw [ho] at h4
      rcases h5 with h5 | h5
      · have c1 : ¬ (l[k].o = 1 ∧ l[k].m ≠ 0) := fun h => h.2 h5
        have c2 : ¬ l[k].m > rLast (l.take k) 1 := by omega
        rw [if_neg c1, if_pos ho, if_neg c2]; exact ih
      · have c1 : l[k].o = 1 ∧ l[k].m ≠ 0 := ⟨ho, by omega⟩
        have c2 : l[k].m > rLast (l.take k) 1 := by omega
        rw [if_pos c1, if_pos ho, if_pos c2]; omega
    · have c1 : ¬ (l[k].o = 1 ∧ l[k].m ≠ 0) := fun h => ho h.1
      rw [if_neg c1, if_neg ho]; exact ih
theorem parts_all {l : List Acc} (h : MadeR l) (hl : l.length ≤ 15) (c d : Int) :
    rLast l 1 = countS l l.length + 1 ∧ (jOrder (lessS l c l.length)).isSome = true ∧ (jOrder (aloneS l d l.length)).isSome = true ∧ jValid (lessS l c l.length) = true ∧ jValid (aloneS l d l.length) = true := by
  have hc := count_last h l.length (Nat.le_refl _)
  have h1 := less_thin l c l.length (Nat.le_refl _)
  have h2 := alone_thin l d l.length (Nat.le_refl _)
  rw [List.take_length] at hc h1 h2
  have m1 := thin_made h1 h
  have m2 := thin_made h2 h
  have l1 := thin_len h1
  have l2 := thin_len h2
  obtain ⟨a1, a2, o1, a3, a4⟩ := made_all m1.1 (by omega)
  obtain ⟨b1, b2, o2, b3, b4⟩ := made_all m2.1 (by omega)
  exact ⟨hc, by rw [a3]; rfl, by rw [b3]; rfl, a1, b1⟩

/-! ### neighbours -/

section
variable {l : List Acc}

theorem vers_mono (V : Val l) {q : List Int} (he : Expl l q) : ∀ (n : Nat) (i j : Nat) (a b : Acc), l[i]? = some a → l[j]? = some b → a.o = b.o → a.s < b.s → (b.s - a.s).toNat ≤ n → rPlace q i < rPlace q j
  | 0, i, j, a, b, ha, hb, ho, hs, hn => by omega
  | n + 1, i, j, a, b, ha, hb, ho, hs, hn => by
    have s1 := V.s1 i a ha
    obtain ⟨t, c, hc, hco, hcm⟩ := V.src j b hb (by omega)
    have cs := V.s1 t c hc
    have hc0 : c.m ≠ 0 := by omega
    have hst := V.step t c hc hc0
    have fc := V.fits c (List.mem_of_getElem? hc)
    have fb := V.fits b (List.mem_of_getElem? hb)
    have hcs : c.s = b.s - 1 := by
      have := fc.s; have := fb.s
      rw [hcm, w64_eq] at hst
      split at hst <;> omega
    have htj : t ≠ j := by
      rintro rfl
      rw [hb] at hc; cases hc
      omega
    have h1 : rPlace q t < rPlace q j := he.2.2 t j (rBef_iff.2 ⟨c, b, hc, hb, .inr ⟨hco, htj, .inl ⟨hc0, hcm⟩⟩⟩)
    by_cases e : c.s = a.s
    · by_cases e2 : i = t
      · subst e2; exact h1
      · have h2 : rPlace q i < rPlace q t := he.2.2 i t (rBef_iff.2 ⟨a, c, ha, hc, .inr ⟨by rw [ho, hco], e2, .inr ⟨hc0, ?_, fun hm => e2 (V.uniq t i c a hc ha (by rw [hco, ho]) hm.symm hc0).symm⟩⟩⟩)
        · omega
        · rw [w64_id ⟨by omega, by have := fc.m; omega⟩]; omega
    · have h2 := vers_mono V he n i t a c ha hc (by rw [ho, hco]) (by omega) (by omega)
      omega

theorem neighbours (V : Val l) {A B : List Int} {x y : Nat} {a b : Acc} (he : Expl l (A ++ (x : Int) :: (y : Int) :: B)) (ha : l[x]? = some a) (hb : l[y]? = some b) (h : a.p = b.p ∨ (a.o = b.o ∧ (a.m ≠ 0 ∨ b.m ≠ 0))) : rBef l x y = true := by
  obtain ⟨hnd, _⟩ := all_nodup l.length _ he.2.1 he.1
  have hd := List.nodup_append.1 hnd
  have hxA : (x : Int) ∉ A := fun hm => hd.2.2 _ hm (x : Int) (by simp) rfl
  have hyA : (y : Int) ∉ A := fun hm => hd.2.2 _ hm (y : Int) (by simp) rfl
  have hxy : x ≠ y := by
    have := (List.nodup_cons.1 hd.2.1).1
    intro e; subst e; exact this (by simp)
  have px : rPlace (A ++ (x : Int) :: (y : Int) :: B) x = A.length := place_split hxA
  have py : rPlace (A ++ (x : Int) :: (y : Int) :: B) y = A.length + 1 := by
    have := place_split (A := A ++ [(x : Int)]) (B := B) (x := (y : Int)) (by simp [hyA]; omega)
    rw [show A ++ [(x : Int)] ++ (y : Int) :: B = A ++ (x : Int) :: (y : Int) :: B from by simp] at this
    rw [this]; simp
  have nyx : ¬ rBef l y x = true := fun hh => by have := he.2.2 y x hh; omega
  rcases h with h | ⟨ho, h⟩
  · by_cases e : x < y
    · exact rBef_iff.2 ⟨a, b, ha, hb, .inl ⟨h, e⟩⟩
    · exact (nyx (rBef_iff.2 ⟨b, a, hb, ha, .inl ⟨h.symm, by omega⟩⟩)).elim
  · have sa := V.s1 x a ha
    have sb := V.s1 y b hb
    have fa := V.fits a (List.mem_of_getElem? ha)
    have fb := V.fits b (List.mem_of_getElem? hb)
    rcases Int.lt_trichotomy a.s b.s with hs | hs | hs
    · by_cases hm : a.m = b.s
      · exact rBef_iff.2 ⟨a, b, ha, hb, .inr ⟨ho, hxy, .inl ⟨by omega, hm⟩⟩⟩
      · exfalso
        obtain ⟨t, c, hc, hco, hcm⟩ := V.src y b hb (by omega)
        have cs := V.s1 t c hc
        have hc0 : c.m ≠ 0 := by omega
        have hst := V.step t c hc hc0
        have fc := V.fits c (List.mem_of_getElem? hc)
        have hcs : c.s = b.s - 1 := by
          have := fc.s; have := fb.s
          rw [hcm, w64_eq] at hst
          split at hst <;> omega
        have htj : t ≠ y := by
          rintro rfl
          rw [hb] at hc; cases hc
          omega
        have hti : x ≠ t := by
          rintro rfl
          rw [ha] at hc; cases hc
          exact hm hcm
        have h1 := he.2.2 t y (rBef_iff.2 ⟨c, b, hc, hb, .inr ⟨hco, htj, .inl ⟨hc0, hcm⟩⟩⟩)
        have h2 : rPlace (A ++ (x : Int) :: (y : Int) :: B) x < rPlace (A ++ (x : Int) :: (y : Int) :: B) t := by
          by_cases e : c.s = a.s
          · refine he.2.2 x t (rBef_iff.2 ⟨a, c, ha, hc, .inr ⟨by rw [ho, hco], hti, .inr ⟨hc0, ?_, fun hm => hti (V.uniq t x c a hc ha (by rw [hco, ho]) hm.symm hc0).symm⟩⟩⟩)
            rw [w64_id ⟨by omega, by have := fc.m; omega⟩]; omega
          · exact vers_mono V he _ x t a c ha hc (by rw [ho, hco]) (by omega) (Nat.le_refl _)
        omega
    · by_cases hm : a.m = 0
      · have hbm : b.m ≠ 0 := h.resolve_left (fun h => h hm)
        exact rBef_iff.2 ⟨a, b, ha, hb, .inr ⟨ho, hxy, .inr ⟨hbm, by rw [hs]; exact ((w64_succ fb.m fb.s).2 (V.step y b hb hbm)).symm, by omega⟩⟩⟩
      · exfalso
        by_cases hbm : b.m = 0
        · exact nyx (rBef_iff.2 ⟨b, a, hb, ha, .inr ⟨ho.symm, hxy.symm, .inr ⟨hm, by rw [← hs]; exact ((w64_succ fa.m fa.s).2 (V.step x a ha hm)).symm, by omega⟩⟩⟩)
        · exact hxy (V.uniq x y a b ha hb ho (by rw [V.step x a ha hm, V.step y b hb hbm, hs]) hm)
    · exfalso
      have := vers_mono V he _ y x b a hb ha ho.symm hs (Nat.le_refl _)
      omega

theorem place_other {A B : List Int} {x y z : Int} (hx : z ≠ x) (hy : z ≠ y) :
    rPlace (A ++ y :: x :: B) z = rPlace (A ++ x :: y :: B) z ∧ (z ∈ A ++ x :: y :: B → (rPlace (A ++ x :: y :: B) z < A.length ∨ A.length + 2 ≤ rPlace (A ++ x :: y :: B) z)) := by
  by_cases hA : z ∈ A
  · obtain ⟨C, D, rfl, hC⟩ := List.eq_append_cons_of_mem hA
    rw [show C ++ z :: D ++ y :: x :: B = C ++ z :: (D ++ y :: x :: B) from by simp, show C ++ z :: D ++ x :: y :: B = C ++ z :: (D ++ x :: y :: B) from by simp, place_split hC, place_split hC]
    exact ⟨rfl, fun _ => .inl (by simp; omega)⟩
  · by_cases hB : z ∈ B
    · obtain ⟨C, D, rfl, hC⟩ := List.eq_append_cons_of_mem hB
      rw [show A ++ y :: x :: (C ++ z :: D) = (A ++ y :: x :: C) ++ z :: D from by simp, show A ++ x :: y :: (C ++ z :: D) = (A ++ x :: y :: C) ++ z :: D from by simp,
        place_split (by simp [hA, hx, hy, hC]), place_split (by simp [hA, hx, hy, hC])]
      exact ⟨by simp, fun _ => .inr (by simp; omega)⟩
    · refine ⟨?_, fun hm => ?_⟩
      · rw [rPlace_none (by simp [hA, hB, hx, hy]), rPlace_none (by simp [hA, hB, hx, hy])]
      · simp [hA, hB, hx, hy] at hm

theorem swap_expl {A B : List Int} {x y : Nat} (he : Expl l (A ++ (x : Int) :: (y : Int) :: B)) : Expl l (A ++ (y : Int) :: (x : Int) :: B) ↔ ¬ rBef l x y = true := by
  obtain ⟨hnd, _⟩ := all_nodup l.length _ he.2.1 he.1
  have hd := List.nodup_append.1 hnd
  have hxA : (x : Int) ∉ A := fun hm => hd.2.2 _ hm (x : Int) (by simp) rfl
  have hyA : (y : Int) ∉ A := fun hm => hd.2.2 _ hm (y : Int) (by simp) rfl
  have hxy : x ≠ y := by
    have := (List.nodup_cons.1 hd.2.1).1
    intro e; subst e; exact this (by simp)
  have px : rPlace (A ++ (x : Int) :: (y : Int) :: B) x = A.length := place_split hxA
  have py : rPlace (A ++ (x : Int) :: (y : Int) :: B) y = A.length + 1 := by
    have := place_split (A := A ++ [(x : Int)]) (B := B) (x := (y : Int)) (by simp [hyA]; omega)
    rw [show A ++ [(x : Int)] ++ (y : Int) :: B = A ++ (x : Int) :: (y : Int) :: B from by simp] at this
    rw [this]; simp
  have qy : rPlace (A ++ (y : Int) :: (x : Int) :: B) y = A.length := place_split hyA
  have qx : rPlace (A ++ (y : Int) :: (x : Int) :: B) x = A.length + 1 := by
    have := place_split (A := A ++ [(y : Int)]) (B := B) (x := (x : Int)) (by simp [hxA]; omega)
    rw [show A ++ [(y : Int)] ++ (x : Int) :: B = A ++ (y : Int) :: (x : Int) :: B from by simp] at this
    rw [this]; simp
  constructor
  · intro h hb
    have := h.2.2 x y hb; omega
  · intro hb
    refine ⟨?_, fun i hi => ?_, fun i k hik => ?_⟩
    · have := he.1; simp at this ⊢; omega
    · have := he.2.1 i hi
      simp only [List.mem_append, List.mem_cons] at this ⊢
      rcases this with h | h | h | h
      · exact .inl h
      · exact .inr (.inr (.inl h))
      · exact .inr (.inl h)
      · exact .inr (.inr (.inr h))
    · have hlt := he.2.2 i k hik
      obtain ⟨hil, hkl⟩ := rBef_lt hik
      have mi := he.2.1 i hil
      have mk := he.2.1 k hkl
      by_cases ix : i = x
      · subst ix
        by_cases ky : k = y
        · subst ky; exact (hb hik).elim
        · by_cases kx : k = i
          · subst kx; omega
          · obtain ⟨h1, h2⟩ := place_other (A := A) (B := B) (x := (i : Int)) (y := (y : Int)) (z := (k : Int)) (by omega) (by omega)
            have := h2 mk; omega
      · by_cases iy : i = y
        · subst iy
          by_cases kx : k = x
          · subst kx; omega
          · by_cases ky : k = i
            · subst ky; omega
            · obtain ⟨h1, h2⟩ := place_other (A := A) (B := B) (x := (x : Int)) (y := (i : Int)) (z := (k : Int)) (by omega) (by omega)
              have := h2 mk; omega
        · obtain ⟨h1, h2⟩ := place_other (A := A) (B := B) (x := (x : Int)) (y := (y : Int)) (z := (i : Int)) (by omega) (by omega)
          have h2 := h2 mi
          by_cases kx : k = x
          · subst kx; omega
          · by_cases ky : k = y
            · subst ky; omega
            · obtain ⟨h3, h4⟩ := place_other (A := A) (B := B) (x := (x : Int)) (y := (y : Int)) (z := (k : Int)) (by omega) (by omega)
              omega

/-- two neighbours exchanged -/
def swapS (q : List Int) (k : Nat) : List Int := (q.set k (q.getD (k + 1) 0)).set (k + 1) (q.getD k 0)

theorem swap_split : ∀ (q : List Int) (k : Nat), k + 1 < q.length → ∃ A B, q = A ++ q.getD k 0 :: q.getD (k + 1) 0 :: B ∧ A.length = k ∧ swapS q k = A ++ q.getD (k + 1) 0 :: q.getD k 0 :: B := by
  intro q k hk
  refine ⟨q.take k, q.drop (k + 2), ?_, by simp; omega, ?_⟩
  · have g1 : q.getD k 0 = q[k]'(by omega) := by rw [List.getD_eq_getElem?_getD, List.getElem?_eq_getElem (by omega)]; rfl
    have g2 : q.getD (k + 1) 0 = q[k + 1] := by rw [List.getD_eq_getElem?_getD, List.getElem?_eq_getElem hk]; rfl
    rw [g1, g2]
    simp
  · unfold swapS
    have g1 : q.getD k 0 = q[k]'(by omega) := by rw [List.getD_eq_getElem?_getD, List.getElem?_eq_getElem (by omega)]; rfl
    have g2 : q.getD (k + 1) 0 = q[k + 1] := by rw [List.getD_eq_getElem?_getD, List.getElem?_eq_getElem hk]; rfl
    rw [g1, g2]
    apply List.ext_getElem?
    intro i
    simp only [List.getElem?_set, List.length_set, List.getElem?_append, List.length_take, List.getElem?_take, List.getElem?_cons, List.getElem?_drop]
    by_cases h1 : i < k
    · rw [if_neg (by omega), if_neg (by omega), if_pos (by omega), if_pos h1]
    · by_cases h2 : i = k
      · subst h2
        rw [if_neg (by omega), if_pos rfl, if_pos (by omega), if_neg (by omega), if_pos (by omega)]
      · by_cases h3 : i = k + 1
        · subst h3
          rw [if_pos rfl, if_pos (by omega), if_neg (by omega), if_neg (by omega), if_pos (by omega)]
        · rw [if_neg (by omega), if_neg (by omega), if_neg (by omega), if_neg (by omega), if_neg (by omega)]
          congr 1; omega

/-- **Exchanged neighbours explain exactly if they do not depend on each other.** -/
theorem exact_swap (hf : FitsL l) {o : List Int} (h : jOrder l = some o) {k : Nat} (hk : k + 1 < o.length) : ∃ (x y : Nat) (a b : Acc), o[k]? = some (x : Int) ∧ o[k + 1]? = some (y : Int) ∧ l[x]? = some a ∧ l[y]? = some b ∧
    jExplains l (swapS o k) = decide (a.p ≠ b.p ∧ (a.o ≠ b.o ∨ (a.m = 0 ∧ b.m = 0))) := by
  rw [jOrder_eq hf] at h
  obtain ⟨hv, he⟩ := order_sound hf h
  have V := val_of hf hv
  obtain ⟨A, B, e1, e2, e3⟩ := swap_split o k hk
  obtain ⟨hnd, hr⟩ := all_nodup l.length _ he.2.1 he.1
  have g1 : o[k]? = some (o.getD k 0) := by rw [List.getD_eq_getElem?_getD, List.getElem?_eq_getElem (by omega)]; rfl
  have g2 : o[k + 1]? = some (o.getD (k + 1) 0) := by rw [List.getD_eq_getElem?_getD, List.getElem?_eq_getElem hk]; rfl
  have r1 := hr _ (List.mem_of_getElem? g1)
  have r2 := hr _ (List.mem_of_getElem? g2)
  obtain ⟨x, hx⟩ : ∃ x : Nat, o.getD k 0 = x := ⟨_, (Int.toNat_of_nonneg r1.1).symm⟩
  obtain ⟨y, hy⟩ : ∃ y : Nat, o.getD (k + 1) 0 = y := ⟨_, (Int.toNat_of_nonneg r2.1).symm⟩
  rw [hx] at g1 r1; rw [hy] at g2 r2
  rw [hx, hy] at e1 e3
  have ha := List.getElem?_eq_getElem (l := l) (i := x) (by omega)
  have hb := List.getElem?_eq_getElem (l := l) (i := y) (by omega)
  refine ⟨x, y, _, _, g1, g2, ha, hb, ?_⟩
  rw [e1] at he
  rw [Bool.eq_iff_iff, jExplains_iff hf, decide_eq_true_eq, e3]
  rw [swap_expl he]
  constructor
  · rintro ⟨_, h⟩
    refine Classical.byContradiction fun hn => h (neighbours V he ha hb ?_)
    refine Classical.byContradiction fun hn2 => hn ⟨fun hp => hn2 (.inl hp), ?_⟩
    refine Decidable.or_iff_not_imp_left.2 fun ho => ?_
    have ho := Classical.not_not.1 ho
    exact ⟨Classical.not_not.1 fun hm => hn2 (.inr ⟨ho, .inl hm⟩), Classical.not_not.1 fun hm => hn2 (.inr ⟨ho, .inr hm⟩)⟩
  · rintro ⟨hp, h⟩
    refine ⟨hv, fun hbf => ?_⟩
    obtain ⟨a, b, ha', hb', hh⟩ := rBef_iff.1 hbf
    rw [ha] at ha'; rw [hb] at hb'; cases ha'; cases hb'
    rcases hh with hh | ⟨ho, _, hh⟩
    · exact hp hh.1
    · rcases h with h | h
      · exact h ho
      · rcases hh with hh | hh
        · exact hh.1 h.1
        · exact hh.1 h.2

theorem exact_some (hf : FitsL l) {o : List Int} (h : jOrder l = some o) : jExplains l o = true ∧ o.length = l.length := by
  rw [jOrder_eq hf] at h
  have := order_sound hf h
  exact ⟨(jExplains_iff hf).2 this, this.2.1⟩
theorem exact_none (hf : FitsL l) (h : jOrder l = none) (q : List Int) : jExplains l q = false := by
  rw [jOrder_eq hf] at h
  cases hq : jExplains l q with
  | false => rfl
  | true =>
    obtain ⟨hv, he⟩ := (jExplains_iff hf).1 hq
    obtain ⟨o, ho⟩ := order_complete hf hv he
    rw [h] at ho; cases ho
end
end Go.Ju
