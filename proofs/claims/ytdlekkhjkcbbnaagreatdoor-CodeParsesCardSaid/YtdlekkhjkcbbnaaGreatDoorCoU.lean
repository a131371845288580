/-
  The dice of the statements: what they give, and contracts: New, Next, register, word, Instr.
  Contracts: Block of the dice.
  What the dice make is right; contracts: New, Paths, Program of the dice, made of the law.
-/
import Derived.Test.YtdlekkhjkcbbnaaGreatDoorCoP
import Derived.Test.YtdlekkhjkcbbnaaGreatDoorCoG
set_option linter.unusedVariables false
set_option linter.unusedSimpArgs false
set_option maxRecDepth 8000
set_option maxHeartbeats 2000000
namespace Go.Proofs.YtdlekkhjkcbbnaaGreatDoor
open Go.Ab Go.Id Go.Wo Go

section
variable {σ τ : Heap} {i k : Nat} {d d' x : AObj}
theorem set_look (h : i < σ.length) : (σ.set i d ++ τ)[i]? = some d := by rw [List.getElem?_append_left (by simpa using h)]; exact List.getElem?_set_self h
theorem set_look0 (h : i < σ.length) : (σ.set i d)[i]? = some d := List.getElem?_set_self h
theorem set_set' (h : i < σ.length) : (σ.set i d ++ τ).set i d' = σ.set i d' ++ τ := by rw [List.set_append_left _ _ (by simpa using h), List.set_set]
theorem set_at : (σ.set i d ++ τ)[σ.length + k]? = τ[k]? := by rw [List.getElem?_append_right (by simp)]; simp
theorem set_at0 : (σ.set i d ++ τ)[σ.length]? = τ[0]? := by rw [List.getElem?_append_right (by simp)]; simp
theorem set_put : (σ.set i d ++ τ).set (σ.length + k) x = σ.set i d ++ τ.set k x := by rw [List.set_append_right _ _ (by simp)]; simp
theorem set_put0 : (σ.set i d ++ τ).set σ.length x = σ.set i d ++ τ.set 0 x := by rw [List.set_append_right _ _ (by simp)]; simp
theorem set_self {o : AObj} (h : σ[i]? = some o) : σ.set i o = σ := by
  obtain ⟨h1, h2⟩ := List.getElem?_eq_some_iff.1 h
  rw [← h2, List.set_getElem_self]
theorem retOK_set {r : AV} {R : AV → Heap → Prop} {o : AObj} (hw : WfH σ.length σ) (ho : o.allI (· < σ.length)) (hr : AllI (· < σ.length) r) (h : R r (σ.set i o)) : RetOK σ.length r (σ.set i o ++ τ) R :=
  retOK_left (by simp) (wfH_set hw ho) hr h
theorem retOK_set0 {r : AV} {R : AV → Heap → Prop} {o : AObj} (hw : WfH σ.length σ) (ho : o.allI (· < σ.length)) (hr : AllI (· < σ.length) r) (h : R r (σ.set i o)) : RetOK σ.length r (σ.set i o) R :=
  retOK_keep (by simp) (wfH_set hw ho) hr h
end

/-- dice -/
def diceA (l : Bytes) : List AV := [.agg [.sl 1 (l.map byteV)]]
def diceO (l : Bytes) : AObj := .row 0 1 (diceA l)
theorem pure_dice (l : Bytes) : PureL (diceA l) := ⟨⟨pureL_map (f := byteV) (fun _ => trivial) l, trivial⟩, trivial⟩
theorem dice_allI (l : Bytes) (n : Nat) : (diceO l).allI (· < n) := AllIL.mono (fun _ h => h.elim) _ (pure_dice l)
def nextS (n : Int) (l : Bytes) : Int × Bytes := if l = [] ∨ n ≤ 1 then (0, l) else (((l[0]?.getD 0).toNat : Int).tmod n, l.drop 1)
theorem nextS_range (n : Int) (l : Bytes) (h : 1 ≤ n) : 0 ≤ (nextS n l).1 ∧ (nextS n l).1 < n := by
  unfold nextS
  split
  · simp only; omega
  · simp only
    rw [Int.tmod_eq_emod_of_nonneg (by omega)]
    exact ⟨Int.emod_nonneg _ (by omega), Int.emod_lt_of_pos _ (by omega)⟩

theorem next_c (i : Nat) (l : Bytes) (n : Int) (σ : Heap) (hi : σ[i]? = some (diceO l)) (hn : n < 2^60) : ACalls Tryz.prog 18 [.ptr i 0 0 0, iv n] σ (fun r σ' => r = iv (nextS n l).1 ∧ σ' = σ.set i (diceO (nextS n l).2)) := by
  refine acalls_go Tryz.func18 rfl Tryz.call18 Tryz.ntmps18 Tryz.results18 (Nat.le_of_ble_eq_true rfl) fun hw => ?_
  have hil := (List.getElem?_eq_some_iff.1 hi).1
  have hs := set_self hi
  generalize hres : nextS n l = res
  unfold nextS at hres
  simp only [diceO, diceA] at hi
  cases l with
  | nil =>
    rw [if_pos (.inl rfl)] at hres
    subst hres
    simp only [go_sem, hi, List.map_nil]
    exact retOK_same hw trivial ⟨rfl, hs.symm⟩
  | cons b l =>
    by_cases h1 : n ≤ 1
    · rw [if_pos (.inr h1)] at hres
      subst hres
      simp only [go_sem, hi, List.map_cons, List.length_cons, eq_true h1]
      exact retOK_same hw trivial ⟨rfl, hs.symm⟩
    · rw [if_neg (by simp [h1])] at hres
      subst hres
      have hn0 : ¬ (((l.length + 1 : Nat) : Int) = 0) := by omega
      have hb := b.toNat_lt
      have hwb : IntKind.i64.wrap (b.toNat : Int) = b.toNat := wrap_i64 (by omega) (by omega)
      have hge1 : (1 : Int) ≤ ((l.length + 1 : Nat) : Int) := by omega
      simp only [go_sem, hi, List.map_cons, List.length_cons, h1, hn0, byteV, hwb, eq_true hge1, List.drop_succ_cons, List.drop_zero]
      exact ⟨by omega, by omega, retOK_set0 hw (dice_allI _ _) trivial ⟨rfl, rfl⟩⟩

theorem register_c (i : Nat) (l : Bytes) (σ : Heap) (hi : σ[i]? = some (diceO l)) : ACalls Tryz.prog 45 [.ptr i 0 0 0] σ (fun r σ' => r = iv (nextS 8 l).1 ∧ σ' = σ.set i (diceO (nextS 8 l).2)) := by
  refine acalls_go Tryz.func45 rfl Tryz.call45 Tryz.ntmps45 Tryz.results45 (Nat.le_of_ble_eq_true rfl) fun hw => ?_
  simp only [go_sem]
  refine callN_of (next_c i l 8 _ hi (by decide)) ?_
  rintro r τ ⟨rfl, rfl⟩
  simp only [go_sem]
  exact retOK_set0 hw (dice_allI _ _) trivial ⟨rfl, rfl⟩

/-- a row of numbers, read at a place -/
theorem ints_at (tab : List Int) (k : Nat) (h : k < tab.length) : (tab.map iv)[k]? = some (iv (tab[k]?.getD 0)) := by
  rw [List.getElem?_map, List.getElem?_eq_getElem h]; rfl
def wordTab : List Int := [0, 1, 2, 3, 1, 0, 5, 16, -1, 200, 14, 9]
def dwordS (l : Bytes) : Int × Bytes := (wordTab[(nextS 12 l).1.toNat]?.getD 0, (nextS 12 l).2)
theorem dwordS_range (l : Bytes) : -1 ≤ (dwordS l).1 ∧ (dwordS l).1 ≤ 200 := by
  have : ∀ k : Nat, -1 ≤ wordTab[k]?.getD 0 ∧ wordTab[k]?.getD 0 ≤ 200 := by
    intro k
    by_cases h : k < 12
    · have : ∀ k < 12, -1 ≤ wordTab[k]?.getD 0 ∧ wordTab[k]?.getD 0 ≤ 200 := by decide
      exact this k h
    · rw [List.getElem?_eq_none (by show 12 ≤ k; omega)]; decide
  exact this _
theorem dword_c (i : Nat) (l : Bytes) (σ : Heap) (hi : σ[i]? = some (diceO l)) : ACalls Tryz.prog 46 [.ptr i 0 0 0] σ (fun r σ' => r = iv (dwordS l).1 ∧ σ' = σ.set i (diceO (dwordS l).2)) := by
  refine acalls_go Tryz.func46 rfl Tryz.call46 Tryz.ntmps46 Tryz.results46 (Nat.le_of_ble_eq_true rfl) fun hw => ?_
  have hil := (List.getElem?_eq_some_iff.1 hi).1
  have hi' : ∀ τ : Heap, (σ ++ τ)[i]? = some (diceO l) := fun τ => by rw [List.getElem?_append_left hil]; exact hi
  simp only [go_sem]
  refine callN_of (next_c i l 12 _ (hi' _) (by decide)) ?_
  rintro r τ ⟨rfl, rfl⟩
  have hr := nextS_range 12 l (by decide)
  unfold dwordS
  generalize nextS 12 l = o at hr ⊢
  obtain ⟨k, l'⟩ := o
  obtain ⟨k, rfl⟩ : ∃ m : Nat, k = m := ⟨k.toNat, by simp only at hr; omega⟩
  have hk : k < 12 := by simp only at hr; omega
  have hk0 : (0 : Int) ≤ k := by omega
  have hk1 : (k : Int) < (12 : Nat) := by omega
  have hav := ints_at wordTab k hk
  simp only [wordTab, List.map_cons, List.map_nil] at hav
  simp only [go_sem, List.set_append_left _ _ hil, set_at0, eq_true hk0, eq_true hk1, hk, Int.toNat_natCast, hav]
  exact retOK_set hw (dice_allI _ _) trivial ⟨rfl, rfl⟩

/-- what the dice make of an instruction -/
def dinsS (code : Int) (l : Bytes) : Ins × Bytes :=
  let r := nextS 8 l
  let k := nextS 10 r.2
  if k.1 = 0 then (⟨0, 0, 0, 0⟩, k.2)
  else if k.1 = 1 then (⟨2, r.1, (nextS 8 k.2).1, 0⟩, (nextS 8 k.2).2)
  else if k.1 = 2 then
    let o := nextS 5 k.2
    let b := nextS 8 o.2
    (⟨3 + o.1, r.1, b.1, (nextS 8 b.2).1⟩, (nextS 8 b.2).2)
  else if k.1 = 3 then (⟨8, (nextS (code + 1) k.2).1, 0, 0⟩, (nextS (code + 1) k.2).2)
  else if k.1 = 4 then (⟨9, r.1, (nextS (code + 1) k.2).1, 0⟩, (nextS (code + 1) k.2).2)
  else if k.1 = 5 then (⟨10, r.1, (nextS 8 k.2).1, (nextS 40 (nextS 8 k.2).2).1⟩, (nextS 40 (nextS 8 k.2).2).2)
  else if k.1 = 6 then (⟨11, r.1, (nextS 8 k.2).1, (nextS 40 (nextS 8 k.2).2).1⟩, (nextS 40 (nextS 8 k.2).2).2)
  else if k.1 = 7 then (⟨12, 1 + (nextS 24 k.2).1, 0, 0⟩, (nextS 24 k.2).2)
  else (⟨1, r.1, (dwordS k.2).1, 0⟩, (dwordS k.2).2)

theorem dins_c (i : Nat) (l : Bytes) (code : Int) (σ : Heap) (hi : σ[i]? = some (diceO l)) (hc0 : 0 ≤ code) (hc : code ≤ 1000000) : ACalls Tryz.prog 19 [.ptr i 0 0 0, iv code] σ (fun r σ' => r = (dinsS code l).1.av ∧ σ' = σ.set i (diceO (dinsS code l).2)) := by
  refine acalls_awp Tryz.func19 rfl Tryz.call19 Tryz.ntmps19 Tryz.results19 (Nat.le_of_ble_eq_true rfl) fun hw => ?_
  have hil := (List.getElem?_eq_some_iff.1 hi).1
  have hi' : ∀ τ : Heap, (σ ++ τ)[i]? = some (diceO l) := fun τ => by rw [List.getElem?_append_left hil]; exact hi
  generalize hres : dinsS code l = res
  have fin : ∀ (x : Ins) (l' : Bytes) (v : AV) (τ : Heap), v = x.av → res = (x, l') → RetOK σ.length v (σ.set i (diceO l') ++ τ) (fun r σ' => r = res.1.av ∧ σ' = σ.set i (diceO res.2)) := by
    rintro x l' _ τ rfl h
    rw [h]
    exact retOK_set hw (dice_allI _ _) (AllI.mono (fun _ h => h.elim) _ (pure_ins x)) ⟨rfl, rfl⟩
  unfold dinsS at hres
  simp only at hres
  refine awp_then ?_
  simp only [go_sem]
  refine awp_then ?_
  simp only [go_sem]
  refine callN_of (register_c i l _ (hi' _)) ?_
  rintro r τ ⟨rfl, rfl⟩
  generalize hr : nextS 8 l = o1 at hres ⊢
  obtain ⟨r, l1⟩ := o1
  have hrr := nextS_range 8 l (by decide)
  rw [hr] at hrr
  simp only [go_sem, List.set_append_left _ _ hil]
  refine vcode_sound _ ?_
  simp only [go_sem]
  refine callN_of (next_c i l1 10 _ (set_look hil) (by decide)) ?_
  rintro r τ ⟨rfl, rfl⟩
  simp only at hres
  generalize hk : nextS 10 l1 = o2 at hres ⊢
  obtain ⟨k, l2⟩ := o2
  have hkr := nextS_range 10 l1 (by decide)
  rw [hk] at hkr
  simp only at hkr hrr hres
  by_cases k0 : k = 0
  · simp only [go_sem, set_set' hil, set_at0, set_put0, set_at, set_put, eq_true k0]
    exact fin ⟨0, 0, 0, 0⟩ l2 _ _ rfl (by rw [← hres, if_pos k0])
  · by_cases k1 : k = 1
    · simp only [go_sem, set_set' hil, set_at0, set_put0, set_at, set_put, k0, eq_true k1]
      refine callN_of (register_c i l2 _ (set_look hil)) ?_
      rintro r' τ ⟨rfl, rfl⟩
      have hb := nextS_range 8 l2 (by decide)
      generalize eb : nextS 8 l2 = ob at hres hb ⊢
      obtain ⟨b, l3⟩ := ob
      simp only at hb hres
      simp only [go_sem, set_set' hil, set_at0, set_put0, set_at, set_put]
      exact fin ⟨2, r, b, 0⟩ l3 _ _ rfl (by rw [← hres, if_neg k0, if_pos k1])
    · by_cases k2 : k = 2
      · simp only [go_sem, set_set' hil, set_at0, set_put0, set_at, set_put, k0, k1, eq_true k2]
        refine callN_of (next_c i l2 5 _ (set_look hil) (by decide)) ?_
        rintro r' τ ⟨rfl, rfl⟩
        have ho := nextS_range 5 l2 (by decide)
        generalize eo : nextS 5 l2 = oo at hres ho ⊢
        obtain ⟨o, l3⟩ := oo
        simp only at ho hres
        have how : IntKind.i64.wrap (3 + o) = 3 + o := wrap_i64 (by omega) (by omega)
        simp only [go_sem, set_set' hil, set_at0, set_put0, set_at, set_put, how]
        refine callN_of (register_c i l3 _ (set_look hil)) ?_
        rintro r' τ ⟨rfl, rfl⟩
        have hb := nextS_range 8 l3 (by decide)
        generalize eb : nextS 8 l3 = ob at hres hb ⊢
        obtain ⟨b, l4⟩ := ob
        simp only at hb hres
        simp only [go_sem, set_set' hil, set_at0, set_put0, set_at, set_put]
        refine callN_of (register_c i l4 _ (set_look hil)) ?_
        rintro r' τ ⟨rfl, rfl⟩
        have hc := nextS_range 8 l4 (by decide)
        generalize ec : nextS 8 l4 = oc at hres hc ⊢
        obtain ⟨c, l5⟩ := oc
        simp only at hc hres
        simp only [go_sem, set_set' hil, set_at0, set_put0, set_at, set_put]
        exact fin ⟨3 + o, r, b, c⟩ l5 _ _ rfl (by rw [← hres, if_neg k0, if_neg k1, if_pos k2])
      · by_cases k3 : k = 3
        · have hcw : IntKind.i64.wrap (code + 1) = code + 1 := wrap_i64 (by omega) (by omega)
          simp only [go_sem, set_set' hil, set_at0, set_put0, set_at, set_put, k0, k1, k2, eq_true k3, hcw]
          refine callN_of (next_c i l2 (code + 1) _ (set_look hil) (by omega)) ?_
          rintro r' τ ⟨rfl, rfl⟩
          have ha := nextS_range (code + 1) l2 (by omega)
          generalize ea : nextS (code + 1) l2 = oa at hres ha ⊢
          obtain ⟨a, l3⟩ := oa
          simp only at ha hres
          simp only [go_sem, set_set' hil, set_at0, set_put0, set_at, set_put]
          exact fin ⟨8, a, 0, 0⟩ l3 _ _ rfl (by rw [← hres, if_neg k0, if_neg k1, if_neg k2, if_pos k3])
        · by_cases k4 : k = 4
          · have hcw : IntKind.i64.wrap (code + 1) = code + 1 := wrap_i64 (by omega) (by omega)
            simp only [go_sem, set_set' hil, set_at0, set_put0, set_at, set_put, k0, k1, k2, k3, eq_true k4, hcw]
            refine callN_of (next_c i l2 (code + 1) _ (set_look hil) (by omega)) ?_
            rintro r' τ ⟨rfl, rfl⟩
            have hb := nextS_range (code + 1) l2 (by omega)
            generalize eb : nextS (code + 1) l2 = ob at hres hb ⊢
            obtain ⟨b, l3⟩ := ob
            simp only at hb hres
            simp only [go_sem, set_set' hil, set_at0, set_put0, set_at, set_put]
            exact fin ⟨9, r, b, 0⟩ l3 _ _ rfl (by rw [← hres, if_neg k0, if_neg k1, if_neg k2, if_neg k3, if_pos k4])
          · by_cases k5 : k = 5
            · simp only [go_sem, set_set' hil, set_at0, set_put0, set_at, set_put, k0, k1, k2, k3, k4, eq_true k5]
              refine callN_of (register_c i l2 _ (set_look hil)) ?_
              rintro r' τ ⟨rfl, rfl⟩
              have hb := nextS_range 8 l2 (by decide)
              generalize eb : nextS 8 l2 = ob at hres hb ⊢
              obtain ⟨b, l3⟩ := ob
              simp only at hb hres
              simp only [go_sem, set_set' hil, set_at0, set_put0, set_at, set_put]
              refine callN_of (next_c i l3 40 _ (set_look hil) (by decide)) ?_
              rintro r' τ ⟨rfl, rfl⟩
              have hc := nextS_range 40 l3 (by decide)
              generalize ec : nextS 40 l3 = oc at hres hc ⊢
              obtain ⟨c, l4⟩ := oc
              simp only at hc hres
              simp only [go_sem, set_set' hil, set_at0, set_put0, set_at, set_put]
              exact fin ⟨10, r, b, c⟩ l4 _ _ rfl (by rw [← hres, if_neg k0, if_neg k1, if_neg k2, if_neg k3, if_neg k4, if_pos k5])
            · by_cases k6 : k = 6
              · simp only [go_sem, set_set' hil, set_at0, set_put0, set_at, set_put, k0, k1, k2, k3, k4, k5, eq_true k6]
                refine callN_of (register_c i l2 _ (set_look hil)) ?_
                rintro r' τ ⟨rfl, rfl⟩
                have hb := nextS_range 8 l2 (by decide)
                generalize eb : nextS 8 l2 = ob at hres hb ⊢
                obtain ⟨b, l3⟩ := ob
                simp only at hb hres
                simp only [go_sem, set_set' hil, set_at0, set_put0, set_at, set_put]
                refine callN_of (next_c i l3 40 _ (set_look hil) (by decide)) ?_
                rintro r' τ ⟨rfl, rfl⟩
                have hc := nextS_range 40 l3 (by decide)
                generalize ec : nextS 40 l3 = oc at hres hc ⊢
                obtain ⟨c, l4⟩ := oc
                simp only at hc hres
                simp only [go_sem, set_set' hil, set_at0, set_put0, set_at, set_put]
                exact fin ⟨11, r, b, c⟩ l4 _ _ rfl (by rw [← hres, if_neg k0, if_neg k1, if_neg k2, if_neg k3, if_neg k4, if_neg k5, if_pos k6])
              · by_cases k7 : k = 7
                · simp only [go_sem, set_set' hil, set_at0, set_put0, set_at, set_put, k0, k1, k2, k3, k4, k5, k6, eq_true k7]
                  refine callN_of (next_c i l2 24 _ (set_look hil) (by decide)) ?_
                  rintro r' τ ⟨rfl, rfl⟩
                  have ha := nextS_range 24 l2 (by decide)
                  generalize ea : nextS 24 l2 = oa at hres ha ⊢
                  obtain ⟨a, l3⟩ := oa
                  simp only at ha hres
                  have haw : IntKind.i64.wrap (1 + a) = 1 + a := wrap_i64 (by omega) (by omega)
                  simp only [go_sem, set_set' hil, set_at0, set_put0, set_at, set_put, haw]
                  exact fin ⟨12, 1 + a, 0, 0⟩ l3 _ _ rfl (by rw [← hres, if_neg k0, if_neg k1, if_neg k2, if_neg k3, if_neg k4, if_neg k5, if_neg k6, if_pos k7])
                · simp only [go_sem, set_set' hil, set_at0, set_put0, set_at, set_put, k0, k1, k2, k3, k4, k5, k6, k7]
                  refine callN_of (dword_c i l2 _ (set_look hil)) ?_
                  rintro r' τ ⟨rfl, rfl⟩
                  have hb := dwordS_range l2
                  generalize eb : dwordS l2 = ob at hres hb ⊢
                  obtain ⟨b, l3⟩ := ob
                  simp only at hb hres
                  simp only [go_sem, set_set' hil, set_at0, set_put0, set_at, set_put]
                  exact fin ⟨1, r, b, 0⟩ l3 _ _ rfl (by rw [← hres, if_neg k0, if_neg k1, if_neg k2, if_neg k3, if_neg k4, if_neg k5, if_neg k6, if_neg k7])
end Go.Proofs.YtdlekkhjkcbbnaaGreatDoor
set_option linter.unusedVariables false
set_option linter.unusedSimpArgs false
set_option maxRecDepth 8000
set_option maxHeartbeats 4000000
namespace Go.Proofs.YtdlekkhjkcbbnaaGreatDoor
open Go.Ab Go.Id Go.Wo Go

def numTab : List Int := [2, 3, 4, 5, 6, 7, 7, 8, 9, 10, 9, 10, 11, 12, 13, 14, 15, 16, 17, 18, 19, 20, 21, 22, 23, 24, 1]
def at_ (tab : List Int) (x : Int) : Int := tab[x.toNat]?.getD 0
/-- what the dice make of a call's operands -/
def abS (num a b : Int) (l : Bytes) : Int × Int × Bytes :=
  if num = 7 then ((nextS 8 l).1, (nextS 2 (nextS 8 l).2).1, (nextS 2 (nextS 8 l).2).2)
  else if num = 16 then (at_ [4, 4, 4, 1, 9] (nextS 5 l).1, (nextS 3 (nextS 5 l).2).1, (nextS 3 (nextS 5 l).2).2)
  else if num = 17 then (at_ [2, 2, 1, 6] (nextS 4 l).1, b, (nextS 4 l).2)
  else if num = 23 then (at_ [3, 3, 1, 6] (nextS 4 l).1, (nextS 3 (nextS 4 l).2).1, (nextS 3 (nextS 4 l).2).2)
  else if num = 24 then ((nextS 8 l).1, (nextS 9 (nextS 8 l).2).1, (nextS 9 (nextS 8 l).2).2)
  else if num = 5 then (a, at_ [9, 14, 3, 40, 0] (nextS 5 l).1, (nextS 5 l).2)
  else if num = 21 ∨ num = 20 then (a, (dwordS l).1, (dwordS l).2)
  else (a, b, l)
def blockE (num a b : Int) (l : Bytes) : List Ins × Bytes :=
  let h : Ins × Bytes := if num = 5 then (⟨2, 1, at_ [0, 5, 6] (nextS 3 l).1, 0⟩, (nextS 3 l).2) else (⟨1, 1, a, 0⟩, l)
  let o : List Ins := [h.1, ⟨1, 2, b, 0⟩, ⟨12, num, 0, 0⟩]
  if num = 3 ∨ num = 2 then (o ++ [⟨2, 5 + (nextS 2 h.2).1, 0, 0⟩], (nextS 2 h.2).2) else (o, h.2)
def blockS (l : Bytes) : List Ins × Bytes :=
  let o := nextS 27 l
  let a := nextS 4 o.2
  let b := nextS 4 a.2
  let c := abS (at_ numTab o.1) a.1 b.1 b.2
  blockE (at_ numTab o.1) c.1 c.2.1 c.2.2

theorem rowDice (l : Bytes) : AObj.row 0 1 (diceA l) = diceO l := rfl

theorem block_c (i : Nat) (l : Bytes) (σ : Heap) (hi : σ[i]? = some (diceO l)) : ACalls Tryz.prog 44 [.ptr i 0 0 0] σ (fun r σ' => r = codeAV (blockS l).1 ∧ σ' = σ.set i (diceO (blockS l).2)) := by
  refine acalls_awp Tryz.func44 rfl Tryz.call44 Tryz.ntmps44 Tryz.results44 (Nat.le_of_ble_eq_true rfl) fun hw => ?_
  have hil := (List.getElem?_eq_some_iff.1 hi).1
  have hi' : ∀ τ : Heap, (σ ++ τ)[i]? = some (diceO l) := fun τ => by rw [List.getElem?_append_left hil]; exact hi
  generalize hres : blockS l = res
  unfold blockS at hres
  simp only at hres
  refine awp_then ?_
  simp only [go_sem]
  refine awp_then ?_
  simp only [go_sem]
  refine callN_of (next_c i l 27 _ (hi' _) (by decide)) ?_
  rintro r τ ⟨rfl, rfl⟩
  generalize hk : nextS 27 l = o at hres ⊢
  obtain ⟨k, l0⟩ := o
  have hkr := nextS_range 27 l (by decide)
  rw [hk] at hkr
  simp only at hkr hres
  obtain ⟨k, rfl⟩ : ∃ m : Nat, k = m := ⟨k.toNat, by omega⟩
  have hk0 : (0 : Int) ≤ k := by omega
  have hk1 : (k : Int) < (27 : Nat) := by omega
  have hk2 : k < 27 := by omega
  have hav := ints_at numTab k hk2
  have hatn : at_ numTab k = numTab[k]?.getD 0 := rfl
  rw [← hatn] at hav
  generalize at_ numTab k = num at hav hres
  obtain ⟨es27, h27⟩ : ∃ es, numTab.map iv = es := ⟨_, rfl⟩
  rw [h27] at hav
  simp only [numTab, List.map_cons, List.map_nil] at h27
  simp only [go_sem, List.set_append_left _ _ hil, set_at0, eq_true hk0, eq_true hk1, hk2, Int.toNat_natCast, h27, hav]
  refine ⟨by rw [← h27]; exact hk2, ?_⟩
  refine awp_then ?_
  simp only [go_sem]
  refine callN_of (next_c i l0 4 _ (set_look hil) (by decide)) ?_
  rintro r τ ⟨rfl, rfl⟩
  generalize nextS 4 l0 = oa at hres ⊢
  obtain ⟨a, l1⟩ := oa
  simp only at hres
  simp only [go_sem, set_set' hil]
  refine callN_of (next_c i l1 4 _ (set_look hil) (by decide)) ?_
  rintro r τ ⟨rfl, rfl⟩
  generalize nextS 4 l1 = ob at hres ⊢
  obtain ⟨b, l2⟩ := ob
  simp only at hres
  simp only [go_sem, set_set' hil]
  refine vcode_sound _ ?_
  have n1 : ∀ m, (i = σ.length + m) = False := fun m => eq_false (by omega)
  have n2 : (i = σ.length) = False := eq_false (by omega)
  have n3 : ∀ m, (σ.length + m = i) = False := fun m => eq_false (by omega)
  have n4 : (σ.length = i) = False := eq_false (by omega)
  have fin : ∀ {g c n : Nat} {τ : Heap} (es : List Ins) (l' : Bytes), τ[c]? = some (.row g 4 (es.map Ins.av)) → n = es.length → (es, l') = res → RetOK σ.length (.os (σ.length + c) g 0 n) (σ.set i (diceO l') ++ τ) (fun r σ' => r = codeAV res.1 ∧ σ' = σ.set i (diceO res.2)) := by
    intro g c n τ es l' h1 hn h2
    subst h2; subst hn
    refine retOK_frz (i := σ.length + c) (g := g) (e := 4) (es := es.map Ins.av) (by rw [set_at]; exact h1) ?_
    rw [set_put, show es.length = (es.map Ins.av).length by simp]
    have tc : List.take es.length (List.map Ins.av es) = List.map Ins.av es := List.take_of_length_le (by simp)
    simp only [frz, go_sem, tc]
    exact retOK_set hw (dice_allI _ _) (AllIL.mono (fun _ h => h.elim) _ (pure_codeL es)) ⟨rfl, rfl⟩
  unfold abS blockE at hres
  by_cases k7 : num = 7
  · rw [if_pos k7] at hres
    simp only at hres
    rw [if_neg (show ¬ num = 5 by omega), if_neg (show ¬ (num = 3 ∨ num = 2) by omega)] at hres
    simp only at hres
    have q16 : ¬ num = 16 := by omega
    have q17 : ¬ num = 17 := by omega
    have q23 : ¬ num = 23 := by omega
    have q24 : ¬ num = 24 := by omega
    have q5 : ¬ num = 5 := by omega
    have q21 : ¬ num = 21 := by omega
    have q20 : ¬ num = 20 := by omega
    have q3 : ¬ num = 3 := by omega
    have q2 : ¬ num = 2 := by omega
    simp only [go_sem, set_set' hil, set_at0, set_put0, set_at, set_put, rowDice, n1, n2, n3, n4, q16, q17, q23, q24, q5, q21, q20, q3, q2, eq_true k7]
    have ha' := nextS_range 8 l2 (by decide)
    refine callN_of (next_c i l2 8 _ (set_look hil) (by decide)) ?_
    rintro r' τ ⟨rfl, rfl⟩
    generalize nextS 8 l2 = oa' at hres ha' ⊢
    obtain ⟨a', ma'⟩ := oa'
    simp only at ha' hres
    simp only [go_sem, set_set' hil, set_at0, set_put0, set_at, set_put, rowDice, n1, n2, n3, n4, q16, q17, q23, q24, q5, q21, q20, q3, q2, eq_true k7]
    have hb' := nextS_range 2 ma' (by decide)
    refine callN_of (next_c i ma' 2 _ (set_look hil) (by decide)) ?_
    rintro r' τ ⟨rfl, rfl⟩
    generalize nextS 2 ma' = ob' at hres hb' ⊢
    obtain ⟨b', mb'⟩ := ob'
    simp only at hb' hres
    simp only [go_sem, set_set' hil, set_at0, set_put0, set_at, set_put, rowDice, n1, n2, n3, n4, q16, q17, q23, q24, q5, q21, q20, q3, q2, eq_true k7]
    exact fin _ _ (by rfl) (by rfl) hres
  · by_cases k16 : num = 16
    · rw [if_neg k7, if_pos k16] at hres
      simp only at hres
      rw [if_neg (show ¬ num = 5 by omega), if_neg (show ¬ (num = 3 ∨ num = 2) by omega)] at hres
      simp only at hres
      have q17 : ¬ num = 17 := by omega
      have q23 : ¬ num = 23 := by omega
      have q24 : ¬ num = 24 := by omega
      have q5 : ¬ num = 5 := by omega
      have q21 : ¬ num = 21 := by omega
      have q20 : ¬ num = 20 := by omega
      have q3 : ¬ num = 3 := by omega
      have q2 : ¬ num = 2 := by omega
      simp only [go_sem, set_set' hil, set_at0, set_put0, set_at, set_put, rowDice, n1, n2, n3, n4, k7, q17, q23, q24, q5, q21, q20, q3, q2, eq_true k16]
      refine awp_draw Tryz.mixed (by kernel_rfl) ?_
      simp only [go_sem, set_set' hil, set_at0, set_put0, set_at, set_put, rowDice, n1, n2, n3, n4, k7, q17, q23, q24, q5, q21, q20, q3, q2, eq_true k16]
      have hx := nextS_range 5 l2 (by decide)
      refine callW_of (iv (nextS 5 l2).1) i 0 1 (diceA l2) (diceA (nextS 5 l2).2) (set_look hil) (fun σ' h => next_c i l2 5 σ' h (by decide)) ?_
      generalize nextS 5 l2 = ox at hres hx ⊢
      obtain ⟨x, mx⟩ := ox
      simp only at hx hres
      obtain ⟨x, rfl⟩ : ∃ m : Nat, x = m := ⟨x.toNat, by omega⟩
      have x0 : (0 : Int) ≤ x := by omega
      have x1 : (x : Int) < (5 : Nat) := by omega
      have x2 : x < 5 := by omega
      have xv := ints_at [4, 4, 4, 1, 9] x x2
      rw [show ([4, 4, 4, 1, 9] : List Int)[x]?.getD 0 = at_ [4, 4, 4, 1, 9] x from rfl] at xv
      generalize at_ [4, 4, 4, 1, 9] x = wx at hres xv
      simp only [List.map_cons, List.map_nil] at xv
      simp only [go_sem, set_set' hil, set_at0, set_put0, set_at, set_put, rowDice, n1, n2, n3, n4, k7, q17, q23, q24, q5, q21, q20, q3, q2, eq_true k16, eq_true x0, eq_true x1, x2, Int.toNat_natCast, xv]
      have hb' := nextS_range 3 mx (by decide)
      refine callW_of (iv (nextS 3 mx).1) i 0 1 (diceA mx) (diceA (nextS 3 mx).2) (set_look hil) (fun σ' h => next_c i mx 3 σ' h (by decide)) ?_
      generalize nextS 3 mx = ob' at hres hb' ⊢
      obtain ⟨b', mb'⟩ := ob'
      simp only at hb' hres
      simp only [go_sem, set_set' hil, set_at0, set_put0, set_at, set_put, rowDice, n1, n2, n3, n4, k7, q17, q23, q24, q5, q21, q20, q3, q2, eq_true k16]
      exact fin _ _ (by rfl) (by rfl) hres
    · by_cases k17 : num = 17
      · rw [if_neg k7, if_neg k16, if_pos k17] at hres
        simp only at hres
        rw [if_neg (show ¬ num = 5 by omega), if_neg (show ¬ (num = 3 ∨ num = 2) by omega)] at hres
        simp only at hres
        have q23 : ¬ num = 23 := by omega
        have q24 : ¬ num = 24 := by omega
        have q5 : ¬ num = 5 := by omega
        have q21 : ¬ num = 21 := by omega
        have q20 : ¬ num = 20 := by omega
        have q3 : ¬ num = 3 := by omega
        have q2 : ¬ num = 2 := by omega
        simp only [go_sem, set_set' hil, set_at0, set_put0, set_at, set_put, rowDice, n1, n2, n3, n4, k7, k16, q23, q24, q5, q21, q20, q3, q2, eq_true k17]
        have hx := nextS_range 4 l2 (by decide)
        refine callN_of (next_c i l2 4 _ (set_look hil) (by decide)) ?_
        rintro r' τ ⟨rfl, rfl⟩
        generalize nextS 4 l2 = ox at hres hx ⊢
        obtain ⟨x, mx⟩ := ox
        simp only at hx hres
        obtain ⟨x, rfl⟩ : ∃ m : Nat, x = m := ⟨x.toNat, by omega⟩
        have x0 : (0 : Int) ≤ x := by omega
        have x1 : (x : Int) < (4 : Nat) := by omega
        have x2 : x < 4 := by omega
        have xv := ints_at [2, 2, 1, 6] x x2
        rw [show ([2, 2, 1, 6] : List Int)[x]?.getD 0 = at_ [2, 2, 1, 6] x from rfl] at xv
        generalize at_ [2, 2, 1, 6] x = wx at hres xv
        simp only [List.map_cons, List.map_nil] at xv
        simp only [go_sem, set_set' hil, set_at0, set_put0, set_at, set_put, rowDice, n1, n2, n3, n4, k7, k16, q23, q24, q5, q21, q20, q3, q2, eq_true k17, eq_true x0, eq_true x1, x2, Int.toNat_natCast, xv]
        exact fin _ _ (by rfl) (by rfl) hres
      · by_cases k23 : num = 23
        · rw [if_neg k7, if_neg k16, if_neg k17, if_pos k23] at hres
          simp only at hres
          rw [if_neg (show ¬ num = 5 by omega), if_neg (show ¬ (num = 3 ∨ num = 2) by omega)] at hres
          simp only at hres
          have q24 : ¬ num = 24 := by omega
          have q5 : ¬ num = 5 := by omega
          have q21 : ¬ num = 21 := by omega
          have q20 : ¬ num = 20 := by omega
          have q3 : ¬ num = 3 := by omega
          have q2 : ¬ num = 2 := by omega
          simp only [go_sem, set_set' hil, set_at0, set_put0, set_at, set_put, rowDice, n1, n2, n3, n4, k7, k16, k17, q24, q5, q21, q20, q3, q2, eq_true k23]
          refine awp_draw Tryz.mixed (by kernel_rfl) ?_
          simp only [go_sem, set_set' hil, set_at0, set_put0, set_at, set_put, rowDice, n1, n2, n3, n4, k7, k16, k17, q24, q5, q21, q20, q3, q2, eq_true k23]
          have hx := nextS_range 4 l2 (by decide)
          refine callW_of (iv (nextS 4 l2).1) i 0 1 (diceA l2) (diceA (nextS 4 l2).2) (set_look hil) (fun σ' h => next_c i l2 4 σ' h (by decide)) ?_
          generalize nextS 4 l2 = ox at hres hx ⊢
          obtain ⟨x, mx⟩ := ox
          simp only at hx hres
          obtain ⟨x, rfl⟩ : ∃ m : Nat, x = m := ⟨x.toNat, by omega⟩
          have x0 : (0 : Int) ≤ x := by omega
          have x1 : (x : Int) < (4 : Nat) := by omega
          have x2 : x < 4 := by omega
          have xv := ints_at [3, 3, 1, 6] x x2
          rw [show ([3, 3, 1, 6] : List Int)[x]?.getD 0 = at_ [3, 3, 1, 6] x from rfl] at xv
          generalize at_ [3, 3, 1, 6] x = wx at hres xv
          simp only [List.map_cons, List.map_nil] at xv
          simp only [go_sem, set_set' hil, set_at0, set_put0, set_at, set_put, rowDice, n1, n2, n3, n4, k7, k16, k17, q24, q5, q21, q20, q3, q2, eq_true k23, eq_true x0, eq_true x1, x2, Int.toNat_natCast, xv]
          have hb' := nextS_range 3 mx (by decide)
          refine callW_of (iv (nextS 3 mx).1) i 0 1 (diceA mx) (diceA (nextS 3 mx).2) (set_look hil) (fun σ' h => next_c i mx 3 σ' h (by decide)) ?_
          generalize nextS 3 mx = ob' at hres hb' ⊢
          obtain ⟨b', mb'⟩ := ob'
          simp only at hb' hres
          simp only [go_sem, set_set' hil, set_at0, set_put0, set_at, set_put, rowDice, n1, n2, n3, n4, k7, k16, k17, q24, q5, q21, q20, q3, q2, eq_true k23]
          exact fin _ _ (by rfl) (by rfl) hres
        · by_cases k24 : num = 24
          · rw [if_neg k7, if_neg k16, if_neg k17, if_neg k23, if_pos k24] at hres
            simp only at hres
            rw [if_neg (show ¬ num = 5 by omega), if_neg (show ¬ (num = 3 ∨ num = 2) by omega)] at hres
            simp only at hres
            have q5 : ¬ num = 5 := by omega
            have q21 : ¬ num = 21 := by omega
            have q20 : ¬ num = 20 := by omega
            have q3 : ¬ num = 3 := by omega
            have q2 : ¬ num = 2 := by omega
            simp only [go_sem, set_set' hil, set_at0, set_put0, set_at, set_put, rowDice, n1, n2, n3, n4, k7, k16, k17, k23, q5, q21, q20, q3, q2, eq_true k24]
            have ha' := nextS_range 8 l2 (by decide)
            refine callN_of (next_c i l2 8 _ (set_look hil) (by decide)) ?_
            rintro r' τ ⟨rfl, rfl⟩
            generalize nextS 8 l2 = oa' at hres ha' ⊢
            obtain ⟨a', ma'⟩ := oa'
            simp only at ha' hres
            simp only [go_sem, set_set' hil, set_at0, set_put0, set_at, set_put, rowDice, n1, n2, n3, n4, k7, k16, k17, k23, q5, q21, q20, q3, q2, eq_true k24]
            have hb' := nextS_range 9 ma' (by decide)
            refine callN_of (next_c i ma' 9 _ (set_look hil) (by decide)) ?_
            rintro r' τ ⟨rfl, rfl⟩
            generalize nextS 9 ma' = ob' at hres hb' ⊢
            obtain ⟨b', mb'⟩ := ob'
            simp only at hb' hres
            simp only [go_sem, set_set' hil, set_at0, set_put0, set_at, set_put, rowDice, n1, n2, n3, n4, k7, k16, k17, k23, q5, q21, q20, q3, q2, eq_true k24]
            exact fin _ _ (by rfl) (by rfl) hres
          · by_cases k5 : num = 5
            · rw [if_neg k7, if_neg k16, if_neg k17, if_neg k23, if_neg k24, if_pos k5] at hres
              simp only at hres
              rw [if_pos k5, if_neg (show ¬ (num = 3 ∨ num = 2) by omega)] at hres
              simp only at hres
              have q21 : ¬ num = 21 := by omega
              have q20 : ¬ num = 20 := by omega
              have q3 : ¬ num = 3 := by omega
              have q2 : ¬ num = 2 := by omega
              simp only [go_sem, set_set' hil, set_at0, set_put0, set_at, set_put, rowDice, n1, n2, n3, n4, k7, k16, k17, k23, k24, q21, q20, q3, q2, eq_true k5]
              have hx := nextS_range 5 l2 (by decide)
              refine callN_of (next_c i l2 5 _ (set_look hil) (by decide)) ?_
              rintro r' τ ⟨rfl, rfl⟩
              generalize nextS 5 l2 = ox at hres hx ⊢
              obtain ⟨x, mx⟩ := ox
              simp only at hx hres
              obtain ⟨x, rfl⟩ : ∃ m : Nat, x = m := ⟨x.toNat, by omega⟩
              have x0 : (0 : Int) ≤ x := by omega
              have x1 : (x : Int) < (5 : Nat) := by omega
              have x2 : x < 5 := by omega
              have xv := ints_at [9, 14, 3, 40, 0] x x2
              rw [show ([9, 14, 3, 40, 0] : List Int)[x]?.getD 0 = at_ [9, 14, 3, 40, 0] x from rfl] at xv
              generalize at_ [9, 14, 3, 40, 0] x = wx at hres xv
              simp only [List.map_cons, List.map_nil] at xv
              simp only [go_sem, set_set' hil, set_at0, set_put0, set_at, set_put, rowDice, n1, n2, n3, n4, k7, k16, k17, k23, k24, q21, q20, q3, q2, eq_true k5, eq_true x0, eq_true x1, x2, Int.toNat_natCast, xv]
              have hy := nextS_range 3 mx (by decide)
              refine callN_of (next_c i mx 3 _ (set_look hil) (by decide)) ?_
              rintro r' τ ⟨rfl, rfl⟩
              generalize nextS 3 mx = oy at hres hy ⊢
              obtain ⟨y, my⟩ := oy
              simp only at hy hres
              obtain ⟨y, rfl⟩ : ∃ m : Nat, y = m := ⟨y.toNat, by omega⟩
              have y0 : (0 : Int) ≤ y := by omega
              have y1 : (y : Int) < (3 : Nat) := by omega
              have y2 : y < 3 := by omega
              have yv := ints_at [0, 5, 6] y y2
              rw [show ([0, 5, 6] : List Int)[y]?.getD 0 = at_ [0, 5, 6] y from rfl] at yv
              generalize at_ [0, 5, 6] y = wy at hres yv
              simp only [List.map_cons, List.map_nil] at yv
              simp only [go_sem, set_set' hil, set_at0, set_put0, set_at, set_put, rowDice, n1, n2, n3, n4, k7, k16, k17, k23, k24, q21, q20, q3, q2, eq_true k5, eq_true y0, eq_true y1, y2, Int.toNat_natCast, yv]
              exact fin _ _ (by rfl) (by rfl) hres
            · by_cases k21 : num = 21
              · rw [if_neg k7, if_neg k16, if_neg k17, if_neg k23, if_neg k24, if_neg k5, if_pos (show num = 21 ∨ num = 20 from .inl k21)] at hres
                simp only at hres
                rw [if_neg (show ¬ num = 5 by omega), if_neg (show ¬ (num = 3 ∨ num = 2) by omega)] at hres
                simp only at hres
                have q20 : ¬ num = 20 := by omega
                have q3 : ¬ num = 3 := by omega
                have q2 : ¬ num = 2 := by omega
                simp only [go_sem, set_set' hil, set_at0, set_put0, set_at, set_put, rowDice, n1, n2, n3, n4, k7, k16, k17, k23, k24, k5, q20, q3, q2, eq_true k21]
                have hb' := dwordS_range l2
                refine callN_of (dword_c i l2 _ (set_look hil)) ?_
                rintro r' τ ⟨rfl, rfl⟩
                generalize dwordS l2 = ob' at hres hb' ⊢
                obtain ⟨b', mb'⟩ := ob'
                simp only at hb' hres
                simp only [go_sem, set_set' hil, set_at0, set_put0, set_at, set_put, rowDice, n1, n2, n3, n4, k7, k16, k17, k23, k24, k5, q20, q3, q2, eq_true k21]
                exact fin _ _ (by rfl) (by rfl) hres
              · by_cases k20 : num = 20
                · rw [if_neg k7, if_neg k16, if_neg k17, if_neg k23, if_neg k24, if_neg k5, if_pos (show num = 21 ∨ num = 20 from .inr k20)] at hres
                  simp only at hres
                  rw [if_neg (show ¬ num = 5 by omega), if_neg (show ¬ (num = 3 ∨ num = 2) by omega)] at hres
                  simp only at hres
                  have q3 : ¬ num = 3 := by omega
                  have q2 : ¬ num = 2 := by omega
                  simp only [go_sem, set_set' hil, set_at0, set_put0, set_at, set_put, rowDice, n1, n2, n3, n4, k7, k16, k17, k23, k24, k5, k21, q3, q2, eq_true k20]
                  have hb' := dwordS_range l2
                  refine callN_of (dword_c i l2 _ (set_look hil)) ?_
                  rintro r' τ ⟨rfl, rfl⟩
                  generalize dwordS l2 = ob' at hres hb' ⊢
                  obtain ⟨b', mb'⟩ := ob'
                  simp only at hb' hres
                  simp only [go_sem, set_set' hil, set_at0, set_put0, set_at, set_put, rowDice, n1, n2, n3, n4, k7, k16, k17, k23, k24, k5, k21, q3, q2, eq_true k20]
                  exact fin _ _ (by rfl) (by rfl) hres
                · by_cases k3 : num = 3
                  · rw [if_neg k7, if_neg k16, if_neg k17, if_neg k23, if_neg k24, if_neg k5, if_neg (show ¬ (num = 21 ∨ num = 20) by omega)] at hres
                    simp only at hres
                    rw [if_neg k5, if_pos (show num = 3 ∨ num = 2 from .inl k3)] at hres
                    simp only at hres
                    have q2 : ¬ num = 2 := by omega
                    simp only [go_sem, set_set' hil, set_at0, set_put0, set_at, set_put, rowDice, n1, n2, n3, n4, k7, k16, k17, k23, k24, k5, k21, k20, q2, eq_true k3]
                    have hz := nextS_range 2 l2 (by decide)
                    refine callN_of (next_c i l2 2 _ (set_look hil) (by decide)) ?_
                    rintro r' τ ⟨rfl, rfl⟩
                    generalize nextS 2 l2 = oz at hres hz ⊢
                    obtain ⟨z, mz⟩ := oz
                    simp only at hz hres
                    have w5 : IntKind.i64.wrap (5 + z) = 5 + z := wrap_i64 (by omega) (by omega)
                    simp only [go_sem, set_set' hil, set_at0, set_put0, set_at, set_put, rowDice, n1, n2, n3, n4, k7, k16, k17, k23, k24, k5, k21, k20, q2, eq_true k3, w5]
                    exact fin _ _ (by rfl) (by rfl) hres
                  · by_cases k2 : num = 2
                    · rw [if_neg k7, if_neg k16, if_neg k17, if_neg k23, if_neg k24, if_neg k5, if_neg (show ¬ (num = 21 ∨ num = 20) by omega)] at hres
                      simp only at hres
                      rw [if_neg k5, if_pos (show num = 3 ∨ num = 2 from .inr k2)] at hres
                      simp only at hres
                      simp only [go_sem, set_set' hil, set_at0, set_put0, set_at, set_put, rowDice, n1, n2, n3, n4, k7, k16, k17, k23, k24, k5, k21, k20, k3, eq_true k2]
                      have hz := nextS_range 2 l2 (by decide)
                      refine callN_of (next_c i l2 2 _ (set_look hil) (by decide)) ?_
                      rintro r' τ ⟨rfl, rfl⟩
                      generalize nextS 2 l2 = oz at hres hz ⊢
                      obtain ⟨z, mz⟩ := oz
                      simp only at hz hres
                      have w5 : IntKind.i64.wrap (5 + z) = 5 + z := wrap_i64 (by omega) (by omega)
                      simp only [go_sem, set_set' hil, set_at0, set_put0, set_at, set_put, rowDice, n1, n2, n3, n4, k7, k16, k17, k23, k24, k5, k21, k20, k3, eq_true k2, w5]
                      exact fin _ _ (by rfl) (by rfl) hres
                    · rw [if_neg k7, if_neg k16, if_neg k17, if_neg k23, if_neg k24, if_neg k5, if_neg (show ¬ (num = 21 ∨ num = 20) by omega)] at hres
                      simp only at hres
                      rw [if_neg k5, if_neg (show ¬ (num = 3 ∨ num = 2) by omega)] at hres
                      simp only at hres
                      simp only [go_sem, set_set' hil, set_at0, set_put0, set_at, set_put, rowDice, n1, n2, n3, n4, k7, k16, k17, k23, k24, k5, k21, k20, k3, k2]
                      exact fin _ _ (by rfl) (by rfl) hres
end Go.Proofs.YtdlekkhjkcbbnaaGreatDoor
set_option linter.unusedVariables false
set_option linter.unusedSimpArgs false
set_option maxRecDepth 8000
set_option maxHeartbeats 4000000
namespace Go.Proofs.YtdlekkhjkcbbnaaGreatDoor
open Go.Ab Go.Id Go.Wo Go

/-- right in every program of so many instructions or more; its second number is small -/
def RightAt (n : Int) (x : Ins) : Prop := (∀ len, n ≤ len → rightS x len = true) ∧ x.b ≤ 1000
theorem RightAt.mono {n m : Int} {x : Ins} (h : RightAt n x) (hm : n ≤ m) : RightAt m x := ⟨fun len hl => h.1 len (Int.le_trans hm hl), h.2⟩

theorem rt_0 : RightAt 0 ⟨0, 0, 0, 0⟩ := ⟨fun len _ => by simp [rightS, letsS, formsB, opsOK, Ins.nums], by decide⟩
theorem l114 : (114 : UInt8).toNat = 114 := rfl
theorem l110 : (110 : UInt8).toNat = 110 := rfl
theorem l116 : (116 : UInt8).toNat = 116 := rfl
theorem l111 : (111 : UInt8).toNat = 111 := rfl
theorem l99 : (99 : UInt8).toNat = 99 := rfl
theorem rt_1 {r b : Int} (hr : 0 ≤ r ∧ r < 8) (hb : -1 ≤ b ∧ b ≤ 1000) : RightAt 0 ⟨1, r, b, 0⟩ := ⟨fun len _ => by simp [rightS, letsS, formsB, opsOK, Ins.nums, fitsS]; omega, hb.2⟩
theorem rt_2 {r b : Int} (hr : 0 ≤ r ∧ r < 8) (hb : 0 ≤ b ∧ b < 8) : RightAt 0 ⟨2, r, b, 0⟩ := ⟨fun len _ => by simp [rightS, letsS, formsB, opsOK, Ins.nums, fitsS]; omega, by simp only; omega⟩
theorem rt_3 {o r b c : Int} (ho : 0 ≤ o ∧ o < 5) (hr : 0 ≤ r ∧ r < 8) (hb : 0 ≤ b ∧ b < 8) (hc : 0 ≤ c ∧ c < 8) : RightAt 0 ⟨3 + o, r, b, c⟩ := by
  refine ⟨fun len _ => ?_, by simp only; omega⟩
  rcases (show o = 0 ∨ o = 1 ∨ o = 2 ∨ o = 3 ∨ o = 4 by omega) with rfl | rfl | rfl | rfl | rfl <;> simp [rightS, letsS, formsB, opsOK, Ins.nums, fitsS] <;> omega
theorem rt_8 {n a : Int} (ha : 0 ≤ a ∧ a < n + 1) : RightAt n ⟨8, a, 0, 0⟩ := ⟨fun len hl => by simp [rightS, letsS, formsB, opsOK, Ins.nums, fitsS]; omega, by simp⟩
theorem rt_9 {n r b : Int} (hr : 0 ≤ r ∧ r < 8) (hb : 0 ≤ b ∧ b < n + 1) (hn : n ≤ 900) : RightAt n ⟨9, r, b, 0⟩ := ⟨fun len hl => by simp [rightS, letsS, formsB, opsOK, Ins.nums, fitsS]; omega, by simp only; omega⟩
theorem rt_10 {r b c : Int} (hr : 0 ≤ r ∧ r < 8) (hb : 0 ≤ b ∧ b < 8) (hc : 0 ≤ c ∧ c < 40) : RightAt 0 ⟨10, r, b, c⟩ := ⟨fun len _ => by simp [rightS, letsS, formsB, opsOK, Ins.nums, fitsS]; omega, by simp only; omega⟩
theorem rt_11 {r b c : Int} (hr : 0 ≤ r ∧ r < 8) (hb : 0 ≤ b ∧ b < 8) (hc : 0 ≤ c ∧ c < 40) : RightAt 0 ⟨11, r, b, c⟩ := ⟨fun len _ => by simp [rightS, letsS, formsB, opsOK, Ins.nums, fitsS]; omega, by simp only; omega⟩
theorem rt_12 {a : Int} (ha : 1 ≤ a ∧ a ≤ 24) : RightAt 0 ⟨12, a, 0, 0⟩ := ⟨fun len _ => by simp [rightS, letsS, formsB, opsOK, Ins.nums, fitsS]; omega, by simp⟩

theorem dins_right (code : Int) (l : Bytes) (h0 : 0 ≤ code) (h1 : code ≤ 900) : RightAt code (dinsS code l).1 := by
  unfold dinsS
  simp only
  have hr := nextS_range 8 l (by decide)
  generalize nextS 8 l = r at hr ⊢
  generalize nextS 10 r.2 = k
  split
  · exact rt_0.mono h0
  · split
    · exact (rt_2 hr (nextS_range 8 _ (by decide))).mono h0
    · split
      · exact (rt_3 (nextS_range 5 _ (by decide)) hr (nextS_range 8 _ (by decide)) (nextS_range 8 _ (by decide))).mono h0
      · split
        · exact rt_8 (nextS_range _ _ (by omega))
        · split
          · exact rt_9 hr (nextS_range _ _ (by omega)) h1
          · split
            · exact (rt_10 hr (nextS_range 8 _ (by decide)) (nextS_range 40 _ (by decide))).mono h0
            · split
              · exact (rt_11 hr (nextS_range 8 _ (by decide)) (nextS_range 40 _ (by decide))).mono h0
              · split
                · exact (rt_12 (by have := nextS_range 24 k.2 (by decide); omega)).mono h0
                · exact (rt_1 hr (by have := dwordS_range k.2; omega)).mono h0

theorem at_range (tab : List Int) (x lo hi : Int) (h : ∀ y ∈ tab, lo ≤ y ∧ y ≤ hi) (h0 : lo ≤ 0 ∧ 0 ≤ hi) : lo ≤ at_ tab x ∧ at_ tab x ≤ hi := by
  unfold at_
  cases hx : tab[x.toNat]? with
  | none => exact h0
  | some y => exact h y (List.mem_of_getElem? hx)
theorem num_range (x : Int) (h0 : 0 ≤ x) (h1 : x < 27) : 1 ≤ at_ numTab x ∧ at_ numTab x ≤ 24 := by
  obtain ⟨k, rfl⟩ : ∃ k : Nat, x = k := ⟨x.toNat, by omega⟩
  have : ∀ k : Nat, k < 27 → 1 ≤ at_ numTab k ∧ at_ numTab k ≤ 24 := by decide
  exact this k (by omega)
theorem abS_range (num a b : Int) (l : Bytes) (ha : -1 ≤ a ∧ a ≤ 1000) (hb : -1 ≤ b ∧ b ≤ 1000) : (-1 ≤ (abS num a b l).1 ∧ (abS num a b l).1 ≤ 1000) ∧ (-1 ≤ (abS num a b l).2.1 ∧ (abS num a b l).2.1 ≤ 1000) := by
  have nx : ∀ n l, 1 ≤ n → n ≤ 900 → -1 ≤ (nextS n l).1 ∧ (nextS n l).1 ≤ 1000 := fun n l h h' => by have := nextS_range n l h; omega
  unfold abS
  split
  · exact ⟨nx _ _ (by decide) (by decide), nx _ _ (by decide) (by decide)⟩
  · split
    · exact ⟨at_range _ _ _ _ (by decide) (by decide), nx _ _ (by decide) (by decide)⟩
    · split
      · exact ⟨at_range _ _ _ _ (by decide) (by decide), hb⟩
      · split
        · exact ⟨at_range _ _ _ _ (by decide) (by decide), nx _ _ (by decide) (by decide)⟩
        · split
          · exact ⟨nx _ _ (by decide) (by decide), nx _ _ (by decide) (by decide)⟩
          · split
            · exact ⟨ha, at_range _ _ _ _ (by decide) (by decide)⟩
            · split
              · exact ⟨ha, by have := dwordS_range l; simp only; omega⟩
              · exact ⟨ha, hb⟩
theorem block_right (l : Bytes) : (blockS l).1.length ≤ 4 ∧ ∀ x ∈ (blockS l).1, RightAt 0 x := by
  unfold blockS
  simp only
  have ho := nextS_range 27 l (by decide)
  generalize nextS 27 l = o at ho ⊢
  have hn := num_range o.1 ho.1 ho.2
  generalize at_ numTab o.1 = num at hn ⊢
  have ha := nextS_range 4 o.2 (by decide)
  generalize nextS 4 o.2 = a at ha ⊢
  have hb := nextS_range 4 a.2 (by decide)
  generalize nextS 4 a.2 = b at hb ⊢
  obtain ⟨h1, h2⟩ := abS_range num a.1 b.1 b.2 (by omega) (by omega)
  generalize abS num a.1 b.1 b.2 = c at h1 h2 ⊢
  unfold blockE
  simp only
  have hh : ∀ h : Ins × Bytes, h = (if num = 5 then (⟨2, 1, at_ [0, 5, 6] (nextS 3 c.2.2).1, 0⟩, (nextS 3 c.2.2).2) else (⟨1, 1, c.1, 0⟩, c.2.2)) → RightAt 0 h.1 := by
    rintro _ rfl
    split
    · exact rt_2 (by decide) (by have := at_range [0, 5, 6] (nextS 3 c.2.2).1 0 6 (by decide) (by decide); omega)
    · exact rt_1 (by decide) h1
  have hh' := hh _ rfl
  generalize (if num = 5 then (⟨2, 1, at_ [0, 5, 6] (nextS 3 c.2.2).1, 0⟩, (nextS 3 c.2.2).2) else (⟨1, 1, c.1, 0⟩, c.2.2) : Ins × Bytes) = h at hh' ⊢
  have h3 : ∀ x ∈ [h.1, ⟨1, 2, c.2.1, 0⟩, ⟨12, num, 0, 0⟩], RightAt 0 x := by
    intro x hx
    simp only [List.mem_cons, List.not_mem_nil, or_false] at hx
    rcases hx with rfl | rfl | rfl
    · exact hh'
    · exact rt_1 (by decide) h2
    · exact rt_12 hn
  split
  · refine ⟨by simp, fun x hx => ?_⟩
    rcases List.mem_append.1 hx with hx | hx
    · exact h3 x hx
    · rw [List.mem_singleton.1 hx]
      exact rt_2 (by have := nextS_range 2 h.2 (by decide); omega) (by decide)
  · exact ⟨by simp, h3⟩
end Go.Proofs.YtdlekkhjkcbbnaaGreatDoor
