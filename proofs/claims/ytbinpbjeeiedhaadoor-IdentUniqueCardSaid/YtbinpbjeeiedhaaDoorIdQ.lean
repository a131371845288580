/-
  Plain laws of allocators that give identifiers in turns: none is given twice.
-/
import Derived.Test.YtbinpbjeeiedhaaDoorIdP
set_option linter.unusedVariables false
set_option linter.unusedSimpArgs false
set_option linter.unusedSectionVars false
namespace Go.Id
open Go.Ab

structure Good (B : Int) (L : List Allo) : Prop where
  rng : ∀ a ∈ L, 0 ≤ a.node ∧ a.node ≤ 2 ∧ 0 ≤ a.boot ∧ a.boot ≤ 2 ∧ 0 ≤ a.serial ∧ a.serial ≤ B
  apart : L.Pairwise fun a b => ¬ (a.node = b.node ∧ a.boot = b.boot)

def Given (L : List Allo) (g : List Int) : Prop := ∀ id ∈ g, ∃ a ∈ L, ∃ s : Int, 1 ≤ s ∧ s ≤ a.serial ∧ id = idOf a.node a.boot s

theorem idOf_int {n b s : Int} (h0 : 0 ≤ n) (h1 : n ≤ 2) (h2 : 0 ≤ b) (h3 : b ≤ 2) (h4 : 0 ≤ s) (h5 : s < 2^40) : idOf n b s = n * 2^56 + b * 2^40 + s := by
  obtain ⟨n, rfl⟩ := Int.eq_ofNat_of_zero_le h0
  obtain ⟨b, rfl⟩ := Int.eq_ofNat_of_zero_le h2
  obtain ⟨s, rfl⟩ := Int.eq_ofNat_of_zero_le h4
  rw [idOf_nat (by omega) (by omega) (by omega)]
  omega

theorem apart_eq {L : List Allo} (h : L.Pairwise fun a b => ¬ (a.node = b.node ∧ a.boot = b.boot)) : ∀ a ∈ L, ∀ b ∈ L, a.node = b.node → a.boot = b.boot → a = b := by
  induction h with
  | nil => intro a ha; simp at ha
  | cons h1 h2 ih =>
    intro a ha b hb hn hbo
    rcases List.mem_cons.1 ha with ea | ha'
    · rcases List.mem_cons.1 hb with eb | hb'
      · rw [ea, eb]
      · exact absurd ⟨by rw [← ea]; exact hn, by rw [← ea]; exact hbo⟩ (h1 b hb')
    · rcases List.mem_cons.1 hb with eb | hb'
      · exact absurd ⟨by rw [← eb]; exact hn.symm, by rw [← eb]; exact hbo.symm⟩ (h1 a ha')
      · exact ih a ha' b hb' hn hbo

/-- **A new identifier was not given.** -/
theorem fresh {B : Int} {L : List Allo} {g : List Int} {a : Allo} (hL : Good B L) (hg : Given L g) (ha : a ∈ L) (hB : B < 1000000) {j : Nat} (hj : j < 16) : idOf a.node a.boot (a.serial + ((j : Int) + 1)) ∉ g ++ idsS a j := by
  obtain ⟨r0, r1, r2, r3, r4, r5⟩ := hL.rng a ha
  rw [List.mem_append]
  rintro (hm | hm)
  · obtain ⟨b, hb, s, hs1, hs2, he⟩ := hg _ hm
    obtain ⟨q0, q1, q2, q3, q4, q5⟩ := hL.rng b hb
    rw [idOf_int r0 r1 r2 r3 (by omega) (by omega), idOf_int q0 q1 q2 q3 (by omega) (by omega)] at he
    have := apart_eq hL.apart a ha b hb (by omega) (by omega)
    subst this
    omega
  · obtain ⟨i, hi, he⟩ := List.mem_map.1 hm
    have hi := List.mem_range.1 hi
    rw [idOf_int r0 r1 r2 r3 (by omega) (by omega), idOf_int r0 r1 r2 r3 (by omega) (by omega)] at he
    omega

theorem valid_id {n b s : Int} (h0 : 0 ≤ n) (h1 : n ≤ 2) (h2 : 0 ≤ b) (h3 : b ≤ 2) (h4 : 1 ≤ s) (h5 : s < 2^40) : validS (idOf n b s) = true := by
  obtain ⟨n, rfl⟩ := Int.eq_ofNat_of_zero_le h0
  obtain ⟨b, rfl⟩ := Int.eq_ofNat_of_zero_le h2
  obtain ⟨s, rfl⟩ := Int.eq_ofNat_of_zero_le (show 0 ≤ s by omega)
  have e := idOf_nat (n := n) (b := b) (s := s) (by omega) (by omega) (by omega)
  unfold validS
  rw [e, nodeOf_nat (by omega), bootOf_nat (by omega), serOf_nat (by omega), show (n * 2^56 + b * 2^40 + s) / 2^56 = n by omega, show (n * 2^56 + b * 2^40 + s) / 2^40 % 2^16 = b by omega, show (n * 2^56 + b * 2^40 + s) % 2^40 = s by omega]
  have hw : within (n : Int) (b : Int) = true := by simp [within]; omega
  rw [makeS, if_pos ⟨hw, by omega, by omega⟩, e]
  simp

theorem good_set {B : Int} {L : List Allo} {k : Nat} (hk : k < L.length) (hL : Good B L) {c : Nat} (hc : c ≤ 15) : Good (B + 15) (L.set k ⟨L[k].node, L[k].boot, L[k].serial + (c : Int)⟩) := by
  constructor
  · intro a ha
    rcases List.mem_or_eq_of_mem_set ha with ha | rfl
    · have := hL.rng a ha; omega
    · have := hL.rng L[k] (List.getElem_mem hk); simp only; omega
  · have h := hL.apart
    rw [List.pairwise_iff_getElem] at h ⊢
    intro i j hi hj hij
    rw [List.length_set] at hi hj
    have := h i j hi hj hij
    rw [List.getElem_set, List.getElem_set]
    split <;> split <;> simp_all

theorem given_set {B : Int} {L : List Allo} {g : List Int} {k : Nat} (hk : k < L.length) (hL : Good B L) (hg : Given L g) {c : Nat} : Given (L.set k ⟨L[k].node, L[k].boot, L[k].serial + (c : Int)⟩) (g ++ idsS L[k] c) := by
  have hr := hL.rng L[k] (List.getElem_mem hk)
  have hmem : (⟨L[k].node, L[k].boot, L[k].serial + (c : Int)⟩ : Allo) ∈ L.set k ⟨L[k].node, L[k].boot, L[k].serial + (c : Int)⟩ := by
    rw [List.mem_iff_getElem]; exact ⟨k, by simpa using hk, by simp⟩
  intro id hid
  rcases List.mem_append.1 hid with hid | hid
  · obtain ⟨a, ha, s, h1, h2, h3⟩ := hg id hid
    obtain ⟨i, hi, rfl⟩ := List.mem_iff_getElem.1 ha
    by_cases e : k = i
    · subst e
      exact ⟨_, hmem, s, h1, by simp only; omega, h3⟩
    · refine ⟨L[i], ?_, s, h1, h2, h3⟩
      rw [List.mem_iff_getElem]
      exact ⟨i, by simpa using hi, by rw [List.getElem_set, if_neg e]⟩
  · obtain ⟨i, hi, rfl⟩ := List.mem_map.1 hid
    have hi := List.mem_range.1 hi
    exact ⟨_, hmem, L[k].serial + ((i : Int) + 1), by omega, by simp only; omega, rfl⟩

/-- the map of what was given -/
def gmap (g : List Int) : List (Value × AV) := g.map fun id => (.int .u64 id, bv true)
theorem mfind_gmap {g : List Int} {id : Int} (h : id ∉ g) : mfind (.int .u64 id) (gmap g) = none := by
  induction g with
  | nil => rfl
  | cons a g ih =>
    simp only [gmap, List.map_cons, mfind]
    rw [if_neg (by intro e; injection e with _ e; exact h (by rw [e]; simp))]
    exact ih (fun hm => h (List.mem_cons_of_mem _ hm))
theorem mset_gmap {g : List Int} {id : Int} (h : id ∉ g) : mset (.int .u64 id) (bv true) (gmap g) = gmap (g ++ [id]) := by
  induction g with
  | nil => rfl
  | cons a g ih =>
    simp only [gmap, List.map_cons, List.cons_append, mset]
    rw [if_neg (by intro e; injection e with _ e; exact h (by rw [e]; simp))]
    have := ih (fun hm => h (List.mem_cons_of_mem _ hm))
    simp only [gmap] at this
    rw [this]
theorem gmap_keys {g : List Int} : ∀ p ∈ gmap g, ∃ a, p.1 = .int .u64 a := by
  intro p hp
  obtain ⟨a, _, rfl⟩ := List.mem_map.1 hp
  exact ⟨a, rfl⟩
theorem good_snoc {B : Int} {L : List Allo} {n b : Int} (hL : Good B L) (hB : 0 ≤ B) (h0 : 0 ≤ n) (h1 : n ≤ 2) (h2 : 0 ≤ b) (h3 : b ≤ 2) (hk : (L.any fun x => decide (x.node = n) && decide (x.boot = b)) = false) : Good B (L ++ [⟨n, b, 0⟩]) := by
  constructor
  · intro a ha
    rcases List.mem_append.1 ha with ha | ha
    · exact hL.rng a ha
    · rw [List.mem_singleton] at ha; subst ha; simp only; omega
  · rw [List.pairwise_append]
    refine ⟨hL.apart, List.pairwise_singleton _ _, fun a ha b' hb' => ?_⟩
    rw [List.mem_singleton] at hb'; subst hb'
    rw [List.any_eq_false] at hk
    have := hk a ha
    simpa using this
end Go.Id
