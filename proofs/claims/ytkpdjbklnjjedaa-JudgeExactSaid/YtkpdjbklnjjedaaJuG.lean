/-
  Contracts: judge's Explains.
-/
import Derived.Test.YtkpdjbklnjjedaaJuF
set_option linter.unusedVariables false
set_option linter.unusedSimpArgs false
set_option maxRecDepth 8000
set_option maxHeartbeats 2000000
namespace Go.Proofs.Ytkpdjbklnjjedaa
open Go.Ab Go.Ju Go

def dH (out : List (List Int)) (d : List Int) : Heap := [.row 0 8 (out.map setV), .row 0 8 [setV d]]

theorem has_d {out : List (List Int)} {d : List Int} {i : Nat} {σ junk : Heap} (hd : d.length = 8) (hi : i < 512) :
    ACalls Try.prog 24 [.ptr (σ.length + 1) 0 0 0, iv i] (σ ++ (.row 0 8 (out.map setV) :: .row 0 8 [setV d] :: junk)) (fun r τ => r = bv (hasS d i) ∧ τ = σ ++ (.row 0 8 (out.map setV) :: .row 0 8 [setV d] :: junk)) :=
  has_c d i _ 0 0 [setV d] _ hd (by simp only [go_sem]) rfl hi

theorem inside_d {n : Nat} {out : List (List Int)} {d : List Int} {i : Nat} {σ junk : Heap} (hd : d.length = 8) (hs : Sets n out) (hi : i < n) :
    ACalls Try.prog 25 [.ptr σ.length 0 i 0, .ptr (σ.length + 1) 0 0 0] (σ ++ (.row 0 8 (out.map setV) :: .row 0 8 [setV d] :: junk)) (fun r τ => r = bv (insideS (out.getD i []) d) ∧ τ = σ ++ (.row 0 8 (out.map setV) :: .row 0 8 [setV d] :: junk)) := by
  obtain ⟨ws, h1, h2⟩ := hs.2 i hi
  rw [List.getD_eq_getElem?_getD, h1]
  exact inside_c ws d _ 0 i _ 0 0 (out.map setV) [setV d] _ h2 hd (by simp only [go_sem]) (by rw [List.getElem?_map, h1]; rfl) (by simp only [go_sem]) rfl

theorem add_d {out : List (List Int)} {d : List Int} {i : Nat} {σ junk : Heap} (hd : d.length = 8) (hi : i < 512) :
    ACalls Try.prog 26 [.ptr (σ.length + 1) 0 0 0, iv i] (σ ++ (.row 0 8 (out.map setV) :: .row 0 8 [setV d] :: junk)) (fun r τ => r = .tup [] ∧ τ = σ ++ (.row 0 8 (out.map setV) :: .row 0 8 [setV (addS d i)] :: junk)) := by
  refine (add_c d i _ 0 0 [setV d] _ hd (by simp only [go_sem]) rfl hi).mono ?_
  rintro r τ ⟨rfl, rfl⟩
  exact ⟨rfl, by simp only [go_sem]⟩

theorem wfH_d {σ : Heap} (hw : WfH σ.length σ) (out : List (List Int)) (d : List Int) : WfH (σ.length + 2) (σ ++ [.row 0 8 (out.map setV), .row 0 8 [setV d]]) := wfH_app (l := [_, _]) hw fun o ho => by
  simp only [List.mem_cons, List.not_mem_nil, or_false] at ho
  rcases ho with rfl | rfl
  · exact allIL_setV _
  · exact allIL_1 (pure_setV _)

theorem jexplains_c (l : List Acc) (order : List Int) (σ : Heap) (hl : l.length < 2^62) (ho : order.length < 2^62) : ACalls Try.prog 15 [accs l, ints order] σ (fun r σ' => r = bv (jExplains l order) ∧ σ' = σ) := by
  refine acalls_go Try.func15 rfl Try.call15 Try.ntmps15 Try.results15 (Nat.le_of_ble_eq_true rfl) fun hw => ?_
  simp only [go_sem, accs, ints]
  refine callN_of (jvalid_c l σ hl) ?_
  rintro r σ' ⟨rfl, rfl⟩
  cases hv : jValid l with
  | false =>
    simp only [go_sem, accs, ints, hv]
    exact retOK_same hw trivial ⟨by simp [jExplains, hv], rfl⟩
  | true =>
    obtain ⟨h5, hu⟩ := jValid_uniq hv
    by_cases hlen : order.length = l.length
    · simp only [go_sem, accs, ints, hv, hlen]
      refine callN_of (before_c l σ' h5 hu) ?_
      rintro r τ ⟨rfl, rfl⟩
      have hs := sets_bef l l.length
      simp only [go_sem, accs, ints, hlen]
      refine loop_junk (X := Nat × List Int) (fun x => [(0, ⟨true, accs l⟩), (5, ⟨true, .os σ'.length 0 0 l.length⟩), (6, ⟨true, .ptr (σ'.length + 1) 0 0 0⟩), (21, ⟨true, ints order⟩), (22, ⟨true, iv l.length⟩), (23, ⟨true, iv x.1⟩)]) (fun x => σ' ++ [.row 0 8 ((jBef l l.length).map setV), .row 0 8 [setV x.2]])
        (fun x => x.1 ≤ order.length ∧ x.2.length = 8 ∧ jGoE (jBef l l.length) l.length (order.drop x.1) x.2 = jGoE (jBef l l.length) l.length order zset) (fun x => order.length - x.1) (0, zset) ⟨by simp, rfl, by simp⟩ (by simp only [go_sem, accs, ints]; simp) rfl ?_
      rintro ⟨k, d⟩ ⟨hk, hd, hgo⟩
      simp only at hk hd hgo
      by_cases hlt : k < l.length
      · have hlt' : k < order.length := by omega
        have hg := List.getElem?_eq_getElem hlt'
        have hdrop : order.drop k = order[k] :: order.drop (k + 1) := List.drop_eq_getElem_cons hlt'
        rw [hdrop] at hgo
        have hE : jExplains l order = jGoE (jBef l l.length) l.length (order[k] :: order.drop (k + 1)) d := by rw [hgo]; simp [jExplains, hv, hlen]
        by_cases hb : order[k] < 0 ∨ (l.length : Int) ≤ order[k]
        · have hbb : (decide (order[k] < 0) || decide ((l.length : Int) ≤ order[k])) = true := by simpa using hb
          simp only [go_sem, accs, ints, hlt, hlt', hg, hlen, hbb]
          refine callG_of (bv true) (fun h => by cases h) ?_
          simp only [go_sem, accs, ints, hlt, hlt', hg, hlen, hbb]
          refine callG_of (bv true) (fun h => by cases h) ?_
          simp only [go_sem, accs, ints, hlt, hlt', hg, hlen, hbb]
          exact retOK_app hw trivial ⟨by rw [hE]; simp only [jGoE, hb, if_true], rfl⟩
        · obtain ⟨i, hi⟩ : ∃ i : Nat, order[k] = i := ⟨order[k].toNat, by omega⟩
          rw [hi] at hb hg hE hgo
          have hil : i < l.length := by omega
          have hil' : ¬ l.length ≤ i := by omega
          have hgoE : jGoE (jBef l l.length) l.length ((i : Int) :: order.drop (k + 1)) d = if jFree (jBef l l.length) d i then jGoE (jBef l l.length) l.length (order.drop (k + 1)) (addS d i) else false := by
            simp only [jGoE, hb, if_false]; rfl
          rw [hgoE] at hE hgo
          simp only [go_sem, accs, ints, hlt, hlt', hg, hlen, hil, hil']
          refine callG_of (bv (hasS d i)) (fun _ => has_d hd (by omega)) ?_
          simp only [go_sem, accs, ints, hlt, hlt', hg, hlen, hil, hil']
          refine callG_of (bv (insideS ((jBef l l.length).getD i []) d)) (fun _ => inside_d hd hs hil) ?_
          cases hf : jFree (jBef l l.length) d i with
          | false =>
            have hff : (hasS d i || !insideS ((jBef l l.length).getD i []) d) = true := by
              cases h1 : hasS d i <;> cases h2 : insideS ((jBef l l.length).getD i []) d <;> simp_all [jFree]
            simp only [go_sem, accs, ints, hlt, hlt', hg, hlen, hil, hil', decide_false, hff]
            exact retOK_app hw trivial ⟨by rw [hE, hf]; rfl, rfl⟩
          | true =>
            have h1 : hasS d i = false ∧ insideS ((jBef l l.length).getD i []) d = true := by simpa [jFree] using hf
            simp only [go_sem, accs, ints, hlt, hlt', hg, hlen, hil, hil', h1.1, h1.2, decide_false]
            refine callN_of (add_d hd (by omega)) ?_
            rintro r τ ⟨rfl, rfl⟩
            simp only [go_sem, accs, ints, hlt]
            rw [hf, if_pos rfl] at hgo
            refine ⟨(k + 1, addS d i), by show l.length - (k + 1) < _; omega, ⟨by show k + 1 ≤ _; omega, by rw [addS_length, hd], hgo⟩, inc k (by omega), ?_, ?_⟩
            · exact List.take_of_length_le (by simp)
            · exact ⟨by omega, wfH_d hw _ _⟩
      · simp only [go_sem, accs, ints, hlt]
        have : k = order.length := by omega
        subst this
        exact retOK_app hw trivial ⟨by rw [List.drop_length] at hgo; simp only [jExplains, hv, hlen, ← hgo, jGoE]; simp, rfl⟩
    · simp only [go_sem, accs, ints, hv, hlen]
      exact retOK_same hw trivial ⟨by simp [jExplains, hlen], rfl⟩

end Go.Proofs.Ytkpdjbklnjjedaa
