/-
  Contracts: word and Split of the reference.
-/
import Derived.Test.YtdlekkhjkcbbnaaDoorWoG
set_option linter.unusedVariables false
set_option linter.unusedSimpArgs false
set_option maxRecDepth 8000
set_option maxHeartbeats 2000000
namespace Go.Proofs.YtdlekkhjkcbbnaaDoor
open Go.Ab Go.Id Go.Wo Go

def wordR (l : Bytes) (k : Nat) (σ : Heap) : AV → Heap → Prop := fun r σ' => (match wordS l k with
  | none => ∃ x y, r = .tup [sw x, iv y, bv false]
  | some (w, to) => r = .tup [sv w, iv to, bv true]) ∧ σ' = σ
theorem getD_drop {l : Bytes} {k : Nat} (h : k < l.length) : l.drop k = l[k]?.getD 0 :: l.drop (k + 1) := by rw [List.drop_eq_getElem_cons h, List.getElem?_eq_getElem h]; rfl
theorem extract_sv (s : ByteArray) (a b : Nat) : sw (s.extract a b) = sv ((s.data.toList.drop a).take (b - a)) := by
  have : (s.extract a b).data.toList = (s.data.toList.drop a).take (b - a) := by rw [Lib.extract_data]
  show AV.v (.string (s.extract a b)) = .v (.string _)
  congr 2
  cases h : s.extract a b with
  | mk d => rw [h] at this; rw [← this]

theorem wordQ_cons (c : UInt8) (t out : Bytes) (i : Nat) : wordQ (c :: t) out i = if c.toNat = 34 then some (out, i + 1) else if c.toNat = 10 ∨ c.toNat = 13 then none
    else if c.toNat = 92 then (match t with | [] => none | d :: l => if (meanB d).2 = true then wordQ l (out ++ [(meanB d).1]) (i + 2) else none) else wordQ t (out ++ [c]) (i + 1) := by
  cases t with
  | nil =>
    by_cases h1 : c.toNat = 34
    · simp [wordQ, h1]
    · by_cases h2 : c.toNat = 10 ∨ c.toNat = 13
      · simp [wordQ, h1, h2]
      · by_cases h3 : c.toNat = 92
        · simp [wordQ, h1, h2, h3]
        · simp [wordQ, h1, h2, h3]
  | cons d l => rfl
theorem wo_row {σ : Heap} (hw : WfH σ.length σ) (g : Nat) (out : Bytes) : WfH (σ.length + 1) (σ ++ [.row g 1 (out.map byteV)]) := wfH_row1 hw (pureL_map (f := byteV) (fun _ => trivial) _)

theorem wordQ_le : ∀ (l out : Bytes) (i : Nat) (w : Bytes) (to : Nat), wordQ l out i = some (w, to) → i < to ∧ to ≤ i + l.length
  | l, out, i, w, to, h => by
    have := run_quoted l out [] i
    rw [h] at this
    exact ⟨this.1, this.2.1⟩
theorem wordS_le {l : Bytes} {k : Nat} {w : Bytes} {to : Nat} (hk : k ≤ l.length) (h : wordS l k = some (w, to)) : k < to ∧ to ≤ l.length := by
  unfold wordS at h
  split at h
  · rename_i hq
    have hlt : k < l.length := by
      rcases Nat.lt_or_ge k l.length with h1 | h1
      · exact h1
      · rw [List.getElem?_eq_none h1] at hq; cases hq
    have := wordQ_le _ _ _ _ _ h
    rw [List.length_drop] at this
    omega
  · split at h
    · cases h
    · rename_i hne
      simp only [Option.some.injEq, Prod.mk.injEq] at h
      obtain ⟨rfl, rfl⟩ := h
      have h1 : ((l.drop k).takeWhile simB).length ≤ (l.drop k).length := (List.takeWhile_sublist _).length_le
      rw [List.length_drop] at h1
      have h2 : 0 < ((l.drop k).takeWhile simB).length := List.length_pos_iff.2 hne
      omega

theorem retOK_words1 {σ junk : Heap} (hw : WfH σ.length σ) (g : Nat) (l : List Bytes) (c : Int) {n : Nat} {es : List AV} (hn : n = l.length) (he : es = l.map sv) {R : AV → Heap → Prop} (h : R (.tup [strsB l, iv c]) σ) :
    RetOK σ.length (.tup [.os σ.length g 0 n, iv c]) (σ ++ (.row g 1 es :: junk)) R := by
  subst hn; subst he
  refine retOK_frz (i := σ.length) (g := g) (e := 1) (es := l.map sv) (by simp only [go_sem]) ?_
  simp only [frz, frzL, go_sem, List.drop_zero]
  exact retOK_app hw (by simp only [go_sem]) h

end Go.Proofs.YtdlekkhjkcbbnaaDoor
