/-
  Contracts: judge's makers, Valid.
-/
import Derived.Test.YtkpdjbklnjjedaaJuD
import Derived.Test.YtkpdjbklnjjedaaJuK
set_option linter.unusedVariables false
set_option linter.unusedSimpArgs false
set_option maxRecDepth 8000
set_option maxHeartbeats 1000000
namespace Go.Proofs.Ytkpdjbklnjjedaa
open Go.Ab Go.Ju Go

theorem look_ver {N : Nat} {o : POp} {E : Env} {σ : Heap} {K : Env → Heap → Prop} {x y : Operand} {i g : Nat} {es : List (Value × AV)} {l : List Acc} {a b : Int} {G : Bool} (hg : gcond E o = some G) (ho : o.op = .lookup 54 x y true)
    (hx : (lk E x).a = .mp i g) (hy : (lk E y).a = .agg [uv a, iv b]) (hi : σ[i]? = some (.map g es)) (hM : MapOf es l) (hs : G = true → opsC E o.op.operands.toList)
    (hK : putK N o.dst ⟨G, .tup [iv ((jfind l a b).getD 0), bv (jfind l a b).isSome]⟩ K E σ) : AOp Try.prog N o E σ K := by
  refine aop_lookup (k := ver a b) ver_law hg ho Try.ty54 rfl Try.ty59 Try.ty3 hx hy (by simp [cav, cellV]) hi ⟨⟨a, b, rfl⟩, fun p hp => (hM.2 p hp).1⟩ hs ?_
  have : mres (ver a b) es (AV.v (.int .i64 0)) true = .tup [iv ((jfind l a b).getD 0), bv (jfind l a b).isSome] := by
    unfold mres
    rw [hM.1]
    cases jfind l a b <;> rfl
  rw [this]; exact hK

theorem take_app1 {σ junk : Heap} {o : AObj} : List.take (σ.length + 1) (σ ++ (o :: junk)) = σ ++ [o] :=
  (congrArg (List.take _) (List.append_assoc σ [o] junk).symm).trans (List.take_left' (by simp))
theorem wfH_map {σ : Heap} {es : List (Value × AV)} {l : List Acc} (hw : WfH σ.length σ) (hM : MapOf es l) : WfH (σ.length + 1) (σ ++ [.map 0 es]) := wfH_app (l := [.map 0 es]) hw fun o ho => by
  rw [List.mem_singleton] at ho; subst ho; exact fun p hp => Pure.allI (hM.2 p hp).2

theorem makers_c (l : List Acc) (σ : Heap) (hl : l.length < 2^62) : ACalls Try.prog 28 [accs l] σ (fun r σ' => (allTo l.length (jUniq l) = true ∧ ∃ es, MapOf es l ∧ r = .tup [.mp σ.length 0, bv true] ∧ σ' = σ ++ [.map 0 es]) ∨ (allTo l.length (jUniq l) = false ∧ r = .tup [.v (.map none), bv false] ∧ σ' = σ)) := by
  refine acalls_go Try.func28 rfl Try.call28 Try.ntmps28 Try.results28 (Nat.le_of_ble_eq_true rfl) fun hw => ?_
  simp only [go_sem, accs]
  refine aop_makeMap rfl rfl ?_
  simp only [go_sem, accs]
  refine loop_junk (X := Nat × List (Value × AV)) (fun x => [(4, ⟨true, .mp σ.length 0⟩), (11, ⟨true, accs l⟩), (12, ⟨true, iv l.length⟩), (13, ⟨true, iv x.1⟩)]) (fun x => σ ++ [.map 0 x.2]) (fun x => x.1 ≤ l.length ∧ allTo x.1 (jUniq l) = true ∧ MapOf x.2 (l.take x.1)) (fun x => l.length - x.1) (0, []) ⟨by simp, by simp [allTo], mapOf_nil⟩ (by simp only [go_sem, accs]; simp) rfl ?_
  rintro ⟨k, es⟩ ⟨hk, hu, hM⟩
  simp only at hk hu hM
  by_cases hlt : k < l.length
  · have hg := List.getElem?_eq_getElem hlt
    have hwr := inc k (by omega)
    have hwf : ∀ es' : List (Value × AV), MapOf es' (l.take (k + 1)) → WfH (σ.length + 1) (σ ++ [.map 0 es']) := fun es' hM' => wfH_app (l := [.map 0 es']) hw fun o ho => by
      rw [List.mem_singleton] at ho; subst ho; exact fun p hp => Pure.allI (hM'.2 p hp).2
    by_cases hm : l[k].m = 0
    · simp only [go_sem, accs, hlt, hg, Acc.av, hm]
      have hM' : MapOf es (l.take (k + 1)) := by rw [take_snoc hlt]; exact mapOf_skip hM hm
      refine ⟨(k + 1, es), by show l.length - (k + 1) < _; omega, ⟨by show k + 1 ≤ _; omega, ?_, hM'⟩, hwr, ?_, by omega, hwf es hM'⟩
      · show allTo (k + 1) _ = _; rw [allTo_succ, hu]; simp [jUniq, hg, hm]
      · exact (congrArg (List.take _) (List.append_assoc σ [.map 0 es] _).symm).trans (List.take_left' (by simp))
    · have hs := jfind_isSome (l := l.take k) (o := l[k].o) hm
      simp only [go_sem, accs, hlt, hg, Acc.av, hm]
      refine look_ver (G := true) (a := l[k].o) (b := l[k].m) rfl rfl rfl rfl (by simp only [go_sem]) hM (fun _ => by simp only [go_sem]) ?_
      simp only [go_sem, hs]
      cases hr : rMade (l.take k) l[k].o l[k].m with
      | true =>
        simp only [go_sem]
        refine retOK_app hw (by simp only [go_sem]) (.inr ⟨?_, rfl, rfl⟩)
        rw [allTo_false hlt]; simp [jUniq, hg, hm, hr]
      | false =>
        simp only [go_sem]
        refine aop_mapUpdate (k := ver l[k].o l[k].m) ver_law rfl (.inl rfl) Try.ty54 rfl Try.ty59 rfl rfl (by simp [cav, cellV]) (by simp only [go_sem]) ⟨⟨_, _, rfl⟩, fun p hp => (hM.2 p hp).1⟩ (by simp only [go_sem]) rfl ?_
        simp only [go_sem]
        have hM' : MapOf (mset (ver l[k].o l[k].m) (iv k) es) (l.take (k + 1)) := by
          have := mapOf_set hM hm hr
          rw [List.length_take, Nat.min_eq_left hk] at this
          rw [take_snoc hlt]; exact this
        refine ⟨(k + 1, mset (ver l[k].o l[k].m) (iv k) es), by show l.length - (k + 1) < _; omega, ⟨by show k + 1 ≤ _; omega, ?_, hM'⟩, hwr, ?_, by omega, hwf _ hM'⟩
        · show allTo (k + 1) _ = _; rw [allTo_succ, hu]; simp [jUniq, hg, hr]
        · exact (congrArg (List.take _) (List.append_assoc σ [.map 0 _] _).symm).trans (List.take_left' (by simp))
  · simp only [go_sem, accs, hlt]
    have : k = l.length := by omega
    subst this
    rw [List.take_length] at hM
    refine retOK_new hw (fun p hp => Pure.allI (hM.2 p hp).2) (by simp only [go_sem]; omega) (.inl ⟨hu, es, hM, rfl, rfl⟩)

theorem jvalid_c (l : List Acc) (σ : Heap) (hl : l.length < 2^62) : ACalls Try.prog 12 [accs l] σ (fun r σ' => r = bv (jValid l) ∧ σ' = σ) := by
  refine acalls_go Try.func12 rfl Try.call12 Try.ntmps12 Try.results12 (Nat.le_of_ble_eq_true rfl) fun hw => ?_
  by_cases h512 : 512 < (l.length : Int)
  · simp only [go_sem, accs, h512]
    refine retOK_same hw trivial ⟨by simp only [jValid]; rw [decide_eq_false (by omega)]; rfl, rfl⟩
  · have h5 : l.length ≤ 512 := by omega
    simp only [go_sem, accs, h512]
    refine callN_of (makers_c l σ hl) ?_
    rintro r σ' (⟨hu, es, hM, rfl, rfl⟩ | ⟨hu, rfl, rfl⟩)
    · simp only [go_sem, accs]
      refine loop_junk (X := Nat) (fun k => [(3, ⟨true, .mp σ.length 0⟩), (4, ⟨true, bv true⟩), (17, ⟨true, accs l⟩), (18, ⟨true, iv l.length⟩), (19, ⟨true, iv k⟩)]) (fun _ => σ ++ [.map 0 es]) (fun k => k ≤ l.length ∧ allTo k (jOk l) = true) (fun k => l.length - k) 0 (by simp [allTo]) (by simp only [go_sem, accs]; simp) rfl ?_
      rintro k ⟨hk, hm⟩
      by_cases hlt : k < l.length
      · have hg := List.getElem?_eq_getElem hlt
        have hwr := inc k (by omega)
        simp only [go_sem, accs, hlt, hg, Acc.av]
        refine look_ver (G := true) (a := l[k].o) (b := l[k].s) rfl rfl rfl rfl (by simp only [go_sem]) hM (fun _ => by simp only [go_sem]) ?_
        simp only [go_sem]
        split
        · rename_i h; refine retOK_app hw trivial ⟨?_, rfl⟩
          simp only [jValid]; rw [allTo_false (p := jOk l) hlt (by simp only [jOk, hg]; rw [Bool.not_eq_false']; simpa only [Bool.or_eq_true, Bool.and_eq_true, decide_eq_true_eq, Bool.not_eq_true', decide_eq_false_iff_not] using h)]; simp
        · rename_i h
          refine ⟨k + 1, by omega, ⟨by omega, ?_⟩, hwr, take_app1, by omega, wfH_map hw hM⟩
          rw [allTo_succ, hm]; simp only [jOk, hg]; rw [Bool.true_and, Bool.not_eq_true', ← Bool.not_eq_true]; intro hb; exact h (by simpa only [Bool.or_eq_true, Bool.and_eq_true, decide_eq_true_eq, Bool.not_eq_true', decide_eq_false_iff_not] using hb)
      · simp only [go_sem, accs, hlt]
        refine retOK_app hw trivial ⟨?_, rfl⟩
        have : k = l.length := by omega
        subst this
        simp only [jValid, hu, hm, decide_eq_true h5]; rfl
    · have hpos : 0 < l.length := by
        rcases Nat.eq_zero_or_pos l.length with h | h
        · rw [h] at hu; simp [allTo] at hu
        · exact h
      simp only [go_sem, accs]
      refine loop_junk (X := Nat) (fun k => [(3, ⟨true, .v (.map none)⟩), (4, ⟨true, bv false⟩), (17, ⟨true, accs l⟩), (18, ⟨true, iv l.length⟩), (19, ⟨true, iv k⟩)]) (fun _ => σ') (fun k => k = 0) (fun k => l.length - k) 0 rfl (by simp only [go_sem, accs]; simp) rfl ?_
      rintro k rfl
      have hg := List.getElem?_eq_getElem hpos
      have h0 : ((0 : Nat) : Int) < l.length := by omega
      simp only [go_sem, accs, hpos, hg, Acc.av]
      refine aop_lookup_nil (k := ver l[0].o l[0].s) (G := true) ver_law rfl rfl Try.ty54 rfl Try.ty59 Try.ty3 rfl rfl (by simp [cav, cellV]) ⟨_, _, rfl⟩ (fun _ => by simp only [go_sem]) ?_
      simp only [mres, mfind]
      simp only [go_sem]
      refine retOK_app hw trivial ⟨?_, rfl⟩
      simp [jValid, hu]

end Go.Proofs.Ytkpdjbklnjjedaa
