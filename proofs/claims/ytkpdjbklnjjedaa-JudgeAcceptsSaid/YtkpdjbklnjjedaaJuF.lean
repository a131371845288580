/-
  Contracts: judge's before.
-/
import Derived.Test.YtkpdjbklnjjedaaJuE
set_option linter.unusedVariables false
set_option linter.unusedSimpArgs false
set_option maxRecDepth 8000
set_option maxHeartbeats 2000000
namespace Go.Proofs.Ytkpdjbklnjjedaa
open Go.Ab Go.Ju Go

theorem look_u64 {N : Nat} {o : POp} {E : Env} {σ : Heap} {K : Env → Heap → Prop} {x y : Operand} {i g k : Nat} {es : List (Value × AV)} {l : List Acc} {a : Int} {G : Bool} (hg : gcond E o = some G) (ho : o.op = .lookup 65 x y true)
    (hx : (lk E x).a = .mp i g) (hy : (lk E y).a = uv a) (hi : σ[i]? = some (.map g es)) (hM : LastOf es l k) (hs : G = true → opsC E o.op.operands.toList)
    (hK : putK N o.dst ⟨G, .tup [iv ((jlast l k a).getD 0), bv (jlast l k a).isSome]⟩ K E σ) : AOp Try.prog N o E σ K := by
  refine aop_lookup (k := .int .u64 a) u64_law hg ho Try.ty65 rfl Try.ty24 Try.ty3 hx hy (by simp [cav]) hi ⟨⟨a, rfl⟩, fun p hp => (hM.2 p hp).1⟩ hs ?_
  have : mres (.int .u64 a) es (AV.v (.int .i64 0)) true = .tup [iv ((jlast l k a).getD 0), bv (jlast l k a).isSome] := by
    unfold mres
    rw [hM.1]
    cases jlast l k a <;> rfl
  rw [this]; exact hK

/-- an element of the sets, taken as a place and added to -/
theorem sadd_c {n : Nat} (out : List (List Int)) (x i k : Nat) (τ : Heap) (hi : τ[i]? = some (.row 0 8 (out.map setV))) (hs : Sets n out) (hk : k < n) (hx : x < 512) :
    ACalls Try.prog 26 [.ptr i 0 k 0, iv x] τ (fun r σ' => r = .tup [] ∧ σ' = τ.set i (.row 0 8 ((jAdd out k x).map setV))) := by
  obtain ⟨ws, h1, h2⟩ := hs.2 k hk
  refine (add_c ws x i 0 k _ τ h2 hi (by rw [List.getElem?_map, h1]; rfl) hx).mono ?_
  rintro r σ' ⟨rfl, rfl⟩
  refine ⟨rfl, ?_⟩
  rw [jAdd, List.map_set, List.getD_eq_getElem?_getD, h1]; rfl

def bE (n : Nat) (l : List Acc) (k : Nat) : Env := [(3, ⟨true, .os n 0 0 l.length⟩), (4, ⟨true, .mp (n + 1) 0⟩), (6, ⟨true, .mp (n + 2) 0⟩), (24, ⟨true, accs l⟩), (25, ⟨true, iv l.length⟩), (26, ⟨true, iv k⟩)]

theorem makers_u (l : List Acc) (σ : Heap) (hl : l.length < 2^62) (hu : allTo l.length (jUniq l) = true) : ACalls Try.prog 28 [accs l] σ (fun r σ' => ∃ es, MapOf es l ∧ r = .tup [.mp σ.length 0, bv true] ∧ σ' = σ ++ [.map 0 es]) := by
  refine (makers_c l σ hl).mono ?_
  rintro r σ' (⟨_, h⟩ | ⟨h, _⟩)
  · exact h
  · rw [hu] at h; cases h

theorem allIL_setV {n : Nat} (out : List (List Int)) : AllIL (· < n) (out.map setV) := allIL_iff.2 fun a ha => by
  obtain ⟨ws, _, rfl⟩ := List.mem_map.1 ha
  exact Pure.allI (pure_setV ws)

theorem before_fin {l : List Acc} {σ junk : Heap} {es es2 : List (Value × AV)} {k : Nat} {out : List (List Int)} (hw : WfH σ.length σ) (hM : MapOf es l) (hL : LastOf es2 l k) (hlt : k < l.length) (hl : l.length ≤ 512) (ho : jBef l (k + 1) = out) :
    ∃ y : Nat × List (Value × AV), l.length - y.fst < l.length - k ∧ (y.fst ≤ l.length ∧ LastOf y.snd l y.fst) ∧ IntKind.i64.wrap (↑k + 1) = ↑y.fst ∧
      List.take (σ.length + 3) (σ ++ (AObj.row 0 8 (List.map setV out) :: AObj.map 0 es :: AObj.map 0 (mset (Value.int IntKind.u64 l[k].p) (iv ↑k) es2) :: junk)) = σ ++ [AObj.row 0 8 (List.map setV (jBef l y.fst)), AObj.map 0 es, AObj.map 0 y.snd] ∧
        (σ.length < σ.length + 3 ∧ σ.length + 1 < σ.length + 3 ∧ σ.length + 2 < σ.length + 3) ∧ WfH (σ.length + 3) (σ ++ [AObj.row 0 8 (List.map setV (jBef l y.fst)), AObj.map 0 es, AObj.map 0 y.snd]) := by
  subst ho
  have hL' := lastOf_set hL hlt
  refine ⟨(k + 1, mset (.int .u64 l[k].p) (iv k) es2), by show l.length - (k + 1) < _; omega, ⟨by show k + 1 ≤ _; omega, hL'⟩, inc k (by omega), ?_, by omega, ?_⟩
  · exact (congrArg (List.take _) (List.append_assoc σ [_, _, _] junk).symm).trans (List.take_left' (by simp))
  · refine wfH_app (l := [_, _, _]) hw fun o ho => ?_
    simp only [List.mem_cons, List.not_mem_nil, or_false] at ho
    rcases ho with rfl | rfl | rfl
    · exact allIL_setV _
    · exact fun p hp => Pure.allI (hM.2 p hp).2
    · exact fun p hp => Pure.allI (hL'.2 p hp).2

theorem before_c (l : List Acc) (σ : Heap) (hl : l.length ≤ 512) (hu : allTo l.length (jUniq l) = true) : ACalls Try.prog 23 [accs l] σ (fun r σ' => r = .os σ.length 0 0 l.length ∧ σ' = σ ++ [.row 0 8 ((jBef l l.length).map setV)]) := by
  refine acalls_go Try.func23 rfl Try.call23 Try.ntmps23 Try.results23 (Nat.le_of_ble_eq_true rfl) fun hw => ?_
  simp only [go_sem, accs]
  refine ⟨by omega, ?_⟩
  have hrep : List.replicate l.length (AV.agg [uv 0, uv 0, uv 0, uv 0, uv 0, uv 0, uv 0, uv 0]) = (jBef l 0).map setV := by
    simp [jBef, List.map_replicate, setV]
  rw [hrep]
  refine callN_of (makers_u l _ (by omega) hu) ?_
  rintro r σ' ⟨es, hM, rfl, rfl⟩
  simp only [go_sem, accs]
  refine aop_makeMap rfl rfl ?_
  simp only [go_sem, accs]
  refine loop_junk (X := Nat × List (Value × AV)) (fun x => bE σ.length l x.1) (fun x => σ ++ [.row 0 8 ((jBef l x.1).map setV), .map 0 es, .map 0 x.2]) (fun x => x.1 ≤ l.length ∧ LastOf x.2 l x.1) (fun x => l.length - x.1) (0, []) ⟨by simp, lastOf_nil l⟩ (by simp only [go_sem, accs, bE]; simp) rfl ?_
  rintro ⟨k, es2⟩ ⟨hk, hL⟩
  simp only at hk hL
  by_cases hlt : k < l.length
  · have hg := List.getElem?_eq_getElem hlt
    have hwr := inc k (by omega)
    have hs0 := sets_bef l k
    simp only [go_sem, accs, bE, hlt, hg, Acc.av]
    refine look_u64 (G := true) (a := l[k].p) rfl rfl rfl rfl (by simp only [go_sem]) hL (fun _ => by simp only [go_sem]) ?_
    simp only [go_sem]
    cases h1 : jlast l k l[k].p with
    | none =>
      simp only [go_sem, hlt]
      refine aop_mapUpdate (k := .int .u64 l[k].p) u64_law rfl (.inl rfl) Try.ty65 rfl Try.ty24 rfl rfl (by simp [cav]) (by simp only [go_sem]) ⟨⟨_, rfl⟩, fun p hp => (hL.2 p hp).1⟩ (by simp only [go_sem]) rfl ?_
      simp only [go_sem, hlt]
      refine look_ver (G := true) (a := l[k].o) (b := l[k].s) rfl rfl rfl rfl (by simp only [go_sem]) hM (fun _ => by simp only [go_sem]) ?_
      simp only [go_sem, hlt]
      cases h2 : jfind l l[k].o l[k].s with
      | none =>
        simp only [go_sem, hlt]
        refine look_ver (G := true) (a := l[k].o) (b := w64 (l[k].s + 1)) rfl rfl rfl rfl (by simp only [go_sem]) hM (fun _ => by simp only [go_sem]) ?_
        simp only [go_sem, hlt]
        cases h3 : jfind l l[k].o (w64 (l[k].s + 1)) with
        | none =>
          simp only [go_sem, hlt]
          exact before_fin hw hM hL hlt hl (by simp only [jBef, jRound, hg, h1, h2, h3, optAdd])
        | some j3 =>
          have hj3 := jfind_lt h3
          by_cases e : j3 = k
          · simp only [go_sem, hlt, e]
            exact before_fin hw hM hL hlt hl (by simp only [jBef, jRound, hg, h1, h2, h3, optAdd, e, if_true])
          · simp only [go_sem, hlt, hj3, e]
            refine callN_of (sadd_c (jBef l k) k σ.length j3 _ (by simp only [go_sem]) (hs0) hj3 (by omega)) ?_
            rintro r σ' ⟨rfl, rfl⟩
            simp only [go_sem, hlt]
            exact before_fin hw hM hL hlt hl (by simp only [jBef, jRound, hg, h1, h2, h3, optAdd, e, if_false])
      | some j2 =>
        have hj2 := jfind_lt h2
        simp only [go_sem, hlt]
        refine callN_of (sadd_c (jBef l k) j2 σ.length k _ (by simp only [go_sem]) (hs0) hlt (by omega)) ?_
        rintro r σ' ⟨rfl, rfl⟩
        simp only [go_sem, hlt]
        refine look_ver (G := true) (a := l[k].o) (b := w64 (l[k].s + 1)) rfl rfl rfl rfl (by simp only [go_sem]) hM (fun _ => by simp only [go_sem]) ?_
        simp only [go_sem, hlt]
        cases h3 : jfind l l[k].o (w64 (l[k].s + 1)) with
        | none =>
          simp only [go_sem, hlt]
          exact before_fin hw hM hL hlt hl (by simp only [jBef, jRound, hg, h1, h2, h3, optAdd])
        | some j3 =>
          have hj3 := jfind_lt h3
          by_cases e : j3 = k
          · simp only [go_sem, hlt, e]
            exact before_fin hw hM hL hlt hl (by simp only [jBef, jRound, hg, h1, h2, h3, optAdd, e, if_true])
          · simp only [go_sem, hlt, hj3, e]
            refine callN_of (sadd_c (jAdd (jBef l k) k j2) k σ.length j3 _ (by simp only [go_sem]) (sets_add (hs0) hlt) hj3 (by omega)) ?_
            rintro r σ' ⟨rfl, rfl⟩
            simp only [go_sem, hlt]
            exact before_fin hw hM hL hlt hl (by simp only [jBef, jRound, hg, h1, h2, h3, optAdd, e, if_false])
    | some j1 =>
      have hj1 := jlast_lt h1
      simp only [go_sem, hlt]
      refine callN_of (sadd_c (jBef l k) j1 σ.length k _ (by simp only [go_sem]) hs0 hlt (by omega)) ?_
      rintro r σ' ⟨rfl, rfl⟩
      simp only [go_sem, hlt]
      refine aop_mapUpdate (k := .int .u64 l[k].p) u64_law rfl (.inl rfl) Try.ty65 rfl Try.ty24 rfl rfl (by simp [cav]) (by simp only [go_sem]) ⟨⟨_, rfl⟩, fun p hp => (hL.2 p hp).1⟩ (by simp only [go_sem]) rfl ?_
      simp only [go_sem, hlt]
      refine look_ver (G := true) (a := l[k].o) (b := l[k].s) rfl rfl rfl rfl (by simp only [go_sem]) hM (fun _ => by simp only [go_sem]) ?_
      simp only [go_sem, hlt]
      cases h2 : jfind l l[k].o l[k].s with
      | none =>
        simp only [go_sem, hlt]
        refine look_ver (G := true) (a := l[k].o) (b := w64 (l[k].s + 1)) rfl rfl rfl rfl (by simp only [go_sem]) hM (fun _ => by simp only [go_sem]) ?_
        simp only [go_sem, hlt]
        cases h3 : jfind l l[k].o (w64 (l[k].s + 1)) with
        | none =>
          simp only [go_sem, hlt]
          exact before_fin hw hM hL hlt hl (by simp only [jBef, jRound, hg, h1, h2, h3, optAdd])
        | some j3 =>
          have hj3 := jfind_lt h3
          by_cases e : j3 = k
          · simp only [go_sem, hlt, e]
            exact before_fin hw hM hL hlt hl (by simp only [jBef, jRound, hg, h1, h2, h3, optAdd, e, if_true])
          · simp only [go_sem, hlt, hj3, e]
            refine callN_of (sadd_c (jAdd (jBef l k) k j1) k σ.length j3 _ (by simp only [go_sem]) (sets_add hs0 hlt) hj3 (by omega)) ?_
            rintro r σ' ⟨rfl, rfl⟩
            simp only [go_sem, hlt]
            exact before_fin hw hM hL hlt hl (by simp only [jBef, jRound, hg, h1, h2, h3, optAdd, e, if_false])
      | some j2 =>
        have hj2 := jfind_lt h2
        simp only [go_sem, hlt]
        refine callN_of (sadd_c (jAdd (jBef l k) k j1) j2 σ.length k _ (by simp only [go_sem]) (sets_add hs0 hlt) hlt (by omega)) ?_
        rintro r σ' ⟨rfl, rfl⟩
        simp only [go_sem, hlt]
        refine look_ver (G := true) (a := l[k].o) (b := w64 (l[k].s + 1)) rfl rfl rfl rfl (by simp only [go_sem]) hM (fun _ => by simp only [go_sem]) ?_
        simp only [go_sem, hlt]
        cases h3 : jfind l l[k].o (w64 (l[k].s + 1)) with
        | none =>
          simp only [go_sem, hlt]
          exact before_fin hw hM hL hlt hl (by simp only [jBef, jRound, hg, h1, h2, h3, optAdd])
        | some j3 =>
          have hj3 := jfind_lt h3
          by_cases e : j3 = k
          · simp only [go_sem, hlt, e]
            exact before_fin hw hM hL hlt hl (by simp only [jBef, jRound, hg, h1, h2, h3, optAdd, e, if_true])
          · simp only [go_sem, hlt, hj3, e]
            refine callN_of (sadd_c (jAdd (jAdd (jBef l k) k j1) k j2) k σ.length j3 _ (by simp only [go_sem]) (sets_add (sets_add hs0 hlt) hlt) hj3 (by omega)) ?_
            rintro r σ' ⟨rfl, rfl⟩
            simp only [go_sem, hlt]
            exact before_fin hw hM hL hlt hl (by simp only [jBef, jRound, hg, h1, h2, h3, optAdd, e, if_false])
  · simp only [go_sem, accs, bE, hlt]
    have : k = l.length := by omega
    subst this
    refine retOK_take (σ.length + 1) (by omega) (by simp only [go_sem]; omega) ?_ ?_
    · rw [take_app1]; exact wfH_app (l := [_]) hw (by intro o ho; rw [List.mem_singleton] at ho; subst ho; exact allIL_setV _)
    · rw [take_app1]; exact ⟨rfl, rfl⟩

end Go.Proofs.Ytkpdjbklnjjedaa
