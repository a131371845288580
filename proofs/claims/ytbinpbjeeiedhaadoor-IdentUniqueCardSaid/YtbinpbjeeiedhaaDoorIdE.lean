/-
  The law IdentGives: what it answers.
-/
import Derived.Test.YtbinpbjeeiedhaaDoorIdD
set_option linter.unusedVariables false
set_option linter.unusedSimpArgs false
set_option maxRecDepth 8000
set_option maxHeartbeats 4000000
namespace Go.Proofs.YtbinpbjeeiedhaaDoor
open Go.Ab Go.Id Go

def alloFields : Array Field := #[{ name := "Node", type := 3, offset := 0, embedded := false, tag := "", pkgPath := "", byteOffset := 0 }, { name := "Boot", type := 3, offset := 1, embedded := false, tag := "", pkgPath := "", byteOffset := 8 }, { name := "Serial", type := 2, offset := 2, embedded := false, tag := "", pkgPath := "", byteOffset := 16 }]
theorem und23 : Tryd.prog.underlying 23 = some (.struct alloFields) := by kernel_rfl
theorem und3 : Tryd.prog.underlying 3 = some (.int .i64) := by kernel_rfl
theorem und2 : Tryd.prog.underlying 2 = some (.int .i64) := by kernel_rfl
theorem pk3 : Tryd.prog.plainKey 3 = true := by kernel_rfl
theorem pk2 : Tryd.prog.plainKey 2 = true := by kernel_rfl
theorem stood23 : Tryd.prog.stoodInHeld 23 = false := by kernel_rfl
theorem guard23 : Tryd.prog.eqGuardType Tryd.prog.depth 23 = false := by kernel_rfl

theorem eq_allo (x y : Allo) (w : World) : (Op.equalIn 10000 23 (.agg x.vs.toArray) (.agg y.vs.toArray)).run Tryd.prog w = .ok (decide (x = y)) w := by
  rw [show (10000 : Nat) = 9998 + 1 + 1 from rfl, Op.equalIn]
  simp only [Sem.run_bind, run_underlying' und23, Result.andThen_ok, run_program]
  simp only [stood23]
  have p0 : ∀ (x y z : Int) (w : World), (part 3 #[.int .i64 x, .int .i64 y, .int .i64 z] 0).run Tryd.prog w = .ok (.int .i64 x) w := fun x y z w => run_part_plain w pk3 rfl
  have p1 : ∀ (x y z : Int) (w : World), (part 3 #[.int .i64 x, .int .i64 y, .int .i64 z] 1).run Tryd.prog w = .ok (.int .i64 y) w := fun x y z w => run_part_plain w pk3 rfl
  have p2 : ∀ (x y z : Int) (w : World), (part 2 #[.int .i64 x, .int .i64 y, .int .i64 z] 2).run Tryd.prog w = .ok (.int .i64 z) w := fun x y z w => run_part_plain w pk2 rfl
  have q1 : ∀ (x y : Int) (w : World), (Op.equalIn 9999 3 (.int .i64 x) (.int .i64 y)).run Tryd.prog w = .ok (x == y) w := fun x y w => run_equalIn_int w 9998 3 .i64 .i64 x y und3
  have q2 : ∀ (x y : Int) (w : World), (Op.equalIn 9999 2 (.int .i64 x) (.int .i64 y)).run Tryd.prog w = .ok (x == y) w := fun x y w => run_equalIn_int w 9998 2 .i64 .i64 x y und2
  obtain ⟨a, b, c⟩ := x
  obtain ⟨d, e, f⟩ := y
  simp [alloFields, Allo.vs, p0, p1, p2, q1, q2]
  by_cases h : a = d <;> by_cases h' : b = e <;> by_cases h'' : c = f <;> simp [h, h', h'']

theorem nextS_len (a : Allo) (n : Int) : (nextS a n).1.length ≤ 64 := by
  unfold nextS
  split
  · split
    · simp
    · split
      · simp
      · rw [idsS_length]; omega
  · simp

theorem gives_c (a : Allo) (n nd b : Int) (σ : Heap) : ACalls Tryd.prog 3 [a.av, iv n, iv nd, iv b] σ (fun r σ' => r = bv true ∧ σ' = σ) := by
  refine acalls_awp Tryd.func3 rfl Tryd.call3 Tryd.ntmps3 Tryd.results3 (Nat.le_of_ble_eq_true rfl) fun hw => ?_
  refine awp_then ?_
  simp only [go_sem, Allo.av]
  refine awp_then ?_
  simp only [go_sem]
  refine callN_of (sane_c _) ?_
  rintro r τ ⟨rfl, rfl⟩
  simp only [go_sem]
  refine awp_then ?_
  simp only [go_sem]
  generalize hx : Allo.mk (bitsOp BinOp.and IntKind.i64 a.node 127) (bitsOp BinOp.and IntKind.i64 a.boot 65535) (bitsOp BinOp.and IntKind.i64 a.serial 1099511627775) = x
  have hx0 : x.node = bitsOp BinOp.and IntKind.i64 a.node 127 := by rw [← hx]
  have hx1 : x.boot = bitsOp BinOp.and IntKind.i64 a.boot 65535 := by rw [← hx]
  have hx2 : x.serial = bitsOp BinOp.and IntKind.i64 a.serial 1099511627775 := by rw [← hx]
  rw [← hx0, ← hx1, ← hx2]
  have c0 : ((0 : Nat) : Int) = 0 := rfl
  have c1 : ((1 : Nat) : Int) = 1 := rfl
  have c2 : ((2 : Nat) : Int) = 2 := rfl
  refine loop_junk (X := Nat) (fun k => [(1, ⟨true, iv n⟩), (2, ⟨true, iv nd⟩), (3, ⟨true, iv b⟩), (34, ⟨true, .os (σ.length + 1) 0 0 2⟩), (35, ⟨true, iv 2⟩), (36, ⟨true, iv k⟩)]) (fun k => σ ++ [.row 0 3 [a.av], .row 0 3 [a.av, x.av]]) (fun k => k ≤ 2) (fun k => 2 - k) 0 (by omega) (by simp only [go_sem, Allo.av]; exact ⟨rfl, rfl⟩) (by simp [Allo.av]) ?_
  intro k hk
  obtain rfl | rfl | rfl : k = 0 ∨ k = 1 ∨ k = 2 := by omega
  · simp only [go_sem, Allo.av, c0]
    refine callN_of (next_c a n _) ?_
    rintro r τ ⟨rfl, rfl⟩
    simp only [go_sem, Allo.av]
    refine callN_of (rnext_c a n _) ?_
    rintro r τ ⟨rfl, rfl⟩
    have hl := nextS_len a n
    generalize nextS a n = y at hl
    simp only [go_sem, Allo.av]
    refine aop_neq (G := true) (cs := y.2.1.vs) (ds := y.2.1.vs) (b := true) rfl rfl rfl rfl guard23 (fun w => by rw [eq_allo]; simp) (fun _ => by simp only [go_sem]) ?_
    simp only [go_sem, Allo.av]
    refine callG_of (bv true) (fun _ => (same_c y.1 y.1 _ (by omega) (by omega)).mono fun r τ h => by rw [decide_eq_true rfl] at h; exact h) ?_
    simp only [go_sem, Allo.av]
    exact ⟨1, by omega, by omega, rfl, take_app2, by omega, wfH_row2 hw ⟨⟨trivial, trivial, trivial, trivial⟩, trivial⟩ ⟨⟨trivial, trivial, trivial, trivial⟩, ⟨trivial, trivial, trivial, trivial⟩, trivial⟩⟩
  · simp only [go_sem, Allo.av, c1, show Int.toNat 1 = 1 from rfl, List.getElem?_cons_succ, List.getElem?_cons_zero]
    refine ⟨by decide, ?_⟩
    refine callN_of (next_c x n _) ?_
    rintro r τ ⟨rfl, rfl⟩
    simp only [go_sem, Allo.av]
    refine callN_of (rnext_c x n _) ?_
    rintro r τ ⟨rfl, rfl⟩
    have hl := nextS_len x n
    generalize nextS x n = y at hl
    simp only [go_sem, Allo.av]
    refine aop_neq (G := true) (cs := y.2.1.vs) (ds := y.2.1.vs) (b := true) rfl rfl rfl rfl guard23 (fun w => by rw [eq_allo]; simp) (fun _ => by simp only [go_sem]) ?_
    simp only [go_sem, Allo.av]
    refine callG_of (bv true) (fun _ => (same_c y.1 y.1 _ (by omega) (by omega)).mono fun r τ h => by rw [decide_eq_true rfl] at h; exact h) ?_
    simp only [go_sem, Allo.av]
    exact ⟨2, by omega, by omega, rfl, take_app2, by omega, wfH_row2 hw ⟨⟨trivial, trivial, trivial, trivial⟩, trivial⟩ ⟨⟨trivial, trivial, trivial, trivial⟩, ⟨trivial, trivial, trivial, trivial⟩, trivial⟩⟩
  · simp only [go_sem, Allo.av, c2]
    refine awp_then ?_
    simp only [go_sem]
    refine callN_of (new_c nd b _) ?_
    rintro r τ ⟨rfl, rfl⟩
    simp only [go_sem, Allo.av]
    refine awp_then ?_
    simp only [go_sem]
    refine callN_of (rnew_c nd b _) ?_
    rintro r τ ⟨rfl, rfl⟩
    generalize newS nd b = y
    simp only [go_sem, Allo.av]
    refine vcode_sound _ ?_
    simp only [go_sem, Allo.av]
    refine aop_eq (G := true) (cs := y.1.vs) (ds := y.1.vs) (b := true) rfl rfl rfl rfl guard23 (fun w => by rw [eq_allo]; simp) (fun _ => by simp only [go_sem]) ?_
    simp only [go_sem]
    exact retOK_app hw trivial ⟨rfl, rfl⟩
end Go.Proofs.YtbinpbjeeiedhaaDoor
