/-
  Keys: two laws of the types of keys.
-/
import Derived.Test.YtkpdjbklnjjedaaTy
import Derived.Test.YtkpdjbklnjjedaaJuS
import Derived.ChangeKeysEq
set_option maxRecDepth 8000
set_option maxHeartbeats 1000000
namespace Go.Proofs.Ytkpdjbklnjjedaa
open Go.Ab Go.Ju Go

def verFields : Array Field := #[{ name := "object", type := 24, offset := 0, embedded := false, tag := "", pkgPath := "clusterkernel/judge", byteOffset := 0 }, { name := "number", type := 3, offset := 1, embedded := false, tag := "", pkgPath := "clusterkernel/judge", byteOffset := 8 }]
theorem und59 : Try.prog.underlying 59 = some (.struct verFields) := by kernel_rfl
theorem und24 : Try.prog.underlying 24 = some (.int .u64) := by kernel_rfl
theorem und3 : Try.prog.underlying 3 = some (.int .i64) := by kernel_rfl
theorem pk24 : Try.prog.plainKey 24 = true := by kernel_rfl
theorem pk3 : Try.prog.plainKey 3 = true := by kernel_rfl
theorem stood59 : Try.prog.stoodInHeld 59 = false := by kernel_rfl

theorem eq_int {P : Program} {t : TypeId} {k k' : IntKind} (h : P.underlying t = some (.int k')) (n : Nat) (a b : Int) (w : World) : (Op.equalIn (n + 1) t (.int k a) (.int k b)).run P w = .ok (a == b) w := by
  unfold Op.equalIn
  simp only [Sem.run_bind, run_underlying' h, Result.andThen_ok, if_true, Sem.run_pure]

def verV (v : Value) : Prop := ∃ a b, v = .agg #[.int .u64 a, .int .i64 b]

theorem eq_ver (a b c d : Int) (w : World) : (Op.equal 59 (.agg #[.int .u64 a, .int .i64 b]) (.agg #[.int .u64 c, .int .i64 d])).run Try.prog w = .ok (decide (a = c ∧ b = d)) w := by
  unfold Op.equal Op.maxDepth
  rw [show (10000 : Nat) = 9998 + 1 + 1 from rfl, Op.equalIn]
  simp only [Sem.run_bind, run_underlying' und59, Result.andThen_ok, run_program]
  simp only [stood59]
  have p1 : ∀ (x y : Int) (w : World), (part 24 #[.int .u64 x, .int .i64 y] 0).run Try.prog w = .ok (.int .u64 x) w := fun x y w => run_part_plain w pk24 rfl
  have p2 : ∀ (x y : Int) (w : World), (part 3 #[.int .u64 x, .int .i64 y] 1).run Try.prog w = .ok (.int .i64 y) w := fun x y w => run_part_plain w pk3 rfl
  have q1 : ∀ (x y : Int) (w : World), (Op.equalIn 9999 24 (.int .u64 x) (.int .u64 y)).run Try.prog w = .ok (x == y) w := fun x y w => eq_int und24 9998 x y w
  have q2 : ∀ (x y : Int) (w : World), (Op.equalIn 9999 3 (.int .i64 x) (.int .i64 y)).run Try.prog w = .ok (x == y) w := fun x y w => eq_int und3 9998 x y w
  simp [verFields, p1, p2, q1, q2]
  by_cases h : a = c <;> by_cases h' : b = d <;> simp [h, h']

theorem ver_law : KeyLaw Try.prog 59 verV where
  eq := by
    rintro _ _ w ⟨a, b, rfl⟩ ⟨c, d, rfl⟩
    exact ⟨_, eq_ver a b c d w, by simp⟩
  chk := by
    rintro e _ w ⟨a, b, rfl⟩
    rw [show (10000 : Nat) = 9998 + 1 + 1 from rfl, Instr.checkKey]
    simp only [Sem.run_bind, run_underlying' und59, Result.andThen_ok]
    have p1 : ∀ (x y : Int) (w : World), (part 24 #[.int .u64 x, .int .i64 y] 0).run Try.prog w = .ok (.int .u64 x) w := fun x y w => run_part_plain w pk24 rfl
    have p2 : ∀ (x y : Int) (w : World), (part 3 #[.int .u64 x, .int .i64 y] 1).run Try.prog w = .ok (.int .i64 y) w := fun x y w => run_part_plain w pk3 rfl
    have q1 : ∀ (x : Int) (w : World), (Instr.checkKey e 9999 24 (.int .u64 x)).run Try.prog w = .ok () w := fun x w => by
      rw [show (9999 : Nat) = 9998 + 1 from rfl, Instr.checkKey]; simp only [Sem.run_bind, run_underlying' und24, Result.andThen_ok]; rfl
    have q2 : ∀ (x : Int) (w : World), (Instr.checkKey e 9999 3 (.int .i64 x)).run Try.prog w = .ok () w := fun x w => by
      rw [show (9999 : Nat) = 9998 + 1 from rfl, Instr.checkKey]; simp only [Sem.run_bind, run_underlying' und3, Result.andThen_ok]; rfl
    simp [verFields, p1, p2, q1, q2]
  now := by
    rintro d hd _ _ ⟨a, b, rfl⟩ ⟨c, e, rfl⟩
    rw [und59] at hd; cases hd
    exact .inl rfl
  bits := by
    rintro _ ⟨a, b, rfl⟩
    rw [show (10000 : Nat) = 9998 + 1 + 1 from rfl]
    simp [Instr.sameBits]

theorem u64_law : KeyLaw Try.prog 24 (fun v => ∃ a, v = .int .u64 a) where
  eq := by
    rintro _ _ w ⟨a, rfl⟩ ⟨c, rfl⟩
    exact ⟨_, eq_int und24 9999 a c w, by simp⟩
  chk := by
    rintro e _ w ⟨a, rfl⟩
    rw [show (10000 : Nat) = 9998 + 1 + 1 from rfl, Instr.checkKey]
    simp only [Sem.run_bind, run_underlying' und24, Result.andThen_ok]
    rfl
  now := by
    rintro d hd _ _ ⟨a, rfl⟩ ⟨c, rfl⟩
    rw [und24] at hd; cases hd
    exact .inr ⟨_, by simp [Instr.sameNow]; rfl, by simp⟩
  bits := by
    rintro _ ⟨a, rfl⟩
    simp [Instr.sameBits]
end Go.Proofs.Ytkpdjbklnjjedaa
