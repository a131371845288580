/-
  The law IdentOrder: what it answers.
-/
import Derived.Test.YtbinpbjeeiedhaaDoorIdE
import Derived.Test.YtbinpbjeeiedhaaDoorIdP
set_option linter.unusedVariables false
set_option linter.unusedSimpArgs false
set_option maxRecDepth 8000
set_option maxHeartbeats 4000000
namespace Go.Proofs.YtbinpbjeeiedhaaDoor
open Go.Ab Go.Id Go

theorem loop_same {P : Program} {N : Nat} {X : Type} {c : Code} {Q : Post} {E : Env} {σ : Heap} (En : X → Env) (p : X → Prop) (m : X → Nat) (x0 : X) (h0 : p x0) (hE : Env.hasL E (En x0))
    (round : ∀ x, p x → vcode P N c (thenQ (loopQ En (fun _ => σ) p (fun y => m y < m x)) Q) (En x) σ) : AWP P N (.loop c) Q E σ := loop_go En (fun _ => σ) p m x0 h0 hE rfl round

theorem tmod_nat (a b : Nat) : ((a : Int).tmod (b : Int)) = ((a % b : Nat) : Int) := (Int.ofNat_tmod a b).symm
theorem nextS_ok (a : Allo) (k : Nat) (h : within a.node a.boot = true) (h0 : 0 ≤ a.serial) (h1 : a.serial + k ≤ 1099511627775) (hk : k ≤ 64) : nextS a k = (idsS a k, ⟨a.node, a.boot, a.serial + k⟩, 0) := by
  unfold nextS
  rw [if_pos ⟨h, h0, by omega⟩, if_neg (by omega), if_neg (by omega)]
  rfl

theorem idsS_app (a : Allo) (p q : Nat) : idsS a p ++ idsS ⟨a.node, a.boot, a.serial + (p : Int)⟩ q = idsS a (p + q) := by
  induction q with
  | zero => simp [idsS]
  | succ q ih =>
    rw [idsS_succ, ← List.append_assoc, ih, ← Nat.add_assoc, idsS_succ]
    congr 3
    simp only; omega

theorem order_c (node boot serial m n other : Nat) (σ : Heap) (h0 : node < 256) (h1 : boot < 256) (h2 : serial < 2^32) (h3 : m < 256) (h4 : n < 256) (h5 : other < 2^64) :
    ACalls Tryd.prog 5 [.v (.int .u8 node), .v (.int .u8 boot), .v (.int .u32 serial), .v (.int .u8 m), .v (.int .u8 n), uv other] σ (fun r σ' => r = bv true ∧ σ' = σ) := by
  refine acalls_awp Tryd.func5 rfl Tryd.call5 Tryd.ntmps5 Tryd.results5 (Nat.le_of_ble_eq_true rfl) fun hw => ?_
  have c128 : IntKind.i64.wrap ((node : Int).tmod 128) = ((node % 128 : Nat) : Int) := by rw [show (128 : Int) = ((128 : Nat) : Int) from rfl, tmod_nat]; exact i64_nat (by omega)
  have cb : IntKind.i64.wrap (boot : Int) = boot := i64_nat (by omega)
  have cs : IntKind.i64.wrap (serial : Int) = serial := i64_nat (by omega)
  have cm : IntKind.i64.wrap ((m : Int).tmod 30) = ((m % 30 : Nat) : Int) := by rw [show (30 : Int) = ((30 : Nat) : Int) from rfl, tmod_nat]; exact i64_nat (by omega)
  have cn : IntKind.i64.wrap ((n : Int).tmod 30) = ((n % 30 : Nat) : Int) := by rw [show (30 : Int) = ((30 : Nat) : Int) from rfl, tmod_nat]; exact i64_nat (by omega)
  refine awp_then ?_
  simp only [go_sem]
  refine awp_then ?_
  simp only [go_sem]
  refine callN_of (sane_c _) ?_
  rintro r τ ⟨rfl, rfl⟩
  simp only [go_sem]
  refine awp_then ?_
  simp only [go_sem, c128, cb, cs]
  generalize ha : Allo.mk ((node % 128 : Nat) : Int) (boot : Int) (serial : Int) = a
  have ha0 : a.node = ((node % 128 : Nat) : Int) := by rw [← ha]
  have ha1 : a.boot = (boot : Int) := by rw [← ha]
  have ha2 : a.serial = (serial : Int) := by rw [← ha]
  rw [← ha0, ← ha1, ← ha2]
  have hwi : within a.node a.boot = true := by rw [ha0, ha1]; simp [within]; omega
  have e1 := nextS_ok a (m % 30) hwi (by omega) (by omega) (by omega)
  have e2 := nextS_ok ⟨a.node, a.boot, a.serial + ((m % 30 : Nat) : Int)⟩ (n % 30) hwi (by simp only; omega) (by simp only; omega) (by omega)
  have e3 := nextS_ok a (m % 30 + n % 30) hwi (by omega) (by omega) (by omega)
  refine ⟨by decide, ?_⟩
  refine awp_then ?_
  simp only [go_sem, cm]
  refine ⟨by decide, ?_⟩
  refine callN_of (next_c a (m % 30 : Nat) _) ?_
  rintro r τ ⟨rfl, rfl⟩
  rw [e1]
  simp only [go_sem, Allo.av]
  refine awp_then ?_
  simp only [go_sem, cn]
  refine ⟨by decide, ?_⟩
  refine callN_of (next_c ⟨a.node, a.boot, a.serial + ((m % 30 : Nat) : Int)⟩ (n % 30 : Nat) _) ?_
  rintro r τ ⟨rfl, rfl⟩
  rw [e2]
  simp only [go_sem, Allo.av]
  refine awp_then ?_
  have cmn : IntKind.i64.wrap (((m % 30 : Nat) : Int) + ((n % 30 : Nat) : Int)) = ((m % 30 + n % 30 : Nat) : Int) := by rw [← Int.natCast_add]; exact i64_nat (by omega)
  simp only [go_sem, cm, cn, cmn]
  refine ⟨by decide, by decide, ?_⟩
  refine callN_of (next_c a (m % 30 + n % 30 : Nat) _) ?_
  rintro r τ ⟨rfl, rfl⟩
  rw [e3]
  simp only [go_sem, Allo.av]
  have happ := idsS_app a (m % 30) (n % 30)
  have hl1 := idsS_length a (m % 30)
  have hl2 := idsS_length ⟨a.node, a.boot, a.serial + ((m % 30 : Nat) : Int)⟩ (n % 30)
  have hl3 := idsS_length a (m % 30 + n % 30)
  have hsum : a.serial + ((m % 30 : Nat) : Int) + ((n % 30 : Nat) : Int) = a.serial + ((m % 30 + n % 30 : Nat) : Int) := by omega
  have hz : ∀ i, (hi : i < m % 30 + n % 30) → ∃ z : Nat, (idsS a (m % 30 + n % 30))[i]? = some (z : Int) ∧ z = (node % 128) * 2^56 + boot * 2^40 + (serial + (i + 1)) := by
    intro i hi
    refine ⟨(node % 128) * 2^56 + boot * 2^40 + (serial + (i + 1)), ?_, rfl⟩
    unfold idsS
    rw [List.getElem?_map, List.getElem?_range hi]
    simp only [Option.map_some]
    rw [ha0, ha1, ha2, ← idOf_nat (by omega) (by omega) (by omega)]
    congr 2
  rw [hsum]
  generalize hzl : idsS a (m % 30 + n % 30) = z at happ hl3 hz
  generalize idsS a (m % 30) = x at happ hl1
  generalize idsS ⟨a.node, a.boot, a.serial + ((m % 30 : Nat) : Int)⟩ (n % 30) = y at happ hl2
  refine awp_then ?_
  simp only [go_sem, uints]
  refine ⟨⟨by omega, by omega⟩, ⟨by omega, by omega⟩, ?_⟩
  have hmt : List.take (x.length + y.length) (List.take x.length (List.map uv x) ++ List.map uv y) = List.map uv z := by
    rw [List.take_of_length_le (show (List.map uv x).length ≤ x.length by simp), ← List.map_append, happ, List.take_of_length_le (by simp; omega)]
  refine awp_frz (i := τ.length + 4) (g := 1) (e := 1) (es := List.take x.length (List.map uv x) ++ List.map uv y) (by simp only [go_sem]) ?_
  refine awp_then ?_
  simp only [go_sem, frzE, frz, frzL, hmt]
  refine aop_neq (G := true) (cs := [.int .i64 a.node, .int .i64 a.boot, .int .i64 (a.serial + ((m % 30 + n % 30 : Nat) : Int))]) (ds := [.int .i64 a.node, .int .i64 a.boot, .int .i64 (a.serial + ((m % 30 + n % 30 : Nat) : Int))]) (b := true) rfl rfl rfl rfl guard23 (fun w => by have := eq_allo ⟨a.node, a.boot, a.serial + ((m % 30 + n % 30 : Nat) : Int)⟩ ⟨a.node, a.boot, a.serial + ((m % 30 + n % 30 : Nat) : Int)⟩ w; rw [decide_eq_true rfl] at this; exact this) (fun _ => by simp only [go_sem]) ?_
  have hlc : (x.length + y.length ≤ (List.take x.length (List.map uv x) ++ List.map uv y).length) = True := eq_true (by simp)
  simp only [go_sem, hlc]
  refine callG_of (bv true) (fun _ => (same_c z z _ (by omega) (by omega)).mono fun r τ h => by rw [decide_eq_true rfl] at h; exact h) ?_
  simp only [go_sem]
  refine vcode_sound _ ?_
  simp only [go_sem]
  refine loop_same (X := Nat) (fun k => [(5, ⟨true, uv other⟩), (20, ⟨true, uints z⟩), (92, ⟨true, uints z⟩), (93, ⟨true, iv z.length⟩), (94, ⟨true, iv k⟩)]) (fun k => k ≤ z.length) (fun k => z.length - k) 0 (by omega) (by simp only [go_sem, uints]; rfl) ?_
  intro k hk
  have c0 : ((0 : Nat) : Int) = 0 := rfl
  have fmt : ∀ zk : Nat, zk < 2^64 → zk ≠ other → ({ data := (formatS zk).toArray } : ByteArray) ≠ { data := (formatS other).toArray } := by
    intro zk hzk hne he
    refine hne (format_inj hzk h5 ?_)
    simpa using he
  by_cases hlt : k < z.length
  · obtain ⟨zk, hg, hzk⟩ := hz k (by omega)
    have hzk64 : zk < 2^64 := by omega
    rcases Nat.eq_zero_or_pos k with rfl | hpos
    · simp only [go_sem, uints, hlt, hg, c0, show IntKind.i64.wrap ((0 : Int) - 1) = -1 by decide, show Int.toNat (-1) = 0 from rfl]
      refine callG_of (sv (formatS zk)) (fun _ => format_c _ _) ?_
      simp only [go_sem, uints, hlt, hg, c0]
      refine callG_of (sv (formatS other)) (fun _ => format_c _ _) ?_
      by_cases he : zk = other
      · simp only [go_sem, uints, hlt, hg, c0, eq_true he]
        exact ⟨1, by omega, by omega, rfl⟩
      · simp only [go_sem, uints, hlt, hg, c0, he, fmt zk hzk64 he]
        exact ⟨1, by omega, by omega, rfl⟩
    · obtain ⟨zj, hgj, hzj⟩ := hz (k - 1) (by omega)
      have hsub : IntKind.i64.wrap ((k : Int) - 1) = ((k - 1 : Nat) : Int) := by rw [show (k : Int) - 1 = ((k - 1 : Nat) : Int) by omega]; exact i64_nat (by omega)
      simp only [go_sem, uints, hlt, hg, hgj, hsub, hpos]
      have hle : ¬ zk ≤ zj := by omega
      refine ⟨by omega, ?_⟩
      refine callG_of (sv (formatS zk)) (fun _ => format_c _ _) ?_
      simp only [go_sem, uints, hlt, hg, hle]
      refine callG_of (sv (formatS other)) (fun _ => format_c _ _) ?_
      by_cases he : zk = other
      · simp only [go_sem, uints, hlt, hg, hle, eq_true he]
        exact ⟨k + 1, by omega, by omega, inc k (by omega)⟩
      · simp only [go_sem, uints, hlt, hg, hle, he, fmt zk hzk64 he]
        exact ⟨k + 1, by omega, by omega, inc k (by omega)⟩
  · simp only [go_sem, uints, hlt]
    exact retOK_app hw trivial ⟨rfl, rfl⟩
theorem order_i (node boot serial m n other : Int) (σ : Heap) (h0 : (Lit.int .u8 node).wf = true) (h1 : (Lit.int .u8 boot).wf = true) (h2 : (Lit.int .u32 serial).wf = true) (h3 : (Lit.int .u8 m).wf = true) (h4 : (Lit.int .u8 n).wf = true) (h5 : (Lit.int .u64 other).wf = true) :
    ACalls Tryd.prog 5 [.v (.int .u8 node), .v (.int .u8 boot), .v (.int .u32 serial), .v (.int .u8 m), .v (.int .u8 n), uv other] σ (fun r σ' => r = bv true ∧ σ' = σ) := by
  have b8 : ∀ x : Int, (Lit.int .u8 x).wf = true → ∃ k : Nat, x = k ∧ k < 256 := by
    intro x h
    have h : 0 ≤ x ∧ x < 256 := by simp [Lit.wf, IntKind.min, IntKind.max, IntKind.bits, IntKind.signed] at h; omega
    exact ⟨x.toNat, by omega, by omega⟩
  obtain ⟨node, rfl, g0⟩ := b8 _ h0
  obtain ⟨boot, rfl, g1⟩ := b8 _ h1
  obtain ⟨m, rfl, g3⟩ := b8 _ h3
  obtain ⟨n, rfl, g4⟩ := b8 _ h4
  obtain ⟨serial, rfl, g2⟩ : ∃ k : Nat, serial = k ∧ k < 2^32 := by
    have h : 0 ≤ serial ∧ serial < 2^32 := by simp [Lit.wf, IntKind.min, IntKind.max, IntKind.bits, IntKind.signed] at h2; omega
    exact ⟨serial.toNat, by omega, by omega⟩
  obtain ⟨other, rfl, g5⟩ : ∃ k : Nat, other = k ∧ k < 2^64 := by
    have h : 0 ≤ other ∧ other < 2^64 := by simp [Lit.wf, IntKind.min, IntKind.max, IntKind.bits, IntKind.signed] at h5; omega
    exact ⟨other.toNat, by omega, by omega⟩
  exact order_c node boot serial m n other σ g0 g1 g2 g3 g4 g5
end Go.Proofs.YtbinpbjeeiedhaaDoor
