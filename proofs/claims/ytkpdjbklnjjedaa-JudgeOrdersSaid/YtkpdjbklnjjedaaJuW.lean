/-
  Words and bits: what the sets of the layer judge hold.
-/
import Derived.Test.YtkpdjbklnjjedaaJuS
set_option linter.unusedVariables false
set_option linter.unusedSimpArgs false
namespace Go.Ju
open Go.Ab Go

theorem wrapU (n : Nat) (h : n < 2^64) : IntKind.u64.wrap (n : Int) = n := by
  simp only [IntKind.wrap, IntKind.bits, IntKind.signed, Bool.false_and]
  rw [if_neg (by simp)]; omega

theorem bits_and (a b : Nat) (ha : a < 2^64) (hb : b < 2^64) : bitsOp .and .u64 (a : Int) (b : Int) = ((a &&& b : Nat) : Int) := by
  show IntKind.u64.wrap (((BitVec.ofInt 64 (a : Int) &&& BitVec.ofInt 64 (b : Int) : BitVec 64).toNat : Nat) : Int) = _
  rw [BitVec.ofInt_natCast, BitVec.ofInt_natCast, BitVec.toNat_and, BitVec.toNat_ofNat, BitVec.toNat_ofNat]
  rw [Nat.mod_eq_of_lt ha, Nat.mod_eq_of_lt hb]
  exact wrapU _ (Nat.lt_of_le_of_lt Nat.and_le_left ha)
theorem bits_or (a b : Nat) (ha : a < 2^64) (hb : b < 2^64) : bitsOp .or .u64 (a : Int) (b : Int) = ((a ||| b : Nat) : Int) := by
  show IntKind.u64.wrap (((BitVec.ofInt 64 (a : Int) ||| BitVec.ofInt 64 (b : Int) : BitVec 64).toNat : Nat) : Int) = _
  rw [BitVec.ofInt_natCast, BitVec.ofInt_natCast, BitVec.toNat_or, BitVec.toNat_ofNat, BitVec.toNat_ofNat]
  rw [Nat.mod_eq_of_lt ha, Nat.mod_eq_of_lt hb]
  exact wrapU _ (Nat.or_lt_two_pow ha hb)
theorem ofNat_bit (n r : Nat) (hr : r < 64) : (BitVec.ofNat 64 n)[r] = n.testBit r := by
  rw [← BitVec.getLsbD_eq_getElem, BitVec.getLsbD_ofNat, decide_eq_true hr, Bool.true_and]

theorem bits_andNot (a b : Nat) (ha : a < 2^64) (hb : b < 2^64) : bitsOp .andNot .u64 (a : Int) (b : Int) = 0 ↔ ∀ r < 64, a.testBit r = true → b.testBit r = true := by
  show IntKind.u64.wrap (((BitVec.ofInt 64 (a : Int) &&& ~~~BitVec.ofInt 64 (b : Int) : BitVec 64).toNat : Nat) : Int) = 0 ↔ _
  rw [BitVec.ofInt_natCast, BitVec.ofInt_natCast, wrapU _ (BitVec.isLt _)]
  have e : (((BitVec.ofNat 64 a &&& ~~~BitVec.ofNat 64 b).toNat : Nat) : Int) = 0 ↔ BitVec.ofNat 64 a &&& ~~~BitVec.ofNat 64 b = 0#64 := by
    rw [← BitVec.toNat_inj]; simp
  rw [e]
  constructor
  · intro h r hr ha'
    have := congrArg (·.getLsbD r) h
    simp [BitVec.getLsbD_ofNat, hr, ha'] at this
    rwa [ofNat_bit _ _ hr] at this
  · intro h
    apply BitVec.eq_of_getLsbD_eq
    intro i hi
    simp [BitVec.getLsbD_ofNat, hi]
    rw [ofNat_bit _ _ hi, ofNat_bit _ _ hi]; exact h i hi

theorem hasW_bit (n x : Nat) (h : n < 2^64) : hasW n x = n.testBit (x % 64) := by
  unfold hasW
  have hr : x % 64 < 64 := Nat.mod_lt _ (by omega)
  rw [Nat.min_eq_left (by omega)]
  have e : (n : Int).fdiv (2 ^ (x % 64)) = ((n / 2 ^ (x % 64) : Nat) : Int) := by
    rw [Int.fdiv_eq_ediv_of_nonneg _ (by exact Int.le_of_lt (Int.pow_pos (by omega)))]
    simp
  rw [e, show (1 : Int) = ((1 : Nat) : Int) from rfl, bits_and _ _ (Nat.lt_of_le_of_lt (Nat.div_le_self _ _) h) (by omega), Nat.and_one_is_mod, Nat.testBit_eq_decide_div_mod_eq]
  exact decide_eq_decide.2 (by omega)

theorem addW_nat (n x : Nat) (h : n < 2^64) : addW n x = ((n ||| 2 ^ (x % 64) : Nat) : Int) := by
  unfold addW
  have hr : x % 64 < 64 := Nat.mod_lt _ (by omega)
  have hp : 2 ^ (x % 64) < 2 ^ 64 := Nat.pow_lt_pow_right (by omega) hr
  rw [Nat.min_eq_left (by omega), Int.one_mul]
  have e : IntKind.u64.wrap (2 ^ (x % 64)) = ((2 ^ (x % 64) : Nat) : Int) := by
    have := wrapU (2 ^ (x % 64)) hp
    rw [← this]; congr 1
  rw [e, bits_or _ _ h hp]

/-- eight words -/
def GoodS (ws : List Int) : Prop := ws.length = 8 ∧ ∀ k < 8, ∃ n : Nat, ws.getD k 0 = n ∧ n < 2^64

theorem good_zero : GoodS [0, 0, 0, 0, 0, 0, 0, 0] := ⟨rfl, fun k hk => ⟨0, by rcases k with _|_|_|_|_|_|_|_|k <;> first | rfl | omega, by omega⟩⟩

theorem has_zero (x : Nat) : hasS [0, 0, 0, 0, 0, 0, 0, 0] x = false := by
  have : ∀ k : Nat, ([0, 0, 0, 0, 0, 0, 0, 0] : List Int).getD k 0 = ((0 : Nat) : Int) := fun k => by
    rcases k with _|_|_|_|_|_|_|_|k <;> rfl
  unfold hasS
  rw [this, hasW_bit _ _ (by omega)]; simp

theorem add_good {ws : List Int} {x : Nat} (h : GoodS ws) (hx : x < 512) : GoodS (addS ws x) := by
  refine ⟨by rw [addS_length, h.1], fun k hk => ?_⟩
  obtain ⟨n, hn, hlt⟩ := h.2 k hk
  unfold addS
  rw [List.getD_eq_getElem?_getD, List.getElem?_set]
  by_cases e : x / 64 = k
  · rw [if_pos e, if_pos (by rw [h.1]; omega), e, hn, addW_nat _ _ hlt]
    exact ⟨_, rfl, Nat.or_lt_two_pow hlt (Nat.pow_lt_pow_right (by omega) (Nat.mod_lt _ (by omega)))⟩
  · rw [if_neg e, ← List.getD_eq_getElem?_getD]; exact ⟨n, hn, hlt⟩

theorem has_add {ws : List Int} {x y : Nat} (h : GoodS ws) (hx : x < 512) (hy : y < 512) : hasS (addS ws y) x = (hasS ws x || decide (x = y)) := by
  obtain ⟨n, hn, hlt⟩ := h.2 (x / 64) (by omega)
  unfold hasS
  by_cases e : y / 64 = x / 64
  · have e1 : (addS ws y).getD (x / 64) 0 = ((n ||| 2 ^ (y % 64) : Nat) : Int) := by
      unfold addS
      rw [List.getD_eq_getElem?_getD, List.getElem?_set, if_pos e, if_pos (by rw [h.1]; omega), e, hn, addW_nat _ _ hlt]; rfl
    have hl2 : n ||| 2 ^ (y % 64) < 2 ^ 64 := Nat.or_lt_two_pow hlt (Nat.pow_lt_pow_right (by omega) (Nat.mod_lt _ (by omega)))
    rw [e1, hn, hasW_bit _ _ hl2, hasW_bit _ _ hlt, Nat.testBit_or, Nat.testBit_two_pow]
    congr 1
    exact decide_eq_decide.2 (by omega)
  · have e1 : (addS ws y).getD (x / 64) 0 = ws.getD (x / 64) 0 := by
      unfold addS
      rw [List.getD_eq_getElem?_getD, List.getElem?_set, if_neg e, ← List.getD_eq_getElem?_getD]
    rw [e1, decide_eq_false (by omega), Bool.or_false]

theorem inside_iff {ws vs : List Int} (h : GoodS ws) (h' : GoodS vs) : insideS ws vs = true ↔ ∀ x < 512, hasS ws x = true → hasS vs x = true := by
  unfold insideS
  rw [allTo_true]
  constructor
  · intro H x hx
    obtain ⟨n, hn, hlt⟩ := h.2 (x / 64) (by omega)
    obtain ⟨m, hm, hlt'⟩ := h'.2 (x / 64) (by omega)
    have := H (x / 64) (by omega)
    rw [hn, hm, decide_eq_true_eq, bits_andNot _ _ hlt hlt'] at this
    unfold hasS
    rw [hn, hm, hasW_bit _ _ hlt, hasW_bit _ _ hlt']
    exact this _ (Nat.mod_lt _ (by omega))
  · intro H k hk
    obtain ⟨n, hn, hlt⟩ := h.2 k hk
    obtain ⟨m, hm, hlt'⟩ := h'.2 k hk
    rw [hn, hm, decide_eq_true_eq, bits_andNot _ _ hlt hlt']
    intro r hr
    have := H (64 * k + r) (by omega)
    unfold hasS at this
    rw [show (64 * k + r) / 64 = k from by omega, hn, hm, hasW_bit _ _ hlt, hasW_bit _ _ hlt', show (64 * k + r) % 64 = r from by omega] at this
    exact this

end Go.Ju
