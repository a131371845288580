/-
  Plain laws of identifiers: their bits, that they come apart into their parts, that their texts differ.
-/
import Derived.Test.YtbinpbjeeiedhaaDoorIdS
import Derived.Lib.ItoaMem
set_option linter.unusedVariables false
set_option linter.unusedSimpArgs false
set_option linter.unusedSectionVars false
namespace Go.Id
open Go.Ab

theorem u64_nat {a : Nat} (h : a < 2^64) : IntKind.u64.wrap (a : Int) = a := by
  simp [IntKind.wrap, IntKind.bits, IntKind.signed]; omega
theorem i64_nat {a : Nat} (h : a < 2^63) : IntKind.i64.wrap (a : Int) = a := by
  simp [IntKind.wrap, IntKind.bits, IntKind.signed]; omega
theorem bv_nat {a : Nat} (h : a < 2^64) : (BitVec.ofInt 64 (a : Int)).toNat = a := by
  simp [BitVec.toNat_ofInt]; omega
theorem bits_or {a b : Nat} (ha : a < 2^64) (hb : b < 2^64) : bitsOp BinOp.or IntKind.u64 a b = ((a ||| b : Nat) : Int) := by
  have : (BitVec.ofInt 64 (a : Int) ||| BitVec.ofInt 64 (b : Int)).toNat = a ||| b := by rw [BitVec.toNat_or, bv_nat ha, bv_nat hb]
  show IntKind.u64.wrap (((BitVec.ofInt 64 (a : Int) ||| BitVec.ofInt 64 (b : Int)).toNat : Nat) : Int) = _
  rw [this, u64_nat (Nat.or_lt_two_pow ha hb)]
theorem bits_and {a b : Nat} (ha : a < 2^64) (hb : b < 2^64) : bitsOp BinOp.and IntKind.u64 a b = ((a &&& b : Nat) : Int) := by
  have : (BitVec.ofInt 64 (a : Int) &&& BitVec.ofInt 64 (b : Int)).toNat = a &&& b := by rw [BitVec.toNat_and, bv_nat ha, bv_nat hb]
  show IntKind.u64.wrap (((BitVec.ofInt 64 (a : Int) &&& BitVec.ofInt 64 (b : Int)).toNat : Nat) : Int) = _
  rw [this, u64_nat (Nat.and_lt_two_pow a hb)]

theorem or_add (a b i : Nat) (h : b < 2^i) : 2^i * a ||| b = 2^i * a + b := (Nat.two_pow_add_eq_or_of_lt h a).symm

theorem idOf_nat {n b s : Nat} (hn : n ≤ 127) (hb : b ≤ 65535) (hs : s < 2^40) : idOf n b s = ((n * 2^56 + b * 2^40 + s : Nat) : Int) := by
  have e56 : (2 : Int) ^ min (Int.toNat 56) 64 = ((2^56 : Nat) : Int) := by decide
  have e40 : (2 : Int) ^ min (Int.toNat 40) 64 = ((2^40 : Nat) : Int) := by decide
  unfold idOf
  rw [u64_nat (show n < 2^64 by omega), u64_nat (show b < 2^64 by omega), u64_nat (show s < 2^64 by omega), e56, e40, ← Int.natCast_mul, ← Int.natCast_mul,
    u64_nat (show n * 2^56 < 2^64 by omega), u64_nat (show b * 2^40 < 2^64 by omega), bits_or (show n * 2^56 < 2^64 by omega) (show b * 2^40 < 2^64 by omega)]
  have h1 : n * 2^56 ||| b * 2^40 = 2^40 * (n * 2^16 + b) := by
    rw [Nat.mul_comm n, or_add n (b * 2^40) 56 (by omega)]; omega
  rw [h1, bits_or (show 2^40 * (n * 2^16 + b) < 2^64 by omega) (show s < 2^64 by omega), or_add _ s 40 hs]
  congr 1; omega

theorem nodeOf_nat {id : Nat} (h : id < 2^64) : nodeOf id = ((id / 2^56 : Nat) : Int) := by
  have e56 : (2 : Int) ^ min (Int.toNat 56) 64 = ((2^56 : Nat) : Int) := by decide
  unfold nodeOf
  rw [e56, Int.fdiv_eq_ediv_of_nonneg _ (by omega), ← Int.natCast_ediv, i64_nat (by omega)]
theorem bootOf_nat {id : Nat} (h : id < 2^64) : bootOf id = ((id / 2^40 % 2^16 : Nat) : Int) := by
  have e40 : (2 : Int) ^ min (Int.toNat 40) 64 = ((2^40 : Nat) : Int) := by decide
  unfold bootOf
  rw [e40, Int.fdiv_eq_ediv_of_nonneg _ (by omega), ← Int.natCast_ediv, show (65535 : Int) = ((2^16 - 1 : Nat) : Int) from rfl, bits_and (show id / 2^40 < 2^64 by omega) (by decide), Nat.and_two_pow_sub_one_eq_mod, i64_nat (by omega)]
theorem serOf_nat {id : Nat} (h : id < 2^64) : serOf id = ((id % 2^40 : Nat) : Int) := by
  unfold serOf
  rw [show (1099511627775 : Int) = ((2^40 - 1 : Nat) : Int) from rfl, bits_and h (by decide), Nat.and_two_pow_sub_one_eq_mod, i64_nat (by omega)]

/-! ### texts -/
def val (l : List UInt8) : Nat := l.foldl (fun a c => a * 10 + (c.toNat - 48)) 0
theorem val_snoc (l : List UInt8) (c : UInt8) : val (l ++ [c]) = val l * 10 + (c.toNat - 48) := by simp [val]
theorem digit {d : Nat} (h : d < 10) : (UInt8.ofNat (48 + d)).toNat = 48 + d := by simp [UInt8.toNat_ofNat']; omega
theorem val_dec (u : Nat) : val (Lib.decDigits u) = u := by
  induction u using Nat.strongRecOn with
  | _ u ih =>
    rw [Lib.decDigits]
    split
    · rename_i h; simp only [val, List.foldl_cons, List.foldl_nil, digit h]; omega
    · rename_i h
      rw [val_snoc, ih (u / 10) (by omega), digit (by omega)]; omega
theorem dec_inj {a b : Nat} (h : Lib.decDigits a = Lib.decDigits b) : a = b := by rw [← val_dec a, h, val_dec]
theorem dec_dot (u : Nat) : (46 : UInt8) ∉ Lib.decDigits u := by
  induction u using Nat.strongRecOn with
  | _ u ih =>
    rw [Lib.decDigits]
    have key : ∀ d < 10, (46 : UInt8) ≠ UInt8.ofNat (48 + d) := by decide
    split
    · rename_i h; simpa using key u h
    · rename_i h
      intro hm
      rcases List.mem_append.1 hm with hm | hm
      · exact ih (u / 10) (by omega) hm
      · exact key (u % 10) (by omega) (by simpa using hm)
theorem append_sep {x y x' y' : List UInt8} (hx : (46 : UInt8) ∉ x) (hy : (46 : UInt8) ∉ y) (h : x ++ 46 :: x' = y ++ 46 :: y') : x = y ∧ x' = y' := by
  induction x generalizing y with
  | nil =>
    cases y with
    | nil => simpa using h
    | cons c y => simp only [List.nil_append, List.cons_append, List.cons.injEq] at h; exact absurd (by rw [h.1]; simp) hy
  | cons d x ih =>
    cases y with
    | nil => simp only [List.nil_append, List.cons_append, List.cons.injEq] at h; exact absurd (by rw [h.1]; simp) hx
    | cons c y =>
      simp only [List.cons_append, List.cons.injEq] at h
      obtain ⟨h1, h2⟩ := ih (fun hm => hx (List.mem_cons_of_mem _ hm)) (fun hm => hy (List.mem_cons_of_mem _ hm)) h.2
      exact ⟨by rw [h.1, h1], h2⟩

theorem format_nat {id : Nat} (h : id < 2^64) : formatS id = Lib.decDigits (id / 2^56) ++ 46 :: (Lib.decDigits (id / 2^40 % 2^16) ++ 46 :: Lib.decDigits (id % 2^40)) := by
  unfold formatS
  rw [nodeOf_nat h, bootOf_nat h, serOf_nat h, Lib.itoa_nonneg, Lib.itoa_nonneg, Lib.itoa_nonneg]
  simp [Lib.join, List.intercalate]

theorem format_inj {a b : Nat} (ha : a < 2^64) (hb : b < 2^64) (h : formatS a = formatS b) : a = b := by
  rw [format_nat ha, format_nat hb] at h
  obtain ⟨h1, h2⟩ := append_sep (dec_dot _) (dec_dot _) h
  obtain ⟨h2, h3⟩ := append_sep (dec_dot _) (dec_dot _) h2
  have h1 := dec_inj h1
  have h2 := dec_inj h2
  have h3 := dec_inj h3
  omega
end Go.Id
