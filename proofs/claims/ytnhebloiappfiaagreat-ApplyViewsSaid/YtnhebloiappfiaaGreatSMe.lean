/- The S-machine, part e: numbers and tests. -/
import Derived.Test.YtnhebloiappfiaaGreatSMd
namespace Go.SM
set_option linter.unusedVariables false
set_option linter.unusedSimpArgs false

theorem wrap_u64 (n : Int) : IntKind.u64.wrap n = n % 18446744073709551616 := by simp [IntKind.wrap, IntKind.signed, IntKind.bits]
theorem wrap_u8 (n : Int) : IntKind.u8.wrap n = n % 256 := by simp [IntKind.wrap, IntKind.signed, IntKind.bits]
theorem w64_def (n : Int) : w64 n = if n % 18446744073709551616 ≥ 9223372036854775808 then n % 18446744073709551616 - 18446744073709551616 else n % 18446744073709551616 := by
  simp [w64, IntKind.wrap, IntKind.signed, IntKind.bits]
theorem w64_range (n : Int) : -9223372036854775808 ≤ w64 n ∧ w64 n < 9223372036854775808 := by
  rw [w64_def]
  split <;> omega
theorem w64_id {n : Int} (h0 : -9223372036854775808 ≤ n) (h1 : n < 9223372036854775808) : w64 n = n := by
  rw [w64_def]
  split <;> omega
theorem u64_add (x y : UInt64) : ((x + y).toNat : Int) = IntKind.u64.wrap ((x.toNat : Int) + y.toNat) := by rw [wrap_u64, UInt64.toNat_add]; omega
theorem u64_sub (x y : UInt64) : ((x - y).toNat : Int) = IntKind.u64.wrap ((x.toNat : Int) - y.toNat) := by
  rw [wrap_u64, UInt64.toNat_sub]
  have := x.toNat_lt; have := y.toNat_lt
  omega
theorem u64_mul (x y : UInt64) : ((x * y).toNat : Int) = IntKind.u64.wrap ((x.toNat : Int) * y.toNat) := by
  rw [wrap_u64, UInt64.toNat_mul]
  rw [← Int.natCast_mul]
  omega
theorem u8_add (x y : UInt8) : ((x + y).toNat : Int) = IntKind.u8.wrap ((x.toNat : Int) + y.toNat) := by rw [wrap_u8, UInt8.toNat_add]; omega
theorem u8_sub (x y : UInt8) : ((x - y).toNat : Int) = IntKind.u8.wrap ((x.toNat : Int) - y.toNat) := by
  rw [wrap_u8, UInt8.toNat_sub]
  have := x.toNat_lt; have := y.toNat_lt
  omega
theorem ofInt64_toNat (x : UInt64) : BitVec.ofInt 64 (x.toNat : Int) = x.toBitVec := by
  apply BitVec.eq_of_toNat_eq
  simp
theorem ofInt8_toNat (x : UInt8) : BitVec.ofInt 8 (x.toNat : Int) = x.toBitVec := by
  apply BitVec.eq_of_toNat_eq
  simp
theorem bits64 (x : UInt64) : BitVec.ofInt IntKind.u64.bits (x.toNat : Int) = x.toBitVec := ofInt64_toNat x
theorem bits8 (x : UInt8) : BitVec.ofInt IntKind.u8.bits (x.toNat : Int) = x.toBitVec := ofInt8_toNat x
theorem wrap_nat64 {n : Nat} (h : n < 18446744073709551616) : IntKind.u64.wrap (n : Int) = n := by rw [wrap_u64]; omega
theorem wrap_nat8 {n : Nat} (h : n < 256) : IntKind.u8.wrap (n : Int) = n := by rw [wrap_u8]; omega
theorem u64_ne {x y : UInt64} : ((x.toNat : Int) = y.toNat) ↔ x = y := by
  constructor
  · intro h; exact UInt64.toNat_inj.1 (by omega)
  · rintro rfl; rfl
theorem u8_ne {x y : UInt8} : ((x.toNat : Int) = y.toNat) ↔ x = y := by
  constructor
  · intro h; exact UInt8.toNat_inj.1 (by omega)
  · rintro rfl; rfl
theorem fdiv_pow (x : Int) (n : Nat) : x.fdiv (2 ^ n) = x / 2 ^ n := Int.fdiv_eq_ediv_of_nonneg _ (Int.le_of_lt (Int.pow_pos (by omega)))
theorem shr_range {x : Int} (h0 : -9223372036854775808 ≤ x) (h1 : x < 9223372036854775808) (n : Nat) : -9223372036854775808 ≤ x / 2 ^ n ∧ x / 2 ^ n < 9223372036854775808 := by
  have hp : (0 : Int) < 2 ^ n := Int.pow_pos (by omega)
  have hp1 : (1 : Int) ≤ 2 ^ n := hp
  constructor
  · refine Int.le_ediv_of_mul_le hp ?_
    have : (-9223372036854775808 : Int) * 2 ^ n ≤ -9223372036854775808 * 1 := Int.mul_le_mul_of_nonpos_left (by omega) hp1
    omega
  · refine Int.ediv_lt_of_lt_mul hp ?_
    have : (9223372036854775808 : Int) * 1 ≤ 9223372036854775808 * 2 ^ n := Int.mul_le_mul_of_nonneg_left hp1 (by omega)
    omega
theorem tmod_range {x : Int} (h0 : -9223372036854775808 ≤ x) (h1 : x < 9223372036854775808) (y : Int) : -9223372036854775808 ≤ x.tmod y ∧ x.tmod y < 9223372036854775808 := by
  have h := Int.tmod_add_mul_tdiv x y
  by_cases hx : 0 ≤ x
  · have h2 := Int.tmod_nonneg y hx
    have h3 : x.tmod y ≤ x := by
      have := Int.natAbs_tmod x y
      have hle : (x.natAbs % y.natAbs) ≤ x.natAbs := Nat.mod_le _ _
      omega
    omega
  · have h1 := Int.tmod_nonneg (a := -x) y (by omega)
    have h2 : (-x).tmod y ≤ -x := by
      have := Int.natAbs_tmod (-x) y
      have hle : ((-x).natAbs % y.natAbs) ≤ (-x).natAbs := Nat.mod_le _ _
      omega
    rw [Int.neg_tmod] at h1 h2
    omega

section
variable {P : Program} {F : Nat → Prop} {μ : List (Option Nat)} {b : List Blk} {w : World}

/-- What a pure operation owes. -/
def Val (P : Program) (w : World) (F : Nat → Prop) (μ : List (Option Nat)) (b : List Blk) (s : Sem Value) (v : V) (b' : List Blk) : Prop :=
  b' = b ∧ ∃ val, s.run P w = .ok val w ∧ VR P w F μ b v val

theorem eqGuard_ok (op : BinOp) (T : TypeId) (X Y : Operand) {x y : Value} (hx : x.oneCell' = true) (hn : x ≠ .nilIface) : (eqGuard op T X Y x y).run P w = .ok () w := by
  unfold eqGuard
  cases op <;> simp <;> (cases x <;> simp_all [Value.oneCell'])

theorem val_i64 {s : Sem Value} {n : Int} (h : s.run P w = .ok (.int .i64 n) w) (h0 : -9223372036854775808 ≤ n ∧ n < 9223372036854775808) : Val P w F μ b s (cst (.i64 n)) b := ⟨rfl, _, h, rfl, h0⟩
theorem val_u64 {s : Sem Value} {n : UInt64} {m : Int} (h : s.run P w = .ok (.int .u64 m) w) (hm : m = (n.toNat : Int)) : Val P w F μ b s (cst (.u64 n)) b := ⟨rfl, _, h, by rw [hm]; rfl⟩
theorem val_u8 {s : Sem Value} {n : UInt8} {m : Int} (h : s.run P w = .ok (.int .u8 m) w) (hm : m = (n.toNat : Int)) : Val P w F μ b s (cst (.u8 n)) b := ⟨rfl, _, h, by rw [hm]; rfl⟩
theorem val_bool {s : Sem Value} {x y : Bool} (h : s.run P w = .ok (.bool y) w) (hm : y = x) : Val P w F μ b s (cst (.bool x)) b := ⟨rfl, _, h, by rw [hm]; rfl⟩

theorem ofNat64_mod (n : Nat) : ((UInt64.ofNat n).toNat : Int) = (n : Int) % 18446744073709551616 := by rw [UInt64.toNat_ofNat']; omega

theorem bin_i64 (op : BinOp) (T : TypeId) {x y : Int} (hx : -9223372036854775808 ≤ x ∧ x < 9223372036854775808) (hy : -9223372036854775808 ≤ y ∧ y < 9223372036854775808) :
    (binR P op T b (.i64 x) (.i64 y)).good (Val P w F μ b (binOp op T (.int .i64 x) (.int .i64 y))) := by
  unfold binR
  cases op <;> simp only [Res.good]
  case add => exact val_i64 rfl (w64_range _)
  case sub => exact val_i64 rfl (w64_range _)
  case mul => exact val_i64 rfl (w64_range _)
  case quo => exact fun hz => val_i64 (by simp [binOp, Op.intDiv, w64, hz]) (w64_range _)
  case rem => exact fun hz => val_i64 (by simp [binOp, Op.intDiv, w64, hz]) (tmod_range hx.1 hx.2 y)
  case and => exact val_i64 rfl (w64_range _)
  case or => exact val_i64 rfl (w64_range _)
  case xor => exact val_i64 rfl (w64_range _)
  case shl => exact fun hz => val_i64 (by simp [binOp, Op.shift, w64, IntKind.bits, show ¬ y < 0 by omega]) (w64_range _)
  case shr => exact fun hz => val_i64 (by simp [binOp, Op.shift, w64, IntKind.bits, show ¬ y < 0 by omega, fdiv_pow]) (shr_range hx.1 hx.2 _)
  case eql => exact val_bool rfl rfl
  case neq => exact val_bool rfl rfl
  case lss => exact val_bool rfl rfl
  case leq => exact val_bool rfl rfl
  case gtr => exact val_bool rfl rfl
  case geq => exact val_bool rfl rfl

theorem bin_u64 (op : BinOp) (T : TypeId) (x y : UInt64) :
    (binR P op T b (.u64 x) (.u64 y)).good (Val P w F μ b (binOp op T (.int .u64 (x.toNat : Int)) (.int .u64 (y.toNat : Int)))) := by
  have hx := x.toNat_lt
  have hy := y.toNat_lt
  unfold binR
  cases op <;> simp only [Res.good]
  case add => exact val_u64 rfl (u64_add x y).symm
  case sub => exact val_u64 rfl (u64_sub x y).symm
  case mul => exact val_u64 rfl (u64_mul x y).symm
  case quo =>
    intro hz
    have hz' : ¬ ((y.toNat : Int) = 0) := fun e => hz (u64_ne.1 (by simpa using e))
    have hz2 : ¬ (y.toNat = 0) := by omega
    refine val_u64 (m := IntKind.u64.wrap ((x.toNat : Int).tdiv y.toNat)) (by simp [binOp, Op.intDiv, hz', hz2]) ?_
    rw [Int.tdiv_eq_ediv_of_nonneg (by omega), ← Int.natCast_ediv, wrap_nat64 (Nat.lt_of_le_of_lt (Nat.div_le_self _ _) hx), UInt64.toNat_div]
  case rem =>
    intro hz
    have hz' : ¬ ((y.toNat : Int) = 0) := fun e => hz (u64_ne.1 (by simpa using e))
    have hz2 : ¬ (y.toNat = 0) := by omega
    refine val_u64 (m := (x.toNat : Int).tmod y.toNat) (by simp [binOp, Op.intDiv, hz', hz2]) ?_
    rw [Int.tmod_eq_emod_of_nonneg (by omega), ← Int.natCast_emod, UInt64.toNat_mod]
  case and => exact val_u64 rfl (by rw [bits64, bits64, wrap_nat64 (BitVec.isLt _)]; rfl)
  case or => exact val_u64 rfl (by rw [bits64, bits64, wrap_nat64 (BitVec.isLt _)]; rfl)
  case xor => exact val_u64 rfl (by rw [bits64, bits64, wrap_nat64 (BitVec.isLt _)]; rfl)
  case shl =>
    refine val_u64 (m := IntKind.u64.wrap ((x.toNat : Int) * 2 ^ (min y.toNat 64))) (by simp [binOp, Op.shift, IntKind.bits, show ¬ ((y.toNat : Int) < 0) by omega]) ?_
    rw [wrap_u64, shlU, ofNat64_mod]
    simp
  case shr =>
    refine val_u64 (m := (x.toNat : Int).fdiv (2 ^ (min y.toNat 64))) (by simp [binOp, Op.shift, IntKind.bits, show ¬ ((y.toNat : Int) < 0) by omega]) ?_
    rw [fdiv_pow, shrU, ofNat64_mod]
    have e : (x.toNat : Int) / 2 ^ (min y.toNat 64) = ((x.toNat / 2 ^ (min y.toNat 64) : Nat) : Int) := by simp
    have hle : x.toNat / 2 ^ (min y.toNat 64) ≤ x.toNat := Nat.div_le_self _ _
    rw [e]
    generalize x.toNat / 2 ^ (min y.toNat 64) = q at hle ⊢
    omega
  case eql => exact val_bool rfl (by rw [Bool.eq_iff_iff]; simp [u64_ne])
  case neq => exact val_bool rfl (by rw [Bool.eq_iff_iff]; simp [u64_ne])
  case lss => exact val_bool rfl (by rw [Bool.eq_iff_iff]; simp [UInt64.lt_iff_toNat_lt])
  case leq => exact val_bool rfl (by rw [Bool.eq_iff_iff]; simp [UInt64.le_iff_toNat_le])
  case gtr => exact val_bool rfl (by rw [Bool.eq_iff_iff]; simp [UInt64.lt_iff_toNat_lt])
  case geq => exact val_bool rfl (by rw [Bool.eq_iff_iff]; simp [UInt64.le_iff_toNat_le])

theorem bin_u8 (op : BinOp) (T : TypeId) (x y : UInt8) :
    (binR P op T b (.u8 x) (.u8 y)).good (Val P w F μ b (binOp op T (.int .u8 (x.toNat : Int)) (.int .u8 (y.toNat : Int)))) := by
  have hx := x.toNat_lt
  have hy := y.toNat_lt
  unfold binR
  cases op <;> simp only [Res.good]
  case add => exact val_u8 rfl (u8_add x y).symm
  case sub => exact val_u8 rfl (u8_sub x y).symm
  case and => exact val_u8 rfl (by rw [bits8, bits8, wrap_nat8 (BitVec.isLt _)]; rfl)
  case or => exact val_u8 rfl (by rw [bits8, bits8, wrap_nat8 (BitVec.isLt _)]; rfl)
  case eql => exact val_bool rfl (by rw [Bool.eq_iff_iff]; simp [u8_ne])
  case neq => exact val_bool rfl (by rw [Bool.eq_iff_iff]; simp [u8_ne])
  case lss => exact val_bool rfl (by rw [Bool.eq_iff_iff]; simp [UInt8.lt_iff_toNat_lt])
  case leq => exact val_bool rfl (by rw [Bool.eq_iff_iff]; simp [UInt8.le_iff_toNat_le])
  case gtr => exact val_bool rfl (by rw [Bool.eq_iff_iff]; simp [UInt8.lt_iff_toNat_lt])
  case geq => exact val_bool rfl (by rw [Bool.eq_iff_iff]; simp [UInt8.le_iff_toNat_le])
end
end Go.SM
