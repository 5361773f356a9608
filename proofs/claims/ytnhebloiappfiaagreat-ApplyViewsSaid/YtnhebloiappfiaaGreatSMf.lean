/- The S-machine, part f: all tests and conversions; what is loaded and stored. -/
import Derived.Test.YtnhebloiappfiaaGreatSMe
import Derived.Laws.Strings
namespace Go.SM
set_option linter.unusedVariables false
set_option linter.unusedSimpArgs false

section
variable {P : Program} {F : Nat → Prop} {μ : List (Option Nat)} {b : List Blk} {w : World}

theorem Val.guard {op : BinOp} {T : TypeId} {X Y : Operand} {x y : Value} {v : V} {b' : List Blk} (h1 : x.oneCell' = true) (h2 : x ≠ .nilIface) (h : Val P w F μ b (binOp op T x y) v b') :
    Val P w F μ b (do eqGuard op T X Y x y; binOp op T x y) v b' := by
  obtain ⟨e, val, hr, hv⟩ := h
  exact ⟨e, val, by simp [eqGuard_ok op T X Y h1 h2, hr], hv⟩

theorem Res.good_mono {r : Res} {X Y : V → List Blk → Prop} (h : ∀ v b, X v b → Y v b) (hr : r.good X) : r.good Y := by
  cases r with
  | fail => trivial
  | ok v b => exact h v b hr
  | ob p v b => exact fun hp => h v b (hr hp)

theorem run_equalIn_bool (d : Nat) (T : TypeId) (x y : Bool) (hT : P.underlying T = some .bool) : (Op.equalIn (d + 1) T (.bool x) (.bool y)).run P w = .ok (x == y) w := by
  simp [Op.equalIn, run_underlying hT]
theorem run_equal_bool (T : TypeId) (x y : Bool) (hT : P.underlying T = some .bool) : (Op.equal T (.bool x) (.bool y)).run P w = .ok (x == y) w := run_equalIn_bool 9999 T x y hT
theorem run_equalIn_ptr_nil (d : Nat) (T e : TypeId) (x : Option Addr) (hT : P.underlying T = some (.pointer e)) : (Op.equalIn (d + 1) T (.pointer x) (.pointer none)).run P w = .ok x.isNone w := by
  cases x <;> simp [Op.equalIn, run_underlying hT]
theorem run_equal_ptr_nil (T e : TypeId) (x : Option Addr) (hT : P.underlying T = some (.pointer e)) : (Op.equal T (.pointer x) (.pointer none)).run P w = .ok x.isNone w := run_equalIn_ptr_nil 9999 T e x hT

theorem binR_sound (op : BinOp) (T : TypeId) (X Y : Operand) {x y : Cell} {vx vy : Value} (hx : CellR P w F μ b x vx) (hy : CellR P w F μ b y vy) :
    (binR P op T b x y).good (Val P w F μ b (do eqGuard op T X Y vx vy; binOp op T vx vy)) := by
  cases x <;> cases y <;> try exact trivial
  case i64.i64 x y =>
    obtain ⟨rfl, hx⟩ := hx; obtain ⟨rfl, hy⟩ := hy
    exact Res.good_mono (fun _ _ => Val.guard rfl (by simp)) (bin_i64 op T hx hy)
  case u64.u64 x y => cases hx; cases hy; exact Res.good_mono (fun _ _ => Val.guard rfl (by simp)) (bin_u64 op T x y)
  case u8.u8 x y => cases hx; cases hy; exact Res.good_mono (fun _ _ => Val.guard rfl (by simp)) (bin_u8 op T x y)
  case u64.i64 x y =>
    cases hx; obtain ⟨rfl, hy⟩ := hy
    refine Res.good_mono (fun _ _ => Val.guard rfl (by simp)) ?_
    cases op <;> first | exact trivial | skip
    · intro hz
      refine val_u64 (m := IntKind.u64.wrap ((x.toNat : Int) * 2 ^ (min y.toNat 64))) (by simp [binOp, Op.shift, IntKind.bits, show ¬ y < 0 by omega]) ?_
      rw [wrap_u64, shlU, ofNat64_mod]
      simp
    · intro hz
      refine val_u64 (m := (x.toNat : Int).fdiv (2 ^ (min y.toNat 64))) (by simp [binOp, Op.shift, IntKind.bits, show ¬ y < 0 by omega]) ?_
      rw [fdiv_pow, shrU, ofNat64_mod]
      have e : (x.toNat : Int) / 2 ^ (min y.toNat 64) = ((x.toNat / 2 ^ (min y.toNat 64) : Nat) : Int) := by simp
      have hle : x.toNat / 2 ^ (min y.toNat 64) ≤ x.toNat := Nat.div_le_self _ _
      have hlt := x.toNat_lt
      rw [e]
      generalize x.toNat / 2 ^ (min y.toNat 64) = q at hle ⊢
      omega
  case i64.u64 x y =>
    obtain ⟨rfl, hx⟩ := hx; cases hy
    refine Res.good_mono (fun _ _ => Val.guard rfl (by simp)) ?_
    cases op <;> first | exact trivial | skip
    · exact val_i64 (by simp [binOp, Op.shift, w64, IntKind.bits, show ¬ ((y.toNat : Int) < 0) by omega]) (w64_range _)
    · exact val_i64 (by simp [binOp, Op.shift, w64, IntKind.bits, show ¬ ((y.toNat : Int) < 0) by omega, fdiv_pow]) (shr_range hx.1 hx.2 _)
  case bool.bool x y =>
    cases hx; cases hy
    refine Res.good_mono (fun _ _ => Val.guard rfl (by simp)) ?_
    unfold binR
    dsimp only
    split <;> (try exact trivial)
    rename_i hT
    cases op <;> first | exact trivial | skip
    all_goals exact val_bool (by simp [binOp, run_equal_bool T x y hT]) rfl
  case str.str x y =>
    obtain ⟨bx, rfl, rfl, _⟩ := hx; obtain ⟨by_, rfl, rfl, _⟩ := hy
    refine Res.good_mono (fun _ _ => Val.guard rfl (by simp)) ?_
    cases op <;> first | exact trivial | skip
    all_goals exact val_bool rfl (by rw [ByteArray.toList_eq, ByteArray.toList_eq]; rw [Bool.eq_iff_iff]; simp)
  case ptr.nilp k off =>
    obtain ⟨m, _, rfl⟩ := hx; cases hy
    refine Res.good_mono (fun _ _ => Val.guard rfl (by simp)) ?_
    unfold binR
    dsimp only
    split <;> (try exact trivial)
    rename_i hT
    cases op <;> first | exact trivial | skip
    all_goals exact val_bool (by simp [binOp, run_equal_ptr_nil T _ _ hT]) rfl
  case nilp.nilp =>
    cases hx; cases hy
    refine Res.good_mono (fun _ _ => Val.guard rfl (by simp)) ?_
    unfold binR
    dsimp only
    split <;> (try exact trivial)
    rename_i hT
    cases op <;> first | exact trivial | skip
    all_goals exact val_bool (by simp [binOp, run_equal_ptr_nil T _ _ hT]) rfl

theorem unR_sound (op : UnOp) {x : Cell} {vx : Value} (hx : CellR P w F μ b x vx) : (unR op b x).good (Val P w F μ b (Op.unary op vx)) := by
  cases x <;> try exact trivial
  case i64 n =>
    obtain ⟨rfl, hx⟩ := hx
    cases op <;> first | exact trivial | skip
    exact val_i64 (by simp [Op.unary, Op.intArith, w64]) (w64_range _)
  case u64 n =>
    cases hx
    cases op <;> first | exact trivial | skip
    · exact val_u64 (m := IntKind.u64.wrap (0 - n.toNat)) (by simp [Op.unary, Op.intArith]) (by rw [u64_sub]; rfl)
    · refine val_u64 (m := IntKind.u64.wrap ((BitVec.ofInt IntKind.u64.bits IntKind.u64.max ^^^ BitVec.ofInt IntKind.u64.bits (n.toNat : Int)).toNat : Int)) rfl ?_
      rw [bits64]
      show IntKind.u64.wrap (((BitVec.allOnes 64 ^^^ n.toBitVec : BitVec 64)).toNat : Int) = _
      rw [BitVec.allOnes_xor, wrap_nat64 (BitVec.isLt _)]
      rfl
  case bool x =>
    cases hx
    cases op <;> first | exact trivial | skip
    exact val_bool (by simp [Op.unary]) rfl

theorem convR_sound (s d : TypeId) {x : Cell} {vx : Value} (hx : CellR P w F μ b x vx) : (convR P s d b x).good (Val P w F μ b (convert s d vx)) := by
  unfold convR
  split <;> (try exact trivial) <;> rename_i h1 h2
  · obtain ⟨rfl, hx⟩ := hx
    rename_i n
    exact val_i64 (n := n) (by simp [convert, run_underlying h1, run_underlying h2, Conv.intToInt, show IntKind.i64.wrap n = n from w64_id hx.1 hx.2]) hx
  · obtain ⟨rfl, hx⟩ := hx
    rename_i n
    refine val_u64 (m := IntKind.u64.wrap n) (by simp [convert, run_underlying h1, run_underlying h2, Conv.intToInt]) ?_
    rw [wrap_u64, ofNat64_mod]; omega
  · obtain ⟨rfl, hx⟩ := hx
    rename_i n
    refine val_u8 (m := IntKind.u8.wrap n) (by simp [convert, run_underlying h1, run_underlying h2, Conv.intToInt]) ?_
    rw [wrap_u8, UInt8.toNat_ofNat']; omega
  · cases hx
    rename_i n
    exact val_i64 (by simp [convert, run_underlying h1, run_underlying h2, Conv.intToInt, w64]) (w64_range _)
  · cases hx
    rename_i n
    refine val_u64 (m := IntKind.u64.wrap (n.toNat : Int)) (by simp [convert, run_underlying h1, run_underlying h2, Conv.intToInt]) ?_
    exact wrap_nat64 n.toNat_lt
  · cases hx
    rename_i n
    refine val_u8 (m := IntKind.u8.wrap (n.toNat : Int)) (by simp [convert, run_underlying h1, run_underlying h2, Conv.intToInt]) ?_
    rw [wrap_u8, UInt8.toNat_ofNat']; omega
  · cases hx
    rename_i n
    have := n.toNat_lt
    refine val_i64 (n := (n.toNat : Int)) (by simp [convert, run_underlying h1, run_underlying h2, Conv.intToInt, show IntKind.i64.wrap (n.toNat : Int) = n.toNat from w64_id (by omega) (by omega)]) (by omega)
  · cases hx
    rename_i n
    have := n.toNat_lt
    refine val_u64 (m := IntKind.u64.wrap (n.toNat : Int)) (by simp [convert, run_underlying h1, run_underlying h2, Conv.intToInt]) ?_
    rw [wrap_u64, ofNat64_mod]
  · cases hx
    rename_i n
    refine val_u8 (m := IntKind.u8.wrap (n.toNat : Int)) (by simp [convert, run_underlying h1, run_underlying h2, Conv.intToInt]) ?_
    exact wrap_nat8 n.toNat_lt
end
end Go.SM
