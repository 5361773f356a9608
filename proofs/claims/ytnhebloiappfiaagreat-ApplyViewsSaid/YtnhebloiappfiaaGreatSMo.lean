/- The S-machine, part o: addresses, lengths; every operation. -/
import Derived.Test.YtnhebloiappfiaaGreatSMn
namespace Go.SM
set_option linter.unusedVariables false
set_option linter.unusedSimpArgs false

section
variable {P : Program} {F : Nat → Prop} {μ : List (Option Nat)} {b : List Blk} {w : World}

theorem moveAddr_sound {n : Nat} {x c : Cell} {vx : Value} (h : moveAddr b n x = some c) (hx : CellR P w F μ b x vx) :
    ∃ g o, vx = .pointer (some ⟨g, o, none⟩) ∧ CellR P w F μ b c (.pointer (some ⟨g, o + n, none⟩)) := by
  cases x <;> simp [moveAddr] at h
  case ptr k off =>
    subst h
    obtain ⟨g, hk, rfl⟩ := hx
    exact ⟨g, off, rfl, g, hk, rfl⟩
  case cptr t y fo =>
    subst h
    obtain ⟨g, o, cs, T, fr, rfl, h1, h2, h3⟩ := hx
    exact ⟨g, o + fo, rfl, g, o, cs, T, fr, by rw [Nat.add_assoc], h1, h2, h3⟩
  case eptr k i fo =>
    split at h
    · rename_i T t xs fz hq
      cases h
      have h2 := hx.2
      simp only [hq] at h2
      obtain ⟨g, h3, rfl, h4⟩ := h2
      refine ⟨g, i * t.size + fo, rfl, rfl, ?_⟩
      simp only [hq]
      exact ⟨g, h3, by rw [Nat.add_assoc], h4⟩
    · cases h

theorem ptr_one {v : Value} {g o : Nat} (h : v = .pointer (some ⟨g, o, none⟩)) : v.oneCell' = true := by rw [h]; rfl

theorem fieldAddrR_sound (hm : MemR P F μ b w) (S : TypeId) (f : Nat) {x : Cell} {vx : Value} (hx : CellR P w F μ b x vx) :
    (fieldAddrR P S b x f).good (Val P w F μ b (Instr.fieldAt S vx f)) := by
  unfold fieldAddrR
  split
  · rename_i fs hS
    split
    · rename_i fd hfd
      split
      · rename_i i hi
        split
        · rename_i hpos
          simp only [Nat.blt_eq] at hpos
          split
          · rename_i c hc
            obtain ⟨g, o, rfl, hv⟩ := moveAddr_sound hc hx
            refine ⟨rfl, _, ?_, hv⟩
            have hne : ¬ i.size = 0 := by omega
            simp [Instr.fieldAt, run_underlying hS, hfd, Instr.sureAddr, fieldPlace, sizeOf, typeInfo, hi, hne, add_at]
          · trivial
        · trivial
      · trivial
    · trivial
  · trivial

theorem info_isSome {T : TypeId} (h : (P.info? T).isSome = true) : ∃ i, P.info? T = some i ∧ i.size = P.cellsOf T := by
  obtain ⟨i, hi⟩ := Option.isSome_iff_exists.1 h
  exact ⟨i, hi, by simp [Program.cellsOf, hi]⟩
theorem info_pos {T : TypeId} (h : 0 < P.cellsOf T) : ∃ i, P.info? T = some i ∧ i.size = P.cellsOf T := by
  cases hi : P.info? T with
  | none => simp [Program.cellsOf, hi] at h
  | some i => exact ⟨i, rfl, by simp [Program.cellsOf, hi]⟩

theorem indexAddrR_sound (hm : MemR P F μ b w) (T : TypeId) {x y : Cell} {vx vy : Value} (hx : CellR P w F μ b x vx) (hy : CellR P w F μ b y vy) :
    (indexAddrR P T b x y).good (Val P w F μ b (Instr.indexAt T vx vy)) := by
  unfold indexAddrR
  split
  · rename_i n
    obtain ⟨rfl, hn⟩ := hy
    split
    · rename_i e hT
      cases x <;> try exact trivial
      case sl t xs =>
        dsimp only
        split
        · rename_i hsz
          simp only [Bool.and_eq_true, beq_iff_eq, Nat.blt_eq] at hsz
          obtain ⟨hsz, htp⟩ := hsz
          rintro ⟨h0, h1⟩
          obtain ⟨ie, hie, hies⟩ := info_pos (P := P) (T := e) (by omega)
          obtain ⟨a, cap, he, ⟨hc, hb⟩, hE⟩ := hx
          simp only [List.cons.injEq, and_true] at he
          subst he
          obtain ⟨g, o, cs, T', fr, rfl, hF, hg, hx⟩ := hE (by omega)
          refine ⟨rfl, .pointer (some ⟨g, o + n.toNat * t.size, none⟩), ?_, ?_⟩
          · simp [Instr.indexAt, asIntOf, run_underlying hT, h0, h1, sizeOf, typeInfo, hie, hies, hsz, add_at]
          · exact ⟨g, o + n.toNat * t.size, cs, T', fr, rfl, hF, hg, hx n.toNat _ (at'_get (by omega))⟩
        · trivial
      case ref k =>
        dsimp only
        cases hq : b[k]? with
        | none => trivial
        | some z =>
          have hx2 := hx.2
          simp only [hq] at hx2
          have hB := hm.blk _ _ hq
          cases z with
          | gone => trivial
          | hole => trivial
          | row T' t xs fz =>
            dsimp only
            split
            · rename_i hsz
              simp only [Bool.and_eq_true, beq_iff_eq, Nat.blt_eq] at hsz
              obtain ⟨hsz, htp⟩ := hsz
              rintro ⟨h0, h1⟩
              obtain ⟨ie, hie, hies⟩ := info_pos (P := P) (T := e) (by omega)
              rcases hx2 with ⟨hk, a0, rfl⟩ | ⟨g, c, cap, hk, rfl, h3, h4⟩
              · have hn : μ.getD k none = none := by simp [List.getD_eq_getElem?_getD, hk]
                rw [hn] at hB
                rcases hB.2.2 with ⟨_, rfl⟩ | ⟨_, _, _, e, _⟩
                · simp at h1; omega
                · cases e
              · refine ⟨rfl, .pointer (some ⟨g, n.toNat * t.size, none⟩), ?_, rfl, ?_⟩
                · simp [Instr.indexAt, asIntOf, run_underlying hT, h0, h1, sizeOf, typeInfo, hie, hies, hsz, add_at]
                · simp only [hq]
                  exact ⟨g, hk, by simp, by omega⟩
            · trivial
          | cells T' cs =>
            dsimp only
            split
            · rename_i hpos
              simp only [Bool.and_eq_true, Nat.blt_eq, Nat.beq_eq] at hpos
              obtain ⟨hpos, rfl⟩ := hpos
              rintro ⟨h0, h1⟩
              obtain ⟨g, c, nn, cap, hk, rfl, h3, _⟩ := hx2
              obtain ⟨ie, hie, hies⟩ := info_pos hpos
              have hlt : n.toNat < nn := by
                rw [← h3] at h1
                exact Nat.lt_of_succ_le (Nat.le_of_mul_le_mul_right h1 hpos)
              refine ⟨rfl, .pointer (some ⟨g, n.toNat * P.cellsOf T', none⟩), ?_, g, hk, rfl⟩
              simp [Instr.indexAt, asIntOf, run_underlying hT, h0, show n < (nn : Int) by omega, sizeOf, typeInfo, hie, hies, add_at]
            · trivial
      case win k lo m =>
        dsimp only
        split
        · rename_i T' t xs fz hq
          have hx2 := hx.2
          simp only [hq] at hx2
          split
          · rename_i hsz
            simp only [Bool.and_eq_true, beq_iff_eq, Nat.blt_eq] at hsz
            obtain ⟨hsz, htp⟩ := hsz
            rintro ⟨h0, h1⟩
            obtain ⟨ie, hie, hies⟩ := info_pos (P := P) (T := e) (by omega)
            obtain ⟨a, cap, rfl, h3, h4, h5⟩ := hx2
            obtain ⟨g, hk, rfl⟩ := h5 (by omega)
            refine ⟨rfl, .pointer (some ⟨g, (lo + n.toNat) * t.size, none⟩), ?_, rfl, ?_⟩
            · simp [Instr.indexAt, asIntOf, run_underlying hT, h0, h1, sizeOf, typeInfo, hie, hies, hsz, add_at, Nat.add_mul]
            · simp only [hq]
              exact ⟨g, hk, by simp, by omega⟩
          · trivial
        · trivial
    · rename_i len e hT
      split
      · rename_i hc
        simp only [Bool.and_eq_true, decide_eq_true_eq, Nat.blt_eq] at hc
        obtain ⟨⟨hs, h0⟩, h1⟩ := hc
        obtain ⟨ie, hie, hies⟩ := info_isSome hs
        split
        · rename_i c hmv
          obtain ⟨g, o, rfl, hv⟩ := moveAddr_sound hmv hx
          refine ⟨rfl, _, ?_, hv⟩
          simp [Instr.indexAt, asIntOf, run_underlying hT, Instr.sureAddr, h0, show n < (len : Int) by omega, sizeOf, typeInfo, hie, hies, add_at]
        · trivial
      · trivial
    · trivial
  · trivial

theorem indexR_sound (T : TypeId) {x y : Cell} {vx vy : Value} (hx : CellR P w F μ b x vx) (hy : CellR P w F μ b y vy) :
    (indexR P T b x y).good (Val P w F μ b (Instr.index T vx vy)) := by
  unfold indexR
  split
  · rename_i s n hT
    obtain ⟨rfl, hn⟩ := hy
    obtain ⟨ba, rfl, h1, h2⟩ := hx
    rintro ⟨h0, h3⟩
    have hlt : n.toNat < ba.size := by rw [← h1] at h3; simp at h3; omega
    refine ⟨rfl, .int .u8 ((s.getD n.toNat 0).toNat : Int), ?_, rfl⟩
    have hg : ba[n.toNat]? = some (s.getD n.toNat 0) := by
      rw [← h1, List.getD_eq_getElem?_getD]
      simp [hlt, ByteArray.getElem_eq_getElem_data]
    simp [Instr.index, asIntOf, run_underlying hT, h0, hg]
  · trivial

theorem lenR_sound (hm : MemR P F μ b w) (T ty : TypeId) {x : Cell} {vx : Value} (hx : CellR P w F μ b x vx) :
    (lenR P T b x).good (Val P w F μ b (Builtin.len_ #[T] ty #[vx])) := by
  unfold lenR
  split
  · rename_i e t xs hT
    obtain ⟨a, c, rfl, hc, hb⟩ := sl_cap hx
    simp only [big] at hb
    exact val_i64 (by simp [Builtin.len_, run_underlying hT, goInt]) (by omega)
  · rename_i e hT
    obtain ⟨a0, rfl⟩ := hx
    exact val_i64 (by simp [Builtin.len_, run_underlying hT, goInt]) (by omega)
  · rename_i e k hT
    have hx2 := hx.2
    split
    · rename_i T' t xs fz hq
      simp only [hq] at hx2
      have hB := hm.blk _ _ hq
      have hb := hB.1
      simp only [big] at hb
      rcases hx2 with ⟨hk, a0, rfl⟩ | ⟨g, c, cap, hk, rfl, h3, h4⟩
      · have hn : μ.getD k none = none := by simp [List.getD_eq_getElem?_getD, hk]
        rw [hn] at hB
        rcases hB.2.2 with ⟨_, rfl⟩ | ⟨_, _, _, e, _⟩
        · exact val_i64 (by simp [Builtin.len_, run_underlying hT, goInt]) (by simp)
        · cases e
      · exact val_i64 (by simp [Builtin.len_, run_underlying hT, goInt]) (by omega)
    · rename_i T' cs hq
      simp only [hq] at hx2
      split
      · rename_i hc
        simp only [Bool.and_eq_true, Nat.beq_eq, Nat.blt_eq, Nat.ble_eq] at hc
        obtain ⟨⟨rfl, hp⟩, hl⟩ := hc
        obtain ⟨g, c, n, cap, hk, rfl, h3, _⟩ := hx2
        have : cs.length / P.cellsOf T' = n := by rw [← h3, Nat.mul_div_cancel _ hp]
        have hle : n ≤ cs.length := by rw [← h3]; exact Nat.le_mul_of_pos_right _ hp
        rw [this]
        exact val_i64 (by simp [Builtin.len_, run_underlying hT, goInt]) (by omega)
      · trivial
    · trivial
  · rename_i e k lo n hT
    have hx2 := hx.2
    split
    · rename_i T' t xs fz hq
      simp only [hq] at hx2
      have hB := hm.blk _ _ hq
      have hb := hB.1
      simp only [big] at hb
      obtain ⟨a, cap, rfl, h3, h4, h5⟩ := hx2
      exact val_i64 (by simp [Builtin.len_, run_underlying hT, goInt]) (by omega)
    · trivial
  · rename_i s hT
    obtain ⟨ba, rfl, h1, h2⟩ := hx
    have : ba.size = s.length := by rw [← h1]; simp
    simp only [big] at h2
    exact val_i64 (by simp [Builtin.len_, run_underlying hT, goInt, this]) (by omega)
  · trivial

theorem mmGo_sound (mx : Bool) : ∀ {cs : List Cell} {vs : List Value} {x n : Int}, All2 (CellR P w F μ b) cs vs → mmGo mx x cs = some n → (-9223372036854775808 ≤ x ∧ x < 9223372036854775808) →
    (vs.foldlM (if mx then Builtin.max2 else Builtin.min2) (.int .i64 x)).run P w = .ok (.int .i64 n) w ∧ -9223372036854775808 ≤ n ∧ n < 9223372036854775808 := by
  intro cs
  induction cs with
  | nil =>
    intro vs x n ha h hx
    have : vs = [] := List.eq_nil_of_length_eq_zero (by have := ha.1; simpa using this.symm)
    subst this
    cases h
    exact ⟨by simp, hx⟩
  | cons c cs ih =>
    intro vs x n ha h hx
    obtain ⟨v, vs, rfl, hc, ha'⟩ := all2_head ha
    cases c <;> simp [mmGo] at h
    case i64 y =>
      obtain ⟨rfl, hy⟩ := hc
      have hr := ih ha' h (by cases mx <;> simp <;> omega)
      refine ⟨?_, hr.2⟩
      rw [List.foldlM_cons]
      cases mx
      · have : (Builtin.min2 (.int .i64 x) (.int .i64 y)).run P w = .ok (.int .i64 (min x y)) w := by
          simp only [Builtin.min2, Sem.run_pure]
          congr 2
          split <;> omega
        have hr1 := hr.1
        simp only [Bool.false_eq_true, if_false] at hr1
        simp [this, hr1]
      · have : (Builtin.max2 (.int .i64 x) (.int .i64 y)).run P w = .ok (.int .i64 (max x y)) w := by
          simp only [Builtin.max2, Sem.run_pure]
          congr 2
          split <;> omega
        have hr1 := hr.1
        simp only [if_true] at hr1
        simp [this, hr1]

theorem minmax_sound (mx : Bool) {cs : List Cell} {vs : List Value} {n : Int} (ha : All2 (CellR P w F μ b) cs vs) (h : minmax mx cs = some n) :
    ∃ v r, vs = v :: r ∧ (r.foldlM (if mx then Builtin.max2 else Builtin.min2) v).run P w = .ok (.int .i64 n) w ∧ -9223372036854775808 ≤ n ∧ n < 9223372036854775808 := by
  cases cs with
  | nil => cases h
  | cons c cs =>
    obtain ⟨v, vs, rfl, hc, ha'⟩ := all2_head ha
    cases c <;> simp [minmax] at h
    case i64 y =>
      obtain ⟨rfl, hy⟩ := hc
      exact ⟨_, vs, rfl, mmGo_sound mx ha' h hy⟩
end
end Go.SM
