/- The S-machine, part g: loads, freezing, stores. -/
import Derived.Test.YtnhebloiappfiaaGreatSMf
import Derived.Laws.Cells
namespace Go.SM
set_option linter.unusedVariables false
set_option linter.unusedSimpArgs false

section
variable {P : Program} {F : Nat → Prop} {μ : List (Option Nat)} {b : List Blk} {w : World}

theorem add_at (g o j : Nat) : (⟨g, o, none⟩ : Addr).add j = ⟨g, o + j, none⟩ := by
  unfold Addr.add
  split
  · simp_all
  · rfl

/-! ### Typed data as cells -/
theorem inj_sound : ∀ (t : Ty) (x : t.den) (vs : List Value), ER w F t x vs → All2 (CellR P w F μ b) (inj t x) vs
  | .i64, n, vs, h => by obtain ⟨rfl, h⟩ := h; exact all2_cons ⟨rfl, h⟩ all2_nil
  | .u64, n, vs, h => by cases h; exact all2_cons rfl all2_nil
  | .u8, n, vs, h => by cases h; exact all2_cons rfl all2_nil
  | .bool, n, vs, h => by cases h; exact all2_cons rfl all2_nil
  | .str, n, vs, h => by obtain ⟨ba, rfl, h⟩ := h; exact all2_cons ⟨ba, rfl, h⟩ all2_nil
  | .unit, _, vs, h => by cases h; exact all2_nil
  | .slice t, xs, vs, h => by
    obtain ⟨a, cap, rfl, h⟩ := h
    exact all2_cons ⟨a, cap, rfl, h⟩ all2_nil
  | .pair t u, x, vs, h => by
    obtain ⟨v1, v2, rfl, h1, h2⟩ := h
    exact all2_app (inj_sound t x.1 v1 h1) (inj_sound u x.2 v2 h2)

theorem proj_sound : ∀ (t : Ty) (cs : List Cell) (x : t.den) (r : List Cell) (vs : List Value), proj t cs = some (x, r) → All2 (CellR P w F μ b) cs vs →
    ∃ v1 v2, vs = v1 ++ v2 ∧ ER w F t x v1 ∧ All2 (CellR P w F μ b) r v2
  | .unit, cs, x, r, vs, h, ha => by
    simp only [proj, Option.some.injEq, Prod.mk.injEq] at h
    obtain ⟨_, rfl⟩ := h
    exact ⟨[], vs, rfl, rfl, ha⟩
  | .pair t u, cs, x, r, vs, h, ha => by
    simp only [proj] at h
    split at h
    · rename_i y r' h1
      split at h
      · rename_i z r'' h2
        cases h
        obtain ⟨v1, v2, rfl, e1, a1⟩ := proj_sound t cs y r' vs h1 ha
        obtain ⟨v3, v4, rfl, e2, a2⟩ := proj_sound u r' z r v2 h2 a1
        exact ⟨v1 ++ v3, v4, by simp, ⟨v1, v3, rfl, e1, e2⟩, a2⟩
      · cases h
    · cases h
  | .i64, cs, x, r, vs, h, ha => by
    cases cs with
    | nil => simp [proj] at h
    | cons c cs' =>
      obtain ⟨y, ys, rfl, hc, ha'⟩ := all2_head ha
      cases c with
      | i64 n =>
        simp only [proj, Option.some.injEq, Prod.mk.injEq] at h
        obtain ⟨rfl, rfl⟩ := h
        exact ⟨[y], ys, rfl, by obtain ⟨rfl, h⟩ := hc; exact ⟨rfl, h⟩, ha'⟩
      | _ => simp [proj] at h
  | .u64, cs, x, r, vs, h, ha => by
    cases cs with
    | nil => simp [proj] at h
    | cons c cs' =>
      obtain ⟨y, ys, rfl, hc, ha'⟩ := all2_head ha
      cases c with
      | u64 n =>
        simp only [proj, Option.some.injEq, Prod.mk.injEq] at h
        obtain ⟨rfl, rfl⟩ := h
        exact ⟨[y], ys, rfl, by cases hc; rfl, ha'⟩
      | _ => simp [proj] at h
  | .u8, cs, x, r, vs, h, ha => by
    cases cs with
    | nil => simp [proj] at h
    | cons c cs' =>
      obtain ⟨y, ys, rfl, hc, ha'⟩ := all2_head ha
      cases c with
      | u8 n =>
        simp only [proj, Option.some.injEq, Prod.mk.injEq] at h
        obtain ⟨rfl, rfl⟩ := h
        exact ⟨[y], ys, rfl, by cases hc; rfl, ha'⟩
      | _ => simp [proj] at h
  | .bool, cs, x, r, vs, h, ha => by
    cases cs with
    | nil => simp [proj] at h
    | cons c cs' =>
      obtain ⟨y, ys, rfl, hc, ha'⟩ := all2_head ha
      cases c with
      | bool n =>
        simp only [proj, Option.some.injEq, Prod.mk.injEq] at h
        obtain ⟨rfl, rfl⟩ := h
        exact ⟨[y], ys, rfl, by cases hc; rfl, ha'⟩
      | _ => simp [proj] at h
  | .str, cs, x, r, vs, h, ha => by
    cases cs with
    | nil => simp [proj] at h
    | cons c cs' =>
      obtain ⟨y, ys, rfl, hc, ha'⟩ := all2_head ha
      cases c with
      | str n =>
        simp only [proj, Option.some.injEq, Prod.mk.injEq] at h
        obtain ⟨rfl, rfl⟩ := h
        exact ⟨[y], ys, rfl, by obtain ⟨ba, rfl, h⟩ := hc; exact ⟨ba, rfl, h⟩, ha'⟩
      | _ => simp [proj] at h
  | .slice t, cs, x, r, vs, h, ha => by
    cases cs with
    | nil => simp [proj] at h
    | cons c cs' =>
      obtain ⟨y, ys, rfl, hc, ha'⟩ := all2_head ha
      cases c with
      | nils =>
        simp only [proj, Option.some.injEq, Prod.mk.injEq] at h
        obtain ⟨rfl, rfl⟩ := h
        obtain ⟨a, rfl⟩ := hc
        exact ⟨[_], ys, rfl, ⟨a, 0, rfl, ⟨Nat.zero_le _, Nat.zero_le _⟩, fun h => absurd h (Nat.lt_irrefl 0)⟩, ha'⟩
      | sl t' xs =>
        simp only [proj] at h
        split at h
        · rename_i e
          subst e
          cases h
          exact ⟨[y], ys, rfl, hc, ha'⟩
        · cases h
      | _ => simp [proj] at h

theorem proj1_sound {t : Ty} {cs : List Cell} {x : t.den} {vs : List Value} (h : proj1 t cs = some x) (ha : All2 (CellR P w F μ b) cs vs) : ER w F t x vs := by
  unfold proj1 at h
  split at h
  · rename_i y hy
    cases h
    obtain ⟨v1, v2, rfl, e, a⟩ := proj_sound t cs x [] vs hy ha
    have : v2 = [] := List.eq_nil_of_length_eq_zero (by have := a.1; simp at this; omega)
    subst this
    simpa using e
  · cases h

/-! ### Loading -/
theorem isAgg_run {T : TypeId} {y : Bool} (h : isAggB P T = some y) : (isAgg T).run P w = .ok y w := by
  unfold isAggB at h
  split at h <;> first | cases h | skip
  · rename_i hu; simp [isAgg, run_underlying hu]
  · rename_i hu; simp [isAgg, run_underlying hu]
  · rename_i d h1 h2 hu
    unfold isAgg
    rw [Sem.run_bind, run_underlying hu]
    cases d <;> first | rfl | (exfalso; exact h1 _ hu) | (exfalso; exact h2 _ _ hu) | (exfalso; exact h1 _ rfl) | (exfalso; exact h2 _ _ rfl)

/-- A value in cells of a row. -/
theorem load_run {T : TypeId} {g o : Nat} {cs : List Cell} {vs : List Value} {e : E} (hs : sub P T cs = some e) (hi : P.info? T ≠ none) (ha : All2 (CellR P w F μ b) cs vs)
    (hc : ∀ j v, vs[j]? = some v → w.cell? ⟨g, o + j, none⟩ = some v) : ∃ val, (loadVar T ⟨g, o, none⟩).run P w = .ok val w ∧ ElR P w F μ b e val := by
  obtain ⟨i, hi⟩ := Option.ne_none_iff_exists'.1 hi
  unfold sub at hs
  split at hs
  · rename_i hagg
    split at hs
    · rename_i hle
      cases hs
      have hle : P.cellsOf T ≤ cs.length := by simpa using hle
      have hsz : i.size = P.cellsOf T := by simp [Program.cellsOf, hi]
      have hl : (loadCells ⟨g, o, none⟩ (vs.take (P.cellsOf T)).length).run P w = .ok (vs.take (P.cellsOf T)).toArray w :=
        run_loadCells_list (P := P) w ⟨g, o, none⟩ _ (fun j v hv => by
          rw [add_at]
          rw [List.getElem?_take] at hv
          split at hv
          · exact hc j v hv
          · cases hv)
      have hlen : (vs.take (P.cellsOf T)).length = P.cellsOf T := by rw [List.length_take, ← ha.1]; omega
      rw [hlen] at hl
      refine ⟨.agg (vs.take (P.cellsOf T)).toArray, ?_, ⟨_, rfl, by simpa using all2_take ha _⟩⟩
      simp [loadVar, isAgg_run hagg, sizeOf, typeInfo, hi, hsz, hl]
    · cases hs
  · rename_i hagg
    split at hs
    · rename_i c r
      cases hs
      obtain ⟨y, ys, rfl, hcy, _⟩ := all2_head ha
      have := hc 0 y rfl
      simp only [Nat.add_zero] at this
      exact ⟨y, by simp [loadVar, isAgg_run hagg, this], hcy⟩
    · cases hs
  · cases hs

theorem info_of_underlying {T : TypeId} {d : TypeDesc} (h : P.underlying T = some d) : P.info? T ≠ none := by
  intro e
  simp [Program.underlying, Program.underlyingId, e] at h
end
end Go.SM
