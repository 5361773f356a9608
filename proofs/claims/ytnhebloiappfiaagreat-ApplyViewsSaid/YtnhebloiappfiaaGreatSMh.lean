/- The S-machine, part h: loading, freezing, storing, new memory: each against the model. -/
import Derived.Test.YtnhebloiappfiaaGreatSMg
namespace Go.SM
set_option linter.unusedVariables false
set_option linter.unusedSimpArgs false

/-- What an operation that may change memory owes. -/
def Eff (P : Program) (w : World) (F : Nat → Prop) (μ : List (Option Nat)) (b : List Blk) (s : Sem Value) (v : V) (b' : List Blk) : Prop :=
  ∃ val w' F' μ', s.run P w = .ok val w' ∧ Upd P F μ b w F' μ' b' w' ∧ VR P w' F' μ' b' v val

section
variable {P : Program} {F : Nat → Prop} {μ : List (Option Nat)} {b : List Blk} {w : World}

theorem Val.eff {s : Sem Value} {v : V} {b' : List Blk} (hm : MemR P F μ b w) (h : Val P w F μ b s v b') : Eff P w F μ b s v b' := by
  obtain ⟨rfl, val, hr, hv⟩ := h
  exact ⟨val, w, F, μ, hr, .refl hm, hv⟩

theorem sub_info {T : TypeId} {cs : List Cell} {e : E} (h : sub P T cs = some e) : P.info? T ≠ none := by
  unfold sub isAggB at h
  split at h <;> first | (cases h; done) | skip
  all_goals
    rename_i hu
    split at hu <;> first | (cases hu; done) | skip
    all_goals exact info_of_underlying (by assumption)

theorem subR_sound {T : TypeId} {g o : Nat} {cs : List Cell} {vs : List Value} (hm : MemR P F μ b w) (ha : All2 (CellR P w F μ b) cs vs) (hc : ∀ j v, vs[j]? = some v → w.cell? ⟨g, o + j, none⟩ = some v) :
    (subR P T cs b none).good (Val P w F μ b (Instr.loadAt T (.pointer (some ⟨g, o, none⟩)))) := by
  unfold subR
  split
  · rename_i e he
    obtain ⟨val, hr, hv⟩ := load_run he (sub_info he) ha hc
    exact ⟨rfl, val, by simpa [Instr.loadAt, Instr.sureAddr] using hr, hv⟩
  · trivial

theorem row_cells {g o n : Nat} {c : Array Value} {T : TypeId} {fr : Nat × Nat} (h : w.heap[g]? = some (.cells c T fr)) (fo : Nat) :
    ∀ j v, (((c.toList.drop o).take n).drop fo)[j]? = some v → w.cell? ⟨g, o + fo + j, none⟩ = some v := by
  intro j v hv
  rw [cell_of_row w g _ c T fr h]
  rw [List.getElem?_drop, List.getElem?_take] at hv
  split at hv
  · rw [List.getElem?_drop] at hv
    rw [← Array.getElem?_toList, ← hv]
    congr 1
    omega
  · cases hv

theorem at'_get {t : Ty} {xs : List t.den} {i : Nat} (h : i < xs.length) : xs[i]? = some (at' xs i) := by
  unfold at'
  rw [List.getD_eq_getElem?_getD, List.getElem?_eq_getElem h]
  rfl

theorem loadR_sound (hm : MemR P F μ b w) (T : TypeId) {x : Cell} {vx : Value} (hx : CellR P w F μ b x vx) :
    (loadR P T b x).good (Val P w F μ b (Instr.loadAt T vx)) := by
  cases x <;> try exact trivial
  case ptr k off =>
    obtain ⟨g, hk, rfl⟩ := hx
    dsimp only [loadR]
    cases hq : b[k]? with
    | none => trivial
    | some y =>
      cases y with
      | gone => trivial
      | hole => trivial
      | row => trivial
      | cells T' cs =>
        have hB := hm.blk _ _ hq
        rw [mu_get hk] at hB
        obtain ⟨g', c, e, h1, h2, h3⟩ := hB
        cases e
        refine subR_sound hm (all2_drop h3 off) (fun j v hv => ?_)
        have := row_cells (o := 0) (n := cs.length) h1 off j v (by simpa using hv)
        simpa using this
  case eptr k i fo =>
    dsimp only [loadR]
    cases hq : b[k]? with
    | none => trivial
    | some y =>
      cases y with
      | gone => trivial
      | hole => trivial
      | cells => trivial
      | row T' t xs fz =>
        have hx2 := hx.2
        simp only [hq] at hx2
        obtain ⟨g, hk, rfl, hi⟩ := hx2
        have hB := hm.blk _ _ hq
        rw [mu_get hk] at hB
        rcases hB.2.2 with ⟨e, _⟩ | ⟨g', c, cap, e, h1, h2, h3, h4, h5, h6⟩
        · cases e
        · cases e
          exact subR_sound hm (all2_drop (inj_sound t _ _ (h5 i _ (at'_get hi))) fo) (row_cells h1 fo)
  case cptr t y fo =>
    obtain ⟨g, o, cs, T', fr, rfl, h1, h2, h3⟩ := hx
    exact subR_sound hm (all2_drop (inj_sound t _ _ h3) fo) (row_cells h2 fo)

/-! ### Freezing -/
theorem Upd.of_grow {F' : Nat → Prop} {μ' : List (Option Nat)} {b' : List Blk} {w' : World} (u : Upd P F μ b w F' μ' b' w') : Grow F μ b w F' μ' b' w' := u.grow

/-- The memory's side stays; knowledge grows. -/
def Froze (P : Program) (w : World) (F : Nat → Prop) (μ : List (Option Nat)) (b b' : List Blk) (X : (Nat → Prop) → Prop) : Prop := ∃ F', Upd P F μ b w F' μ b' w ∧ X F'

theorem low1_sound (hm : MemR P F μ b w) {x : Cell} {v : Value} (hx : CellR P w F μ b x v) :
    Froze P w F μ b (low1 b x).2 fun F' => CellR P w F' μ (low1 b x).2 (low1 b x).1 v := by
  cases x <;> try exact ⟨F, .refl hm, hx⟩
  case ref k =>
    dsimp only [low1]
    cases hq : b[k]? with
    | none => exact ⟨F, .refl hm, hx⟩
    | some y =>
      cases y with
      | gone => exact ⟨F, .refl hm, hx⟩
      | hole => exact ⟨F, .refl hm, hx⟩
      | cells => exact ⟨F, .refl hm, hx⟩
      | row T t xs fz =>
        have u := Upd.freeze hm hq
        refine ⟨_, u, ?_⟩
        have hx2 := hx.2
        simp only [hq] at hx2
        have hB := hm.blk _ _ hq
        rcases hx2 with ⟨hk, a0, rfl⟩ | ⟨g, c, cap, hk, rfl, h1, h2⟩
        · have hn : μ.getD k none = none := by simp [List.getD_eq_getElem?_getD, hk]
          rw [hn] at hB
          rcases hB.2.2 with ⟨_, rfl⟩ | ⟨_, _, _, e, _⟩
          · exact ⟨a0, 0, rfl, ⟨Nat.zero_le _, Nat.zero_le _⟩, fun h => absurd h (Nat.lt_irrefl 0)⟩
          · cases e
        · rw [mu_get hk] at hB
          rcases hB.2.2 with ⟨e, _⟩ | ⟨g', c', cap', e, h1', h2', h3, h4, h5, h6⟩
          · cases e
          · cases e
            have hcap : xs.length ≤ cap := by
              rw [h1] at h1'
              cases h1'
              have : cap = cap' := Nat.eq_of_mul_eq_mul_right hB.2.1 (by omega)
              omega
            refine ⟨_, cap, rfl, ⟨hcap, hB.1⟩, fun hp => ⟨g, 0, c', T, (0, 0), rfl, .inr hk, h1', fun i y hy => ?_⟩⟩
            have := ER_mono u.grow.le u.grow.heap t _ _ (h5 i y hy)
            simpa using this
  case win k lo n =>
    dsimp only [low1]
    cases hq : b[k]? with
    | none => exact ⟨F, .refl hm, hx⟩
    | some y =>
      cases y with
      | gone => exact ⟨F, .refl hm, hx⟩
      | hole => exact ⟨F, .refl hm, hx⟩
      | cells => exact ⟨F, .refl hm, hx⟩
      | row T t xs fz =>
        have u := Upd.freeze hm hq
        refine ⟨_, u, ?_⟩
        have hx2 := hx.2
        simp only [hq] at hx2
        have hB := hm.blk _ _ hq
        obtain ⟨a, cap, rfl, hcap, hlen, ha⟩ := hx2
        have hl : ((xs.drop lo).take n).length = n := by simp; omega
        refine ⟨a, cap, by rw [hl], ⟨by rw [hl]; exact hcap, by rw [hl]; have := hB.1; omega⟩, fun hp => ?_⟩
        rw [hl] at hp
        obtain ⟨g, hk, rfl⟩ := ha hp
        rw [mu_get hk] at hB
        rcases hB.2.2 with ⟨e, _⟩ | ⟨g', c', cap', e, h1', h2', h3, h4, h5, h6⟩
        · cases e
        · cases e
          refine ⟨g, lo * t.size, c', T, (0, 0), rfl, .inr hk, h1', fun i y hy => ?_⟩
          rw [List.getElem?_take] at hy
          split at hy
          · rw [List.getElem?_drop] at hy
            have := ER_mono u.grow.le u.grow.heap t _ _ (h5 (lo + i) y hy)
            rw [← Nat.add_mul]
            exact this
          · cases hy

theorem lows_sound (hm : MemR P F μ b w) : ∀ {xs : List Cell} {vs : List Value}, All2 (CellR P w F μ b) xs vs →
    Froze P w F μ b (lows b xs).2 fun F' => All2 (CellR P w F' μ (lows b xs).2) (lows b xs).1 vs := by
  intro xs
  induction xs generalizing F b with
  | nil => intro vs h; exact ⟨F, .refl hm, h⟩
  | cons x xs ih =>
    intro vs h
    obtain ⟨v, vs, rfl, hx, h⟩ := all2_head h
    obtain ⟨F1, u1, hx1⟩ := low1_sound hm hx
    obtain ⟨F2, u2, h2⟩ := ih u1.mem (h.mono fun _ _ => CellR.mono u1.grow)
    exact ⟨F2, u1.trans u2, all2_cons (CellR.mono u2.grow hx1) h2⟩

theorem lowE_sound (hm : MemR P F μ b w) {x : E} {v : Value} (hx : ElR P w F μ b x v) :
    Froze P w F μ b (lowE b x).2 fun F' => ElR P w F' μ (lowE b x).2 (lowE b x).1 v := by
  cases x with
  | c x => exact low1_sound hm hx
  | agg xs =>
    obtain ⟨vs, rfl, h⟩ := hx
    obtain ⟨F', u, h'⟩ := lows_sound hm h
    exact ⟨F', u, vs, rfl, h'⟩

theorem lowEs_sound (hm : MemR P F μ b w) : ∀ {xs : List E} {vs : List Value}, All2 (ElR P w F μ b) xs vs →
    Froze P w F μ b (lowEs b xs).2 fun F' => All2 (ElR P w F' μ (lowEs b xs).2) (lowEs b xs).1 vs := by
  intro xs
  induction xs generalizing F b with
  | nil => intro vs h; exact ⟨F, .refl hm, h⟩
  | cons x xs ih =>
    intro vs h
    obtain ⟨v, vs, rfl, hx, h⟩ := all2_head h
    obtain ⟨F1, u1, hx1⟩ := lowE_sound hm hx
    obtain ⟨F2, u2, h2⟩ := ih u1.mem (h.mono fun _ _ => ElR.mono u1.grow)
    exact ⟨F2, u1.trans u2, all2_cons (ElR.mono u2.grow hx1) h2⟩

theorem lowV_sound (hm : MemR P F μ b w) {x : V} {v : Value} (hx : VR P w F μ b x v) :
    Froze P w F μ b (lowV b x).2 fun F' => VR P w F' μ (lowV b x).2 (lowV b x).1 v := by
  cases x with
  | dead => exact ⟨F, .refl hm, trivial⟩
  | e x => exact lowE_sound hm hx
  | tup xs =>
    obtain ⟨vs, rfl, h⟩ := hx
    obtain ⟨F', u, h'⟩ := lowEs_sound hm h
    exact ⟨F', u, vs, rfl, h'⟩

/-! ### Storing -/
theorem store_run {T : TypeId} {g o : Nat} {c : Array Value} {T' : TypeId} {v : Value} (hg : w.heap[g]? = some (.cells c T' (0, 0))) (hi : P.cellsOf T = v.cells.size) (hn : P.info? T ≠ none) (hl : o + v.cells.size ≤ c.size) (h1 : ∀ u ∈ v.cells.toList, u.oneCell' = true) :
    (Instr.storeAt T (.pointer (some ⟨g, o, none⟩)) v).run P w = .ok () (w.setRow g (c.toList.take o ++ v.cells.toList ++ c.toList.drop (o + v.cells.size)).toArray) := by
  obtain ⟨i, hi'⟩ := Option.ne_none_iff_exists'.1 hn
  have hsz : i.size = v.cells.size := by rw [← hi]; simp [Program.cellsOf, hi']
  have hst := run_storeCells_at P g o T' v.cells.toList 0 c w hg (by simpa using hl) h1
  simp only [Nat.add_zero] at hst
  simp [Instr.storeAt, Instr.sureAddr, storeVar, sizeOf, typeInfo, hi', hsz, hst]

/-- What a store owes. -/
def EffU (P : Program) (w : World) (F : Nat → Prop) (μ : List (Option Nat)) (b : List Blk) (s : Sem Unit) (b' : List Blk) : Prop :=
  ∃ w' F' μ', s.run P w = .ok () w' ∧ Upd P F μ b w F' μ' b' w'

theorem all2_splice {α β : Type} {R : α → β → Prop} {cs vs : List α} {cs' vs' : List β} (h : All2 R cs cs') (h' : All2 R vs vs') (o : Nat) : All2 R (cs.take o ++ vs ++ cs.drop (o + vs.length)) (cs'.take o ++ vs' ++ cs'.drop (o + vs'.length)) := by
  rw [h'.1]
  exact all2_app (all2_app (all2_take h o) h') (all2_drop h _)

theorem getElem?_splice {α : Type} (c vs : List α) (o : Nat) (hl : o + vs.length ≤ c.length) (i : Nat) : (c.take o ++ vs ++ c.drop (o + vs.length))[i]? = if o ≤ i ∧ i < o + vs.length then vs[i - o]? else c[i]? := by
  by_cases h1 : i < o
  · rw [if_neg (by omega), List.append_assoc, List.getElem?_append_left (by simp; omega), List.getElem?_take, if_pos h1]
  · by_cases h2 : i < o + vs.length
    · rw [if_pos ⟨by omega, h2⟩, List.append_assoc, List.getElem?_append_right (by simp; omega), List.getElem?_append_left (by simp; omega)]
      congr 1
      simp; omega
    · rw [if_neg (by omega), List.getElem?_append_right (by simp; omega), List.getElem?_drop]
      congr 1
      simp; omega
end
end Go.SM
