/- The S-machine, part d: each operation does to the model's memory what it does to the abstract state. -/
import Derived.Test.YtnhebloiappfiaaGreatSMc
namespace Go.SM
set_option linter.unusedVariables false
set_option linter.unusedSimpArgs false

def Res.good (r : Res) (X : V → List Blk → Prop) : Prop :=
  match r with
  | .fail => True
  | .ok v b => X v b
  | @Res.ob p _ v b => p → X v b

/-- The operation's value and the memory behind it. -/
def Runs (P : Program) (o : Oper) (a : Act) (w : World) (F : Nat → Prop) (μ : List (Option Nat)) (b : List Blk) (v : V) (b' : List Blk) : Prop :=
  ∃ val w' F' μ', ((execOp a.eval o).run P w = .ok (.value val) w' ∨ ((execOp a.eval o).run P w = .ok .skip w' ∧ val = undef)) ∧ Upd P F μ b w F' μ' b' w' ∧ VR P w' F' μ' b' v val

section
variable {P : Program} {F : Nat → Prop} {μ : List (Option Nat)} {b : List Blk} {w w' : World}

theorem all2_nil {α β : Type} {R : α → β → Prop} : All2 R ([] : List α) ([] : List β) := ⟨rfl, fun i x y h => by simp at h⟩
theorem all2_cons {α β : Type} {R : α → β → Prop} {x : α} {y : β} {xs : List α} {ys : List β} (h : R x y) (t : All2 R xs ys) : All2 R (x :: xs) (y :: ys) :=
  ⟨by simp [t.1], fun i p q hp hq => by
    cases i with
    | zero => simp at hp hq; subst hp; subst hq; exact h
    | succ i => simp at hp hq; exact t.2 i p q hp hq⟩
theorem all2_head {α β : Type} {R : α → β → Prop} {x : α} {xs : List α} {l : List β} (h : All2 R (x :: xs) l) : ∃ y ys, l = y :: ys ∧ R x y ∧ All2 R xs ys := by
  cases l with
  | nil => have := h.1; simp at this
  | cons y ys => exact ⟨y, ys, rfl, h.2 0 x y rfl rfl, ⟨by have := h.1; simpa using this, fun i p q hp hq => h.2 (i + 1) p q (by simpa using hp) (by simpa using hq)⟩⟩
theorem all2_app {α β : Type} {R : α → β → Prop} {xs xs' : List α} {ys ys' : List β} (h : All2 R xs ys) (h' : All2 R xs' ys') : All2 R (xs ++ xs') (ys ++ ys') := by
  refine ⟨by simp [h.1, h'.1], fun i x y hx hy => ?_⟩
  by_cases hi : i < xs.length
  · rw [List.getElem?_append_left hi] at hx
    rw [List.getElem?_append_left (by rw [← h.1]; exact hi)] at hy
    exact h.2 i x y hx hy
  · rw [List.getElem?_append_right (by omega)] at hx
    rw [List.getElem?_append_right (by rw [← h.1]; omega), ← h.1] at hy
    exact h'.2 _ x y hx hy
theorem all2_drop {α β : Type} {R : α → β → Prop} {xs : List α} {ys : List β} (h : All2 R xs ys) (n : Nat) : All2 R (xs.drop n) (ys.drop n) :=
  ⟨by simp [h.1], fun i x y hx hy => h.2 (n + i) x y (by simpa using hx) (by simpa using hy)⟩
theorem all2_take {α β : Type} {R : α → β → Prop} {xs : List α} {ys : List β} (h : All2 R xs ys) (n : Nat) : All2 R (xs.take n) (ys.take n) := by
  refine ⟨by simp [h.1], fun i x y hx hy => ?_⟩
  rw [List.getElem?_take] at hx hy
  split at hx
  · rename_i hi
    rw [if_pos hi] at hy
    exact h.2 i x y hx hy
  · cases hx
theorem all2_map {α α' β : Type} {R : α' → β → Prop} {f : α → α'} {xs : List α} {ys : List β} (h : All2 (fun x y => R (f x) y) xs ys) : All2 R (xs.map f) ys :=
  ⟨by simp [h.1], fun i x y hx hy => by
    rw [List.getElem?_map] at hx
    cases hq : xs[i]? with
    | none => simp [hq] at hx
    | some z => simp [hq] at hx; subst hx; exact h.2 i z y hq hy⟩
theorem all2_self_map {α β : Type} {R : β → α → Prop} {f : α → β} (xs : List α) (h : ∀ x ∈ xs, R (f x) x) : All2 R (xs.map f) xs :=
  ⟨by simp, fun i x y hx hy => by
    rw [List.getElem?_map, hy] at hx
    simp at hx
    subst hx
    exact h y (List.mem_of_getElem? hy)⟩

/-! ### Constants and operands -/
theorem toNat_ofNat64 {n : Int} (h0 : 0 ≤ n) (h1 : n < 18446744073709551616) : ((UInt64.ofNat n.toNat).toNat : Int) = n := by
  rw [UInt64.toNat_ofNat']
  omega
theorem toNat_ofNat8 {n : Int} (h0 : 0 ≤ n) (h1 : n < 256) : ((UInt8.ofNat n.toNat).toNat : Int) = n := by
  rw [UInt8.toNat_ofNat']
  omega
theorem constC_sound (v : Value) (hv : v.oneCell' = true) : CellR P w F μ b (constC v) v := by
  unfold constC
  split
  · rfl
  · split
    · rename_i h
      simp only [Bool.and_eq_true, decide_eq_true_eq] at h
      exact ⟨rfl, h.1, h.2⟩
    · exact hv
  · split
    · rename_i h
      simp only [Bool.and_eq_true, decide_eq_true_eq] at h
      show _ = Value.int .u64 _
      rw [toNat_ofNat64 h.1 h.2]
    · exact hv
  · split
    · rename_i h
      simp only [Bool.and_eq_true, decide_eq_true_eq] at h
      show _ = Value.int .u8 _
      rw [toNat_ofNat8 h.1 h.2]
    · exact hv
  · split
    · exact ⟨_, rfl, rfl, by assumption⟩
    · exact hv
  · rfl
  · exact ⟨none, rfl⟩
  · rfl
  · exact hv
theorem constV_sound (v : Value) : VR P w F μ b (constV v) v := by
  unfold constV
  split
  · rename_i cs
    split
    · rename_i h
      exact ⟨cs, rfl, all2_self_map _ fun x hx => constC_sound x (List.all_eq_true.1 h x hx)⟩
    · trivial
  · trivial
  · rename_i h1 h2
    refine constC_sound _ ?_
    cases v <;> first | rfl | (exfalso; exact h1 _ rfl) | (exfalso; exact h2 _ rfl)

/-- The slots' side of the relation. -/
def TmpsR (P : Program) (w : World) (F : Nat → Prop) (μ : List (Option Nat)) (st : St) (a : Act) : Prop :=
  ∀ (i : Nat) (v : V), st.tmps[i]? = some v → VR P w F μ st.blks v (a.tmps.getD i undef)

variable {st : St} {a : Act} {o : Oper}
theorem ev_sound (h : TmpsR P w F μ st a) (x : Operand) : VR P w F μ st.blks (ev st x) (a.eval x) := by
  cases x with
  | tmp t =>
    show VR P w F μ st.blks (st.tmps.getD t .dead) _
    rw [List.getD_eq_getElem?_getD]
    cases ht : st.tmps[t]? with
    | none => trivial
    | some v => exact h t v ht
  | const v => exact constV_sound v
  | global g => trivial
  | func f => exact ⟨[], rfl, rfl⟩
theorem evC_sound (h : TmpsR P w F μ st a) {x : Operand} {c : Cell} (hc : evC st x = c) (hd : c ≠ .dead) : CellR P w F μ st.blks c (a.eval x) := by
  have hs := ev_sound h x
  unfold evC at hc
  split at hc
  · rename_i y hy
    subst hc
    rw [hy] at hs
    exact hs
  · exact absurd hc.symm hd
theorem evE_sound (h : TmpsR P w F μ st a) {x : Operand} {e : E} (hc : evE st x = some e) : ElR P w F μ st.blks e (a.eval x) := by
  have hs := ev_sound h x
  unfold evE at hc
  split at hc
  · rename_i y hy
    cases hc
    rw [hy] at hs
    exact hs
  · cases hc
theorem el_cells {e : E} {v : Value} (h : ElR P w F μ b e v) : All2 (CellR P w F μ b) e.cells v.cells.toList := by
  cases e with
  | c x =>
    have h1 := CellR_one h
    have : v.cells.toList = [v] := by cases v <;> first | rfl | (simp [Value.oneCell'] at h1)
    rw [this]
    exact all2_cons h all2_nil
  | agg xs =>
    obtain ⟨vs, rfl, h⟩ := h
    exact h

/-! ### Operations that leave the memory alone -/
theorem runs_same (hm : MemR P F μ st.blks w) {v : V} {val : Value} (hr : (execOp a.eval o).run P w = .ok (.value val) w) (hv : VR P w F μ st.blks v val) : Runs P o a w F μ st.blks v st.blks :=
  ⟨val, w, F, μ, .inl hr, .refl hm, hv⟩
end
end Go.SM
