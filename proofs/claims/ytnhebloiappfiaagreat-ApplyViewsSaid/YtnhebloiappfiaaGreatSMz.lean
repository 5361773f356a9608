/- The S-machine, part z: regions of open order are sound. -/
import Derived.Test.YtnhebloiappfiaaGreatSMy
namespace Go.SM
set_option linter.unusedVariables false
set_option linter.unusedSimpArgs false

section
variable {P : Program} {N : Entry} {F : Nat → Prop} {μ : List (Option Nat)} {b : List Blk} {w w' : World} {st : St} {a : Act} {o : Oper} {id : Nat}

/-! ### A place that was kept is filled -/
theorem cell_ids (hm : MemR P F μ b w) (hb : b[id]? = some .hole) {x : Cell} {v : Value} (h : CellR P w F μ b x v) : ∀ k ∈ x.ids, k < b.length ∧ k ≠ id := by
  have hμ : ∀ {k g : Nat}, μ[k]? = some (some g) → k < b.length ∧ k ≠ id := by
    intro k g hk
    refine ⟨by rw [← hm.len]; exact (List.getElem?_eq_some_iff.1 hk).1, ?_⟩
    rintro rfl
    have := hm.blk k .hole hb
    rw [mu_get hk] at this
    cases this
  have hB : ∀ {k : Nat} {y : Blk}, b[k]? = some y → y ≠ .hole → k < b.length ∧ k ≠ id := fun hk hy => ⟨(List.getElem?_eq_some_iff.1 hk).1, by rintro rfl; rw [hb] at hk; cases hk; exact hy rfl⟩
  intro k hk
  cases x <;> simp only [Cell.ids, List.mem_singleton, List.not_mem_nil] at hk
  case ref j =>
    subst hk
    have h := h.2
    cases hj : b[k]? with
    | none => rw [hj] at h; exact h.elim
    | some y => exact hB hj (by rintro rfl; rw [hj] at h; exact h.elim)
  case ptr j off => subst hk; obtain ⟨g, hg, _⟩ := h; exact hμ hg
  case eptr j i fo =>
    subst hk
    have h := h.2
    cases hj : b[k]? with
    | none => rw [hj] at h; exact h.elim
    | some y => exact hB hj (by rintro rfl; rw [hj] at h; exact h.elim)
  case win j i fo =>
    subst hk
    have h := h.2
    cases hj : b[k]? with
    | none => rw [hj] at h; exact h.elim
    | some y => exact hB hj (by rintro rfl; rw [hj] at h; exact h.elim)
  case fn f cap =>
    obtain ⟨bs, _, hc⟩ := h
    obtain ⟨i, hi⟩ := List.mem_iff_getElem?.1 hk
    have := congrArg (·[i]?) hc
    simp only [List.getElem?_map, hi, Option.map_some] at this
    cases hg : bs[i]? with
    | none => rw [hg] at this; cases this
    | some g =>
      rw [hg] at this
      simp only [Option.map_some, Option.some.injEq] at this
      exact hμ this

theorem rnC_id {ρ : Nat → Option Nat} {x : Cell} (h : ∀ k ∈ x.ids, ρ k = some k) : rnC ρ x = x := by
  cases x <;> simp only [Cell.ids, List.mem_singleton, List.not_mem_nil] at h <;> simp only [rnC]
  case ref k => rw [h k rfl]
  case ptr k off => rw [h k rfl]
  case eptr k i fo => rw [h k rfl]
  case win k i fo => rw [h k rfl]
  case fn f cap =>
    have : cap.mapM ρ = some cap := by
      induction cap with
      | nil => rfl
      | cons k cap ih => rw [List.mapM_cons, h k (by simp), ih fun j hj => h j (by simp [hj])]; rfl
    rw [this]
theorem rnB_id {ρ : Nat → Option Nat} {x : Blk} (h : ∀ k ∈ x.ids, ρ k = some k) : rnB ρ x = x := by
  cases x <;> simp only [rnB]
  case cells T cs =>
    congr 1
    induction cs with
    | nil => rfl
    | cons c cs ih =>
      simp only [Blk.ids, List.flatMap_cons, List.mem_append] at h
      rw [List.map_cons, rnC_id fun k hk => h k (.inl hk), ih fun k hk => h k (.inr hk)]
theorem cells_ids (hm : MemR P F μ b w) (hb : b[id]? = some .hole) {cs : List Cell} {vs : List Value} (h : All2 (CellR P w F μ b) cs vs) : ∀ k ∈ cs.flatMap Cell.ids, k < b.length ∧ k ≠ id := by
  intro k hk
  rw [List.mem_flatMap] at hk
  obtain ⟨c, hc, hk⟩ := hk
  obtain ⟨i, hi⟩ := List.mem_iff_getElem?.1 hc
  have hlt : i < vs.length := by rw [← h.1]; exact (List.getElem?_eq_some_iff.1 hi).1
  exact cell_ids hm hb (h.2 i c _ hi (List.getElem?_eq_getElem hlt)) k hk

theorem fill {μ' : List (Option Nat)} {F' : Nat → Prop} {X : Blk} (hm : MemR P F μ b w) (hb : b[id]? = some .hole) (u : Upd P F μ b w F' μ' (b ++ [X]) w') (hX : ∀ k ∈ X.ids, k < b.length ∧ k ≠ id)
    {c : Nat → Cell} (hc : c = (.ptr · 0) ∨ c = .ref) {v : Value} (hv : CellR P w' F' μ' (b ++ [X]) (c b.length) v) :
    ∃ μ'', Upd P F μ b w F' μ'' (b.set id X) w' ∧ CellR P w' F' μ'' (b.set id X) (c id) v := by
  have hlt := (List.getElem?_eq_some_iff.1 hb).1
  have hlen' : μ'.length = b.length + 1 := by rw [u.mem.len]; simp
  have hold : ∀ k, k < b.length → μ'[k]? = μ[k]? := by
    intro k hk
    have hk1 : k < μ.length := by rw [hm.len]; exact hk
    have hy := List.getElem?_eq_getElem hk
    by_cases hh : b[k] = .hole
    · rw [hh] at hy
      have e1 : μ.getD k none = none := hm.blk k _ hy
      have e2 : μ'.getD k none = none := u.mem.blk k .hole (by rw [List.getElem?_append_left hk]; exact hy)
      rw [List.getD_eq_getElem?_getD, List.getElem?_eq_getElem hk1] at e1
      have hk2 : k < μ'.length := by omega
      rw [List.getD_eq_getElem?_getD, List.getElem?_eq_getElem hk2] at e2
      simp at e1 e2
      rw [List.getElem?_eq_getElem hk1, List.getElem?_eq_getElem hk2, e1, e2]
    · rw [List.getElem?_eq_getElem hk1]
      exact u.grow.mu k _ (List.getElem?_eq_getElem hk1) (.inr ⟨_, hy, hh⟩)
  let m := μ'.getD b.length none
  have hm' : μ'[b.length]? = some m := by
    rw [List.getElem?_eq_getElem (by omega)]
    simp [m, List.getD_eq_getElem?_getD, hlen']
  have hn1 : ∀ k, k ≠ id → k < b.length → (μ.set id m)[k]? = μ'[k]? := fun k hk hk' => by rw [List.getElem?_set_ne (Ne.symm hk), hold k hk']
  have hn2 : (μ.set id m)[id]? = μ'[b.length]? := by rw [hm', List.getElem?_set]; simp [hm.len, hlt]
  let ρ : Nat → Option Nat := fun k => if k = id then none else if k < b.length then some k else if k = b.length then some id else none
  have hρ : ∀ k, k < b.length ∧ k ≠ id → ρ k = some k := fun k hk => by simp [ρ, hk.1, hk.2]
  have hρn : ρ b.length = some id := by simp [ρ, show b.length ≠ id by omega]
  have T : Turned ρ μ' (μ.set id m) (b ++ [X]) (b.set id X) := by
    have cases' : ∀ k j, ρ k = some j → (k ≠ id ∧ k < b.length ∧ j = k) ∨ (k = b.length ∧ j = id) := by
      intro k j h
      simp only [ρ] at h
      split at h
      · cases h
      · rename_i h1
        split at h
        · cases h; exact .inl ⟨h1, by assumption, rfl⟩
        · split at h
          · cases h; exact .inr ⟨by assumption, rfl⟩
          · cases h
    refine ⟨fun k j x hk hx => ?_, fun k j x hk hx => ?_⟩
    · rcases cases' k j hk with ⟨h1, h2, rfl⟩ | ⟨rfl, rfl⟩
      · rw [hn1 j h1 h2]; exact hx
      · rw [hn2]; exact hx
    · rcases cases' k j hk with ⟨h1, h2, rfl⟩ | ⟨rfl, rfl⟩
      · rw [List.getElem?_append_left h2] at hx
        exact ⟨x, by rw [List.getElem?_set_ne (Ne.symm h1)]; exact hx, Sim.refl x⟩
      · simp at hx
        subst hx
        exact ⟨X, by simp [List.getElem?_set, hlt], Sim.refl X⟩
  have rn : ∀ {y : Blk} {q : Option Nat}, (∀ k ∈ y.ids, k < b.length ∧ k ≠ id) → BlkR P w' F' μ' (b ++ [X]) q y → BlkR P w' F' (μ.set id m) (b.set id X) q y := by
    intro y q hy h
    have := rnB_sound T (fun _ h => h) (fun _ _ => rfl) (fun _ c _ h => ⟨c, h, rfl⟩) (fun _ _ _ h => h) h
    rwa [rnB_id fun k hk => hρ k (hy k hk)] at this
  have old : ∀ k, k < b.length → ∀ j ∈ (b.getD k .gone).ids, j < b.length ∧ j ≠ id := by
    intro k hk j hj
    have hB := hm.blk k _ (List.getElem?_eq_getElem hk)
    rw [List.getD_eq_getElem?_getD, List.getElem?_eq_getElem hk] at hj
    simp only [Option.getD_some] at hj
    cases hy : b[k] with
    | cells T cs =>
      rw [hy] at hB hj
      obtain ⟨_, _, _, _, _, hcs⟩ := hB
      exact cells_ids hm hb hcs j hj
    | _ => rw [hy] at hj; simp [Blk.ids] at hj
  -- where a block stood
  let τ : Nat → Nat := fun k => if k = id then b.length else k
  have hτ : ∀ k, k < b.length → (b ++ [X])[τ k]? = (b.set id X)[k]? ∧ μ'[τ k]? = (μ.set id m)[k]? := by
    intro k hk
    by_cases he : k = id
    · subst he
      simp only [τ, if_true]
      exact ⟨by simp [List.getElem?_set, hk], hn2.symm⟩
    · simp only [τ, if_neg he]
      exact ⟨by rw [List.getElem?_append_left hk, List.getElem?_set_ne (Ne.symm he)], (hn1 k he hk).symm⟩
  have mutτ : ∀ k, isMut (b.set id X) k = true → k < b.length ∧ isMut (b ++ [X]) (τ k) = true := by
    intro k hk
    have hlt' := isMut_lt hk
    simp at hlt'
    exact ⟨hlt', by unfold isMut at *; rw [(hτ k hlt').1]; exact hk⟩
  have inj : ∀ j k, j < b.length → k < b.length → τ j = τ k → j = k := by
    intro j k h1 h2 h
    simp only [τ] at h
    split at h <;> split at h <;> omega
  refine ⟨μ.set id m, ⟨⟨u.grow.le, u.grow.heap, u.grow.shape, ?_, ?_⟩, ⟨by simp [hm.len], ?_, ?_, ?_, u.mem.here⟩, u.keep, ?_, u.fresh⟩, ?_⟩
  · intro k x hx hh
    have hne : k ≠ id := by
      rintro rfl
      have e1 : μ.getD k none = none := hm.blk k _ hb
      rw [List.getD_eq_getElem?_getD, hx] at e1
      simp at e1
      rcases hh with hh | ⟨y, hy, hh⟩
      · exact hh e1
      · rw [hb] at hy; cases hy; exact hh rfl
    rw [List.getElem?_set_ne (Ne.symm hne)]
    exact hx
  · intro k x hx
    by_cases he : k = id
    · subst he
      rw [hb] at hx
      cases hx
      exact ⟨X, by simp [List.getElem?_set, hlt], trivial⟩
    · exact ⟨x, by rw [List.getElem?_set_ne (Ne.symm he)]; exact hx, Sim.refl x⟩
  · intro k y hy
    have hk : k < b.length := by have := (List.getElem?_eq_some_iff.1 hy).1; simpa using this
    have h0 := u.mem.blk (τ k) y (by rw [(hτ k hk).1]; exact hy)
    rw [List.getD_eq_getElem?_getD, (hτ k hk).2, ← List.getD_eq_getElem?_getD] at h0
    refine rn ?_ h0
    by_cases he : k = id
    · subst he
      simp [List.getElem?_set, hlt] at hy
      subst hy
      exact hX
    · rw [List.getElem?_set_ne (Ne.symm he)] at hy
      have := old k hk
      rw [List.getD_eq_getElem?_getD, hy] at this
      exact this
  · intro k x hk hx
    obtain ⟨h1, h2⟩ := mutτ k hk
    exact u.mem.apart (τ k) x h2 (by rw [(hτ k h1).2]; exact hx)
  · intro j k x hj hk hx hy
    obtain ⟨h1, h2⟩ := mutτ j hj
    obtain ⟨h3, h4⟩ := mutτ k hk
    exact inj j k h1 h3 (u.mem.inj _ _ x h2 h4 (by rw [(hτ j h1).2]; exact hx) (by rw [(hτ k h3).2]; exact hy))
  · intro k x hk hx
    obtain ⟨h1, h2⟩ := mutτ k hk
    exact u.own (τ k) x h2 (by rw [(hτ k h1).2]; exact hx)
  · have := rnC_sound T (fun _ h => h) (fun _ _ => rfl) (fun _ c _ h => ⟨c, h, rfl⟩) hv
    rcases hc with rfl | rfl <;> simp only [rnC, hρn] at this <;> exact this

theorem constC_ids (v : Value) : (constC v).ids = [] := by
  unfold constC
  split <;> first | rfl | (split <;> rfl)

theorem litCells_ids (hm : MemR P F μ b w) (hb : b[id]? = some .hole) {size : Nat} {parts : List (Nat × E)} {vals : List (Nat × Value)} {n : Nat} {cs : List Cell} (hp : All2 (PartR P w F μ b) parts vals) (h : litCells n size parts = some cs) :
    ∀ k ∈ (Blk.cells 0 cs).ids, k < b.length ∧ k ≠ id := cells_ids hm hb (litCells_sound hp h).2

theorem alX_spec (hm : MemR P F μ st.blks w) (ht : TmpsR P w F μ st a) {p : Option Ob} {X : Blk} {c : Nat → Cell} (h : alX P st o = some (p, X, c)) (hb : st.blks[id]? = some .hole) :
    opR P st o = guarded p (cst (c st.blks.length)) (st.blks ++ [X]) ∧ (c = (.ptr · 0) ∨ c = .ref) ∧ ∀ k ∈ X.ids, k < st.blks.length ∧ k ≠ id := by
  unfold alX at h
  cases hop : o.op <;> simp only [hop] at h <;> try (cases h; done)
  case alloc T =>
    unfold opR
    simp only [hop]
    unfold allocR at h ⊢
    cases hi : P.info? T with
    | none => rw [hi] at h; cases h
    | some i =>
      rw [hi] at h
      simp only at h ⊢
      cases hz : i.zero with
      | none => rw [hz] at h; cases h
      | some z =>
        rw [hz] at h
        simp only at h ⊢
        by_cases hq : z.cells.toList.all (·.oneCell') = true
        · simp only [hq, if_true, newR, List.nil_append] at h ⊢
          cases h
          refine ⟨rfl, .inl rfl, fun k hk => ?_⟩
          simp only [Blk.ids, List.mem_flatMap, List.mem_map] at hk
          obtain ⟨c, ⟨v, _, rfl⟩, hk⟩ := hk
          rw [constC_ids] at hk
          simp at hk
        · simp only [hq, Bool.false_eq_true, if_false] at h
          cases h
  case box T x =>
    split at h
    · rename_i e he
      cases h
      refine ⟨by unfold opR; simp only [hop, he]; rfl, .inl rfl, ?_⟩
      have hv := evE_sound ht he
      cases e with
      | c y => exact cells_ids hm hb (cs := [y]) (all2_cons hv all2_nil)
      | agg ys => obtain ⟨vs, _, hvs⟩ := hv; exact cells_ids hm hb hvs
    · cases h
  case makeSlice T x y =>
    unfold opR
    simp only [hop]
    unfold makeSliceR at h ⊢
    cases hx : evC st x <;> rw [hx] at h <;> try (cases h; done)
    cases hy : evC st y <;> rw [hy] at h <;> try (cases h; done)
    simp only at h ⊢
    cases hs : sliceElem P T with
    | none => rw [hs] at h; cases h
    | some e =>
      rw [hs] at h
      simp only at h ⊢
      cases he : elemTy P e with
      | none => rw [he] at h; cases h
      | some t =>
        rw [he] at h
        simp only at h ⊢
        by_cases hq : (zeroOk P e t && Nat.blt 0 (P.bytesOf e)) = true
        · simp only [hq, if_true, List.nil_append] at h ⊢
          cases h
          exact ⟨rfl, .inr rfl, fun k hk => by simp [Blk.ids] at hk⟩
        · simp only [hq, Bool.false_eq_true, if_false] at h
          cases h
  case buildSlice T len parts =>
    split at h
    · rename_i l hl
      unfold opR
      simp only [hop, hl]
      unfold ptrLit at h
      unfold buildSliceR
      split at h
      · rename_i e he
        split at h
        · rename_i hq
          simp only [Bool.and_eq_true, Bool.not_eq_true'] at hq
          split at h
          · rename_i hn
            split at h
            · rename_i cs hcs
              cases h
              have h1 : (l.length.beq len && len.ble 1000 && (P.cellsOf e).ble 10000 && zlen P e) = true := by simp only [Bool.and_eq_true]; exact hq.1
              rw [if_pos h1, if_neg (by rw [hq.2]; simp)]
              simp only [hn, hcs]
              refine ⟨rfl, by simp, litCells_ids hm hb (evParts_sound ht hl) hcs⟩
            · cases h
          · cases h
        · cases h
      · cases h
    · cases h

theorem al_sound (hm : MemR P F μ st.blks w) (ht : TmpsR P w F μ st a) {p : Option Ob} {X : Blk} {c : Nat → Cell} (h : alX P st o = some (p, X, c)) (hb : st.blks[id]? = some .hole) (hp : (p.map Ob.p).getD True) :
    Runs P o a w F μ st.blks (cst (c id)) (st.blks.set id X) := by
  obtain ⟨h1, h2, h3⟩ := alX_spec hm ht h hb
  have hr : Runs P o a w F μ st.blks (cst (c st.blks.length)) (st.blks ++ [X]) := by
    have := opR_sound (P := P) (o := o) hm ht
    rw [h1] at this
    cases p with
    | none => exact this
    | some p => exact this hp
  obtain ⟨val, w', F', μ', hrun, u, hv⟩ := hr
  obtain ⟨μ'', u', hv'⟩ := fill hm hb u h3 h2 hv
  exact ⟨val, w', F', μ'', hrun, u', hv'⟩

theorem lows_no : ∀ (xs : List Cell), xs.flatMap Cell.ids = [] → lows b xs = (xs, b)
  | [], _ => rfl
  | x :: xs, h => by
    rw [List.flatMap_cons, List.append_eq_nil_iff] at h
    simp only [lows, low1_no h.1, lows_no xs h.2]
theorem lowE_no {e : E} (h : e.ids = []) : lowE b e = (e, b) := by
  cases e with
  | c x => simp only [lowE]; rw [low1_no (by simpa [E.ids, E.cells] using h)]
  | agg xs =>
    simp only [lowE]
    have h : xs.flatMap Cell.ids = [] := by simpa [E.ids, E.cells] using h
    rw [lows_no xs h]
theorem litElems_no (t : Ty) : ∀ (l : List (Nat × E)) (n : Nat), (∀ p ∈ l, p.2.ids = []) → litElems t b n l = (litElems t [] n l).map fun r => (r.1, b)
  | [], _, _ => rfl
  | (i, e) :: r, n, h => by
    have he : e.ids = [] := h (i, e) (by simp)
    simp only [litElems, lowE_no he, litElems_no t r (n + 1) fun p hp => h p (by simp [hp])]
    split
    · split
      · cases litElems t [] (n + 1) r <;> rfl
      · rfl
    · rfl
theorem litR_no (T : TypeId) (len : Nat) (l : List (Nat × E)) (h : ∀ p ∈ l, p.2.ids = []) : litR P T len b l = (litR P T len [] l).on b := by
  unfold litR
  split
  · split
    · split
      · rfl
      · split
        · rename_i t _
          rw [litElems_no t l 0 h]
          cases litElems t [] 0 l <;> rfl
        · rfl
    · rfl
  · rfl
theorem bs_sound (hm : MemR P F μ st.blks w) (ht : TmpsR P w F μ st a) {v : V} (h : bsX P st o = some v) : Runs P o a w F μ st.blks v st.blks := by
  unfold bsX at h
  cases hop : o.op <;> simp only [hop] at h <;> try (cases h; done)
  case buildSlice T len parts =>
    split at h
    · rename_i l hl
      split at h
      · rename_i hno
        have hno' : ∀ p ∈ l, p.2.ids = [] := fun p hp => by simpa using List.all_eq_true.1 hno p hp
        split at h
        · rename_i v' b' hr
          cases h
          have hs := litR_sound hm T len (parts := l) (vals := (parts.toList.map fun x => (x.1, a.eval x.2)).toArray) (by simpa using evParts_sound ht hl)
          rw [litR_no T len l hno', hr] at hs
          refine runs_eff (by simp only [execOp, hop]; rfl) ?_
          have e : (Array.map (fun x => match x with | (i, x) => (i, a.eval x)) parts) = (parts.toList.map fun x => (x.1, a.eval x.2)).toArray := by
            rw [← Array.toList_inj]
            simp
          rw [e]
          exact hs
        · cases h
      · cases h
    · cases h

/-- One step, in whatever order. -/
theorem DS_sound {H : Hint} {next : Act → World → Prop} {Q : Exit → Act → World → Prop} {v : V} {b' : List Blk} (h : Rel P N F μ st a w) (hs : DS P H id st o v b')
    (hn : ∀ F' μ' a' w', Rel P N F' μ' ⟨put st.tmps o.dst v, b'⟩ a' w' → next a' w') : o.wp P a w next Q := by
  cases hcal : callee P st o with
  | some q =>
    obtain ⟨g, es⟩ := q
    unfold DS at hs
    rw [hcal] at hs
    simp only at hs
    refine step_sound (H := H) (K := fun v1 b1 => v = v1 ∧ b' = b1) h ?_ (fun v1 b1 F' μ' a' w' hr hk => hn F' μ' a' w' (by rw [hk.1, hk.2]; exact hr))
    unfold step
    rw [hcal]
    exact hs
  | none =>
    have hr : Runs P o a w F μ st.blks v b' := by
      have gen : (opR P st o).is v b' → Runs P o a w F μ st.blks v b' := by
        intro hi
        have hg := opR_sound (P := P) (o := o) h.mem h.tmpsR
        cases hr : opR P st o with
        | fail => rw [hr] at hi; exact hi.elim
        | ok v1 b1 => rw [hr] at hi hg; rw [hi.1, hi.2]; exact hg
        | ob p v1 b1 => rw [hr] at hi hg; rw [hi.2.1, hi.2.2]; exact hg hi.1
      by_cases hal : cls P o.op = .al
      · obtain ⟨l, bb⟩ := st
        obtain ⟨p, X, c, hX, hb, hp, rfl, rfl⟩ := (al_iff hal).1 hs
        exact al_sound h.mem h.tmpsR hX hb hp
      · unfold DS at hs
        rw [hcal] at hs
        simp only [dopR] at hs
        split at hs
        · rename_i hk; exact absurd hk hal
        · unfold bsR at hs
          split at hs
          · rename_i v' hv'
            rw [hs.1, hs.2]
            exact bs_sound h.mem h.tmpsR hv'
          · exact hs.elim
        · split at hs
          · exact gen hs
          · exact hs.elim
        · exact gen hs
    obtain ⟨val, w', F', μ', hrun, u, hv⟩ := hr
    have hnext := hn F' μ' _ w' (Rel.put h u hv rfl)
    unfold Oper.wp
    rcases hrun with hrun | ⟨hrun, rfl⟩
    · rw [hrun]; exact hnext
    · rw [hrun]; exact hnext
end
end Go.SM
