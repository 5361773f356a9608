/- The S-machine, part s: calls, regions, code, functions. -/
import Derived.Test.YtnhebloiappfiaaGreatSMr
namespace Go.SM
set_option linter.unusedVariables false
set_option linter.unusedSimpArgs false

section
variable {P : Program} {N : Entry} {F : Nat → Prop} {μ : List (Option Nat)} {w : World} {st : St} {a : Act} {o : Oper}

theorem Rel.tmpsR (h : Rel P N F μ st a w) : TmpsR P w F μ st a := h.tmps
theorem Rel.mem (h : Rel P N F μ st a w) : MemR P F μ st.blks w := h.upd.mem
theorem Rel.mu (h : Rel P N F μ st a w) : μ.length = st.blks.length := h.upd.mem.len

/-- What holds behind: some state that meets K. -/
def Post (P : Program) (N : Entry) (K : St → Prop) (a : Act) (w : World) : Prop := ∃ F μ st, Rel P N F μ st a w ∧ K st

theorem evEs_sound {b : List Blk} (ht : TmpsR P w F μ st a) : ∀ {l : List Operand} {es : List E}, evEs st l = some es → All2 (ElR P w F μ st.blks) es (l.map a.eval) := by
  intro l
  induction l with
  | nil => intro es h; cases h; exact all2_nil
  | cons x l ih =>
    intro es h
    simp only [evEs] at h
    split at h
    · rename_i e es' he hes
      cases h
      exact all2_cons (evE_sound ht he) (ih hes)
    · cases h

theorem hasBody_spec {f : FuncId} (h : hasBody P f = true) : ∃ fn, P.funcs[f]? = some fn ∧ fn.body.isNone = false ∧ (fn.name == "runtime.NumGoroutine") = false := by
  unfold hasBody at h
  split at h
  · rename_i fn hf
    simp only [Bool.and_eq_true, Bool.not_eq_true'] at h
    refine ⟨fn, hf, ?_, h.2⟩
    cases hb : fn.body with
    | none => simp [hb] at h
    | some c => rfl
  · cases h

theorem run_callFunc {f : FuncId} {args : Array Value} (h : hasBody P f = true) : (callFunc f args).run P w = .ok (.enter f args) w := by
  obtain ⟨fn, hf, hb, hn⟩ := hasBody_spec h
  simp only [callFunc, Sem.run_bind, run_program, Result.andThen_ok, hf]
  rw [if_neg (by simpa using hn), if_neg (by simp [hb])]
  rfl

theorem fixC_sound {b : List Blk} (t : Ty) {c : Cell} {v : Value} (h : CellR P w F μ b c v) : CellR P w F μ b (fixC t c) v := by
  unfold fixC
  split
  · rename_i u
    obtain ⟨a, rfl⟩ := h
    exact ⟨a, 0, rfl, ⟨Nat.zero_le _, Nat.zero_le _⟩, fun h => absurd h (Nat.lt_irrefl 0)⟩
  · exact h
theorem fixCs_sound {b : List Blk} : ∀ (ts : List Ty) {cs : List Cell} {vs : List Value}, All2 (CellR P w F μ b) cs vs → All2 (CellR P w F μ b) (fixCs ts cs) vs
  | [], cs, vs, h => by cases cs <;> exact h
  | t :: ts, [], vs, h => h
  | t :: ts, c :: cs, vs, h => by
    obtain ⟨v, vs', rfl, h1, h2⟩ := all2_head h
    exact all2_cons (fixC_sound t h1) (fixCs_sound ts h2)
theorem fixE_sound {b : List Blk} (t : Option Ty) {e : E} {v : Value} (h : ElR P w F μ b e v) : ElR P w F μ b (fixE t e) v := by
  cases t with
  | none => cases e <;> exact h
  | some t =>
    cases e with
    | c c => exact fixC_sound t h
    | agg cs => obtain ⟨vs, rfl, h⟩ := h; exact ⟨vs, rfl, fixCs_sound _ h⟩
theorem fixEs_sound {b : List Blk} : ∀ (ts : List (Option Ty)) {es : List E} {vs : List Value}, All2 (ElR P w F μ b) es vs → All2 (ElR P w F μ b) (fixEs ts es) vs
  | [], es, vs, h => by cases es <;> exact h
  | t :: ts, [], vs, h => h
  | t :: ts, e :: es, vs, h => by
    obtain ⟨v, vs', rfl, h1, h2⟩ := all2_head h
    exact all2_cons (fixE_sound t h1) (fixEs_sound ts h2)
theorem callee_sound (ht : TmpsR P w F μ st a) {g : FuncId} {es : List E} (h : callee P st o = some (g, es)) :
    ∃ vals : Array Value, (execOp a.eval o).run P w = .ok (.enter g vals) w ∧ All2 (ElR P w F μ st.blks) es vals.toList := by
  unfold callee at h
  split at h
  · rename_i c hop
    split at h
    · rename_i f hc
      split at h
      · rename_i g' cap hf
        split at h
        · rename_i es' hes
          split at h
          · rename_i hb
            cases h
            obtain ⟨bs, hv, hcap⟩ := (evC_sound ht hf (by simp) : CellR P w F μ st.blks (.fn g cap) (a.eval f))
            refine ⟨c.args.map a.eval ++ (bs.map fun b => Value.pointer (some ⟨b, 0, none⟩)).toArray, ?_, ?_⟩
            · simp [execOp, hop, resolve, hc, hv, Deferred.ofValue, invoke, run_callFunc hb]
            · rw [Array.toList_append, Array.toList_map, List.toList_toArray]
              refine fixEs_sound _ ?_
              refine all2_app (evEs_sound (b := st.blks) ht hes) ⟨by have := congrArg List.length hcap; simpa using this, fun i x y hx hy => ?_⟩
              rw [List.getElem?_map] at hx hy
              cases hk : cap[i]? with
              | none => simp [hk] at hx
              | some k =>
                simp only [hk, Option.map_some, Option.some.injEq] at hx
                subst hx
                cases hg : bs[i]? with
                | none => simp [hg] at hy
                | some q =>
                  simp only [hg, Option.map_some, Option.some.injEq] at hy
                  subst hy
                  have := congrArg (·[i]?) hcap
                  simp only [List.getElem?_map, hk, hg, Option.map_some, Option.some.injEq] at this
                  exact ⟨q, this, rfl⟩
          · cases h
        · cases h
      · cases h
    · cases h
  · cases h

/-- A call of the abstract machine is a call of the model's. -/
theorem callS_sound {b : List Blk} (hm : MemR P F μ b w) {g : FuncId} {es : List E} {vals : Array Value} (ha : All2 (ElR P w F μ b) es vals.toList) {K : V → List Blk → Prop} {H : Hint} (h : callS P H g es b K) :
    Calls P g vals w fun e w' => ∃ v V' F' μ' b', e = .returned v ∧ K V' b' ∧ Upd P F μ b w F' μ' b' w' ∧ VR P w' F' μ' b' V' v := by
  unfold callS at h
  have hn : (reach b 1000 (es.flatMap E.ids) []).Nodup := reach_nodup b 1000 _ [] List.nodup_nil
  generalize ho : reach b 1000 (es.flatMap E.ids) [] = order at h hn
  have hin : ∀ k ∈ order, ∃ x, b[k]? = some x ∧ x ≠ .hole := by
    intro k hk
    rw [← ho] at hk
    exact reach_lt b 1000 _ [] (fun x hx => by simp at hx) k hk
  have hargs : All2 (ElR P w F (pickμ order μ) (pickB order b)) (es.map (rnE (idx order))) vals.toList :=
    all2_map (ha.mono fun x v hx => rnE_sound (pick_turned order) (fun _ h => h) (fun _ _ => rfl) (fun _ c _ h => ⟨c, h, rfl⟩) hx)
  obtain ⟨x, h, hK⟩ := h
  refine (h w F (pickμ order μ) vals (pick_mem hm hn) hargs).mono ?_
  rintro e w' ⟨v, V', F', μ', b', rfl, ⟨rfl, rfl⟩, u, hv⟩
  obtain ⟨u', T⟩ := back_upd hm hn hin u
  exact ⟨v, _, F', _, _, rfl, hK, u', rnV_sound T (fun _ h => h) (fun _ _ => rfl) (fun _ c _ h => ⟨c, h, rfl⟩) hv⟩

theorem run_equalIn_slice_nil (d : Nat) (T e : TypeId) (x : Option Addr) (m c : Nat) (hT : P.underlying T = some (.slice e)) : (Op.equalIn (d + 1) T (.slice x m c) (.slice none 0 0)).run P w = .ok x.isNone w := by
  cases x <;> simp [Op.equalIn, run_underlying hT]
theorem run_equal_slice_nil (T e : TypeId) (x : Option Addr) (m c : Nat) (hT : P.underlying T = some (.slice e)) : (Op.equal T (.slice x m c) (.slice none 0 0)).run P w = .ok x.isNone w := run_equalIn_slice_nil 9999 T e x m c hT
theorem nilTest_sound {e : Bool} (hm : MemR P F μ st.blks w) (ht : TmpsR P w F μ st a) (h : nilTest P st o = some e) : ∃ g : Bool, (g = true → e = true) ∧ Runs P o a w F μ st.blks (cst (.bool g)) st.blks := by
  unfold nilTest at h
  split at h
  · rename_i T x T' hop
    split at h
    · rename_i el t xs hT hx
      cases h
      obtain ⟨ad, c, hv, hb, hz⟩ : ER w F (.slice t) xs [a.eval x] := evC_sound ht hx (by simp)
      simp only [List.cons.injEq, and_true] at hv
      refine ⟨ad.isNone, fun hg => ?_, .bool ad.isNone, w, F, μ, .inl ?_, .refl hm, rfl⟩
      · cases xs with
        | nil => rfl
        | cons y ys =>
          obtain ⟨b, off, cs, T1, fr, rfl, _⟩ := hz (by simp)
          cases hg
      · have e1 : a.eval (.const (.slice none 0 0)) = .slice none 0 0 := rfl
        have e2 : (Op.equal T (.slice ad xs.length c) (.slice none 0 0)).run P w = .ok ad.isNone w := run_equal_slice_nil T el ad _ c hT
        simp [execOp, hop, hv, e1, eqGuard, binOp, e2]
    · cases h
  · cases h
/-- One operation, or one call. -/
theorem step_sound {H : Hint} {K : V → List Blk → Prop} {next : Act → World → Prop} {Q : Exit → Act → World → Prop} (h : Rel P N F μ st a w) (hs : step P H st o K)
    (hn : ∀ v b' F' μ' a' w', Rel P N F' μ' ⟨put st.tmps o.dst v, b'⟩ a' w' → K v b' → next a' w') : o.wp P a w next Q := by
  unfold step at hs
  split at hs
  · rename_i g es hc
    obtain ⟨vals, hr, ha⟩ := callee_sound h.tmpsR hc
    have key : ∀ {F1 : Nat → Prop} {b1 : List Blk} {es1 : List E}, Upd P F μ st.blks w F1 μ b1 w → All2 (ElR P w F1 μ b1) es1 vals.toList → callS P H g es1 b1 K → o.wp P a w next Q := by
      intro F1 b1 es1 u1 ha1 hcall
      unfold Oper.wp
      rw [hr]
      refine (callS_sound u1.mem ha1 hcall).mono ?_
      rintro e w' ⟨v, V', F', μ', b', rfl, hK, u, hv⟩
      exact hn V' b' F' μ' _ w' (Rel.put h (u1.trans u) hv rfl) hK
    split at hs
    · exact key (.refl h.mem) ha hs
    · obtain ⟨F1, u1, ha1⟩ := lowEs_sound h.mem ha
      exact key u1 ha1 hs
  · split at hs
    · rename_i e he
      obtain ⟨g, hge, val, w', F', μ', hrun, u, hv⟩ := nilTest_sound h.mem h.tmpsR he
      have hnext := hn _ _ F' μ' _ w' (Rel.put h u hv rfl) (hs g hge)
      unfold Oper.wp
      rcases hrun with hrun | ⟨hrun, rfl⟩
      · rw [hrun]; exact hnext
      · rw [hrun]; exact hnext
    have hg := opR_sound (o := o) h.mem h.tmpsR
    cases hr : opR P st o with
    | fail => rw [hr] at hs; exact hs.elim
    | ok v b' =>
      rw [hr] at hs hg
      obtain ⟨val, w', F', μ', hrun, u, hv⟩ := hg
      have hnext := hn v b' F' μ' _ w' (Rel.put h u hv rfl) hs
      unfold Oper.wp
      rcases hrun with hrun | ⟨hrun, rfl⟩
      · rw [hrun]; exact hnext
      · rw [hrun]; exact hnext
    | ob p v b' =>
      rw [hr] at hs hg
      obtain ⟨val, w', F', μ', hrun, u, hv⟩ := hg hs.1
      have hnext := hn v b' F' μ' _ w' (Rel.put h u hv rfl) hs.2
      unfold Oper.wp
      rcases hrun with hrun | ⟨hrun, rfl⟩
      · rw [hrun]; exact hnext
      · rw [hrun]; exact hnext

theorem none0_sound {b : List Blk} : VR P w F μ b none0 undef := ⟨#[], rfl, all2_nil⟩

/-- What stands in the slot on which a guard hangs. -/
theorem slot_val {ops : Array Oper} {j : Nat} {v : V} (h : Rel P N F μ st a w) (hy : ((ops.toList[j]?).bind (·.dst)).map st.get = some v) (hne : v ≠ .dead) :
    ∃ d val, (ops[j]?).bind (·.dst) = some d ∧ a.tmps[d]? = some val ∧ VR P w F μ st.blks v val := by
  cases hd : (ops.toList[j]?).bind (·.dst) with
  | none => rw [hd] at hy; simp at hy
  | some d =>
    rw [hd] at hy
    simp only [Option.map_some, Option.some.injEq] at hy
    have hd' : (ops[j]?).bind (·.dst) = some d := by simpa using hd
    have hget : st.tmps[d]? = some v := by
      unfold St.get at hy
      rw [List.getD_eq_getElem?_getD] at hy
      cases hq : st.tmps[d]? with
      | none => rw [hq] at hy; exact absurd hy.symm hne
      | some v' => rw [hq] at hy; simp at hy; rw [hy]
    have hv := h.tmps d _ hget
    have hlt : d < a.tmps.size := by rw [h.size]; exact (List.getElem?_eq_some_iff.1 hget).1
    refine ⟨d, a.tmps[d], hd', Array.getElem?_eq_getElem hlt, ?_⟩
    have : a.tmps.getD d undef = a.tmps[d] := by simp [Array.getD, hlt]
    rw [this] at hv
    exact hv
theorem yield_bool {ops : Array Oper} {j : Nat} {y : Bool} (h : Rel P N F μ st a w) (hy : ((ops.toList[j]?).bind (·.dst)).map st.get = some (.e (.c (.bool y)))) : yielded ops a.tmps j = some y := by
  obtain ⟨d, val, h1, h2, hv⟩ := slot_val h hy (by simp)
  have : val = .bool y := hv
  subst this
  simp only [yielded, h1, Option.bind_some, h2]
theorem yield_none {ops : Array Oper} {j : Nat} (h : Rel P N F μ st a w) (hy : ((ops.toList[j]?).bind (·.dst)).map st.get = some (.tup [])) : yielded ops a.tmps j = none := by
  obtain ⟨d, val, h1, h2, vs, rfl, hv⟩ := slot_val h hy (by simp)
  simp only [yielded, h1, Option.bind_some, h2]

/-- An operation under its guard. -/
theorem runOp_sound {H : Hint} {K : St → Prop} {next : Act → World → Prop} {ops : Array Oper} (hlen : ∀ d, o.dst = some d → True) (h : Rel P N F μ st a w) (hs : runOp P H ops.toList st o K) (hn : ∀ F' μ' st' a' w', Rel P N F' μ' st' a' w' → K st' → next a' w') {Q : Exit → Act → World → Prop} :
    if Region.wanted o (yielded ops a.tmps) then o.wp P a w next Q else next (a.put o.dst undef) w := by
  unfold runOp dguard at hs
  simp only [gs_eq] at hs
  have skip : K ⟨put st.tmps o.dst none0, st.blks⟩ → next (a.put o.dst undef) w := fun hk => hn F μ _ _ w (Rel.put (v := none0) h (.refl h.mem) none0_sound rfl) hk
  have go : step P H st o (fun v b => K ⟨put st.tmps o.dst v, b⟩) → o.wp P a w next Q := fun hk => step_sound h hk fun v b' F' μ' a' w' hr hk => hn F' μ' _ a' w' hr hk
  split at hs
  · rename_i hg
    rw [show Region.wanted o (yielded ops a.tmps) = true by simp [Region.wanted, hg]]
    simp only [if_true]
    exact go hs
  · rename_i j want hg
    split at hs
    · rename_i y hy
      have hw : Region.wanted o (yielded ops a.tmps) = (y == want) := by
        simp [Region.wanted, hg, yield_bool h hy]
      rw [hw]
      cases want <;> cases y <;> simp only [if_true, if_false, Bool.false_eq_true, br] at hs ⊢
      · exact go hs
      · exact skip hs
      · exact skip hs
      · exact go hs
    · rename_i hy
      have hw : Region.wanted o (yielded ops a.tmps) = false := by
        simp [Region.wanted, hg, yield_none h hy]
      rw [hw]
      simp only [Bool.false_eq_true, if_false]
      exact skip hs
    · exact hs.elim

theorem runOps_sound {H : Hint} {ops : Array Oper} {Q : Exit → Act → World → Prop} {K : St → Prop} (hq : ∀ F' μ' st' a' w', Rel P N F' μ' st' a' w' → K st' → Q .normal a' w') :
    ∀ (l : List Oper) (F : Nat → Prop) (μ : List (Option Nat)) (st : St) (a : Act) (w : World), Rel P N F μ st a w → runOps P H ops.toList l st K → wpList P ops Q l a w
  | [], F, μ, st, a, w, h, hs => hq F μ st a w h hs
  | o :: l, F, μ, st, a, w, h, hs => by
    have := runOp_sound (Q := Q) (fun _ _ => trivial) h hs (fun F' μ' st' a' w' hr hk => runOps_sound hq l F' μ' st' a' w' hr hk)
    simp only [wpList]
    split
    · rename_i hw
      rw [if_pos hw] at this
      exact .inl this
    · rename_i hw
      rw [if_neg hw] at this
      exact this
end
end Go.SM
