/- The S-machine, part t: code and functions. -/
import Derived.Test.YtnhebloiappfiaaGreatSMza
import Derived.Scope
namespace Go.SM
set_option linter.unusedVariables false
set_option linter.unusedSimpArgs false

section
variable {P : Program} {N : Entry} {F : Nat → Prop} {μ : List (Option Nat)} {w : World} {st : St} {a : Act}

theorem only_get (live : List Nat) : ∀ (l : List V) (n i : Nat) (v : V), (only live n l)[i]? = some v → v = .dead ∨ l[i]? = some v
  | [], _, _, _, h => by simp [only] at h
  | x :: l, n, i, v, h => by
    cases i with
    | zero =>
      simp only [only, List.getElem?_cons_zero, Option.some.injEq] at h
      split at h
      · exact .inr (by simp [h])
      · exact .inl h.symm
    | succ i =>
      simp only [only, List.getElem?_cons_succ] at h ⊢
      exact only_get live l (n + 1) i v h
theorem only_length (live : List Nat) : ∀ (l : List V) (n : Nat), (only live n l).length = l.length
  | [], _ => rfl
  | x :: l, n => by simp [only, only_length live l]
theorem Rel.only (h : Rel P N F μ st a w) (live : List Nat) : Rel P N F μ ⟨only live 0 st.tmps, st.blks⟩ a w :=
  h.weaken (only_length ..) fun i v hi => by
    rcases only_get live _ _ i v hi with rfl | hv
    · trivial
    · exact h.tmps i v hv

theorem Rel.openSlots : ∀ (ds : List (Nat × TypeId × Ty)) {μ : List (Option Nat)} {st : St}, Rel P N F μ st a w → ∃ μ', Rel P N F μ' (openSlots st ds) a w
  | [], μ, st, h => ⟨μ, h⟩
  | (d, T, t) :: ds, μ, st, h => by
    unfold SM.openSlots
    split
    · rename_i hv
      split
      · rename_i ht
        have ht' : 0 < t.size := by simpa using ht
        have u := Upd.nilrow h.mem T t ht'
        refine Rel.openSlots ds (μ := μ ++ [none]) (st := ⟨st.tmps.set d (cst (.ref st.blks.length)), st.blks ++ [.row T t [] false]⟩) ?_
        refine (h.step u).weaken (by simp) fun i v hi => ?_
        rw [List.getElem?_set] at hi
        by_cases hd : d = i
        · subst hd
          simp only [if_true] at hi
          split at hi
          · rename_i hlt
            cases hi
            have hn := h.tmps d (st.get d) (by unfold St.get; rw [List.getD_eq_getElem?_getD, List.getElem?_eq_getElem hlt]; rfl)
            rw [hv] at hn
            obtain ⟨y, hy⟩ := (hn : CellR P w F μ st.blks .nils _)
            rw [hy]
            show CellR P w F (μ ++ [none]) (st.blks ++ [.row T t [] false]) (.ref st.blks.length) (.slice y 0 0)
            refine ⟨rfl, ?_⟩
            simp only [List.getElem?_append_right (Nat.le_refl _), Nat.sub_self, List.getElem?_cons_zero]
            refine .inl ⟨?_, y, rfl⟩
            rw [← h.mu]
            simp
          · cases hi
        · rw [if_neg hd] at hi
          exact VR.mono u.grow (h.tmps i v hi)
      · exact Rel.openSlots ds h
    · exact Rel.openSlots ds h

theorem setRow_same {m : Nat} {c : Array Value} {T : TypeId} (h : w.heap[m]? = some (.cells c T (0, 0))) : w.setRow m c = w := by
  obtain ⟨hlt, he⟩ := Array.getElem?_eq_some_iff.1 h
  have : (w.setRow m c).heap = w.heap := by
    apply Array.ext_getElem?
    intro i
    by_cases hi : i = m
    · subst hi; rw [setRow_heap w i c c T (0, 0) h, h]
    · exact setRow_other w m i c hi
  unfold World.setRow at this ⊢
  cases w
  simp only at this ⊢
  rw [this]

theorem Rel.openCells : ∀ (ds : List (Nat × Nat × TypeId × Ty)) {μ : List (Option Nat)} {st : St}, Rel P N F μ st a w → ∃ μ', Rel P N F μ' (openCells st ds) a w
  | [], μ, st, h => ⟨μ, h⟩
  | (d, o, T, t) :: ds, μ, st, h => by
    unfold SM.openCells
    split
    · rename_i k hv
      split
      · rename_i T' cs hk
        split
        · rename_i ho
          split
          · rename_i ht
            have ht' : 0 < t.size := by simpa using ht
            have u := Upd.nilrow h.mem T t ht'
            have hk' : (st.blks ++ [.row T t [] false])[k]? = some (.cells T' cs) := by rw [List.getElem?_append_left (List.getElem?_eq_some_iff.1 hk).1]; exact hk
            obtain ⟨m, c, hm, hc, hl, hcs⟩ := u.mem.blk k _ hk'
            have hm' := mu_of_getD hm
            have u2 := Upd.write u.mem (x' := .cells T' (cs.set o (.ref st.blks.length))) hk' rfl rfl hm' hc rfl (Sim.cells (by simp)) (fun g => by
              refine ⟨m, c, rfl, ?_, by simpa using hl, ?_⟩
              · rw [setRow_same hc]; exact hc
              · rw [setRow_same hc] at g ⊢
                refine ⟨by simpa using hcs.1, fun i x y hx hy => ?_⟩
                rw [List.length_set] at hy
                rw [List.getElem?_set] at hx
                by_cases hi : o = i
                · subst hi
                  simp only [if_true] at hx
                  split at hx
                  · cases hx
                    obtain ⟨z, hz⟩ := (hcs.2 o _ y ho hy : CellR P w F _ _ .nils y)
                    subst hz
                    have hne : k ≠ st.blks.length := fun e => by have := (List.getElem?_eq_some_iff.1 hk).1; omega
                    refine ⟨rfl, ?_⟩
                    rw [List.getElem?_set_ne hne]
                    simp only [List.getElem?_append_right (Nat.le_refl _), Nat.sub_self, List.getElem?_cons_zero]
                    refine .inl ⟨?_, z, rfl⟩
                    rw [← h.mu]
                    simp
                  · cases hx
                · rw [if_neg hi] at hx
                  exact CellR.mono g (hcs.2 i x y hx hy))
            rw [setRow_same hc] at u2
            exact Rel.openCells ds ((h.step u).step u2)
          · exact Rel.openCells ds h
        · exact Rel.openCells ds h
      · exact Rel.openCells ds h
    · exact Rel.openCells ds h

theorem Rel.pack (h : Rel P N F μ st a w) : ∃ μ', Rel P N F μ' (pack N.b.length st) a w := by
  refine ⟨_, ⟨by simpa [SM.pack] using h.size, fun i v hi => ?_, h.defers, h.ok, pick_upd h.ok h.upd⟩⟩
  simp only [SM.pack, List.getElem?_map, Option.map_eq_some_iff] at hi
  obtain ⟨v', hv', rfl⟩ := hi
  exact rnV_sound (pick_turned _) (fun _ h => h) (fun _ _ => rfl) (fun _ c _ h => ⟨c, h, rfl⟩) (h.tmps i v' hv')

theorem castE_sound {b : List Blk} {t : Ty} {e : E} {x : t.den} {v : Value} (h : castE t e = some x) (hv : ElR P w F μ b e v) : ElR P w F μ b (t.e x) v := by
  have one : ∀ {t : Ty} {x : t.den} {c : Cell} {v : Value}, proj1 t [c] = some x → ElR P w F μ b (.c c) v → ∃ d, inj t x = [d] ∧ CellR P w F μ b d v := by
    intro t x c v hp hc
    have hr := proj1_sound hp (vs := [v]) (all2_cons hc all2_nil)
    obtain ⟨hl, ha⟩ := inj_sound (P := P) (μ := μ) (b := b) _ _ _ hr
    match hi : inj t x, hl, ha with
    | [d], _, ha => exact ⟨d, rfl, ha 0 d v rfl rfl⟩
    | [], hl, _ => simp at hl
    | _ :: _ :: _, hl, _ => simp at hl
  have many : ∀ {t : Ty} {x : t.den} {cs : List Cell} {v : Value}, proj1 t cs = some x → ElR P w F μ b (.agg cs) v → ElR P w F μ b (.agg (inj t x)) v := by
    intro t x cs v hp hc
    obtain ⟨vs, rfl, hcs⟩ := hc
    exact ⟨vs, rfl, inj_sound _ _ _ (proj1_sound hp hcs)⟩
  cases e with
  | agg cs => cases t <;> simp only [castE] at h <;> first | (cases h; done) | exact many h hv
  | c c =>
    cases t <;> simp only [castE] at h <;> first
      | (cases h; done)
      | (obtain ⟨d, hd, hc⟩ := one h hv; simp only [Ty.e]; rw [hd]; exact hc)
theorem Rel.typeSlot (h : Rel P N F μ st a w) (d : Nat) (t : Ty) : ∃ F', Rel P N F' μ (typeSlot st d t) a w := by
  unfold SM.typeSlot
  split
  · rename_i e he
    split
    · rename_i x hx
      obtain ⟨F', h1⟩ := h.lowSlot d
      rw [he] at h1
      refine ⟨F', ?_⟩
      have e1 : st.tmps.set d (.e (t.e x)) = (st.tmps.set d (.e e)).set d (.e (t.e x)) := by simp [List.set_set]
      rw [e1]
      refine h1.weaken (by simp) fun i v hi => ?_
      rw [List.getElem?_set] at hi
      by_cases hd : d = i
      · subst hd
        simp only [if_true] at hi
        split at hi
        · rename_i hlt
          cases hi
          have hlt' : d < st.tmps.length := by simpa using hlt
          exact castE_sound hx (h1.tmps d (.e e) (by simp [hlt']))
        · cases hi
      · rw [if_neg hd] at hi
        exact h1.tmps i v hi
    · exact ⟨F, h⟩
  · exact ⟨F, h⟩
theorem Rel.typeSlots : ∀ (ds : List (Nat × Ty)) {F : Nat → Prop} {st : St}, Rel P N F μ st a w → ∃ F', Rel P N F' μ (typeSlots st ds) a w
  | [], F, st, h => ⟨F, h⟩
  | (d, t) :: ds, F, st, h => by
    obtain ⟨F1, h1⟩ := h.typeSlot d t
    exact Rel.typeSlots ds h1

theorem Rel.head (h : Rel P N F μ st a w) (H : Hint) (id : Nat) : ∃ F' μ', Rel P N F' μ' (head H N.b.length id st) a w := by
  obtain ⟨F1, h1⟩ := Rel.lowSlots (H.low id) (h.only (H.live id))
  obtain ⟨F2, h1⟩ := Rel.typeSlots (H.tys id) h1
  obtain ⟨μ1, h1'⟩ := Rel.openSlots (H.opens id) h1
  obtain ⟨μ2, h1''⟩ := Rel.openCells (H.openc id) h1'
  obtain ⟨μ', h2⟩ := h1''.pack
  exact ⟨F2, μ', h2⟩

theorem Rel.leave (h : Rel P N F μ st a w) (H : Hint) (id : Nat) (e : Exit) : ∃ F' μ', Rel P N F' μ' (leave H N.b.length id e st) a w := by
  unfold SM.leave
  split
  · rename_i o _
    obtain ⟨F1, h1⟩ := Rel.typeSlots o.more (h.only o.live)
    exact ⟨F1, h1.pack⟩
  · exact ⟨F, μ, h⟩

theorem goal_of {Q : Exit → St → Prop} {e : Exit} (h : ∃ F μ st, Rel P N F μ st a w ∧ Q e st) (h1 : ∀ c, e ≠ .panic c) (h2 : e ≠ .outgrown) : Goal P N Q e a w := by
  cases e <;> first | exact h | (exact absurd rfl (h1 _)) | (exact absurd rfl h2)

theorem setB_eq {c : Operand} {y : Bool} (h : evC st c = .bool y) : setB st c y = st := by
  unfold setB
  cases c <;> try rfl
  rename_i t
  simp only
  have hget : st.tmps[t]? = some (.e (.c (.bool y))) := by
    unfold evC ev St.get at h
    simp only [List.getD_eq_getElem?_getD] at h
    cases hq : st.tmps[t]? with
    | none => rw [hq] at h; simp at h
    | some v =>
      rw [hq] at h
      simp only [Option.getD_some] at h
      split at h
      · rw [h]
      · cases h
  obtain ⟨hlt, he⟩ := List.getElem?_eq_some_iff.1 hget
  have : st.tmps.set t (.e (.c (.bool y))) = st.tmps := by rw [← he]; exact List.set_getElem_self hlt
  rw [this]

theorem exec_sound {H : Hint} : ∀ (c : Code) {Q : Exit → St → Prop} {F : Nat → Prop} {μ : List (Option Nat)} {st : St} {a : Act} {w : World}, Rel P N F μ st a w → exec P H N.b.length c st Q → c.wp P (Goal P N Q) a w
  | .skip, Q, F, μ, st, a, w, h, hs => wp_skip ⟨F, μ, st, h, hs⟩
  | .label l, Q, F, μ, st, a, w, h, hs => wp_label ⟨F, μ, st, h, hs⟩
  | .exit id, Q, F, μ, st, a, w, h, hs => wp_exit ⟨F, μ, st, h, hs⟩
  | .goto l, Q, F, μ, st, a, w, h, hs => wp_goto ⟨F, μ, st, h, hs⟩
  | .ret, Q, F, μ, st, a, w, h, hs => wp_ret ⟨F, μ, st, h, hs⟩
  | .scope b, Q, F, μ, st, a, w, h, hs => by
    refine wp_scope_straight (wp_mono (exec_sound b h hs) fun e a' w' hq => ?_)
    cases e with
    | goto l => obtain ⟨F', μ', st', h', hk⟩ := hq; exact hk.elim
    | exit id => exact hq
    | normal => exact hq
    | panic c => exact hq
    | outgrown => exact hq
    | ret => exact hq
  | .rangeFunc .., Q, F, μ, st, a, w, h, hs => hs.elim
  | .refuse _, Q, F, μ, st, a, w, h, hs => hs.elim
  | .seq x y, Q, F, μ, st, a, w, h, hs => by
    refine wp_seq (wp_mono (exec_sound x h hs) fun e a' w' hq => ?_)
    cases e with
    | normal => obtain ⟨F', μ', st', h', hk⟩ := hq; exact exec_sound y h' hk
    | panic c => exact hq
    | outgrown => exact hq
    | exit id => exact hq
    | goto l => exact hq
    | ret => exact hq
  | .cond c x y, Q, F, μ, st, a, w, h, hs => by
    unfold exec at hs
    split at hs
    · rename_i t ht
      have hv : a.eval c = .bool t := evC_sound h.tmpsR ht (by simp)
      refine wp_cond hv ?_
      cases t with
      | true => exact exec_sound x h (by rw [← setB_eq ht]; exact hs)
      | false => exact exec_sound y h (by rw [← setB_eq ht]; exact hs)
    · exact hs.elim
  | .block id b, Q, F, μ, st, a, w, h, hs => by
    refine wp_block (wp_mono (exec_sound b h hs) fun e a' w' hq => ?_)
    cases e with
    | exit id' =>
      obtain ⟨F', μ', st', h', hk⟩ := hq
      simp only [Exit.inBlock]
      dsimp only at hk
      by_cases hid : id' = id
      · rw [if_pos hid]
        rw [if_pos (by simpa using hid)] at hk
        exact ⟨F', μ', st', h', hk⟩
      · rw [if_neg hid]
        rw [if_neg (by simpa using hid)] at hk
        exact ⟨F', μ', st', h', hk⟩
    | normal => exact hq
    | panic c => exact hq
    | outgrown => exact hq
    | goto l => exact hq
    | ret => exact hq
  | .loop b, Q, F, μ, st, a, w, h, hs => by
    obtain ⟨F', μ', h'⟩ := h.head H (firstRegion b)
    have key : ∀ {e : Exit} {s : St}, LpK P H N.b.length (firstRegion b) b (head H N.b.length (firstRegion b) st) (fun e' s' => e' = e ∧ s' = s) → Q e s → (Code.loop b).wp P (Goal P N Q) a w := by
      intro e s hl hq fr k cs
      obtain ⟨e', a', w', hg, harr⟩ := hl N F' μ' a w rfl h' fr k cs
      refine ⟨e', a', w', ?_, .of_steps (.one step_loop) harr⟩
      cases e' with
      | panic c => exact hg
      | outgrown => exact hg
      | _ =>
        obtain ⟨F2, μ2, st2, hr2, he, hs2⟩ := hg
        obtain ⟨F3, μ3, hr3⟩ := hr2.leave H (firstRegion b) e
        subst he
        rw [hs2] at hr3
        exact ⟨F3, μ3, s, hr3, hq⟩
    have out : ∀ {e : Exit} {g : G St}, outOf P H N.b.length (firstRegion b) b (head H N.b.length (firstRegion b) st) e Q g → (Code.loop b).wp P (Goal P N Q) a w := by
      intro e g ho
      cases g with
      | one s => exact key ho.1 ho.2
      | all T f => obtain ⟨y, h1, h2⟩ := ho; exact key h1 h2
    unfold exec at hs
    generalize H.outs (firstRegion b) = outs at hs
    induction outs with
    | nil => exact hs.elim
    | cons o r ih =>
      cases r with
      | nil => exact out hs
      | cons o' r => exact hs.elim out ih
  | .region id ops draw, Q, F, μ, st, a, w, h, hs => by
    unfold exec at hs
    cases draw with
    | true =>
      simp only [if_true] at hs
      exact draw_sound h hs (fun F' μ' st' a' w' hr hk => ⟨F', μ', st', hr, hk⟩)
    | false =>
      simp only [Bool.false_eq_true, if_false] at hs
      refine wp_region ?_
      rw [List.range_eq_range', show ops.size = ops.toList.length by simp, wpOps_eq_wpList ops.toList 0 (fun j => by simp)]
      exact runOps_sound (fun F' μ' st' a' w' hr hk => ⟨F', μ', st', hr, hk⟩) ops.toList F μ st a w h hs

/-- A loop, one round ahead. -/
theorem Lp.unroll {H : Hint} {m : Nat} {c : Code} {st : St} {Q : Exit → St → Prop} (h : exec P H m c st fun e st' => match e with | .normal => Lp P m c (head H m (firstRegion c) st') Q | e => Q e st') : Lp P m c st Q := by
  intro N F μ a w hm hr b k cs
  subst hm
  obtain ⟨e, a₁, w₁, hq, harr⟩ := exec_sound c hr h b (.inLoop c :: k) cs
  cases e with
  | normal =>
    obtain ⟨F', μ', st', h', hk⟩ := hq
    obtain ⟨F2, μ2, h2⟩ := h'.head H (firstRegion c)
    obtain ⟨e₂, a₂, w₂, hq₂, harr₂⟩ := hk N F2 μ2 a₁ w₁ rfl h2 b k cs
    exact ⟨e₂, a₂, w₂, hq₂, .of_steps (Steps.trans harr (.one step_inLoop)) harr₂⟩
  | exit id => exact ⟨.exit id, a₁, w₁, hq, .pass (x := .inLoop c) rfl (fun _ _ => .inl (by simp)) harr⟩
  | goto l => exact ⟨.goto l, a₁, w₁, hq, .pass (x := .inLoop c) rfl (fun _ _ => .inl (by simp)) harr⟩
  | ret => exact ⟨.ret, a₁, w₁, hq, .pass (x := .inLoop c) rfl (fun _ _ => .inl (by simp)) harr⟩
  | panic ch => exact hq.elim
  | outgrown => exact hq.elim

theorem LpK.unroll {H : Hint} {m : Nat} {c : Code} {st : St} {K : Exit → St → Prop} {id : Nat} (hid : firstRegion c = id) (h : exec P H m c st (roundK P H m id c K)) : LpK P H m id c st K := by
  subst hid
  refine Lp.unroll (H := H) ?_
  have : (fun (e : Exit) (st' : St) => match e with | .normal => Lp P m c (head H m (firstRegion c) st') (fun e s => K e (leave H m (firstRegion c) e s)) | e => K e (leave H m (firstRegion c) e st')) =
      fun e st' => match e with | .normal => LpK P H m (firstRegion c) c (head H m (firstRegion c) st') K | e => K e (leave H m (firstRegion c) e st') := by
    funext e st'
    cases e <;> rfl
  have h : exec P H m c st fun e st' => match e with | .normal => LpK P H m (firstRegion c) c (head H m (firstRegion c) st') K | e => K e (leave H m (firstRegion c) e st') := h
  have h' : exec P H m c st (fun (e : Exit) (st' : St) => match e with | .normal => Lp P m c (head H m (firstRegion c) st') (fun e s => K e (leave H m (firstRegion c) e s)) | e => K e (leave H m (firstRegion c) e st')) := by rw [this]; exact h
  have e2 : (fun (e : Exit) (st' : St) => match e with | .normal => Lp P m c (head H m (firstRegion c) st') (fun e s => K e (leave H m (firstRegion c) e s)) | e => K e (leave H m (firstRegion c) e st')) =
      fun e st' => match e with | .normal => Lp P m c (head H m (firstRegion c) st') (fun e s => K e (leave H m (firstRegion c) e s)) | e => (fun e s => K e (leave H m (firstRegion c) e s)) e st' := by
    funext e st'
    cases e <;> rfl
  rw [e2] at h'
  exact h'

theorem Lp.mono {m : Nat} {c : Code} {st : St} {Q Q' : Exit → St → Prop} (h : Lp P m c st Q) (hq : ∀ e st, Q e st → Q' e st) : Lp P m c st Q' := by
  intro N F μ a w hm hr b k cs
  obtain ⟨e, a', w', hg, harr⟩ := h N F μ a w hm hr b k cs
  refine ⟨e, a', w', ?_, harr⟩
  cases e with
  | panic c => exact hg
  | outgrown => exact hg
  | _ => obtain ⟨F', μ', st', h', hk⟩ := hg; exact ⟨F', μ', st', h', hq _ _ hk⟩

theorem LpK.mono {H : Hint} {m id : Nat} {c : Code} {st : St} {K K' : Exit → St → Prop} (h : LpK P H m id c st K) (hq : ∀ e st, K e st → K' e st) : LpK P H m id c st K' := Lp.mono h fun e s => hq e _

/-! ### Functions -/
theorem resEs_sound (h : Rel P N F μ st a w) : ∀ {l : List ResultVar} {es : List E}, resEs P st l = some es →
    ∃ vs : List Value, (l.mapM (m := Sem) fun r => match r with | .tmp t => pure (a.tmps.getD t undef) | .cell p t => do loadVar t (← asAddr (a.tmps.getD p undef))).run P w = .ok vs w ∧ All2 (ElR P w F μ st.blks) es vs := by
  intro l
  induction l with
  | nil => intro es he; cases he; exact ⟨[], by simp, all2_nil⟩
  | cons r l ih =>
    intro es he
    simp only [resEs] at he
    split at he
    · rename_i e es' hr hrs
      cases he
      obtain ⟨vs, hv, ha⟩ := ih hrs
      have one : ∃ v, (match r with | .tmp t => (pure (a.tmps.getD t undef) : Sem Value) | .cell p t => do loadVar t (← asAddr (a.tmps.getD p undef))).run P w = .ok v w ∧ ElR P w F μ st.blks e v := by
        cases r with
        | tmp t =>
          simp only [resE] at hr
          split at hr
          · rename_i x hx
            cases hr
            have := ev_sound h.tmpsR (.tmp t)
            simp only [ev, hx] at this
            exact ⟨_, rfl, this⟩
          · cases hr
        | cell p T =>
          simp only [resE] at hr
          split at hr
          · rename_i c hc
            split at hr
            · rename_i e' b' hl
              cases hr
              have hc' : evC st (.tmp p) = c := by simp only [evC, ev, hc]
              by_cases hd : c = .dead
              · subst hd; cases hl
              · have hs := loadR_sound h.mem T (evC_sound h.tmpsR hc' hd)
                rw [hl] at hs
                obtain ⟨_, val, hrun, hv'⟩ := hs
                refine ⟨val, ?_, hv'⟩
                -- the address is no nil
                have hev : a.eval (.tmp p) = a.tmps.getD p undef := rfl
                rw [hev] at hrun
                cases hA : a.tmps.getD p undef with
                | pointer q =>
                  cases q with
                  | some ad =>
                    rw [hA] at hrun
                    simp only [hA, asAddr, Sem.run_bind, Sem.run_pure, Result.andThen_ok]
                    simpa [Instr.loadAt, Instr.sureAddr] using hrun
                  | none => rw [hA] at hrun; simp [Instr.loadAt, Instr.sureAddr] at hrun
                | _ => rw [hA] at hrun; simp [Instr.loadAt, Instr.sureAddr] at hrun
            · cases hr
          · cases hr
      obtain ⟨v, hv1, hv2⟩ := one
      refine ⟨v :: vs, ?_, all2_cons hv2 ha⟩
      rw [List.mapM_cons]
      simp only [Sem.run_bind, hv1, Result.andThen_ok, hv, Sem.run_pure]
    · cases he

theorem inj_rn (ρ : Nat → Option Nat) : ∀ (t : Ty) (x : t.den), (inj t x).map (rnC ρ) = inj t x
  | .i64, _ => rfl
  | .u64, _ => rfl
  | .u8, _ => rfl
  | .bool, _ => rfl
  | .str, _ => rfl
  | .unit, _ => rfl
  | .slice t, _ => rfl
  | .pair a b, x => by simp [inj, inj_rn ρ a, inj_rn ρ b]
theorem Ty.e_rn (ρ : Nat → Option Nat) (t : Ty) (x : t.den) : rnE ρ (t.e x) = t.e x := by
  cases t <;> simp only [Ty.e, rnE] <;> first | rfl | (rw [inj_rn])
theorem Tys.es_rn (ρ : Nat → Option Nat) : ∀ (ts : List Ty) (x : Tys.den ts), (Tys.es ts x).map (rnE ρ) = Tys.es ts x
  | [], _ => rfl
  | [t], x => by simp [Tys.es, Ty.e_rn]
  | t :: u :: r, x => by simp [Tys.es, Ty.e_rn, Tys.es_rn ρ (u :: r)]

def wrapVal : List Value → Value
  | [v] => v
  | l => .tuple l.toArray
theorem wrap_sound {b : List Blk} {es : List E} {vs : List Value} (h : All2 (ElR P w F μ b) es vs) : VR P w F μ b (wrap es) (wrapVal vs) := by
  match es, vs, h with
  | [], [], h => exact ⟨#[], rfl, h⟩
  | [e], [v], h =>
    obtain ⟨y, ys, hy, hv, _⟩ := all2_head h
    cases hy
    exact hv
  | e :: e' :: es, v :: v' :: vs, h => exact ⟨_, rfl, by simpa using h⟩
  | [], _ :: _, h => have := h.1; simp at this
  | [_], [], h => have := h.1; simp at this
  | [_], _ :: _ :: _, h => have := h.1; simp at this
  | _ :: _ :: _, [], h => have := h.1; simp at this
  | _ :: _ :: _, [_], h => have := h.1; simp at this

theorem results_run {fn : Func} {vs : List Value} (hr : (fn.results.toList.mapM (m := Sem) fun r => match r with | .tmp t => pure (a.tmps.getD t undef) | .cell p t => do loadVar t (← asAddr (a.tmps.getD p undef))).run P w = .ok vs w) :
    (results fn a.tmps).run P w = .ok (wrapVal vs) w := by
  have hm : (results fn a.tmps).run P w = .ok (if h : vs.toArray.size = 1 then vs.toArray[0] else .tuple vs.toArray) w := by
    unfold results
    rw [Array.mapM_eq_mapM_toList]
    have : ((List.toArray <$> fn.results.toList.mapM (m := Sem) fun r => match r with | .tmp t => pure (a.tmps.getD t undef) | .cell p t => do loadVar t (← asAddr (a.tmps.getD p undef)))).run P w = .ok vs.toArray w := by
      rw [Sem.run_map, hr]
      rfl
    rw [Sem.run_bind]
    erw [this]
    rfl
  rw [hm]
  match vs with
  | [] => rfl
  | [v] => rfl
  | v :: v' :: vs => rw [dif_neg (by simp)]; rfl

theorem castEs_sound {b : List Blk} : ∀ {ts : List Ty} {es : List E} {x : Tys.den ts} {vs : List Value}, castEs ts es = some x → All2 (ElR P w F μ b) es vs → All2 (ElR P w F μ b) (Tys.es ts x) vs
  | [], [], _, _, _, hv => hv
  | [t], [e], x, vs, h, hv => by
    obtain ⟨y, ys, rfl, h1, h2⟩ := all2_head hv
    exact all2_cons (castE_sound h h1) h2
  | t :: u :: r, e :: es, x, vs, h, hv => by
    simp only [castEs] at h
    split at h
    · rename_i y z hy hz
      cases h
      obtain ⟨y', ys, rfl, h1, h2⟩ := all2_head hv
      exact all2_cons (castE_sound hy h1) (castEs_sound hz h2)
    · cases h
  | [], _ :: _, _, _, h, _ => by cases h
  | [_], [], _, _, h, _ => by cases h
  | [_], _ :: _ :: _, _, _, h, _ => by cases h
  | _ :: _ :: _, [], _, _, h, _ => by cases h

theorem outR_sound : ∀ {ts : List RT} {es es' : List E} {vs : List Value} {F : Nat → Prop} {μ : List (Option Nat)} {b b' : List Blk}, MemR P F μ b w → All2 (ElR P w F μ b) es vs → outR b ts es = some (es', b') →
    ∃ F' μ', Upd P F μ b w F' μ' b' w ∧ All2 (ElR P w F' μ' b') es' vs
  | [], [], es', vs, F, μ, b, b', hm, hv, h => by cases h; exact ⟨F, μ, .refl hm, hv⟩
  | .d t :: ts, e :: es, es', vs, F, μ, b, b', hm, hv, h => by
    simp only [outR] at h
    split at h
    · rename_i x hx
      split at h
      · rename_i q hq
        cases h
        obtain ⟨v, vs', rfl, h1, h2⟩ := all2_head hv
        obtain ⟨F1, u1, h3⟩ := lowE_sound hm h1
        obtain ⟨F2, μ2, u2, h4⟩ := outR_sound u1.mem (h2.mono fun _ _ => ElR.mono u1.grow) (es' := q.1) (b' := q.2) hq
        exact ⟨F2, μ2, u1.trans u2, all2_cons (ElR.mono u2.grow (castE_sound hx h3)) h4⟩
      · cases h
    · cases h
  | .r T t :: ts, .c .nils :: es, es', vs, F, μ, b, b', hm, hv, h => by
    simp only [outR] at h
    split at h
    · rename_i ht
      have ht' : 0 < t.size := by simpa using ht
      split at h
      · rename_i q hq
        cases h
        obtain ⟨v, vs', rfl, h1, h2⟩ := all2_head hv
        have u1 := Upd.nilrow hm T t ht'
        obtain ⟨F2, μ2, u2, h4⟩ := outR_sound u1.mem (h2.mono fun _ _ => ElR.mono u1.grow) (es' := q.1) (b' := q.2) hq
        refine ⟨F2, μ2, u1.trans u2, all2_cons (ElR.mono u2.grow ?_) h4⟩
        obtain ⟨y, rfl⟩ := (h1 : CellR P w F μ b .nils v)
        show CellR P w F (μ ++ [none]) (b ++ [.row T t [] false]) (.ref b.length) (.slice y 0 0)
        refine ⟨rfl, ?_⟩
        simp only [List.getElem?_append_right (Nat.le_refl _), Nat.sub_self, List.getElem?_cons_zero]
        refine .inl ⟨?_, y, rfl⟩
        rw [← hm.len]
        simp
      · cases h
    · cases h
  | .r T t :: ts, .c (.ref k) :: es, es', vs, F, μ, b, b', hm, hv, h => by
    simp only [outR] at h
    split at h
    · split at h
      · split at h
        · rename_i q hq
          cases h
          obtain ⟨v, vs', rfl, h1, h2⟩ := all2_head hv
          obtain ⟨F2, μ2, u2, h4⟩ := outR_sound hm h2 (es' := q.1) (b' := q.2) hq
          exact ⟨F2, μ2, u2, all2_cons (ElR.mono u2.grow h1) h4⟩
        · cases h
      · cases h
    · cases h
  | .r T t :: ts, .agg _ :: es, es', vs, F, μ, b, b', hm, hv, h => by cases h
  | .r T t :: ts, .c .dead :: es, es', vs, F, μ, b, b', hm, hv, h => by cases h
  | .r T t :: ts, .c (.i64 _) :: es, es', vs, F, μ, b, b', hm, hv, h => by cases h
  | .r T t :: ts, .c (.u64 _) :: es, es', vs, F, μ, b, b', hm, hv, h => by cases h
  | .r T t :: ts, .c (.u8 _) :: es, es', vs, F, μ, b, b', hm, hv, h => by cases h
  | .r T t :: ts, .c (.bool _) :: es, es', vs, F, μ, b, b', hm, hv, h => by cases h
  | .r T t :: ts, .c (.str _) :: es, es', vs, F, μ, b, b', hm, hv, h => by cases h
  | .r T t :: ts, .c (.sl _ _) :: es, es', vs, F, μ, b, b', hm, hv, h => by cases h
  | .r T t :: ts, .c (.ptr _ _) :: es, es', vs, F, μ, b, b', hm, hv, h => by cases h
  | .r T t :: ts, .c (.eptr _ _ _) :: es, es', vs, F, μ, b, b', hm, hv, h => by cases h
  | .r T t :: ts, .c (.win _ _ _) :: es, es', vs, F, μ, b, b', hm, hv, h => by cases h
  | .r T t :: ts, .c (.cptr _ _ _) :: es, es', vs, F, μ, b, b', hm, hv, h => by cases h
  | .r T t :: ts, .c .nilp :: es, es', vs, F, μ, b, b', hm, hv, h => by cases h
  | .r T t :: ts, .c (.fn _ _) :: es, es', vs, F, μ, b, b', hm, hv, h => by cases h
  | .r T t :: ts, .c .nilfn :: es, es', vs, F, μ, b, b', hm, hv, h => by cases h
  | [], _ :: _, _, _, _, _, _, _, _, _, h => by cases h
  | .d _ :: _, [], _, _, _, _, _, _, _, _, h => by cases h
  | .r _ _ :: _, [], _, _, _, _, _, _, _, _, h => by cases h

/-- What was handed back, in one form. -/
theorem done_sound {H : Hint} (h : Rel P N F μ st a w) {es : List E} {vs : List Value} (hvs : All2 (ElR P w F μ st.blks) es vs) {post : V → List Blk → Prop} (hd : done H N.b.length es st.blks post) :
    ∃ V' F' μ' b', post V' b' ∧ Upd P N.F N.μ N.b N.w F' μ' b' w ∧ VR P w F' μ' b' V' (wrapVal vs) := by
  have key : ∀ {F1 : Nat → Prop} {μ1 : List (Option Nat)} {b1 : List Blk} {es1 : List E}, Upd P N.F N.μ N.b N.w F1 μ1 b1 w → All2 (ElR P w F1 μ1 b1) es1 vs → post (wrap (es1.map (rnE (idx (reach b1 1000 (es1.flatMap E.ids) (List.range N.b.length)))))) (pickB (reach b1 1000 (es1.flatMap E.ids) (List.range N.b.length)) b1) →
      ∃ V' F' μ' b', post V' b' ∧ Upd P N.F N.μ N.b N.w F' μ' b' w ∧ VR P w F' μ' b' V' (wrapVal vs) := by
    intro F1 μ1 b1 es1 u1 h1 hp
    refine ⟨_, F1, _, _, hp, pick_upd h.ok u1, wrap_sound (all2_map (h1.mono fun x v hx => ?_))⟩
    exact rnE_sound (pick_turned _) (fun _ h => h) (fun _ _ => rfl) (fun _ c _ h => ⟨c, h, rfl⟩) hx
  obtain ⟨F1, u1, h1⟩ := lowEs_sound h.mem hvs
  unfold done at hd
  split at hd
  · split at hd
    · rename_i q hq
      obtain ⟨F2, μ2, u2, h2⟩ := outR_sound h.mem hvs (es' := q.1) (b' := q.2) hq
      exact key (h.upd.trans u2) h2 hd
    · exact hd.elim
  · split at hd
    · exact key h.upd hvs hd
    · exact key (h.upd.trans u1) h1 hd

theorem start_rel {fn : Func} {args : List E} {blks : List Blk} {vals : Array Value} {w : World} {F : Nat → Prop} {μ : List (Option Nat)} (hm : MemR P F μ blks w) (ha : All2 (ElR P w F μ blks) args vals.toList) (hn : args.length ≤ fn.ntmps) :
    Rel P ⟨F, μ, blks, w⟩ F μ (start fn args blks) { tmps := vals ++ Array.replicate (fn.ntmps - vals.size) undef, defers := [] } w := by
  have hl : args.length = vals.size := by have := ha.1; simpa using this
  refine ⟨?_, fun i v hi => ?_, rfl, hm.len, .refl hm⟩
  · simp [start, hl]
  · simp only [start] at hi
    by_cases hlt : i < args.length
    · rw [List.getElem?_append_left (by simpa using hlt)] at hi
      simp only [List.getElem?_map, List.getElem?_eq_getElem hlt, Option.map_some, Option.some.injEq] at hi
      subst hi
      have hlt' : i < vals.size := by omega
      have hv := ha.2 i args[i] vals[i] (List.getElem?_eq_getElem hlt) (by simp [hlt'])
      have : (vals ++ Array.replicate (fn.ntmps - vals.size) undef).getD i undef = vals[i] := by
        rw [Array.getD_eq_getD_getElem?, Array.getElem?_append_left hlt', Array.getElem?_eq_getElem hlt']
        rfl
      rw [this]
      exact hv
    · rw [List.getElem?_append_right (by simpa using hlt)] at hi
      rw [List.getElem?_replicate] at hi
      split at hi
      · cases hi; trivial
      · cases hi

/-- A FUNCTION: if its body's precondition holds, the call comes to what is said. -/
theorem call_sound {H : Hint} {f : FuncId} {fn : Func} (hf : P.funcs[f]? = some fn) {args : List E} {blks : List Blk} {post : V → List Blk → Prop} (hn : args.length ≤ fn.ntmps) (h : body P H fn args blks post) : CSem P f args blks post := by
  intro w F μ vals hm ha
  unfold body at h
  cases hb : fn.body with
  | none => rw [hb] at h; exact h.elim
  | some c =>
    rw [hb] at h
    simp only at h
    refine calls_of_wp hf hb ?_
    have hr := start_rel (fn := fn) hm ha hn
    refine wp_mono (exec_sound c hr h) fun e a' w' hq => ?_
    have fin_ok : ∀ {F' : Nat → Prop} {μ' : List (Option Nat)} {st' : St}, Rel P ⟨F, μ, blks, w⟩ F' μ' st' a' w' → (match resEs P st' fn.results.toList with | some es => done H blks.length es st'.blks post | none => False) →
        a'.defers = [] ∧ ∃ v, (results fn a'.tmps).run P w' = .ok v w' ∧ ∃ v', ∃ V' F' μ' blks', Ending.returned v = .returned v' ∧ post V' blks' ∧ Upd P F μ blks w F' μ' blks' w' ∧ VR P w' F' μ' blks' V' v' := by
      intro F' μ' st' hr' hk
      split at hk
      · rename_i es he
        obtain ⟨vs, hrun, hvs⟩ := resEs_sound hr' he
        obtain ⟨V', F2, μ2, b2, hp, hu, hv⟩ := done_sound hr' hvs hk
        exact ⟨hr'.defers, _, results_run hrun, _, V', F2, μ2, b2, rfl, hp, hu, hv⟩
      · exact hk.elim
    cases e with
    | normal => obtain ⟨F', μ', st', hr', hk⟩ := hq; exact fin_ok hr' hk
    | ret => obtain ⟨F', μ', st', hr', hk⟩ := hq; exact fin_ok hr' hk
    | panic c => exact hq.elim
    | outgrown => exact hq.elim
    | exit id => obtain ⟨F', μ', st', hr', hk⟩ := hq; exact hk.elim
    | goto l => obtain ⟨F', μ', st', hr', hk⟩ := hq; exact hk.elim
end
end Go.SM
