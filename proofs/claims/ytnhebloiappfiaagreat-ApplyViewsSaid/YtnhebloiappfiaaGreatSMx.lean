/- The S-machine, part x: regions of open order: two operations change places. -/
import Derived.Test.YtnhebloiappfiaaGreatSMw
namespace Go.SM
set_option linter.unusedVariables false
set_option linter.unusedSimpArgs false

section
variable {P : Program} {H : Hint} {l l' : List V} {b b' b2 : List Blk} {o : Oper} {id : Nat}

theorem evC_ids {x : Operand} (hx : x ∈ o.op.operands.toList) {k : Nat} (hk : k ∈ (evC ⟨l, b⟩ x).ids) : k ∈ opIds ⟨l, b⟩ o := by
  unfold opIds
  rw [List.mem_flatMap]
  refine ⟨x, hx, ?_⟩
  unfold evC at hk
  split at hk
  · rename_i c he
    simp only [he, E.ids, E.cells, List.flatMap_cons, List.flatMap_nil, List.append_nil]
    exact hk
  · simp [Cell.ids] at hk
theorem Near.of (h : Near b b2 (opIds ⟨l, b⟩ o)) {x : Operand} (hx : x ∈ o.op.operands.toList) : Near b b2 (evC ⟨l, b⟩ x).ids := fun k hk => h k (evC_ids hx hk)

theorem fieldAddrR_ptr (S : TypeId) (k off f : Nat) (b b2 : List Blk) : fieldAddrR P S b2 (.ptr k off) f = (fieldAddrR P S b (.ptr k off) f).on b2 := by
  unfold fieldAddrR moveAddr
  split
  · split
    · split
      · split <;> rfl
      · rfl
    · rfl
  · rfl

/-- What looks at nothing but its operands' blocks. -/
theorem ro_on (hc : cls P o.op = .ro) (hn : Near b b2 (roIds ⟨l, b⟩ o)) : opR P ⟨l, b⟩ o = .fail ∨ opR P ⟨l, b2⟩ o = (opR P ⟨l, b⟩ o).on b2 := by
  have evb : ∀ x, ev ⟨l, b2⟩ x = ev ⟨l, b⟩ x := fun x => by cases x <;> rfl
  have evCb : ∀ x, evC ⟨l, b2⟩ x = evC ⟨l, b⟩ x := fun x => evC_eq (evb x)
  have evEb : ∀ x, evE ⟨l, b2⟩ x = evE ⟨l, b⟩ x := fun x => evE_eq (evb x)
  have evCm : ∀ xs : List Operand, xs.map (evC ⟨l, b2⟩) = xs.map (evC ⟨l, b⟩) := fun xs => List.map_congr_left fun x _ => evCb x
  unfold opR
  cases hop : o.op <;> rw [hop] at hc <;> simp only [cls] at hc <;> try (first | (cases hc; done) | (split at hc <;> (try split at hc) <;> (cases hc; done)))
  case move x => simp only [evb]; split <;> exact .inr rfl
  case assign x => simp only [evb]; split <;> exact .inr rfl
  case pick c x y => simp only [evCb, evb]; split <;> exact .inr rfl
  case build T ps =>
    simp only [evParts_eq (st' := ⟨l, b⟩) fun x _ => evb x.2]
    split
    · exact .inr (buildR_on ..)
    · exact .inr rfl
  case load T x =>
    have hn : Near b b2 (opIds ⟨l, b⟩ o) := by simpa [roIds, hop] using hn
    simp only [evCb]; exact loadR_on T _ (hn.of (by simp [hop, Op.operands]))
  case nilCheck x => simp only [evCb]; split <;> exact .inr rfl
  case binOp q T x y _ => simp only [evCb]; exact .inr (binR_on ..)
  case unOp q T x => simp only [evCb]; exact .inr (unR_on ..)
  case convert s d x => simp only [evCb]; exact .inr (convR_on ..)
  case fieldAddr T x f =>
    simp only [evCb]
    by_cases hp : ∃ k off, evC ⟨l, b⟩ x = .ptr k off
    · obtain ⟨k, off, hp⟩ := hp
      rw [hp]
      exact .inr (fieldAddrR_ptr ..)
    · have hn : Near b b2 (opIds ⟨l, b⟩ o) := by
        simp only [roIds, hop] at hn
        split at hn
        · rename_i k off he; exact absurd ⟨k, off, he⟩ hp
        · exact hn
      exact fieldAddrR_on T _ f (hn.of (by simp [hop, Op.operands]))
  case field T x f => simp only [evEb]; split <;> first | exact .inr (fieldR_on ..) | exact .inr rfl
  case indexAddr T x y =>
    have hn : Near b b2 (opIds ⟨l, b⟩ o) := by simpa [roIds, hop] using hn
    simp only [evCb]; exact indexAddrR_on T _ _ (hn.of (by simp [hop, Op.operands]))
  case index T x y => simp only [evCb]; exact .inr (indexR_on ..)
  case extract x i =>
    simp only [evb]
    split
    · split <;> exact .inr rfl
    · exact .inr rfl
  case makeFunc fn first cap =>
    cases fn <;> simp only [evCm] <;> try (first | exact .inl trivial | exact .inr rfl)
    split
    · split <;> exact .inr rfl
    · exact .inr rfl
  case call c =>
    have hn : Near b b2 (opIds ⟨l, b⟩ o) := by simpa [roIds, hop] using hn
    cases hcal : c.callee <;> simp only [hcal] at hc ⊢ <;> try (first | exact .inl trivial | (cases hc; done))
    rename_i q
    cases q <;> simp only [evCm] at hc ⊢ <;> try (first | exact .inl trivial | (cases hc; done))
    case len =>
      split
      · rename_i x T e1 e2
        simp only [evCb]
        exact lenR_on T _ (hn.of (by simp [hop, Op.operands, Call.operands]; exact .inr (by simpa using (by rw [e1]; simp : x ∈ c.args.toList))))
      · exact .inr rfl
    case max => split <;> exact .inr rfl
    case min => split <;> exact .inr rfl

theorem callee_cls {g : FuncId} {es : List E} {st : St} (h : callee P st o = some (g, es)) : cls P o.op = .call := by
  unfold callee at h
  split at h
  · rename_i c hop
    split at h
    · rename_i f hc
      simp [cls, hop, hc]
    · cases h
  · cases h
theorem callee_none {st : St} (h : cls P o.op ≠ .call) : callee P st o = none := by
  cases hc : callee P st o with
  | none => rfl
  | some x => exact absurd (callee_cls (g := x.1) (es := x.2) hc) h

/-! ### Freezing -/
theorem low1_no {c : Cell} (h : c.ids = []) : low1 b c = (c, b) := by
  cases c <;> simp [low1, Cell.ids] at h ⊢
theorem low1_near (c : Cell) (ids : List Nat) : Near b (low1 b c).2 ids := by
  intro k _ x hx
  cases c <;> simp only [low1] <;> try exact ⟨x, hx, x.like_refl⟩
  case ref j =>
    split
    · rename_i T t xs fz hj
      by_cases he : j = k
      · subst he
        rw [hj] at hx
        cases hx
        exact ⟨.row T t xs true, by simp [List.getElem?_set, (List.getElem?_eq_some_iff.1 hj).1], .inr ⟨T, t, xs, fz, true, rfl, rfl⟩⟩
      · exact ⟨x, by simp only [List.getElem?_set_ne he]; exact hx, x.like_refl⟩
    · exact ⟨x, hx, x.like_refl⟩
  case win j lo n =>
    split
    · rename_i T t xs fz hj
      by_cases he : j = k
      · subst he
        rw [hj] at hx
        cases hx
        exact ⟨.row T t xs true, by simp [List.getElem?_set, (List.getElem?_eq_some_iff.1 hj).1], .inr ⟨T, t, xs, fz, true, rfl, rfl⟩⟩
      · exact ⟨x, by simp only [List.getElem?_set_ne he]; exact hx, x.like_refl⟩
    · exact ⟨x, hx, x.like_refl⟩
theorem Near.trans {b3 : List Blk} {ids : List Nat} (h : Near b b2 ids) (k : Near b2 b3 ids) : Near b b3 ids := fun j hj x hx => by
  obtain ⟨y, hy, e⟩ := h j hj x hx
  obtain ⟨z, hz, e'⟩ := k j hj y hy
  exact ⟨z, hz, Blk.like_trans e e'⟩
theorem lows_near (ids : List Nat) : ∀ (cs : List Cell) (b : List Blk), Near b (lows b cs).2 ids
  | [], b => Near.refl b ids
  | c :: cs, b => (low1_near c ids).trans (lows_near ids cs _)
theorem lowE_near (ids : List Nat) (e : E) : Near b (lowE b e).2 ids := by
  cases e with
  | c x => exact low1_near x ids
  | agg xs => exact lows_near ids xs b
theorem lowEs_near (ids : List Nat) : ∀ (es : List E) (b : List Blk), Near b (lowEs b es).2 ids
  | [], b => Near.refl b ids
  | e :: es, b => (lowE_near ids e).trans (lowEs_near ids es _)
theorem near_hole (h : Near b b2 [id]) (hb : b[id]? = some .hole) : b2[id]? = some .hole := by
  obtain ⟨y, hy, rfl | ⟨_, _, _, _, _, e, _⟩⟩ := h id (by simp) _ hb
  · exact hy
  · cases e

theorem low1_set {X : Blk} {c : Cell} (h : id ∉ c.ids) : low1 (b.set id X) c = ((low1 b c).1, (low1 b c).2.set id X) := by
  cases c <;> simp only [low1]
  case ref k =>
    have hne : id ≠ k := fun e => h (by simp [Cell.ids, e])
    rw [List.getElem?_set_ne hne]
    split <;> simp only
    rw [List.set_comm _ _ hne]
  case win k lo n =>
    have hne : id ≠ k := fun e => h (by simp [Cell.ids, e])
    rw [List.getElem?_set_ne hne]
    split <;> simp only
    rw [List.set_comm _ _ hne]
theorem lows_set {X : Blk} : ∀ {cs : List Cell} {b : List Blk}, id ∉ cs.flatMap Cell.ids → lows (b.set id X) cs = ((lows b cs).1, (lows b cs).2.set id X)
  | [], b, _ => rfl
  | c :: cs, b, h => by
    rw [List.flatMap_cons, List.mem_append, not_or] at h
    simp only [lows, low1_set h.1, lows_set h.2]
theorem lowE_set {X : Blk} {e : E} (h : id ∉ e.ids) : lowE (b.set id X) e = ((lowE b e).1, (lowE b e).2.set id X) := by
  cases e with
  | c x => simp only [lowE]; rw [low1_set (by simpa [E.ids, E.cells] using h)]
  | agg xs => simp only [lowE]; rw [lows_set (by simpa [E.ids, E.cells] using h)]
theorem lowEs_set {X : Blk} : ∀ {es : List E} {b : List Blk}, id ∉ es.flatMap E.ids → lowEs (b.set id X) es = ((lowEs b es).1, (lowEs b es).2.set id X)
  | [], b, _ => rfl
  | c :: cs, b, h => by
    rw [List.flatMap_cons, List.mem_append, not_or] at h
    simp only [lowEs, lowE_set h.1, lowEs_set h.2]

/-! ### Calls -/
theorem reach_sub (b : List Blk) (n : Nat) (todo acc : List Nat) (hn : acc.Nodup) {k : Nat} (h : k ∈ acc) : k ∈ reach b n todo acc := by
  obtain ⟨r, hr⟩ := (reach_spec b n todo acc hn).2
  rw [hr]
  exact List.mem_append_left _ h
theorem reach_set {X : Blk} (hb : b[id]? = some .hole) : ∀ (n : Nat) (todo acc : List Nat), acc.Nodup → id ∉ reach (b.set id X) n todo acc → reach (b.set id X) n todo acc = reach b n todo acc
  | 0, _, _, _, _ => rfl
  | n + 1, [], _, _, _ => rfl
  | n + 1, k :: r, acc, hn, h => by
    unfold reach at h ⊢
    by_cases hc : acc.contains k
    · simp only [hc, if_true] at h ⊢
      exact reach_set hb n r acc hn h
    · simp only [hc, if_false, Bool.false_eq_true] at h ⊢
      by_cases hk : id = k
      · subst hk
        have hlt := (List.getElem?_eq_some_iff.1 hb).1
        have e : (b.set id X)[id]? = some X := by simp [List.getElem?_set, hlt]
        rw [e] at h ⊢
        rw [hb]
        cases X with
        | hole => exact reach_set hb n r acc hn h
        | _ =>
          have hn' : (acc ++ [id]).Nodup := by
            rw [List.nodup_append]
            refine ⟨hn, by simp, ?_⟩
            intro x hx y hy
            simp at hy
            subst hy
            intro e'
            subst e'
            simp at hc
            exact hc hx
          exact absurd (reach_sub _ n _ _ hn' (by simp)) h
      · rw [List.getElem?_set_ne hk] at h ⊢
        have hn' : (acc ++ [k]).Nodup := by
          rw [List.nodup_append]
          refine ⟨hn, by simp, ?_⟩
          intro x hx y hy
          simp at hy
          subst hy
          intro e'
          subst e'
          simp at hc
          exact hc hx
        cases hbk : b[k]? with
        | none => rw [hbk] at h; exact reach_set hb n r acc hn h
        | some x =>
          rw [hbk] at h
          cases x with
          | hole => exact reach_set hb n r acc hn h
          | gone => exact reach_set hb n _ _ hn' h
          | cells T cs => exact reach_set hb n _ _ hn' h
          | row T t xs fz => exact reach_set hb n _ _ hn' h
theorem pickB_set {X : Blk} {order : List Nat} (h : id ∉ order) : pickB order (b.set id X) = pickB order b := by
  refine List.map_congr_left fun k hk => ?_
  have hne : id ≠ k := fun e => h (e ▸ hk)
  rw [List.getD_eq_getElem?_getD, List.getD_eq_getElem?_getD, List.getElem?_set_ne hne]
theorem idx_none' {order : List Nat} (h : id ∉ order) : idx order id = none := by
  unfold idx
  rw [List.findIdx?_eq_none_iff]
  intro x hx
  cases hb : Nat.beq id x with
  | false => rfl
  | true => exact absurd (Nat.eq_of_beq_eq_true hb ▸ hx) h
theorem backB_out {order : List Nat} {B : List Blk} {k : Nat} {x : Blk} (h : k ∉ order) (hb : b[k]? = some x) : (backB order b B)[k]? = some x := by
  rw [backB_old (List.getElem?_eq_some_iff.1 hb).1, idx_none' h]
  simp [List.getD_eq_getElem?_getD, hb]
theorem backB_set {X : Blk} {order : List Nat} {B : List Blk} (h : id ∉ order) (hlt : id < b.length) : backB order (b.set id X) B = (backB order b B).set id X := by
  unfold backB
  simp only [List.length_set]
  rw [List.set_append_left _ _ (by simpa using hlt)]
  congr 1
  apply List.ext_getElem?
  intro k
  by_cases hk : k < b.length
  · by_cases he : id = k
    · subst he
      simp [hk, idx_none' h, List.getElem?_set]
    · rw [List.getElem?_set_ne he]
      simp [List.getElem?_map, List.getElem?_range hk, List.getElem?_set_ne he]
  · simp [List.getElem?_map, List.getElem?_eq_none (show (List.range b.length).length ≤ k by simpa using hk)]
    omega

def callD (P : Program) (H : Hint) (f : FuncId) (es : List E) (b : List Blk) (v : V) (b' : List Blk) : Prop :=
  callS P H f es b fun v1 b1 => v = v1 ∧ b' = b1
theorem callS_iff {f : FuncId} {es : List E} {K : V → List Blk → Prop} : callS P H f es b K ↔ ∃ v b', callD P H f es b v b' ∧ K v b' :=
  ⟨fun ⟨x, h, hk⟩ => ⟨_, _, ⟨x, h, rfl, rfl⟩, hk⟩, fun ⟨v, b', ⟨x, h, e1, e2⟩, hk⟩ => ⟨x, h, by rw [← e1, ← e2]; exact hk⟩⟩
theorem callD_out {f : FuncId} {es : List E} {v : V} (h : callD P H f es b v b') {k : Nat} (hk : k ∉ reach b 1000 (es.flatMap E.ids) []) {x : Blk} (hx : b[k]? = some x) : b'[k]? = some x := by
  obtain ⟨y, _, _, rfl⟩ := h
  exact backB_out hk hx
theorem callD_set {X : Blk} {f : FuncId} {es : List E} {v : V} (hb : b[id]? = some .hole) (h : callD P H f es (b.set id X) v b') (hid : id ∉ reach (b.set id X) 1000 (es.flatMap E.ids) []) :
    ∃ b1, callD P H f es b v b1 ∧ b' = b1.set id X ∧ b1[id]? = some .hole := by
  have hr := reach_set (X := X) hb 1000 (es.flatMap E.ids) [] List.nodup_nil hid
  rw [hr] at hid
  obtain ⟨y, hy, hv, hb'⟩ := h
  revert y
  rw [hr, pickB_set hid, List.length_set]
  intro y hy hv hb'
  rw [backB_set hid (List.getElem?_eq_some_iff.1 hb).1] at hb'
  exact ⟨_, ⟨y, hy, hv, rfl⟩, hb', backB_out hid hb⟩

/-! ### One step -/
def DS (P : Program) (H : Hint) (id : Nat) (st : St) (o : Oper) (v : V) (b' : List Blk) : Prop :=
  match callee P st o with
  | some (g, es) => if H.byRef g then callD P H g es st.blks v b' else callD P H g (lowEs st.blks es).1 (lowEs st.blks es).2 v b'
  | none => (dopR P id st o).is v b'
theorem dstep_iff {st : St} {K : V → List Blk → Prop} : dstep P H id st o K ↔ ∃ v b', DS P H id st o v b' ∧ K v b' := by
  unfold dstep DS
  cases callee P st o with
  | none => exact Res.then_iff ..
  | some q =>
    obtain ⟨g, es⟩ := q
    simp only
    split <;> exact callS_iff
theorem DS_eq (h : SameOps l l' o) {v : V} : DS P H id ⟨l, b⟩ o v b' ↔ DS P H id ⟨l', b⟩ o v b' := by
  unfold DS
  rw [callee_eq h b b, dopR_eq h b]

/-- The class of what can stand first. -/
def still (c : Cls) : Bool := match c with | .ro | .bs | .sl => true | _ => false

theorem sl_on (hc : cls P o.op = .sl) (he : (opIds ⟨l, b⟩ o).isEmpty = true) : opR P ⟨l, b2⟩ o = (opR P ⟨l, b⟩ o).on b2 := by
  have evb : ∀ x, ev ⟨l, b2⟩ x = ev ⟨l, b⟩ x := fun x => by cases x <;> rfl
  have evCb : ∀ x, evC ⟨l, b2⟩ x = evC ⟨l, b⟩ x := fun x => evC_eq (evb x)
  cases hop : o.op <;> rw [hop] at hc <;> simp only [cls] at hc <;> try (first | (cases hc; done) | (split at hc <;> (try split at hc) <;> (cases hc; done)))
  case slice T x lo hi mx =>
    have hx : (evC ⟨l, b⟩ x).ids = [] := by
      rw [List.eq_nil_iff_forall_not_mem]
      intro k hk
      have := evC_ids (o := o) (by simp [hop, Op.operands]) hk
      rw [List.isEmpty_iff] at he
      rw [he] at this
      simp at this
    unfold opR
    simp only [hop]
    cases mx with
    | some m =>
      have hl : lo.map (evC ⟨l, b2⟩) = lo.map (evC ⟨l, b⟩) := by cases lo <;> simp [evCb]
      have hh : hi.map (evC ⟨l, b2⟩) = hi.map (evC ⟨l, b⟩) := by cases hi <;> simp [evCb]
      simp only [evCb, hl, hh]
      unfold slice3R
      split
      · split
        · cases hxx : evC ⟨l, b⟩ x <;> try rfl
          case ref k => rw [hxx] at hx; simp [Cell.ids] at hx
        · rfl
      · rfl
    | none =>
      have hl : lo.map (evC ⟨l, b2⟩) = lo.map (evC ⟨l, b⟩) := by cases lo <;> simp [evCb]
      have hh : hi.map (evC ⟨l, b2⟩) = hi.map (evC ⟨l, b⟩) := by cases hi <;> simp [evCb]
      simp only [evCb, hl, hh]
      unfold sliceR
      have hw : ∀ b', winOf b' (evC ⟨l, b⟩ x) = none := by
        intro b'
        cases hxx : evC ⟨l, b⟩ x <;> first | rfl | (rw [hxx] at hx; simp [Cell.ids] at hx)
      rw [hw, hw]
      simp only
      split
      · split
        · split <;> rfl
        · rfl
      · split <;> rfl
      · rfl

/-- What stands still: it changes no block, and looks at its operands' alone. -/
theorem still_on (hc : still (cls P o.op) = true) {v : V} (h : DS P H id ⟨l, b⟩ o v b') : b' = b ∧ (Near b b2 (foot P H id ⟨l, b⟩ o).1 → DS P H id ⟨l, b2⟩ o v b2) := by
  have hcall : cls P o.op ≠ .call := fun e => by rw [e] at hc; cases hc
  unfold DS foot at *
  rw [callee_none hcall] at h ⊢
  rw [callee_none hcall]
  simp only at h ⊢
  have opb : ∀ b3 : List Blk, opIds ⟨l, b3⟩ o = opIds ⟨l, b⟩ o := fun b3 => opIds_eq (fun x _ _ _ => by cases x <;> rfl) _ _
  unfold dopR at *
  cases hk : cls P o.op <;> rw [hk] at hc <;> simp only [hk] at h ⊢ <;> try (cases hc; done)
  case ro =>
    constructor
    · rcases ro_on hk (Near.refl b (roIds ⟨l, b⟩ o)) with hf | hr
      · rw [hf] at h; exact h.elim
      · exact Res.is_self hr h
    · intro hn
      rcases ro_on hk hn with hf | hr
      · rw [hf] at h; exact h.elim
      · rw [hr]; exact Res.is_on h
  case bs =>
    unfold bsR at *
    rw [bsX_eq (l := l) (l' := l) (fun x _ _ _ => by cases x <;> rfl) b2 b]
    split at h
    · exact ⟨h.2, fun _ => ⟨h.1, rfl⟩⟩
    · exact h.elim
  case sl =>
    rw [opb b2]
    split at h
    · rename_i he
      rw [if_pos he]
      exact ⟨Res.is_self (sl_on hk he) h, fun _ => by rw [sl_on hk he (b2 := b2)]; exact Res.is_on h⟩
    · exact h.elim

/-- A new block in its place. -/
theorem al_iff (hc : cls P o.op = .al) {v : V} : DS P H id ⟨l, b⟩ o v b' ↔ ∃ p X c, alX P ⟨l, b⟩ o = some (p, X, c) ∧ b[id]? = some .hole ∧ (p.map Ob.p).getD True ∧ v = cst (c id) ∧ b' = b.set id X := by
  unfold DS
  rw [callee_none (by rw [hc]; decide)]
  simp only [dopR, hc, alR]
  constructor
  · intro h
    split at h
    · rename_i p X c hX hb
      refine ⟨p, X, c, hX, hb, ?_⟩
      cases p with
      | none => exact ⟨trivial, h.1, h.2⟩
      | some p => exact ⟨h.1, h.2.1, h.2.2⟩
    · exact h.elim
  · rintro ⟨p, X, c, hX, hb, hp, rfl, rfl⟩
    rw [hX]
    simp only [hb]
    cases p with
    | none => exact ⟨rfl, rfl⟩
    | some p => exact ⟨hp, rfl, rfl⟩

theorem alX_b (b b2 : List Blk) : alX P ⟨l, b⟩ o = alX P ⟨l, b2⟩ o := alX_eq (l := l) (l' := l) (fun x _ _ _ => by cases x <;> rfl) b b2

/-- What is not in what it changes stays. -/
theorem DS_keep {v : V} (hno : cls P o.op ≠ .no) (h : DS P H id ⟨l, b⟩ o v b') {k : Nat} (hk : k ∉ (foot P H id ⟨l, b⟩ o).2) {x : Blk} (hx : b[k]? = some x) : ∃ y, b'[k]? = some y ∧ x.like y := by
  cases hcal : callee P ⟨l, b⟩ o with
  | some q =>
    obtain ⟨g, es⟩ := q
    unfold DS at h
    unfold foot at hk
    simp only [hcal] at h hk
    split at h
    · rename_i hr
      rw [if_pos hr] at hk
      exact ⟨x, callD_out h hk hx, x.like_refl⟩
    · rename_i hr
      rw [if_neg hr] at hk
      obtain ⟨y, hy, e⟩ := lowEs_near (b := b) [k] es k (by simp) x hx
      exact ⟨y, callD_out h hk hy, e⟩
  | none =>
    by_cases hst : still (cls P o.op) = true
    · obtain ⟨rfl, _⟩ := still_on (b2 := b) hst h
      exact ⟨x, hx, x.like_refl⟩
    · unfold foot at hk
      rw [hcal] at hk
      cases hc : cls P o.op <;> rw [hc] at hst hno <;> simp only [hc] at hk <;> try (first | exact absurd rfl hst | exact absurd rfl hno)
      case al =>
        obtain ⟨p, X, c, hX, hb, hp, rfl, rfl⟩ := (al_iff hc).1 h
        have hne : id ≠ k := fun e => hk (by simp [e])
        exact ⟨x, by rw [List.getElem?_set_ne hne]; exact hx, x.like_refl⟩
      case call =>
        unfold DS at h
        simp only [hcal, dopR, hc] at h
        unfold opR at h
        cases hop : o.op <;> rw [hop] at hc <;> simp only [cls] at hc <;> try (first | (cases hc; done) | (split at hc <;> (try split at hc) <;> (cases hc; done)))
        rename_i c
        cases hcl : c.callee <;> rw [hcl] at hc <;> try (cases hc; done)
        · simp only [hop, hcl] at h; exact h.elim
        · rename_i q; cases q <;> cases hc
      case st =>
        unfold DS at h
        simp only [hcal, dopR, hc] at h
        unfold opR at h
        cases hop : o.op <;> rw [hop] at hc <;> simp only [cls] at hc <;> try (first | (cases hc; done) | (split at hc <;> (try split at hc) <;> (cases hc; done)))
        case store T a y =>
          simp only [hop] at h hk
          split at h
          · rename_i e he
            unfold storeR at h
            split at h
            · split at h
              · rename_i j off hj
                rw [hj] at hk
                have hne : j ≠ k := fun e => hk (by simp [Cell.ids, e])
                split at h
                · split at h
                  · exact ⟨x, by rw [h.2, List.getElem?_set_ne hne]; exact hx, x.like_refl⟩
                  · exact h.elim
                · exact h.elim
              · rename_i j i fo hj
                rw [hj] at hk
                have hne : j ≠ k := fun e => hk (by simp [Cell.ids, e])
                obtain ⟨y', hy, hl⟩ := lows_near [k] e.cells b k (by simp) x hx
                split at h
                · split at h
                  · split at h
                    · exact ⟨y', by rw [h.2, List.getElem?_set_ne hne]; exact hy, hl⟩
                    · exact h.elim
                  · split at h
                    · exact ⟨y', by rw [h.2, List.getElem?_set_ne hne]; exact hy, hl⟩
                    · exact h.elim
                · exact h.elim
              · exact h.elim
            · exact h.elim
          · exact h.elim
      case ap =>
        unfold DS at h
        simp only [hcal, dopR, hc] at h
        unfold opR at h
        cases hop : o.op <;> rw [hop] at hc <;> simp only [cls] at hc <;> try (first | (cases hc; done) | (split at hc <;> (try split at hc) <;> (cases hc; done)))
        rename_i c
        simp only [hop] at h hk
        cases hcl : c.callee <;> rw [hcl] at hc <;> try (cases hc; done)
        rename_i q
        cases q <;> simp only [hcl] at hc h <;> try (cases hc; done)
        split at h
        · rename_i s y T T' e1 e2
          rw [e1] at hk
          simp only at hk
          have push : ∀ {z : Blk}, ∃ y, (b ++ [z])[k]? = some y ∧ x.like y := fun {z} => ⟨x, by rw [List.getElem?_append_left (List.getElem?_eq_some_iff.1 hx).1]; exact hx, x.like_refl⟩
          split at h
          · unfold appendR at h
            split at h
            · split at h
              · split at h
                · unfold appendP at h
                  split at h
                  · split at h
                    · split at h
                      · rw [h.2]; exact push
                      · rename_i j hj
                        rw [hj] at hk
                        have hne : j ≠ k := fun e => hk (by simp [Cell.ids, e])
                        split at h
                        · split at h
                          · rw [h.2, List.getElem?_append_left (by simpa using (List.getElem?_eq_some_iff.1 hx).1), List.getElem?_set_ne hne]
                            exact ⟨x, hx, x.like_refl⟩
                          · exact h.elim
                        · exact h.elim
                      · exact h.elim
                    · exact h.elim
                  · exact h.elim
                split at h
                · split at h
                  · split at h
                    · rw [h.2.2]; exact push
                    · exact h.elim
                  · exact h.elim
                · rename_i j hj
                  rw [hj] at hk
                  have hne : j ≠ k := fun e => hk (by simp [Cell.ids, e])
                  split at h
                  · split at h
                    · split at h
                      · rw [h.2.2, List.getElem?_append_left (by simpa using (List.getElem?_eq_some_iff.1 hx).1), List.getElem?_set_ne hne]
                        exact ⟨x, hx, x.like_refl⟩
                      · exact h.elim
                    · exact h.elim
                  · exact h.elim
                · exact h.elim
              · exact h.elim
            · exact h.elim
          · exact h.elim
        · exact h.elim

/-- A new block's place may be filled behind it as well. -/
theorem DS_set {X : Blk} {v : V} (hc : cls P o.op = .al ∨ still (cls P o.op) = true ∨ cls P o.op = .call) {id' : Nat} (hb : b[id]? = some .hole) (h : DS P H id' ⟨l, b.set id X⟩ o v b')
    (h1 : id ∉ (foot P H id' ⟨l, b.set id X⟩ o).1) (h2 : id ∉ (foot P H id' ⟨l, b.set id X⟩ o).2) :
    foot P H id' ⟨l, b⟩ o = foot P H id' ⟨l, b.set id X⟩ o ∧ ∃ b1, DS P H id' ⟨l, b⟩ o v b1 ∧ b' = b1.set id X ∧ b1[id]? = some .hole := by
  have hsame : SameOps l l o := fun x _ _ _ => by cases x <;> rfl
  have hlt := (List.getElem?_eq_some_iff.1 hb).1
  rcases hc with hc | hc | hc
  · have hcl : cls P o.op ≠ .call := by rw [hc]; decide
    refine ⟨by unfold foot; rw [callee_none hcl, callee_none hcl]; simp only [hc], ?_⟩
    unfold foot at h2
    rw [callee_none hcl] at h2
    simp only [hc] at h2
    have hne : id ≠ id' := fun e => h2 (by simp [e])
    obtain ⟨p, Y, c, hX, hb', hp, rfl, rfl⟩ := (al_iff hc).1 h
    rw [List.getElem?_set_ne hne] at hb'
    exact ⟨_, (al_iff hc).2 ⟨p, Y, c, by rw [alX_b b (b.set id X)]; exact hX, hb', hp, rfl, rfl⟩, List.set_comm _ _ hne, by rw [List.getElem?_set_ne (Ne.symm hne)]; exact hb⟩
  · have hcl : cls P o.op ≠ .call := fun e => by rw [e] at hc; cases hc
    have hf : foot P H id' ⟨l, b⟩ o = foot P H id' ⟨l, b.set id X⟩ o := by
      unfold foot
      rw [callee_none hcl, callee_none hcl]
      simp only
      cases hk : cls P o.op <;> rw [hk] at hc <;> try (cases hc; done)
      all_goals first | rfl | rw [opIds_eq hsame] | rw [roIds_eq hsame]
    obtain ⟨rfl, hs⟩ := still_on (b2 := b) hc h
    refine ⟨hf, b, hs fun k hk x hx => ?_, rfl, hb⟩
    have hne : id ≠ k := fun e => h1 (e ▸ hk)
    rw [List.getElem?_set_ne hne] at hx
    exact ⟨x, hx, x.like_refl⟩
  · cases hcal : callee P ⟨l, b⟩ o with
    | none =>
      unfold DS at h
      rw [callee_eq hsame (b.set id X) b, hcal] at h
      simp only [dopR, hc] at h
      unfold opR at h
      cases hop : o.op <;> rw [hop] at hc <;> simp only [cls] at hc <;> try (first | (cases hc; done) | (split at hc <;> (try split at hc) <;> (cases hc; done)))
      rename_i c
      cases hcl : c.callee <;> rw [hcl] at hc <;> try (cases hc; done)
      · simp only [hop, hcl] at h; exact h.elim
      · rename_i q; cases q <;> cases hc
    | some q =>
      obtain ⟨g, es⟩ := q
      unfold DS foot at *
      rw [callee_eq hsame (b.set id X) b, hcal] at h h1 h2
      rw [callee_eq hsame (b.set id X) b, hcal]
      simp only at h h1 h2 ⊢
      split at h
      · rename_i hr
        simp only [hr, if_true] at h1 h2 ⊢
        rw [reach_set hb _ _ _ List.nodup_nil h2]
        exact ⟨rfl, callD_set hb h h2⟩
      · rename_i hr
        simp only [hr, if_false, Bool.false_eq_true] at h1 h2 ⊢
        rw [lowEs_set h1] at h h2
        simp only at h h2
        have hb2 := near_hole (lowEs_near (b := b) [id] es) hb
        rw [lowEs_set h1]
        simp only
        rw [reach_set hb2 _ _ _ List.nodup_nil h2]
        exact ⟨rfl, callD_set hb2 h h2⟩
end
end Go.SM
