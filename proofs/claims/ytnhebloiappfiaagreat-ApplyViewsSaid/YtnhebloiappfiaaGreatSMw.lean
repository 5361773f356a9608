/- The S-machine, part w: regions of open order: what an operation looks at and changes. -/
import Derived.Test.YtnhebloiappfiaaGreatSMs
namespace Go.SM
set_option linter.unusedVariables false
set_option linter.unusedSimpArgs false

section
variable {P : Program} {H : Hint} {l l' : List V} {b b' : List Blk} {o : Oper} {id : Nat}

/-! ### Slots -/
def SameOps (l l' : List V) (o : Oper) : Prop := ∀ x ∈ o.op.operands.toList, ∀ b b', ev ⟨l, b⟩ x = ev ⟨l', b'⟩ x

theorem evC_eq {st st' : St} {x : Operand} (h : ev st x = ev st' x) : evC st x = evC st' x := by unfold evC; rw [h]
theorem evE_eq {st st' : St} {x : Operand} (h : ev st x = ev st' x) : evE st x = evE st' x := by unfold evE; rw [h]
theorem evEs_eq {st st' : St} : ∀ {xs : List Operand}, (∀ x ∈ xs, ev st x = ev st' x) → evEs st xs = evEs st' xs
  | [], _ => rfl
  | x :: xs, h => by
    unfold evEs
    rw [evE_eq (h x (by simp)), evEs_eq fun y hy => h y (by simp [hy])]
theorem evParts_eq {st st' : St} : ∀ {xs : List (Nat × Operand)}, (∀ x ∈ xs, ev st x.2 = ev st' x.2) → evParts st xs = evParts st' xs
  | [], _ => rfl
  | (i, x) :: xs, h => by
    unfold evParts
    rw [evE_eq (h (i, x) (by simp)), evParts_eq fun y hy => h y (by simp [hy])]

theorem callee_eq (h : SameOps l l' o) (b b' : List Blk) : callee P ⟨l, b⟩ o = callee P ⟨l', b'⟩ o := by
  unfold callee
  cases hop : o.op with
  | call c =>
    simp only
    cases hc : c.callee with
    | value f =>
      have hf := h f (by simp [hop, Op.operands, Call.operands, hc]) b b'
      have ha : evEs ⟨l, b⟩ c.args.toList = evEs ⟨l', b'⟩ c.args.toList := evEs_eq fun x hx => h x (by simp [hop, Op.operands, Call.operands]; exact .inr (by simpa using hx)) b b'
      simp only [evC_eq hf, ha]
    | _ => rfl
  | _ => rfl

theorem opIds_eq (h : SameOps l l' o) (b b' : List Blk) : opIds ⟨l, b⟩ o = opIds ⟨l', b'⟩ o := by
  unfold opIds
  unfold SameOps at h
  generalize o.op.operands.toList = xs at h
  induction xs with
  | nil => rfl
  | cons x xs ih =>
    rw [List.flatMap_cons, List.flatMap_cons, h x (by simp) b b', ih fun y hy => h y (by simp [hy])]

theorem roIds_eq (h : SameOps l l' o) (b b' : List Blk) : roIds ⟨l, b⟩ o = roIds ⟨l', b'⟩ o := by
  unfold roIds
  rw [opIds_eq h b b']
  cases hop : o.op <;> simp only
  case fieldAddr T x f => rw [evC_eq (h x (by simp [hop, Op.operands]) b b')]
theorem opR_eq (h : SameOps l l' o) (b : List Blk) : opR P ⟨l, b⟩ o = opR P ⟨l', b⟩ o := by
  unfold opR
  cases hop : o.op <;> simp only
  case move x => rw [h x (by simp [hop, Op.operands]) b b]
  case assign x => rw [h x (by simp [hop, Op.operands]) b b]
  case pick c x y => rw [evC_eq (h c (by simp [hop, Op.operands]) b b), h x (by simp [hop, Op.operands]) b b, h y (by simp [hop, Op.operands]) b b]
  case box T x => rw [evE_eq (h x (by simp [hop, Op.operands]) b b)]
  case build T ps => rw [evParts_eq fun x hx => h x.2 (by simp [hop, Op.operands]; exact ⟨x.1, by simpa using hx⟩) b b]
  case buildSlice T n ps => rw [evParts_eq fun x hx => h x.2 (by simp [hop, Op.operands]; exact ⟨x.1, by simpa using hx⟩) b b]
  case load T x => rw [evC_eq (h x (by simp [hop, Op.operands]) b b)]
  case store T x y => rw [evE_eq (h y (by simp [hop, Op.operands]) b b), evC_eq (h x (by simp [hop, Op.operands]) b b)]
  case nilCheck x => rw [evC_eq (h x (by simp [hop, Op.operands]) b b)]
  case binOp q T x y _ => rw [evC_eq (h x (by simp [hop, Op.operands]) b b), evC_eq (h y (by simp [hop, Op.operands]) b b)]
  case unOp q T x => rw [evC_eq (h x (by simp [hop, Op.operands]) b b)]
  case convert s d x => rw [evC_eq (h x (by simp [hop, Op.operands]) b b)]
  case makeSlice T x y => rw [evC_eq (h x (by simp [hop, Op.operands]) b b), evC_eq (h y (by simp [hop, Op.operands]) b b)]
  case fieldAddr T x f => rw [evC_eq (h x (by simp [hop, Op.operands]) b b)]
  case field T x f => rw [evE_eq (h x (by simp [hop, Op.operands]) b b)]
  case indexAddr T x y => rw [evC_eq (h x (by simp [hop, Op.operands]) b b), evC_eq (h y (by simp [hop, Op.operands]) b b)]
  case index T x y => rw [evC_eq (h x (by simp [hop, Op.operands]) b b), evC_eq (h y (by simp [hop, Op.operands]) b b)]
  case extract x i => rw [h x (by simp [hop, Op.operands]) b b]
  case slice T x lo hi mx =>
    cases mx with
    | some m =>
      simp only
      rw [evC_eq (h x (by simp [hop, Op.operands]) b b), evC_eq (h m (by simp [hop, Op.operands]) b b)]
      have hl : lo.map (evC ⟨l, b⟩) = lo.map (evC ⟨l', b⟩) := by
        cases lo with
        | none => rfl
        | some y => simp only [Option.map_some, evC_eq (h y (by simp [hop, Op.operands]) b b)]
      have hh : hi.map (evC ⟨l, b⟩) = hi.map (evC ⟨l', b⟩) := by
        cases hi with
        | none => rfl
        | some y => simp only [Option.map_some, evC_eq (h y (by simp [hop, Op.operands]) b b)]
      rw [hl, hh]
    | none =>
      simp only
      rw [evC_eq (h x (by simp [hop, Op.operands]) b b)]
      have hl : lo.map (evC ⟨l, b⟩) = lo.map (evC ⟨l', b⟩) := by
        cases lo with
        | none => rfl
        | some y => simp only [Option.map_some]; rw [evC_eq (h y (by simp [hop, Op.operands]) b b)]
      have hh : hi.map (evC ⟨l, b⟩) = hi.map (evC ⟨l', b⟩) := by
        cases hi with
        | none => rfl
        | some y => simp only [Option.map_some]; rw [evC_eq (h y (by simp [hop, Op.operands]) b b)]
      rw [hl, hh]
  case makeFunc fn first cap =>
    cases fn with
    | func f =>
      have : cap.toList.map (evC ⟨l, b⟩) = cap.toList.map (evC ⟨l', b⟩) := List.map_congr_left fun x hx => evC_eq (h x (by simp [hop, Op.operands]; exact .inr (by simpa using hx)) b b)
      simp only [this]
    | _ => rfl
  case call c =>
    have args : ∀ x ∈ c.args.toList, ev ⟨l, b⟩ x = ev ⟨l', b⟩ x := fun x hx => h x (by simp [hop, Op.operands, Call.operands]; exact .inr (by simpa using hx)) b b
    have hm : c.args.toList.map (evC ⟨l, b⟩) = c.args.toList.map (evC ⟨l', b⟩) := List.map_congr_left fun x hx => evC_eq (args x hx)
    cases hc : c.callee with
    | builtin q =>
      cases q <;> simp only
      case len =>
        split
        · rename_i x T e1 e2
          rw [evC_eq (args x (by rw [e1]; simp))]
        · rfl
      case append =>
        split
        · rename_i x y T T' e1 e2
          rw [evC_eq (args x (by rw [e1]; simp)), evC_eq (args y (by rw [e1]; simp))]
        · rfl
      case max => rw [hm]
      case min => rw [hm]
    | _ => rfl

theorem alX_eq (h : SameOps l l' o) (b b' : List Blk) : alX P ⟨l, b⟩ o = alX P ⟨l', b'⟩ o := by
  unfold alX
  cases hop : o.op <;> simp only
  case box T x => rw [evE_eq (h x (by simp [hop, Op.operands]) b b')]
  case makeSlice T x y => rw [evC_eq (h x (by simp [hop, Op.operands]) b b'), evC_eq (h y (by simp [hop, Op.operands]) b b')]
  case buildSlice T n ps => rw [evParts_eq fun x hx => h x.2 (by simp [hop, Op.operands]; exact ⟨x.1, by simpa using hx⟩) b b']
theorem bsX_eq (h : SameOps l l' o) (b b' : List Blk) : bsX P ⟨l, b⟩ o = bsX P ⟨l', b'⟩ o := by
  unfold bsX
  cases hop : o.op <;> simp only
  case buildSlice T n ps => rw [evParts_eq fun x hx => h x.2 (by simp [hop, Op.operands]; exact ⟨x.1, by simpa using hx⟩) b b']
theorem dopR_eq (h : SameOps l l' o) (b : List Blk) : dopR P id ⟨l, b⟩ o = dopR P id ⟨l', b⟩ o := by
  unfold dopR alR bsR
  rw [alX_eq h b b, bsX_eq h b b, opR_eq h b, opIds_eq h b b]
theorem foot_eq (h : SameOps l l' o) (b : List Blk) : foot P H id ⟨l, b⟩ o = foot P H id ⟨l', b⟩ o := by
  unfold foot
  rw [callee_eq h b b, roIds_eq h b b]
  cases hc : callee P ⟨l', b⟩ o with
  | some x => rfl
  | none =>
    simp only
    cases hk : cls P o.op <;> simp only
    case st =>
      cases hop : o.op <;> simp only
      case store T x y => rw [evC_eq (h x (by simp [hop, Op.operands]) b b)]
    case ap =>
      cases hop : o.op <;> simp only
      case call c =>
        split
        · rename_i x y e1
          rw [evC_eq (h x (by simp [hop, Op.operands, Call.operands]; exact .inr (by simpa using (by rw [e1]; simp : x ∈ c.args.toList))) b b)]
        · rfl

theorem sameOps_put {ops : Array Oper} {d : Option Tmp} {v : V} (h : ∀ x, d = some x → x ∉ o.looksAt ops) : SameOps (put l d v) l o := by
  intro x hx b b'
  cases d with
  | none => cases x <;> rfl
  | some t =>
    cases x with
    | tmp k =>
      have hne : t ≠ k := fun e => h t rfl (by
        subst e
        exact List.mem_append_left _ (List.mem_filterMap.2 ⟨.tmp t, hx, rfl⟩))
      simp [ev, St.get, put, List.getElem?_set_ne hne]
    | _ => rfl

/-! ### What is looked at -/
def Res.is (r : Res) (v : V) (b' : List Blk) : Prop :=
  match r with
  | .fail => False
  | .ok v1 b1 => v = v1 ∧ b' = b1
  | @Res.ob p _ v1 b1 => p ∧ v = v1 ∧ b' = b1
theorem Res.then_iff (r : Res) (K : V → List Blk → Prop) : r.then K ↔ ∃ v b', r.is v b' ∧ K v b' := by
  cases r with
  | fail => simp [Res.then, Res.is]
  | ok v b => exact ⟨fun h => ⟨v, b, ⟨rfl, rfl⟩, h⟩, fun ⟨_, _, ⟨e1, e2⟩, h⟩ => by subst e1; subst e2; exact h⟩
  | ob p v b => exact ⟨fun h => ⟨v, b, ⟨h.1, rfl, rfl⟩, h.2⟩, fun ⟨_, _, ⟨hp, e1, e2⟩, h⟩ => by subst e1; subst e2; exact ⟨hp, h⟩⟩
def Res.on (b : List Blk) : Res → Res
  | .fail => .fail
  | .ok v _ => .ok v b
  | @Res.ob p d v _ => @Res.ob p d v b
theorem Res.is_on {r : Res} {v : V} {b1 b2 : List Blk} (h : r.is v b1) : (r.on b2).is v b2 := by
  cases r with
  | fail => exact h
  | ok v' b' => exact ⟨h.1, rfl⟩
  | ob p v' b' => exact ⟨h.1, h.2.1, rfl⟩
theorem Res.is_self {r : Res} {v : V} {b b1 : List Blk} (hr : r = r.on b) (h : r.is v b1) : b1 = b := by
  cases r with
  | fail => exact h.elim
  | ok v' b' => injection hr with _ e; exact h.2.trans e
  | ob p v' b' =>
    simp only [Res.on, Res.ob.injEq] at hr
    exact h.2.2.trans (by simp_all)

/-- The same block, but for being frozen. -/
def Blk.like (x y : Blk) : Prop := y = x ∨ ∃ T t, ∃ xs : List t.den, ∃ fz fz', x = .row T t xs fz ∧ y = .row T t xs fz'
def Near (b b2 : List Blk) (ids : List Nat) : Prop := ∀ k ∈ ids, ∀ x, b[k]? = some x → ∃ y, b2[k]? = some y ∧ x.like y
theorem Blk.like_refl (x : Blk) : x.like x := .inl rfl
theorem Blk.like_trans {x y z : Blk} (h : x.like y) (k : y.like z) : x.like z := by
  rcases h with rfl | ⟨T, t, xs, f1, f2, rfl, rfl⟩
  · exact k
  · rcases k with rfl | ⟨T', t', xs', g1, g2, e1, rfl⟩
    · exact .inr ⟨T, t, xs, f1, f2, rfl, rfl⟩
    · cases e1
      exact .inr ⟨T, t, xs, f1, g2, rfl, rfl⟩
theorem Near.refl (b : List Blk) (ids : List Nat) : Near b b ids := fun k _ x h => ⟨x, h, x.like_refl⟩
theorem Near.cells {b b2 : List Blk} {ids : List Nat} (h : Near b b2 ids) {k : Nat} (hk : k ∈ ids) {T : TypeId} {cs : List Cell} (hb : b[k]? = some (.cells T cs)) : b2[k]? = some (.cells T cs) := by
  obtain ⟨y, hy, e | ⟨_, _, _, _, _, e, _⟩⟩ := h k hk _ hb
  · rw [hy, e]
  · cases e
theorem Near.row {b b2 : List Blk} {ids : List Nat} (h : Near b b2 ids) {k : Nat} (hk : k ∈ ids) {T : TypeId} {t : Ty} {xs : List t.den} {fz : Bool} (hb : b[k]? = some (.row T t xs fz)) : ∃ fz', b2[k]? = some (.row T t xs fz') := by
  obtain ⟨y, hy, e | ⟨_, _, _, _, f', e, e'⟩⟩ := h k hk _ hb
  · exact ⟨fz, by rw [hy, e]⟩
  · cases e; exact ⟨f', by rw [hy, e']⟩

theorem guarded_on (p : Option Ob) (v : V) (b b2 : List Blk) : guarded p v b2 = (guarded p v b).on b2 := by cases p <;> rfl
theorem subR_on (T : TypeId) (cs : List Cell) (p : Option Ob) (b b2 : List Blk) : subR P T cs b2 p = (subR P T cs b p).on b2 := by
  unfold subR
  cases sub P T cs with
  | some e => exact guarded_on ..
  | none => rfl
theorem binR_on (op : BinOp) (T : TypeId) (x y : Cell) (b b2 : List Blk) : binR P op T b2 x y = (binR P op T b x y).on b2 := by
  unfold binR
  split <;> first | rfl | (split <;> first | rfl | (split <;> rfl))
theorem unR_on (op : UnOp) (x : Cell) (b b2 : List Blk) : unR op b2 x = (unR op b x).on b2 := by
  unfold unR
  split <;> first | rfl | (split <;> rfl)
theorem convR_on (s d : TypeId) (x : Cell) (b b2 : List Blk) : convR P s d b2 x = (convR P s d b x).on b2 := by
  unfold convR
  split <;> rfl
theorem indexR_on (T : TypeId) (x y : Cell) (b b2 : List Blk) : indexR P T b2 x y = (indexR P T b x y).on b2 := by
  unfold indexR
  split <;> rfl
theorem fieldR_on (T : TypeId) (cs : List Cell) (f : Nat) (b b2 : List Blk) : fieldR P T b2 cs f = (fieldR P T b cs f).on b2 := by
  unfold fieldR
  split
  · split
    · exact subR_on ..
    · rfl
  · rfl
theorem buildR_on (T : TypeId) (l : List (Nat × E)) (b b2 : List Blk) : buildR P T b2 l = (buildR P T b l).on b2 := by
  unfold buildR
  split
  · split
    · split
      · split <;> rfl
      · rfl
    · rfl
  · rfl

variable {b2 : List Blk}
theorem loadR_on (T : TypeId) (c : Cell) (hn : Near b b2 c.ids) : loadR P T b c = .fail ∨ loadR P T b2 c = (loadR P T b c).on b2 := by
  unfold loadR
  cases c <;> simp only [Cell.ids] at hn ⊢ <;> try exact .inl trivial
  case ptr k off =>
    cases hb : b[k]? with
    | none => (first | exact .inl rfl | exact .inl trivial | exact .inr rfl | exact .inr trivial)
    | some x =>
      cases x <;> simp only <;> try exact .inl trivial
      case cells T' cs => rw [hn.cells (by simp) hb]; exact .inr (subR_on ..)
  case eptr k i fo =>
    cases hb : b[k]? with
    | none => (first | exact .inl rfl | exact .inl trivial | exact .inr rfl | exact .inr trivial)
    | some x =>
      cases x <;> simp only <;> try exact .inl trivial
      case row T' t xs fz =>
        obtain ⟨fz', h⟩ := hn.row (by simp) hb
        rw [h]; exact .inr (subR_on ..)
  case cptr t x fo => exact .inr (subR_on ..)
theorem moveAddr_on (o : Nat) (c : Cell) (hn : Near b b2 c.ids) : moveAddr b o c = none ∨ moveAddr b2 o c = moveAddr b o c := by
  unfold moveAddr
  cases c <;> simp only [Cell.ids] at hn ⊢ <;> try exact .inl trivial
  case ptr k off => (first | exact .inl rfl | exact .inl trivial | exact .inr rfl | exact .inr trivial)
  case eptr k i fo =>
    cases hb : b[k]? with
    | none => (first | exact .inl rfl | exact .inl trivial | exact .inr rfl | exact .inr trivial)
    | some x =>
      cases x <;> simp only <;> try exact .inl trivial
      case row T' t xs fz =>
        obtain ⟨fz', h⟩ := hn.row (by simp) hb
        rw [h]; (first | exact .inl rfl | exact .inl trivial | exact .inr rfl | exact .inr trivial)
  case cptr t x fo => (first | exact .inl rfl | exact .inl trivial | exact .inr rfl | exact .inr trivial)
theorem fieldAddrR_on (T : TypeId) (c : Cell) (f : Nat) (hn : Near b b2 c.ids) : fieldAddrR P T b c f = .fail ∨ fieldAddrR P T b2 c f = (fieldAddrR P T b c f).on b2 := by
  unfold fieldAddrR
  split
  · split
    · split
      · split
        · rename_i fd _ _ _ _ _
          rcases moveAddr_on fd.offset c hn with h | h
          · rw [h]; (first | exact .inl rfl | exact .inl trivial | exact .inr rfl | exact .inr trivial)
          · rw [h]
            cases moveAddr b fd.offset c <;> (first | exact .inl rfl | exact .inl trivial | exact .inr rfl | exact .inr trivial)
        · (first | exact .inl rfl | exact .inl trivial | exact .inr rfl | exact .inr trivial)
      · (first | exact .inl rfl | exact .inl trivial | exact .inr rfl | exact .inr trivial)
    · (first | exact .inl rfl | exact .inl trivial | exact .inr rfl | exact .inr trivial)
  · (first | exact .inl rfl | exact .inl trivial | exact .inr rfl | exact .inr trivial)
theorem indexAddrR_on (T : TypeId) (c i : Cell) (hn : Near b b2 c.ids) : indexAddrR P T b c i = .fail ∨ indexAddrR P T b2 c i = (indexAddrR P T b c i).on b2 := by
  unfold indexAddrR
  cases i <;> simp only <;> try exact .inl trivial
  case i64 n =>
    split
    · cases c <;> simp only [Cell.ids] at hn ⊢ <;> try exact .inl trivial
      case sl t xs => split <;> (first | exact .inl rfl | exact .inl trivial | exact .inr rfl | exact .inr trivial)
      case ref k =>
        cases hb : b[k]? with
        | none => (first | exact .inl rfl | exact .inl trivial | exact .inr rfl | exact .inr trivial)
        | some x =>
          cases x <;> simp only <;> try exact .inl trivial
          case cells T' cs =>
            rw [hn.cells (by simp) hb]
            simp only
            split <;> (first | exact .inl rfl | exact .inl trivial | exact .inr rfl | exact .inr trivial)
          case row T' t xs fz =>
            obtain ⟨fz', h⟩ := hn.row (by simp) hb
            rw [h]
            simp only
            split <;> (first | exact .inl rfl | exact .inl trivial | exact .inr rfl | exact .inr trivial)
      case win k lo m =>
        cases hb : b[k]? with
        | none => (first | exact .inl rfl | exact .inl trivial | exact .inr rfl | exact .inr trivial)
        | some x =>
          cases x <;> simp only <;> try exact .inl trivial
          case row T' t xs fz =>
            obtain ⟨fz', h⟩ := hn.row (by simp) hb
            rw [h]
            simp only
            split <;> (first | exact .inl rfl | exact .inl trivial | exact .inr rfl | exact .inr trivial)
    · split
      · rename_i len e _ _
        rcases moveAddr_on (n.toNat * P.cellsOf e) c hn with h | h
        · rw [h]; (first | exact .inl rfl | exact .inl trivial | exact .inr rfl | exact .inr trivial)
        · rw [h]
          cases moveAddr b (n.toNat * P.cellsOf e) c <;> (first | exact .inl rfl | exact .inl trivial | exact .inr rfl | exact .inr trivial)
      · (first | exact .inl rfl | exact .inl trivial | exact .inr rfl | exact .inr trivial)
    · (first | exact .inl rfl | exact .inl trivial | exact .inr rfl | exact .inr trivial)
theorem lenR_on (T : TypeId) (c : Cell) (hn : Near b b2 c.ids) : lenR P T b c = .fail ∨ lenR P T b2 c = (lenR P T b c).on b2 := by
  unfold lenR
  split
  · (first | exact .inl rfl | exact .inl trivial | exact .inr rfl | exact .inr trivial)
  · (first | exact .inl rfl | exact .inl trivial | exact .inr rfl | exact .inr trivial)
  · rename_i e k hT
    simp only [Cell.ids] at hn
    cases hb : b[k]? with
    | none => (first | exact .inl rfl | exact .inl trivial | exact .inr rfl | exact .inr trivial)
    | some x =>
      cases x <;> simp only <;> try exact .inl trivial
      case cells T' cs =>
        rw [hn.cells (by simp) hb]
        simp only
        split <;> (first | exact .inl rfl | exact .inl trivial | exact .inr rfl | exact .inr trivial)
      case row T' t xs fz =>
        obtain ⟨fz', h⟩ := hn.row (by simp) hb
        rw [h]
        (first | exact .inl rfl | exact .inl trivial | exact .inr rfl | exact .inr trivial)
  · rename_i e k lo n hT
    simp only [Cell.ids] at hn
    cases hb : b[k]? with
    | none => (first | exact .inl rfl | exact .inl trivial | exact .inr rfl | exact .inr trivial)
    | some x =>
      cases x <;> simp only <;> try exact .inl trivial
      case row T' t xs fz =>
        obtain ⟨fz', h⟩ := hn.row (by simp) hb
        rw [h]
        (first | exact .inl rfl | exact .inl trivial | exact .inr rfl | exact .inr trivial)
  · (first | exact .inl rfl | exact .inl trivial | exact .inr rfl | exact .inr trivial)
  · (first | exact .inl rfl | exact .inl trivial | exact .inr rfl | exact .inr trivial)
end
end Go.SM
