/- The S-machine, part n: slicing, addresses, lengths. -/
import Derived.Test.YtnhebloiappfiaaGreatSMm
namespace Go.SM
set_option linter.unusedVariables false
set_option linter.unusedSimpArgs false

section
variable {P : Program} {F : Nat → Prop} {μ : List (Option Nat)} {b : List Blk} {w : World}

theorem froze_eff {s : Sem Value} {v : V} {b' : List Blk} {val : Value} (hr : s.run P w = .ok val w) (h : Froze P w F μ b b' fun F' => VR P w F' μ b' v val) : Eff P w F μ b s v b' := by
  obtain ⟨F', u, hv⟩ := h
  exact ⟨val, w, F', μ, hr, u, hv⟩

/-- A part of frozen elements. -/
theorem ER_part {t : Ty} {xs : List t.den} {a : Option Addr} {c : Nat} (h : ER w F (.slice t) xs [.slice a xs.length c]) {l h' c' : Nat} (hl : l ≤ h') (hh : h' ≤ xs.length) (hc' : h' - l ≤ c') (a' : Option Addr) (ha : l < h' → a' = a.map (·.add (l * t.size))) :
    ER w F (.slice t) ((xs.take h').drop l) [.slice a' (h' - l) c'] := by
  obtain ⟨a0, c0, he, ⟨_, hb⟩, hE⟩ := h
  simp only [List.cons.injEq, and_true, Value.slice.injEq] at he
  obtain ⟨rfl, _, rfl⟩ := he
  have hlen : ((xs.take h').drop l).length = h' - l := by simp; omega
  refine ⟨a', c', by rw [hlen], ⟨by rw [hlen]; exact hc', by rw [hlen]; omega⟩, fun hp => ?_⟩
  rw [hlen] at hp
  obtain ⟨g, o, cs, T, fr, rfl, hF, hg, hx⟩ := hE (by omega)
  refine ⟨g, o + l * t.size, cs, T, fr, ?_, hF, hg, fun i x hi => ?_⟩
  · rw [ha (by omega)]
    simp [add_at]
  · rw [List.getElem?_drop, List.getElem?_take] at hi
    split at hi
    · have := hx (l + i) x hi
      rw [Nat.add_mul] at this
      rw [Nat.add_assoc]
      exact this
    · cases hi

theorem info_isSome' {T : TypeId} (h : (P.info? T).isSome = true) : ∃ i, P.info? T = some i ∧ i.size = P.cellsOf T := by
  obtain ⟨i, hi⟩ := Option.isSome_iff_exists.1 h
  exact ⟨i, hi, by simp [Program.cellsOf, hi]⟩

def boundV : Option Cell → Option Value → Prop
  | none, none => True
  | some (.i64 n), some v => v = .int .i64 n ∧ -9223372036854775808 ≤ n ∧ n < 9223372036854775808
  | some _, some _ => True
  | _, _ => False

theorem run_sliceBound {n : Int} {y : Nat} {code : BoundsCode} (h0 : 0 ≤ n) (h1 : n ≤ y) : (Instr.sliceBound (.int .i64 n) y code).run P w = .ok n.toNat w := by
  simp [Instr.sliceBound, asIntOf, h0, h1]

theorem run_sliceBounds (isSlice : Bool) {len cap : Nat} {lo hi : Option Cell} {vlo vhi : Option Value} {l h : Int} (hl : bound 0 lo = some l) (hh : bound (len : Int) hi = some h) (vl : boundV lo vlo) (vh : boundV hi vhi) (hcap : len ≤ cap) (h0 : 0 ≤ l) (h1 : l ≤ h) (h2 : h ≤ len) :
    (Instr.sliceBounds isSlice len cap vlo vhi none).run P w = .ok (l.toNat, h.toNat, cap) w := by
  cases hi with
  | none =>
    cases vhi with
    | some v => exact vh.elim
    | none =>
      simp only [bound, Option.some.injEq] at hh
      subst hh
      cases lo with
      | none =>
        cases vlo with
        | some v => exact vl.elim
        | none =>
          simp only [bound, Option.some.injEq] at hl
          subst hl
          simp [Instr.sliceBounds]
      | some c =>
        cases vlo with
        | none => cases c <;> exact vl.elim
        | some v =>
          cases c <;> simp [bound] at hl
          subst hl
          obtain ⟨rfl, _⟩ := vl
          simp [Instr.sliceBounds, run_sliceBound h0 (show _ ≤ (len : Int) from h1)]
  | some ch =>
    cases vhi with
    | none => cases ch <;> exact vh.elim
    | some v =>
      cases ch <;> simp [bound] at hh
      subst hh
      obtain ⟨rfl, _⟩ := vh
      rename_i hn _
      have hb : (Instr.sliceBound (.int .i64 hn) cap (if isSlice then .sliceAcap else .sliceAlen)).run P w = .ok hn.toNat w := run_sliceBound (by omega) (by omega)
      cases lo with
      | none =>
        cases vlo with
        | some v => exact vl.elim
        | none =>
          simp only [bound, Option.some.injEq] at hl
          subst hl
          simp [Instr.sliceBounds, hb]
      | some c =>
        cases vlo with
        | none => cases c <;> exact vl.elim
        | some v =>
          cases c <;> simp [bound] at hl
          subst hl
          obtain ⟨rfl, _⟩ := vl
          rename_i n _
          simp [Instr.sliceBounds, hb, run_sliceBound (P := P) (w := w) (code := .sliceB) (n := n) (y := hn.toNat) h0 (by omega)]

theorem sl_cap {t : Ty} {xs : List t.den} {v : Value} (h : ER w F (.slice t) xs [v]) : ∃ a c, v = .slice a xs.length c ∧ xs.length ≤ c ∧ xs.length ≤ big := by
  obtain ⟨a, c, he, hb, _⟩ := h
  simp only [List.cons.injEq, and_true] at he
  exact ⟨a, c, he, hb⟩

theorem boundV_of {st : St} {a : Act} (ht : TmpsR P w F μ st a) (o : Option Operand) : bound 0 (o.map (evC st)) = none ∨ boundV (o.map (evC st)) (o.map a.eval) := by
  cases o with
  | none => exact .inr trivial
  | some x =>
    cases hc : evC st x with
    | i64 n => exact .inr (by simp only [Option.map_some, hc]; exact (evC_sound ht hc (by simp) : CellR P w F μ st.blks (.i64 n) (a.eval x)))
    | _ => exact .inl (by simp [bound, hc])

theorem bound_ne {d d' : Int} {c : Option Cell} {n : Int} (h : bound d c = some n) : bound d' c ≠ none := by
  cases c with
  | none => simp [bound]
  | some x => cases x <;> simp [bound] at h ⊢

theorem winOf_sound (hm : MemR P F μ b w) {x : Cell} {vx : Value} (hx : CellR P w F μ b x vx) {k o m : Nat} {t : Ty} (h : winOf b x = some (k, o, m, t)) :
    ∃ T xs fz a cap, b[k]? = some (.row T t xs fz) ∧ vx = .slice a m cap ∧ m ≤ cap ∧ o + m ≤ xs.length ∧ xs.length ≤ big ∧ (0 < m → ∃ g, μ[k]? = some (some g) ∧ a = some ⟨g, o * t.size, none⟩) := by
  cases x <;> simp only [winOf] at h <;> try (cases h; done)
  case ref j =>
    split at h
    · rename_i T t' xs fz hq
      cases h
      have hx2 := hx.2
      simp only [hq] at hx2
      have hB := hm.blk _ _ hq
      rcases hx2 with ⟨hk, a0, rfl⟩ | ⟨g, c, cap, hk, rfl, h1, h2⟩
      · have hn : μ.getD k none = none := by simp [List.getD_eq_getElem?_getD, hk]
        rw [hn] at hB
        rcases hB.2.2 with ⟨_, rfl⟩ | ⟨_, _, _, e, _⟩
        · exact ⟨T, _, fz, a0, 0, hq, rfl, Nat.le_refl _, by simp, hB.1, fun h => absurd h (Nat.lt_irrefl 0)⟩
        · cases e
      · rw [mu_get hk] at hB
        rcases hB.2.2 with ⟨e, _⟩ | ⟨g', c', cap', e, h1', h2', h3, h4, h5, h6⟩
        · cases e
        · cases e
          have hcap : xs.length ≤ cap := by
            rw [h1] at h1'
            cases h1'
            have : cap = cap' := Nat.eq_of_mul_eq_mul_right hB.2.1 (by omega)
            omega
          exact ⟨T, xs, fz, _, cap, hq, rfl, hcap, by omega, hB.1, fun _ => ⟨g, hk, by simp⟩⟩
    · cases h
  case win j lo n =>
    split at h
    · rename_i T t' xs fz hq
      cases h
      have hx2 := hx.2
      simp only [hq] at hx2
      have hB := hm.blk _ _ hq
      obtain ⟨a, cap, rfl, h1, h2, h3⟩ := hx2
      exact ⟨T, xs, fz, a, cap, hq, rfl, h1, h2, hB.1, h3⟩
    · cases h

theorem slice3R_sound (hm : MemR P F μ b w) (T : TypeId) {x y : Cell} {vx vy : Value} (hx : CellR P w F μ b x vx) (hy : CellR P w F μ b y vy) {lo hi : Option Cell} {vlo vhi : Option Value} (hlo : bound 0 lo = none ∨ boundV lo vlo) (hhi : bound 0 hi = none ∨ boundV hi vhi) :
    (slice3R P T b x lo hi y).good (Eff P w F μ b (Instr.sliceAt T vx vlo vhi (some vy))) := by
  unfold slice3R
  split
  · rename_i e l h m hT hl
    split
    · rename_i hc
      simp only [Bool.and_eq_true, beq_iff_eq] at hc
      obtain ⟨rfl, hie⟩ := hc
      obtain ⟨ie, hie, _⟩ := info_isSome' hie
      obtain ⟨rfl, _⟩ := hy
      have vl := hlo.resolve_left (bound_ne hl)
      have vh := hhi.resolve_left (by simp [bound])
      cases vhi with
      | none => exact vh.elim
      | some vh' =>
      obtain ⟨rfl, _⟩ := vh
      have hb : ∀ len cap : Nat, (Instr.sliceBounds true len cap vlo (some (.int .i64 0)) (some (.int .i64 0))).run P w = .ok (0, 0, 0) w := by
        intro len cap
        cases lo with
        | none =>
          cases vlo with
          | some v => exact vl.elim
          | none => simp [Instr.sliceBounds, Instr.sliceBound, asIntOf]
        | some c =>
          cases vlo with
          | none => cases c <;> exact vl.elim
          | some v =>
            cases c <;> simp [bound] at hl
            subst hl
            obtain ⟨rfl, _⟩ := vl
            simp [Instr.sliceBounds, Instr.sliceBound, asIntOf]
      have fin : ∀ (a : Option Addr) (len cap : Nat), vx = .slice a len cap → (h = 0 ∧ m = 0) → Eff P w F μ b (Instr.sliceAt T vx vlo (some (.int .i64 h)) (some (.int .i64 m))) (cst .nils) b := by
        rintro a len cap rfl ⟨rfl, rfl⟩
        refine ⟨.slice a 0 0, w, F, μ, ?_, .refl hm, a, rfl⟩
        simp [Instr.sliceAt, run_underlying hT, Instr.slice, hb, sizeOf, typeInfo, hie]
      cases x <;> try exact trivial
      case sl t xs =>
        obtain ⟨a, c, rfl, _⟩ := sl_cap hx
        exact fun hp => fin _ _ _ rfl hp
      case nils =>
        obtain ⟨a, rfl⟩ := hx
        exact fun hp => fin _ _ _ rfl hp
      case ref k =>
        dsimp only
        split
        · rename_i T' t xs fz hq
          have hx2 := hx.2
          simp only [hq] at hx2
          rcases hx2 with ⟨hk, a0, rfl⟩ | ⟨g, c, cap, hk, rfl, h1, h2⟩
          · exact fun hp => fin _ _ _ rfl hp
          · exact fun hp => fin _ _ _ rfl hp
        · trivial
    · trivial
  · trivial

theorem sliceR_sound (hm : MemR P F μ b w) (T : TypeId) {x : Cell} {vx : Value} (hx : CellR P w F μ b x vx) {lo hi : Option Cell} {vlo vhi : Option Value} (hlo : bound 0 lo = none ∨ boundV lo vlo) (hhi : bound 0 hi = none ∨ boundV hi vhi) :
    (sliceR P T b x lo hi).good (Eff P w F μ b (Instr.sliceAt T vx vlo vhi none)) := by
  unfold sliceR
  split
  · rename_i k o m t hw
    split
    · rename_i e l h hT hl hh
      split
      · rename_i hsz
        simp only [Bool.and_eq_true, beq_iff_eq, Nat.blt_eq] at hsz
        obtain ⟨hsz, htp⟩ := hsz
        rintro ⟨h0, h1, h2⟩
        obtain ⟨T', xs, fz, a, c, hq, rfl, hc, hlen, hbig, ha⟩ := winOf_sound hm hx hw
        have vl := hlo.resolve_left (bound_ne hl)
        have vh := hhi.resolve_left (bound_ne hh)
        have hb := run_sliceBounds (P := P) (w := w) true hl hh vl vh hc h0 h1 h2
        cases hie : P.info? e with
        | none =>
          exfalso
          simp [Program.cellsOf, hie] at hsz
          omega
        | some ie =>
          have hies : ie.size = t.size := by rw [← hsz]; simp [Program.cellsOf, hie]
          refine ⟨.slice (if c = l.toNat then a else a.map (·.add (l.toNat * t.size))) (h.toNat - l.toNat) (c - l.toNat), w, F, μ, ?_, .refl hm, rfl, ?_⟩
          · simp [Instr.sliceAt, run_underlying hT, Instr.slice, hb, sizeOf, typeInfo, hie, hies]
          · simp only [hq]
            refine ⟨_, _, rfl, by omega, by omega, fun hp => ?_⟩
            obtain ⟨g, hk, rfl⟩ := ha (by omega)
            refine ⟨g, hk, ?_⟩
            rw [if_neg (by omega)]
            simp [add_at, Nat.add_mul]
      · trivial
    · trivial
  have hx1 := hx
  have u1 := Upd.refl hm
  split
  · rename_i t xs _
    split
    · rename_i e l h hT hl hh
      split
      · rename_i hsz
        simp only [Bool.and_eq_true, beq_iff_eq, Nat.blt_eq] at hsz
        obtain ⟨hsz, htp⟩ := hsz
        rintro ⟨h0, h1, h2⟩
        obtain ⟨a, c, rfl, hc, hbig⟩ := sl_cap hx1
        have vl := hlo.resolve_left (bound_ne hl)
        have vh := hhi.resolve_left (bound_ne hh)
        have hb := run_sliceBounds (P := P) (w := w) true hl hh vl vh hc h0 h1 h2
        cases hie : P.info? e with
        | none =>
          exfalso
          simp [Program.cellsOf, hie] at hsz
          omega
        | some ie =>
          have hies : ie.size = t.size := by rw [← hsz]; simp [Program.cellsOf, hie]
          refine ⟨.slice (if c = l.toNat then a else a.map (·.add (l.toNat * t.size))) (h.toNat - l.toNat) (c - l.toNat), w, F, μ, ?_, u1, ?_⟩
          · simp [Instr.sliceAt, run_underlying hT, Instr.slice, hb, sizeOf, typeInfo, hie, hies]
          · exact ER_part hx1 (by omega) (by omega) (by omega) _ (fun hlt => by rw [if_neg (by omega)])
      · trivial
    · trivial
  · rename_i s' _
    · obtain ⟨ba, rfl, hs2, hs3⟩ := hx
      split
      · rename_i l h hT hl hh
        rintro ⟨h0, h1, h2⟩
        have vl := hlo.resolve_left (bound_ne hl)
        have vh := hhi.resolve_left (bound_ne hh)
        have hsz : ba.size = s'.length := by rw [← hs2]; simp
        have hb := run_sliceBounds (P := P) (w := w) (len := s'.length) (cap := s'.length) false hl hh vl vh (Nat.le_refl _) h0 h1 h2
        refine ⟨.string (ba.extract l.toNat h.toNat), w, F, μ, ?_, .refl hm, ?_⟩
        · simp [Instr.sliceAt, run_underlying hT, Instr.slice, hsz, hb]
        · refine ⟨_, rfl, ?_, by simp; omega⟩
          rw [← hs2]
          rw [ByteArray.data_extract, Array.toList_extract]
          simp [List.extract, List.take_drop, show l.toNat + (h.toNat - l.toNat) = h.toNat by omega]
      · trivial
  · trivial
end
end Go.SM
