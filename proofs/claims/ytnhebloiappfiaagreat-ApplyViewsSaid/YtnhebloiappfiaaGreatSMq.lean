/- The S-machine, part q: blocks chosen and numbered anew. -/
import Derived.Test.YtnhebloiappfiaaGreatSMp
namespace Go.SM
set_option linter.unusedVariables false
set_option linter.unusedSimpArgs false

section
variable {P : Program} {F : Nat → Prop} {μ : List (Option Nat)} {b : List Blk} {w : World}

/-- Numbers turned: where 'ρ k = j', block j is what block k was. -/
structure Turned (ρ : Nat → Option Nat) (μ μ' : List (Option Nat)) (b b' : List Blk) : Prop where
  mu : ∀ k j x, ρ k = some j → μ[k]? = some x → μ'[j]? = some x
  blk : ∀ k j x, ρ k = some j → b[k]? = some x → ∃ y, b'[j]? = some y ∧ Sim x y

theorem mapM_turn {ρ : Nat → Option Nat} {μ μ' : List (Option Nat)} (hmu : ∀ k j x, ρ k = some j → μ[k]? = some x → μ'[j]? = some x) : ∀ {cap cap' bs : List Nat}, cap.mapM ρ = some cap' → cap.map (fun k => μ[k]?) = bs.map (fun b => some (some b)) → cap'.map (fun k => μ'[k]?) = bs.map (fun b => some (some b)) := by
  intro cap
  induction cap with
  | nil => intro cap' bs h h2; simp at h; subst h; cases bs <;> simp_all
  | cons k cap ih =>
    intro cap' bs h h2
    rw [List.mapM_cons] at h
    simp only [Option.bind_eq_bind, Option.bind_eq_some_iff] at h
    obtain ⟨j, hj, js, hjs, he⟩ := h
    cases he
    cases bs with
    | nil => simp at h2
    | cons g bs =>
      simp only [List.map_cons, List.cons.injEq] at h2 ⊢
      exact ⟨hmu k j _ hj h2.1, ih hjs h2.2⟩

theorem rnC_sound {ρ : Nat → Option Nat} {μ' : List (Option Nat)} {b' : List Blk} {F' : Nat → Prop} {w' : World} (T : Turned ρ μ μ' b b') (hF : ∀ x, F x → F' x) (hw : ∀ x, F x → w'.heap[x]? = w.heap[x]?)
    (hs : ∀ (x : Nat) (c : Array Value) (T : TypeId), w.heap[x]? = some (.cells c T (0, 0)) → ∃ c', w'.heap[x]? = some (.cells c' T (0, 0)) ∧ c'.size = c.size) {x : Cell} {v : Value} (h : CellR P w F μ b x v) : CellR P w' F' μ' b' (rnC ρ x) v := by
  have h1 := CellR_one h
  cases x with
  | dead => exact h
  | i64 n => exact h
  | u64 n => exact h
  | u8 n => exact h
  | bool n => exact h
  | str n => exact h
  | nils => exact h
  | nilp => exact h
  | nilfn => exact h
  | sl t xs => exact ER_mono hF hw (.slice t) _ _ h
  | cptr t x fo =>
    obtain ⟨x', o, cs, T', fr, e1, e2, e3, e4⟩ := h
    exact ⟨x', o, cs, T', fr, e1, hF _ e2, (hw _ e2).trans e3, ER_mono hF hw t _ _ e4⟩
  | ptr k off =>
    obtain ⟨g, h2, h3⟩ := h
    simp only [rnC]
    cases hk : ρ k with
    | none => exact h1
    | some j => exact ⟨g, T.mu k j _ hk h2, h3⟩
  | fn f cap =>
    obtain ⟨bs, h2, h3⟩ := h
    simp only [rnC]
    cases hk : cap.mapM ρ with
    | none => exact h1
    | some cap' => exact ⟨bs, h2, mapM_turn T.mu hk h3⟩
  | eptr k i fo =>
    simp only [rnC]
    cases hk : ρ k with
    | none => exact h1
    | some j =>
      refine ⟨h1, ?_⟩
      have h2 := h.2
      cases hq : b[k]? with
      | none => simp only [hq] at h2
      | some x =>
        obtain ⟨y, hy, s⟩ := T.blk k j x hk hq
        simp only [hq] at h2
        cases x with
        | gone => cases s; simp only [hy]
        | hole => exact h2.elim
        | cells T cs => exact h2.elim
        | row T' t xs fz =>
          rcases s with rfl | ⟨xs', fz', rfl, e⟩
          · simp only [hy]
          · obtain ⟨z, h3, h4, h5⟩ := h2
            simp only [hy]
            exact ⟨z, T.mu k j _ hk h3, h4, by omega⟩
  | win k lo n =>
    simp only [rnC]
    cases hk : ρ k with
    | none => exact h1
    | some j =>
      refine ⟨h1, ?_⟩
      have h2 := h.2
      cases hq : b[k]? with
      | none => simp only [hq] at h2
      | some x =>
        obtain ⟨y, hy, s⟩ := T.blk k j x hk hq
        simp only [hq] at h2
        cases x with
        | gone => cases s; simp only [hy]
        | hole => exact h2.elim
        | cells T cs => exact h2.elim
        | row T' t xs fz =>
          rcases s with rfl | ⟨xs', fz', rfl, e⟩
          · simp only [hy]
          · obtain ⟨a, cap, h3, h4, h5, h6⟩ := h2
            simp only [hy]
            exact ⟨a, cap, h3, h4, by omega, fun hp => by obtain ⟨z, h7, h8⟩ := h6 hp; exact ⟨z, T.mu k j _ hk h7, h8⟩⟩
  | ref k =>
    simp only [rnC]
    cases hk : ρ k with
    | none => exact h1
    | some j =>
      refine ⟨h1, ?_⟩
      have h2 := h.2
      cases hq : b[k]? with
      | none => simp only [hq] at h2
      | some x =>
        obtain ⟨y, hy, s⟩ := T.blk k j x hk hq
        simp only [hq] at h2
        cases x with
        | gone => cases s; simp only [hy]
        | hole => exact h2.elim
        | cells T' cs =>
          rcases s with rfl | ⟨cs', rfl, e⟩
          · simp only [hy]
          · obtain ⟨z, c, n, cap, h3, h4, h5, h6, h7, h8, h9⟩ := h2
            obtain ⟨c', h6', h7'⟩ := hs _ _ _ h6
            simp only [hy]
            exact ⟨z, c', n, cap, T.mu k j _ hk h3, h4, by omega, h6', by omega, h8, h9⟩
        | row T' t xs fz =>
          rcases s with rfl | ⟨xs', fz', rfl, e⟩
          · simp only [hy]
          · simp only [hy]
            rcases h2 with ⟨h3, h4⟩ | ⟨z, c, cap, h3, h4, h5, h6⟩
            · exact .inl ⟨T.mu k j _ hk h3, h4⟩
            · obtain ⟨c', h5', h6'⟩ := hs _ _ _ h5
              exact .inr ⟨z, c', cap, T.mu k j _ hk h3, by rw [e]; exact h4, h5', by omega⟩

section
variable {ρ : Nat → Option Nat} {μ' : List (Option Nat)} {b' : List Blk} {F' : Nat → Prop} {w' : World} (T : Turned ρ μ μ' b b') (hF : ∀ x, F x → F' x) (hw : ∀ x, F x → w'.heap[x]? = w.heap[x]?)
    (hs : ∀ (x : Nat) (c : Array Value) (T : TypeId), w.heap[x]? = some (.cells c T (0, 0)) → ∃ c', w'.heap[x]? = some (.cells c' T (0, 0)) ∧ c'.size = c.size)
include T hF hw hs
theorem rnCs_sound {xs : List Cell} {vs : List Value} (h : All2 (CellR P w F μ b) xs vs) : All2 (CellR P w' F' μ' b') (xs.map (rnC ρ)) vs := all2_map (h.mono fun _ _ => rnC_sound T hF hw hs)
theorem rnE_sound {x : E} {v : Value} (h : ElR P w F μ b x v) : ElR P w' F' μ' b' (rnE ρ x) v := by
  cases x with
  | c x => exact rnC_sound T hF hw hs h
  | agg xs => obtain ⟨vs, e, h⟩ := h; exact ⟨vs, e, rnCs_sound T hF hw hs h⟩
theorem rnV_sound {x : V} {v : Value} (h : VR P w F μ b x v) : VR P w' F' μ' b' (rnV ρ x) v := by
  cases x with
  | dead => trivial
  | e x => exact rnE_sound T hF hw hs h
  | tup xs => obtain ⟨vs, e, h⟩ := h; exact ⟨vs, e, all2_map (h.mono fun _ _ => rnE_sound T hF hw hs)⟩
/-- A block under turned numbers, its memory as it was. -/
theorem rnB_sound {m : Option Nat} {x : Blk} (hm : ∀ k y, m = some k → w.heap[k]? = some y → w'.heap[k]? = some y) (h : BlkR P w F μ b m x) : BlkR P w' F' μ' b' m (rnB ρ x) := by
  cases x with
  | gone => trivial
  | hole => exact h
  | cells T' cs =>
    obtain ⟨k, c, h1, h2, h3, h4⟩ := h
    exact ⟨k, c, h1, hm k _ h1 h2, by simpa using h3, by simpa using rnCs_sound T hF hw hs h4⟩
  | row T' t xs fz =>
    obtain ⟨h0, h00, h⟩ := h
    refine ⟨h0, h00, ?_⟩
    rcases h with h | ⟨k, c, cap, h1, h2, h3, h4, h5, h6, h7⟩
    · exact .inl h
    · exact .inr ⟨k, c, cap, h1, hm k _ h1 h2, h3, h4, h5, fun i x hx => ER_mono hF hw t _ _ (h6 i x hx), fun hf => hF _ (h7 hf)⟩
end

theorem Sim.rn (ρ : Nat → Option Nat) : ∀ (x : Blk), Sim x (rnB ρ x)
  | .gone => rfl
  | .hole => trivial
  | .cells T cs => .inr ⟨_, rfl, by simp⟩
  | .row T t xs fz => .inr ⟨xs, fz, rfl, rfl⟩
theorem mut_rn (ρ : Nat → Option Nat) : ∀ (x : Blk), (rnB ρ x).mut = x.mut
  | .gone => rfl
  | .hole => rfl
  | .cells T cs => rfl
  | .row T t xs fz => rfl

theorem idx_spec {l : List Nat} {k j : Nat} (h : idx l k = some j) : l[j]? = some k := by
  unfold idx at h
  rw [List.findIdx?_eq_some_iff_getElem] at h
  obtain ⟨hj, he, _⟩ := h
  have : k = l[j] := by simpa using he
  rw [List.getElem?_eq_getElem hj, ← this]

theorem nodup_inj {l : List Nat} (h : l.Nodup) {i j k : Nat} (hi : l[i]? = some k) (hj : l[j]? = some k) : i = j := by
  exact (List.getElem?_inj (List.getElem?_eq_some_iff.1 hi).1 h).1 (hi.trans hj.symm)

/-- Only what the order names is kept. -/
def pickμ (order : List Nat) (μ : List (Option Nat)) : List (Option Nat) := order.map fun k => μ.getD k none

theorem pickB_get {order : List Nat} {j k : Nat} (h : order[j]? = some k) : (pickB order b)[j]? = some (rnB (idx order) (b.getD k .gone)) := by simp [pickB, h]
theorem pickμ_get {order : List Nat} {j k : Nat} (h : order[j]? = some k) : (pickμ order μ)[j]? = some (μ.getD k none) := by simp [pickμ, h]
theorem pickB_inv {order : List Nat} {j : Nat} {y : Blk} (h : (pickB order b)[j]? = some y) : ∃ k, order[j]? = some k ∧ y = rnB (idx order) (b.getD k .gone) := by
  simp only [pickB, List.getElem?_map, Option.map_eq_some_iff] at h
  obtain ⟨k, hk, e⟩ := h
  exact ⟨k, hk, e.symm⟩
theorem pickμ_inv {order : List Nat} {j : Nat} {y : Option Nat} (h : (pickμ order μ)[j]? = some y) : ∃ k, order[j]? = some k ∧ y = μ.getD k none := by
  simp only [pickμ, List.getElem?_map, Option.map_eq_some_iff] at h
  obtain ⟨k, hk, e⟩ := h
  exact ⟨k, hk, e.symm⟩

theorem pick_turned (order : List Nat) : Turned (idx order) μ (pickμ order μ) b (pickB order b) := by
  refine ⟨fun k j x hk hx => ?_, fun k j x hk hx => ?_⟩
  · rw [pickμ_get (idx_spec hk)]
    simp [List.getD_eq_getElem?_getD, hx]
  · refine ⟨_, pickB_get (idx_spec hk), ?_⟩
    rw [List.getD_eq_getElem?_getD, hx]
    exact Sim.rn _ x

theorem pick_mut {order : List Nat} {j : Nat} (h : isMut (pickB order b) j = true) : ∃ k, order[j]? = some k ∧ isMut b k = true := by
  have hlt := isMut_lt h
  obtain ⟨k, hk, e⟩ := pickB_inv (List.getElem?_eq_getElem hlt)
  refine ⟨k, hk, ?_⟩
  rw [isMut_at (List.getElem?_eq_getElem hlt), e, mut_rn] at h
  unfold isMut
  rw [List.getD_eq_getElem?_getD] at h
  cases hq : b[k]? with
  | none => simp [hq, Blk.mut] at h
  | some x => simpa [hq] using h

theorem pick_mem (hm : MemR P F μ b w) {order : List Nat} (hn : order.Nodup) : MemR P F (pickμ order μ) (pickB order b) w := by
  refine ⟨by simp [pickμ, pickB], fun j y hy => ?_, fun j g hj hg => ?_, fun j j' g hj hj' hg hg' => ?_, hm.here⟩
  · obtain ⟨k, hk, rfl⟩ := pickB_inv hy
    have e : (pickμ order μ).getD j none = μ.getD k none := by rw [List.getD_eq_getElem?_getD, pickμ_get hk]; rfl
    rw [e]
    cases hq : b[k]? with
    | none => rw [show b.getD k .gone = .gone by rw [List.getD_eq_getElem?_getD, hq]; rfl]; trivial
    | some x =>
      rw [show b.getD k .gone = x by rw [List.getD_eq_getElem?_getD, hq]; rfl]
      exact rnB_sound (pick_turned order) (fun _ h => h) (fun _ _ => rfl) (fun _ c _ h => ⟨c, h, rfl⟩) (fun _ _ _ h => h) (hm.blk k x hq)
  · obtain ⟨k, hk, h⟩ := pick_mut hj
    obtain ⟨k', hk', e⟩ := pickμ_inv hg
    rw [hk] at hk'
    cases hk'
    exact hm.apart k g h (mu_of_getD e.symm)
  · obtain ⟨k, hk, h⟩ := pick_mut hj
    obtain ⟨k', hk', h'⟩ := pick_mut hj'
    obtain ⟨k2, hk2, e⟩ := pickμ_inv hg
    obtain ⟨k3, hk3, e'⟩ := pickμ_inv hg'
    rw [hk] at hk2
    cases hk2
    rw [hk'] at hk3
    cases hk3
    have := hm.inj k k' g h h' (mu_of_getD e.symm) (mu_of_getD e'.symm)
    subst this
    exact nodup_inj hn hk hk'

/-! ### The order in which blocks are met -/
theorem reach_spec (b : List Blk) : ∀ (n : Nat) (todo acc : List Nat), acc.Nodup → (reach b n todo acc).Nodup ∧ ∃ r, reach b n todo acc = acc ++ r
  | 0, todo, acc, h => by simp only [reach]; exact ⟨h, [], by simp⟩
  | n + 1, [], acc, h => by simp only [reach]; exact ⟨h, [], by simp⟩
  | n + 1, k :: r, acc, h => by
    simp only [reach]
    split
    · exact reach_spec b n r acc h
    · rename_i hc
      split
      · exact reach_spec b n r acc h
      · rename_i x hne hx
        have hn : k ∉ acc := by simpa using hc
        obtain ⟨h1, r', h2⟩ := reach_spec b n (x.ids ++ r) (acc ++ [k]) (by
          rw [List.nodup_append]
          refine ⟨h, by simp, fun z hz y hy => ?_⟩
          simp at hy
          subst hy
          exact fun e => hn (e ▸ hz))
        exact ⟨h1, k :: r', by rw [h2]; simp⟩
      · exact reach_spec b n r acc h
theorem reach_nodup (b : List Blk) (n : Nat) (todo acc : List Nat) (h : acc.Nodup) : (reach b n todo acc).Nodup := (reach_spec b n todo acc h).1

theorem reach_lt (b : List Blk) : ∀ (n : Nat) (todo acc : List Nat), (∀ k ∈ acc, ∃ x, b[k]? = some x ∧ x ≠ .hole) → ∀ k ∈ reach b n todo acc, ∃ x, b[k]? = some x ∧ x ≠ .hole
  | 0, todo, acc, h => by simp only [reach]; exact h
  | n + 1, [], acc, h => by simp only [reach]; exact h
  | n + 1, j :: r, acc, h => by
    simp only [reach]
    split
    · exact reach_lt b n r acc h
    · split
      · exact reach_lt b n r acc h
      · rename_i x hne hx
        exact reach_lt b n _ _ (fun k hk => by
          rcases List.mem_append.1 hk with hk | hk
          · exact h k hk
          · simp at hk
            subst hk
            exact ⟨x, hx, fun e => hne e⟩)
      · exact reach_lt b n r acc h

/-- The blocks that a call was handed stay where they are. -/
theorem reach_front (b : List Blk) (n m : Nat) (todo : List Nat) {k : Nat} (h : k < m) : (reach b n todo (List.range m))[k]? = some k := by
  obtain ⟨_, r, e⟩ := reach_spec b n todo (List.range m) List.nodup_range
  rw [e, List.getElem?_append_left (by simpa using h)]
  simp [h]

/-- Choosing keeps what is known since the call's begin. -/
theorem pick_upd {N : Entry} {n : Nat} {todo : List Nat} (hN : N.μ.length = N.b.length) (u : Upd P N.F N.μ N.b N.w F μ b w) :
    Upd P N.F N.μ N.b N.w F (pickμ (reach b n todo (List.range N.b.length)) μ) (pickB (reach b n todo (List.range N.b.length)) b) w := by
  have hn := reach_nodup b n todo (List.range N.b.length) List.nodup_range
  refine ⟨⟨u.grow.le, u.grow.heap, u.grow.shape, fun k x hx hh => ?_, fun k x hx => ?_⟩, pick_mem u.mem hn, u.keep, fun j g hj hg => ?_, u.fresh⟩
  · have h1 := u.grow.mu k x hx hh
    have hk : k < N.b.length := by rw [← hN]; exact (List.getElem?_eq_some_iff.1 hx).1
    rw [pickμ_get (reach_front b n _ todo hk), List.getD_eq_getElem?_getD, h1]
    rfl
  · have hk := (List.getElem?_eq_some_iff.1 hx).1
    obtain ⟨y, hy, s⟩ := u.grow.sim k x hx
    refine ⟨_, pickB_get (reach_front b n _ todo hk), ?_⟩
    rw [List.getD_eq_getElem?_getD, hy]
    exact s.trans (Sim.rn _ y)
  · obtain ⟨k, hk, h⟩ := pick_mut hj
    obtain ⟨k', hk', e⟩ := pickμ_inv hg
    rw [hk] at hk'
    cases hk'
    exact u.own k g h (mu_of_getD e.symm)
end
end Go.SM
