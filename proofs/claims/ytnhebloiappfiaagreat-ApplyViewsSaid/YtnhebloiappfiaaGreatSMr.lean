/- The S-machine, part r: what a call hands over comes back. -/
import Derived.Test.YtnhebloiappfiaaGreatSMq
namespace Go.SM
set_option linter.unusedVariables false
set_option linter.unusedSimpArgs false

section
variable {P : Program} {F F' : Nat → Prop} {μ μ' : List (Option Nat)} {b b' : List Blk} {w w' : World}

def backμ (order : List Nat) (μ μ' : List (Option Nat)) : List (Option Nat) := μ ++ μ'.drop order.length

theorem backN_old {order : List Nat} {n j k : Nat} (h : order[j]? = some k) : backN order n j = some k := by
  unfold backN
  rw [if_pos (by simpa using (List.getElem?_eq_some_iff.1 h).1)]
  exact h
theorem backN_new {order : List Nat} {n j : Nat} (h : order.length ≤ j) : backN order n j = some (n + (j - order.length)) := by
  unfold backN
  rw [if_neg (by simp; omega)]

theorem backB_old {order : List Nat} {k : Nat} (hk : k < b.length) : (backB order b b')[k]? = some (match idx order k with | some j => rnB (backN order b.length) (b'.getD j .gone) | none => b.getD k .gone) := by
  unfold backB
  rw [List.getElem?_append_left (by simpa using hk)]
  simp [hk]
  cases idx order k <;> rfl
theorem backB_new {order : List Nat} {i : Nat} : (backB order b b')[b.length + i]? = (b'[order.length + i]?).map (rnB (backN order b.length)) := by
  unfold backB
  rw [List.getElem?_append_right (by simp)]
  simp

theorem idx_none {l : List Nat} {k : Nat} (h : idx l k = none) : k ∉ l := by
  unfold idx at h
  rw [List.findIdx?_eq_none_iff] at h
  intro hk
  have := h k hk
  simp at this
theorem idx_some {l : List Nat} {k j : Nat} (hn : l.Nodup) (h : l[j]? = some k) : idx l k = some j := by
  cases hq : idx l k with
  | none => exact absurd (List.mem_of_getElem? h) (idx_none hq)
  | some i => rw [nodup_inj hn (idx_spec hq) h]

/-- The callee's step, seen by the caller. -/
theorem back_upd (hm : MemR P F μ b w) {order : List Nat} (hn : order.Nodup) (hin' : ∀ k ∈ order, ∃ x, b[k]? = some x ∧ x ≠ .hole) (u : Upd P F (pickμ order μ) (pickB order b) w F' μ' b' w') :
    Upd P F μ b w F' (backμ order μ μ') (backB order b b') w' ∧ Turned (backN order b.length) μ' (backμ order μ μ') b' (backB order b b') := by
  have hin : ∀ k ∈ order, k < b.length := fun k hk => by
    obtain ⟨x, hx, _⟩ := hin' k hk
    exact (List.getElem?_eq_some_iff.1 hx).1
  have hlen : order.length ≤ b'.length := by
    rcases Nat.eq_zero_or_pos order.length with h0 | h0
    · omega
    · obtain ⟨y, hy, _⟩ := u.grow.sim (order.length - 1) _ (List.getElem?_eq_getElem (show order.length - 1 < (pickB order b).length by simp [pickB]; omega))
      have := (List.getElem?_eq_some_iff.1 hy).1
      omega
  -- what the caller's block k is behind the call
  have old_mu : ∀ {j k : Nat}, order[j]? = some k → μ'[j]? = some (μ.getD k none) := fun {j k} h => u.grow.mu _ _ (pickμ_get h) (.inr (by
    obtain ⟨x, hx, hne⟩ := hin' k (List.mem_of_getElem? h)
    refine ⟨_, pickB_get h, ?_⟩
    rw [show b.getD k .gone = x by rw [List.getD_eq_getElem?_getD, hx]; rfl]
    exact (Sim.rn _ x).live hne))
  have old_blk : ∀ {j k : Nat}, order[j]? = some k → ∃ y, b'[j]? = some y ∧ Sim (b.getD k .gone) y := by
    intro j k h
    obtain ⟨y, hy, s⟩ := u.grow.sim j _ (pickB_get h)
    exact ⟨y, hy, (Sim.rn _ _).trans s⟩
  have T : Turned (backN order b.length) μ' (backμ order μ μ') b' (backB order b b') := by
    refine ⟨fun j k x hj hx => ?_, fun j k x hj hx => ?_⟩
    · by_cases hlt : j < order.length
      · have ho : order[j]? = some order[j] := List.getElem?_eq_getElem hlt
        rw [backN_old ho] at hj
        cases hj
        have hk := hin _ (List.mem_of_getElem? ho)
        rw [old_mu ho] at hx
        cases hx
        unfold backμ
        rw [List.getElem?_append_left (by rw [hm.len]; exact hk), List.getD_eq_getElem?_getD, List.getElem?_eq_getElem (by rw [hm.len]; exact hk)]
        rfl
      · rw [backN_new (by omega)] at hj
        cases hj
        unfold backμ
        rw [← hm.len, List.getElem?_append_right (by omega), List.getElem?_drop]
        rw [show order.length + (μ.length + (j - order.length) - μ.length) = j by omega]
        exact hx
    · by_cases hlt : j < order.length
      · have ho : order[j]? = some order[j] := List.getElem?_eq_getElem hlt
        rw [backN_old ho] at hj
        cases hj
        have hk := hin _ (List.mem_of_getElem? ho)
        refine ⟨_, backB_old hk, ?_⟩
        rw [idx_some hn ho]
        simp only [List.getD_eq_getElem?_getD, hx]
        exact Sim.rn _ x
      · rw [backN_new (by omega)] at hj
        cases hj
        refine ⟨rnB (backN order b.length) x, ?_, Sim.rn _ x⟩
        rw [backB_new, show order.length + (j - order.length) = j by omega, hx]
        rfl
  have g : Grow F μ b w F' (backμ order μ μ') (backB order b b') w' := by
    refine ⟨u.grow.le, u.grow.heap, u.grow.shape, fun k x hx _ => ?_, fun k x hx => ?_⟩
    · unfold backμ
      rw [List.getElem?_append_left (List.getElem?_eq_some_iff.1 hx).1]
      exact hx
    · have hk := (List.getElem?_eq_some_iff.1 hx).1
      refine ⟨_, backB_old hk, ?_⟩
      cases hq : idx order k with
      | none => simp only [List.getD_eq_getElem?_getD, hx]; exact Sim.refl x
      | some j =>
        obtain ⟨y, hy, s⟩ := old_blk (idx_spec hq)
        rw [List.getD_eq_getElem?_getD, hx] at s
        simp only [List.getD_eq_getElem?_getD, hy]
        exact s.trans (Sim.rn _ y)
  -- which of the caller's blocks may be written behind the call
  have mut_back : ∀ {k g : Nat}, isMut (backB order b b') k = true → (backμ order μ μ')[k]? = some (some g) →
      (∃ j, isMut b' j = true ∧ μ'[j]? = some (some g) ∧ (∀ i, order[j]? = some i → k = i) ∧ (order.length ≤ j → k = b.length + (j - order.length))) ∨ (k ∉ order ∧ isMut b k = true ∧ μ[k]? = some (some g)) := by
    intro k gg hk hg
    by_cases hlt : k < b.length
    · have hmu : μ[k]? = some (some gg) := by unfold backμ at hg; rwa [List.getElem?_append_left (by rw [hm.len]; exact hlt)] at hg
      rw [isMut_at (backB_old hlt)] at hk
      cases hq : idx order k with
      | none =>
        simp only [hq] at hk
        refine .inr ⟨idx_none hq, ?_, hmu⟩
        unfold isMut
        rw [List.getElem?_eq_getElem hlt]
        rw [List.getD_eq_getElem?_getD, List.getElem?_eq_getElem hlt] at hk
        exact hk
      | some j =>
        simp only [hq] at hk
        rw [mut_rn] at hk
        have ho := idx_spec hq
        refine .inl ⟨j, ?_, ?_, fun i hi => ?_, fun hge => ?_⟩
        · unfold isMut
          rw [List.getD_eq_getElem?_getD] at hk
          cases hj : b'[j]? with
          | none => simp [hj, Blk.mut] at hk
          | some y => simpa [hj] using hk
        · rw [old_mu ho, mu_get hmu]
        · rw [ho] at hi; cases hi; rfl
        · have := (List.getElem?_eq_some_iff.1 ho).1; omega
    · obtain ⟨i, rfl⟩ : ∃ i, k = b.length + i := ⟨k - b.length, by omega⟩
      have hl := isMut_lt hk
      rw [isMut_at (List.getElem?_eq_getElem hl)] at hk
      have he : (backB order b b')[b.length + i]? = (b'[order.length + i]?).map (rnB (backN order b.length)) := backB_new
      rw [List.getElem?_eq_getElem hl] at he
      cases hj : b'[order.length + i]? with
      | none => simp [hj] at he
      | some y =>
        rw [hj] at he
        simp only [Option.map_some, Option.some.injEq] at he
        rw [he, mut_rn] at hk
        refine .inl ⟨order.length + i, by simp [isMut, hj, hk], ?_, fun i' hi' => ?_, fun _ => by omega⟩
        · unfold backμ at hg
          rw [← hm.len, List.getElem?_append_right (by omega), List.getElem?_drop] at hg
          rwa [show order.length + (μ.length + i - μ.length) = order.length + i by omega] at hg
        · have := (List.getElem?_eq_some_iff.1 hi').1; omega
  -- a block that was not handed over: the callee did not touch it
  have apart : ∀ {k g : Nat}, k ∉ order → isMut b k = true → μ[k]? = some (some g) → ¬ ∃ j, isMut (pickB order b) j = true ∧ (pickμ order μ)[j]? = some (some g) := by
    rintro k gg hk h1 h2 ⟨j, hj, hg⟩
    obtain ⟨i, hi, him⟩ := pick_mut hj
    obtain ⟨i', hi', e⟩ := pickμ_inv hg
    rw [hi] at hi'
    cases hi'
    have := hm.inj k i gg h1 him h2 (mu_of_getD e.symm)
    exact hk (this ▸ List.mem_of_getElem? hi)
  have untouched : ∀ {k g : Nat}, k ∉ order → isMut b k = true → μ[k]? = some (some g) → w'.heap[g]? = w.heap[g]? := fun hk h1 h2 => u.keep.block _ (hm.lt h1 h2) (apart hk h1 h2)
  -- such a block has none of the callee's
  have unlike : ∀ {k g j : Nat}, k ∉ order → isMut b k = true → μ[k]? = some (some g) → isMut b' j = true → μ'[j]? = some (some g) → False := by
    intro k gg j hk h1 h2 h3 h4
    rcases u.own j gg h3 h4 with h | h
    · exact apart hk h1 h2 h
    · have := hm.lt h1 h2; omega
  have notF : ∀ {k g : Nat}, k ∉ order → isMut b k = true → μ[k]? = some (some g) → ¬ F' g := by
    intro k gg hk h1 h2 hf
    rcases u.fresh gg hf with hf | hf | hf
    · exact hm.apart k gg h1 h2 hf
    · exact apart hk h1 h2 hf
    · have := hm.lt h1 h2; omega
  have here : ∀ {k : Nat}, k < b.length → (backμ order μ μ').getD k none = μ.getD k none := by
    intro k hk
    simp [backμ, List.getD_eq_getElem?_getD, List.getElem?_append_left (show k < μ.length by rw [hm.len]; exact hk)]
  refine ⟨⟨g, ⟨?_, fun k x hx => ?_, fun k gg hk hg => ?_, fun k k' gg hk hk' hg hg' => ?_, u.mem.here⟩, ?_, fun k gg hk hg => ?_, fun x hx => ?_⟩, T⟩
  · simp [backμ, backB, hm.len, u.mem.len]
  · by_cases hlt : k < b.length
    · rw [backB_old hlt] at hx
      rw [here hlt]
      cases hq : idx order k with
      | none =>
        simp only [hq, Option.some.injEq] at hx
        subst hx
        obtain ⟨x, hb⟩ : ∃ x, b[k]? = some x := ⟨_, List.getElem?_eq_getElem hlt⟩
        have hd : b.getD k .gone = x := by rw [List.getD_eq_getElem?_getD, hb]; rfl
        rw [hd]
        have hB := hm.blk k x hb
        cases x with
        | gone => trivial
        | hole => exact hB
        | cells T' cs =>
          exact BlkR.mono g (fun i o hi ho => by rw [untouched (idx_none hq) (by rw [isMut_at hb]; rfl) (mu_of_getD hi)]; exact ho) hB
        | row T' t xs fz =>
          cases fz with
          | false => exact BlkR.mono g (fun i o hi ho => by rw [untouched (idx_none hq) (by rw [isMut_at hb]; rfl) (mu_of_getD hi)]; exact ho) hB
          | true =>
            refine BlkR.mono g (fun i o hi ho => ?_) hB
            rcases hB.2.2 with ⟨hn', _⟩ | ⟨m', c, cap, h1, _, _, _, _, _, h7⟩
            · rw [hi] at hn'; cases hn'
            · rw [hi] at h1
              cases h1
              rw [u.grow.heap _ (h7 rfl)]
              exact ho
      | some j =>
        simp only [hq, Option.some.injEq] at hx
        subst hx
        have ho := idx_spec hq
        obtain ⟨y, hy, _⟩ := old_blk ho
        have hyd : b'.getD j .gone = y := by rw [List.getD_eq_getElem?_getD, hy]; rfl
        rw [hyd]
        have hB := u.mem.blk j y hy
        have e : μ'.getD j none = μ.getD k none := by rw [List.getD_eq_getElem?_getD, old_mu ho]; rfl
        rw [e] at hB
        exact rnB_sound T (fun _ h => h) (fun _ _ => rfl) (fun _ c _ h => ⟨c, h, rfl⟩) (fun _ _ _ h => h) hB
    · obtain ⟨i, rfl⟩ : ∃ i, k = b.length + i := ⟨k - b.length, by omega⟩
      rw [backB_new] at hx
      cases hj : b'[order.length + i]? with
      | none => simp [hj] at hx
      | some y =>
        simp only [hj, Option.map_some, Option.some.injEq] at hx
        subst hx
        have hB := u.mem.blk _ y hj
        have e : (backμ order μ μ').getD (b.length + i) none = μ'.getD (order.length + i) none := by
          unfold backμ
          rw [List.getD_eq_getElem?_getD, List.getD_eq_getElem?_getD, ← hm.len, List.getElem?_append_right (by omega), List.getElem?_drop]
          rw [show order.length + (μ.length + i - μ.length) = order.length + i by omega]
        rw [e]
        exact rnB_sound T (fun _ h => h) (fun _ _ => rfl) (fun _ c _ h => ⟨c, h, rfl⟩) (fun _ _ _ h => h) hB
  · rcases mut_back hk hg with ⟨j, h1, h2, _⟩ | ⟨h1, h2, h3⟩
    · exact u.mem.apart j gg h1 h2
    · exact notF h1 h2 h3
  · rcases mut_back hk hg with ⟨j, h1, h2, h3, h4⟩ | ⟨h1, h2, h3⟩ <;> rcases mut_back hk' hg' with ⟨j', h1', h2', h3', h4'⟩ | ⟨h1', h2', h3'⟩
    · have := u.mem.inj j j' gg h1 h1' h2 h2'
      subst this
      by_cases hlt : j < order.length
      · rw [h3 _ (List.getElem?_eq_getElem hlt), h3' _ (List.getElem?_eq_getElem hlt)]
      · rw [h4 (by omega), h4' (by omega)]
    · exact (unlike h1' h2' h3' h1 h2).elim
    · exact (unlike h1 h2 h3 h1' h2').elim
    · exact hm.inj k k' gg h2 h2' h3 h3'
  · refine ⟨u.keep.os, u.keep.tape, u.keep.output, u.keep.size, fun x hx hn' => u.keep.block x hx ?_, u.keep.shape⟩
    rintro ⟨j, hj, hg⟩
    obtain ⟨i, hi, him⟩ := pick_mut hj
    obtain ⟨i', hi', e⟩ := pickμ_inv hg
    rw [hi] at hi'
    cases hi'
    exact hn' ⟨i, him, mu_of_getD e.symm⟩
  · rcases mut_back hk hg with ⟨j, h1, h2, h3, h4⟩ | ⟨h1, h2, h3⟩
    · rcases u.own j gg h1 h2 with ⟨i, hi, hgi⟩ | h
      · obtain ⟨q, hq, hqm⟩ := pick_mut hi
        obtain ⟨q', hq', e⟩ := pickμ_inv hgi
        rw [hq] at hq'
        cases hq'
        exact .inl ⟨q, hqm, mu_of_getD e.symm⟩
      · exact .inr h
    · exact .inl ⟨k, h2, h3⟩
  · rcases u.fresh x hx with hf | ⟨j, hj, hg⟩ | hf
    · exact .inl hf
    · obtain ⟨i, hi, him⟩ := pick_mut hj
      obtain ⟨i', hi', e⟩ := pickμ_inv hg
      rw [hi] at hi'
      cases hi'
      exact .inr (.inl ⟨i, him, mu_of_getD e.symm⟩)
    · exact .inr (.inr hf)
end
end Go.SM
