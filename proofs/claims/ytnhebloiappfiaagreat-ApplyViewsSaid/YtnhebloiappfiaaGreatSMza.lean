/- The S-machine, part za: a region of open order. -/
import Derived.Test.YtnhebloiappfiaaGreatSMz
namespace Go.SM
set_option linter.unusedVariables false
set_option linter.unusedSimpArgs false

section
variable {P : Program} {N : Entry} {F : Nat → Prop} {μ : List (Option Nat)} {w : World} {st : St} {a : Act} {o : Oper} {H : Hint}

theorem gd_wanted {ops : Array Oper} {y : Bool} (h : Rel P N F μ st a w) (hg : Gd ops.toList o st y) : Region.wanted o (yielded ops a.tmps) = y := by
  unfold Gd at hg
  cases hq : o.guard with
  | none => rw [hq] at hg; simp only at hg; rw [hg]; simp [Region.wanted, hq]
  | some q =>
    obtain ⟨j, want⟩ := q
    rw [hq] at hg
    rcases hg with ⟨z, hz, rfl⟩ | ⟨hz, rfl⟩
    · simp [Region.wanted, hq, yield_bool h hz]
    · simp [Region.wanted, hq, yield_none h hz]

/-! ### Which stands before which -/
theorem before1_spec {bs : List Nat} {o : Oper} {c : Nat} (h : (before1 bs o).testBit c = true) : ∃ e ∈ o.after, Region.binds .any e = true ∧ (e.on = c ∨ (bs.getD e.on 0).testBit c = true) := by
  unfold before1 at h
  have key : ∀ (es : List Edge) (s : Nat), (es.foldl (fun s e => if Region.binds .any e then s ||| (2 ^ e.on ||| bs.getD e.on 0) else s) s).testBit c = true →
      s.testBit c = true ∨ ∃ e ∈ es, Region.binds .any e = true ∧ (e.on = c ∨ (bs.getD e.on 0).testBit c = true) := by
    intro es
    induction es with
    | nil => intro s h; exact .inl h
    | cons e es ih =>
      intro s h
      rw [List.foldl_cons] at h
      rcases ih _ h with h | ⟨e', he', h⟩
      · split at h
        · rename_i hb
          rw [Nat.testBit_or, Nat.testBit_or, Bool.or_eq_true, Bool.or_eq_true] at h
          rcases h with h | h | h
          · exact .inl h
          · rw [Nat.testBit_two_pow] at h
            exact .inr ⟨e, by simp, hb, .inl (by simpa using h)⟩
          · exact .inr ⟨e, by simp, hb, .inr h⟩
        · exact .inl h
      · exact .inr ⟨e', by simp [he'], h⟩
  rcases key _ 0 h with h | ⟨e, he, h⟩
  · simp at h
  · exact ⟨e, by simpa using he, h⟩
theorem bitsOk_spec {bs : List Nat} : ∀ {ops : List Oper} {n : Nat}, bitsOk bs n ops = true → ∀ i o, ops[i]? = some o → bs.getD (n + i) 0 = before1 bs o ∧ ∀ e ∈ o.after, Region.binds .any e = true → e.on < n + i
  | [], n, _, i, o, h => by simp at h
  | x :: r, n, hb, i, o, h => by
    simp only [bitsOk, Bool.and_eq_true, Nat.beq_eq] at hb
    obtain ⟨⟨h1, h2⟩, h3⟩ := hb
    cases i with
    | zero =>
      simp at h
      subst h
      refine ⟨h1, fun e he hbe => ?_⟩
      have := List.all_eq_true.1 h2 e (by simpa using he)
      simp only [hbe, Bool.not_true, Bool.false_or] at this
      simpa using this
    | succ i =>
      have := bitsOk_spec h3 i o (by simpa using h)
      rw [show n + (i + 1) = n + 1 + i by omega]
      exact this
theorem pairsOk_spec {ops : List Oper} {bs : List Nat} : ∀ {l : List Nat}, pairsOk P ops bs l = true → l.Pairwise fun c i => pairOk P ops bs c i = true ∧ c ≠ i
  | [], _ => .nil
  | c :: r, h => by
    simp only [pairsOk, Bool.and_eq_true] at h
    refine .cons (fun i hi => ?_) (pairsOk_spec h.2)
    have := List.all_eq_true.1 h.1 i hi
    simp only [Bool.and_eq_true, Bool.not_eq_true'] at this
    refine ⟨this.1, ?_⟩
    rintro rfl
    simp at this
theorem allIn_spec {l : List Nat} : ∀ {n : Nat}, allIn l n = true → ∀ i, i < n → i ∈ l
  | n + 1, h, i, hi => by
    simp only [allIn, Bool.and_eq_true] at h
    by_cases he : i = n
    · subst he
      obtain ⟨x, hx, hb⟩ := List.any_eq_true.1 h.1
      rw [Nat.eq_of_beq_eq_true hb]
      exact hx
    · exact allIn_spec h.2 i (by omega)

theorem nodup_le : ∀ {l m : List Nat}, l.Nodup → (∀ x ∈ l, x ∈ m) → l.length ≤ m.length
  | [], m, _, _ => Nat.zero_le _
  | x :: l, m, hn, hs => by
    rw [List.nodup_cons] at hn
    have hx := hs x (by simp)
    have := nodup_le (l := l) (m := m.erase x) hn.2 fun y hy => by
      have hne : y ≠ x := fun e => hn.1 (e ▸ hy)
      exact (List.mem_erase_of_ne hne).2 (hs y (by simp [hy]))
    rw [List.length_erase_of_mem hx] at this
    have := List.length_pos_of_mem hx
    simp
    omega
theorem exists_min : ∀ (l : List Nat), l ≠ [] → ∃ m ∈ l, ∀ k ∈ l, m ≤ k
  | [x], _ => ⟨x, by simp, by simp⟩
  | x :: y :: r, _ => by
    obtain ⟨m, hm, hle⟩ := exists_min (y :: r) (by simp)
    by_cases hx : x ≤ m
    · exact ⟨x, by simp, fun k hk => by
        rcases List.mem_cons.1 hk with rfl | hk
        · exact Nat.le_refl _
        · exact Nat.le_trans hx (hle k hk)⟩
    · exact ⟨m, by simp [hm], fun k hk => by
        rcases List.mem_cons.1 hk with rfl | hk
        · omega
        · exact hle k hk⟩

theorem getD_in {l : Array Bool} {i : Nat} (d : Bool) (h : i < l.size) : l.getD i d = l[i] := by simp [Array.getD, h]

/-- EVERY ORDER. -/
theorem dany {ops : Array Oper} {bs : List Nat} {base : Nat} {K : St → Prop} {Q : Exit → Act → World → Prop}
    (hq : ∀ F' μ' st' a' w', Rel P N F' μ' st' a' w' → K st' → Q .normal a' w')
    (hbits : ∀ i o, ops[i]? = some o → bs.getD i 0 = before1 bs o ∧ ∀ e ∈ o.after, Region.binds .any e = true → e.on < i) :
    ∀ (n : Nat) (L : List Nat) (listed : Array Bool) (F : Nat → Prop) (μ : List (Option Nat)) (st : St) (a : Act) (w : World),
      L.length = n → listed.size = ops.size → (∀ i, i ∈ L ↔ i < ops.size ∧ listed.getD i true = false) → (L.Pairwise fun c i => pairOk P ops.toList bs c i = true ∧ c ≠ i) →
      (∀ j c, listed.getD j false = true → (bs.getD j 0).testBit c = true → listed.getD c false = true) →
      Rel P N F μ st a w → drun P H ops.toList bs base L [] st K → wpAny P .any ops Q n listed a w := by
  intro n
  induction n with
  | zero =>
    intro L listed F μ st a w hl hs hm hp hcl hr hd
    have hL : L = [] := List.eq_nil_of_length_eq_zero hl
    subst hL
    refine ⟨?_, hq _ _ _ _ _ hr hd⟩
    rw [List.eq_nil_iff_forall_not_mem]
    intro i hi
    obtain ⟨h1, o, h2, _⟩ := mem_ready.1 hi
    have := (hm i).2 ⟨(Array.getElem?_eq_some_iff.1 h2).1, h1⟩
    simp at this
  | succ n ih =>
    intro L listed F μ st a w hl hs hm hp hcl hr hd
    refine ⟨fun h0 => ?_, fun i hi => ?_⟩
    · exfalso
      obtain ⟨m, hmL, hmin⟩ := exists_min L (by rintro rfl; simp at hl)
      obtain ⟨h1, h2⟩ := (hm m).1 hmL
      have : m ∈ Region.ready .any ops listed := by
        rw [mem_ready]
        refine ⟨h2, ops[m], Array.getElem?_eq_getElem h1, fun e he hb => ?_⟩
        have hlt := (hbits m _ (Array.getElem?_eq_getElem h1)).2 e he hb
        have hon : e.on < ops.size := by omega
        cases hv : listed.getD e.on false with
        | true => rfl
        | false =>
          have : e.on ∈ L := (hm e.on).2 ⟨hon, by rw [getD_in _ (by omega)] at hv ⊢; exact hv⟩
          have := hmin _ this
          omega
      rw [h0] at this
      cases this
    · obtain ⟨h1, oi, hoi, hall⟩ := mem_ready.1 hi
      have hisz := (Array.getElem?_eq_some_iff.1 hoi).1
      have hiL := (hm i).2 ⟨hisz, h1⟩
      obtain ⟨L1, L2, rfl⟩ := List.append_of_mem hiL
      rw [List.pairwise_append] at hp
      obtain ⟨p1, p2, p3⟩ := hp
      rw [List.pairwise_cons] at p2
      have hbit : ∀ c, (bs.getD i 0).testBit c = true → listed.getD c false = true := by
        intro c hc
        rw [(hbits i oi hoi).1] at hc
        obtain ⟨e, he, hb, h⟩ := before1_spec hc
        have hel := hall e he hb
        rcases h with rfl | h
        · exact hel
        · exact hcl _ _ hel h
      have hfree : ∀ c ∈ L1, ∃ oc, ops.toList[c]? = some oc ∧ oc.apart ops.toList.toArray oi = true ∧ compat (cls P oc.op) (cls P oi.op) = true ∧ (bs.getD i 0).testBit c = false := by
        intro c hc
        have hnb : (bs.getD i 0).testBit c = false := by
          cases hb : (bs.getD i 0).testBit c with
          | false => rfl
          | true =>
            have h3 := hbit c hb
            obtain ⟨h4, h5⟩ := (hm c).1 (by simp [hc])
            rw [getD_in _ (by omega)] at h3 h5
            rw [h3] at h5
            cases h5
        have hpo := (p3 c hc i (by simp)).1
        unfold pairOk at hpo
        rw [hnb, Bool.false_or] at hpo
        split at hpo
        · rename_i x y hx hy
          rw [show ops.toList[i]? = some oi by simpa using hoi] at hy
          cases hy
          simp only [Bool.and_eq_true] at hpo
          exact ⟨x, hx, hpo.1, hpo.2, hnb⟩
        · cases hpo
      obtain ⟨tl, tb⟩ := st
      have hfr := front (P := P) (H := H) (bs := bs) (base := base) (K := K) (L2 := L2) (show ops.toList[i]? = some oi by simpa using hoi) L1 [] tl tb hfree hd
      have hne : ∀ k ∈ L1 ++ L2, k ≠ i := by
        intro k hk
        rcases List.mem_append.1 hk with hk | hk
        · exact (p3 k hk i (by simp)).2
        · exact Ne.symm (p2.1 k hk).2
      have next : ∀ F' μ' st' a' w', Rel P N F' μ' st' a' w' → drun P H ops.toList bs base (L1 ++ L2) [] st' K → wpAny P .any ops Q n (listed.setIfInBounds i true) a' w' := by
        intro F' μ' st' a' w' hr' hd'
        refine ih (L1 ++ L2) _ F' μ' st' a' w' (by simp at hl ⊢; omega) (by simpa using hs) (fun j => ?_) ?_ ?_ hr' hd'
        · constructor
          · intro hj
            obtain ⟨h2, h3⟩ := (hm j).1 (by
              rcases List.mem_append.1 hj with hj | hj
              · exact List.mem_append_left _ hj
              · exact List.mem_append_right _ (List.mem_cons_of_mem _ hj))
            exact ⟨h2, by rw [getD_set_ne true (Ne.symm (hne j hj))]; exact h3⟩
          · rintro ⟨h2, h3⟩
            have hji : j ≠ i := by
              rintro rfl
              rw [getD_in _ (by simp; omega)] at h3
              simp at h3
            rw [getD_set_ne true (Ne.symm hji)] at h3
            have := (hm j).2 ⟨h2, h3⟩
            rcases List.mem_append.1 this with h4 | h4
            · exact List.mem_append_left _ h4
            · rcases List.mem_cons.1 h4 with h4 | h4
              · exact absurd h4 hji
              · exact List.mem_append_right _ h4
        · rw [List.pairwise_append]
          exact ⟨p1, p2.2, fun c hc k hk => p3 c hc k (List.mem_cons_of_mem _ hk)⟩
        · intro j c hj hc
          by_cases hji : j = i
          · subst hji
            exact getD_set_true (hbit c hc)
          · rw [getD_set_ne false (Ne.symm hji)] at hj
            exact getD_set_true (hcl j c hj hc)
      unfold wpOp
      simp only [hoi]
      rcases hfr with ⟨hg, _, v, b', hds, hrun⟩ | ⟨hg, hrun⟩
      · rw [gd_wanted hr hg]
        simp only [if_true]
        exact .inl (DS_sound hr hds fun F' μ' a' w' hr' => next F' μ' _ a' w' hr' hrun)
      · rw [gd_wanted hr hg]
        simp only [Bool.false_eq_true, if_false]
        exact next F μ _ _ w (Rel.put (v := none0) hr (.refl hr.mem) none0_sound rfl) hrun

theorem holes (h : MemR P F μ st.blks w) : ∀ n, Upd P F μ st.blks w F (μ ++ List.replicate n none) (st.blks ++ List.replicate n .hole) w
  | 0 => by simpa using Upd.refl h
  | n + 1 => by
    have u := holes h n
    have u' := Upd.push u.mem (.refl _ _) (fun _ _ h => h) (m := none) (x := .hole) rfl (fun _ h => by cases h)
    rw [List.replicate_succ', List.replicate_succ', ← List.append_assoc, ← List.append_assoc]
    exact u.trans u'

/-- Less is known of the slots. -/
theorem Rel.weaken (h : Rel P N F μ st a w) {l : List V} (hl : l.length = st.tmps.length) (hv : ∀ (i : Nat) (v : V), l[i]? = some v → VR P w F μ st.blks v (a.tmps.getD i undef)) : Rel P N F μ ⟨l, st.blks⟩ a w :=
  ⟨by rw [h.size, hl], hv, h.defers, h.ok, h.upd⟩

/-- The memory's side moves; the slots are as they were. -/
theorem Rel.step {F' : Nat → Prop} {μ' : List (Option Nat)} {b' : List Blk} {w' : World} (h : Rel P N F μ st a w) (u : Upd P F μ st.blks w F' μ' b' w') : Rel P N F' μ' ⟨st.tmps, b'⟩ a w' :=
  ⟨h.size, fun i v hi => VR.mono u.grow (h.tmps i v hi), h.defers, h.ok, h.upd.trans u⟩

theorem Rel.lowSlot (h : Rel P N F μ st a w) (d : Nat) : ∃ F', Rel P N F' μ ⟨st.tmps.set d (lowV st.blks (st.get d)).1, (lowV st.blks (st.get d)).2⟩ a w := by
  have hv : VR P w F μ st.blks (st.get d) (a.tmps.getD d undef) := by
    unfold St.get
    rw [List.getD_eq_getElem?_getD]
    cases hq : st.tmps[d]? with
    | none => trivial
    | some v => exact h.tmps d v hq
  obtain ⟨F', u, hv'⟩ := lowV_sound h.mem hv
  refine ⟨F', (h.step u).weaken (by simp) fun i v hi => ?_⟩
  rw [List.getElem?_set] at hi
  by_cases hd : d = i
  · subst hd
    simp only [if_true] at hi
    split at hi
    · cases hi; exact hv'
    · cases hi
  · rw [if_neg hd] at hi
    exact VR.mono u.grow (h.tmps i v hi)

theorem Rel.lowSlots : ∀ (ds : List Nat) {F : Nat → Prop} {st : St}, Rel P N F μ st a w → ∃ F', Rel P N F' μ (lowSlots st ds) a w
  | [], F, st, h => ⟨F, h⟩
  | d :: ds, F, st, h => by
    obtain ⟨F1, h1⟩ := h.lowSlot d
    exact Rel.lowSlots ds h1

theorem draw_sound {id : Nat} {ops : Array Oper} {Q : Exit → Act → World → Prop} {K : St → Prop} (h : Rel P N F μ st a w) (hs : drawS P H id ops.toList st K) (hq : ∀ F' μ' st' a' w', Rel P N F' μ' st' a' w' → K st' → Q .normal a' w') : (Code.region id ops true).wp P Q a w := by
  unfold drawS draw1 at hs
  obtain ⟨F1, h1⟩ := Rel.lowSlots (H.low id) h
  split at hs
  · rename_i hc
    simp only [Bool.and_eq_true, Nat.beq_eq] at hc
    obtain ⟨⟨⟨⟨c1, c2⟩, c3⟩, c4⟩, c5⟩ := hc
    refine wp_region_any c1 ?_
    have h2 := h1.step (Upd.drew h1.mem)
    have h3 := h2.step (holes h2.mem (ops.toList.filter (isAl P)).length)
    refine dany (N := N) (H := H) hq (fun i o ho => by have := bitsOk_spec c4 i o (by simpa using ho); simpa using this) ops.size _ _ _ _ _ _ _ (by simpa using c2) (by simp) (fun i => ?_) (pairsOk_spec c5) ?_ h3 hs
    · constructor
      · intro hi
        have hlen : (canon P ops.toList (befores ops.toList []) ops.toList.length 0).length = ops.toList.length := c2
        have hnd : (canon P ops.toList (befores ops.toList []) ops.toList.length 0).Nodup := (pairsOk_spec c5).imp fun h => h.2
        have hsub : List.range ops.toList.length ⊆ canon P ops.toList (befores ops.toList []) ops.toList.length 0 := fun k hk => allIn_spec c3 k (by simpa using hk)
        have hlt : i < ops.size := by
          rcases Nat.lt_or_ge i ops.size with h | h
          · exact h
          · exfalso
            have hsub' : (i :: List.range ops.toList.length) ⊆ canon P ops.toList (befores ops.toList []) ops.toList.length 0 := by
              intro k hk
              rcases List.mem_cons.1 hk with rfl | hk
              · exact hi
              · exact hsub hk
            have hnd' : (i :: List.range ops.toList.length).Nodup := by
              rw [List.nodup_cons]
              exact ⟨by simp; exact h, List.nodup_range⟩
            have := nodup_le hnd' fun x hx => hsub' hx
            simp at this hlen
            omega
        exact ⟨hlt, by rw [getD_in _ (by simpa using hlt)]; simp⟩
      · rintro ⟨hi, _⟩
        exact allIn_spec c3 i (by simpa using hi)
    · intro j c hj
      by_cases hlt : j < ops.size
      · rw [getD_in _ (by simpa using hlt)] at hj; simp at hj
      · simp [Array.getD, hlt] at hj
  · exact hs.elim
end
end Go.SM
