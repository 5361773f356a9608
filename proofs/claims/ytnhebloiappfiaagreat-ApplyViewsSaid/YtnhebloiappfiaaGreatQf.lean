/- The view whose axes stand otherwise; all views. -/
import Derived.Test.YtnhebloiappfiaaGreatQe
namespace Go.Proofs.YtnhebloiappfiaaGreat
open Go Go.SM
set_option maxRecDepth 100000
set_option linter.unusedVariables false

/-- Axes: each once, within the rank. -/
def Axs (n : Nat) (l : List Int) : Prop := (∀ i, i < l.length → 0 ≤ l.getD i default ∧ l.getD i default < n) ∧ ∀ i j, i < l.length → j < l.length → i ≠ j → l.getD i default ≠ l.getD j default
theorem shape_Axes_q (n : Nat) (l : List Int) (hl : Sm l) (hn : n ≤ 6) : ∃ r, shape_Axes n l = some r ∧ r.2 ≠ 1 ∧ (r.2 = 0 → Axs n l) := by
  have hl' : l.length < 100000000000000 := hl
  refine Tree.T_run _ (T_lt (fun _ => T_ret ⟨by decide, fun h => by cases h⟩) (fun _ => T_lt (fun _ => T_ret ⟨by decide, fun h => by cases h⟩) (fun _ => T_ob (by omega) ?_)))
  simp only [Int.toNat_natCast]
  refine T_lr (p := fun o => match o with
    | .inl m => m.length = n ∧ Axs n l
    | .inr r => r.2 = 10) ?_ (fun m hm => T_eqI (fun _ => T_ex (p := fun _ => True) ?_ (fun y _ => T_ret ⟨z1, fun _ => hm.2⟩)) (fun _ => T_ret ⟨z1, fun _ => hm.2⟩)) (fun r hr => T_ret ⟨by simp only; rw [hr]; decide, fun h => by simp only at h; rw [hr] at h; cases h⟩)
  · refine loopT (tr := shape_Axes_T5 n l l l.length) l.length (fun k s => s.1 = (k : Int) ∧ s.2.length = n ∧ (∀ i, i < k → 0 ≤ l.getD i default ∧ l.getD i default < n ∧ s.2.getD (l.getD i default).toNat default = true) ∧ ∀ i j, i < k → j < k → i ≠ j → l.getD i default ≠ l.getD j default) _ (by omega) ⟨rfl, by simp, fun i hi => by omega, fun i j hi => by omega⟩ ?_
    rintro k ⟨s, m⟩ hk ⟨h1, h2, h3, h4⟩
    simp only at h1 h2 h3
    subst h1
    simp only [shape_Axes_T5, Int.toNat_natCast]
    refine T_lt (fun h5 => T_ob (by omega) (T_lt (fun _ => T_ret (rq_r rfl)) (fun h6 => T_le (fun _ => T_ret (rq_r rfl)) (fun h7 => T_ob (by omega) (T_br (fun _ => T_ret (rq_r rfl)) (fun h8 => T_ob (by omega) (T_ret (rq_l (by omega) ⟨w64_nat (by omega), by simpa using h2, fun i hi => ?_, fun i j hi hj hij => ?_⟩)))))))) (fun h5 => T_ret (rq_r ⟨h2, fun i hi => ⟨(h3 i (by omega)).1, (h3 i (by omega)).2.1⟩, fun i j hi hj => h4 i j (by omega) (by omega)⟩))
    · simp only
      rw [getD_set (by omega)]
      by_cases hik : i = k
      · rw [hik]
        exact ⟨by omega, by omega, by rw [if_pos rfl]⟩
      · obtain ⟨a1, a2, a3⟩ := h3 i (by omega)
        refine ⟨a1, a2, ?_⟩
        split
        · rfl
        · exact a3
    · have ne : ∀ i, i < k → l.getD i default ≠ l.getD k default := fun i hi e => by
        have := (h3 i hi).2.2
        rw [e] at this
        have h8' : m.getD (l.getD k default).toNat default = false := h8
        rw [h8'] at this
        cases this
      by_cases hik : i = k
      · rw [hik]
        exact fun e => ne j (by omega) e.symm
      · by_cases hjk : j = k
        · rw [hjk]
          exact ne i (by omega)
        · exact h4 i j (by omega) (by omega) hij
  · refine loopT (tr := shape_Axes_T13 m.length) m.length (fun k s => s.1 = (k : Int) ∧ s.2.length = m.length) _ (by have := hm.1; omega) ⟨rfl, rfl⟩ ?_
    rintro k ⟨s, o⟩ hk ⟨h1, h2⟩
    simp only at h1 h2
    subst h1
    have := hm.1
    exact T_lt (fun h3 => T_ob (by simp only at h3 ⊢; omega) (T_ret (rq_l (by simp only at h3; omega) ⟨w64_nat (by omega), by simpa using h2⟩))) (fun _ => T_ret (rq_r trivial))
def perm (d l : List Int) : List Int := (List.range l.length).map fun i => d.getD (l.getD i default).toNat default
theorem length_perm (d l : List Int) : (perm d l).length = l.length := by simp [perm]
theorem perm_getD {d l : List Int} {i : Nat} (h : i < l.length) : (perm d l).getD i default = d.getD (l.getD i default).toNat default := by
  unfold perm
  rw [getD_map_range h]
theorem shape_Perm_q (d l : List Int) (hc : chk d = 0) (hl : Sm l) : ∃ r, shape_Perm d l = some r ∧ r.2 ≠ 1 ∧ (r.2 = 0 → l.length = d.length ∧ Axs d.length l ∧ r.1 = perm d l) := by
  have h6 := chk_len hc
  refine Tree.T_run _ (T_ex1 (shape_Check_v d) (T_neI (fun h => absurd hc h) (fun _ => T_neI (fun _ => T_ret ⟨by decide, fun h => by cases h⟩) (fun h1 => T_ex (shape_Axes_q d.length l hl h6) (fun r hr => T_neI (fun h2 => T_ret ⟨hr.1, fun h => absurd h h2⟩) (fun h2 => ?_))))))
  have ha := hr.2 h2
  refine T_ex (p := fun o => o = perm d l) ?_ (fun y hy => T_ret ⟨z1, fun _ => ⟨by omega, ha, hy⟩⟩)
  refine loopT (tr := shape_Perm_T11 d l l.length) l.length (fun k s => s.1 = (k : Int) ∧ s.2 = (List.range k).map fun i => d.getD (l.getD i default).toNat default) _ (by omega) ⟨rfl, rfl⟩ ?_
  rintro k ⟨s, o⟩ hk ⟨h3, h4⟩
  simp only at h3 h4
  subst h3 h4
  simp only [shape_Perm_T11, Int.toNat_natCast, List.length_map, List.length_range]
  refine T_lt (fun h5 => T_ob (by omega) (T_ob (ha.1 k (by omega)) (T_ob (by omega) (T_ret (rq_l (by omega) ⟨w64_nat (by omega), by rw [map_range_succ]⟩))))) (fun h5 => T_ret (rq_r ?_))
  rw [show k = l.length by omega]
  rfl
theorem perm_prod {d l : List Int} (hp : Pos d) (hl : l.length = d.length) (ha : Axs d.length l) : ∀ k, k ≤ d.length → ∃ e : List Int, e.length = d.length ∧ (∀ j, j < d.length → (∀ i, i < k → (l.getD i default).toNat ≠ j) → e.getD j default = d.getD j default) ∧ Pos e ∧ prodL ((perm d l).take k) * prodL e = prodL d
  | 0, _ => ⟨d, rfl, fun _ _ _ => rfl, hp, by simp [prodL]⟩
  | k + 1, hk => by
    obtain ⟨e, h1, h2, h3, h4⟩ := perm_prod hp hl ha k (by omega)
    have hj := ha.1 k (by omega)
    have hjn : (l.getD k default).toNat < d.length := by omega
    have h5 : e.getD (l.getD k default).toNat default = d.getD (l.getD k default).toNat default := h2 _ hjn fun i hi he => by
      have := ha.1 i (by omega)
      exact ha.2 i k (by omega) (by omega) (by omega) (by omega)
    refine ⟨e.set (l.getD k default).toNat 1, by simpa using h1, fun j hj' hne => ?_, pos_set h3 (by omega), ?_⟩
    · rw [getD_set (by omega), if_neg (fun he => hne k (by omega) he.symm)]
      exact h2 j hj' fun i hi => hne i (by omega)
    · rw [prodL_take_succ (by rw [length_perm]; omega), perm_getD (by omega), ← h4, ← h5]
      have e1 : prodL e = prodL (e.set (l.getD k default).toNat 1) * e.getD (l.getD k default).toNat default := by
        rw [← prodL_set _ (by omega), set_self (by omega)]
      rw [e1, Int.mul_assoc, Int.mul_comm (e.getD _ default)]
theorem perm_chk {d l : List Int} (hc : chk d = 0) (hl : l.length = d.length) (ha : Axs d.length l) : chk (perm d l) = 0 := by
  obtain ⟨h6, hp, h64⟩ := chk_zero.1 hc
  obtain ⟨e, _, _, h3, h4⟩ := perm_prod hp hl ha d.length (Nat.le_refl _)
  rw [List.take_of_length_le (by rw [length_perm]; omega)] at h4
  have hpp : Pos (perm d l) := fun y hy => by
    obtain ⟨i, hi, rfl⟩ := mem_getD hy
    rw [length_perm] at hi
    rw [perm_getD hi]
    exact hp.getD (by have := ha.1 i hi; omega)
  have h5 := prodL_pos h3
  have h7 := prodL_pos hpp
  have h8 := Int.mul_le_mul_of_nonneg_left h5 (show 0 ≤ prodL (perm d l) by omega)
  exact chk_zero.2 ⟨by rw [length_perm]; omega, hpp, by omega⟩
/-- The place that is read, axis by axis. -/
def unp (l p : List Int) (n : Nat) : Nat → List Int
  | 0 => List.replicate n 0
  | k + 1 => (unp l p n k).set (l.getD k default).toNat (p.getD k default)
theorem unp_spec {l p : List Int} {n : Nat} (ha : Axs n l) (S : List Int) : ∀ k, k ≤ l.length → (unp l p n k).length = n ∧ (∀ j, j < n → (∀ i, i < k → (l.getD i default).toNat ≠ j) → (unp l p n k).getD j default = 0) ∧ (∀ i, i < k → (unp l p n k).getD (l.getD i default).toNat default = p.getD i default) ∧ lin (unp l p n k) S n = lin p (perm S l) k
  | 0, _ => by
    have g : ∀ j, j < n → (unp l p n 0).getD j default = 0 := fun j hj => by
      unfold unp
      rw [getD_el (by simpa using hj)]
      simp
    exact ⟨by simp [unp], fun j hj _ => g j hj, fun i hi => by omega, lin_zero _ fun i hi => by rw [g i hi]; simp⟩
  | k + 1, hk => by
    obtain ⟨h1, h2, h3, h4⟩ := unp_spec ha S k (by omega)
    have hj := ha.1 k (by omega)
    have hjn : (l.getD k default).toNat < n := by omega
    have ne : ∀ i, i < k → (l.getD i default).toNat ≠ (l.getD k default).toNat := fun i hi he => by
      have := ha.1 i (by omega)
      exact ha.2 i k (by omega) (by omega) (by omega) (by omega)
    refine ⟨by simpa [unp] using h1, fun j hj' hne => ?_, fun i hi => ?_, ?_⟩
    · simp only [unp]
      rw [getD_set (by omega), if_neg (fun he => hne k (by omega) he.symm)]
      exact h2 j hj' fun i hi => hne i (by omega)
    · simp only [unp]
      rw [getD_set (by omega)]
      by_cases hik : i = k
      · rw [hik, if_pos rfl]
      · rw [if_neg (ne i (by omega))]
        exact h3 i (by omega)
    · simp only [unp, lin]
      rw [← h4, perm_getD (by omega)]
      refine lin_at _ hjn (fun i hi hne => ?_) ?_
      · rw [getD_set (by omega), if_neg hne]
      · rw [getD_set (by omega), if_pos rfl, h2 _ hjn ne]
        simp
theorem unp_within {d l p : List Int} (hp : Pos d) (hl : l.length = d.length) (ha : Axs d.length l) (hw : Within p (perm d l)) : Within (unp l p d.length l.length) d := by
  obtain ⟨h1, h2, h3, _⟩ := unp_spec (p := p) ha [] l.length (Nat.le_refl _)
  refine ⟨h1, fun j hj => ?_⟩
  by_cases h : ∃ i, i < l.length ∧ (l.getD i default).toNat = j
  · obtain ⟨i, hi, he⟩ := h
    subst he
    rw [h3 i hi]
    have := hw.2 i (by rwa [length_perm])
    rwa [perm_getD hi] at this
  · rw [h2 j hj fun i hi he => h ⟨i, hi, he⟩]
    have := hp.getD hj
    omega
theorem view_Permute_q (a : AttrD) (d : List Int) (hc : chk d = 0) (hl : Sm (AX a)) : ∃ r, view_Permute (0, (d, (stp d, ()))) (AX a) = some r ∧ ViewOk 34 a d r := by
  obtain ⟨h6, hp, h64⟩ := chk_zero.1 hc
  have es := length_stp d
  have hl' : (AX a).length < 100000000000000 := hl
  refine Tree.T_run _ (T_ex1 (view_right_v d hc) (T_brB (fun h => by cases h) (fun _ => T_ex (shape_Perm_q d (AX a) hc hl) (fun r hr => T_neI (fun h => T_ret ⟨hr.1, fun h' => absurd h' h⟩) (fun h => ?_)))))
  obtain ⟨h1, ha, h2⟩ := hr.2 h
  refine T_ex (p := fun o => o = perm (stp d) (AX a)) ?_ (fun y hy => T_ret ⟨z1, fun _ => ⟨fun p => hor d (unp (AX a) p d.length (AX a).length) d.length, ⟨?_, ?_, fun p hpw => ?_⟩, fun n hn => ?_⟩⟩)
  · refine loopT (tr := view_Permute_T8 r.1 (AX a) (AX a).length 0 d (stp d)) (AX a).length (fun k s => s.1 = (k : Int) ∧ s.2 = (List.range k).map fun i => (stp d).getD ((AX a).getD i default).toNat default) _ (by omega) ⟨rfl, rfl⟩ ?_
    rintro k ⟨s, o⟩ hk ⟨h3, h4⟩
    simp only at h3 h4
    subst h3 h4
    simp only [view_Permute_T8, Int.toNat_natCast, List.length_map, List.length_range, es]
    refine T_lt (fun h5 => T_ob (by omega) (T_ob (ha.1 k (by omega)) (T_ob (by omega) (T_ret (rq_l (by omega) ⟨w64_nat (by omega), by rw [map_range_succ]⟩))))) (fun h5 => T_ret (rq_r ?_))
    rw [show k = (AX a).length by omega]
    rfl
  · simp only
    rw [h2]
    exact perm_chk hc h1 ha
  · simp only
    rw [hy, h2, length_perm, length_perm]
  · simp only at hpw ⊢
    rw [h2] at hpw ⊢
    have hw := unp_within hp h1 ha hpw
    have h5 := (horw_in hc hw).2
    refine ⟨h5.1, h5.2, ?_⟩
    rw [hor_lin_all, hy, length_perm, Int.zero_add]
    have := (unp_spec (p := p) ha (stp d) (AX a).length (Nat.le_refl _)).2.2.2
    exact this.symm
  · have hw0 := alls_within hn
    simp only at hw0 hn ⊢
    rw [h2] at hw0 hn ⊢
    have hw := unp_within hp h1 ha hw0
    refine seen_of (T_eqI (fun _ => T_ob (by omega) ?_) (fun h => absurd rfl h))
    simp only [Int.toNat_natCast]
    refine T_ex (p := fun o => o = ((alls (perm d (AX a))).getD n default, unp (AX a) ((alls (perm d (AX a))).getD n default) d.length (AX a).length)) ?_ (fun o ho => ?_)
    · refine loopT (tr := move_seen_T6 d (AX a) (AX a).length) (AX a).length (fun k s => s.1 = (k : Int) ∧ s.2 = ((alls (perm d (AX a))).getD n default, unp (AX a) ((alls (perm d (AX a))).getD n default) d.length k)) _ (by omega) ⟨rfl, rfl⟩ ?_
      rintro k ⟨s, o1, o2⟩ hk ⟨h3, h4⟩
      simp only [Prod.mk.injEq] at h3 h4
      obtain ⟨rfl, rfl⟩ := h4
      subst h3
      have hul := (unp_spec (p := (alls (perm d (AX a))).getD n default) ha [] k hk).1
      have hpl := hw0.1
      rw [length_perm] at hpl
      simp only [move_seen_T6, Int.toNat_natCast]
      refine T_lt (fun h5 => T_ob (by omega) (T_ob (by omega) (T_ob (by have := ha.1 k (by omega); omega) (T_ret (rq_l (by omega) ⟨w64_nat (by omega), rfl⟩))))) (fun h5 => T_ret (rq_r ?_))
      rw [show k = (AX a).length by omega]
    · subst ho
      exact T_ex1 (walk_Place_v d _ hc hw.1 hw.2) (T_ret (horw_in hc hw).1)
theorem move_View_q (op : Int) (a : AttrD) (d : List Int) (hc : chk d = 0) (hl : Sm (AX a)) (h0 : 33 ≤ op) (h1 : op ≤ 37) : ∃ r, move_View op a (0, (d, (stp d, ()))) = some r ∧ ViewOk op a d r := by
  refine Tree.T_run _ (T_eqI (fun h => T_ex (view_Reshape_q a d hc) (fun r hr => T_ret (by rw [h]; exact hr))) (fun _ => T_eqI (fun h => T_ex (view_Permute_q a d hc hl) (fun r hr => T_ret (by rw [h]; exact hr))) (fun _ => T_eqI (fun h => T_ex (view_Slice_q a d hc) (fun r hr => T_ret (by rw [h]; exact hr))) (fun _ => T_eqI (fun h => T_ex (view_Expand_q a d hc) (fun r hr => T_ret (by rw [h]; exact hr))) (fun _ => T_eqI (fun h => T_ex (view_Flip_q a d hc) (fun r hr => T_ret (by rw [h]; exact hr))) (fun _ => by omega))))))
end Go.Proofs.YtnhebloiappfiaaGreat
