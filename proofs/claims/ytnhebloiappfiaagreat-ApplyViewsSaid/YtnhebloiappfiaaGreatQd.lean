/- What the functions of spreading come to, and the view that is spread. -/
import Derived.Test.YtnhebloiappfiaaGreatQc
namespace Go.Proofs.YtnhebloiappfiaaGreat
open Go Go.SM
set_option maxRecDepth 100000
set_option linter.unusedVariables false

theorem spread_Two_L2_q (a b : List Int) : ∃ o, spread_Two_L2 a b (↑2 : Int) (0, (a :: (b :: []))) = some o ∧ ((o = .inl () ∧ chk a = 0 ∧ chk b = 0) ∨ ∃ c, c ≠ 0 ∧ o = .inr ([], c)) := by
  refine loopT (tr := spread_Two_T2 a b (↑2 : Int)) 2 (fun k s => s.1 = (k : Int) ∧ s.2 = [a, b] ∧ (1 ≤ k → chk a = 0) ∧ (2 ≤ k → chk b = 0)) _ (by omega) ⟨rfl, rfl, fun h => by omega, fun h => by omega⟩ ?_
  rintro k ⟨s, l⟩ hk ⟨h1, h2, h3, h4⟩
  simp only at h1 h2
  subst h1 h2
  simp only [spread_Two_T2, Int.toNat_natCast]
  refine T_lt (fun h5 => T_ob (by simp only [List.length_cons, List.length_nil]; omega) (T_ex1 (shape_Check_v _) (T_neI (fun h6 => T_ret (rq_r (.inr ⟨_, h6, rfl⟩))) (fun h6 => T_ret (rq_l (by omega) ⟨w64_nat (by omega), rfl, fun h7 => ?_, fun h7 => ?_⟩))))) (fun h5 => T_ret (rq_r (.inl ⟨rfl, h3 (by omega), h4 (by omega)⟩)))
  · match k, h6 with
    | 0, h6 => exact h6
    | k + 1, _ => exact h3 (by omega)
  · match k, h6 with
    | 0, _ => omega
    | 1, h6 => exact h6
    | k + 2, _ => exact h4 (by omega)
theorem pad_size {d : List Int} {m k : Nat} (hk : k < m) (hd : d.length ≤ m) (hm : m ≤ 6) : spread_size d ((k : Int) + 1) = some ((pad d m).getD (m - (k + 1)) default) := by
  have e := spread_size_v d (k + 1) (by omega) (by omega) (by omega)
  rw [pad_getD (by omega)]
  rw [show (((k + 1 : Nat) : Int)) = (k : Int) + 1 by omega] at e
  rw [e]
  congr 1
  by_cases h : d.length < k + 1
  · rw [if_pos h, if_pos (by omega)]
  · rw [if_neg h, if_neg (by omega)]
    congr 1
    omega
theorem spread_Two_q (a b : List Int) : ∃ r, spread_Two a b = some r ∧ (r.2 = 0 → two a b r.1) := by
  refine Tree.T_run _ (T_un (spread_Two_L2_q a b) (fun h => ?_) (fun y h => T_ret fun h' => ?_))
  · rcases h with ⟨_, ha, hb⟩ | ⟨c, _, h⟩
    · have la := chk_len ha
      have lb := chk_len hb
      obtain ⟨m, hm, hm'⟩ : ∃ m : Nat, max (a.length : Int) (b.length : Int) = (m : Int) ∧ m = max a.length b.length := ⟨max a.length b.length, by omega, rfl⟩
      have L11 : ∀ M : Int, M = (m : Int) → ∃ o, spread_Two_L11 a b M (1, (List.replicate M.toNat 0)) = some o ∧ (match o with
          | .inl c => c.length = m ∧ ∀ i, i < m → ((pad a m).getD i default = (pad b m).getD i default ∨ (pad a m).getD i default = 1 ∨ (pad b m).getD i default = 1) ∧ c.getD i default = max ((pad a m).getD i default) ((pad b m).getD i default)
          | .inr r => r.2 ≠ 0) := by
        rintro M rfl
        rw [Int.toNat_natCast]
        refine loopT (tr := spread_Two_T11 a b m) m (fun k s => s.1 = (k : Int) + 1 ∧ s.2.length = m ∧ ∀ i, m - k ≤ i → i < m → ((pad a m).getD i default = (pad b m).getD i default ∨ (pad a m).getD i default = 1 ∨ (pad b m).getD i default = 1) ∧ s.2.getD i default = max ((pad a m).getD i default) ((pad b m).getD i default)) _ (by omega) ⟨rfl, by simp, fun i h1 h2 => by omega⟩ ?_
        rintro k ⟨s, l⟩ hk ⟨h1, h2, h3⟩
        simp only at h1 h2 h3
        subst h1
        simp only [spread_Two_T11]
        refine T_le (fun h4 => ?_) (fun h4 => T_ret (rq_r ⟨h2, fun i hi => h3 i (by omega) hi⟩))
        have hk' : k < m := by omega
        have s1 := pad_size (d := a) hk' (by omega) (by omega)
        have s2 := pad_size (d := b) hk' (by omega) (by omega)
        have e : w64 ((m : Int) - ((k : Int) + 1)) = ((m - (k + 1) : Nat) : Int) := by
          rw [w64_id (by omega) (by omega)]
          omega
        have e' : w64 ((k : Int) + 1 + 1) = ((k + 1 : Nat) : Int) + 1 := by
          rw [w64_id (by omega) (by omega)]
          omega
        have key : ((pad a m).getD (m - (k + 1)) default = (pad b m).getD (m - (k + 1)) default ∨ (pad a m).getD (m - (k + 1)) default = 1 ∨ (pad b m).getD (m - (k + 1)) default = 1) → ∀ i, m - (k + 1) ≤ i → i < m → ((pad a m).getD i default = (pad b m).getD i default ∨ (pad a m).getD i default = 1 ∨ (pad b m).getD i default = 1) ∧ (l.set (m - (k + 1)) (max ((pad a m).getD (m - (k + 1)) default) ((pad b m).getD (m - (k + 1)) default))).getD i default = max ((pad a m).getD i default) ((pad b m).getD i default) := by
          intro hr i h5 h6
          rw [getD_set (by omega)]
          split
          · rename_i hi
            subst hi
            exact ⟨hr, rfl⟩
          · exact h3 i (by omega) h6
        rw [e, e']
        refine T_ex1 s1 (T_ex1 s2 (T_neI (fun h5 => T_neI (fun h6 => T_neI (fun h7 => T_ret (rq_r (show (8 : Int) ≠ 0 by decide))) (fun h7 => T_ob (by omega) (T_ret ?_))) (fun h6 => T_ob (by omega) (T_ret ?_))) (fun h5 => T_ob (by omega) (T_ret ?_))))
        · rw [Int.toNat_natCast]
          exact rq_l hk' ⟨rfl, by simpa using h2, key (.inr (.inr h7))⟩
        · rw [Int.toNat_natCast]
          exact rq_l hk' ⟨rfl, by simpa using h2, key (.inr (.inl h6))⟩
        · rw [Int.toNat_natCast]
          exact rq_l hk' ⟨rfl, by simpa using h2, key (.inl h5)⟩
      refine T_ob (by omega) (T_lr (L11 _ hm) (fun c hc => T_ex1 (shape_Check_v c) (T_neI (fun h => T_ret fun h' => absurd h' h) (fun h => T_ret fun _ => ?_))) (fun r hr => T_ret fun h => absurd h hr))
      obtain ⟨h1, h2⟩ := hc
      refine ⟨ha, hb, h, by simp only; omega, fun i hi => ?_⟩
      simp only at hi ⊢
      rw [h1] at hi ⊢
      exact h2 i hi
    · cases h
  · rcases h with ⟨h, _⟩ | ⟨c, hc, h⟩
    · cases h
    · cases h
      exact absurd h' hc
theorem spread_Fits_q (a b : List Int) : ∃ y, spread_Fits a b = some y ∧ (y = true → fitsP a b) := by
  refine Tree.T_run _ (T_ex (spread_Two_q a b) (fun r hr => T_eqI (fun h => T_ex1 (shape_Same_v r.1 b ?_) (T_ret fun h' => ?_)) (fun h => T_ret fun h' => by cases h')))
  · have := chk_len (hr h).2.2.1
    omega
  · have e := of_decide_eq_true h'
    have := hr h
    rw [e] at this
    exact fits_of_two this
theorem spread_Source_v (a b : List Int) (n : Int) (h : fitsP a b) (hF : spread_Fits a b = some true) (h0 : 0 ≤ n) (h1 : n < prodL b) : spread_Source a b n = some (src a b n, true) := by
  have hl := chk_len h.2.1
  have hab := h.2.2.1
  have eo : w64 ((b.length : Int) - (a.length : Int)) = ((b.length - a.length : Nat) : Int) := by
    rw [w64_id (by omega) (by omega)]
    omega
  refine T_eq (T_ex1 (walk_At_r_v b n h.2.1 h0 h1) (T_brB (fun x => by cases x) (fun _ => T_ex1 hF (T_brB (fun x => by cases x) (fun _ => ?_)))))
  refine T_ob (by simp only [eo, length_dg]; omega) (T_ex (p := fun o => o.length = b.length ∧ ∀ j, j < b.length → o.getD j default = if b.length - a.length ≤ j ∧ a.getD (j - (b.length - a.length)) default = 1 then 0 else (dg b.length b n).getD j default) ?_ (fun y hy => ?_))
  · simp only [eo, length_dg, Int.toNat_natCast, Nat.zero_add]
    refine loopT (tr := spread_Source_T6 a (b.length - a.length) (b.length - (b.length - a.length)) a a.length) a.length (fun k s => s.1 = (k : Int) ∧ s.2.length = b.length ∧ ∀ j, j < b.length → s.2.getD j default = if b.length - a.length ≤ j ∧ j < b.length - a.length + k ∧ a.getD (j - (b.length - a.length)) default = 1 then 0 else (dg b.length b n).getD j default) _ (by omega) ⟨rfl, length_dg _ _ _, fun j hj => by rw [if_neg (by omega)]⟩ ?_
    rintro k ⟨s, l⟩ hk ⟨h2, h3, h4⟩
    simp only at h2 h3 h4
    subst h2
    simp only [spread_Source_T6, Int.toNat_natCast]
    refine T_brP (fun h5 => T_ob (by omega) (T_brP (fun h6 => T_ob (by omega) (T_ret (rq_l (by omega) ⟨w64_nat (by omega), by simpa using h3, fun j hj => ?_⟩))) (fun h6 => T_ret (rq_l (by omega) ⟨w64_nat (by omega), h3, fun j hj => ?_⟩)))) (fun h5 => T_ret (rq_r ⟨h3, fun j hj => ?_⟩))
    · simp only
      rw [getD_set (by omega), h4 j hj]
      by_cases hjk : j = b.length - a.length + k
      · rw [if_pos hjk, if_pos]
        subst hjk
        exact ⟨by omega, by omega, by rwa [show b.length - a.length + k - (b.length - a.length) = k by omega]⟩
      · rw [if_neg hjk]
        by_cases hc : b.length - a.length ≤ j ∧ j < b.length - a.length + k ∧ a.getD (j - (b.length - a.length)) default = 1
        · rw [if_pos hc, if_pos ⟨hc.1, by omega, hc.2.2⟩]
        · rw [if_neg hc, if_neg fun x => hc ⟨x.1, by omega, x.2.2⟩]
    · simp only
      rw [h4 j hj]
      by_cases hjk : j = b.length - a.length + k
      · have : ¬ a.getD (j - (b.length - a.length)) default = 1 := by rwa [hjk, show b.length - a.length + k - (b.length - a.length) = k by omega]
        rw [if_neg fun x => this x.2.2, if_neg fun x => this x.2.2]
      · by_cases hc : b.length - a.length ≤ j ∧ j < b.length - a.length + k ∧ a.getD (j - (b.length - a.length)) default = 1
        · rw [if_pos hc, if_pos ⟨hc.1, by omega, hc.2.2⟩]
        · rw [if_neg hc, if_neg fun x => hc ⟨x.1, by omega, x.2.2⟩]
    · rw [h4 j hj]
      by_cases hc : b.length - a.length ≤ j ∧ a.getD (j - (b.length - a.length)) default = 1
      · rw [if_pos hc, if_pos ⟨hc.1, by omega, hc.2⟩]
      · rw [if_neg hc, if_neg fun x => hc ⟨x.1, x.2.2⟩]
  · obtain ⟨hy1, hy2⟩ := hy
    have ew : List.take (b.length - (b.length - a.length)) (List.drop (b.length - a.length) y) = win a b n := by
      rw [List.take_of_length_le (by simp [hy1])]
      refine getD_ext (by rw [length_win, List.length_drop]; omega) fun i hi => ?_
      rw [List.length_drop] at hi
      rw [win_getD (by omega), List.getD_eq_getElem?_getD, List.getElem?_drop, ← List.getD_eq_getElem?_getD, hy2 _ (by omega)]
      by_cases hc : a.getD i default = 1
      · rw [if_pos hc, if_pos ⟨by omega, by rwa [show b.length - a.length + i - (b.length - a.length) = i by omega]⟩]
      · rw [if_neg hc, if_neg fun x => hc (by rw [show b.length - a.length + i - (b.length - a.length) = i by omega] at x; exact x.2)]
    refine T_ex1 (y := (src a b n, true)) ?_ (T_ret rfl)
    simp only [eo, length_dg, Int.toNat_natCast, Nat.zero_add, ew]
    exact walk_Place_v a (win a b n) h.1 (length_win _ _ _) fun i hi => win_in h hi
theorem view_Expand_q (a : AttrD) (d : List Int) (hc : chk d = 0) : ∃ r, view_Expand (0, (d, (stp d, ()))) (AX a) = some r ∧ ViewOk 36 a d r := by
  obtain ⟨hl, hp, h64⟩ := chk_zero.1 hc
  have es := length_stp d
  obtain ⟨f, hf, hfit⟩ := spread_Fits_q d (AX a)
  refine Tree.T_run _ (T_ex1 (view_right_v d hc) (T_brB (fun h => by cases h) (fun _ => T_ex1 (shape_Check_v _) (T_neI (fun h => T_ret ⟨chk_ne1 _, fun h' => absurd h' h⟩) (fun h1 => T_ex1 hf (T_brB (fun _ => T_ret ⟨by decide, fun h => by cases h⟩) (fun h2 => ?_)))))))
  have hfp := hfit h2
  have hl2 := chk_len h1
  have hab := hfp.2.2.1
  rw [h2] at hf
  have eo : w64 (((AX a).length : Int) - (d.length : Int)) = (((AX a).length - d.length : Nat) : Int) := by
    rw [w64_id (by omega) (by omega)]
    omega
  refine T_ob (by omega) (T_ex1 (slices_Clone_v _ (by omega)) ?_)
  simp only [eo, Int.toNat_natCast]
  refine T_ex (p := fun o => o.length = (AX a).length ∧ ∀ j, j < (AX a).length → o.getD j default = if (AX a).length - d.length ≤ j ∧ 1 < d.getD (j - ((AX a).length - d.length)) default then (stp d).getD (j - ((AX a).length - d.length)) default else 0) ?_ (fun o ho => T_ret ⟨z1, fun _ => ⟨fun p => hor d ((List.range d.length).map fun i => if d.getD i default = 1 then 0 else p.getD ((AX a).length - d.length + i) default) d.length, ⟨h1, ho.1, fun p hpw => ?_⟩, fun n hn => ?_⟩⟩)
  · refine loopT (tr := view_Expand_T11 ((AX a).length - d.length : Nat) d d.length 0 d (stp d) 0 (AX a)) d.length (fun k s => s.1 = (k : Int) ∧ s.2.length = (AX a).length ∧ ∀ j, j < (AX a).length → s.2.getD j default = if (AX a).length - d.length ≤ j ∧ j < (AX a).length - d.length + k ∧ 1 < d.getD (j - ((AX a).length - d.length)) default then (stp d).getD (j - ((AX a).length - d.length)) default else 0) _ (by omega) ⟨rfl, by simp, fun j hj => by rw [if_neg (by omega), getD_el (by simpa using hj)]; simp⟩ ?_
    rintro k ⟨s, o⟩ hk ⟨h3, h4, h5⟩
    simp only at h3 h4 h5
    subst h3
    have e1 : w64 ((((AX a).length - d.length : Nat) : Int) + (k : Int)) = (((AX a).length - d.length + k : Nat) : Int) := by
      rw [w64_id (by omega) (by omega)]
      omega
    simp only [view_Expand_T11, Int.toNat_natCast, e1]
    refine T_lt (fun h6 => T_ob (by omega) (T_lt (fun h7 => T_ob (by omega) (T_ob (by omega) (T_ret (rq_l (by omega) ⟨w64_nat (by omega), by simpa using h4, fun j hj => ?_⟩)))) (fun h7 => T_ret (rq_l (by omega) ⟨w64_nat (by omega), h4, fun j hj => ?_⟩)))) (fun h6 => T_ret (rq_r ⟨h4, fun j hj => ?_⟩))
    · simp only
      rw [getD_set (by omega), h5 j hj]
      by_cases hjk : j = (AX a).length - d.length + k
      · rw [if_pos hjk]
        subst hjk
        rw [show (AX a).length - d.length + k - ((AX a).length - d.length) = k by omega, if_pos ⟨by omega, by omega, h7⟩]
      · rw [if_neg hjk]
        by_cases hc' : (AX a).length - d.length ≤ j ∧ j < (AX a).length - d.length + k ∧ 1 < d.getD (j - ((AX a).length - d.length)) default
        · rw [if_pos hc', if_pos ⟨hc'.1, by omega, hc'.2.2⟩]
        · rw [if_neg hc', if_neg fun x => hc' ⟨x.1, by omega, x.2.2⟩]
    · simp only
      rw [h5 j hj]
      by_cases hjk : j = (AX a).length - d.length + k
      · have : ¬ 1 < d.getD (j - ((AX a).length - d.length)) default := by rwa [hjk, show (AX a).length - d.length + k - ((AX a).length - d.length) = k by omega]
        rw [if_neg fun x => this x.2.2, if_neg fun x => this x.2.2]
      · by_cases hc' : (AX a).length - d.length ≤ j ∧ j < (AX a).length - d.length + k ∧ 1 < d.getD (j - ((AX a).length - d.length)) default
        · rw [if_pos hc', if_pos ⟨hc'.1, by omega, hc'.2.2⟩]
        · rw [if_neg hc', if_neg fun x => hc' ⟨x.1, by omega, x.2.2⟩]
    · rw [h5 j hj]
      by_cases hc' : (AX a).length - d.length ≤ j ∧ 1 < d.getD (j - ((AX a).length - d.length)) default
      · rw [if_pos hc', if_pos ⟨hc'.1, by omega, hc'.2⟩]
      · rw [if_neg hc', if_neg fun x => hc' ⟨x.1, x.2.2⟩]
  · have gw : ∀ i, i < d.length → ((List.range d.length).map fun i => if d.getD i default = 1 then 0 else p.getD ((AX a).length - d.length + i) default).getD i default = if d.getD i default = 1 then 0 else p.getD ((AX a).length - d.length + i) default := fun i hi => getD_map_range hi
    have hw : Within ((List.range d.length).map fun i => if d.getD i default = 1 then 0 else p.getD ((AX a).length - d.length + i) default) d := ⟨by simp, fun i hi => by
      rw [gw i hi]
      have h3 := hfp.2.2.2 i hi
      have h4 := hpw.2 ((AX a).length - d.length + i) (by simp only; omega)
      simp only at h4
      split
      · omega
      · omega⟩
    have h5 := (horw_in hc hw).2
    refine ⟨h5.1, h5.2, ?_⟩
    simp only
    rw [hor_lin_all, Int.zero_add]
    have e : (AX a).length = ((AX a).length - d.length) + d.length := by omega
    rw [show lin p o (AX a).length = lin p o (((AX a).length - d.length) + d.length) by rw [← e]]
    refine lin_shift (fun i hi => ?_) _ (fun i hi => ?_)
    · rw [ho.2 i (by omega), if_neg (by omega), Int.mul_zero]
    · rw [ho.2 _ (by omega), gw i hi, show (AX a).length - d.length + i - ((AX a).length - d.length) = i by omega]
      have h6 := hp.getD hi
      by_cases h7 : d.getD i default = 1
      · rw [if_pos h7, if_neg (by omega)]
        simp
      · rw [if_neg h7, if_pos ⟨by omega, by omega⟩]
  · obtain ⟨h3, h4⟩ := alls_at hn
    rw [alls_ok h3] at hn
    simp only at hn h4 ⊢
    rw [h4]
    refine seen_of (T_eqI (fun h => by omega) (fun _ => T_eqI (fun h => by omega) (fun _ => T_eqI (fun _ => T_ex1 (spread_Source_v d (AX a) n hfp hf (by omega) (by omega)) (T_ret ?_)) (fun h => absurd rfl h))))
    have hw : Within (win d (AX a) n) d := ⟨length_win _ _ _, fun i hi => win_in hfp hi⟩
    exact (horw_in hc hw).1
end Go.Proofs.YtnhebloiappfiaaGreat
