/- What the functions of spreading come to. -/
import Derived.Test.YtnkamghdikbmaaaGreatPb
namespace Go.Proofs.YtnkamghdikbmaaaGreat
open Go Go.SM
set_option maxRecDepth 100000
set_option linter.unusedVariables false

theorem ref21_Two_L6_q (a b : List Int) (hb : b.length ≤ 6) : ∃ o, ref21_Two_L6 b a = some o ∧ o = pad a b.length := by
  refine loopT (tr := ref21_Two_T6 b) (b.length - a.length) (fun k s => s = List.replicate k 1 ++ a) _ (by omega) rfl ?_
  rintro k s hk rfl
  simp only [ref21_Two_T6, List.length_append, List.length_replicate]
  refine T_brP (fun h => T_ob (by omega) (T_ret (rq_l (by omega) ?_))) (fun h => T_ret (rq_r ?_))
  · simp [List.replicate_succ]
  · rw [show k = b.length - a.length by omega]
    rfl
theorem ref21_Two_L8_q (a b : List Int) (hb : b.length ≤ 6) : ∃ o, ref21_Two_L8 b a = some o ∧ o = pad a b.length := by
  refine loopT (tr := ref21_Two_T8 b) (b.length - a.length) (fun k s => s = List.replicate k 1 ++ a) _ (by omega) rfl ?_
  rintro k s hk rfl
  simp only [ref21_Two_T8, List.length_append, List.length_replicate]
  refine T_brP (fun h => T_ob (by omega) (T_ret (rq_l (by omega) ?_))) (fun h => T_ret (rq_r ?_))
  · simp [List.replicate_succ]
  · rw [show k = b.length - a.length by omega]
    rfl
theorem ref21_Two_L12_q (x y : List Int) (h : x.length = y.length) (hx : x.length ≤ 6) : ∃ o, ref21_Two_L12 x y x.length (0, []) = some o ∧ (match o with
    | .inl c => c.length = x.length ∧ ∀ i, i < x.length → (x.getD i default = y.getD i default ∨ x.getD i default = 1 ∨ y.getD i default = 1) ∧ c.getD i default = max (x.getD i default) (y.getD i default)
    | .inr r => r.2 ≠ 0) := by
  refine loopT (tr := ref21_Two_T12 x y x.length) x.length (fun k s => s.1 = (k : Int) ∧ s.2.length = k ∧ ∀ i, i < k → (x.getD i default = y.getD i default ∨ x.getD i default = 1 ∨ y.getD i default = 1) ∧ s.2.getD i default = max (x.getD i default) (y.getD i default)) _ (by omega) ⟨rfl, rfl, fun i hi => by omega⟩ ?_
  rintro k ⟨s, c⟩ hk ⟨h1, h2, h3⟩
  simp only at h1 h2 h3
  subst h1
  simp only [ref21_Two_T12, Int.toNat_natCast]
  have key : (x.getD k default = y.getD k default ∨ x.getD k default = 1 ∨ y.getD k default = 1) → ∀ i, i < k + 1 → (x.getD i default = y.getD i default ∨ x.getD i default = 1 ∨ y.getD i default = 1) ∧ (c ++ [max (x.getD k default) (y.getD k default)]).getD i default = max (x.getD i default) (y.getD i default) := by
    intro hr i hi
    rw [getD_append]
    by_cases hik : i = k
    · subst hik
      rw [if_neg (by omega)]
      exact ⟨hr, by simp [h2]⟩
    · rw [if_pos (by omega)]
      exact h3 i (by omega)
  refine T_brP (fun h4 => T_ob (by omega) (T_ob (by omega) (T_brN (fun h5 => T_ob (by omega) (T_brN (fun h6 => T_ob (by omega) (T_brN (fun h7 => T_ret (rq_r (show (8 : Int) ≠ 0 by decide))) (fun h7 => ?_))) (fun h6 => ?_))) (fun h5 => ?_)))) (fun h4 => T_ret (rq_r ⟨by omega, fun i hi => h3 i (by omega)⟩))
  · exact T_ob (by omega) (T_ob (by omega) (T_ob (by omega) (T_ret (rq_l (by omega) ⟨w64_nat (by omega), by simp [h2], key (.inr (.inr h7))⟩))))
  · exact T_ob (by omega) (T_ob (by omega) (T_ob (by omega) (T_ret (rq_l (by omega) ⟨w64_nat (by omega), by simp [h2], key (.inr (.inl h6))⟩))))
  · exact T_ob (by omega) (T_ob (by omega) (T_ob (by omega) (T_ret (rq_l (by omega) ⟨w64_nat (by omega), by simp [h2], key (.inl h5)⟩))))
theorem ref21_Two_q (a b : List Int) : ∃ r, ref21_Two a b = some r ∧ (r.2 = 0 → two a b r.1) := by
  refine Tree.T_run _ (T_ex1 (ref19_Check_v a) (T_ex1 (ref19_Check_v b) (T_brN (fun h1 => T_ret fun h => absurd h h1) (fun h1 => T_brN (fun h2 => T_ret fun h => absurd h h2) (fun h2 => ?_)))))
  have ha := chk_len h1
  have hb := chk_len h2
  refine T_ex (ref21_Two_L6_q a b hb) (fun y2 hy2 => T_ex (ref21_Two_L8_q b y2 ?_) (fun y3 hy3 => ?_))
  · rw [hy2, length_pad]
    omega
  have e2 : y2.length = max b.length a.length := by rw [hy2, length_pad]
  have e3 : y3.length = y2.length := by
    rw [hy3, length_pad]
    omega
  refine T_lr (ref21_Two_L12_q y2 y3 e3.symm (by omega)) (fun c hc => T_ex1 (ref19_Check_v c) (T_brN (fun h => T_ret fun h' => absurd h' h) (fun h => T_ret fun _ => ?_))) (fun r hr => T_ret fun h' => absurd h' hr)
  obtain ⟨hc1, hc2⟩ := hc
  refine ⟨h1, h2, h, by simp only; omega, fun i hi => ?_⟩
  simp only at hi ⊢
  have p2 : pad a c.length = y2 := by
    rw [hy2, hc1, e2]
    unfold pad
    rw [show max b.length a.length - a.length = b.length - a.length by omega]
  have p3 : pad b c.length = y3 := by rw [hy3, hc1]
  rw [p2, p3]
  exact hc2 i (by omega)
theorem ref21_Fits_q (a b : List Int) : ∃ y, ref21_Fits a b = some y ∧ (y = true → fitsP a b) := by
  refine Tree.T_run _ (T_ex (ref21_Two_q a b) (fun r hr => T_brP (fun h => T_ex1 (ref19_Same_v r.1 b ?_) (T_ret fun h' => ?_)) (fun h => T_ret fun h' => by cases h')))
  · have := chk_len (hr h).2.2.1
    omega
  · have e := of_decide_eq_true h'
    have := hr h
    rw [e] at this
    exact fits_of_two this

theorem ref21_Sources_L10_q (a b : List Int) (h : fitsP a b) (n : Nat) (hn : n < (alls b).length) (q4 q5 : Int) (out : List Int) :
    ∃ o, ref21_Sources_L10 a b (alls b) n q4 q5 a.length (0, (out, [])) = some o ∧ o = (out, win a b n) := by
  obtain ⟨hc, e⟩ := alls_at hn
  have hl := chk_len hc
  have hab := h.2.2.1
  refine loopT (tr := ref21_Sources_T10 a b (alls b) n q4 q5 a.length) a.length (fun k s => s.1 = (k : Int) ∧ s.2 = (out, (List.range k).map fun i => if a.getD i default = 1 then 0 else (dg b.length b n).getD (b.length - a.length + i) default)) _ (by omega) ⟨rfl, rfl⟩ ?_
  rintro k ⟨s, o1, o2⟩ hk ⟨h1, h2⟩
  simp only [Prod.mk.injEq] at h1 h2
  obtain ⟨rfl, rfl⟩ := h2
  subst h1
  have ew : w64 (w64 ((b.length : Int) - (a.length : Int)) + (k : Int)) = ((b.length - a.length + k : Nat) : Int) := by
    rw [w64_id (n := (b.length : Int) - (a.length : Int)) (by omega) (by omega), w64_id (by omega) (by omega)]
    omega
  simp only [ref21_Sources_T10, Int.toNat_natCast, ew, e, length_dg, List.length_map, List.length_range]
  refine T_brP (fun h3 => T_ob (by omega) (T_brP (fun h4 => T_ob (by omega) (T_ret (rq_l (by omega) ⟨w64_nat (by omega), ?_⟩))) (fun h4 => T_ob (by omega) (T_ob (by omega) (T_ob (by omega) (T_ret (rq_l (by omega) ⟨w64_nat (by omega), ?_⟩))))))) (fun h3 => T_ret (rq_r ?_))
  · rw [map_range_succ, if_pos h4]
  · rw [map_range_succ, if_neg h4]
  · rw [show k = a.length by omega]
    rfl
theorem ref21_Sources_q (a b : List Int) : ∃ y, ref21_Sources a b = some y ∧ (ref21_Fits a b = some true → y = srcs a b) := by
  obtain ⟨f, hf, hfit⟩ := ref21_Fits_q a b
  refine Tree.T_run _ (T_ex1 hf (T_brB (fun h1 => T_ret fun h2 => ?_) (fun h1 => T_ex1 (ref20_All_v b) ?_)))
  · rw [hf, h1] at h2
    cases h2
  · have h := hfit h1
    have hl := alls_len b
    have hb := chk_len h.2.1
    have hab := h.2.2.1
    refine T_ex (p := fun o => o = srcs a b) ?_ (fun y hy => T_ret fun _ => hy)
    refine loopT (tr := ref21_Sources_T6 a b (alls b) (alls b).length) (alls b).length (fun n s => s.1 = (n : Int) ∧ s.2 = (List.range n).map fun n : Nat => src a b (n : Int)) _ (by omega) ⟨rfl, rfl⟩ ?_
    rintro n ⟨s, out⟩ hn ⟨h3, h4⟩
    simp only at h3 h4
    subst h3 h4
    simp only [ref21_Sources_T6]
    refine T_brP (fun h5 => T_ex (ref21_Sources_L10_q a b h n (by omega) _ _ _) fun y hy => ?_) (fun h5 => T_ret (rq_r ?_))
    · subst hy
      simp only [List.length_map, List.length_range]
      refine T_ex1 (ref21_place_v a (win a b n) (length_win _ _ _) (by omega)) (T_ob (by omega) (T_ret (rq_l (by omega) ⟨w64_nat (by omega), ?_⟩)))
      rw [map_range_succ]
      rfl
    · have : n = (prodL b).toNat := by
        rw [← alls_ok h.2.1]
        omega
      rw [this]
      rfl

theorem spread_size_v (d : List Int) (j : Nat) (h1 : 1 ≤ j) (h2 : j ≤ 6) (h3 : d.length ≤ 6) : spread_size d j = some (if d.length < j then 1 else d.getD (d.length - j) default) := by
  refine T_eq (T_brP (fun h => T_ret (by rw [if_pos (by omega)])) (fun h => ?_))
  have e : w64 ((d.length : Int) - (j : Int)) = ((d.length - j : Nat) : Int) := by
    rw [w64_id (by omega) (by omega)]
    omega
  rw [e]
  refine T_ob (by omega) (T_ret ?_)
  rw [if_neg (by omega), Int.toNat_natCast]
theorem spread_Two_L2_q (a b : List Int) (ha : chk a = 0) (hb : chk b = 0) : ∃ o, spread_Two_L2 a b (↑2 : Int) (0, (a :: (b :: []))) = some o ∧ o = .inl () := by
  refine loopT (tr := spread_Two_T2 a b (↑2 : Int)) 2 (fun k s => s.1 = (k : Int) ∧ s.2 = [a, b]) _ (by omega) ⟨rfl, rfl⟩ ?_
  rintro k ⟨s, l⟩ hk ⟨h1, h2⟩
  simp only at h1 h2
  subst h1 h2
  simp only [spread_Two_T2, Int.toNat_natCast]
  have e : k < 2 → chk ([a, b].getD k default) = 0 := by
    intro h
    match k, h with
    | 0, _ => exact ha
    | 1, _ => exact hb
  refine T_brP (fun h3 => T_ob (by simp only [List.length_cons, List.length_nil]; omega) (T_ex1 (shape_Check_v _) (T_brN (fun h4 => absurd (e (by omega)) h4) (fun h4 => T_ret (rq_l (by omega) ⟨w64_nat (by omega), rfl⟩))))) (fun h3 => T_ret (rq_r rfl))
theorem spread_Two_L11_q (a b : List Int) (h : fitsP a b) : ∃ o, spread_Two_L11 a b b.length (1, (List.replicate b.length 0)) = some o ∧ o = .inl b := by
  obtain ⟨ha, hb, hab, hf⟩ := h
  have hl := chk_len hb
  refine loopT (tr := spread_Two_T11 a b b.length) b.length (fun k s => s.1 = (k : Int) + 1 ∧ s.2.length = b.length ∧ s.2.drop (b.length - k) = b.drop (b.length - k)) _ (by omega) ⟨rfl, by simp, by simp⟩ ?_
  rintro k ⟨s, l⟩ hk ⟨h1, h2, h3⟩
  simp only at h1 h2 h3
  subst h1
  simp only [spread_Two_T11]
  refine T_brP (fun h4 => ?_) (fun h4 => T_ret (rq_r ?_))
  · have hk' : k < b.length := by omega
    have s1 := spread_size_v a (k + 1) (by omega) (by omega) (by omega)
    have s2 := spread_size_v b (k + 1) (by omega) (by omega) (by omega)
    rw [if_neg (by omega)] at s2
    have e : w64 ((b.length : Int) - ((k : Int) + 1)) = ((b.length - (k + 1) : Nat) : Int) := by
      rw [w64_id (by omega) (by omega)]
      omega
    have hp := (chk_zero.1 hb).2.1.getD (show b.length - (k + 1) < b.length by omega)
    obtain ⟨y0, hy0, hy⟩ : ∃ y0 : Int, spread_size a ((k + 1 : Nat) : Int) = some y0 ∧ (y0 = 1 ∨ y0 = b.getD (b.length - (k + 1)) default) := by
      refine ⟨_, s1, ?_⟩
      split
      · exact .inl rfl
      · have := hf (a.length - (k + 1)) (by omega)
        rwa [show b.length - a.length + (a.length - (k + 1)) = b.length - (k + 1) by omega] at this
    have key : max y0 (b.getD (b.length - (k + 1)) default) = b.getD (b.length - (k + 1)) default := Int.max_eq_right (by omega)
    have fin : rq b.length k (fun k (s : Int × List Int) => s.1 = (k : Int) + 1 ∧ s.2.length = b.length ∧ s.2.drop (b.length - k) = b.drop (b.length - k)) (fun o : (List Int) ⊕ ((List Int) × Int) => o = .inl b) (.inl (w64 ((k : Int) + 1 + 1), l.set (b.length - (k + 1)) (max y0 (b.getD (b.length - (k + 1)) default)))) := by
      refine rq_l hk' ⟨?_, by simpa using h2, ?_⟩
      · simp only
        rw [w64_id (by omega) (by omega)]
        omega
      · rw [key, drop_set_self (by omega), drop_getD (show b.length - (k + 1) < b.length by omega), show b.length - (k + 1) + 1 = b.length - k by omega, h3]
    rw [e]
    refine T_ex1 hy0 (T_ex1 s2 (T_brN (fun h5 => T_brN (fun h6 => absurd (hy.resolve_left h6) h5) (fun h6 => T_ob (by omega) (T_ret ?_))) (fun h5 => T_ob (by omega) (T_ret ?_))))
    · rw [Int.toNat_natCast]; exact fin
    · rw [Int.toNat_natCast]; exact fin
  · have : k = b.length := by omega
    rw [this, Nat.sub_self, List.drop_zero, List.drop_zero] at h3
    rw [h3]
theorem spread_Two_L11_w (a b : List Int) (h : fitsP a b) (m : Int) (hm : m = (b.length : Int)) : ∃ o, spread_Two_L11 a b m (1, (List.replicate m.toNat 0)) = some o ∧ o = .inl b := by
  subst hm
  exact spread_Two_L11_q a b h
theorem spread_Fits_v (a b : List Int) (h : fitsP a b) : spread_Fits a b = some true := by
  have hl := chk_len h.2.1
  have hab := h.2.2.1
  have e : max (a.length : Int) (b.length : Int) = (b.length : Int) := by omega
  have e2 : spread_Two a b = some (b, 0) := by
    refine T_eq (T_un (spread_Two_L2_q a b h.1 h.2.1) (fun _ => ?_) (fun y hy => by cases hy))
    refine T_ob (by omega) (T_lr (spread_Two_L11_w a b h _ e) (fun y hy => ?_) (fun y hy => by cases hy))
    cases hy
    exact T_ex1 (shape_Check_v b) (T_brN (fun h1 => absurd h.2.1 h1) (fun h1 => T_ret rfl))
  exact T_eq (T_ex1 e2 (T_brP (fun _ => T_ex1 (shape_Same_v b b (by omega)) (T_ret (by simp))) (fun h1 => absurd rfl h1)))

/-! ### From a number to a place and back -/
theorem walk_At_r_v (d : List Int) (n : Int) (hc : chk d = 0) (h0 : 0 ≤ n) (h1 : n < prodL d) : walk_At_r d n = some (dg d.length d n, true) := by
  obtain ⟨hl, hp, h64⟩ := chk_zero.1 hc
  refine T_eq (T_brP (fun h => by omega) (fun h => T_ex1 (shape_Count_v d) (T_brP (fun h2 => ?_) (fun h2 => T_ob (by omega) (T_ex (p := fun o => o = dg d.length d n) ?_ (fun y hy => T_ret (by rw [hy])))))))
  · refine absurd (show cnt d ≤ n from h2) ?_
    rw [(cnt_ok hc).1]
    omega
  rw [Int.toNat_natCast]
  have e : w64 ((d.length : Int) - 1) = (d.length : Int) - 1 := w64_id (by omega) (by omega)
  rw [e]
  refine loopT (tr := walk_At_r_T5 d) d.length (fun k s => s.2.1 = (d.length : Int) - 1 - (k : Int) ∧ 0 ≤ s.1 ∧ s.1 ≤ n ∧ s.2.2.length = d.length ∧ dg (d.length - k) d s.1 ++ s.2.2.drop (d.length - k) = dg d.length d n) _ (by omega) ⟨by simp, h0, by simp, by simp, by simp⟩ ?_
  rintro k ⟨m, i, l⟩ hk ⟨h2, h3, h4, h5, h6⟩
  simp only at h2 h3 h4 h5 h6
  subst h2
  simp only [walk_At_r_T5]
  refine T_brP (fun h7 => ?_) (fun h7 => T_ret (rq_r ?_))
  · obtain ⟨j, hj⟩ : ∃ j, d.length - k = j + 1 := ⟨d.length - k - 1, by omega⟩
    have ej : (d.length : Int) - 1 - (k : Int) = (j : Int) := by omega
    rw [ej, Int.toNat_natCast]
    have hpj := hp.getD (show j < d.length by omega)
    have e1 : m.tdiv (d.getD j default) = m / d.getD j default := Int.tdiv_eq_ediv_of_nonneg h3
    have e2 : m.tmod (d.getD j default) = m % d.getD j default := Int.tmod_eq_emod_of_nonneg h3
    have e3 : 0 ≤ m / d.getD j default := Int.ediv_nonneg h3 (by omega)
    have e4 : m / d.getD j default ≤ m := Int.ediv_le_self _ h3
    refine T_ob (by omega) (T_ob (by omega) (T_ob (by omega) (T_ob (by omega) (T_ob (by omega) (T_ret (rq_l (by omega) ?_))))))
    simp only [e1, e2]
    rw [w64_id (by omega) (by omega), w64_id (by omega) (by omega)]
    refine ⟨by omega, e3, by omega, by simpa using h5, ?_⟩
    rw [show d.length - (k + 1) = j by omega, drop_set_self (by omega)]
    rw [hj] at h6
    simp only [dg, List.append_assoc, List.singleton_append] at h6
    exact h6
  · have : d.length - k = 0 := by omega
    rw [this] at h6
    simpa [dg] using h6
theorem walk_inn_v (d a : List Int) (hc : chk d = 0) (hl : a.length = d.length) (h : ∀ i, i < d.length → 0 ≤ a.getD i default ∧ a.getD i default < d.getD i default) : walk_inn d a = some true := by
  have h6 := chk_len hc
  refine T_eq (T_ex1 (shape_Check_v d) (T_brN (fun h1 => absurd hc h1) (fun _ => T_brN (fun h1 => by omega) (fun _ => T_un (p := fun o => o = .inl ()) ?_ (fun _ => T_ret rfl) (fun y hy => by cases hy)))))
  refine loopT (tr := walk_inn_T4 d a a.length) a.length (fun k s => s = (k : Int)) _ (by omega) rfl ?_
  rintro k s hk rfl
  simp only [walk_inn_T4, Int.toNat_natCast]
  refine T_brP (fun h1 => ?_) (fun _ => T_ret (rq_r rfl))
  have := h k (by omega)
  exact T_ob (by omega) (T_brP (fun h2 => by omega) (fun _ => T_ob (by omega) (T_brP (fun h2 => by omega) (fun _ => T_ret (rq_l (by omega) (w64_nat (by omega)))))))
theorem walk_Place_v (d a : List Int) (hc : chk d = 0) (hl : a.length = d.length) (h : ∀ i, i < d.length → 0 ≤ a.getD i default ∧ a.getD i default < d.getD i default) : walk_Place d a = some (horw d a d.length, true) := by
  have h6 := chk_len hc
  exact T_eq (T_ex1 (walk_inn_v d a hc hl h) (T_brB (fun h1 => by cases h1) (fun _ => T_ex (walk_Place_L5_q d a hl (by omega)) (fun y hy => T_ret (by rw [hy])))))
theorem vjp_source_v (a b : List Int) (n : Int) (h : fitsP a b) (h0 : 0 ≤ n) (h1 : n < prodL b) : vjp_source a b n = some (src a b n) := by
  have hl := chk_len h.2.1
  have hab := h.2.2.1
  have eo : w64 ((b.length : Int) - (a.length : Int)) = ((b.length - a.length : Nat) : Int) := by
    rw [w64_id (by omega) (by omega)]
    omega
  have e : spread_Source a b n = some (src a b n, true) := by
    refine T_eq (T_ex1 (walk_At_r_v b n h.2.1 h0 h1) (T_brB (fun x => by cases x) (fun _ => T_ex1 (spread_Fits_v a b h) (T_brB (fun x => by cases x) (fun _ => ?_)))))
    refine T_ob (by simp only [eo, length_dg]; omega) (T_ex (p := fun o => o.length = b.length ∧ ∀ j, j < b.length → o.getD j default = if b.length - a.length ≤ j ∧ a.getD (j - (b.length - a.length)) default = 1 then 0 else (dg b.length b n).getD j default) ?_ (fun y hy => ?_))
    · simp only [eo, length_dg, Int.toNat_natCast, Nat.zero_add]
      refine loopT (tr := spread_Source_T6 a (b.length - a.length) (b.length - (b.length - a.length)) a a.length) a.length (fun k s => s.1 = (k : Int) ∧ s.2.length = b.length ∧ ∀ j, j < b.length → s.2.getD j default = if b.length - a.length ≤ j ∧ j < b.length - a.length + k ∧ a.getD (j - (b.length - a.length)) default = 1 then 0 else (dg b.length b n).getD j default) _ (by omega) ⟨rfl, length_dg _ _ _, fun j hj => by rw [if_neg (by omega)]⟩ ?_
      rintro k ⟨s, l⟩ hk ⟨h2, h3, h4⟩
      simp only at h2 h3 h4
      subst h2
      simp only [spread_Source_T6, Int.toNat_natCast]
      refine T_brP (fun h5 => T_ob (by omega) (T_brP (fun h6 => T_ob (by omega) (T_ret (rq_l (by omega) ⟨w64_nat (by omega), by simpa using h3, fun j hj => ?_⟩))) (fun h6 => T_ret (rq_l (by omega) ⟨w64_nat (by omega), h3, fun j hj => ?_⟩)))) (fun h5 => T_ret (rq_r ⟨h3, fun j hj => ?_⟩))
      · simp only
        rw [getD_set (by omega), h4 j hj]
        by_cases hjk : j = b.length - a.length + k
        · rw [if_pos hjk, if_pos]
          subst hjk
          exact ⟨by omega, by omega, by rwa [show b.length - a.length + k - (b.length - a.length) = k by omega]⟩
        · rw [if_neg hjk]
          by_cases hc : b.length - a.length ≤ j ∧ j < b.length - a.length + k ∧ a.getD (j - (b.length - a.length)) default = 1
          · rw [if_pos hc, if_pos ⟨hc.1, by omega, hc.2.2⟩]
          · rw [if_neg hc, if_neg fun x => hc ⟨x.1, by omega, x.2.2⟩]
      · simp only
        rw [h4 j hj]
        by_cases hjk : j = b.length - a.length + k
        · have : ¬ a.getD (j - (b.length - a.length)) default = 1 := by rwa [hjk, show b.length - a.length + k - (b.length - a.length) = k by omega]
          rw [if_neg fun x => this x.2.2, if_neg fun x => this x.2.2]
        · by_cases hc : b.length - a.length ≤ j ∧ j < b.length - a.length + k ∧ a.getD (j - (b.length - a.length)) default = 1
          · rw [if_pos hc, if_pos ⟨hc.1, by omega, hc.2.2⟩]
          · rw [if_neg hc, if_neg fun x => hc ⟨x.1, by omega, x.2.2⟩]
      · rw [h4 j hj]
        by_cases hc : b.length - a.length ≤ j ∧ a.getD (j - (b.length - a.length)) default = 1
        · rw [if_pos hc, if_pos ⟨hc.1, by omega, hc.2⟩]
        · rw [if_neg hc, if_neg fun x => hc ⟨x.1, x.2.2⟩]
    · obtain ⟨hy1, hy2⟩ := hy
      have ew : List.take (b.length - (b.length - a.length)) (List.drop (b.length - a.length) y) = win a b n := by
        rw [List.take_of_length_le (by simp [hy1])]
        refine getD_ext (by rw [length_win, List.length_drop]; omega) fun i hi => ?_
        rw [List.length_drop] at hi
        rw [win_getD (by omega), List.getD_eq_getElem?_getD, List.getElem?_drop, ← List.getD_eq_getElem?_getD, hy2 _ (by omega)]
        by_cases hc : a.getD i default = 1
        · rw [if_pos hc, if_pos ⟨by omega, by rwa [show b.length - a.length + i - (b.length - a.length) = i by omega]⟩]
        · rw [if_neg hc, if_neg fun x => hc (by rw [show b.length - a.length + i - (b.length - a.length) = i by omega] at x; exact x.2)]
      refine T_ex1 (y := (src a b n, true)) ?_ (T_ret rfl)
      simp only [eo, length_dg, Int.toNat_natCast, Nat.zero_add, ew]
      exact walk_Place_v a (win a b n) h.1 (length_win _ _ _) fun i hi => win_in h hi
  exact T_eq (T_ex1 e (T_ret rfl))
end Go.Proofs.YtnkamghdikbmaaaGreat
