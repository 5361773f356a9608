/- What the functions of dims, of places and of equality come to. -/
import Derived.Test.YtnkamghdikbmaaaGreatAv
import Derived.Test.YtnkamghdikbmaaaGreatSMpl
namespace Go.Proofs.YtnkamghdikbmaaaGreat
open Go Go.SM
set_option maxRecDepth 100000
set_option linter.unusedVariables false

/-! ### Equality -/
theorem ref19_Same_v (a b : List Int) (h : a.length < 100000000000000) : ref19_Same a b = some (decide (a = b)) := by
  refine T_eq (T_brN (fun h1 => T_ret ?_) (fun h1 => ?_))
  · exact (decide_eq_false fun e => h1 (by rw [e])).symm
  · refine T_un (p := fun o => (o = .inl () ∧ a = b) ∨ (o = .inr false ∧ a ≠ b)) ?_ (fun h2 => ?_) (fun y h2 => ?_)
    · refine loopT (tr := ref19_Same_T4 a b a.length) a.length (fun k s => s = (k : Int) ∧ ∀ i, i < k → a.getD i default = b.getD i default) _ (by omega) ⟨rfl, fun i hi => by omega⟩ ?_
      rintro k s hk ⟨rfl, h3⟩
      simp only [ref19_Same_T4, Int.toNat_natCast]
      refine T_brP (fun h4 => T_ob (by omega) (T_ob (by omega) (T_brN (fun h5 => T_ret (rq_r (.inr ⟨rfl, fun e => h5 (by rw [e])⟩))) (fun h5 => T_ret (rq_l (by omega) ⟨w64_nat (by omega), fun i hi => ?_⟩))))) (fun h4 => T_ret (rq_r (.inl ⟨rfl, ?_⟩)))
      · by_cases hik : i = k
        · rw [hik]; exact h5
        · exact h3 i (by omega)
      · exact getD_ext (by omega) fun i hi => h3 i (by omega)
    · rcases h2 with ⟨_, h2⟩ | ⟨h2, _⟩
      · exact (decide_eq_true h2).symm
      · cases h2
    · rcases h2 with ⟨h2, _⟩ | ⟨h2, h3⟩
      · cases h2
      · cases h2
        exact (decide_eq_false h3).symm
theorem plain_Ints_v (a b : List Int) (h : a.length < 100000000000000) : plain_Ints a b = some (decide (a = b)) := by
  refine T_eq (T_brN (fun h1 => T_ret ?_) (fun h1 => ?_))
  · exact (decide_eq_false fun e => h1 (by rw [e])).symm
  · refine T_un (p := fun o => (o = .inl () ∧ a = b) ∨ (o = .inr false ∧ a ≠ b)) ?_ (fun h2 => ?_) (fun y h2 => ?_)
    · refine loopT (tr := plain_Ints_T4 a b a.length) a.length (fun k s => s = (k : Int) ∧ ∀ i, i < k → a.getD i default = b.getD i default) _ (by omega) ⟨rfl, fun i hi => by omega⟩ ?_
      rintro k s hk ⟨rfl, h3⟩
      simp only [plain_Ints_T4, Int.toNat_natCast]
      refine T_brP (fun h4 => T_ob (by omega) (T_ob (by omega) (T_brN (fun h5 => T_ret (rq_r (.inr ⟨rfl, fun e => h5 (by rw [e])⟩))) (fun h5 => T_ret (rq_l (by omega) ⟨w64_nat (by omega), fun i hi => ?_⟩))))) (fun h4 => T_ret (rq_r (.inl ⟨rfl, ?_⟩)))
      · by_cases hik : i = k
        · rw [hik]; exact h5
        · exact h3 i (by omega)
      · exact getD_ext (by omega) fun i hi => h3 i (by omega)
    · rcases h2 with ⟨_, h2⟩ | ⟨h2, _⟩
      · exact (decide_eq_true h2).symm
      · cases h2
    · rcases h2 with ⟨h2, _⟩ | ⟨h2, h3⟩
      · cases h2
      · cases h2
        exact (decide_eq_false h3).symm
theorem slices_Equal_v (a b : List Int) (h : a.length < 100000000000000) : slices_Equal a b = some (decide (a = b)) := by
  refine T_eq (T_brN (fun h1 => T_ret ?_) (fun h1 => ?_))
  · exact (decide_eq_false fun e => h1 (by rw [e])).symm
  · refine T_un (p := fun o => (o = .inl () ∧ a = b) ∨ (o = .inr false ∧ a ≠ b)) ?_ (fun h2 => ?_) (fun y h2 => ?_)
    · refine loopT (tr := slices_Equal_T4 a b a.length) a.length (fun k s => s = (k : Int) ∧ ∀ i, i < k → a.getD i default = b.getD i default) _ (by omega) ⟨rfl, fun i hi => by omega⟩ ?_
      rintro k s hk ⟨rfl, h3⟩
      simp only [slices_Equal_T4, Int.toNat_natCast]
      refine T_brP (fun h4 => T_ob (by omega) (T_ob (by omega) (T_brN (fun h5 => T_ret (rq_r (.inr ⟨rfl, fun e => h5 (by rw [e])⟩))) (fun h5 => T_ret (rq_l (by omega) ⟨w64_nat (by omega), fun i hi => ?_⟩))))) (fun h4 => T_ret (rq_r (.inl ⟨rfl, ?_⟩)))
      · by_cases hik : i = k
        · rw [hik]; exact h5
        · exact h3 i (by omega)
      · exact getD_ext (by omega) fun i hi => h3 i (by omega)
    · rcases h2 with ⟨_, h2⟩ | ⟨h2, _⟩
      · exact (decide_eq_true h2).symm
      · cases h2
    · rcases h2 with ⟨h2, _⟩ | ⟨h2, h3⟩
      · cases h2
      · cases h2
        exact (decide_eq_false h3).symm
theorem ref07_Words_v (a b : List UInt64) (h : a.length < 100000000000000) : ref07_Words a b = some (decide (a = b)) := by
  refine T_eq (T_brN (fun h1 => T_ret ?_) (fun h1 => ?_))
  · exact (decide_eq_false fun e => h1 (by rw [e])).symm
  · refine T_un (p := fun o => (o = .inl () ∧ a = b) ∨ (o = .inr false ∧ a ≠ b)) ?_ (fun h2 => ?_) (fun y h2 => ?_)
    · refine loopT (tr := ref07_Words_T4 a b a.length) a.length (fun k s => s = (k : Int) ∧ ∀ i, i < k → a.getD i default = b.getD i default) _ (by omega) ⟨rfl, fun i hi => by omega⟩ ?_
      rintro k s hk ⟨rfl, h3⟩
      simp only [ref07_Words_T4, Int.toNat_natCast]
      refine T_brP (fun h4 => T_ob (by omega) (T_ob (by omega) (T_brN (fun h5 => T_ret (rq_r (.inr ⟨rfl, fun e => h5 (by rw [e])⟩))) (fun h5 => T_ret (rq_l (by omega) ⟨w64_nat (by omega), fun i hi => ?_⟩))))) (fun h4 => T_ret (rq_r (.inl ⟨rfl, ?_⟩)))
      · by_cases hik : i = k
        · rw [hik]; exact h5
        · exact h3 i (by omega)
      · exact getD_ext (by omega) fun i hi => h3 i (by omega)
    · rcases h2 with ⟨_, h2⟩ | ⟨h2, _⟩
      · exact (decide_eq_true h2).symm
      · cases h2
    · rcases h2 with ⟨h2, _⟩ | ⟨h2, h3⟩
      · cases h2
      · cases h2
        exact (decide_eq_false h3).symm
theorem shape_Same_v (a b : List Int) (h : a.length < 100000000000000) : shape_Same a b = some (decide (a = b)) :=
  T_eq (T_ex1 (slices_Equal_v a b h) rfl)

/-! ### Checks -/
theorem ref19_Check_L4_q (d : List Int) (hl : d.length ≤ 6) : ∃ o, ref19_Check_L4 d d.length 0 = some o ∧ ((o = .inl () ∧ Pos d) ∨ (o = .inr 8 ∧ ∃ x ∈ d, x < 1)) := by
  refine loopT (tr := ref19_Check_T4 d d.length) d.length (fun k s => s = (k : Int) ∧ ∀ i, i < k → 1 ≤ d.getD i default) _ (by omega) ⟨rfl, fun i hi => by omega⟩ ?_
  rintro k s hk ⟨rfl, h3⟩
  simp only [ref19_Check_T4, Int.toNat_natCast]
  refine T_brP (fun h4 => T_ob (by omega) (T_brP (fun h5 => T_ret (rq_r (.inr ⟨rfl, _, getD_mem (by omega), h5⟩))) (fun h5 => T_ret (rq_l (by omega) ⟨w64_nat (by omega), fun i hi => ?_⟩)))) (fun h4 => T_ret (rq_r (.inl ⟨rfl, fun x hx => ?_⟩)))
  · by_cases hik : i = k
    · rw [hik]; omega
    · exact h3 i (by omega)
  · obtain ⟨i, hi, rfl⟩ := mem_getD hx
    exact h3 i (by omega)
theorem shape_Check_L4_q (d : List Int) (hl : d.length ≤ 6) : ∃ o, shape_Check_L4 d d d.length 0 = some o ∧ ((o = .inl () ∧ Pos d) ∨ (o = .inr 8 ∧ ∃ x ∈ d, x < 1)) := by
  refine loopT (tr := shape_Check_T4 d d d.length) d.length (fun k s => s = (k : Int) ∧ ∀ i, i < k → 1 ≤ d.getD i default) _ (by omega) ⟨rfl, fun i hi => by omega⟩ ?_
  rintro k s hk ⟨rfl, h3⟩
  simp only [shape_Check_T4, Int.toNat_natCast]
  refine T_brP (fun h4 => T_ob (by omega) (T_brP (fun h5 => T_ret (rq_r (.inr ⟨rfl, _, getD_mem (by omega), h5⟩))) (fun h5 => T_ret (rq_l (by omega) ⟨w64_nat (by omega), fun i hi => ?_⟩)))) (fun h4 => T_ret (rq_r (.inl ⟨rfl, fun x hx => ?_⟩)))
  · by_cases hik : i = k
    · rw [hik]; omega
    · exact h3 i (by omega)
  · obtain ⟨i, hi, rfl⟩ := mem_getD hx
    exact h3 i (by omega)
theorem ref19_Check_L11_q (d : List Int) (hl : d.length ≤ 6) (hp : Pos d) : ∃ o, ref19_Check_L11 d d.length (1, 0) = some o ∧ ((o = .inl () ∧ prodL d ≤ 64) ∨ (o = .inr 12 ∧ 64 < prodL d)) := by
  refine loopT (tr := ref19_Check_T11 d d.length) d.length (fun k s => s.2 = (k : Int) ∧ s.1 = prodL (d.take k) ∧ s.1 ≤ 64) _ (by omega) ⟨rfl, rfl, by decide⟩ ?_
  rintro k ⟨p, s⟩ hk ⟨h1, h2, h3⟩
  simp only at h1 h2 h3
  subst h1
  simp only [ref19_Check_T11, Int.toNat_natCast]
  refine T_brP (fun h => ?_) (fun h => T_ret (rq_r (.inl ⟨rfl, ?_⟩)))
  · have hk' : k < d.length := by omega
    have g1 := getD_le_prodL hp hk'
    have g2 := prodL_take_le hp (k + 1)
    rw [prodL_take_succ hk', ← h2] at g2
    have g3 := hp.getD hk'
    have g4 := prodL_pos (hp.take k)
    rw [← h2] at g4
    refine T_ob (by omega) (T_brP (fun h5 => T_ret (rq_r (.inr ⟨rfl, by omega⟩))) (fun h5 => T_ob (by omega) ?_))
    have g5 : p * d.getD k default ≤ 64 * 64 := Int.mul_le_mul h3 (by omega) (by omega) (by omega)
    have g6 : 0 ≤ p * d.getD k default := Int.mul_nonneg (by omega) (by omega)
    simp only [w64_id (show -9223372036854775808 ≤ p * d.getD k default by omega) (show p * d.getD k default < 9223372036854775808 by omega)]
    refine T_brP (fun h6 => T_ret (rq_r (.inr ⟨rfl, by omega⟩))) (fun h6 => T_ob (by omega) (T_ret (rq_l hk' ⟨w64_nat (by omega), ?_, by simpa using h6⟩)))
    rw [prodL_take_succ hk', ← h2]
  · have : k = d.length := by omega
    subst this
    rw [List.take_length] at h2
    omega
theorem shape_Check_L11_q (d : List Int) (hl : d.length ≤ 6) (hp : Pos d) : ∃ o, shape_Check_L11 d d.length (1, 0) = some o ∧ ((o = .inl () ∧ prodL d ≤ 64) ∨ (o = .inr 12 ∧ 64 < prodL d)) := by
  refine loopT (tr := shape_Check_T11 d d.length) d.length (fun k s => s.2 = (k : Int) ∧ s.1 = prodL (d.take k) ∧ s.1 ≤ 64) _ (by omega) ⟨rfl, rfl, by decide⟩ ?_
  rintro k ⟨p, s⟩ hk ⟨h1, h2, h3⟩
  simp only at h1 h2 h3
  subst h1
  simp only [shape_Check_T11, Int.toNat_natCast]
  refine T_brP (fun h => ?_) (fun h => T_ret (rq_r (.inl ⟨rfl, ?_⟩)))
  · have hk' : k < d.length := by omega
    have g2 := prodL_take_le hp (k + 1)
    have g7 := prodL_take_succ hk'
    rw [g7, ← h2] at g2
    have g3 := hp.getD hk'
    have g4 := prodL_pos (hp.take k)
    rw [← h2] at g4
    refine T_ob (by omega) (T_brP (fun h5 => T_ret (rq_l hk' ⟨w64_nat (by omega), ?_, h3⟩)) (fun h5 => T_ob (by omega) ?_))
    · rw [g7, ← h2, h5]
      omega
    have e1 : (64 : Int).tdiv p = 64 / p := Int.tdiv_eq_ediv_of_nonneg (by omega)
    have e2 : 64 / p ≤ 64 := Int.ediv_le_self _ (by omega)
    have e3 : 0 ≤ 64 / p := Int.ediv_nonneg (by omega) (by omega)
    simp only [e1, w64_id (show -9223372036854775808 ≤ 64 / p by omega) (show 64 / p < 9223372036854775808 by omega)]
    refine T_brP (fun h6 => T_ret (rq_r (.inr ⟨rfl, ?_⟩))) (fun h6 => ?_)
    · have := (Int.ediv_lt_iff_lt_mul (show 0 < p by omega)).1 h6
      rw [Int.mul_comm] at this
      omega
    · have g5 : p * d.getD k default ≤ 64 := by
        have := (Int.le_ediv_iff_mul_le (show 0 < p by omega)).1 (show d.getD k default ≤ 64 / p by omega)
        rwa [Int.mul_comm] at this
      have g6 : 0 ≤ p * d.getD k default := Int.mul_nonneg (by omega) (by omega)
      simp only [w64_id (show -9223372036854775808 ≤ p * d.getD k default by omega) (show p * d.getD k default < 9223372036854775808 by omega)]
      exact T_ret (rq_l hk' ⟨w64_nat (by omega), by simp only [g7, ← h2], g5⟩)
  · have : k = d.length := by omega
    subst this
    rw [List.take_length] at h2
    omega
theorem ref19_Check_v (d : List Int) : ref19_Check d = some (chk d) := by
  refine T_eq (T_brP (fun h1 => T_ret ?_) (fun h1 => ?_))
  · simp [chk, show 6 < d.length by omega]
  · have hl : d.length ≤ 6 := by omega
    refine T_un (ref19_Check_L4_q d hl) (fun h2 => ?_) (fun y h2 => T_ret ?_)
    · rcases h2 with ⟨_, hp⟩ | ⟨h2, _⟩
      · have hn : ¬ ∃ x ∈ d, x < 1 := fun ⟨x, hx, h⟩ => by
          have := hp x hx
          omega
        refine T_un (ref19_Check_L11_q d hl hp) (fun h2 => T_ret ?_) (fun y h2 => T_ret ?_)
        · rcases h2 with ⟨_, h2⟩ | ⟨h2, _⟩
          · simp only [chk, if_neg (show ¬ 6 < d.length by omega), if_neg hn, if_neg (show ¬ 64 < prodL d by omega)]
          · cases h2
        · rcases h2 with ⟨h2, _⟩ | ⟨h2, h3⟩
          · cases h2
          · cases h2
            simp only [chk, if_neg (show ¬ 6 < d.length by omega), if_neg hn, if_pos h3]
      · cases h2
    · rcases h2 with ⟨h2, _⟩ | ⟨h2, h3⟩
      · cases h2
      · cases h2
        simp only [chk, if_neg (show ¬ 6 < d.length by omega), if_pos h3]
theorem shape_Check_v (d : List Int) : shape_Check d = some (chk d) := by
  refine T_eq (T_brP (fun h1 => T_ret ?_) (fun h1 => ?_))
  · simp [chk, show 6 < d.length by omega]
  · have hl : d.length ≤ 6 := by omega
    refine T_un (shape_Check_L4_q d hl) (fun h2 => ?_) (fun y h2 => T_ret ?_)
    · rcases h2 with ⟨_, hp⟩ | ⟨h2, _⟩
      · have hn : ¬ ∃ x ∈ d, x < 1 := fun ⟨x, hx, h⟩ => by
          have := hp x hx
          omega
        refine T_un (shape_Check_L11_q d hl hp) (fun h2 => T_ret ?_) (fun y h2 => T_ret ?_)
        · rcases h2 with ⟨_, h2⟩ | ⟨h2, _⟩
          · simp only [chk, if_neg (show ¬ 6 < d.length by omega), if_neg hn, if_neg (show ¬ 64 < prodL d by omega)]
          · cases h2
        · rcases h2 with ⟨h2, _⟩ | ⟨h2, h3⟩
          · cases h2
          · cases h2
            simp only [chk, if_neg (show ¬ 6 < d.length by omega), if_neg hn, if_pos h3]
      · cases h2
    · rcases h2 with ⟨h2, _⟩ | ⟨h2, h3⟩
      · cases h2
      · cases h2
        simp only [chk, if_neg (show ¬ 6 < d.length by omega), if_pos h3]
theorem ref19_Count_v (d : List Int) : ref19_Count d = some (cnt d) := by
  refine T_eq (T_ex1 (ref19_Check_v d) (T_brN (fun h1 => T_ret ?_) (fun h1 => ?_)))
  · simp [cnt, h1]
  · obtain ⟨hl, hp, hm⟩ := chk_zero.1 h1
    refine T_ex (p := fun o => o = prodL d) ?_ (fun y hy => T_ret ?_)
    · refine loopT (tr := ref19_Count_T5 d d.length) d.length (fun k s => s.2 = (k : Int) ∧ s.1 = prodL (d.take k)) _ (by omega) ⟨rfl, rfl⟩ ?_
      rintro k ⟨p, s⟩ hk ⟨h3, h4⟩
      simp only at h3 h4
      subst h3
      simp only [ref19_Count_T5, Int.toNat_natCast]
      refine T_brP (fun h5 => T_ob (by omega) (T_ret (rq_l (by omega) ⟨w64_nat (by omega), ?_⟩))) (fun h5 => T_ret (rq_r ?_))
      · have g1 := prodL_take_le hp (k + 1)
        have g2 := prodL_pos (hp.take (k + 1))
        rw [prodL_take_succ (by omega), ← h4] at g1 g2
        simp only [w64_id (show -9223372036854775808 ≤ p * d.getD k default by omega) (show p * d.getD k default < 9223372036854775808 by omega)]
        rw [prodL_take_succ (by omega), ← h4]
      · have : k = d.length := by omega
        subst this
        rw [List.take_length] at h4
        exact h4
    · simp [cnt, h1, hy]
theorem shape_Count_v (d : List Int) : shape_Count d = some (cnt d) := by
  refine T_eq (T_ex1 (shape_Check_v d) (T_brN (fun h1 => T_ret ?_) (fun h1 => ?_)))
  · simp [cnt, h1]
  · obtain ⟨hl, hp, hm⟩ := chk_zero.1 h1
    refine T_ex (p := fun o => o = prodL d) ?_ (fun y hy => T_ret ?_)
    · refine loopT (tr := shape_Count_T5 d d.length) d.length (fun k s => s.2 = (k : Int) ∧ s.1 = prodL (d.take k)) _ (by omega) ⟨rfl, rfl⟩ ?_
      rintro k ⟨p, s⟩ hk ⟨h3, h4⟩
      simp only at h3 h4
      subst h3
      simp only [shape_Count_T5, Int.toNat_natCast]
      refine T_brP (fun h5 => T_ob (by omega) (T_ret (rq_l (by omega) ⟨w64_nat (by omega), ?_⟩))) (fun h5 => T_ret (rq_r ?_))
      · have g1 := prodL_take_le hp (k + 1)
        have g2 := prodL_pos (hp.take (k + 1))
        rw [prodL_take_succ (by omega), ← h4] at g1 g2
        simp only [w64_id (show -9223372036854775808 ≤ p * d.getD k default by omega) (show p * d.getD k default < 9223372036854775808 by omega)]
        rw [prodL_take_succ (by omega), ← h4]
      · have : k = d.length := by omega
        subst this
        rw [List.take_length] at h4
        exact h4
    · simp [cnt, h1, hy]
theorem ref32_Whole_v (a : ArgD) : ref32_Whole a = some (decide ((a.2.1.length : Int) = cnt a.1)) :=
  T_eq (T_ex1 (ref19_Count_v a.1) rfl)
end Go.Proofs.YtnkamghdikbmaaaGreat
