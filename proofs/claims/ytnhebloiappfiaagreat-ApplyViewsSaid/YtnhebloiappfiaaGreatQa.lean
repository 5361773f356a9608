/- What the functions of dims, places, equality, values and primitives come to. -/
import Derived.Test.YtnhebloiappfiaaGreatAv
import Derived.Test.YtnhebloiappfiaaGreatSMvw
import Derived.Test.YtnhebloiappfiaaGreatSMen
namespace Go.Proofs.YtnhebloiappfiaaGreat
open Go Go.SM
set_option maxRecDepth 100000
set_option linter.unusedVariables false
theorem plain_Ints_v (a b : List Int) (h : a.length < 100000000000000) : plain_Ints a b = some (decide (a = b)) := by
  refine T_eq (T_brN (fun h1 => T_ret ?_) (fun h1 => ?_))
  · exact (decide_eq_false fun e => h1 (by rw [e])).symm
  · refine T_un (p := fun o => (o = .inl () ∧ a = b) ∨ (o = .inr false ∧ a ≠ b)) ?_ (fun h2 => ?_) (fun y h2 => ?_)
    · refine loopT (tr := plain_Ints_T4 a b a.length) a.length (fun k s => s = (k : Int) ∧ ∀ i, i < k → a.getD i default = b.getD i default) _ (by omega) ⟨rfl, fun i hi => by omega⟩ ?_
      rintro k s hk ⟨rfl, h3⟩
      simp only [plain_Ints_T4, Int.toNat_natCast]
      refine T_brP (fun h4 => T_ob (by omega) (T_ob (by omega) (T_brN (fun h5 => T_ret (rq_r (.inr ⟨rfl, fun e => h5 (by rw [e])⟩))) (fun h5 => T_ret (rq_l (by omega) ⟨w64_nat (by omega), fun i hi => ?_⟩))))) (fun h4 => T_ret (rq_r (.inl ⟨rfl, ?_⟩)))
      · by_cases hik : i = k
        · rw [hik]; exact h5
        · exact h3 i (by omega)
      · exact getD_ext (by omega) fun i hi => h3 i (by omega)
    · rcases h2 with ⟨_, h2⟩ | ⟨h2, _⟩
      · exact (decide_eq_true h2).symm
      · cases h2
    · rcases h2 with ⟨h2, _⟩ | ⟨h2, h3⟩
      · cases h2
      · cases h2
        exact (decide_eq_false h3).symm
theorem slices_Equal_v (a b : List Int) (h : a.length < 100000000000000) : slices_Equal a b = some (decide (a = b)) := by
  refine T_eq (T_brN (fun h1 => T_ret ?_) (fun h1 => ?_))
  · exact (decide_eq_false fun e => h1 (by rw [e])).symm
  · refine T_un (p := fun o => (o = .inl () ∧ a = b) ∨ (o = .inr false ∧ a ≠ b)) ?_ (fun h2 => ?_) (fun y h2 => ?_)
    · refine loopT (tr := slices_Equal_T4 a b a.length) a.length (fun k s => s = (k : Int) ∧ ∀ i, i < k → a.getD i default = b.getD i default) _ (by omega) ⟨rfl, fun i hi => by omega⟩ ?_
      rintro k s hk ⟨rfl, h3⟩
      simp only [slices_Equal_T4, Int.toNat_natCast]
      refine T_brP (fun h4 => T_ob (by omega) (T_ob (by omega) (T_brN (fun h5 => T_ret (rq_r (.inr ⟨rfl, fun e => h5 (by rw [e])⟩))) (fun h5 => T_ret (rq_l (by omega) ⟨w64_nat (by omega), fun i hi => ?_⟩))))) (fun h4 => T_ret (rq_r (.inl ⟨rfl, ?_⟩)))
      · by_cases hik : i = k
        · rw [hik]; exact h5
        · exact h3 i (by omega)
      · exact getD_ext (by omega) fun i hi => h3 i (by omega)
    · rcases h2 with ⟨_, h2⟩ | ⟨h2, _⟩
      · exact (decide_eq_true h2).symm
      · cases h2
    · rcases h2 with ⟨h2, _⟩ | ⟨h2, h3⟩
      · cases h2
      · cases h2
        exact (decide_eq_false h3).symm
theorem ref07_Words_v (a b : List UInt64) (h : a.length < 100000000000000) : ref07_Words a b = some (decide (a = b)) := by
  refine T_eq (T_brN (fun h1 => T_ret ?_) (fun h1 => ?_))
  · exact (decide_eq_false fun e => h1 (by rw [e])).symm
  · refine T_un (p := fun o => (o = .inl () ∧ a = b) ∨ (o = .inr false ∧ a ≠ b)) ?_ (fun h2 => ?_) (fun y h2 => ?_)
    · refine loopT (tr := ref07_Words_T4 a b a.length) a.length (fun k s => s = (k : Int) ∧ ∀ i, i < k → a.getD i default = b.getD i default) _ (by omega) ⟨rfl, fun i hi => by omega⟩ ?_
      rintro k s hk ⟨rfl, h3⟩
      simp only [ref07_Words_T4, Int.toNat_natCast]
      refine T_brP (fun h4 => T_ob (by omega) (T_ob (by omega) (T_brN (fun h5 => T_ret (rq_r (.inr ⟨rfl, fun e => h5 (by rw [e])⟩))) (fun h5 => T_ret (rq_l (by omega) ⟨w64_nat (by omega), fun i hi => ?_⟩))))) (fun h4 => T_ret (rq_r (.inl ⟨rfl, ?_⟩)))
      · by_cases hik : i = k
        · rw [hik]; exact h5
        · exact h3 i (by omega)
      · exact getD_ext (by omega) fun i hi => h3 i (by omega)
    · rcases h2 with ⟨_, h2⟩ | ⟨h2, _⟩
      · exact (decide_eq_true h2).symm
      · cases h2
    · rcases h2 with ⟨h2, _⟩ | ⟨h2, h3⟩
      · cases h2
      · cases h2
        exact (decide_eq_false h3).symm
theorem shape_Same_v (a b : List Int) (h : a.length < 100000000000000) : shape_Same a b = some (decide (a = b)) :=
  T_eq (T_ex1 (slices_Equal_v a b h) rfl)

theorem ref19_Check_L4_q (d : List Int) (hl : d.length ≤ 6) : ∃ o, ref19_Check_L4 d d.length 0 = some o ∧ ((o = .inl () ∧ Pos d) ∨ (o = .inr 8 ∧ ∃ x ∈ d, x < 1)) := by
  refine loopT (tr := ref19_Check_T4 d d.length) d.length (fun k s => s = (k : Int) ∧ ∀ i, i < k → 1 ≤ d.getD i default) _ (by omega) ⟨rfl, fun i hi => by omega⟩ ?_
  rintro k s hk ⟨rfl, h3⟩
  simp only [ref19_Check_T4, Int.toNat_natCast]
  refine T_brP (fun h4 => T_ob (by omega) (T_brP (fun h5 => T_ret (rq_r (.inr ⟨rfl, _, getD_mem (by omega), h5⟩))) (fun h5 => T_ret (rq_l (by omega) ⟨w64_nat (by omega), fun i hi => ?_⟩)))) (fun h4 => T_ret (rq_r (.inl ⟨rfl, fun x hx => ?_⟩)))
  · by_cases hik : i = k
    · rw [hik]; omega
    · exact h3 i (by omega)
  · obtain ⟨i, hi, rfl⟩ := mem_getD hx
    exact h3 i (by omega)
theorem shape_Check_L4_q (d : List Int) (hl : d.length ≤ 6) : ∃ o, shape_Check_L4 d d d.length 0 = some o ∧ ((o = .inl () ∧ Pos d) ∨ (o = .inr 8 ∧ ∃ x ∈ d, x < 1)) := by
  refine loopT (tr := shape_Check_T4 d d d.length) d.length (fun k s => s = (k : Int) ∧ ∀ i, i < k → 1 ≤ d.getD i default) _ (by omega) ⟨rfl, fun i hi => by omega⟩ ?_
  rintro k s hk ⟨rfl, h3⟩
  simp only [shape_Check_T4, Int.toNat_natCast]
  refine T_brP (fun h4 => T_ob (by omega) (T_brP (fun h5 => T_ret (rq_r (.inr ⟨rfl, _, getD_mem (by omega), h5⟩))) (fun h5 => T_ret (rq_l (by omega) ⟨w64_nat (by omega), fun i hi => ?_⟩)))) (fun h4 => T_ret (rq_r (.inl ⟨rfl, fun x hx => ?_⟩)))
  · by_cases hik : i = k
    · rw [hik]; omega
    · exact h3 i (by omega)
  · obtain ⟨i, hi, rfl⟩ := mem_getD hx
    exact h3 i (by omega)
theorem ref19_Check_L11_q (d : List Int) (hl : d.length ≤ 6) (hp : Pos d) : ∃ o, ref19_Check_L11 d d.length (1, 0) = some o ∧ ((o = .inl () ∧ prodL d ≤ 64) ∨ (o = .inr 12 ∧ 64 < prodL d)) := by
  refine loopT (tr := ref19_Check_T11 d d.length) d.length (fun k s => s.2 = (k : Int) ∧ s.1 = prodL (d.take k) ∧ s.1 ≤ 64) _ (by omega) ⟨rfl, rfl, by decide⟩ ?_
  rintro k ⟨p, s⟩ hk ⟨h1, h2, h3⟩
  simp only at h1 h2 h3
  subst h1
  simp only [ref19_Check_T11, Int.toNat_natCast]
  refine T_brP (fun h => ?_) (fun h => T_ret (rq_r (.inl ⟨rfl, ?_⟩)))
  · have hk' : k < d.length := by omega
    have g1 := getD_le_prodL hp hk'
    have g2 := prodL_take_le hp (k + 1)
    rw [prodL_take_succ hk', ← h2] at g2
    have g3 := hp.getD hk'
    have g4 := prodL_pos (hp.take k)
    rw [← h2] at g4
    refine T_ob (by omega) (T_brP (fun h5 => T_ret (rq_r (.inr ⟨rfl, by omega⟩))) (fun h5 => T_ob (by omega) ?_))
    have g5 : p * d.getD k default ≤ 64 * 64 := Int.mul_le_mul h3 (by omega) (by omega) (by omega)
    have g6 : 0 ≤ p * d.getD k default := Int.mul_nonneg (by omega) (by omega)
    simp only [w64_id (show -9223372036854775808 ≤ p * d.getD k default by omega) (show p * d.getD k default < 9223372036854775808 by omega)]
    refine T_brP (fun h6 => T_ret (rq_r (.inr ⟨rfl, by omega⟩))) (fun h6 => T_ob (by omega) (T_ret (rq_l hk' ⟨w64_nat (by omega), ?_, by simpa using h6⟩)))
    rw [prodL_take_succ hk', ← h2]
  · have : k = d.length := by omega
    subst this
    rw [List.take_length] at h2
    omega
theorem shape_Check_L11_q (d : List Int) (hl : d.length ≤ 6) (hp : Pos d) : ∃ o, shape_Check_L11 d d.length (1, 0) = some o ∧ ((o = .inl () ∧ prodL d ≤ 64) ∨ (o = .inr 12 ∧ 64 < prodL d)) := by
  refine loopT (tr := shape_Check_T11 d d.length) d.length (fun k s => s.2 = (k : Int) ∧ s.1 = prodL (d.take k) ∧ s.1 ≤ 64) _ (by omega) ⟨rfl, rfl, by decide⟩ ?_
  rintro k ⟨p, s⟩ hk ⟨h1, h2, h3⟩
  simp only at h1 h2 h3
  subst h1
  simp only [shape_Check_T11, Int.toNat_natCast]
  refine T_brP (fun h => ?_) (fun h => T_ret (rq_r (.inl ⟨rfl, ?_⟩)))
  · have hk' : k < d.length := by omega
    have g2 := prodL_take_le hp (k + 1)
    have g7 := prodL_take_succ hk'
    rw [g7, ← h2] at g2
    have g3 := hp.getD hk'
    have g4 := prodL_pos (hp.take k)
    rw [← h2] at g4
    refine T_ob (by omega) (T_brP (fun h5 => T_ret (rq_l hk' ⟨w64_nat (by omega), ?_, h3⟩)) (fun h5 => T_ob (by omega) ?_))
    · rw [g7, ← h2, h5]
      omega
    have e1 : (64 : Int).tdiv p = 64 / p := Int.tdiv_eq_ediv_of_nonneg (by omega)
    have e2 : 64 / p ≤ 64 := Int.ediv_le_self _ (by omega)
    have e3 : 0 ≤ 64 / p := Int.ediv_nonneg (by omega) (by omega)
    simp only [e1, w64_id (show -9223372036854775808 ≤ 64 / p by omega) (show 64 / p < 9223372036854775808 by omega)]
    refine T_brP (fun h6 => T_ret (rq_r (.inr ⟨rfl, ?_⟩))) (fun h6 => ?_)
    · have := (Int.ediv_lt_iff_lt_mul (show 0 < p by omega)).1 h6
      rw [Int.mul_comm] at this
      omega
    · have g5 : p * d.getD k default ≤ 64 := by
        have := (Int.le_ediv_iff_mul_le (show 0 < p by omega)).1 (show d.getD k default ≤ 64 / p by omega)
        rwa [Int.mul_comm] at this
      have g6 : 0 ≤ p * d.getD k default := Int.mul_nonneg (by omega) (by omega)
      simp only [w64_id (show -9223372036854775808 ≤ p * d.getD k default by omega) (show p * d.getD k default < 9223372036854775808 by omega)]
      exact T_ret (rq_l hk' ⟨w64_nat (by omega), by simp only [g7, ← h2], g5⟩)
  · have : k = d.length := by omega
    subst this
    rw [List.take_length] at h2
    omega
theorem ref19_Check_v (d : List Int) : ref19_Check d = some (chk d) := by
  refine T_eq (T_brP (fun h1 => T_ret ?_) (fun h1 => ?_))
  · simp [chk, show 6 < d.length by omega]
  · have hl : d.length ≤ 6 := by omega
    refine T_un (ref19_Check_L4_q d hl) (fun h2 => ?_) (fun y h2 => T_ret ?_)
    · rcases h2 with ⟨_, hp⟩ | ⟨h2, _⟩
      · have hn : ¬ ∃ x ∈ d, x < 1 := fun ⟨x, hx, h⟩ => by
          have := hp x hx
          omega
        refine T_un (ref19_Check_L11_q d hl hp) (fun h2 => T_ret ?_) (fun y h2 => T_ret ?_)
        · rcases h2 with ⟨_, h2⟩ | ⟨h2, _⟩
          · simp only [chk, if_neg (show ¬ 6 < d.length by omega), if_neg hn, if_neg (show ¬ 64 < prodL d by omega)]
          · cases h2
        · rcases h2 with ⟨h2, _⟩ | ⟨h2, h3⟩
          · cases h2
          · cases h2
            simp only [chk, if_neg (show ¬ 6 < d.length by omega), if_neg hn, if_pos h3]
      · cases h2
    · rcases h2 with ⟨h2, _⟩ | ⟨h2, h3⟩
      · cases h2
      · cases h2
        simp only [chk, if_neg (show ¬ 6 < d.length by omega), if_pos h3]
theorem shape_Check_v (d : List Int) : shape_Check d = some (chk d) := by
  refine T_eq (T_brP (fun h1 => T_ret ?_) (fun h1 => ?_))
  · simp [chk, show 6 < d.length by omega]
  · have hl : d.length ≤ 6 := by omega
    refine T_un (shape_Check_L4_q d hl) (fun h2 => ?_) (fun y h2 => T_ret ?_)
    · rcases h2 with ⟨_, hp⟩ | ⟨h2, _⟩
      · have hn : ¬ ∃ x ∈ d, x < 1 := fun ⟨x, hx, h⟩ => by
          have := hp x hx
          omega
        refine T_un (shape_Check_L11_q d hl hp) (fun h2 => T_ret ?_) (fun y h2 => T_ret ?_)
        · rcases h2 with ⟨_, h2⟩ | ⟨h2, _⟩
          · simp only [chk, if_neg (show ¬ 6 < d.length by omega), if_neg hn, if_neg (show ¬ 64 < prodL d by omega)]
          · cases h2
        · rcases h2 with ⟨h2, _⟩ | ⟨h2, h3⟩
          · cases h2
          · cases h2
            simp only [chk, if_neg (show ¬ 6 < d.length by omega), if_neg hn, if_pos h3]
      · cases h2
    · rcases h2 with ⟨h2, _⟩ | ⟨h2, h3⟩
      · cases h2
      · cases h2
        simp only [chk, if_neg (show ¬ 6 < d.length by omega), if_pos h3]
theorem ref19_Count_v (d : List Int) : ref19_Count d = some (cnt d) := by
  refine T_eq (T_ex1 (ref19_Check_v d) (T_brN (fun h1 => T_ret ?_) (fun h1 => ?_)))
  · simp [cnt, h1]
  · obtain ⟨hl, hp, hm⟩ := chk_zero.1 h1
    refine T_ex (p := fun o => o = prodL d) ?_ (fun y hy => T_ret ?_)
    · refine loopT (tr := ref19_Count_T5 d d.length) d.length (fun k s => s.2 = (k : Int) ∧ s.1 = prodL (d.take k)) _ (by omega) ⟨rfl, rfl⟩ ?_
      rintro k ⟨p, s⟩ hk ⟨h3, h4⟩
      simp only at h3 h4
      subst h3
      simp only [ref19_Count_T5, Int.toNat_natCast]
      refine T_brP (fun h5 => T_ob (by omega) (T_ret (rq_l (by omega) ⟨w64_nat (by omega), ?_⟩))) (fun h5 => T_ret (rq_r ?_))
      · have g1 := prodL_take_le hp (k + 1)
        have g2 := prodL_pos (hp.take (k + 1))
        rw [prodL_take_succ (by omega), ← h4] at g1 g2
        simp only [w64_id (show -9223372036854775808 ≤ p * d.getD k default by omega) (show p * d.getD k default < 9223372036854775808 by omega)]
        rw [prodL_take_succ (by omega), ← h4]
      · have : k = d.length := by omega
        subst this
        rw [List.take_length] at h4
        exact h4
    · simp [cnt, h1, hy]
theorem shape_Count_v (d : List Int) : shape_Count d = some (cnt d) := by
  refine T_eq (T_ex1 (shape_Check_v d) (T_brN (fun h1 => T_ret ?_) (fun h1 => ?_)))
  · simp [cnt, h1]
  · obtain ⟨hl, hp, hm⟩ := chk_zero.1 h1
    refine T_ex (p := fun o => o = prodL d) ?_ (fun y hy => T_ret ?_)
    · refine loopT (tr := shape_Count_T5 d d.length) d.length (fun k s => s.2 = (k : Int) ∧ s.1 = prodL (d.take k)) _ (by omega) ⟨rfl, rfl⟩ ?_
      rintro k ⟨p, s⟩ hk ⟨h3, h4⟩
      simp only at h3 h4
      subst h3
      simp only [shape_Count_T5, Int.toNat_natCast]
      refine T_brP (fun h5 => T_ob (by omega) (T_ret (rq_l (by omega) ⟨w64_nat (by omega), ?_⟩))) (fun h5 => T_ret (rq_r ?_))
      · have g1 := prodL_take_le hp (k + 1)
        have g2 := prodL_pos (hp.take (k + 1))
        rw [prodL_take_succ (by omega), ← h4] at g1 g2
        simp only [w64_id (show -9223372036854775808 ≤ p * d.getD k default by omega) (show p * d.getD k default < 9223372036854775808 by omega)]
        rw [prodL_take_succ (by omega), ← h4]
      · have : k = d.length := by omega
        subst this
        rw [List.take_length] at h4
        exact h4
    · simp [cnt, h1, hy]
theorem ref32_Whole_v (a : ArgD) : ref32_Whole a = some (decide ((a.2.1.length : Int) = cnt a.1)) :=
  T_eq (T_ex1 (ref19_Count_v a.1) rfl)
theorem ref20_All_L12_q (d : List Int) (hp : Pos d) (h64 : prodL d ≤ 64) (hl : d.length ≤ 6) (k i : Nat) (hk : k < d.length) (hi : i < (prodL (d.take k)).toNat) (q1 q3 q4 q5 q6 : Int) :
    ∃ o, ref20_All_L12 d q1 i q3 q4 q5 q6 (d.getD k default) (0, (pls k d, (List.range (i * (d.getD k default).toNat)).map fun n : Nat => dg (k + 1) d (n : Int))) = some o ∧
      o = (pls k d, (List.range ((i + 1) * (d.getD k default).toNat)).map fun n : Nat => dg (k + 1) d (n : Int)) := by
  have g1 := getD_le_prodL hp hk
  have g2 := hp.getD hk
  have g3 := prodL_take_le hp (k + 1)
  have g4 := prodL_pos (hp.take k)
  obtain ⟨x, hx⟩ : ∃ x : Nat, d.getD k default = (x : Int) := ⟨(d.getD k default).toNat, by omega⟩
  obtain ⟨N, hN⟩ : ∃ N : Nat, prodL (d.take k) = (N : Int) := ⟨(prodL (d.take k)).toNat, by omega⟩
  rw [prodL_take_succ hk, hx, hN] at g3
  rw [hN] at hi
  rw [hx] at g1 g2 ⊢
  simp only [Int.toNat_natCast] at hi ⊢
  have g5 : (i + 1) * x ≤ N * x := Nat.mul_le_mul_right x hi
  have g6 : N * x ≤ 64 := by
    have : ((N * x : Nat) : Int) ≤ 64 := by
      rw [Int.natCast_mul]
      omega
    omega
  rw [Nat.add_mul, Nat.one_mul] at g5 ⊢
  refine loopT (tr := ref20_All_T12 d q1 i q3 q4 q5 q6 x) x (fun j s => s.1 = (j : Int) ∧ s.2 = (pls k d, (List.range (i * x + j)).map fun n : Nat => dg (k + 1) d (n : Int))) _ (by omega) ⟨rfl, rfl⟩ ?_
  rintro j ⟨s, acc, out⟩ hj ⟨h1, h2⟩
  simp only [Prod.mk.injEq] at h1 h2
  obtain ⟨rfl, rfl⟩ := h2
  subst h1
  have hpl : (pls k d).length = N := by
    rw [length_pls, hN]
    simp
  have hpg : (pls k d).getD i default = dg k d (i : Int) := pls_getD (by rw [hN]; simpa using hi)
  simp only [ref20_All_T12, Int.toNat_natCast, hpg, length_dg, List.length_map, List.length_range]
  refine T_brP (fun h3 => T_ob (by rw [hpl]; omega) (T_ob (by omega) (T_ob (by omega) (T_ob (by omega) (T_ret (rq_l (by omega) ⟨w64_nat (by omega), ?_⟩)))))) (fun h3 => T_ret (rq_r ?_))
  · have := dg_snoc (d := d) (k := k) (i := i) (j := j) (by rw [hx]; omega)
    rw [hx] at this
    simp only [Prod.mk.injEq, true_and]
    rw [show i * x + (j + 1) = (i * x + j) + 1 from rfl, map_range_succ, ← this]
    simp
  · rw [show j = x by omega]
theorem ref20_All_L9_q (d : List Int) (hp : Pos d) (h64 : prodL d ≤ 64) (hl : d.length ≤ 6) (k : Nat) (hk : k < d.length) (q2 q3 : Int) :
    ∃ o, ref20_All_L9 d k q2 q3 (pls k d).length (0, (pls k d, [])) = some o ∧ o = pls (k + 1) d := by
  have g1 := getD_le_prodL hp hk
  have g2 := hp.getD hk
  have g3 := prodL_take_le hp k
  have g4 := prodL_pos (hp.take k)
  have hpl : (pls k d).length = (prodL (d.take k)).toNat := length_pls
  refine loopT (tr := ref20_All_T9 d k q2 q3 (pls k d).length) (pls k d).length (fun i s => s.1 = (i : Int) ∧ s.2 = (pls k d, (List.range (i * (d.getD k default).toNat)).map fun n : Nat => dg (k + 1) d (n : Int))) _ (by omega) ⟨rfl, by simp⟩ ?_
  rintro i ⟨s, acc, out⟩ hi ⟨h1, h2⟩
  simp only [Prod.mk.injEq] at h1 h2
  obtain ⟨rfl, rfl⟩ := h2
  subst h1
  simp only [ref20_All_T9, Int.toNat_natCast]
  refine T_brP (fun h3 => T_ob (by omega) (T_ex (ref20_All_L12_q d hp h64 hl k i hk (by omega) _ _ _ _ _) fun y hy => T_ret (rq_l (by omega) ⟨w64_nat (by omega), ?_⟩))) (fun h3 => T_ret (rq_r ?_))
  · subst hy
    rfl
  · have hik : i = (prodL (d.take k)).toNat := by omega
    subst hik
    simp only [pls]
    rw [prodL_take_succ hk]
    congr 2
    rw [Int.toNat_mul (by omega) (by omega)]
theorem ref20_All_v (d : List Int) : ref20_All d = some (alls d) := by
  refine T_eq (T_ex1 (ref19_Check_v d) (T_brN (fun h1 => T_ret ?_) (fun h1 => ?_)))
  · simp [alls, h1]
  · obtain ⟨hl, hp, h64⟩ := chk_zero.1 h1
    refine T_ex (p := fun o => o = pls d.length d) ?_ (fun y hy => T_ret (by simp [alls, h1, hy]))
    refine loopT (tr := ref20_All_T5 d d.length) d.length (fun k s => s.1 = (k : Int) ∧ s.2 = pls k d) _ (by omega) ⟨rfl, rfl⟩ ?_
    rintro k ⟨s, acc⟩ hk ⟨h3, h4⟩
    simp only at h3 h4
    subst h3 h4
    simp only [ref20_All_T5]
    refine T_brP (fun h5 => T_ex (ref20_All_L9_q d hp h64 hl k (by omega) _ _) fun y hy => T_ret (rq_l (by omega) ⟨w64_nat (by omega), hy⟩)) (fun h5 => T_ret (rq_r ?_))
    rw [show k = d.length by omega]
theorem walk_Place_L5_q (d a : List Int) (hl : a.length = d.length) (h : d.length < 100000000000000) : ∃ o, walk_Place_L5 d a a.length (0, 0) = some o ∧ o = horw d a d.length := by
  refine loopT (tr := walk_Place_T5 d a a.length) d.length (fun k s => s.2 = (k : Int) ∧ s.1 = horw d a k) _ (by omega) ⟨rfl, rfl⟩ ?_
  rintro k ⟨p, s⟩ hk ⟨h1, h2⟩
  simp only at h1 h2
  subst h1 h2
  simp only [walk_Place_T5, Int.toNat_natCast]
  refine T_brP (fun h3 => T_ob (by omega) (T_ob (by omega) (T_ret (rq_l (by omega) ⟨w64_nat (by omega), rfl⟩)))) (fun h3 => T_ret (rq_r ?_))
  rw [show k = d.length by omega]
theorem spread_size_v (d : List Int) (j : Nat) (h1 : 1 ≤ j) (h2 : j ≤ 6) (h3 : d.length ≤ 6) : spread_size d j = some (if d.length < j then 1 else d.getD (d.length - j) default) := by
  refine T_eq (T_brP (fun h => T_ret (by rw [if_pos (by omega)])) (fun h => ?_))
  have e : w64 ((d.length : Int) - (j : Int)) = ((d.length - j : Nat) : Int) := by
    rw [w64_id (by omega) (by omega)]
    omega
  rw [e]
  refine T_ob (by omega) (T_ret ?_)
  rw [if_neg (by omega), Int.toNat_natCast]
theorem walk_At_r_v (d : List Int) (n : Int) (hc : chk d = 0) (h0 : 0 ≤ n) (h1 : n < prodL d) : walk_At_r d n = some (dg d.length d n, true) := by
  obtain ⟨hl, hp, h64⟩ := chk_zero.1 hc
  refine T_eq (T_brP (fun h => by omega) (fun h => T_ex1 (shape_Count_v d) (T_brP (fun h2 => ?_) (fun h2 => T_ob (by omega) (T_ex (p := fun o => o = dg d.length d n) ?_ (fun y hy => T_ret (by rw [hy])))))))
  · refine absurd (show cnt d ≤ n from h2) ?_
    rw [(cnt_ok hc).1]
    omega
  rw [Int.toNat_natCast]
  have e : w64 ((d.length : Int) - 1) = (d.length : Int) - 1 := w64_id (by omega) (by omega)
  rw [e]
  refine loopT (tr := walk_At_r_T5 d) d.length (fun k s => s.2.1 = (d.length : Int) - 1 - (k : Int) ∧ 0 ≤ s.1 ∧ s.1 ≤ n ∧ s.2.2.length = d.length ∧ dg (d.length - k) d s.1 ++ s.2.2.drop (d.length - k) = dg d.length d n) _ (by omega) ⟨by simp, h0, by simp, by simp, by simp⟩ ?_
  rintro k ⟨m, i, l⟩ hk ⟨h2, h3, h4, h5, h6⟩
  simp only at h2 h3 h4 h5 h6
  subst h2
  simp only [walk_At_r_T5]
  refine T_brP (fun h7 => ?_) (fun h7 => T_ret (rq_r ?_))
  · obtain ⟨j, hj⟩ : ∃ j, d.length - k = j + 1 := ⟨d.length - k - 1, by omega⟩
    have ej : (d.length : Int) - 1 - (k : Int) = (j : Int) := by omega
    rw [ej, Int.toNat_natCast]
    have hpj := hp.getD (show j < d.length by omega)
    have e1 : m.tdiv (d.getD j default) = m / d.getD j default := Int.tdiv_eq_ediv_of_nonneg h3
    have e2 : m.tmod (d.getD j default) = m % d.getD j default := Int.tmod_eq_emod_of_nonneg h3
    have e3 : 0 ≤ m / d.getD j default := Int.ediv_nonneg h3 (by omega)
    have e4 : m / d.getD j default ≤ m := Int.ediv_le_self _ h3
    refine T_ob (by omega) (T_ob (by omega) (T_ob (by omega) (T_ob (by omega) (T_ob (by omega) (T_ret (rq_l (by omega) ?_))))))
    simp only [e1, e2]
    rw [w64_id (by omega) (by omega), w64_id (by omega) (by omega)]
    refine ⟨by omega, e3, by omega, by simpa using h5, ?_⟩
    rw [show d.length - (k + 1) = j by omega, drop_set_self (by omega)]
    rw [hj] at h6
    simp only [dg, List.append_assoc, List.singleton_append] at h6
    exact h6
  · have : d.length - k = 0 := by omega
    rw [this] at h6
    simpa [dg] using h6
theorem walk_inn_v (d a : List Int) (hc : chk d = 0) (hl : a.length = d.length) (h : ∀ i, i < d.length → 0 ≤ a.getD i default ∧ a.getD i default < d.getD i default) : walk_inn d a = some true := by
  have h6 := chk_len hc
  refine T_eq (T_ex1 (shape_Check_v d) (T_brN (fun h1 => absurd hc h1) (fun _ => T_brN (fun h1 => by omega) (fun _ => T_un (p := fun o => o = .inl ()) ?_ (fun _ => T_ret rfl) (fun y hy => by cases hy)))))
  refine loopT (tr := walk_inn_T4 d a a.length) a.length (fun k s => s = (k : Int)) _ (by omega) rfl ?_
  rintro k s hk rfl
  simp only [walk_inn_T4, Int.toNat_natCast]
  refine T_brP (fun h1 => ?_) (fun _ => T_ret (rq_r rfl))
  have := h k (by omega)
  exact T_ob (by omega) (T_brP (fun h2 => by omega) (fun _ => T_ob (by omega) (T_brP (fun h2 => by omega) (fun _ => T_ret (rq_l (by omega) (w64_nat (by omega)))))))
theorem walk_Place_v (d a : List Int) (hc : chk d = 0) (hl : a.length = d.length) (h : ∀ i, i < d.length → 0 ≤ a.getD i default ∧ a.getD i default < d.getD i default) : walk_Place d a = some (horw d a d.length, true) := by
  have h6 := chk_len hc
  exact T_eq (T_ex1 (walk_inn_v d a hc hl h) (T_brB (fun h1 => by cases h1) (fun _ => T_ex (walk_Place_L5_q d a hl (by omega)) (fun y hy => T_ret (by rw [hy])))))
def ar (op : Int) : Int := if op < 1 then 0 else if 40 < op then 0 else if (17 ≤ op ∧ op ≤ 23) ∨ op = 32 ∨ op = 40 then 2 else if 24 ≤ op ∧ op ≤ 26 then 3 else 1
theorem ar_spec (op : Int) : (ar op = 0 ∧ (op < 1 ∨ 40 < op)) ∨ (ar op = 2 ∧ 1 ≤ op ∧ op ≤ 40 ∧ ((17 ≤ op ∧ op ≤ 23) ∨ op = 32 ∨ op = 40)) ∨ (ar op = 3 ∧ 24 ≤ op ∧ op ≤ 26) ∨ (ar op = 1 ∧ 1 ≤ op ∧ op ≤ 40 ∧ ¬ (17 ≤ op ∧ op ≤ 26) ∧ op ≠ 32 ∧ op ≠ 40) := by
  unfold ar
  repeat' split
  all_goals omega
theorem ar_eq {op n : Int} (h : (n = 0 ∧ (op < 1 ∨ 40 < op)) ∨ (n = 2 ∧ 1 ≤ op ∧ op ≤ 40 ∧ ((17 ≤ op ∧ op ≤ 23) ∨ op = 32 ∨ op = 40)) ∨ (n = 3 ∧ 24 ≤ op ∧ op ≤ 26) ∨ (n = 1 ∧ 1 ≤ op ∧ op ≤ 40 ∧ ¬ (17 ≤ op ∧ op ≤ 26) ∧ op ≠ 32 ∧ op ≠ 40)) : n = ar op := by
  have := ar_spec op
  omega
theorem prim_Is_v (op : Int) : prim_Is op = some (decide (1 ≤ op ∧ op ≤ 40)) := by
  refine T_eq (T_brP (fun h => T_ret ?_) (fun h => T_ret ?_))
  · exact decide_eq_decide.2 (by omega)
  · exact (decide_eq_false (by omega)).symm
theorem prim_Arity_v (op : Int) : prim_Arity op = some (ar op) := by
  refine T_eq (T_ex1 (prim_Is_v op) ?_)
  refine T_brB (fun h => ?_) (fun h => ?_)
  · have := of_decide_eq_false h
    exact T_ret (ar_eq (by omega))
  · have := of_decide_eq_true h
    repeat' first | exact T_ret (ar_eq (by omega)) | refine T_brP (fun h => ?_) (fun h => ?_)
def ch (op : Int) : Int := if op = 15 then 3 else if op = 4 ∨ op = 6 ∨ op = 16 ∨ op = 21 ∨ op = 22 ∨ op = 24 then 2 else 0
theorem ch_spec (op : Int) : (ch op = 3 ∧ op = 15) ∨ (ch op = 2 ∧ (op = 4 ∨ op = 6 ∨ op = 16 ∨ op = 21 ∨ op = 22 ∨ op = 24)) ∨ (ch op = 0 ∧ op ≠ 15 ∧ op ≠ 4 ∧ op ≠ 6 ∧ op ≠ 16 ∧ op ≠ 21 ∧ op ≠ 22 ∧ op ≠ 24) := by
  unfold ch
  repeat' split
  all_goals omega
theorem ch_eq {op n : Int} (h : (n = 3 ∧ op = 15) ∨ (n = 2 ∧ (op = 4 ∨ op = 6 ∨ op = 16 ∨ op = 21 ∨ op = 22 ∨ op = 24)) ∨ (n = 0 ∧ op ≠ 15 ∧ op ≠ 4 ∧ op ≠ 6 ∧ op ≠ 16 ∧ op ≠ 21 ∧ op ≠ 22 ∧ op ≠ 24)) : n = ch op := by
  have := ch_spec op
  omega
theorem prim_Choices_v (op : Int) : prim_Choices op = some (ch op) := by
  refine T_eq ?_
  unfold prim_Choices_T
  repeat' first | exact T_ret (ch_eq (by omega)) | refine T_eqI (fun h => ?_) (fun h => ?_)
def pk (op : Int) : Bool := decide (0 < ch op ∨ op = 29 ∨ op = 30)
theorem prim_Picks_v (op : Int) : prim_Picks op = some (pk op) := by
  exact T_eq (T_ex1 (prim_Choices_v op) (T_lt (fun h => T_ret (decide_eq_true (by omega)).symm) (fun h => T_eqI (fun h' => T_ret (decide_eq_true (by omega)).symm) (fun h' => T_ret (decide_eq_decide.2 (by omega))))))
abbrev Sm {α : Type} (l : List α) : Prop := l.length < 100000000000000
theorem cnt_in (d : List Int) : 0 ≤ cnt d ∧ cnt d ≤ 64 := by
  by_cases h : chk d = 0
  · have := cnt_ok h
    omega
  · simp [cnt, h]
abbrev AX (a : AttrD) : List Int := a.2.2.2.2.2.2.2.2.2.1
def Svl (x : ValD) : Prop := x.1.2.1.length * 8 ≤ 140737488351232 ∧ x.1.2.2.1.length * 8 ≤ 140737488351232
def Sar (a : ArgD) : Prop := a.1.length * 8 ≤ 140737488351232 ∧ a.2.1.length * 72 ≤ 140737488351232 ∧ ∀ x ∈ a.2.1, Svl x
theorem svl_of {x : ValD} (h : Sz valT x) : Svl x := by
  obtain ⟨⟨_, ⟨h1, _⟩, ⟨h2, _⟩, _⟩, _⟩ := h
  exact ⟨h1, h2⟩
theorem sar_of {a : ArgD} (h : Sz argT a) : Sar a := by
  obtain ⟨⟨h1, _⟩, ⟨h2, h3⟩, _⟩ := h
  exact ⟨h1, h2, fun x hx => svl_of (h3 x hx)⟩
theorem svl_sm {x : ValD} (h : Svl x) : Sm x.1.2.1 ∧ Sm x.1.2.2.1 := by
  obtain ⟨h1, h2⟩ := h
  simp only [Sm]
  omega

theorem ref07_Same_v (x y : RatD) (h : Sm x.2.1) (h' : Sm x.2.2.1) : ref07_Same x y = some (x.1 == y.1 && decide (x.2.1 = y.2.1) && decide (x.2.2.1 = y.2.2.1)) := by
  refine T_eq (T_br (fun h1 => T_ex1 (ref07_Words_v _ _ h) (T_br (fun h2 => T_ex1 (ref07_Words_v _ _ h') (T_ret ?_)) (fun h2 => T_ret ?_))) (fun h1 => T_ret ?_))
  · rw [h1, h2]
    simp
  · rw [h1, h2]
    simp
  · rw [h1]
    simp
theorem ref07_Same_self (x : RatD) (h : Sm x.2.1) (h' : Sm x.2.2.1) : ref07_Same x x = some true := by
  rw [ref07_Same_v x x h h']
  simp
theorem ref18_Same_self (x : ValD) (h : Svl x) : ref18_Same x x = some true :=
  T_eq (T_brP (fun _ => T_brP (fun _ => T_ex1 (ref07_Same_self x.1 (svl_sm h).1 (svl_sm h).2) (T_ret rfl)) (fun h1 => absurd rfl h1)) (fun h1 => absurd rfl h1))
theorem bank_Copy_v (x : ValD) (h : Svl x) : bank_Copy x = some x := by
  obtain ⟨h1, h2⟩ := h
  exact T_eq (T_ex1 (y := x.1) (T_eq (T_ob (by omega) (T_ob (by omega) (T_ret rfl)))) (T_ret rfl))

theorem ref09_Clean_t (b : UInt64) : ∃ y, ref09_Clean b = some y ∧ True := by
  have k : ∃ y, ref09_Kind b = some y ∧ True := by
    refine Tree.T_run _ ?_
    unfold ref09_Kind_T
    repeat' first | exact T_ret trivial | refine T_brP (fun h => ?_) (fun h => ?_) | refine T_ex1 (show ref09_Field b = some _ from rfl) ?_ | refine T_ex1 (show ref09_Rest b = some _ from rfl) ?_
  refine Tree.T_run _ (T_ex k (fun y _ => T_brP (fun _ => T_ex1 (show ref09_Nan = some _ from rfl) (T_ret trivial)) (fun _ => T_ret trivial)))
theorem plain_Wide_t (l : List ValD) (n : Int) (hl : Sm l) : ∃ y, plain_Wide l n = some y ∧ True := by
  have hl' : l.length < 100000000000000 := hl
  refine Tree.T_run _ (T_un (p := fun _ => True) ?_ (fun _ => T_ret trivial) (fun _ _ => T_ret trivial))
  refine loopT (tr := plain_Wide_T2 l n l.length) l.length (fun k s => s = (k : Int)) _ (by omega) rfl ?_
  rintro k s hk rfl
  have lg : ∀ x m, ∃ y, plain_Long x m = some y ∧ True := fun x m => Tree.T_run _ (T_lt (fun _ => T_ret trivial) (fun _ => T_ret trivial))
  exact T_lt (fun h1 => T_ob (by omega) (T_ex (lg _ _) (fun y _ => T_br (fun _ => T_ret (rq_r trivial)) (fun _ => T_ret (rq_l (by omega) (w64_nat (by omega))))))) (fun _ => T_ret (rq_r trivial))
theorem plain_Args_t (l : List ArgD) (hl : Sm l) (h : ∀ a ∈ l, Sar a) : ∃ y, plain_Args l = some y ∧ True := by
  have hl' : l.length < 100000000000000 := hl
  refine Tree.T_run _ (T_un (p := fun _ => True) ?_ (fun _ => T_ret trivial) (fun _ _ => T_ret trivial))
  refine loopT (tr := plain_Args_T2 l l.length) l.length (fun k s => s = (k : Int)) _ (by omega) rfl ?_
  rintro k s hk rfl
  simp only [plain_Args_T2, Int.toNat_natCast]
  refine T_lt (fun h1 => ?_) (fun _ => T_ret (rq_r trivial))
  have h2 := (h _ (getD_mem (show k < l.length by omega))).2.1
  exact T_ob (by omega) (T_lt (fun _ => T_ret (rq_r trivial)) (fun _ => T_ob (by omega) (T_lt (fun _ => T_ret (rq_r trivial)) (fun _ => T_ob (by omega) (T_ex (plain_Wide_t _ _ (by simp only [Sm]; omega)) (fun y _ => T_br (fun _ => T_ret (rq_r trivial)) (fun _ => T_ret (rq_l (by omega) (w64_nat (by omega))))))))))
theorem law31_Many_t (a : AttrD) (ds : List (List Int)) (hd : Sm ds) : ∃ y, law31_Many a ds = some y ∧ True := by
  have hd' : ds.length < 100000000000000 := hd
  refine Tree.T_run _ (T_un (p := fun _ => True) ?_ (fun _ => T_lt (fun _ => T_ret trivial) (fun _ => T_ret trivial)) (fun _ _ => T_ret trivial))
  refine loopT (tr := law31_Many_T2 ds ds.length a.1 a.2.1 a.2.2.1 a.2.2.2.1 a.2.2.2.2.1 a.2.2.2.2.2.1 a.2.2.2.2.2.2.1 a.2.2.2.2.2.2.2.1 a.2.2.2.2.2.2.2.2.1 (AX a)) ds.length (fun k s => s = (k : Int)) _ (by omega) rfl ?_
  rintro k s hk rfl
  exact T_lt (fun h1 => T_ob (by omega) (T_lt (fun _ => T_ret (rq_r trivial)) (fun _ => T_ret (rq_l (by omega) (w64_nat (by omega)))))) (fun _ => T_ret (rq_r trivial))
end Go.Proofs.YtnhebloiappfiaaGreat
