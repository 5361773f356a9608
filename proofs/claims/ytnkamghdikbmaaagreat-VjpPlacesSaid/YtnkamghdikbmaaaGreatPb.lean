/- What the functions of places come to. -/
import Derived.Test.YtnkamghdikbmaaaGreatPa
namespace Go.Proofs.YtnkamghdikbmaaaGreat
open Go Go.SM
set_option maxRecDepth 100000
set_option linter.unusedVariables false

theorem ref20_All_L12_q (d : List Int) (hp : Pos d) (h64 : prodL d ≤ 64) (hl : d.length ≤ 6) (k i : Nat) (hk : k < d.length) (hi : i < (prodL (d.take k)).toNat) (q1 q3 q4 q5 q6 : Int) :
    ∃ o, ref20_All_L12 d q1 i q3 q4 q5 q6 (d.getD k default) (0, (pls k d, (List.range (i * (d.getD k default).toNat)).map fun n : Nat => dg (k + 1) d (n : Int))) = some o ∧
      o = (pls k d, (List.range ((i + 1) * (d.getD k default).toNat)).map fun n : Nat => dg (k + 1) d (n : Int)) := by
  have g1 := getD_le_prodL hp hk
  have g2 := hp.getD hk
  have g3 := prodL_take_le hp (k + 1)
  have g4 := prodL_pos (hp.take k)
  obtain ⟨x, hx⟩ : ∃ x : Nat, d.getD k default = (x : Int) := ⟨(d.getD k default).toNat, by omega⟩
  obtain ⟨N, hN⟩ : ∃ N : Nat, prodL (d.take k) = (N : Int) := ⟨(prodL (d.take k)).toNat, by omega⟩
  rw [prodL_take_succ hk, hx, hN] at g3
  rw [hN] at hi
  rw [hx] at g1 g2 ⊢
  simp only [Int.toNat_natCast] at hi ⊢
  have g5 : (i + 1) * x ≤ N * x := Nat.mul_le_mul_right x hi
  have g6 : N * x ≤ 64 := by
    have : ((N * x : Nat) : Int) ≤ 64 := by
      rw [Int.natCast_mul]
      omega
    omega
  rw [Nat.add_mul, Nat.one_mul] at g5 ⊢
  refine loopT (tr := ref20_All_T12 d q1 i q3 q4 q5 q6 x) x (fun j s => s.1 = (j : Int) ∧ s.2 = (pls k d, (List.range (i * x + j)).map fun n : Nat => dg (k + 1) d (n : Int))) _ (by omega) ⟨rfl, rfl⟩ ?_
  rintro j ⟨s, acc, out⟩ hj ⟨h1, h2⟩
  simp only [Prod.mk.injEq] at h1 h2
  obtain ⟨rfl, rfl⟩ := h2
  subst h1
  have hpl : (pls k d).length = N := by
    rw [length_pls, hN]
    simp
  have hpg : (pls k d).getD i default = dg k d (i : Int) := pls_getD (by rw [hN]; simpa using hi)
  simp only [ref20_All_T12, Int.toNat_natCast, hpg, length_dg, List.length_map, List.length_range]
  refine T_brP (fun h3 => T_ob (by rw [hpl]; omega) (T_ob (by omega) (T_ob (by omega) (T_ob (by omega) (T_ret (rq_l (by omega) ⟨w64_nat (by omega), ?_⟩)))))) (fun h3 => T_ret (rq_r ?_))
  · have := dg_snoc (d := d) (k := k) (i := i) (j := j) (by rw [hx]; omega)
    rw [hx] at this
    simp only [Prod.mk.injEq, true_and]
    rw [show i * x + (j + 1) = (i * x + j) + 1 from rfl, map_range_succ, ← this]
    simp
  · rw [show j = x by omega]
theorem ref20_All_L9_q (d : List Int) (hp : Pos d) (h64 : prodL d ≤ 64) (hl : d.length ≤ 6) (k : Nat) (hk : k < d.length) (q2 q3 : Int) :
    ∃ o, ref20_All_L9 d k q2 q3 (pls k d).length (0, (pls k d, [])) = some o ∧ o = pls (k + 1) d := by
  have g1 := getD_le_prodL hp hk
  have g2 := hp.getD hk
  have g3 := prodL_take_le hp k
  have g4 := prodL_pos (hp.take k)
  have hpl : (pls k d).length = (prodL (d.take k)).toNat := length_pls
  refine loopT (tr := ref20_All_T9 d k q2 q3 (pls k d).length) (pls k d).length (fun i s => s.1 = (i : Int) ∧ s.2 = (pls k d, (List.range (i * (d.getD k default).toNat)).map fun n : Nat => dg (k + 1) d (n : Int))) _ (by omega) ⟨rfl, by simp⟩ ?_
  rintro i ⟨s, acc, out⟩ hi ⟨h1, h2⟩
  simp only [Prod.mk.injEq] at h1 h2
  obtain ⟨rfl, rfl⟩ := h2
  subst h1
  simp only [ref20_All_T9, Int.toNat_natCast]
  refine T_brP (fun h3 => T_ob (by omega) (T_ex (ref20_All_L12_q d hp h64 hl k i hk (by omega) _ _ _ _ _) fun y hy => T_ret (rq_l (by omega) ⟨w64_nat (by omega), ?_⟩))) (fun h3 => T_ret (rq_r ?_))
  · subst hy
    rfl
  · have hik : i = (prodL (d.take k)).toNat := by omega
    subst hik
    simp only [pls]
    rw [prodL_take_succ hk]
    congr 2
    rw [Int.toNat_mul (by omega) (by omega)]
theorem ref20_All_v (d : List Int) : ref20_All d = some (alls d) := by
  refine T_eq (T_ex1 (ref19_Check_v d) (T_brN (fun h1 => T_ret ?_) (fun h1 => ?_)))
  · simp [alls, h1]
  · obtain ⟨hl, hp, h64⟩ := chk_zero.1 h1
    refine T_ex (p := fun o => o = pls d.length d) ?_ (fun y hy => T_ret (by simp [alls, h1, hy]))
    refine loopT (tr := ref20_All_T5 d d.length) d.length (fun k s => s.1 = (k : Int) ∧ s.2 = pls k d) _ (by omega) ⟨rfl, rfl⟩ ?_
    rintro k ⟨s, acc⟩ hk ⟨h3, h4⟩
    simp only at h3 h4
    subst h3 h4
    simp only [ref20_All_T5]
    refine T_brP (fun h5 => T_ex (ref20_All_L9_q d hp h64 hl k (by omega) _ _) fun y hy => T_ret (rq_l (by omega) ⟨w64_nat (by omega), hy⟩)) (fun h5 => T_ret (rq_r ?_))
    rw [show k = d.length by omega]
theorem ref20_Place_t (d a : List Int) : ∃ y, ref20_Place d a = some y := by
  obtain ⟨y, hy, _⟩ := (ref20_Place_T d a).T_run (Q := fun _ => True) (by
    refine T_ex1 (ref20_All_v d) (T_un (p := fun _ => True) ?_ (fun _ => T_ret trivial) (fun _ _ => T_ret trivial))
    have hl := alls_len d
    refine loopT (tr := ref20_Place_T3 a (alls d) (alls d).length) (alls d).length (fun k s => s = (k : Int)) _ (by omega) rfl ?_
    rintro k s hk rfl
    simp only [ref20_Place_T3, Int.toNat_natCast]
    refine T_brP (fun h1 => T_ob (by omega) ?_) (fun _ => T_ret (rq_r trivial))
    obtain ⟨h2, _⟩ := alls_in (d := d) (i := k) (by omega)
    have h3 := chk_len (alls_at (d := d) (i := k) (by omega)).1
    exact T_ex1 (ref19_Same_v _ _ (by omega)) (T_br (fun _ => T_ret (rq_r trivial)) (fun _ => T_ret (rq_l (by omega) (w64_nat (by omega))))))
  exact ⟨y, hy⟩

/-! ### The number of a place -/
theorem ref21_place_v (d a : List Int) (hl : a.length = d.length) (h : d.length < 100000000000000) : ref21_place d a = some (horw d a d.length) := by
  refine T_eq (T_ex (p := fun o => o = horw d a d.length) ?_ (fun y hy => T_ret hy))
  refine loopT (tr := ref21_place_T3 d a d.length) d.length (fun k s => s.2 = (k : Int) ∧ s.1 = horw d a k) _ (by omega) ⟨rfl, rfl⟩ ?_
  rintro k ⟨p, s⟩ hk ⟨h1, h2⟩
  simp only at h1 h2
  subst h1 h2
  simp only [ref21_place_T3, Int.toNat_natCast]
  refine T_brP (fun h3 => T_ob (by omega) (T_ob (by omega) (T_ret (rq_l (by omega) ⟨w64_nat (by omega), rfl⟩)))) (fun h3 => T_ret (rq_r ?_))
  rw [show k = d.length by omega]
theorem ref22_number_v (d a : List Int) (hl : a.length = d.length) (h : d.length < 100000000000000) : ref22_number d a = some (horw d a d.length) := by
  refine T_eq (T_ex (p := fun o => o = horw d a d.length) ?_ (fun y hy => T_ret hy))
  refine loopT (tr := ref22_number_T3 d a d.length) d.length (fun k s => s.2 = (k : Int) ∧ s.1 = horw d a k) _ (by omega) ⟨rfl, rfl⟩ ?_
  rintro k ⟨p, s⟩ hk ⟨h1, h2⟩
  simp only at h1 h2
  subst h1 h2
  simp only [ref22_number_T3, Int.toNat_natCast]
  refine T_brP (fun h3 => T_ob (by omega) (T_ob (by omega) (T_ret (rq_l (by omega) ⟨w64_nat (by omega), rfl⟩)))) (fun h3 => T_ret (rq_r ?_))
  rw [show k = d.length by omega]
theorem walk_Place_L5_q (d a : List Int) (hl : a.length = d.length) (h : d.length < 100000000000000) : ∃ o, walk_Place_L5 d a a.length (0, 0) = some o ∧ o = horw d a d.length := by
  refine loopT (tr := walk_Place_T5 d a a.length) d.length (fun k s => s.2 = (k : Int) ∧ s.1 = horw d a k) _ (by omega) ⟨rfl, rfl⟩ ?_
  rintro k ⟨p, s⟩ hk ⟨h1, h2⟩
  simp only at h1 h2
  subst h1 h2
  simp only [walk_Place_T5, Int.toNat_natCast]
  refine T_brP (fun h3 => T_ob (by omega) (T_ob (by omega) (T_ret (rq_l (by omega) ⟨w64_nat (by omega), rfl⟩)))) (fun h3 => T_ret (rq_r ?_))
  rw [show k = d.length by omega]
end Go.Proofs.YtnkamghdikbmaaaGreat
