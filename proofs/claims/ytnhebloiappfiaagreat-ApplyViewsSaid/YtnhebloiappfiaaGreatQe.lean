/- The view that is cut out, and the view whose axes stand otherwise. -/
import Derived.Test.YtnhebloiappfiaaGreatQd
namespace Go.Proofs.YtnhebloiappfiaaGreat
open Go Go.SM
set_option maxRecDepth 100000
set_option linter.unusedVariables false

theorem view_Slice_q (a : AttrD) (d : List Int) (hc : chk d = 0) : ∃ r, view_Slice (0, (d, (stp d, ()))) a.1 a.2.1 a.2.2.1 a.2.2.2.1 = some r ∧ ViewOk 35 a d r := by
  obtain ⟨hl, hp, h64⟩ := chk_zero.1 hc
  have es := length_stp d
  refine Tree.T_run _ (T_ex1 (view_right_v d hc) (T_brB (fun h => by cases h) (fun _ => T_lt (fun _ => T_ret ⟨by decide, fun h => by cases h⟩) (fun h1 => T_le (fun _ => T_ret ⟨by decide, fun h => by cases h⟩) (fun h2 => ?_)))))
  simp only at h2
  obtain ⟨x, hx⟩ : ∃ x : Nat, a.1 = (x : Int) := ⟨a.1.toNat, by omega⟩
  obtain ⟨A, hA⟩ : ∃ A, a.2.1 = A := ⟨_, rfl⟩
  obtain ⟨B, hB⟩ : ∃ B, a.2.2.1 = B := ⟨_, rfl⟩
  obtain ⟨C, hC⟩ : ∃ C, a.2.2.2.1 = C := ⟨_, rfl⟩
  have hxl : x < d.length := by omega
  have hd1 := hp.getD hxl
  have hd2 := getD_le_prodL hp hxl
  have hs := stp_le hc hxl
  rw [hx, hA, hB, hC]
  simp only [Int.toNat_natCast]
  refine T_ob (by omega) (T_lt (fun _ => T_ret ⟨by decide, fun h => by cases h⟩) (fun h3 => T_le (fun _ => T_ret ⟨by decide, fun h => by cases h⟩) (fun h4 => T_lt (fun _ => T_ret ⟨by decide, fun h => by cases h⟩) (fun h5 => T_lt (fun _ => T_ret ⟨by decide, fun h => by cases h⟩) (fun h6 => T_ex1 (view_copied_v _ hl (by simp only; omega)) ?_)))))
  have hcs := chk_set hc hxl (x := B) (by omega) (by omega)
  have fin : ∀ (off S' : Int), off = A * (stp d).getD x default → (B = 1 ∨ S' = (stp d).getD x default * C) → (B = 1 ∨ (-64 < C ∧ C < 64 ∧ 0 ≤ A + (B - 1) * C ∧ A + (B - 1) * C < d.getD x default)) → ViewOk 35 a d ((off, (d.set x B, ((stp d).set x S', ()))), 0) := by
    intro off S' ho hS hR
    have rng : ∀ q, 0 ≤ q → q < B → (0 ≤ A + q * C ∧ A + q * C < d.getD x default) ∧ -4096 ≤ q * C ∧ q * C ≤ 4096 := by
      intro q hq0 hq1
      rcases hR with hR | ⟨r1, r2, r3, r4⟩
      · have : q = 0 := by omega
        rw [this]
        simp only [Int.zero_mul]
        omega
      · by_cases hC0 : 0 ≤ C
        · have e1 : 0 ≤ q * C := Int.mul_nonneg hq0 hC0
          have e2 : q * C ≤ (B - 1) * C := Int.mul_le_mul_of_nonneg_right (by omega) hC0
          omega
        · have e1 : q * C ≤ 0 := Int.mul_nonpos_of_nonneg_of_nonpos hq0 (by omega)
          have e2 : (B - 1) * C ≤ q * C := Int.mul_le_mul_of_nonpos_right (by omega) (by omega)
          omega
    have wit : ∀ p, Within p (d.set x B) → 0 ≤ p.getD x default ∧ p.getD x default < B ∧ Within (p.set x (A + p.getD x default * C)) d := by
      intro p hpw
      have h7 := hpw.1
      rw [List.length_set] at h7
      have h8 := hpw.2 x (by simpa using hxl)
      rw [getD_set hxl, if_pos rfl] at h8
      refine ⟨h8.1, h8.2, by simpa using h7, fun i hi => ?_⟩
      rw [getD_set (by omega)]
      split
      · rename_i hix
        subst hix
        exact (rng _ h8.1 h8.2).1
      · rename_i hix
        have h9 := hpw.2 i (by simpa using hi)
        rwa [getD_set hxl, if_neg hix] at h9
    refine ⟨z1, fun _ => ⟨fun p => hor d (p.set x (A + p.getD x default * C)) d.length, ⟨hcs.1, by simpa using es, fun p hpw => ?_⟩, fun n hn => ?_⟩⟩
    · obtain ⟨w1, w2, w3⟩ := wit p hpw
      have h7 := (horw_in hc w3).2
      refine ⟨h7.1, h7.2, ?_⟩
      have hpl : p.length = d.length := by simpa using hpw.1
      simp only [List.length_set]
      rw [hor_lin_all]
      have e1 : lin (p.set x (A + p.getD x default * C)) (stp d) d.length = lin p ((stp d).set x S') d.length + A * (stp d).getD x default := by
        refine lin_at _ hxl (fun i hi hne => ?_) ?_
        · rw [getD_set (by omega), if_neg hne, getD_set (by omega), if_neg hne]
        · rw [getD_set (by omega), if_pos rfl, getD_set (by omega), if_pos rfl, Int.add_mul]
          rcases hS with hS | hS
          · have : p.getD x default = 0 := by omega
            rw [this]
            simp
          · rw [hS, Int.mul_assoc, Int.mul_comm C]
            omega
      rw [e1, ho]
      omega
    · have hw := alls_within hn
      simp only at hw hn ⊢
      obtain ⟨w1, w2, w3⟩ := wit _ hw
      obtain ⟨_, w4, w5⟩ := rng _ w1 w2
      have hpl : ((alls (d.set x B)).getD n default).length = d.length := by simpa using hw.1
      have e1 : w64 (A + w64 (((alls (d.set x B)).getD n default).getD x default * C)) = A + ((alls (d.set x B)).getD n default).getD x default * C := by
        rw [w64_id (n := ((alls (d.set x B)).getD n default).getD x default * C) (by omega) (by omega), w64_id (by omega) (by omega)]
      refine seen_of (T_eqI (fun h => by omega) (fun _ => T_eqI (fun _ => ?_) (fun h => absurd rfl h)))
      simp only [hx, hA, hB, hC, Int.toNat_natCast, e1]
      refine T_ob (by omega) (T_ob (by omega) (T_eqI (fun h8 => T_ob (by simp only [List.length_set]; omega) ?_) (fun h8 => T_ex1 (walk_Place_v d _ hc w3.1 w3.2) (T_ret (horw_in hc w3).1))))
      · have h9 : ((alls (d.set x B)).getD n default).getD x default = 0 := by omega
        have e2 : A + ((alls (d.set x B)).getD n default).getD x default * C = A := by rw [h9]; simp
        rw [e2] at w3
        simp only [e2, List.set_set]
        exact T_ex1 (walk_Place_v d _ hc w3.1 w3.2) (T_ret (horw_in hc w3).1)
  have eA : 0 ≤ A * (stp d).getD x default ∧ A * (stp d).getD x default ≤ 4096 := ⟨Int.mul_nonneg (by omega) (by omega), Int.le_trans (Int.mul_le_mul_of_nonneg_left hs.2 (by omega)) (by omega)⟩
  have eo : w64 (0 + w64 (A * (stp d).getD x default)) = A * (stp d).getD x default := by
    rw [w64_id (n := A * (stp d).getD x default) (by omega) (by omega), Int.zero_add, w64_id (by omega) (by omega)]
  have e0 : ¬ 0 < A → (0 : Int) = A * (stp d).getD x default := fun h => by
    have : A = 0 := by omega
    rw [this]
    simp
  refine T_lt (fun h7 => T_eqI (fun _ => T_ret ⟨by decide, fun h => by cases h⟩) (fun h8 => T_le (fun _ => T_ret ⟨by decide, fun h => by cases h⟩) (fun h9 => ?_))) (fun h7 => ?_)
  · have n1 : w64 (0 - d.getD x default) = -d.getD x default := by
      rw [w64_id (by omega) (by omega)]
      omega
    simp only [n1]
    refine T_le (fun _ => T_ret ⟨by decide, fun h => by cases h⟩) (fun h10 => ?_)
    have c1 : -4096 ≤ (B - 1) * C ∧ (B - 1) * C ≤ 4096 := by
      by_cases hC0 : 0 ≤ C
      · have e1 : 0 ≤ (B - 1) * C := Int.mul_nonneg (by omega) hC0
        have e2 : (B - 1) * C ≤ 64 * C := Int.mul_le_mul_of_nonneg_right (by omega) hC0
        omega
      · have e1 : (B - 1) * C ≤ 0 := Int.mul_nonpos_of_nonneg_of_nonpos (by omega) (by omega)
        have e2 : 64 * C ≤ (B - 1) * C := Int.mul_le_mul_of_nonpos_right (by omega) (by omega)
        omega
    have n2 : w64 (A + w64 (w64 (B - 1) * C)) = A + (B - 1) * C := by
      rw [w64_id (n := B - 1) (by omega) (by omega), w64_id (n := (B - 1) * C) (by omega) (by omega), w64_id (by omega) (by omega)]
    have c2 : -4096 ≤ (stp d).getD x default * C ∧ (stp d).getD x default * C ≤ 4096 := by
      by_cases hC0 : 0 ≤ C
      · have e1 : 0 ≤ (stp d).getD x default * C := Int.mul_nonneg (by omega) hC0
        have e2 : (stp d).getD x default * C ≤ 64 * C := Int.mul_le_mul_of_nonneg_right (by omega) hC0
        omega
      · have e1 : (stp d).getD x default * C ≤ 0 := Int.mul_nonpos_of_nonneg_of_nonpos (by omega) (by omega)
        have e2 : 64 * C ≤ (stp d).getD x default * C := Int.mul_le_mul_of_nonpos_right (by omega) (by omega)
        omega
    have n3 : w64 ((stp d).getD x default * C) = (stp d).getD x default * C := w64_id (by omega) (by omega)
    simp only [n2, n3, eo]
    refine T_lt (fun _ => T_ret ⟨by decide, fun h => by cases h⟩) (fun h11 => T_le (fun _ => T_ret ⟨by decide, fun h => by cases h⟩) (fun h12 => ?_))
    have hR : B = 1 ∨ (-64 < C ∧ C < 64 ∧ 0 ≤ A + (B - 1) * C ∧ A + (B - 1) * C < d.getD x default) := .inr (by omega)
    refine T_ob (by omega) (T_ob (by omega) (T_lt (fun h13 => T_ob (by omega) (T_ob (by omega) (T_eqI (fun h => by omega) (fun _ => T_ret (fin _ _ rfl (.inr rfl) hR))))) (fun h13 => T_ob (by omega) (T_eqI (fun h => by omega) (fun _ => T_ret (fin _ _ (e0 h13) (.inr rfl) hR))))))
  · have hB1 : B = 1 := by omega
    simp only [eo]
    refine T_lt (fun h13 => T_ob (by omega) (T_ob (by omega) (T_eqI (fun _ => T_ob (by omega) (T_ret (fin _ _ rfl (.inl hB1) (.inl hB1)))) (fun h => absurd hB1 h)))) (fun h13 => T_ob (by omega) (T_eqI (fun _ => T_ob (by omega) (T_ret (fin _ _ (e0 h13) (.inl hB1) (.inl hB1)))) (fun h => absurd hB1 h)))
end Go.Proofs.YtnhebloiappfiaaGreat
