/- What the functions of views come to: a view reads what its steps tell. -/
import Derived.Test.YtnhebloiappfiaaGreatQa
namespace Go.Proofs.YtnhebloiappfiaaGreat
open Go Go.SM
set_option maxRecDepth 100000
set_option linter.unusedVariables false

abbrev ViewD := (Int × ((List Int) × ((List Int) × Unit)))
theorem slices_Clone_v (l : List Int) (h : l.length * 8 ≤ 140737488355328) : slices_Clone l = some l := by
  refine T_eq (T_any (r := l) rfl (fun hp => T_br (fun _ => T_ret ?_) (fun h => by cases h)) (T_br (fun h => by cases h) (fun _ => T_ob (by omega) (T_ret rfl))))
  exact (List.isEmpty_iff.1 hp).symm
theorem slices_Clone_r_v (l : List Int) (h : l.length * 8 ≤ 140737488355328) : slices_Clone_r l = some l := by
  refine T_eq (T_any (r := l) rfl (fun hp => T_br (fun _ => T_ret ?_) (fun h => by cases h)) (T_br (fun h => by cases h) (fun _ => T_ob (by omega) (T_ret rfl))))
  exact (List.isEmpty_iff.1 hp).symm
theorem prodL_drop_le {d : List Int} (h : Pos d) (k : Nat) : prodL (d.drop k) ≤ prodL d := by
  have e : prodL d = prodL (d.take k) * prodL (d.drop k) := by rw [← prodL_append, List.take_append_drop]
  have h1 := prodL_pos (h.take k)
  have h2 := prodL_pos (h.drop k)
  have := Int.mul_le_mul_of_nonneg_right h1 (show 0 ≤ prodL (d.drop k) by omega)
  omega
theorem shape_Steps_v (d : List Int) (hc : chk d = 0) : shape_Steps d = some (stp d) := by
  obtain ⟨hl, hp, h64⟩ := chk_zero.1 hc
  refine T_eq (T_ex1 (shape_Check_v d) (T_neI (fun h => absurd hc h) (fun _ => T_ob (by omega) (T_ex (p := fun o => o = stp d) ?_ (fun y hy => T_ret hy)))))
  have e : w64 ((d.length : Int) - 1) = (d.length : Int) - 1 := w64_id (by omega) (by omega)
  rw [e, Int.toNat_natCast]
  refine loopT (tr := shape_Steps_T6 d) d.length (fun k s => s.2.1 = (d.length : Int) - 1 - (k : Int) ∧ s.1 = prodL (d.drop (d.length - k)) ∧ s.2.2.length = d.length ∧ ∀ j, d.length - k ≤ j → j < d.length → s.2.2.getD j default = (stp d).getD j default) _ (by omega) ⟨by simp, by simp [prodL], by simp, fun j h1 h2 => by omega⟩ ?_
  rintro k ⟨m, i, l⟩ hk ⟨h1, h2, h3, h4⟩
  simp only at h1 h2 h3 h4
  subst h1
  simp only [shape_Steps_T6]
  refine T_le (fun h5 => ?_) (fun h5 => T_ret (rq_r ?_))
  · obtain ⟨j, hj⟩ : ∃ j, d.length - k = j + 1 := ⟨d.length - k - 1, by omega⟩
    have ej : (d.length : Int) - 1 - (k : Int) = (j : Int) := by omega
    have g1 := prodL_drop (show j < d.length by omega)
    have g2 := prodL_drop_le hp j
    have g3 := prodL_pos (hp.drop j)
    rw [hj] at h2
    have g4 : m * d.getD j default = prodL (d.drop j) := by rw [h2, g1, Int.mul_comm]
    rw [ej, Int.toNat_natCast]
    refine T_ob (by omega) (T_ob (by omega) (T_ret (rq_l (by omega) ⟨?_, ?_, by simpa using h3, fun q h6 h7 => ?_⟩)))
    · simp only
      rw [w64_id (by omega) (by omega)]
      omega
    · simp only
      rw [g4, w64_id (by omega) (by omega), show d.length - (k + 1) = j by omega]
    · simp only
      rw [getD_set (by omega)]
      split
      · rename_i hq
        subst hq
        rw [stp_getD h7, h2]
      · exact h4 q (by omega) h7
  · refine getD_ext (by rw [h3, length_stp]) fun j hj => h4 j (by omega) (by omega)
theorem view_reach_v (d s : Int) (hd : 1 ≤ d) (hs : 1 ≤ s) (h : d * s ≤ 64) : view_reach d s 64 = some ((d - 1) * s, true) := by
  have e : (d - 1) * s = d * s - s := by rw [Int.sub_mul, Int.one_mul]
  have h0 : 0 ≤ (d - 1) * s := Int.mul_nonneg (by omega) (by omega)
  refine T_eq (T_eqI (fun h1 => T_ret ?_) (fun h1 => ?_))
  · rw [h1]
    simp
  · have h2 : 2 * s ≤ d * s := Int.mul_le_mul_of_nonneg_right (by omega) (by omega)
    have h3 : d * 1 ≤ d * s := Int.mul_le_mul_of_nonneg_left hs (by omega)
    have e2 : w64 (0 - 64) = -64 := by decide +kernel
    refine T_le (fun h4 => by omega) (fun _ => ?_)
    rw [e2]
    refine T_le (fun h4 => by omega) (fun _ => T_ret ?_)
    rw [w64_id (n := d - 1) (by omega) (by omega), w64_id (by omega) (by omega)]
theorem view_right_v (d : List Int) (hc : chk d = 0) : view_right (0, (d, (stp d, ()))) = some true := by
  obtain ⟨hl, hp, h64⟩ := chk_zero.1 hc
  refine T_eq (T_ex1 (y := true) (T_eq ?_) (T_ret rfl))
  refine T_ex1 (shape_Check_v d) (T_neI (fun h => absurd hc h) (fun _ => T_neI (fun h => absurd (by rw [length_stp]) h) (fun _ => T_lt (fun h => by omega) (fun _ => T_lt (fun h => by omega) (fun _ => T_le (fun h => by omega) (fun _ => ?_))))))
  refine T_lr (p := fun o => o = .inl (0, prodL d - 1)) ?_ (fun y hy => ?_) (fun y hy => by cases hy)
  · refine loopT (tr := view_Right_T5 64 d d.length 0 d (stp d)) d.length (fun k s => s.2.2 = (k : Int) ∧ s.1 = 0 ∧ s.2.1 = prodL d - prodL (d.drop k)) _ (by omega) ⟨rfl, rfl, by simp⟩ ?_
    rintro k ⟨lo, hi, s⟩ hk ⟨h1, h2, h3⟩
    simp only at h1 h2 h3
    subst h1 h2 h3
    simp only [view_Right_T5, Int.toNat_natCast]
    refine T_lt (fun h4 => ?_) (fun h4 => T_ret (rq_r ?_))
    · have hk' : k < d.length := by omega
      have g1 := prodL_drop hk'
      have g2 := prodL_drop_le hp k
      have g3 := prodL_pos (hp.drop (k + 1))
      have g4 := prodL_drop_le hp (k + 1)
      have g5 := prodL_pos (hp.drop k)
      have g6 := hp.getD hk'
      have r := view_reach_v (d.getD k default) (prodL (d.drop (k + 1))) g6 g3 (by omega)
      have e1 : (d.getD k default - 1) * prodL (d.drop (k + 1)) = prodL (d.drop k) - prodL (d.drop (k + 1)) := by rw [g1, Int.sub_mul, Int.one_mul]
      have e0 : 0 ≤ (d.getD k default - 1) * prodL (d.drop (k + 1)) := Int.mul_nonneg (by omega) (by omega)
      rw [e1] at r e0
      refine T_ob (by omega) (T_ob (by rw [length_stp]; omega) (T_ex1 (y := (prodL (d.drop k) - prodL (d.drop (k + 1)), true)) (by rw [stp_getD hk']; exact r) (T_brB (fun h => by cases h) (fun _ => T_ret (rq_l hk' ⟨w64_nat (by omega), ?_, ?_⟩)))))
      · simp only
        rw [Int.min_eq_right (by omega)]
        decide +kernel
      · simp only
        rw [Int.max_eq_left (by omega), w64_id (by omega) (by omega)]
        omega
    · rw [show k = d.length by omega, List.drop_length]
      rfl
  · cases hy
    exact T_le (fun _ => T_ret (decide_eq_true (by omega))) (fun h => absurd (show (0 : Int) ≤ 0 by omega) h)
theorem view_Whole_v (d : List Int) (hc : chk d = 0) : view_Whole d = some (0, (d, (stp d, ()))) := by
  have := chk_len hc
  exact T_eq (T_ex1 (shape_Check_v d) (T_neI (fun h => absurd hc h) (fun _ => T_ex1 (slices_Clone_v d (by omega)) (T_ex1 (shape_Steps_v d hc) (T_ret rfl)))))

/-- A view reads, at a place within its dims, the element with number K. -/
def Within (p d : List Int) : Prop := p.length = d.length ∧ ∀ i, i < d.length → 0 ≤ p.getD i default ∧ p.getD i default < d.getD i default
def Reads (d : List Int) (v : ViewD) (K : List Int → Int) : Prop := chk v.2.1 = 0 ∧ v.2.2.1.length = v.2.1.length ∧ ∀ p, Within p v.2.1 → 0 ≤ K p ∧ K p < prodL d ∧ v.1 + lin p v.2.2.1 v.2.1.length = K p
theorem Reads.off {d : List Int} {v : ViewD} {K : List Int → Int} (h : Reads d v K) (h64 : prodL d ≤ 64) : 0 ≤ v.1 ∧ v.1 < 64 ∧ ∀ i, i < v.2.1.length → 1 < v.2.1.getD i default → -64 < v.2.2.1.getD i default ∧ v.2.2.1.getD i default < 64 := by
  obtain ⟨hc, hl, hr⟩ := h
  have hp := (chk_zero.1 hc).2.1
  have gz : ∀ i, i < v.2.1.length → (List.replicate v.2.1.length (0 : Int)).getD i default = 0 := fun i hi => by rw [getD_el (by simpa using hi)]; simp
  have hz : Within (List.replicate v.2.1.length 0) v.2.1 := ⟨by simp, fun i hi => by have := hp.getD hi; rw [gz i hi]; omega⟩
  have ez : lin (List.replicate v.2.1.length 0) v.2.2.1 v.2.1.length = 0 := lin_zero _ fun i hi => by rw [gz i hi]; simp
  have h0 := hr _ hz
  rw [ez] at h0
  refine ⟨by omega, by omega, fun i hi h1 => ?_⟩
  have he : Within ((List.replicate v.2.1.length 0).set i 1) v.2.1 := ⟨by simp, fun j hj => by
    rw [getD_set (by simpa using hi)]
    split
    · rename_i hj
      subst hj
      omega
    · exact hz.2 j hj⟩
  have h2 := hr _ he
  have e1 : lin ((List.replicate v.2.1.length 0).set i 1) v.2.2.1 v.2.1.length = lin (List.replicate v.2.1.length 0) v.2.2.1 v.2.1.length + v.2.2.1.getD i default := by
    refine lin_at _ hi (fun j hj hne => ?_) ?_
    · rw [getD_set (by simpa using hi), if_neg hne]
    · rw [getD_set (by simpa using hi), if_pos rfl, gz i hi]
      simp
  rw [e1, ez] at h2
  omega
theorem ref22_Cells_L16_q {d : List Int} {v : ViewD} {K : List Int → Int} (h : Reads d v K) (h64 : prodL d ≤ 64) (n : Nat) (hn : n < (alls v.2.1).length) (q3 q4 : Int) (out : List Int) :
    ∃ o, ref22_Cells_L16 64 (alls v.2.1) n q3 q4 ((alls v.2.1).getD n default).length v.1 v.2.1 v.2.2.1 (v.1, (0, out)) = some o ∧ o = (K ((alls v.2.1).getD n default), out) := by
  obtain ⟨h0, h1, hs⟩ := h.off h64
  obtain ⟨hc, hl, hr⟩ := h
  obtain ⟨hpl, hpi⟩ := alls_in hn
  have h6 := chk_len hc
  have hp64 := (chk_zero.1 hc).2.2
  refine loopT (tr := ref22_Cells_T16 64 (alls v.2.1) n q3 q4 ((alls v.2.1).getD n default).length v.1 v.2.1 v.2.2.1) v.2.1.length (fun k s => s.2.1 = (k : Int) ∧ s.2.2 = out ∧ s.1 = v.1 + lin ((alls v.2.1).getD n default) v.2.2.1 k ∧ -(4096 * k) ≤ s.1 - v.1 ∧ s.1 - v.1 ≤ 4096 * k) _ (by omega) ⟨rfl, rfl, by simp [lin], by simp, by simp⟩ ?_
  rintro k ⟨c, i, o⟩ hk ⟨h2, h3, h4, h5, h7⟩
  simp only at h2 h3 h4 h5 h7
  subst h2 h3
  simp only [ref22_Cells_T16, Int.toNat_natCast]
  refine T_lt (fun h8 => ?_) (fun h8 => T_ret (rq_r ?_))
  · have hk' : k < v.2.1.length := by omega
    have g1 := hpi k hk'
    have g2 := getD_le_prodL (chk_zero.1 hc).2.1 hk'
    refine T_ob (by omega) (T_ob (by omega) (T_lt (fun h9 => T_ob (by omega) (T_ob (by omega) (T_ob (by omega) (T_ret (rq_l hk' ⟨w64_nat (by omega), rfl, ?_⟩))))) (fun h9 => T_ret (rq_l hk' ⟨w64_nat (by omega), rfl, ?_⟩))))
    · have g3 := hs k hk' (by omega)
      have g4 : ((alls v.2.1).getD n default).getD k default * v.2.2.1.getD k default ≤ 64 * 64 := by
        refine Int.le_trans (Int.mul_le_mul_of_nonneg_left (show v.2.2.1.getD k default ≤ 64 by omega) (by omega)) (Int.mul_le_mul_of_nonneg_right (by omega) (by omega))
      have g5 : -(64 * 64) ≤ ((alls v.2.1).getD n default).getD k default * v.2.2.1.getD k default := by
        have a1 := Int.mul_le_mul_of_nonneg_left (show -64 ≤ v.2.2.1.getD k default by omega) (show 0 ≤ ((alls v.2.1).getD n default).getD k default by omega)
        omega
      simp only
      rw [w64_id (n := ((alls v.2.1).getD n default).getD k default * v.2.2.1.getD k default) (by omega) (by omega), w64_id (by omega) (by omega)]
      refine ⟨by rw [h4]; simp only [lin]; omega, by omega, by omega⟩
    · have g3 : ((alls v.2.1).getD n default).getD k default = 0 := by omega
      refine ⟨?_, by simp only; omega, by simp only; omega⟩
      simp only [lin, g3]
      rw [h4]
      omega
  · have ek : k = v.2.1.length := by omega
    subst ek
    rw [h4, (hr _ ⟨hpl, hpi⟩).2.2]
def cellsOf (v : ViewD) (K : List Int → Int) : List Int := (List.range (alls v.2.1).length).map fun i => K ((alls v.2.1).getD i default)
theorem ref22_Cells_v {d : List Int} {v : ViewD} {K : List Int → Int} (h : Reads d v K) (h64 : prodL d ≤ 64) : ref22_Cells v 64 = some (cellsOf v K) := by
  obtain ⟨h0, h1, hs⟩ := h.off h64
  have hR := h
  obtain ⟨hc, hl, hr⟩ := h
  have h6 := chk_len hc
  have hal := alls_len v.2.1
  have e2 : w64 (0 - 64) = -64 := by decide +kernel
  refine T_eq (T_ex1 (ref19_Check_v _) (T_neI (fun h => absurd hc h) (fun _ => T_neI (fun h => absurd (by rw [hl]) h) (fun _ => T_lt (fun h => by omega) (fun _ => T_lt (fun h => by omega) (fun _ => T_le (fun h => by omega) (fun _ => T_un (p := fun o => o = .inl ()) ?_ (fun _ => T_ex1 (ref20_All_v _) (T_lr (p := fun o => o = .inl (cellsOf v K)) ?_ (fun y hy => T_ret (by cases hy; rfl)) (fun y hy => by cases hy))) (fun y hy => by cases hy))))))))
  · refine loopT (tr := ref22_Cells_T4 64 v.2.1.length v.1 v.2.1 v.2.2.1) v.2.1.length (fun k s => s = (k : Int)) _ (by omega) rfl ?_
    rintro k s hk rfl
    simp only [ref22_Cells_T4, Int.toNat_natCast, e2]
    refine T_lt (fun h2 => ?_) (fun _ => T_ret (rq_r rfl))
    refine T_ob (by omega) (T_lt (fun h3 => ?_) (fun _ => T_ret (rq_l (by omega) (w64_nat (by omega)))))
    have := hs k (by omega) h3
    exact T_ob (by omega) (T_le (fun h4 => by omega) (fun _ => T_ob (by omega) (T_le (fun h4 => by omega) (fun _ => T_ret (rq_l (by omega) (w64_nat (by omega)))))))
  · refine loopT (tr := ref22_Cells_T12 64 (alls v.2.1) (alls v.2.1).length v.1 v.2.1 v.2.2.1) (alls v.2.1).length (fun k s => s.1 = (k : Int) ∧ s.2 = (List.range k).map fun i => K ((alls v.2.1).getD i default)) _ (by omega) ⟨rfl, rfl⟩ ?_
    rintro k ⟨s, o⟩ hk ⟨h2, h3⟩
    simp only at h2 h3
    subst h2 h3
    simp only [ref22_Cells_T12, Int.toNat_natCast]
    refine T_lt (fun h4 => ?_) (fun h4 => T_ret (rq_r ?_))
    · have hk' : k < (alls v.2.1).length := by omega
      refine T_ob (by omega) (T_ex (ref22_Cells_L16_q hR h64 k hk' _ _ _) (fun y hy => ?_))
      subst hy
      obtain ⟨hpl, hpi⟩ := alls_in hk'
      have g := hr _ ⟨hpl, hpi⟩
      simp only [List.length_map, List.length_range]
      exact T_lt (fun h5 => by omega) (fun _ => T_le (fun h5 => by omega) (fun _ => T_ob (by omega) (T_ret (rq_l hk' ⟨w64_nat (by omega), by rw [map_range_succ]⟩))))
    · rw [show k = (alls v.2.1).length by omega]
      rfl
end Go.Proofs.YtnhebloiappfiaaGreat
