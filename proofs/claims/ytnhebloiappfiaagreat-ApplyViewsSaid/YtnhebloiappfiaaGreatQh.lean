/- The law 'ApplyViews' of data: for every number, attributes and operand no slice of which is over 2^47 bytes, it answers true. -/
import Derived.Test.YtnhebloiappfiaaGreatQg
namespace Go.Proofs.YtnhebloiappfiaaGreat
open Go Go.SM
set_option maxRecDepth 100000
set_option linter.unusedVariables false

theorem same32 : law32_same = some true := rfl
theorem law32_pure (op : Int) (a : AttrD) (x : ArgD) (ha : Sz attrT a) (hx : Sz argT x) : law32_ApplyViews op a x = some true := by
  have hs := sar_of hx
  have hax : Sm (AX a) := by
    obtain ⟨_, _, _, _, _, _, _, _, _, ⟨h1, _⟩, _⟩ := ha
    have h2 : (AX a).length * 8 ≤ 140737488351232 := h1
    simp only [Sm]
    omega
  have hv := hs.2.1
  refine T_eq (T_ex (plain_Args_t [x] (by simp [Sm]) (fun y hy => by simp at hy; rw [hy]; exact hs)) (fun y _ => T_br (fun _ => T_ex1 same32 (T_ret rfl)) (fun _ => T_ex (law31_Many_t a [x.1] (by simp [Sm])) (fun y _ => T_br (fun _ => T_ex1 same32 (T_ret rfl)) (fun _ => T_lt (fun _ => T_ex1 same32 (T_ret rfl)) (fun h0 => T_lt (fun _ => T_ex1 same32 (T_ret rfl)) (fun h1 => T_ex (ref18_Vals_q x.2.1 (by simp only [Sm]; omega) hs.2.2) (fun y hy => T_brB (fun _ => T_ex1 same32 (T_ret rfl)) (fun h2 => T_ex1 (ref19_Check_v x.1) (T_neI (fun _ => T_ex1 same32 (T_ret rfl)) (fun hc => ?_)))))))))))
  have hb := hy h2
  obtain ⟨r, hr, hne, hok⟩ := move_View_q op a x.1 hc hax (by omega) (by omega)
  obtain ⟨z, hz, hq⟩ := apply_Run_w hs hc (by omega) (by omega) hr hb hok
  have h64 := (chk_zero.1 hc).2.2
  have hlv : x.2.1.length < 100000000000000 := by omega
  refine T_ex1 (y := bq) (show bank_New 1 [] = some bq from rfl) (T_ex1 hz (T_ex1 (view_Whole_v x.1 hc) (T_ex1 hr ?_)))
  rcases hq with ⟨q1, q2⟩ | ⟨q1, q2, q3⟩ | ⟨q1, q2, K, hR, q3⟩
  · -- the view is refused, and so is the run
    refine T_neI (fun _ => T_eqI (fun h => absurd (q2 ▸ h) q1) (fun _ => T_eqI (fun h => absurd (q2 ▸ h) hne) (fun _ => T_br (fun _ => T_ex1 same32 (T_ret rfl)) (fun h => ?_)))) (fun h => absurd (q2 ▸ h) q1)
    rw [decide_eq_false q1] at h
    cases h
  · -- the operand is not whole
    refine T_neI (fun _ => T_eqI (fun h => absurd (q3 ▸ h) (by decide)) (fun _ => T_eqI (fun _ => T_ex1 (ref32_Whole_v x) (T_br (fun _ => T_ex1 same32 (T_ret rfl)) (fun h => ?_))) (fun h => absurd q3 h))) (fun h => absurd (q3 ▸ h) (by decide))
    rw [decide_eq_true q1, decide_eq_false q2] at h
    cases h
  · subst q3
    have hlen : (outV x r.1 K).length = (alls r.1.2.1).length := by simp [outV]
    have hlen2 : (cellsOf r.1 K).length = (alls r.1.2.1).length := by simp [cellsOf]
    have hal := alls_len r.1.2.1
    have hw : (x.2.1.length : Int) = prodL x.1 := by rw [q2, (cnt_ok hc).1]
    refine T_neI (fun h => absurd rfl h) (fun _ => T_neI (fun h => absurd q1 h) (fun _ => T_ex1 (ref22_Cells_v hR h64) (T_ex1 (plain_Ints_v r.1.2.1 r.1.2.1 (by have := chk_len hR.1; omega)) (T_brB (fun h => by simp at h) (fun _ => T_neI (fun h => absurd (by rw [hlen2, hlen]) h) (fun _ => T_lr (p := fun o => o = .inl bq) ?_ (fun y hy => ?_) (fun y hy => by cases hy)))))))
    · refine loopT (tr := law32_ApplyViews_T12 (cellsOf r.1 K) (cellsOf r.1 K).length x.1 x.2.1 r.1.2.1 (outV x r.1 K)) (cellsOf r.1 K).length (fun k s => s = ((k : Int), bq)) _ (by omega) rfl ?_
      rintro k s hk rfl
      simp only [law32_ApplyViews_T12, Int.toNat_natCast]
      refine T_lt (fun h3 => ?_) (fun _ => T_ret (rq_r rfl))
      have hk' : k < (alls r.1.2.1).length := by omega
      have hkk := hR.2.2 _ (alls_within hk')
      have ec : (cellsOf r.1 K).getD k default = K ((alls r.1.2.1).getD k default) := by
        unfold cellsOf
        rw [getD_map_range hk']
      have eo : (outV x r.1 K).getD k default = x.2.1.getD (K ((alls r.1.2.1).getD k default)).toNat default := by
        unfold outV
        rw [getD_map_range hk']
      simp only [ec, eo]
      have hsv := hs.2.2 _ (getD_mem (show (K ((alls r.1.2.1).getD k default)).toNat < x.2.1.length by omega))
      refine T_ob (by omega) (T_le (fun h => by omega) (fun _ => T_ob (by omega) (T_ob (by omega) (T_ob (by omega) (T_ex1 (ref18_Same_self _ hsv) (T_brB (fun h => by cases h) (fun _ => T_ret (rq_l (by omega) (by rw [w64_nat (by omega)])))))))))
    · cases hy
      exact T_ex1 (y := ((0 : Int), bq)) rfl (T_eqI (fun _ => T_ex1 same32 (T_ret rfl)) (fun h => absurd rfl h))
end Go.Proofs.YtnhebloiappfiaaGreat
