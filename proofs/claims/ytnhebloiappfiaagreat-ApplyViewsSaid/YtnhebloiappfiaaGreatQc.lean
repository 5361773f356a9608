/- What the functions of views come to, primitive by primitive. -/
import Derived.Test.YtnhebloiappfiaaGreatQb
namespace Go.Proofs.YtnhebloiappfiaaGreat
open Go Go.SM
set_option maxRecDepth 100000
set_option linter.unusedVariables false

theorem z1 : (0 : Int) ≠ 1 := by decide
theorem seen_of {t : Tree (RTs.den [.d .i64] × (List Int × Bool))} {k : Int} (h : t.T (fun y => y.1 = k)) : ∃ q, t.run = some (k, q) := by
  obtain ⟨y, hy, rfl⟩ := t.T_run h
  exact ⟨y.2, hy⟩
theorem chk_ne1 (d : List Int) : chk d ≠ 1 := by
  unfold chk
  repeat' split
  all_goals decide
/-- What a view's primitive reads is what is seen through it. -/
def Seen (op : Int) (a : AttrD) (d : List Int) (v : ViewD) (K : List Int → Int) : Prop := ∀ n : Nat, n < (alls v.2.1).length → ∃ q, move_seen op a d v.2.1 n ((alls v.2.1).getD n default) = some (K ((alls v.2.1).getD n default), q)
def ViewOk (op : Int) (a : AttrD) (d : List Int) (r : ViewD × Int) : Prop := r.2 ≠ 1 ∧ (r.2 = 0 → ∃ K, Reads d r.1 K ∧ Seen op a d r.1 K)
theorem horw_in {d p : List Int} (hc : chk d = 0) (h : Within p d) : horw d p d.length = hor d p d.length ∧ 0 ≤ hor d p d.length ∧ hor d p d.length < prodL d := by
  obtain ⟨hl, hp, h64⟩ := chk_zero.1 hc
  have h1 := horw_eq (Nat.le_refl _) hp h64 h.2 d.length (Nat.le_refl _)
  have h2 := hor_range (Nat.le_refl _) h.2 d.length (Nat.le_refl _)
  rw [List.take_length] at h2
  exact ⟨h1, h2⟩
theorem alls_within {d : List Int} {n : Nat} (h : n < (alls d).length) : Within ((alls d).getD n default) d := alls_in h

theorem view_Row_t (d : List Int) (hc : chk d = 0) : ∃ y, view_Row (0, (d, (stp d, ()))) = some y ∧ True := by
  have hl := chk_len hc
  refine Tree.T_run _ (T_ex1 (view_right_v d hc) (T_brB (fun h => by cases h) (fun _ => T_un (p := fun _ => True) ?_ (fun _ => T_ret trivial) (fun _ _ => T_ret trivial))))
  refine loopT (tr := view_Row_T5 0 d (stp d)) d.length (fun k s => s.2 = (d.length : Int) - 1 - (k : Int)) _ (by omega) (by simp only; rw [w64_id (by omega) (by omega)]; simp) ?_
  rintro k ⟨m, s⟩ hk rfl
  have e := length_stp d
  simp only [view_Row_T5]
  refine T_le (fun h1 => ?_) (fun _ => T_ret (rq_r trivial))
  have e1 : w64 ((d.length : Int) - 1 - (k : Int) - 1) = (d.length : Int) - 1 - ((k + 1 : Nat) : Int) := by
    rw [w64_id (by omega) (by omega)]
    omega
  exact T_ob (by omega) (T_lt (fun _ => T_ob (by omega) (T_neI (fun _ => T_ret (rq_r trivial)) (fun _ => T_ob (by omega) (T_ret (rq_l (by omega) e1))))) (fun _ => T_ob (by omega) (T_ret (rq_l (by omega) e1))))
theorem view_Reshape_q (a : AttrD) (d : List Int) (hc : chk d = 0) : ∃ r, view_Reshape (0, (d, (stp d, ()))) (AX a) = some r ∧ ViewOk 33 a d r := by
  refine Tree.T_run _ (T_ex1 (view_right_v d hc) (T_brB (fun h => by cases h) (fun _ => T_ex1 (shape_Check_v _) (T_neI (fun h => T_ret ⟨chk_ne1 _, fun h' => absurd h' h⟩) (fun h1 => T_ex1 (shape_Count_v _) (T_ex1 (shape_Count_v _) (T_neI (fun _ => T_ret ⟨by decide, fun h => by cases h⟩) (fun h2 => T_ex (view_Row_t d hc) (fun y _ => T_brB (fun _ => T_ret ⟨by decide, fun h => by cases h⟩) (fun _ => T_ex1 (slices_Clone_v _ ?_) (T_ex1 (shape_Steps_v _ h1) (T_ret ⟨z1, fun _ => ⟨fun p => hor (AX a) p (AX a).length, ⟨h1, length_stp _, fun p hp => ?_⟩, fun n hn => ?_⟩⟩))))))))))))
  · have := chk_len h1
    omega
  · have h3 := (horw_in h1 hp).2
    have h4 : cnt (AX a) = cnt d := h2
    rw [(cnt_ok h1).1, (cnt_ok hc).1] at h4
    simp only
    refine ⟨h3.1, by omega, ?_⟩
    rw [hor_lin_all]
    omega
  · obtain ⟨h3, h4⟩ := alls_at hn
    rw [alls_ok h3] at hn
    simp only at hn h4 ⊢
    rw [h4, hor_dg (chk_zero.1 h1).2.1 _ _ (Nat.le_refl _) (by omega) (by rw [List.take_length]; omega)]
    exact seen_of (T_eqI (fun h => by omega) (fun _ => T_eqI (fun h => by omega) (fun _ => T_eqI (fun h => by omega) (fun _ => T_eqI (fun h => by omega) (fun _ => T_ret rfl)))))
theorem prodL_set : ∀ {d : List Int} {j : Nat} (x : Int), j < d.length → prodL (d.set j x) = prodL (d.set j 1) * x
  | [], j, x, h => by simp at h
  | y :: d, 0, x, h => by
    simp only [List.set_cons_zero, prodL, Int.one_mul]
    exact Int.mul_comm ..
  | y :: d, j + 1, x, h => by
    simp only [List.set_cons_succ, prodL]
    rw [prodL_set x (by simpa using h), Int.mul_assoc]
theorem set_self {d : List Int} {j : Nat} (h : j < d.length) : d.set j (d.getD j default) = d := by
  rw [getD_el h]
  exact List.set_getElem_self h
theorem pos_set {d : List Int} (h : Pos d) {j : Nat} {x : Int} (hx : 1 ≤ x) : Pos (d.set j x) := fun y hy => by
  rcases List.mem_or_eq_of_mem_set hy with h1 | h1
  · exact h y h1
  · omega
/-- One of the dims made less. -/
theorem chk_set {d : List Int} {j : Nat} {x : Int} (hc : chk d = 0) (hj : j < d.length) (h1 : 1 ≤ x) (h2 : x ≤ d.getD j default) : chk (d.set j x) = 0 ∧ prodL (d.set j x) ≤ prodL d := by
  obtain ⟨hl, hp, h64⟩ := chk_zero.1 hc
  have e1 : prodL d = prodL (d.set j 1) * d.getD j default := by
    rw [← prodL_set _ hj, set_self hj]
  have e2 := prodL_set x hj
  have h3 := prodL_pos (pos_set hp (j := j) (x := 1) (by omega))
  have h4 := Int.mul_le_mul_of_nonneg_left h2 (show 0 ≤ prodL (d.set j 1) by omega)
  exact ⟨chk_zero.2 ⟨by simpa using hl, pos_set hp h1, by omega⟩, by omega⟩
theorem view_copied_v (v : ViewD) (h1 : v.2.1.length ≤ 6) (h2 : v.2.2.1.length ≤ 6) : view_copied v = some (v.1, (v.2.1, v.2.2.1)) :=
  T_eq (T_ex1 (slices_Clone_r_v _ (by omega)) (T_ex1 (slices_Clone_r_v _ (by omega)) (T_ret rfl)))
theorem stp_le {d : List Int} (hc : chk d = 0) {i : Nat} (h : i < d.length) : 1 ≤ (stp d).getD i default ∧ (stp d).getD i default ≤ 64 := by
  obtain ⟨hl, hp, h64⟩ := chk_zero.1 hc
  have h1 := prodL_drop_le hp (i + 1)
  have h2 := prodL_pos (hp.drop (i + 1))
  rw [stp_getD h]
  omega
theorem view_Flip_q (a : AttrD) (d : List Int) (hc : chk d = 0) : ∃ r, view_Flip (0, (d, (stp d, ()))) a.1 = some r ∧ ViewOk 37 a d r := by
  obtain ⟨hl, hp, h64⟩ := chk_zero.1 hc
  have es := length_stp d
  refine Tree.T_run _ (T_ex1 (view_right_v d hc) (T_brB (fun h => by cases h) (fun _ => T_lt (fun _ => T_ret ⟨by decide, fun h => by cases h⟩) (fun h1 => T_le (fun _ => T_ret ⟨by decide, fun h => by cases h⟩) (fun h2 => T_ex1 (view_copied_v _ hl (by simp only; omega)) (T_ob (by omega) ?_))))))
  obtain ⟨x, hx⟩ : ∃ x : Nat, a.1 = (x : Int) := ⟨a.1.toNat, by omega⟩
  have hxl : x < d.length := by
    simp only at h2
    omega
  have hd1 := hp.getD hxl
  have hd2 := getD_le_prodL hp hxl
  have hs := stp_le hc hxl
  -- the place that is read
  have within : ∀ p, Within p d → Within (p.set x (d.getD x default - 1 - p.getD x default)) d := fun p h => ⟨by simpa using h.1, fun i hi => by
    have h3 := h.2 i hi
    rw [getD_set (by rw [h.1]; omega)]
    split
    · rename_i hix
      subst hix
      omega
    · exact h3⟩
  have seen : ∀ v : ViewD, v.2.1 = d → Seen 37 a d v (fun p => hor d (p.set x (d.getD x default - 1 - p.getD x default)) d.length) := by
    intro v hv n hn
    have hw := alls_within hn
    rw [hv] at hw hn ⊢
    have hi := hw.2 x hxl
    have e1 : w64 (w64 (d.getD x default - 1) - ((alls d).getD n default).getD x default) = d.getD x default - 1 - ((alls d).getD n default).getD x default := by
      rw [w64_id (n := d.getD x default - 1) (by omega) (by omega), w64_id (by omega) (by omega)]
    have hq := within _ hw
    refine seen_of (T_eqI (fun h => by omega) (fun _ => T_eqI (fun h => by omega) (fun _ => T_eqI (fun h => by omega) (fun _ => T_eqI (fun _ => ?_) (fun h => absurd rfl h)))))
    simp only [hx, Int.toNat_natCast, e1]
    refine T_ob (by omega) (T_ob (by rw [hw.1]; omega) (T_ob (by rw [hw.1]; omega) (T_ex1 (walk_Place_v d _ hc hq.1 hq.2) (T_ret (horw_in hc hq).1))))
  have rd : ∀ p, Within p d → 0 ≤ hor d (p.set x (d.getD x default - 1 - p.getD x default)) d.length ∧ hor d (p.set x (d.getD x default - 1 - p.getD x default)) d.length < prodL d := fun p h => (horw_in hc (within p h)).2
  simp only [hx, Int.toNat_natCast]
  refine T_lt (fun h3 => T_ob (by omega) (T_ob (by omega) (T_ob (by omega) (T_ret ⟨z1, fun _ => ⟨_, ⟨hc, by simpa using es, fun p hp => ?_⟩, seen _ rfl⟩⟩)))) (fun h3 => T_ret ⟨z1, fun _ => ⟨_, ⟨hc, es, fun p hp => ?_⟩, seen _ rfl⟩⟩)
  · refine ⟨(rd p hp).1, (rd p hp).2, ?_⟩
    have g0 : 0 ≤ (d.getD x default - 1) * (stp d).getD x default := Int.mul_nonneg (by omega) (by omega)
    have g1 : (d.getD x default - 1) * (stp d).getD x default ≤ 64 * 64 := Int.le_trans (Int.mul_le_mul_of_nonneg_left hs.2 (by omega)) (Int.mul_le_mul_of_nonneg_right (by omega) (by omega))
    have e1 : lin (p.set x (d.getD x default - 1 - p.getD x default)) (stp d) d.length = lin p ((stp d).set x (-(stp d).getD x default)) d.length + (d.getD x default - 1) * (stp d).getD x default := by
      refine lin_at _ hxl (fun i hi hne => ?_) ?_
      · rw [getD_set (by rw [hp.1]; omega), if_neg hne, getD_set (by omega), if_neg hne]
      · rw [getD_set (by rw [hp.1]; omega), if_pos rfl, getD_set (by omega), if_pos rfl, Int.sub_mul, Int.mul_neg]
        omega
    simp only
    rw [hor_lin_all, e1, w64_id (n := d.getD x default - 1) (by omega) (by omega), w64_id (n := (d.getD x default - 1) * (stp d).getD x default) (by omega) (by omega), w64_id (n := 0 - (stp d).getD x default) (by omega) (by omega), Int.zero_add, w64_id (by omega) (by omega), Int.zero_sub]
    omega
  · have h4 : 0 ≤ p.getD x default ∧ p.getD x default < d.getD x default := hp.2 x hxl
    have h5 : d.getD x default = 1 := by omega
    have e1 : p.set x (d.getD x default - 1 - p.getD x default) = p := by
      rw [show d.getD x default - 1 - p.getD x default = p.getD x default by omega]
      exact set_self (by have : p.length = d.length := hp.1; omega)
    refine ⟨(rd p hp).1, (rd p hp).2, ?_⟩
    simp only
    rw [e1, hor_lin_all]
    omega
end Go.Proofs.YtnhebloiappfiaaGreat
