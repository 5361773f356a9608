/- The functions of views, of moves and of shapes come to something. -/
import Derived.Test.YtnkamghdikbmaaaGreatPd
namespace Go.Proofs.YtnkamghdikbmaaaGreat
open Go Go.SM
set_option maxRecDepth 100000
set_option linter.unusedVariables false

theorem ref22_Reshape_t (d l : List Int) : ∃ r, ref22_Reshape d l = some r ∧ r.2.1.length ≤ 64 := by
  have hc := cnt_in d
  refine Tree.T_run _ (T_ex1 (ref19_Check_v l) (T_neI (fun h1 => T_ret (by simp)) (fun h1 => T_ex1 (ref19_Count_v l) (T_ex1 (ref19_Count_v d) (T_neI (fun _ => T_ret (by simp)) (fun _ => T_ex1 (ref19_Count_v d) (T_ex (p := fun o => o.length ≤ 64) ?_ (fun y hy => T_ob ?_ (T_ret hy)))))))))
  · obtain ⟨n, hn⟩ : ∃ n : Nat, cnt d = (n : Int) := ⟨(cnt d).toNat, by omega⟩
    rw [hn]
    refine loopT (tr := ref22_Reshape_T8 l n) n (fun k s => s.1 = (k : Int) ∧ s.2.length = k) _ (by omega) ⟨rfl, rfl⟩ ?_
    rintro k ⟨s, o⟩ hk ⟨h2, h3⟩
    simp only at h2 h3
    subst h2
    exact T_lt (fun h4 => T_ob (by simp only; omega) (T_ret (rq_l (by simp only at h4; omega) ⟨w64_nat (by omega), by simp [h3]⟩))) (fun h4 => T_ret (rq_r (by simp only; omega)))
  · have := chk_len h1
    omega
theorem ref22_Permute_t (d l : List Int) (hl : Sm l) : ∃ r, ref22_Permute d l = some r ∧ r.2.1.length ≤ 64 := by
  refine Tree.T_run _ (T_ex (ref19_Perm_q d l hl) (fun r hr => T_neI (fun h1 => T_ret (by simp)) (fun h1 => T_ex1 (ref20_All_v r.1) ?_)))
  obtain ⟨hc, h2, h3, h4⟩ := hr h1
  have h5 := chk_len hc
  have h6 := alls_len r.1
  refine T_ex (p := fun o => o.length ≤ 64) ?_ (fun y hy => T_ret hy)
  refine loopT (tr := ref22_Permute_T7 d l r.1 (alls r.1) (alls r.1).length) (alls r.1).length (fun k s => s.1 = (k : Int) ∧ s.2.length = k) _ (by omega) ⟨rfl, rfl⟩ ?_
  rintro k ⟨s, o⟩ hk ⟨h7, h8⟩
  simp only at h7 h8
  subst h7
  simp only [ref22_Permute_T7]
  refine T_lt (fun h9 => T_ob (by omega) (T_ex (p := fun o' => o'.1 = o ∧ o'.2.length = d.length) ?_ (fun y hy => T_ex1 (ref22_number_v d y.2 hy.2 (by omega)) (T_ob (by rw [hy.1]; omega) (T_ret (rq_l (by omega) ⟨w64_nat (by omega), by simp [hy.1, h8]⟩)))))) (fun h9 => T_ret (rq_r (by omega)))
  have h10 := (alls_in (show k < (alls r.1).length by omega)).1
  refine loopT (tr := ref22_Permute_T11 d l r.1 (alls r.1) k (alls r.1).length k l.length) l.length (fun j s => s.1 = (j : Int) ∧ s.2.1 = o ∧ s.2.2.length = d.length) _ (by omega) ⟨rfl, rfl, by simp⟩ ?_
  rintro j ⟨s, o1, o2⟩ hj ⟨h11, h12, h13⟩
  simp only at h11 h12 h13
  subst h11 h12
  simp only [ref22_Permute_T11, Int.toNat_natCast]
  exact T_lt (fun h14 => T_ob (by omega) (T_ob (by omega) (T_ob (by omega) (T_ob (by have := h4 j (by omega); omega) (T_ret (rq_l (by omega) ⟨w64_nat (by omega), rfl, by simpa using h13⟩)))))) (fun h14 => T_ret (rq_r ⟨rfl, h13⟩))
theorem ref22_Take_t (d : List Int) (x : Int) (l : List Int) : ∃ r, ref22_Take d x l = some r ∧ r.2.1.length ≤ 64 := by
  refine Tree.T_run _ (T_ex (ref19_With_q d x l.length) (fun r hr => T_neI (fun h1 => T_ret (by simp)) (fun h1 => T_ex1 (ref20_All_v r.1) ?_)))
  obtain ⟨hc, h2, h3, hc', h4, h5⟩ := hr h1
  have h6 := alls_len r.1
  have h7 := chk_len hc
  obtain ⟨x, rfl⟩ : ∃ n : Nat, x = (n : Int) := ⟨x.toNat, by omega⟩
  rw [Int.toNat_natCast] at h5
  refine T_ex (p := fun o => o.length ≤ 64) ?_ (fun y hy => T_ret hy)
  refine loopT (tr := ref22_Take_T7 d x l r.1 (alls r.1) (alls r.1).length) (alls r.1).length (fun k s => s.1 = (k : Int) ∧ s.2.length = k) _ (by omega) ⟨rfl, rfl⟩ ?_
  rintro k ⟨s, o⟩ hk ⟨h8, h9⟩
  simp only at h8 h9
  subst h8
  simp only [ref22_Take_T7, Int.toNat_natCast]
  refine T_lt (fun h10 => ?_) (fun h10 => T_ret (rq_r (by omega)))
  obtain ⟨h11, h12⟩ := alls_in (show k < (alls r.1).length by omega)
  have h13 := h12 x (by omega)
  rw [h5] at h13
  exact T_ob (by omega) (T_ob (by omega) (T_ob (by omega) (T_ob (by omega) (T_ob (by omega) (T_ex1 (ref22_number_v d _ (by simp only [List.length_set]; omega) (by omega)) (T_ob (by omega) (T_ret (rq_l (by omega) ⟨w64_nat (by omega), by simp [h9]⟩))))))))
theorem ref22_Slice_L7_q (d : List Int) (x p q : Int) (n : Int) (hx : 0 ≤ x) (hx' : x < d.length) (hn : n ≤ 64) : ∃ o, ref22_Slice_L7 d x p q n (0, []) = some o ∧ (match o with | .inl _ => True | .inr r => r.2.1.length ≤ 64) := by
  refine loopT (tr := ref22_Slice_T7 d x p q n) n.toNat (fun k s => s.1 = (k : Int) ∧ s.2.length = k) _ (by omega) ⟨rfl, rfl⟩ ?_
  rintro k ⟨s, o⟩ hk ⟨h1, h2⟩
  simp only at h1 h2
  subst h1
  simp only [ref22_Slice_T7]
  exact T_lt (fun h3 => T_lt (fun _ => T_lt (fun _ => T_ret (rq_r (by simp))) (fun _ => T_ob (by omega) (T_le (fun _ => T_ret (rq_r (by simp))) (fun _ => T_ob (by omega) (T_ret (rq_l (by omega) ⟨w64_nat (by omega), by simp [h2]⟩)))))) (fun _ => T_lt (fun _ => T_ret (rq_r (by simp))) (fun _ => T_ob (by omega) (T_le (fun _ => T_ret (rq_r (by simp))) (fun _ => T_ob (by omega) (T_ret (rq_l (by omega) ⟨w64_nat (by omega), by simp [h2]⟩))))))) (fun h3 => T_ret (rq_r trivial))
theorem ref22_Slice_t (d : List Int) (x p n q : Int) (hc : chk d = 0) : ∃ r, ref22_Slice d x p n q = some r ∧ r.2.1.length ≤ 64 := by
  refine Tree.T_run _ (T_lt (fun _ => T_ret (by simp)) (fun h1 => T_le (fun _ => T_ret (by simp)) (fun h2 => T_lt (fun _ => T_ret (by simp)) (fun h3 => T_ob (by omega) (T_lt (fun _ => T_ret (by simp)) (fun h4 => ?_))))))
  have h5 : d.getD x.toNat default ≤ 64 := by
    have := getD_le_prodL (chk_zero.1 hc).2.1 (show x.toNat < d.length by omega)
    have := (chk_zero.1 hc).2.2
    omega
  refine T_lt (fun _ => T_ret (by simp)) (fun _ => T_ob (by omega) (T_le (fun _ => T_ret (by simp)) (fun _ => T_lt (fun _ => T_eqI (fun _ => T_ret (by simp)) (fun _ => T_lt (fun _ => T_ret (by simp)) (fun _ => T_lt (fun _ => T_ret (by simp)) (fun _ => ?_)))) (fun _ => ?_))))
  · exact T_lr (ref22_Slice_L7_q d x p q n (by omega) (by omega) (by omega)) (fun y _ => T_ex (ref22_Take_t d x y) (fun r hr => T_ret hr)) (fun y hy => T_ret hy)
  · exact T_lr (ref22_Slice_L7_q d x p q n (by omega) (by omega) (by omega)) (fun y _ => T_ex (ref22_Take_t d x y) (fun r hr => T_ret hr)) (fun y hy => T_ret hy)
theorem ref22_Expand_t (d l : List Int) : ∃ r, ref22_Expand d l = some r ∧ r.2.1.length ≤ 64 := by
  obtain ⟨f, hf, hf'⟩ := ref21_Fits_q d l
  refine Tree.T_run _ (T_ex1 (ref19_Check_v l) (T_neI (fun h1 => T_ret (by simp)) (fun h1 => T_ex1 hf (T_brB (fun _ => T_ret (by simp)) (fun h2 => T_ob ?_ (T_ex (ref21_Sources_q d l) (fun y hy => T_ret ?_)))))))
  · have := chk_len h1
    omega
  · rw [hf, h2] at hy
    simp only
    rw [hy rfl, length_srcs]
    have := (cnt_ok h1).2
    omega
theorem ref22_Flip_t (d : List Int) (x : Int) (hc : chk d = 0) : ∃ r, ref22_Flip d x = some r ∧ r.2.1.length ≤ 64 := by
  refine Tree.T_run _ (T_lt (fun _ => T_ret (by simp)) (fun h1 => T_le (fun _ => T_ret (by simp)) (fun h2 => T_ob (by omega) (T_ex (p := fun _ => True) ?_ (fun y _ => T_ex (ref22_Take_t d x y) (fun r hr => T_ret hr))))))
  obtain ⟨x, rfl⟩ : ∃ n : Nat, x = (n : Int) := ⟨x.toNat, by omega⟩
  rw [Int.toNat_natCast]
  have h5 := getD_le_prodL (chk_zero.1 hc).2.1 (show x < d.length by omega)
  have h6 := (chk_zero.1 hc).2.2
  refine loopT (tr := ref22_Flip_T5 d x (d.getD x default)) (d.getD x default).toNat (fun k s => s.1 = (k : Int) ∧ s.2.length = k) _ (by omega) ⟨rfl, rfl⟩ ?_
  rintro k ⟨s, o⟩ hk ⟨h7, h8⟩
  simp only at h7 h8
  subst h7
  simp only [ref22_Flip_T5, Int.toNat_natCast]
  exact T_lt (fun h9 => T_ob (by omega) (T_ob (by omega) (T_ret (rq_l (by omega) ⟨w64_nat (by omega), by simp [h8]⟩)))) (fun _ => T_ret (rq_r trivial))
theorem ref22_Sees_t (op : Int) (a : AttrD) (d : List Int) (hl : Sm (AX a)) (hc : chk d = 0) : ∃ r, ref22_Sees op a d = some r ∧ r.2.1.length ≤ 64 := by
  refine Tree.T_run _ (T_eqI (fun _ => T_ex (ref22_Reshape_t d _) (fun r hr => T_ret hr)) (fun _ => T_eqI (fun _ => T_ex (ref22_Permute_t d _ hl) (fun r hr => T_ret hr)) (fun _ => T_eqI (fun _ => T_ex (ref22_Slice_t d _ _ _ _ hc) (fun r hr => T_ret hr)) (fun _ => T_eqI (fun _ => T_ex (ref22_Expand_t d _) (fun r hr => T_ret hr)) (fun _ => T_eqI (fun _ => T_ex (ref22_Flip_t d _ hc) (fun r hr => T_ret hr)) (fun _ => T_ret (by simp)))))))
theorem ref29_single_t (op : Int) (a : AttrD) (d : List Int) (hl : Sm (AX a)) (hc : chk d = 0) : ∃ r, ref29_single op a d = some r ∧ r.2.1.length ≤ 64 := by
  refine Tree.T_run _ (T_neI (fun _ => T_ex (ref22_Sees_t op a d hl hc) (fun r hr => T_ret hr)) (fun _ => T_lt (fun _ => T_ret (by simp)) (fun h1 => T_le (fun _ => T_ret (by simp)) (fun h2 => T_un (p := fun o => match o with | .inl _ => True | .inr r => r.2.1.length ≤ 64) ?_ (fun _ => T_ex (ref22_Take_t d _ _) (fun r hr => T_ret hr)) (fun r hr => T_ret hr)))))
  refine loopT (tr := ref29_single_T6 d (AX a).length a.1 a.2.1 a.2.2.1 a.2.2.2.1 a.2.2.2.2.1 a.2.2.2.2.2.1 a.2.2.2.2.2.2.1 a.2.2.2.2.2.2.2.1 a.2.2.2.2.2.2.2.2.1 (AX a)) (AX a).length (fun k s => s = (k : Int)) _ (by have := hl; simp only [Sm] at this; omega) rfl ?_
  have hl' : (AX a).length < 100000000000000 := hl
  rintro k s hk rfl
  simp only [ref29_single_T6]
  exact T_lt (fun h3 => T_ob (by omega) (T_lt (fun _ => T_ret (rq_r (by simp))) (fun _ => T_ob (by omega) (T_ob (by omega) (T_le (fun _ => T_ret (rq_r (by simp))) (fun _ => T_ret (rq_l (by omega) (w64_nat (by omega))))))))) (fun _ => T_ret (rq_r trivial))
theorem place_T {R : Type} {Q : R → Prop} {d a : List Int} {lp : Int → Prop} {ok : ∀ y, ref20_Place d a = some y → lp y} {k : Int → Tree R} (h : ∀ y, (k y).T Q) : (Tree.ex ok k).T Q := by
  obtain ⟨y, hy⟩ := ref20_Place_t d a
  exact T_ex1 hy (h y)
theorem ref29_put_t (d : List Int) (a : AttrD) (hl : Sm (AX a)) : ∃ r, ref29_put d a = some r ∧ True := by
  have hl' : (AX a).length < 100000000000000 := hl
  refine Tree.T_run _ (T_ex (ref19_With_q d a.1 a.2.1) (fun r hr => T_neI (fun _ => T_ret trivial) (fun h1 => ?_)))
  obtain ⟨hc, h2, h3, hc', h4, h5⟩ := hr h1
  refine T_ob (by omega) (T_neI (fun _ => T_ret trivial) (fun h6 => T_un (p := fun o => o = .inl () → ∀ i, i < (AX a).length → True) ?_ (fun _ => T_ex1 (ref20_All_v d) (T_ex (p := fun _ => True) ?_ (fun _ _ => T_ret trivial))) (fun _ _ => T_ret trivial)))
  · refine loopT (tr := ref29_put_T7 d r.1 (AX a).length a.1 a.2.1 a.2.2.1 a.2.2.2.1 a.2.2.2.2.1 a.2.2.2.2.2.1 a.2.2.2.2.2.2.1 a.2.2.2.2.2.2.2.1 a.2.2.2.2.2.2.2.2.1 (AX a)) (AX a).length (fun k s => s = (k : Int)) _ (by omega) rfl ?_
    rintro k s hk rfl
    simp only [ref29_put_T7]
    exact T_lt (fun h7 => T_ob (by omega) (T_lt (fun _ => T_ret (rq_r fun _ _ _ => trivial)) (fun _ => T_ob (by omega) (T_le (fun _ => T_ret (rq_r fun _ _ _ => trivial)) (fun _ => T_ret (rq_l (by omega) (w64_nat (by omega)))))))) (fun _ => T_ret (rq_r fun _ _ _ => trivial))
  · have h6' : ((AX a).length : Int) = d.getD a.1.toNat default := h6
    obtain ⟨x, hx⟩ : ∃ n : Nat, a.1 = (n : Int) := ⟨a.1.toNat, by omega⟩
    rw [hx, Int.toNat_natCast] at h6'
    have h8 := alls_len d
    have h9 := chk_len hc
    refine loopT (tr := ref29_put_T15 r.1 (alls d) (alls d).length a.1 a.2.1 a.2.2.1 a.2.2.2.1 a.2.2.2.2.1 a.2.2.2.2.2.1 a.2.2.2.2.2.2.1 a.2.2.2.2.2.2.2.1 a.2.2.2.2.2.2.2.2.1 (AX a)) (alls d).length (fun k s => s.1 = (k : Int) ∧ s.2.2.length = k) _ (by omega) ⟨rfl, rfl⟩ ?_
    rintro k ⟨s, o1, o2⟩ hk ⟨h10, h11⟩
    simp only at h10 h11
    subst h10
    simp only [ref29_put_T15, Int.toNat_natCast, hx]
    refine T_lt (fun h12 => ?_) (fun _ => T_ret (rq_r trivial))
    obtain ⟨h13, h14⟩ := alls_in (show k < (alls d).length by omega)
    have h15 := h14 x (by omega)
    exact T_ob (by omega) (T_ob (by omega) (T_ob (by omega) (T_ob (by omega) (T_ob (by omega) (place_T fun y => T_ob (by omega) (T_ret (rq_l (by omega) ⟨w64_nat (by omega), by simp [h11]⟩)))))))
theorem ref29_join_t (d l : List Int) (x : Int) (hl : Sm d) (hl' : Sm l) : ∃ r, ref29_join d l x = some r ∧ True := by
  have hl1 : d.length < 100000000000000 := hl
  refine Tree.T_run _ (T_lt (fun _ => T_ret trivial) (fun h1 => T_le (fun _ => T_ret trivial) (fun h2 => T_neI (fun _ => T_ret trivial) (fun h3 => T_un (p := fun _ => True) ?_ (fun _ => T_ob (by omega) (T_ob (by omega) (T_ex (ref19_With_q d x _) (fun r hr => T_neI (fun _ => T_ret trivial) (fun h4 => T_ex1 (ref20_All_v r.1) (T_ex (p := fun _ => True) ?_ (fun _ _ => T_ret trivial))))))) (fun _ _ => T_ret trivial)))))
  · refine loopT (tr := ref29_join_T6 d l x d.length) d.length (fun k s => s = (k : Int)) _ (by omega) rfl ?_
    rintro k s hk rfl
    simp only [ref29_join_T6]
    exact T_lt (fun h5 => T_neI (fun _ => T_ob (by omega) (T_ob (by omega) (T_neI (fun _ => T_ret (rq_r trivial)) (fun _ => T_ret (rq_l (by omega) (w64_nat (by omega))))))) (fun _ => T_ret (rq_l (by omega) (w64_nat (by omega))))) (fun _ => T_ret (rq_r trivial))
  · obtain ⟨hc, h5, h6, hc', h7, h8⟩ := hr h4
    have h9 := alls_len r.1
    have h10 := chk_len hc
    refine loopT (tr := ref29_join_T17 d l x (alls r.1) (alls r.1).length) (alls r.1).length (fun k s => s.1 = (k : Int) ∧ s.2.2.1.length = k ∧ s.2.2.2.length = k) _ (by omega) ⟨rfl, rfl, rfl⟩ ?_
    rintro k ⟨s, o1, o2, o3⟩ hk ⟨h11, h12, h13⟩
    simp only at h11 h12 h13
    subst h11
    simp only [ref29_join_T17, Int.toNat_natCast]
    refine T_lt (fun h14 => ?_) (fun _ => T_ret (rq_r trivial))
    have h15 := (alls_in (show k < (alls r.1).length by omega)).1
    exact T_ob (by omega) (T_ob (by omega) (T_ob (by omega) (T_ob (by omega) (T_lt (fun _ => T_ob (by omega) (place_T fun y => T_ob (by omega) (T_ret (rq_l (by omega) ⟨w64_nat (by omega), by simp [h12], by simp [h13]⟩)))) (fun _ => T_ob (by omega) (T_ob (by omega) (T_ob (by omega) (T_ob (by omega) (place_T fun y => T_ob (by omega) (T_ret (rq_l (by omega) ⟨w64_nat (by omega), by simp [h12], by simp [h13]⟩)))))))))))
theorem ref29_Of_t (op : Int) (a : AttrD) (ds : List (List Int)) (hl : Sm (AX a)) (hd : Sm ds) : ∃ r, ref29_Of op a ds = some r ∧ True := by
  have hd' : ds.length < 100000000000000 := hd
  have loop : ∃ o, ref29_Of_L6 op ds ds.length a.1 a.2.1 a.2.2.1 a.2.2.2.1 a.2.2.2.2.1 a.2.2.2.2.2.1 a.2.2.2.2.2.2.1 a.2.2.2.2.2.2.2.1 a.2.2.2.2.2.2.2.2.1 (AX a) 0 = some o ∧ (o = .inl () → ∀ i, i < ds.length → chk (ds.getD i default) = 0) := by
    refine loopT (tr := ref29_Of_T6 op ds ds.length a.1 a.2.1 a.2.2.1 a.2.2.2.1 a.2.2.2.2.1 a.2.2.2.2.2.1 a.2.2.2.2.2.2.1 a.2.2.2.2.2.2.2.1 a.2.2.2.2.2.2.2.2.1 (AX a)) ds.length (fun k s => s = (k : Int) ∧ ∀ i, i < k → chk (ds.getD i default) = 0) _ (by omega) ⟨rfl, fun i hi => by omega⟩ ?_
    rintro k s hk ⟨rfl, h1⟩
    simp only [ref29_Of_T6, Int.toNat_natCast]
    refine T_lt (fun h2 => T_ob (by omega) (T_ex1 (ref19_Check_v _) (T_neI (fun _ => T_ret (rq_r fun h => by cases h)) (fun h3 => T_ret (rq_l (by omega) ⟨w64_nat (by omega), fun i hi => ?_⟩))))) (fun h2 => T_ret (rq_r fun _ i hi => h1 i (by omega)))
    by_cases hik : i = k
    · rw [hik]
      exact h3
    · exact h1 i (by omega)
  refine Tree.T_run _ ?_
  unfold ref29_Of_T
  refine T_lt (fun _ => T_ret trivial) (fun _ => T_lt (fun _ => T_ret trivial) (fun _ => T_eqI (fun h1 => T_neI (fun _ => T_ret trivial) (fun h2 => T_neI (fun h => absurd h1 h) (fun _ => T_un loop (fun hz => ?_) (fun _ _ => T_ret trivial)))) (fun h1 => T_neI (fun _ => T_neI (fun _ => T_ret trivial) (fun h2 => T_un loop (fun hz => ?_) (fun _ _ => T_ret trivial))) (fun h => absurd h h1))))
  all_goals
    have h3 := hz rfl
    refine T_eqI (fun h4 => T_ob (by omega) (T_ex (ref29_put_t _ a hl) (fun _ _ => T_ret trivial))) (fun _ => T_eqI (fun h4 => T_ob (by omega) (T_ob (by omega) (T_ex (ref29_join_t _ _ _ ?_ ?_) (fun _ _ => T_ret trivial)))) (fun h4 => T_ob (by omega) (T_ex (ref29_single_t op a _ hl (h3 0 (by omega))) (fun r hr => T_neI (fun _ => T_ret trivial) (fun _ => T_ex (p := fun _ => True) ?_ (fun _ _ => T_ret trivial))))))
    · have := chk_len (h3 0 (by omega))
      simp only [Sm]
      show (ds.getD 0 default).length < _
      omega
    · have := chk_len (h3 1 (by omega))
      simp only [Sm]
      show (ds.getD 1 default).length < _
      omega
    · refine loopT (tr := ref29_Of_T21 r.2.1.length) r.2.1.length (fun k s => s.1 = (k : Int) ∧ s.2.2.2.length = k) _ (by omega) ⟨rfl, rfl⟩ ?_
      rintro k ⟨s, o1, o2, o3⟩ hk ⟨h5, h6⟩
      simp only at h5 h6
      subst h5
      exact T_lt (fun h7 => T_ob (by simp only; omega) (T_ret (rq_l (by simp only at h7; omega) ⟨w64_nat (by omega), by simp [h6]⟩))) (fun _ => T_ret (rq_r trivial))
theorem ref28_Dims_t (a b : List Int) : ∃ r, ref28_Dims a b = some r ∧ True := by
  refine Tree.T_run _ (T_ex1 (ref19_Check_v a) (T_ex1 (ref19_Check_v b) (T_neI (fun _ => T_ret trivial) (fun h1 => T_neI (fun _ => T_ret trivial) (fun h2 => T_lt (fun _ => T_ret trivial) (fun h3 => T_lt (fun _ => T_ret trivial) (fun h4 => ?_)))))))
  have h5 := chk_len h1
  have h6 := chk_len h2
  have e1 : w64 ((a.length : Int) - 1) = ((a.length - 1 : Nat) : Int) := by rw [w64_id (by omega) (by omega)]; omega
  have e2 : w64 ((a.length : Int) - 2) = ((a.length - 2 : Nat) : Int) := by rw [w64_id (by omega) (by omega)]; omega
  have e3 : w64 ((b.length : Int) - 1) = ((b.length - 1 : Nat) : Int) := by rw [w64_id (by omega) (by omega)]; omega
  have e4 : w64 ((b.length : Int) - 2) = ((b.length - 2 : Nat) : Int) := by rw [w64_id (by omega) (by omega)]; omega
  refine T_ob (by rw [e1]; omega) (T_ob (by rw [e4]; omega) (T_neI (fun _ => T_ret trivial) (fun _ => T_ob (by rw [e2]; omega) (T_ob (by rw [e4]; omega) (T_ex (ref21_Two_q _ _) (fun r hr => T_neI (fun _ => T_ret trivial) (fun h7 => ?_)))))))
  have h8 := chk_len (hr h7).2.2.1
  exact T_ob (by rw [e2]; omega) (T_ob (by rw [e3]; omega) (T_ob (by omega) (T_ob (by omega) (T_ex1 (ref19_Check_v _) (T_neI (fun _ => T_ret trivial) (fun _ => T_ret trivial))))))
theorem ref21_All_t (ds : List (List Int)) (hd : Sm ds) : ∃ r, ref21_All ds = some r ∧ True := by
  have hd' : ds.length < 100000000000000 := hd
  refine Tree.T_run _ (T_lr (p := fun _ => True) ?_ (fun _ _ => T_ret trivial) (fun _ _ => T_ret trivial))
  refine loopT (tr := ref21_All_T3 ds ds.length) ds.length (fun k s => s.2 = (k : Int)) _ (by omega) rfl ?_
  rintro k ⟨d, s⟩ hk rfl
  exact T_lt (fun h1 => T_ob (by simp only at h1 ⊢; omega) (T_ex (ref21_Two_q _ _) (fun r hr => T_neI (fun _ => T_ret (rq_r trivial)) (fun _ => T_ret (rq_l (by simp only at h1; omega) (w64_nat (by omega))))))) (fun _ => T_ret (rq_r trivial))
theorem ref31_Dims_q (op : Int) (a : AttrD) (ds : List (List Int)) (hl : Sm (AX a)) (hd : Sm ds) : ∃ r, ref31_Dims op a ds = some r ∧ (r.2 = 0 → (ds.length : Int) = ar op ∧ (cls op = 2 → ∃ y, ref27_Dims op a (ds.getD 0 default) = some y ∧ y.2 = 0)) := by
  have hd' : ds.length < 100000000000000 := hd
  refine Tree.T_run _ (T_ex1 (ref30_Class_v op) (T_eqI (fun _ => T_ret fun h => by cases h) (fun _ => T_ex1 (ref30_Arity_v op) (T_neI (fun _ => T_ret fun h => by cases h) (fun h1 => T_un (p := fun o => ∀ r, o = .inr r → r.2 ≠ 0) ?_ (fun _ => T_ex (ref31_Attr_t op a) (fun y _ => T_brB (fun _ => T_ret fun h => by cases h) (fun _ => ?_))) (fun r hr => T_ret fun h => absurd h (hr r rfl)))))))
  · refine loopT (tr := ref31_Dims_T6 op ds ds.length a.1 a.2.1 a.2.2.1 a.2.2.2.1 a.2.2.2.2.1 a.2.2.2.2.2.1 a.2.2.2.2.2.2.1 a.2.2.2.2.2.2.2.1 a.2.2.2.2.2.2.2.2.1 (AX a)) ds.length (fun k s => s = (k : Int)) _ (by omega) rfl ?_
    rintro k s hk rfl
    simp only [ref31_Dims_T6]
    exact T_lt (fun h2 => T_ob (by omega) (T_ex1 (ref19_Check_v _) (T_neI (fun h3 => T_ret (rq_r fun r hr => by cases hr; exact h3)) (fun _ => T_ret (rq_l (by omega) (w64_nat (by omega))))))) (fun _ => T_ret (rq_r fun r hr => by cases hr))
  · have ha := ar_spec op
    have h1' : (ds.length : Int) = ar op := h1
    have c2 : cls op = 2 → 27 ≤ op ∧ op ≤ 31 := by
      unfold cls
      repeat' split
      all_goals omega
    have c3 : cls op = 3 → op = 32 := by
      unfold cls
      repeat' split
      all_goals omega
    refine T_ex1 (ref30_Class_v op) (T_eqI (fun h2 => T_ex (ref21_All_t ds hd) (fun r _ => T_ret fun _ => ⟨h1, fun h3 => by omega⟩)) (fun h2 => T_ex1 (ref30_Class_v op) (T_eqI (fun h3 => ?_) (fun h3 => T_ex1 (ref30_Class_v op) (T_eqI (fun h4 => ?_) (fun h4 => ?_))))))
    · have := c2 h3
      refine T_ob (by omega) ?_
      obtain ⟨r, hr, _⟩ := ref27_Dims_q op a (ds.getD 0 default) hl
      exact T_ex1 hr (T_ret fun h => ⟨h1, fun _ => ⟨r, hr, h⟩⟩)
    · have := c3 h4
      exact T_ob (by omega) (T_ob (by omega) (T_ex (ref28_Dims_t _ _) (fun r _ => T_ret fun _ => ⟨h1, fun h => absurd h h3⟩)))
    · exact T_ex (ref29_Of_t op a ds hl hd) (fun r _ => T_neI (fun h => T_ret fun h' => absurd h' h) (fun _ => T_ret fun _ => ⟨h1, fun h => absurd h h3⟩))
end Go.Proofs.YtnkamghdikbmaaaGreat
