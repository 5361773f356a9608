/- The small functions of primitives come to the same on both sides; the functions of dims come to something. -/
import Derived.Test.YtnkamghdikbmaaaGreatPc
namespace Go.Proofs.YtnkamghdikbmaaaGreat
open Go Go.SM
set_option maxRecDepth 100000
set_option linter.unusedVariables false

/-! ### Of primitives -/
def cls (op : Int) : Int := if op < 1 then 0 else if 40 < op then 0 else if op ≤ 26 then 1 else if op ≤ 31 then 2 else if op = 32 then 3 else if op ≤ 37 then 4 else 5
theorem ref30_Class_v (op : Int) : ref30_Class op = some (cls op) := by
  refine T_eq (T_brP (fun h => T_ret ?_) (fun h => T_brP (fun h => T_ret ?_) (fun h => T_brP (fun h => T_ret ?_) (fun h => T_brP (fun h => T_ret ?_) (fun h => T_brP (fun h => T_ret ?_) (fun h => T_brP (fun h => T_ret ?_) (fun h => T_ret ?_)))))))
  all_goals (unfold cls; simp [*])
def ar (op : Int) : Int := if op < 1 then 0 else if 40 < op then 0 else if (17 ≤ op ∧ op ≤ 23) ∨ op = 32 ∨ op = 40 then 2 else if 24 ≤ op ∧ op ≤ 26 then 3 else 1
theorem ar_spec (op : Int) : (ar op = 0 ∧ (op < 1 ∨ 40 < op)) ∨ (ar op = 2 ∧ 1 ≤ op ∧ op ≤ 40 ∧ ((17 ≤ op ∧ op ≤ 23) ∨ op = 32 ∨ op = 40)) ∨ (ar op = 3 ∧ 24 ≤ op ∧ op ≤ 26) ∨ (ar op = 1 ∧ 1 ≤ op ∧ op ≤ 40 ∧ ¬ (17 ≤ op ∧ op ≤ 26) ∧ op ≠ 32 ∧ op ≠ 40) := by
  unfold ar
  repeat' split
  all_goals omega
theorem ar_eq {op n : Int} (h : (n = 0 ∧ (op < 1 ∨ 40 < op)) ∨ (n = 2 ∧ 1 ≤ op ∧ op ≤ 40 ∧ ((17 ≤ op ∧ op ≤ 23) ∨ op = 32 ∨ op = 40)) ∨ (n = 3 ∧ 24 ≤ op ∧ op ≤ 26) ∨ (n = 1 ∧ 1 ≤ op ∧ op ≤ 40 ∧ ¬ (17 ≤ op ∧ op ≤ 26) ∧ op ≠ 32 ∧ op ≠ 40)) : n = ar op := by
  have := ar_spec op
  omega
theorem ref30_Arity_v (op : Int) : ref30_Arity op = some (ar op) := by
  refine T_eq ?_
  unfold ref30_Arity_T
  repeat' first | exact T_ret (ar_eq (by omega)) | refine T_brP (fun h => ?_) (fun h => ?_)
theorem prim_Is_v (op : Int) : prim_Is op = some (decide (1 ≤ op ∧ op ≤ 40)) := by
  refine T_eq (T_brP (fun h => T_ret ?_) (fun h => T_ret ?_))
  · exact decide_eq_decide.2 (by omega)
  · exact (decide_eq_false (by omega)).symm
theorem prim_Arity_v (op : Int) : prim_Arity op = some (ar op) := by
  refine T_eq (T_ex1 (prim_Is_v op) ?_)
  refine T_brB (fun h => ?_) (fun h => ?_)
  · have := of_decide_eq_false h
    exact T_ret (ar_eq (by omega))
  · have := of_decide_eq_true h
    repeat' first | exact T_ret (ar_eq (by omega)) | refine T_brP (fun h => ?_) (fun h => ?_)
def ndP (op a i : Int) : Prop := 0 ≤ i ∧ i ≤ ar op ∧ ar op ≠ 0 ∧ ((i = ar op ∧ (op = 2 ∨ (9 ≤ op ∧ op ≤ 11) ∨ op = 7 ∨ op = 20)) ∨ (i ≠ ar op ∧ ((op = 12 ∧ a ≠ 0 ∧ a ≠ 1) ∨ (op = 20 ∧ i = 1) ∨ (op = 25 ∧ i < 2) ∨ op = 3 ∨ op = 8 ∨ op = 19 ∨ op = 26 ∨ op = 32)))
instance (op a i : Int) : Decidable (ndP op a i) := by unfold ndP; infer_instance
def nd (op a i : Int) : Bool := decide (ndP op a i)
theorem nd_t {op a i : Int} (h : ndP op a i) : Bool.true = nd op a i := (decide_eq_true h).symm
theorem nd_f {op a i : Int} (h : ¬ ndP op a i) : Bool.false = nd op a i := (decide_eq_false h).symm
theorem nd_e {op a i x y : Int} [Decidable (x = y)] (h : x = y ↔ ndP op a i) : decide (x = y) = nd op a i := decide_eq_decide.2 h
theorem nd_l {op a i x y : Int} [Decidable (x < y)] (h : x < y ↔ ndP op a i) : decide (x < y) = nd op a i := decide_eq_decide.2 h
theorem nd_n {op a i x y : Int} [Decidable (x = y)] (h : ¬ x = y ↔ ndP op a i) : (!(decide (x = y))) = nd op a i := by
  rw [← decide_not]
  exact decide_eq_decide.2 h
theorem ref30_Needs_v (op a i : Int) : ref30_Needs op a i = some (nd op a i) := by
  have ha := ar_spec op
  refine T_eq (T_lt (fun h => T_ret (nd_f (by unfold ndP; omega))) (fun h => T_ex1 (ref30_Arity_v op) (T_lt (fun h => T_ret (nd_f (by unfold ndP; omega))) (fun h => T_ex1 (ref30_Arity_v op) (T_eqI (fun h => T_ret (nd_f (by unfold ndP; omega))) (fun h => T_ex1 (ref30_Arity_v op) ?_))))))
  repeat' first | exact T_ret (nd_t (by unfold ndP; omega)) | exact T_ret (nd_f (by unfold ndP; omega)) | exact T_ret (nd_e (by unfold ndP; omega)) | exact T_ret (nd_l (by unfold ndP; omega)) | exact T_ret (nd_n (by unfold ndP; omega)) | refine T_lt (fun h => ?_) (fun h => ?_) | refine T_le (fun h => ?_) (fun h => ?_) | refine T_eqI (fun h => ?_) (fun h => ?_) | refine T_neI (fun h => ?_) (fun h => ?_)
theorem prim_Needs_v (op : Int) (a : AttrD) (i : Int) : prim_Needs op a i = some (nd op a.1 i) := by
  have ha := ar_spec op
  refine T_eq (T_ex1 (prim_Arity_v op) ?_)
  repeat' first | exact T_ret (nd_t (by unfold ndP; omega)) | exact T_ret (nd_f (by unfold ndP; omega)) | exact T_ret (nd_e (by unfold ndP; omega)) | exact T_ret (nd_l (by unfold ndP; omega)) | exact T_ret (nd_n (by unfold ndP; omega)) | refine T_lt (fun h => ?_) (fun h => ?_) | refine T_le (fun h => ?_) (fun h => ?_) | refine T_eqI (fun h => ?_) (fun h => ?_) | refine T_neI (fun h => ?_) (fun h => ?_)
def ch (op : Int) : Int := if op = 15 then 3 else if op = 4 ∨ op = 6 ∨ op = 16 ∨ op = 21 ∨ op = 22 ∨ op = 24 then 2 else 0
theorem ch_spec (op : Int) : (ch op = 3 ∧ op = 15) ∨ (ch op = 2 ∧ (op = 4 ∨ op = 6 ∨ op = 16 ∨ op = 21 ∨ op = 22 ∨ op = 24)) ∨ (ch op = 0 ∧ op ≠ 15 ∧ op ≠ 4 ∧ op ≠ 6 ∧ op ≠ 16 ∧ op ≠ 21 ∧ op ≠ 22 ∧ op ≠ 24) := by
  unfold ch
  repeat' split
  all_goals omega
theorem ch_eq {op n : Int} (h : (n = 3 ∧ op = 15) ∨ (n = 2 ∧ (op = 4 ∨ op = 6 ∨ op = 16 ∨ op = 21 ∨ op = 22 ∨ op = 24)) ∨ (n = 0 ∧ op ≠ 15 ∧ op ≠ 4 ∧ op ≠ 6 ∧ op ≠ 16 ∧ op ≠ 21 ∧ op ≠ 22 ∧ op ≠ 24)) : n = ch op := by
  have := ch_spec op
  omega
theorem ref30_Choices_v (op : Int) : ref30_Choices op = some (ch op) := by
  refine T_eq ?_
  unfold ref30_Choices_T
  repeat' first | exact T_ret (ch_eq (by omega)) | refine T_eqI (fun h => ?_) (fun h => ?_)
theorem prim_Choices_v (op : Int) : prim_Choices op = some (ch op) := by
  refine T_eq ?_
  unfold prim_Choices_T
  repeat' first | exact T_ret (ch_eq (by omega)) | refine T_eqI (fun h => ?_) (fun h => ?_)
def pk (op : Int) : Bool := decide (0 < ch op ∨ op = 29 ∨ op = 30)
theorem ref30_Picks_v (op : Int) : ref30_Picks op = some (pk op) := by
  exact T_eq (T_ex1 (ref30_Choices_v op) (T_lt (fun h => T_ret (decide_eq_true (by omega)).symm) (fun h => T_eqI (fun h' => T_ret (decide_eq_true (by omega)).symm) (fun h' => T_ret (decide_eq_decide.2 (by omega))))))
theorem prim_Picks_v (op : Int) : prim_Picks op = some (pk op) := by
  exact T_eq (T_ex1 (prim_Choices_v op) (T_lt (fun h => T_ret (decide_eq_true (by omega)).symm) (fun h => T_eqI (fun h' => T_ret (decide_eq_true (by omega)).symm) (fun h' => T_ret (decide_eq_decide.2 (by omega))))))
theorem ref31_Const_t (p q : Int) : ∃ y, ref31_Const p q = some y ∧ True := by
  refine Tree.T_run _ ?_
  unfold ref31_Const_T
  repeat' first | exact T_ret trivial | refine T_brP (fun h => ?_) (fun h => ?_)
theorem ref31_Attr_t (op : Int) (a : AttrD) : ∃ y, ref31_Attr op a = some y ∧ True := by
  refine Tree.T_run _ ?_
  unfold ref31_Attr_T
  repeat' first | exact T_ret trivial | refine T_brP (fun h => ?_) (fun h => ?_) | refine T_ex (ref31_Const_t _ _) (fun y hy => ?_) | refine T_ex1 (ref30_Class_v op) ?_ | refine T_br (fun h => ?_) (fun h => ?_)

/-! ### Of axes -/
abbrev Sm {α : Type} (l : List α) : Prop := l.length < 100000000000000
theorem cnt_in (d : List Int) : 0 ≤ cnt d ∧ cnt d ≤ 64 := by
  by_cases h : chk d = 0
  · have := cnt_ok h
    omega
  · simp [cnt, h]
theorem ref19_With_q (d : List Int) (x n : Int) : ∃ r, ref19_With d x n = some r ∧ (r.2 = 0 → chk d = 0 ∧ 0 ≤ x ∧ x < d.length ∧ chk r.1 = 0 ∧ r.1.length = d.length ∧ r.1.getD x.toNat default = n) := by
  refine Tree.T_run _ (T_ex1 (ref19_Check_v d) (T_brN (fun h1 => T_ret fun h => absurd h h1) (fun h1 => T_brP (fun _ => T_ret fun h => by cases h) (fun h2 => T_brP (fun _ => T_ret fun h => by cases h) (fun h3 => ?_)))))
  have hl := chk_len h1
  refine T_ex (p := fun o => o.length = d.length ∧ o.getD x.toNat default = n) ?_ (fun y hy => T_ex1 (ref19_Check_v y) (T_brN (fun h4 => T_ret fun h => absurd h h4) (fun h4 => T_ret fun _ => ⟨h1, by omega, by omega, h4, hy.1, hy.2⟩)))
  refine loopT (tr := ref19_With_T8 d x n d.length) d.length (fun k s => s.1 = (k : Int) ∧ s.2.length = k ∧ (x < k → s.2.getD x.toNat default = n)) _ (by omega) ⟨rfl, rfl, fun h => by omega⟩ ?_
  rintro k ⟨s, l⟩ hk ⟨h4, h5, h6⟩
  simp only at h4 h5 h6
  subst h4
  simp only [ref19_With_T8, Int.toNat_natCast]
  refine T_brP (fun h7 => T_brP (fun h8 => T_ob (by omega) (T_ret (rq_l (by omega) ⟨w64_nat (by omega), by simp [h5], fun h9 => ?_⟩))) (fun h8 => T_ob (by omega) (T_ob (by omega) (T_ret (rq_l (by omega) ⟨w64_nat (by omega), by simp [h5], fun h9 => ?_⟩))))) (fun h7 => T_ret (rq_r ⟨by omega, h6 (by omega)⟩))
  · simp only [getD_append]
    rw [if_neg (by omega), show x.toNat - l.length = 0 by omega]
    rfl
  · simp only [getD_append]
    rw [if_pos (by omega)]
    exact h6 (by omega)
theorem ref19_Has_t (l : List Int) (n : Int) (h : Sm l) : ∃ y, ref19_Has l n = some y ∧ True := by
  refine Tree.T_run _ (T_un (p := fun _ => True) ?_ (fun _ => T_ret trivial) (fun _ _ => T_ret trivial))
  refine loopT (tr := ref19_Has_T2 l n l.length) l.length (fun k s => s = (k : Int)) _ (by omega) rfl ?_
  rintro k s hk rfl
  exact T_brP (fun h1 => T_ob (by omega) (T_brP (fun _ => T_ret (rq_r trivial)) (fun _ => T_ret (rq_l (by omega) (w64_nat (by omega)))))) (fun _ => T_ret (rq_r trivial))
theorem ten_ne : (10 : Int) ≠ 0 := by decide
theorem ref19_Axes_q (n : Nat) (l : List Int) (hl : Sm l) : ∃ r, ref19_Axes n l = some r ∧ (r.2 = 0 → r.1.length = n ∧ ∀ i, i < l.length → 0 ≤ l.getD i default ∧ l.getD i default < n) := by
  refine Tree.T_run _ (T_brP (fun _ => T_ret fun h => by cases h) (fun h1 => T_brP (fun _ => T_ret fun h => by cases h) (fun h2 => T_un (p := fun o => match o with
    | .inl _ => ∀ i, i < l.length → 0 ≤ l.getD i default ∧ l.getD i default < n
    | .inr r => r.2 ≠ 0) ?_ (fun h3 => T_ex (p := fun o => o.length = n) ?_ (fun y hy => T_ret fun _ => ⟨hy, h3⟩)) (fun r hr => T_ret fun h => absurd h hr))))
  · refine loopT (tr := ref19_Axes_T4 n l l.length) l.length (fun k s => s = (k : Int) ∧ ∀ i, i < k → 0 ≤ l.getD i default ∧ l.getD i default < n) _ (by omega) ⟨rfl, fun i hi => by omega⟩ ?_
    rintro k s hk ⟨rfl, h3⟩
    simp only [ref19_Axes_T4, Int.toNat_natCast]
    refine T_brP (fun h4 => T_ob (by omega) (T_brP (fun _ => T_ret (rq_r ten_ne)) (fun h5 => T_ob (by omega) (T_brP (fun _ => T_ret (rq_r ten_ne)) (fun h6 => T_ob (by omega) (T_ob (by omega) (T_ex (ref19_Has_t _ _ ?_) (fun y _ => T_br (fun _ => T_ret (rq_r ten_ne)) (fun _ => T_ret (rq_l (by omega) ⟨w64_nat (by omega), fun i hi => ?_⟩)))))))))) (fun h4 => T_ret (rq_r fun i hi => h3 i (by omega)))
    · simp only [Sm, List.length_drop, List.length_take]
      omega
    · by_cases hik : i = k
      · rw [hik]
        omega
      · exact h3 i (by omega)
  · refine loopT (tr := ref19_Axes_T11 l n) n (fun k s => s.1 = (k : Int) ∧ s.2.length = k) _ (by omega) ⟨rfl, rfl⟩ ?_
    rintro k ⟨s, o⟩ hk ⟨h4, h5⟩
    simp only at h4 h5
    subst h4
    exact T_brP (fun h6 => T_brP (fun _ => T_ob (by simp only; omega) (T_ret (rq_l (by omega) ⟨w64_nat (by omega), by simp [h5]⟩))) (fun _ => T_ex (ref19_Has_t _ _ hl) (fun y _ => T_ob (by simp only; omega) (T_ret (rq_l (by omega) ⟨w64_nat (by omega), by simp [h5]⟩))))) (fun h6 => T_ret (rq_r (by simp only at *; omega)))
theorem ref19_Perm_q (d l : List Int) (hl : Sm l) : ∃ r, ref19_Perm d l = some r ∧ (r.2 = 0 → chk d = 0 ∧ l.length = d.length ∧ r.1.length = d.length ∧ ∀ i, i < l.length → 0 ≤ l.getD i default ∧ l.getD i default < d.length) := by
  refine Tree.T_run _ (T_ex1 (ref19_Check_v d) (T_brN (fun h1 => T_ret fun h => absurd h h1) (fun h1 => T_ex (ref19_Axes_q d.length l hl) (fun r hr => T_brN (fun _ => T_ret fun h => by cases h) (fun h2 => T_brN (fun _ => T_ret fun h => by cases h) (fun h3 => ?_))))))
  have h4 := (hr h2).2
  have h5 := chk_len h1
  refine T_ex (p := fun o => o.length = l.length) ?_ (fun y hy => T_ret fun _ => ⟨h1, by omega, by simp only; omega, h4⟩)
  refine loopT (tr := ref19_Perm_T9 d l l.length) l.length (fun k s => s.1 = (k : Int) ∧ s.2.length = k) _ (by omega) ⟨rfl, rfl⟩ ?_
  rintro k ⟨s, o⟩ hk ⟨h6, h7⟩
  simp only at h6 h7
  subst h6
  simp only [ref19_Perm_T9, Int.toNat_natCast]
  exact T_brP (fun h8 => T_ob (by omega) (T_ob (h4 k (by omega)) (T_ob (by omega) (T_ret (rq_l (by omega) ⟨w64_nat (by omega), by simp [h7]⟩))))) (fun h8 => T_ret (rq_r (by omega)))
theorem ref19_Drop_q (d l : List Int) (b : Bool) (hl : Sm l) : ∃ r, ref19_Drop d l b = some r ∧ (r.2 = 0 → chk d = 0 ∧ ∃ y, ref19_Axes d.length l = some y ∧ y.1.length = d.length) := by
  obtain ⟨a, ha, hq⟩ := ref19_Axes_q d.length l hl
  refine Tree.T_run _ (T_ex1 (ref19_Check_v d) (T_brN (fun h1 => T_ret fun h => absurd h h1) (fun h1 => T_ex1 ha (T_brN (fun h2 => T_ret fun h => absurd h h2) (fun h2 => ?_)))))
  have h3 := (hq h2).1
  have h5 := chk_len h1
  refine T_ex (p := fun _ => True) ?_ (fun y hy => T_ret fun _ => ⟨h1, a, ha, h3⟩)
  refine loopT (tr := ref19_Drop_T9 d b a.1 d.length) d.length (fun k s => s.1 = (k : Int) ∧ s.2.length ≤ k) _ (by omega) ⟨rfl, by simp⟩ ?_
  rintro k ⟨s, o⟩ hk ⟨h6, h7⟩
  simp only at h6 h7
  subst h6
  simp only [ref19_Drop_T9, Int.toNat_natCast]
  refine T_brP (fun h8 => T_ob (by omega) (T_brB (fun _ => T_ob (by omega) (T_ob (by omega) (T_ret (rq_l (by omega) ⟨w64_nat (by omega), by simp; omega⟩)))) (fun _ => T_br (fun _ => T_ob (by omega) (T_ret (rq_l (by omega) ⟨w64_nat (by omega), by simp; omega⟩))) (fun _ => T_ret (rq_l (by omega) ⟨w64_nat (by omega), by simp only; omega⟩))))) (fun h8 => T_ret (rq_r trivial))
abbrev AX (a : AttrD) : List Int := a.2.2.2.2.2.2.2.2.2.1
theorem ref27_axes_q (op : Int) (a : AttrD) (hl : Sm (AX a)) : ∃ y, ref27_axes op a = some y ∧ Sm y := by
  refine Tree.T_run _ (T_brP (fun _ => T_ret hl) (fun _ => T_brP (fun _ => T_ret hl) (fun _ => T_ret (by simp [Sm]))))
theorem ref27_Dims_q (op : Int) (a : AttrD) (d : List Int) (hl : Sm (AX a)) : ∃ r, ref27_Dims op a d = some r ∧ (r.2 = 0 → chk d = 0 ∧ ∃ l y, ref27_axes op a = some l ∧ ref19_Axes d.length l = some y ∧ y.1.length = d.length) := by
  obtain ⟨l, h1, h2⟩ := ref27_axes_q op a hl
  refine Tree.T_run _ (T_brP (fun _ => T_ret fun h => by cases h) (fun _ => T_brP (fun _ => T_ret fun h => by cases h) (fun _ => T_ex1 h1 (T_ex (ref19_Drop_q d l _ h2) (fun r hr => T_ret fun h => ?_)))))
  obtain ⟨h3, y, h4, h5⟩ := hr h
  exact ⟨h3, l, y, h1, h4, h5⟩
theorem ref27_alike_t (a b : List Int) (m : List Bool) (h1 : b.length = a.length) (h2 : m.length = a.length) (h3 : Sm a) : ∃ y, ref27_alike a b m = some y ∧ True := by
  refine Tree.T_run _ (T_un (p := fun _ => True) ?_ (fun _ => T_ret trivial) (fun _ _ => T_ret trivial))
  refine loopT (tr := ref27_alike_T2 a b m a.length) a.length (fun k s => s = (k : Int)) _ (by omega) rfl ?_
  rintro k s hk rfl
  exact T_brP (fun h4 => T_ob (by omega) (T_brB (fun _ => T_ob (by omega) (T_ob (by omega) (T_brN (fun _ => T_ret (rq_r trivial)) (fun _ => T_ret (rq_l (by omega) (w64_nat (by omega))))))) (fun _ => T_ret (rq_l (by omega) (w64_nat (by omega)))))) (fun _ => T_ret (rq_r trivial))
theorem ref27_Groups_q (op : Int) (a : AttrD) (d : List Int) (hl : Sm (AX a)) : ∃ y, ref27_Groups op a d = some y ∧ (∀ r, ref27_Dims op a d = some r → r.2 = 0 → 0 < y.length) := by
  obtain ⟨r, hr, hq⟩ := ref27_Dims_q op a d hl
  refine Tree.T_run _ (T_ex1 hr (T_brN (fun h1 => T_ret fun r' h2 h3 => ?_) (fun h1 => ?_)))
  · rw [hr] at h2
    cases h2
    exact absurd h3 h1
  obtain ⟨hc, l, m, h2, h3, h4⟩ := hq h1
  have h6 := alls_len d
  have h7 := chk_len hc
  have h8 : 0 < (alls d).length := by
    rw [alls_ok hc]
    have := (cnt_ok hc).2
    omega
  refine T_ex1 h2 (T_ex1 h3 (T_ex1 (ref20_All_v d) (T_ex (p := fun o => 0 < o.length) ?_ (fun y hy => T_ret fun _ _ _ => hy))))
  refine loopT (tr := ref27_Groups_T8 m.1 (alls d) (alls d).length) (alls d).length (fun k s => s.1 = (k : Int) ∧ s.2.length ≤ k ∧ (0 < k → 0 < s.2.length)) _ (by omega) ⟨rfl, by simp, fun h => by omega⟩ ?_
  rintro k ⟨s, o⟩ hk ⟨h9, h10, h11⟩
  simp only at h9 h10 h11
  subst h9
  refine T_brP (fun h12 => T_ex (p := fun y => y.2.1 = o ∧ (k = 0 → y.1 = true)) ?_ (fun y hy => ?_)) (fun h12 => T_ret (rq_r (h11 (by simp only at h12; omega))))
  · refine loopT (tr := ref27_Groups_T13 m.1 (alls d) k (alls d).length k (alls d).length) (alls d).length (fun j s => s.2.1 = (j : Int) ∧ s.2.2.1 = o ∧ s.2.2.2.length ≤ j ∧ (k = 0 → s.1 = true)) _ (by omega) ⟨rfl, rfl, by simp, fun _ => rfl⟩ ?_
    rintro j ⟨b, i, o1, o2⟩ hj ⟨h13, h14, h15, h16⟩
    simp only at h13 h14 h15 h16 h12
    subst h13 h14
    simp only [ref27_Groups_T13, Int.toNat_natCast]
    refine T_brP (fun h17 => T_ob (by omega) (T_ob (by omega) (T_ex (ref27_alike_t _ _ _ ?_ ?_ ?_) (fun y _ => T_br (fun _ => T_br (fun h18 => T_ob (by omega) (T_ret (rq_l (by omega) ⟨w64_nat (by omega), rfl, by simp; omega, fun h => decide_eq_true (by omega)⟩))) (fun h18 => T_ob (by omega) (T_ret (rq_l (by omega) ⟨w64_nat (by omega), rfl, by simp; omega, fun h => ?_⟩)))) (fun _ => T_ret (rq_l (by omega) ⟨w64_nat (by omega), rfl, by simp only; omega, h16⟩)))))) (fun h17 => T_ret (rq_r ⟨rfl, h16⟩))
    · rw [(alls_in (show j < (alls d).length by omega)).1, (alls_in (show k < (alls d).length by omega)).1]
    · rw [(alls_in (show k < (alls d).length by omega)).1]
      exact h4
    · have := (alls_in (show k < (alls d).length by omega)).1
      simp only [Sm]
      omega
    · have := h16 h
      rw [h18] at this
      cases this
  · obtain ⟨h13, h14⟩ := hy
    simp only at h12
    refine T_br (fun _ => T_ob (by rw [h13]; omega) (T_ret (rq_l (by omega) ⟨w64_nat (by omega), by simp [h13]; omega, fun _ => by simp⟩))) (fun h15 => T_ret (rq_l (by omega) ⟨w64_nat (by omega), by simp only [h13]; omega, fun _ => ?_⟩))
    have : k ≠ 0 := fun h => by
      rw [h14 h] at h15
      cases h15
    simp only [h13]
    exact h11 (by omega)
end Go.Proofs.YtnkamghdikbmaaaGreat
