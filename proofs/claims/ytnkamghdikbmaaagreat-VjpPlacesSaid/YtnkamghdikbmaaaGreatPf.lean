/- What the check of a step comes to; fairness comes to something. -/
import Derived.Test.YtnkamghdikbmaaaGreatPe
import Derived.Test.YtnkamghdikbmaaaGreatSMen
namespace Go.Proofs.YtnkamghdikbmaaaGreat
open Go Go.SM
set_option maxRecDepth 100000
set_option linter.unusedVariables false

/-! ### Sizes -/
def Svl (x : ValD) : Prop := x.1.2.1.length * 8 ≤ 140737488351232 ∧ x.1.2.2.1.length * 8 ≤ 140737488351232
def Sar (a : ArgD) : Prop := a.1.length * 8 ≤ 140737488351232 ∧ a.2.1.length * 72 ≤ 140737488351232 ∧ ∀ x ∈ a.2.1, Svl x
theorem svl_of {x : ValD} (h : Sz valT x) : Svl x := by
  obtain ⟨⟨_, ⟨h1, _⟩, ⟨h2, _⟩, _⟩, _⟩ := h
  exact ⟨h1, h2⟩
theorem sar_of {a : ArgD} (h : Sz argT a) : Sar a := by
  obtain ⟨⟨h1, _⟩, ⟨h2, h3⟩, _⟩ := h
  exact ⟨h1, h2, fun x hx => svl_of (h3 x hx)⟩
structure Siz (s : StepD) : Prop where
  axes : (AX s.2.1).length * 8 ≤ 140737488351232
  args : s.2.2.1.length * 48 ≤ 140737488351232
  arg : ∀ a ∈ s.2.2.1, Sar a
  out : Sar s.2.2.2.1
  picks : s.2.2.2.2.1.length * 8 ≤ 140737488351232
theorem siz_of {s : StepD} (h : Sz stepT s) : Siz s := by
  obtain ⟨_, ⟨_, _, _, _, _, _, _, _, _, ⟨h1, _⟩, _⟩, ⟨h2, h3⟩, h4, ⟨h5, _⟩, _⟩ := h
  exact ⟨h1, h2, fun a ha => sar_of (h3 a ha), sar_of h4, h5⟩
theorem svl_sm {x : ValD} (h : Svl x) : Sm x.1.2.1 ∧ Sm x.1.2.2.1 := by
  obtain ⟨h1, h2⟩ := h
  simp only [Sm]
  omega

/-! ### Values -/
theorem ref07_Same_v (x y : RatD) (h : Sm x.2.1) (h' : Sm x.2.2.1) : ref07_Same x y = some (x.1 == y.1 && decide (x.2.1 = y.2.1) && decide (x.2.2.1 = y.2.2.1)) := by
  refine T_eq (T_br (fun h1 => T_ex1 (ref07_Words_v _ _ h) (T_br (fun h2 => T_ex1 (ref07_Words_v _ _ h') (T_ret ?_)) (fun h2 => T_ret ?_))) (fun h1 => T_ret ?_))
  · rw [h1, h2]
    simp
  · rw [h1, h2]
    simp
  · rw [h1]
    simp
theorem ref07_Same_self (x : RatD) (h : Sm x.2.1) (h' : Sm x.2.2.1) : ref07_Same x x = some true := by
  rw [ref07_Same_v x x h h']
  simp
theorem ref18_Same_self (x : ValD) (h : Svl x) : ref18_Same x x = some true :=
  T_eq (T_brP (fun _ => T_brP (fun _ => T_ex1 (ref07_Same_self x.1 (svl_sm h).1 (svl_sm h).2) (T_ret rfl)) (fun h1 => absurd rfl h1)) (fun h1 => absurd rfl h1))
theorem ref18_All_self (l : List ValD) (hl : Sm l) (h : ∀ i, i < l.length → Svl (l.getD i default)) : ref18_All l l = some true := by
  have hl' : l.length < 100000000000000 := hl
  refine T_eq (T_brN (fun h1 => absurd rfl h1) (fun _ => T_un (p := fun o => o = .inl ()) ?_ (fun _ => T_ret rfl) (fun y hy => by cases hy)))
  refine loopT (tr := ref18_All_T4 l l l.length) l.length (fun k s => s = (k : Int)) _ (by omega) rfl ?_
  rintro k s hk rfl
  simp only [ref18_All_T4, Int.toNat_natCast]
  exact T_lt (fun h1 => T_ob (by omega) (T_ob (by omega) (T_ex1 (ref18_Same_self _ (h k (by omega))) (T_brB (fun h2 => by cases h2) (fun _ => T_ret (rq_l (by omega) (w64_nat (by omega)))))))) (fun _ => T_ret (rq_r rfl))
theorem bank_Copy_v (x : ValD) (h : Svl x) : bank_Copy x = some x := by
  obtain ⟨h1, h2⟩ := h
  exact T_eq (T_ex1 (y := x.1) (T_eq (T_ob (by omega) (T_ob (by omega) (T_ret rfl)))) (T_ret rfl))

/-! ### Fairness -/
theorem ref09_Clean_t (b : UInt64) : ∃ y, ref09_Clean b = some y ∧ True := by
  have k : ∃ y, ref09_Kind b = some y ∧ True := by
    refine Tree.T_run _ ?_
    unfold ref09_Kind_T
    repeat' first | exact T_ret trivial | refine T_brP (fun h => ?_) (fun h => ?_) | refine T_ex1 (show ref09_Field b = some _ from rfl) ?_ | refine T_ex1 (show ref09_Rest b = some _ from rfl) ?_
  refine Tree.T_run _ (T_ex k (fun y _ => T_brP (fun _ => T_ex1 (show ref09_Nan = some _ from rfl) (T_ret trivial)) (fun _ => T_ret trivial)))
theorem ref18_Right_t (x : ValD) (h : Svl x) : ∃ y, ref18_Right 1 x = some y ∧ True := by
  refine Tree.T_run _ (T_ex1 (ref07_Same_v _ _ (svl_sm h).1 (svl_sm h).2) (T_eqI (fun h => by omega) (fun _ => T_eqI (fun _ => T_br (fun _ => T_brP (fun _ => T_ex (ref09_Clean_t _) (fun _ _ => T_ret trivial)) (fun _ => T_ret trivial)) (fun _ => T_ret trivial)) (fun h => absurd rfl h))))
theorem ref18_Vals_t (l : List ValD) (hl : Sm l) (h : ∀ x ∈ l, Svl x) : ∃ y, ref18_Vals 1 l = some y ∧ True := by
  have hl' : l.length < 100000000000000 := hl
  refine Tree.T_run _ (T_un (p := fun _ => True) ?_ (fun _ => T_ret trivial) (fun _ _ => T_ret trivial))
  refine loopT (tr := ref18_Vals_T2 1 l l.length) l.length (fun k s => s = (k : Int)) _ (by omega) rfl ?_
  rintro k s hk rfl
  simp only [ref18_Vals_T2, Int.toNat_natCast]
  exact T_lt (fun h1 => T_ob (by omega) (T_ex (ref18_Right_t _ (h _ (getD_mem (by omega)))) (fun y _ => T_brB (fun _ => T_ret (rq_r trivial)) (fun _ => T_ret (rq_l (by omega) (w64_nat (by omega))))))) (fun _ => T_ret (rq_r trivial))
theorem plain_Wide_t (l : List ValD) (n : Int) (hl : Sm l) : ∃ y, plain_Wide l n = some y ∧ True := by
  have hl' : l.length < 100000000000000 := hl
  refine Tree.T_run _ (T_un (p := fun _ => True) ?_ (fun _ => T_ret trivial) (fun _ _ => T_ret trivial))
  refine loopT (tr := plain_Wide_T2 l n l.length) l.length (fun k s => s = (k : Int)) _ (by omega) rfl ?_
  rintro k s hk rfl
  have lg : ∀ x m, ∃ y, plain_Long x m = some y ∧ True := fun x m => Tree.T_run _ (T_lt (fun _ => T_ret trivial) (fun _ => T_ret trivial))
  exact T_lt (fun h1 => T_ob (by omega) (T_ex (lg _ _) (fun y _ => T_br (fun _ => T_ret (rq_r trivial)) (fun _ => T_ret (rq_l (by omega) (w64_nat (by omega))))))) (fun _ => T_ret (rq_r trivial))
theorem plain_Args_t (l : List ArgD) (hl : Sm l) (h : ∀ a ∈ l, Sar a) : ∃ y, plain_Args l = some y ∧ True := by
  have hl' : l.length < 100000000000000 := hl
  refine Tree.T_run _ (T_un (p := fun _ => True) ?_ (fun _ => T_ret trivial) (fun _ _ => T_ret trivial))
  refine loopT (tr := plain_Args_T2 l l.length) l.length (fun k s => s = (k : Int)) _ (by omega) rfl ?_
  rintro k s hk rfl
  simp only [plain_Args_T2, Int.toNat_natCast]
  refine T_lt (fun h1 => ?_) (fun _ => T_ret (rq_r trivial))
  have h2 := (h _ (getD_mem (show k < l.length by omega))).2.1
  exact T_ob (by omega) (T_lt (fun _ => T_ret (rq_r trivial)) (fun _ => T_ob (by omega) (T_lt (fun _ => T_ret (rq_r trivial)) (fun _ => T_ob (by omega) (T_ex (plain_Wide_t _ _ (by simp only [Sm]; omega)) (fun y _ => T_br (fun _ => T_ret (rq_r trivial)) (fun _ => T_ret (rq_l (by omega) (w64_nat (by omega))))))))))
theorem law26_Right_t (l : List ArgD) (hl : Sm l) (h : ∀ a ∈ l, Sar a) : ∃ y, law26_Right 1 l = some y ∧ True := by
  have hl' : l.length < 100000000000000 := hl
  refine Tree.T_run _ (T_neI (fun _ => T_neI (fun _ => T_ret trivial) (fun _ => T_ex (plain_Args_t l hl h) (fun y _ => T_br (fun _ => T_ret trivial) (fun _ => T_un (p := fun _ => True) ?_ (fun _ => T_ret trivial) (fun _ _ => T_ret trivial))))) (fun h => by omega))
  refine loopT (tr := law26_Right_T4 1 l l.length) l.length (fun k s => s = (k : Int)) _ (by omega) rfl ?_
  rintro k s hk rfl
  simp only [law26_Right_T4, Int.toNat_natCast]
  refine T_lt (fun h1 => ?_) (fun _ => T_ret (rq_r trivial))
  obtain ⟨_, h2, h3⟩ := h _ (getD_mem (show k < l.length by omega))
  exact T_ob (by omega) (T_ex (ref18_Vals_t _ (by simp only [Sm]; omega) h3) (fun y _ => T_brB (fun _ => T_ret (rq_r trivial)) (fun _ => T_ret (rq_l (by omega) (w64_nat (by omega))))))
def dms (l : List ArgD) : List (List Int) := l.map fun a => a.1
theorem length_dms (l : List ArgD) : (dms l).length = l.length := by simp [dms]
theorem dms_getD {l : List ArgD} {i : Nat} (h : i < l.length) : (dms l).getD i default = (l.getD i default).1 := by
  unfold dms
  exact getD_map h
theorem ref32_Dims_v (l : List ArgD) (hl : l.length * 24 ≤ 140737488351232) : ref32_Dims l = some (dms l) := by
  refine T_eq (T_ex (p := fun o => o = dms l) ?_ (fun y hy => T_ret hy))
  refine loopT (tr := ref32_Dims_T3 l l.length) l.length (fun k s => s.1 = (k : Int) ∧ s.2 = dms (l.take k)) _ (by omega) ⟨rfl, rfl⟩ ?_
  rintro k ⟨s, o⟩ hk ⟨h1, h2⟩
  simp only at h1 h2
  subst h1 h2
  simp only [ref32_Dims_T3, Int.toNat_natCast, length_dms, List.length_take]
  refine T_lt (fun h3 => T_ob (by omega) (T_ob (by omega) (T_ret (rq_l (by omega) ⟨w64_nat (by omega), ?_⟩)))) (fun h3 => T_ret (rq_r ?_))
  · rw [List.take_succ_eq_append_getElem (show k < l.length by omega), getD_el (show k < l.length by omega)]
    simp only [dms, List.map_append, List.map_cons, List.map_nil]
  · rw [show k = l.length by omega, List.take_length]
theorem vjp_Step_Dims_v (s : StepD) (hs : Siz s) : vjp_Step_Dims s = some (dms s.2.2.1) := by
  have hl := hs.args
  refine T_eq (T_ex (p := fun o => o = dms s.2.2.1) ?_ (fun y hy => T_ret hy))
  refine loopT (tr := vjp_Step_Dims_T3 s.2.2.1 s.2.2.1.length) s.2.2.1.length (fun k t => t.1 = (k : Int) ∧ t.2 = dms (s.2.2.1.take k)) _ (by omega) ⟨rfl, rfl⟩ ?_
  rintro k ⟨t, o⟩ hk ⟨h1, h2⟩
  simp only at h1 h2
  subst h1 h2
  simp only [vjp_Step_Dims_T3, Int.toNat_natCast, length_dms, List.length_take]
  refine T_lt (fun h3 => ?_) (fun h3 => T_ret (rq_r ?_))
  · have := (hs.arg _ (getD_mem (show k < s.2.2.1.length by omega))).1
    refine T_ob (by omega) (T_ob (by omega) (T_ob (by omega) (T_ret (rq_l (by omega) ⟨w64_nat (by omega), ?_⟩))))
    rw [List.take_succ_eq_append_getElem (show k < s.2.2.1.length by omega), getD_el (show k < s.2.2.1.length by omega)]
    simp only [dms, List.map_append, List.map_cons, List.map_nil]
  · rw [show k = s.2.2.1.length by omega, List.take_length]
theorem law31_Many_t (a : AttrD) (ds : List (List Int)) (hd : Sm ds) : ∃ y, law31_Many a ds = some y ∧ True := by
  have hd' : ds.length < 100000000000000 := hd
  refine Tree.T_run _ (T_un (p := fun _ => True) ?_ (fun _ => T_lt (fun _ => T_ret trivial) (fun _ => T_ret trivial)) (fun _ _ => T_ret trivial))
  refine loopT (tr := law31_Many_T2 ds ds.length a.1 a.2.1 a.2.2.1 a.2.2.2.1 a.2.2.2.2.1 a.2.2.2.2.2.1 a.2.2.2.2.2.2.1 a.2.2.2.2.2.2.2.1 a.2.2.2.2.2.2.2.2.1 (AX a)) ds.length (fun k s => s = (k : Int)) _ (by omega) rfl ?_
  rintro k s hk rfl
  exact T_lt (fun h1 => T_ob (by omega) (T_lt (fun _ => T_ret (rq_r trivial)) (fun _ => T_ret (rq_l (by omega) (w64_nat (by omega)))))) (fun _ => T_ret (rq_r trivial))
theorem law33_Fair_t (s : StepD) (hs : Siz s) : ∃ y, law33_Fair 1 s [] = some y ∧ True := by
  have h1 := hs.args
  have h2 : ∀ a ∈ (s.2.2.1 ++ ((s.2.2.2.1.1, (s.2.2.2.1.2.1, ())) :: (([], ([], ())) :: []))), Sar a := by
    intro a ha
    rcases List.mem_append.1 ha with ha | ha
    · exact hs.arg a ha
    · rcases List.mem_cons.1 ha with rfl | ha
      · exact hs.out
      · rcases List.mem_cons.1 ha with rfl | ha
        · exact ⟨by simp, by simp, fun x hx => by cases hx⟩
        · cases ha
  refine Tree.T_run _ (T_ob (by omega) (T_ob (by omega) (T_ex (law26_Right_t _ (by simp [Sm]; omega) h2) (fun y _ => T_br (fun _ => T_ex1 (ref32_Dims_v _ (by simp; omega)) (T_ex (law31_Many_t _ _ (by simp [Sm, length_dms]; omega)) (fun y _ => T_brB (fun _ => T_ret trivial) (fun _ => T_ret trivial)))) (fun _ => T_ret trivial)))))

/-! ### The check of a step -/
theorem ref19_Same_w (a b : List Int) (h : Sm b) : ref19_Same a b = some (decide (a = b)) := by
  by_cases hl : a.length = b.length
  · exact ref19_Same_v a b (by rw [hl]; exact h)
  · exact T_eq (T_brN (fun h1 => T_ret (decide_eq_false fun e => hl (by rw [e])).symm) (fun h1 => absurd h1 (by omega)))
def Chk (s : StepD) : Prop := (s.2.2.1.length : Int) = ar s.1 ∧ (∀ i, i < s.2.2.1.length → nd s.1 s.2.1.1 i = true → ((s.2.2.1.getD i default).2.1.length : Int) = cnt (s.2.2.1.getD i default).1) ∧
  (nd s.1 s.2.1.1 s.2.2.1.length = true → (s.2.2.2.1.2.1.length : Int) = cnt s.2.2.2.1.1) ∧ (pk s.1 = true → (s.2.2.2.2.1.length : Int) = cnt s.2.2.2.1.1)
theorem bF {b : Bool} {p : Prop} (h : b = false) (h' : b = true) : p := by
  rw [h] at h'
  cases h'
theorem one_ne {p : Prop} : (1 : Int) = 0 → p := fun h => by cases h
theorem ref33_Check_q (s : StepD) (hs : Siz s) : ∃ y, ref33_Check s = some y ∧ (y = 0 → Chk s) := by
  have hax := hs.axes
  have har := hs.args
  have hpk := hs.picks
  have hod := hs.out.1
  refine Tree.T_run _ (T_ex1 (ref32_Dims_v _ (by omega)) (T_ex (ref31_Dims_q s.1 s.2.1 (dms s.2.2.1) (by simp only [Sm]; omega) (by simp only [Sm, length_dms]; omega)) (fun r hr => T_neI (fun h1 => T_ret fun h => absurd h h1) (fun h1 => T_ex1 (ref19_Same_w _ _ (by simp only [Sm]; omega)) (T_brB (fun _ => T_ret fun h => by cases h) (fun h2 => T_un (p := fun o => (o = .inl () ∧ ∀ i, i < s.2.2.1.length → nd s.1 s.2.1.1 i = true → ((s.2.2.1.getD i default).2.1.length : Int) = cnt (s.2.2.1.getD i default).1) ∨ o = .inr 1) ?_ (fun h3 => ?_) (fun y hy => T_ret fun h => ?_)))))))
  · refine loopT (tr := ref33_Check_T7 r.1 s.2.2.1.length s.1 s.2.1.1 s.2.1.2.1 s.2.1.2.2.1 s.2.1.2.2.2.1 s.2.1.2.2.2.2.1 s.2.1.2.2.2.2.2.1 s.2.1.2.2.2.2.2.2.1 s.2.1.2.2.2.2.2.2.2.1 s.2.1.2.2.2.2.2.2.2.2.1 (AX s.2.1) s.2.2.1 s.2.2.2.1.1 s.2.2.2.1.2.1 s.2.2.2.2.1) s.2.2.1.length (fun k t => t = (k : Int) ∧ ∀ i, i < k → nd s.1 s.2.1.1 i = true → ((s.2.2.1.getD i default).2.1.length : Int) = cnt (s.2.2.1.getD i default).1) _ (by omega) ⟨rfl, fun i hi => by omega⟩ ?_
    rintro k t hk ⟨rfl, h3⟩
    simp only [ref33_Check_T7, Int.toNat_natCast]
    refine T_lt (fun h4 => T_ex1 (ref30_Needs_v _ _ _) (T_br (fun h5 => T_ob (by omega) (T_ex1 (ref32_Whole_v _) (T_brB (fun _ => T_ret (rq_r (.inr rfl))) (fun h6 => T_ret (rq_l (by omega) ⟨w64_nat (by omega), fun i hi hn => ?_⟩))))) (fun h5 => T_ret (rq_l (by omega) ⟨w64_nat (by omega), fun i hi hn => ?_⟩)))) (fun h4 => T_ret (rq_r (.inl ⟨rfl, fun i hi => h3 i (by omega)⟩)))
    · by_cases hik : i = k
      · rw [hik]
        exact of_decide_eq_true h6
      · exact h3 i (by omega) hn
    · by_cases hik : i = k
      · rw [hik, h5] at hn
        cases hn
      · exact h3 i (by omega) hn
  · rcases h3 with ⟨_, h3⟩ | h3
    · obtain ⟨h4, h5⟩ := hr h1
      rw [length_dms] at h4
      have e : r.1 = s.2.2.2.1.1 := of_decide_eq_true h2
      have c2 : cls s.1 = 2 → 27 ≤ s.1 ∧ s.1 ≤ 31 := by
        unfold cls
        repeat' split
        all_goals omega
      have ha := ar_spec s.1
      have L20 : ∀ m, ∃ o, ref33_Check_L20 r.1 m s.2.2.2.2.1.length s.1 s.2.1.1 s.2.1.2.1 s.2.1.2.2.1 s.2.1.2.2.2.1 s.2.1.2.2.2.2.1 s.2.1.2.2.2.2.2.1 s.2.1.2.2.2.2.2.2.1 s.2.1.2.2.2.2.2.2.2.1 s.2.1.2.2.2.2.2.2.2.2.1 (AX s.2.1) s.2.2.1 s.2.2.2.1.1 s.2.2.2.1.2.1 s.2.2.2.2.1 0 = some o ∧ (o = .inl () ∨ o = .inr 1) := by
        intro m
        refine loopT (tr := ref33_Check_T20 r.1 m s.2.2.2.2.1.length s.1 s.2.1.1 s.2.1.2.1 s.2.1.2.2.1 s.2.1.2.2.2.1 s.2.1.2.2.2.2.1 s.2.1.2.2.2.2.2.1 s.2.1.2.2.2.2.2.2.1 s.2.1.2.2.2.2.2.2.2.1 s.2.1.2.2.2.2.2.2.2.2.1 (AX s.2.1) s.2.2.1 s.2.2.2.1.1 s.2.2.2.1.2.1 s.2.2.2.2.1) s.2.2.2.2.1.length (fun k t => t = (k : Int)) _ (by omega) rfl ?_
        rintro k t hk rfl
        simp only [ref33_Check_T20]
        exact T_lt (fun h4 => T_ob (by omega) (T_lt (fun _ => T_ret (rq_r (.inr rfl))) (fun _ => T_ob (by omega) (T_le (fun _ => T_ret (rq_r (.inr rfl))) (fun _ => T_ret (rq_l (by omega) (w64_nat (by omega)))))))) (fun _ => T_ret (rq_r (.inl rfl)))
      have fin : ∀ b : Prop, b → b := fun b h => h
      refine T_ex1 (ref30_Needs_v _ _ _) (T_br (fun h6 => T_ex1 (ref32_Whole_v _) (T_brB (fun _ => T_ret one_ne) (fun h7 => T_ex1 (ref30_Picks_v _) (T_brB (fun h8 => T_ret fun _ => ⟨h4, h3, fun _ => of_decide_eq_true h7, bF h8⟩) (fun h8 => T_ex1 (ref30_Choices_v _) (T_ex1 (ref30_Class_v _) (T_eqI (fun h9 => ?_) (fun h9 => ?_)))))))) (fun h6 => T_ex1 (ref30_Picks_v _) (T_brB (fun h8 => T_ret fun _ => ⟨h4, h3, bF h6, bF h8⟩) (fun h8 => T_ex1 (ref30_Choices_v _) (T_ex1 (ref30_Class_v _) (T_eqI (fun h9 => ?_) (fun h9 => ?_)))))))
      · have := c2 h9
        obtain ⟨g, hg, hg'⟩ := h5 h9
        rw [dms_getD (by omega)] at hg
        refine T_ob (by omega) (T_ex (ref27_Groups_q s.1 s.2.1 (s.2.2.1.getD 0 default).1 (by simp only [Sm]; omega)) (fun y hy => ?_))
        have h10 := hy g hg hg'
        refine T_ob (by omega) (T_un (L20 _) (fun _ => T_ex1 (ref19_Count_v _) (T_neI (fun _ => T_ret one_ne) (fun h11 => T_ret fun _ => ⟨h4, h3, fun _ => of_decide_eq_true h7, fun _ => ?_⟩))) (fun y hy => T_ret fun h => ?_))
        · rw [← e]
          exact h11
        · rcases hy with hy | hy
          · cases hy
          · cases hy
            cases h
      · refine T_un (L20 _) (fun _ => T_ex1 (ref19_Count_v _) (T_neI (fun _ => T_ret one_ne) (fun h11 => T_ret fun _ => ⟨h4, h3, fun _ => of_decide_eq_true h7, fun _ => ?_⟩))) (fun y hy => T_ret fun h => ?_)
        · rw [← e]
          exact h11
        · rcases hy with hy | hy
          · cases hy
          · cases hy
            cases h
      · have := c2 h9
        obtain ⟨g, hg, hg'⟩ := h5 h9
        rw [dms_getD (by omega)] at hg
        refine T_ob (by omega) (T_ex (ref27_Groups_q s.1 s.2.1 (s.2.2.1.getD 0 default).1 (by simp only [Sm]; omega)) (fun y hy => ?_))
        have h10 := hy g hg hg'
        refine T_ob (by omega) (T_un (L20 _) (fun _ => T_ex1 (ref19_Count_v _) (T_neI (fun _ => T_ret one_ne) (fun h11 => T_ret fun _ => ⟨h4, h3, bF h6, fun _ => ?_⟩))) (fun y hy => T_ret fun h => ?_))
        · rw [← e]
          exact h11
        · rcases hy with hy | hy
          · cases hy
          · cases hy
            cases h
      · refine T_un (L20 _) (fun _ => T_ex1 (ref19_Count_v _) (T_neI (fun _ => T_ret one_ne) (fun h11 => T_ret fun _ => ⟨h4, h3, bF h6, fun _ => ?_⟩))) (fun y hy => T_ret fun h => ?_)
        · rw [← e]
          exact h11
        · rcases hy with hy | hy
          · cases hy
          · cases hy
            cases h
    · cases h3
  · rcases hy with ⟨hy, _⟩ | hy
    · cases hy
    · cases hy
      cases h
end Go.Proofs.YtnkamghdikbmaaaGreat
