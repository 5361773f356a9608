/- A view's primitive run on a bank; the law 'ApplyViews' of data: it answers true. -/
import Derived.Test.YtnhebloiappfiaaGreatQf
namespace Go.Proofs.YtnhebloiappfiaaGreat
open Go Go.SM
set_option maxRecDepth 100000
set_option linter.unusedVariables false

section
variable {op : Int} {a : AttrD} {d : List Int} {r : ViewD × Int}
theorem prim_Class_w (h0 : 33 ≤ op) (h1 : op ≤ 37) : prim_Class op = some 4 := by
  refine T_eq (T_ex1 (prim_Is_v op) (T_brB (fun h => absurd h (by simp; omega)) (fun _ => T_lt (fun h => by omega) (fun _ => T_lt (fun h => by omega) (fun _ => T_eqI (fun h => by omega) (fun _ => T_le (fun _ => T_ret rfl) (fun h => absurd h1 h)))))))
theorem infer_Attr_w (h0 : 33 ≤ op) (h1 : op ≤ 37) : infer_Attr op a = some true := by
  refine T_eq (T_eqI (fun h => by omega) (fun _ => T_eqI (fun h => by omega) (fun _ => T_eqI (fun h => by omega) (fun _ => T_eqI (fun h => by omega) (fun _ => T_eqI (fun h => by omega) (fun _ => T_ex1 (prim_Is_v op) (T_ret (decide_eq_true (by omega)))))))))
theorem move_Dims_w (hc : chk d = 0) (h0 : 33 ≤ op) (h1 : op ≤ 37) (h : move_View op a (0, (d, (stp d, ()))) = some r) : move_Dims op a [d] = some (r.1.2.1, r.2) := by
  have e1 : move_Is op = some true := T_eq (T_le (fun _ => T_ret (decide_eq_true (by omega))) (fun h => absurd h0 h))
  refine T_eq (T_ex1 e1 (T_brB (fun h => by cases h) (fun _ => T_neI (fun h => absurd rfl h) (fun _ => T_eqI (fun h => by omega) (fun _ => T_un (p := fun o => o = .inl ()) ?_ (fun _ => T_eqI (fun h => by omega) (fun _ => T_eqI (fun h => by omega) (fun _ => T_eqI (fun h => by omega) (fun _ => T_ob (by simp) (T_ex1 (view_Whole_v d hc) (T_ex1 h (T_ret rfl))))))) (fun y hy => by cases hy))))))
  refine loopT (tr := move_Dims_T6 op [d] [d] (1 : Nat) a.1 a.2.1 a.2.2.1 a.2.2.2.1 a.2.2.2.2.1 a.2.2.2.2.2.1 a.2.2.2.2.2.2.1 a.2.2.2.2.2.2.2.1 a.2.2.2.2.2.2.2.2.1 (AX a)) 1 (fun k s => s = (k : Int)) _ (by omega) rfl ?_
  rintro k s hk rfl
  simp only [move_Dims_T6, Int.toNat_natCast]
  refine T_lt (fun h2 => ?_) (fun _ => T_ret (rq_r rfl))
  have hk0 : k = 0 := by omega
  subst hk0
  exact T_ob (by simp) (T_ex1 (shape_Check_v d) (T_neI (fun h => absurd hc h) (fun _ => T_ret (rq_l (by omega) (w64_nat (by omega))))))
theorem infer_Dims_w (hc : chk d = 0) (h0 : 33 ≤ op) (h1 : op ≤ 37) (h : move_View op a (0, (d, (stp d, ()))) = some r) : infer_Dims op a [d] = some (r.1.2.1, r.2) := by
  have ha := ar_spec op
  refine T_eq (T_ex1 (prim_Is_v op) (T_brB (fun h => absurd h (by simp; omega)) (fun _ => T_ex1 (prim_Arity_v op) (T_neI (fun h => absurd (show (1 : Int) = ar op by omega) h) (fun _ => T_un (p := fun o => o = .inl ()) ?_ (fun _ => T_ex1 (infer_Attr_w h0 h1) (T_brB (fun h => by cases h) (fun _ => T_ex1 (prim_Class_w h0 h1) (T_eqI (fun h => by omega) (fun _ => T_eqI (fun h => by omega) (fun _ => T_eqI (fun h => by omega) (fun _ => T_ex1 (move_Dims_w hc h0 h1 h) (T_ret rfl)))))))) (fun y hy => by cases hy))))))
  refine loopT (tr := infer_Dims_T6 op [d] [d] (1 : Nat) a.1 a.2.1 a.2.2.1 a.2.2.2.1 a.2.2.2.2.1 a.2.2.2.2.2.1 a.2.2.2.2.2.2.1 a.2.2.2.2.2.2.2.1 a.2.2.2.2.2.2.2.2.1 (AX a)) 1 (fun k s => s = (k : Int)) _ (by omega) rfl ?_
  rintro k s hk rfl
  simp only [infer_Dims_T6, Int.toNat_natCast]
  refine T_lt (fun h2 => ?_) (fun _ => T_ret (rq_r rfl))
  have hk0 : k = 0 := by omega
  subst hk0
  exact T_ob (by simp) (T_ex1 (shape_Check_v d) (T_neI (fun h => absurd hc h) (fun _ => T_ret (rq_l (by omega) (w64_nat (by omega))))))
theorem move_From_w {K : List Int → Int} (hc : chk d = 0) (h0 : 33 ≤ op) (h1 : op ≤ 37) (h : move_View op a (0, (d, (stp d, ()))) = some r) (hr : r.2 = 0) (hs : Seen op a d r.1 K) {n : Nat} (hn : n < (alls r.1.2.1).length) : move_From op a [d] n = some (0, (K ((alls r.1.2.1).getD n default), true)) := by
  obtain ⟨h2, h3⟩ := alls_at hn
  have hn' := hn
  rw [alls_ok h2] at hn'
  obtain ⟨q, hq⟩ := hs n hn
  rw [h3] at hq ⊢
  refine T_eq (T_ex1 (move_Dims_w hc h0 h1 h) (T_ex1 (walk_At_r_v r.1.2.1 n h2 (by omega) (by omega)) (T_neI (fun h => absurd hr h) (fun _ => T_brB (fun h => by cases h) (fun _ => T_eqI (fun h => by omega) (fun _ => T_eqI (fun h => by omega) (fun _ => T_eqI (fun h => by omega) (fun _ => T_ob (by simp) (T_ex1 hq (T_ret rfl))))))))))

/-- The elements that come of a view's primitive. -/
def outV (x : ArgD) (v : ViewD) (K : List Int → Int) : List ValD := (List.range (alls v.2.1).length).map fun n => x.2.1.getD (K ((alls v.2.1).getD n default)).toNat default
abbrev BankQ := (Int × Int × List Bool × Int × Int × Bool × Int)
abbrev bq : BankQ := (1, (0, ([], (0, (0, (false, 0))))))
theorem apply_moved_w {x : ArgD} {K : List Int → Int} (hc : chk x.1 = 0) (h0 : 33 ≤ op) (h1 : op ≤ 37) (h : move_View op a (0, (x.1, (stp x.1, ()))) = some r) (hr : r.2 = 0) (hR : Reads x.1 r.1 K) (hs : Seen op a x.1 r.1 K) (hw : (x.2.1.length : Int) = prodL x.1) :
    apply_moved_r op a r.1.2.1 [x] 1 0 [] 0 0 false 0 = some (outV x r.1 K, bq) := by
  have hcd := hR.1
  have h64 := (chk_zero.1 hcd).2.2
  have hc1 := cnt_ok hcd
  have hal := alls_ok hcd
  have hci := cnt_in r.1.2.1
  refine T_eq (T_ex1 (shape_Count_v r.1.2.1) (T_ob (show (0 : Int) ≤ cnt r.1.2.1 ∧ (cnt r.1.2.1 ≤ cnt r.1.2.1 ∧ cnt r.1.2.1 * ((72 : Nat) : Int) ≤ 140737488355328) by omega) (T_ex (p := fun o => o = ((1, (0, ([], (0, (0, (false, 0)))))), (List.replicate (cnt r.1.2.1).toNat ((false, ([], ([], ()))), ((0 : UInt64), ((0 : Int), ()))), [x.1]))) ?_ (fun y hy => ?_))))
  · refine loopT (tr := apply_moved_r_T4 op [x] [x] (1 : Nat) a.1 a.2.1 a.2.2.1 a.2.2.2.1 a.2.2.2.2.1 a.2.2.2.2.2.1 a.2.2.2.2.2.2.1 a.2.2.2.2.2.2.2.1 a.2.2.2.2.2.2.2.2.1 (AX a)) 1 (fun k s => s = ((k : Int), (1, (0, ([], (0, (0, (false, (0, (List.replicate (cnt r.1.2.1).toNat ((false, ([], ([], ()))), ((0 : UInt64), ((0 : Int), ()))), if k = 0 then [] else [x.1]))))))))))  _ (by omega) rfl ?_
    rintro k s hk rfl
    simp only [apply_moved_r_T4, Int.toNat_natCast]
    refine T_lt (fun h2 => ?_) (fun h2 => T_ret (rq_r ?_))
    · have hk0 : k = 0 := by omega
      subst hk0
      exact T_ob (by simp) (T_ob (by simp) (T_ret (rq_l (by omega) (by simp; rfl))))
    · have hk1 : k = 1 := by omega
      subst hk1
      rfl
  · subst hy
    have hN : (cnt r.1.2.1).toNat = (alls r.1.2.1).length := by rw [hc1.1, hal]
    refine T_neI (fun _ => T_ex (p := fun o => o = ((1, (0, ([], (0, (0, (false, 0)))))), outV x r.1 K)) ?_ (fun y hy => T_ret (by rw [hy]))) (fun h => by omega)
    simp only [List.length_replicate, hN]
    refine loopT (tr := apply_moved_r_T10 op [x] [x.1] (alls r.1.2.1).length a.1 a.2.1 a.2.2.1 a.2.2.2.1 a.2.2.2.2.1 a.2.2.2.2.2.1 a.2.2.2.2.2.2.1 a.2.2.2.2.2.2.2.1 a.2.2.2.2.2.2.2.2.1 (AX a)) (alls r.1.2.1).length (fun k s => ∃ l : List ValD, s = ((k : Int), (1, (0, ([], (0, (0, (false, (0, l)))))))) ∧ l.length = (alls r.1.2.1).length ∧ ∀ i, i < k → l.getD i default = x.2.1.getD (K ((alls r.1.2.1).getD i default)).toNat default) _ (by have := alls_len r.1.2.1; omega) ⟨_, rfl, by simp, fun i hi => by omega⟩ ?_
    rintro k s hk ⟨l, rfl, h2, h3⟩
    simp only [apply_moved_r_T10, Int.toNat_natCast]
    refine T_lt (fun h4 => ?_) (fun h4 => T_ret (rq_r ?_))
    · have hk' : k < (alls r.1.2.1).length := by omega
      have hkk := hR.2.2 _ (alls_within hk')
      refine T_ex1 (move_From_w hc h0 h1 h hr hs hk') (T_ob (by simp) (T_ob ?_ (T_ob (by omega) (T_ret (rq_l hk' ⟨_, by rw [w64_nat (by have := alls_len r.1.2.1; omega)], by simpa using h2, fun i hi => ?_⟩)))))
      · show 0 ≤ K _ ∧ K _ < (x.2.1.length : Int)
        omega
      · rw [getD_set (by omega)]
        split
        · rename_i hik
          subst hik
          rfl
        · exact h3 i (by omega)
    · have ek : k = (alls r.1.2.1).length := by omega
      have : l = outV x r.1 K := getD_ext (by simp [outV, h2]) fun i hi => by
        unfold outV
        rw [getD_map_range (by omega)]
        exact h3 i (by omega)
      rw [this]
end

/-! ### Values of doubles -/
def Bare (x : ValD) : Prop := x.1.2.1 = [] ∧ x.1.2.2.1 = []
theorem nat_Bits_nil : nat_Bits [] = some 0 := by
  have e : nat_size [] = some 0 := by
    refine T_eq (T_ex (p := fun o => o = 0) ?_ (fun y hy => T_ret hy))
    exact loopT (tr := nat_size_T2 []) 0 (fun k s => s = 0) _ (by omega) rfl (by
      rintro k s hk rfl
      exact T_lt (fun h => by omega) (fun _ => T_ret (rq_r rfl)))
  exact T_eq (T_ex1 e (T_eqI (fun _ => T_ret rfl) (fun h => absurd rfl h)))
theorem bank_Fits_w {x : ValD} (h : Bare x) : bank_Fits x = some true := by
  refine T_eq (T_ex1 (y := (0 : Int)) (T_eq (T_ex1 (by rw [h.1]; exact nat_Bits_nil) (T_ex1 (by rw [h.2]; exact nat_Bits_nil) (T_ret rfl)))) (T_ret rfl))
theorem ref18_Right_q (x : ValD) (h : Svl x) : ∃ y, ref18_Right 1 x = some y ∧ (y = true → Bare x) := by
  refine Tree.T_run _ (T_ex1 (ref07_Same_v _ _ (svl_sm h).1 (svl_sm h).2) (T_eqI (fun h => by omega) (fun _ => T_eqI (fun _ => T_br (fun h1 => ?_) (fun _ => T_ret fun h => by cases h)) (fun h => absurd rfl h))))
  have hb : Bare x := by
    simp only [Bool.and_eq_true, decide_eq_true_eq] at h1
    exact ⟨h1.1.2, h1.2⟩
  exact T_brP (fun _ => T_ex (ref09_Clean_t _) (fun _ _ => T_ret fun _ => hb)) (fun _ => T_ret fun _ => hb)
theorem ref18_Vals_q (l : List ValD) (hl : Sm l) (h : ∀ x ∈ l, Svl x) : ∃ y, ref18_Vals 1 l = some y ∧ (y = true → ∀ i, i < l.length → Bare (l.getD i default)) := by
  have hl' : l.length < 100000000000000 := hl
  refine Tree.T_run _ (T_un (p := fun o => (o = .inl () ∧ ∀ i, i < l.length → Bare (l.getD i default)) ∨ o = .inr false) ?_ (fun h1 => T_ret fun _ => ?_) (fun y h1 => T_ret fun h2 => ?_))
  · refine loopT (tr := ref18_Vals_T2 1 l l.length) l.length (fun k s => s = (k : Int) ∧ ∀ i, i < k → Bare (l.getD i default)) _ (by omega) ⟨rfl, fun i hi => by omega⟩ ?_
    rintro k s hk ⟨rfl, h1⟩
    simp only [ref18_Vals_T2, Int.toNat_natCast]
    refine T_lt (fun h2 => T_ob (by omega) (T_ex (ref18_Right_q _ (h _ (getD_mem (by omega)))) (fun y hy => T_brB (fun _ => T_ret (rq_r (.inr rfl))) (fun h3 => T_ret (rq_l (by omega) ⟨w64_nat (by omega), fun i hi => ?_⟩))))) (fun h2 => T_ret (rq_r (.inl ⟨rfl, fun i hi => h1 i (by omega)⟩)))
    by_cases hik : i = k
    · rw [hik]
      exact hy h3
    · exact h1 i (by omega)
  · rcases h1 with ⟨_, h1⟩ | h1
    · exact h1
    · cases h1
  · rcases h1 with ⟨h1, _⟩ | h1
    · cases h1
    · cases h1
      cases h2
theorem apply_Done_w {m : (Int × (Int × (Int × (Int × (Int × (Bool × (Int × Unit)))))))} {l : List ValD} (hl : l.length ≤ 64) (h : ∀ i, i < l.length → Bare (l.getD i default)) : apply_Done m 1 0 [] 0 0 false 0 l = some (0, (1, (0, ([], (0, (0, (false, (0, l)))))))) := by
  refine T_eq (T_ex1 (y := ((0 : Int), bq)) rfl (T_ex (p := fun o => o = (0, ((1, (0, ([], (0, (0, (false, 0)))))), l))) ?_ (fun y hy => ?_)))
  · refine loopT (tr := apply_Done_T3 l.length m.1 m.2.1 m.2.2.1 m.2.2.2.1 m.2.2.2.2.1 m.2.2.2.2.2.1 m.2.2.2.2.2.2.1) l.length (fun k s => s = (0, ((k : Int), (1, (0, ([], (0, (0, (false, (0, l))))))))))  _ (by omega) rfl ?_
    rintro k s hk rfl
    simp only [apply_Done_T3, Int.toNat_natCast]
    exact T_lt (fun h1 => T_ob (by omega) (T_brP (fun _ => T_ex1 (bank_Fits_w (h k (by omega))) (T_brB (fun h => by cases h) (fun _ => T_ret (rq_l (by omega) (by rw [w64_nat (by omega)]))))) (fun h => absurd trivial h))) (fun _ => T_ret (rq_r rfl))
  · subst hy
    exact T_neI (fun h => absurd rfl h) (fun _ => T_ret rfl)
theorem apply_Whole_v (x : ArgD) : apply_Whole x = some (if (x.2.1.length : Int) = cnt x.1 then 0 else 1) :=
  T_eq (T_ex1 (shape_Count_v _) (T_neI (fun h => T_ret (by rw [if_neg h])) (fun h => T_ret (by rw [if_pos h]))))

/-! ### The run -/
theorem apply_Run_w {op : Int} {a : AttrD} {x : ArgD} {r : ViewD × Int} (hx : Sar x) (hc : chk x.1 = 0) (h0 : 33 ≤ op) (h1 : op ≤ 37) (h : move_View op a (0, (x.1, (stp x.1, ()))) = some r) (hb : ∀ i, i < x.2.1.length → Bare (x.2.1.getD i default)) (hv : r.2 = 0 → ∃ K, Reads x.1 r.1 K ∧ Seen op a x.1 r.1 K) :
    ∃ y, apply_Run op a [x] 1 0 [] 0 0 false 0 = some (y, bq) ∧ ((r.2 ≠ 0 ∧ y.2.2 = r.2) ∨ (r.2 = 0 ∧ (x.2.1.length : Int) ≠ cnt x.1 ∧ y.2.2 = 1) ∨
      (r.2 = 0 ∧ (x.2.1.length : Int) = cnt x.1 ∧ ∃ K, Reads x.1 r.1 K ∧ y = ((r.1.2.1, (outV x r.1 K, ())), ([], 0)))) := by
  suffices hh : (apply_Run_T op a [x] 1 0 [] 0 0 false 0).T (fun z => z.2 = bq ∧ ((r.2 ≠ 0 ∧ z.1.2.2 = r.2) ∨ (r.2 = 0 ∧ (x.2.1.length : Int) ≠ cnt x.1 ∧ z.1.2.2 = 1) ∨
      (r.2 = 0 ∧ (x.2.1.length : Int) = cnt x.1 ∧ ∃ K, Reads x.1 r.1 K ∧ z.1 = ((r.1.2.1, (outV x r.1 K, ())), ([], 0))))) by
    obtain ⟨⟨y, b⟩, hy, rfl, hq⟩ := Tree.T_run _ hh
    exact ⟨y, hy, hq⟩
  refine T_ex1 (y := ((0 : Int), bq)) rfl (T_neI (fun h => absurd rfl h) (fun _ => T_ex (p := fun o => o = (bq, [x.1])) ?_ (fun y1 hy1 => ?_)))
  · refine loopT (tr := apply_Run_T6 op [x] [x] (1 : Nat) a.1 a.2.1 a.2.2.1 a.2.2.2.1 a.2.2.2.2.1 a.2.2.2.2.2.1 a.2.2.2.2.2.2.1 a.2.2.2.2.2.2.2.1 a.2.2.2.2.2.2.2.2.1 (AX a)) 1 (fun k s => s = ((k : Int), (1, (0, ([], (0, (0, (false, (0, if k = 0 then [] else [x.1]))))))))) _ (by omega) rfl ?_
    rintro k s hk rfl
    simp only [apply_Run_T6, Int.toNat_natCast]
    refine T_lt (fun h2 => ?_) (fun h2 => T_ret (rq_r ?_))
    · have hk0 : k = 0 := by omega
      subst hk0
      exact T_ob (by simp) (T_ob (by simp) (T_ret (rq_l (by omega) (by simp; rfl))))
    · have hk1 : k = 1 := by omega
      subst hk1
      rfl
  subst hy1
  refine T_ex1 (infer_Dims_w hc h0 h1 h) (T_neI (fun h2 => T_ret ⟨rfl, .inl ⟨h2, rfl⟩⟩) (fun h2 => ?_))
  have h2' : r.2 = 0 := h2
  obtain ⟨K, hR, hS⟩ := hv h2'
  refine T_lr (p := fun o => (o = .inl bq ∧ (x.2.1.length : Int) = cnt x.1) ∨ (o = .inr (([], 1), bq) ∧ (x.2.1.length : Int) ≠ cnt x.1)) ?_ (fun y3 hy3 => ?_) (fun y10 hy10 => ?_)
  · refine loopT (tr := apply_Run_T14 op [x] r.1.2.1 [x] (1 : Nat) a.1 a.2.1 a.2.2.1 a.2.2.2.1 a.2.2.2.2.1 a.2.2.2.2.2.1 a.2.2.2.2.2.2.1 a.2.2.2.2.2.2.2.1 a.2.2.2.2.2.2.2.2.1 (AX a)) 1 (fun k s => s = ((k : Int), bq) ∧ (1 ≤ k → (x.2.1.length : Int) = cnt x.1)) _ (by omega) ⟨rfl, fun h => by omega⟩ ?_
    rintro k s hk ⟨rfl, h3⟩
    simp only [apply_Run_T14, Int.toNat_natCast]
    refine T_lt (fun h4 => ?_) (fun h4 => T_ret (rq_r (.inl ⟨rfl, h3 (by omega)⟩)))
    have hk0 : k = 0 := by omega
    subst hk0
    refine T_ob (by simp) (T_ex1 (apply_Whole_v x) ?_)
    by_cases hw : (x.2.1.length : Int) = cnt x.1
    · rw [if_pos hw]
      exact T_neI (fun h => absurd rfl h) (fun _ => T_ret (rq_l (by omega) ⟨by simp; rfl, fun _ => hw⟩))
    · rw [if_neg hw]
      exact T_neI (fun _ => T_ret (rq_r (.inr ⟨rfl, hw⟩))) (fun h => by omega)
  · rcases hy3 with ⟨hy3, hw⟩ | ⟨hy3, _⟩
    · cases hy3
      have hw' : (x.2.1.length : Int) = prodL x.1 := by rw [hw, (cnt_ok hc).1]
      have hlen : (outV x r.1 K).length = (alls r.1.2.1).length := by simp [outV]
      have hal := alls_len r.1.2.1
      have inb : ∀ i, i < (alls r.1.2.1).length → (K ((alls r.1.2.1).getD i default)).toNat < x.2.1.length := fun i hi => by
        have := hR.2.2 _ (alls_within hi)
        omega
      have hbo : ∀ i, i < (outV x r.1 K).length → Bare ((outV x r.1 K).getD i default) := fun i hi => by
        rw [hlen] at hi
        unfold outV
        rw [getD_map_range hi]
        exact hb _ (inb i hi)
      have hso : ∀ i, i < (outV x r.1 K).length → Svl ((outV x r.1 K).getD i default) := fun i hi => by
        rw [hlen] at hi
        unfold outV
        rw [getD_map_range hi]
        exact hx.2.2 _ (getD_mem (inb i hi))
      have does : apply_does_r op a r.1.2.1 [x] 1 0 [] 0 0 false 0 = some ((outV x r.1 K, []), bq) :=
        T_eq (T_ex1 (prim_Class_w h0 h1) (T_eqI (fun h => by omega) (fun _ => T_eqI (fun h => by omega) (fun _ => T_eqI (fun h => by omega) (fun _ => T_ex1 (apply_moved_w hc h0 h1 h h2' hR hS hw') (T_ret rfl))))))
      have hpk : pk op = false := by
        have := ch_spec op
        exact decide_eq_false (by omega)
      refine T_ex1 (y := ((0, (0, (0, (0, (0, (false, (0, ()))))))), bq)) rfl (T_ex1 does (T_ex1 (apply_Done_w (l := outV x r.1 K) (by omega) hbo) (T_neI (fun h => absurd rfl h) (fun _ => T_ex1 (prim_Picks_v op) (T_brB (fun _ => T_ex (p := fun o => o = (bq, outV x r.1 K)) ?_ (fun y8 hy8 => T_ret ?_)) (fun h => by rw [hpk] at h; cases h))))))
      · refine loopT (tr := apply_Run_T28 r.1.2.1 [] (outV x r.1 K).length) (outV x r.1 K).length (fun k s => s = ((k : Int), (1, (0, ([], (0, (0, (false, (0, outV x r.1 K))))))))) _ (by omega) rfl ?_
        rintro k s hk rfl
        simp only [apply_Run_T28, Int.toNat_natCast]
        refine T_lt (fun h4 => ?_) (fun _ => T_ret (rq_r rfl))
        refine T_ob (by omega) (T_ex1 (bank_Copy_v _ (hso k (by omega))) (T_ob (by omega) (T_ret (rq_l (by omega) ?_))))
        have e : (outV x r.1 K).set k ((outV x r.1 K).getD k default) = outV x r.1 K := by
          rw [getD_el (by omega)]
          exact List.set_getElem_self (by omega)
        rw [w64_nat (by omega)]
        exact congrArg (fun l : List ValD => ((((k + 1 : Nat) : Int)), ((1 : Int), ((0 : Int), (([] : List Bool), ((0 : Int), ((0 : Int), (false, ((0 : Int), l))))))))) e
      · subst hy8
        exact ⟨rfl, .inr (.inr ⟨h2', hw, K, hR, rfl⟩)⟩
    · cases hy3
  · rcases hy10 with ⟨hy10, _⟩ | ⟨hy10, hw⟩
    · cases hy10
    · cases hy10
      exact T_ret ⟨rfl, .inr (.inl ⟨h2', hw, rfl⟩)⟩
end Go.Proofs.YtnhebloiappfiaaGreat
