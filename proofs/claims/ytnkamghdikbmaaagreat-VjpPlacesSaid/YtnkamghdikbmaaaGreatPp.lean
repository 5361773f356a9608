/- The law 'VjpPlaces' of data: for every step no slice of which is over 2^47 bytes, and every number, it answers true. -/
import Derived.Test.YtnkamghdikbmaaaGreatPf
namespace Go.Proofs.YtnkamghdikbmaaaGreat
open Go Go.SM
set_option maxRecDepth 100000
set_option linter.unusedVariables false

abbrev argAt (s : StepD) (i : Nat) : ArgD := s.2.2.1.getD i default
abbrev od (s : StepD) : List Int := s.2.2.2.1.1
def vz : ValD := ((Bool.false, ([], ([], ()))), ((0 : UInt64), ((0 : Int), ())))
def vAt (s : StepD) (n : Int) (i : Nat) : ValD := if nd s.1 s.2.1.1 i = true then (argAt s i).2.1.getD (src (argAt s i).1 (od s) n).toNat default else vz
def oAt (s : StepD) (n : Int) : ValD := if nd s.1 s.2.1.1 s.2.2.1.length = true then s.2.2.2.1.2.1.getD n.toNat default else vz
def pAt (s : StepD) (n : Int) : Int := if pk s.1 = true then s.2.2.2.2.1.getD n.toNat default else 0
def sAt (s : StepD) (n : Int) (i : Nat) : Int := src (argAt s i).1 (od s) n
def fr (s : StepD) : List (List Int) := (List.range s.2.2.1.length).map fun i => srcs (argAt s i).1 (od s)

structure Good (s : StepD) (n : Int) : Prop where
  siz : Siz s
  few : s.2.2.1.length ≤ 3
  fits : ∀ i, i < s.2.2.1.length → ref21_Fits (argAt s i).1 (od s) = some true
  args : ∀ i, i < s.2.2.1.length → nd s.1 s.2.1.1 i = true → ((argAt s i).2.1.length : Int) = cnt (argAt s i).1
  out : nd s.1 s.2.1.1 s.2.2.1.length = true → (s.2.2.2.1.2.1.length : Int) = cnt (od s)
  picks : pk s.1 = true → (s.2.2.2.2.1.length : Int) = cnt (od s)
  n0 : 0 ≤ n
  n1 : n < cnt (od s)

namespace Good
variable {s : StepD} {n : Int}
theorem fitsP (h : Good s n) {i : Nat} (hi : i < s.2.2.1.length) : fitsP (argAt s i).1 (od s) := by
  obtain ⟨y, hy, hq⟩ := ref21_Fits_q (argAt s i).1 (od s)
  rw [h.fits i hi] at hy
  cases hy
  exact hq rfl
theorem lt (h : Good s n) : chk (od s) = 0 ∧ n < prodL (od s) := by
  have h1 := h.n1
  have h0 := h.n0
  by_cases hc : chk (od s) = 0
  · rw [(cnt_ok hc).1] at h1
    exact ⟨hc, h1⟩
  · simp only [cnt, if_neg hc] at h1
    omega
/-- What a needed operand holds at the place read. -/
theorem at_src (h : Good s n) {i : Nat} (hi : i < s.2.2.1.length) (hn : nd s.1 s.2.1.1 i = true) : 0 ≤ sAt s n i ∧ sAt s n i < ((argAt s i).2.1.length : Int) := by
  have h1 := h.fitsP hi
  have h2 := src_in (n := n) h1
  have h3 := h.args i hi hn
  rw [(cnt_ok h1.1).1] at h3
  simp only [sAt]
  omega
theorem svl (h : Good s n) {i : Nat} (hi : i < s.2.2.1.length) : Svl (vAt s n i) := by
  unfold vAt
  split
  · rename_i hn
    have h1 := h.at_src hi hn
    have h2 : (src (argAt s i).1 (od s) n).toNat < (argAt s i).2.1.length := by
      simp only [sAt] at h1
      omega
    exact (h.siz.arg _ (getD_mem hi)).2.2 _ (getD_mem h2)
  · exact ⟨by decide, by decide⟩
theorem svo (h : Good s n) : Svl (oAt s n) := by
  unfold oAt
  split
  · rename_i hn
    have h1 := h.out hn
    have h2 := h.n0
    have h3 := h.n1
    exact h.siz.out.2.2 _ (getD_mem (by omega))
  · exact ⟨by decide, by decide⟩
end Good

theorem vjp_Step_At_v (s : StepD) (n : Int) (h : Good s n) : vjp_Step_At s n = some (((List.range s.2.2.1.length).map (vAt s n), (oAt s n, (pAt s n, ()))), (List.range s.2.2.1.length).map (sAt s n)) := by
  have h0 := h.n0
  have hf := h.few
  refine T_eq (T_ex (p := fun o => o = ((false, ((0 : UInt64), ((0 : Int), (0 : Int)))), ((List.range s.2.2.1.length).map (vAt s n), (List.range s.2.2.1.length).map (sAt s n)))) ?_ (fun y hy => T_lt (fun h1 => absurd h0 (by omega)) (fun h1 => T_ex1 (prim_Needs_v _ _ _) ?_)))
  · refine loopT (tr := vjp_Step_At_T4 n s.2.2.1 s.2.2.1.length s.1 s.2.1.1 s.2.1.2.1 s.2.1.2.2.1 s.2.1.2.2.2.1 s.2.1.2.2.2.2.1 s.2.1.2.2.2.2.2.1 s.2.1.2.2.2.2.2.2.1 s.2.1.2.2.2.2.2.2.2.1 s.2.1.2.2.2.2.2.2.2.2.1 (AX s.2.1) s.2.2.1 s.2.2.2.1.1 s.2.2.2.1.2.1 s.2.2.2.2.1) s.2.2.1.length (fun k t => t.1 = (k : Int) ∧ t.2 = (false, ((0 : UInt64), ((0 : Int), ((0 : Int), ((List.range k).map (vAt s n), (List.range k).map (sAt s n))))))) _ (by omega) ⟨rfl, rfl⟩ ?_
    rintro k ⟨t, o⟩ hk ⟨h1, h2⟩
    simp only at h1 h2
    subst h1 h2
    simp only [vjp_Step_At_T4, Int.toNat_natCast, List.length_map, List.length_range]
    refine T_lt (fun h3 => ?_) (fun h3 => T_ret (rq_r ?_))
    · have hk' : k < s.2.2.1.length := by omega
      refine T_ob (by omega) (T_ex1 (vjp_source_v _ _ n (h.fitsP hk') h0 h.lt.2) (T_ob (by omega) (T_ex1 (prim_Needs_v _ _ _) (T_br (fun h4 => T_lt (fun h5 => ?_) (fun h5 => ?_)) (fun h4 => T_ob (by omega) (T_ret (rq_l hk' ⟨w64_nat (by omega), ?_⟩)))))))
      · have h6 := h.at_src hk' h4
        have h7 : Svl ((argAt s k).2.1.getD (src (argAt s k).1 (od s) n).toNat default) := by
          have := h.svl hk'
          rw [vAt, if_pos h4] at this
          exact this
        refine T_ob h6 (T_ex1 (bank_Copy_v _ h7) (T_ob (by omega) (T_ret (rq_l hk' ⟨w64_nat (by omega), ?_⟩))))
        simp only [map_range_succ, vAt, if_pos h4]
        rfl
      · exact absurd (h.at_src hk' h4).2 h5
      · have h4' : nd s.1 s.2.1.1 k = false := h4
        simp only [map_range_succ, vAt, h4']
        rfl
    · rw [show k = s.2.2.1.length by omega]
  · subst hy
    have h1 := h.n1
    have h2 := h.n0
    refine T_br (fun h3 => T_lt (fun h4 => T_ob (by omega) (T_ex1 (bank_Copy_v _ ?_) (T_ex1 (prim_Picks_v _) (T_br (fun h5 => T_lt (fun h6 => T_ob (by omega) (T_ret ?_)) (fun h6 => ?_)) (fun h5 => T_ret ?_))))) (fun h4 => ?_)) (fun h3 => T_ex1 (prim_Picks_v _) (T_br (fun h5 => T_lt (fun h6 => T_ob (by omega) (T_ret ?_)) (fun h6 => ?_)) (fun h5 => T_ret ?_)))
    · have := h.svo
      rw [oAt, if_pos h3] at this
      exact this
    · simp only [oAt, pAt, if_pos h3, if_pos h5]
    · exact absurd (h.picks h5) (by omega)
    · simp only [oAt, pAt, if_pos h3, h5]
      rfl
    · exact absurd (h.out h3) (by omega)
    · have h3' : nd s.1 s.2.1.1 s.2.2.1.length = false := h3
      simp only [oAt, pAt, h3', if_pos h5]
      rfl
    · exact absurd (h.picks h5) (by omega)
    · have h3' : nd s.1 s.2.1.1 s.2.2.1.length = false := h3
      simp only [oAt, pAt, h3', h5]
      rfl
theorem ref33_From_v (s : StepD) (n : Int) (h : Good s n) : ref33_From s = some (fr s) := by
  have hf := h.few
  refine T_eq (T_ex (p := fun o => o = fr s) ?_ (fun y hy => T_ret hy))
  refine loopT (tr := ref33_From_T3 s.2.2.1.length s.1 s.2.1.1 s.2.1.2.1 s.2.1.2.2.1 s.2.1.2.2.2.1 s.2.1.2.2.2.2.1 s.2.1.2.2.2.2.2.1 s.2.1.2.2.2.2.2.2.1 s.2.1.2.2.2.2.2.2.2.1 s.2.1.2.2.2.2.2.2.2.2.1 (AX s.2.1) s.2.2.1 s.2.2.2.1.1 s.2.2.2.1.2.1 s.2.2.2.2.1) s.2.2.1.length (fun k t => t.1 = (k : Int) ∧ t.2 = (List.range k).map fun i => srcs (argAt s i).1 (od s)) _ (by omega) ⟨rfl, rfl⟩ ?_
  rintro k ⟨t, o⟩ hk ⟨h1, h2⟩
  simp only at h1 h2
  subst h1 h2
  simp only [ref33_From_T3, Int.toNat_natCast, List.length_map, List.length_range]
  refine T_lt (fun h3 => T_ob (by omega) (T_ex (ref21_Sources_q _ _) (fun y hy => T_ob (by omega) (T_ret (rq_l (by omega) ⟨w64_nat (by omega), ?_⟩))))) (fun h3 => T_ret (rq_r ?_))
  · rw [hy (h.fits k (by omega)), map_range_succ]
  · rw [show k = s.2.2.1.length by omega]
    rfl
theorem fr_getD {s : StepD} {i : Nat} (h : i < s.2.2.1.length) : (fr s).getD i default = srcs (argAt s i).1 (od s) := by
  unfold fr
  exact getD_map_range h
theorem length_fr (s : StepD) : (fr s).length = s.2.2.1.length := by simp [fr]
theorem fr_at {s : StepD} {n : Int} (h : Good s n) {i : Nat} (hi : i < s.2.2.1.length) : (0 ≤ n ∧ n < (((fr s).getD i default).length : Int)) ∧ ((fr s).getD i default).getD n.toNat default = sAt s n i := by
  have h1 := h.lt
  have h0 := h.n0
  have h2 := (cnt_ok h1.1).2
  rw [fr_getD hi, length_srcs]
  refine ⟨by omega, ?_⟩
  unfold srcs sAt
  rw [getD_map_range (by omega), Int.toNat_of_nonneg h0]
theorem ref33_At_v (s : StepD) (n : Int) (h : Good s n) : ref33_At s (fr s) n = some ((List.range s.2.2.1.length).map (vAt s n), (oAt s n, (pAt s n, ()))) := by
  have h0 := h.n0
  have hf := h.few
  have h1 := h.n1
  refine T_eq (T_ex (p := fun o => o = ((false, ((0 : UInt64), ((0 : Int), (0 : Int)))), (List.range s.2.2.1.length).map (vAt s n))) ?_ (fun y hy => T_ex1 (ref30_Needs_v _ _ _) ?_))
  · refine loopT (tr := ref33_At_T3 (fr s) n s.2.2.1.length s.1 s.2.1.1 s.2.1.2.1 s.2.1.2.2.1 s.2.1.2.2.2.1 s.2.1.2.2.2.2.1 s.2.1.2.2.2.2.2.1 s.2.1.2.2.2.2.2.2.1 s.2.1.2.2.2.2.2.2.2.1 s.2.1.2.2.2.2.2.2.2.2.1 (AX s.2.1) s.2.2.1 s.2.2.2.1.1 s.2.2.2.1.2.1 s.2.2.2.2.1) s.2.2.1.length (fun k t => t.1 = (k : Int) ∧ t.2 = (false, ((0 : UInt64), ((0 : Int), ((0 : Int), (List.range k).map (vAt s n)))))) _ (by omega) ⟨rfl, rfl⟩ ?_
    rintro k ⟨t, o⟩ hk ⟨h2, h3⟩
    simp only at h2 h3
    subst h2 h3
    simp only [ref33_At_T3, Int.toNat_natCast, List.length_map, List.length_range]
    refine T_lt (fun h4 => ?_) (fun h4 => T_ret (rq_r ?_))
    · have hk' : k < s.2.2.1.length := by omega
      obtain ⟨h5, h6⟩ := fr_at h hk'
      have h7 := length_fr s
      simp only [h6]
      refine T_ex1 (ref30_Needs_v _ _ _) (T_br (fun h8 => T_ob (by omega) (T_ob (by omega) (T_ob h5 (T_ob (h.at_src hk' h8) (T_ob (by omega) (T_ret (rq_l hk' ⟨w64_nat (by omega), ?_⟩))))))) (fun h8 => T_ob (by omega) (T_ret (rq_l hk' ⟨w64_nat (by omega), ?_⟩))))
      · simp only [map_range_succ, vAt, if_pos h8]
        rfl
      · simp only [map_range_succ, vAt, h8]
        rfl
    · rw [show k = s.2.2.1.length by omega]
  · subst hy
    refine T_br (fun h3 => T_ob ?_ (T_ex1 (ref30_Picks_v _) (T_br (fun h5 => T_ob ?_ (T_ret ?_)) (fun h5 => T_ret ?_)))) (fun h3 => T_ex1 (ref30_Picks_v _) (T_br (fun h5 => T_ob ?_ (T_ret ?_)) (fun h5 => T_ret ?_)))
    · have := h.out h3
      omega
    · have := h.picks h5
      omega
    · simp only [oAt, pAt, if_pos h3, if_pos h5]
    · simp only [oAt, pAt, if_pos h3, h5]
      rfl
    · have := h.picks h5
      omega
    · simp only [oAt, pAt, h3, if_pos h5]
      rfl
    · simp only [oAt, pAt, h3, h5]
      rfl

theorem law33_pure (s : StepD) (n : Int) (h : Sz stepT s) : law33_VjpPlaces s n = some true := by
  have hs := siz_of h
  have har := hs.args
  refine T_eq (T_ex (law33_Fair_t s hs) (fun y _ => T_brB (fun _ => T_ex1 (show law33_same = some true from rfl) (T_ret rfl)) (fun _ => T_ex1 (show law33_Step s = some s from rfl) (T_ex (ref33_Check_q s hs) (fun c hc => T_neI (fun _ => T_ex1 (show law33_same = some true from rfl) (T_ret rfl)) (fun h1 => T_lt (fun _ => T_ex1 (show law33_same = some true from rfl) (T_ret rfl)) (fun h2 => T_ex1 (ref19_Count_v _) (T_le (fun _ => T_ex1 (show law33_same = some true from rfl) (T_ret rfl)) (fun h3 => T_ex1 (vjp_Step_Dims_v s hs) ?_))))))))) 
  obtain ⟨g1, g2, g3, g4⟩ := hc h1
  refine T_neI (fun h4 => absurd h4 (by rw [length_dms]; omega)) (fun _ => ?_)
  have L7 : ∃ o, law33_VjpPlaces_L7 n (dms s.2.2.1) (dms s.2.2.1).length s.1 s.2.1.1 s.2.1.2.1 s.2.1.2.2.1 s.2.1.2.2.2.1 s.2.1.2.2.2.2.1 s.2.1.2.2.2.2.2.1 s.2.1.2.2.2.2.2.2.1 s.2.1.2.2.2.2.2.2.2.1 s.2.1.2.2.2.2.2.2.2.2.1 (AX s.2.1) s.2.2.1 s.2.2.2.1.1 s.2.2.2.1.2.1 s.2.2.2.2.1 0 = some o ∧ ((o = .inl () ∧ ∀ i, i < s.2.2.1.length → ref21_Fits (argAt s i).1 (od s) = some true) ∨ o = .inr true) := by
    rw [length_dms]
    refine loopT (tr := law33_VjpPlaces_T7 n (dms s.2.2.1) s.2.2.1.length s.1 s.2.1.1 s.2.1.2.1 s.2.1.2.2.1 s.2.1.2.2.2.1 s.2.1.2.2.2.2.1 s.2.1.2.2.2.2.2.1 s.2.1.2.2.2.2.2.2.1 s.2.1.2.2.2.2.2.2.2.1 s.2.1.2.2.2.2.2.2.2.2.1 (AX s.2.1) s.2.2.1 s.2.2.2.1.1 s.2.2.2.1.2.1 s.2.2.2.2.1) s.2.2.1.length (fun k t => t = (k : Int) ∧ ∀ i, i < k → ref21_Fits (argAt s i).1 (od s) = some true) _ (by omega) ⟨rfl, fun i hi => by omega⟩ ?_
    rintro k t hk ⟨rfl, h4⟩
    have e := length_dms s.2.2.1
    refine T_lt (fun h5 => ?_) (fun h5 => T_ret (rq_r (.inl ⟨rfl, fun i hi => h4 i (by omega)⟩)))
    have hk' : k < s.2.2.1.length := by omega
    have hd := (hs.arg _ (getD_mem hk')).1
    have e1 : plain_Ints ((dms s.2.2.1).getD (Int.toNat k) default) (s.2.2.1.getD (Int.toNat k) default).1 = some true := by
      rw [Int.toNat_natCast, dms_getD hk', plain_Ints_v _ _ (by omega)]
      simp
    obtain ⟨f, hf, _⟩ := ref21_Fits_q (argAt s k).1 (od s)
    have e2 : ref21_Fits ((dms s.2.2.1).getD (Int.toNat k) default) s.2.2.2.1.1 = some f := by
      rw [Int.toNat_natCast, dms_getD hk']
      exact hf
    refine T_ob (by omega) (T_ob (by omega) (T_ex1 e1 (T_brB (fun x => by cases x) (fun _ => T_ob (by omega) (T_ex1 e2 (T_brB (fun _ => T_ob (by omega) (T_ob (by omega) (T_ex1 e1 (T_br (fun _ => T_ex1 (show law33_same = some true from rfl) (T_ret (rq_r (.inr rfl)))) (fun x => by cases x))))) (fun h6 => T_ret (rq_l hk' ⟨w64_nat (by omega), fun i hi => ?_⟩))))))))
    by_cases hik : i = k
    · rw [hik, hf, h6]
    · exact h4 i (by omega)
  refine T_un L7 (fun h4 => ?_) (fun y h4 => T_ret ?_)
  · rcases h4 with ⟨_, h4⟩ | h4
    · refine T_lt (fun _ => T_ex1 (show law33_same = some true from rfl) (T_ret rfl)) (fun h5 => ?_)
      have ha := ar_spec s.1
      have hg : Good s n := ⟨hs, by omega, h4, g2, g3, g4, by omega, by have : ¬ cnt (od s) ≤ n := h3; omega⟩
      have hfew := hg.few
      refine T_ex1 (vjp_Step_At_v s n hg) (T_ex1 (show law33_Step s = some s from rfl) (T_ex1 (ref33_From_v s n hg) (T_ex1 (show law33_Step s = some s from rfl) (T_ex1 (ref33_At_v s n hg) (T_neI (fun h6 => absurd h6 ?_) (fun _ => T_ex1 (ref18_All_self _ ?_ ?_) (T_brB (fun x => by cases x) (fun _ => T_ex1 (ref18_Same_self _ hg.svo) (T_brB (fun x => by cases x) (fun _ => T_neI (fun h6 => absurd rfl h6) (fun _ => T_un (p := fun o => o = .inl ()) ?_ (fun _ => T_ex1 (show law33_same = some true from rfl) (T_ret rfl)) (fun y hy => by cases hy))))))))))))
      · simp [length_fr]
      · simp only [Sm, List.length_map, List.length_range]
        omega
      · intro i hi
        simp only [List.length_map, List.length_range] at hi
        rw [getD_map_range hi]
        exact hg.svl hi
      · have e : ((List.range s.2.2.1.length).map (sAt s n)).length = s.2.2.1.length := by simp
        refine loopT (tr := law33_VjpPlaces_T20 n ((List.range s.2.2.1.length).map (sAt s n)) (fr s) ((List.range s.2.2.1.length).map (sAt s n)).length) s.2.2.1.length (fun k t => t = (k : Int)) _ (by omega) rfl ?_
        rintro k t hk rfl
        have e' := length_fr s
        simp only [law33_VjpPlaces_T20, Int.toNat_natCast]
        refine T_lt (fun h6 => ?_) (fun _ => T_ret (rq_r rfl))
        obtain ⟨h7, h8⟩ := fr_at hg (show k < s.2.2.1.length by omega)
        refine T_ob (by omega) (T_ob (by omega) (T_ob h7 (T_neI (fun h9 => absurd ?_ h9) (fun _ => T_ret (rq_l (by omega) (w64_nat (by omega)))))))
        rw [h8, getD_map_range (by omega)]
    · cases h4
  · rcases h4 with ⟨h4, _⟩ | h4
    · cases h4
    · cases h4
      rfl
end Go.Proofs.YtnkamghdikbmaaaGreat
