/- YtnhebloiappfiaaGreatAv: functions of the program, each as a tree of what it does (a program of mine printed it out of the translation), and the proof that its call comes to what the tree tells. -/
import Derived.Test.YtnhebloiappfiaaGreatSMbk
import Derived.Test.YtnhebloiappfiaaGreatR
import Derived.Test.YtnhebloiappfiaaGreatProg
import Derived.KernelRfl
namespace Go.Proofs.YtnhebloiappfiaaGreat
open Go Go.SM
set_option maxRecDepth 100000
set_option linter.unusedVariables false
noncomputable abbrev P := Tryz.prog
abbrev RatD := (Bool × ((List UInt64) × ((List UInt64) × Unit)))
abbrev ValD := (RatD × (UInt64 × (Int × Unit)))
abbrev ArgD := ((List Int) × ((List ValD) × Unit))
abbrev AttrD := (Int × (Int × (Int × (Int × (Int × (Int × (Int × (Int × (Bool × ((List Int) × Unit))))))))))
abbrev StepD := (Int × (AttrD × ((List ArgD) × (ArgD × ((List Int) × Unit)))))
abbrev ratT : Ty := (.pair .bool (.pair (.slice .u64) (.pair (.slice .u64) .unit)))
abbrev valT : Ty := (.pair ratT (.pair .u64 (.pair .i64 .unit)))
abbrev argT : Ty := (.pair (.slice .i64) (.pair (.slice valT) .unit))
abbrev attrT : Ty := (.pair .i64 (.pair .i64 (.pair .i64 (.pair .i64 (.pair .i64 (.pair .i64 (.pair .i64 (.pair .i64 (.pair .bool (.pair (.slice .i64) .unit))))))))))
abbrev stepT : Ty := (.pair .i64 (.pair attrT (.pair (.slice argT) (.pair argT (.pair (.slice .i64) .unit)))))
noncomputable def f62H : Hint := ⟨fun _ => false, false, fun n => lk n [(4, [0, 1, 12, 13])], fun _ => [], fun _ => [], fun _ => [], fun _ => [], fun n => lk n [(4, [⟨.exit 0, [], [], mores P [], []⟩, ⟨.ret, [4], [], mores P [(4, 4)], []⟩])], resOf P 62, fun g _ _ => retOf P g⟩
noncomputable def ref07_Words_L4_st (p0 p1 : (List UInt64)) (p2 : Int) (s : Int) : St := ⟨slots 26 [(0, .e (.c (.sl .u64 p0))), (1, .e (.c (.sl .u64 p1))), (12, .e (.c (.i64 p2))), (13, .e (.c (.i64 s)))], []⟩
noncomputable def ref07_Words_L4_out (p0 p1 : (List UInt64)) (p2 : Int) : (Unit ⊕ Bool) → Exit × St := fun y => match y with
  | (.inl y) => ((.exit 0), ⟨slots 26 [], []⟩)
  | (.inr y) => (.ret, ⟨slots 26 [(4, .e (.c (.bool y)))], []⟩)
noncomputable def ref07_Words_T4 (p0 p1 : (List UInt64)) (p2 : Int) (s : Int) : Tree (Int ⊕ (Unit ⊕ Bool)) :=
 .br (decide (s < p2))
  (.ob ((((0 : Int) ≤ s) ∧ (s < (↑(List.length p0) : Int)))) (
  .ob ((((0 : Int) ≤ s) ∧ (s < (↑(List.length p1) : Int)))) (
  .br (!(decide ((List.getD p0 (Int.toNat s) default) = (List.getD p1 (Int.toNat s) default))))
   (.ret (.inr (.inr Bool.false)))
   (.ret (.inl (w64 (s + 1)))))))
  (.ret (.inr (.inl ())))
noncomputable def ref07_Words_L4 (p0 p1 : (List UInt64)) (p2 : Int) (s : Int) : Option (Unit ⊕ Bool) := iter (fun s => (ref07_Words_T4 p0 p1 p2 s).run) F0 s
noncomputable abbrev ref07_Words_L4_c : Code := loopOf Tryz.f62 4
theorem ref07_Words_L4_s (p0 p1 : (List UInt64)) (p2 : Int) (s : Int) : ∀ o, ref07_Words_L4 p0 p1 p2 s = some o → LpK Tryz.prog f62H 0 4 ref07_Words_L4_c (ref07_Words_L4_st p0 p1 p2 s) (fun e s' => e = (ref07_Words_L4_out p0 p1 p2 o).1 ∧ s' = (ref07_Words_L4_out p0 p1 p2 o).2) := fun o => iter_sound (tr := fun s => (ref07_Words_T4 p0 p1 p2 s)) (st := fun s => ref07_Words_L4_st p0 p1 p2 s) (by kernel_rfl) (fun s K => by kernel_rfl) F0 s o
noncomputable def ref07_Words_T (a0 : (List UInt64)) (b1 : (List UInt64)) : Tree (RTs.den [.d .bool]) :=
 .br (!(decide ((↑(List.length a0) : Int) = (↑(List.length b1) : Int))))
  (.ret Bool.false)
  (.alt (isL (ref07_Words_L4 a0 b1 (↑(List.length a0) : Int) 0))
   (.an (s_u (s_l (ref07_Words_L4_s a0 b1 (↑(List.length a0) : Int) 0))) (
   .ret Bool.true))
   (.ex (s_r (ref07_Words_L4_s a0 b1 (↑(List.length a0) : Int) 0)) fun y0 =>
   .ret y0))
noncomputable def ref07_Words (a0 : (List UInt64)) (b1 : (List UInt64)) : Option (RTs.den [.d .bool]) := (ref07_Words_T a0 b1).run
theorem ref07_Words_s (a0 : (List UInt64)) (b1 : (List UInt64)) : ∀ y, ref07_Words a0 b1 = some y → CSem Tryz.prog 62 [Ty.e (.slice .u64) a0, Ty.e (.slice .u64) b1] [] (fun v b => v = (RTs.shape [.d .bool] y).1 ∧ b = (RTs.shape [.d .bool] y).2) := fun_sound (H := f62H) (fn := Tryz.f62) (by kernel_rfl) (by kernel_rfl) (fun post => by kernel_rfl)
noncomputable def f34H : Hint := ⟨fun _ => false, false, fun _ => [], fun _ => [], fun _ => [], fun _ => [], fun _ => [], fun _ => [], resOf P 34, fun g _ _ => retOf P g⟩
noncomputable def ref07_Same_T (a0 : RatD) (b1 : RatD) : Tree (RTs.den [.d .bool]) :=
 .br (a0.1 == b1.1)
  (.ex (ref07_Words_s a0.2.1 b1.2.1) fun y0 =>
  .br y0
   (.ex (ref07_Words_s a0.2.2.1 b1.2.2.1) fun y1 =>
   .ret y1)
   (.ret Bool.false))
  (.ret Bool.false)
noncomputable def ref07_Same (a0 : RatD) (b1 : RatD) : Option (RTs.den [.d .bool]) := (ref07_Same_T a0 b1).run
theorem ref07_Same_s (a0 : RatD) (b1 : RatD) : ∀ y, ref07_Same a0 b1 = some y → CSem Tryz.prog 34 [Ty.e ratT a0, Ty.e ratT b1] [] (fun v b => v = (RTs.shape [.d .bool] y).1 ∧ b = (RTs.shape [.d .bool] y).2) := fun_sound (H := f34H) (fn := Tryz.f34) (by kernel_rfl) (by kernel_rfl) (fun post => by kernel_rfl)
noncomputable def f59H : Hint := ⟨fun _ => false, false, fun n => lk n [(2, [0, 3])], fun _ => [], fun _ => [], fun _ => [], fun _ => [], fun n => lk n [(2, [⟨.exit 0, [3], [3], mores P [], []⟩])], resOf P 59, fun g _ _ => retOf P g⟩
noncomputable def ref02_Size_L2_st (p0 : (List UInt64)) (s : Int) : St := ⟨slots 19 [(0, .e (.c (.sl .u64 p0))), (3, .e (.c (.i64 s)))], []⟩
noncomputable def ref02_Size_L2_out (p0 : (List UInt64)) : Int → Exit × St := fun y => ((.exit 0), ⟨slots 19 [(3, .e (.c (.i64 y)))], []⟩)
noncomputable def ref02_Size_T2 (p0 : (List UInt64)) (s : Int) : Tree (Int ⊕ Int) :=
 .br (decide ((0 : Int) < s))
  (.ob ((((0 : Int) ≤ (w64 (s - 1))) ∧ ((w64 (s - 1)) < (↑(List.length p0) : Int)))) (
  .br (decide ((List.getD p0 (Int.toNat (w64 (s - 1))) default) = (0 : UInt64)))
   (.ret (.inl (w64 (s - 1))))
   (.ret (.inr s))))
  (.ret (.inr s))
noncomputable def ref02_Size_L2 (p0 : (List UInt64)) (s : Int) : Option Int := iter (fun s => (ref02_Size_T2 p0 s).run) F0 s
noncomputable abbrev ref02_Size_L2_c : Code := loopOf Tryz.f59 2
theorem ref02_Size_L2_s (p0 : (List UInt64)) (s : Int) : ∀ o, ref02_Size_L2 p0 s = some o → LpK Tryz.prog f59H 0 2 ref02_Size_L2_c (ref02_Size_L2_st p0 s) (fun e s' => e = (ref02_Size_L2_out p0 o).1 ∧ s' = (ref02_Size_L2_out p0 o).2) := fun o => iter_sound (tr := fun s => (ref02_Size_T2 p0 s)) (st := fun s => ref02_Size_L2_st p0 s) (by kernel_rfl) (fun s K => by kernel_rfl) F0 s o
noncomputable def ref02_Size_T (a0 : (List UInt64)) : Tree (RTs.den [.d .i64]) :=
 .ex (ref02_Size_L2_s a0 (↑(List.length a0) : Int)) fun y0 =>
 .ret y0
noncomputable def ref02_Size (a0 : (List UInt64)) : Option (RTs.den [.d .i64]) := (ref02_Size_T a0).run
theorem ref02_Size_s (a0 : (List UInt64)) : ∀ y, ref02_Size a0 = some y → CSem Tryz.prog 59 [Ty.e (.slice .u64) a0] [] (fun v b => v = (RTs.shape [.d .i64] y).1 ∧ b = (RTs.shape [.d .i64] y).2) := fun_sound (H := f59H) (fn := Tryz.f59) (by kernel_rfl) (by kernel_rfl) (fun post => by kernel_rfl)
noncomputable def f152H : Hint := ⟨fun _ => false, false, fun _ => [], fun _ => [], fun _ => [], fun _ => [], fun _ => [], fun _ => [], resOf P 152, fun g _ _ => retOf P g⟩
noncomputable def ref02_at_T (h0 : (List UInt64)) (i1 : Int) : Tree (RTs.den [.d .u64]) :=
 .br (decide (i1 < 0))
  (.ret (0 : UInt64))
  (.br (decide ((↑(List.length h0) : Int) ≤ i1))
   (.ret (0 : UInt64))
   (.ob ((((0 : Int) ≤ i1) ∧ (i1 < (↑(List.length h0) : Int)))) (
   .ret (List.getD h0 (Int.toNat i1) default))))
noncomputable def ref02_at (h0 : (List UInt64)) (i1 : Int) : Option (RTs.den [.d .u64]) := (ref02_at_T h0 i1).run
theorem ref02_at_s (h0 : (List UInt64)) (i1 : Int) : ∀ y, ref02_at h0 i1 = some y → CSem Tryz.prog 152 [Ty.e (.slice .u64) h0, Ty.e .i64 i1] [] (fun v b => v = (RTs.shape [.d .u64] y).1 ∧ b = (RTs.shape [.d .u64] y).2) := fun_sound (H := f152H) (fn := Tryz.f152) (by kernel_rfl) (by kernel_rfl) (fun post => by kernel_rfl)
noncomputable def f94H : Hint := ⟨fun _ => false, false, fun n => lk n [(3, [0, 1, 6])], fun _ => [], fun _ => [], fun _ => [], fun _ => [], fun n => lk n [(3, [⟨.exit 0, [], [], mores P [], []⟩, ⟨.ret, [4], [], mores P [(4, 3)], []⟩])], resOf P 94, fun g _ _ => retOf P g⟩
noncomputable def ref02_Cmp_L3_st (p0 p1 : (List UInt64)) (s : Int) : St := ⟨slots 32 [(0, .e (.c (.sl .u64 p0))), (1, .e (.c (.sl .u64 p1))), (6, .e (.c (.i64 s)))], []⟩
noncomputable def ref02_Cmp_L3_out (p0 p1 : (List UInt64)) : (Unit ⊕ Int) → Exit × St := fun y => match y with
  | (.inl y) => ((.exit 0), ⟨slots 32 [], []⟩)
  | (.inr y) => (.ret, ⟨slots 32 [(4, .e (.c (.i64 y)))], []⟩)
noncomputable def ref02_Cmp_T3 (p0 p1 : (List UInt64)) (s : Int) : Tree (Int ⊕ (Unit ⊕ Int)) :=
 .br (decide ((0 : Int) ≤ s))
  (.ex (ref02_at_s p0 s) fun y0 =>
  .ex (ref02_at_s p1 s) fun y1 =>
  .br (decide (y0 < y1))
   (.ret (.inr (.inr (-1))))
   (.br (decide (y1 < y0))
    (.ret (.inr (.inr 1)))
    (.ret (.inl (w64 (s - 1))))))
  (.ret (.inr (.inl ())))
noncomputable def ref02_Cmp_L3 (p0 p1 : (List UInt64)) (s : Int) : Option (Unit ⊕ Int) := iter (fun s => (ref02_Cmp_T3 p0 p1 s).run) F0 s
noncomputable abbrev ref02_Cmp_L3_c : Code := loopOf Tryz.f94 3
theorem ref02_Cmp_L3_s (p0 p1 : (List UInt64)) (s : Int) : ∀ o, ref02_Cmp_L3 p0 p1 s = some o → LpK Tryz.prog f94H 0 3 ref02_Cmp_L3_c (ref02_Cmp_L3_st p0 p1 s) (fun e s' => e = (ref02_Cmp_L3_out p0 p1 o).1 ∧ s' = (ref02_Cmp_L3_out p0 p1 o).2) := fun o => iter_sound (tr := fun s => (ref02_Cmp_T3 p0 p1 s)) (st := fun s => ref02_Cmp_L3_st p0 p1 s) (by kernel_rfl) (fun s K => by kernel_rfl) F0 s o
noncomputable def ref02_Cmp_T (a0 : (List UInt64)) (b1 : (List UInt64)) : Tree (RTs.den [.d .i64]) :=
 .alt (isL (ref02_Cmp_L3 a0 b1 (w64 ((max (↑(List.length a0) : Int) (↑(List.length b1) : Int)) - 1))))
  (.an (s_u (s_l (ref02_Cmp_L3_s a0 b1 (w64 ((max (↑(List.length a0) : Int) (↑(List.length b1) : Int)) - 1))))) (
  .ret 0))
  (.ex (s_r (ref02_Cmp_L3_s a0 b1 (w64 ((max (↑(List.length a0) : Int) (↑(List.length b1) : Int)) - 1)))) fun y0 =>
  .ret y0)
noncomputable def ref02_Cmp (a0 : (List UInt64)) (b1 : (List UInt64)) : Option (RTs.den [.d .i64]) := (ref02_Cmp_T a0 b1).run
theorem ref02_Cmp_s (a0 : (List UInt64)) (b1 : (List UInt64)) : ∀ y, ref02_Cmp a0 b1 = some y → CSem Tryz.prog 94 [Ty.e (.slice .u64) a0, Ty.e (.slice .u64) b1] [] (fun v b => v = (RTs.shape [.d .i64] y).1 ∧ b = (RTs.shape [.d .i64] y).2) := fun_sound (H := f94H) (fn := Tryz.f94) (by kernel_rfl) (by kernel_rfl) (fun post => by kernel_rfl)
noncomputable def f97H : Hint := ⟨fun _ => false, false, fun n => lk n [(3, [0, 3, 6, 7])], fun _ => [], fun n => lk n [(3, openOf P [(3, 30)])], fun _ => [], fun _ => [], fun n => lk n [(3, [⟨.exit 0, [3], [3], mores P [], []⟩])], resOf P 97, fun g _ _ => retOf P g⟩
noncomputable def ref02_Trim_L3_st (p0 : (List UInt64)) (p1 : Int) (s : (Int × (List UInt64))) : St := ⟨slots 19 [(0, .e (.c (.sl .u64 p0))), (3, .e (.c (.ref 0))), (6, .e (.c (.i64 p1))), (7, .e (.c (.i64 s.1)))], [.row 33 .u64 s.2 false]⟩
noncomputable def ref02_Trim_L3_out (p0 : (List UInt64)) (p1 : Int) : (List UInt64) → Exit × St := fun y => ((.exit 0), ⟨slots 19 [(3, .e (.c (.ref 0)))], [.row 33 .u64 y false]⟩)
noncomputable def ref02_Trim_T3 (p0 : (List UInt64)) (p1 : Int) (s : (Int × (List UInt64))) : Tree ((Int × (List UInt64)) ⊕ (List UInt64)) :=
 .br (decide (s.1 < p1))
  (.ob ((((0 : Int) ≤ s.1) ∧ (s.1 < (↑(List.length p0) : Int)))) (
  .ob (((((List.length s.2) + 1) * 8) ≤ 140737488355328)) (
  .ret (.inl ((w64 (s.1 + 1)), (s.2 ++ ((List.getD p0 (Int.toNat s.1) default) :: [])))))))
  (.ret (.inr s.2))
noncomputable def ref02_Trim_L3 (p0 : (List UInt64)) (p1 : Int) (s : (Int × (List UInt64))) : Option (List UInt64) := iter (fun s => (ref02_Trim_T3 p0 p1 s).run) F0 s
noncomputable abbrev ref02_Trim_L3_c : Code := loopOf Tryz.f97 3
theorem ref02_Trim_L3_s (p0 : (List UInt64)) (p1 : Int) (s : (Int × (List UInt64))) : ∀ o, ref02_Trim_L3 p0 p1 s = some o → LpK Tryz.prog f97H 0 3 ref02_Trim_L3_c (ref02_Trim_L3_st p0 p1 s) (fun e s' => e = (ref02_Trim_L3_out p0 p1 o).1 ∧ s' = (ref02_Trim_L3_out p0 p1 o).2) := fun o => iter_sound (tr := fun s => (ref02_Trim_T3 p0 p1 s)) (st := fun s => ref02_Trim_L3_st p0 p1 s) (by kernel_rfl) (fun s K => by kernel_rfl) F0 s o
noncomputable def ref02_Trim_T (a0 : (List UInt64)) : Tree (RTs.den [.d (.slice .u64)]) :=
 .ex (ref02_Size_s a0) fun y0 =>
 .ex (ref02_Trim_L3_s a0 y0 (0, [])) fun y1 =>
 .ret y1
noncomputable def ref02_Trim (a0 : (List UInt64)) : Option (RTs.den [.d (.slice .u64)]) := (ref02_Trim_T a0).run
theorem ref02_Trim_s (a0 : (List UInt64)) : ∀ y, ref02_Trim a0 = some y → CSem Tryz.prog 97 [Ty.e (.slice .u64) a0] [] (fun v b => v = (RTs.shape [.d (.slice .u64)] y).1 ∧ b = (RTs.shape [.d (.slice .u64)] y).2) := fun_sound (H := f97H) (fn := Tryz.f97) (by kernel_rfl) (by kernel_rfl) (fun post => by kernel_rfl)
noncomputable def f155H : Hint := ⟨fun _ => false, false, fun _ => [], fun _ => [], fun _ => [], fun _ => [], fun _ => [], fun _ => [], resOf P 155, fun g _ _ => retOf P g⟩
noncomputable def ref02_Bit_T (a0 : (List UInt64)) (i1 : Int) : Tree (RTs.den [.d .bool]) :=
 .br (decide ((0 : Int) ≤ i1))
  (.ob (((64 : Int) ≠ 0)) (
  .br (decide ((w64 (Int.tdiv i1 64)) < (↑(List.length a0) : Int)))
   (.ob (((64 : Int) ≠ 0)) (
   .ob ((((0 : Int) ≤ (w64 (Int.tdiv i1 64))) ∧ ((w64 (Int.tdiv i1 64)) < (↑(List.length a0) : Int)))) (
   .ob (((64 : Int) ≠ 0)) (
   .ret (decide (((shrU (List.getD a0 (Int.toNat (w64 (Int.tdiv i1 64))) default) (UInt64.toNat (UInt64.ofNat (Int.toNat ((Int.tmod i1 64) % 18446744073709551616))))) &&& (1 : UInt64)) = (1 : UInt64)))))))
   (.ret Bool.false)))
  (.ret Bool.false)
noncomputable def ref02_Bit (a0 : (List UInt64)) (i1 : Int) : Option (RTs.den [.d .bool]) := (ref02_Bit_T a0 i1).run
theorem ref02_Bit_s (a0 : (List UInt64)) (i1 : Int) : ∀ y, ref02_Bit a0 i1 = some y → CSem Tryz.prog 155 [Ty.e (.slice .u64) a0, Ty.e .i64 i1] [] (fun v b => v = (RTs.shape [.d .bool] y).1 ∧ b = (RTs.shape [.d .bool] y).2) := fun_sound (H := f155H) (fn := Tryz.f155) (by kernel_rfl) (by kernel_rfl) (fun post => by kernel_rfl)
noncomputable def f98H : Hint := ⟨fun _ => false, false, fun n => lk n [(4, [0, 3])], fun _ => [], fun _ => [], fun _ => [], fun _ => [], fun n => lk n [(4, [⟨.exit 0, [3], [3], mores P [], []⟩])], resOf P 98, fun g _ _ => retOf P g⟩
noncomputable def ref02_Even_L4_st (p0 : (List UInt64)) (s : Int) : St := ⟨slots 14 [(0, .e (.c (.sl .u64 p0))), (3, .e (.c (.i64 s)))], []⟩
noncomputable def ref02_Even_L4_out (p0 : (List UInt64)) : Int → Exit × St := fun y => ((.exit 0), ⟨slots 14 [(3, .e (.c (.i64 y)))], []⟩)
noncomputable def ref02_Even_T4 (p0 : (List UInt64)) (s : Int) : Tree (Int ⊕ Int) :=
 .ex (ref02_Bit_s p0 s) fun y0 =>
 .br (!y0)
  (.ret (.inl (w64 (s + 1))))
  (.ret (.inr s))
noncomputable def ref02_Even_L4 (p0 : (List UInt64)) (s : Int) : Option Int := iter (fun s => (ref02_Even_T4 p0 s).run) F0 s
noncomputable abbrev ref02_Even_L4_c : Code := loopOf Tryz.f98 4
theorem ref02_Even_L4_s (p0 : (List UInt64)) (s : Int) : ∀ o, ref02_Even_L4 p0 s = some o → LpK Tryz.prog f98H 0 4 ref02_Even_L4_c (ref02_Even_L4_st p0 s) (fun e s' => e = (ref02_Even_L4_out p0 o).1 ∧ s' = (ref02_Even_L4_out p0 o).2) := fun o => iter_sound (tr := fun s => (ref02_Even_T4 p0 s)) (st := fun s => ref02_Even_L4_st p0 s) (by kernel_rfl) (fun s K => by kernel_rfl) F0 s o
noncomputable def ref02_Even_T (a0 : (List UInt64)) : Tree (RTs.den [.d .i64]) :=
 .ex (ref02_Size_s a0) fun y0 =>
 .br (decide (y0 = 0))
  (.ret 0)
  (.ex (ref02_Even_L4_s a0 0) fun y1 =>
  .ret y1)
noncomputable def ref02_Even (a0 : (List UInt64)) : Option (RTs.den [.d .i64]) := (ref02_Even_T a0).run
theorem ref02_Even_s (a0 : (List UInt64)) : ∀ y, ref02_Even a0 = some y → CSem Tryz.prog 98 [Ty.e (.slice .u64) a0] [] (fun v b => v = (RTs.shape [.d .i64] y).1 ∧ b = (RTs.shape [.d .i64] y).2) := fun_sound (H := f98H) (fn := Tryz.f98) (by kernel_rfl) (by kernel_rfl) (fun post => by kernel_rfl)
noncomputable def f99H : Hint := ⟨fun _ => false, false, fun n => lk n [(4, [0, 1, 5, 6]), (11, [5, 7, 35, 36])], fun _ => [], fun n => lk n [(4, openOf P [(5, 30)])], fun _ => [], fun _ => [], fun n => lk n [(4, [⟨.exit 0, [1, 5], [5], mores P [], []⟩]), (11, [⟨.exit 2, [5], [], mores P [], []⟩])], resOf P 99, fun g _ _ => retOf P g⟩
noncomputable def ref02_Shr_L11_st (p0 : UInt64) (p1 : Int) (s : (Int × (List UInt64))) : St := ⟨slots 72 [(5, .e (.c (.ref 0))), (7, .e (.c (.u64 p0))), (35, .e (.c (.i64 p1))), (36, .e (.c (.i64 s.1)))], [.row 33 .u64 s.2 false]⟩
noncomputable def ref02_Shr_L11_out (p0 : UInt64) (p1 : Int) : (List UInt64) → Exit × St := fun y => ((.exit 2), ⟨slots 72 [(5, .e (.c (.ref 0)))], [.row 33 .u64 y false]⟩)
noncomputable def ref02_Shr_T11 (p0 : UInt64) (p1 : Int) (s : (Int × (List UInt64))) : Tree ((Int × (List UInt64)) ⊕ (List UInt64)) :=
 .br (decide (s.1 < p1))
  (.ob ((((0 : Int) ≤ s.1) ∧ (s.1 < (↑(List.length s.2) : Int)))) (
  .ob ((((0 : Int) ≤ s.1) ∧ (s.1 < (↑(List.length s.2) : Int)))) (
  .br (decide ((w64 (s.1 + 1)) < (↑(List.length (List.set s.2 (Int.toNat s.1) (shrU (List.getD s.2 (Int.toNat s.1) default) (UInt64.toNat p0)))) : Int)))
   (.ob ((((0 : Int) ≤ s.1) ∧ (s.1 < (↑(List.length (List.set s.2 (Int.toNat s.1) (shrU (List.getD s.2 (Int.toNat s.1) default) (UInt64.toNat p0)))) : Int)))) (
   .ob ((((0 : Int) ≤ (w64 (s.1 + 1))) ∧ ((w64 (s.1 + 1)) < (↑(List.length (List.set s.2 (Int.toNat s.1) (shrU (List.getD s.2 (Int.toNat s.1) default) (UInt64.toNat p0)))) : Int)))) (
   .ob ((((0 : Int) ≤ s.1) ∧ (s.1 < (↑(List.length (List.set s.2 (Int.toNat s.1) (shrU (List.getD s.2 (Int.toNat s.1) default) (UInt64.toNat p0)))) : Int)))) (
   .ret (.inl ((w64 (s.1 + 1)), (List.set (List.set s.2 (Int.toNat s.1) (shrU (List.getD s.2 (Int.toNat s.1) default) (UInt64.toNat p0))) (Int.toNat s.1) ((List.getD (List.set s.2 (Int.toNat s.1) (shrU (List.getD s.2 (Int.toNat s.1) default) (UInt64.toNat p0))) (Int.toNat s.1) default) ||| (shlU (List.getD (List.set s.2 (Int.toNat s.1) (shrU (List.getD s.2 (Int.toNat s.1) default) (UInt64.toNat p0))) (Int.toNat (w64 (s.1 + 1))) default) (UInt64.toNat ((64 : UInt64) - p0)))))))))))
   (.ret (.inl ((w64 (s.1 + 1)), (List.set s.2 (Int.toNat s.1) (shrU (List.getD s.2 (Int.toNat s.1) default) (UInt64.toNat p0)))))))))
  (.ret (.inr s.2))
noncomputable def ref02_Shr_L11 (p0 : UInt64) (p1 : Int) (s : (Int × (List UInt64))) : Option (List UInt64) := iter (fun s => (ref02_Shr_T11 p0 p1 s).run) F0 s
noncomputable abbrev ref02_Shr_L11_c : Code := loopOf Tryz.f99 11
theorem ref02_Shr_L11_s (p0 : UInt64) (p1 : Int) (s : (Int × (List UInt64))) : ∀ o, ref02_Shr_L11 p0 p1 s = some o → LpK Tryz.prog f99H 0 11 ref02_Shr_L11_c (ref02_Shr_L11_st p0 p1 s) (fun e s' => e = (ref02_Shr_L11_out p0 p1 o).1 ∧ s' = (ref02_Shr_L11_out p0 p1 o).2) := fun o => iter_sound (tr := fun s => (ref02_Shr_T11 p0 p1 s)) (st := fun s => ref02_Shr_L11_st p0 p1 s) (by kernel_rfl) (fun s K => by kernel_rfl) F0 s o
noncomputable def ref02_Shr_L4_st (p0 : (List UInt64)) (p1 : Int) (s : (Int × (List UInt64))) : St := ⟨slots 72 [(0, .e (.c (.sl .u64 p0))), (1, .e (.c (.i64 p1))), (5, .e (.c (.ref 0))), (6, .e (.c (.i64 s.1)))], [.row 33 .u64 s.2 false]⟩
noncomputable def ref02_Shr_L4_out (p0 : (List UInt64)) (p1 : Int) : (List UInt64) → Exit × St := fun y => ((.exit 0), ⟨slots 72 [(1, .e (.c (.i64 p1))), (5, .e (.c (.ref 0)))], [.row 33 .u64 y false]⟩)
noncomputable def ref02_Shr_T4 (p0 : (List UInt64)) (p1 : Int) (s : (Int × (List UInt64))) : Tree ((Int × (List UInt64)) ⊕ (List UInt64)) :=
 .br (decide (s.1 < (↑(List.length p0) : Int)))
  (.ob ((((0 : Int) ≤ s.1) ∧ (s.1 < (↑(List.length p0) : Int)))) (
  .ob (((((List.length s.2) + 1) * 8) ≤ 140737488355328)) (
  .ret (.inl ((w64 (s.1 + 1)), (s.2 ++ ((List.getD p0 (Int.toNat s.1) default) :: [])))))))
  (.ret (.inr s.2))
noncomputable def ref02_Shr_L4 (p0 : (List UInt64)) (p1 : Int) (s : (Int × (List UInt64))) : Option (List UInt64) := iter (fun s => (ref02_Shr_T4 p0 p1 s).run) F0 s
noncomputable abbrev ref02_Shr_L4_c : Code := loopOf Tryz.f99 4
theorem ref02_Shr_L4_s (p0 : (List UInt64)) (p1 : Int) (s : (Int × (List UInt64))) : ∀ o, ref02_Shr_L4 p0 p1 s = some o → LpK Tryz.prog f99H 0 4 ref02_Shr_L4_c (ref02_Shr_L4_st p0 p1 s) (fun e s' => e = (ref02_Shr_L4_out p0 p1 o).1 ∧ s' = (ref02_Shr_L4_out p0 p1 o).2) := fun o => iter_sound (tr := fun s => (ref02_Shr_T4 p0 p1 s)) (st := fun s => ref02_Shr_L4_st p0 p1 s) (by kernel_rfl) (fun s K => by kernel_rfl) F0 s o
noncomputable def ref02_Shr_T (toArray0 : (List UInt64)) (a1 : Int) : Tree (RTs.den [.d (.slice .u64)]) :=
 .ob (((64 : Int) ≠ 0)) (
 .ex (ref02_Shr_L4_s toArray0 (max a1 0) ((w64 (Int.tdiv (max a1 0) 64)), [])) fun y0 =>
 .ob (((64 : Int) ≠ 0)) (
 .br (decide ((Int.tmod (max a1 0) 64) = 0))
  (.ex (ref02_Trim_s y0) fun y1 =>
  .ret y1)
  (.ob (((64 : Int) ≠ 0)) (
  .ex (ref02_Shr_L11_s (UInt64.ofNat (Int.toNat ((Int.tmod (max a1 0) 64) % 18446744073709551616))) (↑(List.length y0) : Int) (0, y0)) fun y2 =>
  .ex (ref02_Trim_s y2) fun y3 =>
  .ret y3))))
noncomputable def ref02_Shr (toArray0 : (List UInt64)) (a1 : Int) : Option (RTs.den [.d (.slice .u64)]) := (ref02_Shr_T toArray0 a1).run
theorem ref02_Shr_s (toArray0 : (List UInt64)) (a1 : Int) : ∀ y, ref02_Shr toArray0 a1 = some y → CSem Tryz.prog 99 [Ty.e (.slice .u64) toArray0, Ty.e .i64 a1] [] (fun v b => v = (RTs.shape [.d (.slice .u64)] y).1 ∧ b = (RTs.shape [.d (.slice .u64)] y).2) := fun_sound (H := f99H) (fn := Tryz.f99) (by kernel_rfl) (by kernel_rfl) (fun post => by kernel_rfl)
noncomputable def f100H : Hint := ⟨fun _ => false, false, fun n => lk n [(4, [0, 1, 5, 13, 14]), (8, [0, 1, 5, 21, 22]), (17, [5, 7, 8])], fun _ => [], fun n => lk n [(4, openOf P [(5, 30)]), (8, openOf P [(5, 30)])], fun _ => [], fun _ => [], fun n => lk n [(4, [⟨.exit 0, [0, 1, 5], [5], mores P [], []⟩]), (8, [⟨.exit 2, [1, 5], [5], mores P [], []⟩]), (17, [⟨.exit 4, [5, 7], [], mores P [], []⟩])], resOf P 100, fun g _ _ => retOf P g⟩
noncomputable def ref02_Shl_L17_st (p0 : UInt64) (s : (Int × (List UInt64))) : St := ⟨slots 78 [(5, .e (.c (.ref 0))), (7, .e (.c (.u64 p0))), (8, .e (.c (.i64 s.1)))], [.row 33 .u64 s.2 false]⟩
noncomputable def ref02_Shl_L17_out (p0 : UInt64) : (List UInt64) → Exit × St := fun y => ((.exit 4), ⟨slots 78 [(5, .e (.c (.ref 0))), (7, .e (.c (.u64 p0)))], [.row 33 .u64 y false]⟩)
noncomputable def ref02_Shl_T17 (p0 : UInt64) (s : (Int × (List UInt64))) : Tree ((Int × (List UInt64)) ⊕ (List UInt64)) :=
 .br (decide ((0 : Int) < s.1))
  (.ob ((((0 : Int) ≤ s.1) ∧ (s.1 < (↑(List.length s.2) : Int)))) (
  .ob ((((0 : Int) ≤ (w64 (s.1 - 1))) ∧ ((w64 (s.1 - 1)) < (↑(List.length s.2) : Int)))) (
  .ob ((((0 : Int) ≤ s.1) ∧ (s.1 < (↑(List.length s.2) : Int)))) (
  .ret (.inl ((w64 (s.1 - 1)), (List.set s.2 (Int.toNat s.1) ((shlU (List.getD s.2 (Int.toNat s.1) default) (UInt64.toNat p0)) ||| (shrU (List.getD s.2 (Int.toNat (w64 (s.1 - 1))) default) (UInt64.toNat ((64 : UInt64) - p0)))))))))))
  (.ret (.inr s.2))
noncomputable def ref02_Shl_L17 (p0 : UInt64) (s : (Int × (List UInt64))) : Option (List UInt64) := iter (fun s => (ref02_Shl_T17 p0 s).run) F0 s
noncomputable abbrev ref02_Shl_L17_c : Code := loopOf Tryz.f100 17
theorem ref02_Shl_L17_s (p0 : UInt64) (s : (Int × (List UInt64))) : ∀ o, ref02_Shl_L17 p0 s = some o → LpK Tryz.prog f100H 0 17 ref02_Shl_L17_c (ref02_Shl_L17_st p0 s) (fun e s' => e = (ref02_Shl_L17_out p0 o).1 ∧ s' = (ref02_Shl_L17_out p0 o).2) := fun o => iter_sound (tr := fun s => (ref02_Shl_T17 p0 s)) (st := fun s => ref02_Shl_L17_st p0 s) (by kernel_rfl) (fun s K => by kernel_rfl) F0 s o
noncomputable def ref02_Shl_L8_st (p0 : (List UInt64)) (p1 p2 : Int) (s : (Int × (List UInt64))) : St := ⟨slots 78 [(0, .e (.c (.sl .u64 p0))), (1, .e (.c (.i64 p1))), (5, .e (.c (.ref 0))), (21, .e (.c (.i64 p2))), (22, .e (.c (.i64 s.1)))], [.row 33 .u64 s.2 false]⟩
noncomputable def ref02_Shl_L8_out (p0 : (List UInt64)) (p1 p2 : Int) : (List UInt64) → Exit × St := fun y => ((.exit 2), ⟨slots 78 [(1, .e (.c (.i64 p1))), (5, .e (.c (.ref 0)))], [.row 33 .u64 y false]⟩)
noncomputable def ref02_Shl_T8 (p0 : (List UInt64)) (p1 p2 : Int) (s : (Int × (List UInt64))) : Tree ((Int × (List UInt64)) ⊕ (List UInt64)) :=
 .br (decide (s.1 < p2))
  (.ob ((((0 : Int) ≤ s.1) ∧ (s.1 < (↑(List.length p0) : Int)))) (
  .ob (((((List.length s.2) + 1) * 8) ≤ 140737488355328)) (
  .ret (.inl ((w64 (s.1 + 1)), (s.2 ++ ((List.getD p0 (Int.toNat s.1) default) :: [])))))))
  (.ret (.inr s.2))
noncomputable def ref02_Shl_L8 (p0 : (List UInt64)) (p1 p2 : Int) (s : (Int × (List UInt64))) : Option (List UInt64) := iter (fun s => (ref02_Shl_T8 p0 p1 p2 s).run) F0 s
noncomputable abbrev ref02_Shl_L8_c : Code := loopOf Tryz.f100 8
theorem ref02_Shl_L8_s (p0 : (List UInt64)) (p1 p2 : Int) (s : (Int × (List UInt64))) : ∀ o, ref02_Shl_L8 p0 p1 p2 s = some o → LpK Tryz.prog f100H 0 8 ref02_Shl_L8_c (ref02_Shl_L8_st p0 p1 p2 s) (fun e s' => e = (ref02_Shl_L8_out p0 p1 p2 o).1 ∧ s' = (ref02_Shl_L8_out p0 p1 p2 o).2) := fun o => iter_sound (tr := fun s => (ref02_Shl_T8 p0 p1 p2 s)) (st := fun s => ref02_Shl_L8_st p0 p1 p2 s) (by kernel_rfl) (fun s K => by kernel_rfl) F0 s o
noncomputable def ref02_Shl_L4_st (p0 : (List UInt64)) (p1 p2 : Int) (s : (Int × (List UInt64))) : St := ⟨slots 78 [(0, .e (.c (.sl .u64 p0))), (1, .e (.c (.i64 p1))), (5, .e (.c (.ref 0))), (13, .e (.c (.i64 p2))), (14, .e (.c (.i64 s.1)))], [.row 33 .u64 s.2 false]⟩
noncomputable def ref02_Shl_L4_out (p0 : (List UInt64)) (p1 p2 : Int) : (List UInt64) → Exit × St := fun y => ((.exit 0), ⟨slots 78 [(0, .e (.c (.sl .u64 p0))), (1, .e (.c (.i64 p1))), (5, .e (.c (.ref 0)))], [.row 33 .u64 y false]⟩)
noncomputable def ref02_Shl_T4 (p0 : (List UInt64)) (p1 p2 : Int) (s : (Int × (List UInt64))) : Tree ((Int × (List UInt64)) ⊕ (List UInt64)) :=
 .br (decide (s.1 < p2))
  (.ob (((((List.length s.2) + 1) * 8) ≤ 140737488355328)) (
  .ret (.inl ((w64 (s.1 + 1)), (s.2 ++ ((0 : UInt64) :: []))))))
  (.ret (.inr s.2))
noncomputable def ref02_Shl_L4 (p0 : (List UInt64)) (p1 p2 : Int) (s : (Int × (List UInt64))) : Option (List UInt64) := iter (fun s => (ref02_Shl_T4 p0 p1 p2 s).run) F0 s
noncomputable abbrev ref02_Shl_L4_c : Code := loopOf Tryz.f100 4
theorem ref02_Shl_L4_s (p0 : (List UInt64)) (p1 p2 : Int) (s : (Int × (List UInt64))) : ∀ o, ref02_Shl_L4 p0 p1 p2 s = some o → LpK Tryz.prog f100H 0 4 ref02_Shl_L4_c (ref02_Shl_L4_st p0 p1 p2 s) (fun e s' => e = (ref02_Shl_L4_out p0 p1 p2 o).1 ∧ s' = (ref02_Shl_L4_out p0 p1 p2 o).2) := fun o => iter_sound (tr := fun s => (ref02_Shl_T4 p0 p1 p2 s)) (st := fun s => ref02_Shl_L4_st p0 p1 p2 s) (by kernel_rfl) (fun s K => by kernel_rfl) F0 s o
noncomputable def ref02_Shl_T (toArray0 : (List UInt64)) (a1 : Int) : Tree (RTs.den [.d (.slice .u64)]) :=
 .ob (((64 : Int) ≠ 0)) (
 .ex (ref02_Shl_L4_s toArray0 (min (max a1 0) 65536) (w64 (Int.tdiv (min (max a1 0) 65536) 64)) (0, [])) fun y0 =>
 .ex (ref02_Shl_L8_s toArray0 (min (max a1 0) 65536) (↑(List.length toArray0) : Int) (0, y0)) fun y1 =>
 .ob (((64 : Int) ≠ 0)) (
 .br (decide ((Int.tmod (min (max a1 0) 65536) 64) = 0))
  (.ex (ref02_Trim_s y1) fun y2 =>
  .ret y2)
  (.ob (((64 : Int) ≠ 0)) (
  .ob (((((List.length y1) + 1) * 8) ≤ 140737488355328)) (
  .ex (ref02_Shl_L17_s (UInt64.ofNat (Int.toNat ((Int.tmod (min (max a1 0) 65536) 64) % 18446744073709551616))) ((w64 ((↑(List.length (y1 ++ ((0 : UInt64) :: []))) : Int) - 1)), (y1 ++ ((0 : UInt64) :: [])))) fun y3 =>
  .ob ((((0 : Int) ≤ 0) ∧ ((0 : Int) < (↑(List.length y3) : Int)))) (
  .ob ((((0 : Int) ≤ 0) ∧ ((0 : Int) < (↑(List.length y3) : Int)))) (
  .ex (ref02_Trim_s (List.set y3 (Int.toNat 0) (shlU (List.getD y3 (Int.toNat 0) default) (UInt64.toNat (UInt64.ofNat (Int.toNat ((Int.tmod (min (max a1 0) 65536) 64) % 18446744073709551616))))))) fun y4 =>
  .ret y4)))))))
noncomputable def ref02_Shl (toArray0 : (List UInt64)) (a1 : Int) : Option (RTs.den [.d (.slice .u64)]) := (ref02_Shl_T toArray0 a1).run
theorem ref02_Shl_s (toArray0 : (List UInt64)) (a1 : Int) : ∀ y, ref02_Shl toArray0 a1 = some y → CSem Tryz.prog 100 [Ty.e (.slice .u64) toArray0, Ty.e .i64 a1] [] (fun v b => v = (RTs.shape [.d (.slice .u64)] y).1 ∧ b = (RTs.shape [.d (.slice .u64)] y).2) := fun_sound (H := f100H) (fn := Tryz.f100) (by kernel_rfl) (by kernel_rfl) (fun post => by kernel_rfl)
noncomputable def f156H : Hint := ⟨fun _ => false, false, fun n => lk n [(3, [0, 3, 6, 7])], fun _ => [], fun n => lk n [(3, openOf P [(3, 30)])], fun _ => [], fun _ => [], fun n => lk n [(3, [⟨.exit 0, [3], [3], mores P [], []⟩])], resOf P 156, fun g _ _ => retOf P g⟩
noncomputable def ref02_Halves_L3_st (p0 : (List UInt64)) (p1 : Int) (s : (Int × (List UInt64))) : St := ⟨slots 29 [(0, .e (.c (.sl .u64 p0))), (3, .e (.c (.ref 0))), (6, .e (.c (.i64 p1))), (7, .e (.c (.i64 s.1)))], [.row 33 .u64 s.2 false]⟩
noncomputable def ref02_Halves_L3_out (p0 : (List UInt64)) (p1 : Int) : (List UInt64) → Exit × St := fun y => ((.exit 0), ⟨slots 29 [(3, .e (.c (.ref 0)))], [.row 33 .u64 y false]⟩)
noncomputable def ref02_Halves_T3 (p0 : (List UInt64)) (p1 : Int) (s : (Int × (List UInt64))) : Tree ((Int × (List UInt64)) ⊕ (List UInt64)) :=
 .br (decide (s.1 < p1))
  (.ob ((((0 : Int) ≤ s.1) ∧ (s.1 < (↑(List.length p0) : Int)))) (
  .ob (((((List.length s.2) + 1) * 8) ≤ 140737488355328)) (
  .ob ((((0 : Int) ≤ s.1) ∧ (s.1 < (↑(List.length p0) : Int)))) (
  .ob (((((List.length (s.2 ++ (((List.getD p0 (Int.toNat s.1) default) &&& (4294967295 : UInt64)) :: []))) + 1) * 8) ≤ 140737488355328)) (
  .ret (.inl ((w64 (s.1 + 1)), ((s.2 ++ (((List.getD p0 (Int.toNat s.1) default) &&& (4294967295 : UInt64)) :: [])) ++ ((shrU (List.getD p0 (Int.toNat s.1) default) 32) :: [])))))))))
  (.ret (.inr s.2))
noncomputable def ref02_Halves_L3 (p0 : (List UInt64)) (p1 : Int) (s : (Int × (List UInt64))) : Option (List UInt64) := iter (fun s => (ref02_Halves_T3 p0 p1 s).run) F0 s
noncomputable abbrev ref02_Halves_L3_c : Code := loopOf Tryz.f156 3
theorem ref02_Halves_L3_s (p0 : (List UInt64)) (p1 : Int) (s : (Int × (List UInt64))) : ∀ o, ref02_Halves_L3 p0 p1 s = some o → LpK Tryz.prog f156H 0 3 ref02_Halves_L3_c (ref02_Halves_L3_st p0 p1 s) (fun e s' => e = (ref02_Halves_L3_out p0 p1 o).1 ∧ s' = (ref02_Halves_L3_out p0 p1 o).2) := fun o => iter_sound (tr := fun s => (ref02_Halves_T3 p0 p1 s)) (st := fun s => ref02_Halves_L3_st p0 p1 s) (by kernel_rfl) (fun s K => by kernel_rfl) F0 s o
noncomputable def ref02_Halves_T (a0 : (List UInt64)) : Tree (RTs.den [.d (.slice .u64)]) :=
 .ex (ref02_Halves_L3_s a0 (↑(List.length a0) : Int) (0, [])) fun y0 =>
 .ex (ref02_Trim_s y0) fun y1 =>
 .ret y1
noncomputable def ref02_Halves (a0 : (List UInt64)) : Option (RTs.den [.d (.slice .u64)]) := (ref02_Halves_T a0).run
theorem ref02_Halves_s (a0 : (List UInt64)) : ∀ y, ref02_Halves a0 = some y → CSem Tryz.prog 156 [Ty.e (.slice .u64) a0] [] (fun v b => v = (RTs.shape [.d (.slice .u64)] y).1 ∧ b = (RTs.shape [.d (.slice .u64)] y).2) := fun_sound (H := f156H) (fn := Tryz.f156) (by kernel_rfl) (by kernel_rfl) (fun post => by kernel_rfl)
noncomputable def f157H : Hint := ⟨fun _ => false, false, fun n => lk n [(3, [0, 3, 4])], fun _ => [], fun n => lk n [(3, openOf P [(3, 30)])], fun _ => [], fun _ => [], fun n => lk n [(3, [⟨.exit 0, [3], [3], mores P [], []⟩])], resOf P 157, fun g _ _ => retOf P g⟩
noncomputable def ref02_Whole_L3_st (p0 : (List UInt64)) (s : (Int × (List UInt64))) : St := ⟨slots 35 [(0, .e (.c (.sl .u64 p0))), (3, .e (.c (.ref 0))), (4, .e (.c (.i64 s.1)))], [.row 33 .u64 s.2 false]⟩
noncomputable def ref02_Whole_L3_out (p0 : (List UInt64)) : (List UInt64) → Exit × St := fun y => ((.exit 0), ⟨slots 35 [(3, .e (.c (.ref 0)))], [.row 33 .u64 y false]⟩)
noncomputable def ref02_Whole_T3 (p0 : (List UInt64)) (s : (Int × (List UInt64))) : Tree ((Int × (List UInt64)) ⊕ (List UInt64)) :=
 .br (decide (s.1 < (↑(List.length p0) : Int)))
  (.ob ((((0 : Int) ≤ s.1) ∧ (s.1 < (↑(List.length p0) : Int)))) (
  .br (decide ((w64 (s.1 + 1)) < (↑(List.length p0) : Int)))
   (.ob ((((0 : Int) ≤ (w64 (s.1 + 1))) ∧ ((w64 (s.1 + 1)) < (↑(List.length p0) : Int)))) (
   .ob (((((List.length s.2) + 1) * 8) ≤ 140737488355328)) (
   .ret (.inl ((w64 (s.1 + 2)), (s.2 ++ (((List.getD p0 (Int.toNat s.1) default) ||| (shlU (List.getD p0 (Int.toNat (w64 (s.1 + 1))) default) 32)) :: [])))))))
   (.ob (((((List.length s.2) + 1) * 8) ≤ 140737488355328)) (
   .ret (.inl ((w64 (s.1 + 2)), (s.2 ++ ((List.getD p0 (Int.toNat s.1) default) :: []))))))))
  (.ret (.inr s.2))
noncomputable def ref02_Whole_L3 (p0 : (List UInt64)) (s : (Int × (List UInt64))) : Option (List UInt64) := iter (fun s => (ref02_Whole_T3 p0 s).run) F0 s
noncomputable abbrev ref02_Whole_L3_c : Code := loopOf Tryz.f157 3
theorem ref02_Whole_L3_s (p0 : (List UInt64)) (s : (Int × (List UInt64))) : ∀ o, ref02_Whole_L3 p0 s = some o → LpK Tryz.prog f157H 0 3 ref02_Whole_L3_c (ref02_Whole_L3_st p0 s) (fun e s' => e = (ref02_Whole_L3_out p0 o).1 ∧ s' = (ref02_Whole_L3_out p0 o).2) := fun o => iter_sound (tr := fun s => (ref02_Whole_T3 p0 s)) (st := fun s => ref02_Whole_L3_st p0 s) (by kernel_rfl) (fun s K => by kernel_rfl) F0 s o
noncomputable def ref02_Whole_T (h0 : (List UInt64)) : Tree (RTs.den [.d (.slice .u64)]) :=
 .ex (ref02_Whole_L3_s h0 (0, [])) fun y0 =>
 .ex (ref02_Trim_s y0) fun y1 =>
 .ret y1
noncomputable def ref02_Whole (h0 : (List UInt64)) : Option (RTs.den [.d (.slice .u64)]) := (ref02_Whole_T h0).run
theorem ref02_Whole_s (h0 : (List UInt64)) : ∀ y, ref02_Whole h0 = some y → CSem Tryz.prog 157 [Ty.e (.slice .u64) h0] [] (fun v b => v = (RTs.shape [.d (.slice .u64)] y).1 ∧ b = (RTs.shape [.d (.slice .u64)] y).2) := fun_sound (H := f157H) (fn := Tryz.f157) (by kernel_rfl) (by kernel_rfl) (fun post => by kernel_rfl)
noncomputable def f101H : Hint := ⟨fun _ => false, false, fun n => lk n [(5, [5, 6, 7, 8, 16, 17])], fun _ => [], fun n => lk n [(5, openOf P [(7, 30)])], fun _ => [], fun _ => [], fun n => lk n [(5, [⟨.exit 0, [7], [7], mores P [], []⟩])], resOf P 101, fun g _ _ => retOf P g⟩
noncomputable def ref02_Sub_L5_st (p0 p1 : (List UInt64)) (p2 : Int) (s : (UInt64 × (Int × (List UInt64)))) : St := ⟨slots 42 [(5, .e (.c (.sl .u64 p0))), (6, .e (.c (.sl .u64 p1))), (7, .e (.c (.ref 0))), (8, .e (.c (.u64 s.1))), (16, .e (.c (.i64 p2))), (17, .e (.c (.i64 s.2.1)))], [.row 33 .u64 s.2.2 false]⟩
noncomputable def ref02_Sub_L5_out (p0 p1 : (List UInt64)) (p2 : Int) : (List UInt64) → Exit × St := fun y => ((.exit 0), ⟨slots 42 [(7, .e (.c (.ref 0)))], [.row 33 .u64 y false]⟩)
noncomputable def ref02_Sub_T5 (p0 p1 : (List UInt64)) (p2 : Int) (s : (UInt64 × (Int × (List UInt64)))) : Tree ((UInt64 × (Int × (List UInt64))) ⊕ (List UInt64)) :=
 .br (decide (s.2.1 < p2))
  (.ob ((((0 : Int) ≤ s.2.1) ∧ (s.2.1 < (↑(List.length p0) : Int)))) (
  .ex (ref02_at_s p1 s.2.1) fun y0 =>
  .ob (((((List.length s.2.2) + 1) * 8) ≤ 140737488355328)) (
  .ret (.inl (((1 : UInt64) - (shrU ((((4294967296 : UInt64) + (List.getD p0 (Int.toNat s.2.1) default)) - y0) - s.1) 32)), ((w64 (s.2.1 + 1)), (s.2.2 ++ ((((((4294967296 : UInt64) + (List.getD p0 (Int.toNat s.2.1) default)) - y0) - s.1) &&& (4294967295 : UInt64)) :: []))))))))
  (.ret (.inr s.2.2))
noncomputable def ref02_Sub_L5 (p0 p1 : (List UInt64)) (p2 : Int) (s : (UInt64 × (Int × (List UInt64)))) : Option (List UInt64) := iter (fun s => (ref02_Sub_T5 p0 p1 p2 s).run) F0 s
noncomputable abbrev ref02_Sub_L5_c : Code := loopOf Tryz.f101 5
theorem ref02_Sub_L5_s (p0 p1 : (List UInt64)) (p2 : Int) (s : (UInt64 × (Int × (List UInt64)))) : ∀ o, ref02_Sub_L5 p0 p1 p2 s = some o → LpK Tryz.prog f101H 0 5 ref02_Sub_L5_c (ref02_Sub_L5_st p0 p1 p2 s) (fun e s' => e = (ref02_Sub_L5_out p0 p1 p2 o).1 ∧ s' = (ref02_Sub_L5_out p0 p1 p2 o).2) := fun o => iter_sound (tr := fun s => (ref02_Sub_T5 p0 p1 p2 s)) (st := fun s => ref02_Sub_L5_st p0 p1 p2 s) (by kernel_rfl) (fun s K => by kernel_rfl) F0 s o
noncomputable def ref02_Sub_T (a0 : (List UInt64)) (b1 : (List UInt64)) : Tree (RTs.den [.d (.slice .u64)]) :=
 .ex (ref02_Halves_s a0) fun y0 =>
 .ex (ref02_Halves_s b1) fun y1 =>
 .ex (ref02_Sub_L5_s y0 y1 (↑(List.length y0) : Int) ((0 : UInt64), (0, []))) fun y2 =>
 .ex (ref02_Whole_s y2) fun y3 =>
 .ret y3
noncomputable def ref02_Sub (a0 : (List UInt64)) (b1 : (List UInt64)) : Option (RTs.den [.d (.slice .u64)]) := (ref02_Sub_T a0 b1).run
theorem ref02_Sub_s (a0 : (List UInt64)) (b1 : (List UInt64)) : ∀ y, ref02_Sub a0 b1 = some y → CSem Tryz.prog 101 [Ty.e (.slice .u64) a0, Ty.e (.slice .u64) b1] [] (fun v b => v = (RTs.shape [.d (.slice .u64)] y).1 ∧ b = (RTs.shape [.d (.slice .u64)] y).2) := fun_sound (H := f101H) (fn := Tryz.f101) (by kernel_rfl) (by kernel_rfl) (fun post => by kernel_rfl)
noncomputable def f60H : Hint := ⟨fun _ => false, false, fun n => lk n [(7, [5, 6]), (13, [7, 8, 9])], fun _ => [], fun _ => [], fun _ => [], fun n => lk n [(13, mores P [(8, 30), (9, 30)])], fun n => lk n [(7, [⟨.exit 0, [5], [5], mores P [], []⟩]), (13, [⟨.ret, [4], [], mores P [(4, 30)], []⟩])], resOf P 60, fun g _ _ => retOf P g⟩
noncomputable def ref05_Gcd_L13_st (p0 : Int) (s : ((List UInt64) × (List UInt64))) : St := ⟨slots 75 [(7, .e (.c (.i64 p0))), (8, .e (.c (.sl .u64 s.1))), (9, .e (.c (.sl .u64 s.2)))], []⟩
noncomputable def ref05_Gcd_L13_out (p0 : Int) : (List UInt64) → Exit × St := fun y => (.ret, ⟨slots 75 [(4, .e (.c (.sl .u64 y)))], []⟩)
noncomputable def ref05_Gcd_T13 (p0 : Int) (s : ((List UInt64) × (List UInt64))) : Tree (((List UInt64) × (List UInt64)) ⊕ (List UInt64)) :=
 .ex (ref02_Cmp_s s.1 s.2) fun y0 =>
 .br (decide (y0 = 0))
  (.ex (ref02_Shl_s s.1 p0) fun y1 =>
  .ret (.inr y1))
  (.br (decide (y0 < 0))
   (.ex (ref02_Sub_s s.2 s.1) fun y2 =>
   .ex (ref02_Even_s y2) fun y3 =>
   .ex (ref02_Shr_s y2 y3) fun y4 =>
   .ret (.inl (y4, s.1)))
   (.ex (ref02_Sub_s s.1 s.2) fun y5 =>
   .ex (ref02_Even_s y5) fun y6 =>
   .ex (ref02_Shr_s y5 y6) fun y7 =>
   .ret (.inl (y7, s.2))))
noncomputable def ref05_Gcd_L13 (p0 : Int) (s : ((List UInt64) × (List UInt64))) : Option (List UInt64) := iter (fun s => (ref05_Gcd_T13 p0 s).run) F0 s
noncomputable abbrev ref05_Gcd_L13_c : Code := loopOf Tryz.f60 13
theorem ref05_Gcd_L13_s (p0 : Int) (s : ((List UInt64) × (List UInt64))) : ∀ o, ref05_Gcd_L13 p0 s = some o → LpK Tryz.prog f60H 0 13 ref05_Gcd_L13_c (ref05_Gcd_L13_st p0 s) (fun e s' => e = (ref05_Gcd_L13_out p0 o).1 ∧ s' = (ref05_Gcd_L13_out p0 o).2) := fun o => iter_sound (tr := fun s => (ref05_Gcd_T13 p0 s)) (st := fun s => ref05_Gcd_L13_st p0 s) (by kernel_rfl) (fun s K => by kernel_rfl) F0 s o
noncomputable def ref05_Gcd_L7_st (s : (UInt64 × UInt64)) : St := ⟨slots 75 [(5, .e (.c (.u64 s.1))), (6, .e (.c (.u64 s.2)))], []⟩
noncomputable def ref05_Gcd_L7_out : UInt64 → Exit × St := fun y => ((.exit 0), ⟨slots 75 [(5, .e (.c (.u64 y)))], []⟩)
noncomputable def ref05_Gcd_T7 (s : (UInt64 × UInt64)) : Tree ((UInt64 × UInt64) ⊕ UInt64) :=
 .br (decide ((0 : UInt64) < s.2))
  (.ob ((s.2 ≠ 0)) (
  .ret (.inl (s.2, (s.1 % s.2)))))
  (.ret (.inr s.1))
noncomputable def ref05_Gcd_L7 (s : (UInt64 × UInt64)) : Option UInt64 := iter (fun s => (ref05_Gcd_T7 s).run) F0 s
noncomputable abbrev ref05_Gcd_L7_c : Code := loopOf Tryz.f60 7
theorem ref05_Gcd_L7_s (s : (UInt64 × UInt64)) : ∀ o, ref05_Gcd_L7 s = some o → LpK Tryz.prog f60H 0 7 ref05_Gcd_L7_c (ref05_Gcd_L7_st s) (fun e s' => e = (ref05_Gcd_L7_out o).1 ∧ s' = (ref05_Gcd_L7_out o).2) := fun o => iter_sound (tr := fun s => (ref05_Gcd_T7 s)) (st := fun s => ref05_Gcd_L7_st s) (by kernel_rfl) (fun s K => by kernel_rfl) F0 s o
noncomputable def ref05_Gcd_T (toArray0 : (List UInt64)) (a1 : (List UInt64)) : Tree (RTs.den [.d (.slice .u64)]) :=
 .ex (ref02_Size_s toArray0) fun y0 =>
 .br (decide (y0 = 0))
  (.ex (ref02_Trim_s a1) fun y1 =>
  .ret y1)
  (.ex (ref02_Size_s a1) fun y2 =>
  .br (decide (y2 = 0))
   (.ex (ref02_Trim_s toArray0) fun y3 =>
   .ret y3)
   (.ex (ref02_Size_s toArray0) fun y4 =>
   .br (decide (y4 = 1))
    (.ex (ref02_Size_s a1) fun y5 =>
    .br (decide (y5 = 1))
     (.ob ((((0 : Int) ≤ 0) ∧ ((0 : Int) < (↑(List.length toArray0) : Int)))) (
     .ob ((((0 : Int) ≤ 0) ∧ ((0 : Int) < (↑(List.length a1) : Int)))) (
     .ex (ref05_Gcd_L7_s ((List.getD toArray0 (Int.toNat 0) default), (List.getD a1 (Int.toNat 0) default))) fun y6 =>
     .ret (y6 :: []))))
     (.ex (ref02_Even_s toArray0) fun y7 =>
     .ex (ref02_Even_s a1) fun y8 =>
     .ex (ref02_Even_s toArray0) fun y9 =>
     .ex (ref02_Shr_s toArray0 y9) fun y10 =>
     .ex (ref02_Even_s a1) fun y11 =>
     .ex (ref02_Shr_s a1 y11) fun y12 =>
     .ex (ref05_Gcd_L13_s (min y7 y8) (y10, y12)) fun y13 =>
     .ret y13))
    (.ex (ref02_Even_s toArray0) fun y14 =>
    .ex (ref02_Even_s a1) fun y15 =>
    .ex (ref02_Even_s toArray0) fun y16 =>
    .ex (ref02_Shr_s toArray0 y16) fun y17 =>
    .ex (ref02_Even_s a1) fun y18 =>
    .ex (ref02_Shr_s a1 y18) fun y19 =>
    .ex (ref05_Gcd_L13_s (min y14 y15) (y17, y19)) fun y20 =>
    .ret y20)))
noncomputable def ref05_Gcd (toArray0 : (List UInt64)) (a1 : (List UInt64)) : Option (RTs.den [.d (.slice .u64)]) := (ref05_Gcd_T toArray0 a1).run
theorem ref05_Gcd_s (toArray0 : (List UInt64)) (a1 : (List UInt64)) : ∀ y, ref05_Gcd toArray0 a1 = some y → CSem Tryz.prog 60 [Ty.e (.slice .u64) toArray0, Ty.e (.slice .u64) a1] [] (fun v b => v = (RTs.shape [.d (.slice .u64)] y).1 ∧ b = (RTs.shape [.d (.slice .u64)] y).2) := fun_sound (H := f60H) (fn := Tryz.f60) (by kernel_rfl) (by kernel_rfl) (fun post => by kernel_rfl)
noncomputable def f93H : Hint := ⟨fun _ => false, false, fun _ => [], fun _ => [], fun _ => [], fun _ => [], fun _ => [], fun _ => [], resOf P 93, fun g _ _ => retOf P g⟩
noncomputable def ref02_Right_T (a0 : (List UInt64)) : Tree (RTs.den [.d .bool]) :=
 .ex (ref02_Size_s a0) fun y0 =>
 .ret (decide (y0 = (↑(List.length a0) : Int)))
noncomputable def ref02_Right (a0 : (List UInt64)) : Option (RTs.den [.d .bool]) := (ref02_Right_T a0).run
theorem ref02_Right_s (a0 : (List UInt64)) : ∀ y, ref02_Right a0 = some y → CSem Tryz.prog 93 [Ty.e (.slice .u64) a0] [] (fun v b => v = (RTs.shape [.d .bool] y).1 ∧ b = (RTs.shape [.d .bool] y).2) := fun_sound (H := f93H) (fn := Tryz.f93) (by kernel_rfl) (by kernel_rfl) (fun post => by kernel_rfl)
noncomputable def f56H : Hint := ⟨fun _ => false, false, fun _ => [], fun _ => [], fun _ => [], fun _ => [], fun _ => [], fun _ => [], resOf P 56, fun g _ _ => retOf P g⟩
noncomputable def ref07_Right_T (x0 : RatD) : Tree (RTs.den [.d .bool]) :=
 .ex (ref02_Right_s x0.2.1) fun y0 =>
 .br (!y0)
  (.ret Bool.false)
  (.ex (ref02_Right_s x0.2.2.1) fun y1 =>
  .br (!y1)
   (.ret Bool.false)
   (.br (decide ((↑(List.length x0.2.2.1) : Int) = 0))
    (.ret Bool.false)
    (.br x0.1
     (.br (decide ((↑(List.length x0.2.1) : Int) = 0))
      (.ret Bool.false)
      (.ex (ref05_Gcd_s x0.2.1 x0.2.2.1) fun y2 =>
      .ex (ref02_Cmp_s y2 ((1 : UInt64) :: [])) fun y3 =>
      .ret (decide (y3 = 0))))
     (.ex (ref05_Gcd_s x0.2.1 x0.2.2.1) fun y4 =>
     .ex (ref02_Cmp_s y4 ((1 : UInt64) :: [])) fun y5 =>
     .ret (decide (y5 = 0))))))
noncomputable def ref07_Right (x0 : RatD) : Option (RTs.den [.d .bool]) := (ref07_Right_T x0).run
theorem ref07_Right_s (x0 : RatD) : ∀ y, ref07_Right x0 = some y → CSem Tryz.prog 56 [Ty.e ratT x0] [] (fun v b => v = (RTs.shape [.d .bool] y).1 ∧ b = (RTs.shape [.d .bool] y).2) := fun_sound (H := f56H) (fn := Tryz.f56) (by kernel_rfl) (by kernel_rfl) (fun post => by kernel_rfl)
noncomputable def f153H : Hint := ⟨fun _ => false, false, fun _ => [], fun _ => [], fun _ => [], fun _ => [], fun _ => [], fun _ => [], resOf P 153, fun g _ _ => retOf P g⟩
noncomputable def ref09_Field_T (b0 : UInt64) : Tree (RTs.den [.d .i64]) :=
 .ret (w64 (↑(UInt64.toNat ((shrU b0 52) &&& (2047 : UInt64))) : Int))
noncomputable def ref09_Field (b0 : UInt64) : Option (RTs.den [.d .i64]) := (ref09_Field_T b0).run
theorem ref09_Field_s (b0 : UInt64) : ∀ y, ref09_Field b0 = some y → CSem Tryz.prog 153 [Ty.e .u64 b0] [] (fun v b => v = (RTs.shape [.d .i64] y).1 ∧ b = (RTs.shape [.d .i64] y).2) := fun_sound (H := f153H) (fn := Tryz.f153) (by kernel_rfl) (by kernel_rfl) (fun post => by kernel_rfl)
noncomputable def f154H : Hint := ⟨fun _ => false, false, fun _ => [], fun _ => [], fun _ => [], fun _ => [], fun _ => [], fun _ => [], resOf P 154, fun g _ _ => retOf P g⟩
noncomputable def ref09_Rest_T (b0 : UInt64) : Tree (RTs.den [.d .u64]) :=
 .ret (b0 &&& (4503599627370495 : UInt64))
noncomputable def ref09_Rest (b0 : UInt64) : Option (RTs.den [.d .u64]) := (ref09_Rest_T b0).run
theorem ref09_Rest_s (b0 : UInt64) : ∀ y, ref09_Rest b0 = some y → CSem Tryz.prog 154 [Ty.e .u64 b0] [] (fun v b => v = (RTs.shape [.d .u64] y).1 ∧ b = (RTs.shape [.d .u64] y).2) := fun_sound (H := f154H) (fn := Tryz.f154) (by kernel_rfl) (by kernel_rfl) (fun post => by kernel_rfl)
noncomputable def f95H : Hint := ⟨fun _ => false, false, fun _ => [], fun _ => [], fun _ => [], fun _ => [], fun _ => [], fun _ => [], resOf P 95, fun g _ _ => retOf P g⟩
noncomputable def ref09_Kind_T (b0 : UInt64) : Tree (RTs.den [.d .i64]) :=
 .ex (ref09_Field_s b0) fun y0 =>
 .br (decide (y0 = 2047))
  (.ex (ref09_Rest_s b0) fun y1 =>
  .br (decide (y1 = (0 : UInt64)))
   (.ret 3)
   (.ret 4))
  (.ex (ref09_Field_s b0) fun y2 =>
  .br (decide ((0 : Int) < y2))
   (.ret 2)
   (.ex (ref09_Rest_s b0) fun y3 =>
   .br (decide ((0 : UInt64) < y3))
    (.ret 1)
    (.ret 0)))
noncomputable def ref09_Kind (b0 : UInt64) : Option (RTs.den [.d .i64]) := (ref09_Kind_T b0).run
theorem ref09_Kind_s (b0 : UInt64) : ∀ y, ref09_Kind b0 = some y → CSem Tryz.prog 95 [Ty.e .u64 b0] [] (fun v b => v = (RTs.shape [.d .i64] y).1 ∧ b = (RTs.shape [.d .i64] y).2) := fun_sound (H := f95H) (fn := Tryz.f95) (by kernel_rfl) (by kernel_rfl) (fun post => by kernel_rfl)
noncomputable def f96H : Hint := ⟨fun _ => false, false, fun _ => [], fun _ => [], fun _ => [], fun _ => [], fun _ => [], fun _ => [], resOf P 96, fun g _ _ => retOf P g⟩
noncomputable def ref09_Nan_T : Tree (RTs.den [.d .u64]) :=
 .ret (9221120237041090560 : UInt64)
noncomputable def ref09_Nan : Option (RTs.den [.d .u64]) := (ref09_Nan_T).run
theorem ref09_Nan_s : ∀ y, ref09_Nan = some y → CSem Tryz.prog 96 [] [] (fun v b => v = (RTs.shape [.d .u64] y).1 ∧ b = (RTs.shape [.d .u64] y).2) := fun_sound (H := f96H) (fn := Tryz.f96) (by kernel_rfl) (by kernel_rfl) (fun post => by kernel_rfl)
noncomputable def f57H : Hint := ⟨fun _ => false, false, fun _ => [], fun _ => [], fun _ => [], fun _ => [], fun _ => [], fun _ => [], resOf P 57, fun g _ _ => retOf P g⟩
noncomputable def ref09_Clean_T (b0 : UInt64) : Tree (RTs.den [.d .u64]) :=
 .ex (ref09_Kind_s b0) fun y0 =>
 .br (decide (y0 = 4))
  (.ex ref09_Nan_s fun y1 =>
  .ret y1)
  (.ret b0)
noncomputable def ref09_Clean (b0 : UInt64) : Option (RTs.den [.d .u64]) := (ref09_Clean_T b0).run
theorem ref09_Clean_s (b0 : UInt64) : ∀ y, ref09_Clean b0 = some y → CSem Tryz.prog 57 [Ty.e .u64 b0] [] (fun v b => v = (RTs.shape [.d .u64] y).1 ∧ b = (RTs.shape [.d .u64] y).2) := fun_sound (H := f57H) (fn := Tryz.f57) (by kernel_rfl) (by kernel_rfl) (fun post => by kernel_rfl)
noncomputable def f29H : Hint := ⟨fun _ => false, false, fun _ => [], fun _ => [], fun _ => [], fun _ => [], fun _ => [], fun _ => [], resOf P 29, fun g _ _ => retOf P g⟩
noncomputable def ref18_Right_T (mode0 : Int) (x1 : ValD) : Tree (RTs.den [.d .bool]) :=
 .ex (ref07_Same_s x1.1 (Bool.false, ([], ([], ())))) fun y0 =>
 .br (decide (mode0 = 0))
  (.br (decide (x1.2.1 = (0 : UInt64)))
   (.br (decide (x1.2.2.1 = 0))
    (.ex (ref07_Right_s x1.1) fun y1 =>
    .ret y1)
    (.ret Bool.false))
   (.ret Bool.false))
  (.br (decide (mode0 = 1))
   (.br y0
    (.br (decide (x1.2.2.1 = 0))
     (.ex (ref09_Clean_s x1.2.1) fun y2 =>
     .ret (decide (y2 = x1.2.1)))
     (.ret Bool.false))
    (.ret Bool.false))
   (.br (decide (mode0 = 2))
    (.br y0
     (.br (decide (x1.2.1 = (0 : UInt64)))
      (.ret (decide ((0 : Int) ≤ x1.2.2.1)))
      (.ret Bool.false))
     (.ret Bool.false))
    (.ret Bool.false)))
noncomputable def ref18_Right (mode0 : Int) (x1 : ValD) : Option (RTs.den [.d .bool]) := (ref18_Right_T mode0 x1).run
theorem ref18_Right_s (mode0 : Int) (x1 : ValD) : ∀ y, ref18_Right mode0 x1 = some y → CSem Tryz.prog 29 [Ty.e .i64 mode0, Ty.e valT x1] [] (fun v b => v = (RTs.shape [.d .bool] y).1 ∧ b = (RTs.shape [.d .bool] y).2) := fun_sound (H := f29H) (fn := Tryz.f29) (by kernel_rfl) (by kernel_rfl) (fun post => by kernel_rfl)
noncomputable def f6H : Hint := ⟨fun _ => false, false, fun n => lk n [(2, [0, 1, 7, 8])], fun _ => [], fun _ => [], fun _ => [], fun _ => [], fun n => lk n [(2, [⟨.exit 0, [], [], mores P [], []⟩, ⟨.ret, [4], [], mores P [(4, 4)], []⟩])], resOf P 6, fun g _ _ => retOf P g⟩
noncomputable def ref18_Vals_L2_st (p0 : Int) (p1 : (List ValD)) (p2 : Int) (s : Int) : St := ⟨slots 19 [(0, .e (.c (.i64 p0))), (1, .e (.c (.sl valT p1))), (7, .e (.c (.i64 p2))), (8, .e (.c (.i64 s)))], []⟩
noncomputable def ref18_Vals_L2_out (p0 : Int) (p1 : (List ValD)) (p2 : Int) : (Unit ⊕ Bool) → Exit × St := fun y => match y with
  | (.inl y) => ((.exit 0), ⟨slots 19 [], []⟩)
  | (.inr y) => (.ret, ⟨slots 19 [(4, .e (.c (.bool y)))], []⟩)
noncomputable def ref18_Vals_T2 (p0 : Int) (p1 : (List ValD)) (p2 : Int) (s : Int) : Tree (Int ⊕ (Unit ⊕ Bool)) :=
 .br (decide (s < p2))
  (.ob ((((0 : Int) ≤ s) ∧ (s < (↑(List.length p1) : Int)))) (
  .ex (ref18_Right_s p0 (List.getD p1 (Int.toNat s) default)) fun y0 =>
  .br (!y0)
   (.ret (.inr (.inr Bool.false)))
   (.ret (.inl (w64 (s + 1))))))
  (.ret (.inr (.inl ())))
noncomputable def ref18_Vals_L2 (p0 : Int) (p1 : (List ValD)) (p2 : Int) (s : Int) : Option (Unit ⊕ Bool) := iter (fun s => (ref18_Vals_T2 p0 p1 p2 s).run) F0 s
noncomputable abbrev ref18_Vals_L2_c : Code := loopOf Tryz.f6 2
theorem ref18_Vals_L2_s (p0 : Int) (p1 : (List ValD)) (p2 : Int) (s : Int) : ∀ o, ref18_Vals_L2 p0 p1 p2 s = some o → LpK Tryz.prog f6H 0 2 ref18_Vals_L2_c (ref18_Vals_L2_st p0 p1 p2 s) (fun e s' => e = (ref18_Vals_L2_out p0 p1 p2 o).1 ∧ s' = (ref18_Vals_L2_out p0 p1 p2 o).2) := fun o => iter_sound (tr := fun s => (ref18_Vals_T2 p0 p1 p2 s)) (st := fun s => ref18_Vals_L2_st p0 p1 p2 s) (by kernel_rfl) (fun s K => by kernel_rfl) F0 s o
noncomputable def ref18_Vals_T (mode0 : Int) (l1 : (List ValD)) : Tree (RTs.den [.d .bool]) :=
 .alt (isL (ref18_Vals_L2 mode0 l1 (↑(List.length l1) : Int) 0))
  (.an (s_u (s_l (ref18_Vals_L2_s mode0 l1 (↑(List.length l1) : Int) 0))) (
  .ret Bool.true))
  (.ex (s_r (ref18_Vals_L2_s mode0 l1 (↑(List.length l1) : Int) 0)) fun y0 =>
  .ret y0)
noncomputable def ref18_Vals (mode0 : Int) (l1 : (List ValD)) : Option (RTs.den [.d .bool]) := (ref18_Vals_T mode0 l1).run
theorem ref18_Vals_s (mode0 : Int) (l1 : (List ValD)) : ∀ y, ref18_Vals mode0 l1 = some y → CSem Tryz.prog 6 [Ty.e .i64 mode0, Ty.e (.slice valT) l1] [] (fun v b => v = (RTs.shape [.d .bool] y).1 ∧ b = (RTs.shape [.d .bool] y).2) := fun_sound (H := f6H) (fn := Tryz.f6) (by kernel_rfl) (by kernel_rfl) (fun post => by kernel_rfl)
noncomputable def f11H : Hint := ⟨fun _ => false, false, fun _ => [], fun _ => [], fun _ => [], fun _ => [], fun _ => [], fun _ => [], resOf P 11, fun g _ _ => retOf P g⟩
noncomputable def ref18_Same_T (x0 : ValD) (y1 : ValD) : Tree (RTs.den [.d .bool]) :=
 .br (decide (x0.2.1 = y1.2.1))
  (.br (decide (x0.2.2.1 = y1.2.2.1))
   (.ex (ref07_Same_s x0.1 y1.1) fun y0 =>
   .ret y0)
   (.ret Bool.false))
  (.ret Bool.false)
noncomputable def ref18_Same (x0 : ValD) (y1 : ValD) : Option (RTs.den [.d .bool]) := (ref18_Same_T x0 y1).run
theorem ref18_Same_s (x0 : ValD) (y1 : ValD) : ∀ y, ref18_Same x0 y1 = some y → CSem Tryz.prog 11 [Ty.e valT x0, Ty.e valT y1] [] (fun v b => v = (RTs.shape [.d .bool] y).1 ∧ b = (RTs.shape [.d .bool] y).2) := fun_sound (H := f11H) (fn := Tryz.f11) (by kernel_rfl) (by kernel_rfl) (fun post => by kernel_rfl)
noncomputable def f28H : Hint := ⟨fun _ => false, false, fun _ => [], fun _ => [], fun _ => [], fun _ => [], fun _ => [], fun _ => [], resOf P 28, fun g _ _ => retOf P g⟩
noncomputable def plain_Long_T (x0 : RatD) (most1 : Int) : Tree (RTs.den [.d .bool]) :=
 .br (decide (most1 < (↑(List.length x0.2.1) : Int)))
  (.ret Bool.true)
  (.ret (decide (most1 < (↑(List.length x0.2.2.1) : Int))))
noncomputable def plain_Long (x0 : RatD) (most1 : Int) : Option (RTs.den [.d .bool]) := (plain_Long_T x0 most1).run
theorem plain_Long_s (x0 : RatD) (most1 : Int) : ∀ y, plain_Long x0 most1 = some y → CSem Tryz.prog 28 [Ty.e ratT x0, Ty.e .i64 most1] [] (fun v b => v = (RTs.shape [.d .bool] y).1 ∧ b = (RTs.shape [.d .bool] y).2) := fun_sound (H := f28H) (fn := Tryz.f28) (by kernel_rfl) (by kernel_rfl) (fun post => by kernel_rfl)
noncomputable def f5H : Hint := ⟨fun _ => false, false, fun n => lk n [(2, [0, 1, 7, 8])], fun _ => [], fun _ => [], fun _ => [], fun _ => [], fun n => lk n [(2, [⟨.exit 0, [], [], mores P [], []⟩, ⟨.ret, [4], [], mores P [(4, 4)], []⟩])], resOf P 5, fun g _ _ => retOf P g⟩
noncomputable def plain_Wide_L2_st (p0 : (List ValD)) (p1 p2 : Int) (s : Int) : St := ⟨slots 19 [(0, .e (.c (.sl valT p0))), (1, .e (.c (.i64 p1))), (7, .e (.c (.i64 p2))), (8, .e (.c (.i64 s)))], []⟩
noncomputable def plain_Wide_L2_out (p0 : (List ValD)) (p1 p2 : Int) : (Unit ⊕ Bool) → Exit × St := fun y => match y with
  | (.inl y) => ((.exit 0), ⟨slots 19 [], []⟩)
  | (.inr y) => (.ret, ⟨slots 19 [(4, .e (.c (.bool y)))], []⟩)
noncomputable def plain_Wide_T2 (p0 : (List ValD)) (p1 p2 : Int) (s : Int) : Tree (Int ⊕ (Unit ⊕ Bool)) :=
 .br (decide (s < p2))
  (.ob ((((0 : Int) ≤ s) ∧ (s < (↑(List.length p0) : Int)))) (
  .ex (plain_Long_s (List.getD p0 (Int.toNat s) default).1 p1) fun y0 =>
  .br y0
   (.ret (.inr (.inr Bool.true)))
   (.ret (.inl (w64 (s + 1))))))
  (.ret (.inr (.inl ())))
noncomputable def plain_Wide_L2 (p0 : (List ValD)) (p1 p2 : Int) (s : Int) : Option (Unit ⊕ Bool) := iter (fun s => (plain_Wide_T2 p0 p1 p2 s).run) F0 s
noncomputable abbrev plain_Wide_L2_c : Code := loopOf Tryz.f5 2
theorem plain_Wide_L2_s (p0 : (List ValD)) (p1 p2 : Int) (s : Int) : ∀ o, plain_Wide_L2 p0 p1 p2 s = some o → LpK Tryz.prog f5H 0 2 plain_Wide_L2_c (plain_Wide_L2_st p0 p1 p2 s) (fun e s' => e = (plain_Wide_L2_out p0 p1 p2 o).1 ∧ s' = (plain_Wide_L2_out p0 p1 p2 o).2) := fun o => iter_sound (tr := fun s => (plain_Wide_T2 p0 p1 p2 s)) (st := fun s => plain_Wide_L2_st p0 p1 p2 s) (by kernel_rfl) (fun s K => by kernel_rfl) F0 s o
noncomputable def plain_Wide_T (l0 : (List ValD)) (most1 : Int) : Tree (RTs.den [.d .bool]) :=
 .alt (isL (plain_Wide_L2 l0 most1 (↑(List.length l0) : Int) 0))
  (.an (s_u (s_l (plain_Wide_L2_s l0 most1 (↑(List.length l0) : Int) 0))) (
  .ret Bool.false))
  (.ex (s_r (plain_Wide_L2_s l0 most1 (↑(List.length l0) : Int) 0)) fun y0 =>
  .ret y0)
noncomputable def plain_Wide (l0 : (List ValD)) (most1 : Int) : Option (RTs.den [.d .bool]) := (plain_Wide_T l0 most1).run
theorem plain_Wide_s (l0 : (List ValD)) (most1 : Int) : ∀ y, plain_Wide l0 most1 = some y → CSem Tryz.prog 5 [Ty.e (.slice valT) l0, Ty.e .i64 most1] [] (fun v b => v = (RTs.shape [.d .bool] y).1 ∧ b = (RTs.shape [.d .bool] y).2) := fun_sound (H := f5H) (fn := Tryz.f5) (by kernel_rfl) (by kernel_rfl) (fun post => by kernel_rfl)
noncomputable def f18H : Hint := ⟨fun _ => false, false, fun n => lk n [(2, [0, 5, 6])], fun _ => [], fun _ => [], fun _ => [], fun _ => [], fun n => lk n [(2, [⟨.exit 0, [0], [], mores P [], []⟩, ⟨.ret, [2], [], mores P [(2, 4)], []⟩])], resOf P 18, fun g _ _ => retOf P g⟩
noncomputable def plain_Args_L2_st (p0 : (List ArgD)) (p1 : Int) (s : Int) : St := ⟨slots 37 [(0, .e (.c (.sl argT p0))), (5, .e (.c (.i64 p1))), (6, .e (.c (.i64 s)))], []⟩
noncomputable def plain_Args_L2_out (p0 : (List ArgD)) (p1 : Int) : (Unit ⊕ Bool) → Exit × St := fun y => match y with
  | (.inl y) => ((.exit 0), ⟨slots 37 [(0, .e (.c (.sl argT p0)))], []⟩)
  | (.inr y) => (.ret, ⟨slots 37 [(2, .e (.c (.bool y)))], []⟩)
noncomputable def plain_Args_T2 (p0 : (List ArgD)) (p1 : Int) (s : Int) : Tree (Int ⊕ (Unit ⊕ Bool)) :=
 .br (decide (s < p1))
  (.ob ((((0 : Int) ≤ s) ∧ (s < (↑(List.length p0) : Int)))) (
  .br (decide ((20 : Int) < (↑(List.length (List.getD p0 (Int.toNat s) default).1) : Int)))
   (.ret (.inr (.inr Bool.true)))
   (.ob ((((0 : Int) ≤ s) ∧ (s < (↑(List.length p0) : Int)))) (
   .br (decide ((100 : Int) < (↑(List.length (List.getD p0 (Int.toNat s) default).2.1) : Int)))
    (.ret (.inr (.inr Bool.true)))
    (.ob ((((0 : Int) ≤ s) ∧ (s < (↑(List.length p0) : Int)))) (
    .ex (plain_Wide_s (List.getD p0 (Int.toNat s) default).2.1 9) fun y0 =>
    .br y0
     (.ret (.inr (.inr Bool.true)))
     (.ret (.inl (w64 (s + 1))))))))))
  (.ret (.inr (.inl ())))
noncomputable def plain_Args_L2 (p0 : (List ArgD)) (p1 : Int) (s : Int) : Option (Unit ⊕ Bool) := iter (fun s => (plain_Args_T2 p0 p1 s).run) F0 s
noncomputable abbrev plain_Args_L2_c : Code := loopOf Tryz.f18 2
theorem plain_Args_L2_s (p0 : (List ArgD)) (p1 : Int) (s : Int) : ∀ o, plain_Args_L2 p0 p1 s = some o → LpK Tryz.prog f18H 0 2 plain_Args_L2_c (plain_Args_L2_st p0 p1 s) (fun e s' => e = (plain_Args_L2_out p0 p1 o).1 ∧ s' = (plain_Args_L2_out p0 p1 o).2) := fun o => iter_sound (tr := fun s => (plain_Args_T2 p0 p1 s)) (st := fun s => plain_Args_L2_st p0 p1 s) (by kernel_rfl) (fun s K => by kernel_rfl) F0 s o
noncomputable def plain_Args_T (l0 : (List ArgD)) : Tree (RTs.den [.d .bool]) :=
 .alt (isL (plain_Args_L2 l0 (↑(List.length l0) : Int) 0))
  (.an (s_u (s_l (plain_Args_L2_s l0 (↑(List.length l0) : Int) 0))) (
  .ret (decide ((6 : Int) < (↑(List.length l0) : Int)))))
  (.ex (s_r (plain_Args_L2_s l0 (↑(List.length l0) : Int) 0)) fun y0 =>
  .ret y0)
noncomputable def plain_Args (l0 : (List ArgD)) : Option (RTs.den [.d .bool]) := (plain_Args_T l0).run
theorem plain_Args_s (l0 : (List ArgD)) : ∀ y, plain_Args l0 = some y → CSem Tryz.prog 18 [Ty.e (.slice argT) l0] [] (fun v b => v = (RTs.shape [.d .bool] y).1 ∧ b = (RTs.shape [.d .bool] y).2) := fun_sound (H := f18H) (fn := Tryz.f18) (by kernel_rfl) (by kernel_rfl) (fun post => by kernel_rfl)
noncomputable def f19H : Hint := ⟨fun _ => false, false, fun n => lk n [(2, [1, 2, 7, 8])], fun _ => [], fun _ => [], fun _ => [], fun _ => [], fun n => lk n [(2, [⟨.exit 0, [1, 2], [], mores P [], [2]⟩, ⟨.ret, [4], [], mores P [(4, 4)], [2]⟩])], resOf P 19, fun g _ _ => retOf P g⟩
noncomputable def law31_Many_L2_st (p0 : (List (List Int))) (p1 p2 p3 p4 p5 p6 p7 p8 p9 : Int) (p10 : Bool) (p11 : (List Int)) (s : Int) : St := ⟨slots 27 [(1, .e (.c (.sl (.slice .i64) p0))), (2, .e (.c (.ptr 0 0))), (7, .e (.c (.i64 p1))), (8, .e (.c (.i64 s)))], [.cells 50 [.i64 p2, .i64 p3, .i64 p4, .i64 p5, .i64 p6, .i64 p7, .i64 p8, .i64 p9, .bool p10, .sl .i64 p11]]⟩
noncomputable def law31_Many_L2_out (p0 : (List (List Int))) (p1 p2 p3 p4 p5 p6 p7 p8 p9 : Int) (p10 : Bool) (p11 : (List Int)) : (Unit ⊕ Bool) → Exit × St := fun y => match y with
  | (.inl y) => ((.exit 0), ⟨slots 27 [(1, .e (.c (.sl (.slice .i64) p0))), (2, .e (.c (.ptr 0 0)))], [.cells 50 [.i64 p2, .i64 p3, .i64 p4, .i64 p5, .i64 p6, .i64 p7, .i64 p8, .i64 p9, .bool p10, .sl .i64 p11]]⟩)
  | (.inr y) => (.ret, ⟨slots 27 [(4, .e (.c (.bool y)))], []⟩)
noncomputable def law31_Many_T2 (p0 : (List (List Int))) (p1 p2 p3 p4 p5 p6 p7 p8 p9 : Int) (p10 : Bool) (p11 : (List Int)) (s : Int) : Tree (Int ⊕ (Unit ⊕ Bool)) :=
 .br (decide (s < p1))
  (.ob ((((0 : Int) ≤ s) ∧ (s < (↑(List.length p0) : Int)))) (
  .br (decide ((20 : Int) < (↑(List.length (List.getD p0 (Int.toNat s) default)) : Int)))
   (.ret (.inr (.inr Bool.true)))
   (.ret (.inl (w64 (s + 1))))))
  (.ret (.inr (.inl ())))
noncomputable def law31_Many_L2 (p0 : (List (List Int))) (p1 p2 p3 p4 p5 p6 p7 p8 p9 : Int) (p10 : Bool) (p11 : (List Int)) (s : Int) : Option (Unit ⊕ Bool) := iter (fun s => (law31_Many_T2 p0 p1 p2 p3 p4 p5 p6 p7 p8 p9 p10 p11 s).run) F0 s
noncomputable abbrev law31_Many_L2_c : Code := loopOf Tryz.f19 2
theorem law31_Many_L2_s (p0 : (List (List Int))) (p1 p2 p3 p4 p5 p6 p7 p8 p9 : Int) (p10 : Bool) (p11 : (List Int)) (s : Int) : ∀ o, law31_Many_L2 p0 p1 p2 p3 p4 p5 p6 p7 p8 p9 p10 p11 s = some o → LpK Tryz.prog f19H 0 2 law31_Many_L2_c (law31_Many_L2_st p0 p1 p2 p3 p4 p5 p6 p7 p8 p9 p10 p11 s) (fun e s' => e = (law31_Many_L2_out p0 p1 p2 p3 p4 p5 p6 p7 p8 p9 p10 p11 o).1 ∧ s' = (law31_Many_L2_out p0 p1 p2 p3 p4 p5 p6 p7 p8 p9 p10 p11 o).2) := fun o => iter_sound (tr := fun s => (law31_Many_T2 p0 p1 p2 p3 p4 p5 p6 p7 p8 p9 p10 p11 s)) (st := fun s => law31_Many_L2_st p0 p1 p2 p3 p4 p5 p6 p7 p8 p9 p10 p11 s) (by kernel_rfl) (fun s K => by kernel_rfl) F0 s o
noncomputable def law31_Many_T (a0 : AttrD) (dims1 : (List (List Int))) : Tree (RTs.den [.d .bool]) :=
 .alt (isL (law31_Many_L2 dims1 (↑(List.length dims1) : Int) a0.1 a0.2.1 a0.2.2.1 a0.2.2.2.1 a0.2.2.2.2.1 a0.2.2.2.2.2.1 a0.2.2.2.2.2.2.1 a0.2.2.2.2.2.2.2.1 a0.2.2.2.2.2.2.2.2.1 a0.2.2.2.2.2.2.2.2.2.1 0))
  (.an (s_u (s_l (law31_Many_L2_s dims1 (↑(List.length dims1) : Int) a0.1 a0.2.1 a0.2.2.1 a0.2.2.2.1 a0.2.2.2.2.1 a0.2.2.2.2.2.1 a0.2.2.2.2.2.2.1 a0.2.2.2.2.2.2.2.1 a0.2.2.2.2.2.2.2.2.1 a0.2.2.2.2.2.2.2.2.2.1 0))) (
  .br (decide ((80 : Int) < (↑(List.length a0.2.2.2.2.2.2.2.2.2.1) : Int)))
   (.ret Bool.true)
   (.ret (decide ((10 : Int) < (↑(List.length dims1) : Int))))))
  (.ex (s_r (law31_Many_L2_s dims1 (↑(List.length dims1) : Int) a0.1 a0.2.1 a0.2.2.1 a0.2.2.2.1 a0.2.2.2.2.1 a0.2.2.2.2.2.1 a0.2.2.2.2.2.2.1 a0.2.2.2.2.2.2.2.1 a0.2.2.2.2.2.2.2.2.1 a0.2.2.2.2.2.2.2.2.2.1 0)) fun y0 =>
  .ret y0)
noncomputable def law31_Many (a0 : AttrD) (dims1 : (List (List Int))) : Option (RTs.den [.d .bool]) := (law31_Many_T a0 dims1).run
theorem law31_Many_s (a0 : AttrD) (dims1 : (List (List Int))) : ∀ y, law31_Many a0 dims1 = some y → CSem Tryz.prog 19 [Ty.e attrT a0, Ty.e (.slice (.slice .i64)) dims1] [] (fun v b => v = (RTs.shape [.d .bool] y).1 ∧ b = (RTs.shape [.d .bool] y).2) := fun_sound (H := f19H) (fn := Tryz.f19) (by kernel_rfl) (by kernel_rfl) (fun post => by kernel_rfl)
noncomputable def f20H : Hint := ⟨fun _ => false, false, fun n => lk n [(4, [0, 10, 11]), (11, [0, 4, 21, 22])], fun _ => [], fun _ => [], fun _ => [], fun _ => [], fun n => lk n [(4, [⟨.exit 0, [0], [], mores P [], []⟩, ⟨.ret, [2], [], mores P [(2, 3)], []⟩]), (11, [⟨.exit 2, [], [], mores P [], []⟩, ⟨.ret, [2], [], mores P [(2, 3)], []⟩])], resOf P 20, fun g _ _ => retOf P g⟩
noncomputable def ref19_Check_L11_st (p0 : (List Int)) (p1 : Int) (s : (Int × Int)) : St := ⟨slots 46 [(0, .e (.c (.sl .i64 p0))), (4, .e (.c (.i64 s.1))), (21, .e (.c (.i64 p1))), (22, .e (.c (.i64 s.2)))], []⟩
noncomputable def ref19_Check_L11_out (p0 : (List Int)) (p1 : Int) : (Unit ⊕ Int) → Exit × St := fun y => match y with
  | (.inl y) => ((.exit 2), ⟨slots 46 [], []⟩)
  | (.inr y) => (.ret, ⟨slots 46 [(2, .e (.c (.i64 y)))], []⟩)
noncomputable def ref19_Check_T11 (p0 : (List Int)) (p1 : Int) (s : (Int × Int)) : Tree ((Int × Int) ⊕ (Unit ⊕ Int)) :=
 .br (decide (s.2 < p1))
  (.ob ((((0 : Int) ≤ s.2) ∧ (s.2 < (↑(List.length p0) : Int)))) (
  .br (decide ((64 : Int) < (List.getD p0 (Int.toNat s.2) default)))
   (.ret (.inr (.inr 12)))
   (.ob ((((0 : Int) ≤ s.2) ∧ (s.2 < (↑(List.length p0) : Int)))) (
   .br (decide ((64 : Int) < (w64 (s.1 * (List.getD p0 (Int.toNat s.2) default)))))
    (.ret (.inr (.inr 12)))
    (.ob ((((0 : Int) ≤ s.2) ∧ (s.2 < (↑(List.length p0) : Int)))) (
    .ret (.inl ((w64 (s.1 * (List.getD p0 (Int.toNat s.2) default))), (w64 (s.2 + 1))))))))))
  (.ret (.inr (.inl ())))
noncomputable def ref19_Check_L11 (p0 : (List Int)) (p1 : Int) (s : (Int × Int)) : Option (Unit ⊕ Int) := iter (fun s => (ref19_Check_T11 p0 p1 s).run) F0 s
noncomputable abbrev ref19_Check_L11_c : Code := loopOf Tryz.f20 11
theorem ref19_Check_L11_s (p0 : (List Int)) (p1 : Int) (s : (Int × Int)) : ∀ o, ref19_Check_L11 p0 p1 s = some o → LpK Tryz.prog f20H 0 11 ref19_Check_L11_c (ref19_Check_L11_st p0 p1 s) (fun e s' => e = (ref19_Check_L11_out p0 p1 o).1 ∧ s' = (ref19_Check_L11_out p0 p1 o).2) := fun o => iter_sound (tr := fun s => (ref19_Check_T11 p0 p1 s)) (st := fun s => ref19_Check_L11_st p0 p1 s) (by kernel_rfl) (fun s K => by kernel_rfl) F0 s o
noncomputable def ref19_Check_L4_st (p0 : (List Int)) (p1 : Int) (s : Int) : St := ⟨slots 46 [(0, .e (.c (.sl .i64 p0))), (10, .e (.c (.i64 p1))), (11, .e (.c (.i64 s)))], []⟩
noncomputable def ref19_Check_L4_out (p0 : (List Int)) (p1 : Int) : (Unit ⊕ Int) → Exit × St := fun y => match y with
  | (.inl y) => ((.exit 0), ⟨slots 46 [(0, .e (.c (.sl .i64 p0)))], []⟩)
  | (.inr y) => (.ret, ⟨slots 46 [(2, .e (.c (.i64 y)))], []⟩)
noncomputable def ref19_Check_T4 (p0 : (List Int)) (p1 : Int) (s : Int) : Tree (Int ⊕ (Unit ⊕ Int)) :=
 .br (decide (s < p1))
  (.ob ((((0 : Int) ≤ s) ∧ (s < (↑(List.length p0) : Int)))) (
  .br (decide ((List.getD p0 (Int.toNat s) default) < 1))
   (.ret (.inr (.inr 8)))
   (.ret (.inl (w64 (s + 1))))))
  (.ret (.inr (.inl ())))
noncomputable def ref19_Check_L4 (p0 : (List Int)) (p1 : Int) (s : Int) : Option (Unit ⊕ Int) := iter (fun s => (ref19_Check_T4 p0 p1 s).run) F0 s
noncomputable abbrev ref19_Check_L4_c : Code := loopOf Tryz.f20 4
theorem ref19_Check_L4_s (p0 : (List Int)) (p1 : Int) (s : Int) : ∀ o, ref19_Check_L4 p0 p1 s = some o → LpK Tryz.prog f20H 0 4 ref19_Check_L4_c (ref19_Check_L4_st p0 p1 s) (fun e s' => e = (ref19_Check_L4_out p0 p1 o).1 ∧ s' = (ref19_Check_L4_out p0 p1 o).2) := fun o => iter_sound (tr := fun s => (ref19_Check_T4 p0 p1 s)) (st := fun s => ref19_Check_L4_st p0 p1 s) (by kernel_rfl) (fun s K => by kernel_rfl) F0 s o
noncomputable def ref19_Check_T (d0 : (List Int)) : Tree (RTs.den [.d .i64]) :=
 .br (decide ((6 : Int) < (↑(List.length d0) : Int)))
  (.ret 9)
  (.alt (isL (ref19_Check_L4 d0 (↑(List.length d0) : Int) 0))
   (.an (s_u (s_l (ref19_Check_L4_s d0 (↑(List.length d0) : Int) 0))) (
   .alt (isL (ref19_Check_L11 d0 (↑(List.length d0) : Int) (1, 0)))
    (.an (s_u (s_l (ref19_Check_L11_s d0 (↑(List.length d0) : Int) (1, 0)))) (
    .ret 0))
    (.ex (s_r (ref19_Check_L11_s d0 (↑(List.length d0) : Int) (1, 0))) fun y0 =>
    .ret y0)))
   (.ex (s_r (ref19_Check_L4_s d0 (↑(List.length d0) : Int) 0)) fun y1 =>
   .ret y1))
noncomputable def ref19_Check (d0 : (List Int)) : Option (RTs.den [.d .i64]) := (ref19_Check_T d0).run
theorem ref19_Check_s (d0 : (List Int)) : ∀ y, ref19_Check d0 = some y → CSem Tryz.prog 20 [Ty.e (.slice .i64) d0] [] (fun v b => v = (RTs.shape [.d .i64] y).1 ∧ b = (RTs.shape [.d .i64] y).2) := fun_sound (H := f20H) (fn := Tryz.f20) (by kernel_rfl) (by kernel_rfl) (fun post => by kernel_rfl)
noncomputable def f13H : Hint := ⟨fun _ => false, false, fun _ => [], fun _ => [], fun _ => [], fun _ => [], fun _ => [], fun _ => [], resOf P 13, fun g _ _ => retOf P g⟩
noncomputable def bank_Bank_Mark_T (q0 : Int) (q1 : Int) (q2 : (List Bool)) (q3 : Int) (q4 : Int) (q5 : Bool) (q6 : Int) : Tree (RTs.den [.d (.pair .i64 (.pair .i64 (.pair .i64 (.pair .i64 (.pair .i64 (.pair .bool (.pair .i64 .unit)))))))] × (Int × Int × (List Bool) × Int × Int × Bool × Int)) :=
 .ret ((0, (q3, (0, (q4, (q1, (q5, (q6, ()))))))), (q0, (q1, (q2, (q3, (q4, (q5, q6)))))))
noncomputable def bank_Bank_Mark (q0 : Int) (q1 : Int) (q2 : (List Bool)) (q3 : Int) (q4 : Int) (q5 : Bool) (q6 : Int) : Option (RTs.den [.d (.pair .i64 (.pair .i64 (.pair .i64 (.pair .i64 (.pair .i64 (.pair .bool (.pair .i64 .unit)))))))] × (Int × Int × (List Bool) × Int × Int × Bool × Int)) := (bank_Bank_Mark_T q0 q1 q2 q3 q4 q5 q6).run
theorem bank_Bank_Mark_s (q0 : Int) (q1 : Int) (q2 : (List Bool)) (q3 : Int) (q4 : Int) (q5 : Bool) (q6 : Int) : ∀ y, bank_Bank_Mark q0 q1 q2 q3 q4 q5 q6 = some y → CSem Tryz.prog 13 [.c (.ptr 0 0)] (bkB (q0, q1, q2, q3, q4, q5, q6)) (fun v b => v = (outP 1 [.d (.pair .i64 (.pair .i64 (.pair .i64 (.pair .i64 (.pair .i64 (.pair .bool (.pair .i64 .unit)))))))] bkB y).1 ∧ b = (outP 1 [.d (.pair .i64 (.pair .i64 (.pair .i64 (.pair .i64 (.pair .i64 (.pair .bool (.pair .i64 .unit)))))))] bkB y).2) := fun_soundP (H := f13H) (fn := Tryz.f13) (by kernel_rfl) (by kernel_rfl) (fun post => by kernel_rfl)
noncomputable def f17H : Hint := ⟨fun _ => false, false, fun _ => [], fun _ => [], fun _ => [], fun _ => [], fun _ => [], fun _ => [], resOf P 17, fun g _ _ => retOf P g⟩
noncomputable def bank_Bank_Err_T (q0 : Int) (q1 : Int) (q2 : (List Bool)) (q3 : Int) (q4 : Int) (q5 : Bool) (q6 : Int) : Tree (RTs.den [.d .i64] × (Int × Int × (List Bool) × Int × Int × Bool × Int)) :=
 .ret (q6, (q0, (q1, (q2, (q3, (q4, (q5, q6)))))))
noncomputable def bank_Bank_Err (q0 : Int) (q1 : Int) (q2 : (List Bool)) (q3 : Int) (q4 : Int) (q5 : Bool) (q6 : Int) : Option (RTs.den [.d .i64] × (Int × Int × (List Bool) × Int × Int × Bool × Int)) := (bank_Bank_Err_T q0 q1 q2 q3 q4 q5 q6).run
theorem bank_Bank_Err_s (q0 : Int) (q1 : Int) (q2 : (List Bool)) (q3 : Int) (q4 : Int) (q5 : Bool) (q6 : Int) : ∀ y, bank_Bank_Err q0 q1 q2 q3 q4 q5 q6 = some y → CSem Tryz.prog 17 [.c (.ptr 0 0)] (bkB (q0, q1, q2, q3, q4, q5, q6)) (fun v b => v = (outP 1 [.d .i64] bkB y).1 ∧ b = (outP 1 [.d .i64] bkB y).2) := fun_soundP (H := f17H) (fn := Tryz.f17) (by kernel_rfl) (by kernel_rfl) (fun post => by kernel_rfl)
noncomputable def f108H : Hint := ⟨fun _ => false, false, fun n => lk n [(2, [0, 3])], fun _ => [], fun _ => [], fun _ => [], fun _ => [], fun n => lk n [(2, [⟨.exit 0, [3], [3], mores P [], []⟩])], resOf P 108, fun g _ _ => retOf P g⟩
noncomputable def nat_size_L2_st (p0 : (List UInt64)) (s : Int) : St := ⟨slots 19 [(0, .e (.c (.sl .u64 p0))), (3, .e (.c (.i64 s)))], []⟩
noncomputable def nat_size_L2_out (p0 : (List UInt64)) : Int → Exit × St := fun y => ((.exit 0), ⟨slots 19 [(3, .e (.c (.i64 y)))], []⟩)
noncomputable def nat_size_T2 (p0 : (List UInt64)) (s : Int) : Tree (Int ⊕ Int) :=
 .br (decide ((0 : Int) < s))
  (.ob ((((0 : Int) ≤ (w64 (s - 1))) ∧ ((w64 (s - 1)) < (↑(List.length p0) : Int)))) (
  .br (decide ((List.getD p0 (Int.toNat (w64 (s - 1))) default) = (0 : UInt64)))
   (.ret (.inl (w64 (s - 1))))
   (.ret (.inr s))))
  (.ret (.inr s))
noncomputable def nat_size_L2 (p0 : (List UInt64)) (s : Int) : Option Int := iter (fun s => (nat_size_T2 p0 s).run) F0 s
noncomputable abbrev nat_size_L2_c : Code := loopOf Tryz.f108 2
theorem nat_size_L2_s (p0 : (List UInt64)) (s : Int) : ∀ o, nat_size_L2 p0 s = some o → LpK Tryz.prog f108H 0 2 nat_size_L2_c (nat_size_L2_st p0 s) (fun e s' => e = (nat_size_L2_out p0 o).1 ∧ s' = (nat_size_L2_out p0 o).2) := fun o => iter_sound (tr := fun s => (nat_size_T2 p0 s)) (st := fun s => nat_size_L2_st p0 s) (by kernel_rfl) (fun s K => by kernel_rfl) F0 s o
noncomputable def nat_size_T (a0 : (List UInt64)) : Tree (RTs.den [.d .i64]) :=
 .ex (nat_size_L2_s a0 (↑(List.length a0) : Int)) fun y0 =>
 .ret y0
noncomputable def nat_size (a0 : (List UInt64)) : Option (RTs.den [.d .i64]) := (nat_size_T a0).run
theorem nat_size_s (a0 : (List UInt64)) : ∀ y, nat_size a0 = some y → CSem Tryz.prog 108 [Ty.e (.slice .u64) a0] [] (fun v b => v = (RTs.shape [.d .i64] y).1 ∧ b = (RTs.shape [.d .i64] y).2) := fun_sound (H := f108H) (fn := Tryz.f108) (by kernel_rfl) (by kernel_rfl) (fun post => by kernel_rfl)
noncomputable def f109H : Hint := ⟨fun _ => false, false, fun n => lk n [(3, [0, 3, 4])], fun _ => [], fun _ => [], fun _ => [], fun _ => [], fun n => lk n [(3, [⟨.exit 0, [0, 3], [0, 3], mores P [], []⟩])], resOf P 109, fun g _ _ => retOf P g⟩
noncomputable def limb_Len_L3_st (s : (UInt64 × (Int × Int))) : St := ⟨slots 23 [(0, .e (.c (.u64 s.1))), (3, .e (.c (.i64 s.2.1))), (4, .e (.c (.i64 s.2.2)))], []⟩
noncomputable def limb_Len_L3_out : (UInt64 × Int) → Exit × St := fun y => ((.exit 0), ⟨slots 23 [(0, .e (.c (.u64 y.1))), (3, .e (.c (.i64 y.2)))], []⟩)
noncomputable def limb_Len_T3 (s : (UInt64 × (Int × Int))) : Tree ((UInt64 × (Int × Int)) ⊕ (UInt64 × Int)) :=
 .br (decide ((0 : Int) < s.2.2))
  (.ob (((0 : Int) ≤ s.2.2)) (
  .br (decide ((0 : UInt64) < (shrU s.1 (Int.toNat s.2.2))))
   (.ob (((0 : Int) ≤ s.2.2)) (
   .ret (.inl ((shrU s.1 (Int.toNat s.2.2)), ((w64 (s.2.1 + s.2.2)), (s.2.2 / (2 ^ (min 1 64))))))))
   (.ret (.inl (s.1, (s.2.1, (s.2.2 / (2 ^ (min 1 64)))))))))
  (.ret (.inr (s.1, s.2.1)))
noncomputable def limb_Len_L3 (s : (UInt64 × (Int × Int))) : Option (UInt64 × Int) := iter (fun s => (limb_Len_T3 s).run) F0 s
noncomputable abbrev limb_Len_L3_c : Code := loopOf Tryz.f109 3
theorem limb_Len_L3_s (s : (UInt64 × (Int × Int))) : ∀ o, limb_Len_L3 s = some o → LpK Tryz.prog f109H 0 3 limb_Len_L3_c (limb_Len_L3_st s) (fun e s' => e = (limb_Len_L3_out o).1 ∧ s' = (limb_Len_L3_out o).2) := fun o => iter_sound (tr := fun s => (limb_Len_T3 s)) (st := fun s => limb_Len_L3_st s) (by kernel_rfl) (fun s K => by kernel_rfl) F0 s o
noncomputable def limb_Len_T (x0 : UInt64) : Tree (RTs.den [.d .i64]) :=
 .ex (limb_Len_L3_s (x0, (0, 32))) fun y0 =>
 .ret (w64 (y0.2 + (w64 (↑(UInt64.toNat y0.1) : Int))))
noncomputable def limb_Len (x0 : UInt64) : Option (RTs.den [.d .i64]) := (limb_Len_T x0).run
theorem limb_Len_s (x0 : UInt64) : ∀ y, limb_Len x0 = some y → CSem Tryz.prog 109 [Ty.e .u64 x0] [] (fun v b => v = (RTs.shape [.d .i64] y).1 ∧ b = (RTs.shape [.d .i64] y).2) := fun_sound (H := f109H) (fn := Tryz.f109) (by kernel_rfl) (by kernel_rfl) (fun post => by kernel_rfl)
noncomputable def f66H : Hint := ⟨fun _ => false, false, fun _ => [], fun _ => [], fun _ => [], fun _ => [], fun _ => [], fun _ => [], resOf P 66, fun g _ _ => retOf P g⟩
noncomputable def nat_Bits_T (a0 : (List UInt64)) : Tree (RTs.den [.d .i64]) :=
 .ex (nat_size_s a0) fun y0 =>
 .br (decide (y0 = 0))
  (.ret 0)
  (.ob ((((0 : Int) ≤ (w64 (y0 - 1))) ∧ ((w64 (y0 - 1)) < (↑(List.length a0) : Int)))) (
  .ex (limb_Len_s (List.getD a0 (Int.toNat (w64 (y0 - 1))) default)) fun y1 =>
  .ret (w64 ((w64 (64 * (w64 (y0 - 1)))) + y1))))
noncomputable def nat_Bits (a0 : (List UInt64)) : Option (RTs.den [.d .i64]) := (nat_Bits_T a0).run
theorem nat_Bits_s (a0 : (List UInt64)) : ∀ y, nat_Bits a0 = some y → CSem Tryz.prog 66 [Ty.e (.slice .u64) a0] [] (fun v b => v = (RTs.shape [.d .i64] y).1 ∧ b = (RTs.shape [.d .i64] y).2) := fun_sound (H := f66H) (fn := Tryz.f66) (by kernel_rfl) (by kernel_rfl) (fun post => by kernel_rfl)
noncomputable def f73H : Hint := ⟨fun _ => false, false, fun _ => [], fun _ => [], fun _ => [], fun _ => [], fun _ => [], fun _ => [], resOf P 73, fun g _ _ => retOf P g⟩
noncomputable def power_Bits_T (x0 : RatD) : Tree (RTs.den [.d .i64]) :=
 .ex (nat_Bits_s x0.2.1) fun y0 =>
 .ex (nat_Bits_s x0.2.2.1) fun y1 =>
 .ret (max y0 y1)
noncomputable def power_Bits (x0 : RatD) : Option (RTs.den [.d .i64]) := (power_Bits_T x0).run
theorem power_Bits_s (x0 : RatD) : ∀ y, power_Bits x0 = some y → CSem Tryz.prog 73 [Ty.e ratT x0] [] (fun v b => v = (RTs.shape [.d .i64] y).1 ∧ b = (RTs.shape [.d .i64] y).2) := fun_sound (H := f73H) (fn := Tryz.f73) (by kernel_rfl) (by kernel_rfl) (fun post => by kernel_rfl)
noncomputable def f40H : Hint := ⟨fun _ => false, false, fun _ => [], fun _ => [], fun _ => [], fun _ => [], fun _ => [], fun _ => [], resOf P 40, fun g _ _ => retOf P g⟩
noncomputable def bank_Fits_T (x0 : ValD) : Tree (RTs.den [.d .bool]) :=
 .ex (power_Bits_s x0.1) fun y0 =>
 .ret (decide (y0 ≤ 512))
noncomputable def bank_Fits (x0 : ValD) : Option (RTs.den [.d .bool]) := (bank_Fits_T x0).run
theorem bank_Fits_s (x0 : ValD) : ∀ y, bank_Fits x0 = some y → CSem Tryz.prog 40 [Ty.e valT x0] [] (fun v b => v = (RTs.shape [.d .bool] y).1 ∧ b = (RTs.shape [.d .bool] y).2) := fun_sound (H := f40H) (fn := Tryz.f40) (by kernel_rfl) (by kernel_rfl) (fun post => by kernel_rfl)
noncomputable def f41H : Hint := ⟨fun _ => false, false, fun _ => [], fun _ => [], fun _ => [], fun _ => [], fun _ => [], fun _ => [], resOf P 41, fun g _ _ => retOf P g⟩
noncomputable def bank_Bank_Undo_T (a1 : (Int × (Int × (Int × (Int × (Int × (Bool × (Int × Unit)))))))) (q0 : Int) (q1 : Int) (q2 : (List Bool)) (q3 : Int) (q4 : Int) (q5 : Bool) (q6 : Int) : Tree (RTs.den [.d .bool] × (Int × Int × (List Bool) × Int × Int × Bool × Int)) :=
 .br (decide (a1.1 < 0))
  (.ret (Bool.false, (q0, (q1, (q2, (q3, (q4, (q5, q6))))))))
  (.br (decide ((0 : Int) < a1.1))
   (.ret (Bool.false, (q0, (q1, (q2, (q3, (q4, (q5, q6))))))))
   (.br (decide (a1.2.1 < 0))
    (.ret (Bool.false, (q0, (q1, (q2, (q3, (q4, (q5, q6))))))))
    (.br (decide (q3 < a1.2.1))
     (.ret (Bool.false, (q0, (q1, (q2, (q3, (q4, (q5, q6))))))))
     (.br (decide (a1.2.2.1 < 0))
      (.ret (Bool.false, (q0, (q1, (q2, (q3, (q4, (q5, q6))))))))
      (.br (decide ((0 : Int) < a1.2.2.1))
       (.ret (Bool.false, (q0, (q1, (q2, (q3, (q4, (q5, q6))))))))
       (.br (decide (a1.2.2.2.1 < 0))
        (.ret (Bool.false, (q0, (q1, (q2, (q3, (q4, (q5, q6))))))))
        (.br (decide (q4 < a1.2.2.2.1))
         (.ret (Bool.false, (q0, (q1, (q2, (q3, (q4, (q5, q6))))))))
         (.br (decide (a1.2.2.2.2.1 < 0))
          (.ret (Bool.false, (q0, (q1, (q2, (q3, (q4, (q5, q6))))))))
          (.br (decide (q1 < a1.2.2.2.2.1))
           (.ret (Bool.false, (q0, (q1, (q2, (q3, (q4, (q5, q6))))))))
           (.ob (((a1.1 = 0) ∧ (a1.1 = 0))) (
           .ob (((a1.2.2.1 = 0) ∧ (a1.2.2.1 = 0))) (
           .ret (Bool.true, (q0, (a1.2.2.2.2.1, (q2, (a1.2.1, (a1.2.2.2.1, (a1.2.2.2.2.2.1, a1.2.2.2.2.2.2.1)))))))))))))))))))
noncomputable def bank_Bank_Undo (a1 : (Int × (Int × (Int × (Int × (Int × (Bool × (Int × Unit)))))))) (q0 : Int) (q1 : Int) (q2 : (List Bool)) (q3 : Int) (q4 : Int) (q5 : Bool) (q6 : Int) : Option (RTs.den [.d .bool] × (Int × Int × (List Bool) × Int × Int × Bool × Int)) := (bank_Bank_Undo_T a1 q0 q1 q2 q3 q4 q5 q6).run
theorem bank_Bank_Undo_s (a1 : (Int × (Int × (Int × (Int × (Int × (Bool × (Int × Unit)))))))) (q0 : Int) (q1 : Int) (q2 : (List Bool)) (q3 : Int) (q4 : Int) (q5 : Bool) (q6 : Int) : ∀ y, bank_Bank_Undo a1 q0 q1 q2 q3 q4 q5 q6 = some y → CSem Tryz.prog 41 [.c (.ptr 0 0), Ty.e (.pair .i64 (.pair .i64 (.pair .i64 (.pair .i64 (.pair .i64 (.pair .bool (.pair .i64 .unit))))))) a1] (bkB (q0, q1, q2, q3, q4, q5, q6)) (fun v b => v = (outP 1 [.d .bool] bkB y).1 ∧ b = (outP 1 [.d .bool] bkB y).2) := fun_soundP (H := f41H) (fn := Tryz.f41) (by kernel_rfl) (by kernel_rfl) (fun post => by kernel_rfl)
noncomputable def f15H : Hint := ⟨fun _ => false, false, fun n => lk n [(3, [0, 4, 7, 12, 13, 14])], fun _ => [], fun _ => [], fun _ => [], fun _ => [], fun n => lk n [(3, [⟨.exit 0, [0, 4, 7], [7], mores P [], [4]⟩])], resOf P 15, fun g _ _ => if Nat.beq g 17 then Shape.ofP 1 [.d .i64] bkB else if Nat.beq g 41 then Shape.ofP 1 [.d .bool] bkB else retOf P g⟩
noncomputable def apply_Done_L3_st (p0 p1 p2 p3 p4 p5 : Int) (p6 : Bool) (p7 : Int) (s : (Int × (Int × (Int × (Int × ((List Bool) × (Int × (Int × (Bool × (Int × (List ValD))))))))))) : St := ⟨slots 32 [(0, .e (.c (.ptr 0 0))), (4, .e (.c (.ptr 2 0))), (7, .e (.c (.i64 s.1))), (12, .e (.c (.ref 1))), (13, .e (.c (.i64 p0))), (14, .e (.c (.i64 s.2.1)))], [.cells 76 [.i64 s.2.2.1, .i64 s.2.2.2.1, .nils, .sl .bool s.2.2.2.2.1, .nils, .i64 s.2.2.2.2.2.1, .i64 s.2.2.2.2.2.2.1, .bool s.2.2.2.2.2.2.2.1, .i64 s.2.2.2.2.2.2.2.2.1], .row 35 valT s.2.2.2.2.2.2.2.2.2 false, .cells 41 [.i64 p1, .i64 p2, .i64 p3, .i64 p4, .i64 p5, .bool p6, .i64 p7]]⟩
noncomputable def apply_Done_L3_out (p0 p1 p2 p3 p4 p5 : Int) (p6 : Bool) (p7 : Int) : (Int × ((Int × (Int × ((List Bool) × (Int × (Int × (Bool × Int)))))) × (List ValD))) → Exit × St := fun y => ((.exit 0), ⟨slots 32 [(0, .e (.c (.ptr 0 0))), (4, .e (.c (.ptr 2 0))), (7, .e (.c (.i64 y.1)))], [.cells 76 [.i64 y.2.1.1, .i64 y.2.1.2.1, .nils, .sl .bool y.2.1.2.2.1, .nils, .i64 y.2.1.2.2.2.1, .i64 y.2.1.2.2.2.2.1, .bool y.2.1.2.2.2.2.2.1, .i64 y.2.1.2.2.2.2.2.2], .row 35 valT y.2.2 false, .cells 41 [.i64 p1, .i64 p2, .i64 p3, .i64 p4, .i64 p5, .bool p6, .i64 p7]]⟩)
noncomputable def apply_Done_T3 (p0 p1 p2 p3 p4 p5 : Int) (p6 : Bool) (p7 : Int) (s : (Int × (Int × (Int × (Int × ((List Bool) × (Int × (Int × (Bool × (Int × (List ValD))))))))))) : Tree ((Int × (Int × (Int × (Int × ((List Bool) × (Int × (Int × (Bool × (Int × (List ValD)))))))))) ⊕ (Int × ((Int × (Int × ((List Bool) × (Int × (Int × (Bool × Int)))))) × (List ValD)))) :=
 .br (decide (s.2.1 < p0))
  (.ob ((((0 : Int) ≤ s.2.1) ∧ (s.2.1 < (↑(List.length s.2.2.2.2.2.2.2.2.2) : Int)))) (
  .br (decide (s.1 = 0))
   (.ex (bank_Fits_s (List.getD s.2.2.2.2.2.2.2.2.2 (Int.toNat s.2.1) default)) fun y0 =>
   .br (!y0)
    (.ret (.inl (5, ((w64 (s.2.1 + 1)), (s.2.2.1, (s.2.2.2.1, (s.2.2.2.2.1, (s.2.2.2.2.2.1, (s.2.2.2.2.2.2.1, (s.2.2.2.2.2.2.2.1, (s.2.2.2.2.2.2.2.2.1, s.2.2.2.2.2.2.2.2.2)))))))))))
    (.ret (.inl (s.1, ((w64 (s.2.1 + 1)), (s.2.2.1, (s.2.2.2.1, (s.2.2.2.2.1, (s.2.2.2.2.2.1, (s.2.2.2.2.2.2.1, (s.2.2.2.2.2.2.2.1, (s.2.2.2.2.2.2.2.2.1, s.2.2.2.2.2.2.2.2.2))))))))))))
   (.ret (.inl (s.1, ((w64 (s.2.1 + 1)), (s.2.2.1, (s.2.2.2.1, (s.2.2.2.2.1, (s.2.2.2.2.2.1, (s.2.2.2.2.2.2.1, (s.2.2.2.2.2.2.2.1, (s.2.2.2.2.2.2.2.2.1, s.2.2.2.2.2.2.2.2.2)))))))))))))
  (.ret (.inr (s.1, ((s.2.2.1, (s.2.2.2.1, (s.2.2.2.2.1, (s.2.2.2.2.2.1, (s.2.2.2.2.2.2.1, (s.2.2.2.2.2.2.2.1, s.2.2.2.2.2.2.2.2.1)))))), s.2.2.2.2.2.2.2.2.2))))
noncomputable def apply_Done_L3 (p0 p1 p2 p3 p4 p5 : Int) (p6 : Bool) (p7 : Int) (s : (Int × (Int × (Int × (Int × ((List Bool) × (Int × (Int × (Bool × (Int × (List ValD))))))))))) : Option (Int × ((Int × (Int × ((List Bool) × (Int × (Int × (Bool × Int)))))) × (List ValD))) := iter (fun s => (apply_Done_T3 p0 p1 p2 p3 p4 p5 p6 p7 s).run) F0 s
noncomputable abbrev apply_Done_L3_c : Code := loopOf Tryz.f15 3
theorem apply_Done_L3_s (p0 p1 p2 p3 p4 p5 : Int) (p6 : Bool) (p7 : Int) (s : (Int × (Int × (Int × (Int × ((List Bool) × (Int × (Int × (Bool × (Int × (List ValD))))))))))) : ∀ o, apply_Done_L3 p0 p1 p2 p3 p4 p5 p6 p7 s = some o → LpK Tryz.prog f15H 2 3 apply_Done_L3_c (apply_Done_L3_st p0 p1 p2 p3 p4 p5 p6 p7 s) (fun e s' => e = (apply_Done_L3_out p0 p1 p2 p3 p4 p5 p6 p7 o).1 ∧ s' = (apply_Done_L3_out p0 p1 p2 p3 p4 p5 p6 p7 o).2) := fun o => iter_sound (tr := fun s => (apply_Done_T3 p0 p1 p2 p3 p4 p5 p6 p7 s)) (st := fun s => apply_Done_L3_st p0 p1 p2 p3 p4 p5 p6 p7 s) (by kernel_rfl) (fun s K => by kernel_rfl) F0 s o
noncomputable def apply_Done_T (mark1 : (Int × (Int × (Int × (Int × (Int × (Bool × (Int × Unit)))))))) (q0 : Int) (q1 : Int) (q2 : (List Bool)) (q3 : Int) (q4 : Int) (q5 : Bool) (q6 : Int) (q7 : (List ValD)) : Tree (RTs.den [.d .i64] × (Int × Int × (List Bool) × Int × Int × Bool × Int × (List ValD))) :=
 .ex (bank_Bank_Err_s q0 q1 q2 q3 q4 q5 q6) fun y0 =>
 .ex (apply_Done_L3_s (↑(List.length q7) : Int) mark1.1 mark1.2.1 mark1.2.2.1 mark1.2.2.2.1 mark1.2.2.2.2.1 mark1.2.2.2.2.2.1 mark1.2.2.2.2.2.2.1 (y0.1, (0, (y0.2.1, (y0.2.2.1, (y0.2.2.2.1, (y0.2.2.2.2.1, (y0.2.2.2.2.2.1, (y0.2.2.2.2.2.2.1, (y0.2.2.2.2.2.2.2, q7)))))))))) fun y1 =>
 .br (!(decide (y1.1 = 0)))
  (.ex (bank_Bank_Undo_s mark1 y1.2.1.1 y1.2.1.2.1 y1.2.1.2.2.1 y1.2.1.2.2.2.1 y1.2.1.2.2.2.2.1 y1.2.1.2.2.2.2.2.1 y1.2.1.2.2.2.2.2.2) fun y2 =>
  .ret (y1.1, (y2.2.1, (y2.2.2.1, (y2.2.2.2.1, (y2.2.2.2.2.1, (y2.2.2.2.2.2.1, (y2.2.2.2.2.2.2.1, (y2.2.2.2.2.2.2.2, y1.2.2)))))))))
  (.ret (y1.1, (y1.2.1.1, (y1.2.1.2.1, (y1.2.1.2.2.1, (y1.2.1.2.2.2.1, (y1.2.1.2.2.2.2.1, (y1.2.1.2.2.2.2.2.1, (y1.2.1.2.2.2.2.2.2, y1.2.2)))))))))
noncomputable def apply_Done (mark1 : (Int × (Int × (Int × (Int × (Int × (Bool × (Int × Unit)))))))) (q0 : Int) (q1 : Int) (q2 : (List Bool)) (q3 : Int) (q4 : Int) (q5 : Bool) (q6 : Int) (q7 : (List ValD)) : Option (RTs.den [.d .i64] × (Int × Int × (List Bool) × Int × Int × Bool × Int × (List ValD))) := (apply_Done_T mark1 q0 q1 q2 q3 q4 q5 q6 q7).run
theorem apply_Done_s (mark1 : (Int × (Int × (Int × (Int × (Int × (Bool × (Int × Unit)))))))) (q0 : Int) (q1 : Int) (q2 : (List Bool)) (q3 : Int) (q4 : Int) (q5 : Bool) (q6 : Int) (q7 : (List ValD)) : ∀ y, apply_Done mark1 q0 q1 q2 q3 q4 q5 q6 q7 = some y → CSem Tryz.prog 15 [.c (.ptr 0 0), Ty.e (.pair .i64 (.pair .i64 (.pair .i64 (.pair .i64 (.pair .i64 (.pair .bool (.pair .i64 .unit))))))) mark1, .c (.ref 1)] (bkD (q0, q1, q2, q3, q4, q5, q6, q7)) (fun v b => v = (outP 2 [.d .i64] bkD y).1 ∧ b = (outP 2 [.d .i64] bkD y).2) := fun_soundP (H := f15H) (fn := Tryz.f15) (by kernel_rfl) (by kernel_rfl) (fun post => by kernel_rfl)
noncomputable def f58H : Hint := ⟨fun _ => false, false, fun _ => [], fun _ => [], fun _ => [], fun _ => [], fun _ => [], fun _ => [], resOf P 58, fun g _ _ => retOf P g⟩
noncomputable def bank_copied_T (x0 : RatD) : Tree (RTs.den [.d ratT]) :=
 .ob ((((0 + (List.length x0.2.1)) * 8) ≤ 140737488355328)) (
 .ob ((((0 + (List.length x0.2.2.1)) * 8) ≤ 140737488355328)) (
 .ret x0))
noncomputable def bank_copied (x0 : RatD) : Option (RTs.den [.d ratT]) := (bank_copied_T x0).run
theorem bank_copied_s (x0 : RatD) : ∀ y, bank_copied x0 = some y → CSem Tryz.prog 58 [Ty.e ratT x0] [] (fun v b => v = (RTs.shape [.d ratT] y).1 ∧ b = (RTs.shape [.d ratT] y).2) := fun_sound (H := f58H) (fn := Tryz.f58) (by kernel_rfl) (by kernel_rfl) (fun post => by kernel_rfl)
noncomputable def f32H : Hint := ⟨fun _ => false, false, fun _ => [], fun _ => [], fun _ => [], fun _ => [], fun _ => [], fun _ => [], resOf P 32, fun g _ _ => retOf P g⟩
noncomputable def bank_Copy_T (x0 : ValD) : Tree (RTs.den [.d valT]) :=
 .ex (bank_copied_s x0.1) fun y0 =>
 .ret (y0, x0.2)
noncomputable def bank_Copy (x0 : ValD) : Option (RTs.den [.d valT]) := (bank_Copy_T x0).run
theorem bank_Copy_s (x0 : ValD) : ∀ y, bank_Copy x0 = some y → CSem Tryz.prog 32 [Ty.e valT x0] [] (fun v b => v = (RTs.shape [.d valT] y).1 ∧ b = (RTs.shape [.d valT] y).2) := fun_sound (H := f32H) (fn := Tryz.f32) (by kernel_rfl) (by kernel_rfl) (fun post => by kernel_rfl)
noncomputable def f51H : Hint := ⟨fun _ => false, false, fun n => lk n [(4, [0, 11, 12, 13]), (11, [5, 20, 21, 22])], fun _ => [], fun _ => [], fun _ => [], fun _ => [], fun n => lk n [(4, [⟨.exit 0, [0], [], mores P [], []⟩, ⟨.ret, [2], [], mores P [(2, 39)], []⟩]), (11, [⟨.exit 2, [], [], mores P [], []⟩, ⟨.ret, [2], [], mores P [(2, 39)], []⟩])], resOf P 51, fun g _ _ => retOf P g⟩
noncomputable def shape_Check_L11_st (p0 : (List Int)) (p1 : Int) (s : (Int × Int)) : St := ⟨slots 38 [(5, .e (.c (.i64 s.1))), (20, .e (.c (.sl .i64 p0))), (21, .e (.c (.i64 p1))), (22, .e (.c (.i64 s.2)))], []⟩
noncomputable def shape_Check_L11_out (p0 : (List Int)) (p1 : Int) : (Unit ⊕ Int) → Exit × St := fun y => match y with
  | (.inl y) => ((.exit 2), ⟨slots 38 [], []⟩)
  | (.inr y) => (.ret, ⟨slots 38 [(2, .e (.c (.i64 y)))], []⟩)
noncomputable def shape_Check_T11 (p0 : (List Int)) (p1 : Int) (s : (Int × Int)) : Tree ((Int × Int) ⊕ (Unit ⊕ Int)) :=
 .br (decide (s.2 < p1))
  (.ob ((((0 : Int) ≤ s.2) ∧ (s.2 < (↑(List.length p0) : Int)))) (
  .br (decide ((List.getD p0 (Int.toNat s.2) default) = 1))
   (.ret (.inl (s.1, (w64 (s.2 + 1)))))
   (.ob ((s.1 ≠ 0)) (
   .br (decide ((w64 (Int.tdiv 64 s.1)) < (List.getD p0 (Int.toNat s.2) default)))
    (.ret (.inr (.inr 12)))
    (.ret (.inl ((w64 (s.1 * (List.getD p0 (Int.toNat s.2) default))), (w64 (s.2 + 1)))))))))
  (.ret (.inr (.inl ())))
noncomputable def shape_Check_L11 (p0 : (List Int)) (p1 : Int) (s : (Int × Int)) : Option (Unit ⊕ Int) := iter (fun s => (shape_Check_T11 p0 p1 s).run) F0 s
noncomputable abbrev shape_Check_L11_c : Code := loopOf Tryz.f51 11
theorem shape_Check_L11_s (p0 : (List Int)) (p1 : Int) (s : (Int × Int)) : ∀ o, shape_Check_L11 p0 p1 s = some o → LpK Tryz.prog f51H 0 11 shape_Check_L11_c (shape_Check_L11_st p0 p1 s) (fun e s' => e = (shape_Check_L11_out p0 p1 o).1 ∧ s' = (shape_Check_L11_out p0 p1 o).2) := fun o => iter_sound (tr := fun s => (shape_Check_T11 p0 p1 s)) (st := fun s => shape_Check_L11_st p0 p1 s) (by kernel_rfl) (fun s K => by kernel_rfl) F0 s o
noncomputable def shape_Check_L4_st (p0 p1 : (List Int)) (p2 : Int) (s : Int) : St := ⟨slots 38 [(0, .e (.c (.sl .i64 p0))), (11, .e (.c (.sl .i64 p1))), (12, .e (.c (.i64 p2))), (13, .e (.c (.i64 s)))], []⟩
noncomputable def shape_Check_L4_out (p0 p1 : (List Int)) (p2 : Int) : (Unit ⊕ Int) → Exit × St := fun y => match y with
  | (.inl y) => ((.exit 0), ⟨slots 38 [(0, .e (.c (.sl .i64 p0)))], []⟩)
  | (.inr y) => (.ret, ⟨slots 38 [(2, .e (.c (.i64 y)))], []⟩)
noncomputable def shape_Check_T4 (p0 p1 : (List Int)) (p2 : Int) (s : Int) : Tree (Int ⊕ (Unit ⊕ Int)) :=
 .br (decide (s < p2))
  (.ob ((((0 : Int) ≤ s) ∧ (s < (↑(List.length p1) : Int)))) (
  .br (decide ((List.getD p1 (Int.toNat s) default) < 1))
   (.ret (.inr (.inr 8)))
   (.ret (.inl (w64 (s + 1))))))
  (.ret (.inr (.inl ())))
noncomputable def shape_Check_L4 (p0 p1 : (List Int)) (p2 : Int) (s : Int) : Option (Unit ⊕ Int) := iter (fun s => (shape_Check_T4 p0 p1 p2 s).run) F0 s
noncomputable abbrev shape_Check_L4_c : Code := loopOf Tryz.f51 4
theorem shape_Check_L4_s (p0 p1 : (List Int)) (p2 : Int) (s : Int) : ∀ o, shape_Check_L4 p0 p1 p2 s = some o → LpK Tryz.prog f51H 0 4 shape_Check_L4_c (shape_Check_L4_st p0 p1 p2 s) (fun e s' => e = (shape_Check_L4_out p0 p1 p2 o).1 ∧ s' = (shape_Check_L4_out p0 p1 p2 o).2) := fun o => iter_sound (tr := fun s => (shape_Check_T4 p0 p1 p2 s)) (st := fun s => shape_Check_L4_st p0 p1 p2 s) (by kernel_rfl) (fun s K => by kernel_rfl) F0 s o
noncomputable def shape_Check_T (d0 : (List Int)) : Tree (RTs.den [.d .i64]) :=
 .br (decide ((6 : Int) < (↑(List.length d0) : Int)))
  (.ret 9)
  (.alt (isL (shape_Check_L4 d0 d0 (↑(List.length d0) : Int) 0))
   (.an (s_u (s_l (shape_Check_L4_s d0 d0 (↑(List.length d0) : Int) 0))) (
   .alt (isL (shape_Check_L11 d0 (↑(List.length d0) : Int) (1, 0)))
    (.an (s_u (s_l (shape_Check_L11_s d0 (↑(List.length d0) : Int) (1, 0)))) (
    .ret 0))
    (.ex (s_r (shape_Check_L11_s d0 (↑(List.length d0) : Int) (1, 0))) fun y0 =>
    .ret y0)))
   (.ex (s_r (shape_Check_L4_s d0 d0 (↑(List.length d0) : Int) 0)) fun y1 =>
   .ret y1))
noncomputable def shape_Check (d0 : (List Int)) : Option (RTs.den [.d .i64]) := (shape_Check_T d0).run
theorem shape_Check_s (d0 : (List Int)) : ∀ y, shape_Check d0 = some y → CSem Tryz.prog 51 [Ty.e (.slice .i64) d0] [] (fun v b => v = (RTs.shape [.d .i64] y).1 ∧ b = (RTs.shape [.d .i64] y).2) := fun_sound (H := f51H) (fn := Tryz.f51) (by kernel_rfl) (by kernel_rfl) (fun post => by kernel_rfl)
noncomputable def f74H : Hint := ⟨fun _ => false, false, fun _ => [], fun _ => [], fun _ => [], fun _ => [], fun _ => [], fun _ => [], resOf P 74, fun g _ _ => retOf P g⟩
noncomputable def prim_Is_T (op0 : Int) : Tree (RTs.den [.d .bool]) :=
 .br (decide ((1 : Int) ≤ op0))
  (.ret (decide (op0 ≤ 40)))
  (.ret Bool.false)
noncomputable def prim_Is (op0 : Int) : Option (RTs.den [.d .bool]) := (prim_Is_T op0).run
theorem prim_Is_s (op0 : Int) : ∀ y, prim_Is op0 = some y → CSem Tryz.prog 74 [Ty.e .i64 op0] [] (fun v b => v = (RTs.shape [.d .bool] y).1 ∧ b = (RTs.shape [.d .bool] y).2) := fun_sound (H := f74H) (fn := Tryz.f74) (by kernel_rfl) (by kernel_rfl) (fun post => by kernel_rfl)
noncomputable def f75H : Hint := ⟨fun _ => false, false, fun _ => [], fun _ => [], fun _ => [], fun _ => [], fun _ => [], fun _ => [], resOf P 75, fun g _ _ => retOf P g⟩
noncomputable def prim_Arity_T (op0 : Int) : Tree (RTs.den [.d .i64]) :=
 .ex (prim_Is_s op0) fun y0 =>
 .br (!y0)
  (.ret 0)
  (.br (decide ((17 : Int) ≤ op0))
   (.br (decide (op0 ≤ 23))
    (.ret 2)
    (.br (decide (op0 = 32))
     (.ret 2)
     (.br (decide (op0 = 40))
      (.ret 2)
      (.br (decide ((24 : Int) ≤ op0))
       (.br (decide (op0 ≤ 26))
        (.ret 3)
        (.ret 1))
       (.ret 1)))))
   (.br (decide (op0 = 32))
    (.ret 2)
    (.br (decide (op0 = 40))
     (.ret 2)
     (.br (decide ((24 : Int) ≤ op0))
      (.br (decide (op0 ≤ 26))
       (.ret 3)
       (.ret 1))
      (.ret 1)))))
noncomputable def prim_Arity (op0 : Int) : Option (RTs.den [.d .i64]) := (prim_Arity_T op0).run
theorem prim_Arity_s (op0 : Int) : ∀ y, prim_Arity op0 = some y → CSem Tryz.prog 75 [Ty.e .i64 op0] [] (fun v b => v = (RTs.shape [.d .i64] y).1 ∧ b = (RTs.shape [.d .i64] y).2) := fun_sound (H := f75H) (fn := Tryz.f75) (by kernel_rfl) (by kernel_rfl) (fun post => by kernel_rfl)
noncomputable def f123H : Hint := ⟨fun _ => false, false, fun _ => [], fun _ => [], fun _ => [], fun _ => [], fun _ => [], fun _ => [], resOf P 123, fun g _ _ => retOf P g⟩
noncomputable def infer_Const_T (p0 : Int) (q1 : Int) : Tree (RTs.den [.d .bool]) :=
 .br (decide (((-1048576) : Int) ≤ p0))
  (.br (decide (p0 ≤ 1048576))
   (.br (decide ((1 : Int) ≤ q1))
    (.ret (decide (q1 ≤ 1048576)))
    (.ret Bool.false))
   (.ret Bool.false))
  (.ret Bool.false)
noncomputable def infer_Const (p0 : Int) (q1 : Int) : Option (RTs.den [.d .bool]) := (infer_Const_T p0 q1).run
theorem infer_Const_s (p0 : Int) (q1 : Int) : ∀ y, infer_Const p0 q1 = some y → CSem Tryz.prog 123 [Ty.e .i64 p0, Ty.e .i64 q1] [] (fun v b => v = (RTs.shape [.d .bool] y).1 ∧ b = (RTs.shape [.d .bool] y).2) := fun_sound (H := f123H) (fn := Tryz.f123) (by kernel_rfl) (by kernel_rfl) (fun post => by kernel_rfl)
noncomputable def f76H : Hint := ⟨fun _ => false, false, fun _ => [], fun _ => [], fun _ => [], fun _ => [], fun _ => [], fun _ => [], resOf P 76, fun g _ _ => retOf P g⟩
noncomputable def infer_Attr_T (op0 : Int) (a1 : AttrD) : Tree (RTs.den [.d .bool]) :=
 .br (decide (op0 = 12))
  (.br (decide (((-8) : Int) ≤ a1.1))
   (.ret (decide (a1.1 ≤ 8)))
   (.ret Bool.false))
  (.br (decide (op0 = 13))
   (.ex (infer_Const_s a1.2.2.2.2.1 a1.2.2.2.2.2.1) fun y0 =>
   .ret y0)
   (.br (decide (op0 = 14))
    (.ex (infer_Const_s a1.2.2.2.2.1 a1.2.2.2.2.2.1) fun y1 =>
    .ret y1)
    (.br (decide (op0 = 16))
     (.ex (infer_Const_s a1.2.2.2.2.1 a1.2.2.2.2.2.1) fun y2 =>
     .ret y2)
     (.br (decide (op0 = 15))
      (.ex (infer_Const_s a1.2.2.2.2.1 a1.2.2.2.2.2.1) fun y3 =>
      .br y3
       (.ex (infer_Const_s a1.2.2.2.2.2.2.1 a1.2.2.2.2.2.2.2.1) fun y4 =>
       .br y4
        (.ret (decide ((w64 (a1.2.2.2.2.1 * a1.2.2.2.2.2.2.2.1)) ≤ (w64 (a1.2.2.2.2.2.2.1 * a1.2.2.2.2.2.1)))))
        (.ret Bool.false))
       (.ret Bool.false))
      (.ex (prim_Is_s op0) fun y5 =>
      .ret y5)))))
noncomputable def infer_Attr (op0 : Int) (a1 : AttrD) : Option (RTs.den [.d .bool]) := (infer_Attr_T op0 a1).run
theorem infer_Attr_s (op0 : Int) (a1 : AttrD) : ∀ y, infer_Attr op0 a1 = some y → CSem Tryz.prog 76 [Ty.e .i64 op0, Ty.e attrT a1] [] (fun v b => v = (RTs.shape [.d .bool] y).1 ∧ b = (RTs.shape [.d .bool] y).2) := fun_sound (H := f76H) (fn := Tryz.f76) (by kernel_rfl) (by kernel_rfl) (fun post => by kernel_rfl)
noncomputable def f77H : Hint := ⟨fun _ => false, false, fun _ => [], fun _ => [], fun _ => [], fun _ => [], fun _ => [], fun _ => [], resOf P 77, fun g _ _ => retOf P g⟩
noncomputable def prim_Class_T (op0 : Int) : Tree (RTs.den [.d .i64]) :=
 .ex (prim_Is_s op0) fun y0 =>
 .br (!y0)
  (.ret 0)
  (.br (decide (op0 < 27))
   (.ret 1)
   (.br (decide (op0 < 32))
    (.ret 2)
    (.br (decide (op0 = 32))
     (.ret 3)
     (.br (decide (op0 ≤ 37))
      (.ret 4)
      (.ret 5)))))
noncomputable def prim_Class (op0 : Int) : Option (RTs.den [.d .i64]) := (prim_Class_T op0).run
theorem prim_Class_s (op0 : Int) : ∀ y, prim_Class op0 = some y → CSem Tryz.prog 77 [Ty.e .i64 op0] [] (fun v b => v = (RTs.shape [.d .i64] y).1 ∧ b = (RTs.shape [.d .i64] y).2) := fun_sound (H := f77H) (fn := Tryz.f77) (by kernel_rfl) (by kernel_rfl) (fun post => by kernel_rfl)
/-- Not called where it counts: nothing is said of it. -/
def spread_All (l0 : Ty.den (.slice (.slice .i64))) : Option (RTs.den [.d (.slice .i64), .d .i64]) := none
theorem spread_All_s (l0 : Ty.den (.slice (.slice .i64))) : ∀ y, spread_All l0 = some y → CSem Tryz.prog 78 [Ty.e (.slice (.slice .i64)) l0] [] (fun v b => v = (RTs.shape [.d (.slice .i64), .d .i64] y).1 ∧ b = (RTs.shape [.d (.slice .i64), .d .i64] y).2) := fun y h => nomatch h
/-- Not called where it counts: nothing is said of it. -/
def reduce_Dims (op0 : Ty.den .i64) (a1 : Ty.den attrT) (d2 : Ty.den (.slice .i64)) : Option (RTs.den [.d (.slice .i64), .d .i64]) := none
theorem reduce_Dims_s (op0 : Ty.den .i64) (a1 : Ty.den attrT) (d2 : Ty.den (.slice .i64)) : ∀ y, reduce_Dims op0 a1 d2 = some y → CSem Tryz.prog 79 [Ty.e .i64 op0, Ty.e attrT a1, Ty.e (.slice .i64) d2] [] (fun v b => v = (RTs.shape [.d (.slice .i64), .d .i64] y).1 ∧ b = (RTs.shape [.d (.slice .i64), .d .i64] y).2) := fun y h => nomatch h
/-- Not called where it counts: nothing is said of it. -/
def matmul_Dims (toArray0 : Ty.den (.slice .i64)) (a1 : Ty.den (.slice .i64)) : Option (RTs.den [.d (.slice .i64), .d .i64]) := none
theorem matmul_Dims_s (toArray0 : Ty.den (.slice .i64)) (a1 : Ty.den (.slice .i64)) : ∀ y, matmul_Dims toArray0 a1 = some y → CSem Tryz.prog 80 [Ty.e (.slice .i64) toArray0, Ty.e (.slice .i64) a1] [] (fun v b => v = (RTs.shape [.d (.slice .i64), .d .i64] y).1 ∧ b = (RTs.shape [.d (.slice .i64), .d .i64] y).2) := fun y h => nomatch h
noncomputable def f52H : Hint := ⟨fun _ => false, false, fun _ => [], fun _ => [], fun _ => [], fun _ => [], fun _ => [], fun _ => [], resOf P 52, fun g _ _ => retOf P g⟩
noncomputable def slices_Clone_T (a0 : (List Int)) : Tree (RTs.den [.d (.slice .i64)]) :=
 .any (((List.isEmpty a0) = Bool.true)) fun g0 =>
 .br g0
  (.ret [])
  (.ob ((((0 + (List.length a0)) * 8) ≤ 140737488355328)) (
  .ret a0))
noncomputable def slices_Clone (a0 : (List Int)) : Option (RTs.den [.d (.slice .i64)]) := (slices_Clone_T a0).run
theorem slices_Clone_s (a0 : (List Int)) : ∀ y, slices_Clone a0 = some y → CSem Tryz.prog 52 [Ty.e (.slice .i64) a0] [] (fun v b => v = (RTs.shape [.d (.slice .i64)] y).1 ∧ b = (RTs.shape [.d (.slice .i64)] y).2) := fun_sound (H := f52H) (fn := Tryz.f52) (by kernel_rfl) (by kernel_rfl) (fun post => by kernel_rfl)
noncomputable def f53H : Hint := ⟨fun _ => false, false, fun n => lk n [(6, [0, 3, 4, 5])], fun _ => [], fun _ => [], fun _ => [], fun _ => [], fun n => lk n [(6, [⟨.exit 0, [3], [], mores P [], []⟩])], resOf P 53, fun g _ _ => retOf P g⟩
noncomputable def shape_Steps_L6_st (p0 : (List Int)) (s : (Int × (Int × (List Int)))) : St := ⟨slots 30 [(0, .e (.c (.sl .i64 p0))), (3, .e (.c (.ref 0))), (4, .e (.c (.i64 s.1))), (5, .e (.c (.i64 s.2.1)))], [.row 3 .i64 s.2.2 false]⟩
noncomputable def shape_Steps_L6_out (p0 : (List Int)) : (List Int) → Exit × St := fun y => ((.exit 0), ⟨slots 30 [(3, .e (.c (.ref 0)))], [.row 3 .i64 y false]⟩)
noncomputable def shape_Steps_T6 (p0 : (List Int)) (s : (Int × (Int × (List Int)))) : Tree ((Int × (Int × (List Int))) ⊕ (List Int)) :=
 .br (decide ((0 : Int) ≤ s.2.1))
  (.ob ((((0 : Int) ≤ s.2.1) ∧ (s.2.1 < (↑(List.length s.2.2) : Int)))) (
  .ob ((((0 : Int) ≤ s.2.1) ∧ (s.2.1 < (↑(List.length p0) : Int)))) (
  .ret (.inl ((w64 (s.1 * (List.getD p0 (Int.toNat s.2.1) default))), ((w64 (s.2.1 - 1)), (List.set s.2.2 (Int.toNat s.2.1) s.1)))))))
  (.ret (.inr s.2.2))
noncomputable def shape_Steps_L6 (p0 : (List Int)) (s : (Int × (Int × (List Int)))) : Option (List Int) := iter (fun s => (shape_Steps_T6 p0 s).run) F0 s
noncomputable abbrev shape_Steps_L6_c : Code := loopOf Tryz.f53 6
theorem shape_Steps_L6_s (p0 : (List Int)) (s : (Int × (Int × (List Int)))) : ∀ o, shape_Steps_L6 p0 s = some o → LpK Tryz.prog f53H 0 6 shape_Steps_L6_c (shape_Steps_L6_st p0 s) (fun e s' => e = (shape_Steps_L6_out p0 o).1 ∧ s' = (shape_Steps_L6_out p0 o).2) := fun o => iter_sound (tr := fun s => (shape_Steps_T6 p0 s)) (st := fun s => shape_Steps_L6_st p0 s) (by kernel_rfl) (fun s K => by kernel_rfl) F0 s o
noncomputable def shape_Steps_T (d0 : (List Int)) : Tree (RTs.den [.d (.slice .i64)]) :=
 .ex (shape_Check_s d0) fun y0 =>
 .br (!(decide (y0 = 0)))
  (.ret [])
  (.ob ((((0 : Int) ≤ (↑(List.length d0) : Int)) ∧ (((↑(List.length d0) : Int) ≤ (↑(List.length d0) : Int)) ∧ (((↑(List.length d0) : Int) * (↑8 : Int)) ≤ 140737488355328)))) (
  .ex (shape_Steps_L6_s d0 (1, ((w64 ((↑(List.length d0) : Int) - 1)), (List.replicate (Int.toNat (↑(List.length d0) : Int)) 0)))) fun y1 =>
  .ret y1))
noncomputable def shape_Steps (d0 : (List Int)) : Option (RTs.den [.d (.slice .i64)]) := (shape_Steps_T d0).run
theorem shape_Steps_s (d0 : (List Int)) : ∀ y, shape_Steps d0 = some y → CSem Tryz.prog 53 [Ty.e (.slice .i64) d0] [] (fun v b => v = (RTs.shape [.d (.slice .i64)] y).1 ∧ b = (RTs.shape [.d (.slice .i64)] y).2) := fun_sound (H := f53H) (fn := Tryz.f53) (by kernel_rfl) (by kernel_rfl) (fun post => by kernel_rfl)
noncomputable def f82H : Hint := ⟨fun _ => false, false, fun n => lk n [(5, [3, 9, 10, 11])], fun _ => [], fun _ => [], fun _ => [], fun _ => [], fun n => lk n [(5, [⟨.exit 0, [3], [3], mores P [], []⟩])], resOf P 82, fun g _ _ => retOf P g⟩
noncomputable def shape_Count_L5_st (p0 : (List Int)) (p1 : Int) (s : (Int × Int)) : St := ⟨slots 20 [(3, .e (.c (.i64 s.1))), (9, .e (.c (.sl .i64 p0))), (10, .e (.c (.i64 p1))), (11, .e (.c (.i64 s.2)))], []⟩
noncomputable def shape_Count_L5_out (p0 : (List Int)) (p1 : Int) : Int → Exit × St := fun y => ((.exit 0), ⟨slots 20 [(3, .e (.c (.i64 y)))], []⟩)
noncomputable def shape_Count_T5 (p0 : (List Int)) (p1 : Int) (s : (Int × Int)) : Tree ((Int × Int) ⊕ Int) :=
 .br (decide (s.2 < p1))
  (.ob ((((0 : Int) ≤ s.2) ∧ (s.2 < (↑(List.length p0) : Int)))) (
  .ret (.inl ((w64 (s.1 * (List.getD p0 (Int.toNat s.2) default))), (w64 (s.2 + 1))))))
  (.ret (.inr s.1))
noncomputable def shape_Count_L5 (p0 : (List Int)) (p1 : Int) (s : (Int × Int)) : Option Int := iter (fun s => (shape_Count_T5 p0 p1 s).run) F0 s
noncomputable abbrev shape_Count_L5_c : Code := loopOf Tryz.f82 5
theorem shape_Count_L5_s (p0 : (List Int)) (p1 : Int) (s : (Int × Int)) : ∀ o, shape_Count_L5 p0 p1 s = some o → LpK Tryz.prog f82H 0 5 shape_Count_L5_c (shape_Count_L5_st p0 p1 s) (fun e s' => e = (shape_Count_L5_out p0 p1 o).1 ∧ s' = (shape_Count_L5_out p0 p1 o).2) := fun o => iter_sound (tr := fun s => (shape_Count_T5 p0 p1 s)) (st := fun s => shape_Count_L5_st p0 p1 s) (by kernel_rfl) (fun s K => by kernel_rfl) F0 s o
noncomputable def shape_Count_T (d0 : (List Int)) : Tree (RTs.den [.d .i64]) :=
 .ex (shape_Check_s d0) fun y0 =>
 .br (!(decide (y0 = 0)))
  (.ret 0)
  (.ex (shape_Count_L5_s d0 (↑(List.length d0) : Int) (1, 0)) fun y1 =>
  .ret y1)
noncomputable def shape_Count (d0 : (List Int)) : Option (RTs.den [.d .i64]) := (shape_Count_T d0).run
theorem shape_Count_s (d0 : (List Int)) : ∀ y, shape_Count d0 = some y → CSem Tryz.prog 82 [Ty.e (.slice .i64) d0] [] (fun v b => v = (RTs.shape [.d .i64] y).1 ∧ b = (RTs.shape [.d .i64] y).2) := fun_sound (H := f82H) (fn := Tryz.f82) (by kernel_rfl) (by kernel_rfl) (fun post => by kernel_rfl)
noncomputable def f188H : Hint := ⟨fun _ => false, false, fun _ => [], fun _ => [], fun _ => [], fun _ => [], fun _ => [], fun _ => [], resOf P 188, fun g _ _ => retOf P g⟩
noncomputable def view_reach_T (d0 : Int) (step1 : Int) (room2 : Int) : Tree (RTs.den [.d .i64, .d .bool]) :=
 .br (decide (d0 = 1))
  (.ret (0, Bool.true))
  (.br (decide (room2 ≤ step1))
   (.ret (0, Bool.false))
   (.br (decide (step1 ≤ (w64 (0 - room2))))
    (.ret (0, Bool.false))
    (.ret ((w64 ((w64 (d0 - 1)) * step1)), Bool.true))))
noncomputable def view_reach (d0 : Int) (step1 : Int) (room2 : Int) : Option (RTs.den [.d .i64, .d .bool]) := (view_reach_T d0 step1 room2).run
theorem view_reach_s (d0 : Int) (step1 : Int) (room2 : Int) : ∀ y, view_reach d0 step1 room2 = some y → CSem Tryz.prog 188 [Ty.e .i64 d0, Ty.e .i64 step1, Ty.e .i64 room2] [] (fun v b => v = (RTs.shape [.d .i64, .d .bool] y).1 ∧ b = (RTs.shape [.d .i64, .d .bool] y).2) := fun_sound (H := f188H) (fn := Tryz.f188) (by kernel_rfl) (by kernel_rfl) (fun post => by kernel_rfl)
noncomputable def f149H : Hint := ⟨fun _ => false, false, fun n => lk n [(5, [1, 2, 5, 6, 44, 45, 46])], fun _ => [], fun _ => [], fun _ => [], fun _ => [], fun n => lk n [(5, [⟨.exit 0, [1, 5, 6], [5, 6], mores P [], [2]⟩, ⟨.ret, [4], [], mores P [(4, 4)], [2]⟩])], resOf P 149, fun g _ _ => retOf P g⟩
noncomputable def view_Right_L5_st (p0 : Int) (p1 : (List Int)) (p2 p3 : Int) (p4 p5 : (List Int)) (s : (Int × (Int × Int))) : St := ⟨slots 80 [(1, .e (.c (.i64 p0))), (2, .e (.c (.ptr 0 0))), (5, .e (.c (.i64 s.1))), (6, .e (.c (.i64 s.2.1))), (44, .e (.c (.sl .i64 p1))), (45, .e (.c (.i64 p2))), (46, .e (.c (.i64 s.2.2)))], [.cells 61 [.i64 p3, .sl .i64 p4, .sl .i64 p5]]⟩
noncomputable def view_Right_L5_out (p0 : Int) (p1 : (List Int)) (p2 p3 : Int) (p4 p5 : (List Int)) : ((Int × Int) ⊕ Bool) → Exit × St := fun y => match y with
  | (.inl y) => ((.exit 0), ⟨slots 80 [(1, .e (.c (.i64 p0))), (5, .e (.c (.i64 y.1))), (6, .e (.c (.i64 y.2)))], []⟩)
  | (.inr y) => (.ret, ⟨slots 80 [(4, .e (.c (.bool y)))], []⟩)
noncomputable def view_Right_T5 (p0 : Int) (p1 : (List Int)) (p2 p3 : Int) (p4 p5 : (List Int)) (s : (Int × (Int × Int))) : Tree ((Int × (Int × Int)) ⊕ ((Int × Int) ⊕ Bool)) :=
 .br (decide (s.2.2 < p2))
  (.ob ((((0 : Int) ≤ s.2.2) ∧ (s.2.2 < (↑(List.length p1) : Int)))) (
  .ob ((((0 : Int) ≤ s.2.2) ∧ (s.2.2 < (↑(List.length p5) : Int)))) (
  .ex (view_reach_s (List.getD p1 (Int.toNat s.2.2) default) (List.getD p5 (Int.toNat s.2.2) default) p0) fun y0 =>
  .br (!y0.2)
   (.ret (.inr (.inr Bool.false)))
   (.ret (.inl ((w64 (s.1 + (min y0.1 0))), ((w64 (s.2.1 + (max y0.1 0))), (w64 (s.2.2 + 1)))))))))
  (.ret (.inr (.inl (s.1, s.2.1))))
noncomputable def view_Right_L5 (p0 : Int) (p1 : (List Int)) (p2 p3 : Int) (p4 p5 : (List Int)) (s : (Int × (Int × Int))) : Option ((Int × Int) ⊕ Bool) := iter (fun s => (view_Right_T5 p0 p1 p2 p3 p4 p5 s).run) F0 s
noncomputable abbrev view_Right_L5_c : Code := loopOf Tryz.f149 5
theorem view_Right_L5_s (p0 : Int) (p1 : (List Int)) (p2 p3 : Int) (p4 p5 : (List Int)) (s : (Int × (Int × Int))) : ∀ o, view_Right_L5 p0 p1 p2 p3 p4 p5 s = some o → LpK Tryz.prog f149H 0 5 view_Right_L5_c (view_Right_L5_st p0 p1 p2 p3 p4 p5 s) (fun e s' => e = (view_Right_L5_out p0 p1 p2 p3 p4 p5 o).1 ∧ s' = (view_Right_L5_out p0 p1 p2 p3 p4 p5 o).2) := fun o => iter_sound (tr := fun s => (view_Right_T5 p0 p1 p2 p3 p4 p5 s)) (st := fun s => view_Right_L5_st p0 p1 p2 p3 p4 p5 s) (by kernel_rfl) (fun s K => by kernel_rfl) F0 s o
noncomputable def view_Right_T (toArray0 : (Int × ((List Int) × ((List Int) × Unit)))) (a1 : Int) : Tree (RTs.den [.d .bool]) :=
 .ex (shape_Check_s toArray0.2.1) fun y0 =>
 .br (!(decide (y0 = 0)))
  (.ret Bool.false)
  (.br (!(decide ((↑(List.length toArray0.2.2.1) : Int) = (↑(List.length toArray0.2.1) : Int))))
   (.ret Bool.false)
   (.br (decide ((64 : Int) < a1))
    (.ret Bool.false)
    (.br (decide (toArray0.1 < 0))
     (.ret Bool.false)
     (.br (decide (a1 ≤ toArray0.1))
      (.ret Bool.false)
      (.alt (isL (view_Right_L5 a1 toArray0.2.1 (↑(List.length toArray0.2.1) : Int) toArray0.1 toArray0.2.1 toArray0.2.2.1 (toArray0.1, (toArray0.1, 0))))
       (.ex (s_l (view_Right_L5_s a1 toArray0.2.1 (↑(List.length toArray0.2.1) : Int) toArray0.1 toArray0.2.1 toArray0.2.2.1 (toArray0.1, (toArray0.1, 0)))) fun y1 =>
       .br (decide ((0 : Int) ≤ y1.1))
       (.ret (decide (y1.2 < a1)))
       (.ret Bool.false))
       (.ex (s_r (view_Right_L5_s a1 toArray0.2.1 (↑(List.length toArray0.2.1) : Int) toArray0.1 toArray0.2.1 toArray0.2.2.1 (toArray0.1, (toArray0.1, 0)))) fun y2 =>
       .ret y2))))))
noncomputable def view_Right (toArray0 : (Int × ((List Int) × ((List Int) × Unit)))) (a1 : Int) : Option (RTs.den [.d .bool]) := (view_Right_T toArray0 a1).run
theorem view_Right_s (toArray0 : (Int × ((List Int) × ((List Int) × Unit)))) (a1 : Int) : ∀ y, view_Right toArray0 a1 = some y → CSem Tryz.prog 149 [Ty.e (.pair .i64 (.pair (.slice .i64) (.pair (.slice .i64) .unit))) toArray0, Ty.e .i64 a1] [] (fun v b => v = (RTs.shape [.d .bool] y).1 ∧ b = (RTs.shape [.d .bool] y).2) := fun_sound (H := f149H) (fn := Tryz.f149) (by kernel_rfl) (by kernel_rfl) (fun post => by kernel_rfl)
noncomputable def f88H : Hint := ⟨fun _ => false, false, fun _ => [], fun _ => [], fun _ => [], fun _ => [], fun _ => [], fun _ => [], resOf P 88, fun g _ _ => retOf P g⟩
noncomputable def view_right_T (v0 : (Int × ((List Int) × ((List Int) × Unit)))) : Tree (RTs.den [.d .bool]) :=
 .ex (view_Right_s v0 64) fun y0 =>
 .ret y0
noncomputable def view_right (v0 : (Int × ((List Int) × ((List Int) × Unit)))) : Option (RTs.den [.d .bool]) := (view_right_T v0).run
theorem view_right_s (v0 : (Int × ((List Int) × ((List Int) × Unit)))) : ∀ y, view_right v0 = some y → CSem Tryz.prog 88 [Ty.e (.pair .i64 (.pair (.slice .i64) (.pair (.slice .i64) .unit))) v0] [] (fun v b => v = (RTs.shape [.d .bool] y).1 ∧ b = (RTs.shape [.d .bool] y).2) := fun_sound (H := f88H) (fn := Tryz.f88) (by kernel_rfl) (by kernel_rfl) (fun post => by kernel_rfl)
noncomputable def f89H : Hint := ⟨fun _ => false, false, fun n => lk n [(5, [1, 3, 4])], fun _ => [], fun _ => [], fun _ => [], fun _ => [], fun n => lk n [(5, [⟨.exit 0, [], [], mores P [], [1]⟩, ⟨.ret, [2], [], mores P [(2, 4)], [1]⟩])], resOf P 89, fun g _ _ => retOf P g⟩
noncomputable def view_Row_L5_st (p0 : Int) (p1 p2 : (List Int)) (s : (Int × Int)) : St := ⟨slots 38 [(1, .e (.c (.ptr 0 0))), (3, .e (.c (.i64 s.1))), (4, .e (.c (.i64 s.2)))], [.cells 61 [.i64 p0, .sl .i64 p1, .sl .i64 p2]]⟩
noncomputable def view_Row_L5_out (p0 : Int) (p1 p2 : (List Int)) : (Unit ⊕ Bool) → Exit × St := fun y => match y with
  | (.inl y) => ((.exit 0), ⟨slots 38 [], []⟩)
  | (.inr y) => (.ret, ⟨slots 38 [(2, .e (.c (.bool y)))], []⟩)
noncomputable def view_Row_T5 (p0 : Int) (p1 p2 : (List Int)) (s : (Int × Int)) : Tree ((Int × Int) ⊕ (Unit ⊕ Bool)) :=
 .br (decide ((0 : Int) ≤ s.2))
  (.ob ((((0 : Int) ≤ s.2) ∧ (s.2 < (↑(List.length p1) : Int)))) (
  .br (decide ((1 : Int) < (List.getD p1 (Int.toNat s.2) default)))
   (.ob ((((0 : Int) ≤ s.2) ∧ (s.2 < (↑(List.length p2) : Int)))) (
   .br (!(decide ((List.getD p2 (Int.toNat s.2) default) = s.1)))
    (.ret (.inr (.inr Bool.false)))
    (.ob ((((0 : Int) ≤ s.2) ∧ (s.2 < (↑(List.length p1) : Int)))) (
    .ret (.inl ((w64 (s.1 * (List.getD p1 (Int.toNat s.2) default))), (w64 (s.2 - 1))))))))
   (.ob ((((0 : Int) ≤ s.2) ∧ (s.2 < (↑(List.length p1) : Int)))) (
   .ret (.inl ((w64 (s.1 * (List.getD p1 (Int.toNat s.2) default))), (w64 (s.2 - 1))))))))
  (.ret (.inr (.inl ())))
noncomputable def view_Row_L5 (p0 : Int) (p1 p2 : (List Int)) (s : (Int × Int)) : Option (Unit ⊕ Bool) := iter (fun s => (view_Row_T5 p0 p1 p2 s).run) F0 s
noncomputable abbrev view_Row_L5_c : Code := loopOf Tryz.f89 5
theorem view_Row_L5_s (p0 : Int) (p1 p2 : (List Int)) (s : (Int × Int)) : ∀ o, view_Row_L5 p0 p1 p2 s = some o → LpK Tryz.prog f89H 0 5 view_Row_L5_c (view_Row_L5_st p0 p1 p2 s) (fun e s' => e = (view_Row_L5_out p0 p1 p2 o).1 ∧ s' = (view_Row_L5_out p0 p1 p2 o).2) := fun o => iter_sound (tr := fun s => (view_Row_T5 p0 p1 p2 s)) (st := fun s => view_Row_L5_st p0 p1 p2 s) (by kernel_rfl) (fun s K => by kernel_rfl) F0 s o
noncomputable def view_Row_T (v0 : (Int × ((List Int) × ((List Int) × Unit)))) : Tree (RTs.den [.d .bool]) :=
 .ex (view_right_s v0) fun y0 =>
 .br (!y0)
  (.ret Bool.false)
  (.alt (isL (view_Row_L5 v0.1 v0.2.1 v0.2.2.1 (1, (w64 ((↑(List.length v0.2.1) : Int) - 1)))))
   (.an (s_u (s_l (view_Row_L5_s v0.1 v0.2.1 v0.2.2.1 (1, (w64 ((↑(List.length v0.2.1) : Int) - 1)))))) (
   .ret Bool.true))
   (.ex (s_r (view_Row_L5_s v0.1 v0.2.1 v0.2.2.1 (1, (w64 ((↑(List.length v0.2.1) : Int) - 1))))) fun y1 =>
   .ret y1))
noncomputable def view_Row (v0 : (Int × ((List Int) × ((List Int) × Unit)))) : Option (RTs.den [.d .bool]) := (view_Row_T v0).run
theorem view_Row_s (v0 : (Int × ((List Int) × ((List Int) × Unit)))) : ∀ y, view_Row v0 = some y → CSem Tryz.prog 89 [Ty.e (.pair .i64 (.pair (.slice .i64) (.pair (.slice .i64) .unit))) v0] [] (fun v b => v = (RTs.shape [.d .bool] y).1 ∧ b = (RTs.shape [.d .bool] y).2) := fun_sound (H := f89H) (fn := Tryz.f89) (by kernel_rfl) (by kernel_rfl) (fun post => by kernel_rfl)
noncomputable def f46H : Hint := ⟨fun _ => false, false, fun _ => [], fun _ => [], fun _ => [], fun _ => [], fun _ => [], fun _ => [], resOf P 46, fun g _ _ => retOf P g⟩
noncomputable def view_Reshape_T (v0 : (Int × ((List Int) × ((List Int) × Unit)))) (dims1 : (List Int)) : Tree (RTs.den [.d (.pair .i64 (.pair (.slice .i64) (.pair (.slice .i64) .unit))), .d .i64]) :=
 .ex (view_right_s v0) fun y0 =>
 .br (!y0)
  (.ret ((0, ([], ([], ()))), 1))
  (.ex (shape_Check_s dims1) fun y1 =>
  .br (!(decide (y1 = 0)))
   (.ret ((0, ([], ([], ()))), y1))
   (.ex (shape_Count_s dims1) fun y2 =>
   .ex (shape_Count_s v0.2.1) fun y3 =>
   .br (!(decide (y2 = y3)))
    (.ret ((0, ([], ([], ()))), 8))
    (.ex (view_Row_s v0) fun y4 =>
    .br (!y4)
     (.ret ((0, ([], ([], ()))), 19))
     (.ex (slices_Clone_s dims1) fun y5 =>
     .ex (shape_Steps_s dims1) fun y6 =>
     .ret ((v0.1, (y5, (y6, ()))), 0)))))
noncomputable def view_Reshape (v0 : (Int × ((List Int) × ((List Int) × Unit)))) (dims1 : (List Int)) : Option (RTs.den [.d (.pair .i64 (.pair (.slice .i64) (.pair (.slice .i64) .unit))), .d .i64]) := (view_Reshape_T v0 dims1).run
theorem view_Reshape_s (v0 : (Int × ((List Int) × ((List Int) × Unit)))) (dims1 : (List Int)) : ∀ y, view_Reshape v0 dims1 = some y → CSem Tryz.prog 46 [Ty.e (.pair .i64 (.pair (.slice .i64) (.pair (.slice .i64) .unit))) v0, Ty.e (.slice .i64) dims1] [] (fun v b => v = (RTs.shape [.d (.pair .i64 (.pair (.slice .i64) (.pair (.slice .i64) .unit))), .d .i64] y).1 ∧ b = (RTs.shape [.d (.pair .i64 (.pair (.slice .i64) (.pair (.slice .i64) .unit))), .d .i64] y).2) := fun_sound (H := f46H) (fn := Tryz.f46) (by kernel_rfl) (by kernel_rfl) (fun post => by kernel_rfl)
noncomputable def f150H : Hint := ⟨fun _ => false, false, fun n => lk n [(5, [0, 1, 6, 18, 19, 20]), (13, [6, 45, 46])], fun _ => [], fun _ => [], fun _ => [], fun _ => [], fun n => lk n [(5, [⟨.exit 0, [1, 6], [], mores P [], []⟩, ⟨.ret, [4, 5], [], mores P [(4, 23), (5, 39)], []⟩]), (13, [⟨.exit 2, [6], [], mores P [], []⟩])], resOf P 150, fun g _ _ => retOf P g⟩
noncomputable def shape_Axes_L13_st (p0 : Int) (s : (Int × (List Bool))) : St := ⟨slots 54 [(6, .e (.c (.ref 0))), (45, .e (.c (.i64 p0))), (46, .e (.c (.i64 s.1)))], [.row 4 .bool s.2 false]⟩
noncomputable def shape_Axes_L13_out (p0 : Int) : (List Bool) → Exit × St := fun y => ((.exit 2), ⟨slots 54 [(6, .e (.c (.ref 0)))], [.row 4 .bool y false]⟩)
noncomputable def shape_Axes_T13 (p0 : Int) (s : (Int × (List Bool))) : Tree ((Int × (List Bool)) ⊕ (List Bool)) :=
 .br (decide (s.1 < p0))
  (.ob ((((0 : Int) ≤ s.1) ∧ (s.1 < (↑(List.length s.2) : Int)))) (
  .ret (.inl ((w64 (s.1 + 1)), (List.set s.2 (Int.toNat s.1) Bool.true)))))
  (.ret (.inr s.2))
noncomputable def shape_Axes_L13 (p0 : Int) (s : (Int × (List Bool))) : Option (List Bool) := iter (fun s => (shape_Axes_T13 p0 s).run) F0 s
noncomputable abbrev shape_Axes_L13_c : Code := loopOf Tryz.f150 13
theorem shape_Axes_L13_s (p0 : Int) (s : (Int × (List Bool))) : ∀ o, shape_Axes_L13 p0 s = some o → LpK Tryz.prog f150H 0 13 shape_Axes_L13_c (shape_Axes_L13_st p0 s) (fun e s' => e = (shape_Axes_L13_out p0 o).1 ∧ s' = (shape_Axes_L13_out p0 o).2) := fun o => iter_sound (tr := fun s => (shape_Axes_T13 p0 s)) (st := fun s => shape_Axes_L13_st p0 s) (by kernel_rfl) (fun s K => by kernel_rfl) F0 s o
noncomputable def shape_Axes_L5_st (p0 : Int) (p1 p2 : (List Int)) (p3 : Int) (s : (Int × (List Bool))) : St := ⟨slots 54 [(0, .e (.c (.i64 p0))), (1, .e (.c (.sl .i64 p1))), (6, .e (.c (.ref 0))), (18, .e (.c (.sl .i64 p2))), (19, .e (.c (.i64 p3))), (20, .e (.c (.i64 s.1)))], [.row 4 .bool s.2 false]⟩
noncomputable def shape_Axes_L5_out (p0 : Int) (p1 p2 : (List Int)) (p3 : Int) : ((List Bool) ⊕ ((List Bool) × Int)) → Exit × St := fun y => match y with
  | (.inl y) => ((.exit 0), ⟨slots 54 [(1, .e (.c (.sl .i64 p1))), (6, .e (.c (.ref 0)))], [.row 4 .bool y false]⟩)
  | (.inr y) => (.ret, ⟨slots 54 [(4, .e (.c (.sl .bool y.1))), (5, .e (.c (.i64 y.2)))], []⟩)
noncomputable def shape_Axes_T5 (p0 : Int) (p1 p2 : (List Int)) (p3 : Int) (s : (Int × (List Bool))) : Tree ((Int × (List Bool)) ⊕ ((List Bool) ⊕ ((List Bool) × Int))) :=
 .br (decide (s.1 < p3))
  (.ob ((((0 : Int) ≤ s.1) ∧ (s.1 < (↑(List.length p2) : Int)))) (
  .br (decide ((List.getD p2 (Int.toNat s.1) default) < 0))
   (.ret (.inr (.inr ([], 10))))
   (.br (decide (p0 ≤ (List.getD p2 (Int.toNat s.1) default)))
    (.ret (.inr (.inr ([], 10))))
    (.ob ((((0 : Int) ≤ (List.getD p2 (Int.toNat s.1) default)) ∧ ((List.getD p2 (Int.toNat s.1) default) < (↑(List.length s.2) : Int)))) (
    .br (List.getD s.2 (Int.toNat (List.getD p2 (Int.toNat s.1) default)) default)
     (.ret (.inr (.inr ([], 10))))
     (.ob ((((0 : Int) ≤ (List.getD p2 (Int.toNat s.1) default)) ∧ ((List.getD p2 (Int.toNat s.1) default) < (↑(List.length s.2) : Int)))) (
     .ret (.inl ((w64 (s.1 + 1)), (List.set s.2 (Int.toNat (List.getD p2 (Int.toNat s.1) default)) Bool.true))))))))))
  (.ret (.inr (.inl s.2)))
noncomputable def shape_Axes_L5 (p0 : Int) (p1 p2 : (List Int)) (p3 : Int) (s : (Int × (List Bool))) : Option ((List Bool) ⊕ ((List Bool) × Int)) := iter (fun s => (shape_Axes_T5 p0 p1 p2 p3 s).run) F0 s
noncomputable abbrev shape_Axes_L5_c : Code := loopOf Tryz.f150 5
theorem shape_Axes_L5_s (p0 : Int) (p1 p2 : (List Int)) (p3 : Int) (s : (Int × (List Bool))) : ∀ o, shape_Axes_L5 p0 p1 p2 p3 s = some o → LpK Tryz.prog f150H 0 5 shape_Axes_L5_c (shape_Axes_L5_st p0 p1 p2 p3 s) (fun e s' => e = (shape_Axes_L5_out p0 p1 p2 p3 o).1 ∧ s' = (shape_Axes_L5_out p0 p1 p2 p3 o).2) := fun o => iter_sound (tr := fun s => (shape_Axes_T5 p0 p1 p2 p3 s)) (st := fun s => shape_Axes_L5_st p0 p1 p2 p3 s) (by kernel_rfl) (fun s K => by kernel_rfl) F0 s o
noncomputable def shape_Axes_T (rank0 : Int) (axes1 : (List Int)) : Tree (RTs.den [.d (.slice .bool), .d .i64]) :=
 .br (decide (rank0 < 0))
  (.ret ([], 9))
  (.br (decide ((6 : Int) < rank0))
   (.ret ([], 9))
   (.ob ((((0 : Int) ≤ rank0) ∧ ((rank0 ≤ rank0) ∧ ((rank0 * (↑1 : Int)) ≤ 140737488355328)))) (
   .alt (isL (shape_Axes_L5 rank0 axes1 axes1 (↑(List.length axes1) : Int) (0, (List.replicate (Int.toNat rank0) Bool.false))))
    (.ex (s_l (shape_Axes_L5_s rank0 axes1 axes1 (↑(List.length axes1) : Int) (0, (List.replicate (Int.toNat rank0) Bool.false)))) fun y0 =>
    .br (decide ((↑(List.length axes1) : Int) = 0))
    (.ex (shape_Axes_L13_s (↑(List.length y0) : Int) (0, y0)) fun y1 =>
    .ret (y1, 0))
    (.ret (y0, 0)))
    (.ex (s_r (shape_Axes_L5_s rank0 axes1 axes1 (↑(List.length axes1) : Int) (0, (List.replicate (Int.toNat rank0) Bool.false)))) fun y2 =>
    .ret (y2.1, y2.2)))))
noncomputable def shape_Axes (rank0 : Int) (axes1 : (List Int)) : Option (RTs.den [.d (.slice .bool), .d .i64]) := (shape_Axes_T rank0 axes1).run
theorem shape_Axes_s (rank0 : Int) (axes1 : (List Int)) : ∀ y, shape_Axes rank0 axes1 = some y → CSem Tryz.prog 150 [Ty.e .i64 rank0, Ty.e (.slice .i64) axes1] [] (fun v b => v = (RTs.shape [.d (.slice .bool), .d .i64] y).1 ∧ b = (RTs.shape [.d (.slice .bool), .d .i64] y).2) := fun_sound (H := f150H) (fn := Tryz.f150) (by kernel_rfl) (by kernel_rfl) (fun post => by kernel_rfl)
noncomputable def f90H : Hint := ⟨fun _ => false, false, fun n => lk n [(11, [0, 9, 32, 33, 34])], fun _ => [], fun n => lk n [(11, openOf P [(9, 48)])], fun _ => [], fun _ => [], fun n => lk n [(11, [⟨.exit 0, [9], [9], mores P [], []⟩])], resOf P 90, fun g _ _ => retOf P g⟩
noncomputable def shape_Perm_L11_st (p0 p1 : (List Int)) (p2 : Int) (s : (Int × (List Int))) : St := ⟨slots 47 [(0, .e (.c (.sl .i64 p0))), (9, .e (.c (.ref 0))), (32, .e (.c (.sl .i64 p1))), (33, .e (.c (.i64 p2))), (34, .e (.c (.i64 s.1)))], [.row 3 .i64 s.2 false]⟩
noncomputable def shape_Perm_L11_out (p0 p1 : (List Int)) (p2 : Int) : (List Int) → Exit × St := fun y => ((.exit 0), ⟨slots 47 [(9, .e (.c (.ref 0)))], [.row 3 .i64 y false]⟩)
noncomputable def shape_Perm_T11 (p0 p1 : (List Int)) (p2 : Int) (s : (Int × (List Int))) : Tree ((Int × (List Int)) ⊕ (List Int)) :=
 .br (decide (s.1 < p2))
  (.ob ((((0 : Int) ≤ s.1) ∧ (s.1 < (↑(List.length p1) : Int)))) (
  .ob ((((0 : Int) ≤ (List.getD p1 (Int.toNat s.1) default)) ∧ ((List.getD p1 (Int.toNat s.1) default) < (↑(List.length p0) : Int)))) (
  .ob (((((List.length s.2) + 1) * 8) ≤ 140737488355328)) (
  .ret (.inl ((w64 (s.1 + 1)), (s.2 ++ ((List.getD p0 (Int.toNat (List.getD p1 (Int.toNat s.1) default)) default) :: []))))))))
  (.ret (.inr s.2))
noncomputable def shape_Perm_L11 (p0 p1 : (List Int)) (p2 : Int) (s : (Int × (List Int))) : Option (List Int) := iter (fun s => (shape_Perm_T11 p0 p1 p2 s).run) F0 s
noncomputable abbrev shape_Perm_L11_c : Code := loopOf Tryz.f90 11
theorem shape_Perm_L11_s (p0 p1 : (List Int)) (p2 : Int) (s : (Int × (List Int))) : ∀ o, shape_Perm_L11 p0 p1 p2 s = some o → LpK Tryz.prog f90H 0 11 shape_Perm_L11_c (shape_Perm_L11_st p0 p1 p2 s) (fun e s' => e = (shape_Perm_L11_out p0 p1 p2 o).1 ∧ s' = (shape_Perm_L11_out p0 p1 p2 o).2) := fun o => iter_sound (tr := fun s => (shape_Perm_T11 p0 p1 p2 s)) (st := fun s => shape_Perm_L11_st p0 p1 p2 s) (by kernel_rfl) (fun s K => by kernel_rfl) F0 s o
noncomputable def shape_Perm_T (d0 : (List Int)) (axes1 : (List Int)) : Tree (RTs.den [.d (.slice .i64), .d .i64]) :=
 .ex (shape_Check_s d0) fun y0 =>
 .br (!(decide (y0 = 0)))
  (.ret ([], y0))
  (.br (!(decide ((↑(List.length axes1) : Int) = (↑(List.length d0) : Int))))
   (.ret ([], 10))
   (.ex (shape_Axes_s (↑(List.length d0) : Int) axes1) fun y1 =>
   .br (!(decide (y1.2 = 0)))
    (.ret ([], y1.2))
    (.ex (shape_Perm_L11_s d0 axes1 (↑(List.length axes1) : Int) (0, [])) fun y2 =>
    .ret (y2, 0))))
noncomputable def shape_Perm (d0 : (List Int)) (axes1 : (List Int)) : Option (RTs.den [.d (.slice .i64), .d .i64]) := (shape_Perm_T d0 axes1).run
theorem shape_Perm_s (d0 : (List Int)) (axes1 : (List Int)) : ∀ y, shape_Perm d0 axes1 = some y → CSem Tryz.prog 90 [Ty.e (.slice .i64) d0, Ty.e (.slice .i64) axes1] [] (fun v b => v = (RTs.shape [.d (.slice .i64), .d .i64] y).1 ∧ b = (RTs.shape [.d (.slice .i64), .d .i64] y).2) := fun_sound (H := f90H) (fn := Tryz.f90) (by kernel_rfl) (by kernel_rfl) (fun post => by kernel_rfl)
noncomputable def f47H : Hint := ⟨fun _ => false, false, fun n => lk n [(8, [2, 4, 6, 8, 26, 27, 28])], fun _ => [], fun n => lk n [(8, openOf P [(8, 48)])], fun _ => [], fun _ => [], fun n => lk n [(8, [⟨.exit 0, [2, 4, 6, 8], [8], mores P [], [2, 4]⟩])], resOf P 47, fun g _ _ => retOf P g⟩
noncomputable def view_Permute_L8_st (p0 p1 : (List Int)) (p2 p3 : Int) (p4 p5 : (List Int)) (s : (Int × (List Int))) : St := ⟨slots 46 [(2, .e (.c (.ptr 0 0))), (4, .e (.c (.ptr 1 0))), (6, .e (.c (.sl .i64 p0))), (8, .e (.c (.ref 2))), (26, .e (.c (.sl .i64 p1))), (27, .e (.c (.i64 p2))), (28, .e (.c (.i64 s.1)))], [.cells 61 [.i64 p3, .sl .i64 p4, .sl .i64 p5], .cells 61 [.i64 0, .nils, .nils], .row 3 .i64 s.2 false]⟩
noncomputable def view_Permute_L8_out (p0 p1 : (List Int)) (p2 p3 : Int) (p4 p5 : (List Int)) : (List Int) → Exit × St := fun y => ((.exit 0), ⟨slots 46 [(2, .e (.c (.ptr 0 0))), (4, .e (.c (.ptr 1 0))), (6, .e (.c (.sl .i64 p0))), (8, .e (.c (.ref 2)))], [.cells 61 [.i64 p3, .sl .i64 p4, .sl .i64 p5], .cells 61 [.i64 0, .nils, .nils], .row 3 .i64 y false]⟩)
noncomputable def view_Permute_T8 (p0 p1 : (List Int)) (p2 p3 : Int) (p4 p5 : (List Int)) (s : (Int × (List Int))) : Tree ((Int × (List Int)) ⊕ (List Int)) :=
 .br (decide (s.1 < p2))
  (.ob ((((0 : Int) ≤ s.1) ∧ (s.1 < (↑(List.length p1) : Int)))) (
  .ob ((((0 : Int) ≤ (List.getD p1 (Int.toNat s.1) default)) ∧ ((List.getD p1 (Int.toNat s.1) default) < (↑(List.length p5) : Int)))) (
  .ob (((((List.length s.2) + 1) * 8) ≤ 140737488355328)) (
  .ret (.inl ((w64 (s.1 + 1)), (s.2 ++ ((List.getD p5 (Int.toNat (List.getD p1 (Int.toNat s.1) default)) default) :: []))))))))
  (.ret (.inr s.2))
noncomputable def view_Permute_L8 (p0 p1 : (List Int)) (p2 p3 : Int) (p4 p5 : (List Int)) (s : (Int × (List Int))) : Option (List Int) := iter (fun s => (view_Permute_T8 p0 p1 p2 p3 p4 p5 s).run) F0 s
noncomputable abbrev view_Permute_L8_c : Code := loopOf Tryz.f47 8
theorem view_Permute_L8_s (p0 p1 : (List Int)) (p2 p3 : Int) (p4 p5 : (List Int)) (s : (Int × (List Int))) : ∀ o, view_Permute_L8 p0 p1 p2 p3 p4 p5 s = some o → LpK Tryz.prog f47H 0 8 view_Permute_L8_c (view_Permute_L8_st p0 p1 p2 p3 p4 p5 s) (fun e s' => e = (view_Permute_L8_out p0 p1 p2 p3 p4 p5 o).1 ∧ s' = (view_Permute_L8_out p0 p1 p2 p3 p4 p5 o).2) := fun o => iter_sound (tr := fun s => (view_Permute_T8 p0 p1 p2 p3 p4 p5 s)) (st := fun s => view_Permute_L8_st p0 p1 p2 p3 p4 p5 s) (by kernel_rfl) (fun s K => by kernel_rfl) F0 s o
noncomputable def view_Permute_T (v0 : (Int × ((List Int) × ((List Int) × Unit)))) (axes1 : (List Int)) : Tree (RTs.den [.d (.pair .i64 (.pair (.slice .i64) (.pair (.slice .i64) .unit))), .d .i64]) :=
 .ex (view_right_s v0) fun y0 =>
 .br (!y0)
  (.ret ((0, ([], ([], ()))), 1))
  (.ex (shape_Perm_s v0.2.1 axes1) fun y1 =>
  .br (!(decide (y1.2 = 0)))
   (.ret ((0, ([], ([], ()))), y1.2))
   (.ex (view_Permute_L8_s y1.1 axes1 (↑(List.length axes1) : Int) v0.1 v0.2.1 v0.2.2.1 (0, [])) fun y2 =>
   .ret ((v0.1, (y1.1, (y2, ()))), 0)))
noncomputable def view_Permute (v0 : (Int × ((List Int) × ((List Int) × Unit)))) (axes1 : (List Int)) : Option (RTs.den [.d (.pair .i64 (.pair (.slice .i64) (.pair (.slice .i64) .unit))), .d .i64]) := (view_Permute_T v0 axes1).run
theorem view_Permute_s (v0 : (Int × ((List Int) × ((List Int) × Unit)))) (axes1 : (List Int)) : ∀ y, view_Permute v0 axes1 = some y → CSem Tryz.prog 47 [Ty.e (.pair .i64 (.pair (.slice .i64) (.pair (.slice .i64) .unit))) v0, Ty.e (.slice .i64) axes1] [] (fun v b => v = (RTs.shape [.d (.pair .i64 (.pair (.slice .i64) (.pair (.slice .i64) .unit))), .d .i64] y).1 ∧ b = (RTs.shape [.d (.pair .i64 (.pair (.slice .i64) (.pair (.slice .i64) .unit))), .d .i64] y).2) := fun_sound (H := f47H) (fn := Tryz.f47) (by kernel_rfl) (by kernel_rfl) (fun post => by kernel_rfl)
noncomputable def f52Hr : Hint := ⟨fun _ => false, false, fun _ => [], fun _ => [], fun _ => [], fun _ => [], fun _ => [], fun _ => [], some [.r 3 .i64], fun g _ _ => retOf P g⟩
noncomputable def slices_Clone_r_T (a0 : (List Int)) : Tree (RTs.den [.r 3 .i64]) :=
 .any (((List.isEmpty a0) = Bool.true)) fun g0 =>
 .br g0
  (.ret [])
  (.ob ((((0 + (List.length a0)) * 8) ≤ 140737488355328)) (
  .ret a0))
noncomputable def slices_Clone_r (a0 : (List Int)) : Option (RTs.den [.r 3 .i64]) := (slices_Clone_r_T a0).run
theorem slices_Clone_r_s (a0 : (List Int)) : ∀ y, slices_Clone_r a0 = some y → CSem Tryz.prog 52 [Ty.e (.slice .i64) a0] [] (fun v b => v = (RTs.shape [.r 3 .i64] y).1 ∧ b = (RTs.shape [.r 3 .i64] y).2) := fun_sound (H := f52Hr) (fn := Tryz.f52) (by kernel_rfl) (by kernel_rfl) (fun post => by kernel_rfl)
noncomputable def f91H : Hint := ⟨fun _ => false, true, fun _ => [], fun _ => [], fun _ => [], fun _ => [], fun _ => [], fun _ => [], none, fun g _ _ => if Nat.beq g 52 then Shape.ofR [.r 3 .i64] else retOf P g⟩
noncomputable def view_copied_T (v0 : (Int × ((List Int) × ((List Int) × Unit)))) : Tree (Int × (List Int) × (List Int)) :=
 .ex (slices_Clone_r_s v0.2.1) fun y0 =>
 .ex (slices_Clone_r_s v0.2.2.1) fun y1 =>
 .ret (v0.1, (y0, y1))
noncomputable def view_copied (v0 : (Int × ((List Int) × ((List Int) × Unit)))) : Option (Int × (List Int) × (List Int)) := (view_copied_T v0).run
theorem view_copied_s (v0 : (Int × ((List Int) × ((List Int) × Unit)))) : ∀ y, view_copied v0 = some y → CSem Tryz.prog 91 [Ty.e (.pair .i64 (.pair (.slice .i64) (.pair (.slice .i64) .unit))) v0] [] (fun v b => v = (vwC y).1 ∧ b = (vwC y).2) := fun_soundG (H := f91H) (fn := Tryz.f91) (by kernel_rfl) (by kernel_rfl) (fun post => by kernel_rfl)
noncomputable def f48H : Hint := ⟨fun _ => false, false, fun _ => [], fun _ => [], fun _ => [], fun _ => [], fun _ => [], fun _ => [], resOf P 48, fun g _ _ => if Nat.beq g 91 then Shape.mk _ vwC else retOf P g⟩
noncomputable def view_Slice_T (toArray0 : (Int × ((List Int) × ((List Int) × Unit)))) (a1 : Int) (a2 : Int) (a3 : Int) (a4 : Int) : Tree (RTs.den [.d (.pair .i64 (.pair (.slice .i64) (.pair (.slice .i64) .unit))), .d .i64]) :=
 .ex (view_right_s toArray0) fun y0 =>
 .br (!y0)
  (.ret ((0, ([], ([], ()))), 1))
  (.br (decide (a1 < 0))
   (.ret ((0, ([], ([], ()))), 10))
   (.br (decide ((↑(List.length toArray0.2.1) : Int) ≤ a1))
    (.ret ((0, ([], ([], ()))), 10))
    (.ob ((((0 : Int) ≤ a1) ∧ (a1 < (↑(List.length toArray0.2.1) : Int)))) (
    .br (decide (a2 < 0))
     (.ret ((0, ([], ([], ()))), 11))
     (.br (decide ((List.getD toArray0.2.1 (Int.toNat a1) default) ≤ a2))
      (.ret ((0, ([], ([], ()))), 11))
      (.br (decide (a3 < 1))
       (.ret ((0, ([], ([], ()))), 11))
       (.br (decide ((List.getD toArray0.2.1 (Int.toNat a1) default) < a3))
        (.ret ((0, ([], ([], ()))), 11))
        (.ex (view_copied_s toArray0) fun y1 =>
        .br (decide ((1 : Int) < a3))
         (.br (decide (a4 = 0))
          (.ret ((0, ([], ([], ()))), 11))
          (.br (decide ((List.getD toArray0.2.1 (Int.toNat a1) default) ≤ a4))
           (.ret ((0, ([], ([], ()))), 11))
           (.br (decide (a4 ≤ (w64 (0 - (List.getD toArray0.2.1 (Int.toNat a1) default)))))
            (.ret ((0, ([], ([], ()))), 11))
            (.br (decide ((w64 (a2 + (w64 ((w64 (a3 - 1)) * a4)))) < 0))
             (.ret ((0, ([], ([], ()))), 11))
             (.br (decide ((List.getD toArray0.2.1 (Int.toNat a1) default) ≤ (w64 (a2 + (w64 ((w64 (a3 - 1)) * a4))))))
              (.ret ((0, ([], ([], ()))), 11))
              (.ob ((((0 : Int) ≤ a1) ∧ (a1 < (↑(List.length toArray0.2.2.1) : Int)))) (
              .ob ((((0 : Int) ≤ a1) ∧ (a1 < (↑(List.length y1.2.2) : Int)))) (
              .br (decide ((0 : Int) < a2))
               (.ob ((((0 : Int) ≤ a1) ∧ (a1 < (↑(List.length toArray0.2.2.1) : Int)))) (
               .ob ((((0 : Int) ≤ a1) ∧ (a1 < (↑(List.length y1.2.1) : Int)))) (
               .br (decide (a3 = 1))
                (.ob ((((0 : Int) ≤ a1) ∧ (a1 < (↑(List.length (List.set y1.2.2 (Int.toNat a1) (w64 ((List.getD toArray0.2.2.1 (Int.toNat a1) default) * a4)))) : Int)))) (
                .ret (((w64 (y1.1 + (w64 (a2 * (List.getD toArray0.2.2.1 (Int.toNat a1) default))))), ((List.set y1.2.1 (Int.toNat a1) a3), ((List.set (List.set y1.2.2 (Int.toNat a1) (w64 ((List.getD toArray0.2.2.1 (Int.toNat a1) default) * a4))) (Int.toNat a1) 0), ()))), 0)))
                (.ret (((w64 (y1.1 + (w64 (a2 * (List.getD toArray0.2.2.1 (Int.toNat a1) default))))), ((List.set y1.2.1 (Int.toNat a1) a3), ((List.set y1.2.2 (Int.toNat a1) (w64 ((List.getD toArray0.2.2.1 (Int.toNat a1) default) * a4))), ()))), 0)))))
               (.ob ((((0 : Int) ≤ a1) ∧ (a1 < (↑(List.length y1.2.1) : Int)))) (
               .br (decide (a3 = 1))
                (.ob ((((0 : Int) ≤ a1) ∧ (a1 < (↑(List.length (List.set y1.2.2 (Int.toNat a1) (w64 ((List.getD toArray0.2.2.1 (Int.toNat a1) default) * a4)))) : Int)))) (
                .ret ((y1.1, ((List.set y1.2.1 (Int.toNat a1) a3), ((List.set (List.set y1.2.2 (Int.toNat a1) (w64 ((List.getD toArray0.2.2.1 (Int.toNat a1) default) * a4))) (Int.toNat a1) 0), ()))), 0)))
                (.ret ((y1.1, ((List.set y1.2.1 (Int.toNat a1) a3), ((List.set y1.2.2 (Int.toNat a1) (w64 ((List.getD toArray0.2.2.1 (Int.toNat a1) default) * a4))), ()))), 0))))))))))))
         (.br (decide ((0 : Int) < a2))
          (.ob ((((0 : Int) ≤ a1) ∧ (a1 < (↑(List.length toArray0.2.2.1) : Int)))) (
          .ob ((((0 : Int) ≤ a1) ∧ (a1 < (↑(List.length y1.2.1) : Int)))) (
          .br (decide (a3 = 1))
           (.ob ((((0 : Int) ≤ a1) ∧ (a1 < (↑(List.length y1.2.2) : Int)))) (
           .ret (((w64 (y1.1 + (w64 (a2 * (List.getD toArray0.2.2.1 (Int.toNat a1) default))))), ((List.set y1.2.1 (Int.toNat a1) a3), ((List.set y1.2.2 (Int.toNat a1) 0), ()))), 0)))
           (.ret (((w64 (y1.1 + (w64 (a2 * (List.getD toArray0.2.2.1 (Int.toNat a1) default))))), ((List.set y1.2.1 (Int.toNat a1) a3), (y1.2.2, ()))), 0)))))
          (.ob ((((0 : Int) ≤ a1) ∧ (a1 < (↑(List.length y1.2.1) : Int)))) (
          .br (decide (a3 = 1))
           (.ob ((((0 : Int) ≤ a1) ∧ (a1 < (↑(List.length y1.2.2) : Int)))) (
           .ret ((y1.1, ((List.set y1.2.1 (Int.toNat a1) a3), ((List.set y1.2.2 (Int.toNat a1) 0), ()))), 0)))
           (.ret ((y1.1, ((List.set y1.2.1 (Int.toNat a1) a3), (y1.2.2, ()))), 0)))))))))))))
noncomputable def view_Slice (toArray0 : (Int × ((List Int) × ((List Int) × Unit)))) (a1 : Int) (a2 : Int) (a3 : Int) (a4 : Int) : Option (RTs.den [.d (.pair .i64 (.pair (.slice .i64) (.pair (.slice .i64) .unit))), .d .i64]) := (view_Slice_T toArray0 a1 a2 a3 a4).run
theorem view_Slice_s (toArray0 : (Int × ((List Int) × ((List Int) × Unit)))) (a1 : Int) (a2 : Int) (a3 : Int) (a4 : Int) : ∀ y, view_Slice toArray0 a1 a2 a3 a4 = some y → CSem Tryz.prog 48 [Ty.e (.pair .i64 (.pair (.slice .i64) (.pair (.slice .i64) .unit))) toArray0, Ty.e .i64 a1, Ty.e .i64 a2, Ty.e .i64 a3, Ty.e .i64 a4] [] (fun v b => v = (RTs.shape [.d (.pair .i64 (.pair (.slice .i64) (.pair (.slice .i64) .unit))), .d .i64] y).1 ∧ b = (RTs.shape [.d (.pair .i64 (.pair (.slice .i64) (.pair (.slice .i64) .unit))), .d .i64] y).2) := fun_sound (H := f48H) (fn := Tryz.f48) (by kernel_rfl) (by kernel_rfl) (fun post => by kernel_rfl)
noncomputable def f168H : Hint := ⟨fun _ => false, false, fun _ => [], fun _ => [], fun _ => [], fun _ => [], fun _ => [], fun _ => [], resOf P 168, fun g _ _ => retOf P g⟩
noncomputable def spread_size_T (d0 : (List Int)) (back1 : Int) : Tree (RTs.den [.d .i64]) :=
 .br (decide ((↑(List.length d0) : Int) < back1))
  (.ret 1)
  (.ob ((((0 : Int) ≤ (w64 ((↑(List.length d0) : Int) - back1))) ∧ ((w64 ((↑(List.length d0) : Int) - back1)) < (↑(List.length d0) : Int)))) (
  .ret (List.getD d0 (Int.toNat (w64 ((↑(List.length d0) : Int) - back1))) default)))
noncomputable def spread_size (d0 : (List Int)) (back1 : Int) : Option (RTs.den [.d .i64]) := (spread_size_T d0 back1).run
theorem spread_size_s (d0 : (List Int)) (back1 : Int) : ∀ y, spread_size d0 back1 = some y → CSem Tryz.prog 168 [Ty.e (.slice .i64) d0, Ty.e .i64 back1] [] (fun v b => v = (RTs.shape [.d .i64] y).1 ∧ b = (RTs.shape [.d .i64] y).2) := fun_sound (H := f168H) (fn := Tryz.f168) (by kernel_rfl) (by kernel_rfl) (fun post => by kernel_rfl)
noncomputable def f124H : Hint := ⟨fun _ => false, false, fun n => lk n [(2, [0, 1, 17, 18, 19]), (11, [0, 1, 9, 10, 11])], fun _ => [], fun _ => [], fun _ => [], fun _ => [], fun n => lk n [(2, [⟨.exit 0, [0, 1], [], mores P [], []⟩, ⟨.ret, [4, 5], [], mores P [(4, 48), (5, 39)], []⟩]), (11, [⟨.exit 2, [10], [], mores P [], []⟩, ⟨.ret, [4, 5], [], mores P [(4, 48), (5, 39)], []⟩])], resOf P 124, fun g _ _ => retOf P g⟩
noncomputable def spread_Two_L11_st (p0 p1 : (List Int)) (p2 : Int) (s : (Int × (List Int))) : St := ⟨slots 72 [(0, .e (.c (.sl .i64 p0))), (1, .e (.c (.sl .i64 p1))), (9, .e (.c (.i64 p2))), (10, .e (.c (.ref 0))), (11, .e (.c (.i64 s.1)))], [.row 3 .i64 s.2 false]⟩
noncomputable def spread_Two_L11_out (p0 p1 : (List Int)) (p2 : Int) : ((List Int) ⊕ ((List Int) × Int)) → Exit × St := fun y => match y with
  | (.inl y) => ((.exit 2), ⟨slots 72 [(10, .e (.c (.ref 0)))], [.row 3 .i64 y false]⟩)
  | (.inr y) => (.ret, ⟨slots 72 [(4, .e (.c (.sl .i64 y.1))), (5, .e (.c (.i64 y.2)))], []⟩)
noncomputable def spread_Two_T11 (p0 p1 : (List Int)) (p2 : Int) (s : (Int × (List Int))) : Tree ((Int × (List Int)) ⊕ ((List Int) ⊕ ((List Int) × Int))) :=
 .br (decide (s.1 ≤ p2))
  (.ex (spread_size_s p0 s.1) fun y0 =>
  .ex (spread_size_s p1 s.1) fun y1 =>
  .br (!(decide (y0 = y1)))
   (.br (!(decide (y0 = 1)))
    (.br (!(decide (y1 = 1)))
     (.ret (.inr (.inr ([], 8))))
     (.ob ((((0 : Int) ≤ (w64 (p2 - s.1))) ∧ ((w64 (p2 - s.1)) < (↑(List.length s.2) : Int)))) (
     .ret (.inl ((w64 (s.1 + 1)), (List.set s.2 (Int.toNat (w64 (p2 - s.1))) (max y0 y1)))))))
    (.ob ((((0 : Int) ≤ (w64 (p2 - s.1))) ∧ ((w64 (p2 - s.1)) < (↑(List.length s.2) : Int)))) (
    .ret (.inl ((w64 (s.1 + 1)), (List.set s.2 (Int.toNat (w64 (p2 - s.1))) (max y0 y1)))))))
   (.ob ((((0 : Int) ≤ (w64 (p2 - s.1))) ∧ ((w64 (p2 - s.1)) < (↑(List.length s.2) : Int)))) (
   .ret (.inl ((w64 (s.1 + 1)), (List.set s.2 (Int.toNat (w64 (p2 - s.1))) (max y0 y1)))))))
  (.ret (.inr (.inl s.2)))
noncomputable def spread_Two_L11 (p0 p1 : (List Int)) (p2 : Int) (s : (Int × (List Int))) : Option ((List Int) ⊕ ((List Int) × Int)) := iter (fun s => (spread_Two_T11 p0 p1 p2 s).run) F0 s
noncomputable abbrev spread_Two_L11_c : Code := loopOf Tryz.f124 11
theorem spread_Two_L11_s (p0 p1 : (List Int)) (p2 : Int) (s : (Int × (List Int))) : ∀ o, spread_Two_L11 p0 p1 p2 s = some o → LpK Tryz.prog f124H 0 11 spread_Two_L11_c (spread_Two_L11_st p0 p1 p2 s) (fun e s' => e = (spread_Two_L11_out p0 p1 p2 o).1 ∧ s' = (spread_Two_L11_out p0 p1 p2 o).2) := fun o => iter_sound (tr := fun s => (spread_Two_T11 p0 p1 p2 s)) (st := fun s => spread_Two_L11_st p0 p1 p2 s) (by kernel_rfl) (fun s K => by kernel_rfl) F0 s o
noncomputable def spread_Two_L2_st (p0 p1 : (List Int)) (p2 : Int) (s : (Int × (List (List Int)))) : St := ⟨slots 72 [(0, .e (.c (.sl .i64 p0))), (1, .e (.c (.sl .i64 p1))), (17, .e (.c (.ref 0))), (18, .e (.c (.i64 p2))), (19, .e (.c (.i64 s.1)))], [.row 48 (.slice .i64) s.2 false]⟩
noncomputable def spread_Two_L2_out (p0 p1 : (List Int)) (p2 : Int) : (Unit ⊕ ((List Int) × Int)) → Exit × St := fun y => match y with
  | (.inl y) => ((.exit 0), ⟨slots 72 [(0, .e (.c (.sl .i64 p0))), (1, .e (.c (.sl .i64 p1)))], []⟩)
  | (.inr y) => (.ret, ⟨slots 72 [(4, .e (.c (.sl .i64 y.1))), (5, .e (.c (.i64 y.2)))], []⟩)
noncomputable def spread_Two_T2 (p0 p1 : (List Int)) (p2 : Int) (s : (Int × (List (List Int)))) : Tree ((Int × (List (List Int))) ⊕ (Unit ⊕ ((List Int) × Int))) :=
 .br (decide (s.1 < p2))
  (.ob ((((0 : Int) ≤ s.1) ∧ (s.1 < (↑(List.length s.2) : Int)))) (
  .ex (shape_Check_s (List.getD s.2 (Int.toNat s.1) default)) fun y0 =>
  .br (!(decide (y0 = 0)))
   (.ret (.inr (.inr ([], y0))))
   (.ret (.inl ((w64 (s.1 + 1)), s.2)))))
  (.ret (.inr (.inl ())))
noncomputable def spread_Two_L2 (p0 p1 : (List Int)) (p2 : Int) (s : (Int × (List (List Int)))) : Option (Unit ⊕ ((List Int) × Int)) := iter (fun s => (spread_Two_T2 p0 p1 p2 s).run) F0 s
noncomputable abbrev spread_Two_L2_c : Code := loopOf Tryz.f124 2
theorem spread_Two_L2_s (p0 p1 : (List Int)) (p2 : Int) (s : (Int × (List (List Int)))) : ∀ o, spread_Two_L2 p0 p1 p2 s = some o → LpK Tryz.prog f124H 0 2 spread_Two_L2_c (spread_Two_L2_st p0 p1 p2 s) (fun e s' => e = (spread_Two_L2_out p0 p1 p2 o).1 ∧ s' = (spread_Two_L2_out p0 p1 p2 o).2) := fun o => iter_sound (tr := fun s => (spread_Two_T2 p0 p1 p2 s)) (st := fun s => spread_Two_L2_st p0 p1 p2 s) (by kernel_rfl) (fun s K => by kernel_rfl) F0 s o
noncomputable def spread_Two_T (toArray0 : (List Int)) (a1 : (List Int)) : Tree (RTs.den [.d (.slice .i64), .d .i64]) :=
 .alt (isL (spread_Two_L2 toArray0 a1 (↑2 : Int) (0, (toArray0 :: (a1 :: [])))))
  (.an (s_u (s_l (spread_Two_L2_s toArray0 a1 (↑2 : Int) (0, (toArray0 :: (a1 :: [])))))) (
  .ob ((((0 : Int) ≤ (max (↑(List.length toArray0) : Int) (↑(List.length a1) : Int))) ∧ (((max (↑(List.length toArray0) : Int) (↑(List.length a1) : Int)) ≤ (max (↑(List.length toArray0) : Int) (↑(List.length a1) : Int))) ∧ (((max (↑(List.length toArray0) : Int) (↑(List.length a1) : Int)) * (↑8 : Int)) ≤ 140737488355328)))) (
  .alt (isL (spread_Two_L11 toArray0 a1 (max (↑(List.length toArray0) : Int) (↑(List.length a1) : Int)) (1, (List.replicate (Int.toNat (max (↑(List.length toArray0) : Int) (↑(List.length a1) : Int))) 0))))
   (.ex (s_l (spread_Two_L11_s toArray0 a1 (max (↑(List.length toArray0) : Int) (↑(List.length a1) : Int)) (1, (List.replicate (Int.toNat (max (↑(List.length toArray0) : Int) (↑(List.length a1) : Int))) 0)))) fun y0 =>
   .ex (shape_Check_s y0) fun y1 =>
  .br (!(decide (y1 = 0)))
   (.ret ([], y1))
   (.ret (y0, 0)))
   (.ex (s_r (spread_Two_L11_s toArray0 a1 (max (↑(List.length toArray0) : Int) (↑(List.length a1) : Int)) (1, (List.replicate (Int.toNat (max (↑(List.length toArray0) : Int) (↑(List.length a1) : Int))) 0)))) fun y2 =>
   .ret (y2.1, y2.2)))))
  (.ex (s_r (spread_Two_L2_s toArray0 a1 (↑2 : Int) (0, (toArray0 :: (a1 :: []))))) fun y3 =>
  .ret (y3.1, y3.2))
noncomputable def spread_Two (toArray0 : (List Int)) (a1 : (List Int)) : Option (RTs.den [.d (.slice .i64), .d .i64]) := (spread_Two_T toArray0 a1).run
theorem spread_Two_s (toArray0 : (List Int)) (a1 : (List Int)) : ∀ y, spread_Two toArray0 a1 = some y → CSem Tryz.prog 124 [Ty.e (.slice .i64) toArray0, Ty.e (.slice .i64) a1] [] (fun v b => v = (RTs.shape [.d (.slice .i64), .d .i64] y).1 ∧ b = (RTs.shape [.d (.slice .i64), .d .i64] y).2) := fun_sound (H := f124H) (fn := Tryz.f124) (by kernel_rfl) (by kernel_rfl) (fun post => by kernel_rfl)
noncomputable def f189H : Hint := ⟨fun _ => false, false, fun n => lk n [(4, [0, 1, 12, 13])], fun _ => [], fun _ => [], fun _ => [], fun _ => [], fun n => lk n [(4, [⟨.exit 0, [], [], mores P [], []⟩, ⟨.ret, [4], [], mores P [(4, 4)], []⟩])], resOf P 189, fun g _ _ => retOf P g⟩
noncomputable def slices_Equal_L4_st (p0 p1 : (List Int)) (p2 : Int) (s : Int) : St := ⟨slots 26 [(0, .e (.c (.sl .i64 p0))), (1, .e (.c (.sl .i64 p1))), (12, .e (.c (.i64 p2))), (13, .e (.c (.i64 s)))], []⟩
noncomputable def slices_Equal_L4_out (p0 p1 : (List Int)) (p2 : Int) : (Unit ⊕ Bool) → Exit × St := fun y => match y with
  | (.inl y) => ((.exit 0), ⟨slots 26 [], []⟩)
  | (.inr y) => (.ret, ⟨slots 26 [(4, .e (.c (.bool y)))], []⟩)
noncomputable def slices_Equal_T4 (p0 p1 : (List Int)) (p2 : Int) (s : Int) : Tree (Int ⊕ (Unit ⊕ Bool)) :=
 .br (decide (s < p2))
  (.ob ((((0 : Int) ≤ s) ∧ (s < (↑(List.length p0) : Int)))) (
  .ob ((((0 : Int) ≤ s) ∧ (s < (↑(List.length p1) : Int)))) (
  .br (!(decide ((List.getD p0 (Int.toNat s) default) = (List.getD p1 (Int.toNat s) default))))
   (.ret (.inr (.inr Bool.false)))
   (.ret (.inl (w64 (s + 1)))))))
  (.ret (.inr (.inl ())))
noncomputable def slices_Equal_L4 (p0 p1 : (List Int)) (p2 : Int) (s : Int) : Option (Unit ⊕ Bool) := iter (fun s => (slices_Equal_T4 p0 p1 p2 s).run) F0 s
noncomputable abbrev slices_Equal_L4_c : Code := loopOf Tryz.f189 4
theorem slices_Equal_L4_s (p0 p1 : (List Int)) (p2 : Int) (s : Int) : ∀ o, slices_Equal_L4 p0 p1 p2 s = some o → LpK Tryz.prog f189H 0 4 slices_Equal_L4_c (slices_Equal_L4_st p0 p1 p2 s) (fun e s' => e = (slices_Equal_L4_out p0 p1 p2 o).1 ∧ s' = (slices_Equal_L4_out p0 p1 p2 o).2) := fun o => iter_sound (tr := fun s => (slices_Equal_T4 p0 p1 p2 s)) (st := fun s => slices_Equal_L4_st p0 p1 p2 s) (by kernel_rfl) (fun s K => by kernel_rfl) F0 s o
noncomputable def slices_Equal_T (s10 : (List Int)) (s21 : (List Int)) : Tree (RTs.den [.d .bool]) :=
 .br (!(decide ((↑(List.length s10) : Int) = (↑(List.length s21) : Int))))
  (.ret Bool.false)
  (.alt (isL (slices_Equal_L4 s10 s21 (↑(List.length s10) : Int) 0))
   (.an (s_u (s_l (slices_Equal_L4_s s10 s21 (↑(List.length s10) : Int) 0))) (
   .ret Bool.true))
   (.ex (s_r (slices_Equal_L4_s s10 s21 (↑(List.length s10) : Int) 0)) fun y0 =>
   .ret y0))
noncomputable def slices_Equal (s10 : (List Int)) (s21 : (List Int)) : Option (RTs.den [.d .bool]) := (slices_Equal_T s10 s21).run
theorem slices_Equal_s (s10 : (List Int)) (s21 : (List Int)) : ∀ y, slices_Equal s10 s21 = some y → CSem Tryz.prog 189 [Ty.e (.slice .i64) s10, Ty.e (.slice .i64) s21] [] (fun v b => v = (RTs.shape [.d .bool] y).1 ∧ b = (RTs.shape [.d .bool] y).2) := fun_sound (H := f189H) (fn := Tryz.f189) (by kernel_rfl) (by kernel_rfl) (fun post => by kernel_rfl)
noncomputable def f151H : Hint := ⟨fun _ => false, false, fun _ => [], fun _ => [], fun _ => [], fun _ => [], fun _ => [], fun _ => [], resOf P 151, fun g _ _ => retOf P g⟩
noncomputable def shape_Same_T (a0 : (List Int)) (b1 : (List Int)) : Tree (RTs.den [.d .bool]) :=
 .ex (slices_Equal_s a0 b1) fun y0 =>
 .ret y0
noncomputable def shape_Same (a0 : (List Int)) (b1 : (List Int)) : Option (RTs.den [.d .bool]) := (shape_Same_T a0 b1).run
theorem shape_Same_s (a0 : (List Int)) (b1 : (List Int)) : ∀ y, shape_Same a0 b1 = some y → CSem Tryz.prog 151 [Ty.e (.slice .i64) a0, Ty.e (.slice .i64) b1] [] (fun v b => v = (RTs.shape [.d .bool] y).1 ∧ b = (RTs.shape [.d .bool] y).2) := fun_sound (H := f151H) (fn := Tryz.f151) (by kernel_rfl) (by kernel_rfl) (fun post => by kernel_rfl)
noncomputable def f92H : Hint := ⟨fun _ => false, false, fun _ => [], fun _ => [], fun _ => [], fun _ => [], fun _ => [], fun _ => [], resOf P 92, fun g _ _ => retOf P g⟩
noncomputable def spread_Fits_T (a0 : (List Int)) (a1 : (List Int)) : Tree (RTs.den [.d .bool]) :=
 .ex (spread_Two_s a0 a1) fun y0 =>
 .br (decide (y0.2 = 0))
  (.ex (shape_Same_s y0.1 a1) fun y1 =>
  .ret y1)
  (.ret Bool.false)
noncomputable def spread_Fits (a0 : (List Int)) (a1 : (List Int)) : Option (RTs.den [.d .bool]) := (spread_Fits_T a0 a1).run
theorem spread_Fits_s (a0 : (List Int)) (a1 : (List Int)) : ∀ y, spread_Fits a0 a1 = some y → CSem Tryz.prog 92 [Ty.e (.slice .i64) a0, Ty.e (.slice .i64) a1] [] (fun v b => v = (RTs.shape [.d .bool] y).1 ∧ b = (RTs.shape [.d .bool] y).2) := fun_sound (H := f92H) (fn := Tryz.f92) (by kernel_rfl) (by kernel_rfl) (fun post => by kernel_rfl)
noncomputable def f49H : Hint := ⟨fun _ => false, false, fun n => lk n [(11, [2, 4, 7, 8, 42, 43, 44])], fun _ => [], fun _ => [], fun _ => [], fun _ => [], fun n => lk n [(11, [⟨.exit 0, [4, 7], [], mores P [], [2, 4, 7]⟩])], resOf P 49, fun g _ _ => retOf P g⟩
noncomputable def view_Expand_L11_st (p0 : Int) (p1 : (List Int)) (p2 p3 : Int) (p4 p5 : (List Int)) (p6 : Int) (p7 : (List Int)) (s : (Int × (List Int))) : St := ⟨slots 64 [(2, .e (.c (.ptr 0 0))), (4, .e (.c (.ptr 1 0))), (7, .e (.c (.ptr 2 0))), (8, .e (.c (.i64 p0))), (42, .e (.c (.sl .i64 p1))), (43, .e (.c (.i64 p2))), (44, .e (.c (.i64 s.1)))], [.cells 61 [.i64 p3, .sl .i64 p4, .sl .i64 p5], .cells 61 [.i64 0, .nils, .nils], .cells 61 [.i64 p6, .sl .i64 p7, .ref 3], .row 3 .i64 s.2 false]⟩
noncomputable def view_Expand_L11_out (p0 : Int) (p1 : (List Int)) (p2 p3 : Int) (p4 p5 : (List Int)) (p6 : Int) (p7 : (List Int)) : (List Int) → Exit × St := fun y => ((.exit 0), ⟨slots 64 [(4, .e (.c (.ptr 0 0))), (7, .e (.c (.ptr 1 0)))], [.cells 61 [.i64 0, .nils, .nils], .cells 61 [.i64 p6, .sl .i64 p7, .ref 2], .row 3 .i64 y false]⟩)
noncomputable def view_Expand_T11 (p0 : Int) (p1 : (List Int)) (p2 p3 : Int) (p4 p5 : (List Int)) (p6 : Int) (p7 : (List Int)) (s : (Int × (List Int))) : Tree ((Int × (List Int)) ⊕ (List Int)) :=
 .br (decide (s.1 < p2))
  (.ob ((((0 : Int) ≤ s.1) ∧ (s.1 < (↑(List.length p1) : Int)))) (
  .br (decide ((1 : Int) < (List.getD p1 (Int.toNat s.1) default)))
   (.ob ((((0 : Int) ≤ s.1) ∧ (s.1 < (↑(List.length p5) : Int)))) (
   .ob ((((0 : Int) ≤ (w64 (p0 + s.1))) ∧ ((w64 (p0 + s.1)) < (↑(List.length s.2) : Int)))) (
   .ret (.inl ((w64 (s.1 + 1)), (List.set s.2 (Int.toNat (w64 (p0 + s.1))) (List.getD p5 (Int.toNat s.1) default)))))))
   (.ret (.inl ((w64 (s.1 + 1)), s.2)))))
  (.ret (.inr s.2))
noncomputable def view_Expand_L11 (p0 : Int) (p1 : (List Int)) (p2 p3 : Int) (p4 p5 : (List Int)) (p6 : Int) (p7 : (List Int)) (s : (Int × (List Int))) : Option (List Int) := iter (fun s => (view_Expand_T11 p0 p1 p2 p3 p4 p5 p6 p7 s).run) F0 s
noncomputable abbrev view_Expand_L11_c : Code := loopOf Tryz.f49 11
theorem view_Expand_L11_s (p0 : Int) (p1 : (List Int)) (p2 p3 : Int) (p4 p5 : (List Int)) (p6 : Int) (p7 : (List Int)) (s : (Int × (List Int))) : ∀ o, view_Expand_L11 p0 p1 p2 p3 p4 p5 p6 p7 s = some o → LpK Tryz.prog f49H 0 11 view_Expand_L11_c (view_Expand_L11_st p0 p1 p2 p3 p4 p5 p6 p7 s) (fun e s' => e = (view_Expand_L11_out p0 p1 p2 p3 p4 p5 p6 p7 o).1 ∧ s' = (view_Expand_L11_out p0 p1 p2 p3 p4 p5 p6 p7 o).2) := fun o => iter_sound (tr := fun s => (view_Expand_T11 p0 p1 p2 p3 p4 p5 p6 p7 s)) (st := fun s => view_Expand_L11_st p0 p1 p2 p3 p4 p5 p6 p7 s) (by kernel_rfl) (fun s K => by kernel_rfl) F0 s o
noncomputable def view_Expand_T (v0 : (Int × ((List Int) × ((List Int) × Unit)))) (dims1 : (List Int)) : Tree (RTs.den [.d (.pair .i64 (.pair (.slice .i64) (.pair (.slice .i64) .unit))), .d .i64]) :=
 .ex (view_right_s v0) fun y0 =>
 .br (!y0)
  (.ret ((0, ([], ([], ()))), 1))
  (.ex (shape_Check_s dims1) fun y1 =>
  .br (!(decide (y1 = 0)))
   (.ret ((0, ([], ([], ()))), y1))
   (.ex (spread_Fits_s v0.2.1 dims1) fun y2 =>
   .br (!y2)
    (.ret ((0, ([], ([], ()))), 8))
    (.ob ((((0 : Int) ≤ (↑(List.length dims1) : Int)) ∧ (((↑(List.length dims1) : Int) ≤ (↑(List.length dims1) : Int)) ∧ (((↑(List.length dims1) : Int) * (↑8 : Int)) ≤ 140737488355328)))) (
    .ex (slices_Clone_s dims1) fun y3 =>
    .ex (view_Expand_L11_s (w64 ((↑(List.length dims1) : Int) - (↑(List.length v0.2.1) : Int))) v0.2.1 (↑(List.length v0.2.1) : Int) v0.1 v0.2.1 v0.2.2.1 v0.1 y3 (0, (List.replicate (Int.toNat (↑(List.length dims1) : Int)) 0))) fun y4 =>
    .ret ((v0.1, (y3, (y4, ()))), 0)))))
noncomputable def view_Expand (v0 : (Int × ((List Int) × ((List Int) × Unit)))) (dims1 : (List Int)) : Option (RTs.den [.d (.pair .i64 (.pair (.slice .i64) (.pair (.slice .i64) .unit))), .d .i64]) := (view_Expand_T v0 dims1).run
theorem view_Expand_s (v0 : (Int × ((List Int) × ((List Int) × Unit)))) (dims1 : (List Int)) : ∀ y, view_Expand v0 dims1 = some y → CSem Tryz.prog 49 [Ty.e (.pair .i64 (.pair (.slice .i64) (.pair (.slice .i64) .unit))) v0, Ty.e (.slice .i64) dims1] [] (fun v b => v = (RTs.shape [.d (.pair .i64 (.pair (.slice .i64) (.pair (.slice .i64) .unit))), .d .i64] y).1 ∧ b = (RTs.shape [.d (.pair .i64 (.pair (.slice .i64) (.pair (.slice .i64) .unit))), .d .i64] y).2) := fun_sound (H := f49H) (fn := Tryz.f49) (by kernel_rfl) (by kernel_rfl) (fun post => by kernel_rfl)
noncomputable def f50H : Hint := ⟨fun _ => false, false, fun _ => [], fun _ => [], fun _ => [], fun _ => [], fun _ => [], fun _ => [], resOf P 50, fun g _ _ => if Nat.beq g 91 then Shape.mk _ vwC else retOf P g⟩
noncomputable def view_Flip_T (v0 : (Int × ((List Int) × ((List Int) × Unit)))) (axis1 : Int) : Tree (RTs.den [.d (.pair .i64 (.pair (.slice .i64) (.pair (.slice .i64) .unit))), .d .i64]) :=
 .ex (view_right_s v0) fun y0 =>
 .br (!y0)
  (.ret ((0, ([], ([], ()))), 1))
  (.br (decide (axis1 < 0))
   (.ret ((0, ([], ([], ()))), 10))
   (.br (decide ((↑(List.length v0.2.1) : Int) ≤ axis1))
    (.ret ((0, ([], ([], ()))), 10))
    (.ex (view_copied_s v0) fun y1 =>
    .ob ((((0 : Int) ≤ axis1) ∧ (axis1 < (↑(List.length v0.2.1) : Int)))) (
    .br (decide ((1 : Int) < (List.getD v0.2.1 (Int.toNat axis1) default)))
     (.ob ((((0 : Int) ≤ axis1) ∧ (axis1 < (↑(List.length v0.2.2.1) : Int)))) (
     .ob ((((0 : Int) ≤ axis1) ∧ (axis1 < (↑(List.length v0.2.2.1) : Int)))) (
     .ob ((((0 : Int) ≤ axis1) ∧ (axis1 < (↑(List.length y1.2.2) : Int)))) (
     .ret (((w64 (y1.1 + (w64 ((w64 ((List.getD v0.2.1 (Int.toNat axis1) default) - 1)) * (List.getD v0.2.2.1 (Int.toNat axis1) default))))), (y1.2.1, ((List.set y1.2.2 (Int.toNat axis1) (w64 (0 - (List.getD v0.2.2.1 (Int.toNat axis1) default)))), ()))), 0)))))
     (.ret ((y1.1, (y1.2.1, (y1.2.2, ()))), 0))))))
noncomputable def view_Flip (v0 : (Int × ((List Int) × ((List Int) × Unit)))) (axis1 : Int) : Option (RTs.den [.d (.pair .i64 (.pair (.slice .i64) (.pair (.slice .i64) .unit))), .d .i64]) := (view_Flip_T v0 axis1).run
theorem view_Flip_s (v0 : (Int × ((List Int) × ((List Int) × Unit)))) (axis1 : Int) : ∀ y, view_Flip v0 axis1 = some y → CSem Tryz.prog 50 [Ty.e (.pair .i64 (.pair (.slice .i64) (.pair (.slice .i64) .unit))) v0, Ty.e .i64 axis1] [] (fun v b => v = (RTs.shape [.d (.pair .i64 (.pair (.slice .i64) (.pair (.slice .i64) .unit))), .d .i64] y).1 ∧ b = (RTs.shape [.d (.pair .i64 (.pair (.slice .i64) (.pair (.slice .i64) .unit))), .d .i64] y).2) := fun_sound (H := f50H) (fn := Tryz.f50) (by kernel_rfl) (by kernel_rfl) (fun post => by kernel_rfl)
noncomputable def f22H : Hint := ⟨fun _ => false, false, fun _ => [], fun _ => [], fun _ => [], fun _ => [], fun _ => [], fun _ => [], resOf P 22, fun g _ _ => retOf P g⟩
noncomputable def move_View_T (op0 : Int) (a1 : AttrD) (v2 : (Int × ((List Int) × ((List Int) × Unit)))) : Tree (RTs.den [.d (.pair .i64 (.pair (.slice .i64) (.pair (.slice .i64) .unit))), .d .i64]) :=
 .br (decide (op0 = 33))
  (.ex (view_Reshape_s v2 a1.2.2.2.2.2.2.2.2.2.1) fun y0 =>
  .ret (y0.1, y0.2))
  (.br (decide (op0 = 34))
   (.ex (view_Permute_s v2 a1.2.2.2.2.2.2.2.2.2.1) fun y1 =>
   .ret (y1.1, y1.2))
   (.br (decide (op0 = 35))
    (.ex (view_Slice_s v2 a1.1 a1.2.1 a1.2.2.1 a1.2.2.2.1) fun y2 =>
    .ret (y2.1, y2.2))
    (.br (decide (op0 = 36))
     (.ex (view_Expand_s v2 a1.2.2.2.2.2.2.2.2.2.1) fun y3 =>
     .ret (y3.1, y3.2))
     (.br (decide (op0 = 37))
      (.ex (view_Flip_s v2 a1.1) fun y4 =>
      .ret (y4.1, y4.2))
      (.ret ((0, ([], ([], ()))), 14))))))
noncomputable def move_View (op0 : Int) (a1 : AttrD) (v2 : (Int × ((List Int) × ((List Int) × Unit)))) : Option (RTs.den [.d (.pair .i64 (.pair (.slice .i64) (.pair (.slice .i64) .unit))), .d .i64]) := (move_View_T op0 a1 v2).run
theorem move_View_s (op0 : Int) (a1 : AttrD) (v2 : (Int × ((List Int) × ((List Int) × Unit)))) : ∀ y, move_View op0 a1 v2 = some y → CSem Tryz.prog 22 [Ty.e .i64 op0, Ty.e attrT a1, Ty.e (.pair .i64 (.pair (.slice .i64) (.pair (.slice .i64) .unit))) v2] [] (fun v b => v = (RTs.shape [.d (.pair .i64 (.pair (.slice .i64) (.pair (.slice .i64) .unit))), .d .i64] y).1 ∧ b = (RTs.shape [.d (.pair .i64 (.pair (.slice .i64) (.pair (.slice .i64) .unit))), .d .i64] y).2) := fun_sound (H := f22H) (fn := Tryz.f22) (by kernel_rfl) (by kernel_rfl) (fun post => by kernel_rfl)
noncomputable def f23H : Hint := ⟨fun _ => false, false, fun _ => [], fun _ => [], fun _ => [], fun _ => [], fun _ => [], fun _ => [], resOf P 23, fun g _ _ => retOf P g⟩
noncomputable def view_Whole_T (d0 : (List Int)) : Tree (RTs.den [.d (.pair .i64 (.pair (.slice .i64) (.pair (.slice .i64) .unit)))]) :=
 .ex (shape_Check_s d0) fun y0 =>
 .br (!(decide (y0 = 0)))
  (.ret (0, ([], ([], ()))))
  (.ex (slices_Clone_s d0) fun y1 =>
  .ex (shape_Steps_s d0) fun y2 =>
  .ret (0, (y1, (y2, ()))))
noncomputable def view_Whole (d0 : (List Int)) : Option (RTs.den [.d (.pair .i64 (.pair (.slice .i64) (.pair (.slice .i64) .unit)))]) := (view_Whole_T d0).run
theorem view_Whole_s (d0 : (List Int)) : ∀ y, view_Whole d0 = some y → CSem Tryz.prog 23 [Ty.e (.slice .i64) d0] [] (fun v b => v = (RTs.shape [.d (.pair .i64 (.pair (.slice .i64) (.pair (.slice .i64) .unit)))] y).1 ∧ b = (RTs.shape [.d (.pair .i64 (.pair (.slice .i64) (.pair (.slice .i64) .unit)))] y).2) := fun_sound (H := f23H) (fn := Tryz.f23) (by kernel_rfl) (by kernel_rfl) (fun post => by kernel_rfl)
noncomputable def f128H : Hint := ⟨fun _ => false, false, fun _ => [], fun _ => [], fun _ => [], fun _ => [], fun _ => [], fun _ => [], resOf P 128, fun g _ _ => retOf P g⟩
noncomputable def move_Is_T (op0 : Int) : Tree (RTs.den [.d .bool]) :=
 .br (decide ((33 : Int) ≤ op0))
  (.ret (decide (op0 ≤ 40)))
  (.ret Bool.false)
noncomputable def move_Is (op0 : Int) : Option (RTs.den [.d .bool]) := (move_Is_T op0).run
theorem move_Is_s (op0 : Int) : ∀ y, move_Is op0 = some y → CSem Tryz.prog 128 [Ty.e .i64 op0] [] (fun v b => v = (RTs.shape [.d .bool] y).1 ∧ b = (RTs.shape [.d .bool] y).2) := fun_sound (H := f128H) (fn := Tryz.f128) (by kernel_rfl) (by kernel_rfl) (fun post => by kernel_rfl)
/-- Not called where it counts: nothing is said of it. -/
def move_taken (d0 : Ty.den (.slice .i64)) (a1 : Ty.den attrT) : Option (RTs.den [.d (.slice .i64), .d .i64]) := none
theorem move_taken_s (d0 : Ty.den (.slice .i64)) (a1 : Ty.den attrT) : ∀ y, move_taken d0 a1 = some y → CSem Tryz.prog 129 [Ty.e (.slice .i64) d0, Ty.e attrT a1] [] (fun v b => v = (RTs.shape [.d (.slice .i64), .d .i64] y).1 ∧ b = (RTs.shape [.d (.slice .i64), .d .i64] y).2) := fun y h => nomatch h
/-- Not called where it counts: nothing is said of it. -/
def move_put (d0 : Ty.den (.slice .i64)) (a1 : Ty.den attrT) : Option (RTs.den [.d (.slice .i64), .d .i64]) := none
theorem move_put_s (d0 : Ty.den (.slice .i64)) (a1 : Ty.den attrT) : ∀ y, move_put d0 a1 = some y → CSem Tryz.prog 130 [Ty.e (.slice .i64) d0, Ty.e attrT a1] [] (fun v b => v = (RTs.shape [.d (.slice .i64), .d .i64] y).1 ∧ b = (RTs.shape [.d (.slice .i64), .d .i64] y).2) := fun y h => nomatch h
/-- Not called where it counts: nothing is said of it. -/
def move_joined (a0 : Ty.den (.slice .i64)) (b1 : Ty.den (.slice .i64)) (axis2 : Ty.den .i64) : Option (RTs.den [.d (.slice .i64), .d .i64]) := none
theorem move_joined_s (a0 : Ty.den (.slice .i64)) (b1 : Ty.den (.slice .i64)) (axis2 : Ty.den .i64) : ∀ y, move_joined a0 b1 axis2 = some y → CSem Tryz.prog 131 [Ty.e (.slice .i64) a0, Ty.e (.slice .i64) b1, Ty.e .i64 axis2] [] (fun v b => v = (RTs.shape [.d (.slice .i64), .d .i64] y).1 ∧ b = (RTs.shape [.d (.slice .i64), .d .i64] y).2) := fun y h => nomatch h
noncomputable def f81H : Hint := ⟨fun _ => false, false, fun n => lk n [(6, [0, 2, 4, 32, 33, 34])], fun _ => [], fun _ => [], fun _ => [], fun _ => [], fun n => lk n [(6, [⟨.exit 0, [0, 2, 4], [], mores P [], [4]⟩, ⟨.ret, [6, 7], [], mores P [(6, 48), (7, 39)], [4]⟩])], resOf P 81, fun g _ _ => retOf P g⟩
noncomputable def move_Dims_L6_st (p0 : Int) (p1 : (List (List Int))) (p2 : (List (List Int))) (p3 p4 p5 p6 p7 p8 p9 p10 p11 : Int) (p12 : Bool) (p13 : (List Int)) (s : Int) : St := ⟨slots 89 [(0, .e (.c (.i64 p0))), (2, .e (.c (.sl (.slice .i64) p1))), (4, .e (.c (.ptr 0 0))), (32, .e (.c (.sl (.slice .i64) p2))), (33, .e (.c (.i64 p3))), (34, .e (.c (.i64 s)))], [.cells 50 [.i64 p4, .i64 p5, .i64 p6, .i64 p7, .i64 p8, .i64 p9, .i64 p10, .i64 p11, .bool p12, .sl .i64 p13]]⟩
noncomputable def move_Dims_L6_out (p0 : Int) (p1 : (List (List Int))) (p2 : (List (List Int))) (p3 p4 p5 p6 p7 p8 p9 p10 p11 : Int) (p12 : Bool) (p13 : (List Int)) : (Unit ⊕ ((List Int) × Int)) → Exit × St := fun y => match y with
  | (.inl y) => ((.exit 0), ⟨slots 89 [(0, .e (.c (.i64 p0))), (2, .e (.c (.sl (.slice .i64) p1))), (4, .e (.c (.ptr 0 0)))], [.cells 50 [.i64 p4, .i64 p5, .i64 p6, .i64 p7, .i64 p8, .i64 p9, .i64 p10, .i64 p11, .bool p12, .sl .i64 p13]]⟩)
  | (.inr y) => (.ret, ⟨slots 89 [(6, .e (.c (.sl .i64 y.1))), (7, .e (.c (.i64 y.2)))], []⟩)
noncomputable def move_Dims_T6 (p0 : Int) (p1 : (List (List Int))) (p2 : (List (List Int))) (p3 p4 p5 p6 p7 p8 p9 p10 p11 : Int) (p12 : Bool) (p13 : (List Int)) (s : Int) : Tree (Int ⊕ (Unit ⊕ ((List Int) × Int))) :=
 .br (decide (s < p3))
  (.ob ((((0 : Int) ≤ s) ∧ (s < (↑(List.length p2) : Int)))) (
  .ex (shape_Check_s (List.getD p2 (Int.toNat s) default)) fun y0 =>
  .br (!(decide (y0 = 0)))
   (.ret (.inr (.inr ([], y0))))
   (.ret (.inl (w64 (s + 1))))))
  (.ret (.inr (.inl ())))
noncomputable def move_Dims_L6 (p0 : Int) (p1 : (List (List Int))) (p2 : (List (List Int))) (p3 p4 p5 p6 p7 p8 p9 p10 p11 : Int) (p12 : Bool) (p13 : (List Int)) (s : Int) : Option (Unit ⊕ ((List Int) × Int)) := iter (fun s => (move_Dims_T6 p0 p1 p2 p3 p4 p5 p6 p7 p8 p9 p10 p11 p12 p13 s).run) F0 s
noncomputable abbrev move_Dims_L6_c : Code := loopOf Tryz.f81 6
theorem move_Dims_L6_s (p0 : Int) (p1 : (List (List Int))) (p2 : (List (List Int))) (p3 p4 p5 p6 p7 p8 p9 p10 p11 : Int) (p12 : Bool) (p13 : (List Int)) (s : Int) : ∀ o, move_Dims_L6 p0 p1 p2 p3 p4 p5 p6 p7 p8 p9 p10 p11 p12 p13 s = some o → LpK Tryz.prog f81H 0 6 move_Dims_L6_c (move_Dims_L6_st p0 p1 p2 p3 p4 p5 p6 p7 p8 p9 p10 p11 p12 p13 s) (fun e s' => e = (move_Dims_L6_out p0 p1 p2 p3 p4 p5 p6 p7 p8 p9 p10 p11 p12 p13 o).1 ∧ s' = (move_Dims_L6_out p0 p1 p2 p3 p4 p5 p6 p7 p8 p9 p10 p11 p12 p13 o).2) := fun o => iter_sound (tr := fun s => (move_Dims_T6 p0 p1 p2 p3 p4 p5 p6 p7 p8 p9 p10 p11 p12 p13 s)) (st := fun s => move_Dims_L6_st p0 p1 p2 p3 p4 p5 p6 p7 p8 p9 p10 p11 p12 p13 s) (by kernel_rfl) (fun s K => by kernel_rfl) F0 s o
noncomputable def move_Dims_T (toArray0 : Int) (a1 : AttrD) (a2 : (List (List Int))) : Tree (RTs.den [.d (.slice .i64), .d .i64]) :=
 .ex (move_Is_s toArray0) fun y0 =>
 .br (!y0)
  (.ret ([], 14))
  (.br (!(decide ((↑(List.length a2) : Int) = 1)))
   (.br (!(decide (toArray0 = 40)))
    (.ret ([], 1))
    (.br (decide (toArray0 = 40))
     (.br (!(decide ((↑(List.length a2) : Int) = 2)))
      (.ret ([], 1))
      (.alt (isL (move_Dims_L6 toArray0 a2 a2 (↑(List.length a2) : Int) a1.1 a1.2.1 a1.2.2.1 a1.2.2.2.1 a1.2.2.2.2.1 a1.2.2.2.2.2.1 a1.2.2.2.2.2.2.1 a1.2.2.2.2.2.2.2.1 a1.2.2.2.2.2.2.2.2.1 a1.2.2.2.2.2.2.2.2.2.1 0))
       (.an (s_u (s_l (move_Dims_L6_s toArray0 a2 a2 (↑(List.length a2) : Int) a1.1 a1.2.1 a1.2.2.1 a1.2.2.2.1 a1.2.2.2.2.1 a1.2.2.2.2.2.1 a1.2.2.2.2.2.2.1 a1.2.2.2.2.2.2.2.1 a1.2.2.2.2.2.2.2.2.1 a1.2.2.2.2.2.2.2.2.2.1 0))) (
       .br (decide (toArray0 = 38))
        (.ob ((((0 : Int) ≤ 0) ∧ ((0 : Int) < (↑(List.length a2) : Int)))) (
        .ex (move_taken_s (List.getD a2 (Int.toNat 0) default) a1) fun y1 =>
        .ret (y1.1, y1.2)))
        (.br (decide (toArray0 = 39))
         (.ob ((((0 : Int) ≤ 0) ∧ ((0 : Int) < (↑(List.length a2) : Int)))) (
         .ex (move_put_s (List.getD a2 (Int.toNat 0) default) a1) fun y2 =>
         .ret (y2.1, y2.2)))
         (.br (decide (toArray0 = 40))
          (.ob ((((0 : Int) ≤ 0) ∧ ((0 : Int) < (↑(List.length a2) : Int)))) (
          .ob ((((0 : Int) ≤ 1) ∧ ((1 : Int) < (↑(List.length a2) : Int)))) (
          .ex (move_joined_s (List.getD a2 (Int.toNat 0) default) (List.getD a2 (Int.toNat 1) default) a1.1) fun y3 =>
          .ret (y3.1, y3.2))))
          (.ob ((((0 : Int) ≤ 0) ∧ ((0 : Int) < (↑(List.length a2) : Int)))) (
          .ex (view_Whole_s (List.getD a2 (Int.toNat 0) default)) fun y4 =>
          .ex (move_View_s toArray0 a1 y4) fun y5 =>
          .ret (y5.1.2.1, y5.2)))))))
       (.ex (s_r (move_Dims_L6_s toArray0 a2 a2 (↑(List.length a2) : Int) a1.1 a1.2.1 a1.2.2.1 a1.2.2.2.1 a1.2.2.2.2.1 a1.2.2.2.2.2.1 a1.2.2.2.2.2.2.1 a1.2.2.2.2.2.2.2.1 a1.2.2.2.2.2.2.2.2.1 a1.2.2.2.2.2.2.2.2.2.1 0)) fun y6 =>
       .ret (y6.1, y6.2))))
     (.alt (isL (move_Dims_L6 toArray0 a2 a2 (↑(List.length a2) : Int) a1.1 a1.2.1 a1.2.2.1 a1.2.2.2.1 a1.2.2.2.2.1 a1.2.2.2.2.2.1 a1.2.2.2.2.2.2.1 a1.2.2.2.2.2.2.2.1 a1.2.2.2.2.2.2.2.2.1 a1.2.2.2.2.2.2.2.2.2.1 0))
      (.an (s_u (s_l (move_Dims_L6_s toArray0 a2 a2 (↑(List.length a2) : Int) a1.1 a1.2.1 a1.2.2.1 a1.2.2.2.1 a1.2.2.2.2.1 a1.2.2.2.2.2.1 a1.2.2.2.2.2.2.1 a1.2.2.2.2.2.2.2.1 a1.2.2.2.2.2.2.2.2.1 a1.2.2.2.2.2.2.2.2.2.1 0))) (
      .br (decide (toArray0 = 38))
       (.ob ((((0 : Int) ≤ 0) ∧ ((0 : Int) < (↑(List.length a2) : Int)))) (
       .ex (move_taken_s (List.getD a2 (Int.toNat 0) default) a1) fun y7 =>
       .ret (y7.1, y7.2)))
       (.br (decide (toArray0 = 39))
        (.ob ((((0 : Int) ≤ 0) ∧ ((0 : Int) < (↑(List.length a2) : Int)))) (
        .ex (move_put_s (List.getD a2 (Int.toNat 0) default) a1) fun y8 =>
        .ret (y8.1, y8.2)))
        (.br (decide (toArray0 = 40))
         (.ob ((((0 : Int) ≤ 0) ∧ ((0 : Int) < (↑(List.length a2) : Int)))) (
         .ob ((((0 : Int) ≤ 1) ∧ ((1 : Int) < (↑(List.length a2) : Int)))) (
         .ex (move_joined_s (List.getD a2 (Int.toNat 0) default) (List.getD a2 (Int.toNat 1) default) a1.1) fun y9 =>
         .ret (y9.1, y9.2))))
         (.ob ((((0 : Int) ≤ 0) ∧ ((0 : Int) < (↑(List.length a2) : Int)))) (
         .ex (view_Whole_s (List.getD a2 (Int.toNat 0) default)) fun y10 =>
         .ex (move_View_s toArray0 a1 y10) fun y11 =>
         .ret (y11.1.2.1, y11.2)))))))
      (.ex (s_r (move_Dims_L6_s toArray0 a2 a2 (↑(List.length a2) : Int) a1.1 a1.2.1 a1.2.2.1 a1.2.2.2.1 a1.2.2.2.2.1 a1.2.2.2.2.2.1 a1.2.2.2.2.2.2.1 a1.2.2.2.2.2.2.2.1 a1.2.2.2.2.2.2.2.2.1 a1.2.2.2.2.2.2.2.2.2.1 0)) fun y12 =>
      .ret (y12.1, y12.2)))))
   (.br (decide (toArray0 = 40))
    (.br (!(decide ((↑(List.length a2) : Int) = 2)))
     (.ret ([], 1))
     (.alt (isL (move_Dims_L6 toArray0 a2 a2 (↑(List.length a2) : Int) a1.1 a1.2.1 a1.2.2.1 a1.2.2.2.1 a1.2.2.2.2.1 a1.2.2.2.2.2.1 a1.2.2.2.2.2.2.1 a1.2.2.2.2.2.2.2.1 a1.2.2.2.2.2.2.2.2.1 a1.2.2.2.2.2.2.2.2.2.1 0))
      (.an (s_u (s_l (move_Dims_L6_s toArray0 a2 a2 (↑(List.length a2) : Int) a1.1 a1.2.1 a1.2.2.1 a1.2.2.2.1 a1.2.2.2.2.1 a1.2.2.2.2.2.1 a1.2.2.2.2.2.2.1 a1.2.2.2.2.2.2.2.1 a1.2.2.2.2.2.2.2.2.1 a1.2.2.2.2.2.2.2.2.2.1 0))) (
      .br (decide (toArray0 = 38))
       (.ob ((((0 : Int) ≤ 0) ∧ ((0 : Int) < (↑(List.length a2) : Int)))) (
       .ex (move_taken_s (List.getD a2 (Int.toNat 0) default) a1) fun y13 =>
       .ret (y13.1, y13.2)))
       (.br (decide (toArray0 = 39))
        (.ob ((((0 : Int) ≤ 0) ∧ ((0 : Int) < (↑(List.length a2) : Int)))) (
        .ex (move_put_s (List.getD a2 (Int.toNat 0) default) a1) fun y14 =>
        .ret (y14.1, y14.2)))
        (.br (decide (toArray0 = 40))
         (.ob ((((0 : Int) ≤ 0) ∧ ((0 : Int) < (↑(List.length a2) : Int)))) (
         .ob ((((0 : Int) ≤ 1) ∧ ((1 : Int) < (↑(List.length a2) : Int)))) (
         .ex (move_joined_s (List.getD a2 (Int.toNat 0) default) (List.getD a2 (Int.toNat 1) default) a1.1) fun y15 =>
         .ret (y15.1, y15.2))))
         (.ob ((((0 : Int) ≤ 0) ∧ ((0 : Int) < (↑(List.length a2) : Int)))) (
         .ex (view_Whole_s (List.getD a2 (Int.toNat 0) default)) fun y16 =>
         .ex (move_View_s toArray0 a1 y16) fun y17 =>
         .ret (y17.1.2.1, y17.2)))))))
      (.ex (s_r (move_Dims_L6_s toArray0 a2 a2 (↑(List.length a2) : Int) a1.1 a1.2.1 a1.2.2.1 a1.2.2.2.1 a1.2.2.2.2.1 a1.2.2.2.2.2.1 a1.2.2.2.2.2.2.1 a1.2.2.2.2.2.2.2.1 a1.2.2.2.2.2.2.2.2.1 a1.2.2.2.2.2.2.2.2.2.1 0)) fun y18 =>
      .ret (y18.1, y18.2))))
    (.alt (isL (move_Dims_L6 toArray0 a2 a2 (↑(List.length a2) : Int) a1.1 a1.2.1 a1.2.2.1 a1.2.2.2.1 a1.2.2.2.2.1 a1.2.2.2.2.2.1 a1.2.2.2.2.2.2.1 a1.2.2.2.2.2.2.2.1 a1.2.2.2.2.2.2.2.2.1 a1.2.2.2.2.2.2.2.2.2.1 0))
     (.an (s_u (s_l (move_Dims_L6_s toArray0 a2 a2 (↑(List.length a2) : Int) a1.1 a1.2.1 a1.2.2.1 a1.2.2.2.1 a1.2.2.2.2.1 a1.2.2.2.2.2.1 a1.2.2.2.2.2.2.1 a1.2.2.2.2.2.2.2.1 a1.2.2.2.2.2.2.2.2.1 a1.2.2.2.2.2.2.2.2.2.1 0))) (
     .br (decide (toArray0 = 38))
      (.ob ((((0 : Int) ≤ 0) ∧ ((0 : Int) < (↑(List.length a2) : Int)))) (
      .ex (move_taken_s (List.getD a2 (Int.toNat 0) default) a1) fun y19 =>
      .ret (y19.1, y19.2)))
      (.br (decide (toArray0 = 39))
       (.ob ((((0 : Int) ≤ 0) ∧ ((0 : Int) < (↑(List.length a2) : Int)))) (
       .ex (move_put_s (List.getD a2 (Int.toNat 0) default) a1) fun y20 =>
       .ret (y20.1, y20.2)))
       (.br (decide (toArray0 = 40))
        (.ob ((((0 : Int) ≤ 0) ∧ ((0 : Int) < (↑(List.length a2) : Int)))) (
        .ob ((((0 : Int) ≤ 1) ∧ ((1 : Int) < (↑(List.length a2) : Int)))) (
        .ex (move_joined_s (List.getD a2 (Int.toNat 0) default) (List.getD a2 (Int.toNat 1) default) a1.1) fun y21 =>
        .ret (y21.1, y21.2))))
        (.ob ((((0 : Int) ≤ 0) ∧ ((0 : Int) < (↑(List.length a2) : Int)))) (
        .ex (view_Whole_s (List.getD a2 (Int.toNat 0) default)) fun y22 =>
        .ex (move_View_s toArray0 a1 y22) fun y23 =>
        .ret (y23.1.2.1, y23.2)))))))
     (.ex (s_r (move_Dims_L6_s toArray0 a2 a2 (↑(List.length a2) : Int) a1.1 a1.2.1 a1.2.2.1 a1.2.2.2.1 a1.2.2.2.2.1 a1.2.2.2.2.2.1 a1.2.2.2.2.2.2.1 a1.2.2.2.2.2.2.2.1 a1.2.2.2.2.2.2.2.2.1 a1.2.2.2.2.2.2.2.2.2.1 0)) fun y24 =>
     .ret (y24.1, y24.2)))))
noncomputable def move_Dims (toArray0 : Int) (a1 : AttrD) (a2 : (List (List Int))) : Option (RTs.den [.d (.slice .i64), .d .i64]) := (move_Dims_T toArray0 a1 a2).run
theorem move_Dims_s (toArray0 : Int) (a1 : AttrD) (a2 : (List (List Int))) : ∀ y, move_Dims toArray0 a1 a2 = some y → CSem Tryz.prog 81 [Ty.e .i64 toArray0, Ty.e attrT a1, Ty.e (.slice (.slice .i64)) a2] [] (fun v b => v = (RTs.shape [.d (.slice .i64), .d .i64] y).1 ∧ b = (RTs.shape [.d (.slice .i64), .d .i64] y).2) := fun_sound (H := f81H) (fn := Tryz.f81) (by kernel_rfl) (by kernel_rfl) (fun post => by kernel_rfl)
noncomputable def f42H : Hint := ⟨fun _ => false, false, fun n => lk n [(6, [0, 2, 4, 19, 20, 21])], fun _ => [], fun _ => [], fun _ => [], fun _ => [], fun n => lk n [(6, [⟨.exit 0, [0, 2, 4], [], mores P [], [4]⟩, ⟨.ret, [6, 7], [], mores P [(6, 48), (7, 39)], [4]⟩])], resOf P 42, fun g _ _ => retOf P g⟩
noncomputable def infer_Dims_L6_st (p0 : Int) (p1 : (List (List Int))) (p2 : (List (List Int))) (p3 p4 p5 p6 p7 p8 p9 p10 p11 : Int) (p12 : Bool) (p13 : (List Int)) (s : Int) : St := ⟨slots 70 [(0, .e (.c (.i64 p0))), (2, .e (.c (.sl (.slice .i64) p1))), (4, .e (.c (.ptr 0 0))), (19, .e (.c (.sl (.slice .i64) p2))), (20, .e (.c (.i64 p3))), (21, .e (.c (.i64 s)))], [.cells 50 [.i64 p4, .i64 p5, .i64 p6, .i64 p7, .i64 p8, .i64 p9, .i64 p10, .i64 p11, .bool p12, .sl .i64 p13]]⟩
noncomputable def infer_Dims_L6_out (p0 : Int) (p1 : (List (List Int))) (p2 : (List (List Int))) (p3 p4 p5 p6 p7 p8 p9 p10 p11 : Int) (p12 : Bool) (p13 : (List Int)) : (Unit ⊕ ((List Int) × Int)) → Exit × St := fun y => match y with
  | (.inl y) => ((.exit 0), ⟨slots 70 [(0, .e (.c (.i64 p0))), (2, .e (.c (.sl (.slice .i64) p1))), (4, .e (.c (.ptr 0 0)))], [.cells 50 [.i64 p4, .i64 p5, .i64 p6, .i64 p7, .i64 p8, .i64 p9, .i64 p10, .i64 p11, .bool p12, .sl .i64 p13]]⟩)
  | (.inr y) => (.ret, ⟨slots 70 [(6, .e (.c (.sl .i64 y.1))), (7, .e (.c (.i64 y.2)))], []⟩)
noncomputable def infer_Dims_T6 (p0 : Int) (p1 : (List (List Int))) (p2 : (List (List Int))) (p3 p4 p5 p6 p7 p8 p9 p10 p11 : Int) (p12 : Bool) (p13 : (List Int)) (s : Int) : Tree (Int ⊕ (Unit ⊕ ((List Int) × Int))) :=
 .br (decide (s < p3))
  (.ob ((((0 : Int) ≤ s) ∧ (s < (↑(List.length p2) : Int)))) (
  .ex (shape_Check_s (List.getD p2 (Int.toNat s) default)) fun y0 =>
  .br (!(decide (y0 = 0)))
   (.ret (.inr (.inr ([], y0))))
   (.ret (.inl (w64 (s + 1))))))
  (.ret (.inr (.inl ())))
noncomputable def infer_Dims_L6 (p0 : Int) (p1 : (List (List Int))) (p2 : (List (List Int))) (p3 p4 p5 p6 p7 p8 p9 p10 p11 : Int) (p12 : Bool) (p13 : (List Int)) (s : Int) : Option (Unit ⊕ ((List Int) × Int)) := iter (fun s => (infer_Dims_T6 p0 p1 p2 p3 p4 p5 p6 p7 p8 p9 p10 p11 p12 p13 s).run) F0 s
noncomputable abbrev infer_Dims_L6_c : Code := loopOf Tryz.f42 6
theorem infer_Dims_L6_s (p0 : Int) (p1 : (List (List Int))) (p2 : (List (List Int))) (p3 p4 p5 p6 p7 p8 p9 p10 p11 : Int) (p12 : Bool) (p13 : (List Int)) (s : Int) : ∀ o, infer_Dims_L6 p0 p1 p2 p3 p4 p5 p6 p7 p8 p9 p10 p11 p12 p13 s = some o → LpK Tryz.prog f42H 0 6 infer_Dims_L6_c (infer_Dims_L6_st p0 p1 p2 p3 p4 p5 p6 p7 p8 p9 p10 p11 p12 p13 s) (fun e s' => e = (infer_Dims_L6_out p0 p1 p2 p3 p4 p5 p6 p7 p8 p9 p10 p11 p12 p13 o).1 ∧ s' = (infer_Dims_L6_out p0 p1 p2 p3 p4 p5 p6 p7 p8 p9 p10 p11 p12 p13 o).2) := fun o => iter_sound (tr := fun s => (infer_Dims_T6 p0 p1 p2 p3 p4 p5 p6 p7 p8 p9 p10 p11 p12 p13 s)) (st := fun s => infer_Dims_L6_st p0 p1 p2 p3 p4 p5 p6 p7 p8 p9 p10 p11 p12 p13 s) (by kernel_rfl) (fun s K => by kernel_rfl) F0 s o
noncomputable def infer_Dims_T (toArray0 : Int) (a1 : AttrD) (a2 : (List (List Int))) : Tree (RTs.den [.d (.slice .i64), .d .i64]) :=
 .ex (prim_Is_s toArray0) fun y0 =>
 .br (!y0)
  (.ret ([], 14))
  (.ex (prim_Arity_s toArray0) fun y1 =>
  .br (!(decide ((↑(List.length a2) : Int) = y1)))
   (.ret ([], 1))
   (.alt (isL (infer_Dims_L6 toArray0 a2 a2 (↑(List.length a2) : Int) a1.1 a1.2.1 a1.2.2.1 a1.2.2.2.1 a1.2.2.2.2.1 a1.2.2.2.2.2.1 a1.2.2.2.2.2.2.1 a1.2.2.2.2.2.2.2.1 a1.2.2.2.2.2.2.2.2.1 a1.2.2.2.2.2.2.2.2.2.1 0))
    (.an (s_u (s_l (infer_Dims_L6_s toArray0 a2 a2 (↑(List.length a2) : Int) a1.1 a1.2.1 a1.2.2.1 a1.2.2.2.1 a1.2.2.2.2.1 a1.2.2.2.2.2.1 a1.2.2.2.2.2.2.1 a1.2.2.2.2.2.2.2.1 a1.2.2.2.2.2.2.2.2.1 a1.2.2.2.2.2.2.2.2.2.1 0))) (
    .ex (infer_Attr_s toArray0 a1) fun y2 =>
    .br (!y2)
     (.ret ([], 1))
     (.ex (prim_Class_s toArray0) fun y3 =>
     .br (decide (y3 = 1))
      (.ex (spread_All_s a2) fun y4 =>
      .ret (y4.1, y4.2))
      (.br (decide (y3 = 2))
       (.ob ((((0 : Int) ≤ 0) ∧ ((0 : Int) < (↑(List.length a2) : Int)))) (
       .ex (reduce_Dims_s toArray0 a1 (List.getD a2 (Int.toNat 0) default)) fun y5 =>
       .ret (y5.1, y5.2)))
       (.br (decide (y3 = 3))
        (.ob ((((0 : Int) ≤ 0) ∧ ((0 : Int) < (↑(List.length a2) : Int)))) (
        .ob ((((0 : Int) ≤ 1) ∧ ((1 : Int) < (↑(List.length a2) : Int)))) (
        .ex (matmul_Dims_s (List.getD a2 (Int.toNat 0) default) (List.getD a2 (Int.toNat 1) default)) fun y6 =>
        .ret (y6.1, y6.2))))
        (.ex (move_Dims_s toArray0 a1 a2) fun y7 =>
        .ret (y7.1, y7.2)))))))
    (.ex (s_r (infer_Dims_L6_s toArray0 a2 a2 (↑(List.length a2) : Int) a1.1 a1.2.1 a1.2.2.1 a1.2.2.2.1 a1.2.2.2.2.1 a1.2.2.2.2.2.1 a1.2.2.2.2.2.2.1 a1.2.2.2.2.2.2.2.1 a1.2.2.2.2.2.2.2.2.1 a1.2.2.2.2.2.2.2.2.2.1 0)) fun y8 =>
    .ret (y8.1, y8.2))))
noncomputable def infer_Dims (toArray0 : Int) (a1 : AttrD) (a2 : (List (List Int))) : Option (RTs.den [.d (.slice .i64), .d .i64]) := (infer_Dims_T toArray0 a1 a2).run
theorem infer_Dims_s (toArray0 : Int) (a1 : AttrD) (a2 : (List (List Int))) : ∀ y, infer_Dims toArray0 a1 a2 = some y → CSem Tryz.prog 42 [Ty.e .i64 toArray0, Ty.e attrT a1, Ty.e (.slice (.slice .i64)) a2] [] (fun v b => v = (RTs.shape [.d (.slice .i64), .d .i64] y).1 ∧ b = (RTs.shape [.d (.slice .i64), .d .i64] y).2) := fun_sound (H := f42H) (fn := Tryz.f42) (by kernel_rfl) (by kernel_rfl) (fun post => by kernel_rfl)
noncomputable def f43H : Hint := ⟨fun _ => false, false, fun _ => [], fun _ => [], fun _ => [], fun _ => [], fun _ => [], fun _ => [], resOf P 43, fun g _ _ => retOf P g⟩
noncomputable def apply_Whole_T (a0 : ArgD) : Tree (RTs.den [.d .i64]) :=
 .ex (shape_Count_s a0.1) fun y0 =>
 .br (!(decide ((↑(List.length a0.2.1) : Int) = y0)))
  (.ret 1)
  (.ret 0)
noncomputable def apply_Whole (a0 : ArgD) : Option (RTs.den [.d .i64]) := (apply_Whole_T a0).run
theorem apply_Whole_s (a0 : ArgD) : ∀ y, apply_Whole a0 = some y → CSem Tryz.prog 43 [Ty.e argT a0] [] (fun v b => v = (RTs.shape [.d .i64] y).1 ∧ b = (RTs.shape [.d .i64] y).2) := fun_sound (H := f43H) (fn := Tryz.f43) (by kernel_rfl) (by kernel_rfl) (fun post => by kernel_rfl)
noncomputable def f87H : Hint := ⟨fun _ => false, false, fun _ => [], fun _ => [], fun _ => [], fun _ => [], fun _ => [], fun _ => [], resOf P 87, fun g _ _ => retOf P g⟩
noncomputable def prim_Choices_T (op0 : Int) : Tree (RTs.den [.d .i64]) :=
 .br (decide (op0 = 4))
  (.ret 2)
  (.br (decide (op0 = 6))
   (.ret 2)
   (.br (decide (op0 = 16))
    (.ret 2)
    (.br (decide (op0 = 21))
     (.ret 2)
     (.br (decide (op0 = 22))
      (.ret 2)
      (.br (decide (op0 = 24))
       (.ret 2)
       (.br (decide (op0 = 15))
        (.ret 3)
        (.ret 0)))))))
noncomputable def prim_Choices (op0 : Int) : Option (RTs.den [.d .i64]) := (prim_Choices_T op0).run
theorem prim_Choices_s (op0 : Int) : ∀ y, prim_Choices op0 = some y → CSem Tryz.prog 87 [Ty.e .i64 op0] [] (fun v b => v = (RTs.shape [.d .i64] y).1 ∧ b = (RTs.shape [.d .i64] y).2) := fun_sound (H := f87H) (fn := Tryz.f87) (by kernel_rfl) (by kernel_rfl) (fun post => by kernel_rfl)
noncomputable def f45H : Hint := ⟨fun _ => false, false, fun _ => [], fun _ => [], fun _ => [], fun _ => [], fun _ => [], fun _ => [], resOf P 45, fun g _ _ => retOf P g⟩
noncomputable def prim_Picks_T (op0 : Int) : Tree (RTs.den [.d .bool]) :=
 .ex (prim_Choices_s op0) fun y0 =>
 .br (decide ((0 : Int) < y0))
  (.ret Bool.true)
  (.br (decide (op0 = 29))
   (.ret Bool.true)
   (.ret (decide (op0 = 30))))
noncomputable def prim_Picks (op0 : Int) : Option (RTs.den [.d .bool]) := (prim_Picks_T op0).run
theorem prim_Picks_s (op0 : Int) : ∀ y, prim_Picks op0 = some y → CSem Tryz.prog 45 [Ty.e .i64 op0] [] (fun v b => v = (RTs.shape [.d .bool] y).1 ∧ b = (RTs.shape [.d .bool] y).2) := fun_sound (H := f45H) (fn := Tryz.f45) (by kernel_rfl) (by kernel_rfl) (fun post => by kernel_rfl)
/-- Not called where it counts: nothing is said of it. -/
def each_Do (a1 : Ty.den .i64) (a2 : Ty.den attrT) (a3 : Ty.den (.slice .i64)) (a4 : Ty.den (.slice argT)) (q0 : Int) (q1 : Int) (q2 : (List Bool)) (q3 : Int) (q4 : Int) (q5 : Bool) (q6 : Int) : Option (RTs.den [.d (.slice valT), .d (.slice .i64)] × (Int × Int × (List Bool) × Int × Int × Bool × Int)) := none
theorem each_Do_s (a1 : Ty.den .i64) (a2 : Ty.den attrT) (a3 : Ty.den (.slice .i64)) (a4 : Ty.den (.slice argT)) (q0 : Int) (q1 : Int) (q2 : (List Bool)) (q3 : Int) (q4 : Int) (q5 : Bool) (q6 : Int) : ∀ y, each_Do a1 a2 a3 a4 q0 q1 q2 q3 q4 q5 q6 = some y → CSem Tryz.prog 83 [.c (.ptr 0 0), Ty.e .i64 a1, Ty.e attrT a2, Ty.e (.slice .i64) a3, Ty.e (.slice argT) a4] (bkB (q0, q1, q2, q3, q4, q5, q6)) (fun v b => v = (outP 1 [.d (.slice valT), .d (.slice .i64)] bkB y).1 ∧ b = (outP 1 [.d (.slice valT), .d (.slice .i64)] bkB y).2) := fun y h => nomatch h
/-- Not called where it counts: nothing is said of it. -/
def reduce_Do (a1 : Ty.den .i64) (a2 : Ty.den attrT) (a3 : Ty.den argT) (q0 : Int) (q1 : Int) (q2 : (List Bool)) (q3 : Int) (q4 : Int) (q5 : Bool) (q6 : Int) : Option (RTs.den [.d (.slice valT), .d (.slice .i64)] × (Int × Int × (List Bool) × Int × Int × Bool × Int)) := none
theorem reduce_Do_s (a1 : Ty.den .i64) (a2 : Ty.den attrT) (a3 : Ty.den argT) (q0 : Int) (q1 : Int) (q2 : (List Bool)) (q3 : Int) (q4 : Int) (q5 : Bool) (q6 : Int) : ∀ y, reduce_Do a1 a2 a3 q0 q1 q2 q3 q4 q5 q6 = some y → CSem Tryz.prog 84 [.c (.ptr 0 0), Ty.e .i64 a1, Ty.e attrT a2, Ty.e argT a3] (bkB (q0, q1, q2, q3, q4, q5, q6)) (fun v b => v = (outP 1 [.d (.slice valT), .d (.slice .i64)] bkB y).1 ∧ b = (outP 1 [.d (.slice valT), .d (.slice .i64)] bkB y).2) := fun y h => nomatch h
/-- Not called where it counts: nothing is said of it. -/
def matmul_Do (a1 : Ty.den argT) (a2 : Ty.den argT) (q0 : Int) (q1 : Int) (q2 : (List Bool)) (q3 : Int) (q4 : Int) (q5 : Bool) (q6 : Int) : Option (RTs.den [.d (.slice valT)] × (Int × Int × (List Bool) × Int × Int × Bool × Int)) := none
theorem matmul_Do_s (a1 : Ty.den argT) (a2 : Ty.den argT) (q0 : Int) (q1 : Int) (q2 : (List Bool)) (q3 : Int) (q4 : Int) (q5 : Bool) (q6 : Int) : ∀ y, matmul_Do a1 a2 q0 q1 q2 q3 q4 q5 q6 = some y → CSem Tryz.prog 85 [.c (.ptr 0 0), Ty.e argT a1, Ty.e argT a2] (bkB (q0, q1, q2, q3, q4, q5, q6)) (fun v b => v = (outP 1 [.d (.slice valT)] bkB y).1 ∧ b = (outP 1 [.d (.slice valT)] bkB y).2) := fun y h => nomatch h
/-- Not called where it counts: nothing is said of it. -/
def apply_Filled (vals1 : Ty.den (.slice valT)) (has2 : Ty.den (.slice .bool)) (q0 : Int) (q1 : Int) (q2 : (List Bool)) (q3 : Int) (q4 : Int) (q5 : Bool) (q6 : Int) : Option (RTs.den [.d (.slice valT)] × (Int × Int × (List Bool) × Int × Int × Bool × Int)) := none
theorem apply_Filled_s (vals1 : Ty.den (.slice valT)) (has2 : Ty.den (.slice .bool)) (q0 : Int) (q1 : Int) (q2 : (List Bool)) (q3 : Int) (q4 : Int) (q5 : Bool) (q6 : Int) : ∀ y, apply_Filled vals1 has2 q0 q1 q2 q3 q4 q5 q6 = some y → CSem Tryz.prog 9 [.c (.ptr 0 0), Ty.e (.slice valT) vals1, Ty.e (.slice .bool) has2] (bkB (q0, q1, q2, q3, q4, q5, q6)) (fun v b => v = (outP 1 [.d (.slice valT)] bkB y).1 ∧ b = (outP 1 [.d (.slice valT)] bkB y).2) := fun y h => nomatch h
/-- Not called where it counts: nothing is said of it. -/
def bank_Bank_Add (x1 : Ty.den valT) (y2 : Ty.den valT) (q0 : Int) (q1 : Int) (q2 : (List Bool)) (q3 : Int) (q4 : Int) (q5 : Bool) (q6 : Int) : Option (RTs.den [.d valT] × (Int × Int × (List Bool) × Int × Int × Bool × Int)) := none
theorem bank_Bank_Add_s (x1 : Ty.den valT) (y2 : Ty.den valT) (q0 : Int) (q1 : Int) (q2 : (List Bool)) (q3 : Int) (q4 : Int) (q5 : Bool) (q6 : Int) : ∀ y, bank_Bank_Add x1 y2 q0 q1 q2 q3 q4 q5 q6 = some y → CSem Tryz.prog 146 [.c (.ptr 0 0), Ty.e valT x1, Ty.e valT y2] (bkB (q0, q1, q2, q3, q4, q5, q6)) (fun v b => v = (outP 1 [.d valT] bkB y).1 ∧ b = (outP 1 [.d valT] bkB y).2) := fun y h => nomatch h
noncomputable def f201H : Hint := ⟨fun _ => false, false, fun n => lk n [(4, [0, 17, 18, 19])], fun _ => [], fun _ => [], fun _ => [], fun _ => [], fun n => lk n [(4, [⟨.exit 0, [], [], mores P [], []⟩, ⟨.ret, [4], [], mores P [(4, 4)], []⟩])], resOf P 201, fun g _ _ => retOf P g⟩
noncomputable def walk_inn_L4_st (p0 p1 : (List Int)) (p2 : Int) (s : Int) : St := ⟨slots 35 [(0, .e (.c (.sl .i64 p0))), (17, .e (.c (.sl .i64 p1))), (18, .e (.c (.i64 p2))), (19, .e (.c (.i64 s)))], []⟩
noncomputable def walk_inn_L4_out (p0 p1 : (List Int)) (p2 : Int) : (Unit ⊕ Bool) → Exit × St := fun y => match y with
  | (.inl y) => ((.exit 0), ⟨slots 35 [], []⟩)
  | (.inr y) => (.ret, ⟨slots 35 [(4, .e (.c (.bool y)))], []⟩)
noncomputable def walk_inn_T4 (p0 p1 : (List Int)) (p2 : Int) (s : Int) : Tree (Int ⊕ (Unit ⊕ Bool)) :=
 .br (decide (s < p2))
  (.ob ((((0 : Int) ≤ s) ∧ (s < (↑(List.length p1) : Int)))) (
  .br (decide ((List.getD p1 (Int.toNat s) default) < 0))
   (.ret (.inr (.inr Bool.false)))
   (.ob ((((0 : Int) ≤ s) ∧ (s < (↑(List.length p0) : Int)))) (
   .br (decide ((List.getD p0 (Int.toNat s) default) ≤ (List.getD p1 (Int.toNat s) default)))
    (.ret (.inr (.inr Bool.false)))
    (.ret (.inl (w64 (s + 1))))))))
  (.ret (.inr (.inl ())))
noncomputable def walk_inn_L4 (p0 p1 : (List Int)) (p2 : Int) (s : Int) : Option (Unit ⊕ Bool) := iter (fun s => (walk_inn_T4 p0 p1 p2 s).run) F0 s
noncomputable abbrev walk_inn_L4_c : Code := loopOf Tryz.f201 4
theorem walk_inn_L4_s (p0 p1 : (List Int)) (p2 : Int) (s : Int) : ∀ o, walk_inn_L4 p0 p1 p2 s = some o → LpK Tryz.prog f201H 0 4 walk_inn_L4_c (walk_inn_L4_st p0 p1 p2 s) (fun e s' => e = (walk_inn_L4_out p0 p1 p2 o).1 ∧ s' = (walk_inn_L4_out p0 p1 p2 o).2) := fun o => iter_sound (tr := fun s => (walk_inn_T4 p0 p1 p2 s)) (st := fun s => walk_inn_L4_st p0 p1 p2 s) (by kernel_rfl) (fun s K => by kernel_rfl) F0 s o
noncomputable def walk_inn_T (d0 : (List Int)) (a1 : (List Int)) : Tree (RTs.den [.d .bool]) :=
 .ex (shape_Check_s d0) fun y0 =>
 .br (!(decide (y0 = 0)))
  (.ret Bool.false)
  (.br (!(decide ((↑(List.length a1) : Int) = (↑(List.length d0) : Int))))
   (.ret Bool.false)
   (.alt (isL (walk_inn_L4 d0 a1 (↑(List.length a1) : Int) 0))
    (.an (s_u (s_l (walk_inn_L4_s d0 a1 (↑(List.length a1) : Int) 0))) (
    .ret Bool.true))
    (.ex (s_r (walk_inn_L4_s d0 a1 (↑(List.length a1) : Int) 0)) fun y1 =>
    .ret y1)))
noncomputable def walk_inn (d0 : (List Int)) (a1 : (List Int)) : Option (RTs.den [.d .bool]) := (walk_inn_T d0 a1).run
theorem walk_inn_s (d0 : (List Int)) (a1 : (List Int)) : ∀ y, walk_inn d0 a1 = some y → CSem Tryz.prog 201 [Ty.e (.slice .i64) d0, Ty.e (.slice .i64) a1] [] (fun v b => v = (RTs.shape [.d .bool] y).1 ∧ b = (RTs.shape [.d .bool] y).2) := fun_sound (H := f201H) (fn := Tryz.f201) (by kernel_rfl) (by kernel_rfl) (fun post => by kernel_rfl)
noncomputable def f184H : Hint := ⟨fun _ => false, false, fun n => lk n [(5, [0, 6, 13, 14, 15])], fun _ => [], fun _ => [], fun _ => [], fun _ => [], fun n => lk n [(5, [⟨.exit 0, [6], [6], mores P [], []⟩])], resOf P 184, fun g _ _ => retOf P g⟩
noncomputable def walk_Place_L5_st (p0 p1 : (List Int)) (p2 : Int) (s : (Int × Int)) : St := ⟨slots 30 [(0, .e (.c (.sl .i64 p0))), (6, .e (.c (.i64 s.1))), (13, .e (.c (.sl .i64 p1))), (14, .e (.c (.i64 p2))), (15, .e (.c (.i64 s.2)))], []⟩
noncomputable def walk_Place_L5_out (p0 p1 : (List Int)) (p2 : Int) : Int → Exit × St := fun y => ((.exit 0), ⟨slots 30 [(6, .e (.c (.i64 y)))], []⟩)
noncomputable def walk_Place_T5 (p0 p1 : (List Int)) (p2 : Int) (s : (Int × Int)) : Tree ((Int × Int) ⊕ Int) :=
 .br (decide (s.2 < p2))
  (.ob ((((0 : Int) ≤ s.2) ∧ (s.2 < (↑(List.length p1) : Int)))) (
  .ob ((((0 : Int) ≤ s.2) ∧ (s.2 < (↑(List.length p0) : Int)))) (
  .ret (.inl ((w64 ((w64 (s.1 * (List.getD p0 (Int.toNat s.2) default))) + (List.getD p1 (Int.toNat s.2) default))), (w64 (s.2 + 1)))))))
  (.ret (.inr s.1))
noncomputable def walk_Place_L5 (p0 p1 : (List Int)) (p2 : Int) (s : (Int × Int)) : Option Int := iter (fun s => (walk_Place_T5 p0 p1 p2 s).run) F0 s
noncomputable abbrev walk_Place_L5_c : Code := loopOf Tryz.f184 5
theorem walk_Place_L5_s (p0 p1 : (List Int)) (p2 : Int) (s : (Int × Int)) : ∀ o, walk_Place_L5 p0 p1 p2 s = some o → LpK Tryz.prog f184H 0 5 walk_Place_L5_c (walk_Place_L5_st p0 p1 p2 s) (fun e s' => e = (walk_Place_L5_out p0 p1 p2 o).1 ∧ s' = (walk_Place_L5_out p0 p1 p2 o).2) := fun o => iter_sound (tr := fun s => (walk_Place_T5 p0 p1 p2 s)) (st := fun s => walk_Place_L5_st p0 p1 p2 s) (by kernel_rfl) (fun s K => by kernel_rfl) F0 s o
noncomputable def walk_Place_T (d0 : (List Int)) (a1 : (List Int)) : Tree (RTs.den [.d .i64, .d .bool]) :=
 .ex (walk_inn_s d0 a1) fun y0 =>
 .br (!y0)
  (.ret (0, Bool.false))
  (.ex (walk_Place_L5_s d0 a1 (↑(List.length a1) : Int) (0, 0)) fun y1 =>
  .ret (y1, Bool.true))
noncomputable def walk_Place (d0 : (List Int)) (a1 : (List Int)) : Option (RTs.den [.d .i64, .d .bool]) := (walk_Place_T d0 a1).run
theorem walk_Place_s (d0 : (List Int)) (a1 : (List Int)) : ∀ y, walk_Place d0 a1 = some y → CSem Tryz.prog 184 [Ty.e (.slice .i64) d0, Ty.e (.slice .i64) a1] [] (fun v b => v = (RTs.shape [.d .i64, .d .bool] y).1 ∧ b = (RTs.shape [.d .i64, .d .bool] y).2) := fun_sound (H := f184H) (fn := Tryz.f184) (by kernel_rfl) (by kernel_rfl) (fun post => by kernel_rfl)
noncomputable def f183Hr : Hint := ⟨fun _ => false, false, fun n => lk n [(5, [0, 1, 6, 7])], fun _ => [], fun _ => [], fun _ => [], fun _ => [], fun n => lk n [(5, [⟨.exit 0, [6], [], mores P [], []⟩])], some [.r 3 .i64, .d .bool], fun g _ _ => retOf P g⟩
noncomputable def walk_At_r_L5_st (p0 : (List Int)) (s : (Int × (Int × (List Int)))) : St := ⟨slots 42 [(0, .e (.c (.sl .i64 p0))), (1, .e (.c (.i64 s.1))), (6, .e (.c (.ref 0))), (7, .e (.c (.i64 s.2.1)))], [.row 3 .i64 s.2.2 false]⟩
noncomputable def walk_At_r_L5_out (p0 : (List Int)) : (List Int) → Exit × St := fun y => ((.exit 0), ⟨slots 42 [(6, .e (.c (.ref 0)))], [.row 3 .i64 y false]⟩)
noncomputable def walk_At_r_T5 (p0 : (List Int)) (s : (Int × (Int × (List Int)))) : Tree ((Int × (Int × (List Int))) ⊕ (List Int)) :=
 .br (decide ((0 : Int) ≤ s.2.1))
  (.ob ((((0 : Int) ≤ s.2.1) ∧ (s.2.1 < (↑(List.length p0) : Int)))) (
  .ob (((List.getD p0 (Int.toNat s.2.1) default) ≠ 0)) (
  .ob ((((0 : Int) ≤ s.2.1) ∧ (s.2.1 < (↑(List.length s.2.2) : Int)))) (
  .ob ((((0 : Int) ≤ s.2.1) ∧ (s.2.1 < (↑(List.length p0) : Int)))) (
  .ob (((List.getD p0 (Int.toNat s.2.1) default) ≠ 0)) (
  .ret (.inl ((w64 (Int.tdiv s.1 (List.getD p0 (Int.toNat s.2.1) default))), ((w64 (s.2.1 - 1)), (List.set s.2.2 (Int.toNat s.2.1) (Int.tmod s.1 (List.getD p0 (Int.toNat s.2.1) default))))))))))))
  (.ret (.inr s.2.2))
noncomputable def walk_At_r_L5 (p0 : (List Int)) (s : (Int × (Int × (List Int)))) : Option (List Int) := iter (fun s => (walk_At_r_T5 p0 s).run) F0 s
noncomputable abbrev walk_At_r_L5_c : Code := loopOf Tryz.f183 5
theorem walk_At_r_L5_s (p0 : (List Int)) (s : (Int × (Int × (List Int)))) : ∀ o, walk_At_r_L5 p0 s = some o → LpK Tryz.prog f183Hr 0 5 walk_At_r_L5_c (walk_At_r_L5_st p0 s) (fun e s' => e = (walk_At_r_L5_out p0 o).1 ∧ s' = (walk_At_r_L5_out p0 o).2) := fun o => iter_sound (tr := fun s => (walk_At_r_T5 p0 s)) (st := fun s => walk_At_r_L5_st p0 s) (by kernel_rfl) (fun s K => by kernel_rfl) F0 s o
noncomputable def walk_At_r_T (d0 : (List Int)) (n1 : Int) : Tree (RTs.den [.r 3 .i64, .d .bool]) :=
 .br (decide (n1 < 0))
  (.ret ([], Bool.false))
  (.ex (shape_Count_s d0) fun y0 =>
  .br (decide (y0 ≤ n1))
   (.ret ([], Bool.false))
   (.ob ((((0 : Int) ≤ (↑(List.length d0) : Int)) ∧ (((↑(List.length d0) : Int) ≤ (↑(List.length d0) : Int)) ∧ (((↑(List.length d0) : Int) * (↑8 : Int)) ≤ 140737488355328)))) (
   .ex (walk_At_r_L5_s d0 (n1, ((w64 ((↑(List.length d0) : Int) - 1)), (List.replicate (Int.toNat (↑(List.length d0) : Int)) 0)))) fun y1 =>
   .ret (y1, Bool.true))))
noncomputable def walk_At_r (d0 : (List Int)) (n1 : Int) : Option (RTs.den [.r 3 .i64, .d .bool]) := (walk_At_r_T d0 n1).run
theorem walk_At_r_s (d0 : (List Int)) (n1 : Int) : ∀ y, walk_At_r d0 n1 = some y → CSem Tryz.prog 183 [Ty.e (.slice .i64) d0, Ty.e .i64 n1] [] (fun v b => v = (RTs.shape [.r 3 .i64, .d .bool] y).1 ∧ b = (RTs.shape [.r 3 .i64, .d .bool] y).2) := fun_sound (H := f183Hr) (fn := Tryz.f183) (by kernel_rfl) (by kernel_rfl) (fun post => by kernel_rfl)
noncomputable def f171H : Hint := ⟨fun _ => false, false, fun n => lk n [(6, [0, 8, 33, 34, 35])], fun _ => [], fun _ => [], fun _ => [], fun _ => [], fun n => lk n [(6, [⟨.exit 0, [0, 8], [], mores P [], []⟩])], resOf P 171, fun g _ _ => if Nat.beq g 183 then Shape.ofR [.r 3 .i64, .d .bool] else retOf P g⟩
noncomputable def spread_Source_L6_st (p0 : (List Int)) (p1 p2 : Nat) (p3 : (List Int)) (p4 : Int) (s : (Int × (List Int))) : St := ⟨slots 51 [(0, .e (.c (.sl .i64 p0))), (8, .e (.c (.win 0 p1 p2))), (33, .e (.c (.sl .i64 p3))), (34, .e (.c (.i64 p4))), (35, .e (.c (.i64 s.1)))], [.row 3 .i64 s.2 false]⟩
noncomputable def spread_Source_L6_out (p0 : (List Int)) (p1 p2 : Nat) (p3 : (List Int)) (p4 : Int) : (List Int) → Exit × St := fun y => ((.exit 0), ⟨slots 51 [(0, .e (.c (.sl .i64 p0))), (8, .e (.c (.win 0 p1 p2)))], [.row 3 .i64 y false]⟩)
noncomputable def spread_Source_T6 (p0 : (List Int)) (p1 p2 : Nat) (p3 : (List Int)) (p4 : Int) (s : (Int × (List Int))) : Tree ((Int × (List Int)) ⊕ (List Int)) :=
 .br (decide (s.1 < p4))
  (.ob ((((0 : Int) ≤ s.1) ∧ (s.1 < (↑(List.length p3) : Int)))) (
  .br (decide ((List.getD p3 (Int.toNat s.1) default) = 1))
   (.ob ((((0 : Int) ≤ s.1) ∧ (s.1 < (↑p2 : Int)))) (
   .ret (.inl ((w64 (s.1 + 1)), (List.set s.2 (p1 + (Int.toNat s.1)) 0)))))
   (.ret (.inl ((w64 (s.1 + 1)), s.2)))))
  (.ret (.inr s.2))
noncomputable def spread_Source_L6 (p0 : (List Int)) (p1 p2 : Nat) (p3 : (List Int)) (p4 : Int) (s : (Int × (List Int))) : Option (List Int) := iter (fun s => (spread_Source_T6 p0 p1 p2 p3 p4 s).run) F0 s
noncomputable abbrev spread_Source_L6_c : Code := loopOf Tryz.f171 6
theorem spread_Source_L6_s (p0 : (List Int)) (p1 p2 : Nat) (p3 : (List Int)) (p4 : Int) (s : (Int × (List Int))) : ∀ o, spread_Source_L6 p0 p1 p2 p3 p4 s = some o → LpK Tryz.prog f171H 0 6 spread_Source_L6_c (spread_Source_L6_st p0 p1 p2 p3 p4 s) (fun e s' => e = (spread_Source_L6_out p0 p1 p2 p3 p4 o).1 ∧ s' = (spread_Source_L6_out p0 p1 p2 p3 p4 o).2) := fun o => iter_sound (tr := fun s => (spread_Source_T6 p0 p1 p2 p3 p4 s)) (st := fun s => spread_Source_L6_st p0 p1 p2 p3 p4 s) (by kernel_rfl) (fun s K => by kernel_rfl) F0 s o
noncomputable def spread_Source_T (a0 : (List Int)) (a1 : (List Int)) (n2 : Int) : Tree (RTs.den [.d .i64, .d .bool]) :=
 .ex (walk_At_r_s a1 n2) fun y0 =>
 .br (!y0.2)
  (.ret (0, Bool.false))
  (.ex (spread_Fits_s a0 a1) fun y1 =>
  .br (!y1)
   (.ret (0, Bool.false))
   (.ob ((((0 : Int) ≤ (w64 ((↑(List.length a1) : Int) - (↑(List.length a0) : Int)))) ∧ (((w64 ((↑(List.length a1) : Int) - (↑(List.length a0) : Int))) ≤ (↑(List.length y0.1) : Int)) ∧ ((↑(List.length y0.1) : Int) ≤ (↑(List.length y0.1) : Int))))) (
   .ex (spread_Source_L6_s a0 (0 + (Int.toNat (w64 ((↑(List.length a1) : Int) - (↑(List.length a0) : Int))))) ((Int.toNat (↑(List.length y0.1) : Int)) - (Int.toNat (w64 ((↑(List.length a1) : Int) - (↑(List.length a0) : Int))))) a0 (↑(List.length a0) : Int) (0, y0.1)) fun y2 =>
   .ex (walk_Place_s a0 (List.take ((Int.toNat (↑(List.length y0.1) : Int)) - (Int.toNat (w64 ((↑(List.length a1) : Int) - (↑(List.length a0) : Int))))) (List.drop (0 + (Int.toNat (w64 ((↑(List.length a1) : Int) - (↑(List.length a0) : Int))))) y2))) fun y3 =>
   .ret (y3.1, y3.2))))
noncomputable def spread_Source (a0 : (List Int)) (a1 : (List Int)) (n2 : Int) : Option (RTs.den [.d .i64, .d .bool]) := (spread_Source_T a0 a1 n2).run
theorem spread_Source_s (a0 : (List Int)) (a1 : (List Int)) (n2 : Int) : ∀ y, spread_Source a0 a1 n2 = some y → CSem Tryz.prog 171 [Ty.e (.slice .i64) a0, Ty.e (.slice .i64) a1, Ty.e .i64 n2] [] (fun v b => v = (RTs.shape [.d .i64, .d .bool] y).1 ∧ b = (RTs.shape [.d .i64, .d .bool] y).2) := fun_sound (H := f171H) (fn := Tryz.f171) (by kernel_rfl) (by kernel_rfl) (fun post => by kernel_rfl)
noncomputable def f187H : Hint := ⟨fun _ => false, false, fun n => lk n [(6, [2, 4, 14, 25, 26, 27])], fun _ => [], fun _ => [], fun _ => [], fun _ => [], fun n => lk n [(6, [⟨.exit 1, [2, 14], [], mores P [], []⟩])], resOf P 187, fun g _ _ => retOf P g⟩
noncomputable def move_seen_L6_st (p0 p1 : (List Int)) (p2 : Int) (s : (Int × ((List Int) × (List Int)))) : St := ⟨slots 112 [(2, .e (.c (.sl .i64 p0))), (4, .e (.c (.ref 0))), (14, .e (.c (.ref 1))), (25, .e (.c (.sl .i64 p1))), (26, .e (.c (.i64 p2))), (27, .e (.c (.i64 s.1)))], [.row 3 .i64 s.2.1 false, .row 3 .i64 s.2.2 false]⟩
noncomputable def move_seen_L6_out (p0 p1 : (List Int)) (p2 : Int) : ((List Int) × (List Int)) → Exit × St := fun y => ((.exit 1), ⟨slots 112 [(2, .e (.c (.sl .i64 p0))), (14, .e (.c (.ref 1)))], [.row 3 .i64 y.1 false, .row 3 .i64 y.2 false]⟩)
noncomputable def move_seen_T6 (p0 p1 : (List Int)) (p2 : Int) (s : (Int × ((List Int) × (List Int)))) : Tree ((Int × ((List Int) × (List Int))) ⊕ ((List Int) × (List Int))) :=
 .br (decide (s.1 < p2))
  (.ob ((((0 : Int) ≤ s.1) ∧ (s.1 < (↑(List.length p1) : Int)))) (
  .ob ((((0 : Int) ≤ s.1) ∧ (s.1 < (↑(List.length s.2.1) : Int)))) (
  .ob ((((0 : Int) ≤ (List.getD p1 (Int.toNat s.1) default)) ∧ ((List.getD p1 (Int.toNat s.1) default) < (↑(List.length s.2.2) : Int)))) (
  .ret (.inl ((w64 (s.1 + 1)), (s.2.1, (List.set s.2.2 (Int.toNat (List.getD p1 (Int.toNat s.1) default)) (List.getD s.2.1 (Int.toNat s.1) default)))))))))
  (.ret (.inr s.2))
noncomputable def move_seen_L6 (p0 p1 : (List Int)) (p2 : Int) (s : (Int × ((List Int) × (List Int)))) : Option ((List Int) × (List Int)) := iter (fun s => (move_seen_T6 p0 p1 p2 s).run) F0 s
noncomputable abbrev move_seen_L6_c : Code := loopOf Tryz.f187 6
theorem move_seen_L6_s (p0 p1 : (List Int)) (p2 : Int) (s : (Int × ((List Int) × (List Int)))) : ∀ o, move_seen_L6 p0 p1 p2 s = some o → LpK Tryz.prog f187H 1 6 move_seen_L6_c (move_seen_L6_st p0 p1 p2 s) (fun e s' => e = (move_seen_L6_out p0 p1 p2 o).1 ∧ s' = (move_seen_L6_out p0 p1 p2 o).2) := fun o => iter_sound (tr := fun s => (move_seen_T6 p0 p1 p2 s)) (st := fun s => move_seen_L6_st p0 p1 p2 s) (by kernel_rfl) (fun s K => by kernel_rfl) F0 s o
noncomputable def move_seen_T (toArray0 : Int) (a1 : AttrD) (a2 : (List Int)) (a3 : (List Int)) (a5 : Int) (q0 : (List Int)) : Tree (RTs.den [.d .i64] × ((List Int) × Bool)) :=
 .br (decide (toArray0 = 34))
  (.ob ((((0 : Int) ≤ (↑(List.length a2) : Int)) ∧ (((↑(List.length a2) : Int) ≤ (↑(List.length a2) : Int)) ∧ (((↑(List.length a2) : Int) * (↑8 : Int)) ≤ 140737488355328)))) (
  .ex (move_seen_L6_s a2 a1.2.2.2.2.2.2.2.2.2.1 (↑(List.length a1.2.2.2.2.2.2.2.2.2.1) : Int) (0, (q0, (List.replicate (Int.toNat (↑(List.length a2) : Int)) 0)))) fun y0 =>
  .ex (walk_Place_s a2 y0.2) fun y1 =>
  .ret (y1.1, (y0.1, Bool.false))))
  (.br (decide (toArray0 = 35))
   (.ob ((((0 : Int) ≤ a1.1) ∧ (a1.1 < (↑(List.length q0) : Int)))) (
   .ob ((((0 : Int) ≤ a1.1) ∧ (a1.1 < (↑(List.length q0) : Int)))) (
   .br (decide (a1.2.2.1 = 1))
    (.ob ((((0 : Int) ≤ a1.1) ∧ (a1.1 < (↑(List.length (List.set q0 (Int.toNat a1.1) (w64 (a1.2.1 + (w64 ((List.getD q0 (Int.toNat a1.1) default) * a1.2.2.2.1)))))) : Int)))) (
    .ex (walk_Place_s a2 (List.set (List.set q0 (Int.toNat a1.1) (w64 (a1.2.1 + (w64 ((List.getD q0 (Int.toNat a1.1) default) * a1.2.2.2.1))))) (Int.toNat a1.1) a1.2.1)) fun y2 =>
    .ret (y2.1, ((List.set (List.set q0 (Int.toNat a1.1) (w64 (a1.2.1 + (w64 ((List.getD q0 (Int.toNat a1.1) default) * a1.2.2.2.1))))) (Int.toNat a1.1) a1.2.1), Bool.true))))
    (.ex (walk_Place_s a2 (List.set q0 (Int.toNat a1.1) (w64 (a1.2.1 + (w64 ((List.getD q0 (Int.toNat a1.1) default) * a1.2.2.2.1)))))) fun y3 =>
    .ret (y3.1, ((List.set q0 (Int.toNat a1.1) (w64 (a1.2.1 + (w64 ((List.getD q0 (Int.toNat a1.1) default) * a1.2.2.2.1))))), Bool.true))))))
   (.br (decide (toArray0 = 36))
    (.ex (spread_Source_s a2 a3 a5) fun y4 =>
    .ret (y4.1, (q0, Bool.false)))
    (.br (decide (toArray0 = 37))
     (.ob ((((0 : Int) ≤ a1.1) ∧ (a1.1 < (↑(List.length a2) : Int)))) (
     .ob ((((0 : Int) ≤ a1.1) ∧ (a1.1 < (↑(List.length q0) : Int)))) (
     .ob ((((0 : Int) ≤ a1.1) ∧ (a1.1 < (↑(List.length q0) : Int)))) (
     .ex (walk_Place_s a2 (List.set q0 (Int.toNat a1.1) (w64 ((w64 ((List.getD a2 (Int.toNat a1.1) default) - 1)) - (List.getD q0 (Int.toNat a1.1) default))))) fun y5 =>
     .ret (y5.1, ((List.set q0 (Int.toNat a1.1) (w64 ((w64 ((List.getD a2 (Int.toNat a1.1) default) - 1)) - (List.getD q0 (Int.toNat a1.1) default)))), Bool.true))))))
     (.ret (a5, (q0, Bool.false))))))
noncomputable def move_seen (toArray0 : Int) (a1 : AttrD) (a2 : (List Int)) (a3 : (List Int)) (a5 : Int) (q0 : (List Int)) : Option (RTs.den [.d .i64] × ((List Int) × Bool)) := (move_seen_T toArray0 a1 a2 a3 a5 q0).run
theorem move_seen_s (toArray0 : Int) (a1 : AttrD) (a2 : (List Int)) (a3 : (List Int)) (a5 : Int) (q0 : (List Int)) : ∀ y, move_seen toArray0 a1 a2 a3 a5 q0 = some y → CSem Tryz.prog 187 [Ty.e .i64 toArray0, Ty.e attrT a1, Ty.e (.slice .i64) a2, Ty.e (.slice .i64) a3, .c (.ref 0), Ty.e .i64 a5] (bkR q0) (fun v b => v = (outP 1 [.d .i64] bkRo y).1 ∧ b = (outP 1 [.d .i64] bkRo y).2) := fun_soundP (H := f187H) (fn := Tryz.f187) (by kernel_rfl) (by kernel_rfl) (fun post => by kernel_rfl)
noncomputable def f147H : Hint := ⟨fun g => Nat.beq g 187, false, fun _ => [], fun _ => [], fun _ => [], fun _ => [], fun _ => [], fun _ => [], resOf P 147, fun g _ _ => if Nat.beq g 187 then Shape.ofP 1 [.d .i64] bkRo else if Nat.beq g 183 then Shape.ofR [.r 3 .i64, .d .bool] else retOf P g⟩
noncomputable def move_From_T (toArray0 : Int) (a1 : AttrD) (a2 : (List (List Int))) (a3 : Int) : Tree (RTs.den [.d .i64, .d .i64, .d .bool]) :=
 .ex (move_Dims_s toArray0 a1 a2) fun y0 =>
 .ex (walk_At_r_s y0.1 a3) fun y1 =>
 .br (!(decide (y0.2 = 0)))
  (.ret (0, (0, Bool.false)))
  (.br (!y1.2)
   (.ret (0, (0, Bool.false)))
   (.br (decide (toArray0 = 39))
    (.ret (0, (0, Bool.false)))
    (.br (decide (toArray0 = 38))
     (.ob ((((0 : Int) ≤ a1.1) ∧ (a1.1 < (↑(List.length y1.1) : Int)))) (
     .ob ((((0 : Int) ≤ (List.getD y1.1 (Int.toNat a1.1) default)) ∧ ((List.getD y1.1 (Int.toNat a1.1) default) < (↑(List.length a1.2.2.2.2.2.2.2.2.2.1) : Int)))) (
     .ob ((((0 : Int) ≤ a1.1) ∧ (a1.1 < (↑(List.length y1.1) : Int)))) (
     .ob ((((0 : Int) ≤ 0) ∧ ((0 : Int) < (↑(List.length a2) : Int)))) (
     .ex (walk_Place_s (List.getD a2 (Int.toNat 0) default) (List.set y1.1 (Int.toNat a1.1) (List.getD a1.2.2.2.2.2.2.2.2.2.1 (Int.toNat (List.getD y1.1 (Int.toNat a1.1) default)) default))) fun y2 =>
     .ret (0, (y2.1, Bool.true)))))))
     (.br (decide (toArray0 = 40))
      (.ob ((((0 : Int) ≤ 0) ∧ ((0 : Int) < (↑(List.length a2) : Int)))) (
      .ob ((((0 : Int) ≤ a1.1) ∧ (a1.1 < (↑(List.length (List.getD a2 (Int.toNat 0) default)) : Int)))) (
      .ob ((((0 : Int) ≤ a1.1) ∧ (a1.1 < (↑(List.length y1.1) : Int)))) (
      .br (decide ((List.getD (List.getD a2 (Int.toNat 0) default) (Int.toNat a1.1) default) ≤ (List.getD y1.1 (Int.toNat a1.1) default)))
       (.ob ((((0 : Int) ≤ a1.1) ∧ (a1.1 < (↑(List.length y1.1) : Int)))) (
       .ob ((((0 : Int) ≤ a1.1) ∧ (a1.1 < (↑(List.length y1.1) : Int)))) (
       .ob ((((0 : Int) ≤ 1) ∧ ((1 : Int) < (↑(List.length a2) : Int)))) (
       .ex (walk_Place_s (List.getD a2 (Int.toNat 1) default) (List.set y1.1 (Int.toNat a1.1) (w64 ((List.getD y1.1 (Int.toNat a1.1) default) - (List.getD (List.getD a2 (Int.toNat 0) default) (Int.toNat a1.1) default))))) fun y3 =>
       .ret (1, (y3.1, Bool.true))))))
       (.ob ((((0 : Int) ≤ 0) ∧ ((0 : Int) < (↑(List.length a2) : Int)))) (
       .ex (walk_Place_s (List.getD a2 (Int.toNat 0) default) y1.1) fun y4 =>
       .ret (0, (y4.1, Bool.true))))))))
      (.ob ((((0 : Int) ≤ 0) ∧ ((0 : Int) < (↑(List.length a2) : Int)))) (
      .ex (move_seen_s toArray0 a1 (List.getD a2 (Int.toNat 0) default) y0.1 a3 y1.1) fun y5 =>
      .ret (0, (y5.1, Bool.true))))))))
noncomputable def move_From (toArray0 : Int) (a1 : AttrD) (a2 : (List (List Int))) (a3 : Int) : Option (RTs.den [.d .i64, .d .i64, .d .bool]) := (move_From_T toArray0 a1 a2 a3).run
theorem move_From_s (toArray0 : Int) (a1 : AttrD) (a2 : (List (List Int))) (a3 : Int) : ∀ y, move_From toArray0 a1 a2 a3 = some y → CSem Tryz.prog 147 [Ty.e .i64 toArray0, Ty.e attrT a1, Ty.e (.slice (.slice .i64)) a2, Ty.e .i64 a3] [] (fun v b => v = (RTs.shape [.d .i64, .d .i64, .d .bool] y).1 ∧ b = (RTs.shape [.d .i64, .d .i64, .d .bool] y).2) := fun_sound (H := f147H) (fn := Tryz.f147) (by kernel_rfl) (by kernel_rfl) (fun post => by kernel_rfl)
/-- Not called where it counts: nothing is said of it. -/
def move_To (a0 : Ty.den attrT) (d1 : Ty.den (.slice .i64)) (n2 : Ty.den .i64) : Option (RTs.den [.d .i64, .d .bool]) := none
theorem move_To_s (a0 : Ty.den attrT) (d1 : Ty.den (.slice .i64)) (n2 : Ty.den .i64) : ∀ y, move_To a0 d1 n2 = some y → CSem Tryz.prog 148 [Ty.e attrT a0, Ty.e (.slice .i64) d1, Ty.e .i64 n2] [] (fun v b => v = (RTs.shape [.d .i64, .d .bool] y).1 ∧ b = (RTs.shape [.d .i64, .d .bool] y).2) := fun y h => nomatch h
noncomputable def f86Hr : Hint := ⟨fun _ => false, false, fun n => lk n [(4, [0, 1, 4, 7, 11, 12, 27, 28, 29]), (10, [1, 4, 7, 11, 12, 42, 43]), (18, [0, 7, 11, 12, 19, 74, 75, 76])], fun _ => [], fun n => lk n [(4, openOf P [(12, 56)])], fun _ => [], fun n => lk n [(10, mores P [(12, 56)])], fun n => lk n [(4, [⟨.exit 0, [0, 1, 4, 7, 11, 12], [12], mores P [], [7]⟩]), (10, [⟨.exit 2, [11], [], mores P [], [7]⟩]), (18, [⟨.exit 4, [0, 11, 19], [], mores P [], [7]⟩])], some [.r 35 (.pair (.pair .bool (.pair (.slice .u64) (.pair (.slice .u64) .unit))) (.pair .u64 (.pair .i64 .unit)))], fun g _ _ => if Nat.beq g 9 then Shape.ofP 1 [.d (.slice (.pair (.pair .bool (.pair (.slice .u64) (.pair (.slice .u64) .unit))) (.pair .u64 (.pair .i64 .unit))))] bkB else if Nat.beq g 146 then Shape.ofP 1 [.d (.pair (.pair .bool (.pair (.slice .u64) (.pair (.slice .u64) .unit))) (.pair .u64 (.pair .i64 .unit)))] bkB else retOf P g⟩
noncomputable def apply_moved_r_L18_st (p0 : (List ValD)) (p1 p2 p3 p4 p5 p6 p7 p8 p9 : Int) (p10 : Bool) (p11 : (List Int)) (s : (Int × (Int × (Int × ((List Bool) × (Int × (Int × (Bool × (Int × ((List ValD) × ((List (List Int)) × (List Bool)))))))))))) : St := ⟨slots 113 [(0, .e (.c (.ptr 0 0))), (7, .e (.c (.ptr 1 0))), (11, .e (.c (.ref 2))), (12, .e (.c (.ref 3))), (19, .e (.c (.ref 4))), (74, .e (.c (.sl valT p0))), (75, .e (.c (.i64 p1))), (76, .e (.c (.i64 s.1)))], [.cells 76 [.i64 s.2.1, .i64 s.2.2.1, .nils, .sl .bool s.2.2.2.1, .nils, .i64 s.2.2.2.2.1, .i64 s.2.2.2.2.2.1, .bool s.2.2.2.2.2.2.1, .i64 s.2.2.2.2.2.2.2.1], .cells 50 [.i64 p2, .i64 p3, .i64 p4, .i64 p5, .i64 p6, .i64 p7, .i64 p8, .i64 p9, .bool p10, .sl .i64 p11], .row 35 valT s.2.2.2.2.2.2.2.2.1 false, .row 48 (.slice .i64) s.2.2.2.2.2.2.2.2.2.1 false, .row 4 .bool s.2.2.2.2.2.2.2.2.2.2 false]⟩
noncomputable def apply_moved_r_L18_out (p0 : (List ValD)) (p1 p2 p3 p4 p5 p6 p7 p8 p9 : Int) (p10 : Bool) (p11 : (List Int)) : ((Int × (Int × ((List Bool) × (Int × (Int × (Bool × Int)))))) × ((List ValD) × (List Bool))) → Exit × St := fun y => ((.exit 4), ⟨slots 113 [(0, .e (.c (.ptr 0 0))), (11, .e (.c (.ref 1))), (19, .e (.c (.ref 2)))], [.cells 76 [.i64 y.1.1, .i64 y.1.2.1, .nils, .sl .bool y.1.2.2.1, .nils, .i64 y.1.2.2.2.1, .i64 y.1.2.2.2.2.1, .bool y.1.2.2.2.2.2.1, .i64 y.1.2.2.2.2.2.2], .row 35 valT y.2.1 false, .row 4 .bool y.2.2 false]⟩)
noncomputable def apply_moved_r_T18 (p0 : (List ValD)) (p1 p2 p3 p4 p5 p6 p7 p8 p9 : Int) (p10 : Bool) (p11 : (List Int)) (s : (Int × (Int × (Int × ((List Bool) × (Int × (Int × (Bool × (Int × ((List ValD) × ((List (List Int)) × (List Bool)))))))))))) : Tree ((Int × (Int × (Int × ((List Bool) × (Int × (Int × (Bool × (Int × ((List ValD) × ((List (List Int)) × (List Bool))))))))))) ⊕ ((Int × (Int × ((List Bool) × (Int × (Int × (Bool × Int)))))) × ((List ValD) × (List Bool)))) :=
 .br (decide (s.1 < p1))
  (.ob ((((0 : Int) ≤ s.1) ∧ (s.1 < (↑(List.length p0) : Int)))) (
  .ob ((((0 : Int) ≤ 0) ∧ ((0 : Int) < (↑(List.length s.2.2.2.2.2.2.2.2.2.1) : Int)))) (
  .ex (move_To_s (p2, (p3, (p4, (p5, (p6, (p7, (p8, (p9, (p10, (p11, ())))))))))) (List.getD s.2.2.2.2.2.2.2.2.2.1 (Int.toNat 0) default) s.1) fun y0 =>
  .ob ((((0 : Int) ≤ y0.1) ∧ (y0.1 < (↑(List.length s.2.2.2.2.2.2.2.2.2.2) : Int)))) (
  .br (List.getD s.2.2.2.2.2.2.2.2.2.2 (Int.toNat y0.1) default)
   (.ob ((((0 : Int) ≤ y0.1) ∧ (y0.1 < (↑(List.length s.2.2.2.2.2.2.2.2.1) : Int)))) (
   .ex (bank_Bank_Add_s (List.getD s.2.2.2.2.2.2.2.2.1 (Int.toNat y0.1) default) (List.getD p0 (Int.toNat s.1) default) s.2.1 s.2.2.1 s.2.2.2.1 s.2.2.2.2.1 s.2.2.2.2.2.1 s.2.2.2.2.2.2.1 s.2.2.2.2.2.2.2.1) fun y1 =>
   .ob ((((0 : Int) ≤ y0.1) ∧ (y0.1 < (↑(List.length s.2.2.2.2.2.2.2.2.1) : Int)))) (
   .ob ((((0 : Int) ≤ y0.1) ∧ (y0.1 < (↑(List.length s.2.2.2.2.2.2.2.2.2.2) : Int)))) (
   .ret (.inl ((w64 (s.1 + 1)), (y1.2.1, (y1.2.2.1, (y1.2.2.2.1, (y1.2.2.2.2.1, (y1.2.2.2.2.2.1, (y1.2.2.2.2.2.2.1, (y1.2.2.2.2.2.2.2, ((List.set s.2.2.2.2.2.2.2.2.1 (Int.toNat y0.1) ((y1.1.1.1, (y1.1.1.2.1, (y1.1.1.2.2.1, ()))), (y1.1.2.1, (y1.1.2.2.1, ())))), (s.2.2.2.2.2.2.2.2.2.1, (List.set s.2.2.2.2.2.2.2.2.2.2 (Int.toNat y0.1) Bool.true))))))))))))))))
   (.ob ((((0 : Int) ≤ y0.1) ∧ (y0.1 < (↑(List.length s.2.2.2.2.2.2.2.2.1) : Int)))) (
   .ob ((((0 : Int) ≤ y0.1) ∧ (y0.1 < (↑(List.length s.2.2.2.2.2.2.2.2.2.2) : Int)))) (
   .ret (.inl ((w64 (s.1 + 1)), (s.2.1, (s.2.2.1, (s.2.2.2.1, (s.2.2.2.2.1, (s.2.2.2.2.2.1, (s.2.2.2.2.2.2.1, (s.2.2.2.2.2.2.2.1, ((List.set s.2.2.2.2.2.2.2.2.1 (Int.toNat y0.1) (((List.getD p0 (Int.toNat s.1) default).1.1, ((List.getD p0 (Int.toNat s.1) default).1.2.1, ((List.getD p0 (Int.toNat s.1) default).1.2.2.1, ()))), ((List.getD p0 (Int.toNat s.1) default).2.1, ((List.getD p0 (Int.toNat s.1) default).2.2.1, ())))), (s.2.2.2.2.2.2.2.2.2.1, (List.set s.2.2.2.2.2.2.2.2.2.2 (Int.toNat y0.1) Bool.true)))))))))))))))))))
  (.ret (.inr ((s.2.1, (s.2.2.1, (s.2.2.2.1, (s.2.2.2.2.1, (s.2.2.2.2.2.1, (s.2.2.2.2.2.2.1, s.2.2.2.2.2.2.2.1)))))), (s.2.2.2.2.2.2.2.2.1, s.2.2.2.2.2.2.2.2.2.2))))
noncomputable def apply_moved_r_L18 (p0 : (List ValD)) (p1 p2 p3 p4 p5 p6 p7 p8 p9 : Int) (p10 : Bool) (p11 : (List Int)) (s : (Int × (Int × (Int × ((List Bool) × (Int × (Int × (Bool × (Int × ((List ValD) × ((List (List Int)) × (List Bool)))))))))))) : Option ((Int × (Int × ((List Bool) × (Int × (Int × (Bool × Int)))))) × ((List ValD) × (List Bool))) := iter (fun s => (apply_moved_r_T18 p0 p1 p2 p3 p4 p5 p6 p7 p8 p9 p10 p11 s).run) F0 s
noncomputable abbrev apply_moved_r_L18_c : Code := loopOf Tryz.f86 18
theorem apply_moved_r_L18_s (p0 : (List ValD)) (p1 p2 p3 p4 p5 p6 p7 p8 p9 : Int) (p10 : Bool) (p11 : (List Int)) (s : (Int × (Int × (Int × ((List Bool) × (Int × (Int × (Bool × (Int × ((List ValD) × ((List (List Int)) × (List Bool)))))))))))) : ∀ o, apply_moved_r_L18 p0 p1 p2 p3 p4 p5 p6 p7 p8 p9 p10 p11 s = some o → LpK Tryz.prog f86Hr 1 18 apply_moved_r_L18_c (apply_moved_r_L18_st p0 p1 p2 p3 p4 p5 p6 p7 p8 p9 p10 p11 s) (fun e s' => e = (apply_moved_r_L18_out p0 p1 p2 p3 p4 p5 p6 p7 p8 p9 p10 p11 o).1 ∧ s' = (apply_moved_r_L18_out p0 p1 p2 p3 p4 p5 p6 p7 p8 p9 p10 p11 o).2) := fun o => iter_sound (tr := fun s => (apply_moved_r_T18 p0 p1 p2 p3 p4 p5 p6 p7 p8 p9 p10 p11 s)) (st := fun s => apply_moved_r_L18_st p0 p1 p2 p3 p4 p5 p6 p7 p8 p9 p10 p11 s) (by kernel_rfl) (fun s K => by kernel_rfl) F0 s o
noncomputable def apply_moved_r_L10_st (p0 : Int) (p1 : (List ArgD)) (p2 : (List (List Int))) (p3 p4 p5 p6 p7 p8 p9 p10 p11 : Int) (p12 : Bool) (p13 : (List Int)) (s : (Int × (Int × (Int × ((List Bool) × (Int × (Int × (Bool × (Int × (List ValD)))))))))) : St := ⟨slots 113 [(1, .e (.c (.i64 p0))), (4, .e (.c (.sl argT p1))), (7, .e (.c (.ptr 1 0))), (11, .e (.c (.ref 2))), (12, .e (.c (.sl (.slice .i64) p2))), (42, .e (.c (.i64 p3))), (43, .e (.c (.i64 s.1)))], [.cells 76 [.i64 s.2.1, .i64 s.2.2.1, .nils, .sl .bool s.2.2.2.1, .nils, .i64 s.2.2.2.2.1, .i64 s.2.2.2.2.2.1, .bool s.2.2.2.2.2.2.1, .i64 s.2.2.2.2.2.2.2.1], .cells 50 [.i64 p4, .i64 p5, .i64 p6, .i64 p7, .i64 p8, .i64 p9, .i64 p10, .i64 p11, .bool p12, .sl .i64 p13], .row 35 valT s.2.2.2.2.2.2.2.2 false]⟩
noncomputable def apply_moved_r_L10_out (p0 : Int) (p1 : (List ArgD)) (p2 : (List (List Int))) (p3 p4 p5 p6 p7 p8 p9 p10 p11 : Int) (p12 : Bool) (p13 : (List Int)) : ((Int × (Int × ((List Bool) × (Int × (Int × (Bool × Int)))))) × (List ValD)) → Exit × St := fun y => ((.exit 2), ⟨slots 113 [(11, .e (.c (.ref 1)))], [.cells 76 [.i64 y.1.1, .i64 y.1.2.1, .nils, .sl .bool y.1.2.2.1, .nils, .i64 y.1.2.2.2.1, .i64 y.1.2.2.2.2.1, .bool y.1.2.2.2.2.2.1, .i64 y.1.2.2.2.2.2.2], .row 35 valT y.2 false]⟩)
noncomputable def apply_moved_r_T10 (p0 : Int) (p1 : (List ArgD)) (p2 : (List (List Int))) (p3 p4 p5 p6 p7 p8 p9 p10 p11 : Int) (p12 : Bool) (p13 : (List Int)) (s : (Int × (Int × (Int × ((List Bool) × (Int × (Int × (Bool × (Int × (List ValD)))))))))) : Tree ((Int × (Int × (Int × ((List Bool) × (Int × (Int × (Bool × (Int × (List ValD))))))))) ⊕ ((Int × (Int × ((List Bool) × (Int × (Int × (Bool × Int)))))) × (List ValD))) :=
 .br (decide (s.1 < p3))
  (.ex (move_From_s p0 (p4, (p5, (p6, (p7, (p8, (p9, (p10, (p11, (p12, (p13, ())))))))))) p2 s.1) fun y0 =>
  .ob ((((0 : Int) ≤ y0.1) ∧ (y0.1 < (↑(List.length p1) : Int)))) (
  .ob ((((0 : Int) ≤ y0.2.1) ∧ (y0.2.1 < (↑(List.length (List.getD p1 (Int.toNat y0.1) default).2.1) : Int)))) (
  .ob ((((0 : Int) ≤ s.1) ∧ (s.1 < (↑(List.length s.2.2.2.2.2.2.2.2) : Int)))) (
  .ret (.inl ((w64 (s.1 + 1)), (s.2.1, (s.2.2.1, (s.2.2.2.1, (s.2.2.2.2.1, (s.2.2.2.2.2.1, (s.2.2.2.2.2.2.1, (s.2.2.2.2.2.2.2.1, (List.set s.2.2.2.2.2.2.2.2 (Int.toNat s.1) (((List.getD (List.getD p1 (Int.toNat y0.1) default).2.1 (Int.toNat y0.2.1) default).1.1, ((List.getD (List.getD p1 (Int.toNat y0.1) default).2.1 (Int.toNat y0.2.1) default).1.2.1, ((List.getD (List.getD p1 (Int.toNat y0.1) default).2.1 (Int.toNat y0.2.1) default).1.2.2.1, ()))), ((List.getD (List.getD p1 (Int.toNat y0.1) default).2.1 (Int.toNat y0.2.1) default).2.1, ((List.getD (List.getD p1 (Int.toNat y0.1) default).2.1 (Int.toNat y0.2.1) default).2.2.1, ())))))))))))))))))
  (.ret (.inr ((s.2.1, (s.2.2.1, (s.2.2.2.1, (s.2.2.2.2.1, (s.2.2.2.2.2.1, (s.2.2.2.2.2.2.1, s.2.2.2.2.2.2.2.1)))))), s.2.2.2.2.2.2.2.2)))
noncomputable def apply_moved_r_L10 (p0 : Int) (p1 : (List ArgD)) (p2 : (List (List Int))) (p3 p4 p5 p6 p7 p8 p9 p10 p11 : Int) (p12 : Bool) (p13 : (List Int)) (s : (Int × (Int × (Int × ((List Bool) × (Int × (Int × (Bool × (Int × (List ValD)))))))))) : Option ((Int × (Int × ((List Bool) × (Int × (Int × (Bool × Int)))))) × (List ValD)) := iter (fun s => (apply_moved_r_T10 p0 p1 p2 p3 p4 p5 p6 p7 p8 p9 p10 p11 p12 p13 s).run) F0 s
noncomputable abbrev apply_moved_r_L10_c : Code := loopOf Tryz.f86 10
theorem apply_moved_r_L10_s (p0 : Int) (p1 : (List ArgD)) (p2 : (List (List Int))) (p3 p4 p5 p6 p7 p8 p9 p10 p11 : Int) (p12 : Bool) (p13 : (List Int)) (s : (Int × (Int × (Int × ((List Bool) × (Int × (Int × (Bool × (Int × (List ValD)))))))))) : ∀ o, apply_moved_r_L10 p0 p1 p2 p3 p4 p5 p6 p7 p8 p9 p10 p11 p12 p13 s = some o → LpK Tryz.prog f86Hr 1 10 apply_moved_r_L10_c (apply_moved_r_L10_st p0 p1 p2 p3 p4 p5 p6 p7 p8 p9 p10 p11 p12 p13 s) (fun e s' => e = (apply_moved_r_L10_out p0 p1 p2 p3 p4 p5 p6 p7 p8 p9 p10 p11 p12 p13 o).1 ∧ s' = (apply_moved_r_L10_out p0 p1 p2 p3 p4 p5 p6 p7 p8 p9 p10 p11 p12 p13 o).2) := fun o => iter_sound (tr := fun s => (apply_moved_r_T10 p0 p1 p2 p3 p4 p5 p6 p7 p8 p9 p10 p11 p12 p13 s)) (st := fun s => apply_moved_r_L10_st p0 p1 p2 p3 p4 p5 p6 p7 p8 p9 p10 p11 p12 p13 s) (by kernel_rfl) (fun s K => by kernel_rfl) F0 s o
noncomputable def apply_moved_r_L4_st (p0 : Int) (p1 p2 : (List ArgD)) (p3 p4 p5 p6 p7 p8 p9 p10 p11 : Int) (p12 : Bool) (p13 : (List Int)) (s : (Int × (Int × (Int × ((List Bool) × (Int × (Int × (Bool × (Int × ((List ValD) × (List (List Int)))))))))))) : St := ⟨slots 113 [(0, .e (.c (.ptr 0 0))), (1, .e (.c (.i64 p0))), (4, .e (.c (.sl argT p1))), (7, .e (.c (.ptr 1 0))), (11, .e (.c (.ref 2))), (12, .e (.c (.ref 3))), (27, .e (.c (.sl argT p2))), (28, .e (.c (.i64 p3))), (29, .e (.c (.i64 s.1)))], [.cells 76 [.i64 s.2.1, .i64 s.2.2.1, .nils, .sl .bool s.2.2.2.1, .nils, .i64 s.2.2.2.2.1, .i64 s.2.2.2.2.2.1, .bool s.2.2.2.2.2.2.1, .i64 s.2.2.2.2.2.2.2.1], .cells 50 [.i64 p4, .i64 p5, .i64 p6, .i64 p7, .i64 p8, .i64 p9, .i64 p10, .i64 p11, .bool p12, .sl .i64 p13], .row 35 valT s.2.2.2.2.2.2.2.2.1 false, .row 48 (.slice .i64) s.2.2.2.2.2.2.2.2.2 false]⟩
noncomputable def apply_moved_r_L4_out (p0 : Int) (p1 p2 : (List ArgD)) (p3 p4 p5 p6 p7 p8 p9 p10 p11 : Int) (p12 : Bool) (p13 : (List Int)) : ((Int × (Int × ((List Bool) × (Int × (Int × (Bool × Int)))))) × ((List ValD) × (List (List Int)))) → Exit × St := fun y => ((.exit 0), ⟨slots 113 [(0, .e (.c (.ptr 0 0))), (1, .e (.c (.i64 p0))), (4, .e (.c (.sl argT p1))), (7, .e (.c (.ptr 1 0))), (11, .e (.c (.ref 2))), (12, .e (.c (.ref 3)))], [.cells 76 [.i64 y.1.1, .i64 y.1.2.1, .nils, .sl .bool y.1.2.2.1, .nils, .i64 y.1.2.2.2.1, .i64 y.1.2.2.2.2.1, .bool y.1.2.2.2.2.2.1, .i64 y.1.2.2.2.2.2.2], .cells 50 [.i64 p4, .i64 p5, .i64 p6, .i64 p7, .i64 p8, .i64 p9, .i64 p10, .i64 p11, .bool p12, .sl .i64 p13], .row 35 valT y.2.1 false, .row 48 (.slice .i64) y.2.2 false]⟩)
noncomputable def apply_moved_r_T4 (p0 : Int) (p1 p2 : (List ArgD)) (p3 p4 p5 p6 p7 p8 p9 p10 p11 : Int) (p12 : Bool) (p13 : (List Int)) (s : (Int × (Int × (Int × ((List Bool) × (Int × (Int × (Bool × (Int × ((List ValD) × (List (List Int)))))))))))) : Tree ((Int × (Int × (Int × ((List Bool) × (Int × (Int × (Bool × (Int × ((List ValD) × (List (List Int))))))))))) ⊕ ((Int × (Int × ((List Bool) × (Int × (Int × (Bool × Int)))))) × ((List ValD) × (List (List Int))))) :=
 .br (decide (s.1 < p3))
  (.ob ((((0 : Int) ≤ s.1) ∧ (s.1 < (↑(List.length p2) : Int)))) (
  .ob (((((List.length s.2.2.2.2.2.2.2.2.2) + 1) * 24) ≤ 140737488355328)) (
  .ret (.inl ((w64 (s.1 + 1)), (s.2.1, (s.2.2.1, (s.2.2.2.1, (s.2.2.2.2.1, (s.2.2.2.2.2.1, (s.2.2.2.2.2.2.1, (s.2.2.2.2.2.2.2.1, (s.2.2.2.2.2.2.2.2.1, (s.2.2.2.2.2.2.2.2.2 ++ ((List.getD p2 (Int.toNat s.1) default).1 :: [])))))))))))))))
  (.ret (.inr ((s.2.1, (s.2.2.1, (s.2.2.2.1, (s.2.2.2.2.1, (s.2.2.2.2.2.1, (s.2.2.2.2.2.2.1, s.2.2.2.2.2.2.2.1)))))), s.2.2.2.2.2.2.2.2)))
noncomputable def apply_moved_r_L4 (p0 : Int) (p1 p2 : (List ArgD)) (p3 p4 p5 p6 p7 p8 p9 p10 p11 : Int) (p12 : Bool) (p13 : (List Int)) (s : (Int × (Int × (Int × ((List Bool) × (Int × (Int × (Bool × (Int × ((List ValD) × (List (List Int)))))))))))) : Option ((Int × (Int × ((List Bool) × (Int × (Int × (Bool × Int)))))) × ((List ValD) × (List (List Int)))) := iter (fun s => (apply_moved_r_T4 p0 p1 p2 p3 p4 p5 p6 p7 p8 p9 p10 p11 p12 p13 s).run) F0 s
noncomputable abbrev apply_moved_r_L4_c : Code := loopOf Tryz.f86 4
theorem apply_moved_r_L4_s (p0 : Int) (p1 p2 : (List ArgD)) (p3 p4 p5 p6 p7 p8 p9 p10 p11 : Int) (p12 : Bool) (p13 : (List Int)) (s : (Int × (Int × (Int × ((List Bool) × (Int × (Int × (Bool × (Int × ((List ValD) × (List (List Int)))))))))))) : ∀ o, apply_moved_r_L4 p0 p1 p2 p3 p4 p5 p6 p7 p8 p9 p10 p11 p12 p13 s = some o → LpK Tryz.prog f86Hr 1 4 apply_moved_r_L4_c (apply_moved_r_L4_st p0 p1 p2 p3 p4 p5 p6 p7 p8 p9 p10 p11 p12 p13 s) (fun e s' => e = (apply_moved_r_L4_out p0 p1 p2 p3 p4 p5 p6 p7 p8 p9 p10 p11 p12 p13 o).1 ∧ s' = (apply_moved_r_L4_out p0 p1 p2 p3 p4 p5 p6 p7 p8 p9 p10 p11 p12 p13 o).2) := fun o => iter_sound (tr := fun s => (apply_moved_r_T4 p0 p1 p2 p3 p4 p5 p6 p7 p8 p9 p10 p11 p12 p13 s)) (st := fun s => apply_moved_r_L4_st p0 p1 p2 p3 p4 p5 p6 p7 p8 p9 p10 p11 p12 p13 s) (by kernel_rfl) (fun s K => by kernel_rfl) F0 s o
noncomputable def apply_moved_r_T (a1 : Int) (a2 : AttrD) (a3 : (List Int)) (a4 : (List ArgD)) (q0 : Int) (q1 : Int) (q2 : (List Bool)) (q3 : Int) (q4 : Int) (q5 : Bool) (q6 : Int) : Tree (RTs.den [.r 35 valT] × (Int × Int × (List Bool) × Int × Int × Bool × Int)) :=
 .ex (shape_Count_s a3) fun y0 =>
 .ob ((((0 : Int) ≤ y0) ∧ ((y0 ≤ y0) ∧ ((y0 * (↑72 : Int)) ≤ 140737488355328)))) (
 .ex (apply_moved_r_L4_s a1 a4 a4 (↑(List.length a4) : Int) a2.1 a2.2.1 a2.2.2.1 a2.2.2.2.1 a2.2.2.2.2.1 a2.2.2.2.2.2.1 a2.2.2.2.2.2.2.1 a2.2.2.2.2.2.2.2.1 a2.2.2.2.2.2.2.2.2.1 a2.2.2.2.2.2.2.2.2.2.1 (0, (q0, (q1, (q2, (q3, (q4, (q5, (q6, ((List.replicate (Int.toNat y0) ((Bool.false, ([], ([], ()))), ((0 : UInt64), (0, ())))), [])))))))))) fun y1 =>
 .br (!(decide (a1 = 39)))
  (.ex (apply_moved_r_L10_s a1 a4 y1.2.2 (↑(List.length y1.2.1) : Int) a2.1 a2.2.1 a2.2.2.1 a2.2.2.2.1 a2.2.2.2.2.1 a2.2.2.2.2.2.1 a2.2.2.2.2.2.2.1 a2.2.2.2.2.2.2.2.1 a2.2.2.2.2.2.2.2.2.1 a2.2.2.2.2.2.2.2.2.2.1 (0, (y1.1.1, (y1.1.2.1, (y1.1.2.2.1, (y1.1.2.2.2.1, (y1.1.2.2.2.2.1, (y1.1.2.2.2.2.2.1, (y1.1.2.2.2.2.2.2, y1.2.1))))))))) fun y2 =>
  .ret (y2.2, (y2.1.1, (y2.1.2.1, (y2.1.2.2.1, (y2.1.2.2.2.1, (y2.1.2.2.2.2.1, (y2.1.2.2.2.2.2.1, y2.1.2.2.2.2.2.2))))))))
  (.ob ((((0 : Int) ≤ (↑(List.length y1.2.1) : Int)) ∧ (((↑(List.length y1.2.1) : Int) ≤ (↑(List.length y1.2.1) : Int)) ∧ (((↑(List.length y1.2.1) : Int) * (↑1 : Int)) ≤ 140737488355328)))) (
  .ob ((((0 : Int) ≤ 0) ∧ ((0 : Int) < (↑(List.length a4) : Int)))) (
  .ex (apply_moved_r_L18_s (List.getD a4 (Int.toNat 0) default).2.1 (↑(List.length (List.getD a4 (Int.toNat 0) default).2.1) : Int) a2.1 a2.2.1 a2.2.2.1 a2.2.2.2.1 a2.2.2.2.2.1 a2.2.2.2.2.2.1 a2.2.2.2.2.2.2.1 a2.2.2.2.2.2.2.2.1 a2.2.2.2.2.2.2.2.2.1 a2.2.2.2.2.2.2.2.2.2.1 (0, (y1.1.1, (y1.1.2.1, (y1.1.2.2.1, (y1.1.2.2.2.1, (y1.1.2.2.2.2.1, (y1.1.2.2.2.2.2.1, (y1.1.2.2.2.2.2.2, (y1.2.1, (y1.2.2, (List.replicate (Int.toNat (↑(List.length y1.2.1) : Int)) Bool.false)))))))))))) fun y3 =>
  .ex (apply_Filled_s y3.2.1 y3.2.2 y3.1.1 y3.1.2.1 y3.1.2.2.1 y3.1.2.2.2.1 y3.1.2.2.2.2.1 y3.1.2.2.2.2.2.1 y3.1.2.2.2.2.2.2) fun y4 =>
  .no))))
noncomputable def apply_moved_r (a1 : Int) (a2 : AttrD) (a3 : (List Int)) (a4 : (List ArgD)) (q0 : Int) (q1 : Int) (q2 : (List Bool)) (q3 : Int) (q4 : Int) (q5 : Bool) (q6 : Int) : Option (RTs.den [.r 35 valT] × (Int × Int × (List Bool) × Int × Int × Bool × Int)) := (apply_moved_r_T a1 a2 a3 a4 q0 q1 q2 q3 q4 q5 q6).run
theorem apply_moved_r_s (a1 : Int) (a2 : AttrD) (a3 : (List Int)) (a4 : (List ArgD)) (q0 : Int) (q1 : Int) (q2 : (List Bool)) (q3 : Int) (q4 : Int) (q5 : Bool) (q6 : Int) : ∀ y, apply_moved_r a1 a2 a3 a4 q0 q1 q2 q3 q4 q5 q6 = some y → CSem Tryz.prog 86 [.c (.ptr 0 0), Ty.e .i64 a1, Ty.e attrT a2, Ty.e (.slice .i64) a3, Ty.e (.slice argT) a4] (bkB (q0, q1, q2, q3, q4, q5, q6)) (fun v b => v = (outP 1 [.r 35 valT] bkB y).1 ∧ b = (outP 1 [.r 35 valT] bkB y).2) := fun_soundP (H := f86Hr) (fn := Tryz.f86) (by kernel_rfl) (by kernel_rfl) (fun post => by kernel_rfl)
noncomputable def f44Hr : Hint := ⟨fun _ => false, false, fun _ => [], fun _ => [], fun _ => [], fun _ => [], fun _ => [], fun _ => [], some [.r 35 (.pair (.pair .bool (.pair (.slice .u64) (.pair (.slice .u64) .unit))) (.pair .u64 (.pair .i64 .unit))), .d (.slice .i64)], fun g _ _ => if Nat.beq g 83 then Shape.ofP 1 [.d (.slice (.pair (.pair .bool (.pair (.slice .u64) (.pair (.slice .u64) .unit))) (.pair .u64 (.pair .i64 .unit)))), .d (.slice .i64)] bkB else if Nat.beq g 84 then Shape.ofP 1 [.d (.slice (.pair (.pair .bool (.pair (.slice .u64) (.pair (.slice .u64) .unit))) (.pair .u64 (.pair .i64 .unit)))), .d (.slice .i64)] bkB else if Nat.beq g 85 then Shape.ofP 1 [.d (.slice (.pair (.pair .bool (.pair (.slice .u64) (.pair (.slice .u64) .unit))) (.pair .u64 (.pair .i64 .unit))))] bkB else if Nat.beq g 86 then Shape.ofP 1 [.r 35 (.pair (.pair .bool (.pair (.slice .u64) (.pair (.slice .u64) .unit))) (.pair .u64 (.pair .i64 .unit)))] bkB else retOf P g⟩
noncomputable def apply_does_r_T (op1 : Int) (a2 : AttrD) (out3 : (List Int)) (args4 : (List ArgD)) (q0 : Int) (q1 : Int) (q2 : (List Bool)) (q3 : Int) (q4 : Int) (q5 : Bool) (q6 : Int) : Tree (RTs.den [.r 35 valT, .d (.slice .i64)] × (Int × Int × (List Bool) × Int × Int × Bool × Int)) :=
 .ex (prim_Class_s op1) fun y0 =>
 .br (decide (y0 = 1))
  (.ex (each_Do_s op1 a2 out3 args4 q0 q1 q2 q3 q4 q5 q6) fun y1 =>
  .no)
  (.br (decide (y0 = 2))
   (.ob ((((0 : Int) ≤ 0) ∧ ((0 : Int) < (↑(List.length args4) : Int)))) (
   .ex (reduce_Do_s op1 a2 (List.getD args4 (Int.toNat 0) default) q0 q1 q2 q3 q4 q5 q6) fun y2 =>
   .no))
   (.br (decide (y0 = 3))
    (.ob ((((0 : Int) ≤ 0) ∧ ((0 : Int) < (↑(List.length args4) : Int)))) (
    .ob ((((0 : Int) ≤ 1) ∧ ((1 : Int) < (↑(List.length args4) : Int)))) (
    .ex (matmul_Do_s (List.getD args4 (Int.toNat 0) default) (List.getD args4 (Int.toNat 1) default) q0 q1 q2 q3 q4 q5 q6) fun y3 =>
    .no)))
    (.ex (apply_moved_r_s op1 a2 out3 args4 q0 q1 q2 q3 q4 q5 q6) fun y4 =>
    .ret ((y4.1, []), (y4.2.1, (y4.2.2.1, (y4.2.2.2.1, (y4.2.2.2.2.1, (y4.2.2.2.2.2.1, (y4.2.2.2.2.2.2.1, y4.2.2.2.2.2.2.2))))))))))
noncomputable def apply_does_r (op1 : Int) (a2 : AttrD) (out3 : (List Int)) (args4 : (List ArgD)) (q0 : Int) (q1 : Int) (q2 : (List Bool)) (q3 : Int) (q4 : Int) (q5 : Bool) (q6 : Int) : Option (RTs.den [.r 35 valT, .d (.slice .i64)] × (Int × Int × (List Bool) × Int × Int × Bool × Int)) := (apply_does_r_T op1 a2 out3 args4 q0 q1 q2 q3 q4 q5 q6).run
theorem apply_does_r_s (op1 : Int) (a2 : AttrD) (out3 : (List Int)) (args4 : (List ArgD)) (q0 : Int) (q1 : Int) (q2 : (List Bool)) (q3 : Int) (q4 : Int) (q5 : Bool) (q6 : Int) : ∀ y, apply_does_r op1 a2 out3 args4 q0 q1 q2 q3 q4 q5 q6 = some y → CSem Tryz.prog 44 [.c (.ptr 0 0), Ty.e .i64 op1, Ty.e attrT a2, Ty.e (.slice .i64) out3, Ty.e (.slice argT) args4] (bkB (q0, q1, q2, q3, q4, q5, q6)) (fun v b => v = (outP 1 [.r 35 valT, .d (.slice .i64)] bkB y).1 ∧ b = (outP 1 [.r 35 valT, .d (.slice .i64)] bkB y).2) := fun_soundP (H := f44Hr) (fn := Tryz.f44) (by kernel_rfl) (by kernel_rfl) (fun post => by kernel_rfl)
noncomputable def f21H : Hint := ⟨fun g => Nat.beq g 15, false, fun n => lk n [(6, [0, 1, 3, 6, 8, 12, 31, 32, 33]), (14, [0, 1, 3, 6, 8, 15, 54, 55, 56]), (28, [8, 15, 21, 22, 90, 91])], fun _ => [], fun n => lk n [(6, openOf P [(12, 56)])], fun _ => [], fun n => lk n [(28, mores P [(22, 48)])], fun n => lk n [(6, [⟨.exit 0, [0, 1, 3, 6, 8, 12], [12], mores P [], [6, 8]⟩]), (14, [⟨.exit 2, [0, 1, 3, 6, 8, 15], [], mores P [], [6]⟩, ⟨.ret, [8, 9, 10], [], mores P [(9, 48), (10, 39)], [6]⟩]), (28, [⟨.exit 4, [8, 15, 21, 22], [], mores P [], [8]⟩])], resOf P 21, fun g _ _ => if Nat.beq g 13 then Shape.ofP 1 [.d (.pair .i64 (.pair .i64 (.pair .i64 (.pair .i64 (.pair .i64 (.pair .bool (.pair .i64 .unit)))))))] bkB else if Nat.beq g 15 then Shape.ofP 2 [.d .i64] bkD else if Nat.beq g 17 then Shape.ofP 1 [.d .i64] bkB else if Nat.beq g 44 then Shape.ofP 1 [.r 35 (.pair (.pair .bool (.pair (.slice .u64) (.pair (.slice .u64) .unit))) (.pair .u64 (.pair .i64 .unit))), .d (.slice .i64)] bkB else retOf P g⟩
noncomputable def apply_Run_L28_st (p0 p1 : (List Int)) (p2 : Int) (s : (Int × (Int × (Int × ((List Bool) × (Int × (Int × (Bool × (Int × (List ValD)))))))))) : St := ⟨slots 107 [(8, .e (.c (.ptr 1 0))), (15, .e (.c (.sl .i64 p0))), (21, .e (.c (.ref 2))), (22, .e (.c (.sl .i64 p1))), (90, .e (.c (.i64 p2))), (91, .e (.c (.i64 s.1)))], [.cells 76 [.i64 s.2.1, .i64 s.2.2.1, .nils, .sl .bool s.2.2.2.1, .nils, .i64 s.2.2.2.2.1, .i64 s.2.2.2.2.2.1, .bool s.2.2.2.2.2.2.1, .i64 s.2.2.2.2.2.2.2.1], .cells 52 [.nils, .nils], .row 35 valT s.2.2.2.2.2.2.2.2 false]⟩
noncomputable def apply_Run_L28_out (p0 p1 : (List Int)) (p2 : Int) : ((Int × (Int × ((List Bool) × (Int × (Int × (Bool × Int)))))) × (List ValD)) → Exit × St := fun y => ((.exit 4), ⟨slots 107 [(8, .e (.c (.ptr 1 0))), (15, .e (.c (.sl .i64 p0))), (21, .e (.c (.ref 2))), (22, .e (.c (.sl .i64 p1)))], [.cells 76 [.i64 y.1.1, .i64 y.1.2.1, .nils, .sl .bool y.1.2.2.1, .nils, .i64 y.1.2.2.2.1, .i64 y.1.2.2.2.2.1, .bool y.1.2.2.2.2.2.1, .i64 y.1.2.2.2.2.2.2], .cells 52 [.nils, .nils], .row 35 valT y.2 false]⟩)
noncomputable def apply_Run_T28 (p0 p1 : (List Int)) (p2 : Int) (s : (Int × (Int × (Int × ((List Bool) × (Int × (Int × (Bool × (Int × (List ValD)))))))))) : Tree ((Int × (Int × (Int × ((List Bool) × (Int × (Int × (Bool × (Int × (List ValD))))))))) ⊕ ((Int × (Int × ((List Bool) × (Int × (Int × (Bool × Int)))))) × (List ValD))) :=
 .br (decide (s.1 < p2))
  (.ob ((((0 : Int) ≤ s.1) ∧ (s.1 < (↑(List.length s.2.2.2.2.2.2.2.2) : Int)))) (
  .ex (bank_Copy_s (List.getD s.2.2.2.2.2.2.2.2 (Int.toNat s.1) default)) fun y0 =>
  .ob ((((0 : Int) ≤ s.1) ∧ (s.1 < (↑(List.length s.2.2.2.2.2.2.2.2) : Int)))) (
  .ret (.inl ((w64 (s.1 + 1)), (s.2.1, (s.2.2.1, (s.2.2.2.1, (s.2.2.2.2.1, (s.2.2.2.2.2.1, (s.2.2.2.2.2.2.1, (s.2.2.2.2.2.2.2.1, (List.set s.2.2.2.2.2.2.2.2 (Int.toNat s.1) ((y0.1.1, (y0.1.2.1, (y0.1.2.2.1, ()))), (y0.2.1, (y0.2.2.1, ()))))))))))))))))
  (.ret (.inr ((s.2.1, (s.2.2.1, (s.2.2.2.1, (s.2.2.2.2.1, (s.2.2.2.2.2.1, (s.2.2.2.2.2.2.1, s.2.2.2.2.2.2.2.1)))))), s.2.2.2.2.2.2.2.2)))
noncomputable def apply_Run_L28 (p0 p1 : (List Int)) (p2 : Int) (s : (Int × (Int × (Int × ((List Bool) × (Int × (Int × (Bool × (Int × (List ValD)))))))))) : Option ((Int × (Int × ((List Bool) × (Int × (Int × (Bool × Int)))))) × (List ValD)) := iter (fun s => (apply_Run_T28 p0 p1 p2 s).run) F0 s
noncomputable abbrev apply_Run_L28_c : Code := loopOf Tryz.f21 28
theorem apply_Run_L28_s (p0 p1 : (List Int)) (p2 : Int) (s : (Int × (Int × (Int × ((List Bool) × (Int × (Int × (Bool × (Int × (List ValD)))))))))) : ∀ o, apply_Run_L28 p0 p1 p2 s = some o → LpK Tryz.prog f21H 1 28 apply_Run_L28_c (apply_Run_L28_st p0 p1 p2 s) (fun e s' => e = (apply_Run_L28_out p0 p1 p2 o).1 ∧ s' = (apply_Run_L28_out p0 p1 p2 o).2) := fun o => iter_sound (tr := fun s => (apply_Run_T28 p0 p1 p2 s)) (st := fun s => apply_Run_L28_st p0 p1 p2 s) (by kernel_rfl) (fun s K => by kernel_rfl) F0 s o
noncomputable def apply_Run_L14_st (p0 : Int) (p1 : (List ArgD)) (p2 : (List Int)) (p3 : (List ArgD)) (p4 p5 p6 p7 p8 p9 p10 p11 p12 : Int) (p13 : Bool) (p14 : (List Int)) (s : (Int × (Int × (Int × ((List Bool) × (Int × (Int × (Bool × Int)))))))) : St := ⟨slots 107 [(0, .e (.c (.ptr 0 0))), (1, .e (.c (.i64 p0))), (3, .e (.c (.sl argT p1))), (6, .e (.c (.ptr 1 0))), (8, .e (.c (.ptr 2 0))), (15, .e (.c (.sl .i64 p2))), (54, .e (.c (.sl argT p3))), (55, .e (.c (.i64 p4))), (56, .e (.c (.i64 s.1)))], [.cells 76 [.i64 s.2.1, .i64 s.2.2.1, .nils, .sl .bool s.2.2.2.1, .nils, .i64 s.2.2.2.2.1, .i64 s.2.2.2.2.2.1, .bool s.2.2.2.2.2.2.1, .i64 s.2.2.2.2.2.2.2], .cells 50 [.i64 p5, .i64 p6, .i64 p7, .i64 p8, .i64 p9, .i64 p10, .i64 p11, .i64 p12, .bool p13, .sl .i64 p14], .cells 52 [.nils, .nils]]⟩
noncomputable def apply_Run_L14_out (p0 : Int) (p1 : (List ArgD)) (p2 : (List Int)) (p3 : (List ArgD)) (p4 p5 p6 p7 p8 p9 p10 p11 p12 : Int) (p13 : Bool) (p14 : (List Int)) : ((Int × (Int × ((List Bool) × (Int × (Int × (Bool × Int)))))) ⊕ (((List Int) × Int) × (Int × (Int × ((List Bool) × (Int × (Int × (Bool × Int)))))))) → Exit × St := fun y => match y with
  | (.inl y) => ((.exit 2), ⟨slots 107 [(0, .e (.c (.ptr 0 0))), (1, .e (.c (.i64 p0))), (3, .e (.c (.sl argT p1))), (6, .e (.c (.ptr 1 0))), (8, .e (.c (.ptr 2 0))), (15, .e (.c (.sl .i64 p2)))], [.cells 76 [.i64 y.1, .i64 y.2.1, .nils, .sl .bool y.2.2.1, .nils, .i64 y.2.2.2.1, .i64 y.2.2.2.2.1, .bool y.2.2.2.2.2.1, .i64 y.2.2.2.2.2.2], .cells 50 [.i64 p5, .i64 p6, .i64 p7, .i64 p8, .i64 p9, .i64 p10, .i64 p11, .i64 p12, .bool p13, .sl .i64 p14], .cells 52 [.nils, .nils]]⟩)
  | (.inr y) => (.ret, ⟨slots 107 [(8, .e (.c (.ptr 1 0))), (9, .e (.c (.sl .i64 y.1.1))), (10, .e (.c (.i64 y.1.2)))], [.cells 76 [.i64 y.2.1, .i64 y.2.2.1, .nils, .sl .bool y.2.2.2.1, .nils, .i64 y.2.2.2.2.1, .i64 y.2.2.2.2.2.1, .bool y.2.2.2.2.2.2.1, .i64 y.2.2.2.2.2.2.2], .cells 52 [.nils, .nils]]⟩)
noncomputable def apply_Run_T14 (p0 : Int) (p1 : (List ArgD)) (p2 : (List Int)) (p3 : (List ArgD)) (p4 p5 p6 p7 p8 p9 p10 p11 p12 : Int) (p13 : Bool) (p14 : (List Int)) (s : (Int × (Int × (Int × ((List Bool) × (Int × (Int × (Bool × Int)))))))) : Tree ((Int × (Int × (Int × ((List Bool) × (Int × (Int × (Bool × Int))))))) ⊕ ((Int × (Int × ((List Bool) × (Int × (Int × (Bool × Int)))))) ⊕ (((List Int) × Int) × (Int × (Int × ((List Bool) × (Int × (Int × (Bool × Int))))))))) :=
 .br (decide (s.1 < p4))
  (.ob ((((0 : Int) ≤ s.1) ∧ (s.1 < (↑(List.length p3) : Int)))) (
  .ex (apply_Whole_s (List.getD p3 (Int.toNat s.1) default)) fun y0 =>
  .br (!(decide (y0 = 0)))
   (.ret (.inr (.inr (([], y0), s.2))))
   (.ret (.inl ((w64 (s.1 + 1)), (s.2.1, (s.2.2.1, (s.2.2.2.1, (s.2.2.2.2.1, (s.2.2.2.2.2.1, (s.2.2.2.2.2.2.1, s.2.2.2.2.2.2.2)))))))))))
  (.ret (.inr (.inl s.2)))
noncomputable def apply_Run_L14 (p0 : Int) (p1 : (List ArgD)) (p2 : (List Int)) (p3 : (List ArgD)) (p4 p5 p6 p7 p8 p9 p10 p11 p12 : Int) (p13 : Bool) (p14 : (List Int)) (s : (Int × (Int × (Int × ((List Bool) × (Int × (Int × (Bool × Int)))))))) : Option ((Int × (Int × ((List Bool) × (Int × (Int × (Bool × Int)))))) ⊕ (((List Int) × Int) × (Int × (Int × ((List Bool) × (Int × (Int × (Bool × Int)))))))) := iter (fun s => (apply_Run_T14 p0 p1 p2 p3 p4 p5 p6 p7 p8 p9 p10 p11 p12 p13 p14 s).run) F0 s
noncomputable abbrev apply_Run_L14_c : Code := loopOf Tryz.f21 14
theorem apply_Run_L14_s (p0 : Int) (p1 : (List ArgD)) (p2 : (List Int)) (p3 : (List ArgD)) (p4 p5 p6 p7 p8 p9 p10 p11 p12 : Int) (p13 : Bool) (p14 : (List Int)) (s : (Int × (Int × (Int × ((List Bool) × (Int × (Int × (Bool × Int)))))))) : ∀ o, apply_Run_L14 p0 p1 p2 p3 p4 p5 p6 p7 p8 p9 p10 p11 p12 p13 p14 s = some o → LpK Tryz.prog f21H 1 14 apply_Run_L14_c (apply_Run_L14_st p0 p1 p2 p3 p4 p5 p6 p7 p8 p9 p10 p11 p12 p13 p14 s) (fun e s' => e = (apply_Run_L14_out p0 p1 p2 p3 p4 p5 p6 p7 p8 p9 p10 p11 p12 p13 p14 o).1 ∧ s' = (apply_Run_L14_out p0 p1 p2 p3 p4 p5 p6 p7 p8 p9 p10 p11 p12 p13 p14 o).2) := fun o => iter_sound (tr := fun s => (apply_Run_T14 p0 p1 p2 p3 p4 p5 p6 p7 p8 p9 p10 p11 p12 p13 p14 s)) (st := fun s => apply_Run_L14_st p0 p1 p2 p3 p4 p5 p6 p7 p8 p9 p10 p11 p12 p13 p14 s) (by kernel_rfl) (fun s K => by kernel_rfl) F0 s o
noncomputable def apply_Run_L6_st (p0 : Int) (p1 p2 : (List ArgD)) (p3 p4 p5 p6 p7 p8 p9 p10 p11 : Int) (p12 : Bool) (p13 : (List Int)) (s : (Int × (Int × (Int × ((List Bool) × (Int × (Int × (Bool × (Int × (List (List Int))))))))))) : St := ⟨slots 107 [(0, .e (.c (.ptr 0 0))), (1, .e (.c (.i64 p0))), (3, .e (.c (.sl argT p1))), (6, .e (.c (.ptr 1 0))), (8, .e (.c (.ptr 2 0))), (12, .e (.c (.ref 3))), (31, .e (.c (.sl argT p2))), (32, .e (.c (.i64 p3))), (33, .e (.c (.i64 s.1)))], [.cells 76 [.i64 s.2.1, .i64 s.2.2.1, .nils, .sl .bool s.2.2.2.1, .nils, .i64 s.2.2.2.2.1, .i64 s.2.2.2.2.2.1, .bool s.2.2.2.2.2.2.1, .i64 s.2.2.2.2.2.2.2.1], .cells 50 [.i64 p4, .i64 p5, .i64 p6, .i64 p7, .i64 p8, .i64 p9, .i64 p10, .i64 p11, .bool p12, .sl .i64 p13], .cells 52 [.nils, .nils], .row 48 (.slice .i64) s.2.2.2.2.2.2.2.2 false]⟩
noncomputable def apply_Run_L6_out (p0 : Int) (p1 p2 : (List ArgD)) (p3 p4 p5 p6 p7 p8 p9 p10 p11 : Int) (p12 : Bool) (p13 : (List Int)) : ((Int × (Int × ((List Bool) × (Int × (Int × (Bool × Int)))))) × (List (List Int))) → Exit × St := fun y => ((.exit 0), ⟨slots 107 [(0, .e (.c (.ptr 0 0))), (1, .e (.c (.i64 p0))), (3, .e (.c (.sl argT p1))), (6, .e (.c (.ptr 1 0))), (8, .e (.c (.ptr 2 0))), (12, .e (.c (.ref 3)))], [.cells 76 [.i64 y.1.1, .i64 y.1.2.1, .nils, .sl .bool y.1.2.2.1, .nils, .i64 y.1.2.2.2.1, .i64 y.1.2.2.2.2.1, .bool y.1.2.2.2.2.2.1, .i64 y.1.2.2.2.2.2.2], .cells 50 [.i64 p4, .i64 p5, .i64 p6, .i64 p7, .i64 p8, .i64 p9, .i64 p10, .i64 p11, .bool p12, .sl .i64 p13], .cells 52 [.nils, .nils], .row 48 (.slice .i64) y.2 false]⟩)
noncomputable def apply_Run_T6 (p0 : Int) (p1 p2 : (List ArgD)) (p3 p4 p5 p6 p7 p8 p9 p10 p11 : Int) (p12 : Bool) (p13 : (List Int)) (s : (Int × (Int × (Int × ((List Bool) × (Int × (Int × (Bool × (Int × (List (List Int))))))))))) : Tree ((Int × (Int × (Int × ((List Bool) × (Int × (Int × (Bool × (Int × (List (List Int)))))))))) ⊕ ((Int × (Int × ((List Bool) × (Int × (Int × (Bool × Int)))))) × (List (List Int)))) :=
 .br (decide (s.1 < p3))
  (.ob ((((0 : Int) ≤ s.1) ∧ (s.1 < (↑(List.length p2) : Int)))) (
  .ob (((((List.length s.2.2.2.2.2.2.2.2) + 1) * 24) ≤ 140737488355328)) (
  .ret (.inl ((w64 (s.1 + 1)), (s.2.1, (s.2.2.1, (s.2.2.2.1, (s.2.2.2.2.1, (s.2.2.2.2.2.1, (s.2.2.2.2.2.2.1, (s.2.2.2.2.2.2.2.1, (s.2.2.2.2.2.2.2.2 ++ ((List.getD p2 (Int.toNat s.1) default).1 :: []))))))))))))))
  (.ret (.inr ((s.2.1, (s.2.2.1, (s.2.2.2.1, (s.2.2.2.2.1, (s.2.2.2.2.2.1, (s.2.2.2.2.2.2.1, s.2.2.2.2.2.2.2.1)))))), s.2.2.2.2.2.2.2.2)))
noncomputable def apply_Run_L6 (p0 : Int) (p1 p2 : (List ArgD)) (p3 p4 p5 p6 p7 p8 p9 p10 p11 : Int) (p12 : Bool) (p13 : (List Int)) (s : (Int × (Int × (Int × ((List Bool) × (Int × (Int × (Bool × (Int × (List (List Int))))))))))) : Option ((Int × (Int × ((List Bool) × (Int × (Int × (Bool × Int)))))) × (List (List Int))) := iter (fun s => (apply_Run_T6 p0 p1 p2 p3 p4 p5 p6 p7 p8 p9 p10 p11 p12 p13 s).run) F0 s
noncomputable abbrev apply_Run_L6_c : Code := loopOf Tryz.f21 6
theorem apply_Run_L6_s (p0 : Int) (p1 p2 : (List ArgD)) (p3 p4 p5 p6 p7 p8 p9 p10 p11 : Int) (p12 : Bool) (p13 : (List Int)) (s : (Int × (Int × (Int × ((List Bool) × (Int × (Int × (Bool × (Int × (List (List Int))))))))))) : ∀ o, apply_Run_L6 p0 p1 p2 p3 p4 p5 p6 p7 p8 p9 p10 p11 p12 p13 s = some o → LpK Tryz.prog f21H 1 6 apply_Run_L6_c (apply_Run_L6_st p0 p1 p2 p3 p4 p5 p6 p7 p8 p9 p10 p11 p12 p13 s) (fun e s' => e = (apply_Run_L6_out p0 p1 p2 p3 p4 p5 p6 p7 p8 p9 p10 p11 p12 p13 o).1 ∧ s' = (apply_Run_L6_out p0 p1 p2 p3 p4 p5 p6 p7 p8 p9 p10 p11 p12 p13 o).2) := fun o => iter_sound (tr := fun s => (apply_Run_T6 p0 p1 p2 p3 p4 p5 p6 p7 p8 p9 p10 p11 p12 p13 s)) (st := fun s => apply_Run_L6_st p0 p1 p2 p3 p4 p5 p6 p7 p8 p9 p10 p11 p12 p13 s) (by kernel_rfl) (fun s K => by kernel_rfl) F0 s o
noncomputable def apply_Run_T (a1 : Int) (a2 : AttrD) (a3 : (List ArgD)) (q0 : Int) (q1 : Int) (q2 : (List Bool)) (q3 : Int) (q4 : Int) (q5 : Bool) (q6 : Int) : Tree (RTs.den [.d argT, .d (.slice .i64), .d .i64] × (Int × Int × (List Bool) × Int × Int × Bool × Int)) :=
 .ex (bank_Bank_Err_s q0 q1 q2 q3 q4 q5 q6) fun y0 =>
 .br (!(decide (y0.1 = 0)))
  (.ret ((([], ([], ())), ([], y0.1)), (y0.2.1, (y0.2.2.1, (y0.2.2.2.1, (y0.2.2.2.2.1, (y0.2.2.2.2.2.1, (y0.2.2.2.2.2.2.1, y0.2.2.2.2.2.2.2))))))))
  (.ex (apply_Run_L6_s a1 a3 a3 (↑(List.length a3) : Int) a2.1 a2.2.1 a2.2.2.1 a2.2.2.2.1 a2.2.2.2.2.1 a2.2.2.2.2.2.1 a2.2.2.2.2.2.2.1 a2.2.2.2.2.2.2.2.1 a2.2.2.2.2.2.2.2.2.1 a2.2.2.2.2.2.2.2.2.2.1 (0, (y0.2.1, (y0.2.2.1, (y0.2.2.2.1, (y0.2.2.2.2.1, (y0.2.2.2.2.2.1, (y0.2.2.2.2.2.2.1, (y0.2.2.2.2.2.2.2, []))))))))) fun y1 =>
  .ex (infer_Dims_s a1 a2 y1.2) fun y2 =>
  .br (!(decide (y2.2 = 0)))
   (.ret ((([], ([], ())), ([], y2.2)), (y1.1.1, (y1.1.2.1, (y1.1.2.2.1, (y1.1.2.2.2.1, (y1.1.2.2.2.2.1, (y1.1.2.2.2.2.2.1, y1.1.2.2.2.2.2.2))))))))
   (.alt (isL (apply_Run_L14 a1 a3 y2.1 a3 (↑(List.length a3) : Int) a2.1 a2.2.1 a2.2.2.1 a2.2.2.2.1 a2.2.2.2.2.1 a2.2.2.2.2.2.1 a2.2.2.2.2.2.2.1 a2.2.2.2.2.2.2.2.1 a2.2.2.2.2.2.2.2.2.1 a2.2.2.2.2.2.2.2.2.2.1 (0, (y1.1.1, (y1.1.2.1, (y1.1.2.2.1, (y1.1.2.2.2.1, (y1.1.2.2.2.2.1, (y1.1.2.2.2.2.2.1, y1.1.2.2.2.2.2.2)))))))))
    (.ex (s_l (apply_Run_L14_s a1 a3 y2.1 a3 (↑(List.length a3) : Int) a2.1 a2.2.1 a2.2.2.1 a2.2.2.2.1 a2.2.2.2.2.1 a2.2.2.2.2.2.1 a2.2.2.2.2.2.2.1 a2.2.2.2.2.2.2.2.1 a2.2.2.2.2.2.2.2.2.1 a2.2.2.2.2.2.2.2.2.2.1 (0, (y1.1.1, (y1.1.2.1, (y1.1.2.2.1, (y1.1.2.2.2.1, (y1.1.2.2.2.2.1, (y1.1.2.2.2.2.2.1, y1.1.2.2.2.2.2.2))))))))) fun y3 =>
    .ex (bank_Bank_Mark_s y3.1 y3.2.1 y3.2.2.1 y3.2.2.2.1 y3.2.2.2.2.1 y3.2.2.2.2.2.1 y3.2.2.2.2.2.2) fun y4 =>
   .ex (apply_does_r_s a1 a2 y2.1 a3 y4.2.1 y4.2.2.1 y4.2.2.2.1 y4.2.2.2.2.1 y4.2.2.2.2.2.1 y4.2.2.2.2.2.2.1 y4.2.2.2.2.2.2.2) fun y5 =>
   .ex (apply_Done_s y4.1 y5.2.1 y5.2.2.1 y5.2.2.2.1 y5.2.2.2.2.1 y5.2.2.2.2.2.1 y5.2.2.2.2.2.2.1 y5.2.2.2.2.2.2.2 y5.1.1) fun y6 =>
   .br (!(decide (y6.1 = 0)))
    (.ret ((([], ([], ())), ([], y6.1)), (y6.2.1, (y6.2.2.1, (y6.2.2.2.1, (y6.2.2.2.2.1, (y6.2.2.2.2.2.1, (y6.2.2.2.2.2.2.1, y6.2.2.2.2.2.2.2.1))))))))
    (.ex (prim_Picks_s a1) fun y7 =>
    .br (!y7)
     (.ex (apply_Run_L28_s y2.1 [] (↑(List.length y6.2.2.2.2.2.2.2.2) : Int) (0, (y6.2.1, (y6.2.2.1, (y6.2.2.2.1, (y6.2.2.2.2.1, (y6.2.2.2.2.2.1, (y6.2.2.2.2.2.2.1, (y6.2.2.2.2.2.2.2.1, y6.2.2.2.2.2.2.2.2))))))))) fun y8 =>
     .ret (((y2.1, (y8.2, ())), ([], 0)), (y8.1.1, (y8.1.2.1, (y8.1.2.2.1, (y8.1.2.2.2.1, (y8.1.2.2.2.2.1, (y8.1.2.2.2.2.2.1, y8.1.2.2.2.2.2.2))))))))
     (.ex (apply_Run_L28_s y2.1 y5.1.2 (↑(List.length y6.2.2.2.2.2.2.2.2) : Int) (0, (y6.2.1, (y6.2.2.1, (y6.2.2.2.1, (y6.2.2.2.2.1, (y6.2.2.2.2.2.1, (y6.2.2.2.2.2.2.1, (y6.2.2.2.2.2.2.2.1, y6.2.2.2.2.2.2.2.2))))))))) fun y9 =>
     .ret (((y2.1, (y9.2, ())), (y5.1.2, 0)), (y9.1.1, (y9.1.2.1, (y9.1.2.2.1, (y9.1.2.2.2.1, (y9.1.2.2.2.2.1, (y9.1.2.2.2.2.2.1, y9.1.2.2.2.2.2.2))))))))))
    (.ex (s_r (apply_Run_L14_s a1 a3 y2.1 a3 (↑(List.length a3) : Int) a2.1 a2.2.1 a2.2.2.1 a2.2.2.2.1 a2.2.2.2.2.1 a2.2.2.2.2.2.1 a2.2.2.2.2.2.2.1 a2.2.2.2.2.2.2.2.1 a2.2.2.2.2.2.2.2.2.1 a2.2.2.2.2.2.2.2.2.2.1 (0, (y1.1.1, (y1.1.2.1, (y1.1.2.2.1, (y1.1.2.2.2.1, (y1.1.2.2.2.2.1, (y1.1.2.2.2.2.2.1, y1.1.2.2.2.2.2.2))))))))) fun y10 =>
    .ret ((([], ([], ())), (y10.1.1, y10.1.2)), (y10.2.1, (y10.2.2.1, (y10.2.2.2.1, (y10.2.2.2.2.1, (y10.2.2.2.2.2.1, (y10.2.2.2.2.2.2.1, y10.2.2.2.2.2.2.2))))))))))
noncomputable def apply_Run (a1 : Int) (a2 : AttrD) (a3 : (List ArgD)) (q0 : Int) (q1 : Int) (q2 : (List Bool)) (q3 : Int) (q4 : Int) (q5 : Bool) (q6 : Int) : Option (RTs.den [.d argT, .d (.slice .i64), .d .i64] × (Int × Int × (List Bool) × Int × Int × Bool × Int)) := (apply_Run_T a1 a2 a3 q0 q1 q2 q3 q4 q5 q6).run
theorem apply_Run_s (a1 : Int) (a2 : AttrD) (a3 : (List ArgD)) (q0 : Int) (q1 : Int) (q2 : (List Bool)) (q3 : Int) (q4 : Int) (q5 : Bool) (q6 : Int) : ∀ y, apply_Run a1 a2 a3 q0 q1 q2 q3 q4 q5 q6 = some y → CSem Tryz.prog 21 [.c (.ptr 0 0), Ty.e .i64 a1, Ty.e attrT a2, Ty.e (.slice argT) a3] (bkB (q0, q1, q2, q3, q4, q5, q6)) (fun v b => v = (outP 1 [.d argT, .d (.slice .i64), .d .i64] bkB y).1 ∧ b = (outP 1 [.d argT, .d (.slice .i64), .d .i64] bkB y).2) := fun_soundP (H := f21H) (fn := Tryz.f21) (by kernel_rfl) (by kernel_rfl) (fun post => by kernel_rfl)
noncomputable def f54H : Hint := ⟨fun _ => false, false, fun n => lk n [(5, [0, 3, 9, 10])], fun _ => [], fun _ => [], fun _ => [], fun _ => [], fun n => lk n [(5, [⟨.exit 0, [3], [3], mores P [], []⟩])], resOf P 54, fun g _ _ => retOf P g⟩
noncomputable def ref19_Count_L5_st (p0 : (List Int)) (p1 : Int) (s : (Int × Int)) : St := ⟨slots 21 [(0, .e (.c (.sl .i64 p0))), (3, .e (.c (.i64 s.1))), (9, .e (.c (.i64 p1))), (10, .e (.c (.i64 s.2)))], []⟩
noncomputable def ref19_Count_L5_out (p0 : (List Int)) (p1 : Int) : Int → Exit × St := fun y => ((.exit 0), ⟨slots 21 [(3, .e (.c (.i64 y)))], []⟩)
noncomputable def ref19_Count_T5 (p0 : (List Int)) (p1 : Int) (s : (Int × Int)) : Tree ((Int × Int) ⊕ Int) :=
 .br (decide (s.2 < p1))
  (.ob ((((0 : Int) ≤ s.2) ∧ (s.2 < (↑(List.length p0) : Int)))) (
  .ret (.inl ((w64 (s.1 * (List.getD p0 (Int.toNat s.2) default))), (w64 (s.2 + 1))))))
  (.ret (.inr s.1))
noncomputable def ref19_Count_L5 (p0 : (List Int)) (p1 : Int) (s : (Int × Int)) : Option Int := iter (fun s => (ref19_Count_T5 p0 p1 s).run) F0 s
noncomputable abbrev ref19_Count_L5_c : Code := loopOf Tryz.f54 5
theorem ref19_Count_L5_s (p0 : (List Int)) (p1 : Int) (s : (Int × Int)) : ∀ o, ref19_Count_L5 p0 p1 s = some o → LpK Tryz.prog f54H 0 5 ref19_Count_L5_c (ref19_Count_L5_st p0 p1 s) (fun e s' => e = (ref19_Count_L5_out p0 p1 o).1 ∧ s' = (ref19_Count_L5_out p0 p1 o).2) := fun o => iter_sound (tr := fun s => (ref19_Count_T5 p0 p1 s)) (st := fun s => ref19_Count_L5_st p0 p1 s) (by kernel_rfl) (fun s K => by kernel_rfl) F0 s o
noncomputable def ref19_Count_T (d0 : (List Int)) : Tree (RTs.den [.d .i64]) :=
 .ex (ref19_Check_s d0) fun y0 =>
 .br (!(decide (y0 = 0)))
  (.ret 0)
  (.ex (ref19_Count_L5_s d0 (↑(List.length d0) : Int) (1, 0)) fun y1 =>
  .ret y1)
noncomputable def ref19_Count (d0 : (List Int)) : Option (RTs.den [.d .i64]) := (ref19_Count_T d0).run
theorem ref19_Count_s (d0 : (List Int)) : ∀ y, ref19_Count d0 = some y → CSem Tryz.prog 54 [Ty.e (.slice .i64) d0] [] (fun v b => v = (RTs.shape [.d .i64] y).1 ∧ b = (RTs.shape [.d .i64] y).2) := fun_sound (H := f54H) (fn := Tryz.f54) (by kernel_rfl) (by kernel_rfl) (fun post => by kernel_rfl)
noncomputable def f24H : Hint := ⟨fun _ => false, false, fun _ => [], fun _ => [], fun _ => [], fun _ => [], fun _ => [], fun _ => [], resOf P 24, fun g _ _ => retOf P g⟩
noncomputable def ref32_Whole_T (a0 : ArgD) : Tree (RTs.den [.d .bool]) :=
 .ex (ref19_Count_s a0.1) fun y0 =>
 .ret (decide ((↑(List.length a0.2.1) : Int) = y0))
noncomputable def ref32_Whole (a0 : ArgD) : Option (RTs.den [.d .bool]) := (ref32_Whole_T a0).run
theorem ref32_Whole_s (a0 : ArgD) : ∀ y, ref32_Whole a0 = some y → CSem Tryz.prog 24 [Ty.e argT a0] [] (fun v b => v = (RTs.shape [.d .bool] y).1 ∧ b = (RTs.shape [.d .bool] y).2) := fun_sound (H := f24H) (fn := Tryz.f24) (by kernel_rfl) (by kernel_rfl) (fun post => by kernel_rfl)
noncomputable def f55H : Hint := ⟨fun _ => false, false, fun n => lk n [(5, [0, 3, 14, 15]), (9, [0, 3, 4, 5, 14, 15, 19, 20]), (12, [0, 3, 4, 5, 6, 14, 15, 19, 20, 26, 27])], fun _ => [], fun n => lk n [(5, openOf P [(3, 56)]), (9, openOf P [(5, 56)]), (12, openOf P [(5, 56)])], fun _ => [], fun _ => [], fun n => lk n [(5, [⟨.exit 0, [3], [3], mores P [], []⟩]), (9, [⟨.exit 2, [0, 5, 14, 15], [5], mores P [], []⟩]), (12, [⟨.exit 4, [0, 3, 4, 5, 14, 15, 19, 20], [5], mores P [], []⟩])], resOf P 55, fun g _ _ => retOf P g⟩
noncomputable def ref20_All_L12_st (p0 : (List Int)) (p1 p2 p3 p4 p5 p6 p7 : Int) (s : (Int × ((List (List Int)) × (List (List Int))))) : St := ⟨slots 47 [(0, .e (.c (.sl .i64 p0))), (3, .e (.c (.ref 0))), (4, .e (.c (.i64 p1))), (5, .e (.c (.ref 1))), (6, .e (.c (.i64 p2))), (14, .e (.c (.i64 p3))), (15, .e (.c (.i64 p4))), (19, .e (.c (.i64 p5))), (20, .e (.c (.i64 p6))), (26, .e (.c (.i64 p7))), (27, .e (.c (.i64 s.1)))], [.row 48 (.slice .i64) s.2.1 false, .row 48 (.slice .i64) s.2.2 false]⟩
noncomputable def ref20_All_L12_out (p0 : (List Int)) (p1 p2 p3 p4 p5 p6 p7 : Int) : ((List (List Int)) × (List (List Int))) → Exit × St := fun y => ((.exit 4), ⟨slots 47 [(0, .e (.c (.sl .i64 p0))), (3, .e (.c (.ref 0))), (4, .e (.c (.i64 p1))), (5, .e (.c (.ref 1))), (14, .e (.c (.i64 p3))), (15, .e (.c (.i64 p4))), (19, .e (.c (.i64 p5))), (20, .e (.c (.i64 p6)))], [.row 48 (.slice .i64) y.1 false, .row 48 (.slice .i64) y.2 false]⟩)
noncomputable def ref20_All_T12 (p0 : (List Int)) (p1 p2 p3 p4 p5 p6 p7 : Int) (s : (Int × ((List (List Int)) × (List (List Int))))) : Tree ((Int × ((List (List Int)) × (List (List Int)))) ⊕ ((List (List Int)) × (List (List Int)))) :=
 .br (decide (s.1 < p7))
  (.ob ((((0 : Int) ≤ p2) ∧ (p2 < (↑(List.length s.2.1) : Int)))) (
  .ob ((((0 + (List.length (List.getD s.2.1 (Int.toNat p2) default))) * 8) ≤ 140737488355328)) (
  .ob (((((List.length (List.getD s.2.1 (Int.toNat p2) default)) + 1) * 8) ≤ 140737488355328)) (
  .ob (((((List.length s.2.2) + 1) * 24) ≤ 140737488355328)) (
  .ret (.inl ((w64 (s.1 + 1)), (s.2.1, (s.2.2 ++ (((List.getD s.2.1 (Int.toNat p2) default) ++ (s.1 :: [])) :: []))))))))))
  (.ret (.inr s.2))
noncomputable def ref20_All_L12 (p0 : (List Int)) (p1 p2 p3 p4 p5 p6 p7 : Int) (s : (Int × ((List (List Int)) × (List (List Int))))) : Option ((List (List Int)) × (List (List Int))) := iter (fun s => (ref20_All_T12 p0 p1 p2 p3 p4 p5 p6 p7 s).run) F0 s
noncomputable abbrev ref20_All_L12_c : Code := loopOf Tryz.f55 12
theorem ref20_All_L12_s (p0 : (List Int)) (p1 p2 p3 p4 p5 p6 p7 : Int) (s : (Int × ((List (List Int)) × (List (List Int))))) : ∀ o, ref20_All_L12 p0 p1 p2 p3 p4 p5 p6 p7 s = some o → LpK Tryz.prog f55H 0 12 ref20_All_L12_c (ref20_All_L12_st p0 p1 p2 p3 p4 p5 p6 p7 s) (fun e s' => e = (ref20_All_L12_out p0 p1 p2 p3 p4 p5 p6 p7 o).1 ∧ s' = (ref20_All_L12_out p0 p1 p2 p3 p4 p5 p6 p7 o).2) := fun o => iter_sound (tr := fun s => (ref20_All_T12 p0 p1 p2 p3 p4 p5 p6 p7 s)) (st := fun s => ref20_All_L12_st p0 p1 p2 p3 p4 p5 p6 p7 s) (by kernel_rfl) (fun s K => by kernel_rfl) F0 s o
noncomputable def ref20_All_L9_st (p0 : (List Int)) (p1 p2 p3 p4 : Int) (s : (Int × ((List (List Int)) × (List (List Int))))) : St := ⟨slots 47 [(0, .e (.c (.sl .i64 p0))), (3, .e (.c (.ref 0))), (4, .e (.c (.i64 p1))), (5, .e (.c (.ref 1))), (14, .e (.c (.i64 p2))), (15, .e (.c (.i64 p3))), (19, .e (.c (.i64 p4))), (20, .e (.c (.i64 s.1)))], [.row 48 (.slice .i64) s.2.1 false, .row 48 (.slice .i64) s.2.2 false]⟩
noncomputable def ref20_All_L9_out (p0 : (List Int)) (p1 p2 p3 p4 : Int) : (List (List Int)) → Exit × St := fun y => ((.exit 2), ⟨slots 47 [(0, .e (.c (.sl .i64 p0))), (5, .e (.c (.ref 0))), (14, .e (.c (.i64 p2))), (15, .e (.c (.i64 p3)))], [.row 48 (.slice .i64) y false]⟩)
noncomputable def ref20_All_T9 (p0 : (List Int)) (p1 p2 p3 p4 : Int) (s : (Int × ((List (List Int)) × (List (List Int))))) : Tree ((Int × ((List (List Int)) × (List (List Int)))) ⊕ (List (List Int))) :=
 .br (decide (s.1 < p4))
  (.ob ((((0 : Int) ≤ p1) ∧ (p1 < (↑(List.length p0) : Int)))) (
  .ex (ref20_All_L12_s p0 p1 s.1 p2 p3 p4 s.1 (List.getD p0 (Int.toNat p1) default) (0, (s.2.1, s.2.2))) fun y0 =>
  .ret (.inl ((w64 (s.1 + 1)), (y0.1, y0.2)))))
  (.ret (.inr s.2.2))
noncomputable def ref20_All_L9 (p0 : (List Int)) (p1 p2 p3 p4 : Int) (s : (Int × ((List (List Int)) × (List (List Int))))) : Option (List (List Int)) := iter (fun s => (ref20_All_T9 p0 p1 p2 p3 p4 s).run) F0 s
noncomputable abbrev ref20_All_L9_c : Code := loopOf Tryz.f55 9
theorem ref20_All_L9_s (p0 : (List Int)) (p1 p2 p3 p4 : Int) (s : (Int × ((List (List Int)) × (List (List Int))))) : ∀ o, ref20_All_L9 p0 p1 p2 p3 p4 s = some o → LpK Tryz.prog f55H 0 9 ref20_All_L9_c (ref20_All_L9_st p0 p1 p2 p3 p4 s) (fun e s' => e = (ref20_All_L9_out p0 p1 p2 p3 p4 o).1 ∧ s' = (ref20_All_L9_out p0 p1 p2 p3 p4 o).2) := fun o => iter_sound (tr := fun s => (ref20_All_T9 p0 p1 p2 p3 p4 s)) (st := fun s => ref20_All_L9_st p0 p1 p2 p3 p4 s) (by kernel_rfl) (fun s K => by kernel_rfl) F0 s o
noncomputable def ref20_All_L5_st (p0 : (List Int)) (p1 : Int) (s : (Int × (List (List Int)))) : St := ⟨slots 47 [(0, .e (.c (.sl .i64 p0))), (3, .e (.c (.ref 0))), (14, .e (.c (.i64 p1))), (15, .e (.c (.i64 s.1)))], [.row 48 (.slice .i64) s.2 false]⟩
noncomputable def ref20_All_L5_out (p0 : (List Int)) (p1 : Int) : (List (List Int)) → Exit × St := fun y => ((.exit 0), ⟨slots 47 [(3, .e (.c (.ref 0)))], [.row 48 (.slice .i64) y false]⟩)
noncomputable def ref20_All_T5 (p0 : (List Int)) (p1 : Int) (s : (Int × (List (List Int)))) : Tree ((Int × (List (List Int))) ⊕ (List (List Int))) :=
 .br (decide (s.1 < p1))
  (.ex (ref20_All_L9_s p0 s.1 p1 s.1 (↑(List.length s.2) : Int) (0, (s.2, []))) fun y0 =>
  .ret (.inl ((w64 (s.1 + 1)), y0)))
  (.ret (.inr s.2))
noncomputable def ref20_All_L5 (p0 : (List Int)) (p1 : Int) (s : (Int × (List (List Int)))) : Option (List (List Int)) := iter (fun s => (ref20_All_T5 p0 p1 s).run) F0 s
noncomputable abbrev ref20_All_L5_c : Code := loopOf Tryz.f55 5
theorem ref20_All_L5_s (p0 : (List Int)) (p1 : Int) (s : (Int × (List (List Int)))) : ∀ o, ref20_All_L5 p0 p1 s = some o → LpK Tryz.prog f55H 0 5 ref20_All_L5_c (ref20_All_L5_st p0 p1 s) (fun e s' => e = (ref20_All_L5_out p0 p1 o).1 ∧ s' = (ref20_All_L5_out p0 p1 o).2) := fun o => iter_sound (tr := fun s => (ref20_All_T5 p0 p1 s)) (st := fun s => ref20_All_L5_st p0 p1 s) (by kernel_rfl) (fun s K => by kernel_rfl) F0 s o
noncomputable def ref20_All_T (d0 : (List Int)) : Tree (RTs.den [.d (.slice (.slice .i64))]) :=
 .ex (ref19_Check_s d0) fun y0 =>
 .br (!(decide (y0 = 0)))
  (.ret [])
  (.ex (ref20_All_L5_s d0 (↑(List.length d0) : Int) (0, ([] :: []))) fun y1 =>
  .ret y1)
noncomputable def ref20_All (d0 : (List Int)) : Option (RTs.den [.d (.slice (.slice .i64))]) := (ref20_All_T d0).run
theorem ref20_All_s (d0 : (List Int)) : ∀ y, ref20_All d0 = some y → CSem Tryz.prog 55 [Ty.e (.slice .i64) d0] [] (fun v b => v = (RTs.shape [.d (.slice (.slice .i64))] y).1 ∧ b = (RTs.shape [.d (.slice (.slice .i64))] y).2) := fun_sound (H := f55H) (fn := Tryz.f55) (by kernel_rfl) (by kernel_rfl) (fun post => by kernel_rfl)
noncomputable def f25H : Hint := ⟨fun _ => false, false, fun n => lk n [(4, [1, 2, 41, 42]), (12, [1, 2, 6, 7, 75, 76]), (16, [1, 2, 6, 7, 8, 9, 75, 76, 85, 86])], fun _ => [], fun n => lk n [(12, openOf P [(7, 48)])], fun _ => [], fun _ => [], fun n => lk n [(4, [⟨.exit 0, [1, 2], [], mores P [], [2]⟩, ⟨.ret, [4], [], mores P [(4, 48)], [2]⟩]), (12, [⟨.exit 2, [7], [7], mores P [], [2]⟩, ⟨.ret, [4], [], mores P [(4, 48)], [2]⟩]), (16, [⟨.exit 4, [1, 2, 6, 7, 9, 75, 76], [9], mores P [], [2]⟩])], resOf P 25, fun g _ _ => retOf P g⟩
noncomputable def ref22_Cells_L16_st (p0 : Int) (p1 : (List (List Int))) (p2 p3 p4 p5 p6 : Int) (p7 p8 : (List Int)) (s : (Int × (Int × (List Int)))) : St := ⟨slots 126 [(1, .e (.c (.i64 p0))), (2, .e (.c (.ptr 0 0))), (6, .e (.c (.sl (.slice .i64) p1))), (7, .e (.c (.ref 1))), (8, .e (.c (.i64 p2))), (9, .e (.c (.i64 s.1))), (75, .e (.c (.i64 p3))), (76, .e (.c (.i64 p4))), (85, .e (.c (.i64 p5))), (86, .e (.c (.i64 s.2.1)))], [.cells 61 [.i64 p6, .sl .i64 p7, .sl .i64 p8], .row 3 .i64 s.2.2 false]⟩
noncomputable def ref22_Cells_L16_out (p0 : Int) (p1 : (List (List Int))) (p2 p3 p4 p5 p6 : Int) (p7 p8 : (List Int)) : (Int × (List Int)) → Exit × St := fun y => ((.exit 4), ⟨slots 126 [(1, .e (.c (.i64 p0))), (2, .e (.c (.ptr 0 0))), (6, .e (.c (.sl (.slice .i64) p1))), (7, .e (.c (.ref 1))), (9, .e (.c (.i64 y.1))), (75, .e (.c (.i64 p3))), (76, .e (.c (.i64 p4)))], [.cells 61 [.i64 p6, .sl .i64 p7, .sl .i64 p8], .row 3 .i64 y.2 false]⟩)
noncomputable def ref22_Cells_T16 (p0 : Int) (p1 : (List (List Int))) (p2 p3 p4 p5 p6 : Int) (p7 p8 : (List Int)) (s : (Int × (Int × (List Int)))) : Tree ((Int × (Int × (List Int))) ⊕ (Int × (List Int))) :=
 .br (decide (s.2.1 < p5))
  (.ob ((((0 : Int) ≤ p2) ∧ (p2 < (↑(List.length p1) : Int)))) (
  .ob ((((0 : Int) ≤ s.2.1) ∧ (s.2.1 < (↑(List.length (List.getD p1 (Int.toNat p2) default)) : Int)))) (
  .br (decide ((0 : Int) < (List.getD (List.getD p1 (Int.toNat p2) default) (Int.toNat s.2.1) default)))
   (.ob ((((0 : Int) ≤ p2) ∧ (p2 < (↑(List.length p1) : Int)))) (
   .ob ((((0 : Int) ≤ s.2.1) ∧ (s.2.1 < (↑(List.length (List.getD p1 (Int.toNat p2) default)) : Int)))) (
   .ob ((((0 : Int) ≤ s.2.1) ∧ (s.2.1 < (↑(List.length p8) : Int)))) (
   .ret (.inl ((w64 (s.1 + (w64 ((List.getD (List.getD p1 (Int.toNat p2) default) (Int.toNat s.2.1) default) * (List.getD p8 (Int.toNat s.2.1) default))))), ((w64 (s.2.1 + 1)), s.2.2)))))))
   (.ret (.inl (s.1, ((w64 (s.2.1 + 1)), s.2.2)))))))
  (.ret (.inr (s.1, s.2.2)))
noncomputable def ref22_Cells_L16 (p0 : Int) (p1 : (List (List Int))) (p2 p3 p4 p5 p6 : Int) (p7 p8 : (List Int)) (s : (Int × (Int × (List Int)))) : Option (Int × (List Int)) := iter (fun s => (ref22_Cells_T16 p0 p1 p2 p3 p4 p5 p6 p7 p8 s).run) F0 s
noncomputable abbrev ref22_Cells_L16_c : Code := loopOf Tryz.f25 16
theorem ref22_Cells_L16_s (p0 : Int) (p1 : (List (List Int))) (p2 p3 p4 p5 p6 : Int) (p7 p8 : (List Int)) (s : (Int × (Int × (List Int)))) : ∀ o, ref22_Cells_L16 p0 p1 p2 p3 p4 p5 p6 p7 p8 s = some o → LpK Tryz.prog f25H 0 16 ref22_Cells_L16_c (ref22_Cells_L16_st p0 p1 p2 p3 p4 p5 p6 p7 p8 s) (fun e s' => e = (ref22_Cells_L16_out p0 p1 p2 p3 p4 p5 p6 p7 p8 o).1 ∧ s' = (ref22_Cells_L16_out p0 p1 p2 p3 p4 p5 p6 p7 p8 o).2) := fun o => iter_sound (tr := fun s => (ref22_Cells_T16 p0 p1 p2 p3 p4 p5 p6 p7 p8 s)) (st := fun s => ref22_Cells_L16_st p0 p1 p2 p3 p4 p5 p6 p7 p8 s) (by kernel_rfl) (fun s K => by kernel_rfl) F0 s o
noncomputable def ref22_Cells_L12_st (p0 : Int) (p1 : (List (List Int))) (p2 p3 : Int) (p4 p5 : (List Int)) (s : (Int × (List Int))) : St := ⟨slots 126 [(1, .e (.c (.i64 p0))), (2, .e (.c (.ptr 0 0))), (6, .e (.c (.sl (.slice .i64) p1))), (7, .e (.c (.ref 1))), (75, .e (.c (.i64 p2))), (76, .e (.c (.i64 s.1)))], [.cells 61 [.i64 p3, .sl .i64 p4, .sl .i64 p5], .row 3 .i64 s.2 false]⟩
noncomputable def ref22_Cells_L12_out (p0 : Int) (p1 : (List (List Int))) (p2 p3 : Int) (p4 p5 : (List Int)) : ((List Int) ⊕ (List Int)) → Exit × St := fun y => match y with
  | (.inl y) => ((.exit 2), ⟨slots 126 [(7, .e (.c (.ref 0)))], [.row 3 .i64 y false]⟩)
  | (.inr y) => (.ret, ⟨slots 126 [(4, .e (.c (.sl .i64 y)))], []⟩)
noncomputable def ref22_Cells_T12 (p0 : Int) (p1 : (List (List Int))) (p2 p3 : Int) (p4 p5 : (List Int)) (s : (Int × (List Int))) : Tree ((Int × (List Int)) ⊕ ((List Int) ⊕ (List Int))) :=
 .br (decide (s.1 < p2))
  (.ob ((((0 : Int) ≤ s.1) ∧ (s.1 < (↑(List.length p1) : Int)))) (
  .ex (ref22_Cells_L16_s p0 p1 s.1 p2 s.1 (↑(List.length (List.getD p1 (Int.toNat s.1) default)) : Int) p3 p4 p5 (p3, (0, s.2))) fun y0 =>
  .br (decide (y0.1 < 0))
   (.ret (.inr (.inr [])))
   (.br (decide (p0 ≤ y0.1))
    (.ret (.inr (.inr [])))
    (.ob (((((List.length y0.2) + 1) * 8) ≤ 140737488355328)) (
    .ret (.inl ((w64 (s.1 + 1)), (y0.2 ++ (y0.1 :: [])))))))))
  (.ret (.inr (.inl s.2)))
noncomputable def ref22_Cells_L12 (p0 : Int) (p1 : (List (List Int))) (p2 p3 : Int) (p4 p5 : (List Int)) (s : (Int × (List Int))) : Option ((List Int) ⊕ (List Int)) := iter (fun s => (ref22_Cells_T12 p0 p1 p2 p3 p4 p5 s).run) F0 s
noncomputable abbrev ref22_Cells_L12_c : Code := loopOf Tryz.f25 12
theorem ref22_Cells_L12_s (p0 : Int) (p1 : (List (List Int))) (p2 p3 : Int) (p4 p5 : (List Int)) (s : (Int × (List Int))) : ∀ o, ref22_Cells_L12 p0 p1 p2 p3 p4 p5 s = some o → LpK Tryz.prog f25H 0 12 ref22_Cells_L12_c (ref22_Cells_L12_st p0 p1 p2 p3 p4 p5 s) (fun e s' => e = (ref22_Cells_L12_out p0 p1 p2 p3 p4 p5 o).1 ∧ s' = (ref22_Cells_L12_out p0 p1 p2 p3 p4 p5 o).2) := fun o => iter_sound (tr := fun s => (ref22_Cells_T12 p0 p1 p2 p3 p4 p5 s)) (st := fun s => ref22_Cells_L12_st p0 p1 p2 p3 p4 p5 s) (by kernel_rfl) (fun s K => by kernel_rfl) F0 s o
noncomputable def ref22_Cells_L4_st (p0 p1 p2 : Int) (p3 p4 : (List Int)) (s : Int) : St := ⟨slots 126 [(1, .e (.c (.i64 p0))), (2, .e (.c (.ptr 0 0))), (41, .e (.c (.i64 p1))), (42, .e (.c (.i64 s)))], [.cells 61 [.i64 p2, .sl .i64 p3, .sl .i64 p4]]⟩
noncomputable def ref22_Cells_L4_out (p0 p1 p2 : Int) (p3 p4 : (List Int)) : (Unit ⊕ (List Int)) → Exit × St := fun y => match y with
  | (.inl y) => ((.exit 0), ⟨slots 126 [(1, .e (.c (.i64 p0))), (2, .e (.c (.ptr 0 0)))], [.cells 61 [.i64 p2, .sl .i64 p3, .sl .i64 p4]]⟩)
  | (.inr y) => (.ret, ⟨slots 126 [(4, .e (.c (.sl .i64 y)))], []⟩)
noncomputable def ref22_Cells_T4 (p0 p1 p2 : Int) (p3 p4 : (List Int)) (s : Int) : Tree (Int ⊕ (Unit ⊕ (List Int))) :=
 .br (decide (s < p1))
  (.ob ((((0 : Int) ≤ s) ∧ (s < (↑(List.length p3) : Int)))) (
  .br (decide ((1 : Int) < (List.getD p3 (Int.toNat s) default)))
   (.ob ((((0 : Int) ≤ s) ∧ (s < (↑(List.length p4) : Int)))) (
   .br (decide (p0 ≤ (List.getD p4 (Int.toNat s) default)))
    (.ret (.inr (.inr [])))
    (.ob ((((0 : Int) ≤ s) ∧ (s < (↑(List.length p4) : Int)))) (
    .br (decide ((List.getD p4 (Int.toNat s) default) ≤ (w64 (0 - p0))))
     (.ret (.inr (.inr [])))
     (.ret (.inl (w64 (s + 1))))))))
   (.ret (.inl (w64 (s + 1))))))
  (.ret (.inr (.inl ())))
noncomputable def ref22_Cells_L4 (p0 p1 p2 : Int) (p3 p4 : (List Int)) (s : Int) : Option (Unit ⊕ (List Int)) := iter (fun s => (ref22_Cells_T4 p0 p1 p2 p3 p4 s).run) F0 s
noncomputable abbrev ref22_Cells_L4_c : Code := loopOf Tryz.f25 4
theorem ref22_Cells_L4_s (p0 p1 p2 : Int) (p3 p4 : (List Int)) (s : Int) : ∀ o, ref22_Cells_L4 p0 p1 p2 p3 p4 s = some o → LpK Tryz.prog f25H 0 4 ref22_Cells_L4_c (ref22_Cells_L4_st p0 p1 p2 p3 p4 s) (fun e s' => e = (ref22_Cells_L4_out p0 p1 p2 p3 p4 o).1 ∧ s' = (ref22_Cells_L4_out p0 p1 p2 p3 p4 o).2) := fun o => iter_sound (tr := fun s => (ref22_Cells_T4 p0 p1 p2 p3 p4 s)) (st := fun s => ref22_Cells_L4_st p0 p1 p2 p3 p4 s) (by kernel_rfl) (fun s K => by kernel_rfl) F0 s o
noncomputable def ref22_Cells_T (toArray0 : (Int × ((List Int) × ((List Int) × Unit)))) (a1 : Int) : Tree (RTs.den [.d (.slice .i64)]) :=
 .ex (ref19_Check_s toArray0.2.1) fun y0 =>
 .br (!(decide (y0 = 0)))
  (.ret [])
  (.br (!(decide ((↑(List.length toArray0.2.2.1) : Int) = (↑(List.length toArray0.2.1) : Int))))
   (.ret [])
   (.br (decide ((64 : Int) < a1))
    (.ret [])
    (.br (decide (toArray0.1 < 0))
     (.ret [])
     (.br (decide (a1 ≤ toArray0.1))
      (.ret [])
      (.alt (isL (ref22_Cells_L4 a1 (↑(List.length toArray0.2.1) : Int) toArray0.1 toArray0.2.1 toArray0.2.2.1 0))
       (.an (s_u (s_l (ref22_Cells_L4_s a1 (↑(List.length toArray0.2.1) : Int) toArray0.1 toArray0.2.1 toArray0.2.2.1 0))) (
       .ex (ref20_All_s toArray0.2.1) fun y1 =>
       .alt (isL (ref22_Cells_L12 a1 y1 (↑(List.length y1) : Int) toArray0.1 toArray0.2.1 toArray0.2.2.1 (0, [])))
        (.ex (s_l (ref22_Cells_L12_s a1 y1 (↑(List.length y1) : Int) toArray0.1 toArray0.2.1 toArray0.2.2.1 (0, []))) fun y2 =>
        .ret y2)
        (.ex (s_r (ref22_Cells_L12_s a1 y1 (↑(List.length y1) : Int) toArray0.1 toArray0.2.1 toArray0.2.2.1 (0, []))) fun y3 =>
        .ret y3)))
       (.ex (s_r (ref22_Cells_L4_s a1 (↑(List.length toArray0.2.1) : Int) toArray0.1 toArray0.2.1 toArray0.2.2.1 0)) fun y4 =>
       .ret y4))))))
noncomputable def ref22_Cells (toArray0 : (Int × ((List Int) × ((List Int) × Unit)))) (a1 : Int) : Option (RTs.den [.d (.slice .i64)]) := (ref22_Cells_T toArray0 a1).run
theorem ref22_Cells_s (toArray0 : (Int × ((List Int) × ((List Int) × Unit)))) (a1 : Int) : ∀ y, ref22_Cells toArray0 a1 = some y → CSem Tryz.prog 25 [Ty.e (.pair .i64 (.pair (.slice .i64) (.pair (.slice .i64) .unit))) toArray0, Ty.e .i64 a1] [] (fun v b => v = (RTs.shape [.d (.slice .i64)] y).1 ∧ b = (RTs.shape [.d (.slice .i64)] y).2) := fun_sound (H := f25H) (fn := Tryz.f25) (by kernel_rfl) (by kernel_rfl) (fun post => by kernel_rfl)
noncomputable def f26H : Hint := ⟨fun _ => false, false, fun n => lk n [(4, [0, 1, 12, 13])], fun _ => [], fun _ => [], fun _ => [], fun _ => [], fun n => lk n [(4, [⟨.exit 0, [], [], mores P [], []⟩, ⟨.ret, [4], [], mores P [(4, 4)], []⟩])], resOf P 26, fun g _ _ => retOf P g⟩
noncomputable def plain_Ints_L4_st (p0 p1 : (List Int)) (p2 : Int) (s : Int) : St := ⟨slots 26 [(0, .e (.c (.sl .i64 p0))), (1, .e (.c (.sl .i64 p1))), (12, .e (.c (.i64 p2))), (13, .e (.c (.i64 s)))], []⟩
noncomputable def plain_Ints_L4_out (p0 p1 : (List Int)) (p2 : Int) : (Unit ⊕ Bool) → Exit × St := fun y => match y with
  | (.inl y) => ((.exit 0), ⟨slots 26 [], []⟩)
  | (.inr y) => (.ret, ⟨slots 26 [(4, .e (.c (.bool y)))], []⟩)
noncomputable def plain_Ints_T4 (p0 p1 : (List Int)) (p2 : Int) (s : Int) : Tree (Int ⊕ (Unit ⊕ Bool)) :=
 .br (decide (s < p2))
  (.ob ((((0 : Int) ≤ s) ∧ (s < (↑(List.length p0) : Int)))) (
  .ob ((((0 : Int) ≤ s) ∧ (s < (↑(List.length p1) : Int)))) (
  .br (!(decide ((List.getD p0 (Int.toNat s) default) = (List.getD p1 (Int.toNat s) default))))
   (.ret (.inr (.inr Bool.false)))
   (.ret (.inl (w64 (s + 1)))))))
  (.ret (.inr (.inl ())))
noncomputable def plain_Ints_L4 (p0 p1 : (List Int)) (p2 : Int) (s : Int) : Option (Unit ⊕ Bool) := iter (fun s => (plain_Ints_T4 p0 p1 p2 s).run) F0 s
noncomputable abbrev plain_Ints_L4_c : Code := loopOf Tryz.f26 4
theorem plain_Ints_L4_s (p0 p1 : (List Int)) (p2 : Int) (s : Int) : ∀ o, plain_Ints_L4 p0 p1 p2 s = some o → LpK Tryz.prog f26H 0 4 plain_Ints_L4_c (plain_Ints_L4_st p0 p1 p2 s) (fun e s' => e = (plain_Ints_L4_out p0 p1 p2 o).1 ∧ s' = (plain_Ints_L4_out p0 p1 p2 o).2) := fun o => iter_sound (tr := fun s => (plain_Ints_T4 p0 p1 p2 s)) (st := fun s => plain_Ints_L4_st p0 p1 p2 s) (by kernel_rfl) (fun s K => by kernel_rfl) F0 s o
noncomputable def plain_Ints_T (a0 : (List Int)) (b1 : (List Int)) : Tree (RTs.den [.d .bool]) :=
 .br (!(decide ((↑(List.length a0) : Int) = (↑(List.length b1) : Int))))
  (.ret Bool.false)
  (.alt (isL (plain_Ints_L4 a0 b1 (↑(List.length a0) : Int) 0))
   (.an (s_u (s_l (plain_Ints_L4_s a0 b1 (↑(List.length a0) : Int) 0))) (
   .ret Bool.true))
   (.ex (s_r (plain_Ints_L4_s a0 b1 (↑(List.length a0) : Int) 0)) fun y0 =>
   .ret y0))
noncomputable def plain_Ints (a0 : (List Int)) (b1 : (List Int)) : Option (RTs.den [.d .bool]) := (plain_Ints_T a0 b1).run
theorem plain_Ints_s (a0 : (List Int)) (b1 : (List Int)) : ∀ y, plain_Ints a0 b1 = some y → CSem Tryz.prog 26 [Ty.e (.slice .i64) a0, Ty.e (.slice .i64) b1] [] (fun v b => v = (RTs.shape [.d .bool] y).1 ∧ b = (RTs.shape [.d .bool] y).2) := fun_sound (H := f26H) (fn := Tryz.f26) (by kernel_rfl) (by kernel_rfl) (fun post => by kernel_rfl)
noncomputable def f27H : Hint := ⟨fun _ => false, false, fun _ => [], fun _ => [], fun _ => [], fun _ => [], fun _ => [], fun _ => [], resOf P 27, fun g _ _ => retOf P g⟩
noncomputable def bank_Bank_Ops_T (q0 : Int) (q1 : Int) (q2 : (List Bool)) (q3 : Int) (q4 : Int) (q5 : Bool) (q6 : Int) : Tree (RTs.den [.d .i64] × (Int × Int × (List Bool) × Int × Int × Bool × Int)) :=
 .ret (q4, (q0, (q1, (q2, (q3, (q4, (q5, q6)))))))
noncomputable def bank_Bank_Ops (q0 : Int) (q1 : Int) (q2 : (List Bool)) (q3 : Int) (q4 : Int) (q5 : Bool) (q6 : Int) : Option (RTs.den [.d .i64] × (Int × Int × (List Bool) × Int × Int × Bool × Int)) := (bank_Bank_Ops_T q0 q1 q2 q3 q4 q5 q6).run
theorem bank_Bank_Ops_s (q0 : Int) (q1 : Int) (q2 : (List Bool)) (q3 : Int) (q4 : Int) (q5 : Bool) (q6 : Int) : ∀ y, bank_Bank_Ops q0 q1 q2 q3 q4 q5 q6 = some y → CSem Tryz.prog 27 [.c (.ptr 0 0)] (bkB (q0, q1, q2, q3, q4, q5, q6)) (fun v b => v = (outP 1 [.d .i64] bkB y).1 ∧ b = (outP 1 [.d .i64] bkB y).2) := fun_soundP (H := f27H) (fn := Tryz.f27) (by kernel_rfl) (by kernel_rfl) (fun post => by kernel_rfl)
noncomputable def f4H : Hint := ⟨fun _ => false, false, fun n => lk n [(12, [5, 7, 8, 13, 106, 107])], fun _ => [], fun _ => [], fun _ => [], fun _ => [], fun n => lk n [(12, [⟨.exit 0, [7], [], mores P [], [5, 8]⟩, ⟨.ret, [6], [], mores P [(6, 4)], [5, 8]⟩])], resOf P 4, fun g _ _ => if Nat.beq g 21 then Shape.ofP 1 [.d (.pair (.slice .i64) (.pair (.slice (.pair (.pair .bool (.pair (.slice .u64) (.pair (.slice .u64) .unit))) (.pair .u64 (.pair .i64 .unit)))) .unit)), .d (.slice .i64), .d .i64] bkB else if Nat.beq g 27 then Shape.ofP 1 [.d .i64] bkB else if Nat.beq g 8 then Shape.ofN bkB else retOf P g⟩
noncomputable def law32_ApplyViews_L12_st (p0 : (List Int)) (p1 : Int) (p2 : (List Int)) (p3 : (List ValD)) (p4 : (List Int)) (p5 : (List ValD)) (s : (Int × (Int × (Int × ((List Bool) × (Int × (Int × (Bool × Int)))))))) : St := ⟨slots 142 [(5, .e (.c (.ptr 0 0))), (7, .e (.c (.ptr 1 0))), (8, .e (.c (.ptr 2 0))), (13, .e (.c (.sl .i64 p0))), (106, .e (.c (.i64 p1))), (107, .e (.c (.i64 s.1)))], [.cells 52 [.sl .i64 p2, .sl valT p3], .cells 76 [.i64 s.2.1, .i64 s.2.2.1, .nils, .sl .bool s.2.2.2.1, .nils, .i64 s.2.2.2.2.1, .i64 s.2.2.2.2.2.1, .bool s.2.2.2.2.2.2.1, .i64 s.2.2.2.2.2.2.2], .cells 52 [.sl .i64 p4, .sl valT p5]]⟩
noncomputable def law32_ApplyViews_L12_out (p0 : (List Int)) (p1 : Int) (p2 : (List Int)) (p3 : (List ValD)) (p4 : (List Int)) (p5 : (List ValD)) : ((Int × (Int × ((List Bool) × (Int × (Int × (Bool × Int)))))) ⊕ Bool) → Exit × St := fun y => match y with
  | (.inl y) => ((.exit 0), ⟨slots 142 [(7, .e (.c (.ptr 0 0)))], [.cells 76 [.i64 y.1, .i64 y.2.1, .nils, .sl .bool y.2.2.1, .nils, .i64 y.2.2.2.1, .i64 y.2.2.2.2.1, .bool y.2.2.2.2.2.1, .i64 y.2.2.2.2.2.2]]⟩)
  | (.inr y) => (.ret, ⟨slots 142 [(6, .e (.c (.bool y)))], []⟩)
noncomputable def law32_ApplyViews_T12 (p0 : (List Int)) (p1 : Int) (p2 : (List Int)) (p3 : (List ValD)) (p4 : (List Int)) (p5 : (List ValD)) (s : (Int × (Int × (Int × ((List Bool) × (Int × (Int × (Bool × Int)))))))) : Tree ((Int × (Int × (Int × ((List Bool) × (Int × (Int × (Bool × Int))))))) ⊕ ((Int × (Int × ((List Bool) × (Int × (Int × (Bool × Int)))))) ⊕ Bool)) :=
 .br (decide (s.1 < p1))
  (.ob ((((0 : Int) ≤ s.1) ∧ (s.1 < (↑(List.length p0) : Int)))) (
  .br (decide ((↑(List.length p3) : Int) ≤ (List.getD p0 (Int.toNat s.1) default)))
   (.ret (.inr (.inr Bool.false)))
   (.ob ((((0 : Int) ≤ s.1) ∧ (s.1 < (↑(List.length p5) : Int)))) (
   .ob ((((0 : Int) ≤ s.1) ∧ (s.1 < (↑(List.length p0) : Int)))) (
   .ob ((((0 : Int) ≤ (List.getD p0 (Int.toNat s.1) default)) ∧ ((List.getD p0 (Int.toNat s.1) default) < (↑(List.length p3) : Int)))) (
   .ex (ref18_Same_s (List.getD p5 (Int.toNat s.1) default) (List.getD p3 (Int.toNat (List.getD p0 (Int.toNat s.1) default)) default)) fun y0 =>
   .br (!y0)
    (.ret (.inr (.inr Bool.false)))
    (.ret (.inl ((w64 (s.1 + 1)), (s.2.1, (s.2.2.1, (s.2.2.2.1, (s.2.2.2.2.1, (s.2.2.2.2.2.1, (s.2.2.2.2.2.2.1, s.2.2.2.2.2.2.2)))))))))))))))
  (.ret (.inr (.inl s.2)))
noncomputable def law32_ApplyViews_L12 (p0 : (List Int)) (p1 : Int) (p2 : (List Int)) (p3 : (List ValD)) (p4 : (List Int)) (p5 : (List ValD)) (s : (Int × (Int × (Int × ((List Bool) × (Int × (Int × (Bool × Int)))))))) : Option ((Int × (Int × ((List Bool) × (Int × (Int × (Bool × Int)))))) ⊕ Bool) := iter (fun s => (law32_ApplyViews_T12 p0 p1 p2 p3 p4 p5 s).run) F0 s
noncomputable abbrev law32_ApplyViews_L12_c : Code := loopOf Tryz.f4 12
theorem law32_ApplyViews_L12_s (p0 : (List Int)) (p1 : Int) (p2 : (List Int)) (p3 : (List ValD)) (p4 : (List Int)) (p5 : (List ValD)) (s : (Int × (Int × (Int × ((List Bool) × (Int × (Int × (Bool × Int)))))))) : ∀ o, law32_ApplyViews_L12 p0 p1 p2 p3 p4 p5 s = some o → LpK Tryz.prog f4H 0 12 law32_ApplyViews_L12_c (law32_ApplyViews_L12_st p0 p1 p2 p3 p4 p5 s) (fun e s' => e = (law32_ApplyViews_L12_out p0 p1 p2 p3 p4 p5 o).1 ∧ s' = (law32_ApplyViews_L12_out p0 p1 p2 p3 p4 p5 o).2) := fun o => iter_sound (tr := fun s => (law32_ApplyViews_T12 p0 p1 p2 p3 p4 p5 s)) (st := fun s => law32_ApplyViews_L12_st p0 p1 p2 p3 p4 p5 s) (by kernel_rfl) (fun s K => by kernel_rfl) F0 s o
noncomputable def law32_ApplyViews_T (toArray0 : Int) (a1 : AttrD) (a2 : ArgD) : Tree (RTs.den [.d .bool]) :=
 .ex (plain_Args_s ((a2.1, (a2.2.1, ())) :: [])) fun y0 =>
 .br y0
  (.ex law32_same_s fun y1 =>
  .ret y1)
  (.ex (law31_Many_s a1 (a2.1 :: [])) fun y2 =>
  .br y2
   (.ex law32_same_s fun y3 =>
   .ret y3)
   (.br (decide (toArray0 < 33))
    (.ex law32_same_s fun y4 =>
    .ret y4)
    (.br (decide ((37 : Int) < toArray0))
     (.ex law32_same_s fun y5 =>
     .ret y5)
     (.ex (ref18_Vals_s 1 a2.2.1) fun y6 =>
     .br (!y6)
      (.ex law32_same_s fun y7 =>
      .ret y7)
      (.ex (ref19_Check_s a2.1) fun y8 =>
      .br (!(decide (y8 = 0)))
       (.ex law32_same_s fun y9 =>
       .ret y9)
       (.ex (bank_New_s 1 []) fun y10 =>
       .ex (apply_Run_s toArray0 a1 ((a2.1, (a2.2.1, ())) :: []) y10.1 y10.2.1 y10.2.2.1 y10.2.2.2.1 y10.2.2.2.2.1 y10.2.2.2.2.2.1 y10.2.2.2.2.2.2) fun y11 =>
       .ex (view_Whole_s a2.1) fun y12 =>
       .ex (move_View_s toArray0 a1 y12) fun y13 =>
       .br (!(decide (y11.1.2.2 = 0)))
        (.br (decide (y11.1.2.2 = 0))
         (.br ((decide (y13.2 = 0)) == Bool.true)
          (.ex law32_same_s fun y14 =>
          .ret y14)
          (.ret Bool.false))
         (.br (decide (y11.1.2.2 = 1))
          (.ex (ref32_Whole_s a2) fun y15 =>
          .br ((decide (y13.2 = 0)) == (!y15))
           (.ex law32_same_s fun y16 =>
           .ret y16)
           (.ret Bool.false))
          (.br ((decide (y13.2 = 0)) == Bool.false)
           (.ex law32_same_s fun y17 =>
           .ret y17)
           (.ret Bool.false))))
        (.br (!(decide (y13.2 = 0)))
         (.br (decide (y11.1.2.2 = 0))
          (.br ((decide (y13.2 = 0)) == Bool.true)
           (.ex law32_same_s fun y18 =>
           .ret y18)
           (.ret Bool.false))
          (.br (decide (y11.1.2.2 = 1))
           (.ex (ref32_Whole_s a2) fun y19 =>
           .br ((decide (y13.2 = 0)) == (!y19))
            (.ex law32_same_s fun y20 =>
            .ret y20)
            (.ret Bool.false))
           (.br ((decide (y13.2 = 0)) == Bool.false)
            (.ex law32_same_s fun y21 =>
            .ret y21)
            (.ret Bool.false))))
         (.ex (ref22_Cells_s y13.1 64) fun y22 =>
         .ex (plain_Ints_s y11.1.1.1 y13.1.2.1) fun y23 =>
         .br (!y23)
          (.ret Bool.false)
          (.br (!(decide ((↑(List.length y22) : Int) = (↑(List.length y11.1.1.2.1) : Int))))
           (.ret Bool.false)
           (.alt (isL (law32_ApplyViews_L12 y22 (↑(List.length y22) : Int) a2.1 a2.2.1 y11.1.1.1 y11.1.1.2.1 (0, (y11.2.1, (y11.2.2.1, (y11.2.2.2.1, (y11.2.2.2.2.1, (y11.2.2.2.2.2.1, (y11.2.2.2.2.2.2.1, y11.2.2.2.2.2.2.2)))))))))
            (.ex (s_l (law32_ApplyViews_L12_s y22 (↑(List.length y22) : Int) a2.1 a2.2.1 y11.1.1.1 y11.1.1.2.1 (0, (y11.2.1, (y11.2.2.1, (y11.2.2.2.1, (y11.2.2.2.2.1, (y11.2.2.2.2.2.1, (y11.2.2.2.2.2.2.1, y11.2.2.2.2.2.2.2))))))))) fun y24 =>
            .ex (bank_Bank_Ops_s y24.1 y24.2.1 y24.2.2.1 y24.2.2.2.1 y24.2.2.2.2.1 y24.2.2.2.2.2.1 y24.2.2.2.2.2.2) fun y25 =>
           .br (decide (y25.1 = 0))
            (.ex law32_same_s fun y26 =>
            .ret y26)
            (.ret Bool.false))
            (.ex (s_r (law32_ApplyViews_L12_s y22 (↑(List.length y22) : Int) a2.1 a2.2.1 y11.1.1.1 y11.1.1.2.1 (0, (y11.2.1, (y11.2.2.1, (y11.2.2.2.1, (y11.2.2.2.2.1, (y11.2.2.2.2.2.1, (y11.2.2.2.2.2.2.1, y11.2.2.2.2.2.2.2))))))))) fun y27 =>
            .ret y27)))))))))))
noncomputable def law32_ApplyViews (toArray0 : Int) (a1 : AttrD) (a2 : ArgD) : Option (RTs.den [.d .bool]) := (law32_ApplyViews_T toArray0 a1 a2).run
theorem law32_ApplyViews_s (toArray0 : Int) (a1 : AttrD) (a2 : ArgD) : ∀ y, law32_ApplyViews toArray0 a1 a2 = some y → CSem Tryz.prog 4 [Ty.e .i64 toArray0, Ty.e attrT a1, Ty.e argT a2] [] (fun v b => v = (RTs.shape [.d .bool] y).1 ∧ b = (RTs.shape [.d .bool] y).2) := fun_sound (H := f4H) (fn := Tryz.f4) (by kernel_rfl) (by kernel_rfl) (fun post => by kernel_rfl)
end Go.Proofs.YtnhebloiappfiaaGreat
