/- YtnkamghdikbmaaaGreatAv: functions of the program, each as a tree of what it does (a program of mine printed it out of the translation), and the proof that its call comes to what the tree tells. -/
import Derived.Test.YtnkamghdikbmaaaGreatSMtr
import Derived.Test.YtnkamghdikbmaaaGreatR
import Derived.Test.YtnkamghdikbmaaaGreatProg
import Derived.KernelRfl
namespace Go.Proofs.YtnkamghdikbmaaaGreat
open Go Go.SM
set_option maxRecDepth 100000
set_option linter.unusedVariables false
noncomputable abbrev P := Tryz.prog
abbrev RatD := (Bool × ((List UInt64) × ((List UInt64) × Unit)))
abbrev ValD := (RatD × (UInt64 × (Int × Unit)))
abbrev ArgD := ((List Int) × ((List ValD) × Unit))
abbrev AttrD := (Int × (Int × (Int × (Int × (Int × (Int × (Int × (Int × (Bool × ((List Int) × Unit))))))))))
abbrev StepD := (Int × (AttrD × ((List ArgD) × (ArgD × ((List Int) × Unit)))))
abbrev ratT : Ty := (.pair .bool (.pair (.slice .u64) (.pair (.slice .u64) .unit)))
abbrev valT : Ty := (.pair ratT (.pair .u64 (.pair .i64 .unit)))
abbrev argT : Ty := (.pair (.slice .i64) (.pair (.slice valT) .unit))
abbrev attrT : Ty := (.pair .i64 (.pair .i64 (.pair .i64 (.pair .i64 (.pair .i64 (.pair .i64 (.pair .i64 (.pair .i64 (.pair .bool (.pair (.slice .i64) .unit))))))))))
abbrev stepT : Ty := (.pair .i64 (.pair attrT (.pair (.slice argT) (.pair argT (.pair (.slice .i64) .unit)))))
noncomputable def f93H : Hint := ⟨fun _ => false, false, fun _ => [], fun _ => [], fun _ => [], fun _ => [], fun _ => [], fun _ => [], resOf P 93, fun g _ _ => retOf P g⟩
noncomputable def plain_Long_T (x0 : RatD) (most1 : Int) : Tree (RTs.den [.d .bool]) :=
 .br (decide (most1 < (↑(List.length x0.2.1) : Int)))
  (.ret Bool.true)
  (.ret (decide (most1 < (↑(List.length x0.2.2.1) : Int))))
noncomputable def plain_Long (x0 : RatD) (most1 : Int) : Option (RTs.den [.d .bool]) := (plain_Long_T x0 most1).run
theorem plain_Long_s (x0 : RatD) (most1 : Int) : ∀ y, plain_Long x0 most1 = some y → CSem Tryz.prog 93 [Ty.e ratT x0, Ty.e .i64 most1] [] (fun v b => v = (RTs.shape [.d .bool] y).1 ∧ b = (RTs.shape [.d .bool] y).2) := fun_sound (H := f93H) (fn := Tryz.f93) (by kernel_rfl) (by kernel_rfl) (fun post => by kernel_rfl)
noncomputable def f65H : Hint := ⟨fun _ => false, false, fun n => lk n [(2, [0, 1, 7, 8])], fun _ => [], fun _ => [], fun _ => [], fun _ => [], fun n => lk n [(2, [⟨.exit 0, [], [], mores P [], []⟩, ⟨.ret, [4], [], mores P [(4, 4)], []⟩])], resOf P 65, fun g _ _ => retOf P g⟩
noncomputable def plain_Wide_L2_st (p0 : (List ValD)) (p1 p2 : Int) (s : Int) : St := ⟨slots 19 [(0, .e (.c (.sl valT p0))), (1, .e (.c (.i64 p1))), (7, .e (.c (.i64 p2))), (8, .e (.c (.i64 s)))], []⟩
noncomputable def plain_Wide_L2_out (p0 : (List ValD)) (p1 p2 : Int) : (Unit ⊕ Bool) → Exit × St := fun y => match y with
  | (.inl y) => ((.exit 0), ⟨slots 19 [], []⟩)
  | (.inr y) => (.ret, ⟨slots 19 [(4, .e (.c (.bool y)))], []⟩)
noncomputable def plain_Wide_T2 (p0 : (List ValD)) (p1 p2 : Int) (s : Int) : Tree (Int ⊕ (Unit ⊕ Bool)) :=
 .br (decide (s < p2))
  (.ob ((((0 : Int) ≤ s) ∧ (s < (↑(List.length p0) : Int)))) (
  .ex (plain_Long_s (List.getD p0 (Int.toNat s) default).1 p1) fun y0 =>
  .br y0
   (.ret (.inr (.inr Bool.true)))
   (.ret (.inl (w64 (s + 1))))))
  (.ret (.inr (.inl ())))
noncomputable def plain_Wide_L2 (p0 : (List ValD)) (p1 p2 : Int) (s : Int) : Option (Unit ⊕ Bool) := iter (fun s => (plain_Wide_T2 p0 p1 p2 s).run) F0 s
noncomputable abbrev plain_Wide_L2_c : Code := loopOf Tryz.f65 2
theorem plain_Wide_L2_s (p0 : (List ValD)) (p1 p2 : Int) (s : Int) : ∀ o, plain_Wide_L2 p0 p1 p2 s = some o → LpK Tryz.prog f65H 0 2 plain_Wide_L2_c (plain_Wide_L2_st p0 p1 p2 s) (fun e s' => e = (plain_Wide_L2_out p0 p1 p2 o).1 ∧ s' = (plain_Wide_L2_out p0 p1 p2 o).2) := fun o => iter_sound (tr := fun s => (plain_Wide_T2 p0 p1 p2 s)) (st := fun s => plain_Wide_L2_st p0 p1 p2 s) (by kernel_rfl) (fun s K => by kernel_rfl) F0 s o
noncomputable def plain_Wide_T (l0 : (List ValD)) (most1 : Int) : Tree (RTs.den [.d .bool]) :=
 .alt (isL (plain_Wide_L2 l0 most1 (↑(List.length l0) : Int) 0))
  (.an (s_u (s_l (plain_Wide_L2_s l0 most1 (↑(List.length l0) : Int) 0))) (
  .ret Bool.false))
  (.ex (s_r (plain_Wide_L2_s l0 most1 (↑(List.length l0) : Int) 0)) fun y0 =>
  .ret y0)
noncomputable def plain_Wide (l0 : (List ValD)) (most1 : Int) : Option (RTs.den [.d .bool]) := (plain_Wide_T l0 most1).run
theorem plain_Wide_s (l0 : (List ValD)) (most1 : Int) : ∀ y, plain_Wide l0 most1 = some y → CSem Tryz.prog 65 [Ty.e (.slice valT) l0, Ty.e .i64 most1] [] (fun v b => v = (RTs.shape [.d .bool] y).1 ∧ b = (RTs.shape [.d .bool] y).2) := fun_sound (H := f65H) (fn := Tryz.f65) (by kernel_rfl) (by kernel_rfl) (fun post => by kernel_rfl)
noncomputable def f39H : Hint := ⟨fun _ => false, false, fun n => lk n [(2, [0, 5, 6])], fun _ => [], fun _ => [], fun _ => [], fun _ => [], fun n => lk n [(2, [⟨.exit 0, [0], [], mores P [], []⟩, ⟨.ret, [2], [], mores P [(2, 4)], []⟩])], resOf P 39, fun g _ _ => retOf P g⟩
noncomputable def plain_Args_L2_st (p0 : (List ArgD)) (p1 : Int) (s : Int) : St := ⟨slots 37 [(0, .e (.c (.sl argT p0))), (5, .e (.c (.i64 p1))), (6, .e (.c (.i64 s)))], []⟩
noncomputable def plain_Args_L2_out (p0 : (List ArgD)) (p1 : Int) : (Unit ⊕ Bool) → Exit × St := fun y => match y with
  | (.inl y) => ((.exit 0), ⟨slots 37 [(0, .e (.c (.sl argT p0)))], []⟩)
  | (.inr y) => (.ret, ⟨slots 37 [(2, .e (.c (.bool y)))], []⟩)
noncomputable def plain_Args_T2 (p0 : (List ArgD)) (p1 : Int) (s : Int) : Tree (Int ⊕ (Unit ⊕ Bool)) :=
 .br (decide (s < p1))
  (.ob ((((0 : Int) ≤ s) ∧ (s < (↑(List.length p0) : Int)))) (
  .br (decide ((20 : Int) < (↑(List.length (List.getD p0 (Int.toNat s) default).1) : Int)))
   (.ret (.inr (.inr Bool.true)))
   (.ob ((((0 : Int) ≤ s) ∧ (s < (↑(List.length p0) : Int)))) (
   .br (decide ((100 : Int) < (↑(List.length (List.getD p0 (Int.toNat s) default).2.1) : Int)))
    (.ret (.inr (.inr Bool.true)))
    (.ob ((((0 : Int) ≤ s) ∧ (s < (↑(List.length p0) : Int)))) (
    .ex (plain_Wide_s (List.getD p0 (Int.toNat s) default).2.1 9) fun y0 =>
    .br y0
     (.ret (.inr (.inr Bool.true)))
     (.ret (.inl (w64 (s + 1))))))))))
  (.ret (.inr (.inl ())))
noncomputable def plain_Args_L2 (p0 : (List ArgD)) (p1 : Int) (s : Int) : Option (Unit ⊕ Bool) := iter (fun s => (plain_Args_T2 p0 p1 s).run) F0 s
noncomputable abbrev plain_Args_L2_c : Code := loopOf Tryz.f39 2
theorem plain_Args_L2_s (p0 : (List ArgD)) (p1 : Int) (s : Int) : ∀ o, plain_Args_L2 p0 p1 s = some o → LpK Tryz.prog f39H 0 2 plain_Args_L2_c (plain_Args_L2_st p0 p1 s) (fun e s' => e = (plain_Args_L2_out p0 p1 o).1 ∧ s' = (plain_Args_L2_out p0 p1 o).2) := fun o => iter_sound (tr := fun s => (plain_Args_T2 p0 p1 s)) (st := fun s => plain_Args_L2_st p0 p1 s) (by kernel_rfl) (fun s K => by kernel_rfl) F0 s o
noncomputable def plain_Args_T (l0 : (List ArgD)) : Tree (RTs.den [.d .bool]) :=
 .alt (isL (plain_Args_L2 l0 (↑(List.length l0) : Int) 0))
  (.an (s_u (s_l (plain_Args_L2_s l0 (↑(List.length l0) : Int) 0))) (
  .ret (decide ((6 : Int) < (↑(List.length l0) : Int)))))
  (.ex (s_r (plain_Args_L2_s l0 (↑(List.length l0) : Int) 0)) fun y0 =>
  .ret y0)
noncomputable def plain_Args (l0 : (List ArgD)) : Option (RTs.den [.d .bool]) := (plain_Args_T l0).run
theorem plain_Args_s (l0 : (List ArgD)) : ∀ y, plain_Args l0 = some y → CSem Tryz.prog 39 [Ty.e (.slice argT) l0] [] (fun v b => v = (RTs.shape [.d .bool] y).1 ∧ b = (RTs.shape [.d .bool] y).2) := fun_sound (H := f39H) (fn := Tryz.f39) (by kernel_rfl) (by kernel_rfl) (fun post => by kernel_rfl)
noncomputable def f64H : Hint := ⟨fun _ => false, false, fun n => lk n [(4, [0, 1, 12, 13])], fun _ => [], fun _ => [], fun _ => [], fun _ => [], fun n => lk n [(4, [⟨.exit 0, [], [], mores P [], []⟩, ⟨.ret, [4], [], mores P [(4, 4)], []⟩])], resOf P 64, fun g _ _ => retOf P g⟩
noncomputable def ref07_Words_L4_st (p0 p1 : (List UInt64)) (p2 : Int) (s : Int) : St := ⟨slots 26 [(0, .e (.c (.sl .u64 p0))), (1, .e (.c (.sl .u64 p1))), (12, .e (.c (.i64 p2))), (13, .e (.c (.i64 s)))], []⟩
noncomputable def ref07_Words_L4_out (p0 p1 : (List UInt64)) (p2 : Int) : (Unit ⊕ Bool) → Exit × St := fun y => match y with
  | (.inl y) => ((.exit 0), ⟨slots 26 [], []⟩)
  | (.inr y) => (.ret, ⟨slots 26 [(4, .e (.c (.bool y)))], []⟩)
noncomputable def ref07_Words_T4 (p0 p1 : (List UInt64)) (p2 : Int) (s : Int) : Tree (Int ⊕ (Unit ⊕ Bool)) :=
 .br (decide (s < p2))
  (.ob ((((0 : Int) ≤ s) ∧ (s < (↑(List.length p0) : Int)))) (
  .ob ((((0 : Int) ≤ s) ∧ (s < (↑(List.length p1) : Int)))) (
  .br (!(decide ((List.getD p0 (Int.toNat s) default) = (List.getD p1 (Int.toNat s) default))))
   (.ret (.inr (.inr Bool.false)))
   (.ret (.inl (w64 (s + 1)))))))
  (.ret (.inr (.inl ())))
noncomputable def ref07_Words_L4 (p0 p1 : (List UInt64)) (p2 : Int) (s : Int) : Option (Unit ⊕ Bool) := iter (fun s => (ref07_Words_T4 p0 p1 p2 s).run) F0 s
noncomputable abbrev ref07_Words_L4_c : Code := loopOf Tryz.f64 4
theorem ref07_Words_L4_s (p0 p1 : (List UInt64)) (p2 : Int) (s : Int) : ∀ o, ref07_Words_L4 p0 p1 p2 s = some o → LpK Tryz.prog f64H 0 4 ref07_Words_L4_c (ref07_Words_L4_st p0 p1 p2 s) (fun e s' => e = (ref07_Words_L4_out p0 p1 p2 o).1 ∧ s' = (ref07_Words_L4_out p0 p1 p2 o).2) := fun o => iter_sound (tr := fun s => (ref07_Words_T4 p0 p1 p2 s)) (st := fun s => ref07_Words_L4_st p0 p1 p2 s) (by kernel_rfl) (fun s K => by kernel_rfl) F0 s o
noncomputable def ref07_Words_T (a0 : (List UInt64)) (b1 : (List UInt64)) : Tree (RTs.den [.d .bool]) :=
 .br (!(decide ((↑(List.length a0) : Int) = (↑(List.length b1) : Int))))
  (.ret Bool.false)
  (.alt (isL (ref07_Words_L4 a0 b1 (↑(List.length a0) : Int) 0))
   (.an (s_u (s_l (ref07_Words_L4_s a0 b1 (↑(List.length a0) : Int) 0))) (
   .ret Bool.true))
   (.ex (s_r (ref07_Words_L4_s a0 b1 (↑(List.length a0) : Int) 0)) fun y0 =>
   .ret y0))
noncomputable def ref07_Words (a0 : (List UInt64)) (b1 : (List UInt64)) : Option (RTs.den [.d .bool]) := (ref07_Words_T a0 b1).run
theorem ref07_Words_s (a0 : (List UInt64)) (b1 : (List UInt64)) : ∀ y, ref07_Words a0 b1 = some y → CSem Tryz.prog 64 [Ty.e (.slice .u64) a0, Ty.e (.slice .u64) b1] [] (fun v b => v = (RTs.shape [.d .bool] y).1 ∧ b = (RTs.shape [.d .bool] y).2) := fun_sound (H := f64H) (fn := Tryz.f64) (by kernel_rfl) (by kernel_rfl) (fun post => by kernel_rfl)
noncomputable def f38H : Hint := ⟨fun _ => false, false, fun _ => [], fun _ => [], fun _ => [], fun _ => [], fun _ => [], fun _ => [], resOf P 38, fun g _ _ => retOf P g⟩
noncomputable def ref07_Same_T (a0 : RatD) (b1 : RatD) : Tree (RTs.den [.d .bool]) :=
 .br (a0.1 == b1.1)
  (.ex (ref07_Words_s a0.2.1 b1.2.1) fun y0 =>
  .br y0
   (.ex (ref07_Words_s a0.2.2.1 b1.2.2.1) fun y1 =>
   .ret y1)
   (.ret Bool.false))
  (.ret Bool.false)
noncomputable def ref07_Same (a0 : RatD) (b1 : RatD) : Option (RTs.den [.d .bool]) := (ref07_Same_T a0 b1).run
theorem ref07_Same_s (a0 : RatD) (b1 : RatD) : ∀ y, ref07_Same a0 b1 = some y → CSem Tryz.prog 38 [Ty.e ratT a0, Ty.e ratT b1] [] (fun v b => v = (RTs.shape [.d .bool] y).1 ∧ b = (RTs.shape [.d .bool] y).2) := fun_sound (H := f38H) (fn := Tryz.f38) (by kernel_rfl) (by kernel_rfl) (fun post => by kernel_rfl)
/-- Not called where it counts: nothing is said of it. -/
def ref07_Right (x0 : Ty.den ratT) : Option (RTs.den [.d .bool]) := none
theorem ref07_Right_s (x0 : Ty.den ratT) : ∀ y, ref07_Right x0 = some y → CSem Tryz.prog 94 [Ty.e ratT x0] [] (fun v b => v = (RTs.shape [.d .bool] y).1 ∧ b = (RTs.shape [.d .bool] y).2) := fun y h => nomatch h
noncomputable def f174H : Hint := ⟨fun _ => false, false, fun _ => [], fun _ => [], fun _ => [], fun _ => [], fun _ => [], fun _ => [], resOf P 174, fun g _ _ => retOf P g⟩
noncomputable def ref09_Field_T (b0 : UInt64) : Tree (RTs.den [.d .i64]) :=
 .ret (w64 (↑(UInt64.toNat ((shrU b0 52) &&& (2047 : UInt64))) : Int))
noncomputable def ref09_Field (b0 : UInt64) : Option (RTs.den [.d .i64]) := (ref09_Field_T b0).run
theorem ref09_Field_s (b0 : UInt64) : ∀ y, ref09_Field b0 = some y → CSem Tryz.prog 174 [Ty.e .u64 b0] [] (fun v b => v = (RTs.shape [.d .i64] y).1 ∧ b = (RTs.shape [.d .i64] y).2) := fun_sound (H := f174H) (fn := Tryz.f174) (by kernel_rfl) (by kernel_rfl) (fun post => by kernel_rfl)
noncomputable def f175H : Hint := ⟨fun _ => false, false, fun _ => [], fun _ => [], fun _ => [], fun _ => [], fun _ => [], fun _ => [], resOf P 175, fun g _ _ => retOf P g⟩
noncomputable def ref09_Rest_T (b0 : UInt64) : Tree (RTs.den [.d .u64]) :=
 .ret (b0 &&& (4503599627370495 : UInt64))
noncomputable def ref09_Rest (b0 : UInt64) : Option (RTs.den [.d .u64]) := (ref09_Rest_T b0).run
theorem ref09_Rest_s (b0 : UInt64) : ∀ y, ref09_Rest b0 = some y → CSem Tryz.prog 175 [Ty.e .u64 b0] [] (fun v b => v = (RTs.shape [.d .u64] y).1 ∧ b = (RTs.shape [.d .u64] y).2) := fun_sound (H := f175H) (fn := Tryz.f175) (by kernel_rfl) (by kernel_rfl) (fun post => by kernel_rfl)
noncomputable def f132H : Hint := ⟨fun _ => false, false, fun _ => [], fun _ => [], fun _ => [], fun _ => [], fun _ => [], fun _ => [], resOf P 132, fun g _ _ => retOf P g⟩
noncomputable def ref09_Kind_T (b0 : UInt64) : Tree (RTs.den [.d .i64]) :=
 .ex (ref09_Field_s b0) fun y0 =>
 .br (decide (y0 = 2047))
  (.ex (ref09_Rest_s b0) fun y1 =>
  .br (decide (y1 = (0 : UInt64)))
   (.ret 3)
   (.ret 4))
  (.ex (ref09_Field_s b0) fun y2 =>
  .br (decide ((0 : Int) < y2))
   (.ret 2)
   (.ex (ref09_Rest_s b0) fun y3 =>
   .br (decide ((0 : UInt64) < y3))
    (.ret 1)
    (.ret 0)))
noncomputable def ref09_Kind (b0 : UInt64) : Option (RTs.den [.d .i64]) := (ref09_Kind_T b0).run
theorem ref09_Kind_s (b0 : UInt64) : ∀ y, ref09_Kind b0 = some y → CSem Tryz.prog 132 [Ty.e .u64 b0] [] (fun v b => v = (RTs.shape [.d .i64] y).1 ∧ b = (RTs.shape [.d .i64] y).2) := fun_sound (H := f132H) (fn := Tryz.f132) (by kernel_rfl) (by kernel_rfl) (fun post => by kernel_rfl)
noncomputable def f133H : Hint := ⟨fun _ => false, false, fun _ => [], fun _ => [], fun _ => [], fun _ => [], fun _ => [], fun _ => [], resOf P 133, fun g _ _ => retOf P g⟩
noncomputable def ref09_Nan_T : Tree (RTs.den [.d .u64]) :=
 .ret (9221120237041090560 : UInt64)
noncomputable def ref09_Nan : Option (RTs.den [.d .u64]) := (ref09_Nan_T).run
theorem ref09_Nan_s : ∀ y, ref09_Nan = some y → CSem Tryz.prog 133 [] [] (fun v b => v = (RTs.shape [.d .u64] y).1 ∧ b = (RTs.shape [.d .u64] y).2) := fun_sound (H := f133H) (fn := Tryz.f133) (by kernel_rfl) (by kernel_rfl) (fun post => by kernel_rfl)
noncomputable def f95H : Hint := ⟨fun _ => false, false, fun _ => [], fun _ => [], fun _ => [], fun _ => [], fun _ => [], fun _ => [], resOf P 95, fun g _ _ => retOf P g⟩
noncomputable def ref09_Clean_T (b0 : UInt64) : Tree (RTs.den [.d .u64]) :=
 .ex (ref09_Kind_s b0) fun y0 =>
 .br (decide (y0 = 4))
  (.ex ref09_Nan_s fun y1 =>
  .ret y1)
  (.ret b0)
noncomputable def ref09_Clean (b0 : UInt64) : Option (RTs.den [.d .u64]) := (ref09_Clean_T b0).run
theorem ref09_Clean_s (b0 : UInt64) : ∀ y, ref09_Clean b0 = some y → CSem Tryz.prog 95 [Ty.e .u64 b0] [] (fun v b => v = (RTs.shape [.d .u64] y).1 ∧ b = (RTs.shape [.d .u64] y).2) := fun_sound (H := f95H) (fn := Tryz.f95) (by kernel_rfl) (by kernel_rfl) (fun post => by kernel_rfl)
noncomputable def f66H : Hint := ⟨fun _ => false, false, fun _ => [], fun _ => [], fun _ => [], fun _ => [], fun _ => [], fun _ => [], resOf P 66, fun g _ _ => retOf P g⟩
noncomputable def ref18_Right_T (mode0 : Int) (x1 : ValD) : Tree (RTs.den [.d .bool]) :=
 .ex (ref07_Same_s x1.1 (Bool.false, ([], ([], ())))) fun y0 =>
 .br (decide (mode0 = 0))
  (.br (decide (x1.2.1 = (0 : UInt64)))
   (.br (decide (x1.2.2.1 = 0))
    (.ex (ref07_Right_s x1.1) fun y1 =>
    .ret y1)
    (.ret Bool.false))
   (.ret Bool.false))
  (.br (decide (mode0 = 1))
   (.br y0
    (.br (decide (x1.2.2.1 = 0))
     (.ex (ref09_Clean_s x1.2.1) fun y2 =>
     .ret (decide (y2 = x1.2.1)))
     (.ret Bool.false))
    (.ret Bool.false))
   (.br (decide (mode0 = 2))
    (.br y0
     (.br (decide (x1.2.1 = (0 : UInt64)))
      (.ret (decide ((0 : Int) ≤ x1.2.2.1)))
      (.ret Bool.false))
     (.ret Bool.false))
    (.ret Bool.false)))
noncomputable def ref18_Right (mode0 : Int) (x1 : ValD) : Option (RTs.den [.d .bool]) := (ref18_Right_T mode0 x1).run
theorem ref18_Right_s (mode0 : Int) (x1 : ValD) : ∀ y, ref18_Right mode0 x1 = some y → CSem Tryz.prog 66 [Ty.e .i64 mode0, Ty.e valT x1] [] (fun v b => v = (RTs.shape [.d .bool] y).1 ∧ b = (RTs.shape [.d .bool] y).2) := fun_sound (H := f66H) (fn := Tryz.f66) (by kernel_rfl) (by kernel_rfl) (fun post => by kernel_rfl)
noncomputable def f40H : Hint := ⟨fun _ => false, false, fun n => lk n [(2, [0, 1, 7, 8])], fun _ => [], fun _ => [], fun _ => [], fun _ => [], fun n => lk n [(2, [⟨.exit 0, [], [], mores P [], []⟩, ⟨.ret, [4], [], mores P [(4, 4)], []⟩])], resOf P 40, fun g _ _ => retOf P g⟩
noncomputable def ref18_Vals_L2_st (p0 : Int) (p1 : (List ValD)) (p2 : Int) (s : Int) : St := ⟨slots 19 [(0, .e (.c (.i64 p0))), (1, .e (.c (.sl valT p1))), (7, .e (.c (.i64 p2))), (8, .e (.c (.i64 s)))], []⟩
noncomputable def ref18_Vals_L2_out (p0 : Int) (p1 : (List ValD)) (p2 : Int) : (Unit ⊕ Bool) → Exit × St := fun y => match y with
  | (.inl y) => ((.exit 0), ⟨slots 19 [], []⟩)
  | (.inr y) => (.ret, ⟨slots 19 [(4, .e (.c (.bool y)))], []⟩)
noncomputable def ref18_Vals_T2 (p0 : Int) (p1 : (List ValD)) (p2 : Int) (s : Int) : Tree (Int ⊕ (Unit ⊕ Bool)) :=
 .br (decide (s < p2))
  (.ob ((((0 : Int) ≤ s) ∧ (s < (↑(List.length p1) : Int)))) (
  .ex (ref18_Right_s p0 (List.getD p1 (Int.toNat s) default)) fun y0 =>
  .br (!y0)
   (.ret (.inr (.inr Bool.false)))
   (.ret (.inl (w64 (s + 1))))))
  (.ret (.inr (.inl ())))
noncomputable def ref18_Vals_L2 (p0 : Int) (p1 : (List ValD)) (p2 : Int) (s : Int) : Option (Unit ⊕ Bool) := iter (fun s => (ref18_Vals_T2 p0 p1 p2 s).run) F0 s
noncomputable abbrev ref18_Vals_L2_c : Code := loopOf Tryz.f40 2
theorem ref18_Vals_L2_s (p0 : Int) (p1 : (List ValD)) (p2 : Int) (s : Int) : ∀ o, ref18_Vals_L2 p0 p1 p2 s = some o → LpK Tryz.prog f40H 0 2 ref18_Vals_L2_c (ref18_Vals_L2_st p0 p1 p2 s) (fun e s' => e = (ref18_Vals_L2_out p0 p1 p2 o).1 ∧ s' = (ref18_Vals_L2_out p0 p1 p2 o).2) := fun o => iter_sound (tr := fun s => (ref18_Vals_T2 p0 p1 p2 s)) (st := fun s => ref18_Vals_L2_st p0 p1 p2 s) (by kernel_rfl) (fun s K => by kernel_rfl) F0 s o
noncomputable def ref18_Vals_T (mode0 : Int) (l1 : (List ValD)) : Tree (RTs.den [.d .bool]) :=
 .alt (isL (ref18_Vals_L2 mode0 l1 (↑(List.length l1) : Int) 0))
  (.an (s_u (s_l (ref18_Vals_L2_s mode0 l1 (↑(List.length l1) : Int) 0))) (
  .ret Bool.true))
  (.ex (s_r (ref18_Vals_L2_s mode0 l1 (↑(List.length l1) : Int) 0)) fun y0 =>
  .ret y0)
noncomputable def ref18_Vals (mode0 : Int) (l1 : (List ValD)) : Option (RTs.den [.d .bool]) := (ref18_Vals_T mode0 l1).run
theorem ref18_Vals_s (mode0 : Int) (l1 : (List ValD)) : ∀ y, ref18_Vals mode0 l1 = some y → CSem Tryz.prog 40 [Ty.e .i64 mode0, Ty.e (.slice valT) l1] [] (fun v b => v = (RTs.shape [.d .bool] y).1 ∧ b = (RTs.shape [.d .bool] y).2) := fun_sound (H := f40H) (fn := Tryz.f40) (by kernel_rfl) (by kernel_rfl) (fun post => by kernel_rfl)
noncomputable def f17H : Hint := ⟨fun _ => false, false, fun n => lk n [(4, [0, 1, 17, 18])], fun _ => [], fun _ => [], fun _ => [], fun _ => [], fun n => lk n [(4, [⟨.exit 0, [], [], mores P [], []⟩, ⟨.ret, [4], [], mores P [(4, 4)], []⟩])], resOf P 17, fun g _ _ => retOf P g⟩
noncomputable def law26_Right_L4_st (p0 : Int) (p1 : (List ArgD)) (p2 : Int) (s : Int) : St := ⟨slots 30 [(0, .e (.c (.i64 p0))), (1, .e (.c (.sl argT p1))), (17, .e (.c (.i64 p2))), (18, .e (.c (.i64 s)))], []⟩
noncomputable def law26_Right_L4_out (p0 : Int) (p1 : (List ArgD)) (p2 : Int) : (Unit ⊕ Bool) → Exit × St := fun y => match y with
  | (.inl y) => ((.exit 0), ⟨slots 30 [], []⟩)
  | (.inr y) => (.ret, ⟨slots 30 [(4, .e (.c (.bool y)))], []⟩)
noncomputable def law26_Right_T4 (p0 : Int) (p1 : (List ArgD)) (p2 : Int) (s : Int) : Tree (Int ⊕ (Unit ⊕ Bool)) :=
 .br (decide (s < p2))
  (.ob ((((0 : Int) ≤ s) ∧ (s < (↑(List.length p1) : Int)))) (
  .ex (ref18_Vals_s p0 (List.getD p1 (Int.toNat s) default).2.1) fun y0 =>
  .br (!y0)
   (.ret (.inr (.inr Bool.false)))
   (.ret (.inl (w64 (s + 1))))))
  (.ret (.inr (.inl ())))
noncomputable def law26_Right_L4 (p0 : Int) (p1 : (List ArgD)) (p2 : Int) (s : Int) : Option (Unit ⊕ Bool) := iter (fun s => (law26_Right_T4 p0 p1 p2 s).run) F0 s
noncomputable abbrev law26_Right_L4_c : Code := loopOf Tryz.f17 4
theorem law26_Right_L4_s (p0 : Int) (p1 : (List ArgD)) (p2 : Int) (s : Int) : ∀ o, law26_Right_L4 p0 p1 p2 s = some o → LpK Tryz.prog f17H 0 4 law26_Right_L4_c (law26_Right_L4_st p0 p1 p2 s) (fun e s' => e = (law26_Right_L4_out p0 p1 p2 o).1 ∧ s' = (law26_Right_L4_out p0 p1 p2 o).2) := fun o => iter_sound (tr := fun s => (law26_Right_T4 p0 p1 p2 s)) (st := fun s => law26_Right_L4_st p0 p1 p2 s) (by kernel_rfl) (fun s K => by kernel_rfl) F0 s o
noncomputable def law26_Right_T (mode0 : Int) (l1 : (List ArgD)) : Tree (RTs.den [.d .bool]) :=
 .br (!(decide (mode0 = 0)))
  (.br (!(decide (mode0 = 1)))
   (.ret Bool.false)
   (.ex (plain_Args_s l1) fun y0 =>
   .br y0
    (.ret Bool.false)
    (.alt (isL (law26_Right_L4 mode0 l1 (↑(List.length l1) : Int) 0))
     (.an (s_u (s_l (law26_Right_L4_s mode0 l1 (↑(List.length l1) : Int) 0))) (
     .ret Bool.true))
     (.ex (s_r (law26_Right_L4_s mode0 l1 (↑(List.length l1) : Int) 0)) fun y1 =>
     .ret y1))))
  (.ex (plain_Args_s l1) fun y2 =>
  .br y2
   (.ret Bool.false)
   (.alt (isL (law26_Right_L4 mode0 l1 (↑(List.length l1) : Int) 0))
    (.an (s_u (s_l (law26_Right_L4_s mode0 l1 (↑(List.length l1) : Int) 0))) (
    .ret Bool.true))
    (.ex (s_r (law26_Right_L4_s mode0 l1 (↑(List.length l1) : Int) 0)) fun y3 =>
    .ret y3)))
noncomputable def law26_Right (mode0 : Int) (l1 : (List ArgD)) : Option (RTs.den [.d .bool]) := (law26_Right_T mode0 l1).run
theorem law26_Right_s (mode0 : Int) (l1 : (List ArgD)) : ∀ y, law26_Right mode0 l1 = some y → CSem Tryz.prog 17 [Ty.e .i64 mode0, Ty.e (.slice argT) l1] [] (fun v b => v = (RTs.shape [.d .bool] y).1 ∧ b = (RTs.shape [.d .bool] y).2) := fun_sound (H := f17H) (fn := Tryz.f17) (by kernel_rfl) (by kernel_rfl) (fun post => by kernel_rfl)
noncomputable def f18H : Hint := ⟨fun _ => false, false, fun n => lk n [(2, [1, 2, 7, 8])], fun _ => [], fun _ => [], fun _ => [], fun _ => [], fun n => lk n [(2, [⟨.exit 0, [1, 2], [], mores P [], [2]⟩, ⟨.ret, [4], [], mores P [(4, 4)], [2]⟩])], resOf P 18, fun g _ _ => retOf P g⟩
noncomputable def law31_Many_L2_st (p0 : (List (List Int))) (p1 p2 p3 p4 p5 p6 p7 p8 p9 : Int) (p10 : Bool) (p11 : (List Int)) (s : Int) : St := ⟨slots 27 [(1, .e (.c (.sl (.slice .i64) p0))), (2, .e (.c (.ptr 0 0))), (7, .e (.c (.i64 p1))), (8, .e (.c (.i64 s)))], [.cells 24 [.i64 p2, .i64 p3, .i64 p4, .i64 p5, .i64 p6, .i64 p7, .i64 p8, .i64 p9, .bool p10, .sl .i64 p11]]⟩
noncomputable def law31_Many_L2_out (p0 : (List (List Int))) (p1 p2 p3 p4 p5 p6 p7 p8 p9 : Int) (p10 : Bool) (p11 : (List Int)) : (Unit ⊕ Bool) → Exit × St := fun y => match y with
  | (.inl y) => ((.exit 0), ⟨slots 27 [(1, .e (.c (.sl (.slice .i64) p0))), (2, .e (.c (.ptr 0 0)))], [.cells 24 [.i64 p2, .i64 p3, .i64 p4, .i64 p5, .i64 p6, .i64 p7, .i64 p8, .i64 p9, .bool p10, .sl .i64 p11]]⟩)
  | (.inr y) => (.ret, ⟨slots 27 [(4, .e (.c (.bool y)))], []⟩)
noncomputable def law31_Many_T2 (p0 : (List (List Int))) (p1 p2 p3 p4 p5 p6 p7 p8 p9 : Int) (p10 : Bool) (p11 : (List Int)) (s : Int) : Tree (Int ⊕ (Unit ⊕ Bool)) :=
 .br (decide (s < p1))
  (.ob ((((0 : Int) ≤ s) ∧ (s < (↑(List.length p0) : Int)))) (
  .br (decide ((20 : Int) < (↑(List.length (List.getD p0 (Int.toNat s) default)) : Int)))
   (.ret (.inr (.inr Bool.true)))
   (.ret (.inl (w64 (s + 1))))))
  (.ret (.inr (.inl ())))
noncomputable def law31_Many_L2 (p0 : (List (List Int))) (p1 p2 p3 p4 p5 p6 p7 p8 p9 : Int) (p10 : Bool) (p11 : (List Int)) (s : Int) : Option (Unit ⊕ Bool) := iter (fun s => (law31_Many_T2 p0 p1 p2 p3 p4 p5 p6 p7 p8 p9 p10 p11 s).run) F0 s
noncomputable abbrev law31_Many_L2_c : Code := loopOf Tryz.f18 2
theorem law31_Many_L2_s (p0 : (List (List Int))) (p1 p2 p3 p4 p5 p6 p7 p8 p9 : Int) (p10 : Bool) (p11 : (List Int)) (s : Int) : ∀ o, law31_Many_L2 p0 p1 p2 p3 p4 p5 p6 p7 p8 p9 p10 p11 s = some o → LpK Tryz.prog f18H 0 2 law31_Many_L2_c (law31_Many_L2_st p0 p1 p2 p3 p4 p5 p6 p7 p8 p9 p10 p11 s) (fun e s' => e = (law31_Many_L2_out p0 p1 p2 p3 p4 p5 p6 p7 p8 p9 p10 p11 o).1 ∧ s' = (law31_Many_L2_out p0 p1 p2 p3 p4 p5 p6 p7 p8 p9 p10 p11 o).2) := fun o => iter_sound (tr := fun s => (law31_Many_T2 p0 p1 p2 p3 p4 p5 p6 p7 p8 p9 p10 p11 s)) (st := fun s => law31_Many_L2_st p0 p1 p2 p3 p4 p5 p6 p7 p8 p9 p10 p11 s) (by kernel_rfl) (fun s K => by kernel_rfl) F0 s o
noncomputable def law31_Many_T (a0 : AttrD) (dims1 : (List (List Int))) : Tree (RTs.den [.d .bool]) :=
 .alt (isL (law31_Many_L2 dims1 (↑(List.length dims1) : Int) a0.1 a0.2.1 a0.2.2.1 a0.2.2.2.1 a0.2.2.2.2.1 a0.2.2.2.2.2.1 a0.2.2.2.2.2.2.1 a0.2.2.2.2.2.2.2.1 a0.2.2.2.2.2.2.2.2.1 a0.2.2.2.2.2.2.2.2.2.1 0))
  (.an (s_u (s_l (law31_Many_L2_s dims1 (↑(List.length dims1) : Int) a0.1 a0.2.1 a0.2.2.1 a0.2.2.2.1 a0.2.2.2.2.1 a0.2.2.2.2.2.1 a0.2.2.2.2.2.2.1 a0.2.2.2.2.2.2.2.1 a0.2.2.2.2.2.2.2.2.1 a0.2.2.2.2.2.2.2.2.2.1 0))) (
  .br (decide ((80 : Int) < (↑(List.length a0.2.2.2.2.2.2.2.2.2.1) : Int)))
   (.ret Bool.true)
   (.ret (decide ((10 : Int) < (↑(List.length dims1) : Int))))))
  (.ex (s_r (law31_Many_L2_s dims1 (↑(List.length dims1) : Int) a0.1 a0.2.1 a0.2.2.1 a0.2.2.2.1 a0.2.2.2.2.1 a0.2.2.2.2.2.1 a0.2.2.2.2.2.2.1 a0.2.2.2.2.2.2.2.1 a0.2.2.2.2.2.2.2.2.1 a0.2.2.2.2.2.2.2.2.2.1 0)) fun y0 =>
  .ret y0)
noncomputable def law31_Many (a0 : AttrD) (dims1 : (List (List Int))) : Option (RTs.den [.d .bool]) := (law31_Many_T a0 dims1).run
theorem law31_Many_s (a0 : AttrD) (dims1 : (List (List Int))) : ∀ y, law31_Many a0 dims1 = some y → CSem Tryz.prog 18 [Ty.e attrT a0, Ty.e (.slice (.slice .i64)) dims1] [] (fun v b => v = (RTs.shape [.d .bool] y).1 ∧ b = (RTs.shape [.d .bool] y).2) := fun_sound (H := f18H) (fn := Tryz.f18) (by kernel_rfl) (by kernel_rfl) (fun post => by kernel_rfl)
noncomputable def f19H : Hint := ⟨fun _ => false, false, fun n => lk n [(3, [0, 3, 6, 7])], fun _ => [], fun n => lk n [(3, openOf P [(3, 37)])], fun _ => [], fun _ => [], fun n => lk n [(3, [⟨.exit 0, [3], [3], mores P [], []⟩])], resOf P 19, fun g _ _ => retOf P g⟩
noncomputable def ref32_Dims_L3_st (p0 : (List ArgD)) (p1 : Int) (s : (Int × (List (List Int)))) : St := ⟨slots 20 [(0, .e (.c (.sl argT p0))), (3, .e (.c (.ref 0))), (6, .e (.c (.i64 p1))), (7, .e (.c (.i64 s.1)))], [.row 22 (.slice .i64) s.2 false]⟩
noncomputable def ref32_Dims_L3_out (p0 : (List ArgD)) (p1 : Int) : (List (List Int)) → Exit × St := fun y => ((.exit 0), ⟨slots 20 [(3, .e (.c (.ref 0)))], [.row 22 (.slice .i64) y false]⟩)
noncomputable def ref32_Dims_T3 (p0 : (List ArgD)) (p1 : Int) (s : (Int × (List (List Int)))) : Tree ((Int × (List (List Int))) ⊕ (List (List Int))) :=
 .br (decide (s.1 < p1))
  (.ob ((((0 : Int) ≤ s.1) ∧ (s.1 < (↑(List.length p0) : Int)))) (
  .ob (((((List.length s.2) + 1) * 24) ≤ 140737488355328)) (
  .ret (.inl ((w64 (s.1 + 1)), (s.2 ++ ((List.getD p0 (Int.toNat s.1) default).1 :: [])))))))
  (.ret (.inr s.2))
noncomputable def ref32_Dims_L3 (p0 : (List ArgD)) (p1 : Int) (s : (Int × (List (List Int)))) : Option (List (List Int)) := iter (fun s => (ref32_Dims_T3 p0 p1 s).run) F0 s
noncomputable abbrev ref32_Dims_L3_c : Code := loopOf Tryz.f19 3
theorem ref32_Dims_L3_s (p0 : (List ArgD)) (p1 : Int) (s : (Int × (List (List Int)))) : ∀ o, ref32_Dims_L3 p0 p1 s = some o → LpK Tryz.prog f19H 0 3 ref32_Dims_L3_c (ref32_Dims_L3_st p0 p1 s) (fun e s' => e = (ref32_Dims_L3_out p0 p1 o).1 ∧ s' = (ref32_Dims_L3_out p0 p1 o).2) := fun o => iter_sound (tr := fun s => (ref32_Dims_T3 p0 p1 s)) (st := fun s => ref32_Dims_L3_st p0 p1 s) (by kernel_rfl) (fun s K => by kernel_rfl) F0 s o
noncomputable def ref32_Dims_T (args0 : (List ArgD)) : Tree (RTs.den [.d (.slice (.slice .i64))]) :=
 .ex (ref32_Dims_L3_s args0 (↑(List.length args0) : Int) (0, [])) fun y0 =>
 .ret y0
noncomputable def ref32_Dims (args0 : (List ArgD)) : Option (RTs.den [.d (.slice (.slice .i64))]) := (ref32_Dims_T args0).run
theorem ref32_Dims_s (args0 : (List ArgD)) : ∀ y, ref32_Dims args0 = some y → CSem Tryz.prog 19 [Ty.e (.slice argT) args0] [] (fun v b => v = (RTs.shape [.d (.slice (.slice .i64))] y).1 ∧ b = (RTs.shape [.d (.slice (.slice .i64))] y).2) := fun_sound (H := f19H) (fn := Tryz.f19) (by kernel_rfl) (by kernel_rfl) (fun post => by kernel_rfl)
noncomputable def f4H : Hint := ⟨fun _ => false, false, fun _ => [], fun _ => [], fun _ => [], fun _ => [], fun _ => [], fun _ => [], resOf P 4, fun g _ _ => retOf P g⟩
noncomputable def law33_Fair_T (mode0 : Int) (a1 : StepD) (cot2 : (List ValD)) : Tree (RTs.den [.d .bool]) :=
 .ob ((((0 + (List.length a1.2.2.1)) * 48) ≤ 140737488355328)) (
 .ob (((((List.length a1.2.2.1) + 2) * 48) ≤ 140737488355328)) (
 .ex (law26_Right_s mode0 (a1.2.2.1 ++ ((a1.2.2.2.1.1, (a1.2.2.2.1.2.1, ())) :: (([], (cot2, ())) :: [])))) fun y0 =>
 .br y0
  (.ex (ref32_Dims_s (a1.2.2.1 ++ ((a1.2.2.2.1.1, (a1.2.2.2.1.2.1, ())) :: (([], (cot2, ())) :: [])))) fun y1 =>
  .ex (law31_Many_s a1.2.1 y1) fun y2 =>
  .br (!y2)
   (.ret (decide ((↑(List.length a1.2.2.2.2.1) : Int) ≤ 100)))
   (.ret Bool.false))
  (.ret Bool.false)))
noncomputable def law33_Fair (mode0 : Int) (a1 : StepD) (cot2 : (List ValD)) : Option (RTs.den [.d .bool]) := (law33_Fair_T mode0 a1 cot2).run
theorem law33_Fair_s (mode0 : Int) (a1 : StepD) (cot2 : (List ValD)) : ∀ y, law33_Fair mode0 a1 cot2 = some y → CSem Tryz.prog 4 [Ty.e .i64 mode0, Ty.e stepT a1, Ty.e (.slice valT) cot2] [] (fun v b => v = (RTs.shape [.d .bool] y).1 ∧ b = (RTs.shape [.d .bool] y).2) := fun_sound (H := f4H) (fn := Tryz.f4) (by kernel_rfl) (by kernel_rfl) (fun post => by kernel_rfl)
noncomputable def f28H : Hint := ⟨fun _ => false, false, fun n => lk n [(4, [0, 10, 11]), (11, [0, 4, 21, 22])], fun _ => [], fun _ => [], fun _ => [], fun _ => [], fun n => lk n [(4, [⟨.exit 0, [0], [], mores P [], []⟩, ⟨.ret, [2], [], mores P [(2, 3)], []⟩]), (11, [⟨.exit 2, [], [], mores P [], []⟩, ⟨.ret, [2], [], mores P [(2, 3)], []⟩])], resOf P 28, fun g _ _ => retOf P g⟩
noncomputable def ref19_Check_L11_st (p0 : (List Int)) (p1 : Int) (s : (Int × Int)) : St := ⟨slots 46 [(0, .e (.c (.sl .i64 p0))), (4, .e (.c (.i64 s.1))), (21, .e (.c (.i64 p1))), (22, .e (.c (.i64 s.2)))], []⟩
noncomputable def ref19_Check_L11_out (p0 : (List Int)) (p1 : Int) : (Unit ⊕ Int) → Exit × St := fun y => match y with
  | (.inl y) => ((.exit 2), ⟨slots 46 [], []⟩)
  | (.inr y) => (.ret, ⟨slots 46 [(2, .e (.c (.i64 y)))], []⟩)
noncomputable def ref19_Check_T11 (p0 : (List Int)) (p1 : Int) (s : (Int × Int)) : Tree ((Int × Int) ⊕ (Unit ⊕ Int)) :=
 .br (decide (s.2 < p1))
  (.ob ((((0 : Int) ≤ s.2) ∧ (s.2 < (↑(List.length p0) : Int)))) (
  .br (decide ((64 : Int) < (List.getD p0 (Int.toNat s.2) default)))
   (.ret (.inr (.inr 12)))
   (.ob ((((0 : Int) ≤ s.2) ∧ (s.2 < (↑(List.length p0) : Int)))) (
   .br (decide ((64 : Int) < (w64 (s.1 * (List.getD p0 (Int.toNat s.2) default)))))
    (.ret (.inr (.inr 12)))
    (.ob ((((0 : Int) ≤ s.2) ∧ (s.2 < (↑(List.length p0) : Int)))) (
    .ret (.inl ((w64 (s.1 * (List.getD p0 (Int.toNat s.2) default))), (w64 (s.2 + 1))))))))))
  (.ret (.inr (.inl ())))
noncomputable def ref19_Check_L11 (p0 : (List Int)) (p1 : Int) (s : (Int × Int)) : Option (Unit ⊕ Int) := iter (fun s => (ref19_Check_T11 p0 p1 s).run) F0 s
noncomputable abbrev ref19_Check_L11_c : Code := loopOf Tryz.f28 11
theorem ref19_Check_L11_s (p0 : (List Int)) (p1 : Int) (s : (Int × Int)) : ∀ o, ref19_Check_L11 p0 p1 s = some o → LpK Tryz.prog f28H 0 11 ref19_Check_L11_c (ref19_Check_L11_st p0 p1 s) (fun e s' => e = (ref19_Check_L11_out p0 p1 o).1 ∧ s' = (ref19_Check_L11_out p0 p1 o).2) := fun o => iter_sound (tr := fun s => (ref19_Check_T11 p0 p1 s)) (st := fun s => ref19_Check_L11_st p0 p1 s) (by kernel_rfl) (fun s K => by kernel_rfl) F0 s o
noncomputable def ref19_Check_L4_st (p0 : (List Int)) (p1 : Int) (s : Int) : St := ⟨slots 46 [(0, .e (.c (.sl .i64 p0))), (10, .e (.c (.i64 p1))), (11, .e (.c (.i64 s)))], []⟩
noncomputable def ref19_Check_L4_out (p0 : (List Int)) (p1 : Int) : (Unit ⊕ Int) → Exit × St := fun y => match y with
  | (.inl y) => ((.exit 0), ⟨slots 46 [(0, .e (.c (.sl .i64 p0)))], []⟩)
  | (.inr y) => (.ret, ⟨slots 46 [(2, .e (.c (.i64 y)))], []⟩)
noncomputable def ref19_Check_T4 (p0 : (List Int)) (p1 : Int) (s : Int) : Tree (Int ⊕ (Unit ⊕ Int)) :=
 .br (decide (s < p1))
  (.ob ((((0 : Int) ≤ s) ∧ (s < (↑(List.length p0) : Int)))) (
  .br (decide ((List.getD p0 (Int.toNat s) default) < 1))
   (.ret (.inr (.inr 8)))
   (.ret (.inl (w64 (s + 1))))))
  (.ret (.inr (.inl ())))
noncomputable def ref19_Check_L4 (p0 : (List Int)) (p1 : Int) (s : Int) : Option (Unit ⊕ Int) := iter (fun s => (ref19_Check_T4 p0 p1 s).run) F0 s
noncomputable abbrev ref19_Check_L4_c : Code := loopOf Tryz.f28 4
theorem ref19_Check_L4_s (p0 : (List Int)) (p1 : Int) (s : Int) : ∀ o, ref19_Check_L4 p0 p1 s = some o → LpK Tryz.prog f28H 0 4 ref19_Check_L4_c (ref19_Check_L4_st p0 p1 s) (fun e s' => e = (ref19_Check_L4_out p0 p1 o).1 ∧ s' = (ref19_Check_L4_out p0 p1 o).2) := fun o => iter_sound (tr := fun s => (ref19_Check_T4 p0 p1 s)) (st := fun s => ref19_Check_L4_st p0 p1 s) (by kernel_rfl) (fun s K => by kernel_rfl) F0 s o
noncomputable def ref19_Check_T (d0 : (List Int)) : Tree (RTs.den [.d .i64]) :=
 .br (decide ((6 : Int) < (↑(List.length d0) : Int)))
  (.ret 9)
  (.alt (isL (ref19_Check_L4 d0 (↑(List.length d0) : Int) 0))
   (.an (s_u (s_l (ref19_Check_L4_s d0 (↑(List.length d0) : Int) 0))) (
   .alt (isL (ref19_Check_L11 d0 (↑(List.length d0) : Int) (1, 0)))
    (.an (s_u (s_l (ref19_Check_L11_s d0 (↑(List.length d0) : Int) (1, 0)))) (
    .ret 0))
    (.ex (s_r (ref19_Check_L11_s d0 (↑(List.length d0) : Int) (1, 0))) fun y0 =>
    .ret y0)))
   (.ex (s_r (ref19_Check_L4_s d0 (↑(List.length d0) : Int) 0)) fun y1 =>
   .ret y1))
noncomputable def ref19_Check (d0 : (List Int)) : Option (RTs.den [.d .i64]) := (ref19_Check_T d0).run
theorem ref19_Check_s (d0 : (List Int)) : ∀ y, ref19_Check d0 = some y → CSem Tryz.prog 28 [Ty.e (.slice .i64) d0] [] (fun v b => v = (RTs.shape [.d .i64] y).1 ∧ b = (RTs.shape [.d .i64] y).2) := fun_sound (H := f28H) (fn := Tryz.f28) (by kernel_rfl) (by kernel_rfl) (fun post => by kernel_rfl)
noncomputable def f7H : Hint := ⟨fun _ => false, false, fun n => lk n [(5, [0, 3, 9, 10])], fun _ => [], fun _ => [], fun _ => [], fun _ => [], fun n => lk n [(5, [⟨.exit 0, [3], [3], mores P [], []⟩])], resOf P 7, fun g _ _ => retOf P g⟩
noncomputable def ref19_Count_L5_st (p0 : (List Int)) (p1 : Int) (s : (Int × Int)) : St := ⟨slots 21 [(0, .e (.c (.sl .i64 p0))), (3, .e (.c (.i64 s.1))), (9, .e (.c (.i64 p1))), (10, .e (.c (.i64 s.2)))], []⟩
noncomputable def ref19_Count_L5_out (p0 : (List Int)) (p1 : Int) : Int → Exit × St := fun y => ((.exit 0), ⟨slots 21 [(3, .e (.c (.i64 y)))], []⟩)
noncomputable def ref19_Count_T5 (p0 : (List Int)) (p1 : Int) (s : (Int × Int)) : Tree ((Int × Int) ⊕ Int) :=
 .br (decide (s.2 < p1))
  (.ob ((((0 : Int) ≤ s.2) ∧ (s.2 < (↑(List.length p0) : Int)))) (
  .ret (.inl ((w64 (s.1 * (List.getD p0 (Int.toNat s.2) default))), (w64 (s.2 + 1))))))
  (.ret (.inr s.1))
noncomputable def ref19_Count_L5 (p0 : (List Int)) (p1 : Int) (s : (Int × Int)) : Option Int := iter (fun s => (ref19_Count_T5 p0 p1 s).run) F0 s
noncomputable abbrev ref19_Count_L5_c : Code := loopOf Tryz.f7 5
theorem ref19_Count_L5_s (p0 : (List Int)) (p1 : Int) (s : (Int × Int)) : ∀ o, ref19_Count_L5 p0 p1 s = some o → LpK Tryz.prog f7H 0 5 ref19_Count_L5_c (ref19_Count_L5_st p0 p1 s) (fun e s' => e = (ref19_Count_L5_out p0 p1 o).1 ∧ s' = (ref19_Count_L5_out p0 p1 o).2) := fun o => iter_sound (tr := fun s => (ref19_Count_T5 p0 p1 s)) (st := fun s => ref19_Count_L5_st p0 p1 s) (by kernel_rfl) (fun s K => by kernel_rfl) F0 s o
noncomputable def ref19_Count_T (d0 : (List Int)) : Tree (RTs.den [.d .i64]) :=
 .ex (ref19_Check_s d0) fun y0 =>
 .br (!(decide (y0 = 0)))
  (.ret 0)
  (.ex (ref19_Count_L5_s d0 (↑(List.length d0) : Int) (1, 0)) fun y1 =>
  .ret y1)
noncomputable def ref19_Count (d0 : (List Int)) : Option (RTs.den [.d .i64]) := (ref19_Count_T d0).run
theorem ref19_Count_s (d0 : (List Int)) : ∀ y, ref19_Count d0 = some y → CSem Tryz.prog 7 [Ty.e (.slice .i64) d0] [] (fun v b => v = (RTs.shape [.d .i64] y).1 ∧ b = (RTs.shape [.d .i64] y).2) := fun_sound (H := f7H) (fn := Tryz.f7) (by kernel_rfl) (by kernel_rfl) (fun post => by kernel_rfl)
noncomputable def f26H : Hint := ⟨fun _ => false, false, fun _ => [], fun _ => [], fun _ => [], fun _ => [], fun _ => [], fun _ => [], resOf P 26, fun g _ _ => retOf P g⟩
noncomputable def ref30_Class_T (op0 : Int) : Tree (RTs.den [.d .i64]) :=
 .br (decide (op0 < 1))
  (.ret 0)
  (.br (decide ((40 : Int) < op0))
   (.ret 0)
   (.br (decide (op0 ≤ 26))
    (.ret 1)
    (.br (decide (op0 ≤ 31))
     (.ret 2)
     (.br (decide (op0 = 32))
      (.ret 3)
      (.br (decide (op0 ≤ 37))
       (.ret 4)
       (.ret 5))))))
noncomputable def ref30_Class (op0 : Int) : Option (RTs.den [.d .i64]) := (ref30_Class_T op0).run
theorem ref30_Class_s (op0 : Int) : ∀ y, ref30_Class op0 = some y → CSem Tryz.prog 26 [Ty.e .i64 op0] [] (fun v b => v = (RTs.shape [.d .i64] y).1 ∧ b = (RTs.shape [.d .i64] y).2) := fun_sound (H := f26H) (fn := Tryz.f26) (by kernel_rfl) (by kernel_rfl) (fun post => by kernel_rfl)
noncomputable def f41H : Hint := ⟨fun _ => false, false, fun _ => [], fun _ => [], fun _ => [], fun _ => [], fun _ => [], fun _ => [], resOf P 41, fun g _ _ => retOf P g⟩
noncomputable def ref30_Arity_T (op0 : Int) : Tree (RTs.den [.d .i64]) :=
 .br (decide (op0 < 1))
  (.ret 0)
  (.br (decide ((40 : Int) < op0))
   (.ret 0)
   (.br (decide ((17 : Int) ≤ op0))
    (.br (decide (op0 ≤ 23))
     (.ret 2)
     (.br (decide (op0 = 32))
      (.ret 2)
      (.br (decide (op0 = 40))
       (.ret 2)
       (.br (decide ((24 : Int) ≤ op0))
        (.br (decide (op0 ≤ 26))
         (.ret 3)
         (.ret 1))
        (.ret 1)))))
    (.br (decide (op0 = 32))
     (.ret 2)
     (.br (decide (op0 = 40))
      (.ret 2)
      (.br (decide ((24 : Int) ≤ op0))
       (.br (decide (op0 ≤ 26))
        (.ret 3)
        (.ret 1))
       (.ret 1))))))
noncomputable def ref30_Arity (op0 : Int) : Option (RTs.den [.d .i64]) := (ref30_Arity_T op0).run
theorem ref30_Arity_s (op0 : Int) : ∀ y, ref30_Arity op0 = some y → CSem Tryz.prog 41 [Ty.e .i64 op0] [] (fun v b => v = (RTs.shape [.d .i64] y).1 ∧ b = (RTs.shape [.d .i64] y).2) := fun_sound (H := f41H) (fn := Tryz.f41) (by kernel_rfl) (by kernel_rfl) (fun post => by kernel_rfl)
noncomputable def f67H : Hint := ⟨fun _ => false, false, fun _ => [], fun _ => [], fun _ => [], fun _ => [], fun _ => [], fun _ => [], resOf P 67, fun g _ _ => retOf P g⟩
noncomputable def ref31_Const_T (p0 : Int) (q1 : Int) : Tree (RTs.den [.d .bool]) :=
 .br (decide (((-1048576) : Int) ≤ p0))
  (.br (decide (p0 ≤ 1048576))
   (.br (decide ((1 : Int) ≤ q1))
    (.ret (decide (q1 ≤ 1048576)))
    (.ret Bool.false))
   (.ret Bool.false))
  (.ret Bool.false)
noncomputable def ref31_Const (p0 : Int) (q1 : Int) : Option (RTs.den [.d .bool]) := (ref31_Const_T p0 q1).run
theorem ref31_Const_s (p0 : Int) (q1 : Int) : ∀ y, ref31_Const p0 q1 = some y → CSem Tryz.prog 67 [Ty.e .i64 p0, Ty.e .i64 q1] [] (fun v b => v = (RTs.shape [.d .bool] y).1 ∧ b = (RTs.shape [.d .bool] y).2) := fun_sound (H := f67H) (fn := Tryz.f67) (by kernel_rfl) (by kernel_rfl) (fun post => by kernel_rfl)
noncomputable def f42H : Hint := ⟨fun _ => false, false, fun _ => [], fun _ => [], fun _ => [], fun _ => [], fun _ => [], fun _ => [], resOf P 42, fun g _ _ => retOf P g⟩
noncomputable def ref31_Attr_T (op0 : Int) (a1 : AttrD) : Tree (RTs.den [.d .bool]) :=
 .br (decide (op0 = 12))
  (.br (decide (((-8) : Int) ≤ a1.1))
   (.ret (decide (a1.1 ≤ 8)))
   (.ret Bool.false))
  (.br (decide (op0 = 13))
   (.ex (ref31_Const_s a1.2.2.2.2.1 a1.2.2.2.2.2.1) fun y0 =>
   .ret y0)
   (.br (decide (op0 = 14))
    (.ex (ref31_Const_s a1.2.2.2.2.1 a1.2.2.2.2.2.1) fun y1 =>
    .ret y1)
    (.br (decide (op0 = 16))
     (.ex (ref31_Const_s a1.2.2.2.2.1 a1.2.2.2.2.2.1) fun y2 =>
     .ret y2)
     (.br (decide (op0 = 15))
      (.ex (ref31_Const_s a1.2.2.2.2.1 a1.2.2.2.2.2.1) fun y3 =>
      .br y3
       (.ex (ref31_Const_s a1.2.2.2.2.2.2.1 a1.2.2.2.2.2.2.2.1) fun y4 =>
       .br y4
        (.ret (decide ((w64 (a1.2.2.2.2.1 * a1.2.2.2.2.2.2.2.1)) ≤ (w64 (a1.2.2.2.2.2.2.1 * a1.2.2.2.2.2.1)))))
        (.ret Bool.false))
       (.ret Bool.false))
      (.ex (ref30_Class_s op0) fun y5 =>
      .ret (decide ((0 : Int) < y5)))))))
noncomputable def ref31_Attr (op0 : Int) (a1 : AttrD) : Option (RTs.den [.d .bool]) := (ref31_Attr_T op0 a1).run
theorem ref31_Attr_s (op0 : Int) (a1 : AttrD) : ∀ y, ref31_Attr op0 a1 = some y → CSem Tryz.prog 42 [Ty.e .i64 op0, Ty.e attrT a1] [] (fun v b => v = (RTs.shape [.d .bool] y).1 ∧ b = (RTs.shape [.d .bool] y).2) := fun_sound (H := f42H) (fn := Tryz.f42) (by kernel_rfl) (by kernel_rfl) (fun post => by kernel_rfl)
noncomputable def f32H : Hint := ⟨fun _ => false, false, fun n => lk n [(6, [0, 1]), (8, [0, 1]), (12, [0, 1, 8, 37, 38])], fun _ => [], fun n => lk n [(12, openOf P [(8, 22)])], fun _ => [], fun n => lk n [(6, mores P [(0, 22)]), (8, mores P [(1, 22)])], fun n => lk n [(6, [⟨.exit 0, [0, 1], [0], mores P [], []⟩]), (8, [⟨.exit 2, [0, 1], [1], mores P [], []⟩]), (12, [⟨.exit 4, [8], [8], mores P [], []⟩, ⟨.ret, [4, 5], [], mores P [(4, 22), (5, 3)], []⟩])], resOf P 32, fun g _ _ => retOf P g⟩
noncomputable def ref21_Two_L12_st (p0 p1 : (List Int)) (p2 : Int) (s : (Int × (List Int))) : St := ⟨slots 83 [(0, .e (.c (.sl .i64 p0))), (1, .e (.c (.sl .i64 p1))), (8, .e (.c (.ref 0))), (37, .e (.c (.i64 p2))), (38, .e (.c (.i64 s.1)))], [.row 3 .i64 s.2 false]⟩
noncomputable def ref21_Two_L12_out (p0 p1 : (List Int)) (p2 : Int) : ((List Int) ⊕ ((List Int) × Int)) → Exit × St := fun y => match y with
  | (.inl y) => ((.exit 4), ⟨slots 83 [(8, .e (.c (.ref 0)))], [.row 3 .i64 y false]⟩)
  | (.inr y) => (.ret, ⟨slots 83 [(4, .e (.c (.sl .i64 y.1))), (5, .e (.c (.i64 y.2)))], []⟩)
noncomputable def ref21_Two_T12 (p0 p1 : (List Int)) (p2 : Int) (s : (Int × (List Int))) : Tree ((Int × (List Int)) ⊕ ((List Int) ⊕ ((List Int) × Int))) :=
 .br (decide (s.1 < p2))
  (.ob ((((0 : Int) ≤ s.1) ∧ (s.1 < (↑(List.length p0) : Int)))) (
  .ob ((((0 : Int) ≤ s.1) ∧ (s.1 < (↑(List.length p1) : Int)))) (
  .br (!(decide ((List.getD p0 (Int.toNat s.1) default) = (List.getD p1 (Int.toNat s.1) default))))
   (.ob ((((0 : Int) ≤ s.1) ∧ (s.1 < (↑(List.length p0) : Int)))) (
   .br (!(decide ((List.getD p0 (Int.toNat s.1) default) = 1)))
    (.ob ((((0 : Int) ≤ s.1) ∧ (s.1 < (↑(List.length p1) : Int)))) (
    .br (!(decide ((List.getD p1 (Int.toNat s.1) default) = 1)))
     (.ret (.inr (.inr ([], 8))))
     (.ob ((((0 : Int) ≤ s.1) ∧ (s.1 < (↑(List.length p0) : Int)))) (
     .ob ((((0 : Int) ≤ s.1) ∧ (s.1 < (↑(List.length p1) : Int)))) (
     .ob (((((List.length s.2) + 1) * 8) ≤ 140737488355328)) (
     .ret (.inl ((w64 (s.1 + 1)), (s.2 ++ ((max (List.getD p0 (Int.toNat s.1) default) (List.getD p1 (Int.toNat s.1) default)) :: []))))))))))
    (.ob ((((0 : Int) ≤ s.1) ∧ (s.1 < (↑(List.length p0) : Int)))) (
    .ob ((((0 : Int) ≤ s.1) ∧ (s.1 < (↑(List.length p1) : Int)))) (
    .ob (((((List.length s.2) + 1) * 8) ≤ 140737488355328)) (
    .ret (.inl ((w64 (s.1 + 1)), (s.2 ++ ((max (List.getD p0 (Int.toNat s.1) default) (List.getD p1 (Int.toNat s.1) default)) :: []))))))))))
   (.ob ((((0 : Int) ≤ s.1) ∧ (s.1 < (↑(List.length p0) : Int)))) (
   .ob ((((0 : Int) ≤ s.1) ∧ (s.1 < (↑(List.length p1) : Int)))) (
   .ob (((((List.length s.2) + 1) * 8) ≤ 140737488355328)) (
   .ret (.inl ((w64 (s.1 + 1)), (s.2 ++ ((max (List.getD p0 (Int.toNat s.1) default) (List.getD p1 (Int.toNat s.1) default)) :: [])))))))))))
  (.ret (.inr (.inl s.2)))
noncomputable def ref21_Two_L12 (p0 p1 : (List Int)) (p2 : Int) (s : (Int × (List Int))) : Option ((List Int) ⊕ ((List Int) × Int)) := iter (fun s => (ref21_Two_T12 p0 p1 p2 s).run) F0 s
noncomputable abbrev ref21_Two_L12_c : Code := loopOf Tryz.f32 12
theorem ref21_Two_L12_s (p0 p1 : (List Int)) (p2 : Int) (s : (Int × (List Int))) : ∀ o, ref21_Two_L12 p0 p1 p2 s = some o → LpK Tryz.prog f32H 0 12 ref21_Two_L12_c (ref21_Two_L12_st p0 p1 p2 s) (fun e s' => e = (ref21_Two_L12_out p0 p1 p2 o).1 ∧ s' = (ref21_Two_L12_out p0 p1 p2 o).2) := fun o => iter_sound (tr := fun s => (ref21_Two_T12 p0 p1 p2 s)) (st := fun s => ref21_Two_L12_st p0 p1 p2 s) (by kernel_rfl) (fun s K => by kernel_rfl) F0 s o
noncomputable def ref21_Two_L8_st (p0 : (List Int)) (s : (List Int)) : St := ⟨slots 83 [(0, .e (.c (.sl .i64 p0))), (1, .e (.c (.sl .i64 s)))], []⟩
noncomputable def ref21_Two_L8_out (p0 : (List Int)) : (List Int) → Exit × St := fun y => ((.exit 2), ⟨slots 83 [(0, .e (.c (.sl .i64 p0))), (1, .e (.c (.sl .i64 y)))], []⟩)
noncomputable def ref21_Two_T8 (p0 : (List Int)) (s : (List Int)) : Tree ((List Int) ⊕ (List Int)) :=
 .br (decide ((↑(List.length s) : Int) < (↑(List.length p0) : Int)))
  (.ob ((((1 + (List.length s)) * 8) ≤ 140737488355328)) (
  .ret (.inl ((1 :: []) ++ s))))
  (.ret (.inr s))
noncomputable def ref21_Two_L8 (p0 : (List Int)) (s : (List Int)) : Option (List Int) := iter (fun s => (ref21_Two_T8 p0 s).run) F0 s
noncomputable abbrev ref21_Two_L8_c : Code := loopOf Tryz.f32 8
theorem ref21_Two_L8_s (p0 : (List Int)) (s : (List Int)) : ∀ o, ref21_Two_L8 p0 s = some o → LpK Tryz.prog f32H 0 8 ref21_Two_L8_c (ref21_Two_L8_st p0 s) (fun e s' => e = (ref21_Two_L8_out p0 o).1 ∧ s' = (ref21_Two_L8_out p0 o).2) := fun o => iter_sound (tr := fun s => (ref21_Two_T8 p0 s)) (st := fun s => ref21_Two_L8_st p0 s) (by kernel_rfl) (fun s K => by kernel_rfl) F0 s o
noncomputable def ref21_Two_L6_st (p0 : (List Int)) (s : (List Int)) : St := ⟨slots 83 [(0, .e (.c (.sl .i64 s))), (1, .e (.c (.sl .i64 p0)))], []⟩
noncomputable def ref21_Two_L6_out (p0 : (List Int)) : (List Int) → Exit × St := fun y => ((.exit 0), ⟨slots 83 [(0, .e (.c (.sl .i64 y))), (1, .e (.c (.sl .i64 p0)))], []⟩)
noncomputable def ref21_Two_T6 (p0 : (List Int)) (s : (List Int)) : Tree ((List Int) ⊕ (List Int)) :=
 .br (decide ((↑(List.length s) : Int) < (↑(List.length p0) : Int)))
  (.ob ((((1 + (List.length s)) * 8) ≤ 140737488355328)) (
  .ret (.inl ((1 :: []) ++ s))))
  (.ret (.inr s))
noncomputable def ref21_Two_L6 (p0 : (List Int)) (s : (List Int)) : Option (List Int) := iter (fun s => (ref21_Two_T6 p0 s).run) F0 s
noncomputable abbrev ref21_Two_L6_c : Code := loopOf Tryz.f32 6
theorem ref21_Two_L6_s (p0 : (List Int)) (s : (List Int)) : ∀ o, ref21_Two_L6 p0 s = some o → LpK Tryz.prog f32H 0 6 ref21_Two_L6_c (ref21_Two_L6_st p0 s) (fun e s' => e = (ref21_Two_L6_out p0 o).1 ∧ s' = (ref21_Two_L6_out p0 o).2) := fun o => iter_sound (tr := fun s => (ref21_Two_T6 p0 s)) (st := fun s => ref21_Two_L6_st p0 s) (by kernel_rfl) (fun s K => by kernel_rfl) F0 s o
noncomputable def ref21_Two_T (toArray0 : (List Int)) (a1 : (List Int)) : Tree (RTs.den [.d (.slice .i64), .d .i64]) :=
 .ex (ref19_Check_s toArray0) fun y0 =>
 .ex (ref19_Check_s a1) fun y1 =>
 .br (!(decide (y0 = 0)))
  (.ret ([], y0))
  (.br (!(decide (y1 = 0)))
   (.ret ([], y1))
   (.ex (ref21_Two_L6_s a1 toArray0) fun y2 =>
   .ex (ref21_Two_L8_s y2 a1) fun y3 =>
   .alt (isL (ref21_Two_L12 y2 y3 (↑(List.length y2) : Int) (0, [])))
    (.ex (s_l (ref21_Two_L12_s y2 y3 (↑(List.length y2) : Int) (0, []))) fun y4 =>
    .ex (ref19_Check_s y4) fun y5 =>
   .br (!(decide (y5 = 0)))
    (.ret ([], y5))
    (.ret (y4, 0)))
    (.ex (s_r (ref21_Two_L12_s y2 y3 (↑(List.length y2) : Int) (0, []))) fun y6 =>
    .ret (y6.1, y6.2))))
noncomputable def ref21_Two (toArray0 : (List Int)) (a1 : (List Int)) : Option (RTs.den [.d (.slice .i64), .d .i64]) := (ref21_Two_T toArray0 a1).run
theorem ref21_Two_s (toArray0 : (List Int)) (a1 : (List Int)) : ∀ y, ref21_Two toArray0 a1 = some y → CSem Tryz.prog 32 [Ty.e (.slice .i64) toArray0, Ty.e (.slice .i64) a1] [] (fun v b => v = (RTs.shape [.d (.slice .i64), .d .i64] y).1 ∧ b = (RTs.shape [.d (.slice .i64), .d .i64] y).2) := fun_sound (H := f32H) (fn := Tryz.f32) (by kernel_rfl) (by kernel_rfl) (fun post => by kernel_rfl)
noncomputable def f43H : Hint := ⟨fun _ => false, false, fun n => lk n [(3, [0, 4, 9, 10])], fun _ => [], fun _ => [], fun _ => [], fun n => lk n [(3, mores P [(4, 22)])], fun n => lk n [(3, [⟨.exit 0, [4], [4], mores P [], []⟩, ⟨.ret, [2, 3], [], mores P [(2, 22), (3, 3)], []⟩])], resOf P 43, fun g _ _ => retOf P g⟩
noncomputable def ref21_All_L3_st (p0 : (List (List Int))) (p1 : Int) (s : ((List Int) × Int)) : St := ⟨slots 28 [(0, .e (.c (.sl (.slice .i64) p0))), (4, .e (.c (.sl .i64 s.1))), (9, .e (.c (.i64 p1))), (10, .e (.c (.i64 s.2)))], []⟩
noncomputable def ref21_All_L3_out (p0 : (List (List Int))) (p1 : Int) : ((List Int) ⊕ ((List Int) × Int)) → Exit × St := fun y => match y with
  | (.inl y) => ((.exit 0), ⟨slots 28 [(4, .e (.c (.sl .i64 y)))], []⟩)
  | (.inr y) => (.ret, ⟨slots 28 [(2, .e (.c (.sl .i64 y.1))), (3, .e (.c (.i64 y.2)))], []⟩)
noncomputable def ref21_All_T3 (p0 : (List (List Int))) (p1 : Int) (s : ((List Int) × Int)) : Tree (((List Int) × Int) ⊕ ((List Int) ⊕ ((List Int) × Int))) :=
 .br (decide (s.2 < p1))
  (.ob ((((0 : Int) ≤ s.2) ∧ (s.2 < (↑(List.length p0) : Int)))) (
  .ex (ref21_Two_s s.1 (List.getD p0 (Int.toNat s.2) default)) fun y0 =>
  .br (!(decide (y0.2 = 0)))
   (.ret (.inr (.inr ([], y0.2))))
   (.ret (.inl (y0.1, (w64 (s.2 + 1)))))))
  (.ret (.inr (.inl s.1)))
noncomputable def ref21_All_L3 (p0 : (List (List Int))) (p1 : Int) (s : ((List Int) × Int)) : Option ((List Int) ⊕ ((List Int) × Int)) := iter (fun s => (ref21_All_T3 p0 p1 s).run) F0 s
noncomputable abbrev ref21_All_L3_c : Code := loopOf Tryz.f43 3
theorem ref21_All_L3_s (p0 : (List (List Int))) (p1 : Int) (s : ((List Int) × Int)) : ∀ o, ref21_All_L3 p0 p1 s = some o → LpK Tryz.prog f43H 0 3 ref21_All_L3_c (ref21_All_L3_st p0 p1 s) (fun e s' => e = (ref21_All_L3_out p0 p1 o).1 ∧ s' = (ref21_All_L3_out p0 p1 o).2) := fun o => iter_sound (tr := fun s => (ref21_All_T3 p0 p1 s)) (st := fun s => ref21_All_L3_st p0 p1 s) (by kernel_rfl) (fun s K => by kernel_rfl) F0 s o
noncomputable def ref21_All_T (l0 : (List (List Int))) : Tree (RTs.den [.d (.slice .i64), .d .i64]) :=
 .alt (isL (ref21_All_L3 l0 (↑(List.length l0) : Int) ([], 0)))
  (.ex (s_l (ref21_All_L3_s l0 (↑(List.length l0) : Int) ([], 0))) fun y0 =>
  .ret (y0, 0))
  (.ex (s_r (ref21_All_L3_s l0 (↑(List.length l0) : Int) ([], 0))) fun y1 =>
  .ret (y1.1, y1.2))
noncomputable def ref21_All (l0 : (List (List Int))) : Option (RTs.den [.d (.slice .i64), .d .i64]) := (ref21_All_T l0).run
theorem ref21_All_s (l0 : (List (List Int))) : ∀ y, ref21_All l0 = some y → CSem Tryz.prog 43 [Ty.e (.slice (.slice .i64)) l0] [] (fun v b => v = (RTs.shape [.d (.slice .i64), .d .i64] y).1 ∧ b = (RTs.shape [.d (.slice .i64), .d .i64] y).2) := fun_sound (H := f43H) (fn := Tryz.f43) (by kernel_rfl) (by kernel_rfl) (fun post => by kernel_rfl)
noncomputable def f48H : Hint := ⟨fun _ => false, false, fun _ => [], fun _ => [], fun _ => [], fun _ => [], fun _ => [], fun _ => [], resOf P 48, fun g _ _ => retOf P g⟩
noncomputable def ref27_axes_T (op0 : Int) (a1 : AttrD) : Tree (RTs.den [.d (.slice .i64)]) :=
 .br (decide (op0 = 27))
  (.ret a1.2.2.2.2.2.2.2.2.2.1)
  (.br (decide (op0 = 28))
   (.ret a1.2.2.2.2.2.2.2.2.2.1)
   (.ret (a1.1 :: [])))
noncomputable def ref27_axes (op0 : Int) (a1 : AttrD) : Option (RTs.den [.d (.slice .i64)]) := (ref27_axes_T op0 a1).run
theorem ref27_axes_s (op0 : Int) (a1 : AttrD) : ∀ y, ref27_axes op0 a1 = some y → CSem Tryz.prog 48 [Ty.e .i64 op0, Ty.e attrT a1] [] (fun v b => v = (RTs.shape [.d (.slice .i64)] y).1 ∧ b = (RTs.shape [.d (.slice .i64)] y).2) := fun_sound (H := f48H) (fn := Tryz.f48) (by kernel_rfl) (by kernel_rfl) (fun post => by kernel_rfl)
noncomputable def f72H : Hint := ⟨fun _ => false, false, fun n => lk n [(2, [0, 1, 7, 8])], fun _ => [], fun _ => [], fun _ => [], fun _ => [], fun n => lk n [(2, [⟨.exit 0, [], [], mores P [], []⟩, ⟨.ret, [4], [], mores P [(4, 4)], []⟩])], resOf P 72, fun g _ _ => retOf P g⟩
noncomputable def ref19_Has_L2_st (p0 : (List Int)) (p1 p2 : Int) (s : Int) : St := ⟨slots 18 [(0, .e (.c (.sl .i64 p0))), (1, .e (.c (.i64 p1))), (7, .e (.c (.i64 p2))), (8, .e (.c (.i64 s)))], []⟩
noncomputable def ref19_Has_L2_out (p0 : (List Int)) (p1 p2 : Int) : (Unit ⊕ Bool) → Exit × St := fun y => match y with
  | (.inl y) => ((.exit 0), ⟨slots 18 [], []⟩)
  | (.inr y) => (.ret, ⟨slots 18 [(4, .e (.c (.bool y)))], []⟩)
noncomputable def ref19_Has_T2 (p0 : (List Int)) (p1 p2 : Int) (s : Int) : Tree (Int ⊕ (Unit ⊕ Bool)) :=
 .br (decide (s < p2))
  (.ob ((((0 : Int) ≤ s) ∧ (s < (↑(List.length p0) : Int)))) (
  .br (decide ((List.getD p0 (Int.toNat s) default) = p1))
   (.ret (.inr (.inr Bool.true)))
   (.ret (.inl (w64 (s + 1))))))
  (.ret (.inr (.inl ())))
noncomputable def ref19_Has_L2 (p0 : (List Int)) (p1 p2 : Int) (s : Int) : Option (Unit ⊕ Bool) := iter (fun s => (ref19_Has_T2 p0 p1 p2 s).run) F0 s
noncomputable abbrev ref19_Has_L2_c : Code := loopOf Tryz.f72 2
theorem ref19_Has_L2_s (p0 : (List Int)) (p1 p2 : Int) (s : Int) : ∀ o, ref19_Has_L2 p0 p1 p2 s = some o → LpK Tryz.prog f72H 0 2 ref19_Has_L2_c (ref19_Has_L2_st p0 p1 p2 s) (fun e s' => e = (ref19_Has_L2_out p0 p1 p2 o).1 ∧ s' = (ref19_Has_L2_out p0 p1 p2 o).2) := fun o => iter_sound (tr := fun s => (ref19_Has_T2 p0 p1 p2 s)) (st := fun s => ref19_Has_L2_st p0 p1 p2 s) (by kernel_rfl) (fun s K => by kernel_rfl) F0 s o
noncomputable def ref19_Has_T (l0 : (List Int)) (n1 : Int) : Tree (RTs.den [.d .bool]) :=
 .alt (isL (ref19_Has_L2 l0 n1 (↑(List.length l0) : Int) 0))
  (.an (s_u (s_l (ref19_Has_L2_s l0 n1 (↑(List.length l0) : Int) 0))) (
  .ret Bool.false))
  (.ex (s_r (ref19_Has_L2_s l0 n1 (↑(List.length l0) : Int) 0)) fun y0 =>
  .ret y0)
noncomputable def ref19_Has (l0 : (List Int)) (n1 : Int) : Option (RTs.den [.d .bool]) := (ref19_Has_T l0 n1).run
theorem ref19_Has_s (l0 : (List Int)) (n1 : Int) : ∀ y, ref19_Has l0 n1 = some y → CSem Tryz.prog 72 [Ty.e (.slice .i64) l0, Ty.e .i64 n1] [] (fun v b => v = (RTs.shape [.d .bool] y).1 ∧ b = (RTs.shape [.d .bool] y).2) := fun_sound (H := f72H) (fn := Tryz.f72) (by kernel_rfl) (by kernel_rfl) (fun post => by kernel_rfl)
noncomputable def f47H : Hint := ⟨fun _ => false, false, fun n => lk n [(4, [0, 1, 16, 17]), (11, [1, 7, 44, 45])], fun _ => [], fun n => lk n [(11, openOf P [(7, 73)])], fun _ => [], fun _ => [], fun n => lk n [(4, [⟨.exit 0, [0, 1], [], mores P [], []⟩, ⟨.ret, [4, 5], [], mores P [(4, 73), (5, 3)], []⟩]), (11, [⟨.exit 2, [7], [7], mores P [], []⟩])], resOf P 47, fun g _ _ => retOf P g⟩
noncomputable def ref19_Axes_L11_st (p0 : (List Int)) (p1 : Int) (s : (Int × (List Bool))) : St := ⟨slots 61 [(1, .e (.c (.sl .i64 p0))), (7, .e (.c (.ref 0))), (44, .e (.c (.i64 p1))), (45, .e (.c (.i64 s.1)))], [.row 4 .bool s.2 false]⟩
noncomputable def ref19_Axes_L11_out (p0 : (List Int)) (p1 : Int) : (List Bool) → Exit × St := fun y => ((.exit 2), ⟨slots 61 [(7, .e (.c (.ref 0)))], [.row 4 .bool y false]⟩)
noncomputable def ref19_Axes_T11 (p0 : (List Int)) (p1 : Int) (s : (Int × (List Bool))) : Tree ((Int × (List Bool)) ⊕ (List Bool)) :=
 .br (decide (s.1 < p1))
  (.br (decide ((↑(List.length p0) : Int) = 0))
   (.ob (((((List.length s.2) + 1) * 1) ≤ 140737488355328)) (
   .ret (.inl ((w64 (s.1 + 1)), (s.2 ++ (Bool.true :: []))))))
   (.ex (ref19_Has_s p0 s.1) fun y0 =>
   .ob (((((List.length s.2) + 1) * 1) ≤ 140737488355328)) (
   .ret (.inl ((w64 (s.1 + 1)), (s.2 ++ (y0 :: [])))))))
  (.ret (.inr s.2))
noncomputable def ref19_Axes_L11 (p0 : (List Int)) (p1 : Int) (s : (Int × (List Bool))) : Option (List Bool) := iter (fun s => (ref19_Axes_T11 p0 p1 s).run) F0 s
noncomputable abbrev ref19_Axes_L11_c : Code := loopOf Tryz.f47 11
theorem ref19_Axes_L11_s (p0 : (List Int)) (p1 : Int) (s : (Int × (List Bool))) : ∀ o, ref19_Axes_L11 p0 p1 s = some o → LpK Tryz.prog f47H 0 11 ref19_Axes_L11_c (ref19_Axes_L11_st p0 p1 s) (fun e s' => e = (ref19_Axes_L11_out p0 p1 o).1 ∧ s' = (ref19_Axes_L11_out p0 p1 o).2) := fun o => iter_sound (tr := fun s => (ref19_Axes_T11 p0 p1 s)) (st := fun s => ref19_Axes_L11_st p0 p1 s) (by kernel_rfl) (fun s K => by kernel_rfl) F0 s o
noncomputable def ref19_Axes_L4_st (p0 : Int) (p1 : (List Int)) (p2 : Int) (s : Int) : St := ⟨slots 61 [(0, .e (.c (.i64 p0))), (1, .e (.c (.sl .i64 p1))), (16, .e (.c (.i64 p2))), (17, .e (.c (.i64 s)))], []⟩
noncomputable def ref19_Axes_L4_out (p0 : Int) (p1 : (List Int)) (p2 : Int) : (Unit ⊕ ((List Bool) × Int)) → Exit × St := fun y => match y with
  | (.inl y) => ((.exit 0), ⟨slots 61 [(0, .e (.c (.i64 p0))), (1, .e (.c (.sl .i64 p1)))], []⟩)
  | (.inr y) => (.ret, ⟨slots 61 [(4, .e (.c (.sl .bool y.1))), (5, .e (.c (.i64 y.2)))], []⟩)
noncomputable def ref19_Axes_T4 (p0 : Int) (p1 : (List Int)) (p2 : Int) (s : Int) : Tree (Int ⊕ (Unit ⊕ ((List Bool) × Int))) :=
 .br (decide (s < p2))
  (.ob ((((0 : Int) ≤ s) ∧ (s < (↑(List.length p1) : Int)))) (
  .br (decide ((List.getD p1 (Int.toNat s) default) < 0))
   (.ret (.inr (.inr ([], 10))))
   (.ob ((((0 : Int) ≤ s) ∧ (s < (↑(List.length p1) : Int)))) (
   .br (decide (p0 ≤ (List.getD p1 (Int.toNat s) default)))
    (.ret (.inr (.inr ([], 10))))
    (.ob ((((0 : Int) ≤ 0) ∧ (((0 : Int) ≤ s) ∧ (s ≤ (↑(List.length p1) : Int))))) (
    .ob ((((0 : Int) ≤ s) ∧ (s < (↑(List.length p1) : Int)))) (
    .ex (ref19_Has_s (List.drop (Int.toNat 0) (List.take (Int.toNat s) p1)) (List.getD p1 (Int.toNat s) default)) fun y0 =>
    .br y0
     (.ret (.inr (.inr ([], 10))))
     (.ret (.inl (w64 (s + 1)))))))))))
  (.ret (.inr (.inl ())))
noncomputable def ref19_Axes_L4 (p0 : Int) (p1 : (List Int)) (p2 : Int) (s : Int) : Option (Unit ⊕ ((List Bool) × Int)) := iter (fun s => (ref19_Axes_T4 p0 p1 p2 s).run) F0 s
noncomputable abbrev ref19_Axes_L4_c : Code := loopOf Tryz.f47 4
theorem ref19_Axes_L4_s (p0 : Int) (p1 : (List Int)) (p2 : Int) (s : Int) : ∀ o, ref19_Axes_L4 p0 p1 p2 s = some o → LpK Tryz.prog f47H 0 4 ref19_Axes_L4_c (ref19_Axes_L4_st p0 p1 p2 s) (fun e s' => e = (ref19_Axes_L4_out p0 p1 p2 o).1 ∧ s' = (ref19_Axes_L4_out p0 p1 p2 o).2) := fun o => iter_sound (tr := fun s => (ref19_Axes_T4 p0 p1 p2 s)) (st := fun s => ref19_Axes_L4_st p0 p1 p2 s) (by kernel_rfl) (fun s K => by kernel_rfl) F0 s o
noncomputable def ref19_Axes_T (rank0 : Int) (axes1 : (List Int)) : Tree (RTs.den [.d (.slice .bool), .d .i64]) :=
 .br (decide (rank0 < 0))
  (.ret ([], 9))
  (.br (decide ((6 : Int) < rank0))
   (.ret ([], 9))
   (.alt (isL (ref19_Axes_L4 rank0 axes1 (↑(List.length axes1) : Int) 0))
    (.an (s_u (s_l (ref19_Axes_L4_s rank0 axes1 (↑(List.length axes1) : Int) 0))) (
    .ex (ref19_Axes_L11_s axes1 rank0 (0, [])) fun y0 =>
    .ret (y0, 0)))
    (.ex (s_r (ref19_Axes_L4_s rank0 axes1 (↑(List.length axes1) : Int) 0)) fun y1 =>
    .ret (y1.1, y1.2))))
noncomputable def ref19_Axes (rank0 : Int) (axes1 : (List Int)) : Option (RTs.den [.d (.slice .bool), .d .i64]) := (ref19_Axes_T rank0 axes1).run
theorem ref19_Axes_s (rank0 : Int) (axes1 : (List Int)) : ∀ y, ref19_Axes rank0 axes1 = some y → CSem Tryz.prog 47 [Ty.e .i64 rank0, Ty.e (.slice .i64) axes1] [] (fun v b => v = (RTs.shape [.d (.slice .bool), .d .i64] y).1 ∧ b = (RTs.shape [.d (.slice .bool), .d .i64] y).2) := fun_sound (H := f47H) (fn := Tryz.f47) (by kernel_rfl) (by kernel_rfl) (fun post => by kernel_rfl)
noncomputable def f68H : Hint := ⟨fun _ => false, false, fun n => lk n [(9, [0, 2, 9, 10, 28, 29])], fun _ => [], fun n => lk n [(9, openOf P [(10, 22)])], fun _ => [], fun _ => [], fun n => lk n [(9, [⟨.exit 0, [10], [10], mores P [], []⟩])], resOf P 68, fun g _ _ => retOf P g⟩
noncomputable def ref19_Drop_L9_st (p0 : (List Int)) (p1 : Bool) (p2 : (List Bool)) (p3 : Int) (s : (Int × (List Int))) : St := ⟨slots 50 [(0, .e (.c (.sl .i64 p0))), (2, .e (.c (.bool p1))), (9, .e (.c (.sl .bool p2))), (10, .e (.c (.ref 0))), (28, .e (.c (.i64 p3))), (29, .e (.c (.i64 s.1)))], [.row 3 .i64 s.2 false]⟩
noncomputable def ref19_Drop_L9_out (p0 : (List Int)) (p1 : Bool) (p2 : (List Bool)) (p3 : Int) : (List Int) → Exit × St := fun y => ((.exit 0), ⟨slots 50 [(10, .e (.c (.ref 0)))], [.row 3 .i64 y false]⟩)
noncomputable def ref19_Drop_T9 (p0 : (List Int)) (p1 : Bool) (p2 : (List Bool)) (p3 : Int) (s : (Int × (List Int))) : Tree ((Int × (List Int)) ⊕ (List Int)) :=
 .br (decide (s.1 < p3))
  (.ob ((((0 : Int) ≤ s.1) ∧ (s.1 < (↑(List.length p2) : Int)))) (
  .br (!(List.getD p2 (Int.toNat s.1) default))
   (.ob ((((0 : Int) ≤ s.1) ∧ (s.1 < (↑(List.length p0) : Int)))) (
   .ob (((((List.length s.2) + 1) * 8) ≤ 140737488355328)) (
   .ret (.inl ((w64 (s.1 + 1)), (s.2 ++ ((List.getD p0 (Int.toNat s.1) default) :: [])))))))
   (.br p1
    (.ob (((((List.length s.2) + 1) * 8) ≤ 140737488355328)) (
    .ret (.inl ((w64 (s.1 + 1)), (s.2 ++ (1 :: []))))))
    (.ret (.inl ((w64 (s.1 + 1)), s.2))))))
  (.ret (.inr s.2))
noncomputable def ref19_Drop_L9 (p0 : (List Int)) (p1 : Bool) (p2 : (List Bool)) (p3 : Int) (s : (Int × (List Int))) : Option (List Int) := iter (fun s => (ref19_Drop_T9 p0 p1 p2 p3 s).run) F0 s
noncomputable abbrev ref19_Drop_L9_c : Code := loopOf Tryz.f68 9
theorem ref19_Drop_L9_s (p0 : (List Int)) (p1 : Bool) (p2 : (List Bool)) (p3 : Int) (s : (Int × (List Int))) : ∀ o, ref19_Drop_L9 p0 p1 p2 p3 s = some o → LpK Tryz.prog f68H 0 9 ref19_Drop_L9_c (ref19_Drop_L9_st p0 p1 p2 p3 s) (fun e s' => e = (ref19_Drop_L9_out p0 p1 p2 p3 o).1 ∧ s' = (ref19_Drop_L9_out p0 p1 p2 p3 o).2) := fun o => iter_sound (tr := fun s => (ref19_Drop_T9 p0 p1 p2 p3 s)) (st := fun s => ref19_Drop_L9_st p0 p1 p2 p3 s) (by kernel_rfl) (fun s K => by kernel_rfl) F0 s o
noncomputable def ref19_Drop_T (d0 : (List Int)) (axes1 : (List Int)) (keep2 : Bool) : Tree (RTs.den [.d (.slice .i64), .d .i64]) :=
 .ex (ref19_Check_s d0) fun y0 =>
 .br (!(decide (y0 = 0)))
  (.ret ([], y0))
  (.ex (ref19_Axes_s (↑(List.length d0) : Int) axes1) fun y1 =>
  .br (!(decide (y1.2 = 0)))
   (.ret ([], y1.2))
   (.ex (ref19_Drop_L9_s d0 keep2 y1.1 (↑(List.length d0) : Int) (0, [])) fun y2 =>
   .ret (y2, 0)))
noncomputable def ref19_Drop (d0 : (List Int)) (axes1 : (List Int)) (keep2 : Bool) : Option (RTs.den [.d (.slice .i64), .d .i64]) := (ref19_Drop_T d0 axes1 keep2).run
theorem ref19_Drop_s (d0 : (List Int)) (axes1 : (List Int)) (keep2 : Bool) : ∀ y, ref19_Drop d0 axes1 keep2 = some y → CSem Tryz.prog 68 [Ty.e (.slice .i64) d0, Ty.e (.slice .i64) axes1, Ty.e .bool keep2] [] (fun v b => v = (RTs.shape [.d (.slice .i64), .d .i64] y).1 ∧ b = (RTs.shape [.d (.slice .i64), .d .i64] y).2) := fun_sound (H := f68H) (fn := Tryz.f68) (by kernel_rfl) (by kernel_rfl) (fun post => by kernel_rfl)
noncomputable def f44H : Hint := ⟨fun _ => false, false, fun _ => [], fun _ => [], fun _ => [], fun _ => [], fun _ => [], fun _ => [], resOf P 44, fun g _ _ => retOf P g⟩
noncomputable def ref27_Dims_T (op0 : Int) (a1 : AttrD) (d2 : (List Int)) : Tree (RTs.den [.d (.slice .i64), .d .i64]) :=
 .br (decide (op0 < 27))
  (.ret ([], 14))
  (.br (decide ((31 : Int) < op0))
   (.ret ([], 14))
   (.ex (ref27_axes_s op0 a1) fun y0 =>
   .ex (ref19_Drop_s d2 y0 a1.2.2.2.2.2.2.2.2.1) fun y1 =>
   .ret (y1.1, y1.2)))
noncomputable def ref27_Dims (op0 : Int) (a1 : AttrD) (d2 : (List Int)) : Option (RTs.den [.d (.slice .i64), .d .i64]) := (ref27_Dims_T op0 a1 d2).run
theorem ref27_Dims_s (op0 : Int) (a1 : AttrD) (d2 : (List Int)) : ∀ y, ref27_Dims op0 a1 d2 = some y → CSem Tryz.prog 44 [Ty.e .i64 op0, Ty.e attrT a1, Ty.e (.slice .i64) d2] [] (fun v b => v = (RTs.shape [.d (.slice .i64), .d .i64] y).1 ∧ b = (RTs.shape [.d (.slice .i64), .d .i64] y).2) := fun_sound (H := f44H) (fn := Tryz.f44) (by kernel_rfl) (by kernel_rfl) (fun post => by kernel_rfl)
noncomputable def f45H : Hint := ⟨fun _ => false, false, fun _ => [], fun _ => [], fun _ => [], fun _ => [], fun _ => [], fun _ => [], resOf P 45, fun g _ _ => retOf P g⟩
noncomputable def ref28_Dims_T (toArray0 : (List Int)) (a1 : (List Int)) : Tree (RTs.den [.d (.slice .i64), .d .i64]) :=
 .ex (ref19_Check_s toArray0) fun y0 =>
 .ex (ref19_Check_s a1) fun y1 =>
 .br (!(decide (y0 = 0)))
  (.ret ([], y0))
  (.br (!(decide (y1 = 0)))
   (.ret ([], y1))
   (.br (decide ((↑(List.length toArray0) : Int) < 2))
    (.ret ([], 9))
    (.br (decide ((↑(List.length a1) : Int) < 2))
     (.ret ([], 9))
     (.ob ((((0 : Int) ≤ (w64 ((↑(List.length toArray0) : Int) - 1))) ∧ ((w64 ((↑(List.length toArray0) : Int) - 1)) < (↑(List.length toArray0) : Int)))) (
     .ob ((((0 : Int) ≤ (w64 ((↑(List.length a1) : Int) - 2))) ∧ ((w64 ((↑(List.length a1) : Int) - 2)) < (↑(List.length a1) : Int)))) (
     .br (!(decide ((List.getD toArray0 (Int.toNat (w64 ((↑(List.length toArray0) : Int) - 1))) default) = (List.getD a1 (Int.toNat (w64 ((↑(List.length a1) : Int) - 2))) default))))
      (.ret ([], 8))
      (.ob ((((0 : Int) ≤ 0) ∧ (((0 : Int) ≤ (w64 ((↑(List.length toArray0) : Int) - 2))) ∧ ((w64 ((↑(List.length toArray0) : Int) - 2)) ≤ (↑(List.length toArray0) : Int))))) (
      .ob ((((0 : Int) ≤ 0) ∧ (((0 : Int) ≤ (w64 ((↑(List.length a1) : Int) - 2))) ∧ ((w64 ((↑(List.length a1) : Int) - 2)) ≤ (↑(List.length a1) : Int))))) (
      .ex (ref21_Two_s (List.drop (Int.toNat 0) (List.take (Int.toNat (w64 ((↑(List.length toArray0) : Int) - 2))) toArray0)) (List.drop (Int.toNat 0) (List.take (Int.toNat (w64 ((↑(List.length a1) : Int) - 2))) a1))) fun y2 =>
      .br (!(decide (y2.2 = 0)))
       (.ret ([], y2.2))
       (.ob ((((0 : Int) ≤ (w64 ((↑(List.length toArray0) : Int) - 2))) ∧ ((w64 ((↑(List.length toArray0) : Int) - 2)) < (↑(List.length toArray0) : Int)))) (
       .ob ((((0 : Int) ≤ (w64 ((↑(List.length a1) : Int) - 1))) ∧ ((w64 ((↑(List.length a1) : Int) - 1)) < (↑(List.length a1) : Int)))) (
       .ob ((((0 + (List.length y2.1)) * 8) ≤ 140737488355328)) (
       .ob (((((List.length y2.1) + 2) * 8) ≤ 140737488355328)) (
       .ex (ref19_Check_s (y2.1 ++ ((List.getD toArray0 (Int.toNat (w64 ((↑(List.length toArray0) : Int) - 2))) default) :: ((List.getD a1 (Int.toNat (w64 ((↑(List.length a1) : Int) - 1))) default) :: [])))) fun y3 =>
       .br (!(decide (y3 = 0)))
        (.ret ([], y3))
        (.ret ((y2.1 ++ ((List.getD toArray0 (Int.toNat (w64 ((↑(List.length toArray0) : Int) - 2))) default) :: ((List.getD a1 (Int.toNat (w64 ((↑(List.length a1) : Int) - 1))) default) :: []))), 0))))))))))))))))
noncomputable def ref28_Dims (toArray0 : (List Int)) (a1 : (List Int)) : Option (RTs.den [.d (.slice .i64), .d .i64]) := (ref28_Dims_T toArray0 a1).run
theorem ref28_Dims_s (toArray0 : (List Int)) (a1 : (List Int)) : ∀ y, ref28_Dims toArray0 a1 = some y → CSem Tryz.prog 45 [Ty.e (.slice .i64) toArray0, Ty.e (.slice .i64) a1] [] (fun v b => v = (RTs.shape [.d (.slice .i64), .d .i64] y).1 ∧ b = (RTs.shape [.d (.slice .i64), .d .i64] y).2) := fun_sound (H := f45H) (fn := Tryz.f45) (by kernel_rfl) (by kernel_rfl) (fun post => by kernel_rfl)
noncomputable def f49H : Hint := ⟨fun _ => false, false, fun n => lk n [(5, [0, 3, 14, 15]), (9, [0, 3, 4, 5, 14, 15, 19, 20]), (12, [0, 3, 4, 5, 6, 14, 15, 19, 20, 26, 27])], fun _ => [], fun n => lk n [(5, openOf P [(3, 37)]), (9, openOf P [(5, 37)]), (12, openOf P [(5, 37)])], fun _ => [], fun _ => [], fun n => lk n [(5, [⟨.exit 0, [3], [3], mores P [], []⟩]), (9, [⟨.exit 2, [0, 5, 14, 15], [5], mores P [], []⟩]), (12, [⟨.exit 4, [0, 3, 4, 5, 14, 15, 19, 20], [5], mores P [], []⟩])], resOf P 49, fun g _ _ => retOf P g⟩
noncomputable def ref20_All_L12_st (p0 : (List Int)) (p1 p2 p3 p4 p5 p6 p7 : Int) (s : (Int × ((List (List Int)) × (List (List Int))))) : St := ⟨slots 47 [(0, .e (.c (.sl .i64 p0))), (3, .e (.c (.ref 0))), (4, .e (.c (.i64 p1))), (5, .e (.c (.ref 1))), (6, .e (.c (.i64 p2))), (14, .e (.c (.i64 p3))), (15, .e (.c (.i64 p4))), (19, .e (.c (.i64 p5))), (20, .e (.c (.i64 p6))), (26, .e (.c (.i64 p7))), (27, .e (.c (.i64 s.1)))], [.row 22 (.slice .i64) s.2.1 false, .row 22 (.slice .i64) s.2.2 false]⟩
noncomputable def ref20_All_L12_out (p0 : (List Int)) (p1 p2 p3 p4 p5 p6 p7 : Int) : ((List (List Int)) × (List (List Int))) → Exit × St := fun y => ((.exit 4), ⟨slots 47 [(0, .e (.c (.sl .i64 p0))), (3, .e (.c (.ref 0))), (4, .e (.c (.i64 p1))), (5, .e (.c (.ref 1))), (14, .e (.c (.i64 p3))), (15, .e (.c (.i64 p4))), (19, .e (.c (.i64 p5))), (20, .e (.c (.i64 p6)))], [.row 22 (.slice .i64) y.1 false, .row 22 (.slice .i64) y.2 false]⟩)
noncomputable def ref20_All_T12 (p0 : (List Int)) (p1 p2 p3 p4 p5 p6 p7 : Int) (s : (Int × ((List (List Int)) × (List (List Int))))) : Tree ((Int × ((List (List Int)) × (List (List Int)))) ⊕ ((List (List Int)) × (List (List Int)))) :=
 .br (decide (s.1 < p7))
  (.ob ((((0 : Int) ≤ p2) ∧ (p2 < (↑(List.length s.2.1) : Int)))) (
  .ob ((((0 + (List.length (List.getD s.2.1 (Int.toNat p2) default))) * 8) ≤ 140737488355328)) (
  .ob (((((List.length (List.getD s.2.1 (Int.toNat p2) default)) + 1) * 8) ≤ 140737488355328)) (
  .ob (((((List.length s.2.2) + 1) * 24) ≤ 140737488355328)) (
  .ret (.inl ((w64 (s.1 + 1)), (s.2.1, (s.2.2 ++ (((List.getD s.2.1 (Int.toNat p2) default) ++ (s.1 :: [])) :: []))))))))))
  (.ret (.inr s.2))
noncomputable def ref20_All_L12 (p0 : (List Int)) (p1 p2 p3 p4 p5 p6 p7 : Int) (s : (Int × ((List (List Int)) × (List (List Int))))) : Option ((List (List Int)) × (List (List Int))) := iter (fun s => (ref20_All_T12 p0 p1 p2 p3 p4 p5 p6 p7 s).run) F0 s
noncomputable abbrev ref20_All_L12_c : Code := loopOf Tryz.f49 12
theorem ref20_All_L12_s (p0 : (List Int)) (p1 p2 p3 p4 p5 p6 p7 : Int) (s : (Int × ((List (List Int)) × (List (List Int))))) : ∀ o, ref20_All_L12 p0 p1 p2 p3 p4 p5 p6 p7 s = some o → LpK Tryz.prog f49H 0 12 ref20_All_L12_c (ref20_All_L12_st p0 p1 p2 p3 p4 p5 p6 p7 s) (fun e s' => e = (ref20_All_L12_out p0 p1 p2 p3 p4 p5 p6 p7 o).1 ∧ s' = (ref20_All_L12_out p0 p1 p2 p3 p4 p5 p6 p7 o).2) := fun o => iter_sound (tr := fun s => (ref20_All_T12 p0 p1 p2 p3 p4 p5 p6 p7 s)) (st := fun s => ref20_All_L12_st p0 p1 p2 p3 p4 p5 p6 p7 s) (by kernel_rfl) (fun s K => by kernel_rfl) F0 s o
noncomputable def ref20_All_L9_st (p0 : (List Int)) (p1 p2 p3 p4 : Int) (s : (Int × ((List (List Int)) × (List (List Int))))) : St := ⟨slots 47 [(0, .e (.c (.sl .i64 p0))), (3, .e (.c (.ref 0))), (4, .e (.c (.i64 p1))), (5, .e (.c (.ref 1))), (14, .e (.c (.i64 p2))), (15, .e (.c (.i64 p3))), (19, .e (.c (.i64 p4))), (20, .e (.c (.i64 s.1)))], [.row 22 (.slice .i64) s.2.1 false, .row 22 (.slice .i64) s.2.2 false]⟩
noncomputable def ref20_All_L9_out (p0 : (List Int)) (p1 p2 p3 p4 : Int) : (List (List Int)) → Exit × St := fun y => ((.exit 2), ⟨slots 47 [(0, .e (.c (.sl .i64 p0))), (5, .e (.c (.ref 0))), (14, .e (.c (.i64 p2))), (15, .e (.c (.i64 p3)))], [.row 22 (.slice .i64) y false]⟩)
noncomputable def ref20_All_T9 (p0 : (List Int)) (p1 p2 p3 p4 : Int) (s : (Int × ((List (List Int)) × (List (List Int))))) : Tree ((Int × ((List (List Int)) × (List (List Int)))) ⊕ (List (List Int))) :=
 .br (decide (s.1 < p4))
  (.ob ((((0 : Int) ≤ p1) ∧ (p1 < (↑(List.length p0) : Int)))) (
  .ex (ref20_All_L12_s p0 p1 s.1 p2 p3 p4 s.1 (List.getD p0 (Int.toNat p1) default) (0, (s.2.1, s.2.2))) fun y0 =>
  .ret (.inl ((w64 (s.1 + 1)), (y0.1, y0.2)))))
  (.ret (.inr s.2.2))
noncomputable def ref20_All_L9 (p0 : (List Int)) (p1 p2 p3 p4 : Int) (s : (Int × ((List (List Int)) × (List (List Int))))) : Option (List (List Int)) := iter (fun s => (ref20_All_T9 p0 p1 p2 p3 p4 s).run) F0 s
noncomputable abbrev ref20_All_L9_c : Code := loopOf Tryz.f49 9
theorem ref20_All_L9_s (p0 : (List Int)) (p1 p2 p3 p4 : Int) (s : (Int × ((List (List Int)) × (List (List Int))))) : ∀ o, ref20_All_L9 p0 p1 p2 p3 p4 s = some o → LpK Tryz.prog f49H 0 9 ref20_All_L9_c (ref20_All_L9_st p0 p1 p2 p3 p4 s) (fun e s' => e = (ref20_All_L9_out p0 p1 p2 p3 p4 o).1 ∧ s' = (ref20_All_L9_out p0 p1 p2 p3 p4 o).2) := fun o => iter_sound (tr := fun s => (ref20_All_T9 p0 p1 p2 p3 p4 s)) (st := fun s => ref20_All_L9_st p0 p1 p2 p3 p4 s) (by kernel_rfl) (fun s K => by kernel_rfl) F0 s o
noncomputable def ref20_All_L5_st (p0 : (List Int)) (p1 : Int) (s : (Int × (List (List Int)))) : St := ⟨slots 47 [(0, .e (.c (.sl .i64 p0))), (3, .e (.c (.ref 0))), (14, .e (.c (.i64 p1))), (15, .e (.c (.i64 s.1)))], [.row 22 (.slice .i64) s.2 false]⟩
noncomputable def ref20_All_L5_out (p0 : (List Int)) (p1 : Int) : (List (List Int)) → Exit × St := fun y => ((.exit 0), ⟨slots 47 [(3, .e (.c (.ref 0)))], [.row 22 (.slice .i64) y false]⟩)
noncomputable def ref20_All_T5 (p0 : (List Int)) (p1 : Int) (s : (Int × (List (List Int)))) : Tree ((Int × (List (List Int))) ⊕ (List (List Int))) :=
 .br (decide (s.1 < p1))
  (.ex (ref20_All_L9_s p0 s.1 p1 s.1 (↑(List.length s.2) : Int) (0, (s.2, []))) fun y0 =>
  .ret (.inl ((w64 (s.1 + 1)), y0)))
  (.ret (.inr s.2))
noncomputable def ref20_All_L5 (p0 : (List Int)) (p1 : Int) (s : (Int × (List (List Int)))) : Option (List (List Int)) := iter (fun s => (ref20_All_T5 p0 p1 s).run) F0 s
noncomputable abbrev ref20_All_L5_c : Code := loopOf Tryz.f49 5
theorem ref20_All_L5_s (p0 : (List Int)) (p1 : Int) (s : (Int × (List (List Int)))) : ∀ o, ref20_All_L5 p0 p1 s = some o → LpK Tryz.prog f49H 0 5 ref20_All_L5_c (ref20_All_L5_st p0 p1 s) (fun e s' => e = (ref20_All_L5_out p0 p1 o).1 ∧ s' = (ref20_All_L5_out p0 p1 o).2) := fun o => iter_sound (tr := fun s => (ref20_All_T5 p0 p1 s)) (st := fun s => ref20_All_L5_st p0 p1 s) (by kernel_rfl) (fun s K => by kernel_rfl) F0 s o
noncomputable def ref20_All_T (d0 : (List Int)) : Tree (RTs.den [.d (.slice (.slice .i64))]) :=
 .ex (ref19_Check_s d0) fun y0 =>
 .br (!(decide (y0 = 0)))
  (.ret [])
  (.ex (ref20_All_L5_s d0 (↑(List.length d0) : Int) (0, ([] :: []))) fun y1 =>
  .ret y1)
noncomputable def ref20_All (d0 : (List Int)) : Option (RTs.den [.d (.slice (.slice .i64))]) := (ref20_All_T d0).run
theorem ref20_All_s (d0 : (List Int)) : ∀ y, ref20_All d0 = some y → CSem Tryz.prog 49 [Ty.e (.slice .i64) d0] [] (fun v b => v = (RTs.shape [.d (.slice (.slice .i64))] y).1 ∧ b = (RTs.shape [.d (.slice (.slice .i64))] y).2) := fun_sound (H := f49H) (fn := Tryz.f49) (by kernel_rfl) (by kernel_rfl) (fun post => by kernel_rfl)
noncomputable def f96H : Hint := ⟨fun _ => false, false, fun n => lk n [(8, [0, 1, 2, 9, 25, 26])], fun _ => [], fun n => lk n [(8, openOf P [(9, 22)])], fun _ => [], fun _ => [], fun n => lk n [(8, [⟨.exit 0, [9], [9], mores P [], []⟩])], resOf P 96, fun g _ _ => retOf P g⟩
noncomputable def ref19_With_L8_st (p0 : (List Int)) (p1 p2 p3 : Int) (s : (Int × (List Int))) : St := ⟨slots 50 [(0, .e (.c (.sl .i64 p0))), (1, .e (.c (.i64 p1))), (2, .e (.c (.i64 p2))), (9, .e (.c (.ref 0))), (25, .e (.c (.i64 p3))), (26, .e (.c (.i64 s.1)))], [.row 3 .i64 s.2 false]⟩
noncomputable def ref19_With_L8_out (p0 : (List Int)) (p1 p2 p3 : Int) : (List Int) → Exit × St := fun y => ((.exit 0), ⟨slots 50 [(9, .e (.c (.ref 0)))], [.row 3 .i64 y false]⟩)
noncomputable def ref19_With_T8 (p0 : (List Int)) (p1 p2 p3 : Int) (s : (Int × (List Int))) : Tree ((Int × (List Int)) ⊕ (List Int)) :=
 .br (decide (s.1 < p3))
  (.br (decide (s.1 = p1))
   (.ob (((((List.length s.2) + 1) * 8) ≤ 140737488355328)) (
   .ret (.inl ((w64 (s.1 + 1)), (s.2 ++ (p2 :: []))))))
   (.ob ((((0 : Int) ≤ s.1) ∧ (s.1 < (↑(List.length p0) : Int)))) (
   .ob (((((List.length s.2) + 1) * 8) ≤ 140737488355328)) (
   .ret (.inl ((w64 (s.1 + 1)), (s.2 ++ ((List.getD p0 (Int.toNat s.1) default) :: []))))))))
  (.ret (.inr s.2))
noncomputable def ref19_With_L8 (p0 : (List Int)) (p1 p2 p3 : Int) (s : (Int × (List Int))) : Option (List Int) := iter (fun s => (ref19_With_T8 p0 p1 p2 p3 s).run) F0 s
noncomputable abbrev ref19_With_L8_c : Code := loopOf Tryz.f96 8
theorem ref19_With_L8_s (p0 : (List Int)) (p1 p2 p3 : Int) (s : (Int × (List Int))) : ∀ o, ref19_With_L8 p0 p1 p2 p3 s = some o → LpK Tryz.prog f96H 0 8 ref19_With_L8_c (ref19_With_L8_st p0 p1 p2 p3 s) (fun e s' => e = (ref19_With_L8_out p0 p1 p2 p3 o).1 ∧ s' = (ref19_With_L8_out p0 p1 p2 p3 o).2) := fun o => iter_sound (tr := fun s => (ref19_With_T8 p0 p1 p2 p3 s)) (st := fun s => ref19_With_L8_st p0 p1 p2 p3 s) (by kernel_rfl) (fun s K => by kernel_rfl) F0 s o
noncomputable def ref19_With_T (d0 : (List Int)) (axis1 : Int) (size2 : Int) : Tree (RTs.den [.d (.slice .i64), .d .i64]) :=
 .ex (ref19_Check_s d0) fun y0 =>
 .br (!(decide (y0 = 0)))
  (.ret ([], y0))
  (.br (decide (axis1 < 0))
   (.ret ([], 10))
   (.br (decide ((↑(List.length d0) : Int) ≤ axis1))
    (.ret ([], 10))
    (.ex (ref19_With_L8_s d0 axis1 size2 (↑(List.length d0) : Int) (0, [])) fun y1 =>
    .ex (ref19_Check_s y1) fun y2 =>
    .br (!(decide (y2 = 0)))
     (.ret ([], y2))
     (.ret (y1, 0)))))
noncomputable def ref19_With (d0 : (List Int)) (axis1 : Int) (size2 : Int) : Option (RTs.den [.d (.slice .i64), .d .i64]) := (ref19_With_T d0 axis1 size2).run
theorem ref19_With_s (d0 : (List Int)) (axis1 : Int) (size2 : Int) : ∀ y, ref19_With d0 axis1 size2 = some y → CSem Tryz.prog 96 [Ty.e (.slice .i64) d0, Ty.e .i64 axis1, Ty.e .i64 size2] [] (fun v b => v = (RTs.shape [.d (.slice .i64), .d .i64] y).1 ∧ b = (RTs.shape [.d (.slice .i64), .d .i64] y).2) := fun_sound (H := f96H) (fn := Tryz.f96) (by kernel_rfl) (by kernel_rfl) (fun post => by kernel_rfl)
noncomputable def f21H : Hint := ⟨fun _ => false, false, fun n => lk n [(4, [0, 1, 12, 13])], fun _ => [], fun _ => [], fun _ => [], fun _ => [], fun n => lk n [(4, [⟨.exit 0, [], [], mores P [], []⟩, ⟨.ret, [4], [], mores P [(4, 4)], []⟩])], resOf P 21, fun g _ _ => retOf P g⟩
noncomputable def ref19_Same_L4_st (p0 p1 : (List Int)) (p2 : Int) (s : Int) : St := ⟨slots 26 [(0, .e (.c (.sl .i64 p0))), (1, .e (.c (.sl .i64 p1))), (12, .e (.c (.i64 p2))), (13, .e (.c (.i64 s)))], []⟩
noncomputable def ref19_Same_L4_out (p0 p1 : (List Int)) (p2 : Int) : (Unit ⊕ Bool) → Exit × St := fun y => match y with
  | (.inl y) => ((.exit 0), ⟨slots 26 [], []⟩)
  | (.inr y) => (.ret, ⟨slots 26 [(4, .e (.c (.bool y)))], []⟩)
noncomputable def ref19_Same_T4 (p0 p1 : (List Int)) (p2 : Int) (s : Int) : Tree (Int ⊕ (Unit ⊕ Bool)) :=
 .br (decide (s < p2))
  (.ob ((((0 : Int) ≤ s) ∧ (s < (↑(List.length p0) : Int)))) (
  .ob ((((0 : Int) ≤ s) ∧ (s < (↑(List.length p1) : Int)))) (
  .br (!(decide ((List.getD p0 (Int.toNat s) default) = (List.getD p1 (Int.toNat s) default))))
   (.ret (.inr (.inr Bool.false)))
   (.ret (.inl (w64 (s + 1)))))))
  (.ret (.inr (.inl ())))
noncomputable def ref19_Same_L4 (p0 p1 : (List Int)) (p2 : Int) (s : Int) : Option (Unit ⊕ Bool) := iter (fun s => (ref19_Same_T4 p0 p1 p2 s).run) F0 s
noncomputable abbrev ref19_Same_L4_c : Code := loopOf Tryz.f21 4
theorem ref19_Same_L4_s (p0 p1 : (List Int)) (p2 : Int) (s : Int) : ∀ o, ref19_Same_L4 p0 p1 p2 s = some o → LpK Tryz.prog f21H 0 4 ref19_Same_L4_c (ref19_Same_L4_st p0 p1 p2 s) (fun e s' => e = (ref19_Same_L4_out p0 p1 p2 o).1 ∧ s' = (ref19_Same_L4_out p0 p1 p2 o).2) := fun o => iter_sound (tr := fun s => (ref19_Same_T4 p0 p1 p2 s)) (st := fun s => ref19_Same_L4_st p0 p1 p2 s) (by kernel_rfl) (fun s K => by kernel_rfl) F0 s o
noncomputable def ref19_Same_T (a0 : (List Int)) (b1 : (List Int)) : Tree (RTs.den [.d .bool]) :=
 .br (!(decide ((↑(List.length a0) : Int) = (↑(List.length b1) : Int))))
  (.ret Bool.false)
  (.alt (isL (ref19_Same_L4 a0 b1 (↑(List.length a0) : Int) 0))
   (.an (s_u (s_l (ref19_Same_L4_s a0 b1 (↑(List.length a0) : Int) 0))) (
   .ret Bool.true))
   (.ex (s_r (ref19_Same_L4_s a0 b1 (↑(List.length a0) : Int) 0)) fun y0 =>
   .ret y0))
noncomputable def ref19_Same (a0 : (List Int)) (b1 : (List Int)) : Option (RTs.den [.d .bool]) := (ref19_Same_T a0 b1).run
theorem ref19_Same_s (a0 : (List Int)) (b1 : (List Int)) : ∀ y, ref19_Same a0 b1 = some y → CSem Tryz.prog 21 [Ty.e (.slice .i64) a0, Ty.e (.slice .i64) b1] [] (fun v b => v = (RTs.shape [.d .bool] y).1 ∧ b = (RTs.shape [.d .bool] y).2) := fun_sound (H := f21H) (fn := Tryz.f21) (by kernel_rfl) (by kernel_rfl) (fun post => by kernel_rfl)
noncomputable def f97H : Hint := ⟨fun _ => false, false, fun n => lk n [(3, [1, 5, 10, 11])], fun _ => [], fun _ => [], fun _ => [], fun _ => [], fun n => lk n [(3, [⟨.exit 0, [], [], mores P [], []⟩, ⟨.ret, [4], [], mores P [(4, 3)], []⟩])], resOf P 97, fun g _ _ => retOf P g⟩
noncomputable def ref20_Place_L3_st (p0 : (List Int)) (p1 : (List (List Int))) (p2 : Int) (s : Int) : St := ⟨slots 22 [(1, .e (.c (.sl .i64 p0))), (5, .e (.c (.sl (.slice .i64) p1))), (10, .e (.c (.i64 p2))), (11, .e (.c (.i64 s)))], []⟩
noncomputable def ref20_Place_L3_out (p0 : (List Int)) (p1 : (List (List Int))) (p2 : Int) : (Unit ⊕ Int) → Exit × St := fun y => match y with
  | (.inl y) => ((.exit 0), ⟨slots 22 [], []⟩)
  | (.inr y) => (.ret, ⟨slots 22 [(4, .e (.c (.i64 y)))], []⟩)
noncomputable def ref20_Place_T3 (p0 : (List Int)) (p1 : (List (List Int))) (p2 : Int) (s : Int) : Tree (Int ⊕ (Unit ⊕ Int)) :=
 .br (decide (s < p2))
  (.ob ((((0 : Int) ≤ s) ∧ (s < (↑(List.length p1) : Int)))) (
  .ex (ref19_Same_s (List.getD p1 (Int.toNat s) default) p0) fun y0 =>
  .br y0
   (.ret (.inr (.inr s)))
   (.ret (.inl (w64 (s + 1))))))
  (.ret (.inr (.inl ())))
noncomputable def ref20_Place_L3 (p0 : (List Int)) (p1 : (List (List Int))) (p2 : Int) (s : Int) : Option (Unit ⊕ Int) := iter (fun s => (ref20_Place_T3 p0 p1 p2 s).run) F0 s
noncomputable abbrev ref20_Place_L3_c : Code := loopOf Tryz.f97 3
theorem ref20_Place_L3_s (p0 : (List Int)) (p1 : (List (List Int))) (p2 : Int) (s : Int) : ∀ o, ref20_Place_L3 p0 p1 p2 s = some o → LpK Tryz.prog f97H 0 3 ref20_Place_L3_c (ref20_Place_L3_st p0 p1 p2 s) (fun e s' => e = (ref20_Place_L3_out p0 p1 p2 o).1 ∧ s' = (ref20_Place_L3_out p0 p1 p2 o).2) := fun o => iter_sound (tr := fun s => (ref20_Place_T3 p0 p1 p2 s)) (st := fun s => ref20_Place_L3_st p0 p1 p2 s) (by kernel_rfl) (fun s K => by kernel_rfl) F0 s o
noncomputable def ref20_Place_T (d0 : (List Int)) (a1 : (List Int)) : Tree (RTs.den [.d .i64]) :=
 .ex (ref20_All_s d0) fun y0 =>
 .alt (isL (ref20_Place_L3 a1 y0 (↑(List.length y0) : Int) 0))
  (.an (s_u (s_l (ref20_Place_L3_s a1 y0 (↑(List.length y0) : Int) 0))) (
  .ret (-1)))
  (.ex (s_r (ref20_Place_L3_s a1 y0 (↑(List.length y0) : Int) 0)) fun y1 =>
  .ret y1)
noncomputable def ref20_Place (d0 : (List Int)) (a1 : (List Int)) : Option (RTs.den [.d .i64]) := (ref20_Place_T d0 a1).run
theorem ref20_Place_s (d0 : (List Int)) (a1 : (List Int)) : ∀ y, ref20_Place d0 a1 = some y → CSem Tryz.prog 97 [Ty.e (.slice .i64) d0, Ty.e (.slice .i64) a1] [] (fun v b => v = (RTs.shape [.d .i64] y).1 ∧ b = (RTs.shape [.d .i64] y).2) := fun_sound (H := f97H) (fn := Tryz.f97) (by kernel_rfl) (by kernel_rfl) (fun post => by kernel_rfl)
noncomputable def f69H : Hint := ⟨fun _ => false, false, fun n => lk n [(7, [0, 3, 4, 6, 38, 39]), (15, [3, 4, 6, 9, 10, 65, 66])], fun _ => [], fun _ => [], fun n => lk n [(15, opencOf P [(9, [(86, 2)], 22)])], fun _ => [], fun n => lk n [(7, [⟨.exit 0, [0, 3, 4, 6], [], mores P [], [3]⟩, ⟨.ret, [4, 5], [], mores P [(5, 3)], [3]⟩]), (15, [⟨.exit 2, [4, 9], [], mores P [], [3, 4]⟩])], resOf P 69, fun g _ _ => retOf P g⟩
noncomputable def ref29_put_L15_st (p0 : (List Int)) (p1 : (List (List Int))) (p2 p3 p4 p5 p6 p7 p8 p9 p10 : Int) (p11 : Bool) (p12 : (List Int)) (s : (Int × ((List Int) × (List Int)))) : St := ⟨slots 98 [(3, .e (.c (.ptr 0 0))), (4, .e (.c (.ptr 1 0))), (6, .e (.c (.sl .i64 p0))), (9, .e (.c (.ptr 2 0))), (10, .e (.c (.sl (.slice .i64) p1))), (65, .e (.c (.i64 p2))), (66, .e (.c (.i64 s.1)))], [.cells 24 [.i64 p3, .i64 p4, .i64 p5, .i64 p6, .i64 p7, .i64 p8, .i64 p9, .i64 p10, .bool p11, .sl .i64 p12], .cells 86 [.nils, .nils, .nils], .cells 86 [.sl .i64 s.2.1, .nils, .ref 3], .row 3 .i64 s.2.2 false]⟩
noncomputable def ref29_put_L15_out (p0 : (List Int)) (p1 : (List (List Int))) (p2 p3 p4 p5 p6 p7 p8 p9 p10 : Int) (p11 : Bool) (p12 : (List Int)) : ((List Int) × (List Int)) → Exit × St := fun y => ((.exit 2), ⟨slots 98 [(4, .e (.c (.ptr 0 0))), (9, .e (.c (.ptr 1 0)))], [.cells 86 [.nils, .nils, .nils], .cells 86 [.sl .i64 y.1, .nils, .ref 2], .row 3 .i64 y.2 false]⟩)
noncomputable def ref29_put_T15 (p0 : (List Int)) (p1 : (List (List Int))) (p2 p3 p4 p5 p6 p7 p8 p9 p10 : Int) (p11 : Bool) (p12 : (List Int)) (s : (Int × ((List Int) × (List Int)))) : Tree ((Int × ((List Int) × (List Int))) ⊕ ((List Int) × (List Int))) :=
 .br (decide (s.1 < p2))
  (.ob ((((0 : Int) ≤ s.1) ∧ (s.1 < (↑(List.length p1) : Int)))) (
  .ob ((((0 + (List.length (List.getD p1 (Int.toNat s.1) default))) * 8) ≤ 140737488355328)) (
  .ob ((((0 : Int) ≤ p3) ∧ (p3 < (↑(List.length (List.getD p1 (Int.toNat s.1) default)) : Int)))) (
  .ob ((((0 : Int) ≤ (List.getD (List.getD p1 (Int.toNat s.1) default) (Int.toNat p3) default)) ∧ ((List.getD (List.getD p1 (Int.toNat s.1) default) (Int.toNat p3) default) < (↑(List.length p12) : Int)))) (
  .ob ((((0 : Int) ≤ p3) ∧ (p3 < (↑(List.length (List.getD p1 (Int.toNat s.1) default)) : Int)))) (
  .ex (ref20_Place_s p0 (List.set (List.getD p1 (Int.toNat s.1) default) (Int.toNat p3) (List.getD p12 (Int.toNat (List.getD (List.getD p1 (Int.toNat s.1) default) (Int.toNat p3) default)) default))) fun y0 =>
  .ob (((((List.length s.2.2) + 1) * 8) ≤ 140737488355328)) (
  .ret (.inl ((w64 (s.1 + 1)), (s.2.1, (s.2.2 ++ (y0 :: []))))))))))))
  (.ret (.inr s.2))
noncomputable def ref29_put_L15 (p0 : (List Int)) (p1 : (List (List Int))) (p2 p3 p4 p5 p6 p7 p8 p9 p10 : Int) (p11 : Bool) (p12 : (List Int)) (s : (Int × ((List Int) × (List Int)))) : Option ((List Int) × (List Int)) := iter (fun s => (ref29_put_T15 p0 p1 p2 p3 p4 p5 p6 p7 p8 p9 p10 p11 p12 s).run) F0 s
noncomputable abbrev ref29_put_L15_c : Code := loopOf Tryz.f69 15
theorem ref29_put_L15_s (p0 : (List Int)) (p1 : (List (List Int))) (p2 p3 p4 p5 p6 p7 p8 p9 p10 : Int) (p11 : Bool) (p12 : (List Int)) (s : (Int × ((List Int) × (List Int)))) : ∀ o, ref29_put_L15 p0 p1 p2 p3 p4 p5 p6 p7 p8 p9 p10 p11 p12 s = some o → LpK Tryz.prog f69H 0 15 ref29_put_L15_c (ref29_put_L15_st p0 p1 p2 p3 p4 p5 p6 p7 p8 p9 p10 p11 p12 s) (fun e s' => e = (ref29_put_L15_out p0 p1 p2 p3 p4 p5 p6 p7 p8 p9 p10 p11 p12 o).1 ∧ s' = (ref29_put_L15_out p0 p1 p2 p3 p4 p5 p6 p7 p8 p9 p10 p11 p12 o).2) := fun o => iter_sound (tr := fun s => (ref29_put_T15 p0 p1 p2 p3 p4 p5 p6 p7 p8 p9 p10 p11 p12 s)) (st := fun s => ref29_put_L15_st p0 p1 p2 p3 p4 p5 p6 p7 p8 p9 p10 p11 p12 s) (by kernel_rfl) (fun s K => by kernel_rfl) F0 s o
noncomputable def ref29_put_L7_st (p0 p1 : (List Int)) (p2 p3 p4 p5 p6 p7 p8 p9 p10 : Int) (p11 : Bool) (p12 : (List Int)) (s : Int) : St := ⟨slots 98 [(0, .e (.c (.sl .i64 p0))), (3, .e (.c (.ptr 0 0))), (4, .e (.c (.ptr 1 0))), (6, .e (.c (.sl .i64 p1))), (38, .e (.c (.i64 p2))), (39, .e (.c (.i64 s)))], [.cells 24 [.i64 p3, .i64 p4, .i64 p5, .i64 p6, .i64 p7, .i64 p8, .i64 p9, .i64 p10, .bool p11, .sl .i64 p12], .cells 86 [.nils, .nils, .nils]]⟩
noncomputable def ref29_put_L7_out (p0 p1 : (List Int)) (p2 p3 p4 p5 p6 p7 p8 p9 p10 : Int) (p11 : Bool) (p12 : (List Int)) : (Unit ⊕ Int) → Exit × St := fun y => match y with
  | (.inl y) => ((.exit 0), ⟨slots 98 [(0, .e (.c (.sl .i64 p0))), (3, .e (.c (.ptr 0 0))), (4, .e (.c (.ptr 1 0))), (6, .e (.c (.sl .i64 p1)))], [.cells 24 [.i64 p3, .i64 p4, .i64 p5, .i64 p6, .i64 p7, .i64 p8, .i64 p9, .i64 p10, .bool p11, .sl .i64 p12], .cells 86 [.nils, .nils, .nils]]⟩)
  | (.inr y) => (.ret, ⟨slots 98 [(4, .e (.c (.ptr 0 0))), (5, .e (.c (.i64 y)))], [.cells 86 [.nils, .nils, .nils]]⟩)
noncomputable def ref29_put_T7 (p0 p1 : (List Int)) (p2 p3 p4 p5 p6 p7 p8 p9 p10 : Int) (p11 : Bool) (p12 : (List Int)) (s : Int) : Tree (Int ⊕ (Unit ⊕ Int)) :=
 .br (decide (s < p2))
  (.ob ((((0 : Int) ≤ s) ∧ (s < (↑(List.length p12) : Int)))) (
  .br (decide ((List.getD p12 (Int.toNat s) default) < 0))
   (.ret (.inr (.inr 11)))
   (.ob ((((0 : Int) ≤ s) ∧ (s < (↑(List.length p12) : Int)))) (
   .br (decide (p4 ≤ (List.getD p12 (Int.toNat s) default)))
    (.ret (.inr (.inr 11)))
    (.ret (.inl (w64 (s + 1))))))))
  (.ret (.inr (.inl ())))
noncomputable def ref29_put_L7 (p0 p1 : (List Int)) (p2 p3 p4 p5 p6 p7 p8 p9 p10 : Int) (p11 : Bool) (p12 : (List Int)) (s : Int) : Option (Unit ⊕ Int) := iter (fun s => (ref29_put_T7 p0 p1 p2 p3 p4 p5 p6 p7 p8 p9 p10 p11 p12 s).run) F0 s
noncomputable abbrev ref29_put_L7_c : Code := loopOf Tryz.f69 7
theorem ref29_put_L7_s (p0 p1 : (List Int)) (p2 p3 p4 p5 p6 p7 p8 p9 p10 : Int) (p11 : Bool) (p12 : (List Int)) (s : Int) : ∀ o, ref29_put_L7 p0 p1 p2 p3 p4 p5 p6 p7 p8 p9 p10 p11 p12 s = some o → LpK Tryz.prog f69H 0 7 ref29_put_L7_c (ref29_put_L7_st p0 p1 p2 p3 p4 p5 p6 p7 p8 p9 p10 p11 p12 s) (fun e s' => e = (ref29_put_L7_out p0 p1 p2 p3 p4 p5 p6 p7 p8 p9 p10 p11 p12 o).1 ∧ s' = (ref29_put_L7_out p0 p1 p2 p3 p4 p5 p6 p7 p8 p9 p10 p11 p12 o).2) := fun o => iter_sound (tr := fun s => (ref29_put_T7 p0 p1 p2 p3 p4 p5 p6 p7 p8 p9 p10 p11 p12 s)) (st := fun s => ref29_put_L7_st p0 p1 p2 p3 p4 p5 p6 p7 p8 p9 p10 p11 p12 s) (by kernel_rfl) (fun s K => by kernel_rfl) F0 s o
noncomputable def ref29_put_T (toArray0 : (List Int)) (a1 : AttrD) : Tree (RTs.den [.d (.pair (.slice .i64) (.pair (.slice .i64) (.pair (.slice .i64) .unit))), .d .i64]) :=
 .ex (ref19_With_s toArray0 a1.1 a1.2.1) fun y0 =>
 .br (!(decide (y0.2 = 0)))
  (.ret (([], ([], ([], ()))), y0.2))
  (.ob ((((0 : Int) ≤ a1.1) ∧ (a1.1 < (↑(List.length toArray0) : Int)))) (
  .br (!(decide ((↑(List.length a1.2.2.2.2.2.2.2.2.2.1) : Int) = (List.getD toArray0 (Int.toNat a1.1) default))))
   (.ret (([], ([], ([], ()))), 8))
   (.alt (isL (ref29_put_L7 toArray0 y0.1 (↑(List.length a1.2.2.2.2.2.2.2.2.2.1) : Int) a1.1 a1.2.1 a1.2.2.1 a1.2.2.2.1 a1.2.2.2.2.1 a1.2.2.2.2.2.1 a1.2.2.2.2.2.2.1 a1.2.2.2.2.2.2.2.1 a1.2.2.2.2.2.2.2.2.1 a1.2.2.2.2.2.2.2.2.2.1 0))
    (.an (s_u (s_l (ref29_put_L7_s toArray0 y0.1 (↑(List.length a1.2.2.2.2.2.2.2.2.2.1) : Int) a1.1 a1.2.1 a1.2.2.1 a1.2.2.2.1 a1.2.2.2.2.1 a1.2.2.2.2.2.1 a1.2.2.2.2.2.2.1 a1.2.2.2.2.2.2.2.1 a1.2.2.2.2.2.2.2.2.1 a1.2.2.2.2.2.2.2.2.2.1 0))) (
    .ex (ref20_All_s toArray0) fun y1 =>
    .ex (ref29_put_L15_s y0.1 y1 (↑(List.length y1) : Int) a1.1 a1.2.1 a1.2.2.1 a1.2.2.2.1 a1.2.2.2.2.1 a1.2.2.2.2.2.1 a1.2.2.2.2.2.2.1 a1.2.2.2.2.2.2.2.1 a1.2.2.2.2.2.2.2.2.1 a1.2.2.2.2.2.2.2.2.2.1 (0, (y0.1, []))) fun y2 =>
    .ret ((y2.1, ([], (y2.2, ()))), 0)))
    (.ex (s_r (ref29_put_L7_s toArray0 y0.1 (↑(List.length a1.2.2.2.2.2.2.2.2.2.1) : Int) a1.1 a1.2.1 a1.2.2.1 a1.2.2.2.1 a1.2.2.2.2.1 a1.2.2.2.2.2.1 a1.2.2.2.2.2.2.1 a1.2.2.2.2.2.2.2.1 a1.2.2.2.2.2.2.2.2.1 a1.2.2.2.2.2.2.2.2.2.1 0)) fun y3 =>
    .ret (([], ([], ([], ()))), y3)))))
noncomputable def ref29_put (toArray0 : (List Int)) (a1 : AttrD) : Option (RTs.den [.d (.pair (.slice .i64) (.pair (.slice .i64) (.pair (.slice .i64) .unit))), .d .i64]) := (ref29_put_T toArray0 a1).run
theorem ref29_put_s (toArray0 : (List Int)) (a1 : AttrD) : ∀ y, ref29_put toArray0 a1 = some y → CSem Tryz.prog 69 [Ty.e (.slice .i64) toArray0, Ty.e attrT a1] [] (fun v b => v = (RTs.shape [.d (.pair (.slice .i64) (.pair (.slice .i64) (.pair (.slice .i64) .unit))), .d .i64] y).1 ∧ b = (RTs.shape [.d (.pair (.slice .i64) (.pair (.slice .i64) (.pair (.slice .i64) .unit))), .d .i64] y).2) := fun_sound (H := f69H) (fn := Tryz.f69) (by kernel_rfl) (by kernel_rfl) (fun post => by kernel_rfl)
noncomputable def f70H : Hint := ⟨fun _ => false, false, fun n => lk n [(6, [0, 1, 2, 6, 31, 32]), (17, [0, 1, 2, 6, 11, 12, 75, 76])], fun _ => [], fun _ => [], fun n => lk n [(17, opencOf P [(11, [(86, 1)], 22), (11, [(86, 2)], 22)])], fun _ => [], fun n => lk n [(6, [⟨.exit 0, [0, 1, 2, 6], [], mores P [], []⟩, ⟨.ret, [6, 7], [], mores P [(7, 3)], []⟩]), (17, [⟨.exit 2, [6, 11], [], mores P [], [6]⟩])], resOf P 70, fun g _ _ => retOf P g⟩
noncomputable def ref29_join_L17_st (p0 p1 : (List Int)) (p2 : Int) (p3 : (List (List Int))) (p4 : Int) (s : (Int × ((List Int) × ((List Int) × (List Int))))) : St := ⟨slots 134 [(0, .e (.c (.sl .i64 p0))), (1, .e (.c (.sl .i64 p1))), (2, .e (.c (.i64 p2))), (6, .e (.c (.ptr 0 0))), (11, .e (.c (.ptr 1 0))), (12, .e (.c (.sl (.slice .i64) p3))), (75, .e (.c (.i64 p4))), (76, .e (.c (.i64 s.1)))], [.cells 86 [.nils, .nils, .nils], .cells 86 [.sl .i64 s.2.1, .ref 2, .ref 3], .row 3 .i64 s.2.2.1 false, .row 3 .i64 s.2.2.2 false]⟩
noncomputable def ref29_join_L17_out (p0 p1 : (List Int)) (p2 : Int) (p3 : (List (List Int))) (p4 : Int) : ((List Int) × ((List Int) × (List Int))) → Exit × St := fun y => ((.exit 2), ⟨slots 134 [(6, .e (.c (.ptr 0 0))), (11, .e (.c (.ptr 1 0)))], [.cells 86 [.nils, .nils, .nils], .cells 86 [.sl .i64 y.1, .ref 2, .ref 3], .row 3 .i64 y.2.1 false, .row 3 .i64 y.2.2 false]⟩)
noncomputable def ref29_join_T17 (p0 p1 : (List Int)) (p2 : Int) (p3 : (List (List Int))) (p4 : Int) (s : (Int × ((List Int) × ((List Int) × (List Int))))) : Tree ((Int × ((List Int) × ((List Int) × (List Int)))) ⊕ ((List Int) × ((List Int) × (List Int)))) :=
 .br (decide (s.1 < p4))
  (.ob ((((0 : Int) ≤ s.1) ∧ (s.1 < (↑(List.length p3) : Int)))) (
  .ob ((((0 + (List.length (List.getD p3 (Int.toNat s.1) default))) * 8) ≤ 140737488355328)) (
  .ob ((((0 : Int) ≤ p2) ∧ (p2 < (↑(List.length (List.getD p3 (Int.toNat s.1) default)) : Int)))) (
  .ob ((((0 : Int) ≤ p2) ∧ (p2 < (↑(List.length p0) : Int)))) (
  .br (decide ((List.getD (List.getD p3 (Int.toNat s.1) default) (Int.toNat p2) default) < (List.getD p0 (Int.toNat p2) default)))
   (.ob (((((List.length s.2.2.1) + 1) * 8) ≤ 140737488355328)) (
   .ex (ref20_Place_s p0 (List.getD p3 (Int.toNat s.1) default)) fun y0 =>
   .ob (((((List.length s.2.2.2) + 1) * 8) ≤ 140737488355328)) (
   .ret (.inl ((w64 (s.1 + 1)), (s.2.1, ((s.2.2.1 ++ (0 :: [])), (s.2.2.2 ++ (y0 :: [])))))))))
   (.ob ((((0 : Int) ≤ p2) ∧ (p2 < (↑(List.length (List.getD p3 (Int.toNat s.1) default)) : Int)))) (
   .ob ((((0 : Int) ≤ p2) ∧ (p2 < (↑(List.length p0) : Int)))) (
   .ob ((((0 : Int) ≤ p2) ∧ (p2 < (↑(List.length (List.getD p3 (Int.toNat s.1) default)) : Int)))) (
   .ob (((((List.length s.2.2.1) + 1) * 8) ≤ 140737488355328)) (
   .ex (ref20_Place_s p1 (List.set (List.getD p3 (Int.toNat s.1) default) (Int.toNat p2) (w64 ((List.getD (List.getD p3 (Int.toNat s.1) default) (Int.toNat p2) default) - (List.getD p0 (Int.toNat p2) default))))) fun y1 =>
   .ob (((((List.length s.2.2.2) + 1) * 8) ≤ 140737488355328)) (
   .ret (.inl ((w64 (s.1 + 1)), (s.2.1, ((s.2.2.1 ++ (1 :: [])), (s.2.2.2 ++ (y1 :: [])))))))))))))))))
  (.ret (.inr s.2))
noncomputable def ref29_join_L17 (p0 p1 : (List Int)) (p2 : Int) (p3 : (List (List Int))) (p4 : Int) (s : (Int × ((List Int) × ((List Int) × (List Int))))) : Option ((List Int) × ((List Int) × (List Int))) := iter (fun s => (ref29_join_T17 p0 p1 p2 p3 p4 s).run) F0 s
noncomputable abbrev ref29_join_L17_c : Code := loopOf Tryz.f70 17
theorem ref29_join_L17_s (p0 p1 : (List Int)) (p2 : Int) (p3 : (List (List Int))) (p4 : Int) (s : (Int × ((List Int) × ((List Int) × (List Int))))) : ∀ o, ref29_join_L17 p0 p1 p2 p3 p4 s = some o → LpK Tryz.prog f70H 0 17 ref29_join_L17_c (ref29_join_L17_st p0 p1 p2 p3 p4 s) (fun e s' => e = (ref29_join_L17_out p0 p1 p2 p3 p4 o).1 ∧ s' = (ref29_join_L17_out p0 p1 p2 p3 p4 o).2) := fun o => iter_sound (tr := fun s => (ref29_join_T17 p0 p1 p2 p3 p4 s)) (st := fun s => ref29_join_L17_st p0 p1 p2 p3 p4 s) (by kernel_rfl) (fun s K => by kernel_rfl) F0 s o
noncomputable def ref29_join_L6_st (p0 p1 : (List Int)) (p2 p3 : Int) (s : Int) : St := ⟨slots 134 [(0, .e (.c (.sl .i64 p0))), (1, .e (.c (.sl .i64 p1))), (2, .e (.c (.i64 p2))), (6, .e (.c (.ptr 0 0))), (31, .e (.c (.i64 p3))), (32, .e (.c (.i64 s)))], [.cells 86 [.nils, .nils, .nils]]⟩
noncomputable def ref29_join_L6_out (p0 p1 : (List Int)) (p2 p3 : Int) : (Unit ⊕ Int) → Exit × St := fun y => match y with
  | (.inl y) => ((.exit 0), ⟨slots 134 [(0, .e (.c (.sl .i64 p0))), (1, .e (.c (.sl .i64 p1))), (2, .e (.c (.i64 p2))), (6, .e (.c (.ptr 0 0)))], [.cells 86 [.nils, .nils, .nils]]⟩)
  | (.inr y) => (.ret, ⟨slots 134 [(6, .e (.c (.ptr 0 0))), (7, .e (.c (.i64 y)))], [.cells 86 [.nils, .nils, .nils]]⟩)
noncomputable def ref29_join_T6 (p0 p1 : (List Int)) (p2 p3 : Int) (s : Int) : Tree (Int ⊕ (Unit ⊕ Int)) :=
 .br (decide (s < p3))
  (.br (!(decide (s = p2)))
   (.ob ((((0 : Int) ≤ s) ∧ (s < (↑(List.length p0) : Int)))) (
   .ob ((((0 : Int) ≤ s) ∧ (s < (↑(List.length p1) : Int)))) (
   .br (!(decide ((List.getD p0 (Int.toNat s) default) = (List.getD p1 (Int.toNat s) default))))
    (.ret (.inr (.inr 8)))
    (.ret (.inl (w64 (s + 1)))))))
   (.ret (.inl (w64 (s + 1)))))
  (.ret (.inr (.inl ())))
noncomputable def ref29_join_L6 (p0 p1 : (List Int)) (p2 p3 : Int) (s : Int) : Option (Unit ⊕ Int) := iter (fun s => (ref29_join_T6 p0 p1 p2 p3 s).run) F0 s
noncomputable abbrev ref29_join_L6_c : Code := loopOf Tryz.f70 6
theorem ref29_join_L6_s (p0 p1 : (List Int)) (p2 p3 : Int) (s : Int) : ∀ o, ref29_join_L6 p0 p1 p2 p3 s = some o → LpK Tryz.prog f70H 0 6 ref29_join_L6_c (ref29_join_L6_st p0 p1 p2 p3 s) (fun e s' => e = (ref29_join_L6_out p0 p1 p2 p3 o).1 ∧ s' = (ref29_join_L6_out p0 p1 p2 p3 o).2) := fun o => iter_sound (tr := fun s => (ref29_join_T6 p0 p1 p2 p3 s)) (st := fun s => ref29_join_L6_st p0 p1 p2 p3 s) (by kernel_rfl) (fun s K => by kernel_rfl) F0 s o
noncomputable def ref29_join_T (toArray0 : (List Int)) (a1 : (List Int)) (a2 : Int) : Tree (RTs.den [.d (.pair (.slice .i64) (.pair (.slice .i64) (.pair (.slice .i64) .unit))), .d .i64]) :=
 .br (decide (a2 < 0))
  (.ret (([], ([], ([], ()))), 10))
  (.br (decide ((↑(List.length toArray0) : Int) ≤ a2))
   (.ret (([], ([], ([], ()))), 10))
   (.br (!(decide ((↑(List.length toArray0) : Int) = (↑(List.length a1) : Int))))
    (.ret (([], ([], ([], ()))), 8))
    (.alt (isL (ref29_join_L6 toArray0 a1 a2 (↑(List.length toArray0) : Int) 0))
     (.an (s_u (s_l (ref29_join_L6_s toArray0 a1 a2 (↑(List.length toArray0) : Int) 0))) (
     .ob ((((0 : Int) ≤ a2) ∧ (a2 < (↑(List.length toArray0) : Int)))) (
     .ob ((((0 : Int) ≤ a2) ∧ (a2 < (↑(List.length a1) : Int)))) (
     .ex (ref19_With_s toArray0 a2 (w64 ((List.getD toArray0 (Int.toNat a2) default) + (List.getD a1 (Int.toNat a2) default)))) fun y0 =>
     .br (!(decide (y0.2 = 0)))
      (.ret (([], ([], ([], ()))), y0.2))
      (.ex (ref20_All_s y0.1) fun y1 =>
      .ex (ref29_join_L17_s toArray0 a1 a2 y1 (↑(List.length y1) : Int) (0, (y0.1, ([], [])))) fun y2 =>
      .ret ((y2.1, (y2.2.1, (y2.2.2, ()))), 0))))))
     (.ex (s_r (ref29_join_L6_s toArray0 a1 a2 (↑(List.length toArray0) : Int) 0)) fun y3 =>
     .ret (([], ([], ([], ()))), y3)))))
noncomputable def ref29_join (toArray0 : (List Int)) (a1 : (List Int)) (a2 : Int) : Option (RTs.den [.d (.pair (.slice .i64) (.pair (.slice .i64) (.pair (.slice .i64) .unit))), .d .i64]) := (ref29_join_T toArray0 a1 a2).run
theorem ref29_join_s (toArray0 : (List Int)) (a1 : (List Int)) (a2 : Int) : ∀ y, ref29_join toArray0 a1 a2 = some y → CSem Tryz.prog 70 [Ty.e (.slice .i64) toArray0, Ty.e (.slice .i64) a1, Ty.e .i64 a2] [] (fun v b => v = (RTs.shape [.d (.pair (.slice .i64) (.pair (.slice .i64) (.pair (.slice .i64) .unit))), .d .i64] y).1 ∧ b = (RTs.shape [.d (.pair (.slice .i64) (.pair (.slice .i64) (.pair (.slice .i64) .unit))), .d .i64] y).2) := fun_sound (H := f70H) (fn := Tryz.f70) (by kernel_rfl) (by kernel_rfl) (fun post => by kernel_rfl)
noncomputable def f134H : Hint := ⟨fun _ => false, false, fun n => lk n [(8, [1, 8, 21, 22])], fun _ => [], fun n => lk n [(8, openOf P [(8, 22)])], fun _ => [], fun _ => [], fun n => lk n [(8, [⟨.exit 0, [1, 8], [8], mores P [], []⟩])], resOf P 134, fun g _ _ => retOf P g⟩
noncomputable def ref22_Reshape_L8_st (p0 : (List Int)) (p1 : Int) (s : (Int × (List Int))) : St := ⟨slots 34 [(1, .e (.c (.sl .i64 p0))), (8, .e (.c (.ref 0))), (21, .e (.c (.i64 p1))), (22, .e (.c (.i64 s.1)))], [.row 3 .i64 s.2 false]⟩
noncomputable def ref22_Reshape_L8_out (p0 : (List Int)) (p1 : Int) : (List Int) → Exit × St := fun y => ((.exit 0), ⟨slots 34 [(1, .e (.c (.sl .i64 p0))), (8, .e (.c (.ref 0)))], [.row 3 .i64 y false]⟩)
noncomputable def ref22_Reshape_T8 (p0 : (List Int)) (p1 : Int) (s : (Int × (List Int))) : Tree ((Int × (List Int)) ⊕ (List Int)) :=
 .br (decide (s.1 < p1))
  (.ob (((((List.length s.2) + 1) * 8) ≤ 140737488355328)) (
  .ret (.inl ((w64 (s.1 + 1)), (s.2 ++ (s.1 :: []))))))
  (.ret (.inr s.2))
noncomputable def ref22_Reshape_L8 (p0 : (List Int)) (p1 : Int) (s : (Int × (List Int))) : Option (List Int) := iter (fun s => (ref22_Reshape_T8 p0 p1 s).run) F0 s
noncomputable abbrev ref22_Reshape_L8_c : Code := loopOf Tryz.f134 8
theorem ref22_Reshape_L8_s (p0 : (List Int)) (p1 : Int) (s : (Int × (List Int))) : ∀ o, ref22_Reshape_L8 p0 p1 s = some o → LpK Tryz.prog f134H 0 8 ref22_Reshape_L8_c (ref22_Reshape_L8_st p0 p1 s) (fun e s' => e = (ref22_Reshape_L8_out p0 p1 o).1 ∧ s' = (ref22_Reshape_L8_out p0 p1 o).2) := fun o => iter_sound (tr := fun s => (ref22_Reshape_T8 p0 p1 s)) (st := fun s => ref22_Reshape_L8_st p0 p1 s) (by kernel_rfl) (fun s K => by kernel_rfl) F0 s o
noncomputable def ref22_Reshape_T (d0 : (List Int)) (a1 : (List Int)) : Tree (RTs.den [.d (.slice .i64), .d (.slice .i64), .d .i64]) :=
 .ex (ref19_Check_s a1) fun y0 =>
 .br (!(decide (y0 = 0)))
  (.ret ([], ([], y0)))
  (.ex (ref19_Count_s a1) fun y1 =>
  .ex (ref19_Count_s d0) fun y2 =>
  .br (!(decide (y1 = y2)))
   (.ret ([], ([], 8)))
   (.ex (ref19_Count_s d0) fun y3 =>
   .ex (ref22_Reshape_L8_s a1 y3 (0, [])) fun y4 =>
   .ob ((((0 + (List.length a1)) * 8) ≤ 140737488355328)) (
   .ret (a1, (y4, 0)))))
noncomputable def ref22_Reshape (d0 : (List Int)) (a1 : (List Int)) : Option (RTs.den [.d (.slice .i64), .d (.slice .i64), .d .i64]) := (ref22_Reshape_T d0 a1).run
theorem ref22_Reshape_s (d0 : (List Int)) (a1 : (List Int)) : ∀ y, ref22_Reshape d0 a1 = some y → CSem Tryz.prog 134 [Ty.e (.slice .i64) d0, Ty.e (.slice .i64) a1] [] (fun v b => v = (RTs.shape [.d (.slice .i64), .d (.slice .i64), .d .i64] y).1 ∧ b = (RTs.shape [.d (.slice .i64), .d (.slice .i64), .d .i64] y).2) := fun_sound (H := f134H) (fn := Tryz.f134) (by kernel_rfl) (by kernel_rfl) (fun post => by kernel_rfl)
noncomputable def f139H : Hint := ⟨fun _ => false, false, fun n => lk n [(3, [0, 1, 5, 8, 9])], fun _ => [], fun _ => [], fun _ => [], fun _ => [], fun n => lk n [(3, [⟨.exit 0, [5], [5], mores P [], []⟩])], resOf P 139, fun g _ _ => retOf P g⟩
noncomputable def ref22_number_L3_st (p0 p1 : (List Int)) (p2 : Int) (s : (Int × Int)) : St := ⟨slots 25 [(0, .e (.c (.sl .i64 p0))), (1, .e (.c (.sl .i64 p1))), (5, .e (.c (.i64 s.1))), (8, .e (.c (.i64 p2))), (9, .e (.c (.i64 s.2)))], []⟩
noncomputable def ref22_number_L3_out (p0 p1 : (List Int)) (p2 : Int) : Int → Exit × St := fun y => ((.exit 0), ⟨slots 25 [(5, .e (.c (.i64 y)))], []⟩)
noncomputable def ref22_number_T3 (p0 p1 : (List Int)) (p2 : Int) (s : (Int × Int)) : Tree ((Int × Int) ⊕ Int) :=
 .br (decide (s.2 < p2))
  (.ob ((((0 : Int) ≤ s.2) ∧ (s.2 < (↑(List.length p0) : Int)))) (
  .ob ((((0 : Int) ≤ s.2) ∧ (s.2 < (↑(List.length p1) : Int)))) (
  .ret (.inl ((w64 ((w64 (s.1 * (List.getD p0 (Int.toNat s.2) default))) + (List.getD p1 (Int.toNat s.2) default))), (w64 (s.2 + 1)))))))
  (.ret (.inr s.1))
noncomputable def ref22_number_L3 (p0 p1 : (List Int)) (p2 : Int) (s : (Int × Int)) : Option Int := iter (fun s => (ref22_number_T3 p0 p1 p2 s).run) F0 s
noncomputable abbrev ref22_number_L3_c : Code := loopOf Tryz.f139 3
theorem ref22_number_L3_s (p0 p1 : (List Int)) (p2 : Int) (s : (Int × Int)) : ∀ o, ref22_number_L3 p0 p1 p2 s = some o → LpK Tryz.prog f139H 0 3 ref22_number_L3_c (ref22_number_L3_st p0 p1 p2 s) (fun e s' => e = (ref22_number_L3_out p0 p1 p2 o).1 ∧ s' = (ref22_number_L3_out p0 p1 p2 o).2) := fun o => iter_sound (tr := fun s => (ref22_number_T3 p0 p1 p2 s)) (st := fun s => ref22_number_L3_st p0 p1 p2 s) (by kernel_rfl) (fun s K => by kernel_rfl) F0 s o
noncomputable def ref22_number_T (d0 : (List Int)) (a1 : (List Int)) : Tree (RTs.den [.d .i64]) :=
 .ex (ref22_number_L3_s d0 a1 (↑(List.length d0) : Int) (0, 0)) fun y0 =>
 .ret y0
noncomputable def ref22_number (d0 : (List Int)) (a1 : (List Int)) : Option (RTs.den [.d .i64]) := (ref22_number_T d0 a1).run
theorem ref22_number_s (d0 : (List Int)) (a1 : (List Int)) : ∀ y, ref22_number d0 a1 = some y → CSem Tryz.prog 139 [Ty.e (.slice .i64) d0, Ty.e (.slice .i64) a1] [] (fun v b => v = (RTs.shape [.d .i64] y).1 ∧ b = (RTs.shape [.d .i64] y).2) := fun_sound (H := f139H) (fn := Tryz.f139) (by kernel_rfl) (by kernel_rfl) (fun post => by kernel_rfl)
noncomputable def f176H : Hint := ⟨fun _ => false, false, fun n => lk n [(9, [0, 1, 9, 33, 34])], fun _ => [], fun n => lk n [(9, openOf P [(9, 22)])], fun _ => [], fun _ => [], fun n => lk n [(9, [⟨.exit 0, [9], [9], mores P [], []⟩])], resOf P 176, fun g _ _ => retOf P g⟩
noncomputable def ref19_Perm_L9_st (p0 p1 : (List Int)) (p2 : Int) (s : (Int × (List Int))) : St := ⟨slots 49 [(0, .e (.c (.sl .i64 p0))), (1, .e (.c (.sl .i64 p1))), (9, .e (.c (.ref 0))), (33, .e (.c (.i64 p2))), (34, .e (.c (.i64 s.1)))], [.row 3 .i64 s.2 false]⟩
noncomputable def ref19_Perm_L9_out (p0 p1 : (List Int)) (p2 : Int) : (List Int) → Exit × St := fun y => ((.exit 0), ⟨slots 49 [(9, .e (.c (.ref 0)))], [.row 3 .i64 y false]⟩)
noncomputable def ref19_Perm_T9 (p0 p1 : (List Int)) (p2 : Int) (s : (Int × (List Int))) : Tree ((Int × (List Int)) ⊕ (List Int)) :=
 .br (decide (s.1 < p2))
  (.ob ((((0 : Int) ≤ s.1) ∧ (s.1 < (↑(List.length p1) : Int)))) (
  .ob ((((0 : Int) ≤ (List.getD p1 (Int.toNat s.1) default)) ∧ ((List.getD p1 (Int.toNat s.1) default) < (↑(List.length p0) : Int)))) (
  .ob (((((List.length s.2) + 1) * 8) ≤ 140737488355328)) (
  .ret (.inl ((w64 (s.1 + 1)), (s.2 ++ ((List.getD p0 (Int.toNat (List.getD p1 (Int.toNat s.1) default)) default) :: []))))))))
  (.ret (.inr s.2))
noncomputable def ref19_Perm_L9 (p0 p1 : (List Int)) (p2 : Int) (s : (Int × (List Int))) : Option (List Int) := iter (fun s => (ref19_Perm_T9 p0 p1 p2 s).run) F0 s
noncomputable abbrev ref19_Perm_L9_c : Code := loopOf Tryz.f176 9
theorem ref19_Perm_L9_s (p0 p1 : (List Int)) (p2 : Int) (s : (Int × (List Int))) : ∀ o, ref19_Perm_L9 p0 p1 p2 s = some o → LpK Tryz.prog f176H 0 9 ref19_Perm_L9_c (ref19_Perm_L9_st p0 p1 p2 s) (fun e s' => e = (ref19_Perm_L9_out p0 p1 p2 o).1 ∧ s' = (ref19_Perm_L9_out p0 p1 p2 o).2) := fun o => iter_sound (tr := fun s => (ref19_Perm_T9 p0 p1 p2 s)) (st := fun s => ref19_Perm_L9_st p0 p1 p2 s) (by kernel_rfl) (fun s K => by kernel_rfl) F0 s o
noncomputable def ref19_Perm_T (d0 : (List Int)) (axes1 : (List Int)) : Tree (RTs.den [.d (.slice .i64), .d .i64]) :=
 .ex (ref19_Check_s d0) fun y0 =>
 .br (!(decide (y0 = 0)))
  (.ret ([], y0))
  (.ex (ref19_Axes_s (↑(List.length d0) : Int) axes1) fun y1 =>
  .br (!(decide (y1.2 = 0)))
   (.ret ([], 10))
   (.br (!(decide ((↑(List.length axes1) : Int) = (↑(List.length d0) : Int))))
    (.ret ([], 10))
    (.ex (ref19_Perm_L9_s d0 axes1 (↑(List.length axes1) : Int) (0, [])) fun y2 =>
    .ret (y2, 0))))
noncomputable def ref19_Perm (d0 : (List Int)) (axes1 : (List Int)) : Option (RTs.den [.d (.slice .i64), .d .i64]) := (ref19_Perm_T d0 axes1).run
theorem ref19_Perm_s (d0 : (List Int)) (axes1 : (List Int)) : ∀ y, ref19_Perm d0 axes1 = some y → CSem Tryz.prog 176 [Ty.e (.slice .i64) d0, Ty.e (.slice .i64) axes1] [] (fun v b => v = (RTs.shape [.d (.slice .i64), .d .i64] y).1 ∧ b = (RTs.shape [.d (.slice .i64), .d .i64] y).2) := fun_sound (H := f176H) (fn := Tryz.f176) (by kernel_rfl) (by kernel_rfl) (fun post => by kernel_rfl)
noncomputable def f135H : Hint := ⟨fun _ => false, false, fun n => lk n [(7, [0, 1, 7, 9, 10, 26, 27]), (11, [0, 1, 7, 9, 10, 11, 12, 26, 27, 34, 35])], fun _ => [], fun n => lk n [(7, openOf P [(10, 22)])], fun _ => [], fun _ => [], fun n => lk n [(7, [⟨.exit 0, [7, 10], [10], mores P [], []⟩]), (11, [⟨.exit 2, [0, 1, 7, 9, 10, 12, 26, 27], [], mores P [], []⟩])], resOf P 135, fun g _ _ => retOf P g⟩
noncomputable def ref22_Permute_L11_st (p0 p1 p2 : (List Int)) (p3 : (List (List Int))) (p4 p5 p6 p7 : Int) (s : (Int × ((List Int) × (List Int)))) : St := ⟨slots 61 [(0, .e (.c (.sl .i64 p0))), (1, .e (.c (.sl .i64 p1))), (7, .e (.c (.sl .i64 p2))), (9, .e (.c (.sl (.slice .i64) p3))), (10, .e (.c (.ref 0))), (11, .e (.c (.i64 p4))), (12, .e (.c (.ref 1))), (26, .e (.c (.i64 p5))), (27, .e (.c (.i64 p6))), (34, .e (.c (.i64 p7))), (35, .e (.c (.i64 s.1)))], [.row 3 .i64 s.2.1 false, .row 3 .i64 s.2.2 false]⟩
noncomputable def ref22_Permute_L11_out (p0 p1 p2 : (List Int)) (p3 : (List (List Int))) (p4 p5 p6 p7 : Int) : ((List Int) × (List Int)) → Exit × St := fun y => ((.exit 2), ⟨slots 61 [(0, .e (.c (.sl .i64 p0))), (1, .e (.c (.sl .i64 p1))), (7, .e (.c (.sl .i64 p2))), (9, .e (.c (.sl (.slice .i64) p3))), (10, .e (.c (.ref 0))), (12, .e (.c (.ref 1))), (26, .e (.c (.i64 p5))), (27, .e (.c (.i64 p6)))], [.row 3 .i64 y.1 false, .row 3 .i64 y.2 false]⟩)
noncomputable def ref22_Permute_T11 (p0 p1 p2 : (List Int)) (p3 : (List (List Int))) (p4 p5 p6 p7 : Int) (s : (Int × ((List Int) × (List Int)))) : Tree ((Int × ((List Int) × (List Int))) ⊕ ((List Int) × (List Int))) :=
 .br (decide (s.1 < p7))
  (.ob ((((0 : Int) ≤ s.1) ∧ (s.1 < (↑(List.length p1) : Int)))) (
  .ob ((((0 : Int) ≤ p4) ∧ (p4 < (↑(List.length p3) : Int)))) (
  .ob ((((0 : Int) ≤ s.1) ∧ (s.1 < (↑(List.length (List.getD p3 (Int.toNat p4) default)) : Int)))) (
  .ob ((((0 : Int) ≤ (List.getD p1 (Int.toNat s.1) default)) ∧ ((List.getD p1 (Int.toNat s.1) default) < (↑(List.length s.2.2) : Int)))) (
  .ret (.inl ((w64 (s.1 + 1)), (s.2.1, (List.set s.2.2 (Int.toNat (List.getD p1 (Int.toNat s.1) default)) (List.getD (List.getD p3 (Int.toNat p4) default) (Int.toNat s.1) default))))))))))
  (.ret (.inr s.2))
noncomputable def ref22_Permute_L11 (p0 p1 p2 : (List Int)) (p3 : (List (List Int))) (p4 p5 p6 p7 : Int) (s : (Int × ((List Int) × (List Int)))) : Option ((List Int) × (List Int)) := iter (fun s => (ref22_Permute_T11 p0 p1 p2 p3 p4 p5 p6 p7 s).run) F0 s
noncomputable abbrev ref22_Permute_L11_c : Code := loopOf Tryz.f135 11
theorem ref22_Permute_L11_s (p0 p1 p2 : (List Int)) (p3 : (List (List Int))) (p4 p5 p6 p7 : Int) (s : (Int × ((List Int) × (List Int)))) : ∀ o, ref22_Permute_L11 p0 p1 p2 p3 p4 p5 p6 p7 s = some o → LpK Tryz.prog f135H 0 11 ref22_Permute_L11_c (ref22_Permute_L11_st p0 p1 p2 p3 p4 p5 p6 p7 s) (fun e s' => e = (ref22_Permute_L11_out p0 p1 p2 p3 p4 p5 p6 p7 o).1 ∧ s' = (ref22_Permute_L11_out p0 p1 p2 p3 p4 p5 p6 p7 o).2) := fun o => iter_sound (tr := fun s => (ref22_Permute_T11 p0 p1 p2 p3 p4 p5 p6 p7 s)) (st := fun s => ref22_Permute_L11_st p0 p1 p2 p3 p4 p5 p6 p7 s) (by kernel_rfl) (fun s K => by kernel_rfl) F0 s o
noncomputable def ref22_Permute_L7_st (p0 p1 p2 : (List Int)) (p3 : (List (List Int))) (p4 : Int) (s : (Int × (List Int))) : St := ⟨slots 61 [(0, .e (.c (.sl .i64 p0))), (1, .e (.c (.sl .i64 p1))), (7, .e (.c (.sl .i64 p2))), (9, .e (.c (.sl (.slice .i64) p3))), (10, .e (.c (.ref 0))), (26, .e (.c (.i64 p4))), (27, .e (.c (.i64 s.1)))], [.row 3 .i64 s.2 false]⟩
noncomputable def ref22_Permute_L7_out (p0 p1 p2 : (List Int)) (p3 : (List (List Int))) (p4 : Int) : (List Int) → Exit × St := fun y => ((.exit 0), ⟨slots 61 [(7, .e (.c (.sl .i64 p2))), (10, .e (.c (.ref 0)))], [.row 3 .i64 y false]⟩)
noncomputable def ref22_Permute_T7 (p0 p1 p2 : (List Int)) (p3 : (List (List Int))) (p4 : Int) (s : (Int × (List Int))) : Tree ((Int × (List Int)) ⊕ (List Int)) :=
 .br (decide (s.1 < p4))
  (.ob ((((0 : Int) ≤ (↑(List.length p0) : Int)) ∧ (((↑(List.length p0) : Int) ≤ (↑(List.length p0) : Int)) ∧ (((↑(List.length p0) : Int) * (↑8 : Int)) ≤ 140737488355328)))) (
  .ex (ref22_Permute_L11_s p0 p1 p2 p3 s.1 p4 s.1 (↑(List.length p1) : Int) (0, (s.2, (List.replicate (Int.toNat (↑(List.length p0) : Int)) 0)))) fun y0 =>
  .ex (ref22_number_s p0 y0.2) fun y1 =>
  .ob (((((List.length y0.1) + 1) * 8) ≤ 140737488355328)) (
  .ret (.inl ((w64 (s.1 + 1)), (y0.1 ++ (y1 :: [])))))))
  (.ret (.inr s.2))
noncomputable def ref22_Permute_L7 (p0 p1 p2 : (List Int)) (p3 : (List (List Int))) (p4 : Int) (s : (Int × (List Int))) : Option (List Int) := iter (fun s => (ref22_Permute_T7 p0 p1 p2 p3 p4 s).run) F0 s
noncomputable abbrev ref22_Permute_L7_c : Code := loopOf Tryz.f135 7
theorem ref22_Permute_L7_s (p0 p1 p2 : (List Int)) (p3 : (List (List Int))) (p4 : Int) (s : (Int × (List Int))) : ∀ o, ref22_Permute_L7 p0 p1 p2 p3 p4 s = some o → LpK Tryz.prog f135H 0 7 ref22_Permute_L7_c (ref22_Permute_L7_st p0 p1 p2 p3 p4 s) (fun e s' => e = (ref22_Permute_L7_out p0 p1 p2 p3 p4 o).1 ∧ s' = (ref22_Permute_L7_out p0 p1 p2 p3 p4 o).2) := fun o => iter_sound (tr := fun s => (ref22_Permute_T7 p0 p1 p2 p3 p4 s)) (st := fun s => ref22_Permute_L7_st p0 p1 p2 p3 p4 s) (by kernel_rfl) (fun s K => by kernel_rfl) F0 s o
noncomputable def ref22_Permute_T (d0 : (List Int)) (axes1 : (List Int)) : Tree (RTs.den [.d (.slice .i64), .d (.slice .i64), .d .i64]) :=
 .ex (ref19_Perm_s d0 axes1) fun y0 =>
 .br (!(decide (y0.2 = 0)))
  (.ret ([], ([], y0.2)))
  (.ex (ref20_All_s y0.1) fun y1 =>
  .ex (ref22_Permute_L7_s d0 axes1 y0.1 y1 (↑(List.length y1) : Int) (0, [])) fun y2 =>
  .ret (y0.1, (y2, 0)))
noncomputable def ref22_Permute (d0 : (List Int)) (axes1 : (List Int)) : Option (RTs.den [.d (.slice .i64), .d (.slice .i64), .d .i64]) := (ref22_Permute_T d0 axes1).run
theorem ref22_Permute_s (d0 : (List Int)) (axes1 : (List Int)) : ∀ y, ref22_Permute d0 axes1 = some y → CSem Tryz.prog 135 [Ty.e (.slice .i64) d0, Ty.e (.slice .i64) axes1] [] (fun v b => v = (RTs.shape [.d (.slice .i64), .d (.slice .i64), .d .i64] y).1 ∧ b = (RTs.shape [.d (.slice .i64), .d (.slice .i64), .d .i64] y).2) := fun_sound (H := f135H) (fn := Tryz.f135) (by kernel_rfl) (by kernel_rfl) (fun post => by kernel_rfl)
noncomputable def f99H : Hint := ⟨fun _ => false, false, fun n => lk n [(7, [0, 1, 2, 9, 11, 12, 29, 30])], fun _ => [], fun n => lk n [(7, openOf P [(12, 22)])], fun _ => [], fun _ => [], fun n => lk n [(7, [⟨.exit 0, [9, 12], [12], mores P [], []⟩])], resOf P 99, fun g _ _ => retOf P g⟩
noncomputable def ref22_Take_L7_st (p0 : (List Int)) (p1 : Int) (p2 p3 : (List Int)) (p4 : (List (List Int))) (p5 : Int) (s : (Int × (List Int))) : St := ⟨slots 58 [(0, .e (.c (.sl .i64 p0))), (1, .e (.c (.i64 p1))), (2, .e (.c (.sl .i64 p2))), (9, .e (.c (.sl .i64 p3))), (11, .e (.c (.sl (.slice .i64) p4))), (12, .e (.c (.ref 0))), (29, .e (.c (.i64 p5))), (30, .e (.c (.i64 s.1)))], [.row 3 .i64 s.2 false]⟩
noncomputable def ref22_Take_L7_out (p0 : (List Int)) (p1 : Int) (p2 p3 : (List Int)) (p4 : (List (List Int))) (p5 : Int) : (List Int) → Exit × St := fun y => ((.exit 0), ⟨slots 58 [(9, .e (.c (.sl .i64 p3))), (12, .e (.c (.ref 0)))], [.row 3 .i64 y false]⟩)
noncomputable def ref22_Take_T7 (p0 : (List Int)) (p1 : Int) (p2 p3 : (List Int)) (p4 : (List (List Int))) (p5 : Int) (s : (Int × (List Int))) : Tree ((Int × (List Int)) ⊕ (List Int)) :=
 .br (decide (s.1 < p5))
  (.ob ((((0 : Int) ≤ s.1) ∧ (s.1 < (↑(List.length p4) : Int)))) (
  .ob ((((0 + (List.length (List.getD p4 (Int.toNat s.1) default))) * 8) ≤ 140737488355328)) (
  .ob ((((0 : Int) ≤ p1) ∧ (p1 < (↑(List.length (List.getD p4 (Int.toNat s.1) default)) : Int)))) (
  .ob ((((0 : Int) ≤ (List.getD (List.getD p4 (Int.toNat s.1) default) (Int.toNat p1) default)) ∧ ((List.getD (List.getD p4 (Int.toNat s.1) default) (Int.toNat p1) default) < (↑(List.length p2) : Int)))) (
  .ob ((((0 : Int) ≤ p1) ∧ (p1 < (↑(List.length (List.getD p4 (Int.toNat s.1) default)) : Int)))) (
  .ex (ref22_number_s p0 (List.set (List.getD p4 (Int.toNat s.1) default) (Int.toNat p1) (List.getD p2 (Int.toNat (List.getD (List.getD p4 (Int.toNat s.1) default) (Int.toNat p1) default)) default))) fun y0 =>
  .ob (((((List.length s.2) + 1) * 8) ≤ 140737488355328)) (
  .ret (.inl ((w64 (s.1 + 1)), (s.2 ++ (y0 :: [])))))))))))
  (.ret (.inr s.2))
noncomputable def ref22_Take_L7 (p0 : (List Int)) (p1 : Int) (p2 p3 : (List Int)) (p4 : (List (List Int))) (p5 : Int) (s : (Int × (List Int))) : Option (List Int) := iter (fun s => (ref22_Take_T7 p0 p1 p2 p3 p4 p5 s).run) F0 s
noncomputable abbrev ref22_Take_L7_c : Code := loopOf Tryz.f99 7
theorem ref22_Take_L7_s (p0 : (List Int)) (p1 : Int) (p2 p3 : (List Int)) (p4 : (List (List Int))) (p5 : Int) (s : (Int × (List Int))) : ∀ o, ref22_Take_L7 p0 p1 p2 p3 p4 p5 s = some o → LpK Tryz.prog f99H 0 7 ref22_Take_L7_c (ref22_Take_L7_st p0 p1 p2 p3 p4 p5 s) (fun e s' => e = (ref22_Take_L7_out p0 p1 p2 p3 p4 p5 o).1 ∧ s' = (ref22_Take_L7_out p0 p1 p2 p3 p4 p5 o).2) := fun o => iter_sound (tr := fun s => (ref22_Take_T7 p0 p1 p2 p3 p4 p5 s)) (st := fun s => ref22_Take_L7_st p0 p1 p2 p3 p4 p5 s) (by kernel_rfl) (fun s K => by kernel_rfl) F0 s o
noncomputable def ref22_Take_T (d0 : (List Int)) (axis1 : Int) (marks2 : (List Int)) : Tree (RTs.den [.d (.slice .i64), .d (.slice .i64), .d .i64]) :=
 .ex (ref19_With_s d0 axis1 (↑(List.length marks2) : Int)) fun y0 =>
 .br (!(decide (y0.2 = 0)))
  (.ret ([], ([], y0.2)))
  (.ex (ref20_All_s y0.1) fun y1 =>
  .ex (ref22_Take_L7_s d0 axis1 marks2 y0.1 y1 (↑(List.length y1) : Int) (0, [])) fun y2 =>
  .ret (y0.1, (y2, 0)))
noncomputable def ref22_Take (d0 : (List Int)) (axis1 : Int) (marks2 : (List Int)) : Option (RTs.den [.d (.slice .i64), .d (.slice .i64), .d .i64]) := (ref22_Take_T d0 axis1 marks2).run
theorem ref22_Take_s (d0 : (List Int)) (axis1 : Int) (marks2 : (List Int)) : ∀ y, ref22_Take d0 axis1 marks2 = some y → CSem Tryz.prog 99 [Ty.e (.slice .i64) d0, Ty.e .i64 axis1, Ty.e (.slice .i64) marks2] [] (fun v b => v = (RTs.shape [.d (.slice .i64), .d (.slice .i64), .d .i64] y).1 ∧ b = (RTs.shape [.d (.slice .i64), .d (.slice .i64), .d .i64] y).2) := fun_sound (H := f99H) (fn := Tryz.f99) (by kernel_rfl) (by kernel_rfl) (fun post => by kernel_rfl)
noncomputable def f136H : Hint := ⟨fun _ => false, false, fun n => lk n [(7, [0, 1, 2, 4, 13, 62, 63])], fun _ => [], fun n => lk n [(7, openOf P [(13, 22)])], fun _ => [], fun _ => [], fun n => lk n [(7, [⟨.exit 0, [0, 1, 13], [13], mores P [], []⟩, ⟨.ret, [10, 11, 12], [], mores P [(10, 22), (11, 22), (12, 3)], []⟩])], resOf P 136, fun g _ _ => retOf P g⟩
noncomputable def ref22_Slice_L7_st (p0 : (List Int)) (p1 p2 p3 p4 : Int) (s : (Int × (List Int))) : St := ⟨slots 96 [(0, .e (.c (.sl .i64 p0))), (1, .e (.c (.i64 p1))), (2, .e (.c (.i64 p2))), (4, .e (.c (.i64 p3))), (13, .e (.c (.ref 0))), (62, .e (.c (.i64 p4))), (63, .e (.c (.i64 s.1)))], [.row 3 .i64 s.2 false]⟩
noncomputable def ref22_Slice_L7_out (p0 : (List Int)) (p1 p2 p3 p4 : Int) : ((List Int) ⊕ ((List Int) × ((List Int) × Int))) → Exit × St := fun y => match y with
  | (.inl y) => ((.exit 0), ⟨slots 96 [(0, .e (.c (.sl .i64 p0))), (1, .e (.c (.i64 p1))), (13, .e (.c (.ref 0)))], [.row 3 .i64 y false]⟩)
  | (.inr y) => (.ret, ⟨slots 96 [(10, .e (.c (.sl .i64 y.1))), (11, .e (.c (.sl .i64 y.2.1))), (12, .e (.c (.i64 y.2.2)))], []⟩)
noncomputable def ref22_Slice_T7 (p0 : (List Int)) (p1 p2 p3 p4 : Int) (s : (Int × (List Int))) : Tree ((Int × (List Int)) ⊕ ((List Int) ⊕ ((List Int) × ((List Int) × Int)))) :=
 .br (decide (s.1 < p4))
  (.br (decide ((0 : Int) < s.1))
   (.br (decide ((w64 (p2 + (w64 (s.1 * p3)))) < 0))
    (.ret (.inr (.inr ([], ([], 11)))))
    (.ob ((((0 : Int) ≤ p1) ∧ (p1 < (↑(List.length p0) : Int)))) (
    .br (decide ((List.getD p0 (Int.toNat p1) default) ≤ (w64 (p2 + (w64 (s.1 * p3))))))
     (.ret (.inr (.inr ([], ([], 11)))))
     (.ob (((((List.length s.2) + 1) * 8) ≤ 140737488355328)) (
     .ret (.inl ((w64 (s.1 + 1)), (s.2 ++ ((w64 (p2 + (w64 (s.1 * p3)))) :: [])))))))))
   (.br (decide (p2 < 0))
    (.ret (.inr (.inr ([], ([], 11)))))
    (.ob ((((0 : Int) ≤ p1) ∧ (p1 < (↑(List.length p0) : Int)))) (
    .br (decide ((List.getD p0 (Int.toNat p1) default) ≤ p2))
     (.ret (.inr (.inr ([], ([], 11)))))
     (.ob (((((List.length s.2) + 1) * 8) ≤ 140737488355328)) (
     .ret (.inl ((w64 (s.1 + 1)), (s.2 ++ (p2 :: []))))))))))
  (.ret (.inr (.inl s.2)))
noncomputable def ref22_Slice_L7 (p0 : (List Int)) (p1 p2 p3 p4 : Int) (s : (Int × (List Int))) : Option ((List Int) ⊕ ((List Int) × ((List Int) × Int))) := iter (fun s => (ref22_Slice_T7 p0 p1 p2 p3 p4 s).run) F0 s
noncomputable abbrev ref22_Slice_L7_c : Code := loopOf Tryz.f136 7
theorem ref22_Slice_L7_s (p0 : (List Int)) (p1 p2 p3 p4 : Int) (s : (Int × (List Int))) : ∀ o, ref22_Slice_L7 p0 p1 p2 p3 p4 s = some o → LpK Tryz.prog f136H 0 7 ref22_Slice_L7_c (ref22_Slice_L7_st p0 p1 p2 p3 p4 s) (fun e s' => e = (ref22_Slice_L7_out p0 p1 p2 p3 p4 o).1 ∧ s' = (ref22_Slice_L7_out p0 p1 p2 p3 p4 o).2) := fun o => iter_sound (tr := fun s => (ref22_Slice_T7 p0 p1 p2 p3 p4 s)) (st := fun s => ref22_Slice_L7_st p0 p1 p2 p3 p4 s) (by kernel_rfl) (fun s K => by kernel_rfl) F0 s o
noncomputable def ref22_Slice_T (toArray0 : (List Int)) (a1 : Int) (a2 : Int) (a3 : Int) (a4 : Int) : Tree (RTs.den [.d (.slice .i64), .d (.slice .i64), .d .i64]) :=
 .br (decide (a1 < 0))
  (.ret ([], ([], 10)))
  (.br (decide ((↑(List.length toArray0) : Int) ≤ a1))
   (.ret ([], ([], 10)))
   (.br (decide (a3 < 1))
    (.ret ([], ([], 11)))
    (.ob ((((0 : Int) ≤ a1) ∧ (a1 < (↑(List.length toArray0) : Int)))) (
    .br (decide ((List.getD toArray0 (Int.toNat a1) default) < a3))
     (.ret ([], ([], 11)))
     (.br (decide (a2 < 0))
      (.ret ([], ([], 11)))
      (.ob ((((0 : Int) ≤ a1) ∧ (a1 < (↑(List.length toArray0) : Int)))) (
      .br (decide ((List.getD toArray0 (Int.toNat a1) default) ≤ a2))
       (.ret ([], ([], 11)))
       (.br (decide ((1 : Int) < a3))
        (.br (decide (a4 = 0))
         (.ret ([], ([], 11)))
         (.br (decide ((64 : Int) < a4))
          (.ret ([], ([], 11)))
          (.br (decide (a4 < (-64)))
           (.ret ([], ([], 11)))
           (.alt (isL (ref22_Slice_L7 toArray0 a1 a2 a4 a3 (0, [])))
            (.ex (s_l (ref22_Slice_L7_s toArray0 a1 a2 a4 a3 (0, []))) fun y0 =>
            .ex (ref22_Take_s toArray0 a1 y0) fun y1 =>
           .ret (y1.1, (y1.2.1, y1.2.2)))
            (.ex (s_r (ref22_Slice_L7_s toArray0 a1 a2 a4 a3 (0, []))) fun y2 =>
            .ret (y2.1, (y2.2.1, y2.2.2)))))))
        (.alt (isL (ref22_Slice_L7 toArray0 a1 a2 a4 a3 (0, [])))
         (.ex (s_l (ref22_Slice_L7_s toArray0 a1 a2 a4 a3 (0, []))) fun y3 =>
         .ex (ref22_Take_s toArray0 a1 y3) fun y4 =>
        .ret (y4.1, (y4.2.1, y4.2.2)))
         (.ex (s_r (ref22_Slice_L7_s toArray0 a1 a2 a4 a3 (0, []))) fun y5 =>
         .ret (y5.1, (y5.2.1, y5.2.2))))))))))))
noncomputable def ref22_Slice (toArray0 : (List Int)) (a1 : Int) (a2 : Int) (a3 : Int) (a4 : Int) : Option (RTs.den [.d (.slice .i64), .d (.slice .i64), .d .i64]) := (ref22_Slice_T toArray0 a1 a2 a3 a4).run
theorem ref22_Slice_s (toArray0 : (List Int)) (a1 : Int) (a2 : Int) (a3 : Int) (a4 : Int) : ∀ y, ref22_Slice toArray0 a1 a2 a3 a4 = some y → CSem Tryz.prog 136 [Ty.e (.slice .i64) toArray0, Ty.e .i64 a1, Ty.e .i64 a2, Ty.e .i64 a3, Ty.e .i64 a4] [] (fun v b => v = (RTs.shape [.d (.slice .i64), .d (.slice .i64), .d .i64] y).1 ∧ b = (RTs.shape [.d (.slice .i64), .d (.slice .i64), .d .i64] y).2) := fun_sound (H := f136H) (fn := Tryz.f136) (by kernel_rfl) (by kernel_rfl) (fun post => by kernel_rfl)
noncomputable def f11H : Hint := ⟨fun _ => false, false, fun _ => [], fun _ => [], fun _ => [], fun _ => [], fun _ => [], fun _ => [], resOf P 11, fun g _ _ => retOf P g⟩
noncomputable def ref21_Fits_T (a0 : (List Int)) (a1 : (List Int)) : Tree (RTs.den [.d .bool]) :=
 .ex (ref21_Two_s a0 a1) fun y0 =>
 .br (decide (y0.2 = 0))
  (.ex (ref19_Same_s y0.1 a1) fun y1 =>
  .ret y1)
  (.ret Bool.false)
noncomputable def ref21_Fits (a0 : (List Int)) (a1 : (List Int)) : Option (RTs.den [.d .bool]) := (ref21_Fits_T a0 a1).run
theorem ref21_Fits_s (a0 : (List Int)) (a1 : (List Int)) : ∀ y, ref21_Fits a0 a1 = some y → CSem Tryz.prog 11 [Ty.e (.slice .i64) a0, Ty.e (.slice .i64) a1] [] (fun v b => v = (RTs.shape [.d .bool] y).1 ∧ b = (RTs.shape [.d .bool] y).2) := fun_sound (H := f11H) (fn := Tryz.f11) (by kernel_rfl) (by kernel_rfl) (fun post => by kernel_rfl)
noncomputable def f63H : Hint := ⟨fun _ => false, false, fun n => lk n [(3, [0, 1, 5, 8, 9])], fun _ => [], fun _ => [], fun _ => [], fun _ => [], fun n => lk n [(3, [⟨.exit 0, [5], [5], mores P [], []⟩])], resOf P 63, fun g _ _ => retOf P g⟩
noncomputable def ref21_place_L3_st (p0 p1 : (List Int)) (p2 : Int) (s : (Int × Int)) : St := ⟨slots 25 [(0, .e (.c (.sl .i64 p0))), (1, .e (.c (.sl .i64 p1))), (5, .e (.c (.i64 s.1))), (8, .e (.c (.i64 p2))), (9, .e (.c (.i64 s.2)))], []⟩
noncomputable def ref21_place_L3_out (p0 p1 : (List Int)) (p2 : Int) : Int → Exit × St := fun y => ((.exit 0), ⟨slots 25 [(5, .e (.c (.i64 y)))], []⟩)
noncomputable def ref21_place_T3 (p0 p1 : (List Int)) (p2 : Int) (s : (Int × Int)) : Tree ((Int × Int) ⊕ Int) :=
 .br (decide (s.2 < p2))
  (.ob ((((0 : Int) ≤ s.2) ∧ (s.2 < (↑(List.length p0) : Int)))) (
  .ob ((((0 : Int) ≤ s.2) ∧ (s.2 < (↑(List.length p1) : Int)))) (
  .ret (.inl ((w64 ((w64 (s.1 * (List.getD p0 (Int.toNat s.2) default))) + (List.getD p1 (Int.toNat s.2) default))), (w64 (s.2 + 1)))))))
  (.ret (.inr s.1))
noncomputable def ref21_place_L3 (p0 p1 : (List Int)) (p2 : Int) (s : (Int × Int)) : Option Int := iter (fun s => (ref21_place_T3 p0 p1 p2 s).run) F0 s
noncomputable abbrev ref21_place_L3_c : Code := loopOf Tryz.f63 3
theorem ref21_place_L3_s (p0 p1 : (List Int)) (p2 : Int) (s : (Int × Int)) : ∀ o, ref21_place_L3 p0 p1 p2 s = some o → LpK Tryz.prog f63H 0 3 ref21_place_L3_c (ref21_place_L3_st p0 p1 p2 s) (fun e s' => e = (ref21_place_L3_out p0 p1 p2 o).1 ∧ s' = (ref21_place_L3_out p0 p1 p2 o).2) := fun o => iter_sound (tr := fun s => (ref21_place_T3 p0 p1 p2 s)) (st := fun s => ref21_place_L3_st p0 p1 p2 s) (by kernel_rfl) (fun s K => by kernel_rfl) F0 s o
noncomputable def ref21_place_T (d0 : (List Int)) (a1 : (List Int)) : Tree (RTs.den [.d .i64]) :=
 .ex (ref21_place_L3_s d0 a1 (↑(List.length d0) : Int) (0, 0)) fun y0 =>
 .ret y0
noncomputable def ref21_place (d0 : (List Int)) (a1 : (List Int)) : Option (RTs.den [.d .i64]) := (ref21_place_T d0 a1).run
theorem ref21_place_s (d0 : (List Int)) (a1 : (List Int)) : ∀ y, ref21_place d0 a1 = some y → CSem Tryz.prog 63 [Ty.e (.slice .i64) d0, Ty.e (.slice .i64) a1] [] (fun v b => v = (RTs.shape [.d .i64] y).1 ∧ b = (RTs.shape [.d .i64] y).2) := fun_sound (H := f63H) (fn := Tryz.f63) (by kernel_rfl) (by kernel_rfl) (fun post => by kernel_rfl)
noncomputable def f37H : Hint := ⟨fun _ => false, false, fun n => lk n [(6, [0, 1, 5, 6, 17, 18]), (10, [0, 1, 5, 6, 7, 8, 17, 18, 22, 23])], fun _ => [], fun n => lk n [(6, openOf P [(6, 22)]), (10, openOf P [(8, 22)])], fun _ => [], fun _ => [], fun n => lk n [(6, [⟨.exit 0, [6], [6], mores P [], []⟩]), (10, [⟨.exit 2, [0, 1, 5, 6, 8, 17, 18], [8], mores P [], []⟩])], resOf P 37, fun g _ _ => retOf P g⟩
noncomputable def ref21_Sources_L10_st (p0 p1 : (List Int)) (p2 : (List (List Int))) (p3 p4 p5 p6 : Int) (s : (Int × ((List Int) × (List Int)))) : St := ⟨slots 59 [(0, .e (.c (.sl .i64 p0))), (1, .e (.c (.sl .i64 p1))), (5, .e (.c (.sl (.slice .i64) p2))), (6, .e (.c (.ref 0))), (7, .e (.c (.i64 p3))), (8, .e (.c (.ref 1))), (17, .e (.c (.i64 p4))), (18, .e (.c (.i64 p5))), (22, .e (.c (.i64 p6))), (23, .e (.c (.i64 s.1)))], [.row 3 .i64 s.2.1 false, .row 3 .i64 s.2.2 false]⟩
noncomputable def ref21_Sources_L10_out (p0 p1 : (List Int)) (p2 : (List (List Int))) (p3 p4 p5 p6 : Int) : ((List Int) × (List Int)) → Exit × St := fun y => ((.exit 2), ⟨slots 59 [(0, .e (.c (.sl .i64 p0))), (1, .e (.c (.sl .i64 p1))), (5, .e (.c (.sl (.slice .i64) p2))), (6, .e (.c (.ref 0))), (8, .e (.c (.ref 1))), (17, .e (.c (.i64 p4))), (18, .e (.c (.i64 p5)))], [.row 3 .i64 y.1 false, .row 3 .i64 y.2 false]⟩)
noncomputable def ref21_Sources_T10 (p0 p1 : (List Int)) (p2 : (List (List Int))) (p3 p4 p5 p6 : Int) (s : (Int × ((List Int) × (List Int)))) : Tree ((Int × ((List Int) × (List Int))) ⊕ ((List Int) × (List Int))) :=
 .br (decide (s.1 < p6))
  (.ob ((((0 : Int) ≤ s.1) ∧ (s.1 < (↑(List.length p0) : Int)))) (
  .br (decide ((List.getD p0 (Int.toNat s.1) default) = 1))
   (.ob (((((List.length s.2.2) + 1) * 8) ≤ 140737488355328)) (
   .ret (.inl ((w64 (s.1 + 1)), (s.2.1, (s.2.2 ++ (0 :: [])))))))
   (.ob ((((0 : Int) ≤ p3) ∧ (p3 < (↑(List.length p2) : Int)))) (
   .ob ((((0 : Int) ≤ (w64 ((w64 ((↑(List.length p1) : Int) - (↑(List.length p0) : Int))) + s.1))) ∧ ((w64 ((w64 ((↑(List.length p1) : Int) - (↑(List.length p0) : Int))) + s.1)) < (↑(List.length (List.getD p2 (Int.toNat p3) default)) : Int)))) (
   .ob (((((List.length s.2.2) + 1) * 8) ≤ 140737488355328)) (
   .ret (.inl ((w64 (s.1 + 1)), (s.2.1, (s.2.2 ++ ((List.getD (List.getD p2 (Int.toNat p3) default) (Int.toNat (w64 ((w64 ((↑(List.length p1) : Int) - (↑(List.length p0) : Int))) + s.1))) default) :: [])))))))))))
  (.ret (.inr s.2))
noncomputable def ref21_Sources_L10 (p0 p1 : (List Int)) (p2 : (List (List Int))) (p3 p4 p5 p6 : Int) (s : (Int × ((List Int) × (List Int)))) : Option ((List Int) × (List Int)) := iter (fun s => (ref21_Sources_T10 p0 p1 p2 p3 p4 p5 p6 s).run) F0 s
noncomputable abbrev ref21_Sources_L10_c : Code := loopOf Tryz.f37 10
theorem ref21_Sources_L10_s (p0 p1 : (List Int)) (p2 : (List (List Int))) (p3 p4 p5 p6 : Int) (s : (Int × ((List Int) × (List Int)))) : ∀ o, ref21_Sources_L10 p0 p1 p2 p3 p4 p5 p6 s = some o → LpK Tryz.prog f37H 0 10 ref21_Sources_L10_c (ref21_Sources_L10_st p0 p1 p2 p3 p4 p5 p6 s) (fun e s' => e = (ref21_Sources_L10_out p0 p1 p2 p3 p4 p5 p6 o).1 ∧ s' = (ref21_Sources_L10_out p0 p1 p2 p3 p4 p5 p6 o).2) := fun o => iter_sound (tr := fun s => (ref21_Sources_T10 p0 p1 p2 p3 p4 p5 p6 s)) (st := fun s => ref21_Sources_L10_st p0 p1 p2 p3 p4 p5 p6 s) (by kernel_rfl) (fun s K => by kernel_rfl) F0 s o
noncomputable def ref21_Sources_L6_st (p0 p1 : (List Int)) (p2 : (List (List Int))) (p3 : Int) (s : (Int × (List Int))) : St := ⟨slots 59 [(0, .e (.c (.sl .i64 p0))), (1, .e (.c (.sl .i64 p1))), (5, .e (.c (.sl (.slice .i64) p2))), (6, .e (.c (.ref 0))), (17, .e (.c (.i64 p3))), (18, .e (.c (.i64 s.1)))], [.row 3 .i64 s.2 false]⟩
noncomputable def ref21_Sources_L6_out (p0 p1 : (List Int)) (p2 : (List (List Int))) (p3 : Int) : (List Int) → Exit × St := fun y => ((.exit 0), ⟨slots 59 [(6, .e (.c (.ref 0)))], [.row 3 .i64 y false]⟩)
noncomputable def ref21_Sources_T6 (p0 p1 : (List Int)) (p2 : (List (List Int))) (p3 : Int) (s : (Int × (List Int))) : Tree ((Int × (List Int)) ⊕ (List Int)) :=
 .br (decide (s.1 < p3))
  (.ex (ref21_Sources_L10_s p0 p1 p2 s.1 p3 s.1 (↑(List.length p0) : Int) (0, (s.2, []))) fun y0 =>
  .ex (ref21_place_s p0 y0.2) fun y1 =>
  .ob (((((List.length y0.1) + 1) * 8) ≤ 140737488355328)) (
  .ret (.inl ((w64 (s.1 + 1)), (y0.1 ++ (y1 :: []))))))
  (.ret (.inr s.2))
noncomputable def ref21_Sources_L6 (p0 p1 : (List Int)) (p2 : (List (List Int))) (p3 : Int) (s : (Int × (List Int))) : Option (List Int) := iter (fun s => (ref21_Sources_T6 p0 p1 p2 p3 s).run) F0 s
noncomputable abbrev ref21_Sources_L6_c : Code := loopOf Tryz.f37 6
theorem ref21_Sources_L6_s (p0 p1 : (List Int)) (p2 : (List (List Int))) (p3 : Int) (s : (Int × (List Int))) : ∀ o, ref21_Sources_L6 p0 p1 p2 p3 s = some o → LpK Tryz.prog f37H 0 6 ref21_Sources_L6_c (ref21_Sources_L6_st p0 p1 p2 p3 s) (fun e s' => e = (ref21_Sources_L6_out p0 p1 p2 p3 o).1 ∧ s' = (ref21_Sources_L6_out p0 p1 p2 p3 o).2) := fun o => iter_sound (tr := fun s => (ref21_Sources_T6 p0 p1 p2 p3 s)) (st := fun s => ref21_Sources_L6_st p0 p1 p2 p3 s) (by kernel_rfl) (fun s K => by kernel_rfl) F0 s o
noncomputable def ref21_Sources_T (a0 : (List Int)) (a1 : (List Int)) : Tree (RTs.den [.d (.slice .i64)]) :=
 .ex (ref21_Fits_s a0 a1) fun y0 =>
 .br (!y0)
  (.ret [])
  (.ex (ref20_All_s a1) fun y1 =>
  .ex (ref21_Sources_L6_s a0 a1 y1 (↑(List.length y1) : Int) (0, [])) fun y2 =>
  .ret y2)
noncomputable def ref21_Sources (a0 : (List Int)) (a1 : (List Int)) : Option (RTs.den [.d (.slice .i64)]) := (ref21_Sources_T a0 a1).run
theorem ref21_Sources_s (a0 : (List Int)) (a1 : (List Int)) : ∀ y, ref21_Sources a0 a1 = some y → CSem Tryz.prog 37 [Ty.e (.slice .i64) a0, Ty.e (.slice .i64) a1] [] (fun v b => v = (RTs.shape [.d (.slice .i64)] y).1 ∧ b = (RTs.shape [.d (.slice .i64)] y).2) := fun_sound (H := f37H) (fn := Tryz.f37) (by kernel_rfl) (by kernel_rfl) (fun post => by kernel_rfl)
noncomputable def f137H : Hint := ⟨fun _ => false, false, fun _ => [], fun _ => [], fun _ => [], fun _ => [], fun _ => [], fun _ => [], resOf P 137, fun g _ _ => retOf P g⟩
noncomputable def ref22_Expand_T (d0 : (List Int)) (a1 : (List Int)) : Tree (RTs.den [.d (.slice .i64), .d (.slice .i64), .d .i64]) :=
 .ex (ref19_Check_s a1) fun y0 =>
 .br (!(decide (y0 = 0)))
  (.ret ([], ([], y0)))
  (.ex (ref21_Fits_s d0 a1) fun y1 =>
  .br (!y1)
   (.ret ([], ([], 8)))
   (.ob ((((0 + (List.length a1)) * 8) ≤ 140737488355328)) (
   .ex (ref21_Sources_s d0 a1) fun y2 =>
   .ret (a1, (y2, 0)))))
noncomputable def ref22_Expand (d0 : (List Int)) (a1 : (List Int)) : Option (RTs.den [.d (.slice .i64), .d (.slice .i64), .d .i64]) := (ref22_Expand_T d0 a1).run
theorem ref22_Expand_s (d0 : (List Int)) (a1 : (List Int)) : ∀ y, ref22_Expand d0 a1 = some y → CSem Tryz.prog 137 [Ty.e (.slice .i64) d0, Ty.e (.slice .i64) a1] [] (fun v b => v = (RTs.shape [.d (.slice .i64), .d (.slice .i64), .d .i64] y).1 ∧ b = (RTs.shape [.d (.slice .i64), .d (.slice .i64), .d .i64] y).2) := fun_sound (H := f137H) (fn := Tryz.f137) (by kernel_rfl) (by kernel_rfl) (fun post => by kernel_rfl)
noncomputable def f138H : Hint := ⟨fun _ => false, false, fun n => lk n [(5, [0, 1, 7, 20, 21])], fun _ => [], fun n => lk n [(5, openOf P [(7, 22)])], fun _ => [], fun _ => [], fun n => lk n [(5, [⟨.exit 0, [0, 1, 7], [7], mores P [], []⟩])], resOf P 138, fun g _ _ => retOf P g⟩
noncomputable def ref22_Flip_L5_st (p0 : (List Int)) (p1 p2 : Int) (s : (Int × (List Int))) : St := ⟨slots 42 [(0, .e (.c (.sl .i64 p0))), (1, .e (.c (.i64 p1))), (7, .e (.c (.ref 0))), (20, .e (.c (.i64 p2))), (21, .e (.c (.i64 s.1)))], [.row 3 .i64 s.2 false]⟩
noncomputable def ref22_Flip_L5_out (p0 : (List Int)) (p1 p2 : Int) : (List Int) → Exit × St := fun y => ((.exit 0), ⟨slots 42 [(0, .e (.c (.sl .i64 p0))), (1, .e (.c (.i64 p1))), (7, .e (.c (.ref 0)))], [.row 3 .i64 y false]⟩)
noncomputable def ref22_Flip_T5 (p0 : (List Int)) (p1 p2 : Int) (s : (Int × (List Int))) : Tree ((Int × (List Int)) ⊕ (List Int)) :=
 .br (decide (s.1 < p2))
  (.ob ((((0 : Int) ≤ p1) ∧ (p1 < (↑(List.length p0) : Int)))) (
  .ob (((((List.length s.2) + 1) * 8) ≤ 140737488355328)) (
  .ret (.inl ((w64 (s.1 + 1)), (s.2 ++ ((w64 ((w64 ((List.getD p0 (Int.toNat p1) default) - 1)) - s.1)) :: [])))))))
  (.ret (.inr s.2))
noncomputable def ref22_Flip_L5 (p0 : (List Int)) (p1 p2 : Int) (s : (Int × (List Int))) : Option (List Int) := iter (fun s => (ref22_Flip_T5 p0 p1 p2 s).run) F0 s
noncomputable abbrev ref22_Flip_L5_c : Code := loopOf Tryz.f138 5
theorem ref22_Flip_L5_s (p0 : (List Int)) (p1 p2 : Int) (s : (Int × (List Int))) : ∀ o, ref22_Flip_L5 p0 p1 p2 s = some o → LpK Tryz.prog f138H 0 5 ref22_Flip_L5_c (ref22_Flip_L5_st p0 p1 p2 s) (fun e s' => e = (ref22_Flip_L5_out p0 p1 p2 o).1 ∧ s' = (ref22_Flip_L5_out p0 p1 p2 o).2) := fun o => iter_sound (tr := fun s => (ref22_Flip_T5 p0 p1 p2 s)) (st := fun s => ref22_Flip_L5_st p0 p1 p2 s) (by kernel_rfl) (fun s K => by kernel_rfl) F0 s o
noncomputable def ref22_Flip_T (d0 : (List Int)) (axis1 : Int) : Tree (RTs.den [.d (.slice .i64), .d (.slice .i64), .d .i64]) :=
 .br (decide (axis1 < 0))
  (.ret ([], ([], 10)))
  (.br (decide ((↑(List.length d0) : Int) ≤ axis1))
   (.ret ([], ([], 10)))
   (.ob ((((0 : Int) ≤ axis1) ∧ (axis1 < (↑(List.length d0) : Int)))) (
   .ex (ref22_Flip_L5_s d0 axis1 (List.getD d0 (Int.toNat axis1) default) (0, [])) fun y0 =>
   .ex (ref22_Take_s d0 axis1 y0) fun y1 =>
   .ret (y1.1, (y1.2.1, y1.2.2)))))
noncomputable def ref22_Flip (d0 : (List Int)) (axis1 : Int) : Option (RTs.den [.d (.slice .i64), .d (.slice .i64), .d .i64]) := (ref22_Flip_T d0 axis1).run
theorem ref22_Flip_s (d0 : (List Int)) (axis1 : Int) : ∀ y, ref22_Flip d0 axis1 = some y → CSem Tryz.prog 138 [Ty.e (.slice .i64) d0, Ty.e .i64 axis1] [] (fun v b => v = (RTs.shape [.d (.slice .i64), .d (.slice .i64), .d .i64] y).1 ∧ b = (RTs.shape [.d (.slice .i64), .d (.slice .i64), .d .i64] y).2) := fun_sound (H := f138H) (fn := Tryz.f138) (by kernel_rfl) (by kernel_rfl) (fun post => by kernel_rfl)
noncomputable def f98H : Hint := ⟨fun _ => false, false, fun _ => [], fun _ => [], fun _ => [], fun _ => [], fun _ => [], fun _ => [], resOf P 98, fun g _ _ => retOf P g⟩
noncomputable def ref22_Sees_T (op0 : Int) (a1 : AttrD) (d2 : (List Int)) : Tree (RTs.den [.d (.slice .i64), .d (.slice .i64), .d .i64]) :=
 .br (decide (op0 = 33))
  (.ex (ref22_Reshape_s d2 a1.2.2.2.2.2.2.2.2.2.1) fun y0 =>
  .ret (y0.1, (y0.2.1, y0.2.2)))
  (.br (decide (op0 = 34))
   (.ex (ref22_Permute_s d2 a1.2.2.2.2.2.2.2.2.2.1) fun y1 =>
   .ret (y1.1, (y1.2.1, y1.2.2)))
   (.br (decide (op0 = 35))
    (.ex (ref22_Slice_s d2 a1.1 a1.2.1 a1.2.2.1 a1.2.2.2.1) fun y2 =>
    .ret (y2.1, (y2.2.1, y2.2.2)))
    (.br (decide (op0 = 36))
     (.ex (ref22_Expand_s d2 a1.2.2.2.2.2.2.2.2.2.1) fun y3 =>
     .ret (y3.1, (y3.2.1, y3.2.2)))
     (.br (decide (op0 = 37))
      (.ex (ref22_Flip_s d2 a1.1) fun y4 =>
      .ret (y4.1, (y4.2.1, y4.2.2)))
      (.ret ([], ([], 14)))))))
noncomputable def ref22_Sees (op0 : Int) (a1 : AttrD) (d2 : (List Int)) : Option (RTs.den [.d (.slice .i64), .d (.slice .i64), .d .i64]) := (ref22_Sees_T op0 a1 d2).run
theorem ref22_Sees_s (op0 : Int) (a1 : AttrD) (d2 : (List Int)) : ∀ y, ref22_Sees op0 a1 d2 = some y → CSem Tryz.prog 98 [Ty.e .i64 op0, Ty.e attrT a1, Ty.e (.slice .i64) d2] [] (fun v b => v = (RTs.shape [.d (.slice .i64), .d (.slice .i64), .d .i64] y).1 ∧ b = (RTs.shape [.d (.slice .i64), .d (.slice .i64), .d .i64] y).2) := fun_sound (H := f98H) (fn := Tryz.f98) (by kernel_rfl) (by kernel_rfl) (fun post => by kernel_rfl)
noncomputable def f71H : Hint := ⟨fun _ => false, false, fun n => lk n [(6, [2, 4, 31, 32])], fun _ => [], fun _ => [], fun _ => [], fun _ => [], fun n => lk n [(6, [⟨.exit 0, [2, 4], [], mores P [], [4]⟩, ⟨.ret, [6, 7, 8], [], mores P [(6, 22), (7, 22), (8, 3)], [4]⟩])], resOf P 71, fun g _ _ => retOf P g⟩
noncomputable def ref29_single_L6_st (p0 : (List Int)) (p1 p2 p3 p4 p5 p6 p7 p8 p9 : Int) (p10 : Bool) (p11 : (List Int)) (s : Int) : St := ⟨slots 64 [(2, .e (.c (.sl .i64 p0))), (4, .e (.c (.ptr 0 0))), (31, .e (.c (.i64 p1))), (32, .e (.c (.i64 s)))], [.cells 24 [.i64 p2, .i64 p3, .i64 p4, .i64 p5, .i64 p6, .i64 p7, .i64 p8, .i64 p9, .bool p10, .sl .i64 p11]]⟩
noncomputable def ref29_single_L6_out (p0 : (List Int)) (p1 p2 p3 p4 p5 p6 p7 p8 p9 : Int) (p10 : Bool) (p11 : (List Int)) : (Unit ⊕ ((List Int) × ((List Int) × Int))) → Exit × St := fun y => match y with
  | (.inl y) => ((.exit 0), ⟨slots 64 [(2, .e (.c (.sl .i64 p0))), (4, .e (.c (.ptr 0 0)))], [.cells 24 [.i64 p2, .i64 p3, .i64 p4, .i64 p5, .i64 p6, .i64 p7, .i64 p8, .i64 p9, .bool p10, .sl .i64 p11]]⟩)
  | (.inr y) => (.ret, ⟨slots 64 [(6, .e (.c (.sl .i64 y.1))), (7, .e (.c (.sl .i64 y.2.1))), (8, .e (.c (.i64 y.2.2)))], []⟩)
noncomputable def ref29_single_T6 (p0 : (List Int)) (p1 p2 p3 p4 p5 p6 p7 p8 p9 : Int) (p10 : Bool) (p11 : (List Int)) (s : Int) : Tree (Int ⊕ (Unit ⊕ ((List Int) × ((List Int) × Int)))) :=
 .br (decide (s < p1))
  (.ob ((((0 : Int) ≤ s) ∧ (s < (↑(List.length p11) : Int)))) (
  .br (decide ((List.getD p11 (Int.toNat s) default) < 0))
   (.ret (.inr (.inr ([], ([], 11)))))
   (.ob ((((0 : Int) ≤ s) ∧ (s < (↑(List.length p11) : Int)))) (
   .ob ((((0 : Int) ≤ p2) ∧ (p2 < (↑(List.length p0) : Int)))) (
   .br (decide ((List.getD p0 (Int.toNat p2) default) ≤ (List.getD p11 (Int.toNat s) default)))
    (.ret (.inr (.inr ([], ([], 11)))))
    (.ret (.inl (w64 (s + 1)))))))))
  (.ret (.inr (.inl ())))
noncomputable def ref29_single_L6 (p0 : (List Int)) (p1 p2 p3 p4 p5 p6 p7 p8 p9 : Int) (p10 : Bool) (p11 : (List Int)) (s : Int) : Option (Unit ⊕ ((List Int) × ((List Int) × Int))) := iter (fun s => (ref29_single_T6 p0 p1 p2 p3 p4 p5 p6 p7 p8 p9 p10 p11 s).run) F0 s
noncomputable abbrev ref29_single_L6_c : Code := loopOf Tryz.f71 6
theorem ref29_single_L6_s (p0 : (List Int)) (p1 p2 p3 p4 p5 p6 p7 p8 p9 : Int) (p10 : Bool) (p11 : (List Int)) (s : Int) : ∀ o, ref29_single_L6 p0 p1 p2 p3 p4 p5 p6 p7 p8 p9 p10 p11 s = some o → LpK Tryz.prog f71H 0 6 ref29_single_L6_c (ref29_single_L6_st p0 p1 p2 p3 p4 p5 p6 p7 p8 p9 p10 p11 s) (fun e s' => e = (ref29_single_L6_out p0 p1 p2 p3 p4 p5 p6 p7 p8 p9 p10 p11 o).1 ∧ s' = (ref29_single_L6_out p0 p1 p2 p3 p4 p5 p6 p7 p8 p9 p10 p11 o).2) := fun o => iter_sound (tr := fun s => (ref29_single_T6 p0 p1 p2 p3 p4 p5 p6 p7 p8 p9 p10 p11 s)) (st := fun s => ref29_single_L6_st p0 p1 p2 p3 p4 p5 p6 p7 p8 p9 p10 p11 s) (by kernel_rfl) (fun s K => by kernel_rfl) F0 s o
noncomputable def ref29_single_T (op0 : Int) (a1 : AttrD) (d2 : (List Int)) : Tree (RTs.den [.d (.slice .i64), .d (.slice .i64), .d .i64]) :=
 .br (!(decide (op0 = 38)))
  (.ex (ref22_Sees_s op0 a1 d2) fun y0 =>
  .ret (y0.1, (y0.2.1, y0.2.2)))
  (.br (decide (a1.1 < 0))
   (.ret ([], ([], 10)))
   (.br (decide ((↑(List.length d2) : Int) ≤ a1.1))
    (.ret ([], ([], 10)))
    (.alt (isL (ref29_single_L6 d2 (↑(List.length a1.2.2.2.2.2.2.2.2.2.1) : Int) a1.1 a1.2.1 a1.2.2.1 a1.2.2.2.1 a1.2.2.2.2.1 a1.2.2.2.2.2.1 a1.2.2.2.2.2.2.1 a1.2.2.2.2.2.2.2.1 a1.2.2.2.2.2.2.2.2.1 a1.2.2.2.2.2.2.2.2.2.1 0))
     (.an (s_u (s_l (ref29_single_L6_s d2 (↑(List.length a1.2.2.2.2.2.2.2.2.2.1) : Int) a1.1 a1.2.1 a1.2.2.1 a1.2.2.2.1 a1.2.2.2.2.1 a1.2.2.2.2.2.1 a1.2.2.2.2.2.2.1 a1.2.2.2.2.2.2.2.1 a1.2.2.2.2.2.2.2.2.1 a1.2.2.2.2.2.2.2.2.2.1 0))) (
     .ex (ref22_Take_s d2 a1.1 a1.2.2.2.2.2.2.2.2.2.1) fun y1 =>
     .ret (y1.1, (y1.2.1, y1.2.2))))
     (.ex (s_r (ref29_single_L6_s d2 (↑(List.length a1.2.2.2.2.2.2.2.2.2.1) : Int) a1.1 a1.2.1 a1.2.2.1 a1.2.2.2.1 a1.2.2.2.2.1 a1.2.2.2.2.2.1 a1.2.2.2.2.2.2.1 a1.2.2.2.2.2.2.2.1 a1.2.2.2.2.2.2.2.2.1 a1.2.2.2.2.2.2.2.2.2.1 0)) fun y2 =>
     .ret (y2.1, (y2.2.1, y2.2.2))))))
noncomputable def ref29_single (op0 : Int) (a1 : AttrD) (d2 : (List Int)) : Option (RTs.den [.d (.slice .i64), .d (.slice .i64), .d .i64]) := (ref29_single_T op0 a1 d2).run
theorem ref29_single_s (op0 : Int) (a1 : AttrD) (d2 : (List Int)) : ∀ y, ref29_single op0 a1 d2 = some y → CSem Tryz.prog 71 [Ty.e .i64 op0, Ty.e attrT a1, Ty.e (.slice .i64) d2] [] (fun v b => v = (RTs.shape [.d (.slice .i64), .d (.slice .i64), .d .i64] y).1 ∧ b = (RTs.shape [.d (.slice .i64), .d (.slice .i64), .d .i64] y).2) := fun_sound (H := f71H) (fn := Tryz.f71) (by kernel_rfl) (by kernel_rfl) (fun post => by kernel_rfl)
noncomputable def f46H : Hint := ⟨fun _ => false, false, fun n => lk n [(6, [0, 2, 4, 6, 39, 40]), (21, [6, 13, 93, 94])], fun _ => [], fun _ => [], fun n => lk n [(21, opencOf P [(13, [(86, 1)], 22)])], fun _ => [], fun n => lk n [(6, [⟨.exit 0, [0, 2, 4, 6], [], mores P [], [4]⟩, ⟨.ret, [6, 7], [], mores P [(7, 3)], [4]⟩]), (21, [⟨.exit 2, [6, 13], [], mores P [], [6]⟩])], resOf P 46, fun g _ _ => retOf P g⟩
noncomputable def ref29_Of_L21_st (p0 : Int) (s : (Int × ((List Int) × ((List Int) × (List Int))))) : St := ⟨slots 103 [(6, .e (.c (.ptr 0 0))), (13, .e (.c (.ptr 1 0))), (93, .e (.c (.i64 p0))), (94, .e (.c (.i64 s.1)))], [.cells 86 [.nils, .nils, .nils], .cells 86 [.sl .i64 s.2.1, .ref 2, .sl .i64 s.2.2.1], .row 3 .i64 s.2.2.2 false]⟩
noncomputable def ref29_Of_L21_out (p0 : Int) : (((List Int) × (List Int)) × (List Int)) → Exit × St := fun y => ((.exit 2), ⟨slots 103 [(6, .e (.c (.ptr 0 0))), (13, .e (.c (.ptr 1 0)))], [.cells 86 [.nils, .nils, .nils], .cells 86 [.sl .i64 y.1.1, .ref 2, .sl .i64 y.1.2], .row 3 .i64 y.2 false]⟩)
noncomputable def ref29_Of_T21 (p0 : Int) (s : (Int × ((List Int) × ((List Int) × (List Int))))) : Tree ((Int × ((List Int) × ((List Int) × (List Int)))) ⊕ (((List Int) × (List Int)) × (List Int))) :=
 .br (decide (s.1 < p0))
  (.ob (((((List.length s.2.2.2) + 1) * 8) ≤ 140737488355328)) (
  .ret (.inl ((w64 (s.1 + 1)), (s.2.1, (s.2.2.1, (s.2.2.2 ++ (0 :: []))))))))
  (.ret (.inr ((s.2.1, s.2.2.1), s.2.2.2)))
noncomputable def ref29_Of_L21 (p0 : Int) (s : (Int × ((List Int) × ((List Int) × (List Int))))) : Option (((List Int) × (List Int)) × (List Int)) := iter (fun s => (ref29_Of_T21 p0 s).run) F0 s
noncomputable abbrev ref29_Of_L21_c : Code := loopOf Tryz.f46 21
theorem ref29_Of_L21_s (p0 : Int) (s : (Int × ((List Int) × ((List Int) × (List Int))))) : ∀ o, ref29_Of_L21 p0 s = some o → LpK Tryz.prog f46H 0 21 ref29_Of_L21_c (ref29_Of_L21_st p0 s) (fun e s' => e = (ref29_Of_L21_out p0 o).1 ∧ s' = (ref29_Of_L21_out p0 o).2) := fun o => iter_sound (tr := fun s => (ref29_Of_T21 p0 s)) (st := fun s => ref29_Of_L21_st p0 s) (by kernel_rfl) (fun s K => by kernel_rfl) F0 s o
noncomputable def ref29_Of_L6_st (p0 : Int) (p1 : (List (List Int))) (p2 p3 p4 p5 p6 p7 p8 p9 p10 : Int) (p11 : Bool) (p12 : (List Int)) (s : Int) : St := ⟨slots 103 [(0, .e (.c (.i64 p0))), (2, .e (.c (.sl (.slice .i64) p1))), (4, .e (.c (.ptr 0 0))), (6, .e (.c (.ptr 1 0))), (39, .e (.c (.i64 p2))), (40, .e (.c (.i64 s)))], [.cells 24 [.i64 p3, .i64 p4, .i64 p5, .i64 p6, .i64 p7, .i64 p8, .i64 p9, .i64 p10, .bool p11, .sl .i64 p12], .cells 86 [.nils, .nils, .nils]]⟩
noncomputable def ref29_Of_L6_out (p0 : Int) (p1 : (List (List Int))) (p2 p3 p4 p5 p6 p7 p8 p9 p10 : Int) (p11 : Bool) (p12 : (List Int)) : (Unit ⊕ Int) → Exit × St := fun y => match y with
  | (.inl y) => ((.exit 0), ⟨slots 103 [(0, .e (.c (.i64 p0))), (2, .e (.c (.sl (.slice .i64) p1))), (4, .e (.c (.ptr 0 0))), (6, .e (.c (.ptr 1 0)))], [.cells 24 [.i64 p3, .i64 p4, .i64 p5, .i64 p6, .i64 p7, .i64 p8, .i64 p9, .i64 p10, .bool p11, .sl .i64 p12], .cells 86 [.nils, .nils, .nils]]⟩)
  | (.inr y) => (.ret, ⟨slots 103 [(6, .e (.c (.ptr 0 0))), (7, .e (.c (.i64 y)))], [.cells 86 [.nils, .nils, .nils]]⟩)
noncomputable def ref29_Of_T6 (p0 : Int) (p1 : (List (List Int))) (p2 p3 p4 p5 p6 p7 p8 p9 p10 : Int) (p11 : Bool) (p12 : (List Int)) (s : Int) : Tree (Int ⊕ (Unit ⊕ Int)) :=
 .br (decide (s < p2))
  (.ob ((((0 : Int) ≤ s) ∧ (s < (↑(List.length p1) : Int)))) (
  .ex (ref19_Check_s (List.getD p1 (Int.toNat s) default)) fun y0 =>
  .br (!(decide (y0 = 0)))
   (.ret (.inr (.inr y0)))
   (.ret (.inl (w64 (s + 1))))))
  (.ret (.inr (.inl ())))
noncomputable def ref29_Of_L6 (p0 : Int) (p1 : (List (List Int))) (p2 p3 p4 p5 p6 p7 p8 p9 p10 : Int) (p11 : Bool) (p12 : (List Int)) (s : Int) : Option (Unit ⊕ Int) := iter (fun s => (ref29_Of_T6 p0 p1 p2 p3 p4 p5 p6 p7 p8 p9 p10 p11 p12 s).run) F0 s
noncomputable abbrev ref29_Of_L6_c : Code := loopOf Tryz.f46 6
theorem ref29_Of_L6_s (p0 : Int) (p1 : (List (List Int))) (p2 p3 p4 p5 p6 p7 p8 p9 p10 : Int) (p11 : Bool) (p12 : (List Int)) (s : Int) : ∀ o, ref29_Of_L6 p0 p1 p2 p3 p4 p5 p6 p7 p8 p9 p10 p11 p12 s = some o → LpK Tryz.prog f46H 0 6 ref29_Of_L6_c (ref29_Of_L6_st p0 p1 p2 p3 p4 p5 p6 p7 p8 p9 p10 p11 p12 s) (fun e s' => e = (ref29_Of_L6_out p0 p1 p2 p3 p4 p5 p6 p7 p8 p9 p10 p11 p12 o).1 ∧ s' = (ref29_Of_L6_out p0 p1 p2 p3 p4 p5 p6 p7 p8 p9 p10 p11 p12 o).2) := fun o => iter_sound (tr := fun s => (ref29_Of_T6 p0 p1 p2 p3 p4 p5 p6 p7 p8 p9 p10 p11 p12 s)) (st := fun s => ref29_Of_L6_st p0 p1 p2 p3 p4 p5 p6 p7 p8 p9 p10 p11 p12 s) (by kernel_rfl) (fun s K => by kernel_rfl) F0 s o
noncomputable def ref29_Of_T (toArray0 : Int) (a1 : AttrD) (a2 : (List (List Int))) : Tree (RTs.den [.d (.pair (.slice .i64) (.pair (.slice .i64) (.pair (.slice .i64) .unit))), .d .i64]) :=
 .br (decide (toArray0 < 33))
  (.ret (([], ([], ([], ()))), 14))
  (.br (decide ((40 : Int) < toArray0))
   (.ret (([], ([], ([], ()))), 14))
   (.br (decide (toArray0 = 40))
    (.br (!(decide ((↑(List.length a2) : Int) = 2)))
     (.ret (([], ([], ([], ()))), 1))
     (.br (!(decide (toArray0 = 40)))
      (.br (!(decide ((↑(List.length a2) : Int) = 1)))
       (.ret (([], ([], ([], ()))), 1))
       (.alt (isL (ref29_Of_L6 toArray0 a2 (↑(List.length a2) : Int) a1.1 a1.2.1 a1.2.2.1 a1.2.2.2.1 a1.2.2.2.2.1 a1.2.2.2.2.2.1 a1.2.2.2.2.2.2.1 a1.2.2.2.2.2.2.2.1 a1.2.2.2.2.2.2.2.2.1 a1.2.2.2.2.2.2.2.2.2.1 0))
        (.an (s_u (s_l (ref29_Of_L6_s toArray0 a2 (↑(List.length a2) : Int) a1.1 a1.2.1 a1.2.2.1 a1.2.2.2.1 a1.2.2.2.2.1 a1.2.2.2.2.2.1 a1.2.2.2.2.2.2.1 a1.2.2.2.2.2.2.2.1 a1.2.2.2.2.2.2.2.2.1 a1.2.2.2.2.2.2.2.2.2.1 0))) (
        .br (decide (toArray0 = 39))
         (.ob ((((0 : Int) ≤ 0) ∧ ((0 : Int) < (↑(List.length a2) : Int)))) (
         .ex (ref29_put_s (List.getD a2 (Int.toNat 0) default) a1) fun y0 =>
         .ret (y0.1, y0.2)))
         (.br (decide (toArray0 = 40))
          (.ob ((((0 : Int) ≤ 0) ∧ ((0 : Int) < (↑(List.length a2) : Int)))) (
          .ob ((((0 : Int) ≤ 1) ∧ ((1 : Int) < (↑(List.length a2) : Int)))) (
          .ex (ref29_join_s (List.getD a2 (Int.toNat 0) default) (List.getD a2 (Int.toNat 1) default) a1.1) fun y1 =>
          .ret (y1.1, y1.2))))
          (.ob ((((0 : Int) ≤ 0) ∧ ((0 : Int) < (↑(List.length a2) : Int)))) (
          .ex (ref29_single_s toArray0 a1 (List.getD a2 (Int.toNat 0) default)) fun y2 =>
          .br (!(decide (y2.2.2 = 0)))
           (.ret (([], ([], ([], ()))), y2.2.2))
           (.ex (ref29_Of_L21_s (↑(List.length y2.2.1) : Int) (0, (y2.1, (y2.2.1, [])))) fun y3 =>
           .ret ((y3.1.1, (y3.2, (y3.1.2, ()))), 0)))))))
        (.ex (s_r (ref29_Of_L6_s toArray0 a2 (↑(List.length a2) : Int) a1.1 a1.2.1 a1.2.2.1 a1.2.2.2.1 a1.2.2.2.2.1 a1.2.2.2.2.2.1 a1.2.2.2.2.2.2.1 a1.2.2.2.2.2.2.2.1 a1.2.2.2.2.2.2.2.2.1 a1.2.2.2.2.2.2.2.2.2.1 0)) fun y4 =>
        .ret (([], ([], ([], ()))), y4))))
      (.alt (isL (ref29_Of_L6 toArray0 a2 (↑(List.length a2) : Int) a1.1 a1.2.1 a1.2.2.1 a1.2.2.2.1 a1.2.2.2.2.1 a1.2.2.2.2.2.1 a1.2.2.2.2.2.2.1 a1.2.2.2.2.2.2.2.1 a1.2.2.2.2.2.2.2.2.1 a1.2.2.2.2.2.2.2.2.2.1 0))
       (.an (s_u (s_l (ref29_Of_L6_s toArray0 a2 (↑(List.length a2) : Int) a1.1 a1.2.1 a1.2.2.1 a1.2.2.2.1 a1.2.2.2.2.1 a1.2.2.2.2.2.1 a1.2.2.2.2.2.2.1 a1.2.2.2.2.2.2.2.1 a1.2.2.2.2.2.2.2.2.1 a1.2.2.2.2.2.2.2.2.2.1 0))) (
       .br (decide (toArray0 = 39))
        (.ob ((((0 : Int) ≤ 0) ∧ ((0 : Int) < (↑(List.length a2) : Int)))) (
        .ex (ref29_put_s (List.getD a2 (Int.toNat 0) default) a1) fun y5 =>
        .ret (y5.1, y5.2)))
        (.br (decide (toArray0 = 40))
         (.ob ((((0 : Int) ≤ 0) ∧ ((0 : Int) < (↑(List.length a2) : Int)))) (
         .ob ((((0 : Int) ≤ 1) ∧ ((1 : Int) < (↑(List.length a2) : Int)))) (
         .ex (ref29_join_s (List.getD a2 (Int.toNat 0) default) (List.getD a2 (Int.toNat 1) default) a1.1) fun y6 =>
         .ret (y6.1, y6.2))))
         (.ob ((((0 : Int) ≤ 0) ∧ ((0 : Int) < (↑(List.length a2) : Int)))) (
         .ex (ref29_single_s toArray0 a1 (List.getD a2 (Int.toNat 0) default)) fun y7 =>
         .br (!(decide (y7.2.2 = 0)))
          (.ret (([], ([], ([], ()))), y7.2.2))
          (.ex (ref29_Of_L21_s (↑(List.length y7.2.1) : Int) (0, (y7.1, (y7.2.1, [])))) fun y8 =>
          .ret ((y8.1.1, (y8.2, (y8.1.2, ()))), 0)))))))
       (.ex (s_r (ref29_Of_L6_s toArray0 a2 (↑(List.length a2) : Int) a1.1 a1.2.1 a1.2.2.1 a1.2.2.2.1 a1.2.2.2.2.1 a1.2.2.2.2.2.1 a1.2.2.2.2.2.2.1 a1.2.2.2.2.2.2.2.1 a1.2.2.2.2.2.2.2.2.1 a1.2.2.2.2.2.2.2.2.2.1 0)) fun y9 =>
       .ret (([], ([], ([], ()))), y9)))))
    (.br (!(decide (toArray0 = 40)))
     (.br (!(decide ((↑(List.length a2) : Int) = 1)))
      (.ret (([], ([], ([], ()))), 1))
      (.alt (isL (ref29_Of_L6 toArray0 a2 (↑(List.length a2) : Int) a1.1 a1.2.1 a1.2.2.1 a1.2.2.2.1 a1.2.2.2.2.1 a1.2.2.2.2.2.1 a1.2.2.2.2.2.2.1 a1.2.2.2.2.2.2.2.1 a1.2.2.2.2.2.2.2.2.1 a1.2.2.2.2.2.2.2.2.2.1 0))
       (.an (s_u (s_l (ref29_Of_L6_s toArray0 a2 (↑(List.length a2) : Int) a1.1 a1.2.1 a1.2.2.1 a1.2.2.2.1 a1.2.2.2.2.1 a1.2.2.2.2.2.1 a1.2.2.2.2.2.2.1 a1.2.2.2.2.2.2.2.1 a1.2.2.2.2.2.2.2.2.1 a1.2.2.2.2.2.2.2.2.2.1 0))) (
       .br (decide (toArray0 = 39))
        (.ob ((((0 : Int) ≤ 0) ∧ ((0 : Int) < (↑(List.length a2) : Int)))) (
        .ex (ref29_put_s (List.getD a2 (Int.toNat 0) default) a1) fun y10 =>
        .ret (y10.1, y10.2)))
        (.br (decide (toArray0 = 40))
         (.ob ((((0 : Int) ≤ 0) ∧ ((0 : Int) < (↑(List.length a2) : Int)))) (
         .ob ((((0 : Int) ≤ 1) ∧ ((1 : Int) < (↑(List.length a2) : Int)))) (
         .ex (ref29_join_s (List.getD a2 (Int.toNat 0) default) (List.getD a2 (Int.toNat 1) default) a1.1) fun y11 =>
         .ret (y11.1, y11.2))))
         (.ob ((((0 : Int) ≤ 0) ∧ ((0 : Int) < (↑(List.length a2) : Int)))) (
         .ex (ref29_single_s toArray0 a1 (List.getD a2 (Int.toNat 0) default)) fun y12 =>
         .br (!(decide (y12.2.2 = 0)))
          (.ret (([], ([], ([], ()))), y12.2.2))
          (.ex (ref29_Of_L21_s (↑(List.length y12.2.1) : Int) (0, (y12.1, (y12.2.1, [])))) fun y13 =>
          .ret ((y13.1.1, (y13.2, (y13.1.2, ()))), 0)))))))
       (.ex (s_r (ref29_Of_L6_s toArray0 a2 (↑(List.length a2) : Int) a1.1 a1.2.1 a1.2.2.1 a1.2.2.2.1 a1.2.2.2.2.1 a1.2.2.2.2.2.1 a1.2.2.2.2.2.2.1 a1.2.2.2.2.2.2.2.1 a1.2.2.2.2.2.2.2.2.1 a1.2.2.2.2.2.2.2.2.2.1 0)) fun y14 =>
       .ret (([], ([], ([], ()))), y14))))
     (.alt (isL (ref29_Of_L6 toArray0 a2 (↑(List.length a2) : Int) a1.1 a1.2.1 a1.2.2.1 a1.2.2.2.1 a1.2.2.2.2.1 a1.2.2.2.2.2.1 a1.2.2.2.2.2.2.1 a1.2.2.2.2.2.2.2.1 a1.2.2.2.2.2.2.2.2.1 a1.2.2.2.2.2.2.2.2.2.1 0))
      (.an (s_u (s_l (ref29_Of_L6_s toArray0 a2 (↑(List.length a2) : Int) a1.1 a1.2.1 a1.2.2.1 a1.2.2.2.1 a1.2.2.2.2.1 a1.2.2.2.2.2.1 a1.2.2.2.2.2.2.1 a1.2.2.2.2.2.2.2.1 a1.2.2.2.2.2.2.2.2.1 a1.2.2.2.2.2.2.2.2.2.1 0))) (
      .br (decide (toArray0 = 39))
       (.ob ((((0 : Int) ≤ 0) ∧ ((0 : Int) < (↑(List.length a2) : Int)))) (
       .ex (ref29_put_s (List.getD a2 (Int.toNat 0) default) a1) fun y15 =>
       .ret (y15.1, y15.2)))
       (.br (decide (toArray0 = 40))
        (.ob ((((0 : Int) ≤ 0) ∧ ((0 : Int) < (↑(List.length a2) : Int)))) (
        .ob ((((0 : Int) ≤ 1) ∧ ((1 : Int) < (↑(List.length a2) : Int)))) (
        .ex (ref29_join_s (List.getD a2 (Int.toNat 0) default) (List.getD a2 (Int.toNat 1) default) a1.1) fun y16 =>
        .ret (y16.1, y16.2))))
        (.ob ((((0 : Int) ≤ 0) ∧ ((0 : Int) < (↑(List.length a2) : Int)))) (
        .ex (ref29_single_s toArray0 a1 (List.getD a2 (Int.toNat 0) default)) fun y17 =>
        .br (!(decide (y17.2.2 = 0)))
         (.ret (([], ([], ([], ()))), y17.2.2))
         (.ex (ref29_Of_L21_s (↑(List.length y17.2.1) : Int) (0, (y17.1, (y17.2.1, [])))) fun y18 =>
         .ret ((y18.1.1, (y18.2, (y18.1.2, ()))), 0)))))))
      (.ex (s_r (ref29_Of_L6_s toArray0 a2 (↑(List.length a2) : Int) a1.1 a1.2.1 a1.2.2.1 a1.2.2.2.1 a1.2.2.2.2.1 a1.2.2.2.2.2.1 a1.2.2.2.2.2.2.1 a1.2.2.2.2.2.2.2.1 a1.2.2.2.2.2.2.2.2.1 a1.2.2.2.2.2.2.2.2.2.1 0)) fun y19 =>
      .ret (([], ([], ([], ()))), y19))))))
noncomputable def ref29_Of (toArray0 : Int) (a1 : AttrD) (a2 : (List (List Int))) : Option (RTs.den [.d (.pair (.slice .i64) (.pair (.slice .i64) (.pair (.slice .i64) .unit))), .d .i64]) := (ref29_Of_T toArray0 a1 a2).run
theorem ref29_Of_s (toArray0 : Int) (a1 : AttrD) (a2 : (List (List Int))) : ∀ y, ref29_Of toArray0 a1 a2 = some y → CSem Tryz.prog 46 [Ty.e .i64 toArray0, Ty.e attrT a1, Ty.e (.slice (.slice .i64)) a2] [] (fun v b => v = (RTs.shape [.d (.pair (.slice .i64) (.pair (.slice .i64) (.pair (.slice .i64) .unit))), .d .i64] y).1 ∧ b = (RTs.shape [.d (.pair (.slice .i64) (.pair (.slice .i64) (.pair (.slice .i64) .unit))), .d .i64] y).2) := fun_sound (H := f46H) (fn := Tryz.f46) (by kernel_rfl) (by kernel_rfl) (fun post => by kernel_rfl)
noncomputable def f20H : Hint := ⟨fun _ => false, false, fun n => lk n [(6, [0, 2, 4, 21, 22])], fun _ => [], fun _ => [], fun _ => [], fun _ => [], fun n => lk n [(6, [⟨.exit 0, [0, 2, 4], [], mores P [], [4]⟩, ⟨.ret, [6, 7], [], mores P [(6, 22), (7, 3)], [4]⟩])], resOf P 20, fun g _ _ => retOf P g⟩
noncomputable def ref31_Dims_L6_st (p0 : Int) (p1 : (List (List Int))) (p2 p3 p4 p5 p6 p7 p8 p9 p10 : Int) (p11 : Bool) (p12 : (List Int)) (s : Int) : St := ⟨slots 80 [(0, .e (.c (.i64 p0))), (2, .e (.c (.sl (.slice .i64) p1))), (4, .e (.c (.ptr 0 0))), (21, .e (.c (.i64 p2))), (22, .e (.c (.i64 s)))], [.cells 24 [.i64 p3, .i64 p4, .i64 p5, .i64 p6, .i64 p7, .i64 p8, .i64 p9, .i64 p10, .bool p11, .sl .i64 p12]]⟩
noncomputable def ref31_Dims_L6_out (p0 : Int) (p1 : (List (List Int))) (p2 p3 p4 p5 p6 p7 p8 p9 p10 : Int) (p11 : Bool) (p12 : (List Int)) : (Unit ⊕ ((List Int) × Int)) → Exit × St := fun y => match y with
  | (.inl y) => ((.exit 0), ⟨slots 80 [(0, .e (.c (.i64 p0))), (2, .e (.c (.sl (.slice .i64) p1))), (4, .e (.c (.ptr 0 0)))], [.cells 24 [.i64 p3, .i64 p4, .i64 p5, .i64 p6, .i64 p7, .i64 p8, .i64 p9, .i64 p10, .bool p11, .sl .i64 p12]]⟩)
  | (.inr y) => (.ret, ⟨slots 80 [(6, .e (.c (.sl .i64 y.1))), (7, .e (.c (.i64 y.2)))], []⟩)
noncomputable def ref31_Dims_T6 (p0 : Int) (p1 : (List (List Int))) (p2 p3 p4 p5 p6 p7 p8 p9 p10 : Int) (p11 : Bool) (p12 : (List Int)) (s : Int) : Tree (Int ⊕ (Unit ⊕ ((List Int) × Int))) :=
 .br (decide (s < p2))
  (.ob ((((0 : Int) ≤ s) ∧ (s < (↑(List.length p1) : Int)))) (
  .ex (ref19_Check_s (List.getD p1 (Int.toNat s) default)) fun y0 =>
  .br (!(decide (y0 = 0)))
   (.ret (.inr (.inr ([], y0))))
   (.ret (.inl (w64 (s + 1))))))
  (.ret (.inr (.inl ())))
noncomputable def ref31_Dims_L6 (p0 : Int) (p1 : (List (List Int))) (p2 p3 p4 p5 p6 p7 p8 p9 p10 : Int) (p11 : Bool) (p12 : (List Int)) (s : Int) : Option (Unit ⊕ ((List Int) × Int)) := iter (fun s => (ref31_Dims_T6 p0 p1 p2 p3 p4 p5 p6 p7 p8 p9 p10 p11 p12 s).run) F0 s
noncomputable abbrev ref31_Dims_L6_c : Code := loopOf Tryz.f20 6
theorem ref31_Dims_L6_s (p0 : Int) (p1 : (List (List Int))) (p2 p3 p4 p5 p6 p7 p8 p9 p10 : Int) (p11 : Bool) (p12 : (List Int)) (s : Int) : ∀ o, ref31_Dims_L6 p0 p1 p2 p3 p4 p5 p6 p7 p8 p9 p10 p11 p12 s = some o → LpK Tryz.prog f20H 0 6 ref31_Dims_L6_c (ref31_Dims_L6_st p0 p1 p2 p3 p4 p5 p6 p7 p8 p9 p10 p11 p12 s) (fun e s' => e = (ref31_Dims_L6_out p0 p1 p2 p3 p4 p5 p6 p7 p8 p9 p10 p11 p12 o).1 ∧ s' = (ref31_Dims_L6_out p0 p1 p2 p3 p4 p5 p6 p7 p8 p9 p10 p11 p12 o).2) := fun o => iter_sound (tr := fun s => (ref31_Dims_T6 p0 p1 p2 p3 p4 p5 p6 p7 p8 p9 p10 p11 p12 s)) (st := fun s => ref31_Dims_L6_st p0 p1 p2 p3 p4 p5 p6 p7 p8 p9 p10 p11 p12 s) (by kernel_rfl) (fun s K => by kernel_rfl) F0 s o
noncomputable def ref31_Dims_T (toArray0 : Int) (a1 : AttrD) (a2 : (List (List Int))) : Tree (RTs.den [.d (.slice .i64), .d .i64]) :=
 .ex (ref30_Class_s toArray0) fun y0 =>
 .br (decide (y0 = 0))
  (.ret ([], 14))
  (.ex (ref30_Arity_s toArray0) fun y1 =>
  .br (!(decide ((↑(List.length a2) : Int) = y1)))
   (.ret ([], 1))
   (.alt (isL (ref31_Dims_L6 toArray0 a2 (↑(List.length a2) : Int) a1.1 a1.2.1 a1.2.2.1 a1.2.2.2.1 a1.2.2.2.2.1 a1.2.2.2.2.2.1 a1.2.2.2.2.2.2.1 a1.2.2.2.2.2.2.2.1 a1.2.2.2.2.2.2.2.2.1 a1.2.2.2.2.2.2.2.2.2.1 0))
    (.an (s_u (s_l (ref31_Dims_L6_s toArray0 a2 (↑(List.length a2) : Int) a1.1 a1.2.1 a1.2.2.1 a1.2.2.2.1 a1.2.2.2.2.1 a1.2.2.2.2.2.1 a1.2.2.2.2.2.2.1 a1.2.2.2.2.2.2.2.1 a1.2.2.2.2.2.2.2.2.1 a1.2.2.2.2.2.2.2.2.2.1 0))) (
    .ex (ref31_Attr_s toArray0 a1) fun y2 =>
    .br (!y2)
     (.ret ([], 1))
     (.ex (ref30_Class_s toArray0) fun y3 =>
     .br (decide (y3 = 1))
      (.ex (ref21_All_s a2) fun y4 =>
      .ret (y4.1, y4.2))
      (.ex (ref30_Class_s toArray0) fun y5 =>
      .br (decide (y5 = 2))
       (.ob ((((0 : Int) ≤ 0) ∧ ((0 : Int) < (↑(List.length a2) : Int)))) (
       .ex (ref27_Dims_s toArray0 a1 (List.getD a2 (Int.toNat 0) default)) fun y6 =>
       .ret (y6.1, y6.2)))
       (.ex (ref30_Class_s toArray0) fun y7 =>
       .br (decide (y7 = 3))
        (.ob ((((0 : Int) ≤ 0) ∧ ((0 : Int) < (↑(List.length a2) : Int)))) (
        .ob ((((0 : Int) ≤ 1) ∧ ((1 : Int) < (↑(List.length a2) : Int)))) (
        .ex (ref28_Dims_s (List.getD a2 (Int.toNat 0) default) (List.getD a2 (Int.toNat 1) default)) fun y8 =>
        .ret (y8.1, y8.2))))
        (.ex (ref29_Of_s toArray0 a1 a2) fun y9 =>
        .br (!(decide (y9.2 = 0)))
         (.ret ([], y9.2))
         (.ret (y9.1.1, 0))))))))
    (.ex (s_r (ref31_Dims_L6_s toArray0 a2 (↑(List.length a2) : Int) a1.1 a1.2.1 a1.2.2.1 a1.2.2.2.1 a1.2.2.2.2.1 a1.2.2.2.2.2.1 a1.2.2.2.2.2.2.1 a1.2.2.2.2.2.2.2.1 a1.2.2.2.2.2.2.2.2.1 a1.2.2.2.2.2.2.2.2.2.1 0)) fun y10 =>
    .ret (y10.1, y10.2))))
noncomputable def ref31_Dims (toArray0 : Int) (a1 : AttrD) (a2 : (List (List Int))) : Option (RTs.den [.d (.slice .i64), .d .i64]) := (ref31_Dims_T toArray0 a1 a2).run
theorem ref31_Dims_s (toArray0 : Int) (a1 : AttrD) (a2 : (List (List Int))) : ∀ y, ref31_Dims toArray0 a1 a2 = some y → CSem Tryz.prog 20 [Ty.e .i64 toArray0, Ty.e attrT a1, Ty.e (.slice (.slice .i64)) a2] [] (fun v b => v = (RTs.shape [.d (.slice .i64), .d .i64] y).1 ∧ b = (RTs.shape [.d (.slice .i64), .d .i64] y).2) := fun_sound (H := f20H) (fn := Tryz.f20) (by kernel_rfl) (by kernel_rfl) (fun post => by kernel_rfl)
noncomputable def f22H : Hint := ⟨fun _ => false, false, fun _ => [], fun _ => [], fun _ => [], fun _ => [], fun _ => [], fun _ => [], resOf P 22, fun g _ _ => retOf P g⟩
noncomputable def ref30_Needs_T (toArray0 : Int) (a1 : Int) (a2 : Int) : Tree (RTs.den [.d .bool]) :=
 .br (decide (a2 < 0))
  (.ret Bool.false)
  (.ex (ref30_Arity_s toArray0) fun y0 =>
  .br (decide (y0 < a2))
   (.ret Bool.false)
   (.ex (ref30_Arity_s toArray0) fun y1 =>
   .br (decide (y1 = 0))
    (.ret Bool.false)
    (.ex (ref30_Arity_s toArray0) fun y2 =>
    .br (decide (a2 = y2))
     (.br (decide (toArray0 = 2))
      (.ret Bool.true)
      (.br (decide ((9 : Int) ≤ toArray0))
       (.br (decide (toArray0 ≤ 11))
        (.ret Bool.true)
        (.br (decide (toArray0 = 7))
         (.ret Bool.true)
         (.ret (decide (toArray0 = 20)))))
       (.br (decide (toArray0 = 7))
        (.ret Bool.true)
        (.ret (decide (toArray0 = 20))))))
     (.br (decide (toArray0 = 12))
      (.br (!(decide (a1 = 0)))
       (.ret (!(decide (a1 = 1))))
       (.ret Bool.false))
      (.br (decide (toArray0 = 20))
       (.ret (decide (a2 = 1)))
       (.br (decide (toArray0 = 25))
        (.ret (decide (a2 < 2)))
        (.br (decide (toArray0 = 3))
         (.ret Bool.true)
         (.br (decide (toArray0 = 8))
          (.ret Bool.true)
          (.br (decide (toArray0 = 19))
           (.ret Bool.true)
           (.br (decide (toArray0 = 26))
            (.ret Bool.true)
            (.ret (decide (toArray0 = 32)))))))))))))
noncomputable def ref30_Needs (toArray0 : Int) (a1 : Int) (a2 : Int) : Option (RTs.den [.d .bool]) := (ref30_Needs_T toArray0 a1 a2).run
theorem ref30_Needs_s (toArray0 : Int) (a1 : Int) (a2 : Int) : ∀ y, ref30_Needs toArray0 a1 a2 = some y → CSem Tryz.prog 22 [Ty.e .i64 toArray0, Ty.e .i64 a1, Ty.e .i64 a2] [] (fun v b => v = (RTs.shape [.d .bool] y).1 ∧ b = (RTs.shape [.d .bool] y).2) := fun_sound (H := f22H) (fn := Tryz.f22) (by kernel_rfl) (by kernel_rfl) (fun post => by kernel_rfl)
noncomputable def f23H : Hint := ⟨fun _ => false, false, fun _ => [], fun _ => [], fun _ => [], fun _ => [], fun _ => [], fun _ => [], resOf P 23, fun g _ _ => retOf P g⟩
noncomputable def ref32_Whole_T (a0 : ArgD) : Tree (RTs.den [.d .bool]) :=
 .ex (ref19_Count_s a0.1) fun y0 =>
 .ret (decide ((↑(List.length a0.2.1) : Int) = y0))
noncomputable def ref32_Whole (a0 : ArgD) : Option (RTs.den [.d .bool]) := (ref32_Whole_T a0).run
theorem ref32_Whole_s (a0 : ArgD) : ∀ y, ref32_Whole a0 = some y → CSem Tryz.prog 23 [Ty.e argT a0] [] (fun v b => v = (RTs.shape [.d .bool] y).1 ∧ b = (RTs.shape [.d .bool] y).2) := fun_sound (H := f23H) (fn := Tryz.f23) (by kernel_rfl) (by kernel_rfl) (fun post => by kernel_rfl)
noncomputable def f25H : Hint := ⟨fun _ => false, false, fun _ => [], fun _ => [], fun _ => [], fun _ => [], fun _ => [], fun _ => [], resOf P 25, fun g _ _ => retOf P g⟩
noncomputable def ref30_Choices_T (op0 : Int) : Tree (RTs.den [.d .i64]) :=
 .br (decide (op0 = 15))
  (.ret 3)
  (.br (decide (op0 = 4))
   (.ret 2)
   (.br (decide (op0 = 6))
    (.ret 2)
    (.br (decide (op0 = 16))
     (.ret 2)
     (.br (decide (op0 = 21))
      (.ret 2)
      (.br (decide (op0 = 22))
       (.ret 2)
       (.br (decide (op0 = 24))
        (.ret 2)
        (.ret 0)))))))
noncomputable def ref30_Choices (op0 : Int) : Option (RTs.den [.d .i64]) := (ref30_Choices_T op0).run
theorem ref30_Choices_s (op0 : Int) : ∀ y, ref30_Choices op0 = some y → CSem Tryz.prog 25 [Ty.e .i64 op0] [] (fun v b => v = (RTs.shape [.d .i64] y).1 ∧ b = (RTs.shape [.d .i64] y).2) := fun_sound (H := f25H) (fn := Tryz.f25) (by kernel_rfl) (by kernel_rfl) (fun post => by kernel_rfl)
noncomputable def f24H : Hint := ⟨fun _ => false, false, fun _ => [], fun _ => [], fun _ => [], fun _ => [], fun _ => [], fun _ => [], resOf P 24, fun g _ _ => retOf P g⟩
noncomputable def ref30_Picks_T (op0 : Int) : Tree (RTs.den [.d .bool]) :=
 .ex (ref30_Choices_s op0) fun y0 =>
 .br (decide ((0 : Int) < y0))
  (.ret Bool.true)
  (.br (decide (op0 = 29))
   (.ret Bool.true)
   (.ret (decide (op0 = 30))))
noncomputable def ref30_Picks (op0 : Int) : Option (RTs.den [.d .bool]) := (ref30_Picks_T op0).run
theorem ref30_Picks_s (op0 : Int) : ∀ y, ref30_Picks op0 = some y → CSem Tryz.prog 24 [Ty.e .i64 op0] [] (fun v b => v = (RTs.shape [.d .bool] y).1 ∧ b = (RTs.shape [.d .bool] y).2) := fun_sound (H := f24H) (fn := Tryz.f24) (by kernel_rfl) (by kernel_rfl) (fun post => by kernel_rfl)
noncomputable def f50H : Hint := ⟨fun _ => false, false, fun n => lk n [(2, [0, 1, 2, 9, 10])], fun _ => [], fun _ => [], fun _ => [], fun _ => [], fun n => lk n [(2, [⟨.exit 0, [], [], mores P [], []⟩, ⟨.ret, [6], [], mores P [(6, 4)], []⟩])], resOf P 50, fun g _ _ => retOf P g⟩
noncomputable def ref27_alike_L2_st (p0 p1 : (List Int)) (p2 : (List Bool)) (p3 : Int) (s : Int) : St := ⟨slots 30 [(0, .e (.c (.sl .i64 p0))), (1, .e (.c (.sl .i64 p1))), (2, .e (.c (.sl .bool p2))), (9, .e (.c (.i64 p3))), (10, .e (.c (.i64 s)))], []⟩
noncomputable def ref27_alike_L2_out (p0 p1 : (List Int)) (p2 : (List Bool)) (p3 : Int) : (Unit ⊕ Bool) → Exit × St := fun y => match y with
  | (.inl y) => ((.exit 0), ⟨slots 30 [], []⟩)
  | (.inr y) => (.ret, ⟨slots 30 [(6, .e (.c (.bool y)))], []⟩)
noncomputable def ref27_alike_T2 (p0 p1 : (List Int)) (p2 : (List Bool)) (p3 : Int) (s : Int) : Tree (Int ⊕ (Unit ⊕ Bool)) :=
 .br (decide (s < p3))
  (.ob ((((0 : Int) ≤ s) ∧ (s < (↑(List.length p2) : Int)))) (
  .br (!(List.getD p2 (Int.toNat s) default))
   (.ob ((((0 : Int) ≤ s) ∧ (s < (↑(List.length p0) : Int)))) (
   .ob ((((0 : Int) ≤ s) ∧ (s < (↑(List.length p1) : Int)))) (
   .br (!(decide ((List.getD p0 (Int.toNat s) default) = (List.getD p1 (Int.toNat s) default))))
    (.ret (.inr (.inr Bool.false)))
    (.ret (.inl (w64 (s + 1)))))))
   (.ret (.inl (w64 (s + 1))))))
  (.ret (.inr (.inl ())))
noncomputable def ref27_alike_L2 (p0 p1 : (List Int)) (p2 : (List Bool)) (p3 : Int) (s : Int) : Option (Unit ⊕ Bool) := iter (fun s => (ref27_alike_T2 p0 p1 p2 p3 s).run) F0 s
noncomputable abbrev ref27_alike_L2_c : Code := loopOf Tryz.f50 2
theorem ref27_alike_L2_s (p0 p1 : (List Int)) (p2 : (List Bool)) (p3 : Int) (s : Int) : ∀ o, ref27_alike_L2 p0 p1 p2 p3 s = some o → LpK Tryz.prog f50H 0 2 ref27_alike_L2_c (ref27_alike_L2_st p0 p1 p2 p3 s) (fun e s' => e = (ref27_alike_L2_out p0 p1 p2 p3 o).1 ∧ s' = (ref27_alike_L2_out p0 p1 p2 p3 o).2) := fun o => iter_sound (tr := fun s => (ref27_alike_T2 p0 p1 p2 p3 s)) (st := fun s => ref27_alike_L2_st p0 p1 p2 p3 s) (by kernel_rfl) (fun s K => by kernel_rfl) F0 s o
noncomputable def ref27_alike_T (a0 : (List Int)) (b1 : (List Int)) (marks2 : (List Bool)) : Tree (RTs.den [.d .bool]) :=
 .alt (isL (ref27_alike_L2 a0 b1 marks2 (↑(List.length a0) : Int) 0))
  (.an (s_u (s_l (ref27_alike_L2_s a0 b1 marks2 (↑(List.length a0) : Int) 0))) (
  .ret Bool.true))
  (.ex (s_r (ref27_alike_L2_s a0 b1 marks2 (↑(List.length a0) : Int) 0)) fun y0 =>
  .ret y0)
noncomputable def ref27_alike (a0 : (List Int)) (b1 : (List Int)) (marks2 : (List Bool)) : Option (RTs.den [.d .bool]) := (ref27_alike_T a0 b1 marks2).run
theorem ref27_alike_s (a0 : (List Int)) (b1 : (List Int)) (marks2 : (List Bool)) : ∀ y, ref27_alike a0 b1 marks2 = some y → CSem Tryz.prog 50 [Ty.e (.slice .i64) a0, Ty.e (.slice .i64) b1, Ty.e (.slice .bool) marks2] [] (fun v b => v = (RTs.shape [.d .bool] y).1 ∧ b = (RTs.shape [.d .bool] y).2) := fun_sound (H := f50H) (fn := Tryz.f50) (by kernel_rfl) (by kernel_rfl) (fun post => by kernel_rfl)
noncomputable def f27H : Hint := ⟨fun _ => false, false, fun n => lk n [(8, [9, 11, 12, 38, 39]), (13, [9, 11, 12, 13, 14, 15, 38, 39, 43, 44])], fun _ => [], fun n => lk n [(8, openOf P [(12, 37)]), (13, openOf P [(15, 22)])], fun _ => [], fun _ => [], fun n => lk n [(8, [⟨.exit 0, [12], [12], mores P [], []⟩]), (13, [⟨.exit 2, [9, 11, 12, 14, 15, 38, 39], [14, 15], mores P [], []⟩])], resOf P 27, fun g _ _ => retOf P g⟩
noncomputable def ref27_Groups_L13_st (p0 : (List Bool)) (p1 : (List (List Int))) (p2 p3 p4 p5 : Int) (s : (Bool × (Int × ((List (List Int)) × (List Int))))) : St := ⟨slots 75 [(9, .e (.c (.sl .bool p0))), (11, .e (.c (.sl (.slice .i64) p1))), (12, .e (.c (.ref 0))), (13, .e (.c (.i64 p2))), (14, .e (.c (.bool s.1))), (15, .e (.c (.ref 1))), (38, .e (.c (.i64 p3))), (39, .e (.c (.i64 p4))), (43, .e (.c (.i64 p5))), (44, .e (.c (.i64 s.2.1)))], [.row 22 (.slice .i64) s.2.2.1 false, .row 3 .i64 s.2.2.2 false]⟩
noncomputable def ref27_Groups_L13_out (p0 : (List Bool)) (p1 : (List (List Int))) (p2 p3 p4 p5 : Int) : (Bool × ((List (List Int)) × (List Int))) → Exit × St := fun y => ((.exit 2), ⟨slots 75 [(9, .e (.c (.sl .bool p0))), (11, .e (.c (.sl (.slice .i64) p1))), (12, .e (.c (.ref 0))), (14, .e (.c (.bool y.1))), (15, .e (.c (.ref 1))), (38, .e (.c (.i64 p3))), (39, .e (.c (.i64 p4)))], [.row 22 (.slice .i64) y.2.1 false, .row 3 .i64 y.2.2 false]⟩)
noncomputable def ref27_Groups_T13 (p0 : (List Bool)) (p1 : (List (List Int))) (p2 p3 p4 p5 : Int) (s : (Bool × (Int × ((List (List Int)) × (List Int))))) : Tree ((Bool × (Int × ((List (List Int)) × (List Int)))) ⊕ (Bool × ((List (List Int)) × (List Int)))) :=
 .br (decide (s.2.1 < p5))
  (.ob ((((0 : Int) ≤ p2) ∧ (p2 < (↑(List.length p1) : Int)))) (
  .ob ((((0 : Int) ≤ s.2.1) ∧ (s.2.1 < (↑(List.length p1) : Int)))) (
  .ex (ref27_alike_s (List.getD p1 (Int.toNat p2) default) (List.getD p1 (Int.toNat s.2.1) default) p0) fun y0 =>
  .br y0
   (.br s.1
    (.ob (((((List.length s.2.2.2) + 1) * 8) ≤ 140737488355328)) (
    .ret (.inl ((decide (p2 ≤ s.2.1)), ((w64 (s.2.1 + 1)), (s.2.2.1, (s.2.2.2 ++ (s.2.1 :: []))))))))
    (.ob (((((List.length s.2.2.2) + 1) * 8) ≤ 140737488355328)) (
    .ret (.inl (Bool.false, ((w64 (s.2.1 + 1)), (s.2.2.1, (s.2.2.2 ++ (s.2.1 :: [])))))))))
   (.ret (.inl (s.1, ((w64 (s.2.1 + 1)), (s.2.2.1, s.2.2.2))))))))
  (.ret (.inr (s.1, s.2.2)))
noncomputable def ref27_Groups_L13 (p0 : (List Bool)) (p1 : (List (List Int))) (p2 p3 p4 p5 : Int) (s : (Bool × (Int × ((List (List Int)) × (List Int))))) : Option (Bool × ((List (List Int)) × (List Int))) := iter (fun s => (ref27_Groups_T13 p0 p1 p2 p3 p4 p5 s).run) F0 s
noncomputable abbrev ref27_Groups_L13_c : Code := loopOf Tryz.f27 13
theorem ref27_Groups_L13_s (p0 : (List Bool)) (p1 : (List (List Int))) (p2 p3 p4 p5 : Int) (s : (Bool × (Int × ((List (List Int)) × (List Int))))) : ∀ o, ref27_Groups_L13 p0 p1 p2 p3 p4 p5 s = some o → LpK Tryz.prog f27H 0 13 ref27_Groups_L13_c (ref27_Groups_L13_st p0 p1 p2 p3 p4 p5 s) (fun e s' => e = (ref27_Groups_L13_out p0 p1 p2 p3 p4 p5 o).1 ∧ s' = (ref27_Groups_L13_out p0 p1 p2 p3 p4 p5 o).2) := fun o => iter_sound (tr := fun s => (ref27_Groups_T13 p0 p1 p2 p3 p4 p5 s)) (st := fun s => ref27_Groups_L13_st p0 p1 p2 p3 p4 p5 s) (by kernel_rfl) (fun s K => by kernel_rfl) F0 s o
noncomputable def ref27_Groups_L8_st (p0 : (List Bool)) (p1 : (List (List Int))) (p2 : Int) (s : (Int × (List (List Int)))) : St := ⟨slots 75 [(9, .e (.c (.sl .bool p0))), (11, .e (.c (.sl (.slice .i64) p1))), (12, .e (.c (.ref 0))), (38, .e (.c (.i64 p2))), (39, .e (.c (.i64 s.1)))], [.row 22 (.slice .i64) s.2 false]⟩
noncomputable def ref27_Groups_L8_out (p0 : (List Bool)) (p1 : (List (List Int))) (p2 : Int) : (List (List Int)) → Exit × St := fun y => ((.exit 0), ⟨slots 75 [(12, .e (.c (.ref 0)))], [.row 22 (.slice .i64) y false]⟩)
noncomputable def ref27_Groups_T8 (p0 : (List Bool)) (p1 : (List (List Int))) (p2 : Int) (s : (Int × (List (List Int)))) : Tree ((Int × (List (List Int))) ⊕ (List (List Int))) :=
 .br (decide (s.1 < p2))
  (.ex (ref27_Groups_L13_s p0 p1 s.1 p2 s.1 (↑(List.length p1) : Int) (Bool.true, (0, (s.2, [])))) fun y0 =>
  .br y0.1
   (.ob (((((List.length y0.2.1) + 1) * 24) ≤ 140737488355328)) (
   .ret (.inl ((w64 (s.1 + 1)), (y0.2.1 ++ (y0.2.2 :: []))))))
   (.ret (.inl ((w64 (s.1 + 1)), y0.2.1))))
  (.ret (.inr s.2))
noncomputable def ref27_Groups_L8 (p0 : (List Bool)) (p1 : (List (List Int))) (p2 : Int) (s : (Int × (List (List Int)))) : Option (List (List Int)) := iter (fun s => (ref27_Groups_T8 p0 p1 p2 s).run) F0 s
noncomputable abbrev ref27_Groups_L8_c : Code := loopOf Tryz.f27 8
theorem ref27_Groups_L8_s (p0 : (List Bool)) (p1 : (List (List Int))) (p2 : Int) (s : (Int × (List (List Int)))) : ∀ o, ref27_Groups_L8 p0 p1 p2 s = some o → LpK Tryz.prog f27H 0 8 ref27_Groups_L8_c (ref27_Groups_L8_st p0 p1 p2 s) (fun e s' => e = (ref27_Groups_L8_out p0 p1 p2 o).1 ∧ s' = (ref27_Groups_L8_out p0 p1 p2 o).2) := fun o => iter_sound (tr := fun s => (ref27_Groups_T8 p0 p1 p2 s)) (st := fun s => ref27_Groups_L8_st p0 p1 p2 s) (by kernel_rfl) (fun s K => by kernel_rfl) F0 s o
noncomputable def ref27_Groups_T (toArray0 : Int) (a1 : AttrD) (a2 : (List Int)) : Tree (RTs.den [.d (.slice (.slice .i64))]) :=
 .ex (ref27_Dims_s toArray0 a1 a2) fun y0 =>
 .br (!(decide (y0.2 = 0)))
  (.ret [])
  (.ex (ref27_axes_s toArray0 a1) fun y1 =>
  .ex (ref19_Axes_s (↑(List.length a2) : Int) y1) fun y2 =>
  .ex (ref20_All_s a2) fun y3 =>
  .ex (ref27_Groups_L8_s y2.1 y3 (↑(List.length y3) : Int) (0, [])) fun y4 =>
  .ret y4)
noncomputable def ref27_Groups (toArray0 : Int) (a1 : AttrD) (a2 : (List Int)) : Option (RTs.den [.d (.slice (.slice .i64))]) := (ref27_Groups_T toArray0 a1 a2).run
theorem ref27_Groups_s (toArray0 : Int) (a1 : AttrD) (a2 : (List Int)) : ∀ y, ref27_Groups toArray0 a1 a2 = some y → CSem Tryz.prog 27 [Ty.e .i64 toArray0, Ty.e attrT a1, Ty.e (.slice .i64) a2] [] (fun v b => v = (RTs.shape [.d (.slice (.slice .i64))] y).1 ∧ b = (RTs.shape [.d (.slice (.slice .i64))] y).2) := fun_sound (H := f27H) (fn := Tryz.f27) (by kernel_rfl) (by kernel_rfl) (fun post => by kernel_rfl)
noncomputable def f5H : Hint := ⟨fun _ => false, false, fun n => lk n [(7, [1, 3, 30, 31]), (20, [1, 3, 6, 92, 93])], fun _ => [], fun _ => [], fun _ => [], fun _ => [], fun n => lk n [(7, [⟨.exit 0, [1, 3], [], mores P [], [1]⟩, ⟨.ret, [2], [], mores P [(2, 3)], [1]⟩]), (20, [⟨.exit 2, [1, 3], [], mores P [], [1]⟩, ⟨.ret, [2], [], mores P [(2, 3)], [1]⟩])], resOf P 5, fun g _ _ => retOf P g⟩
noncomputable def ref33_Check_L20_st (p0 : (List Int)) (p1 p2 p3 p4 p5 p6 p7 p8 p9 p10 p11 : Int) (p12 : Bool) (p13 : (List Int)) (p14 : (List ArgD)) (p15 : (List Int)) (p16 : (List ValD)) (p17 : (List Int)) (s : Int) : St := ⟨slots 118 [(1, .e (.c (.ptr 0 0))), (3, .e (.c (.sl .i64 p0))), (6, .e (.c (.i64 p1))), (92, .e (.c (.i64 p2))), (93, .e (.c (.i64 s)))], [.cells 33 [.i64 p3, .i64 p4, .i64 p5, .i64 p6, .i64 p7, .i64 p8, .i64 p9, .i64 p10, .i64 p11, .bool p12, .sl .i64 p13, .sl argT p14, .sl .i64 p15, .sl valT p16, .sl .i64 p17]]⟩
noncomputable def ref33_Check_L20_out (p0 : (List Int)) (p1 p2 p3 p4 p5 p6 p7 p8 p9 p10 p11 : Int) (p12 : Bool) (p13 : (List Int)) (p14 : (List ArgD)) (p15 : (List Int)) (p16 : (List ValD)) (p17 : (List Int)) : (Unit ⊕ Int) → Exit × St := fun y => match y with
  | (.inl y) => ((.exit 2), ⟨slots 118 [(1, .e (.c (.ptr 0 0))), (3, .e (.c (.sl .i64 p0)))], [.cells 33 [.i64 p3, .i64 p4, .i64 p5, .i64 p6, .i64 p7, .i64 p8, .i64 p9, .i64 p10, .i64 p11, .bool p12, .sl .i64 p13, .sl argT p14, .sl .i64 p15, .sl valT p16, .sl .i64 p17]]⟩)
  | (.inr y) => (.ret, ⟨slots 118 [(2, .e (.c (.i64 y)))], []⟩)
noncomputable def ref33_Check_T20 (p0 : (List Int)) (p1 p2 p3 p4 p5 p6 p7 p8 p9 p10 p11 : Int) (p12 : Bool) (p13 : (List Int)) (p14 : (List ArgD)) (p15 : (List Int)) (p16 : (List ValD)) (p17 : (List Int)) (s : Int) : Tree (Int ⊕ (Unit ⊕ Int)) :=
 .br (decide (s < p2))
  (.ob ((((0 : Int) ≤ s) ∧ (s < (↑(List.length p17) : Int)))) (
  .br (decide ((List.getD p17 (Int.toNat s) default) < 0))
   (.ret (.inr (.inr 1)))
   (.ob ((((0 : Int) ≤ s) ∧ (s < (↑(List.length p17) : Int)))) (
   .br (decide (p1 ≤ (List.getD p17 (Int.toNat s) default)))
    (.ret (.inr (.inr 1)))
    (.ret (.inl (w64 (s + 1))))))))
  (.ret (.inr (.inl ())))
noncomputable def ref33_Check_L20 (p0 : (List Int)) (p1 p2 p3 p4 p5 p6 p7 p8 p9 p10 p11 : Int) (p12 : Bool) (p13 : (List Int)) (p14 : (List ArgD)) (p15 : (List Int)) (p16 : (List ValD)) (p17 : (List Int)) (s : Int) : Option (Unit ⊕ Int) := iter (fun s => (ref33_Check_T20 p0 p1 p2 p3 p4 p5 p6 p7 p8 p9 p10 p11 p12 p13 p14 p15 p16 p17 s).run) F0 s
noncomputable abbrev ref33_Check_L20_c : Code := loopOf Tryz.f5 20
theorem ref33_Check_L20_s (p0 : (List Int)) (p1 p2 p3 p4 p5 p6 p7 p8 p9 p10 p11 : Int) (p12 : Bool) (p13 : (List Int)) (p14 : (List ArgD)) (p15 : (List Int)) (p16 : (List ValD)) (p17 : (List Int)) (s : Int) : ∀ o, ref33_Check_L20 p0 p1 p2 p3 p4 p5 p6 p7 p8 p9 p10 p11 p12 p13 p14 p15 p16 p17 s = some o → LpK Tryz.prog f5H 0 20 ref33_Check_L20_c (ref33_Check_L20_st p0 p1 p2 p3 p4 p5 p6 p7 p8 p9 p10 p11 p12 p13 p14 p15 p16 p17 s) (fun e s' => e = (ref33_Check_L20_out p0 p1 p2 p3 p4 p5 p6 p7 p8 p9 p10 p11 p12 p13 p14 p15 p16 p17 o).1 ∧ s' = (ref33_Check_L20_out p0 p1 p2 p3 p4 p5 p6 p7 p8 p9 p10 p11 p12 p13 p14 p15 p16 p17 o).2) := fun o => iter_sound (tr := fun s => (ref33_Check_T20 p0 p1 p2 p3 p4 p5 p6 p7 p8 p9 p10 p11 p12 p13 p14 p15 p16 p17 s)) (st := fun s => ref33_Check_L20_st p0 p1 p2 p3 p4 p5 p6 p7 p8 p9 p10 p11 p12 p13 p14 p15 p16 p17 s) (by kernel_rfl) (fun s K => by kernel_rfl) F0 s o
noncomputable def ref33_Check_L7_st (p0 : (List Int)) (p1 p2 p3 p4 p5 p6 p7 p8 p9 p10 : Int) (p11 : Bool) (p12 : (List Int)) (p13 : (List ArgD)) (p14 : (List Int)) (p15 : (List ValD)) (p16 : (List Int)) (s : Int) : St := ⟨slots 118 [(1, .e (.c (.ptr 0 0))), (3, .e (.c (.sl .i64 p0))), (30, .e (.c (.i64 p1))), (31, .e (.c (.i64 s)))], [.cells 33 [.i64 p2, .i64 p3, .i64 p4, .i64 p5, .i64 p6, .i64 p7, .i64 p8, .i64 p9, .i64 p10, .bool p11, .sl .i64 p12, .sl argT p13, .sl .i64 p14, .sl valT p15, .sl .i64 p16]]⟩
noncomputable def ref33_Check_L7_out (p0 : (List Int)) (p1 p2 p3 p4 p5 p6 p7 p8 p9 p10 : Int) (p11 : Bool) (p12 : (List Int)) (p13 : (List ArgD)) (p14 : (List Int)) (p15 : (List ValD)) (p16 : (List Int)) : (Unit ⊕ Int) → Exit × St := fun y => match y with
  | (.inl y) => ((.exit 0), ⟨slots 118 [(1, .e (.c (.ptr 0 0))), (3, .e (.c (.sl .i64 p0)))], [.cells 33 [.i64 p2, .i64 p3, .i64 p4, .i64 p5, .i64 p6, .i64 p7, .i64 p8, .i64 p9, .i64 p10, .bool p11, .sl .i64 p12, .sl argT p13, .sl .i64 p14, .sl valT p15, .sl .i64 p16]]⟩)
  | (.inr y) => (.ret, ⟨slots 118 [(2, .e (.c (.i64 y)))], []⟩)
noncomputable def ref33_Check_T7 (p0 : (List Int)) (p1 p2 p3 p4 p5 p6 p7 p8 p9 p10 : Int) (p11 : Bool) (p12 : (List Int)) (p13 : (List ArgD)) (p14 : (List Int)) (p15 : (List ValD)) (p16 : (List Int)) (s : Int) : Tree (Int ⊕ (Unit ⊕ Int)) :=
 .br (decide (s < p1))
  (.ex (ref30_Needs_s p2 p3 s) fun y0 =>
  .br y0
   (.ob ((((0 : Int) ≤ s) ∧ (s < (↑(List.length p13) : Int)))) (
   .ex (ref32_Whole_s (List.getD p13 (Int.toNat s) default)) fun y1 =>
   .br (!y1)
    (.ret (.inr (.inr 1)))
    (.ret (.inl (w64 (s + 1))))))
   (.ret (.inl (w64 (s + 1)))))
  (.ret (.inr (.inl ())))
noncomputable def ref33_Check_L7 (p0 : (List Int)) (p1 p2 p3 p4 p5 p6 p7 p8 p9 p10 : Int) (p11 : Bool) (p12 : (List Int)) (p13 : (List ArgD)) (p14 : (List Int)) (p15 : (List ValD)) (p16 : (List Int)) (s : Int) : Option (Unit ⊕ Int) := iter (fun s => (ref33_Check_T7 p0 p1 p2 p3 p4 p5 p6 p7 p8 p9 p10 p11 p12 p13 p14 p15 p16 s).run) F0 s
noncomputable abbrev ref33_Check_L7_c : Code := loopOf Tryz.f5 7
theorem ref33_Check_L7_s (p0 : (List Int)) (p1 p2 p3 p4 p5 p6 p7 p8 p9 p10 : Int) (p11 : Bool) (p12 : (List Int)) (p13 : (List ArgD)) (p14 : (List Int)) (p15 : (List ValD)) (p16 : (List Int)) (s : Int) : ∀ o, ref33_Check_L7 p0 p1 p2 p3 p4 p5 p6 p7 p8 p9 p10 p11 p12 p13 p14 p15 p16 s = some o → LpK Tryz.prog f5H 0 7 ref33_Check_L7_c (ref33_Check_L7_st p0 p1 p2 p3 p4 p5 p6 p7 p8 p9 p10 p11 p12 p13 p14 p15 p16 s) (fun e s' => e = (ref33_Check_L7_out p0 p1 p2 p3 p4 p5 p6 p7 p8 p9 p10 p11 p12 p13 p14 p15 p16 o).1 ∧ s' = (ref33_Check_L7_out p0 p1 p2 p3 p4 p5 p6 p7 p8 p9 p10 p11 p12 p13 p14 p15 p16 o).2) := fun o => iter_sound (tr := fun s => (ref33_Check_T7 p0 p1 p2 p3 p4 p5 p6 p7 p8 p9 p10 p11 p12 p13 p14 p15 p16 s)) (st := fun s => ref33_Check_L7_st p0 p1 p2 p3 p4 p5 p6 p7 p8 p9 p10 p11 p12 p13 p14 p15 p16 s) (by kernel_rfl) (fun s K => by kernel_rfl) F0 s o
noncomputable def ref33_Check_T (toArray0 : StepD) : Tree (RTs.den [.d .i64]) :=
 .ex (ref32_Dims_s toArray0.2.2.1) fun y0 =>
 .ex (ref31_Dims_s toArray0.1 toArray0.2.1 y0) fun y1 =>
 .br (!(decide (y1.2 = 0)))
  (.ret y1.2)
  (.ex (ref19_Same_s y1.1 toArray0.2.2.2.1.1) fun y2 =>
  .br (!y2)
   (.ret 8)
   (.alt (isL (ref33_Check_L7 y1.1 (↑(List.length toArray0.2.2.1) : Int) toArray0.1 toArray0.2.1.1 toArray0.2.1.2.1 toArray0.2.1.2.2.1 toArray0.2.1.2.2.2.1 toArray0.2.1.2.2.2.2.1 toArray0.2.1.2.2.2.2.2.1 toArray0.2.1.2.2.2.2.2.2.1 toArray0.2.1.2.2.2.2.2.2.2.1 toArray0.2.1.2.2.2.2.2.2.2.2.1 toArray0.2.1.2.2.2.2.2.2.2.2.2.1 toArray0.2.2.1 toArray0.2.2.2.1.1 toArray0.2.2.2.1.2.1 toArray0.2.2.2.2.1 0))
    (.an (s_u (s_l (ref33_Check_L7_s y1.1 (↑(List.length toArray0.2.2.1) : Int) toArray0.1 toArray0.2.1.1 toArray0.2.1.2.1 toArray0.2.1.2.2.1 toArray0.2.1.2.2.2.1 toArray0.2.1.2.2.2.2.1 toArray0.2.1.2.2.2.2.2.1 toArray0.2.1.2.2.2.2.2.2.1 toArray0.2.1.2.2.2.2.2.2.2.1 toArray0.2.1.2.2.2.2.2.2.2.2.1 toArray0.2.1.2.2.2.2.2.2.2.2.2.1 toArray0.2.2.1 toArray0.2.2.2.1.1 toArray0.2.2.2.1.2.1 toArray0.2.2.2.2.1 0))) (
    .ex (ref30_Needs_s toArray0.1 toArray0.2.1.1 (↑(List.length toArray0.2.2.1) : Int)) fun y3 =>
    .br y3
     (.ex (ref32_Whole_s toArray0.2.2.2.1) fun y4 =>
     .br (!y4)
      (.ret 1)
      (.ex (ref30_Picks_s toArray0.1) fun y5 =>
      .br (!y5)
       (.ret 0)
       (.ex (ref30_Choices_s toArray0.1) fun y6 =>
       .ex (ref30_Class_s toArray0.1) fun y7 =>
       .br (decide (y7 = 2))
        (.ob ((((0 : Int) ≤ 0) ∧ ((0 : Int) < (↑(List.length toArray0.2.2.1) : Int)))) (
        .ex (ref27_Groups_s toArray0.1 toArray0.2.1 (List.getD toArray0.2.2.1 (Int.toNat 0) default).1) fun y8 =>
        .ob ((((0 : Int) ≤ 0) ∧ ((0 : Int) < (↑(List.length y8) : Int)))) (
        .alt (isL (ref33_Check_L20 y1.1 (↑(List.length (List.getD y8 (Int.toNat 0) default)) : Int) (↑(List.length toArray0.2.2.2.2.1) : Int) toArray0.1 toArray0.2.1.1 toArray0.2.1.2.1 toArray0.2.1.2.2.1 toArray0.2.1.2.2.2.1 toArray0.2.1.2.2.2.2.1 toArray0.2.1.2.2.2.2.2.1 toArray0.2.1.2.2.2.2.2.2.1 toArray0.2.1.2.2.2.2.2.2.2.1 toArray0.2.1.2.2.2.2.2.2.2.2.1 toArray0.2.1.2.2.2.2.2.2.2.2.2.1 toArray0.2.2.1 toArray0.2.2.2.1.1 toArray0.2.2.2.1.2.1 toArray0.2.2.2.2.1 0))
         (.an (s_u (s_l (ref33_Check_L20_s y1.1 (↑(List.length (List.getD y8 (Int.toNat 0) default)) : Int) (↑(List.length toArray0.2.2.2.2.1) : Int) toArray0.1 toArray0.2.1.1 toArray0.2.1.2.1 toArray0.2.1.2.2.1 toArray0.2.1.2.2.2.1 toArray0.2.1.2.2.2.2.1 toArray0.2.1.2.2.2.2.2.1 toArray0.2.1.2.2.2.2.2.2.1 toArray0.2.1.2.2.2.2.2.2.2.1 toArray0.2.1.2.2.2.2.2.2.2.2.1 toArray0.2.1.2.2.2.2.2.2.2.2.2.1 toArray0.2.2.1 toArray0.2.2.2.1.1 toArray0.2.2.2.1.2.1 toArray0.2.2.2.2.1 0))) (
         .ex (ref19_Count_s y1.1) fun y9 =>
         .br (!(decide ((↑(List.length toArray0.2.2.2.2.1) : Int) = y9)))
          (.ret 1)
          (.ret 0)))
         (.ex (s_r (ref33_Check_L20_s y1.1 (↑(List.length (List.getD y8 (Int.toNat 0) default)) : Int) (↑(List.length toArray0.2.2.2.2.1) : Int) toArray0.1 toArray0.2.1.1 toArray0.2.1.2.1 toArray0.2.1.2.2.1 toArray0.2.1.2.2.2.1 toArray0.2.1.2.2.2.2.1 toArray0.2.1.2.2.2.2.2.1 toArray0.2.1.2.2.2.2.2.2.1 toArray0.2.1.2.2.2.2.2.2.2.1 toArray0.2.1.2.2.2.2.2.2.2.2.1 toArray0.2.1.2.2.2.2.2.2.2.2.2.1 toArray0.2.2.1 toArray0.2.2.2.1.1 toArray0.2.2.2.1.2.1 toArray0.2.2.2.2.1 0)) fun y10 =>
         .ret y10))))
        (.alt (isL (ref33_Check_L20 y1.1 y6 (↑(List.length toArray0.2.2.2.2.1) : Int) toArray0.1 toArray0.2.1.1 toArray0.2.1.2.1 toArray0.2.1.2.2.1 toArray0.2.1.2.2.2.1 toArray0.2.1.2.2.2.2.1 toArray0.2.1.2.2.2.2.2.1 toArray0.2.1.2.2.2.2.2.2.1 toArray0.2.1.2.2.2.2.2.2.2.1 toArray0.2.1.2.2.2.2.2.2.2.2.1 toArray0.2.1.2.2.2.2.2.2.2.2.2.1 toArray0.2.2.1 toArray0.2.2.2.1.1 toArray0.2.2.2.1.2.1 toArray0.2.2.2.2.1 0))
         (.an (s_u (s_l (ref33_Check_L20_s y1.1 y6 (↑(List.length toArray0.2.2.2.2.1) : Int) toArray0.1 toArray0.2.1.1 toArray0.2.1.2.1 toArray0.2.1.2.2.1 toArray0.2.1.2.2.2.1 toArray0.2.1.2.2.2.2.1 toArray0.2.1.2.2.2.2.2.1 toArray0.2.1.2.2.2.2.2.2.1 toArray0.2.1.2.2.2.2.2.2.2.1 toArray0.2.1.2.2.2.2.2.2.2.2.1 toArray0.2.1.2.2.2.2.2.2.2.2.2.1 toArray0.2.2.1 toArray0.2.2.2.1.1 toArray0.2.2.2.1.2.1 toArray0.2.2.2.2.1 0))) (
         .ex (ref19_Count_s y1.1) fun y11 =>
         .br (!(decide ((↑(List.length toArray0.2.2.2.2.1) : Int) = y11)))
          (.ret 1)
          (.ret 0)))
         (.ex (s_r (ref33_Check_L20_s y1.1 y6 (↑(List.length toArray0.2.2.2.2.1) : Int) toArray0.1 toArray0.2.1.1 toArray0.2.1.2.1 toArray0.2.1.2.2.1 toArray0.2.1.2.2.2.1 toArray0.2.1.2.2.2.2.1 toArray0.2.1.2.2.2.2.2.1 toArray0.2.1.2.2.2.2.2.2.1 toArray0.2.1.2.2.2.2.2.2.2.1 toArray0.2.1.2.2.2.2.2.2.2.2.1 toArray0.2.1.2.2.2.2.2.2.2.2.2.1 toArray0.2.2.1 toArray0.2.2.2.1.1 toArray0.2.2.2.1.2.1 toArray0.2.2.2.2.1 0)) fun y12 =>
         .ret y12)))))
     (.ex (ref30_Picks_s toArray0.1) fun y13 =>
     .br (!y13)
      (.ret 0)
      (.ex (ref30_Choices_s toArray0.1) fun y14 =>
      .ex (ref30_Class_s toArray0.1) fun y15 =>
      .br (decide (y15 = 2))
       (.ob ((((0 : Int) ≤ 0) ∧ ((0 : Int) < (↑(List.length toArray0.2.2.1) : Int)))) (
       .ex (ref27_Groups_s toArray0.1 toArray0.2.1 (List.getD toArray0.2.2.1 (Int.toNat 0) default).1) fun y16 =>
       .ob ((((0 : Int) ≤ 0) ∧ ((0 : Int) < (↑(List.length y16) : Int)))) (
       .alt (isL (ref33_Check_L20 y1.1 (↑(List.length (List.getD y16 (Int.toNat 0) default)) : Int) (↑(List.length toArray0.2.2.2.2.1) : Int) toArray0.1 toArray0.2.1.1 toArray0.2.1.2.1 toArray0.2.1.2.2.1 toArray0.2.1.2.2.2.1 toArray0.2.1.2.2.2.2.1 toArray0.2.1.2.2.2.2.2.1 toArray0.2.1.2.2.2.2.2.2.1 toArray0.2.1.2.2.2.2.2.2.2.1 toArray0.2.1.2.2.2.2.2.2.2.2.1 toArray0.2.1.2.2.2.2.2.2.2.2.2.1 toArray0.2.2.1 toArray0.2.2.2.1.1 toArray0.2.2.2.1.2.1 toArray0.2.2.2.2.1 0))
        (.an (s_u (s_l (ref33_Check_L20_s y1.1 (↑(List.length (List.getD y16 (Int.toNat 0) default)) : Int) (↑(List.length toArray0.2.2.2.2.1) : Int) toArray0.1 toArray0.2.1.1 toArray0.2.1.2.1 toArray0.2.1.2.2.1 toArray0.2.1.2.2.2.1 toArray0.2.1.2.2.2.2.1 toArray0.2.1.2.2.2.2.2.1 toArray0.2.1.2.2.2.2.2.2.1 toArray0.2.1.2.2.2.2.2.2.2.1 toArray0.2.1.2.2.2.2.2.2.2.2.1 toArray0.2.1.2.2.2.2.2.2.2.2.2.1 toArray0.2.2.1 toArray0.2.2.2.1.1 toArray0.2.2.2.1.2.1 toArray0.2.2.2.2.1 0))) (
        .ex (ref19_Count_s y1.1) fun y17 =>
        .br (!(decide ((↑(List.length toArray0.2.2.2.2.1) : Int) = y17)))
         (.ret 1)
         (.ret 0)))
        (.ex (s_r (ref33_Check_L20_s y1.1 (↑(List.length (List.getD y16 (Int.toNat 0) default)) : Int) (↑(List.length toArray0.2.2.2.2.1) : Int) toArray0.1 toArray0.2.1.1 toArray0.2.1.2.1 toArray0.2.1.2.2.1 toArray0.2.1.2.2.2.1 toArray0.2.1.2.2.2.2.1 toArray0.2.1.2.2.2.2.2.1 toArray0.2.1.2.2.2.2.2.2.1 toArray0.2.1.2.2.2.2.2.2.2.1 toArray0.2.1.2.2.2.2.2.2.2.2.1 toArray0.2.1.2.2.2.2.2.2.2.2.2.1 toArray0.2.2.1 toArray0.2.2.2.1.1 toArray0.2.2.2.1.2.1 toArray0.2.2.2.2.1 0)) fun y18 =>
        .ret y18))))
       (.alt (isL (ref33_Check_L20 y1.1 y14 (↑(List.length toArray0.2.2.2.2.1) : Int) toArray0.1 toArray0.2.1.1 toArray0.2.1.2.1 toArray0.2.1.2.2.1 toArray0.2.1.2.2.2.1 toArray0.2.1.2.2.2.2.1 toArray0.2.1.2.2.2.2.2.1 toArray0.2.1.2.2.2.2.2.2.1 toArray0.2.1.2.2.2.2.2.2.2.1 toArray0.2.1.2.2.2.2.2.2.2.2.1 toArray0.2.1.2.2.2.2.2.2.2.2.2.1 toArray0.2.2.1 toArray0.2.2.2.1.1 toArray0.2.2.2.1.2.1 toArray0.2.2.2.2.1 0))
        (.an (s_u (s_l (ref33_Check_L20_s y1.1 y14 (↑(List.length toArray0.2.2.2.2.1) : Int) toArray0.1 toArray0.2.1.1 toArray0.2.1.2.1 toArray0.2.1.2.2.1 toArray0.2.1.2.2.2.1 toArray0.2.1.2.2.2.2.1 toArray0.2.1.2.2.2.2.2.1 toArray0.2.1.2.2.2.2.2.2.1 toArray0.2.1.2.2.2.2.2.2.2.1 toArray0.2.1.2.2.2.2.2.2.2.2.1 toArray0.2.1.2.2.2.2.2.2.2.2.2.1 toArray0.2.2.1 toArray0.2.2.2.1.1 toArray0.2.2.2.1.2.1 toArray0.2.2.2.2.1 0))) (
        .ex (ref19_Count_s y1.1) fun y19 =>
        .br (!(decide ((↑(List.length toArray0.2.2.2.2.1) : Int) = y19)))
         (.ret 1)
         (.ret 0)))
        (.ex (s_r (ref33_Check_L20_s y1.1 y14 (↑(List.length toArray0.2.2.2.2.1) : Int) toArray0.1 toArray0.2.1.1 toArray0.2.1.2.1 toArray0.2.1.2.2.1 toArray0.2.1.2.2.2.1 toArray0.2.1.2.2.2.2.1 toArray0.2.1.2.2.2.2.2.1 toArray0.2.1.2.2.2.2.2.2.1 toArray0.2.1.2.2.2.2.2.2.2.1 toArray0.2.1.2.2.2.2.2.2.2.2.1 toArray0.2.1.2.2.2.2.2.2.2.2.2.1 toArray0.2.2.1 toArray0.2.2.2.1.1 toArray0.2.2.2.1.2.1 toArray0.2.2.2.2.1 0)) fun y20 =>
        .ret y20))))))
    (.ex (s_r (ref33_Check_L7_s y1.1 (↑(List.length toArray0.2.2.1) : Int) toArray0.1 toArray0.2.1.1 toArray0.2.1.2.1 toArray0.2.1.2.2.1 toArray0.2.1.2.2.2.1 toArray0.2.1.2.2.2.2.1 toArray0.2.1.2.2.2.2.2.1 toArray0.2.1.2.2.2.2.2.2.1 toArray0.2.1.2.2.2.2.2.2.2.1 toArray0.2.1.2.2.2.2.2.2.2.2.1 toArray0.2.1.2.2.2.2.2.2.2.2.2.1 toArray0.2.2.1 toArray0.2.2.2.1.1 toArray0.2.2.2.1.2.1 toArray0.2.2.2.2.1 0)) fun y21 =>
    .ret y21)))
noncomputable def ref33_Check (toArray0 : StepD) : Option (RTs.den [.d .i64]) := (ref33_Check_T toArray0).run
theorem ref33_Check_s (toArray0 : StepD) : ∀ y, ref33_Check toArray0 = some y → CSem Tryz.prog 5 [Ty.e stepT toArray0] [] (fun v b => v = (RTs.shape [.d .i64] y).1 ∧ b = (RTs.shape [.d .i64] y).2) := fun_sound (H := f5H) (fn := Tryz.f5) (by kernel_rfl) (by kernel_rfl) (fun post => by kernel_rfl)
noncomputable def f6H : Hint := ⟨fun _ => false, false, fun _ => [], fun _ => [], fun _ => [], fun _ => [], fun _ => [], fun _ => [], resOf P 6, fun g _ _ => retOf P g⟩
noncomputable def law33_Step_T (a0 : StepD) : Tree (RTs.den [.d stepT]) :=
 .ret a0
noncomputable def law33_Step (a0 : StepD) : Option (RTs.den [.d stepT]) := (law33_Step_T a0).run
theorem law33_Step_s (a0 : StepD) : ∀ y, law33_Step a0 = some y → CSem Tryz.prog 6 [Ty.e stepT a0] [] (fun v b => v = (RTs.shape [.d stepT] y).1 ∧ b = (RTs.shape [.d stepT] y).2) := fun_sound (H := f6H) (fn := Tryz.f6) (by kernel_rfl) (by kernel_rfl) (fun post => by kernel_rfl)
noncomputable def f9H : Hint := ⟨fun _ => false, false, fun n => lk n [(3, [3, 7, 8, 9])], fun _ => [], fun n => lk n [(3, openOf P [(3, 37)])], fun _ => [], fun _ => [], fun n => lk n [(3, [⟨.exit 0, [3], [3], mores P [], []⟩])], resOf P 9, fun g _ _ => retOf P g⟩
noncomputable def vjp_Step_Dims_L3_st (p0 : (List ArgD)) (p1 : Int) (s : (Int × (List (List Int)))) : St := ⟨slots 22 [(3, .e (.c (.ref 0))), (7, .e (.c (.sl argT p0))), (8, .e (.c (.i64 p1))), (9, .e (.c (.i64 s.1)))], [.row 22 (.slice .i64) s.2 false]⟩
noncomputable def vjp_Step_Dims_L3_out (p0 : (List ArgD)) (p1 : Int) : (List (List Int)) → Exit × St := fun y => ((.exit 0), ⟨slots 22 [(3, .e (.c (.ref 0)))], [.row 22 (.slice .i64) y false]⟩)
noncomputable def vjp_Step_Dims_T3 (p0 : (List ArgD)) (p1 : Int) (s : (Int × (List (List Int)))) : Tree ((Int × (List (List Int))) ⊕ (List (List Int))) :=
 .br (decide (s.1 < p1))
  (.ob ((((0 : Int) ≤ s.1) ∧ (s.1 < (↑(List.length p0) : Int)))) (
  .ob ((((0 + (List.length (List.getD p0 (Int.toNat s.1) default).1)) * 8) ≤ 140737488355328)) (
  .ob (((((List.length s.2) + 1) * 24) ≤ 140737488355328)) (
  .ret (.inl ((w64 (s.1 + 1)), (s.2 ++ ((List.getD p0 (Int.toNat s.1) default).1 :: []))))))))
  (.ret (.inr s.2))
noncomputable def vjp_Step_Dims_L3 (p0 : (List ArgD)) (p1 : Int) (s : (Int × (List (List Int)))) : Option (List (List Int)) := iter (fun s => (vjp_Step_Dims_T3 p0 p1 s).run) F0 s
noncomputable abbrev vjp_Step_Dims_L3_c : Code := loopOf Tryz.f9 3
theorem vjp_Step_Dims_L3_s (p0 : (List ArgD)) (p1 : Int) (s : (Int × (List (List Int)))) : ∀ o, vjp_Step_Dims_L3 p0 p1 s = some o → LpK Tryz.prog f9H 0 3 vjp_Step_Dims_L3_c (vjp_Step_Dims_L3_st p0 p1 s) (fun e s' => e = (vjp_Step_Dims_L3_out p0 p1 o).1 ∧ s' = (vjp_Step_Dims_L3_out p0 p1 o).2) := fun o => iter_sound (tr := fun s => (vjp_Step_Dims_T3 p0 p1 s)) (st := fun s => vjp_Step_Dims_L3_st p0 p1 s) (by kernel_rfl) (fun s K => by kernel_rfl) F0 s o
noncomputable def vjp_Step_Dims_T (a0 : StepD) : Tree (RTs.den [.d (.slice (.slice .i64))]) :=
 .ex (vjp_Step_Dims_L3_s a0.2.2.1 (↑(List.length a0.2.2.1) : Int) (0, [])) fun y0 =>
 .ret y0
noncomputable def vjp_Step_Dims (a0 : StepD) : Option (RTs.den [.d (.slice (.slice .i64))]) := (vjp_Step_Dims_T a0).run
theorem vjp_Step_Dims_s (a0 : StepD) : ∀ y, vjp_Step_Dims a0 = some y → CSem Tryz.prog 9 [Ty.e stepT a0] [] (fun v b => v = (RTs.shape [.d (.slice (.slice .i64))] y).1 ∧ b = (RTs.shape [.d (.slice (.slice .i64))] y).2) := fun_sound (H := f9H) (fn := Tryz.f9) (by kernel_rfl) (by kernel_rfl) (fun post => by kernel_rfl)
noncomputable def f10H : Hint := ⟨fun _ => false, false, fun n => lk n [(4, [0, 1, 12, 13])], fun _ => [], fun _ => [], fun _ => [], fun _ => [], fun n => lk n [(4, [⟨.exit 0, [], [], mores P [], []⟩, ⟨.ret, [4], [], mores P [(4, 4)], []⟩])], resOf P 10, fun g _ _ => retOf P g⟩
noncomputable def plain_Ints_L4_st (p0 p1 : (List Int)) (p2 : Int) (s : Int) : St := ⟨slots 26 [(0, .e (.c (.sl .i64 p0))), (1, .e (.c (.sl .i64 p1))), (12, .e (.c (.i64 p2))), (13, .e (.c (.i64 s)))], []⟩
noncomputable def plain_Ints_L4_out (p0 p1 : (List Int)) (p2 : Int) : (Unit ⊕ Bool) → Exit × St := fun y => match y with
  | (.inl y) => ((.exit 0), ⟨slots 26 [], []⟩)
  | (.inr y) => (.ret, ⟨slots 26 [(4, .e (.c (.bool y)))], []⟩)
noncomputable def plain_Ints_T4 (p0 p1 : (List Int)) (p2 : Int) (s : Int) : Tree (Int ⊕ (Unit ⊕ Bool)) :=
 .br (decide (s < p2))
  (.ob ((((0 : Int) ≤ s) ∧ (s < (↑(List.length p0) : Int)))) (
  .ob ((((0 : Int) ≤ s) ∧ (s < (↑(List.length p1) : Int)))) (
  .br (!(decide ((List.getD p0 (Int.toNat s) default) = (List.getD p1 (Int.toNat s) default))))
   (.ret (.inr (.inr Bool.false)))
   (.ret (.inl (w64 (s + 1)))))))
  (.ret (.inr (.inl ())))
noncomputable def plain_Ints_L4 (p0 p1 : (List Int)) (p2 : Int) (s : Int) : Option (Unit ⊕ Bool) := iter (fun s => (plain_Ints_T4 p0 p1 p2 s).run) F0 s
noncomputable abbrev plain_Ints_L4_c : Code := loopOf Tryz.f10 4
theorem plain_Ints_L4_s (p0 p1 : (List Int)) (p2 : Int) (s : Int) : ∀ o, plain_Ints_L4 p0 p1 p2 s = some o → LpK Tryz.prog f10H 0 4 plain_Ints_L4_c (plain_Ints_L4_st p0 p1 p2 s) (fun e s' => e = (plain_Ints_L4_out p0 p1 p2 o).1 ∧ s' = (plain_Ints_L4_out p0 p1 p2 o).2) := fun o => iter_sound (tr := fun s => (plain_Ints_T4 p0 p1 p2 s)) (st := fun s => plain_Ints_L4_st p0 p1 p2 s) (by kernel_rfl) (fun s K => by kernel_rfl) F0 s o
noncomputable def plain_Ints_T (a0 : (List Int)) (b1 : (List Int)) : Tree (RTs.den [.d .bool]) :=
 .br (!(decide ((↑(List.length a0) : Int) = (↑(List.length b1) : Int))))
  (.ret Bool.false)
  (.alt (isL (plain_Ints_L4 a0 b1 (↑(List.length a0) : Int) 0))
   (.an (s_u (s_l (plain_Ints_L4_s a0 b1 (↑(List.length a0) : Int) 0))) (
   .ret Bool.true))
   (.ex (s_r (plain_Ints_L4_s a0 b1 (↑(List.length a0) : Int) 0)) fun y0 =>
   .ret y0))
noncomputable def plain_Ints (a0 : (List Int)) (b1 : (List Int)) : Option (RTs.den [.d .bool]) := (plain_Ints_T a0 b1).run
theorem plain_Ints_s (a0 : (List Int)) (b1 : (List Int)) : ∀ y, plain_Ints a0 b1 = some y → CSem Tryz.prog 10 [Ty.e (.slice .i64) a0, Ty.e (.slice .i64) b1] [] (fun v b => v = (RTs.shape [.d .bool] y).1 ∧ b = (RTs.shape [.d .bool] y).2) := fun_sound (H := f10H) (fn := Tryz.f10) (by kernel_rfl) (by kernel_rfl) (fun post => by kernel_rfl)
noncomputable def f112H : Hint := ⟨fun _ => false, false, fun n => lk n [(4, [0, 1, 12, 13])], fun _ => [], fun _ => [], fun _ => [], fun _ => [], fun n => lk n [(4, [⟨.exit 0, [], [], mores P [], []⟩, ⟨.ret, [4], [], mores P [(4, 4)], []⟩])], resOf P 112, fun g _ _ => retOf P g⟩
noncomputable def slices_Equal_L4_st (p0 p1 : (List Int)) (p2 : Int) (s : Int) : St := ⟨slots 26 [(0, .e (.c (.sl .i64 p0))), (1, .e (.c (.sl .i64 p1))), (12, .e (.c (.i64 p2))), (13, .e (.c (.i64 s)))], []⟩
noncomputable def slices_Equal_L4_out (p0 p1 : (List Int)) (p2 : Int) : (Unit ⊕ Bool) → Exit × St := fun y => match y with
  | (.inl y) => ((.exit 0), ⟨slots 26 [], []⟩)
  | (.inr y) => (.ret, ⟨slots 26 [(4, .e (.c (.bool y)))], []⟩)
noncomputable def slices_Equal_T4 (p0 p1 : (List Int)) (p2 : Int) (s : Int) : Tree (Int ⊕ (Unit ⊕ Bool)) :=
 .br (decide (s < p2))
  (.ob ((((0 : Int) ≤ s) ∧ (s < (↑(List.length p0) : Int)))) (
  .ob ((((0 : Int) ≤ s) ∧ (s < (↑(List.length p1) : Int)))) (
  .br (!(decide ((List.getD p0 (Int.toNat s) default) = (List.getD p1 (Int.toNat s) default))))
   (.ret (.inr (.inr Bool.false)))
   (.ret (.inl (w64 (s + 1)))))))
  (.ret (.inr (.inl ())))
noncomputable def slices_Equal_L4 (p0 p1 : (List Int)) (p2 : Int) (s : Int) : Option (Unit ⊕ Bool) := iter (fun s => (slices_Equal_T4 p0 p1 p2 s).run) F0 s
noncomputable abbrev slices_Equal_L4_c : Code := loopOf Tryz.f112 4
theorem slices_Equal_L4_s (p0 p1 : (List Int)) (p2 : Int) (s : Int) : ∀ o, slices_Equal_L4 p0 p1 p2 s = some o → LpK Tryz.prog f112H 0 4 slices_Equal_L4_c (slices_Equal_L4_st p0 p1 p2 s) (fun e s' => e = (slices_Equal_L4_out p0 p1 p2 o).1 ∧ s' = (slices_Equal_L4_out p0 p1 p2 o).2) := fun o => iter_sound (tr := fun s => (slices_Equal_T4 p0 p1 p2 s)) (st := fun s => slices_Equal_L4_st p0 p1 p2 s) (by kernel_rfl) (fun s K => by kernel_rfl) F0 s o
noncomputable def slices_Equal_T (s10 : (List Int)) (s21 : (List Int)) : Tree (RTs.den [.d .bool]) :=
 .br (!(decide ((↑(List.length s10) : Int) = (↑(List.length s21) : Int))))
  (.ret Bool.false)
  (.alt (isL (slices_Equal_L4 s10 s21 (↑(List.length s10) : Int) 0))
   (.an (s_u (s_l (slices_Equal_L4_s s10 s21 (↑(List.length s10) : Int) 0))) (
   .ret Bool.true))
   (.ex (s_r (slices_Equal_L4_s s10 s21 (↑(List.length s10) : Int) 0)) fun y0 =>
   .ret y0))
noncomputable def slices_Equal (s10 : (List Int)) (s21 : (List Int)) : Option (RTs.den [.d .bool]) := (slices_Equal_T s10 s21).run
theorem slices_Equal_s (s10 : (List Int)) (s21 : (List Int)) : ∀ y, slices_Equal s10 s21 = some y → CSem Tryz.prog 112 [Ty.e (.slice .i64) s10, Ty.e (.slice .i64) s21] [] (fun v b => v = (RTs.shape [.d .bool] y).1 ∧ b = (RTs.shape [.d .bool] y).2) := fun_sound (H := f112H) (fn := Tryz.f112) (by kernel_rfl) (by kernel_rfl) (fun post => by kernel_rfl)
noncomputable def f77H : Hint := ⟨fun _ => false, false, fun _ => [], fun _ => [], fun _ => [], fun _ => [], fun _ => [], fun _ => [], resOf P 77, fun g _ _ => retOf P g⟩
noncomputable def shape_Same_T (a0 : (List Int)) (b1 : (List Int)) : Tree (RTs.den [.d .bool]) :=
 .ex (slices_Equal_s a0 b1) fun y0 =>
 .ret y0
noncomputable def shape_Same (a0 : (List Int)) (b1 : (List Int)) : Option (RTs.den [.d .bool]) := (shape_Same_T a0 b1).run
theorem shape_Same_s (a0 : (List Int)) (b1 : (List Int)) : ∀ y, shape_Same a0 b1 = some y → CSem Tryz.prog 77 [Ty.e (.slice .i64) a0, Ty.e (.slice .i64) b1] [] (fun v b => v = (RTs.shape [.d .bool] y).1 ∧ b = (RTs.shape [.d .bool] y).2) := fun_sound (H := f77H) (fn := Tryz.f77) (by kernel_rfl) (by kernel_rfl) (fun post => by kernel_rfl)
noncomputable def f81H : Hint := ⟨fun _ => false, false, fun n => lk n [(4, [0, 11, 12, 13]), (11, [5, 20, 21, 22])], fun _ => [], fun _ => [], fun _ => [], fun _ => [], fun n => lk n [(4, [⟨.exit 0, [0], [], mores P [], []⟩, ⟨.ret, [2], [], mores P [(2, 68)], []⟩]), (11, [⟨.exit 2, [], [], mores P [], []⟩, ⟨.ret, [2], [], mores P [(2, 68)], []⟩])], resOf P 81, fun g _ _ => retOf P g⟩
noncomputable def shape_Check_L11_st (p0 : (List Int)) (p1 : Int) (s : (Int × Int)) : St := ⟨slots 38 [(5, .e (.c (.i64 s.1))), (20, .e (.c (.sl .i64 p0))), (21, .e (.c (.i64 p1))), (22, .e (.c (.i64 s.2)))], []⟩
noncomputable def shape_Check_L11_out (p0 : (List Int)) (p1 : Int) : (Unit ⊕ Int) → Exit × St := fun y => match y with
  | (.inl y) => ((.exit 2), ⟨slots 38 [], []⟩)
  | (.inr y) => (.ret, ⟨slots 38 [(2, .e (.c (.i64 y)))], []⟩)
noncomputable def shape_Check_T11 (p0 : (List Int)) (p1 : Int) (s : (Int × Int)) : Tree ((Int × Int) ⊕ (Unit ⊕ Int)) :=
 .br (decide (s.2 < p1))
  (.ob ((((0 : Int) ≤ s.2) ∧ (s.2 < (↑(List.length p0) : Int)))) (
  .br (decide ((List.getD p0 (Int.toNat s.2) default) = 1))
   (.ret (.inl (s.1, (w64 (s.2 + 1)))))
   (.ob ((s.1 ≠ 0)) (
   .br (decide ((w64 (Int.tdiv 64 s.1)) < (List.getD p0 (Int.toNat s.2) default)))
    (.ret (.inr (.inr 12)))
    (.ret (.inl ((w64 (s.1 * (List.getD p0 (Int.toNat s.2) default))), (w64 (s.2 + 1)))))))))
  (.ret (.inr (.inl ())))
noncomputable def shape_Check_L11 (p0 : (List Int)) (p1 : Int) (s : (Int × Int)) : Option (Unit ⊕ Int) := iter (fun s => (shape_Check_T11 p0 p1 s).run) F0 s
noncomputable abbrev shape_Check_L11_c : Code := loopOf Tryz.f81 11
theorem shape_Check_L11_s (p0 : (List Int)) (p1 : Int) (s : (Int × Int)) : ∀ o, shape_Check_L11 p0 p1 s = some o → LpK Tryz.prog f81H 0 11 shape_Check_L11_c (shape_Check_L11_st p0 p1 s) (fun e s' => e = (shape_Check_L11_out p0 p1 o).1 ∧ s' = (shape_Check_L11_out p0 p1 o).2) := fun o => iter_sound (tr := fun s => (shape_Check_T11 p0 p1 s)) (st := fun s => shape_Check_L11_st p0 p1 s) (by kernel_rfl) (fun s K => by kernel_rfl) F0 s o
noncomputable def shape_Check_L4_st (p0 p1 : (List Int)) (p2 : Int) (s : Int) : St := ⟨slots 38 [(0, .e (.c (.sl .i64 p0))), (11, .e (.c (.sl .i64 p1))), (12, .e (.c (.i64 p2))), (13, .e (.c (.i64 s)))], []⟩
noncomputable def shape_Check_L4_out (p0 p1 : (List Int)) (p2 : Int) : (Unit ⊕ Int) → Exit × St := fun y => match y with
  | (.inl y) => ((.exit 0), ⟨slots 38 [(0, .e (.c (.sl .i64 p0)))], []⟩)
  | (.inr y) => (.ret, ⟨slots 38 [(2, .e (.c (.i64 y)))], []⟩)
noncomputable def shape_Check_T4 (p0 p1 : (List Int)) (p2 : Int) (s : Int) : Tree (Int ⊕ (Unit ⊕ Int)) :=
 .br (decide (s < p2))
  (.ob ((((0 : Int) ≤ s) ∧ (s < (↑(List.length p1) : Int)))) (
  .br (decide ((List.getD p1 (Int.toNat s) default) < 1))
   (.ret (.inr (.inr 8)))
   (.ret (.inl (w64 (s + 1))))))
  (.ret (.inr (.inl ())))
noncomputable def shape_Check_L4 (p0 p1 : (List Int)) (p2 : Int) (s : Int) : Option (Unit ⊕ Int) := iter (fun s => (shape_Check_T4 p0 p1 p2 s).run) F0 s
noncomputable abbrev shape_Check_L4_c : Code := loopOf Tryz.f81 4
theorem shape_Check_L4_s (p0 p1 : (List Int)) (p2 : Int) (s : Int) : ∀ o, shape_Check_L4 p0 p1 p2 s = some o → LpK Tryz.prog f81H 0 4 shape_Check_L4_c (shape_Check_L4_st p0 p1 p2 s) (fun e s' => e = (shape_Check_L4_out p0 p1 p2 o).1 ∧ s' = (shape_Check_L4_out p0 p1 p2 o).2) := fun o => iter_sound (tr := fun s => (shape_Check_T4 p0 p1 p2 s)) (st := fun s => shape_Check_L4_st p0 p1 p2 s) (by kernel_rfl) (fun s K => by kernel_rfl) F0 s o
noncomputable def shape_Check_T (d0 : (List Int)) : Tree (RTs.den [.d .i64]) :=
 .br (decide ((6 : Int) < (↑(List.length d0) : Int)))
  (.ret 9)
  (.alt (isL (shape_Check_L4 d0 d0 (↑(List.length d0) : Int) 0))
   (.an (s_u (s_l (shape_Check_L4_s d0 d0 (↑(List.length d0) : Int) 0))) (
   .alt (isL (shape_Check_L11 d0 (↑(List.length d0) : Int) (1, 0)))
    (.an (s_u (s_l (shape_Check_L11_s d0 (↑(List.length d0) : Int) (1, 0)))) (
    .ret 0))
    (.ex (s_r (shape_Check_L11_s d0 (↑(List.length d0) : Int) (1, 0))) fun y0 =>
    .ret y0)))
   (.ex (s_r (shape_Check_L4_s d0 d0 (↑(List.length d0) : Int) 0)) fun y1 =>
   .ret y1))
noncomputable def shape_Check (d0 : (List Int)) : Option (RTs.den [.d .i64]) := (shape_Check_T d0).run
theorem shape_Check_s (d0 : (List Int)) : ∀ y, shape_Check d0 = some y → CSem Tryz.prog 81 [Ty.e (.slice .i64) d0] [] (fun v b => v = (RTs.shape [.d .i64] y).1 ∧ b = (RTs.shape [.d .i64] y).2) := fun_sound (H := f81H) (fn := Tryz.f81) (by kernel_rfl) (by kernel_rfl) (fun post => by kernel_rfl)
noncomputable def f173H : Hint := ⟨fun _ => false, false, fun _ => [], fun _ => [], fun _ => [], fun _ => [], fun _ => [], fun _ => [], resOf P 173, fun g _ _ => retOf P g⟩
noncomputable def spread_size_T (d0 : (List Int)) (back1 : Int) : Tree (RTs.den [.d .i64]) :=
 .br (decide ((↑(List.length d0) : Int) < back1))
  (.ret 1)
  (.ob ((((0 : Int) ≤ (w64 ((↑(List.length d0) : Int) - back1))) ∧ ((w64 ((↑(List.length d0) : Int) - back1)) < (↑(List.length d0) : Int)))) (
  .ret (List.getD d0 (Int.toNat (w64 ((↑(List.length d0) : Int) - back1))) default)))
noncomputable def spread_size (d0 : (List Int)) (back1 : Int) : Option (RTs.den [.d .i64]) := (spread_size_T d0 back1).run
theorem spread_size_s (d0 : (List Int)) (back1 : Int) : ∀ y, spread_size d0 back1 = some y → CSem Tryz.prog 173 [Ty.e (.slice .i64) d0, Ty.e .i64 back1] [] (fun v b => v = (RTs.shape [.d .i64] y).1 ∧ b = (RTs.shape [.d .i64] y).2) := fun_sound (H := f173H) (fn := Tryz.f173) (by kernel_rfl) (by kernel_rfl) (fun post => by kernel_rfl)
noncomputable def f129H : Hint := ⟨fun _ => false, false, fun n => lk n [(2, [0, 1, 17, 18, 19]), (11, [0, 1, 9, 10, 11])], fun _ => [], fun _ => [], fun _ => [], fun _ => [], fun n => lk n [(2, [⟨.exit 0, [0, 1], [], mores P [], []⟩, ⟨.ret, [4, 5], [], mores P [(4, 22), (5, 68)], []⟩]), (11, [⟨.exit 2, [10], [], mores P [], []⟩, ⟨.ret, [4, 5], [], mores P [(4, 22), (5, 68)], []⟩])], resOf P 129, fun g _ _ => retOf P g⟩
noncomputable def spread_Two_L11_st (p0 p1 : (List Int)) (p2 : Int) (s : (Int × (List Int))) : St := ⟨slots 72 [(0, .e (.c (.sl .i64 p0))), (1, .e (.c (.sl .i64 p1))), (9, .e (.c (.i64 p2))), (10, .e (.c (.ref 0))), (11, .e (.c (.i64 s.1)))], [.row 3 .i64 s.2 false]⟩
noncomputable def spread_Two_L11_out (p0 p1 : (List Int)) (p2 : Int) : ((List Int) ⊕ ((List Int) × Int)) → Exit × St := fun y => match y with
  | (.inl y) => ((.exit 2), ⟨slots 72 [(10, .e (.c (.ref 0)))], [.row 3 .i64 y false]⟩)
  | (.inr y) => (.ret, ⟨slots 72 [(4, .e (.c (.sl .i64 y.1))), (5, .e (.c (.i64 y.2)))], []⟩)
noncomputable def spread_Two_T11 (p0 p1 : (List Int)) (p2 : Int) (s : (Int × (List Int))) : Tree ((Int × (List Int)) ⊕ ((List Int) ⊕ ((List Int) × Int))) :=
 .br (decide (s.1 ≤ p2))
  (.ex (spread_size_s p0 s.1) fun y0 =>
  .ex (spread_size_s p1 s.1) fun y1 =>
  .br (!(decide (y0 = y1)))
   (.br (!(decide (y0 = 1)))
    (.br (!(decide (y1 = 1)))
     (.ret (.inr (.inr ([], 8))))
     (.ob ((((0 : Int) ≤ (w64 (p2 - s.1))) ∧ ((w64 (p2 - s.1)) < (↑(List.length s.2) : Int)))) (
     .ret (.inl ((w64 (s.1 + 1)), (List.set s.2 (Int.toNat (w64 (p2 - s.1))) (max y0 y1)))))))
    (.ob ((((0 : Int) ≤ (w64 (p2 - s.1))) ∧ ((w64 (p2 - s.1)) < (↑(List.length s.2) : Int)))) (
    .ret (.inl ((w64 (s.1 + 1)), (List.set s.2 (Int.toNat (w64 (p2 - s.1))) (max y0 y1)))))))
   (.ob ((((0 : Int) ≤ (w64 (p2 - s.1))) ∧ ((w64 (p2 - s.1)) < (↑(List.length s.2) : Int)))) (
   .ret (.inl ((w64 (s.1 + 1)), (List.set s.2 (Int.toNat (w64 (p2 - s.1))) (max y0 y1)))))))
  (.ret (.inr (.inl s.2)))
noncomputable def spread_Two_L11 (p0 p1 : (List Int)) (p2 : Int) (s : (Int × (List Int))) : Option ((List Int) ⊕ ((List Int) × Int)) := iter (fun s => (spread_Two_T11 p0 p1 p2 s).run) F0 s
noncomputable abbrev spread_Two_L11_c : Code := loopOf Tryz.f129 11
theorem spread_Two_L11_s (p0 p1 : (List Int)) (p2 : Int) (s : (Int × (List Int))) : ∀ o, spread_Two_L11 p0 p1 p2 s = some o → LpK Tryz.prog f129H 0 11 spread_Two_L11_c (spread_Two_L11_st p0 p1 p2 s) (fun e s' => e = (spread_Two_L11_out p0 p1 p2 o).1 ∧ s' = (spread_Two_L11_out p0 p1 p2 o).2) := fun o => iter_sound (tr := fun s => (spread_Two_T11 p0 p1 p2 s)) (st := fun s => spread_Two_L11_st p0 p1 p2 s) (by kernel_rfl) (fun s K => by kernel_rfl) F0 s o
noncomputable def spread_Two_L2_st (p0 p1 : (List Int)) (p2 : Int) (s : (Int × (List (List Int)))) : St := ⟨slots 72 [(0, .e (.c (.sl .i64 p0))), (1, .e (.c (.sl .i64 p1))), (17, .e (.c (.ref 0))), (18, .e (.c (.i64 p2))), (19, .e (.c (.i64 s.1)))], [.row 22 (.slice .i64) s.2 false]⟩
noncomputable def spread_Two_L2_out (p0 p1 : (List Int)) (p2 : Int) : (Unit ⊕ ((List Int) × Int)) → Exit × St := fun y => match y with
  | (.inl y) => ((.exit 0), ⟨slots 72 [(0, .e (.c (.sl .i64 p0))), (1, .e (.c (.sl .i64 p1)))], []⟩)
  | (.inr y) => (.ret, ⟨slots 72 [(4, .e (.c (.sl .i64 y.1))), (5, .e (.c (.i64 y.2)))], []⟩)
noncomputable def spread_Two_T2 (p0 p1 : (List Int)) (p2 : Int) (s : (Int × (List (List Int)))) : Tree ((Int × (List (List Int))) ⊕ (Unit ⊕ ((List Int) × Int))) :=
 .br (decide (s.1 < p2))
  (.ob ((((0 : Int) ≤ s.1) ∧ (s.1 < (↑(List.length s.2) : Int)))) (
  .ex (shape_Check_s (List.getD s.2 (Int.toNat s.1) default)) fun y0 =>
  .br (!(decide (y0 = 0)))
   (.ret (.inr (.inr ([], y0))))
   (.ret (.inl ((w64 (s.1 + 1)), s.2)))))
  (.ret (.inr (.inl ())))
noncomputable def spread_Two_L2 (p0 p1 : (List Int)) (p2 : Int) (s : (Int × (List (List Int)))) : Option (Unit ⊕ ((List Int) × Int)) := iter (fun s => (spread_Two_T2 p0 p1 p2 s).run) F0 s
noncomputable abbrev spread_Two_L2_c : Code := loopOf Tryz.f129 2
theorem spread_Two_L2_s (p0 p1 : (List Int)) (p2 : Int) (s : (Int × (List (List Int)))) : ∀ o, spread_Two_L2 p0 p1 p2 s = some o → LpK Tryz.prog f129H 0 2 spread_Two_L2_c (spread_Two_L2_st p0 p1 p2 s) (fun e s' => e = (spread_Two_L2_out p0 p1 p2 o).1 ∧ s' = (spread_Two_L2_out p0 p1 p2 o).2) := fun o => iter_sound (tr := fun s => (spread_Two_T2 p0 p1 p2 s)) (st := fun s => spread_Two_L2_st p0 p1 p2 s) (by kernel_rfl) (fun s K => by kernel_rfl) F0 s o
noncomputable def spread_Two_T (toArray0 : (List Int)) (a1 : (List Int)) : Tree (RTs.den [.d (.slice .i64), .d .i64]) :=
 .alt (isL (spread_Two_L2 toArray0 a1 (↑2 : Int) (0, (toArray0 :: (a1 :: [])))))
  (.an (s_u (s_l (spread_Two_L2_s toArray0 a1 (↑2 : Int) (0, (toArray0 :: (a1 :: [])))))) (
  .ob ((((0 : Int) ≤ (max (↑(List.length toArray0) : Int) (↑(List.length a1) : Int))) ∧ (((max (↑(List.length toArray0) : Int) (↑(List.length a1) : Int)) ≤ (max (↑(List.length toArray0) : Int) (↑(List.length a1) : Int))) ∧ (((max (↑(List.length toArray0) : Int) (↑(List.length a1) : Int)) * (↑8 : Int)) ≤ 140737488355328)))) (
  .alt (isL (spread_Two_L11 toArray0 a1 (max (↑(List.length toArray0) : Int) (↑(List.length a1) : Int)) (1, (List.replicate (Int.toNat (max (↑(List.length toArray0) : Int) (↑(List.length a1) : Int))) 0))))
   (.ex (s_l (spread_Two_L11_s toArray0 a1 (max (↑(List.length toArray0) : Int) (↑(List.length a1) : Int)) (1, (List.replicate (Int.toNat (max (↑(List.length toArray0) : Int) (↑(List.length a1) : Int))) 0)))) fun y0 =>
   .ex (shape_Check_s y0) fun y1 =>
  .br (!(decide (y1 = 0)))
   (.ret ([], y1))
   (.ret (y0, 0)))
   (.ex (s_r (spread_Two_L11_s toArray0 a1 (max (↑(List.length toArray0) : Int) (↑(List.length a1) : Int)) (1, (List.replicate (Int.toNat (max (↑(List.length toArray0) : Int) (↑(List.length a1) : Int))) 0)))) fun y2 =>
   .ret (y2.1, y2.2)))))
  (.ex (s_r (spread_Two_L2_s toArray0 a1 (↑2 : Int) (0, (toArray0 :: (a1 :: []))))) fun y3 =>
  .ret (y3.1, y3.2))
noncomputable def spread_Two (toArray0 : (List Int)) (a1 : (List Int)) : Option (RTs.den [.d (.slice .i64), .d .i64]) := (spread_Two_T toArray0 a1).run
theorem spread_Two_s (toArray0 : (List Int)) (a1 : (List Int)) : ∀ y, spread_Two toArray0 a1 = some y → CSem Tryz.prog 129 [Ty.e (.slice .i64) toArray0, Ty.e (.slice .i64) a1] [] (fun v b => v = (RTs.shape [.d (.slice .i64), .d .i64] y).1 ∧ b = (RTs.shape [.d (.slice .i64), .d .i64] y).2) := fun_sound (H := f129H) (fn := Tryz.f129) (by kernel_rfl) (by kernel_rfl) (fun post => by kernel_rfl)
noncomputable def f90H : Hint := ⟨fun _ => false, false, fun _ => [], fun _ => [], fun _ => [], fun _ => [], fun _ => [], fun _ => [], resOf P 90, fun g _ _ => retOf P g⟩
noncomputable def spread_Fits_T (a0 : (List Int)) (a1 : (List Int)) : Tree (RTs.den [.d .bool]) :=
 .ex (spread_Two_s a0 a1) fun y0 =>
 .br (decide (y0.2 = 0))
  (.ex (shape_Same_s y0.1 a1) fun y1 =>
  .ret y1)
  (.ret Bool.false)
noncomputable def spread_Fits (a0 : (List Int)) (a1 : (List Int)) : Option (RTs.den [.d .bool]) := (spread_Fits_T a0 a1).run
theorem spread_Fits_s (a0 : (List Int)) (a1 : (List Int)) : ∀ y, spread_Fits a0 a1 = some y → CSem Tryz.prog 90 [Ty.e (.slice .i64) a0, Ty.e (.slice .i64) a1] [] (fun v b => v = (RTs.shape [.d .bool] y).1 ∧ b = (RTs.shape [.d .bool] y).2) := fun_sound (H := f90H) (fn := Tryz.f90) (by kernel_rfl) (by kernel_rfl) (fun post => by kernel_rfl)
noncomputable def f130H : Hint := ⟨fun _ => false, false, fun n => lk n [(4, [0, 17, 18, 19])], fun _ => [], fun _ => [], fun _ => [], fun _ => [], fun n => lk n [(4, [⟨.exit 0, [], [], mores P [], []⟩, ⟨.ret, [4], [], mores P [(4, 4)], []⟩])], resOf P 130, fun g _ _ => retOf P g⟩
noncomputable def walk_inn_L4_st (p0 p1 : (List Int)) (p2 : Int) (s : Int) : St := ⟨slots 35 [(0, .e (.c (.sl .i64 p0))), (17, .e (.c (.sl .i64 p1))), (18, .e (.c (.i64 p2))), (19, .e (.c (.i64 s)))], []⟩
noncomputable def walk_inn_L4_out (p0 p1 : (List Int)) (p2 : Int) : (Unit ⊕ Bool) → Exit × St := fun y => match y with
  | (.inl y) => ((.exit 0), ⟨slots 35 [], []⟩)
  | (.inr y) => (.ret, ⟨slots 35 [(4, .e (.c (.bool y)))], []⟩)
noncomputable def walk_inn_T4 (p0 p1 : (List Int)) (p2 : Int) (s : Int) : Tree (Int ⊕ (Unit ⊕ Bool)) :=
 .br (decide (s < p2))
  (.ob ((((0 : Int) ≤ s) ∧ (s < (↑(List.length p1) : Int)))) (
  .br (decide ((List.getD p1 (Int.toNat s) default) < 0))
   (.ret (.inr (.inr Bool.false)))
   (.ob ((((0 : Int) ≤ s) ∧ (s < (↑(List.length p0) : Int)))) (
   .br (decide ((List.getD p0 (Int.toNat s) default) ≤ (List.getD p1 (Int.toNat s) default)))
    (.ret (.inr (.inr Bool.false)))
    (.ret (.inl (w64 (s + 1))))))))
  (.ret (.inr (.inl ())))
noncomputable def walk_inn_L4 (p0 p1 : (List Int)) (p2 : Int) (s : Int) : Option (Unit ⊕ Bool) := iter (fun s => (walk_inn_T4 p0 p1 p2 s).run) F0 s
noncomputable abbrev walk_inn_L4_c : Code := loopOf Tryz.f130 4
theorem walk_inn_L4_s (p0 p1 : (List Int)) (p2 : Int) (s : Int) : ∀ o, walk_inn_L4 p0 p1 p2 s = some o → LpK Tryz.prog f130H 0 4 walk_inn_L4_c (walk_inn_L4_st p0 p1 p2 s) (fun e s' => e = (walk_inn_L4_out p0 p1 p2 o).1 ∧ s' = (walk_inn_L4_out p0 p1 p2 o).2) := fun o => iter_sound (tr := fun s => (walk_inn_T4 p0 p1 p2 s)) (st := fun s => walk_inn_L4_st p0 p1 p2 s) (by kernel_rfl) (fun s K => by kernel_rfl) F0 s o
noncomputable def walk_inn_T (d0 : (List Int)) (a1 : (List Int)) : Tree (RTs.den [.d .bool]) :=
 .ex (shape_Check_s d0) fun y0 =>
 .br (!(decide (y0 = 0)))
  (.ret Bool.false)
  (.br (!(decide ((↑(List.length a1) : Int) = (↑(List.length d0) : Int))))
   (.ret Bool.false)
   (.alt (isL (walk_inn_L4 d0 a1 (↑(List.length a1) : Int) 0))
    (.an (s_u (s_l (walk_inn_L4_s d0 a1 (↑(List.length a1) : Int) 0))) (
    .ret Bool.true))
    (.ex (s_r (walk_inn_L4_s d0 a1 (↑(List.length a1) : Int) 0)) fun y1 =>
    .ret y1)))
noncomputable def walk_inn (d0 : (List Int)) (a1 : (List Int)) : Option (RTs.den [.d .bool]) := (walk_inn_T d0 a1).run
theorem walk_inn_s (d0 : (List Int)) (a1 : (List Int)) : ∀ y, walk_inn d0 a1 = some y → CSem Tryz.prog 130 [Ty.e (.slice .i64) d0, Ty.e (.slice .i64) a1] [] (fun v b => v = (RTs.shape [.d .bool] y).1 ∧ b = (RTs.shape [.d .bool] y).2) := fun_sound (H := f130H) (fn := Tryz.f130) (by kernel_rfl) (by kernel_rfl) (fun post => by kernel_rfl)
noncomputable def f91H : Hint := ⟨fun _ => false, false, fun n => lk n [(5, [0, 6, 13, 14, 15])], fun _ => [], fun _ => [], fun _ => [], fun _ => [], fun n => lk n [(5, [⟨.exit 0, [6], [6], mores P [], []⟩])], resOf P 91, fun g _ _ => retOf P g⟩
noncomputable def walk_Place_L5_st (p0 p1 : (List Int)) (p2 : Int) (s : (Int × Int)) : St := ⟨slots 30 [(0, .e (.c (.sl .i64 p0))), (6, .e (.c (.i64 s.1))), (13, .e (.c (.sl .i64 p1))), (14, .e (.c (.i64 p2))), (15, .e (.c (.i64 s.2)))], []⟩
noncomputable def walk_Place_L5_out (p0 p1 : (List Int)) (p2 : Int) : Int → Exit × St := fun y => ((.exit 0), ⟨slots 30 [(6, .e (.c (.i64 y)))], []⟩)
noncomputable def walk_Place_T5 (p0 p1 : (List Int)) (p2 : Int) (s : (Int × Int)) : Tree ((Int × Int) ⊕ Int) :=
 .br (decide (s.2 < p2))
  (.ob ((((0 : Int) ≤ s.2) ∧ (s.2 < (↑(List.length p1) : Int)))) (
  .ob ((((0 : Int) ≤ s.2) ∧ (s.2 < (↑(List.length p0) : Int)))) (
  .ret (.inl ((w64 ((w64 (s.1 * (List.getD p0 (Int.toNat s.2) default))) + (List.getD p1 (Int.toNat s.2) default))), (w64 (s.2 + 1)))))))
  (.ret (.inr s.1))
noncomputable def walk_Place_L5 (p0 p1 : (List Int)) (p2 : Int) (s : (Int × Int)) : Option Int := iter (fun s => (walk_Place_T5 p0 p1 p2 s).run) F0 s
noncomputable abbrev walk_Place_L5_c : Code := loopOf Tryz.f91 5
theorem walk_Place_L5_s (p0 p1 : (List Int)) (p2 : Int) (s : (Int × Int)) : ∀ o, walk_Place_L5 p0 p1 p2 s = some o → LpK Tryz.prog f91H 0 5 walk_Place_L5_c (walk_Place_L5_st p0 p1 p2 s) (fun e s' => e = (walk_Place_L5_out p0 p1 p2 o).1 ∧ s' = (walk_Place_L5_out p0 p1 p2 o).2) := fun o => iter_sound (tr := fun s => (walk_Place_T5 p0 p1 p2 s)) (st := fun s => walk_Place_L5_st p0 p1 p2 s) (by kernel_rfl) (fun s K => by kernel_rfl) F0 s o
noncomputable def walk_Place_T (d0 : (List Int)) (a1 : (List Int)) : Tree (RTs.den [.d .i64, .d .bool]) :=
 .ex (walk_inn_s d0 a1) fun y0 =>
 .br (!y0)
  (.ret (0, Bool.false))
  (.ex (walk_Place_L5_s d0 a1 (↑(List.length a1) : Int) (0, 0)) fun y1 =>
  .ret (y1, Bool.true))
noncomputable def walk_Place (d0 : (List Int)) (a1 : (List Int)) : Option (RTs.den [.d .i64, .d .bool]) := (walk_Place_T d0 a1).run
theorem walk_Place_s (d0 : (List Int)) (a1 : (List Int)) : ∀ y, walk_Place d0 a1 = some y → CSem Tryz.prog 91 [Ty.e (.slice .i64) d0, Ty.e (.slice .i64) a1] [] (fun v b => v = (RTs.shape [.d .i64, .d .bool] y).1 ∧ b = (RTs.shape [.d .i64, .d .bool] y).2) := fun_sound (H := f91H) (fn := Tryz.f91) (by kernel_rfl) (by kernel_rfl) (fun post => by kernel_rfl)
noncomputable def f54H : Hint := ⟨fun _ => false, false, fun n => lk n [(5, [3, 9, 10, 11])], fun _ => [], fun _ => [], fun _ => [], fun _ => [], fun n => lk n [(5, [⟨.exit 0, [3], [3], mores P [], []⟩])], resOf P 54, fun g _ _ => retOf P g⟩
noncomputable def shape_Count_L5_st (p0 : (List Int)) (p1 : Int) (s : (Int × Int)) : St := ⟨slots 20 [(3, .e (.c (.i64 s.1))), (9, .e (.c (.sl .i64 p0))), (10, .e (.c (.i64 p1))), (11, .e (.c (.i64 s.2)))], []⟩
noncomputable def shape_Count_L5_out (p0 : (List Int)) (p1 : Int) : Int → Exit × St := fun y => ((.exit 0), ⟨slots 20 [(3, .e (.c (.i64 y)))], []⟩)
noncomputable def shape_Count_T5 (p0 : (List Int)) (p1 : Int) (s : (Int × Int)) : Tree ((Int × Int) ⊕ Int) :=
 .br (decide (s.2 < p1))
  (.ob ((((0 : Int) ≤ s.2) ∧ (s.2 < (↑(List.length p0) : Int)))) (
  .ret (.inl ((w64 (s.1 * (List.getD p0 (Int.toNat s.2) default))), (w64 (s.2 + 1))))))
  (.ret (.inr s.1))
noncomputable def shape_Count_L5 (p0 : (List Int)) (p1 : Int) (s : (Int × Int)) : Option Int := iter (fun s => (shape_Count_T5 p0 p1 s).run) F0 s
noncomputable abbrev shape_Count_L5_c : Code := loopOf Tryz.f54 5
theorem shape_Count_L5_s (p0 : (List Int)) (p1 : Int) (s : (Int × Int)) : ∀ o, shape_Count_L5 p0 p1 s = some o → LpK Tryz.prog f54H 0 5 shape_Count_L5_c (shape_Count_L5_st p0 p1 s) (fun e s' => e = (shape_Count_L5_out p0 p1 o).1 ∧ s' = (shape_Count_L5_out p0 p1 o).2) := fun o => iter_sound (tr := fun s => (shape_Count_T5 p0 p1 s)) (st := fun s => shape_Count_L5_st p0 p1 s) (by kernel_rfl) (fun s K => by kernel_rfl) F0 s o
noncomputable def shape_Count_T (d0 : (List Int)) : Tree (RTs.den [.d .i64]) :=
 .ex (shape_Check_s d0) fun y0 =>
 .br (!(decide (y0 = 0)))
  (.ret 0)
  (.ex (shape_Count_L5_s d0 (↑(List.length d0) : Int) (1, 0)) fun y1 =>
  .ret y1)
noncomputable def shape_Count (d0 : (List Int)) : Option (RTs.den [.d .i64]) := (shape_Count_T d0).run
theorem shape_Count_s (d0 : (List Int)) : ∀ y, shape_Count d0 = some y → CSem Tryz.prog 54 [Ty.e (.slice .i64) d0] [] (fun v b => v = (RTs.shape [.d .i64] y).1 ∧ b = (RTs.shape [.d .i64] y).2) := fun_sound (H := f54H) (fn := Tryz.f54) (by kernel_rfl) (by kernel_rfl) (fun post => by kernel_rfl)
noncomputable def f89Hr : Hint := ⟨fun _ => false, false, fun n => lk n [(5, [0, 1, 6, 7])], fun _ => [], fun _ => [], fun _ => [], fun _ => [], fun n => lk n [(5, [⟨.exit 0, [6], [], mores P [], []⟩])], some [.r 3 .i64, .d .bool], fun g _ _ => retOf P g⟩
noncomputable def walk_At_r_L5_st (p0 : (List Int)) (s : (Int × (Int × (List Int)))) : St := ⟨slots 42 [(0, .e (.c (.sl .i64 p0))), (1, .e (.c (.i64 s.1))), (6, .e (.c (.ref 0))), (7, .e (.c (.i64 s.2.1)))], [.row 3 .i64 s.2.2 false]⟩
noncomputable def walk_At_r_L5_out (p0 : (List Int)) : (List Int) → Exit × St := fun y => ((.exit 0), ⟨slots 42 [(6, .e (.c (.ref 0)))], [.row 3 .i64 y false]⟩)
noncomputable def walk_At_r_T5 (p0 : (List Int)) (s : (Int × (Int × (List Int)))) : Tree ((Int × (Int × (List Int))) ⊕ (List Int)) :=
 .br (decide ((0 : Int) ≤ s.2.1))
  (.ob ((((0 : Int) ≤ s.2.1) ∧ (s.2.1 < (↑(List.length p0) : Int)))) (
  .ob (((List.getD p0 (Int.toNat s.2.1) default) ≠ 0)) (
  .ob ((((0 : Int) ≤ s.2.1) ∧ (s.2.1 < (↑(List.length s.2.2) : Int)))) (
  .ob ((((0 : Int) ≤ s.2.1) ∧ (s.2.1 < (↑(List.length p0) : Int)))) (
  .ob (((List.getD p0 (Int.toNat s.2.1) default) ≠ 0)) (
  .ret (.inl ((w64 (Int.tdiv s.1 (List.getD p0 (Int.toNat s.2.1) default))), ((w64 (s.2.1 - 1)), (List.set s.2.2 (Int.toNat s.2.1) (Int.tmod s.1 (List.getD p0 (Int.toNat s.2.1) default))))))))))))
  (.ret (.inr s.2.2))
noncomputable def walk_At_r_L5 (p0 : (List Int)) (s : (Int × (Int × (List Int)))) : Option (List Int) := iter (fun s => (walk_At_r_T5 p0 s).run) F0 s
noncomputable abbrev walk_At_r_L5_c : Code := loopOf Tryz.f89 5
theorem walk_At_r_L5_s (p0 : (List Int)) (s : (Int × (Int × (List Int)))) : ∀ o, walk_At_r_L5 p0 s = some o → LpK Tryz.prog f89Hr 0 5 walk_At_r_L5_c (walk_At_r_L5_st p0 s) (fun e s' => e = (walk_At_r_L5_out p0 o).1 ∧ s' = (walk_At_r_L5_out p0 o).2) := fun o => iter_sound (tr := fun s => (walk_At_r_T5 p0 s)) (st := fun s => walk_At_r_L5_st p0 s) (by kernel_rfl) (fun s K => by kernel_rfl) F0 s o
noncomputable def walk_At_r_T (d0 : (List Int)) (n1 : Int) : Tree (RTs.den [.r 3 .i64, .d .bool]) :=
 .br (decide (n1 < 0))
  (.ret ([], Bool.false))
  (.ex (shape_Count_s d0) fun y0 =>
  .br (decide (y0 ≤ n1))
   (.ret ([], Bool.false))
   (.ob ((((0 : Int) ≤ (↑(List.length d0) : Int)) ∧ (((↑(List.length d0) : Int) ≤ (↑(List.length d0) : Int)) ∧ (((↑(List.length d0) : Int) * (↑8 : Int)) ≤ 140737488355328)))) (
   .ex (walk_At_r_L5_s d0 (n1, ((w64 ((↑(List.length d0) : Int) - 1)), (List.replicate (Int.toNat (↑(List.length d0) : Int)) 0)))) fun y1 =>
   .ret (y1, Bool.true))))
noncomputable def walk_At_r (d0 : (List Int)) (n1 : Int) : Option (RTs.den [.r 3 .i64, .d .bool]) := (walk_At_r_T d0 n1).run
theorem walk_At_r_s (d0 : (List Int)) (n1 : Int) : ∀ y, walk_At_r d0 n1 = some y → CSem Tryz.prog 89 [Ty.e (.slice .i64) d0, Ty.e .i64 n1] [] (fun v b => v = (RTs.shape [.r 3 .i64, .d .bool] y).1 ∧ b = (RTs.shape [.r 3 .i64, .d .bool] y).2) := fun_sound (H := f89Hr) (fn := Tryz.f89) (by kernel_rfl) (by kernel_rfl) (fun post => by kernel_rfl)
noncomputable def f59H : Hint := ⟨fun _ => false, false, fun n => lk n [(6, [0, 8, 33, 34, 35])], fun _ => [], fun _ => [], fun _ => [], fun _ => [], fun n => lk n [(6, [⟨.exit 0, [0, 8], [], mores P [], []⟩])], resOf P 59, fun g _ _ => if Nat.beq g 89 then Shape.ofR [.r 3 .i64, .d .bool] else retOf P g⟩
noncomputable def spread_Source_L6_st (p0 : (List Int)) (p1 p2 : Nat) (p3 : (List Int)) (p4 : Int) (s : (Int × (List Int))) : St := ⟨slots 51 [(0, .e (.c (.sl .i64 p0))), (8, .e (.c (.win 0 p1 p2))), (33, .e (.c (.sl .i64 p3))), (34, .e (.c (.i64 p4))), (35, .e (.c (.i64 s.1)))], [.row 3 .i64 s.2 false]⟩
noncomputable def spread_Source_L6_out (p0 : (List Int)) (p1 p2 : Nat) (p3 : (List Int)) (p4 : Int) : (List Int) → Exit × St := fun y => ((.exit 0), ⟨slots 51 [(0, .e (.c (.sl .i64 p0))), (8, .e (.c (.win 0 p1 p2)))], [.row 3 .i64 y false]⟩)
noncomputable def spread_Source_T6 (p0 : (List Int)) (p1 p2 : Nat) (p3 : (List Int)) (p4 : Int) (s : (Int × (List Int))) : Tree ((Int × (List Int)) ⊕ (List Int)) :=
 .br (decide (s.1 < p4))
  (.ob ((((0 : Int) ≤ s.1) ∧ (s.1 < (↑(List.length p3) : Int)))) (
  .br (decide ((List.getD p3 (Int.toNat s.1) default) = 1))
   (.ob ((((0 : Int) ≤ s.1) ∧ (s.1 < (↑p2 : Int)))) (
   .ret (.inl ((w64 (s.1 + 1)), (List.set s.2 (p1 + (Int.toNat s.1)) 0)))))
   (.ret (.inl ((w64 (s.1 + 1)), s.2)))))
  (.ret (.inr s.2))
noncomputable def spread_Source_L6 (p0 : (List Int)) (p1 p2 : Nat) (p3 : (List Int)) (p4 : Int) (s : (Int × (List Int))) : Option (List Int) := iter (fun s => (spread_Source_T6 p0 p1 p2 p3 p4 s).run) F0 s
noncomputable abbrev spread_Source_L6_c : Code := loopOf Tryz.f59 6
theorem spread_Source_L6_s (p0 : (List Int)) (p1 p2 : Nat) (p3 : (List Int)) (p4 : Int) (s : (Int × (List Int))) : ∀ o, spread_Source_L6 p0 p1 p2 p3 p4 s = some o → LpK Tryz.prog f59H 0 6 spread_Source_L6_c (spread_Source_L6_st p0 p1 p2 p3 p4 s) (fun e s' => e = (spread_Source_L6_out p0 p1 p2 p3 p4 o).1 ∧ s' = (spread_Source_L6_out p0 p1 p2 p3 p4 o).2) := fun o => iter_sound (tr := fun s => (spread_Source_T6 p0 p1 p2 p3 p4 s)) (st := fun s => spread_Source_L6_st p0 p1 p2 p3 p4 s) (by kernel_rfl) (fun s K => by kernel_rfl) F0 s o
noncomputable def spread_Source_T (a0 : (List Int)) (a1 : (List Int)) (n2 : Int) : Tree (RTs.den [.d .i64, .d .bool]) :=
 .ex (walk_At_r_s a1 n2) fun y0 =>
 .br (!y0.2)
  (.ret (0, Bool.false))
  (.ex (spread_Fits_s a0 a1) fun y1 =>
  .br (!y1)
   (.ret (0, Bool.false))
   (.ob ((((0 : Int) ≤ (w64 ((↑(List.length a1) : Int) - (↑(List.length a0) : Int)))) ∧ (((w64 ((↑(List.length a1) : Int) - (↑(List.length a0) : Int))) ≤ (↑(List.length y0.1) : Int)) ∧ ((↑(List.length y0.1) : Int) ≤ (↑(List.length y0.1) : Int))))) (
   .ex (spread_Source_L6_s a0 (0 + (Int.toNat (w64 ((↑(List.length a1) : Int) - (↑(List.length a0) : Int))))) ((Int.toNat (↑(List.length y0.1) : Int)) - (Int.toNat (w64 ((↑(List.length a1) : Int) - (↑(List.length a0) : Int))))) a0 (↑(List.length a0) : Int) (0, y0.1)) fun y2 =>
   .ex (walk_Place_s a0 (List.take ((Int.toNat (↑(List.length y0.1) : Int)) - (Int.toNat (w64 ((↑(List.length a1) : Int) - (↑(List.length a0) : Int))))) (List.drop (0 + (Int.toNat (w64 ((↑(List.length a1) : Int) - (↑(List.length a0) : Int))))) y2))) fun y3 =>
   .ret (y3.1, y3.2))))
noncomputable def spread_Source (a0 : (List Int)) (a1 : (List Int)) (n2 : Int) : Option (RTs.den [.d .i64, .d .bool]) := (spread_Source_T a0 a1 n2).run
theorem spread_Source_s (a0 : (List Int)) (a1 : (List Int)) (n2 : Int) : ∀ y, spread_Source a0 a1 n2 = some y → CSem Tryz.prog 59 [Ty.e (.slice .i64) a0, Ty.e (.slice .i64) a1, Ty.e .i64 n2] [] (fun v b => v = (RTs.shape [.d .i64, .d .bool] y).1 ∧ b = (RTs.shape [.d .i64, .d .bool] y).2) := fun_sound (H := f59H) (fn := Tryz.f59) (by kernel_rfl) (by kernel_rfl) (fun post => by kernel_rfl)
noncomputable def f33H : Hint := ⟨fun _ => false, false, fun _ => [], fun _ => [], fun _ => [], fun _ => [], fun _ => [], fun _ => [], resOf P 33, fun g _ _ => retOf P g⟩
noncomputable def vjp_source_T (a0 : (List Int)) (a1 : (List Int)) (n2 : Int) : Tree (RTs.den [.d .i64]) :=
 .ex (spread_Source_s a0 a1 n2) fun y0 =>
 .ret y0.1
noncomputable def vjp_source (a0 : (List Int)) (a1 : (List Int)) (n2 : Int) : Option (RTs.den [.d .i64]) := (vjp_source_T a0 a1 n2).run
theorem vjp_source_s (a0 : (List Int)) (a1 : (List Int)) (n2 : Int) : ∀ y, vjp_source a0 a1 n2 = some y → CSem Tryz.prog 33 [Ty.e (.slice .i64) a0, Ty.e (.slice .i64) a1, Ty.e .i64 n2] [] (fun v b => v = (RTs.shape [.d .i64] y).1 ∧ b = (RTs.shape [.d .i64] y).2) := fun_sound (H := f33H) (fn := Tryz.f33) (by kernel_rfl) (by kernel_rfl) (fun post => by kernel_rfl)
noncomputable def f92H : Hint := ⟨fun _ => false, false, fun _ => [], fun _ => [], fun _ => [], fun _ => [], fun _ => [], fun _ => [], resOf P 92, fun g _ _ => retOf P g⟩
noncomputable def prim_Is_T (op0 : Int) : Tree (RTs.den [.d .bool]) :=
 .br (decide ((1 : Int) ≤ op0))
  (.ret (decide (op0 ≤ 40)))
  (.ret Bool.false)
noncomputable def prim_Is (op0 : Int) : Option (RTs.den [.d .bool]) := (prim_Is_T op0).run
theorem prim_Is_s (op0 : Int) : ∀ y, prim_Is op0 = some y → CSem Tryz.prog 92 [Ty.e .i64 op0] [] (fun v b => v = (RTs.shape [.d .bool] y).1 ∧ b = (RTs.shape [.d .bool] y).2) := fun_sound (H := f92H) (fn := Tryz.f92) (by kernel_rfl) (by kernel_rfl) (fun post => by kernel_rfl)
noncomputable def f60H : Hint := ⟨fun _ => false, false, fun _ => [], fun _ => [], fun _ => [], fun _ => [], fun _ => [], fun _ => [], resOf P 60, fun g _ _ => retOf P g⟩
noncomputable def prim_Arity_T (op0 : Int) : Tree (RTs.den [.d .i64]) :=
 .ex (prim_Is_s op0) fun y0 =>
 .br (!y0)
  (.ret 0)
  (.br (decide ((17 : Int) ≤ op0))
   (.br (decide (op0 ≤ 23))
    (.ret 2)
    (.br (decide (op0 = 32))
     (.ret 2)
     (.br (decide (op0 = 40))
      (.ret 2)
      (.br (decide ((24 : Int) ≤ op0))
       (.br (decide (op0 ≤ 26))
        (.ret 3)
        (.ret 1))
       (.ret 1)))))
   (.br (decide (op0 = 32))
    (.ret 2)
    (.br (decide (op0 = 40))
     (.ret 2)
     (.br (decide ((24 : Int) ≤ op0))
      (.br (decide (op0 ≤ 26))
       (.ret 3)
       (.ret 1))
      (.ret 1)))))
noncomputable def prim_Arity (op0 : Int) : Option (RTs.den [.d .i64]) := (prim_Arity_T op0).run
theorem prim_Arity_s (op0 : Int) : ∀ y, prim_Arity op0 = some y → CSem Tryz.prog 60 [Ty.e .i64 op0] [] (fun v b => v = (RTs.shape [.d .i64] y).1 ∧ b = (RTs.shape [.d .i64] y).2) := fun_sound (H := f60H) (fn := Tryz.f60) (by kernel_rfl) (by kernel_rfl) (fun post => by kernel_rfl)
noncomputable def f34H : Hint := ⟨fun _ => false, false, fun _ => [], fun _ => [], fun _ => [], fun _ => [], fun _ => [], fun _ => [], resOf P 34, fun g _ _ => retOf P g⟩
noncomputable def prim_Needs_T (toArray0 : Int) (a1 : AttrD) (a2 : Int) : Tree (RTs.den [.d .bool]) :=
 .ex (prim_Arity_s toArray0) fun y0 =>
 .br (decide (a2 < 0))
  (.ret Bool.false)
  (.br (decide (y0 < a2))
   (.ret Bool.false)
   (.br (decide (y0 = 0))
    (.ret Bool.false)
    (.br (decide (toArray0 = 2))
     (.ret (decide (a2 = y0)))
     (.br (decide (toArray0 = 7))
      (.ret (decide (a2 = y0)))
      (.br (decide (toArray0 = 9))
       (.ret (decide (a2 = y0)))
       (.br (decide (toArray0 = 10))
        (.ret (decide (a2 = y0)))
        (.br (decide (toArray0 = 11))
         (.ret (decide (a2 = y0)))
         (.br (decide (toArray0 = 3))
          (.ret (!(decide (a2 = y0))))
          (.br (decide (toArray0 = 8))
           (.ret (!(decide (a2 = y0))))
           (.br (decide (toArray0 = 12))
            (.br (!(decide (a2 = y0)))
             (.br (!(decide (a1.1 = 0)))
              (.ret (!(decide (a1.1 = 1))))
              (.ret Bool.false))
             (.ret Bool.false))
            (.br (decide (toArray0 = 19))
             (.ret (!(decide (a2 = y0))))
             (.br (decide (toArray0 = 32))
              (.ret (!(decide (a2 = y0))))
              (.br (decide (toArray0 = 26))
               (.ret (!(decide (a2 = y0))))
               (.br (decide (toArray0 = 20))
                (.ret (decide ((0 : Int) < a2)))
                (.br (decide (toArray0 = 25))
                 (.ret (decide (a2 < 2)))
                 (.ret Bool.false))))))))))))))))
noncomputable def prim_Needs (toArray0 : Int) (a1 : AttrD) (a2 : Int) : Option (RTs.den [.d .bool]) := (prim_Needs_T toArray0 a1 a2).run
theorem prim_Needs_s (toArray0 : Int) (a1 : AttrD) (a2 : Int) : ∀ y, prim_Needs toArray0 a1 a2 = some y → CSem Tryz.prog 34 [Ty.e .i64 toArray0, Ty.e attrT a1, Ty.e .i64 a2] [] (fun v b => v = (RTs.shape [.d .bool] y).1 ∧ b = (RTs.shape [.d .bool] y).2) := fun_sound (H := f34H) (fn := Tryz.f34) (by kernel_rfl) (by kernel_rfl) (fun post => by kernel_rfl)
noncomputable def f61H : Hint := ⟨fun _ => false, false, fun _ => [], fun _ => [], fun _ => [], fun _ => [], fun _ => [], fun _ => [], resOf P 61, fun g _ _ => retOf P g⟩
noncomputable def bank_copied_T (x0 : RatD) : Tree (RTs.den [.d ratT]) :=
 .ob ((((0 + (List.length x0.2.1)) * 8) ≤ 140737488355328)) (
 .ob ((((0 + (List.length x0.2.2.1)) * 8) ≤ 140737488355328)) (
 .ret x0))
noncomputable def bank_copied (x0 : RatD) : Option (RTs.den [.d ratT]) := (bank_copied_T x0).run
theorem bank_copied_s (x0 : RatD) : ∀ y, bank_copied x0 = some y → CSem Tryz.prog 61 [Ty.e ratT x0] [] (fun v b => v = (RTs.shape [.d ratT] y).1 ∧ b = (RTs.shape [.d ratT] y).2) := fun_sound (H := f61H) (fn := Tryz.f61) (by kernel_rfl) (by kernel_rfl) (fun post => by kernel_rfl)
noncomputable def f35H : Hint := ⟨fun _ => false, false, fun _ => [], fun _ => [], fun _ => [], fun _ => [], fun _ => [], fun _ => [], resOf P 35, fun g _ _ => retOf P g⟩
noncomputable def bank_Copy_T (x0 : ValD) : Tree (RTs.den [.d valT]) :=
 .ex (bank_copied_s x0.1) fun y0 =>
 .ret (y0, x0.2)
noncomputable def bank_Copy (x0 : ValD) : Option (RTs.den [.d valT]) := (bank_Copy_T x0).run
theorem bank_Copy_s (x0 : ValD) : ∀ y, bank_Copy x0 = some y → CSem Tryz.prog 35 [Ty.e valT x0] [] (fun v b => v = (RTs.shape [.d valT] y).1 ∧ b = (RTs.shape [.d valT] y).2) := fun_sound (H := f35H) (fn := Tryz.f35) (by kernel_rfl) (by kernel_rfl) (fun post => by kernel_rfl)
noncomputable def f62H : Hint := ⟨fun _ => false, false, fun _ => [], fun _ => [], fun _ => [], fun _ => [], fun _ => [], fun _ => [], resOf P 62, fun g _ _ => retOf P g⟩
noncomputable def prim_Choices_T (op0 : Int) : Tree (RTs.den [.d .i64]) :=
 .br (decide (op0 = 4))
  (.ret 2)
  (.br (decide (op0 = 6))
   (.ret 2)
   (.br (decide (op0 = 16))
    (.ret 2)
    (.br (decide (op0 = 21))
     (.ret 2)
     (.br (decide (op0 = 22))
      (.ret 2)
      (.br (decide (op0 = 24))
       (.ret 2)
       (.br (decide (op0 = 15))
        (.ret 3)
        (.ret 0)))))))
noncomputable def prim_Choices (op0 : Int) : Option (RTs.den [.d .i64]) := (prim_Choices_T op0).run
theorem prim_Choices_s (op0 : Int) : ∀ y, prim_Choices op0 = some y → CSem Tryz.prog 62 [Ty.e .i64 op0] [] (fun v b => v = (RTs.shape [.d .i64] y).1 ∧ b = (RTs.shape [.d .i64] y).2) := fun_sound (H := f62H) (fn := Tryz.f62) (by kernel_rfl) (by kernel_rfl) (fun post => by kernel_rfl)
noncomputable def f36H : Hint := ⟨fun _ => false, false, fun _ => [], fun _ => [], fun _ => [], fun _ => [], fun _ => [], fun _ => [], resOf P 36, fun g _ _ => retOf P g⟩
noncomputable def prim_Picks_T (op0 : Int) : Tree (RTs.den [.d .bool]) :=
 .ex (prim_Choices_s op0) fun y0 =>
 .br (decide ((0 : Int) < y0))
  (.ret Bool.true)
  (.br (decide (op0 = 29))
   (.ret Bool.true)
   (.ret (decide (op0 = 30))))
noncomputable def prim_Picks (op0 : Int) : Option (RTs.den [.d .bool]) := (prim_Picks_T op0).run
theorem prim_Picks_s (op0 : Int) : ∀ y, prim_Picks op0 = some y → CSem Tryz.prog 36 [Ty.e .i64 op0] [] (fun v b => v = (RTs.shape [.d .bool] y).1 ∧ b = (RTs.shape [.d .bool] y).2) := fun_sound (H := f36H) (fn := Tryz.f36) (by kernel_rfl) (by kernel_rfl) (fun post => by kernel_rfl)
noncomputable def f12H : Hint := ⟨fun _ => false, false, fun n => lk n [(4, [1, 2, 4, 6, 7, 13, 14, 15])], fun _ => [], fun n => lk n [(4, openOf P [(7, 22)])], fun n => lk n [(4, opencOf P [(6, [(47, 0)], 26)])], fun _ => [], fun n => lk n [(4, [⟨.exit 0, [1, 2, 4, 6, 7], [7], mores P [], [2, 4]⟩])], resOf P 12, fun g _ _ => retOf P g⟩
noncomputable def vjp_Step_At_L4_st (p0 : Int) (p1 : (List ArgD)) (p2 p3 p4 p5 p6 p7 p8 p9 p10 p11 : Int) (p12 : Bool) (p13 : (List Int)) (p14 : (List ArgD)) (p15 : (List Int)) (p16 : (List ValD)) (p17 : (List Int)) (s : (Int × (Bool × (UInt64 × (Int × (Int × ((List ValD) × (List Int)))))))) : St := ⟨slots 103 [(1, .e (.c (.i64 p0))), (2, .e (.c (.ptr 0 0))), (4, .e (.c (.ptr 1 0))), (6, .e (.c (.ptr 2 0))), (7, .e (.c (.ref 4))), (13, .e (.c (.sl argT p1))), (14, .e (.c (.i64 p2))), (15, .e (.c (.i64 s.1)))], [.cells 30 [.i64 p3, .i64 p4, .i64 p5, .i64 p6, .i64 p7, .i64 p8, .i64 p9, .i64 p10, .i64 p11, .bool p12, .sl .i64 p13, .sl argT p14, .sl .i64 p15, .sl valT p16, .sl .i64 p17], .cells 47 [.nils, .bool Bool.false, .nils, .nils, .u64 (0 : UInt64), .i64 0, .i64 0], .cells 47 [.ref 3, .bool s.2.1, .nils, .nils, .u64 s.2.2.1, .i64 s.2.2.2.1, .i64 s.2.2.2.2.1], .row 45 valT s.2.2.2.2.2.1 false, .row 3 .i64 s.2.2.2.2.2.2 false]⟩
noncomputable def vjp_Step_At_L4_out (p0 : Int) (p1 : (List ArgD)) (p2 p3 p4 p5 p6 p7 p8 p9 p10 p11 : Int) (p12 : Bool) (p13 : (List Int)) (p14 : (List ArgD)) (p15 : (List Int)) (p16 : (List ValD)) (p17 : (List Int)) : ((Bool × (UInt64 × (Int × Int))) × ((List ValD) × (List Int))) → Exit × St := fun y => ((.exit 0), ⟨slots 103 [(1, .e (.c (.i64 p0))), (2, .e (.c (.ptr 0 0))), (4, .e (.c (.ptr 1 0))), (6, .e (.c (.ptr 2 0))), (7, .e (.c (.ref 4)))], [.cells 30 [.i64 p3, .i64 p4, .i64 p5, .i64 p6, .i64 p7, .i64 p8, .i64 p9, .i64 p10, .i64 p11, .bool p12, .sl .i64 p13, .sl argT p14, .sl .i64 p15, .sl valT p16, .sl .i64 p17], .cells 47 [.nils, .bool Bool.false, .nils, .nils, .u64 (0 : UInt64), .i64 0, .i64 0], .cells 47 [.ref 3, .bool y.1.1, .nils, .nils, .u64 y.1.2.1, .i64 y.1.2.2.1, .i64 y.1.2.2.2], .row 45 valT y.2.1 false, .row 3 .i64 y.2.2 false]⟩)
noncomputable def vjp_Step_At_T4 (p0 : Int) (p1 : (List ArgD)) (p2 p3 p4 p5 p6 p7 p8 p9 p10 p11 : Int) (p12 : Bool) (p13 : (List Int)) (p14 : (List ArgD)) (p15 : (List Int)) (p16 : (List ValD)) (p17 : (List Int)) (s : (Int × (Bool × (UInt64 × (Int × (Int × ((List ValD) × (List Int)))))))) : Tree ((Int × (Bool × (UInt64 × (Int × (Int × ((List ValD) × (List Int))))))) ⊕ ((Bool × (UInt64 × (Int × Int))) × ((List ValD) × (List Int)))) :=
 .br (decide (s.1 < p2))
  (.ob ((((0 : Int) ≤ s.1) ∧ (s.1 < (↑(List.length p1) : Int)))) (
  .ex (vjp_source_s (List.getD p1 (Int.toNat s.1) default).1 p15 p0) fun y0 =>
  .ob (((((List.length s.2.2.2.2.2.2) + 1) * 8) ≤ 140737488355328)) (
  .ex (prim_Needs_s p3 (p4, (p5, (p6, (p7, (p8, (p9, (p10, (p11, (p12, (p13, ())))))))))) s.1) fun y1 =>
  .br y1
   (.br (decide (y0 < (↑(List.length (List.getD p1 (Int.toNat s.1) default).2.1) : Int)))
    (.ob ((((0 : Int) ≤ y0) ∧ (y0 < (↑(List.length (List.getD p1 (Int.toNat s.1) default).2.1) : Int)))) (
    .ex (bank_Copy_s (List.getD (List.getD p1 (Int.toNat s.1) default).2.1 (Int.toNat y0) default)) fun y2 =>
    .ob (((((List.length s.2.2.2.2.2.1) + 1) * 72) ≤ 140737488355328)) (
    .ret (.inl ((w64 (s.1 + 1)), (s.2.1, (s.2.2.1, (s.2.2.2.1, (s.2.2.2.2.1, ((s.2.2.2.2.2.1 ++ (((y2.1.1, (y2.1.2.1, (y2.1.2.2.1, ()))), (y2.2.1, (y2.2.2.1, ()))) :: [])), (s.2.2.2.2.2.2 ++ (y0 :: []))))))))))))
    (.ob (((((List.length s.2.2.2.2.2.1) + 1) * 72) ≤ 140737488355328)) (
    .ret (.inl ((w64 (s.1 + 1)), (s.2.1, (s.2.2.1, (s.2.2.2.1, (s.2.2.2.2.1, ((s.2.2.2.2.2.1 ++ (((Bool.false, ([], ([], ()))), ((0 : UInt64), (0, ()))) :: [])), (s.2.2.2.2.2.2 ++ (y0 :: []))))))))))))
   (.ob (((((List.length s.2.2.2.2.2.1) + 1) * 72) ≤ 140737488355328)) (
   .ret (.inl ((w64 (s.1 + 1)), (s.2.1, (s.2.2.1, (s.2.2.2.1, (s.2.2.2.2.1, ((s.2.2.2.2.2.1 ++ (((Bool.false, ([], ([], ()))), ((0 : UInt64), (0, ()))) :: [])), (s.2.2.2.2.2.2 ++ (y0 :: []))))))))))))))
  (.ret (.inr ((s.2.1, (s.2.2.1, (s.2.2.2.1, s.2.2.2.2.1))), s.2.2.2.2.2)))
noncomputable def vjp_Step_At_L4 (p0 : Int) (p1 : (List ArgD)) (p2 p3 p4 p5 p6 p7 p8 p9 p10 p11 : Int) (p12 : Bool) (p13 : (List Int)) (p14 : (List ArgD)) (p15 : (List Int)) (p16 : (List ValD)) (p17 : (List Int)) (s : (Int × (Bool × (UInt64 × (Int × (Int × ((List ValD) × (List Int)))))))) : Option ((Bool × (UInt64 × (Int × Int))) × ((List ValD) × (List Int))) := iter (fun s => (vjp_Step_At_T4 p0 p1 p2 p3 p4 p5 p6 p7 p8 p9 p10 p11 p12 p13 p14 p15 p16 p17 s).run) F0 s
noncomputable abbrev vjp_Step_At_L4_c : Code := loopOf Tryz.f12 4
theorem vjp_Step_At_L4_s (p0 : Int) (p1 : (List ArgD)) (p2 p3 p4 p5 p6 p7 p8 p9 p10 p11 : Int) (p12 : Bool) (p13 : (List Int)) (p14 : (List ArgD)) (p15 : (List Int)) (p16 : (List ValD)) (p17 : (List Int)) (s : (Int × (Bool × (UInt64 × (Int × (Int × ((List ValD) × (List Int)))))))) : ∀ o, vjp_Step_At_L4 p0 p1 p2 p3 p4 p5 p6 p7 p8 p9 p10 p11 p12 p13 p14 p15 p16 p17 s = some o → LpK Tryz.prog f12H 0 4 vjp_Step_At_L4_c (vjp_Step_At_L4_st p0 p1 p2 p3 p4 p5 p6 p7 p8 p9 p10 p11 p12 p13 p14 p15 p16 p17 s) (fun e s' => e = (vjp_Step_At_L4_out p0 p1 p2 p3 p4 p5 p6 p7 p8 p9 p10 p11 p12 p13 p14 p15 p16 p17 o).1 ∧ s' = (vjp_Step_At_L4_out p0 p1 p2 p3 p4 p5 p6 p7 p8 p9 p10 p11 p12 p13 p14 p15 p16 p17 o).2) := fun o => iter_sound (tr := fun s => (vjp_Step_At_T4 p0 p1 p2 p3 p4 p5 p6 p7 p8 p9 p10 p11 p12 p13 p14 p15 p16 p17 s)) (st := fun s => vjp_Step_At_L4_st p0 p1 p2 p3 p4 p5 p6 p7 p8 p9 p10 p11 p12 p13 p14 p15 p16 p17 s) (by kernel_rfl) (fun s K => by kernel_rfl) F0 s o
noncomputable def vjp_Step_At_T (toArray0 : StepD) (a1 : Int) : Tree (RTs.den [.d (.pair (.slice valT) (.pair valT (.pair .i64 .unit))), .d (.slice .i64)]) :=
 .ex (vjp_Step_At_L4_s a1 toArray0.2.2.1 (↑(List.length toArray0.2.2.1) : Int) toArray0.1 toArray0.2.1.1 toArray0.2.1.2.1 toArray0.2.1.2.2.1 toArray0.2.1.2.2.2.1 toArray0.2.1.2.2.2.2.1 toArray0.2.1.2.2.2.2.2.1 toArray0.2.1.2.2.2.2.2.2.1 toArray0.2.1.2.2.2.2.2.2.2.1 toArray0.2.1.2.2.2.2.2.2.2.2.1 toArray0.2.1.2.2.2.2.2.2.2.2.2.1 toArray0.2.2.1 toArray0.2.2.2.1.1 toArray0.2.2.2.1.2.1 toArray0.2.2.2.2.1 (0, (Bool.false, ((0 : UInt64), (0, (0, ([], []))))))) fun y0 =>
 .br (decide (a1 < 0))
  (.ret ((y0.2.1, (((y0.1.1, ([], ([], ()))), (y0.1.2.1, (y0.1.2.2.1, ()))), (y0.1.2.2.2, ()))), y0.2.2))
  (.ex (prim_Needs_s toArray0.1 toArray0.2.1 (↑(List.length toArray0.2.2.1) : Int)) fun y1 =>
  .br y1
   (.br (decide (a1 < (↑(List.length toArray0.2.2.2.1.2.1) : Int)))
    (.ob ((((0 : Int) ≤ a1) ∧ (a1 < (↑(List.length toArray0.2.2.2.1.2.1) : Int)))) (
    .ex (bank_Copy_s (List.getD toArray0.2.2.2.1.2.1 (Int.toNat a1) default)) fun y2 =>
    .ex (prim_Picks_s toArray0.1) fun y3 =>
    .br y3
     (.br (decide (a1 < (↑(List.length toArray0.2.2.2.2.1) : Int)))
      (.ob ((((0 : Int) ≤ a1) ∧ (a1 < (↑(List.length toArray0.2.2.2.2.1) : Int)))) (
      .ret ((y0.2.1, (y2, ((List.getD toArray0.2.2.2.2.1 (Int.toNat a1) default), ()))), y0.2.2)))
      (.ret ((y0.2.1, (y2, (y0.1.2.2.2, ()))), y0.2.2)))
     (.ret ((y0.2.1, (y2, (y0.1.2.2.2, ()))), y0.2.2))))
    (.ex (prim_Picks_s toArray0.1) fun y4 =>
    .br y4
     (.br (decide (a1 < (↑(List.length toArray0.2.2.2.2.1) : Int)))
      (.ob ((((0 : Int) ≤ a1) ∧ (a1 < (↑(List.length toArray0.2.2.2.2.1) : Int)))) (
      .ret ((y0.2.1, (((y0.1.1, ([], ([], ()))), (y0.1.2.1, (y0.1.2.2.1, ()))), ((List.getD toArray0.2.2.2.2.1 (Int.toNat a1) default), ()))), y0.2.2)))
      (.ret ((y0.2.1, (((y0.1.1, ([], ([], ()))), (y0.1.2.1, (y0.1.2.2.1, ()))), (y0.1.2.2.2, ()))), y0.2.2)))
     (.ret ((y0.2.1, (((y0.1.1, ([], ([], ()))), (y0.1.2.1, (y0.1.2.2.1, ()))), (y0.1.2.2.2, ()))), y0.2.2))))
   (.ex (prim_Picks_s toArray0.1) fun y5 =>
   .br y5
    (.br (decide (a1 < (↑(List.length toArray0.2.2.2.2.1) : Int)))
     (.ob ((((0 : Int) ≤ a1) ∧ (a1 < (↑(List.length toArray0.2.2.2.2.1) : Int)))) (
     .ret ((y0.2.1, (((y0.1.1, ([], ([], ()))), (y0.1.2.1, (y0.1.2.2.1, ()))), ((List.getD toArray0.2.2.2.2.1 (Int.toNat a1) default), ()))), y0.2.2)))
     (.ret ((y0.2.1, (((y0.1.1, ([], ([], ()))), (y0.1.2.1, (y0.1.2.2.1, ()))), (y0.1.2.2.2, ()))), y0.2.2)))
    (.ret ((y0.2.1, (((y0.1.1, ([], ([], ()))), (y0.1.2.1, (y0.1.2.2.1, ()))), (y0.1.2.2.2, ()))), y0.2.2))))
noncomputable def vjp_Step_At (toArray0 : StepD) (a1 : Int) : Option (RTs.den [.d (.pair (.slice valT) (.pair valT (.pair .i64 .unit))), .d (.slice .i64)]) := (vjp_Step_At_T toArray0 a1).run
theorem vjp_Step_At_s (toArray0 : StepD) (a1 : Int) : ∀ y, vjp_Step_At toArray0 a1 = some y → CSem Tryz.prog 12 [Ty.e stepT toArray0, Ty.e .i64 a1] [] (fun v b => v = (RTs.shape [.d (.pair (.slice valT) (.pair valT (.pair .i64 .unit))), .d (.slice .i64)] y).1 ∧ b = (RTs.shape [.d (.pair (.slice valT) (.pair valT (.pair .i64 .unit))), .d (.slice .i64)] y).2) := fun_sound (H := f12H) (fn := Tryz.f12) (by kernel_rfl) (by kernel_rfl) (fun post => by kernel_rfl)
noncomputable def f13H : Hint := ⟨fun _ => false, false, fun n => lk n [(3, [1, 3, 7, 8])], fun _ => [], fun n => lk n [(3, openOf P [(3, 37)])], fun _ => [], fun _ => [], fun n => lk n [(3, [⟨.exit 0, [3], [3], mores P [], [1]⟩])], resOf P 13, fun g _ _ => retOf P g⟩
noncomputable def ref33_From_L3_st (p0 p1 p2 p3 p4 p5 p6 p7 p8 p9 : Int) (p10 : Bool) (p11 : (List Int)) (p12 : (List ArgD)) (p13 : (List Int)) (p14 : (List ValD)) (p15 : (List Int)) (s : (Int × (List (List Int)))) : St := ⟨slots 26 [(1, .e (.c (.ptr 0 0))), (3, .e (.c (.ref 1))), (7, .e (.c (.i64 p0))), (8, .e (.c (.i64 s.1)))], [.cells 33 [.i64 p1, .i64 p2, .i64 p3, .i64 p4, .i64 p5, .i64 p6, .i64 p7, .i64 p8, .i64 p9, .bool p10, .sl .i64 p11, .sl argT p12, .sl .i64 p13, .sl valT p14, .sl .i64 p15], .row 22 (.slice .i64) s.2 false]⟩
noncomputable def ref33_From_L3_out (p0 p1 p2 p3 p4 p5 p6 p7 p8 p9 : Int) (p10 : Bool) (p11 : (List Int)) (p12 : (List ArgD)) (p13 : (List Int)) (p14 : (List ValD)) (p15 : (List Int)) : (List (List Int)) → Exit × St := fun y => ((.exit 0), ⟨slots 26 [(3, .e (.c (.ref 0)))], [.row 22 (.slice .i64) y false]⟩)
noncomputable def ref33_From_T3 (p0 p1 p2 p3 p4 p5 p6 p7 p8 p9 : Int) (p10 : Bool) (p11 : (List Int)) (p12 : (List ArgD)) (p13 : (List Int)) (p14 : (List ValD)) (p15 : (List Int)) (s : (Int × (List (List Int)))) : Tree ((Int × (List (List Int))) ⊕ (List (List Int))) :=
 .br (decide (s.1 < p0))
  (.ob ((((0 : Int) ≤ s.1) ∧ (s.1 < (↑(List.length p12) : Int)))) (
  .ex (ref21_Sources_s (List.getD p12 (Int.toNat s.1) default).1 p13) fun y0 =>
  .ob (((((List.length s.2) + 1) * 24) ≤ 140737488355328)) (
  .ret (.inl ((w64 (s.1 + 1)), (s.2 ++ (y0 :: [])))))))
  (.ret (.inr s.2))
noncomputable def ref33_From_L3 (p0 p1 p2 p3 p4 p5 p6 p7 p8 p9 : Int) (p10 : Bool) (p11 : (List Int)) (p12 : (List ArgD)) (p13 : (List Int)) (p14 : (List ValD)) (p15 : (List Int)) (s : (Int × (List (List Int)))) : Option (List (List Int)) := iter (fun s => (ref33_From_T3 p0 p1 p2 p3 p4 p5 p6 p7 p8 p9 p10 p11 p12 p13 p14 p15 s).run) F0 s
noncomputable abbrev ref33_From_L3_c : Code := loopOf Tryz.f13 3
theorem ref33_From_L3_s (p0 p1 p2 p3 p4 p5 p6 p7 p8 p9 : Int) (p10 : Bool) (p11 : (List Int)) (p12 : (List ArgD)) (p13 : (List Int)) (p14 : (List ValD)) (p15 : (List Int)) (s : (Int × (List (List Int)))) : ∀ o, ref33_From_L3 p0 p1 p2 p3 p4 p5 p6 p7 p8 p9 p10 p11 p12 p13 p14 p15 s = some o → LpK Tryz.prog f13H 0 3 ref33_From_L3_c (ref33_From_L3_st p0 p1 p2 p3 p4 p5 p6 p7 p8 p9 p10 p11 p12 p13 p14 p15 s) (fun e s' => e = (ref33_From_L3_out p0 p1 p2 p3 p4 p5 p6 p7 p8 p9 p10 p11 p12 p13 p14 p15 o).1 ∧ s' = (ref33_From_L3_out p0 p1 p2 p3 p4 p5 p6 p7 p8 p9 p10 p11 p12 p13 p14 p15 o).2) := fun o => iter_sound (tr := fun s => (ref33_From_T3 p0 p1 p2 p3 p4 p5 p6 p7 p8 p9 p10 p11 p12 p13 p14 p15 s)) (st := fun s => ref33_From_L3_st p0 p1 p2 p3 p4 p5 p6 p7 p8 p9 p10 p11 p12 p13 p14 p15 s) (by kernel_rfl) (fun s K => by kernel_rfl) F0 s o
noncomputable def ref33_From_T (a0 : StepD) : Tree (RTs.den [.d (.slice (.slice .i64))]) :=
 .ex (ref33_From_L3_s (↑(List.length a0.2.2.1) : Int) a0.1 a0.2.1.1 a0.2.1.2.1 a0.2.1.2.2.1 a0.2.1.2.2.2.1 a0.2.1.2.2.2.2.1 a0.2.1.2.2.2.2.2.1 a0.2.1.2.2.2.2.2.2.1 a0.2.1.2.2.2.2.2.2.2.1 a0.2.1.2.2.2.2.2.2.2.2.1 a0.2.1.2.2.2.2.2.2.2.2.2.1 a0.2.2.1 a0.2.2.2.1.1 a0.2.2.2.1.2.1 a0.2.2.2.2.1 (0, [])) fun y0 =>
 .ret y0
noncomputable def ref33_From (a0 : StepD) : Option (RTs.den [.d (.slice (.slice .i64))]) := (ref33_From_T a0).run
theorem ref33_From_s (a0 : StepD) : ∀ y, ref33_From a0 = some y → CSem Tryz.prog 13 [Ty.e stepT a0] [] (fun v b => v = (RTs.shape [.d (.slice (.slice .i64))] y).1 ∧ b = (RTs.shape [.d (.slice (.slice .i64))] y).2) := fun_sound (H := f13H) (fn := Tryz.f13) (by kernel_rfl) (by kernel_rfl) (fun post => by kernel_rfl)
noncomputable def f14H : Hint := ⟨fun _ => false, false, fun n => lk n [(3, [1, 2, 3, 6, 7, 13, 14])], fun _ => [], fun _ => [], fun n => lk n [(3, opencOf P [(7, [(51, 0)], 26)])], fun _ => [], fun n => lk n [(3, [⟨.exit 0, [2, 3, 6, 7], [], mores P [], [3, 6]⟩])], resOf P 14, fun g _ _ => retOf P g⟩
noncomputable def ref33_At_L3_st (p0 : (List (List Int))) (p1 p2 p3 p4 p5 p6 p7 p8 p9 p10 p11 : Int) (p12 : Bool) (p13 : (List Int)) (p14 : (List ArgD)) (p15 : (List Int)) (p16 : (List ValD)) (p17 : (List Int)) (s : (Int × (Bool × (UInt64 × (Int × (Int × (List ValD))))))) : St := ⟨slots 73 [(1, .e (.c (.sl (.slice .i64) p0))), (2, .e (.c (.i64 p1))), (3, .e (.c (.ptr 0 0))), (6, .e (.c (.ptr 1 0))), (7, .e (.c (.ptr 2 0))), (13, .e (.c (.i64 p2))), (14, .e (.c (.i64 s.1)))], [.cells 33 [.i64 p3, .i64 p4, .i64 p5, .i64 p6, .i64 p7, .i64 p8, .i64 p9, .i64 p10, .i64 p11, .bool p12, .sl .i64 p13, .sl argT p14, .sl .i64 p15, .sl valT p16, .sl .i64 p17], .cells 51 [.nils, .bool Bool.false, .nils, .nils, .u64 (0 : UInt64), .i64 0, .i64 0], .cells 51 [.ref 3, .bool s.2.1, .nils, .nils, .u64 s.2.2.1, .i64 s.2.2.2.1, .i64 s.2.2.2.2.1], .row 45 valT s.2.2.2.2.2 false]⟩
noncomputable def ref33_At_L3_out (p0 : (List (List Int))) (p1 p2 p3 p4 p5 p6 p7 p8 p9 p10 p11 : Int) (p12 : Bool) (p13 : (List Int)) (p14 : (List ArgD)) (p15 : (List Int)) (p16 : (List ValD)) (p17 : (List Int)) : ((Bool × (UInt64 × (Int × Int))) × (List ValD)) → Exit × St := fun y => ((.exit 0), ⟨slots 73 [(2, .e (.c (.i64 p1))), (3, .e (.c (.ptr 0 0))), (6, .e (.c (.ptr 1 0))), (7, .e (.c (.ptr 2 0)))], [.cells 33 [.i64 p3, .i64 p4, .i64 p5, .i64 p6, .i64 p7, .i64 p8, .i64 p9, .i64 p10, .i64 p11, .bool p12, .sl .i64 p13, .sl argT p14, .sl .i64 p15, .sl valT p16, .sl .i64 p17], .cells 51 [.nils, .bool Bool.false, .nils, .nils, .u64 (0 : UInt64), .i64 0, .i64 0], .cells 51 [.ref 3, .bool y.1.1, .nils, .nils, .u64 y.1.2.1, .i64 y.1.2.2.1, .i64 y.1.2.2.2], .row 45 valT y.2 false]⟩)
noncomputable def ref33_At_T3 (p0 : (List (List Int))) (p1 p2 p3 p4 p5 p6 p7 p8 p9 p10 p11 : Int) (p12 : Bool) (p13 : (List Int)) (p14 : (List ArgD)) (p15 : (List Int)) (p16 : (List ValD)) (p17 : (List Int)) (s : (Int × (Bool × (UInt64 × (Int × (Int × (List ValD))))))) : Tree ((Int × (Bool × (UInt64 × (Int × (Int × (List ValD)))))) ⊕ ((Bool × (UInt64 × (Int × Int))) × (List ValD))) :=
 .br (decide (s.1 < p2))
  (.ex (ref30_Needs_s p3 p4 s.1) fun y0 =>
  .br y0
   (.ob ((((0 : Int) ≤ s.1) ∧ (s.1 < (↑(List.length p14) : Int)))) (
   .ob ((((0 : Int) ≤ s.1) ∧ (s.1 < (↑(List.length p0) : Int)))) (
   .ob ((((0 : Int) ≤ p1) ∧ (p1 < (↑(List.length (List.getD p0 (Int.toNat s.1) default)) : Int)))) (
   .ob ((((0 : Int) ≤ (List.getD (List.getD p0 (Int.toNat s.1) default) (Int.toNat p1) default)) ∧ ((List.getD (List.getD p0 (Int.toNat s.1) default) (Int.toNat p1) default) < (↑(List.length (List.getD p14 (Int.toNat s.1) default).2.1) : Int)))) (
   .ob (((((List.length s.2.2.2.2.2) + 1) * 72) ≤ 140737488355328)) (
   .ret (.inl ((w64 (s.1 + 1)), (s.2.1, (s.2.2.1, (s.2.2.2.1, (s.2.2.2.2.1, (s.2.2.2.2.2 ++ ((((List.getD (List.getD p14 (Int.toNat s.1) default).2.1 (Int.toNat (List.getD (List.getD p0 (Int.toNat s.1) default) (Int.toNat p1) default)) default).1.1, ((List.getD (List.getD p14 (Int.toNat s.1) default).2.1 (Int.toNat (List.getD (List.getD p0 (Int.toNat s.1) default) (Int.toNat p1) default)) default).1.2.1, ((List.getD (List.getD p14 (Int.toNat s.1) default).2.1 (Int.toNat (List.getD (List.getD p0 (Int.toNat s.1) default) (Int.toNat p1) default)) default).1.2.2.1, ()))), ((List.getD (List.getD p14 (Int.toNat s.1) default).2.1 (Int.toNat (List.getD (List.getD p0 (Int.toNat s.1) default) (Int.toNat p1) default)) default).2.1, ((List.getD (List.getD p14 (Int.toNat s.1) default).2.1 (Int.toNat (List.getD (List.getD p0 (Int.toNat s.1) default) (Int.toNat p1) default)) default).2.2.1, ()))) :: []))))))))))))))
   (.ob (((((List.length s.2.2.2.2.2) + 1) * 72) ≤ 140737488355328)) (
   .ret (.inl ((w64 (s.1 + 1)), (s.2.1, (s.2.2.1, (s.2.2.2.1, (s.2.2.2.2.1, (s.2.2.2.2.2 ++ (((Bool.false, ([], ([], ()))), ((0 : UInt64), (0, ()))) :: [])))))))))))
  (.ret (.inr ((s.2.1, (s.2.2.1, (s.2.2.2.1, s.2.2.2.2.1))), s.2.2.2.2.2)))
noncomputable def ref33_At_L3 (p0 : (List (List Int))) (p1 p2 p3 p4 p5 p6 p7 p8 p9 p10 p11 : Int) (p12 : Bool) (p13 : (List Int)) (p14 : (List ArgD)) (p15 : (List Int)) (p16 : (List ValD)) (p17 : (List Int)) (s : (Int × (Bool × (UInt64 × (Int × (Int × (List ValD))))))) : Option ((Bool × (UInt64 × (Int × Int))) × (List ValD)) := iter (fun s => (ref33_At_T3 p0 p1 p2 p3 p4 p5 p6 p7 p8 p9 p10 p11 p12 p13 p14 p15 p16 p17 s).run) F0 s
noncomputable abbrev ref33_At_L3_c : Code := loopOf Tryz.f14 3
theorem ref33_At_L3_s (p0 : (List (List Int))) (p1 p2 p3 p4 p5 p6 p7 p8 p9 p10 p11 : Int) (p12 : Bool) (p13 : (List Int)) (p14 : (List ArgD)) (p15 : (List Int)) (p16 : (List ValD)) (p17 : (List Int)) (s : (Int × (Bool × (UInt64 × (Int × (Int × (List ValD))))))) : ∀ o, ref33_At_L3 p0 p1 p2 p3 p4 p5 p6 p7 p8 p9 p10 p11 p12 p13 p14 p15 p16 p17 s = some o → LpK Tryz.prog f14H 0 3 ref33_At_L3_c (ref33_At_L3_st p0 p1 p2 p3 p4 p5 p6 p7 p8 p9 p10 p11 p12 p13 p14 p15 p16 p17 s) (fun e s' => e = (ref33_At_L3_out p0 p1 p2 p3 p4 p5 p6 p7 p8 p9 p10 p11 p12 p13 p14 p15 p16 p17 o).1 ∧ s' = (ref33_At_L3_out p0 p1 p2 p3 p4 p5 p6 p7 p8 p9 p10 p11 p12 p13 p14 p15 p16 p17 o).2) := fun o => iter_sound (tr := fun s => (ref33_At_T3 p0 p1 p2 p3 p4 p5 p6 p7 p8 p9 p10 p11 p12 p13 p14 p15 p16 p17 s)) (st := fun s => ref33_At_L3_st p0 p1 p2 p3 p4 p5 p6 p7 p8 p9 p10 p11 p12 p13 p14 p15 p16 p17 s) (by kernel_rfl) (fun s K => by kernel_rfl) F0 s o
noncomputable def ref33_At_T (toArray0 : StepD) (a1 : (List (List Int))) (a2 : Int) : Tree (RTs.den [.d (.pair (.slice valT) (.pair valT (.pair .i64 .unit)))]) :=
 .ex (ref33_At_L3_s a1 a2 (↑(List.length toArray0.2.2.1) : Int) toArray0.1 toArray0.2.1.1 toArray0.2.1.2.1 toArray0.2.1.2.2.1 toArray0.2.1.2.2.2.1 toArray0.2.1.2.2.2.2.1 toArray0.2.1.2.2.2.2.2.1 toArray0.2.1.2.2.2.2.2.2.1 toArray0.2.1.2.2.2.2.2.2.2.1 toArray0.2.1.2.2.2.2.2.2.2.2.1 toArray0.2.1.2.2.2.2.2.2.2.2.2.1 toArray0.2.2.1 toArray0.2.2.2.1.1 toArray0.2.2.2.1.2.1 toArray0.2.2.2.2.1 (0, (Bool.false, ((0 : UInt64), (0, (0, [])))))) fun y0 =>
 .ex (ref30_Needs_s toArray0.1 toArray0.2.1.1 (↑(List.length toArray0.2.2.1) : Int)) fun y1 =>
 .br y1
  (.ob ((((0 : Int) ≤ a2) ∧ (a2 < (↑(List.length toArray0.2.2.2.1.2.1) : Int)))) (
  .ex (ref30_Picks_s toArray0.1) fun y2 =>
  .br y2
   (.ob ((((0 : Int) ≤ a2) ∧ (a2 < (↑(List.length toArray0.2.2.2.2.1) : Int)))) (
   .ret (y0.2, ((List.getD toArray0.2.2.2.1.2.1 (Int.toNat a2) default), ((List.getD toArray0.2.2.2.2.1 (Int.toNat a2) default), ())))))
   (.ret (y0.2, ((List.getD toArray0.2.2.2.1.2.1 (Int.toNat a2) default), (y0.1.2.2.2, ()))))))
  (.ex (ref30_Picks_s toArray0.1) fun y3 =>
  .br y3
   (.ob ((((0 : Int) ≤ a2) ∧ (a2 < (↑(List.length toArray0.2.2.2.2.1) : Int)))) (
   .ret (y0.2, (((y0.1.1, ([], ([], ()))), (y0.1.2.1, (y0.1.2.2.1, ()))), ((List.getD toArray0.2.2.2.2.1 (Int.toNat a2) default), ())))))
   (.ret (y0.2, (((y0.1.1, ([], ([], ()))), (y0.1.2.1, (y0.1.2.2.1, ()))), (y0.1.2.2.2, ())))))
noncomputable def ref33_At (toArray0 : StepD) (a1 : (List (List Int))) (a2 : Int) : Option (RTs.den [.d (.pair (.slice valT) (.pair valT (.pair .i64 .unit)))]) := (ref33_At_T toArray0 a1 a2).run
theorem ref33_At_s (toArray0 : StepD) (a1 : (List (List Int))) (a2 : Int) : ∀ y, ref33_At toArray0 a1 a2 = some y → CSem Tryz.prog 14 [Ty.e stepT toArray0, Ty.e (.slice (.slice .i64)) a1, Ty.e .i64 a2] [] (fun v b => v = (RTs.shape [.d (.pair (.slice valT) (.pair valT (.pair .i64 .unit)))] y).1 ∧ b = (RTs.shape [.d (.pair (.slice valT) (.pair valT (.pair .i64 .unit)))] y).2) := fun_sound (H := f14H) (fn := Tryz.f14) (by kernel_rfl) (by kernel_rfl) (fun post => by kernel_rfl)
noncomputable def f16H : Hint := ⟨fun _ => false, false, fun _ => [], fun _ => [], fun _ => [], fun _ => [], fun _ => [], fun _ => [], resOf P 16, fun g _ _ => retOf P g⟩
noncomputable def ref18_Same_T (x0 : ValD) (y1 : ValD) : Tree (RTs.den [.d .bool]) :=
 .br (decide (x0.2.1 = y1.2.1))
  (.br (decide (x0.2.2.1 = y1.2.2.1))
   (.ex (ref07_Same_s x0.1 y1.1) fun y0 =>
   .ret y0)
   (.ret Bool.false))
  (.ret Bool.false)
noncomputable def ref18_Same (x0 : ValD) (y1 : ValD) : Option (RTs.den [.d .bool]) := (ref18_Same_T x0 y1).run
theorem ref18_Same_s (x0 : ValD) (y1 : ValD) : ∀ y, ref18_Same x0 y1 = some y → CSem Tryz.prog 16 [Ty.e valT x0, Ty.e valT y1] [] (fun v b => v = (RTs.shape [.d .bool] y).1 ∧ b = (RTs.shape [.d .bool] y).2) := fun_sound (H := f16H) (fn := Tryz.f16) (by kernel_rfl) (by kernel_rfl) (fun post => by kernel_rfl)
noncomputable def f15H : Hint := ⟨fun _ => false, false, fun n => lk n [(4, [0, 1, 12, 13])], fun _ => [], fun _ => [], fun _ => [], fun _ => [], fun n => lk n [(4, [⟨.exit 0, [], [], mores P [], []⟩, ⟨.ret, [4], [], mores P [(4, 4)], []⟩])], resOf P 15, fun g _ _ => retOf P g⟩
noncomputable def ref18_All_L4_st (p0 p1 : (List ValD)) (p2 : Int) (s : Int) : St := ⟨slots 27 [(0, .e (.c (.sl valT p0))), (1, .e (.c (.sl valT p1))), (12, .e (.c (.i64 p2))), (13, .e (.c (.i64 s)))], []⟩
noncomputable def ref18_All_L4_out (p0 p1 : (List ValD)) (p2 : Int) : (Unit ⊕ Bool) → Exit × St := fun y => match y with
  | (.inl y) => ((.exit 0), ⟨slots 27 [], []⟩)
  | (.inr y) => (.ret, ⟨slots 27 [(4, .e (.c (.bool y)))], []⟩)
noncomputable def ref18_All_T4 (p0 p1 : (List ValD)) (p2 : Int) (s : Int) : Tree (Int ⊕ (Unit ⊕ Bool)) :=
 .br (decide (s < p2))
  (.ob ((((0 : Int) ≤ s) ∧ (s < (↑(List.length p0) : Int)))) (
  .ob ((((0 : Int) ≤ s) ∧ (s < (↑(List.length p1) : Int)))) (
  .ex (ref18_Same_s (List.getD p0 (Int.toNat s) default) (List.getD p1 (Int.toNat s) default)) fun y0 =>
  .br (!y0)
   (.ret (.inr (.inr Bool.false)))
   (.ret (.inl (w64 (s + 1)))))))
  (.ret (.inr (.inl ())))
noncomputable def ref18_All_L4 (p0 p1 : (List ValD)) (p2 : Int) (s : Int) : Option (Unit ⊕ Bool) := iter (fun s => (ref18_All_T4 p0 p1 p2 s).run) F0 s
noncomputable abbrev ref18_All_L4_c : Code := loopOf Tryz.f15 4
theorem ref18_All_L4_s (p0 p1 : (List ValD)) (p2 : Int) (s : Int) : ∀ o, ref18_All_L4 p0 p1 p2 s = some o → LpK Tryz.prog f15H 0 4 ref18_All_L4_c (ref18_All_L4_st p0 p1 p2 s) (fun e s' => e = (ref18_All_L4_out p0 p1 p2 o).1 ∧ s' = (ref18_All_L4_out p0 p1 p2 o).2) := fun o => iter_sound (tr := fun s => (ref18_All_T4 p0 p1 p2 s)) (st := fun s => ref18_All_L4_st p0 p1 p2 s) (by kernel_rfl) (fun s K => by kernel_rfl) F0 s o
noncomputable def ref18_All_T (a0 : (List ValD)) (b1 : (List ValD)) : Tree (RTs.den [.d .bool]) :=
 .br (!(decide ((↑(List.length a0) : Int) = (↑(List.length b1) : Int))))
  (.ret Bool.false)
  (.alt (isL (ref18_All_L4 a0 b1 (↑(List.length a0) : Int) 0))
   (.an (s_u (s_l (ref18_All_L4_s a0 b1 (↑(List.length a0) : Int) 0))) (
   .ret Bool.true))
   (.ex (s_r (ref18_All_L4_s a0 b1 (↑(List.length a0) : Int) 0)) fun y0 =>
   .ret y0))
noncomputable def ref18_All (a0 : (List ValD)) (b1 : (List ValD)) : Option (RTs.den [.d .bool]) := (ref18_All_T a0 b1).run
theorem ref18_All_s (a0 : (List ValD)) (b1 : (List ValD)) : ∀ y, ref18_All a0 b1 = some y → CSem Tryz.prog 15 [Ty.e (.slice valT) a0, Ty.e (.slice valT) b1] [] (fun v b => v = (RTs.shape [.d .bool] y).1 ∧ b = (RTs.shape [.d .bool] y).2) := fun_sound (H := f15H) (fn := Tryz.f15) (by kernel_rfl) (by kernel_rfl) (fun post => by kernel_rfl)
noncomputable def f3H : Hint := ⟨fun _ => false, false, fun n => lk n [(7, [1, 2, 5, 43, 44]), (20, [1, 8, 9, 132, 133])], fun _ => [], fun _ => [], fun _ => [], fun _ => [], fun n => lk n [(7, [⟨.exit 0, [1, 2], [], mores P [], [2]⟩, ⟨.ret, [4], [], mores P [(4, 4)], [2]⟩]), (20, [⟨.exit 2, [], [], mores P [], []⟩, ⟨.ret, [4], [], mores P [(4, 4)], []⟩])], resOf P 3, fun g _ _ => retOf P g⟩
noncomputable def law33_VjpPlaces_L20_st (p0 : Int) (p1 : (List Int)) (p2 : (List (List Int))) (p3 : Int) (s : Int) : St := ⟨slots 150 [(1, .e (.c (.i64 p0))), (8, .e (.c (.sl .i64 p1))), (9, .e (.c (.sl (.slice .i64) p2))), (132, .e (.c (.i64 p3))), (133, .e (.c (.i64 s)))], []⟩
noncomputable def law33_VjpPlaces_L20_out (p0 : Int) (p1 : (List Int)) (p2 : (List (List Int))) (p3 : Int) : (Unit ⊕ Bool) → Exit × St := fun y => match y with
  | (.inl y) => ((.exit 2), ⟨slots 150 [], []⟩)
  | (.inr y) => (.ret, ⟨slots 150 [(4, .e (.c (.bool y)))], []⟩)
noncomputable def law33_VjpPlaces_T20 (p0 : Int) (p1 : (List Int)) (p2 : (List (List Int))) (p3 : Int) (s : Int) : Tree (Int ⊕ (Unit ⊕ Bool)) :=
 .br (decide (s < p3))
  (.ob ((((0 : Int) ≤ s) ∧ (s < (↑(List.length p1) : Int)))) (
  .ob ((((0 : Int) ≤ s) ∧ (s < (↑(List.length p2) : Int)))) (
  .ob ((((0 : Int) ≤ p0) ∧ (p0 < (↑(List.length (List.getD p2 (Int.toNat s) default)) : Int)))) (
  .br (!(decide ((List.getD p1 (Int.toNat s) default) = (List.getD (List.getD p2 (Int.toNat s) default) (Int.toNat p0) default))))
   (.ret (.inr (.inr Bool.false)))
   (.ret (.inl (w64 (s + 1))))))))
  (.ret (.inr (.inl ())))
noncomputable def law33_VjpPlaces_L20 (p0 : Int) (p1 : (List Int)) (p2 : (List (List Int))) (p3 : Int) (s : Int) : Option (Unit ⊕ Bool) := iter (fun s => (law33_VjpPlaces_T20 p0 p1 p2 p3 s).run) F0 s
noncomputable abbrev law33_VjpPlaces_L20_c : Code := loopOf Tryz.f3 20
theorem law33_VjpPlaces_L20_s (p0 : Int) (p1 : (List Int)) (p2 : (List (List Int))) (p3 : Int) (s : Int) : ∀ o, law33_VjpPlaces_L20 p0 p1 p2 p3 s = some o → LpK Tryz.prog f3H 0 20 law33_VjpPlaces_L20_c (law33_VjpPlaces_L20_st p0 p1 p2 p3 s) (fun e s' => e = (law33_VjpPlaces_L20_out p0 p1 p2 p3 o).1 ∧ s' = (law33_VjpPlaces_L20_out p0 p1 p2 p3 o).2) := fun o => iter_sound (tr := fun s => (law33_VjpPlaces_T20 p0 p1 p2 p3 s)) (st := fun s => law33_VjpPlaces_L20_st p0 p1 p2 p3 s) (by kernel_rfl) (fun s K => by kernel_rfl) F0 s o
noncomputable def law33_VjpPlaces_L7_st (p0 : Int) (p1 : (List (List Int))) (p2 p3 p4 p5 p6 p7 p8 p9 p10 p11 : Int) (p12 : Bool) (p13 : (List Int)) (p14 : (List ArgD)) (p15 : (List Int)) (p16 : (List ValD)) (p17 : (List Int)) (s : Int) : St := ⟨slots 150 [(1, .e (.c (.i64 p0))), (2, .e (.c (.ptr 0 0))), (5, .e (.c (.sl (.slice .i64) p1))), (43, .e (.c (.i64 p2))), (44, .e (.c (.i64 s)))], [.cells 30 [.i64 p3, .i64 p4, .i64 p5, .i64 p6, .i64 p7, .i64 p8, .i64 p9, .i64 p10, .i64 p11, .bool p12, .sl .i64 p13, .sl argT p14, .sl .i64 p15, .sl valT p16, .sl .i64 p17]]⟩
noncomputable def law33_VjpPlaces_L7_out (p0 : Int) (p1 : (List (List Int))) (p2 p3 p4 p5 p6 p7 p8 p9 p10 p11 : Int) (p12 : Bool) (p13 : (List Int)) (p14 : (List ArgD)) (p15 : (List Int)) (p16 : (List ValD)) (p17 : (List Int)) : (Unit ⊕ Bool) → Exit × St := fun y => match y with
  | (.inl y) => ((.exit 0), ⟨slots 150 [(1, .e (.c (.i64 p0))), (2, .e (.c (.ptr 0 0)))], [.cells 30 [.i64 p3, .i64 p4, .i64 p5, .i64 p6, .i64 p7, .i64 p8, .i64 p9, .i64 p10, .i64 p11, .bool p12, .sl .i64 p13, .sl argT p14, .sl .i64 p15, .sl valT p16, .sl .i64 p17]]⟩)
  | (.inr y) => (.ret, ⟨slots 150 [(4, .e (.c (.bool y)))], []⟩)
noncomputable def law33_VjpPlaces_T7 (p0 : Int) (p1 : (List (List Int))) (p2 p3 p4 p5 p6 p7 p8 p9 p10 p11 : Int) (p12 : Bool) (p13 : (List Int)) (p14 : (List ArgD)) (p15 : (List Int)) (p16 : (List ValD)) (p17 : (List Int)) (s : Int) : Tree (Int ⊕ (Unit ⊕ Bool)) :=
 .br (decide (s < p2))
  (.ob ((((0 : Int) ≤ s) ∧ (s < (↑(List.length p1) : Int)))) (
  .ob ((((0 : Int) ≤ s) ∧ (s < (↑(List.length p14) : Int)))) (
  .ex (plain_Ints_s (List.getD p1 (Int.toNat s) default) (List.getD p14 (Int.toNat s) default).1) fun y0 =>
  .br (!y0)
   (.ob ((((0 : Int) ≤ s) ∧ (s < (↑(List.length p1) : Int)))) (
   .ob ((((0 : Int) ≤ s) ∧ (s < (↑(List.length p14) : Int)))) (
   .ex (plain_Ints_s (List.getD p1 (Int.toNat s) default) (List.getD p14 (Int.toNat s) default).1) fun y1 =>
   .br y1
    (.ex law33_same_s fun y2 =>
    .ret (.inr (.inr y2)))
    (.ret (.inr (.inr Bool.false))))))
   (.ob ((((0 : Int) ≤ s) ∧ (s < (↑(List.length p1) : Int)))) (
   .ex (ref21_Fits_s (List.getD p1 (Int.toNat s) default) p15) fun y3 =>
   .br (!y3)
    (.ob ((((0 : Int) ≤ s) ∧ (s < (↑(List.length p1) : Int)))) (
    .ob ((((0 : Int) ≤ s) ∧ (s < (↑(List.length p14) : Int)))) (
    .ex (plain_Ints_s (List.getD p1 (Int.toNat s) default) (List.getD p14 (Int.toNat s) default).1) fun y4 =>
    .br y4
     (.ex law33_same_s fun y5 =>
     .ret (.inr (.inr y5)))
     (.ret (.inr (.inr Bool.false))))))
    (.ret (.inl (w64 (s + 1)))))))))
  (.ret (.inr (.inl ())))
noncomputable def law33_VjpPlaces_L7 (p0 : Int) (p1 : (List (List Int))) (p2 p3 p4 p5 p6 p7 p8 p9 p10 p11 : Int) (p12 : Bool) (p13 : (List Int)) (p14 : (List ArgD)) (p15 : (List Int)) (p16 : (List ValD)) (p17 : (List Int)) (s : Int) : Option (Unit ⊕ Bool) := iter (fun s => (law33_VjpPlaces_T7 p0 p1 p2 p3 p4 p5 p6 p7 p8 p9 p10 p11 p12 p13 p14 p15 p16 p17 s).run) F0 s
noncomputable abbrev law33_VjpPlaces_L7_c : Code := loopOf Tryz.f3 7
theorem law33_VjpPlaces_L7_s (p0 : Int) (p1 : (List (List Int))) (p2 p3 p4 p5 p6 p7 p8 p9 p10 p11 : Int) (p12 : Bool) (p13 : (List Int)) (p14 : (List ArgD)) (p15 : (List Int)) (p16 : (List ValD)) (p17 : (List Int)) (s : Int) : ∀ o, law33_VjpPlaces_L7 p0 p1 p2 p3 p4 p5 p6 p7 p8 p9 p10 p11 p12 p13 p14 p15 p16 p17 s = some o → LpK Tryz.prog f3H 0 7 law33_VjpPlaces_L7_c (law33_VjpPlaces_L7_st p0 p1 p2 p3 p4 p5 p6 p7 p8 p9 p10 p11 p12 p13 p14 p15 p16 p17 s) (fun e s' => e = (law33_VjpPlaces_L7_out p0 p1 p2 p3 p4 p5 p6 p7 p8 p9 p10 p11 p12 p13 p14 p15 p16 p17 o).1 ∧ s' = (law33_VjpPlaces_L7_out p0 p1 p2 p3 p4 p5 p6 p7 p8 p9 p10 p11 p12 p13 p14 p15 p16 p17 o).2) := fun o => iter_sound (tr := fun s => (law33_VjpPlaces_T7 p0 p1 p2 p3 p4 p5 p6 p7 p8 p9 p10 p11 p12 p13 p14 p15 p16 p17 s)) (st := fun s => law33_VjpPlaces_L7_st p0 p1 p2 p3 p4 p5 p6 p7 p8 p9 p10 p11 p12 p13 p14 p15 p16 p17 s) (by kernel_rfl) (fun s K => by kernel_rfl) F0 s o
noncomputable def law33_VjpPlaces_T (toArray0 : StepD) (a1 : Int) : Tree (RTs.den [.d .bool]) :=
 .ex (law33_Fair_s 1 toArray0 []) fun y0 =>
 .br (!y0)
  (.ex law33_same_s fun y1 =>
  .ret y1)
  (.ex (law33_Step_s toArray0) fun y2 =>
  .ex (ref33_Check_s y2) fun y3 =>
  .br (!(decide (y3 = 0)))
   (.ex law33_same_s fun y4 =>
   .ret y4)
   (.br (decide (a1 < 0))
    (.ex law33_same_s fun y5 =>
    .ret y5)
    (.ex (ref19_Count_s toArray0.2.2.2.1.1) fun y6 =>
    .br (decide (y6 ≤ a1))
     (.ex law33_same_s fun y7 =>
     .ret y7)
     (.ex (vjp_Step_Dims_s toArray0) fun y8 =>
     .br (!(decide ((↑(List.length y8) : Int) = (↑(List.length toArray0.2.2.1) : Int))))
      (.ret Bool.false)
      (.alt (isL (law33_VjpPlaces_L7 a1 y8 (↑(List.length y8) : Int) toArray0.1 toArray0.2.1.1 toArray0.2.1.2.1 toArray0.2.1.2.2.1 toArray0.2.1.2.2.2.1 toArray0.2.1.2.2.2.2.1 toArray0.2.1.2.2.2.2.2.1 toArray0.2.1.2.2.2.2.2.2.1 toArray0.2.1.2.2.2.2.2.2.2.1 toArray0.2.1.2.2.2.2.2.2.2.2.1 toArray0.2.1.2.2.2.2.2.2.2.2.2.1 toArray0.2.2.1 toArray0.2.2.2.1.1 toArray0.2.2.2.1.2.1 toArray0.2.2.2.2.1 0))
       (.an (s_u (s_l (law33_VjpPlaces_L7_s a1 y8 (↑(List.length y8) : Int) toArray0.1 toArray0.2.1.1 toArray0.2.1.2.1 toArray0.2.1.2.2.1 toArray0.2.1.2.2.2.1 toArray0.2.1.2.2.2.2.1 toArray0.2.1.2.2.2.2.2.1 toArray0.2.1.2.2.2.2.2.2.1 toArray0.2.1.2.2.2.2.2.2.2.1 toArray0.2.1.2.2.2.2.2.2.2.2.1 toArray0.2.1.2.2.2.2.2.2.2.2.2.1 toArray0.2.2.1 toArray0.2.2.2.1.1 toArray0.2.2.2.1.2.1 toArray0.2.2.2.2.1 0))) (
       .br (decide ((26 : Int) < toArray0.1))
        (.ex law33_same_s fun y9 =>
        .ret y9)
        (.ex (vjp_Step_At_s toArray0 a1) fun y10 =>
        .ex (law33_Step_s toArray0) fun y11 =>
        .ex (ref33_From_s y11) fun y12 =>
        .ex (law33_Step_s toArray0) fun y13 =>
        .ex (ref33_At_s y13 y12 a1) fun y14 =>
        .br (!(decide ((↑(List.length y10.2) : Int) = (↑(List.length y12) : Int))))
         (.ret Bool.false)
         (.ex (ref18_All_s y10.1.1 y14.1) fun y15 =>
         .br (!y15)
          (.ret Bool.false)
          (.ex (ref18_Same_s y10.1.2.1 y14.2.1) fun y16 =>
          .br (!y16)
           (.ret Bool.false)
           (.br (!(decide (y10.1.2.2.1 = y14.2.2.1)))
            (.ret Bool.false)
            (.alt (isL (law33_VjpPlaces_L20 a1 y10.2 y12 (↑(List.length y10.2) : Int) 0))
             (.an (s_u (s_l (law33_VjpPlaces_L20_s a1 y10.2 y12 (↑(List.length y10.2) : Int) 0))) (
             .ex law33_same_s fun y17 =>
             .ret y17))
             (.ex (s_r (law33_VjpPlaces_L20_s a1 y10.2 y12 (↑(List.length y10.2) : Int) 0)) fun y18 =>
             .ret y18))))))))
       (.ex (s_r (law33_VjpPlaces_L7_s a1 y8 (↑(List.length y8) : Int) toArray0.1 toArray0.2.1.1 toArray0.2.1.2.1 toArray0.2.1.2.2.1 toArray0.2.1.2.2.2.1 toArray0.2.1.2.2.2.2.1 toArray0.2.1.2.2.2.2.2.1 toArray0.2.1.2.2.2.2.2.2.1 toArray0.2.1.2.2.2.2.2.2.2.1 toArray0.2.1.2.2.2.2.2.2.2.2.1 toArray0.2.1.2.2.2.2.2.2.2.2.2.1 toArray0.2.2.1 toArray0.2.2.2.1.1 toArray0.2.2.2.1.2.1 toArray0.2.2.2.2.1 0)) fun y19 =>
       .ret y19))))))
noncomputable def law33_VjpPlaces (toArray0 : StepD) (a1 : Int) : Option (RTs.den [.d .bool]) := (law33_VjpPlaces_T toArray0 a1).run
theorem law33_VjpPlaces_s (toArray0 : StepD) (a1 : Int) : ∀ y, law33_VjpPlaces toArray0 a1 = some y → CSem Tryz.prog 3 [Ty.e stepT toArray0, Ty.e .i64 a1] [] (fun v b => v = (RTs.shape [.d .bool] y).1 ∧ b = (RTs.shape [.d .bool] y).2) := fun_sound (H := f3H) (fn := Tryz.f3) (by kernel_rfl) (by kernel_rfl) (fun post => by kernel_rfl)
end Go.Proofs.YtnkamghdikbmaaaGreat
