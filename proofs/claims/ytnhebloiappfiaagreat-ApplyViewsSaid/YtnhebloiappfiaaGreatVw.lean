/- The law 'ApplyViews' holds: for every number, attributes and operand the call returns true, and the arguments read as before. No condition. -/
import Derived.Test.YtnhebloiappfiaaGreatRows
import Derived.Test.YtnhebloiappfiaaGreatQh
import Derived.Test.YtnhebloiappfiaaGreatSMlaw
import Derived.Test.YtnhebloiappfiaaGreatKv
namespace Go.Proofs.YtnhebloiappfiaaGreat
open Go Go.SM
set_option maxRecDepth 100000

theorem Tryz.own : ownKnob Tryz.prog.godebug = none := by kernel_rfl
theorem Tryz.laidOut : laidOutB Tryz.prog = true := by kernel_rfl

theorem views_lifted (os : Os) (started : os.Started) (H : Type) (enc : TypeId × Value → H) :
    ReturnsInHanded {} Tryz.checked os 4 .any (Rows.applyViewsSpec.pre6 enc Tryz.prog Tryz.f4 [] false) (Rows.applyViewsSpec.post enc Tryz.prog Tryz.f4 false true false false) :=
  law_handed (C := Tryz.checked) (ts := [.i64, attrT, argT]) (T := 4) Tryz.own started (by kernel_rfl) Tryz.func4 Tryz.laidOut
    (ChangeSpec.witness6 (enc := enc) (C := Tryz.checked) false ⟨#[], #[.int .i64 0, .agg #[.int .i64 0, .int .i64 0, .int .i64 0, .int .i64 0, .int .i64 0, .int .i64 0, .int .i64 0, .int .i64 0, .bool false, .slice none 0 0], .agg #[.slice none 0 0, .slice none 0 0]], []⟩ 30 (by kernel_rfl) (by kernel_rfl) (by kernel_rfl) (by kernel_rfl))
    rfl (by kernel_rfl) (by kernel_rfl) (by kernel_rfl) (by kernel_rfl) (fun x => rfl)
    (fun ds hl => by
      match ds, hl with
      | [d1, d2, d3], _ => rfl
      | [], h => cases h
      | [_], h => cases h
      | [_, _], h => cases h
      | _ :: _ :: _ :: _ :: _, h => simp [Tryz.params4] at h)
    (fun x hs => (law32_ApplyViews_s x.1 x.2.1 x.2.2) true (law32_pure x.1 x.2.1 x.2.2 hs.2.1 hs.2.2))

theorem applyViews_holds : Rows.ApplyViewsSaid :=
  OpenClaim.holds_of_wide 4 Tryz.f4 rfl rfl rfl rfl rfl rfl rfl ⟨rfl, rfl, rfl, rfl, rfl⟩ rfl rfl rfl rfl rfl (by kernel_rfl) Tryz.func4 kv_all
    (of_decide_eq_true (by kernel_rfl)) (by unfold Func.isWrapper; first | (rw [if_pos (by decide +kernel)]; kernel_rfl) | (rw [if_neg (by decide +kernel)]; exact ⟨rfl, rfl⟩))
    (fun os started H enc _ => views_lifted os started H enc)
end Go.Proofs.YtnhebloiappfiaaGreat
