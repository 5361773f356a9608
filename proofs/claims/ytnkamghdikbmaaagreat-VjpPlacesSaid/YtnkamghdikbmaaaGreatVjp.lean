/- The law 'VjpPlaces' holds: for every step and every number the call returns true, and the arguments read as before. No condition. -/
import Derived.Test.YtnkamghdikbmaaaGreatRows
import Derived.Test.YtnkamghdikbmaaaGreatPp
import Derived.Test.YtnkamghdikbmaaaGreatSMlaw
import Derived.Test.YtnkamghdikbmaaaGreatKv
namespace Go.Proofs.YtnkamghdikbmaaaGreat
open Go Go.SM
set_option maxRecDepth 100000

theorem Tryz.own : ownKnob Tryz.prog.godebug = none := by kernel_rfl
theorem Tryz.laidOut : laidOutB Tryz.prog = true := by kernel_rfl

theorem vjp_lifted (os : Os) (started : os.Started) (H : Type) (enc : TypeId × Value → H) :
    ReturnsInHanded {} Tryz.checked os 3 .any (Rows.vjpPlacesSpec.pre6 enc Tryz.prog Tryz.f3 [] false) (Rows.vjpPlacesSpec.post enc Tryz.prog Tryz.f3 false true false false) :=
  law_handed (C := Tryz.checked) (ts := [stepT, .i64]) (T := 4) Tryz.own started (by kernel_rfl) Tryz.func3 Tryz.laidOut
    (ChangeSpec.witness6 (enc := enc) (C := Tryz.checked) false ⟨#[], #[.agg #[.int .i64 0, .int .i64 0, .int .i64 0, .int .i64 0, .int .i64 0, .int .i64 0, .int .i64 0, .int .i64 0, .int .i64 0, .bool false, .slice none 0 0, .slice none 0 0, .slice none 0 0, .slice none 0 0, .slice none 0 0], .int .i64 0], []⟩ 30 (by kernel_rfl) (by kernel_rfl) (by kernel_rfl) (by kernel_rfl))
    rfl (by kernel_rfl) (by kernel_rfl) (by kernel_rfl) (by kernel_rfl) (fun x => rfl)
    (fun ds hl => by
      match ds, hl with
      | [d1, d2], _ => rfl
      | [], h => cases h
      | [_], h => cases h
      | _ :: _ :: _ :: _, h => simp [Tryz.params3] at h)
    (fun x hs => (law33_VjpPlaces_s x.1 x.2) true (law33_pure x.1 x.2 hs.1))

theorem vjpPlaces_holds : Rows.VjpPlacesSaid :=
  OpenClaim.holds_of_wide 3 Tryz.f3 rfl rfl rfl rfl rfl rfl rfl ⟨rfl, rfl, rfl, rfl, rfl⟩ rfl rfl rfl rfl rfl (by kernel_rfl) Tryz.func3 kv_all
    (of_decide_eq_true (by kernel_rfl)) (by unfold Func.isWrapper; first | (rw [if_pos (by decide +kernel)]; kernel_rfl) | (rw [if_neg (by decide +kernel)]; exact ⟨rfl, rfl⟩))
    (fun os started H enc _ => vjp_lifted os started H enc)
end Go.Proofs.YtnkamghdikbmaaaGreat
