/-
  No cell of these rows narrows 'for every input' (looked for: loops, veiled, ifaces, maps, wideKeys, modest, calm, conditions, laid).
  DERIVED. THE GIVEN ROWS OF THIS SEAT. 2 by the template 'for every input the law returns true; each argument reads behind the call as it read before'; 0 by the template 'total and deterministic' (their statements: YtnhebloiappfiaaGreatTotals.lean).
  GIVEN WITH THE SEED: the statements are not yours to turn. If you find one false, say at which input.
  Laid BY PROGRAM, IN A SANDBOX (cutbox-rows.mjs): the forced cells as the released guide's own fill.sh prints them over the translation 5e00c07d3de63123… (all of the seat's roots in one cut). By AI agents, Wed Nov 11 2026. No macro, syntax, notation, axiom, sorry.
-/
import Derived.Test.YtnhebloiappfiaaGreatChecked
import GoSem.Claim
import GoSem.ClaimJoined
import GoSem.ClaimMapViews
import Derived.JoinedTies
import Derived.KernelRfl
namespace Go.Proofs.YtnhebloiappfiaaGreat
/- THE CELL 'sum', in the pinned program and in every row, IS THE sha256 OF THE DUMP (.gsa) THAT YtnhebloiappfiaaGreatProg.lean LOADS. Nothing in Lean hashes anything: it is a label: what it is worth is what the hold of that sum in a sandbox is worth. -/
noncomputable def Tryz.pinned : Pinned := { name := "ytnhebloiappfiaagreat", sum := "5e00c07d3de631232917193e37f8d35ecd4d9736b2ecd191e890b5ae136ca758", checked := Tryz.checked }
namespace Rows
def none {H : Type} : Left H := { results := [], args := [] }

/-- 'gradinelaw32.ApplyFills': WHATEVER THE INPUT: true; the input reads as it did. -/
def applyFillsSpec : ChangeSpec := { name := "applyFills", fn := fun _ => fun
  | [d1, d2, d3] => { results := [.lit (.bool true)], args := [d1, d2, d3] }
  | _ => none }
def applyFillsRow : OpenClaim := { program := "ytnhebloiappfiaagreat", sum := "5e00c07d3de631232917193e37f8d35ecd4d9736b2ecd191e890b5ae136ca758", func := "gradine/gradinelaw32.ApplyFills", spec := "applyFills", unfollowed := true, recurses := true, apart := false }
def ApplyFillsSaid : Prop := applyFillsRow.holds Tryz.pinned (OpenSpec.ofChange applyFillsSpec)

/-- ITS FALSE NEIGHBOUR: 'it returns false'. Refute it at one input. -/
def applyFillsWrong : ChangeSpec := { name := "applyFills", fn := fun _ => fun
  | [d1, d2, d3] => { results := [.lit (.bool false)], args := [d1, d2, d3] }
  | _ => none }
def ApplyFillsWrongFalsely : Prop := applyFillsRow.holds Tryz.pinned (OpenSpec.ofChange applyFillsWrong)

/-- 'gradinelaw32.ApplyViews': WHATEVER THE INPUT: true; the input reads as it did. -/
def applyViewsSpec : ChangeSpec := { name := "applyViews", fn := fun _ => fun
  | [d1, d2, d3] => { results := [.lit (.bool true)], args := [d1, d2, d3] }
  | _ => none }
def applyViewsRow : OpenClaim := { program := "ytnhebloiappfiaagreat", sum := "5e00c07d3de631232917193e37f8d35ecd4d9736b2ecd191e890b5ae136ca758", func := "gradine/gradinelaw32.ApplyViews", spec := "applyViews", unfollowed := true, recurses := true, apart := false }
def ApplyViewsSaid : Prop := applyViewsRow.holds Tryz.pinned (OpenSpec.ofChange applyViewsSpec)

/-- ITS FALSE NEIGHBOUR: 'it returns false'. Refute it at one input. -/
def applyViewsWrong : ChangeSpec := { name := "applyViews", fn := fun _ => fun
  | [d1, d2, d3] => { results := [.lit (.bool false)], args := [d1, d2, d3] }
  | _ => none }
def ApplyViewsWrongFalsely : Prop := applyViewsRow.holds Tryz.pinned (OpenSpec.ofChange applyViewsWrong)

/- THE SECOND FORM. 'bulk': how many values and letters a reading holds, each counted each time it is reached (what is shared counts as often as it is met; a slice's spare places count too). A statement '..UptoSaid' is the law's where the arguments, and the package variables that the reading takes, are together of bulk at most 1048576: NARROWER than '..Said'. Prove '..Said' where nothing that the law and all that it calls make is longer than what came in: it says more and counts as full. Else prove '..UptoSaid'. A law counts once. -/
mutual
def uptoBulk {H : Type} : DataW H → Nat
  | .lit (.string bytes) => bytes.length + 1
  | .lit _ => 1
  | .nil => 1
  | .ptr d => uptoBulk d + 1
  | .slice elems spare => uptoBulkAll elems + uptoBulkAll spare + 1
  | .agg parts => uptoBulkAll parts + 1
  | .iface _ d => uptoBulk d + 1
  | .map entries => uptoBulkEntries entries + 1
  | .held _ => 1
def uptoBulkAll {H : Type} : List (DataW H) → Nat
  | [] => 0
  | d :: r => uptoBulk d + uptoBulkAll r
def uptoBulkEntries {H : Type} : List (Lit × DataW H) → Nat
  | [] => 0
  | x :: r => uptoBulkEntry x + uptoBulkEntries r
def uptoBulkEntry {H : Type} : Lit × DataW H → Nat
  | (.string bytes, d) => bytes.length + uptoBulk d + 1
  | (_, d) => uptoBulk d + 1
 end
def uptoSmall : (H : Type) → List (DataW H) → Bool := fun _ ds => decide (uptoBulkAll ds ≤ 1048576)
def OpenSpec.upto (s : _root_.Go.ChangeSpec) : _root_.Go.OpenSpec := { _root_.Go.OpenSpec.ofChange s with cond := some uptoSmall }

/-- 'gradinelaw32.ApplyFills', WHERE WHAT IT READS IS OF BULK AT MOST 1048576: true; the input reads as it did. -/
def applyFillsUptoRow : OpenClaim := { program := "ytnhebloiappfiaagreat", sum := "5e00c07d3de631232917193e37f8d35ecd4d9736b2ecd191e890b5ae136ca758", func := "gradine/gradinelaw32.ApplyFills", spec := "applyFills", unfollowed := true, recurses := true, apart := false, narrowed := true }
def ApplyFillsUptoSaid : Prop := applyFillsUptoRow.holds Tryz.pinned (OpenSpec.upto applyFillsSpec)

/-- 'gradinelaw32.ApplyViews', WHERE WHAT IT READS IS OF BULK AT MOST 1048576: true; the input reads as it did. -/
def applyViewsUptoRow : OpenClaim := { program := "ytnhebloiappfiaagreat", sum := "5e00c07d3de631232917193e37f8d35ecd4d9736b2ecd191e890b5ae136ca758", func := "gradine/gradinelaw32.ApplyViews", spec := "applyViews", unfollowed := true, recurses := true, apart := false, narrowed := true }
def ApplyViewsUptoSaid : Prop := applyViewsUptoRow.holds Tryz.pinned (OpenSpec.upto applyViewsSpec)

end Rows
end Go.Proofs.YtnhebloiappfiaaGreat
