/- Closed calls of the laws of package 32 are run by the abstract machine: the call at their end comes to true; a new bank is what it is. -/
import Derived.Test.YtnhebloiappfiaaGreatSMbk
import Derived.Test.YtnhebloiappfiaaGreatProg
import Derived.KernelRfl
namespace Go.Proofs.YtnhebloiappfiaaGreat
open Go Go.SM
set_option maxRecDepth 100000
def bkB (q : Int × Int × List Bool × Int × Int × Bool × Int) : List Blk := [.cells 76 [.i64 q.1, .i64 q.2.1, .nils, .sl .bool q.2.2.1, .nils, .i64 q.2.2.2.1, .i64 q.2.2.2.2.1, .bool q.2.2.2.2.2.1, .i64 q.2.2.2.2.2.2]]
def bkR (q : List Int) : List Blk := [.row 3 .i64 q false]
def vwC (q : Int × List Int × List Int) : V × List Blk := (.e (.agg [.i64 q.1, .ref 0, .ref 1]), [.row 3 .i64 q.2.1 false, .row 3 .i64 q.2.2 false])
def bkD (q : Int × Int × List Bool × Int × Int × Bool × Int × List ((Bool × ((List UInt64) × ((List UInt64) × Unit))) × (UInt64 × (Int × Unit)))) : List Blk := [.cells 76 [.i64 q.1, .i64 q.2.1, .nils, .sl .bool q.2.2.1, .nils, .i64 q.2.2.2.1, .i64 q.2.2.2.2.1, .bool q.2.2.2.2.2.1, .i64 q.2.2.2.2.2.2.1], .row 35 (.pair (.pair .bool (.pair (.slice .u64) (.pair (.slice .u64) .unit))) (.pair .u64 (.pair .i64 .unit))) q.2.2.2.2.2.2.2 false]
def bkRo (q : List Int × Bool) : List Blk := [.row 3 .i64 q.1 q.2]
theorem law32_run : runF Tryz.prog [165, 166, 15] [71, 124, 52, 44, 86, 9] 100 7 [] [] = some (.e (.c (.bool true)), []) := by kernel_rfl
def law32_same : Option (RTs.den [.d .bool]) := some true
theorem law32_same_s : ∀ y, law32_same = some y → CSem Tryz.prog 7 [] [] (fun v b => v = (RTs.shape [.d .bool] y).1 ∧ b = (RTs.shape [.d .bool] y).2) := fun y h => by
  cases h
  exact run_closed law32_run
theorem new1_run : runL Tryz.prog [] [] 10 8 [.c (.i64 1), .c (.sl .bool [])] [] = some (.e (.c (.ptr 0 0)), bkB (1, 0, [], 0, 0, false, 0)) := by kernel_rfl
/-- A new bank: told for the mode 1 and no answers. -/
def bank_New (m : Int) (l : List Bool) : Option (Int × Int × List Bool × Int × Int × Bool × Int) := if m = 1 ∧ l = [] then some (1, 0, [], 0, 0, false, 0) else none
theorem bank_New_s (m : Int) (l : List Bool) : ∀ y, bank_New m l = some y → CSem Tryz.prog 8 [.c (.i64 m), .c (.sl .bool l)] [] (fun v b => v = .e (.c (.ptr 0 0)) ∧ b = bkB y) := fun y h => by
  unfold bank_New at h
  split at h
  · rename_i hc
    obtain ⟨rfl, rfl⟩ := hc
    cases h
    exact run_closedL new1_run
  · cases h
end Go.Proofs.YtnhebloiappfiaaGreat
