/- The S-machine: calls that are handed pointers, told by what the blocks hold. -/
import Derived.Test.YtnhebloiappfiaaGreatSMrc
namespace Go.SM
set_option linter.unusedVariables false
set_option linter.unusedSectionVars false

/-- What comes back: data, and the blocks that were handed over, by what they hold. -/
def outP {L : Type} (n : Nat) (l : List RT) (p : L → List Blk) (x : RTs.den l × L) : V × List Blk := (wrap (RTs.vals n l x.1).1, p x.2 ++ (RTs.vals n l x.1).2)
def Shape.ofP {L : Type} (n : Nat) (l : List RT) (p : L → List Blk) : Shape := ⟨RTs.den l × L, outP n l p⟩
/-- A new box comes back. -/
def Shape.ofN {L : Type} (p : L → List Blk) : Shape := ⟨L, fun x => (.e (.c (.ptr 0 0)), p x)⟩

theorem fun_soundP {P : Program} {H : Hint} {f : FuncId} {fn : Func} {args : List E} {blks : List Blk} {ts : List RT} {L : Type} {n : Nat} {p : L → List Blk} {T : Tree (RTs.den ts × L)} (hf : P.funcs[f]? = some fn) (hn : Nat.ble args.length fn.ntmps = true)
    (hc : ∀ post : V → List Blk → Prop, body P H fn args blks post = T.wp (fun r => post (outP n ts p r).1 (outP n ts p r).2)) : ∀ y, T.run = some y → CSem P f args blks (fun v b => v = (outP n ts p y).1 ∧ b = (outP n ts p y).2) :=
  fun y h => call_sound hf (Nat.le_of_ble_eq_true hn) (by rw [hc]; exact T.sound h ⟨rfl, rfl⟩)

theorem fun_soundG {P : Program} {H : Hint} {f : FuncId} {fn : Func} {args : List E} {blks : List Blk} {L : Type} {p : L → V × List Blk} {T : Tree L} (hf : P.funcs[f]? = some fn) (hn : Nat.ble args.length fn.ntmps = true)
    (hc : ∀ post : V → List Blk → Prop, body P H fn args blks post = T.wp (fun r => post (p r).1 (p r).2)) : ∀ y, T.run = some y → CSem P f args blks (fun v b => v = (p y).1 ∧ b = (p y).2) :=
  fun y h => call_sound hf (Nat.le_of_ble_eq_true hn) (by rw [hc]; exact T.sound h ⟨rfl, rfl⟩)

/-- A run at the end of which the rows that boxes hold are handed on as data. -/
def runL (P : Program) (refs keeps : List Nat) (n : Nat) (f : FuncId) (args : List E) (blks : List Blk) : Option (V × List Blk) :=
  match P.funcs[f]? with
  | none => none
  | some fn => match fn.body with
    | none => none
    | some c => if Nat.ble args.length fn.ntmps then
        match rcode P refs (runF P refs keeps n) blks.length c (start fn args blks) with
        | some (e, st) => if isRet e then match resEs P (lowBoxes (List.range st.tmps.length) st) fn.results.toList with
            | some es => some (rdone true blks.length es (lowBoxes (List.range st.tmps.length) st).blks)
            | none => none
          else none
        | none => none
      else none
section
variable {P : Program} {refs : List Nat}
theorem runL_sound {keeps : List Nat} (n : Nat) : CallOk P (runL P refs keeps n) := by
    intro f args blks v b' h
    have hc : CallOk P (runF P refs keeps n) := runF_sound n
    simp only [runL] at h
    split at h
    · cases h
    · rename_i fn hf
      split at h
      · cases h
      · rename_i c hb
        split at h
        · rename_i hn
          split at h
          · rename_i e st hr
            split at h
            · rename_i hret
              split at h
              · rename_i es he
                have h := Option.some.inj h
                have e1 : v = (rdone true blks.length es (lowBoxes (List.range st.tmps.length) st).blks).1 := by rw [h]
                have e2 : b' = (rdone true blks.length es (lowBoxes (List.range st.tmps.length) st).blks).2 := by rw [h]
                subst e1; subst e2
                suffices hs : ∀ post : V → List Blk → Prop, post (rdone true blks.length es (lowBoxes (List.range st.tmps.length) st).blks).1 (rdone true blks.length es (lowBoxes (List.range st.tmps.length) st).blks).2 → CSem P f args blks post from hs _ ⟨rfl, rfl⟩
                intro post hpost w F μ vals hm ha
                refine calls_of_wp hf hb ?_
                have hr0 : Rel P ⟨F, μ, blks, w⟩ F μ (start fn args blks) { tmps := vals ++ Array.replicate (fn.ntmps - vals.size) undef, defers := [] } w := start_rel hm ha (by simpa using hn)
                refine wp_mono (rcode_sound hc c rfl hr0 hr) fun e' a' w' hq => ?_
                have fin_ok : ∀ {F' : Nat → Prop} {μ' : List (Option Nat)}, Rel P ⟨F, μ, blks, w⟩ F' μ' st a' w' →
                    a'.defers = [] ∧ ∃ v, (results fn a'.tmps).run P w' = .ok v w' ∧ ∃ v', ∃ V' F' μ' blks', Ending.returned v = .returned v' ∧ post V' blks' ∧ Upd P F μ blks w F' μ' blks' w' ∧ VR P w' F' μ' blks' V' v' := by
                  intro F' μ' hr'
                  obtain ⟨F1, hr'⟩ := Rel.lowBoxes (List.range st.tmps.length) hr'
                  obtain ⟨vs, hrun, hvs⟩ := resEs_sound hr' he
                  obtain ⟨V', F2, μ2, b2, hp, hu, hv⟩ := done_sound (H := { H0 refs with keep := true }) hr' hvs (post := post) (rdone_done hpost)
                  exact ⟨hr'.defers, _, results_run hrun, _, V', F2, μ2, b2, rfl, hp, hu, hv⟩
                cases e' with
                | normal => obtain ⟨F', μ', st', hr', he', rfl⟩ := hq; exact fin_ok hr'
                | ret => obtain ⟨F', μ', st', hr', he', rfl⟩ := hq; exact fin_ok hr'
                | panic ch => exact hq.elim
                | outgrown => exact hq.elim
                | exit id => obtain ⟨F', μ', st', hr', he', rfl⟩ := hq; subst he'; cases hret
                | goto id => obtain ⟨F', μ', st', hr', he', rfl⟩ := hq; subst he'; cases hret
              · cases h
            · cases h
          · cases h
        · cases h
theorem run_closedP {n : Nat} {f : FuncId} {args : List E} {blks blks' : List Blk} {v : V} {keeps : List Nat} (h : runF P refs keeps n f args blks = some (v, blks')) : CSem P f args blks fun v' b => v' = v ∧ b = blks' := runF_sound n f args blks v blks' h
theorem run_closedL {n : Nat} {f : FuncId} {args : List E} {blks blks' : List Blk} {v : V} {keeps : List Nat} (h : runL P refs keeps n f args blks = some (v, blks')) : CSem P f args blks fun v' b => v' = v ∧ b = blks' := runL_sound n f args blks v blks' h
end
end Go.SM
