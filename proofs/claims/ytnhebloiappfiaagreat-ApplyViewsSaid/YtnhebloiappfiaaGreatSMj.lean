/- The S-machine, part j: literals, make, append, against the model. -/
import Derived.Test.YtnhebloiappfiaaGreatSMi
import Derived.Great.BuildSlice
namespace Go.SM
set_option linter.unusedVariables false
set_option linter.unusedSimpArgs false

section
variable {P : Program} {F : Nat → Prop} {μ : List (Option Nat)} {b : List Blk} {w : World}

/-! ### Parts -/
theorem fold_set (off : Nat) : ∀ (vs : List Value) (k : Nat) (cells : Array Value), off + k + vs.length ≤ cells.size →
    ((vs.zipIdx k).foldl (fun cs (x : Value × Nat) => cs.setIfInBounds (off + x.2) x.1) cells).toList = cells.toList.take (off + k) ++ vs ++ cells.toList.drop (off + k + vs.length)
  | [], k, cells, _ => by simp
  | v :: vs, k, cells, h => by
    simp only [List.length_cons] at h
    simp only [List.zipIdx_cons, List.foldl_cons]
    rw [fold_set off vs (k + 1) _ (by simp; omega)]
    apply List.ext_getElem?
    intro i
    have e1 : off + (k + 1) = off + k + 1 := by omega
    rw [e1, getElem?_splice _ vs (off + k + 1) (by simp; omega)]
    have h2 := getElem?_splice cells.toList (v :: vs) (off + k) (by simp; omega) i
    simp only [List.length_cons] at h2 ⊢
    rw [h2, Array.toList_setIfInBounds]
    by_cases hi : i = off + k
    · subst hi
      rw [if_neg (by omega), if_pos (by omega), List.getElem?_set_self (by simp; omega)]
      simp
    · rw [List.getElem?_set_ne (by omega)]
      by_cases h3 : off + k + 1 ≤ i ∧ i < off + k + 1 + vs.length
      · rw [if_pos h3, if_pos (by omega)]
        obtain ⟨j, hj⟩ : ∃ j, i - (off + k) = j + 1 := ⟨i - (off + k) - 1, by omega⟩
        rw [hj, List.getElem?_cons_succ]
        congr 1; omega
      · rw [if_neg h3, if_neg (by omega)]

/-- One part is filled in. -/
theorem fill_cons {place : Nat → Option (Nat × Nat)} {cells : Array Value} {i off size : Nat} {v : Value} {rest : List (Nat × Value)} (hp : place i = some (off, size)) (hs : v.cells.size = size) (hl : off + size ≤ cells.size) :
    Instr.fill place cells ((i, v) :: rest) = Instr.fill place (cells.toList.take off ++ v.cells.toList ++ cells.toList.drop (off + v.cells.toList.length)).toArray rest := by
  have hf := fold_set off v.cells.toList 0 cells (by simp; omega)
  simp only [Nat.add_zero] at hf
  have : Array.foldl (fun cs (x : Value × Nat) => cs.setIfInBounds (off + x.2) x.1) cells v.cells.zipIdx = (cells.toList.take off ++ v.cells.toList ++ cells.toList.drop (off + v.cells.toList.length)).toArray := by
    apply Array.ext'
    rw [← Array.foldl_toList, Array.toList_zipIdx, hf]
  simp only [Instr.fill, hp, hs]
  rw [if_neg (by simp; omega)]
  congr 1

/-- Parts, abstract and real. -/
def PartR (P : Program) (w : World) (F : Nat → Prop) (μ : List (Option Nat)) (b : List Blk) (x : Nat × E) (y : Nat × Value) : Prop := x.1 = y.1 ∧ ElR P w F μ b x.2 y.2

theorem evParts_sound {st : St} {a : Act} (h : TmpsR P w F μ st a) : ∀ {l : List (Nat × Operand)} {r : List (Nat × E)}, evParts st l = some r → All2 (PartR P w F μ st.blks) r (l.map fun x => (x.1, a.eval x.2)) := by
  intro l
  induction l with
  | nil => intro r hr; cases hr; exact all2_nil
  | cons x l ih =>
    intro r hr
    simp only [evParts] at hr
    split at hr
    · rename_i e l' he hl'
      cases hr
      exact all2_cons ⟨rfl, evE_sound h he⟩ (ih hl')
    · cases hr

theorem fillC_sound {place : Nat → Option (Nat × Nat)} : ∀ {parts : List (Nat × E)} {vals : List (Nat × Value)} {cs cs' : List Cell} {cells : Array Value}, All2 (PartR P w F μ b) parts vals → All2 (CellR P w F μ b) cs cells.toList → fillC place cs parts = some cs' →
    ∃ cells', Instr.fill place cells vals = some cells' ∧ All2 (CellR P w F μ b) cs' cells'.toList := by
  intro parts
  induction parts with
  | nil =>
    intro vals cs cs' cells hp hc hf
    have : vals = [] := List.eq_nil_of_length_eq_zero (by have := hp.1; simpa using this.symm)
    subst this
    cases hf
    exact ⟨cells, rfl, hc⟩
  | cons x parts ih =>
    obtain ⟨i, e⟩ := x
    intro vals cs cs' cells hp hc hf
    obtain ⟨⟨i', v⟩, vals, rfl, ⟨hi, he⟩, hp'⟩ := all2_head hp
    simp only at hi he
    subst hi
    simp only [fillC] at hf
    split at hf
    · rename_i off n hpl
      split at hf
      · rename_i hcond
        simp only [Bool.and_eq_true, Nat.beq_eq, Nat.ble_eq] at hcond
        have hec := el_cells he
        have hsz : v.cells.size = n := by rw [← hcond.1, hec.1]; simp
        have hcl := hc.1
        rw [fill_cons hpl hsz (by simp at hcl; omega)]
        exact ih hp' (by simpa [splice] using all2_splice hc hec off) hf
      · cases hf
    · cases hf

theorem places_mapM (fs : List Field) (h : ∀ f ∈ fs, (P.info? f.type).isSome = true) : fs.mapM (fun f => (P.info? f.type).map fun i => (f.offset, i.size)) = some (fs.map fun f => (f.offset, P.cellsOf f.type)) := by
  induction fs with
  | nil => rfl
  | cons f fs ih =>
    obtain ⟨i, hi⟩ := Option.isSome_iff_exists.1 (h f (by simp))
    simp [List.mapM_cons, ih (fun g hg => h g (by simp [hg])), hi, Program.cellsOf]

theorem fill_congr {p q : Nat → Option (Nat × Nat)} (h : ∀ i, p i = q i) (cells : Array Value) (l : List (Nat × Value)) : Instr.fill p cells l = Instr.fill q cells l := by
  have : p = q := funext h
  rw [this]

theorem buildR_sound (hm : MemR P F μ b w) (T : TypeId) {parts : List (Nat × E)} {vals : Array (Nat × Value)} (hp : All2 (PartR P w F μ b) parts vals.toList) :
    (buildR P T b parts).good (Val P w F μ b (Instr.build T vals)) := by
  unfold buildR
  split
  · rename_i i pl hi hpl
    split
    · rename_i z hz
      split
      · rename_i h1
        split
        · rename_i cs hf
          have hc : All2 (CellR P w F μ b) (z.cells.toList.map constC) z.cells.toList := all2_self_map _ fun x hx => constC_sound x (List.all_eq_true.1 h1 x hx)
          obtain ⟨cells', h2, h3⟩ := fillC_sound hp hc hf
          refine ⟨rfl, _, run_build w T vals cells' ?_, ⟨cells', rfl, h3⟩⟩
          unfold placeOf at hpl
          split at hpl
          · rename_i fs hu
            split at hpl
            · rename_i hall
              cases hpl
              have hall' : ∀ f ∈ fs.toList, (P.info? f.type).isSome = true := by
                intro f hf
                have := Array.all_eq_true'.1 hall f (by simpa using hf)
                simpa using this
              simp only [Program.built, hi, hu, hz, places_mapM fs.toList hall']
              rw [← h2]
              exact fill_congr (fun i => by simp) _ _
            · cases hpl
          · rename_i n e hu
            split at hpl
            · rename_i hsome
              cases hpl
              obtain ⟨ie, hie⟩ := Option.isSome_iff_exists.1 hsome
              simp only [Program.built, hi, hu, hz, hie]
              rw [← h2]
              exact fill_congr (fun i => by simp [Program.cellsOf, hie]) _ _
            · cases hpl
          · cases hpl
        · trivial
      · trivial
    · trivial
  · trivial
end
end Go.SM
