/- The S-machine, part k: slices made: literals, make, append. -/
import Derived.Test.YtnhebloiappfiaaGreatSMj
namespace Go.SM
set_option linter.unusedVariables false
set_option linter.unusedSimpArgs false

section
variable {P : Program} {F : Nat → Prop} {μ : List (Option Nat)} {b : List Blk} {w : World}

theorem sliceElem_spec {T e : TypeId} (h : sliceElem P T = some e) : P.underlying T = some (.slice e) := by
  unfold sliceElem at h
  split at h
  · rename_i hu; cases h; exact hu
  · cases h
theorem elemTy_spec {e : TypeId} {t : Ty} (h : elemTy P e = some t) : P.cellsOf e = t.size ∧ 0 < t.size := by
  unfold elemTy at h
  split at h
  · split at h
    · rename_i hc
      cases h
      simp only [Bool.and_eq_true, beq_iff_eq, Nat.blt_eq] at hc
      exact hc
    · cases h
  · cases h
theorem zlen_spec {e : TypeId} (h : zlen P e = true) : ∃ i z, P.info? e = some i ∧ i.zero = some z ∧ z.cells.size = i.size ∧ 0 < i.bytes ∧ 0 < i.size := by
  unfold zlen at h
  split at h
  · rename_i i hi
    split at h
    · rename_i z hz
      simp only [Bool.and_eq_true, Nat.beq_eq, Nat.blt_eq] at h
      exact ⟨i, z, hi, hz, h.1.1, h.1.2, h.2⟩
    · cases h
  · cases h

/-! ### Literals -/
/-- Parts in order, filled in one behind the other. -/
theorem fill_seq (size : Nat) : ∀ (vals : List (Nat × Value)) (n : Nat) (cells : Array Value), (∀ j x, vals[j]? = some x → x.1 = n + j ∧ x.2.cells.size = size) → (n + vals.length) * size = cells.size →
    ∃ cells', Instr.fill (fun i => some (i * size, size)) cells vals = some cells' ∧ cells'.toList = cells.toList.take (n * size) ++ vals.flatMap (fun x => x.2.cells.toList)
  | [], n, cells, _, hl => ⟨cells, rfl, by simp at hl ⊢; rw [List.take_of_length_le (by simp; omega)]⟩
  | (i, v) :: vals, n, cells, h, hl => by
    have h0 := h 0 _ rfl
    simp only [Nat.add_zero] at h0
    obtain ⟨rfl, hv⟩ := h0
    simp only [List.length_cons] at hl
    have hle : i * size + size ≤ cells.size := by
      have : (i + 1) * size ≤ (i + (vals.length + 1)) * size := Nat.mul_le_mul_right _ (by omega)
      rw [Nat.succ_mul] at this
      omega
    rw [fill_cons (place := fun i => some (i * size, size)) rfl hv hle]
    have hv' : v.cells.toList.length = size := by simpa using hv
    obtain ⟨cells', h1, h2⟩ := fill_seq size vals (i + 1) (cells.toList.take (i * size) ++ v.cells.toList ++ cells.toList.drop (i * size + v.cells.toList.length)).toArray
      (fun j x hx => by have := h (j + 1) x (by simpa using hx); exact ⟨by omega, this.2⟩)
      (by simp; rw [show i + 1 + vals.length = i + (vals.length + 1) by omega, hl]; omega)
    refine ⟨cells', h1, ?_⟩
    rw [h2]
    simp only [List.flatMap_cons, List.toList_toArray, ← List.append_assoc]
    congr 1
    rw [show (i + 1) * size = (cells.toList.take (i * size) ++ v.cells.toList).length by rw [Nat.succ_mul]; simp; omega, List.take_left]

theorem flat_window (size : Nat) : ∀ (vals : List (Nat × Value)), (∀ x ∈ vals, x.2.cells.size = size) → ∀ j x, vals[j]? = some x → ((vals.flatMap (fun x => x.2.cells.toList)).drop (j * size)).take size = x.2.cells.toList
  | [], _, j, x, hx => by simp at hx
  | y :: vals, h, j, x, hx => by
    have hy : y.2.cells.toList.length = size := by simpa using h y (by simp)
    cases j with
    | zero =>
      simp at hx
      subst hx
      simp only [List.flatMap_cons, Nat.zero_mul, List.drop_zero]
      rw [← hy, List.take_left]
    | succ j =>
      simp at hx
      simp only [List.flatMap_cons]
      rw [Nat.succ_mul, List.drop_append, List.drop_of_length_le (by omega), List.nil_append, show j * size + size - y.2.cells.toList.length = j * size by omega]
      exact flat_window size vals (fun z hz => h z (by simp [hz])) j x hx

theorem litElems_sound {t : Ty} : ∀ {parts : List (Nat × E)} {vals : List (Nat × Value)} {b b' : List Blk} {F : Nat → Prop} {n : Nat} {xs : List t.den}, MemR P F μ b w → All2 (PartR P w F μ b) parts vals → litElems t b n parts = some (xs, b') →
    Froze P w F μ b b' fun F' => xs.length = parts.length ∧ (∀ (j : Nat) (x : Nat × Value), vals[j]? = some x → x.1 = n + j ∧ x.2.cells.size = t.size) ∧ (∀ (j : Nat) (x : t.den) (y : Nat × Value), xs[j]? = some x → vals[j]? = some y → ER w F' t x y.2.cells.toList) := by
  intro parts
  induction parts with
  | nil =>
    intro vals b b' F n xs hm hp h
    have : vals = [] := List.eq_nil_of_length_eq_zero (by have := hp.1; simpa using this.symm)
    subst this
    cases h
    exact ⟨F, .refl hm, rfl, fun j x h => by simp at h, fun j x y h => by simp at h⟩
  | cons p parts ih =>
    obtain ⟨i, e⟩ := p
    intro vals b b' F n xs hm hp h
    obtain ⟨⟨i', v⟩, vals, rfl, ⟨hi, he⟩, hp'⟩ := all2_head hp
    simp only at hi he
    subst hi
    simp only [litElems] at h
    split at h
    · rename_i hin
      simp only [Nat.beq_eq] at hin
      subst hin
      split at h
      · rename_i x hx
        split at h
        · rename_i xs' b'' hl
          cases h
          obtain ⟨F1, u1, he1⟩ := lowE_sound hm he
          have hE := proj1_sound hx (el_cells he1)
          obtain ⟨F2, u2, h1, h2, h3⟩ := ih u1.mem (hp'.mono fun x y hxy => ⟨hxy.1, ElR.mono u1.grow hxy.2⟩) hl
          refine ⟨F2, u1.trans u2, by simp [h1], fun j y hy => ?_, fun j x' y hx' hy => ?_⟩
          · cases j with
            | zero => simp at hy; subst hy; exact ⟨rfl, by have := ER_length _ _ _ hE; simpa using this⟩
            | succ j => simp at hy; have := h2 j y hy; exact ⟨by omega, this.2⟩
          · cases j with
            | zero => simp at hx' hy; subst hx'; subst hy; exact ER_mono u2.grow.le u2.grow.heap t _ _ hE
            | succ j => simp at hx' hy; exact h3 j x' y hx' hy
        · cases h
      · cases h
    · cases h

theorem litCells_sound {size : Nat} : ∀ {parts : List (Nat × E)} {vals : List (Nat × Value)} {n : Nat} {cs : List Cell}, All2 (PartR P w F μ b) parts vals → litCells n size parts = some cs →
    (∀ (j : Nat) (x : Nat × Value), vals[j]? = some x → x.1 = n + j ∧ x.2.cells.size = size) ∧ All2 (CellR P w F μ b) cs (vals.flatMap (fun x => x.2.cells.toList)) := by
  intro parts
  induction parts with
  | nil =>
    intro vals n cs hp h
    have : vals = [] := List.eq_nil_of_length_eq_zero (by have := hp.1; simpa using this.symm)
    subst this
    cases h
    exact ⟨fun j x h => by simp at h, all2_nil⟩
  | cons p parts ih =>
    obtain ⟨i, e⟩ := p
    intro vals n cs hp h
    obtain ⟨⟨i', v⟩, vals, rfl, ⟨hi, he⟩, hp'⟩ := all2_head hp
    simp only at hi he
    subst hi
    simp only [litCells] at h
    split at h
    · rename_i hin
      simp only [Bool.and_eq_true, Nat.beq_eq] at hin
      obtain ⟨rfl, hin⟩ := hin
      split at h
      · rename_i cs' hl
        cases h
        obtain ⟨h1, h2⟩ := ih hp' hl
        have hec := el_cells he
        refine ⟨fun j y hy => ?_, by simpa using all2_app hec h2⟩
        cases j with
        | zero => simp at hy; subst hy; exact ⟨rfl, by rw [← hin, hec.1]; simp⟩
        | succ j => simp at hy; have := h1 j y hy; exact ⟨by omega, this.2⟩
      · cases h
    · cases h

theorem flat_length (size : Nat) : ∀ (vals : List (Nat × Value)), (∀ x ∈ vals, x.2.cells.size = size) → (vals.flatMap (fun x => x.2.cells.toList)).length = vals.length * size
  | [], _ => by simp
  | y :: vals, h => by
    have hy : y.2.cells.toList.length = size := by simpa using h y (by simp)
    simp only [List.flatMap_cons, List.length_append, hy, flat_length size vals (fun z hz => h z (by simp [hz])), List.length_cons, Nat.succ_mul]
    omega

theorem run_lit {T e : TypeId} (hT : P.underlying T = some (.slice e)) (hz : zlen P e = true) {len : Nat} {vals : Array (Nat × Value)} (hlen : vals.toList.length = len) (h1 : len ≤ 1000) (h2 : P.cellsOf e ≤ 10000)
    (h : ∀ (j : Nat) (x : Nat × Value), vals.toList[j]? = some x → x.1 = 0 + j ∧ x.2.cells.size = P.cellsOf e) :
    (Instr.buildSlice T len vals).run P w = .ok (.slice (some ⟨w.heap.size, 0, none⟩) len len) (w.alloc (.cells (vals.toList.flatMap (fun x => x.2.cells.toList)).toArray e)) := by
  obtain ⟨i, z, hi, hz, hzs, hb, hp⟩ := zlen_spec hz
  have hsz : P.cellsOf e = i.size := by simp [Program.cellsOf, hi]
  rw [hsz] at h h2
  have hmul : len * i.size ≤ 1000 * 10000 := Nat.mul_le_mul h1 h2
  by_cases h0 : len = 0
  · subst h0
    have hv : vals = #[] := by apply Array.ext'; exact List.eq_nil_of_length_eq_zero hlen
    subst hv
    simp [Instr.buildSlice, run_underlying hT, sizeOf, typeInfo, hi, Instr.fill, newRow]
    congr 2
    apply Array.ext'
    simp
  · obtain ⟨cells', hf, hc⟩ := fill_seq i.size vals.toList 0 ((Array.range (len * i.size)).map (z.cells[· % z.cells.size]!)) h (by simp [hlen])
    have hr := run_buildSlice (P := P) w T e len vals cells' i z hT hi hz (by omega) (by have := Nat.mul_pos (Nat.pos_of_ne_zero h0) hp; omega) hf
    rw [hr]
    have : cells' = (vals.toList.flatMap (fun x => x.2.cells.toList)).toArray := by
      apply Array.ext'
      rw [hc]
      simp
    rw [this]

theorem lit_empty (hm : MemR P F μ b w) {T e : TypeId} (hT : P.underlying T = some (.slice e)) (hz : zlen P e = true) {len : Nat} (h1 : len ≤ 1000) (h2 : P.cellsOf e ≤ 10000) (h0 : len = 0) {vals : Array (Nat × Value)} (hlv : vals.toList.length = len) : Eff P w F μ b (Instr.buildSlice T len vals) (cst .nils) b := by
  subst h0
  have hv : vals.toList = [] := List.eq_nil_of_length_eq_zero hlv
  have hr := run_lit (P := P) (w := w) hT hz hlv h1 h2 (fun j x hx => by rw [hv] at hx; simp at hx)
  exact ⟨_, _, F, μ, hr, Upd.idle hm (Keep.alloc w _) (alloc_old w _), _, rfl⟩

theorem litR_sound (hm : MemR P F μ b w) (T : TypeId) (len : Nat) {parts : List (Nat × E)} {vals : Array (Nat × Value)} (hp : All2 (PartR P w F μ b) parts vals.toList) :
    (litR P T len b parts).good (Eff P w F μ b (Instr.buildSlice T len vals)) := by
  unfold litR
  split
  · rename_i e hT
    have hT := sliceElem_spec hT
    split
    · rename_i hc
      simp only [Bool.and_eq_true, Nat.beq_eq, Nat.ble_eq] at hc
      obtain ⟨⟨⟨hlen, h1⟩, h2⟩, hz⟩ := hc
      have hlv : vals.toList.length = len := by rw [← hp.1, hlen]
      split
      · rename_i h0
        simp only [Nat.beq_eq] at h0
        exact lit_empty hm hT hz h1 h2 h0 hlv
      split
      · rename_i t ht
        obtain ⟨hts, htp⟩ := elemTy_spec ht
        split
        · rename_i xs b' hl
          obtain ⟨F1, u1, hx1, hx2, hx3⟩ := litElems_sound hm hp hl
          rw [← hts] at hx2
          have hall : ∀ x ∈ vals.toList, x.2.cells.size = t.size := fun x hx => by
            obtain ⟨j, hj⟩ := List.mem_iff_getElem?.1 hx
            rw [← hts]; exact (hx2 j x hj).2
          have hr := run_lit (w := w) hT hz hlv h1 h2 hx2
          have u2 := Upd.data u1.mem (.cells (vals.toList.flatMap (fun x => x.2.cells.toList)).toArray e)
          have hxl : xs.length = len := by omega
          refine ⟨_, _, _, _, hr, u1.trans u2, ⟨_, len, by rw [hxl], ⟨by omega, by simp only [big]; omega⟩, fun hp => ⟨w.heap.size, 0, _, e, (0, 0), rfl, .inr rfl, heap_alloc_new w _, fun i x hx => ?_⟩⟩⟩
          have hlt := (List.getElem?_eq_some_iff.1 hx).1
          have hlt' : i < vals.toList.length := by omega
          have := hx3 i x _ hx (List.getElem?_eq_getElem hlt')
          rw [← flat_window t.size vals.toList hall i _ (List.getElem?_eq_getElem hlt')] at this
          simpa using ER_mono u2.grow.le u2.grow.heap t _ _ this
        · trivial
      · trivial
    · trivial
  · trivial

theorem buildSliceR_sound (hm : MemR P F μ b w) (T : TypeId) (len : Nat) {parts : List (Nat × E)} {vals : Array (Nat × Value)} (hp : All2 (PartR P w F μ b) parts vals.toList) :
    (buildSliceR P T len b parts).good (Eff P w F μ b (Instr.buildSlice T len vals)) := by
  unfold buildSliceR
  split
  · rename_i e hT
    have hT := sliceElem_spec hT
    split
    · rename_i hc
      simp only [Bool.and_eq_true, Nat.beq_eq, Nat.ble_eq] at hc
      obtain ⟨⟨⟨hlen, h1⟩, h2⟩, hz⟩ := hc
      have hlv : vals.toList.length = len := by rw [← hp.1, hlen]
      split
      · rename_i h0
        simp only [Nat.beq_eq] at h0
        exact lit_empty hm hT hz h1 h2 h0 hlv
      split
      · rename_i t ht
        obtain ⟨hts, htp⟩ := elemTy_spec ht
        split
        · rename_i xs b' hl
          obtain ⟨F1, u1, hx1, hx2, hx3⟩ := litElems_sound hm hp hl
          rw [← hts] at hx2
          have hall : ∀ x ∈ vals.toList, x.2.cells.size = t.size := fun x hx => by
            obtain ⟨j, hj⟩ := List.mem_iff_getElem?.1 hx
            rw [← hts]; exact (hx2 j x hj).2
          have hr := run_lit (w := w) hT hz hlv h1 h2 hx2
          have hfl := flat_length t.size vals.toList hall
          have u2 := Upd.row u1.mem (Keep.alloc w (.cells (vals.toList.flatMap (fun x => x.2.cells.toList)).toArray e)) (alloc_old w _) (t := t) (xs := xs) (cap := len) (heap_alloc_new w _) (Nat.le_refl _) (by simp only [big]; omega) htp
            (by simp [hfl, hlv]) (by omega) (by simp only [maxLen]; omega) (fun i x hx => by
              have hlt := (List.getElem?_eq_some_iff.1 hx).1
              have hlt' : i < vals.toList.length := by omega
              have := hx3 i x _ hx (List.getElem?_eq_getElem hlt')
              rw [← flat_window t.size vals.toList hall i _ (List.getElem?_eq_getElem hlt')] at this
              simpa using this)
          refine ⟨_, _, F1, _, hr, u1.trans u2, ⟨rfl, ?_⟩⟩
          simp only [List.getElem?_concat_length]
          have hxl : xs.length = len := by omega
          exact .inr ⟨w.heap.size, _, len, by rw [← u1.mem.len]; simp, by rw [hxl], heap_alloc_new w _, by simp; rw [← hlv]; simpa using hfl⟩
        · trivial
      · split
        · rename_i cs hl
          obtain ⟨hx2, hx3⟩ := litCells_sound hp hl
          have hr := run_lit (w := w) hT hz hlv h1 h2 hx2
          have hall : ∀ x ∈ vals.toList, x.2.cells.size = P.cellsOf e := fun x hx => by
            obtain ⟨j, hj⟩ := List.mem_iff_getElem?.1 hx
            exact (hx2 j x hj).2
          have hfl := flat_length (P.cellsOf e) vals.toList hall
          have u2 := Upd.box hm (T := e) (cs := cs) (c := (vals.toList.flatMap (fun x => x.2.cells.toList)).toArray) (by simpa using hx3)
          refine ⟨_, _, F, _, hr, u2, ⟨rfl, ?_⟩⟩
          simp only [List.getElem?_concat_length]
          exact ⟨w.heap.size, _, len, len, by rw [← hm.len]; simp, rfl, by rw [hx3.1, hfl, hlv], heap_alloc_new w _, by simp; rw [← hlv]; simpa using hfl, Nat.le_refl _, by simp only [maxLen]; omega⟩
        · trivial
    · trivial
  · trivial
end
end Go.SM
