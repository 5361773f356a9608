/- The S-machine, part i: stores and new memory, against the model. -/
import Derived.Test.YtnhebloiappfiaaGreatSMh
namespace Go.SM
set_option linter.unusedVariables false
set_option linter.unusedSimpArgs false

section
variable {P : Program} {F : Nat → Prop} {μ : List (Option Nat)} {b : List Blk} {w : World}

theorem take_splice {α : Type} (c vs : List α) (o m : Nat) (hm : m ≤ c.length) (hl : o + vs.length ≤ m) : (c.take o ++ vs ++ c.drop (o + vs.length)).take m = (c.take m).take o ++ vs ++ (c.take m).drop (o + vs.length) := by
  apply List.ext_getElem?
  intro i
  rw [getElem?_splice (c.take m) vs o (by simp; omega), List.getElem?_take, getElem?_splice c vs o (by omega), List.getElem?_take]
  by_cases h1 : i < m
  · simp [h1]
  · rw [if_neg h1, if_neg (by omega), if_neg h1]

theorem window_splice_ne {α : Type} (c vs : List α) (o p n : Nat) (hl : o + vs.length ≤ c.length) (h : p + n ≤ o ∨ o + vs.length ≤ p) : ((c.take o ++ vs ++ c.drop (o + vs.length)).drop p).take n = (c.drop p).take n := by
  apply List.ext_getElem?
  intro i
  rw [List.getElem?_take, List.getElem?_take]
  split
  · rw [List.getElem?_drop, List.getElem?_drop, getElem?_splice c vs o hl, if_neg (by omega)]
  · rfl
theorem window_splice_in {α : Type} (c vs : List α) (p n fo : Nat) (hl : p + n ≤ c.length) (h : fo + vs.length ≤ n) : ((c.take (p + fo) ++ vs ++ c.drop (p + fo + vs.length)).drop p).take n = ((c.drop p).take n).take fo ++ vs ++ ((c.drop p).take n).drop (fo + vs.length) := by
  apply List.ext_getElem?
  intro i
  rw [getElem?_splice ((c.drop p).take n) vs fo (by simp; omega), List.getElem?_take, List.getElem?_take, List.getElem?_drop, List.getElem?_drop, getElem?_splice c vs (p + fo) (by omega)]
  by_cases h1 : i < n
  · simp only [h1, if_true]
    by_cases h2 : fo ≤ i ∧ i < fo + vs.length
    · rw [if_pos h2, if_pos (by omega)]
      congr 1; omega
    · rw [if_neg h2, if_neg (by omega)]
  · rw [if_neg h1, if_neg (by omega), if_neg h1]

theorem Sim.cells {T : TypeId} {cs cs' : List Cell} (h : cs'.length = cs.length) : Sim (.cells T cs) (.cells T cs') := .inr ⟨cs', rfl, h⟩
theorem Sim.row {T : TypeId} {t : Ty} {xs xs' : List t.den} {fz fz' : Bool} (h : xs'.length = xs.length) : Sim (.row T t xs fz) (.row T t xs' fz') := .inr ⟨xs', fz', rfl, h⟩

theorem cell_ones {vs : List Value} {cs : List Cell} (h : All2 (CellR P w F μ b) cs vs) : ∀ u ∈ vs, u.oneCell' = true := by
  intro u hu
  obtain ⟨i, hi⟩ := List.mem_iff_getElem?.1 hu
  have hl := (List.getElem?_eq_some_iff.1 hi).1
  have hl' : i < cs.length := by rw [h.1]; exact hl
  exact CellR_one (h.2 i _ u (List.getElem?_eq_getElem hl') hi)

theorem row_write (hm : MemR P F μ b w) {k g i fo : Nat} {T' : TypeId} {t : Ty} {xs : List t.den} {x : t.den} {cs : List Cell} {vs : List Value}
    (hq : b[k]? = some (.row T' t xs false)) (hk : μ[k]? = some (some g)) (hi : i < xs.length) (hfo : fo + vs.length ≤ t.size) (hvs : All2 (CellR P w F μ b) cs vs)
    (hx : ∀ old, ER w F t (at' xs i) old → ER w F t x (old.take fo ++ vs ++ old.drop (fo + vs.length))) :
    ∃ c, w.heap[g]? = some (.cells c T' (0, 0)) ∧ i * t.size + fo + vs.length ≤ c.size ∧ Upd P F μ b w F μ (b.set k (.row T' t (xs.set i x) false)) (w.setRow g (c.toList.take (i * t.size + fo) ++ vs ++ c.toList.drop (i * t.size + fo + vs.length)).toArray) := by
  have hB := hm.blk _ _ hq
  rw [mu_get hk] at hB
  rcases hB.2.2 with ⟨e, _⟩ | ⟨g', c, cap, e, h1, h2, h3, h4, h5, h6⟩
  · cases e
  cases e
  have hwin : (i + 1) * t.size ≤ c.size := by
    rw [h2]
    exact Nat.mul_le_mul_right _ (by omega)
  have hwin' : i * t.size + t.size ≤ c.size := by rw [Nat.succ_mul] at hwin; exact hwin
  refine ⟨c, h1, by omega, Upd.write hm hq rfl rfl hk h1 (by simp; omega) (Sim.row (by simp)) (fun g1 => ?_)⟩
  refine ⟨by simpa using hB.1, hB.2.1, .inr ⟨g, _, cap, rfl, setRow_heap w g c _ T' _ h1, by simp; omega, by simpa using h3, h4, fun j y hy => ?_, fun h => by cases h⟩⟩
  simp only [List.toList_toArray]
  refine ER_mono g1.le g1.heap t _ _ ?_
  by_cases hj : i = j
  · subst hj
    simp only [List.getElem?_set_self hi, Option.some.injEq] at hy
    subst hy
    rw [window_splice_in c.toList vs (i * t.size) t.size fo (by simpa using hwin') hfo]
    exact hx _ (h5 i _ (at'_get hi))
  · rw [List.getElem?_set_ne hj] at hy
    rw [window_splice_ne c.toList vs (i * t.size + fo) (j * t.size) t.size (by simp; omega) ?_]
    · exact h5 j y hy
    · rcases Nat.lt_or_ge j i with h | h
      · left
        have : (j + 1) * t.size ≤ i * t.size := Nat.mul_le_mul_right _ h
        rw [Nat.succ_mul] at this
        omega
      · right
        have : (i + 1) * t.size ≤ j * t.size := Nat.mul_le_mul_right _ (by omega)
        rw [Nat.succ_mul] at this
        omega

theorem storeR_sound (hm : MemR P F μ b w) (T : TypeId) {x : Cell} {vx : Value} (hx : CellR P w F μ b x vx) {e : E} {v : Value} (he : ElR P w F μ b e v) :
    (storeR P T b x e).good fun y b' => y = .dead ∧ EffU P w F μ b (Instr.storeAt T vx v) b' := by
  unfold storeR
  split
  case isFalse => trivial
  rename_i hn
  simp only [Bool.and_eq_true, Nat.beq_eq, Nat.blt_eq] at hn
  obtain ⟨hn, hpos⟩ := hn
  have hinfo : P.info? T ≠ none := by intro e; simp [Program.cellsOf, e] at hpos
  have hcs := el_cells he
  have hsz : P.cellsOf T = v.cells.size := by rw [← hn, hcs.1]; simp
  cases x <;> try exact trivial
  case ptr k off =>
    obtain ⟨g, hk, rfl⟩ := hx
    dsimp only
    cases hq : b[k]? with
    | none => trivial
    | some y =>
      cases y with
      | gone => trivial
      | hole => trivial
      | row => trivial
      | cells T' cs =>
        dsimp only
        split
        · rename_i hle
          have hle : off + e.cells.length ≤ cs.length := by simpa using hle
          have hB := hm.blk _ _ hq
          rw [mu_get hk] at hB
          obtain ⟨g', c, eg, h1, h2, h3⟩ := hB
          cases eg
          have hlen : e.cells.length = v.cells.size := by rw [hcs.1]; simp
          refine ⟨rfl, _, F, μ, store_run h1 hsz hinfo (by omega) (cell_ones hcs), ?_⟩
          have hl2 : v.cells.size = v.cells.toList.length := by simp
          rw [hl2]
          refine Upd.write hm hq rfl rfl hk h1 (by simp; omega) (Sim.cells (by simp [splice]; omega)) (fun g1 => ?_)
          refine ⟨g, _, rfl, setRow_heap w g c _ T' _ h1, by simp [splice]; omega, ?_⟩
          have e1 : (splice cs off e.cells).length = cs.length := by simp [splice]; omega
          rw [e1]
          simp only [List.toList_toArray]
          rw [take_splice c.toList v.cells.toList off cs.length (by simpa using h2) (by simp; omega)]
          exact (all2_splice h3 hcs off).mono fun _ _ => CellR.mono g1
        · trivial
  case eptr k i fo =>
    dsimp only
    obtain ⟨F1, u1, hl⟩ := lows_sound hm hcs
    have hx1 := CellR.mono u1.grow hx
    cases hq : (lows b e.cells).2[k]? with
    | none => trivial
    | some y =>
      cases y with
      | gone => trivial
      | hole => trivial
      | cells => trivial
      | row T' t xs fz =>
        have hx2 := hx1.2
        simp only [hq] at hx2
        obtain ⟨g, hk, rfl, hi⟩ := hx2
        cases fz with
        | true => trivial
        | false =>
          dsimp only
          split
          · rename_i hw
            simp only [Bool.and_eq_true, Nat.beq_eq] at hw
            obtain ⟨rfl, hw⟩ := hw
            split
            · rename_i x hp
              have hv : v.cells.toList.length = t.size := by rw [← hw, hcs.1]
              obtain ⟨c, h1, h2, u2⟩ := row_write u1.mem hq hk hi (fo := 0) (x := x) (by omega) hl (fun old ho => by
                have := ER_length _ _ _ ho
                rw [List.take_zero, List.drop_of_length_le (by omega)]
                simpa using proj1_sound hp hl)
              refine ⟨rfl, _, F1, μ, ?_, u1.trans u2⟩
              have := store_run (o := i * t.size + 0) h1 hsz hinfo (by simp at h2 ⊢; omega) (cell_ones hcs)
              simpa using this
            · trivial
          · split
            · rename_i x hp
              by_cases hfit : fo + v.cells.toList.length ≤ t.size
              · obtain ⟨c, h1, h2, u2⟩ := row_write u1.mem hq hk hi (fo := fo) (x := x) hfit hl (fun old ho => by
                  have := proj1_sound hp (all2_splice (inj_sound t _ _ ho) hl fo)
                  simpa using this)
                refine ⟨rfl, _, F1, μ, ?_, u1.trans u2⟩
                have := store_run (o := i * t.size + fo) h1 hsz hinfo (by simp at h2 ⊢; omega) (cell_ones hcs)
                simpa using this
              · -- such a list has not the type's length
                exfalso
                have hB := u1.mem.blk _ _ hq
                rw [mu_get hk] at hB
                rcases hB.2.2 with ⟨e', _⟩ | ⟨g', c, cap, e', h1, h2, h3, h4, h5, h6⟩
                · cases e'
                · have ho := h5 i _ (at'_get hi)
                  have h7 := proj1_sound hp (all2_splice (inj_sound t _ _ ho) hl fo)
                  have h8 := ER_length _ _ _ h7
                  have h9 := ER_length _ _ _ ho
                  rw [List.length_append, List.length_append, List.length_take, List.length_drop, h9] at h8
                  have : v.cells.toList.length = v.cells.size := by simp
                  omega
            · trivial

/-! ### New memory -/
theorem newVar_run (T : TypeId) (v : Value) : (newVar T v).run P w = .ok ⟨w.heap.size, 0, none⟩ (w.alloc (.cells v.cells T)) := by
  simp [newVar, newRow]

theorem box_eff (hm : MemR P F μ b w) (T : TypeId) {e : E} {v : Value} (he : ElR P w F μ b e v) :
    (newR b (.cells T e.cells) (.ptr · 0)).good (Eff P w F μ b (Instr.box T v)) := by
  have u := Upd.box hm (T := T) (c := v.cells) (el_cells he)
  refine ⟨.pointer (some ⟨w.heap.size, 0, none⟩), _, F, _, by simp [Instr.box, newVar_run], u, ?_⟩
  exact ⟨w.heap.size, by simp [← hm.len], rfl⟩

theorem alloc_eff (hm : MemR P F μ b w) (T : TypeId) : (allocR P T b).good (Eff P w F μ b (Instr.alloc T true (.tuple #[]))) := by
  unfold allocR
  split
  · rename_i i hi
    split
    · rename_i z hz
      split
      · rename_i h1
        have hc : All2 (CellR P w F μ b) (z.cells.toList.map constC) z.cells.toList := all2_self_map _ fun x hx => constC_sound x (List.all_eq_true.1 h1 x hx)
        have u := Upd.box hm (T := T) (c := z.cells) hc
        refine ⟨.pointer (some ⟨w.heap.size, 0, none⟩), _, F, _, by simp [Instr.alloc, zeroValue, typeInfo, hi, hz, newVar_run], u, ?_⟩
        exact ⟨w.heap.size, by simp [← hm.len], rfl⟩
      · trivial
    · trivial
  · trivial
end
end Go.SM
