/- The S-machine, part m: append. -/
import Derived.Test.YtnhebloiappfiaaGreatSMmp
namespace Go.SM
set_option linter.unusedVariables false
set_option linter.unusedSimpArgs false

section
variable {P : Program} {F : Nat → Prop} {μ : List (Option Nat)} {b : List Blk} {w : World}

theorem appendR_sound (hm : MemR P F μ b w) (T ty : TypeId) {s x : Cell} {vs vx : Value} (hs : CellR P w F μ b s vs) (hx : CellR P w F μ b x vx) :
    (appendR P T b s x).good (Eff P w F μ b (Builtin.append_ #[T, T] ty #[vs, vx])) := by
  unfold appendR
  split
  · rename_i e hT
    have hT := sliceElem_spec hT
    split
    · rename_i hz
      by_cases hel : (elemTy P e).isNone = true
      · rw [if_pos hel]
        exact appendP_sound hm T ty e hT hz hs hx
      rw [if_neg hel]
      obtain ⟨i, z, hi, hzz, hzs, hbp, hsp⟩ := zlen_spec hz
      have hbz : P.bytesOf e = i.bytes := by simp [Program.bytesOf, hi]
      have hcz : P.cellsOf e = i.size := by simp [Program.cellsOf, hi]
      -- a row without memory, or a nil slice, in any list of blocks
      have empty : ∀ {b' : List Blk} {t : Ty} {ys : List t.den}, MemR P F μ b' w → elemTy P e = some t → dataOf t b x = some ys → ys.length * P.bytesOf e ≤ 140737488355328 →
          ∀ a0 : Option Addr, ∃ val w' μ', (Builtin.append_ #[T, T] ty #[.slice a0 0 0, vx]).run P w = .ok val w' ∧ Upd P F μ b' w F μ' (b' ++ [.row e t ys false]) w' ∧ VR P w' F μ' (b' ++ [.row e t ys false]) (cst (.ref b'.length)) val := by
        intro b' t ys hm' ht hd hb a0
        obtain ⟨hts, htp⟩ := elemTy_spec ht
        obtain ⟨hbig, a, c, news, rfl, hl, hy, h1, hsrc⟩ := data_sound hm htp hd hx
        rw [hbz] at hb
        have hsz : i.size = t.size := by rw [← hts, hcz]
        have hlb : ys.length ≤ 140737488355328 := Nat.le_trans (Nat.le_mul_of_pos_right _ hbp) hb
        rcases Nat.eq_zero_or_pos ys.length with h0 | h0
        · have hy0 : ys = [] := List.eq_nil_of_length_eq_zero h0
          subst hy0
          have hf : (Builtin.firstCells i.size 0 (.slice a 0 c)).run P w = .ok #[] w := first_run (P := P) (w := w) (c := c) (size := i.size) (a := a) (news := []) (m := 0) (by simp) (.inl rfl)
          refine ⟨.slice a0 0 0, w, _, ?_, Upd.nilrow hm' e t htp, rfl, ?_⟩
          · cases a0 <;> simp [Builtin.append_, run_underlying hT, sizeOf, typeInfo, hi, Builtin.lenOf, hf, storeCells]
          · simp only [List.getElem?_concat_length]
            exact .inl ⟨by rw [← hm'.len]; simp, _, rfl⟩
        · have hr := run_append_new (P := P) (w := w) (ty := ty) (base := a0) (n := 0) (cap := 0) (olds := []) (a := a) (m := ys.length) (c := c) (news := news) hT hi hzz (by simp) (.inl rfl) (by rw [hsz]; exact hl) hsrc (by omega) (by omega) (growslice_fits (by omega) (by simpa using hb))
          obtain ⟨u, hsize⟩ := append_new_upd hm' (e := e) (z := z) (xs := ([] : List t.den)) (ys := ys) (olds := []) (news := news) (cap := 0) htp (by rw [hzs, hsz]) (by simp) hl (fun i x h => by simp at h) hy (by simp only [List.length_nil, big]; omega)
          simp only [List.length_nil, List.nil_append] at hr u hsize ⊢
          refine ⟨_, _, _, hr, u, rfl, ?_⟩
          simp only [List.getElem?_concat_length]
          exact .inr ⟨w.heap.size, _, _, by rw [← hm'.len]; simp, by simp, heap_alloc_new w.drew _, hsize⟩
      cases s <;> try exact trivial
      case nils =>
        obtain ⟨a0, rfl⟩ := hs
        dsimp only
        split
        · rename_i t ht
          split
          · rename_i ys hd
            intro hb
            obtain ⟨val, w', μ', hr, u, hv⟩ := empty hm ht hd (by simpa using hb) a0
            exact ⟨val, w', F, μ', hr, u, hv⟩
          · trivial
        · trivial
      case ref k =>
        dsimp only
        split
        · rename_i e' t xs hq
          split
          · rename_i hc
            simp only [Bool.and_eq_true, Nat.beq_eq, decide_eq_true_eq] at hc
            obtain ⟨rfl, ht⟩ := hc
            obtain ⟨hts, htp⟩ := elemTy_spec ht
            have hsz : i.size = t.size := by rw [← hts, hcz]
            split
            · rename_i ys hd
              intro hb
              have uk := Upd.kill hm k
              have hs2 := hs.2
              simp only [hq] at hs2
              have hB := hm.blk _ _ hq
              have hlen : (b.set k .gone).length = b.length := by simp
              rcases hs2 with ⟨hk, a0, rfl⟩ | ⟨g, c0, cap, hk, rfl, h1, h2⟩
              · have hn : μ.getD k none = none := by simp [List.getD_eq_getElem?_getD, hk]
                rw [hn] at hB
                rcases hB.2.2 with ⟨_, rfl⟩ | ⟨_, _, _, e, _⟩
                · obtain ⟨val, w', μ', hr, u, hv⟩ := empty uk.mem ht hd (by simpa using hb) a0
                  rw [hlen] at hv
                  exact ⟨val, w', F, μ', hr, uk.trans u, hv⟩
                · cases e
              · rw [mu_get hk] at hB
                rcases hB.2.2 with ⟨e, _⟩ | ⟨g', c', cap', e, h1', h2', h3, h4, h5, h6⟩
                · cases e
                cases e
                have hce : c' = c0 := by
                  rw [h1'] at h1
                  cases h1
                  rfl
                subst hce
                have hcc : cap' = cap := Nat.eq_of_mul_eq_mul_right htp (by omega)
                subst hcc
                obtain ⟨hbig, a, c, news, rfl, hl, hy, hone, hsrc⟩ := data_sound hm htp hd hx
                rw [hbz] at hb
                have hlb : xs.length + ys.length ≤ 140737488355328 := Nat.le_trans (Nat.le_mul_of_pos_right _ hbp) hb
                have hfit0 : xs.length * t.size ≤ c'.size := by rw [h2']; exact Nat.mul_le_mul_right _ h3
                have hlo : (c'.toList.take (xs.length * t.size)).length = xs.length * t.size := by simp; omega
                have hwin : ∀ i x, xs[i]? = some x → ER w F t x (((c'.toList.take (xs.length * t.size)).drop (i * t.size)).take t.size) := by
                  intro i x hi
                  have hlt := (List.getElem?_eq_some_iff.1 hi).1
                  have hle : i * t.size + t.size ≤ xs.length * t.size := by
                    have : (i + 1) * t.size ≤ xs.length * t.size := Nat.mul_le_mul_right _ hlt
                    rwa [Nat.succ_mul] at this
                  have := h5 i x hi
                  rw [← List.take_append_drop (xs.length * t.size) c'.toList, window_app _ _ i t.size (by omega)] at this
                  exact this
                by_cases hroom : xs.length + ys.length ≤ cap'
                · have hfit : xs.length * t.size + news.length ≤ c'.size := by rw [hl, h2', ← Nat.add_mul]; exact Nat.mul_le_mul_right _ hroom
                  have hr := run_append_fits (P := P) (w := w) (ty := ty) (n := xs.length) (cap := cap') (a := a) (m := ys.length) (c := c) (news := news) hT hi h1' (by rw [hsz]; exact hl) hsrc hone hroom (by rw [hsz]; exact hfit)
                  rw [hsz] at hr
                  have u := Upd.adopt hm (zs := xs ++ ys) (c' := (c'.toList.take (xs.length * t.size) ++ news ++ c'.toList.drop (xs.length * t.size + news.length)).toArray) (cap := cap') hq hk h1' (by simp; omega) (by simp only [List.length_append, big]; omega) (by simp; omega) (by simpa using hroom) h4
                    (fun i z hz => by simpa using app_windows (rest := c'.toList.drop (xs.length * t.size + news.length)) hlo hl hwin hy i z hz)
                  refine ⟨_, _, F, _, hr, u, rfl, ?_⟩
                  rw [← hlen]
                  simp only [List.getElem?_concat_length]
                  exact .inr ⟨g, _, cap', by rw [hlen, ← hm.len]; simp, by simp, setRow_heap w g c' _ _ _ h1', by simp; omega⟩
                · have hr := run_append_new (P := P) (w := w) (ty := ty) (base := some ⟨g, 0, none⟩) (n := xs.length) (cap := cap') (olds := c'.toList.take (xs.length * t.size)) (a := a) (m := ys.length) (c := c) (news := news) hT hi hzz (by rw [hsz]; exact hlo)
                    (.inr ⟨g, 0, rfl, by simpa using row_cells (o := 0) (n := xs.length * t.size) h1' 0⟩) (by rw [hsz]; exact hl) hsrc hroom (by omega) (growslice_fits (by omega) hb)
                  obtain ⟨u, hsize⟩ := append_new_upd uk.mem (e := e') (z := z) (xs := xs) (ys := ys) (olds := c'.toList.take (xs.length * t.size)) (news := news) (cap := cap') htp (by rw [hzs, hsz]) hlo hl hwin hy (by simp only [big]; omega)
                  refine ⟨_, _, F, _, hr, uk.trans u, rfl, ?_⟩
                  rw [← hlen]
                  simp only [List.getElem?_concat_length]
                  exact .inr ⟨w.heap.size, _, _, by rw [hlen, ← hm.len]; simp, by simp, heap_alloc_new w.drew _, hsize⟩
            · trivial
          · trivial
        · trivial
    · trivial
  · trivial
end
end Go.SM
