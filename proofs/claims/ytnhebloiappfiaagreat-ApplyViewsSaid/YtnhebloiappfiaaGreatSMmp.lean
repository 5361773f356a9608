/- The S-machine, part mp: appending to slices of pointers. -/
import Derived.Test.YtnhebloiappfiaaGreatSMm0
namespace Go.SM
set_option linter.unusedVariables false
set_option linter.unusedSimpArgs false

section
variable {P : Program} {F : Nat → Prop} {μ : List (Option Nat)} {b : List Blk} {w : World}

/-- The same, of a slice of pointers. -/
theorem Upd.adoptC (hm : MemR P F μ b w) {k g : Nat} {T : TypeId} {xs zs : List Cell} {c c' : Array Value} (hk : b[k]? = some (.cells T xs)) (hg : μ[k]? = some (some g)) (hc : w.heap[g]? = some (.cells c T (0, 0))) (hs : c'.size = c.size)
    (hl : zs.length ≤ c'.size) (hE : All2 (CellR P w F μ b) zs (c'.toList.take zs.length)) :
    Upd P F μ b w F (μ ++ [some g]) (b.set k .gone ++ [.cells T zs]) (w.setRow g c') := by
  have hlt := (List.getElem?_eq_some_iff.1 hk).1
  have hmk : isMut b k = true := by simp [isMut, hk, Blk.mut]
  have hnF := hm.apart k g hmk hg
  have g1 : Grow F μ b w F (μ ++ [some g]) (b.set k .gone ++ [.cells T zs]) (w.setRow g c') := by
    refine ⟨fun _ h => h, fun y hy => setRow_other w g y c' (fun e => hnF (e ▸ hy)), fun y c1 T1 h1 => ?_, fun j y h _ => by rw [List.getElem?_append_left (List.getElem?_eq_some_iff.1 h).1]; exact h, fun j y hy => ?_⟩
    · by_cases hy : y = g
      · subst hy
        rw [hc] at h1
        cases h1
        exact ⟨c', setRow_heap w y c c' T _ hc, hs⟩
      · exact ⟨c1, (setRow_other w g y c' hy).trans h1, rfl⟩
    · have hjl := (List.getElem?_eq_some_iff.1 hy).1
      rw [List.getElem?_append_left (by simpa using hjl)]
      by_cases hj : k = j
      · subst hj
        rw [hk] at hy
        cases hy
        exact ⟨.gone, by simp [hlt], .inl rfl⟩
      · exact ⟨y, by rw [List.getElem?_set_ne hj]; exact hy, Sim.refl y⟩
  have mu_old : ∀ {j : Nat} {y : Nat}, j < b.length → (μ ++ [some g])[j]? = some (some y) → μ[j]? = some (some y) := by
    intro j y hj h
    rwa [List.getElem?_append_left (by rw [hm.len]; exact hj)] at h
  have cases' : ∀ {j : Nat}, isMut (b.set k .gone ++ [.cells T zs]) j = true → (j ≠ k ∧ isMut b j = true ∧ j < b.length) ∨ j = b.length := by
    intro j h
    rcases isMut_push h with ⟨h1, h2⟩ | ⟨h1, _⟩
    · obtain ⟨h3, h4⟩ := isMut_setgone h1
      exact .inl ⟨h3, h4, by simpa using h2⟩
    · exact .inr (by simpa using h1)
  have mu_new : ∀ {y : Nat}, (μ ++ [some g])[b.length]? = some (some y) → y = g := by
    intro y h
    rw [← hm.len] at h
    simp at h
    exact h.symm
  refine ⟨g1, ⟨by simp [hm.len], ?_, ?_, ?_, fun y hy => by simpa using hm.here y hy⟩, ⟨rfl, rfl, rfl, by simp, fun y hy hn => setRow_other w g y c' (fun e => hn ⟨k, hmk, e ▸ hg⟩), g1.shape⟩, ?_, fun _ h => .inl h⟩
  · intro j y hy
    by_cases hjl : j < b.length
    · rw [List.getElem?_append_left (by simpa using hjl)] at hy
      have e : (μ ++ [some g]).getD j none = μ.getD j none := by simp [List.getD_eq_getElem?_getD, List.getElem?_append_left (show j < μ.length by rw [hm.len]; exact hjl)]
      rw [e]
      by_cases hj : k = j
      · subst hj
        simp [hlt] at hy
        subst hy
        trivial
      · rw [List.getElem?_set_ne hj] at hy
        have hyB := hm.blk j y hy
        by_cases he : μ.getD j none = some g
        · cases y with
          | gone => trivial
          | hole => rw [he] at hyB; cases hyB
          | cells T' cs' => exact absurd (hm.inj j k g (by simp [isMut, hy, Blk.mut]) hmk (mu_of_getD he) hg) (fun e => hj e.symm)
          | row T' t' xs' fz' =>
            cases fz' with
            | false => exact absurd (hm.inj j k g (by simp [isMut, hy, Blk.mut]) hmk (mu_of_getD he) hg) (fun e => hj e.symm)
            | true =>
              rcases hyB.2.2 with ⟨hn, _⟩ | ⟨m', c1, cap', h1, _, _, _, _, _, h7⟩
              · rw [he] at hn; cases hn
              · rw [he] at h1
                cases h1
                exact absurd (h7 rfl) hnF
        · exact BlkR.mono g1 (fun i o hi ho => by rw [setRow_other w g i c' (fun e => he (e ▸ hi))]; exact ho) hyB
    · have hl' := (List.getElem?_eq_some_iff.1 hy).1
      simp at hl'
      have hje : j = (b.set k .gone).length := by simp; omega
      subst hje
      simp at hy
      subst hy
      have e : (μ ++ [some g]).getD (b.set k .gone).length none = some g := by simp [← hm.len, List.getD_eq_getElem?_getD]
      rw [e]
      exact ⟨g, c', rfl, setRow_heap w g c c' T _ hc, hl, hE.mono fun _ _ => CellR.mono g1⟩
  · intro j y hj hy
    rcases cases' hj with ⟨_, h2, h3⟩ | rfl
    · exact hm.apart j y h2 (mu_old h3 hy)
    · rw [mu_new hy]; exact hnF
  · intro j j' y h1 h2 h3 h4
    rcases cases' h1 with ⟨a1, a2, a3⟩ | rfl <;> rcases cases' h2 with ⟨c1, c2, c3⟩ | rfl
    · exact hm.inj j j' y a2 c2 (mu_old a3 h3) (mu_old c3 h4)
    · have := mu_new h4
      subst this
      exact absurd (hm.inj j k y a2 hmk (mu_old a3 h3) hg) a1
    · have := mu_new h3
      subst this
      exact absurd (hm.inj j' k y c2 hmk (mu_old c3 h4) hg) c1
    · rfl
  · intro j y hj hy
    rcases cases' hj with ⟨_, h2, h3⟩ | rfl
    · exact .inl ⟨j, h2, mu_old h3 hy⟩
    · exact .inl ⟨k, hmk, by rw [mu_new hy]; exact hg⟩


theorem Keep.drew_alloc' (w : World) (o : Obj) : Keep w (fun _ => False) (w.drew.alloc o) :=
  ⟨rfl, rfl, rfl, by simp, fun x hx _ => heap_alloc_old w.drew o x hx, fun x c T h => ⟨c, by rw [heap_alloc_old w.drew o x (Array.getElem?_eq_some_iff.1 h).1]; exact h, rfl⟩⟩

/-- A new block of pointers behind an append. -/
theorem Upd.newC (hm : MemR P F μ b w) {T : TypeId} {zs : List Cell} {c : Array Value} (hl : zs.length ≤ c.size) (hE : All2 (CellR P w F μ b) zs (c.toList.take zs.length)) :
    Upd P F μ b w F (μ ++ [some w.heap.size]) (b ++ [.cells T zs]) (w.drew.alloc (.cells c T)) := by
  have old : ∀ (x : Nat) (y : Obj), w.heap[x]? = some y → (w.drew.alloc (.cells c T)).heap[x]? = some y := fun x y h => by rw [heap_alloc_old w.drew _ x (Array.getElem?_eq_some_iff.1 h).1]; exact h
  refine Upd.push hm (Keep.drew_alloc' w _) old ?_ (fun k hk => by cases hk; exact Nat.le_refl _)
  have g : Grow F μ b w F (μ ++ [some w.heap.size]) (b ++ [.cells T zs]) (w.drew.alloc (.cells c T)) :=
    Grow.push (fun x hx => by have := hm.here x hx; rw [old x _ (Array.getElem?_eq_getElem this), Array.getElem?_eq_getElem this]) (fun x c' T' hx => old x _ hx) _ _
  exact ⟨_, c, rfl, heap_alloc_new w.drew _, hl, hE.mono fun _ _ => CellR.mono g⟩

/-- What a slice of pointers holds. -/
theorem ptrs_sound (hm : MemR P F μ b w) {e : TypeId} {x : Cell} {vx : Value} {ys : List Cell} (h : ptrsOf e b x = some ys) (hx : CellR P w F μ b x vx) (hp : 0 < ys.length) :
    ∃ g m cap c, vx = .slice (some ⟨g, 0, none⟩) m cap ∧ m * P.cellsOf e = ys.length ∧ w.heap[g]? = some (.cells c e (0, 0)) ∧ c.size = cap * P.cellsOf e ∧ m ≤ cap ∧ cap ≤ maxLen ∧ ys.length ≤ c.size ∧ All2 (CellR P w F μ b) ys (c.toList.take ys.length) ∧
      ∃ k, x = .ref k ∧ b[k]? = some (.cells e ys) ∧ μ[k]? = some (some g) := by
  cases x <;> simp only [ptrsOf] at h <;> try (cases h; done)
  case nils => cases h; simp at hp
  case ref k =>
    split at h
    · rename_i T cs hq
      split at h
      · rename_i hT
        cases h
        have hT : T = e := by simpa using hT
        subst hT
        have hx2 := hx.2
        simp only [hq] at hx2
        obtain ⟨g, c, n, cap, hk, rfl, h3, h4, h5, h6, h7⟩ := hx2
        have hB := hm.blk _ _ hq
        rw [mu_get hk] at hB
        obtain ⟨g', c', e1, e2, e3, e4⟩ := hB
        cases e1
        rw [h4] at e2
        cases e2
        exact ⟨g, n, cap, c, rfl, h3, h4, h5, h6, h7, e3, e4, k, rfl, hq, hk⟩
      · cases h
    · cases h

theorem appendP_sound (hm : MemR P F μ b w) (T ty e : TypeId) (hT : P.underlying T = some (.slice e)) (hz : zlen P e = true) {s x : Cell} {vs vx : Value} (hs : CellR P w F μ b s vs) (hx : CellR P w F μ b x vx) :
    (appendP P e b s x).good (Eff P w F μ b (Builtin.append_ #[T, T] ty #[vs, vx])) := by
  obtain ⟨i, z, hi, hzz, hzs, hbp, hsp⟩ := zlen_spec hz
  have hbz : P.bytesOf e = i.bytes := by simp [Program.bytesOf, hi]
  have hcz : P.cellsOf e = i.size := by simp [Program.cellsOf, hi]
  unfold appendP
  split
  · rename_i ys hys
    split
    · rename_i hc
      simp only [Bool.and_eq_true, Nat.ble_eq, Nat.blt_eq] at hc
      obtain ⟨⟨hl1, hl2⟩, hl3⟩ := hc
      obtain ⟨gx, m, capx, cx, rfl, hx1, hx2, hx3, hx4, hx5, hx6, hx7, kx, rfl, hx8, hx9⟩ := ptrs_sound hm hys hx hl2
      have hmp : m ≤ 10000 := by
        have : m ≤ m * P.cellsOf e := Nat.le_mul_of_pos_right _ (by rw [hcz]; exact hsp)
        omega
      have hl : (cx.toList.take ys.length).length = m * i.size := by rw [← hcz, hx1]; simp; omega
      have hsrc : m = 0 ∨ ∃ g o, some (⟨gx, 0, none⟩ : Addr) = some ⟨g, o, none⟩ ∧ ∀ j v, (cx.toList.take ys.length)[j]? = some v → w.cell? ⟨g, o + j, none⟩ = some v :=
        .inr ⟨gx, 0, rfl, by simpa using row_cells (o := 0) (n := ys.length) hx2 0⟩
      have hone : ∀ u ∈ cx.toList.take ys.length, u.oneCell' = true := by
        intro u hu
        obtain ⟨j, hj⟩ := List.mem_iff_getElem?.1 hu
        have hjl : j < ys.length := by have := (List.getElem?_eq_some_iff.1 hj).1; simp at this; omega
        exact CellR_one (hx7.2 j _ u (List.getElem?_eq_getElem hjl) hj)
      cases s <;> try exact trivial
      case nils =>
        obtain ⟨a0, rfl⟩ := hs
        have hm1 : 0 < m := by
          rcases Nat.eq_zero_or_pos m with rfl | h0
          · simp at hx1; omega
          · exact h0
        have hr := run_append_new (P := P) (w := w) (ty := ty) (base := a0) (n := 0) (cap := 0) (olds := []) (a := some ⟨gx, 0, none⟩) (m := m) (c := capx) (news := cx.toList.take ys.length) hT hi hzz (by simp) (.inl rfl) hl hsrc (by omega) (by omega)
          (growslice_fits (by omega) (by rw [hbz] at hl3; have : (0 + m) * i.bytes ≤ 10000 * 10000 := Nat.mul_le_mul (by omega) hl3; omega))
        have hge := grownCap_ge w (0 + m) 0 e
        have hge' := hge
        rw [Nat.zero_add] at hge'
        have u := Upd.newC hm (T := e) (zs := ys) (c := (([] : List Value).toArray ++ (cx.toList.take ys.length).toArray ++ Builtin.zeroCells z.cells (grownCap w (0 + m) 0 e - (0 + m)))) (by simp; omega) (by
          have : (([] : List Value).toArray ++ (cx.toList.take ys.length).toArray ++ Builtin.zeroCells z.cells (grownCap w (0 + m) 0 e - (0 + m))).toList.take ys.length = cx.toList.take ys.length := by
            simp only [List.nil_append, Array.toList_append, List.toList_toArray, List.append_nil]
            rw [List.take_append_of_le_length (by simp; omega), List.take_take, Nat.min_self]
          rw [this]; exact hx7)
        refine ⟨_, _, F, _, hr, u, rfl, ?_⟩
        simp only [List.getElem?_concat_length]
        refine ⟨w.heap.size, _, m, grownCap w (0 + m) 0 e, by rw [← hm.len]; simp, by simp, hx1, heap_alloc_new w.drew _, ?_, by omega, grownCap_le_maxLen w _ _ _ (by simp only [maxLen]; omega)⟩
        simp only [Array.size_append, List.size_toArray, size_zeroCells, hzs, hl, hcz, ← Nat.add_mul, List.length_nil, Nat.zero_add]
        congr 1
        omega
      case ref k =>
        dsimp only
        split
        · rename_i T' cs hq
          split
          · rename_i hc2
            simp only [Bool.and_eq_true, Nat.beq_eq, Nat.ble_eq] at hc2
            obtain ⟨rfl, hl4⟩ := hc2
            have hs2 := hs.2
            simp only [hq] at hs2
            obtain ⟨g, c, n, cap, hk, rfl, h3, h4, h5, h6, h7⟩ := hs2
            have hB := hm.blk _ _ hq
            rw [mu_get hk] at hB
            obtain ⟨g', c', e1, e2, e3, e4⟩ := hB
            cases e1
            rw [h4] at e2
            cases e2
            have hnp : n ≤ 10000 := by
              have : n ≤ n * P.cellsOf T' := Nat.le_mul_of_pos_right _ (by rw [hcz]; exact hsp)
              omega
            have hlen : (b.set k .gone).length = b.length := by simp
            have hcs : n * i.size = cs.length := by rw [← hcz]; exact h3
            have happ : All2 (CellR P w F μ b) (cs ++ ys) (c.toList.take cs.length ++ cx.toList.take ys.length) := all2_app e4 hx7
            by_cases hroom : n + m ≤ cap
            · have hfit : n * i.size + (cx.toList.take ys.length).length ≤ c.size := by rw [hl, h5, hcz, ← Nat.add_mul]; exact Nat.mul_le_mul_right _ hroom
              have hr := run_append_fits (P := P) (w := w) (ty := ty) (n := n) (cap := cap) (a := some ⟨gx, 0, none⟩) (m := m) (c := capx) (news := cx.toList.take ys.length) hT hi h4 hl hsrc hone hroom hfit
              have hyl : (cx.toList.take ys.length).length = ys.length := by simp; omega
              have u := Upd.adoptC hm (zs := cs ++ ys) (c' := (c.toList.take (n * i.size) ++ cx.toList.take ys.length ++ c.toList.drop (n * i.size + (cx.toList.take ys.length).length)).toArray) hq hk h4 (by simp; omega) (by simp; omega) (by
                simp only [List.toList_toArray]
                rw [List.take_append_of_le_length (by simp; omega), List.take_of_length_le (by simp; omega), hcs]
                exact happ)
              refine ⟨_, _, F, _, hr, u, rfl, ?_⟩
              rw [← hlen]
              simp only [List.getElem?_concat_length]
              exact ⟨g, _, n + m, cap, by rw [hlen, ← hm.len]; simp, rfl, by rw [Nat.add_mul, h3, hx1]; simp, setRow_heap w g c _ _ _ h4, by simp; omega, hroom, h7⟩
            · have hr := run_append_new (P := P) (w := w) (ty := ty) (base := some ⟨g, 0, none⟩) (n := n) (cap := cap) (olds := c.toList.take cs.length) (a := some ⟨gx, 0, none⟩) (m := m) (c := capx) (news := cx.toList.take ys.length) hT hi hzz (by simp; omega)
                (.inr ⟨g, 0, rfl, by simpa using row_cells (o := 0) (n := cs.length) h4 0⟩) hl hsrc hroom (by omega) (growslice_fits (by omega) (by rw [hbz] at hl3; have : (n + m) * i.bytes ≤ 20000 * 10000 := Nat.mul_le_mul (by omega) hl3; omega))
              have uk := Upd.kill hm k
              have hge := grownCap_ge w (n + m) cap T'
              have u := Upd.newC uk.mem (T := T') (zs := cs ++ ys) (c := ((c.toList.take cs.length).toArray ++ (cx.toList.take ys.length).toArray ++ Builtin.zeroCells z.cells (grownCap w (n + m) cap T' - (n + m)))) (by simp; omega) (by
                have : ((c.toList.take cs.length).toArray ++ (cx.toList.take ys.length).toArray ++ Builtin.zeroCells z.cells (grownCap w (n + m) cap T' - (n + m))).toList.take (cs ++ ys).length = c.toList.take cs.length ++ cx.toList.take ys.length := by
                  simp only [Array.toList_append, List.toList_toArray]
                  rw [List.take_append_of_le_length (by simp; omega), List.take_of_length_le (by simp; omega)]
                rw [this]
                exact happ.mono fun _ _ => CellR.mono uk.grow)
              refine ⟨_, _, F, _, hr, uk.trans u, rfl, ?_⟩
              rw [← hlen]
              simp only [List.getElem?_concat_length]
              refine ⟨w.heap.size, _, n + m, grownCap w (n + m) cap T', by rw [hlen, ← hm.len]; simp, by simp, by rw [Nat.add_mul, h3, hx1]; simp, heap_alloc_new w.drew _, ?_, hge, grownCap_le_maxLen w _ _ _ (by simp only [maxLen]; omega)⟩
              have ho : (c.toList.take cs.length).length = n * i.size := by simp; omega
              simp only [Array.size_append, List.size_toArray, size_zeroCells, hzs, hl, ho, hcz, ← Nat.add_mul]
              congr 1
              omega
          · trivial
        · trivial
    · trivial
  · trivial
end
end Go.SM
