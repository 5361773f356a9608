/- The S-machine, part l: make, append. -/
import Derived.Test.YtnhebloiappfiaaGreatSMk
namespace Go.SM
set_option linter.unusedVariables false
set_option linter.unusedSimpArgs false

section
variable {P : Program} {F : Nat → Prop} {μ : List (Option Nat)} {b : List Blk} {w : World}

theorem zok_sound : ∀ (t : Ty) (vs r : List Value), zok t vs = some r → ∃ v1, vs = v1 ++ r ∧ ER w F t t.zero v1
  | .unit, vs, r, h => by simp only [zok, Option.some.injEq] at h; exact ⟨[], by simp [h], rfl⟩
  | .pair t u, vs, r, h => by
    simp only [zok] at h
    split at h
    · rename_i r' h1
      obtain ⟨v1, rfl, e1⟩ := zok_sound t vs r' h1
      obtain ⟨v2, rfl, e2⟩ := zok_sound u r' r h
      exact ⟨v1 ++ v2, by simp, v1, v2, rfl, e1, e2⟩
    · cases h
  | .i64, vs, r, h => by
    unfold zok at h
    split at h <;> first | contradiction | skip
    rename_i n r' he
    split at h
    · rename_i hn
      cases h
      simp only [beq_iff_eq] at hn
      subst hn
      exact ⟨[_], rfl, rfl, by simp [Ty.zero], by simp [Ty.zero]⟩
    · cases h
  | .u64, vs, r, h => by
    unfold zok at h
    split at h <;> first | contradiction | skip
    rename_i n r' he
    split at h
    · rename_i hn
      cases h
      simp only [beq_iff_eq] at hn
      subst hn
      exact ⟨[_], rfl, rfl⟩
    · cases h
  | .u8, vs, r, h => by
    unfold zok at h
    split at h <;> first | contradiction | skip
    rename_i n r' he
    split at h
    · rename_i hn
      cases h
      simp only [beq_iff_eq] at hn
      subst hn
      exact ⟨[_], rfl, rfl⟩
    · cases h
  | .bool, vs, r, h => by
    unfold zok at h
    split at h <;> first | contradiction | skip
    rename_i n r' he
    split at h
    · cases h
    · rename_i hn
      cases h
      have : n = false := by simpa using hn
      subst this
      exact ⟨[_], rfl, rfl⟩
  | .str, vs, r, h => by
    unfold zok at h
    split at h <;> first | contradiction | skip
    rename_i s r' he
    split at h
    · rename_i hn
      cases h
      have : s.data.toList = [] := by simpa using hn
      exact ⟨[_], rfl, s, rfl, this, Nat.zero_le _⟩
    · cases h
  | .slice t, vs, r, h => by
    unfold zok at h
    split at h <;> first | contradiction | skip
    cases h
    exact ⟨[_], rfl, none, 0, rfl, ⟨Nat.zero_le _, Nat.zero_le _⟩, fun h => absurd h (Nat.lt_irrefl 0)⟩

theorem zeroOk_spec {e : TypeId} {t : Ty} (h : zeroOk P e t = true) : ∃ i z, P.info? e = some i ∧ i.zero = some z ∧ ER w F t t.zero z.cells.toList := by
  unfold zeroOk at h
  split at h
  · rename_i i hi
    split at h
    · rename_i z hz
      split at h
      · rename_i hk
        obtain ⟨v1, e1, h1⟩ := zok_sound (w := w) (F := F) t _ _ hk
        simp at e1
        exact ⟨i, z, hi, hz, by rw [e1]; exact h1⟩
      · cases h
    · cases h
  · cases h

/-- Zeros, one value behind the other. -/
theorem zeros_window (z : Array Value) (n i : Nat) (h : i < n) (hz : 0 < z.size) : ((((Array.range (n * z.size)).map (z[· % z.size]!)).toList.drop (i * z.size)).take z.size) = z.toList := by
  have hle : i * z.size + z.size ≤ n * z.size := by
    have : (i + 1) * z.size ≤ n * z.size := Nat.mul_le_mul_right _ h
    rwa [Nat.succ_mul] at this
  apply List.ext_getElem?
  intro j
  rw [List.getElem?_take]
  split
  · rename_i hj
    rw [List.getElem?_drop, Array.getElem?_toList, Array.getElem?_map, Array.getElem?_range]
    rw [if_pos (by omega)]
    have : (i * z.size + j) % z.size = j := by rw [Nat.mul_comm, Nat.mul_add_mod, Nat.mod_eq_of_lt hj]
    simp [this, hj]
  · rename_i hj
    rw [List.getElem?_eq_none (by simpa using hj)]

theorem makeSliceR_sound (hm : MemR P F μ b w) (T : TypeId) {x y : Cell} {vx vy : Value} (hx : CellR P w F μ b x vx) (hy : CellR P w F μ b y vy) :
    (makeSliceR P T b x y).good (Eff P w F μ b (Instr.makeSlice T vx vy)) := by
  cases x <;> cases y <;> try exact trivial
  case i64.i64 n c =>
    obtain ⟨rfl, hn⟩ := hx; obtain ⟨rfl, hc⟩ := hy
    dsimp only [makeSliceR]
    split
    · rename_i e hT
      have hT := sliceElem_spec hT
      split
      · rename_i t ht
        obtain ⟨hts, htp⟩ := elemTy_spec ht
        split
        · rename_i hz
          simp only [Bool.and_eq_true, Nat.blt_eq] at hz
          obtain ⟨hz, hbp⟩ := hz
          rintro ⟨h0, h1, h2⟩
          obtain ⟨i, z, hi, hzz, hE⟩ := zeroOk_spec (w := w) (F := F) hz
          have hsz : i.size = t.size := by rw [← hts]; simp [Program.cellsOf, hi]
          have hbz : P.bytesOf e = i.bytes := by simp [Program.bytesOf, hi]
          have hzs : z.cells.size = t.size := by have := ER_length _ _ _ hE; simpa using this
          obtain ⟨n', rfl⟩ := Int.eq_ofNat_of_zero_le h0
          obtain ⟨c', rfl⟩ := Int.eq_ofNat_of_zero_le (show 0 ≤ c by omega)
          rw [hbz] at h2 hbp
          have hcb0 : ((c' * i.bytes : Nat) : Int) ≤ 140737488355328 := by rw [Int.natCast_mul]; exact h2
          have hcb : c' * i.bytes ≤ 140737488355328 := by omega
          have hc1 : c' ≤ 140737488355328 := Nat.le_trans (Nat.le_mul_of_pos_right _ hbp) hcb
          have hw1 : IntKind.i64.wrap (n' : Int) = n' := w64_id (by omega) (by omega)
          have hw2 : IntKind.i64.wrap (c' : Int) = c' := w64_id (by omega) (by omega)
          have hcb' : ¬ (281474976710656 < (i.bytes : Int) * (c' : Int)) := by
            rw [Int.mul_comm]
            omega
          have hw0 : IntKind.i64.wrap 0 = 0 := rfl
          have hr : (Instr.makeSlice T (.int .i64 (n' : Int)) (.int .i64 (c' : Int))).run P w = .ok (.slice (some ⟨w.heap.size, 0, none⟩) n' c') (w.alloc (.cells ((Array.range (c' * z.cells.size)).map (z.cells[· % z.cells.size]!)) e)) := by
            have hle : ¬ ((c' : Int) < n') := by omega
            by_cases hc0 : c' * i.size = 0
            · have hc0' : c' = 0 := by
                rcases Nat.mul_eq_zero.1 hc0 with h | h
                · exact h
                · omega
              subst hc0'
              have hn0 : n' = 0 := by omega
              subst hn0
              simp [Instr.makeSlice, run_underlying hT, asInt, asIntOf, typeInfo, hi, hw0, sizeOf, newRow]
              congr 2
              apply Array.ext'
              simp
            · simp [Instr.makeSlice, run_underlying hT, asInt, asIntOf, typeInfo, hi, hw1, hw2, hcb', hle, sizeOf, zeroValue, hzz, hc0, newRow, hsz, hzs]
              rw [hsz] at hc0
              rw [if_neg (by omega), if_neg hc0]
          have u := Upd.row hm (Keep.alloc w _) (alloc_old w _) (T := e) (t := t) (xs := List.replicate n' t.zero) (cap := c') (heap_alloc_new w (.cells ((Array.range (c' * z.cells.size)).map (z.cells[· % z.cells.size]!)) e)) (Nat.le_refl _) (by simp only [List.length_replicate, big]; omega) htp (by simp [hzs]) (by simp; omega) (by simp only [maxLen]; omega)
            (fun j x hj => by
              rw [List.getElem?_replicate] at hj
              split at hj
              · cases hj
                rw [← hzs, zeros_window z.cells c' j (by omega) (by omega)]
                exact hE
              · cases hj)
          refine ⟨_, _, F, _, hr, u, rfl, ?_⟩
          simp only [Int.toNat_natCast, List.getElem?_concat_length]
          exact .inr ⟨w.heap.size, _, c', by rw [← hm.len]; simp, by simp, heap_alloc_new w _, by simp [hzs]⟩
        · trivial
      · trivial
    · trivial

/-! ### append -/
/-- What a source of an append holds. -/
theorem data_sound (hm : MemR P F μ b w) {t : Ty} {x : Cell} {vx : Value} {ys : List t.den} (htp : 0 < t.size) (h : dataOf t b x = some ys) (hx : CellR P w F μ b x vx) :
    ys.length ≤ big ∧ ∃ (a : Option Addr) (c : Nat) (news : List Value), vx = .slice a ys.length c ∧ news.length = ys.length * t.size ∧ (∀ i y, ys[i]? = some y → ER w F t y ((news.drop (i * t.size)).take t.size)) ∧ (∀ v ∈ news, v.oneCell' = true) ∧
      (ys.length = 0 ∨ ∃ g o, a = some ⟨g, o, none⟩ ∧ ∀ j v, news[j]? = some v → w.cell? ⟨g, o + j, none⟩ = some v) := by
  have key : ∀ (xs : List t.den) (g o : Nat) (cs : Array Value) (T : TypeId) (fr : Nat × Nat), w.heap[g]? = some (.cells cs T fr) → (∀ i x, xs[i]? = some x → ER w F t x ((cs.toList.drop (o + i * t.size)).take t.size)) →
      ∃ news : List Value, news.length = xs.length * t.size ∧ (∀ i y, xs[i]? = some y → ER w F t y ((news.drop (i * t.size)).take t.size)) ∧ (∀ v ∈ news, v.oneCell' = true) ∧ ∀ j v, news[j]? = some v → w.cell? ⟨g, o + j, none⟩ = some v := by
    intro xs g o cs T fr hg hE
    have hlen : ((cs.toList.drop o).take (xs.length * t.size)).length = xs.length * t.size := by
      rcases Nat.eq_zero_or_pos xs.length with h0 | h0
      · simp [h0]
      · have := ER_length _ _ _ (hE (xs.length - 1) _ (List.getElem?_eq_getElem (show xs.length - 1 < xs.length by omega)))
        simp only [List.length_take, List.length_drop, Array.length_toList] at this ⊢
        have e : xs.length * t.size = (xs.length - 1) * t.size + t.size := by rw [← Nat.succ_mul]; congr 1; omega
        omega
    have hwin : ∀ i y, xs[i]? = some y → ((((cs.toList.drop o).take (xs.length * t.size)).drop (i * t.size)).take t.size) = (cs.toList.drop (o + i * t.size)).take t.size := by
      intro i y hy
      have hi := (List.getElem?_eq_some_iff.1 hy).1
      have hle : i * t.size + t.size ≤ xs.length * t.size := by
        have : (i + 1) * t.size ≤ xs.length * t.size := Nat.mul_le_mul_right _ hi
        rwa [Nat.succ_mul] at this
      apply List.ext_getElem?
      intro j
      rw [List.getElem?_take, List.getElem?_take]
      split
      · rw [List.getElem?_drop, List.getElem?_take, if_pos (by omega), List.getElem?_drop, List.getElem?_drop]
        congr 1; omega
      · rfl
    refine ⟨(cs.toList.drop o).take (xs.length * t.size), hlen, fun i y hy => by rw [hwin i y hy]; exact hE i y hy, fun v hv => ?_, fun j v hv => by simpa using row_cells (n := xs.length * t.size) hg 0 j v (by simpa using hv)⟩
    obtain ⟨j, hj⟩ := List.mem_iff_getElem?.1 hv
    have hjl := (List.getElem?_eq_some_iff.1 hj).1
    rw [hlen] at hjl
    have hi : j / t.size < xs.length := Nat.div_lt_of_lt_mul (by rw [Nat.mul_comm]; exact hjl)
    have hE' := hE (j / t.size) _ (List.getElem?_eq_getElem hi)
    rw [← hwin _ _ (List.getElem?_eq_getElem hi)] at hE'
    refine ER_one _ _ _ hE' v ?_
    refine List.mem_of_getElem? (i := j % t.size) ?_
    rw [List.getElem?_take, if_pos (Nat.mod_lt _ htp), List.getElem?_drop, ← hj]
    congr 1
    have := Nat.div_add_mod j t.size
    rw [Nat.mul_comm] at this
    omega
  cases x <;> try (simp [dataOf] at h; done)
  case nils =>
    obtain ⟨a0, rfl⟩ := hx
    simp only [dataOf, Option.some.injEq] at h
    subst h
    exact ⟨Nat.zero_le _, a0, 0, [], rfl, by simp, fun i y hy => by simp at hy, fun v hv => by simp at hv, .inl rfl⟩
  case sl t' xs =>
    simp only [dataOf] at h
    split at h
    · rename_i e
      subst e
      cases h
      obtain ⟨a, cap, hv, ⟨_, hbig⟩, hE⟩ := hx
      simp only [List.cons.injEq, and_true] at hv
      subst hv
      refine ⟨hbig, ?_⟩
      rcases Nat.eq_zero_or_pos xs.length with h0 | h0
      · refine ⟨a, cap, [], by rw [h0], by simp [h0], fun i y hy => ?_, fun v hv => by simp at hv, .inl h0⟩
        have hy' : xs[i]? = some y := hy
        have := (List.getElem?_eq_some_iff.1 hy').1; omega
      · obtain ⟨g, o, cs, T, fr, rfl, hF, hg, hE⟩ := hE h0
        obtain ⟨news, h1, h2, h3, h4⟩ := key xs g o cs T fr hg hE
        exact ⟨_, cap, news, rfl, h1, h2, h3, .inr ⟨g, o, rfl, h4⟩⟩
    · cases h
  case ref k =>
    simp only [dataOf] at h
    split at h
    · rename_i T' t' xs fz hq
      split at h
      · rename_i e
        subst e
        cases h
        have hx2 := hx.2
        simp only [hq] at hx2
        have hB := hm.blk _ _ hq
        refine ⟨hB.1, ?_⟩
        rcases hx2 with ⟨hk, a0, rfl⟩ | ⟨g, c, cap, hk, rfl, h1, h2⟩
        · have hn : μ.getD k none = none := by simp [List.getD_eq_getElem?_getD, hk]
          rw [hn] at hB
          rcases hB.2.2 with ⟨_, rfl⟩ | ⟨_, _, _, e, _⟩
          · exact ⟨a0, 0, [], rfl, by simp, fun i y hy => by simp at hy, fun v hv => by simp at hv, .inl rfl⟩
          · cases e
        · rw [mu_get hk] at hB
          rcases hB.2.2 with ⟨e, _⟩ | ⟨g', c', cap', e, h1', h2', h3, h4, h5, h6⟩
          · cases e
          · cases e
            obtain ⟨news, e1, e2, e3, e4⟩ := key xs g 0 c' T' (0, 0) h1' (fun i x hi => by simpa using h5 i x hi)
            exact ⟨_, cap, news, rfl, e1, e2, e3, .inr ⟨g, 0, rfl, e4⟩⟩
      · cases h
    · cases h
  case win k lo n =>
    simp only [dataOf] at h
    split at h
    · rename_i T' t' xs fz hq
      split at h
      · rename_i e
        subst e
        cases h
        have hx2 := hx.2
        simp only [hq] at hx2
        have hB := hm.blk _ _ hq
        obtain ⟨a, cap, rfl, hcap, hlen, ha⟩ := hx2
        have hl : ((xs.drop lo).take n).length = n := by simp; omega
        refine ⟨by rw [hl]; have := hB.1; omega, ?_⟩
        rw [hl]
        rcases Nat.eq_zero_or_pos n with rfl | hp
        · exact ⟨a, cap, [], rfl, by simp, fun i y hy => by simp at hy, fun v hv => by simp at hv, .inl rfl⟩
        · obtain ⟨g, hk, rfl⟩ := ha hp
          rw [mu_get hk] at hB
          rcases hB.2.2 with ⟨e, _⟩ | ⟨g', c', cap', e, h1', h2', h3, h4, h5, h6⟩
          · cases e
          · cases e
            obtain ⟨news, e1, e2, e3, e4⟩ := key ((xs.drop lo).take n) g (lo * t'.size) c' T' (0, 0) h1' (fun i x hi => by
              rw [List.getElem?_take] at hi
              split at hi
              · rw [List.getElem?_drop] at hi
                rw [← Nat.add_mul]
                exact h5 (lo + i) x hi
              · cases hi)
            rw [hl] at e1
            exact ⟨_, cap, news, rfl, e1, e2, e3, .inr ⟨g, lo * t'.size, rfl, e4⟩⟩
      · cases h
    · cases h

theorem first_run {a : Option Addr} {m c size : Nat} {news : List Value} (hl : news.length = m * size) (h : m = 0 ∨ ∃ g o, a = some ⟨g, o, none⟩ ∧ ∀ j v, news[j]? = some v → w.cell? ⟨g, o + j, none⟩ = some v) :
    (Builtin.firstCells size m (.slice a m c)).run P w = .ok news.toArray w := by
  rcases h with rfl | ⟨g, o, rfl, h⟩
  · have : news = [] := List.eq_nil_of_length_eq_zero (by simpa using hl)
    subst this
    cases a with
    | none => exact run_firstCells_none w size 0 0 c
    | some ad => simp [Builtin.firstCells, loadCells, loadCellsFrom]
  · exact run_firstCells_some (P := P) w size m _ m c news hl (fun j v hv => by rw [add_at]; exact h j v hv)

theorem zeroCells_size (z : Array Value) (n : Nat) : (Builtin.zeroCells z n).size = n * z.size := size_zeroCells z n

/-- Room enough: the row is written on. -/
theorem run_append_fits {T ty e : TypeId} {i : TypeInfo} (ht : P.underlying T = some (.slice e)) (hi : P.info? e = some i) {g n cap : Nat} {cur : Array Value} (hg : w.heap[g]? = some (.cells cur e (0, 0))) {a : Option Addr} {m c : Nat} {news : List Value}
    (hl : news.length = m * i.size) (hsrc : m = 0 ∨ ∃ g o, a = some ⟨g, o, none⟩ ∧ ∀ j v, news[j]? = some v → w.cell? ⟨g, o + j, none⟩ = some v) (h1 : ∀ u ∈ news, u.oneCell' = true) (hroom : n + m ≤ cap) (hfit : n * i.size + news.length ≤ cur.size) :
    (Builtin.append_ #[T, T] ty #[.slice (some ⟨g, 0, none⟩) n cap, .slice a m c]).run P w =
      .ok (.slice (some ⟨g, 0, none⟩) (n + m) cap) (w.setRow g (cur.toList.take (n * i.size) ++ news ++ cur.toList.drop (n * i.size + news.length)).toArray) := by
  have hf := first_run (P := P) (w := w) (c := c) hl hsrc
  have hst := run_storeCells_at P g (n * i.size) e news 0 cur w hg (by simpa using hfit) h1
  simp only [Nat.add_zero] at hst
  have ha : (⟨g, 0, none⟩ : Addr).add (n * i.size) = ⟨g, n * i.size, none⟩ := by rw [add_at]; simp
  simp [Builtin.append_, run_underlying ht, sizeOf, typeInfo, hi, Builtin.lenOf, hroom, hf, ha, hst]

/-- Not room enough: a new row. -/
theorem run_append_new {T ty e : TypeId} {i : TypeInfo} {z : Value} (ht : P.underlying T = some (.slice e)) (hi : P.info? e = some i) (hz : i.zero = some z) {base : Option Addr} {n cap : Nat} {olds : List Value} {a : Option Addr} {m c : Nat} {news : List Value}
    (hlo : olds.length = n * i.size) (hold : n = 0 ∨ ∃ g o, base = some ⟨g, o, none⟩ ∧ ∀ j v, olds[j]? = some v → w.cell? ⟨g, o + j, none⟩ = some v)
    (hl : news.length = m * i.size) (hsrc : m = 0 ∨ ∃ g o, a = some ⟨g, o, none⟩ ∧ ∀ j v, news[j]? = some v → w.cell? ⟨g, o + j, none⟩ = some v) (hroom : ¬ n + m ≤ cap) (h63 : n + m ≤ 9223372036854775807) (hfit : Builtin.nextslicecap (n + m) cap * i.bytes ≤ 281474976710656) :
    (Builtin.append_ #[T, T] ty #[.slice base n cap, .slice a m c]).run P w =
      .ok (.slice (some ⟨w.heap.size, 0, none⟩) (n + m) (grownCap w (n + m) cap e)) (w.drew.alloc (.cells (olds.toArray ++ news.toArray ++ Builtin.zeroCells z.cells (grownCap w (n + m) cap e - (n + m))) e)) := by
  have hf := first_run (P := P) (w := w.drew) (c := c) hl (by simpa using hsrc)
  have hfo := first_run (P := P) (w := w.drew) (c := cap) hlo (by simpa using hold)
  have h63' : ¬ (9223372036854775807 < ((n : Int) + (m : Int))) := by omega
  have h48' : ¬ (281474976710656 < Builtin.nextslicecap (n + m) cap * i.bytes) := by omega
  simp [Builtin.append_, run_underlying ht, sizeOf, typeInfo, zeroValue, hi, hz, Builtin.lenOf, hroom, h63', h48', Question.forced, hf, hfo, newRow, grownCap]
  congr 2
  apply Array.ext'
  simp [List.append_assoc]
end
end Go.SM
