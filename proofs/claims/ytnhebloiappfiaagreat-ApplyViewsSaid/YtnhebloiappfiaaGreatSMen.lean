/- The S-machine: what a call is handed from outside is data; what a law's call comes to. -/
import Derived.Test.YtnhebloiappfiaaGreatSMtr
import Derived.ProofKit
import Derived.Carry
import Derived.SizedLaws
namespace Go.SM
set_option linter.unusedVariables false

/-! ### How many bytes -/
def Ty.al : Ty → Nat
  | .unit => 1
  | .u8 => 1
  | .bool => 1
  | .pair a b => max a.al b.al
  | _ => 8
def up (n a : Nat) : Nat := (n + a - 1) / a * a
def Ty.bytesFrom : Ty → Nat → Nat
  | .unit, n => n
  | .pair a b, n => b.bytesFrom (a.bytesFrom (up n a.al))
  | .u8, n => n + 1
  | .bool, n => n + 1
  | .str, n => n + 16
  | .slice _, n => n + 24
  | .i64, n => n + 8
  | .u64, n => n + 8
def Ty.bytes (t : Ty) : Nat := up (t.bytesFrom 0) t.al

/-- No slice takes more room than any machine has. -/
def Sz : (t : Ty) → t.den → Prop
  | .slice t, xs => xs.length * t.bytes ≤ 140737488351232 ∧ ∀ x ∈ xs, Sz t x
  | .pair a b, x => Sz a x.1 ∧ Sz b x.2
  | .str, s => s.length ≤ 140737488351232
  | _, _ => True

/-! ### Types that are data -/
mutual
def entOk (P : Program) : Nat → TypeId → Ty → Bool
  | 0, _, _ => false
  | n + 1, T, t => match P.underlying T, t with
    | some .bool, .bool => true
    | some (.int .i64), .i64 => true
    | some (.int .u64), .u64 => true
    | some (.int .u8), .u8 => true
    | some .string, .str => true
    | some (.slice e), .slice u => Nat.beq (P.cellsOf e) u.size && Nat.blt 0 u.size && Nat.beq (P.bytesOf e) u.bytes && Nat.blt 0 u.bytes && entOk P n e u
    | some (.struct fs), t => Nat.beq (P.cellsOf T) t.size && fieldsOk P n fs.toList 0 t
    | _, _ => false
def fieldsOk (P : Program) : Nat → List Field → Nat → Ty → Bool
  | n, [], off, .unit => true
  | n + 1, f :: r, off, .pair a b => Nat.beq f.offset off && Nat.beq (P.cellsOf f.type) a.size && entOk P n f.type a && fieldsOk P n r (off + a.size) b
  | _, _, _, _ => false
end

section
variable {H : Type} {enc : TypeId × Value → H} {P : Program} {w : World} {base : Nat} {spare : Nat → Bool} {held : Bool}

theorem map_some {α β : Type} {f : α → β} {x : Option α} {y : β} (h : x.map f = some y) : ∃ z, x = some z ∧ f z = y := by
  cases x with
  | none => cases h
  | some z => exact ⟨z, rfl, by simpa using h⟩
theorem bind_some {α β : Type} {f : α → Option β} {x : Option α} {y : β} (h : x.bind f = some y) : ∃ z, x = some z ∧ f z = some y := by
  cases x with
  | none => cases h
  | some z => exact ⟨z, rfl, h⟩
theorem mapM_get {α β : Type} {f : α → Option β} : ∀ {l : List α} {r : List β}, l.mapM f = some r → r.length = l.length ∧ ∀ (i : Nat) (x : α), l[i]? = some x → ∃ y, f x = some y ∧ r[i]? = some y
  | [], r, h => by
    simp at h
    subst h
    exact ⟨rfl, fun i x hx => by simp at hx⟩
  | a :: l, r, h => by
    rw [List.mapM_cons] at h
    obtain ⟨y, hy, h⟩ := bind_some h
    obtain ⟨ys, hys, h⟩ := bind_some h
    cases h
    obtain ⟨h1, h2⟩ := mapM_get hys
    refine ⟨by simp [h1], fun i x hx => ?_⟩
    cases i with
    | zero => simp at hx; subst hx; exact ⟨y, hy, rfl⟩
    | succ i => simp at hx; obtain ⟨z, hz, hr⟩ := h2 i x hx; exact ⟨z, hz, by simpa using hr⟩
theorem exists_list {α : Type} {Q : Nat → α → Prop} : ∀ (n : Nat), (∀ i, i < n → ∃ x, Q i x) → ∃ xs : List α, xs.length = n ∧ ∀ i x, xs[i]? = some x → Q i x
  | 0, _ => ⟨[], rfl, fun i x h => by simp at h⟩
  | n + 1, h => by
    obtain ⟨xs, hl, hx⟩ := exists_list n fun i hi => h i (by omega)
    obtain ⟨x, hq⟩ := h n (by omega)
    refine ⟨xs ++ [x], by simp [hl], fun i y hy => ?_⟩
    by_cases hi : i < xs.length
    · rw [List.getElem?_append_left hi] at hy; exact hx i y hy
    · rw [List.getElem?_append_right (by omega)] at hy
      have : i - xs.length = 0 := by
        rcases Nat.eq_zero_or_pos (i - xs.length) with h0 | h0
        · exact h0
        · rw [List.getElem?_eq_none (by simp; omega)] at hy; cases hy
      rw [this] at hy
      simp at hy
      subst hy
      rw [show i = n by omega]
      exact hq

theorem all_append {l r : List Nat} {b : Nat} (h : (l ++ r).all (· ≤ b) = true) : l.all (· ≤ b) = true ∧ r.all (· ≤ b) = true := by
  rw [List.all_append, Bool.and_eq_true] at h; exact h
theorem weightsAll_mem {e : TypeId} {b : Nat} : ∀ {l : List (DataW H)}, (DataW.weightsAll P e l).all (· ≤ b) = true → ∀ d ∈ l, (d.weights P e).all (· ≤ b) = true
  | [], _, d, hd => by simp at hd
  | x :: l, h, d, hd => by
    unfold DataW.weightsAll at h
    obtain ⟨h1, h2⟩ := all_append h
    rcases List.mem_cons.1 hd with rfl | hd
    · exact h1
    · exact weightsAll_mem h2 d hd

/-- What memory holds at a place, as cells. -/
theorem cells_row {a : Addr} {n : Nat} {cs : List Value} (h : w.cells? base a n = some cs) (hn : 0 < n) : ∃ c T fr, w.heap[a.block]? = some (.cells c T fr) ∧ cs = (c.toList.drop a.off).take n := by
  unfold World.cells? at h
  split at h
  · obtain ⟨hl, hx⟩ := mapM_get h
    simp only [List.length_range] at hl
    obtain ⟨v0, hv0, _⟩ := hx 0 0 (by simp [hn])
    have h0 : a.add 0 = a := by simp [Addr.add]
    rw [h0] at hv0
    unfold World.cell? at hv0
    split at hv0
    · rename_i c T fr hc
      refine ⟨c, T, fr, hc, ?_⟩
      apply List.ext_getElem?
      intro i
      by_cases hi : i < n
      · obtain ⟨v, hv, hr⟩ := hx i i (by simp [hi])
        rw [hr, List.getElem?_take, if_pos hi, List.getElem?_drop]
        unfold World.cell? at hv
        have e : (a.add i).block = a.block ∧ (a.add i).off = a.off + i := by
          unfold Addr.add
          split
          · rename_i h0; subst h0; exact ⟨rfl, rfl⟩
          · exact ⟨rfl, rfl⟩
        rw [e.1, hc] at hv
        simp only at hv
        split at hv
        · cases hv
        · rw [e.2] at hv
          simpa using hv.symm
      · rw [List.getElem?_eq_none (by omega), List.getElem?_take, if_neg hi]
    · cases hv0
  · cases h

variable {fuel : Nat} {T : TypeId} {cs : List Value} {d : DataW H} {ps : List MemPlace}
theorem trod_bool (hT : P.underlying T = some .bool) (h : DataW.trod enc P w base spare held (fuel + 1) T cs = some (d, ps)) : ∃ b, cs = [.bool b] := by
  unfold DataW.trod at h
  rw [hT] at h
  split at h <;> simp_all
theorem trod_int {k : IntKind} (hT : P.underlying T = some (.int k)) (h : DataW.trod enc P w base spare held (fuel + 1) T cs = some (d, ps)) : ∃ n, cs = [.int k n] ∧ (Lit.int k n).wf = true := by
  unfold DataW.trod at h
  rw [hT] at h
  split at h <;> simp_all
theorem trod_str (hT : P.underlying T = some .string) (h : DataW.trod enc P w base spare held (fuel + 1) T cs = some (d, ps)) : ∃ s, cs = [.string s] ∧ d = .lit (.string s.data.toList) := by
  unfold DataW.trod at h
  rw [hT] at h
  split at h <;> simp_all
theorem trod_slice {e : TypeId} (hT : P.underlying T = some (.slice e)) (h : DataW.trod enc P w base spare held (fuel + 1) T cs = some (d, ps)) :
    (cs = [.slice none 0 0]) ∨ ∃ (a : Addr) (len cap : Nat) (elems rest : List (DataW H × List MemPlace)), cs = [.slice (some a) len cap] ∧ len ≤ cap ∧ d = .slice (elems.map (·.1)) (rest.map (·.1)) ∧
      (List.range len).mapM (fun i => (w.cells? base (a.add (i * P.cellsOf e)) (P.cellsOf e)).bind (DataW.trod enc P w base spare held fuel e)) = some elems := by
  unfold DataW.trod at h
  rw [hT] at h
  split at h <;> simp_all
  obtain ⟨⟨h1, h2, h3⟩, h⟩ := h
  obtain ⟨elems, he, h⟩ := bind_some h
  obtain ⟨rest, hr, h⟩ := map_some h
  cases h
  exact ⟨_, _, _, ⟨rfl, rfl, rfl⟩, h2, elems, ⟨rest, rfl⟩, he⟩
theorem trod_struct {fs : Array Field} (hT : P.underlying T = some (.struct fs)) (h : DataW.trod enc P w base spare held (fuel + 1) T cs = some (d, ps)) :
    cs.length = P.cellsOf T ∧ ∃ xs : List (DataW H × List MemPlace), fs.toList.mapM (fun f => DataW.trod enc P w base spare held fuel f.type ((cs.drop f.offset).take (P.cellsOf f.type))) = some xs ∧ d = .agg (xs.map (·.1)) := by
  unfold DataW.trod at h
  rw [hT] at h
  split at h <;> simp_all
  obtain ⟨h0, xs, hx, hd, hp⟩ := h
  exact ⟨xs, hx, hd.symm⟩

theorem wf_i64 {n : Int} (h : (Lit.int .i64 n).wf = true) : -9223372036854775808 ≤ n ∧ n < 9223372036854775808 := by
  simp [Lit.wf, IntKind.min, IntKind.max, IntKind.signed, IntKind.bits] at h
  omega
theorem wf_u64 {n : Int} (h : (Lit.int .u64 n).wf = true) : 0 ≤ n ∧ n < 18446744073709551616 := by
  simp [Lit.wf, IntKind.min, IntKind.max, IntKind.signed, IntKind.bits] at h
  omega
theorem wf_u8 {n : Int} (h : (Lit.int .u8 n).wf = true) : 0 ≤ n ∧ n < 256 := by
  simp [Lit.wf, IntKind.min, IntKind.max, IntKind.signed, IntKind.bits] at h
  omega

theorem weightsEach_get : ∀ {ts : List TypeId} {ds : List (DataW H)} {b i : Nat} {T : TypeId} {d : DataW H}, (DataW.weightsEach P ts ds).all (· ≤ b) = true → ts[i]? = some T → ds[i]? = some d → (d.weights P T).all (· ≤ b) = true
  | [], _, _, _, _, _, _, h, _ => by simp at h
  | _ :: _, [], _, _, _, _, _, _, h => by simp at h
  | t :: ts, x :: ds, b, 0, T, d, h, h1, h2 => by
    simp at h1 h2
    subst h1; subst h2
    unfold DataW.weightsEach at h
    exact (all_append h).1
  | t :: ts, x :: ds, b, i + 1, T, d, h, h1, h2 => by
    unfold DataW.weightsEach at h
    exact weightsEach_get (all_append h).2 (by simpa using h1) (by simpa using h2)

mutual
theorem trod_ER : ∀ (n fuel : Nat) (T : TypeId) (t : Ty) (cs : List Value) (d : DataW H) (ps : List MemPlace), entOk P n T t = true → DataW.trod enc P w base spare held fuel T cs = some (d, ps) → (d.weights P T).all (· ≤ reachBytes) = true →
    ∃ x : t.den, ER w (fun b => b < w.heap.size) t x cs ∧ Sz t x
  | 0, _, _, _, _, _, _, h, _, _ => by simp [entOk] at h
  | n + 1, 0, _, _, _, _, _, _, h, _ => by simp [DataW.trod] at h
  | n + 1, fuel + 1, T, t, cs, d, ps, he, h, hz => by
    unfold entOk at he
    split at he
    · rename_i hT
      obtain ⟨b, rfl⟩ := trod_bool hT h
      exact ⟨b, rfl, trivial⟩
    · rename_i hT
      obtain ⟨m, rfl, hw⟩ := trod_int hT h
      exact ⟨m, ⟨rfl, wf_i64 hw⟩, trivial⟩
    · rename_i hT
      obtain ⟨m, rfl, hw⟩ := trod_int hT h
      have hw := wf_u64 hw
      exact ⟨UInt64.ofNat m.toNat, by simp only [ER]; rw [toNat_ofNat64 hw.1 hw.2], trivial⟩
    · rename_i hT
      obtain ⟨m, rfl, hw⟩ := trod_int hT h
      have hw := wf_u8 hw
      exact ⟨UInt8.ofNat m.toNat, by simp only [ER]; rw [toNat_ofNat8 hw.1 hw.2], trivial⟩
    · rename_i hT
      obtain ⟨s, rfl, rfl⟩ := trod_str hT h
      have hz' : s.data.toList.length ≤ 140737488351232 := by
        have := List.all_eq_true.1 hz s.data.toList.length (by simp [DataW.weights])
        exact of_decide_eq_true this
      exact ⟨s.data.toList, ⟨s, rfl, rfl, by simp only [big]; omega⟩, hz'⟩
    · rename_i e u hT
      simp only [Bool.and_eq_true, Nat.beq_eq, Nat.blt_eq] at he
      obtain ⟨⟨⟨⟨h1, h2⟩, h3⟩, h4⟩, h5⟩ := he
      rcases trod_slice hT h with rfl | ⟨a, len, cap, elems, rest, rfl, hlc, rfl, hm⟩
      · exact ⟨[], ⟨none, 0, rfl, ⟨Nat.zero_le _, Nat.zero_le _⟩, fun h => absurd h (Nat.lt_irrefl 0)⟩, by simp, fun x hx => by simp at hx⟩
      · obtain ⟨hl, hx⟩ := mapM_get hm
        simp only [List.length_range] at hl
        unfold DataW.weights at hz
        rw [hT] at hz
        simp only [List.all_cons, Bool.and_eq_true, decide_eq_true_eq, List.length_map, hl] at hz
        obtain ⟨hz1, hz2⟩ := hz
        have hz2 := weightsAll_mem (all_append hz2).1
        have hbytes : len * u.bytes ≤ 140737488351232 := by
          have : len * u.bytes ≤ (len + rest.length) * u.bytes := Nat.mul_le_mul_right _ (by omega)
          rw [← h3] at this ⊢
          have hr : reachBytes = 140737488351232 := rfl
          omega
        have hlen : len ≤ 140737488351232 := Nat.le_trans (Nat.le_mul_of_pos_right _ h4) hbytes
        have each : ∀ i, i < len → ∃ x : u.den, ∃ c T' fr, w.heap[a.block]? = some (.cells c T' fr) ∧ ER w (fun b => b < w.heap.size) u x ((c.toList.drop (a.off + i * u.size)).take u.size) ∧ Sz u x := by
          intro i hi
          obtain ⟨y, hy, hr⟩ := hx i i (by simp [hi])
          obtain ⟨cells, hc, ht⟩ := bind_some hy
          obtain ⟨y1, y2⟩ := y
          obtain ⟨c, T', fr, hg, rfl⟩ := cells_row hc (by rw [h1]; exact h2)
          have hin : y1 ∈ elems.map (·.1) := List.mem_map.2 ⟨(y1, y2), List.mem_of_getElem? hr, rfl⟩
          obtain ⟨x, hx1, hx2⟩ := trod_ER n fuel e u _ y1 y2 h5 ht (hz2 y1 hin)
          have ea : (a.add (i * P.cellsOf e)).block = a.block ∧ (a.add (i * P.cellsOf e)).off = a.off + i * P.cellsOf e := by
            unfold Addr.add
            split
            · rename_i h0; rw [h0]; exact ⟨rfl, rfl⟩
            · exact ⟨rfl, rfl⟩
          rw [ea.1] at hg
          rw [ea.2, h1] at hx1
          exact ⟨x, c, T', fr, hg, hx1, hx2⟩
        rcases Nat.eq_zero_or_pos len with rfl | hp
        · exact ⟨[], ⟨some a, cap, rfl, ⟨Nat.zero_le _, Nat.zero_le _⟩, fun h => absurd h (Nat.lt_irrefl 0)⟩, by simp, fun x hx => by simp at hx⟩
        · obtain ⟨_, c, T', fr, hg, _, _⟩ := each 0 hp
          have each' : ∀ i, i < len → ∃ x : u.den, ER w (fun b => b < w.heap.size) u x ((c.toList.drop (a.off + i * u.size)).take u.size) ∧ Sz u x := by
            intro i hi
            obtain ⟨x, c', T'', fr', hg', h6, h7⟩ := each i hi
            rw [hg] at hg'
            cases hg'
            exact ⟨x, h6, h7⟩
          obtain ⟨xs, hxl, hxs⟩ := exists_list len each'
          have hspot : a = ⟨a.block, a.off, none⟩ := by
            obtain ⟨y, hy, _⟩ := hx 0 0 (by simp [hp])
            obtain ⟨cells, hc, _⟩ := bind_some hy
            have h0 : a.add (0 * P.cellsOf e) = a := by simp [Addr.add]
            rw [h0] at hc
            obtain ⟨_, _, hcell⟩ := World.cells?_some hc
            have hcl := (World.cells?_some hc).2.1
            have := hcell 0 (by rw [h1]; exact h2)
            have h00 : a.add 0 = a := by simp [Addr.add]
            rw [h00] at this
            unfold World.cell? at this
            rw [hg] at this
            simp only at this
            cases hs : a.spot with
            | none => cases a; simp_all
            | some q =>
              rw [hs] at this
              simp only [Option.isSome_some, if_true] at this
              rw [List.getElem?_eq_getElem (by rw [hcl, h1]; exact h2)] at this
              cases this
          refine ⟨xs, ⟨some a, cap, by rw [hxl], ⟨by rw [hxl]; exact hlc, by rw [hxl]; simp only [big]; omega⟩, fun _ => ⟨a.block, a.off, c, T', fr, by rw [← hspot], (Array.getElem?_eq_some_iff.1 hg).1, hg, fun i x hi => (hxs i x hi).1⟩⟩, by rw [hxl]; exact hbytes, fun x hx => ?_⟩
          obtain ⟨i, hi⟩ := List.mem_iff_getElem?.1 hx
          exact (hxs i x hi).2
    · rename_i t _ _ fs hT
      simp only [Bool.and_eq_true, Nat.beq_eq] at he
      obtain ⟨hl, xs, hx, rfl⟩ := trod_struct hT h
      unfold DataW.weights at hz
      rw [hT] at hz
      obtain ⟨x, h1, h2⟩ := fields_ER n fuel fs.toList 0 t cs xs he.2 (by omega) hx (by simpa using hz)
      exact ⟨x, by simpa [List.take_of_length_le (show cs.length ≤ t.size by omega)] using h1, h2⟩
    · cases he
theorem fields_ER : ∀ (n fuel : Nat) (fs : List Field) (off : Nat) (t : Ty) (cs : List Value) (xs : List (DataW H × List MemPlace)), fieldsOk P n fs off t = true → off + t.size ≤ cs.length →
    fs.mapM (fun f => DataW.trod enc P w base spare held fuel f.type ((cs.drop f.offset).take (P.cellsOf f.type))) = some xs → (DataW.weightsEach P (fs.map (·.type)) (xs.map (·.1))).all (· ≤ reachBytes) = true →
    ∃ x : t.den, ER w (fun b => b < w.heap.size) t x ((cs.drop off).take t.size) ∧ Sz t x
  | n, fuel, [], off, t, cs, xs, he, hl, h, hz => by
    cases t <;> simp [fieldsOk] at he
    exact ⟨(), by simp [ER, Ty.size], trivial⟩
  | 0, fuel, f :: fs, off, t, cs, xs, he, hl, h, hz => by cases t <;> simp [fieldsOk] at he
  | n + 1, fuel, f :: fs, off, t, cs, xs, he, hl, h, hz => by
    cases t <;> try (simp [fieldsOk] at he; done)
    rename_i a b
    simp only [fieldsOk, Bool.and_eq_true, Nat.beq_eq] at he
    obtain ⟨⟨⟨rfl, h2⟩, h3⟩, h4⟩ := he
    rw [List.mapM_cons] at h
    obtain ⟨y, hy, h⟩ := bind_some h
    obtain ⟨ys, hys, h⟩ := bind_some h
    cases h
    simp only [List.map_cons] at hz
    unfold DataW.weightsEach at hz
    obtain ⟨hz1, hz2⟩ := all_append hz
    simp only [Ty.size] at hl
    obtain ⟨y1, y2⟩ := y
    obtain ⟨x, hx1, hx2⟩ := trod_ER n fuel f.type a _ y1 y2 h3 hy hz1
    obtain ⟨z, hz3, hz4⟩ := fields_ER n fuel fs (f.offset + a.size) b cs ys h4 (by omega) hys hz2
    refine ⟨(x, z), ⟨_, _, ?_, hx1, hz3⟩, hx2, hz4⟩
    rw [h2]
    simp only [Ty.size]
    rw [List.take_add, List.drop_drop]
end
end
end Go.SM
