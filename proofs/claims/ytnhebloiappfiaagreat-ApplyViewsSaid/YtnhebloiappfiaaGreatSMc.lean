/- The S-machine, part c: steps of the memory's side. -/
import Derived.Test.YtnhebloiappfiaaGreatSMb
namespace Go.SM
set_option linter.unusedVariables false

section
variable {P : Program} {F : Nat → Prop} {μ : List (Option Nat)} {b : List Blk} {w w' : World}

theorem mu_get {k : Nat} {m : Nat} (h : μ[k]? = some (some m)) : μ.getD k none = some m := by simp [List.getD_eq_getElem?_getD, h]
theorem mu_of_getD {k : Nat} {m : Nat} (h : μ.getD k none = some m) : μ[k]? = some (some m) := by
  rw [List.getD_eq_getElem?_getD] at h
  cases hk : μ[k]? with
  | none => simp [hk] at h
  | some x => simp [hk] at h; rw [h]

theorem isMut_lt {k : Nat} (h : isMut b k = true) : k < b.length := by
  unfold isMut at h
  cases hk : b[k]? with
  | none => simp [hk] at h
  | some x => exact (List.getElem?_eq_some_iff.1 hk).1

theorem isMut_at {k : Nat} {x : Blk} (h : b[k]? = some x) : isMut b k = x.mut := by simp [isMut, h]

/-- A mutable block lies in memory below its size. -/
theorem MemR.lt (h : MemR P F μ b w) {k m : Nat} (hk : isMut b k = true) (hm : μ[k]? = some (some m)) : m < w.heap.size := by
  have hlt := isMut_lt hk
  have hb := h.blk k b[k] (List.getElem?_eq_getElem hlt)
  rw [isMut_at (List.getElem?_eq_getElem hlt)] at hk
  rw [mu_get hm] at hb
  cases hx : b[k] with
  | gone => rw [hx] at hk; simp [Blk.mut] at hk
  | hole => rw [hx] at hk; simp [Blk.mut] at hk
  | cells T cs =>
    rw [hx] at hb
    obtain ⟨m', c, e, h1, _⟩ := hb
    cases e
    exact (Array.getElem?_eq_some_iff.1 h1).1
  | row T t xs fz =>
    rw [hx] at hb
    rcases hb.2.2 with ⟨e, _⟩ | ⟨m', c, cap, e, h1, _⟩
    · cases e
    · cases e
      exact (Array.getElem?_eq_some_iff.1 h1).1

/-- One block more. -/
theorem Grow.push (hF : ∀ x, F x → w'.heap[x]? = w.heap[x]?) (hs : ∀ (x : Nat) (c : Array Value) (T : TypeId), w.heap[x]? = some (.cells c T (0, 0)) → w'.heap[x]? = some (.cells c T (0, 0))) (m : Option Nat) (x : Blk) :
    Grow F μ b w F (μ ++ [m]) (b ++ [x]) w' :=
  ⟨fun _ h => h, hF, fun y c T h => ⟨c, hs y c T h, rfl⟩,
    fun k y h _ => by rw [List.getElem?_append_left (List.getElem?_eq_some_iff.1 h).1]; exact h,
    fun k y h => ⟨y, by rw [List.getElem?_append_left (List.getElem?_eq_some_iff.1 h).1]; exact h, Sim.refl y⟩⟩

theorem isMut_push {x : Blk} {k : Nat} (h : isMut (b ++ [x]) k = true) : (isMut b k = true ∧ k < b.length) ∨ (k = b.length ∧ x.mut = true) := by
  have hlt := isMut_lt h
  simp at hlt
  by_cases hk : k < b.length
  · exact .inl ⟨by unfold isMut at h ⊢; rwa [List.getElem?_append_left hk] at h, hk⟩
  · have : k = b.length := by omega
    subst this
    exact .inr ⟨rfl, by simpa [isMut] using h⟩

theorem Upd.push (h : MemR P F μ b w) (hk : Keep w (fun _ => False) w') (hF : ∀ (x : Nat) (y : Obj), w.heap[x]? = some y → w'.heap[x]? = some y) {m : Option Nat} {x : Blk}
    (hx : BlkR P w' F (μ ++ [m]) (b ++ [x]) m x) (hm : ∀ k, m = some k → w.heap.size ≤ k) : Upd P F μ b w F (μ ++ [m]) (b ++ [x]) w' := by
  have hF' : ∀ x, F x → w'.heap[x]? = w.heap[x]? := fun x hx => by
    have := h.here x hx
    rw [hF x w.heap[x] (Array.getElem?_eq_getElem this), Array.getElem?_eq_getElem this]
  have g : Grow F μ b w F (μ ++ [m]) (b ++ [x]) w' := Grow.push hF' (fun x c T h => hF x _ h) m x
  refine ⟨g, ⟨by simp [h.len], ?_, ?_, ?_, fun x hx => Nat.lt_of_lt_of_le (h.here x hx) hk.size⟩, ⟨hk.os, hk.tape, hk.output, hk.size, fun x hx _ => hk.block x hx (fun h => h), hk.shape⟩, ?_, fun _ h => .inl h⟩
  · intro k y hy
    by_cases hlt : k < b.length
    · rw [List.getElem?_append_left hlt] at hy
      have e : (μ ++ [m]).getD k none = μ.getD k none := by simp [List.getD_eq_getElem?_getD, List.getElem?_append_left (show k < μ.length by rw [h.len]; exact hlt)]
      rw [e]
      exact BlkR.mono g (fun j o _ ho => hF j o ho) (h.blk k y hy)
    · have hl := (List.getElem?_eq_some_iff.1 hy).1
      simp at hl
      have hke : k = b.length := by omega
      subst hke
      have e : (μ ++ [m]).getD b.length none = m := by rw [← h.len]; simp [List.getD_eq_getElem?_getD]
      rw [e]
      simp at hy
      subst hy
      exact hx
  · intro k y hk' hy hf
    rcases isMut_push hk' with ⟨h1, h2⟩ | ⟨rfl, h2⟩
    · rw [List.getElem?_append_left (by rw [h.len]; exact h2)] at hy
      exact h.apart k y h1 hy hf
    · rw [← h.len] at hy
      simp at hy
      have := hm y hy
      have := h.here y hf
      omega
  · intro k k' y h1 h2 h3 h4
    rcases isMut_push h1 with ⟨a1, a2⟩ | ⟨rfl, a2⟩ <;> rcases isMut_push h2 with ⟨c1, c2⟩ | ⟨rfl, c2⟩
    · rw [List.getElem?_append_left (by rw [h.len]; exact a2)] at h3
      rw [List.getElem?_append_left (by rw [h.len]; exact c2)] at h4
      exact h.inj k k' y a1 c1 h3 h4
    · rw [List.getElem?_append_left (by rw [h.len]; exact a2)] at h3
      rw [← h.len] at h4
      simp at h4
      have := hm y h4
      have := h.lt a1 h3
      omega
    · rw [List.getElem?_append_left (by rw [h.len]; exact c2)] at h4
      rw [← h.len] at h3
      simp at h3
      have := hm y h3
      have := h.lt c1 h4
      omega
    · rfl
  · intro k y hk' hy
    rcases isMut_push hk' with ⟨h1, h2⟩ | ⟨rfl, h2⟩
    · rw [List.getElem?_append_left (by rw [h.len]; exact h2)] at hy
      exact .inl ⟨k, h1, hy⟩
    · rw [← h.len] at hy
      simp at hy
      exact .inr (hm y hy)

theorem Keep.alloc (w : World) (o : Obj) : Keep w (fun _ => False) (w.alloc o) :=
  ⟨rfl, rfl, rfl, by simp, fun x hx _ => heap_alloc_old w o x hx, fun x c T h => ⟨c, by rw [heap_alloc_old w o x (Array.getElem?_eq_some_iff.1 h).1]; exact h, rfl⟩⟩
theorem alloc_old (w : World) (o : Obj) : ∀ (x : Nat) (y : Obj), w.heap[x]? = some y → (w.alloc o).heap[x]? = some y :=
  fun x y h => by rw [heap_alloc_old w o x (Array.getElem?_eq_some_iff.1 h).1]; exact h

/-- A new box. -/
theorem Upd.box (h : MemR P F μ b w) {T : TypeId} {cs : List Cell} {c : Array Value} (hc : All2 (CellR P w F μ b) cs c.toList) :
    Upd P F μ b w F (μ ++ [some w.heap.size]) (b ++ [.cells T cs]) (w.alloc (.cells c T)) := by
  refine Upd.push h (Keep.alloc w _) (alloc_old w _) ?_ (fun k hk => by cases hk; exact Nat.le_refl _)
  have g : Grow F μ b w F (μ ++ [some w.heap.size]) (b ++ [.cells T cs]) (w.alloc (.cells c T)) :=
    Grow.push (fun x hx => heap_alloc_old w _ x (h.here x hx)) (fun x c' T' hx => alloc_old w _ x _ hx) _ _
  have hl : c.toList.take cs.length = c.toList := List.take_of_length_le (by have := hc.1; simp at this ⊢; omega)
  exact ⟨_, c, rfl, heap_alloc_new w _, by have := hc.1; simp at this; omega, by rw [hl]; exact hc.mono fun _ _ => CellR.mono g⟩

/-- A new row. -/
theorem Upd.row (h : MemR P F μ b w) (hk : Keep w (fun _ => False) w') (hF : ∀ (x : Nat) (y : Obj), w.heap[x]? = some y → w'.heap[x]? = some y)
    {T : TypeId} {t : Ty} {xs : List t.den} {c : Array Value} {cap m : Nat} (hnew : w'.heap[m]? = some (.cells c T (0, 0))) (hm : w.heap.size ≤ m) (hb : xs.length ≤ big) (ht : 0 < t.size) (hc : c.size = cap * t.size) (hl : xs.length ≤ cap) (hcap : cap ≤ maxLen)
    (hx : ∀ i x, xs[i]? = some x → ER w F t x ((c.toList.drop (i * t.size)).take t.size)) : Upd P F μ b w F (μ ++ [some m]) (b ++ [.row T t xs false]) w' := by
  refine Upd.push h hk hF ⟨hb, ht, .inr ⟨m, c, cap, rfl, hnew, hc, hl, hcap, fun i x hi => ?_, fun h => by cases h⟩⟩ (fun k hk => by cases hk; exact hm)
  refine ER_mono (fun _ h => h) (fun x hx => ?_) t _ _ (hx i x hi)
  have := h.here x hx
  rw [hF x _ (Array.getElem?_eq_getElem this), Array.getElem?_eq_getElem this]

/-- A row that has no memory yet. -/
theorem Upd.nilrow (h : MemR P F μ b w) (T : TypeId) (t : Ty) (ht : 0 < t.size) : Upd P F μ b w F (μ ++ [none]) (b ++ [.row T t [] false]) w :=
  Upd.push h (.refl _ _) (fun _ _ h => h) ⟨Nat.zero_le _, ht, .inl ⟨rfl, rfl⟩⟩ (fun _ h => by cases h)

theorem isMut_set {k j : Nat} {x : Blk} (h : isMut (b.set k x) j = true) : (j = k ∧ x.mut = true ∧ k < b.length) ∨ (j ≠ k ∧ isMut b j = true) := by
  unfold isMut at h
  rw [List.getElem?_set] at h
  by_cases hk : k = j
  · subst hk
    simp only [if_true] at h
    split at h
    · exact .inl ⟨rfl, by simpa using h, by assumption⟩
    · simp at h
  · rw [if_neg hk] at h
    exact .inr ⟨fun e => hk e.symm, by unfold isMut; exact h⟩

/-- A row is frozen. -/
theorem Upd.freeze (h : MemR P F μ b w) {k : Nat} {T : TypeId} {t : Ty} {xs : List t.den} {fz : Bool} (hk : b[k]? = some (.row T t xs fz)) :
    Upd P F μ b w (fun x => F x ∨ μ[k]? = some (some x)) μ (b.set k (.row T t xs true)) w := by
  have hlt := (List.getElem?_eq_some_iff.1 hk).1
  have hB := h.blk k _ hk
  have g : Grow F μ b w (fun x => F x ∨ μ[k]? = some (some x)) μ (b.set k (.row T t xs true)) w := by
    refine ⟨fun x h => .inl h, fun _ _ => rfl, fun _ c _ h => ⟨c, h, rfl⟩, fun _ _ h _ => h, fun j y hy => ?_⟩
    by_cases hj : k = j
    · subst hj
      rw [hk] at hy
      cases hy
      exact ⟨_, by simp [hlt], .inr ⟨xs, true, rfl, rfl⟩⟩
    · exact ⟨y, by rw [List.getElem?_set_ne hj]; exact hy, Sim.refl y⟩
  refine ⟨g, ⟨by simp [h.len], ?_, ?_, ?_, ?_⟩, .refl _ _, ?_, ?_⟩
  · intro j y hy
    by_cases hj : k = j
    · subst hj
      simp [hlt] at hy
      subst hy
      refine ⟨hB.1, hB.2.1, ?_⟩
      rcases hB.2.2 with hn | ⟨m, c, cap, h1, h2, h3, h4, h5, h6, h7⟩
      · exact .inl hn
      · exact .inr ⟨m, c, cap, h1, h2, h3, h4, h5, fun i x hi => ER_mono g.le g.heap t _ _ (h6 i x hi), fun _ => .inr (mu_of_getD h1)⟩
    · rw [List.getElem?_set_ne hj] at hy
      exact BlkR.mono g (fun _ _ _ h => h) (h.blk j y hy)
  · intro j y hj hy hf
    rcases isMut_set hj with ⟨rfl, h2, _⟩ | ⟨hne, hj'⟩
    · simp [Blk.mut] at h2
    · rcases hf with hf | hf
      · exact h.apart j y hj' hy hf
      · cases fz with
        | false => exact hne (h.inj j k y hj' (by simp [isMut, hk, Blk.mut]) hy hf)
        | true =>
          rcases hB.2.2 with ⟨hn, _⟩ | ⟨m, c, cap, h1, _, _, _, _, _, h7⟩
          · rw [mu_get hf] at hn; cases hn
          · rw [mu_get hf] at h1
            cases h1
            exact h.apart j y hj' hy (h7 rfl)
  · intro j j' y h1 h2 h3 h4
    rcases isMut_set h1 with ⟨rfl, e, _⟩ | ⟨n1, e1⟩
    · simp [Blk.mut] at e
    · rcases isMut_set h2 with ⟨rfl, e, _⟩ | ⟨n2, e2⟩
      · simp [Blk.mut] at e
      · exact h.inj j j' y e1 e2 h3 h4
  · intro x hf
    rcases hf with hf | hf
    · exact h.here x hf
    · rcases hB.2.2 with ⟨hn, _⟩ | ⟨m, c, cap, h1, h2, _⟩
      · rw [mu_get hf] at hn; cases hn
      · rw [mu_get hf] at h1
        cases h1
        exact (Array.getElem?_eq_some_iff.1 h2).1
  · intro j y hj hy
    rcases isMut_set hj with ⟨rfl, h2, _⟩ | ⟨hne, hj'⟩
    · simp [Blk.mut] at h2
    · exact .inl ⟨j, hj', hy⟩
  · intro x hx
    rcases hx with hx | hx
    · exact .inl hx
    · cases fz with
      | false => exact .inr (.inl ⟨k, by simp [isMut, hk, Blk.mut], hx⟩)
      | true =>
        rcases hB.2.2 with ⟨hn, _⟩ | ⟨m, c, cap, h1, _, _, _, _, _, h7⟩
        · rw [mu_get hx] at hn; cases hn
        · rw [mu_get hx] at h1
          cases h1
          exact .inl (h7 rfl)

/-- A block that may be written is written. -/
theorem Upd.write (h : MemR P F μ b w) {k m : Nat} {x x' : Blk} {T : TypeId} {c c' : Array Value} (hk : b[k]? = some x) (hmut : x.mut = true) (hmut' : x'.mut = true) (hm : μ[k]? = some (some m)) (hc : w.heap[m]? = some (.cells c T (0, 0))) (hs : c'.size = c.size) (sim : Sim x x')
    (hx : Grow F μ b w F μ (b.set k x') (w.setRow m c') → BlkR P (w.setRow m c') F μ (b.set k x') (some m) x') : Upd P F μ b w F μ (b.set k x') (w.setRow m c') := by
  have hlt := (List.getElem?_eq_some_iff.1 hk).1
  have hmk : isMut b k = true := by simp [isMut, hk, hmut]
  have hnF := h.apart k m hmk hm
  have g : Grow F μ b w F μ (b.set k x') (w.setRow m c') := by
    refine ⟨fun _ h => h, fun y hy => setRow_other w m y c' (fun e => hnF (e ▸ hy)), fun y c1 T1 h1 => ?_, fun _ _ h _ => h, fun j y hy => ?_⟩
    · by_cases hy : y = m
      · subst hy
        rw [hc] at h1
        cases h1
        exact ⟨c', setRow_heap w y c c' T _ hc, hs⟩
      · exact ⟨c1, (setRow_other w m y c' hy).trans h1, rfl⟩
    · by_cases hj : k = j
      · subst hj
        rw [hk] at hy
        cases hy
        exact ⟨x', by simp [hlt], sim⟩
      · exact ⟨y, by rw [List.getElem?_set_ne hj]; exact hy, Sim.refl y⟩
  refine ⟨g, ⟨by simp [h.len], ?_, ?_, ?_, fun y hy => by simpa using h.here y hy⟩, ⟨rfl, rfl, rfl, by simp, fun y hy hn => setRow_other w m y c' (fun e => hn ⟨k, hmk, e ▸ hm⟩), g.shape⟩, ?_, fun _ h => .inl h⟩
  · intro j y hy
    by_cases hj : k = j
    · subst hj
      simp [hlt] at hy
      subst hy
      rw [mu_get hm]
      exact hx g
    · rw [List.getElem?_set_ne hj] at hy
      have hyB := h.blk j y hy
      by_cases he : μ.getD j none = some m
      · -- another block at the same place: it is frozen, or gone; a frozen one would lie in F
        cases y with
        | gone => trivial
        | hole => rw [he] at hyB; cases hyB
        | cells T' cs' => exact absurd (h.inj j k m (by simp [isMut, hy, Blk.mut]) hmk (mu_of_getD he) hm) (fun e => hj e.symm)
        | row T' t' xs' fz' =>
          cases fz' with
          | false => exact absurd (h.inj j k m (by simp [isMut, hy, Blk.mut]) hmk (mu_of_getD he) hm) (fun e => hj e.symm)
          | true =>
            rcases hyB.2.2 with ⟨hn, _⟩ | ⟨m', c1, cap, h1, _, _, _, _, _, h7⟩
            · rw [he] at hn; cases hn
            · rw [he] at h1
              cases h1
              exact absurd (h7 rfl) hnF
      · exact BlkR.mono g (fun i o hi ho => by rw [setRow_other w m i c' (fun e => he (e ▸ hi))]; exact ho) hyB
  · intro j y hj hy
    rcases isMut_set hj with ⟨rfl, _, _⟩ | ⟨_, hj'⟩
    · exact h.apart j y hmk hy
    · exact h.apart j y hj' hy
  · intro j j' y h1 h2 h3 h4
    have f : ∀ {i}, isMut (b.set k x') i = true → isMut b i = true := fun hi => by
      rcases isMut_set hi with ⟨rfl, _, _⟩ | ⟨_, hi'⟩
      · exact hmk
      · exact hi'
    exact h.inj j j' y (f h1) (f h2) h3 h4
  · intro j y hj hy
    rcases isMut_set hj with ⟨rfl, _, _⟩ | ⟨_, hj'⟩
    · exact .inl ⟨j, hmk, hy⟩
    · exact .inl ⟨j, hj', hy⟩

/-- A block is given up. -/
theorem Upd.kill (h : MemR P F μ b w) (k : Nat) : Upd P F μ b w F μ (b.set k .gone) w := by
  have g : Grow F μ b w F μ (b.set k .gone) w := by
    refine ⟨fun _ h => h, fun _ _ => rfl, fun _ c _ h => ⟨c, h, rfl⟩, fun _ _ h _ => h, fun j y hy => ?_⟩
    have hlt := (List.getElem?_eq_some_iff.1 hy).1
    by_cases hj : k = j
    · subst hj
      refine ⟨.gone, by simp [hlt], ?_⟩
      cases y with
      | gone => rfl
      | hole => trivial
      | cells T cs => exact .inl rfl
      | row T t xs fz => exact .inl rfl
    · exact ⟨y, by rw [List.getElem?_set_ne hj]; exact hy, Sim.refl y⟩
  have f : ∀ {i}, isMut (b.set k .gone) i = true → isMut b i = true := fun hi => by
    rcases isMut_set hi with ⟨_, hg, _⟩ | ⟨_, hi'⟩
    · simp [Blk.mut] at hg
    · exact hi'
  refine ⟨g, ⟨by simp [h.len], ?_, fun j y hj hy => h.apart j y (f hj) hy, fun j j' y h1 h2 h3 h4 => h.inj j j' y (f h1) (f h2) h3 h4, h.here⟩, .refl _ _, fun j y hj hy => .inl ⟨j, f hj, hy⟩, fun _ h => .inl h⟩
  intro j y hy
  by_cases hj : k = j
  · subst hj
    rw [List.getElem?_set] at hy
    simp only [if_true] at hy
    split at hy
    · cases hy; trivial
    · cases hy
  · rw [List.getElem?_set_ne hj] at hy
    exact BlkR.mono g (fun _ _ _ h => h) (h.blk j y hy)

/-- An order was drawn. -/
theorem Upd.drew (h : MemR P F μ b w) : Upd P F μ b w F μ b { w with drawn := w.drawn + 1 } := by
  have g : Grow F μ b w F μ b { w with drawn := w.drawn + 1 } := ⟨fun _ h => h, fun _ _ => rfl, fun _ c _ h => ⟨c, h, rfl⟩, fun _ _ h _ => h, fun _ x h => ⟨x, h, Sim.refl x⟩⟩
  exact ⟨g, ⟨h.len, fun k x hx => BlkR.mono g (fun _ _ _ h => h) (h.blk k x hx), h.apart, h.inj, h.here⟩, ⟨rfl, rfl, rfl, Nat.le_refl _, fun _ _ _ => rfl, fun _ c _ h => ⟨c, h, rfl⟩⟩, fun k y hk hy => .inl ⟨k, hk, hy⟩, fun _ h => .inl h⟩

/-- Memory that nobody knows of. -/
theorem Upd.idle (h : MemR P F μ b w) (hk : Keep w (fun _ => False) w') (hF : ∀ (x : Nat) (y : Obj), w.heap[x]? = some y → w'.heap[x]? = some y) : Upd P F μ b w F μ b w' := by
  have g : Grow F μ b w F μ b w' := ⟨fun _ h => h, fun x hx => by
    have := h.here x hx
    rw [hF x w.heap[x] (Array.getElem?_eq_getElem this), Array.getElem?_eq_getElem this], fun x c T h => ⟨c, hF x _ h, rfl⟩, fun _ _ h _ => h, fun _ x h => ⟨x, h, Sim.refl x⟩⟩
  exact ⟨g, ⟨h.len, fun k x hx => BlkR.mono g (fun j o _ ho => hF j o ho) (h.blk k x hx), h.apart, h.inj, fun x hx => Nat.lt_of_lt_of_le (h.here x hx) hk.size⟩,
    ⟨hk.os, hk.tape, hk.output, hk.size, fun x hx _ => hk.block x hx (fun h => h), hk.shape⟩, fun k y hk hy => .inl ⟨k, hk, hy⟩, fun _ h => .inl h⟩

/-- New memory that is data from its first moment. -/
theorem Upd.data (h : MemR P F μ b w) (o : Obj) : Upd P F μ b w (fun x => F x ∨ x = w.heap.size) μ b (w.alloc o) := by
  have u := Upd.idle h (Keep.alloc w o) (alloc_old w o)
  have g : Grow F μ b w (fun x => F x ∨ x = w.heap.size) μ b (w.alloc o) := ⟨fun _ h => .inl h, u.grow.heap, u.grow.shape, u.grow.mu, u.grow.sim⟩
  refine ⟨g, ⟨h.len, fun k x hx => BlkR.mono g (fun j y _ hy => alloc_old w o j y hy) (h.blk k x hx), fun k y hk hy hf => ?_, h.inj, fun x hx => ?_⟩, u.keep, u.own, fun x hx => ?_⟩
  · rcases hf with hf | hf
    · exact h.apart k y hk hy hf
    · have := h.lt hk hy; omega
  · rcases hx with hx | hx
    · have := h.here x hx; simp; omega
    · simp; omega
  · rcases hx with hx | hx
    · exact .inl hx
    · exact .inr (.inr (by omega))
end
end Go.SM
