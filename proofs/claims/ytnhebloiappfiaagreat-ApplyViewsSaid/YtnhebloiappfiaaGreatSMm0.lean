/- The S-machine, part m0: append. -/
import Derived.Test.YtnhebloiappfiaaGreatSMl
namespace Go.SM
set_option linter.unusedVariables false
set_option linter.unusedSimpArgs false

section
variable {P : Program} {F : Nat → Prop} {μ : List (Option Nat)} {b : List Blk} {w : World}

theorem isMut_setgone {k j : Nat} (h : isMut (b.set k .gone) j = true) : j ≠ k ∧ isMut b j = true := by
  rcases isMut_set h with ⟨_, hg, _⟩ | h
  · simp [Blk.mut] at hg
  · exact h

/-- A row is written on in place: the old one is given up, the longer one takes its memory. -/
theorem Upd.adopt (hm : MemR P F μ b w) {k g : Nat} {T : TypeId} {t : Ty} {xs zs : List t.den} {c c' : Array Value} {cap : Nat} (hk : b[k]? = some (.row T t xs false)) (hg : μ[k]? = some (some g)) (hc : w.heap[g]? = some (.cells c T (0, 0))) (hs : c'.size = c.size)
    (hbig : zs.length ≤ big) (hcap : c'.size = cap * t.size) (hl : zs.length ≤ cap) (hml : cap ≤ maxLen) (hE : ∀ i x, zs[i]? = some x → ER w F t x ((c'.toList.drop (i * t.size)).take t.size)) :
    Upd P F μ b w F (μ ++ [some g]) (b.set k .gone ++ [.row T t zs false]) (w.setRow g c') := by
  have hlt := (List.getElem?_eq_some_iff.1 hk).1
  have hmk : isMut b k = true := by simp [isMut, hk, Blk.mut]
  have hnF := hm.apart k g hmk hg
  have htp : 0 < t.size := (hm.blk k _ hk).2.1
  have g1 : Grow F μ b w F (μ ++ [some g]) (b.set k .gone ++ [.row T t zs false]) (w.setRow g c') := by
    refine ⟨fun _ h => h, fun y hy => setRow_other w g y c' (fun e => hnF (e ▸ hy)), fun y c1 T1 h1 => ?_, fun j y h _ => by rw [List.getElem?_append_left (List.getElem?_eq_some_iff.1 h).1]; exact h, fun j y hy => ?_⟩
    · by_cases hy : y = g
      · subst hy
        rw [hc] at h1
        cases h1
        exact ⟨c', setRow_heap w y c c' T _ hc, hs⟩
      · exact ⟨c1, (setRow_other w g y c' hy).trans h1, rfl⟩
    · have hjl := (List.getElem?_eq_some_iff.1 hy).1
      rw [List.getElem?_append_left (by simpa using hjl)]
      by_cases hj : k = j
      · subst hj
        rw [hk] at hy
        cases hy
        exact ⟨.gone, by simp [hlt], .inl rfl⟩
      · exact ⟨y, by rw [List.getElem?_set_ne hj]; exact hy, Sim.refl y⟩
  have mu_old : ∀ {j : Nat} {y : Nat}, j < b.length → (μ ++ [some g])[j]? = some (some y) → μ[j]? = some (some y) := by
    intro j y hj h
    rwa [List.getElem?_append_left (by rw [hm.len]; exact hj)] at h
  have cases' : ∀ {j : Nat}, isMut (b.set k .gone ++ [.row T t zs false]) j = true → (j ≠ k ∧ isMut b j = true ∧ j < b.length) ∨ j = b.length := by
    intro j h
    rcases isMut_push h with ⟨h1, h2⟩ | ⟨h1, _⟩
    · obtain ⟨h3, h4⟩ := isMut_setgone h1
      exact .inl ⟨h3, h4, by simpa using h2⟩
    · exact .inr (by simpa using h1)
  have mu_new : ∀ {y : Nat}, (μ ++ [some g])[b.length]? = some (some y) → y = g := by
    intro y h
    rw [← hm.len] at h
    simp at h
    exact h.symm
  refine ⟨g1, ⟨by simp [hm.len], ?_, ?_, ?_, fun y hy => by simpa using hm.here y hy⟩, ⟨rfl, rfl, rfl, by simp, fun y hy hn => setRow_other w g y c' (fun e => hn ⟨k, hmk, e ▸ hg⟩), g1.shape⟩, ?_, fun _ h => .inl h⟩
  · intro j y hy
    by_cases hjl : j < b.length
    · rw [List.getElem?_append_left (by simpa using hjl)] at hy
      have e : (μ ++ [some g]).getD j none = μ.getD j none := by simp [List.getD_eq_getElem?_getD, List.getElem?_append_left (show j < μ.length by rw [hm.len]; exact hjl)]
      rw [e]
      by_cases hj : k = j
      · subst hj
        simp [hlt] at hy
        subst hy
        trivial
      · rw [List.getElem?_set_ne hj] at hy
        have hyB := hm.blk j y hy
        by_cases he : μ.getD j none = some g
        · cases y with
          | gone => trivial
          | hole => rw [he] at hyB; cases hyB
          | cells T' cs' => exact absurd (hm.inj j k g (by simp [isMut, hy, Blk.mut]) hmk (mu_of_getD he) hg) (fun e => hj e.symm)
          | row T' t' xs' fz' =>
            cases fz' with
            | false => exact absurd (hm.inj j k g (by simp [isMut, hy, Blk.mut]) hmk (mu_of_getD he) hg) (fun e => hj e.symm)
            | true =>
              rcases hyB.2.2 with ⟨hn, _⟩ | ⟨m', c1, cap', h1, _, _, _, _, _, h7⟩
              · rw [he] at hn; cases hn
              · rw [he] at h1
                cases h1
                exact absurd (h7 rfl) hnF
        · exact BlkR.mono g1 (fun i o hi ho => by rw [setRow_other w g i c' (fun e => he (e ▸ hi))]; exact ho) hyB
    · have hl' := (List.getElem?_eq_some_iff.1 hy).1
      simp at hl'
      have hje : j = (b.set k .gone).length := by simp; omega
      subst hje
      simp at hy
      subst hy
      have e : (μ ++ [some g]).getD (b.set k .gone).length none = some g := by simp [← hm.len, List.getD_eq_getElem?_getD]
      rw [e]
      exact ⟨hbig, htp, .inr ⟨g, c', cap, rfl, setRow_heap w g c c' T _ hc, hcap, hl, hml, fun i x hx => ER_mono g1.le g1.heap t _ _ (hE i x hx), fun h => by cases h⟩⟩
  · intro j y hj hy
    rcases cases' hj with ⟨_, h2, h3⟩ | rfl
    · exact hm.apart j y h2 (mu_old h3 hy)
    · rw [mu_new hy]; exact hnF
  · intro j j' y h1 h2 h3 h4
    rcases cases' h1 with ⟨a1, a2, a3⟩ | rfl <;> rcases cases' h2 with ⟨c1, c2, c3⟩ | rfl
    · exact hm.inj j j' y a2 c2 (mu_old a3 h3) (mu_old c3 h4)
    · have := mu_new h4
      subst this
      exact absurd (hm.inj j k y a2 hmk (mu_old a3 h3) hg) a1
    · have := mu_new h3
      subst this
      exact absurd (hm.inj j' k y c2 hmk (mu_old c3 h4) hg) c1
    · rfl
  · intro j y hj hy
    rcases cases' hj with ⟨_, h2, h3⟩ | rfl
    · exact .inl ⟨j, h2, mu_old h3 hy⟩
    · exact .inl ⟨k, hmk, by rw [mu_new hy]; exact hg⟩

theorem window_app (A B : List Value) (i sz : Nat) (h : i * sz + sz ≤ A.length) : ((A ++ B).drop (i * sz)).take sz = (A.drop (i * sz)).take sz := by
  apply List.ext_getElem?
  intro j
  rw [List.getElem?_take, List.getElem?_take]
  split
  · rw [List.getElem?_drop, List.getElem?_drop, List.getElem?_append_left (by omega)]
  · rfl

/-- What is behind an append: all elements, one behind the other. -/
theorem app_windows {t : Ty} {xs ys : List t.den} {olds news rest : List Value} (hlo : olds.length = xs.length * t.size) (hl : news.length = ys.length * t.size)
    (hx : ∀ i x, xs[i]? = some x → ER w F t x ((olds.drop (i * t.size)).take t.size)) (hy : ∀ i y, ys[i]? = some y → ER w F t y ((news.drop (i * t.size)).take t.size)) :
    ∀ i z, (xs ++ ys)[i]? = some z → ER w F t z (((olds ++ news ++ rest).drop (i * t.size)).take t.size) := by
  intro i z hz
  have hi := (List.getElem?_eq_some_iff.1 hz).1
  simp at hi
  have hle : i * t.size + t.size ≤ (xs.length + ys.length) * t.size := by
    have : (i + 1) * t.size ≤ (xs.length + ys.length) * t.size := Nat.mul_le_mul_right _ hi
    rwa [Nat.succ_mul] at this
  rw [Nat.add_mul] at hle
  rw [window_app _ rest i t.size (by simp [hlo, hl]; exact hle)]
  by_cases h : i < xs.length
  · rw [List.getElem?_append_left h] at hz
    have : (i + 1) * t.size ≤ xs.length * t.size := Nat.mul_le_mul_right _ h
    rw [Nat.succ_mul] at this
    rw [window_app _ news i t.size (by omega)]
    exact hx i z hz
  · rw [List.getElem?_append_right (by omega)] at hz
    have : i * t.size = olds.length + (i - xs.length) * t.size := by rw [hlo, ← Nat.add_mul]; congr 1; omega
    rw [this, List.drop_append, List.drop_of_length_le (by omega), List.nil_append, show olds.length + (i - xs.length) * t.size - olds.length = (i - xs.length) * t.size by omega]
    exact hy _ z hz

theorem Keep.drew_alloc (w : World) (o : Obj) : Keep w (fun _ => False) (w.drew.alloc o) :=
  ⟨rfl, rfl, rfl, by simp, fun x hx _ => heap_alloc_old w.drew o x hx, fun x c T h => ⟨c, by rw [heap_alloc_old w.drew o x (Array.getElem?_eq_some_iff.1 h).1]; exact h, rfl⟩⟩

/-- The new row behind an append that had not room enough. -/
theorem append_new_upd (hm : MemR P F μ b w) {e : TypeId} {t : Ty} {z : Value} {xs ys : List t.den} {olds news : List Value} {cap : Nat} (htp : 0 < t.size) (hzs : z.cells.size = t.size)
    (hlo : olds.length = xs.length * t.size) (hl : news.length = ys.length * t.size)
    (hx : ∀ i x, xs[i]? = some x → ER w F t x ((olds.drop (i * t.size)).take t.size)) (hy : ∀ i y, ys[i]? = some y → ER w F t y ((news.drop (i * t.size)).take t.size)) (hn : xs.length + ys.length ≤ big) :
    Upd P F μ b w F (μ ++ [some w.heap.size]) (b ++ [.row e t (xs ++ ys) false]) (w.drew.alloc (.cells (olds.toArray ++ news.toArray ++ Builtin.zeroCells z.cells (grownCap w (xs.length + ys.length) cap e - (xs.length + ys.length))) e)) ∧
    (olds.toArray ++ news.toArray ++ Builtin.zeroCells z.cells (grownCap w (xs.length + ys.length) cap e - (xs.length + ys.length))).size = grownCap w (xs.length + ys.length) cap e * t.size := by
  have hge := grownCap_ge w (xs.length + ys.length) cap e
  have hle : grownCap w (xs.length + ys.length) cap e ≤ maxLen := grownCap_le_maxLen w _ _ _ (by simp only [big] at hn; simp only [maxLen]; omega)
  have hsz : (olds.toArray ++ news.toArray ++ Builtin.zeroCells z.cells (grownCap w (xs.length + ys.length) cap e - (xs.length + ys.length))).size = grownCap w (xs.length + ys.length) cap e * t.size := by
    simp only [Array.size_append, List.size_toArray, size_zeroCells, hzs, hlo, hl, ← Nat.add_mul]
    congr 1
    omega
  refine ⟨Upd.row hm (Keep.drew_alloc w _) (fun x y h => by rw [heap_alloc_old w.drew _ x (Array.getElem?_eq_some_iff.1 h).1]; exact h) (heap_alloc_new w.drew _) (Nat.le_refl _) (by simpa using hn) htp hsz (by simpa using hge) hle (fun i x hi => ?_), hsz⟩
  have := app_windows (rest := (Builtin.zeroCells z.cells (grownCap w (xs.length + ys.length) cap e - (xs.length + ys.length))).toList) hlo hl hx hy i x hi
  simpa using this
end
end Go.SM
