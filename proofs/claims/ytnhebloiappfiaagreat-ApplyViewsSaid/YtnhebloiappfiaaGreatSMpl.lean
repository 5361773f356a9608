/- Dims, their places and the numbers of these: plain facts of lists. -/
import Derived.Test.YtnhebloiappfiaaGreatSMvc
namespace Go.SM
set_option linter.unusedVariables false

def prodL : List Int → Int
  | [] => 1
  | x :: r => x * prodL r
theorem prodL_append : ∀ (a b : List Int), prodL (a ++ b) = prodL a * prodL b
  | [], b => by simp [prodL]
  | x :: a, b => by simp [prodL, prodL_append a b, Int.mul_assoc]
theorem take_succ_getD {d : List Int} {k : Nat} (h : k < d.length) : d.take (k + 1) = d.take k ++ [d.getD k default] := by
  rw [getD_el h, List.take_succ_eq_append_getElem h]
theorem prodL_take_succ {d : List Int} {k : Nat} (h : k < d.length) : prodL (d.take (k + 1)) = prodL (d.take k) * d.getD k default := by
  rw [take_succ_getD h, prodL_append]
  simp [prodL]
abbrev Pos (d : List Int) : Prop := ∀ x ∈ d, 1 ≤ x
theorem prodL_pos : ∀ {d : List Int}, Pos d → 1 ≤ prodL d
  | [], _ => by simp [prodL]
  | x :: d, h => by
    have h1 : 1 ≤ x := h x (by simp)
    have h2 : 1 ≤ prodL d := prodL_pos fun y hy => h y (by simp [hy])
    have := Int.mul_le_mul h1 h2 (by omega) (by omega)
    simpa [prodL] using this
theorem Pos.take {d : List Int} (h : Pos d) (k : Nat) : Pos (d.take k) := fun x hx => h x (List.mem_of_mem_take hx)
theorem Pos.drop {d : List Int} (h : Pos d) (k : Nat) : Pos (d.drop k) := fun x hx => h x (List.mem_of_mem_drop hx)
theorem Pos.getD {d : List Int} (h : Pos d) {k : Nat} (hk : k < d.length) : 1 ≤ d.getD k default := h _ (getD_mem hk)
theorem prodL_take_le {d : List Int} (h : Pos d) (k : Nat) : prodL (d.take k) ≤ prodL d := by
  have e : prodL d = prodL (d.take k) * prodL (d.drop k) := by rw [← prodL_append, List.take_append_drop]
  have h1 := prodL_pos (h.take k)
  have h2 := prodL_pos (h.drop k)
  rw [e]
  have := Int.mul_le_mul_of_nonneg_left h2 (show 0 ≤ prodL (d.take k) by omega)
  omega
theorem prodL_take_mono {d : List Int} (h : Pos d) {k j : Nat} (hj : k ≤ j) : prodL (d.take k) ≤ prodL (d.take j) := by
  have := prodL_take_le (h.take j) k
  rwa [List.take_take, Nat.min_eq_left hj] at this
theorem getD_le_prodL {d : List Int} (h : Pos d) {k : Nat} (hk : k < d.length) : d.getD k default ≤ prodL d := by
  have h1 := prodL_pos (h.take k)
  have h2 := prodL_take_le h (k + 1)
  rw [prodL_take_succ hk] at h2
  have h3 := h.getD hk
  have := Int.mul_le_mul_of_nonneg_right h1 (show 0 ≤ d.getD k default by omega)
  omega

/-- What a check of dims answers. -/
def chk (d : List Int) : Int := if 6 < d.length then 9 else if ∃ x ∈ d, x < 1 then 8 else if 64 < prodL d then 12 else 0
theorem chk_zero {d : List Int} : chk d = 0 ↔ d.length ≤ 6 ∧ Pos d ∧ prodL d ≤ 64 := by
  unfold chk
  split
  · constructor
    · intro h; cases h
    · intro h; omega
  · split
    · rename_i h
      constructor
      · intro h; cases h
      · intro h'
        obtain ⟨x, hx, h⟩ := h
        have := h'.2.1 x hx
        omega
    · rename_i h h'
      have hp : Pos d := fun x hx => by
        by_cases h2 : 1 ≤ x
        · exact h2
        · exact absurd ⟨x, hx, by omega⟩ h'
      split
      · constructor
        · intro h; cases h
        · intro h; omega
      · exact ⟨fun _ => ⟨by omega, hp, by omega⟩, fun _ => rfl⟩
def cnt (d : List Int) : Int := if chk d = 0 then prodL d else 0
theorem cnt_ok {d : List Int} (h : chk d = 0) : cnt d = prodL d ∧ 1 ≤ prodL d ∧ prodL d ≤ 64 :=
  ⟨by simp [cnt, h], prodL_pos (chk_zero.1 h).2.1, (chk_zero.1 h).2.2⟩

/-- The first k numbers of the place with number n. -/
def dg : Nat → List Int → Int → List Int
  | 0, _, _ => []
  | k + 1, d, n => dg k d (n / d.getD k default) ++ [n % d.getD k default]
theorem length_dg : ∀ (k : Nat) (d : List Int) (n : Int), (dg k d n).length = k
  | 0, _, _ => rfl
  | k + 1, d, n => by simp [dg, length_dg k]
theorem dg_range {d : List Int} (h : Pos d) : ∀ (k : Nat) (n : Int), k ≤ d.length → ∀ i, i < k → 0 ≤ (dg k d n).getD i default ∧ (dg k d n).getD i default < d.getD i default
  | 0, _, _, i, hi => by omega
  | k + 1, n, hk, i, hi => by
    have hp := h.getD (show k < d.length by omega)
    simp only [dg, getD_append, length_dg]
    split
    · exact dg_range h k _ (by omega) i (by omega)
    · have : i = k := by omega
      subst this
      simp only [Nat.sub_self, List.getD_cons_zero]
      exact ⟨Int.emod_nonneg _ (by omega), Int.emod_lt_of_pos _ (by omega)⟩
theorem dg_snoc {d : List Int} {k i j : Nat} (hj : (j : Int) < d.getD k default) : dg (k + 1) d (i * d.getD k default + j) = dg k d i ++ [(j : Int)] := by
  have h1 : ((i : Int) * d.getD k default + j) / d.getD k default = i := by
    rw [Int.add_comm, Int.add_mul_ediv_right _ _ (by omega), Int.ediv_eq_zero_of_lt (by omega) hj]
    omega
  have h2 : ((i : Int) * d.getD k default + j) % d.getD k default = j := by
    rw [Int.add_comm, Int.add_mul_emod_self_right]
    exact Int.emod_eq_of_lt (by omega) hj
  simp only [dg, h1, h2]
/-- All places of the first k dims, in order. -/
def pls (k : Nat) (d : List Int) : List (List Int) := (List.range (prodL (d.take k)).toNat).map fun n : Nat => dg k d (n : Int)
theorem length_pls {k : Nat} {d : List Int} : (pls k d).length = (prodL (d.take k)).toNat := by simp [pls]
theorem pls_getD {k n : Nat} {d : List Int} (h : n < (prodL (d.take k)).toNat) : (pls k d).getD n default = dg k d (n : Int) := by
  unfold pls
  exact getD_map_range h

/-- All places of good dims; none of others. -/
def alls (d : List Int) : List (List Int) := if chk d = 0 then pls d.length d else []
theorem alls_ok {d : List Int} (h : chk d = 0) : (alls d).length = (prodL d).toNat := by
  simp [alls, h, length_pls]
theorem alls_len (d : List Int) : (alls d).length ≤ 64 := by
  by_cases h : chk d = 0
  · rw [alls_ok h]
    have := (chk_zero.1 h).2.2
    omega
  · simp [alls, h]
theorem alls_at {d : List Int} {i : Nat} (h : i < (alls d).length) : chk d = 0 ∧ (alls d).getD i default = dg d.length d (i : Int) := by
  by_cases hc : chk d = 0
  · refine ⟨hc, ?_⟩
    rw [alls_ok hc] at h
    simp only [alls, if_pos hc]
    exact pls_getD (by rwa [List.take_length])
  · simp [alls, hc] at h
/-- A place is as long as the dims, and within them. -/
theorem alls_in {d : List Int} {i : Nat} (h : i < (alls d).length) : ((alls d).getD i default).length = d.length ∧ ∀ j, j < d.length → 0 ≤ ((alls d).getD i default).getD j default ∧ ((alls d).getD i default).getD j default < d.getD j default := by
  obtain ⟨hc, e⟩ := alls_at h
  rw [e]
  exact ⟨length_dg _ _ _, fun j hj => dg_range (chk_zero.1 hc).2.1 _ _ (Nat.le_refl _) j hj⟩
theorem chk_len {d : List Int} (h : chk d = 0) : d.length ≤ 6 := (chk_zero.1 h).1

/-- The number of a place. -/
def hor (d a : List Int) : Nat → Int
  | 0 => 0
  | k + 1 => hor d a k * d.getD k default + a.getD k default
theorem hor_range {d a : List Int} {m : Nat} (hm : m ≤ d.length) (h : ∀ i, i < m → 0 ≤ a.getD i default ∧ a.getD i default < d.getD i default) : ∀ k, k ≤ m → 0 ≤ hor d a k ∧ hor d a k < prodL (d.take k)
  | 0, _ => by simp [hor, prodL]
  | k + 1, hk => by
    have ⟨h0, h1⟩ := hor_range hm h k (by omega)
    have ⟨h2, h3⟩ := h k (by omega)
    rw [prodL_take_succ (by omega)]
    unfold hor
    have e1 : 0 ≤ hor d a k * d.getD k default := Int.mul_nonneg h0 (by omega)
    have e2 : (hor d a k + 1) * d.getD k default ≤ prodL (d.take k) * d.getD k default := Int.mul_le_mul_of_nonneg_right (by omega) (by omega)
    rw [Int.add_mul] at e2
    omega
/-- The same in the machine's own words. -/
def horw (d a : List Int) : Nat → Int
  | 0 => 0
  | k + 1 => w64 (w64 (horw d a k * d.getD k default) + a.getD k default)
theorem horw_eq {d a : List Int} {m : Nat} (hm : m ≤ d.length) (hp : Pos d) (h64 : prodL d ≤ 64) (h : ∀ i, i < m → 0 ≤ a.getD i default ∧ a.getD i default < d.getD i default) : ∀ k, k ≤ m → horw d a k = hor d a k
  | 0, _ => rfl
  | k + 1, hk => by
    have e := horw_eq hm hp h64 h k (by omega)
    obtain ⟨h0, h1⟩ := hor_range hm h (k + 1) hk
    obtain ⟨h2, h3⟩ := h k (by omega)
    obtain ⟨h4, _⟩ := hor_range hm h k (by omega)
    have h5 := prodL_take_le hp (k + 1)
    have h6 : 0 ≤ hor d a k * d.getD k default := Int.mul_nonneg h4 (by omega)
    simp only [horw, e]
    simp only [hor] at h0 h1 ⊢
    rw [w64_id (n := hor d a k * d.getD k default) (by omega) (by omega), w64_id (by omega) (by omega)]

/-! ### One shape spread over another -/
def pad (a : List Int) (m : Nat) : List Int := List.replicate (m - a.length) 1 ++ a
theorem length_pad (a : List Int) (m : Nat) : (pad a m).length = max m a.length := by
  simp only [pad, List.length_append, List.length_replicate]
  omega
theorem pad_getD {a : List Int} {m i : Nat} (h : i < m) : (pad a m).getD i default = if i < m - a.length then 1 else a.getD (i - (m - a.length)) default := by
  simp only [pad, getD_append, List.length_replicate]
  split
  · rw [getD_el (by simpa using by assumption)]
    simp
  · rfl
/-- The dims of two shapes together. -/
def two (a b c : List Int) : Prop := chk a = 0 ∧ chk b = 0 ∧ chk c = 0 ∧ c.length = max a.length b.length ∧
  ∀ i, i < c.length → ((pad a c.length).getD i default = (pad b c.length).getD i default ∨ (pad a c.length).getD i default = 1 ∨ (pad b c.length).getD i default = 1) ∧
    c.getD i default = max ((pad a c.length).getD i default) ((pad b c.length).getD i default)
def fitsP (a b : List Int) : Prop := chk a = 0 ∧ chk b = 0 ∧ a.length ≤ b.length ∧ ∀ i, i < a.length → a.getD i default = 1 ∨ a.getD i default = b.getD (b.length - a.length + i) default
theorem fits_of_two {a b : List Int} (h : two a b b) : fitsP a b := by
  obtain ⟨h1, h2, _, h3, h4⟩ := h
  refine ⟨h1, h2, by omega, fun i hi => ?_⟩
  obtain ⟨h5, h6⟩ := h4 (b.length - a.length + i) (by omega)
  rw [pad_getD (by omega), if_neg (by omega), show b.length - a.length + i - (b.length - a.length) = i by omega] at h5 h6
  rw [pad_getD (by omega), if_neg (by omega), show b.length - a.length + i - (b.length - b.length) = b.length - a.length + i by omega] at h5 h6
  have h7 := (chk_zero.1 h1).2.1.getD hi
  have h8 := (chk_zero.1 h2).2.1.getD (show b.length - a.length + i < b.length by omega)
  omega
/-- The place in the first shape that a place in the second reads. -/
def win (a b : List Int) (n : Int) : List Int := (List.range a.length).map fun i => if a.getD i default = 1 then 0 else (dg b.length b n).getD (b.length - a.length + i) default
theorem length_win (a b : List Int) (n : Int) : (win a b n).length = a.length := by simp [win]
theorem win_getD {a b : List Int} {n : Int} {i : Nat} (h : i < a.length) : (win a b n).getD i default = if a.getD i default = 1 then 0 else (dg b.length b n).getD (b.length - a.length + i) default := by
  unfold win
  rw [getD_map_range h]
theorem win_in {a b : List Int} {n : Int} (h : fitsP a b) {i : Nat} (hi : i < a.length) : 0 ≤ (win a b n).getD i default ∧ (win a b n).getD i default < a.getD i default := by
  obtain ⟨_, h2, h3, h4⟩ := h
  rw [win_getD hi]
  split
  · omega
  · have h5 := h4 i hi
    have h6 := dg_range (chk_zero.1 h2).2.1 b.length n (Nat.le_refl _) (b.length - a.length + i) (by omega)
    omega
/-- Its number. -/
def src (a b : List Int) (n : Int) : Int := horw a (win a b n) a.length
theorem src_in {a b : List Int} {n : Int} (h : fitsP a b) : 0 ≤ src a b n ∧ src a b n < prodL a := by
  obtain ⟨_, hp, h64⟩ := chk_zero.1 h.1
  have e := horw_eq (Nat.le_refl a.length) hp h64 (fun i hi => win_in (n := n) h hi) a.length (Nat.le_refl _)
  have := hor_range (Nat.le_refl a.length) (fun i hi => win_in (n := n) h hi) a.length (Nat.le_refl _)
  rw [List.take_length] at this
  unfold src
  rw [e]
  exact this
def srcs (a b : List Int) : List Int := (List.range (prodL b).toNat).map fun n : Nat => src a b (n : Int)
theorem length_srcs (a b : List Int) : (srcs a b).length = (prodL b).toNat := by simp [srcs]
theorem drop_set_self {α : Type} [Inhabited α] {l : List α} {p : Nat} {x : α} (h : p < l.length) : (l.set p x).drop p = x :: l.drop (p + 1) := by
  rw [List.drop_eq_getElem_cons (by simpa using h)]
  congr 1
  · simp
  · rw [List.drop_set_of_lt (by omega)]
theorem drop_getD {α : Type} [Inhabited α] {l : List α} {p : Nat} (h : p < l.length) : l.drop p = l.getD p default :: l.drop (p + 1) := by
  rw [List.drop_eq_getElem_cons h, getD_el h]
end Go.SM
