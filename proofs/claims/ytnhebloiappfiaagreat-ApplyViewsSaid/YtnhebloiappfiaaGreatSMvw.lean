/- Views: where an element is, by offset and steps. Plain facts of lists. -/
import Derived.Test.YtnhebloiappfiaaGreatSMpl
namespace Go.SM
set_option linter.unusedVariables false

/-- A place along steps. -/
def lin (a s : List Int) : Nat → Int
  | 0 => 0
  | k + 1 => lin a s k + a.getD k default * s.getD k default
theorem lin_congr {a s a' s' : List Int} : ∀ (k : Nat), (∀ i, i < k → a.getD i default * s.getD i default = a'.getD i default * s'.getD i default) → lin a s k = lin a' s' k
  | 0, _ => rfl
  | k + 1, h => by
    simp only [lin]
    rw [lin_congr k fun i hi => h i (by omega), h k (by omega)]
theorem lin_at {a s a' s' : List Int} {x : Nat} {c : Int} : ∀ (k : Nat), x < k → (∀ i, i < k → i ≠ x → a.getD i default * s.getD i default = a'.getD i default * s'.getD i default) → a.getD x default * s.getD x default = a'.getD x default * s'.getD x default + c → lin a s k = lin a' s' k + c
  | 0, h, _, _ => by omega
  | k + 1, h, h1, h2 => by
    simp only [lin]
    by_cases hx : x = k
    · subst hx
      rw [lin_congr x fun i hi => h1 i (by omega) (by omega), h2]
      omega
    · rw [lin_at k (by omega) (fun i hi => h1 i (by omega)) h2, h1 k (by omega) (fun e => hx e.symm)]
      omega
theorem lin_zero {a s : List Int} : ∀ (k : Nat), (∀ i, i < k → a.getD i default * s.getD i default = 0) → lin a s k = 0
  | 0, _ => rfl
  | k + 1, h => by
    simp only [lin]
    rw [lin_zero k fun i hi => h i (by omega), h k (by omega)]
    omega
/-- What stands ahead counts nothing. -/
theorem lin_shift {a s a' s' : List Int} {m : Nat} (h0 : ∀ i, i < m → a.getD i default * s.getD i default = 0) : ∀ (k : Nat), (∀ i, i < k → a.getD (m + i) default * s.getD (m + i) default = a'.getD i default * s'.getD i default) → lin a s (m + k) = lin a' s' k
  | 0, _ => lin_zero m h0
  | k + 1, h => by
    show lin a s (m + k) + a.getD (m + k) default * s.getD (m + k) default = _
    rw [lin_shift h0 k fun i hi => h i (by omega), h k (by omega)]
    rfl

/-- The steps of dims. -/
def stp (d : List Int) : List Int := (List.range d.length).map fun i => prodL (d.drop (i + 1))
theorem length_stp (d : List Int) : (stp d).length = d.length := by simp [stp]
theorem stp_getD {d : List Int} {i : Nat} (h : i < d.length) : (stp d).getD i default = prodL (d.drop (i + 1)) := by
  unfold stp
  rw [getD_map_range h]
theorem prodL_drop {d : List Int} {k : Nat} (h : k < d.length) : prodL (d.drop k) = d.getD k default * prodL (d.drop (k + 1)) := by
  rw [drop_getD h]
  rfl
theorem hor_lin {d a : List Int} : ∀ (k : Nat), k ≤ d.length → hor d a k * prodL (d.drop k) = lin a (stp d) k
  | 0, _ => by simp [hor, lin]
  | k + 1, h => by
    have e := hor_lin (d := d) (a := a) k (by omega)
    rw [prodL_drop (show k < d.length by omega)] at e
    simp only [hor, lin]
    rw [← e, stp_getD (by omega), Int.add_mul, Int.mul_assoc]
theorem hor_lin_all (d a : List Int) : hor d a d.length = lin a (stp d) d.length := by
  have := hor_lin (d := d) (a := a) d.length (Nat.le_refl _)
  rwa [List.drop_length, prodL, Int.mul_one] at this
/-- The number of a place is the place's number. -/
theorem hor_dg {d : List Int} (hp : Pos d) : ∀ (k : Nat) (n : Int), k ≤ d.length → 0 ≤ n → n < prodL (d.take k) → hor d (dg k d n) k = n
  | 0, n, _, h0, h1 => by
    simp only [List.take_zero, prodL] at h1
    simp only [hor]
    omega
  | k + 1, n, hk, h0, h1 => by
    have hd := hp.getD (show k < d.length by omega)
    rw [prodL_take_succ (by omega)] at h1
    have e : ∀ (j : Nat) (l : List Int) (x : Int), j ≤ l.length → hor d (l ++ [x]) j = hor d l j := by
      intro j l x
      induction j with
      | zero => intro _; rfl
      | succ j ih =>
        intro hj
        simp only [hor]
        rw [ih (by omega), getD_append, if_pos (by omega)]
    simp only [hor, dg]
    rw [e k _ _ (by rw [length_dg]; omega), hor_dg hp k _ (by omega) (Int.ediv_nonneg h0 (by omega)) (Int.ediv_lt_of_lt_mul (by omega) h1), getD_append, if_neg (by rw [length_dg]; omega), length_dg, Nat.sub_self]
    have := Int.ediv_mul_add_emod n (d.getD k default)
    simpa using this
theorem prodL_drop_pos {d : List Int} (hp : Pos d) (k : Nat) : 1 ≤ prodL (d.drop k) := prodL_pos (hp.drop k)
end Go.SM
