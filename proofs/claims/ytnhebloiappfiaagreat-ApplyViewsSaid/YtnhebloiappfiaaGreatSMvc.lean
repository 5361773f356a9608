/- The S-machine: what must be shown of a tree, so that it comes to a value of which something holds. -/
import Derived.Test.YtnhebloiappfiaaGreatSMtr
import Derived.Test.YtnhebloiappfiaaGreatSMe
namespace Go.SM
set_option linter.unusedVariables false

namespace Tree
variable {R : Type}
def T (Q : R → Prop) : Tree R → Prop
  | .ret r => Q r
  | @Tree.ob _ p _ t => p ∧ t.T Q
  | .br b t e => (b = true → t.T Q) ∧ (b = false → e.T Q)
  | .ex (val := val) ok k => ∃ y, val = some y ∧ (k y).T Q
  | .an (val := val) ok t => (∃ y, val = some y) ∧ t.T Q
  | .alt b t e => (b = true → t.T Q) ∧ (b = false → e.T Q)
  | .any p k => ∃ r, Q r ∧ (p → (k true).T (fun y => y = r)) ∧ (k false).T (fun y => y = r)
  | .no => False

theorem T_run {Q : R → Prop} : ∀ (t : Tree R), t.T Q → ∃ r, t.run = some r ∧ Q r
  | .ret r, h => ⟨r, rfl, h⟩
  | @Tree.ob _ p d t, h => by
    obtain ⟨r, hr, hq⟩ := t.T_run h.2
    exact ⟨r, by simp only [run, if_pos h.1, hr], hq⟩
  | .br true t e, h => t.T_run (h.1 rfl)
  | .br false t e, h => e.T_run (h.2 rfl)
  | .ex ok k, h => by
    obtain ⟨y, hy, h⟩ := h
    obtain ⟨r, hr, hq⟩ := (k y).T_run h
    exact ⟨r, by simp only [run, hy, Option.bind_some, hr], hq⟩
  | .an ok t, h => by
    obtain ⟨⟨y, hy⟩, h⟩ := h
    obtain ⟨r, hr, hq⟩ := t.T_run h
    exact ⟨r, by simp only [run, hy, Option.bind_some, hr], hq⟩
  | .alt true t e, h => t.T_run (h.1 rfl)
  | .alt false t e, h => e.T_run (h.2 rfl)
  | .any p k, h => by
    obtain ⟨r, hq, ht, hf⟩ := h
    obtain ⟨r1, h1, e1⟩ := (k false).T_run hf
    rw [e1] at h1
    refine ⟨r, ?_, hq⟩
    simp only [run]
    split
    · rename_i hp
      obtain ⟨r2, h2, e2⟩ := (k true).T_run (ht hp)
      rw [e2] at h2
      rw [h1, h2]
      simp
    · exact h1
  | .no, h => h.elim
end Tree

theorem T_eq {R : Type} {t : Tree R} {r : R} (h : t.T (fun y => y = r)) : t.run = some r := by
  obtain ⟨y, hy, rfl⟩ := t.T_run h
  exact hy

section
variable {R A B : Type} {Q : R → Prop}
theorem T_ret {r : R} (h : Q r) : (Tree.ret r).T Q := h
theorem T_ob {p : Prop} [d : Decidable p] {t : Tree R} (hp : p) (h : t.T Q) : (Tree.ob p t).T Q := ⟨hp, h⟩
theorem T_br {b : Bool} {t e : Tree R} (h : b = true → t.T Q) (h' : b = false → e.T Q) : (Tree.br b t e).T Q := ⟨h, h'⟩
theorem T_brP {p : Prop} [Decidable p] {t e : Tree R} (h : p → t.T Q) (h' : ¬ p → e.T Q) : (Tree.br (decide p) t e).T Q :=
  ⟨fun x => h (of_decide_eq_true x), fun x => h' (of_decide_eq_false x)⟩
theorem T_brN {p : Prop} [Decidable p] {t e : Tree R} (h : ¬ p → t.T Q) (h' : p → e.T Q) : (Tree.br (!(decide p)) t e).T Q :=
  ⟨fun x => h (of_decide_eq_false (by simpa using x)), fun x => h' (of_decide_eq_true (by simpa using x))⟩
/-! The same of numbers, whatever their type is called. -/
theorem T_lt {a b : Int} [Decidable (a < b)] {t e : Tree R} (h : a < b → t.T Q) (h' : ¬ a < b → e.T Q) : (Tree.br (decide (a < b)) t e).T Q := T_brP h h'
theorem T_le {a b : Int} [Decidable (a ≤ b)] {t e : Tree R} (h : a ≤ b → t.T Q) (h' : ¬ a ≤ b → e.T Q) : (Tree.br (decide (a ≤ b)) t e).T Q := T_brP h h'
theorem T_eqI {a b : Int} [Decidable (a = b)] {t e : Tree R} (h : a = b → t.T Q) (h' : ¬ a = b → e.T Q) : (Tree.br (decide (a = b)) t e).T Q := T_brP h h'
theorem T_neI {a b : Int} [Decidable (a = b)] {t e : Tree R} (h : ¬ a = b → t.T Q) (h' : a = b → e.T Q) : (Tree.br (!(decide (a = b))) t e).T Q := T_brN h h'
theorem T_brB {b : Bool} {t e : Tree R} (h : b = false → t.T Q) (h' : b = true → e.T Q) : (Tree.br (!b) t e).T Q :=
  ⟨fun x => h (by simpa using x), fun x => h' (by simpa using x)⟩
theorem T_ex {lp : A → Prop} {val : Option A} {ok : ∀ y, val = some y → lp y} {k : A → Tree R} {p : A → Prop} (h : ∃ y, val = some y ∧ p y) (hk : ∀ y, p y → (k y).T Q) : (Tree.ex ok k).T Q := by
  obtain ⟨y, hy, hp⟩ := h
  exact ⟨y, hy, hk y hp⟩
theorem T_ex1 {lp : A → Prop} {val : Option A} {ok : ∀ y, val = some y → lp y} {k : A → Tree R} {y : A} (h : val = some y) (hk : (k y).T Q) : (Tree.ex ok k).T Q := ⟨y, h, hk⟩
/-- A test of a slice against nil: both ways come to the same. -/
theorem T_any {p : Prop} {k : Bool → Tree R} {r : R} (hq : Q r) (ht : p → (k true).T (fun y => y = r)) (hf : (k false).T (fun y => y = r)) : (Tree.any p k).T Q := ⟨r, hq, ht, hf⟩
/-- A loop with two ways out: the first brings nothing. -/
theorem T_un {L : Option (Unit ⊕ B)} {p : Unit ⊕ B → Prop} {lp : Prop} {lp' : B → Prop} {ok : ∀ y, lft L = some y → lp} {ok' : ∀ y, rgt L = some y → lp' y} {t : Tree R} {k : B → Tree R} (h : ∃ o, L = some o ∧ p o)
    (hl : p (.inl ()) → t.T Q) (hr : ∀ y, p (.inr y) → (k y).T Q) : (Tree.alt (isL L) (.an ok t) (.ex ok' k)).T Q := by
  obtain ⟨o, rfl, hp⟩ := h
  match o, hp with
  | .inl (), hp => exact ⟨fun _ => ⟨⟨(), rfl⟩, hl hp⟩, fun x => by cases x⟩
  | .inr y, hp => exact ⟨fun x => (by cases x), fun _ => ⟨y, rfl, hr y hp⟩⟩
/-- A loop with two ways out. -/
theorem T_lr {L : Option (A ⊕ B)} {p : A ⊕ B → Prop} {lp : A → Prop} {lp' : B → Prop} {ok : ∀ y, lft L = some y → lp y} {ok' : ∀ y, rgt L = some y → lp' y} {k : A → Tree R} {k' : B → Tree R} (h : ∃ o, L = some o ∧ p o)
    (hl : ∀ y, p (.inl y) → (k y).T Q) (hr : ∀ y, p (.inr y) → (k' y).T Q) : (Tree.alt (isL L) (.ex ok k) (.ex ok' k')).T Q := by
  obtain ⟨o, rfl, hp⟩ := h
  match o, hp with
  | .inl y, hp => exact ⟨fun _ => ⟨y, rfl, hl y hp⟩, fun x => by cases x⟩
  | .inr y, hp => exact ⟨fun x => (by cases x), fun _ => ⟨y, rfl, hr y hp⟩⟩
end

/-- A round of a loop: it goes on, or out. -/
def rq {S O : Type} (n k : Nat) (I : Nat → S → Prop) (Q : O → Prop) : S ⊕ O → Prop
  | .inl s => k < n ∧ I (k + 1) s
  | .inr o => Q o
theorem rq_l {S O : Type} {n k : Nat} {I : Nat → S → Prop} {Q : O → Prop} {s : S} (hk : k < n) (h : I (k + 1) s) : rq n k I Q (.inl s) := ⟨hk, h⟩
theorem rq_r {S O : Type} {n k : Nat} {I : Nat → S → Prop} {Q : O → Prop} {o : O} (h : Q o) : rq n k I Q (.inr o) := h

theorem loop_from {S O : Type} {t : S → Option (S ⊕ O)} (n : Nat) (I : Nat → S → Prop) (Q : O → Prop)
    (h : ∀ k s, k ≤ n → I k s → ∃ r, t s = some r ∧ rq n k I Q r) : ∀ (m k : Nat) (s : S), n < k + m → k ≤ n → I k s → ∃ o, iter t m s = some o ∧ Q o
  | 0, k, s, hm, hk, hi => by omega
  | m + 1, k, s, hm, hk, hi => by
    obtain ⟨r, hr, hq⟩ := h k s hk hi
    match r, hr, hq with
    | .inl s', hr, hq =>
      obtain ⟨o, ho, hq'⟩ := loop_from n I Q h m (k + 1) s' (by omega) hq.1 hq.2
      exact ⟨o, by simp only [iter, hr, ho], hq'⟩
    | .inr o, hr, hq => exact ⟨o, by simp only [iter, hr], hq⟩

/-- Of a loop of at most n rounds: what is kept, and what holds behind. -/
theorem loopT {S O : Type} {tr : S → Tree (S ⊕ O)} {s0 : S} (n : Nat) (I : Nat → S → Prop) (Q : O → Prop) (hn : n < 1000000000000000) (h0 : I 0 s0)
    (h : ∀ k s, k ≤ n → I k s → (tr s).T (rq n k I Q)) : ∃ o, iter (fun s => (tr s).run) F0 s0 = some o ∧ Q o :=
  loop_from n I Q (fun k s hk hi => (tr s).T_run (h k s hk hi)) F0 0 s0 (by unfold F0; omega) (Nat.zero_le n) h0

theorem some_eq {A : Type} {x : Option A} {y : A} (h : ∃ o, x = some o ∧ o = y) : x = some y := by
  obtain ⟨o, ho, rfl⟩ := h
  exact ho

theorem w64_nat {k : Nat} (h : k < 1000000000000000) : w64 ((k : Int) + 1) = ((k + 1 : Nat) : Int) := by
  rw [w64_id (by omega) (by omega)]
  omega

theorem getD_el {α : Type} {a : List α} {i : Nat} {x : α} (h : i < a.length) : a.getD i x = a[i] := by
  simp [List.getD, h]
theorem getD_ext {α : Type} [Inhabited α] {a b : List α} (hl : a.length = b.length) (h : ∀ i, i < a.length → a.getD i default = b.getD i default) : a = b := by
  refine List.ext_getElem hl fun i h1 h2 => ?_
  have := h i h1
  rwa [getD_el h1, getD_el h2] at this
theorem getD_mem {α : Type} [Inhabited α] {a : List α} {i : Nat} (h : i < a.length) : a.getD i default ∈ a := by
  rw [getD_el h]
  exact List.getElem_mem h
theorem mem_getD {α : Type} [Inhabited α] {a : List α} {x : α} (h : x ∈ a) : ∃ i, i < a.length ∧ a.getD i default = x := by
  obtain ⟨i, hi, rfl⟩ := List.getElem_of_mem h
  exact ⟨i, hi, getD_el hi⟩
theorem getD_set {α : Type} [Inhabited α] {a : List α} {i j : Nat} {x : α} (hi : i < a.length) : (a.set i x).getD j default = if j = i then x else a.getD j default := by
  by_cases h : j = i
  · subst h
    simp [List.getD, hi]
  · simp [List.getD, h, Ne.symm h]
theorem getD_append {α : Type} [Inhabited α] {a b : List α} {j : Nat} : (a ++ b).getD j default = if j < a.length then a.getD j default else b.getD (j - a.length) default := by
  simp only [List.getD, List.getElem?_append]
  split <;> rfl
theorem getD_map_range {α : Type} [Inhabited α] {n i : Nat} {f : Nat → α} (h : i < n) : ((List.range n).map f).getD i default = f i := by
  rw [getD_el (by simpa using h)]
  simp
theorem getD_map {α β : Type} [Inhabited α] [Inhabited β] {a : List α} {f : α → β} {i : Nat} (h : i < a.length) : (a.map f).getD i default = f (a.getD i default) := by
  rw [getD_el (by simpa using h), getD_el h]
  simp
theorem map_range_succ {α : Type} {n : Nat} {f : Nat → α} : (List.range (n + 1)).map f = (List.range n).map f ++ [f n] := by
  rw [List.range_succ, List.map_append, List.map_singleton]
end Go.SM
