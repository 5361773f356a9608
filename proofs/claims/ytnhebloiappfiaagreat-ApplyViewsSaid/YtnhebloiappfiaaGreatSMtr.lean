/- The S-machine: trees, by which a body's precondition is told and computed. -/
import Derived.Test.YtnhebloiappfiaaGreatSMt
namespace Go.SM
set_option linter.unusedVariables false

/-- What a body comes to: a value; something that must hold; a test; something that was shown of a call or a loop; one of two ways out. -/
inductive Tree (R : Type) : Type 1 where
  | ret (r : R)
  | ob (p : Prop) [d : Decidable p] (t : Tree R)
  | br (b : Bool) (t e : Tree R)
  | ex {A : Type} {lp : A → Prop} {val : Option A} (ok : ∀ y, val = some y → lp y) (k : A → Tree R)
  | an {lp : Prop} {val : Option Unit} (ok : ∀ y, val = some y → lp) (t : Tree R)
  | alt (b : Bool) (t e : Tree R)
  | any (p : Prop) (k : Bool → Tree R)
  | no

namespace Tree
variable {R : Type}

def wp (Q : R → Prop) : Tree R → Prop
  | .ret r => Q r
  | @Tree.ob _ p _ t => p ∧ t.wp Q
  | .br b t e => SM.br b (t.wp Q) (e.wp Q)
  | .ex (A := A) (lp := lp) ok k => ∃ y : A, lp y ∧ (k y).wp Q
  | .an (lp := lp) ok t => lp ∧ t.wp Q
  | .alt b t e => t.wp Q ∨ e.wp Q
  | .any p k => ∀ g : Bool, (g = true → p) → (k g).wp Q
  | .no => False

open Classical in
noncomputable def run : Tree R → Option R
  | .ret r => some r
  | @Tree.ob _ p d t => @ite _ p d t.run none
  | .br b t e => cond b t.run e.run
  | .ex (val := val) ok k => val.bind fun y => (k y).run
  | .an (val := val) ok t => val.bind fun _ => t.run
  | .alt b t e => cond b t.run e.run
  | .any p k => if p then (if (k true).run = (k false).run then (k false).run else none) else (k false).run
  | .no => none

theorem sound {Q : R → Prop} : ∀ (t : Tree R) {r : R}, t.run = some r → Q r → t.wp Q
  | .ret r', r, h, hq => by
    simp only [run, Option.some.injEq] at h
    subst h
    exact hq
  | @Tree.ob _ p d t, r, h, hq => by
    simp only [run] at h
    split at h
    · rename_i hp; exact ⟨hp, t.sound h hq⟩
    · cases h
  | .br b t e, r, h, hq => by
    cases b with
    | true => exact t.sound (by simpa [run] using h) hq
    | false => exact e.sound (by simpa [run] using h) hq
  | .ex (val := val) ok k, r, h, hq => by
    simp only [run] at h
    obtain ⟨y, hv, h⟩ := Option.bind_eq_some_iff.1 h
    exact ⟨y, ok y hv, (k y).sound h hq⟩
  | .an (val := val) ok t, r, h, hq => by
    simp only [run] at h
    obtain ⟨y, hv, h⟩ := Option.bind_eq_some_iff.1 h
    exact ⟨ok y hv, t.sound h hq⟩
  | .alt b t e, r, h, hq => by
    cases b with
    | true => exact .inl (t.sound (by simpa [run] using h) hq)
    | false => exact .inr (e.sound (by simpa [run] using h) hq)
  | .any p k, r, h, hq => by
    intro g hg
    simp only [run] at h
    split at h
    · split at h
      · rename_i he
        cases g with
        | true => exact (k true).sound (by rw [he]; exact h) hq
        | false => exact (k false).sound h hq
      · cases h
    · rename_i hp
      cases g with
      | true => exact absurd (hg rfl) hp
      | false => exact (k false).sound h hq
  | .no, r, h, hq => by cases h
end Tree

/-- Rounds, till one leads out. -/
def iter {S O : Type} (t : S → Option (S ⊕ O)) : Nat → S → Option O
  | 0, _ => none
  | n + 1, s => match t s with
    | some (.inl s') => iter t n s'
    | some (.inr o) => some o
    | none => none

/-- More rounds than any loop goes. -/
def F0 : Nat := 1180591620717411303424

def lft {A B : Type} : Option (A ⊕ B) → Option A
  | some (.inl a) => some a
  | _ => none
def rgt {A B : Type} : Option (A ⊕ B) → Option B
  | some (.inr a) => some a
  | _ => none
def isL {A B : Type} : Option (A ⊕ B) → Bool
  | some (.inl _) => true
  | _ => false
theorem lft_eq {A B : Type} {x : Option (A ⊕ B)} {a : A} (h : lft x = some a) : x = some (.inl a) := by
  unfold lft at h
  split at h
  · cases h; rfl
  · cases h
theorem rgt_eq {A B : Type} {x : Option (A ⊕ B)} {a : B} (h : rgt x = some a) : x = some (.inr a) := by
  unfold rgt at h
  split at h
  · cases h; rfl
  · cases h

theorem s_l {A B : Type} {L : Option (A ⊕ B)} {lp : A ⊕ B → Prop} (h : ∀ o, L = some o → lp o) : ∀ y, lft L = some y → lp (.inl y) := fun y hy => h _ (lft_eq hy)
theorem s_r {A B : Type} {L : Option (A ⊕ B)} {lp : A ⊕ B → Prop} (h : ∀ o, L = some o → lp o) : ∀ y, rgt L = some y → lp (.inr y) := fun y hy => h _ (rgt_eq hy)
theorem s_u {L : Option Unit} {lp : Unit → Prop} (h : ∀ o, L = some o → lp o) : ∀ y, L = some y → lp () := fun y hy => h y hy

/-- A leaf of a round: again, or out. -/
def rnd {S O : Type} (P : Program) (H : Hint) (m id : Nat) (c : Code) (st : S → St) (out : O → Exit × St) (K : Exit → St → Prop) : S ⊕ O → Prop
  | .inl s => LpK P H m id c (st s) K
  | .inr o => K (out o).1 (out o).2

theorem iter_sound {P : Program} {H : Hint} {m id : Nat} {c : Code} {S O : Type} {tr : S → Tree (S ⊕ O)} {st : S → St} {out : O → Exit × St} (hid : firstRegion c = id)
    (hc : ∀ s K, exec P H m c (st s) (roundK P H m id c K) = (tr s).wp (rnd P H m id c st out K)) :
    ∀ (n : Nat) (s : S) (o : O), iter (fun s => (tr s).run) n s = some o → LpK P H m id c (st s) (fun e s' => e = (out o).1 ∧ s' = (out o).2)
  | 0, s, o, h => by cases h
  | n + 1, s, o, h => by
    refine LpK.unroll hid ?_
    rw [hc]
    simp only [iter] at h
    split at h
    · rename_i s' hs
      exact (tr s).sound hs (iter_sound hid hc n s' o h)
    · rename_i o' hs
      cases h
      exact (tr s).sound hs ⟨rfl, rfl⟩
    · cases h

theorem fun_sound {P : Program} {H : Hint} {f : FuncId} {fn : Func} {args : List E} {ts : List RT} {T : Tree (RTs.den ts)} (hf : P.funcs[f]? = some fn) (hn : Nat.ble args.length fn.ntmps = true)
    (hc : ∀ post : V → List Blk → Prop, body P H fn args [] post = T.wp (fun r => post (RTs.shape ts r).1 (RTs.shape ts r).2)) : ∀ y, T.run = some y → CSem P f args [] (fun v b => v = (RTs.shape ts y).1 ∧ b = (RTs.shape ts y).2) :=
  fun y h => call_sound hf (Nat.le_of_ble_eq_true hn) (by rw [hc]; exact T.sound h ⟨rfl, rfl⟩)

/-- Of a loop that ends: what it comes to, by a measure and what is kept. -/
theorem iter_eq {S O : Type} {t : S → Option (S ⊕ O)} (f : S → O) (I : S → Prop) (μ : S → Nat)
    (h : ∀ s, I s → t s = some (.inr (f s)) ∨ ∃ s', t s = some (.inl s') ∧ I s' ∧ μ s' < μ s ∧ f s' = f s) : ∀ (n : Nat) (s : S), I s → μ s < n → iter t n s = some (f s)
  | 0, s, _, hn => by omega
  | n + 1, s, hi, hn => by
    rcases h s hi with e | ⟨s', e, hi', hm, hf⟩
    · simp only [iter, e]
    · simp only [iter, e]
      rw [iter_eq f I μ h n s' hi' (by omega), hf]
/-- The same, of what holds behind. -/
theorem iter_rule {S O : Type} {t : S → Option (S ⊕ O)} (I : S → Prop) (μ : S → Nat) (Q : O → Prop)
    (h : ∀ s, I s → (∃ o, t s = some (.inr o) ∧ Q o) ∨ ∃ s', t s = some (.inl s') ∧ I s' ∧ μ s' < μ s) : ∀ (n : Nat) (s : S), I s → μ s < n → ∃ o, iter t n s = some o ∧ Q o
  | 0, s, _, hn => by omega
  | n + 1, s, hi, hn => by
    rcases h s hi with ⟨o, e, hq⟩ | ⟨s', e, hi', hm⟩
    · exact ⟨o, by simp only [iter, e], hq⟩
    · obtain ⟨o, ho, hq⟩ := iter_rule I μ Q h n s' hi' (by omega)
      exact ⟨o, by simp only [iter, e, ho], hq⟩
end Go.SM
