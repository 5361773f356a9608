/- The S-machine, part a: typed values of frozen slices, cells, blocks, and how they stand for the model's values and memory. -/
import Derived.Calls
import Derived.Laws.Rows
import Derived.Laws.Append
import Derived.Laws.CopyRow
import Derived.Laws.AppendOwn
import GoSem.ClaimData
namespace Go.SM
set_option linter.unusedVariables false

/-! ### Types whose values are plain data -/
inductive Ty where
  | i64 | u64 | u8 | bool | str | unit
  | slice (t : Ty)
  | pair (a b : Ty)
  deriving DecidableEq

@[reducible] def Ty.den : Ty → Type
  | .i64 => Int
  | .u64 => UInt64
  | .u8 => UInt8
  | .bool => Bool
  | .str => List UInt8
  | .unit => Unit
  | .slice t => List t.den
  | .pair a b => a.den × b.den

def Ty.size : Ty → Nat
  | .unit => 0
  | .pair a b => a.size + b.size
  | _ => 1

def Ty.zero : (t : Ty) → t.den
  | .i64 => (0 : Int)
  | .u64 => (0 : UInt64)
  | .u8 => (0 : UInt8)
  | .bool => false
  | .str => ([] : List UInt8)
  | .unit => ()
  | .slice t => ([] : List t.den)
  | .pair a b => (a.zero, b.zero)

/-! ### Cells, values, blocks -/
inductive Cell where
  | dead
  | i64 (n : Int)
  | u64 (n : UInt64)
  | u8 (n : UInt8)
  | bool (b : Bool)
  | str (s : List UInt8)
  | nils
  | sl (t : Ty) (xs : List t.den)
  | ref (k : Nat)
  | ptr (k off : Nat)
  | eptr (k i fo : Nat)
  | win (k lo n : Nat)
  | cptr (t : Ty) (x : t.den) (fo : Nat)
  | nilp
  | fn (f : FuncId) (cap : List Nat)
  | nilfn

inductive E where
  | c (x : Cell)
  | agg (xs : List Cell)

inductive V where
  | dead
  | e (x : E)
  | tup (xs : List E)

inductive Blk where
  | gone
  | hole
  | cells (T : TypeId) (cs : List Cell)
  | row (T : TypeId) (t : Ty) (xs : List t.den) (fz : Bool)

structure St where
  tmps : List V
  blks : List Blk

def inj : (t : Ty) → t.den → List Cell
  | .i64, n => [.i64 n]
  | .u64, n => [.u64 n]
  | .u8, n => [.u8 n]
  | .bool, b => [.bool b]
  | .str, s => [.str s]
  | .unit, _ => []
  | .slice t, xs => [.sl t xs]
  | .pair a b, x => inj a x.1 ++ inj b x.2

def proj : (t : Ty) → List Cell → Option (t.den × List Cell)
  | .i64, .i64 n :: r => some (n, r)
  | .u64, .u64 n :: r => some (n, r)
  | .u8, .u8 n :: r => some (n, r)
  | .bool, .bool n :: r => some (n, r)
  | .str, .str n :: r => some (n, r)
  | .unit, r => some ((), r)
  | .slice t, .nils :: r => some (([] : List t.den), r)
  | .slice t, .sl t' xs :: r => if h : t' = t then some (h ▸ xs, r) else none
  | .pair a b, r =>
    match proj a r with
    | some (x, r') => match proj b r' with
      | some (y, r'') => some ((x, y), r'')
      | none => none
    | none => none
  | _, _ => none

/-- Exactly one value of the type. -/
def proj1 (t : Ty) (cs : List Cell) : Option t.den :=
  match proj t cs with
  | some (x, []) => some x
  | _ => none

/-! ### How they stand for the model's values -/
abbrev big : Nat := 281474976710656

def ER (w : World) (F : Nat → Prop) : (t : Ty) → t.den → List Value → Prop
  | .i64, n, vs => vs = [.int .i64 n] ∧ -9223372036854775808 ≤ n ∧ n < 9223372036854775808
  | .u64, x, vs => vs = [.int .u64 (x.toNat : Int)]
  | .u8, x, vs => vs = [.int .u8 (x.toNat : Int)]
  | .bool, b, vs => vs = [.bool b]
  | .str, s, vs => ∃ ba : ByteArray, vs = [.string ba] ∧ ba.data.toList = s ∧ s.length ≤ big
  | .unit, _, vs => vs = []
  | .slice t, xs, vs => ∃ a cap, vs = [.slice a xs.length cap] ∧ (xs.length ≤ cap ∧ xs.length ≤ big) ∧
      (0 < xs.length → ∃ b o cs T fr, a = some ⟨b, o, none⟩ ∧ F b ∧ w.heap[b]? = some (.cells cs T fr) ∧
        ∀ i x, xs[i]? = some x → ER w F t x ((cs.toList.drop (o + i * t.size)).take t.size))
  | .pair a b, x, vs => ∃ v1 v2, vs = v1 ++ v2 ∧ ER w F a x.1 v1 ∧ ER w F b x.2 v2

theorem ER_length {w : World} {F : Nat → Prop} : ∀ (t : Ty) (x : t.den) (vs : List Value), ER w F t x vs → vs.length = t.size
  | .i64, _, _, h => by obtain ⟨rfl, _⟩ := h; rfl
  | .u64, _, _, h => by cases h; rfl
  | .u8, _, _, h => by cases h; rfl
  | .bool, _, _, h => by cases h; rfl
  | .str, _, _, h => by obtain ⟨_, rfl, _⟩ := h; rfl
  | .unit, _, _, h => by cases h; rfl
  | .slice t, _, _, h => by obtain ⟨_, _, rfl, _⟩ := h; rfl
  | .pair a b, x, vs, h => by
    obtain ⟨v1, v2, rfl, h1, h2⟩ := h
    simp [Ty.size, ER_length a _ _ h1, ER_length b _ _ h2]

theorem ER_mono {w w' : World} {F F' : Nat → Prop} (hF : ∀ b, F b → F' b) (hw : ∀ b, F b → w'.heap[b]? = w.heap[b]?) :
    ∀ (t : Ty) (x : t.den) (vs : List Value), ER w F t x vs → ER w' F' t x vs
  | .i64, _, _, h => h
  | .u64, _, _, h => h
  | .u8, _, _, h => h
  | .bool, _, _, h => h
  | .str, _, _, h => h
  | .unit, _, _, h => h
  | .slice t, xs, vs, h => by
    obtain ⟨a, cap, h1, h2, h3⟩ := h
    refine ⟨a, cap, h1, h2, fun hp => ?_⟩
    obtain ⟨b, o, cs, T, fr, e1, e2, e3, e4⟩ := h3 hp
    exact ⟨b, o, cs, T, fr, e1, hF b e2, (hw b e2).trans e3, fun i x hx => ER_mono hF hw t x _ (e4 i x hx)⟩
  | .pair a b, x, vs, h => by
    obtain ⟨v1, v2, h0, h1, h2⟩ := h
    exact ⟨v1, v2, h0, ER_mono hF hw a _ _ h1, ER_mono hF hw b _ _ h2⟩

/-- Two lists, place by place. -/
def All2 {α β : Type} (R : α → β → Prop) (xs : List α) (ys : List β) : Prop :=
  xs.length = ys.length ∧ ∀ (i : Nat) (x : α) (y : β), xs[i]? = some x → ys[i]? = some y → R x y

/-- The model's values of one cell each. -/
theorem ER_one {w : World} {F : Nat → Prop} : ∀ (t : Ty) (x : t.den) (vs : List Value), ER w F t x vs → ∀ v ∈ vs, v.oneCell' = true
  | .i64, _, _, h => by obtain ⟨rfl, _⟩ := h; simp [Value.oneCell']
  | .u64, _, _, h => by cases h; simp [Value.oneCell']
  | .u8, _, _, h => by cases h; simp [Value.oneCell']
  | .bool, _, _, h => by cases h; simp [Value.oneCell']
  | .str, _, _, h => by obtain ⟨_, rfl, _⟩ := h; simp [Value.oneCell']
  | .unit, _, _, h => by cases h; simp
  | .slice t, _, _, h => by obtain ⟨_, _, rfl, _⟩ := h; simp [Value.oneCell']
  | .pair a b, x, vs, h => by
    obtain ⟨v1, v2, rfl, h1, h2⟩ := h
    intro v hv
    rcases List.mem_append.1 hv with hv | hv
    · exact ER_one a _ _ h1 v hv
    · exact ER_one b _ _ h2 v hv

def CellR (P : Program) (w : World) (F : Nat → Prop) (μ : List (Option Nat)) (blks : List Blk) : Cell → Value → Prop
  | .dead, v => v.oneCell' = true
  | .i64 n, v => v = .int .i64 n ∧ -9223372036854775808 ≤ n ∧ n < 9223372036854775808
  | .u64 n, v => v = .int .u64 (n.toNat : Int)
  | .u8 n, v => v = .int .u8 (n.toNat : Int)
  | .bool b, v => v = .bool b
  | .str s, v => ∃ ba : ByteArray, v = .string ba ∧ ba.data.toList = s ∧ s.length ≤ big
  | .nils, v => ∃ a, v = .slice a 0 0
  | .sl t xs, v => ER w F (.slice t) xs [v]
  | .nilp, v => v = .pointer none
  | .nilfn, v => v = .nilFunc
  | .fn f cap, v => ∃ bs : List Nat, v = .func (.func f) #[] (bs.map fun b => Value.pointer (some ⟨b, 0, none⟩)).toArray ∧ cap.map (fun k => μ[k]?) = bs.map (fun b => some (some b))
  | .ptr k off, v => ∃ b, μ[k]? = some (some b) ∧ v = .pointer (some ⟨b, off, none⟩)
  | .eptr k i fo, v => v.oneCell' = true ∧ match blks[k]? with
    | some (.row T t xs fz) => ∃ b, μ[k]? = some (some b) ∧ v = .pointer (some ⟨b, i * t.size + fo, none⟩) ∧ i < xs.length
    | some .gone => True
    | _ => False
  | .win k lo n, v => v.oneCell' = true ∧ match blks[k]? with
    | some (.row T t xs fz) => ∃ a cap, v = .slice a n cap ∧ n ≤ cap ∧ lo + n ≤ xs.length ∧ (0 < n → ∃ b, μ[k]? = some (some b) ∧ a = some ⟨b, lo * t.size, none⟩)
    | some .gone => True
    | _ => False
  | .cptr t x fo, v => ∃ b o cs T fr, v = .pointer (some ⟨b, o + fo, none⟩) ∧ F b ∧ w.heap[b]? = some (.cells cs T fr) ∧ ER w F t x ((cs.toList.drop o).take t.size)
  | .ref k, v => v.oneCell' = true ∧ match blks[k]? with
    | some (.row T t xs fz) => (μ[k]? = some none ∧ ∃ a, v = .slice a 0 0) ∨
        ∃ b c cap, μ[k]? = some (some b) ∧ v = .slice (some ⟨b, 0, none⟩) xs.length cap ∧ w.heap[b]? = some (.cells c T (0, 0)) ∧ c.size = cap * t.size
    | some (.cells T cs) => ∃ b c n cap, μ[k]? = some (some b) ∧ v = .slice (some ⟨b, 0, none⟩) n cap ∧ n * P.cellsOf T = cs.length ∧ w.heap[b]? = some (.cells c T (0, 0)) ∧ c.size = cap * P.cellsOf T ∧ n ≤ cap ∧ cap ≤ maxLen
    | some .gone => True
    | _ => False

theorem CellR_one {P : Program} {w : World} {F : Nat → Prop} {μ : List (Option Nat)} {blks : List Blk} : ∀ {x : Cell} {v : Value}, CellR P w F μ blks x v → v.oneCell' = true := by
  intro x v h
  cases x with
  | dead => exact h
  | i64 n => obtain ⟨rfl, _⟩ := h; rfl
  | u64 n => cases h; rfl
  | u8 n => cases h; rfl
  | bool b => cases h; rfl
  | str s => obtain ⟨_, rfl, _⟩ := h; rfl
  | nils => obtain ⟨_, rfl⟩ := h; rfl
  | sl t xs => exact ER_one (.slice t) _ _ h _ (by simp)
  | ref k => exact h.1
  | ptr k off => obtain ⟨_, _, rfl⟩ := h; rfl
  | eptr k i fo => exact h.1
  | win k lo n => exact h.1
  | cptr t x fo => obtain ⟨_, _, _, _, _, rfl, _⟩ := h; rfl
  | nilp => cases h; rfl
  | fn f cap => obtain ⟨_, rfl, _⟩ := h; rfl
  | nilfn => cases h; rfl

/-- A block's content; 'm': the model's block that it is. -/
def BlkR (P : Program) (w : World) (F : Nat → Prop) (μ : List (Option Nat)) (blks : List Blk) (m : Option Nat) : Blk → Prop
  | .gone => True
  | .hole => m = none
  | .cells T cs => ∃ b c, m = some b ∧ w.heap[b]? = some (.cells c T (0, 0)) ∧ cs.length ≤ c.size ∧ All2 (CellR P w F μ blks) cs (c.toList.take cs.length)
  | .row T t xs fz => xs.length ≤ big ∧ 0 < t.size ∧ ((m = none ∧ xs = []) ∨ ∃ b c cap, m = some b ∧ w.heap[b]? = some (.cells c T (0, 0)) ∧ c.size = cap * t.size ∧ xs.length ≤ cap ∧ cap ≤ maxLen ∧
      (∀ i x, xs[i]? = some x → ER w F t x ((c.toList.drop (i * t.size)).take t.size)) ∧ (fz = true → F b))

def ElR (P : Program) (w : World) (F : Nat → Prop) (μ : List (Option Nat)) (blks : List Blk) : E → Value → Prop
  | .c x, v => CellR P w F μ blks x v
  | .agg xs, v => ∃ vs : Array Value, v = .agg vs ∧ All2 (CellR P w F μ blks) xs vs.toList

def VR (P : Program) (w : World) (F : Nat → Prop) (μ : List (Option Nat)) (blks : List Blk) : V → Value → Prop
  | .dead, _ => True
  | .e x, v => ElR P w F μ blks x v
  | .tup xs, v => ∃ vs : Array Value, v = .tuple vs ∧ All2 (ElR P w F μ blks) xs vs.toList

/-- May block k be written? -/
def Blk.mut : Blk → Bool
  | .cells .. => true
  | .row _ _ _ fz => !fz
  | .gone => false
  | .hole => false
def isMut (blks : List Blk) (k : Nat) : Bool := (blks[k]?.map Blk.mut).getD false

/-- What the call leaves alone. -/
structure Keep (w0 : World) (M0 : Nat → Prop) (w : World) : Prop where
  os : w.os = w0.os
  tape : w.tape = w0.tape
  output : w.output = w0.output
  size : w0.heap.size ≤ w.heap.size
  block : ∀ b, b < w0.heap.size → ¬ M0 b → w.heap[b]? = w0.heap[b]?
  shape : ∀ (b : Nat) (c : Array Value) (T : TypeId), w0.heap[b]? = some (.cells c T (0, 0)) → ∃ c', w.heap[b]? = some (.cells c' T (0, 0)) ∧ c'.size = c.size

theorem Keep.refl (w : World) (M : Nat → Prop) : Keep w M w := ⟨rfl, rfl, rfl, Nat.le_refl _, fun _ _ _ => rfl, fun b c T h => ⟨c, h, rfl⟩⟩
theorem Keep.trans {w0 w1 w2 : World} {M0 M1 : Nat → Prop} (h : Keep w0 M0 w1) (k : Keep w1 M1 w2) (hM : ∀ b, M1 b → b < w0.heap.size → M0 b) : Keep w0 M0 w2 :=
  ⟨k.os.trans h.os, k.tape.trans h.tape, k.output.trans h.output, Nat.le_trans h.size k.size,
    fun b hb hn => (k.block b (Nat.lt_of_lt_of_le hb h.size) (fun hm => hn (hM b hm hb))).trans (h.block b hb hn),
    fun b c T hb => by
      obtain ⟨c1, h1, e1⟩ := h.shape b c T hb
      obtain ⟨c2, h2, e2⟩ := k.shape b c1 T h1
      exact ⟨c2, h2, e2.trans e1⟩⟩

/-- The memory's side: blocks and what is known of them. -/
structure MemR (P : Program) (F : Nat → Prop) (μ : List (Option Nat)) (blks : List Blk) (w : World) : Prop where
  len : μ.length = blks.length
  blk : ∀ (k : Nat) (x : Blk), blks[k]? = some x → BlkR P w F μ blks (μ.getD k none) x
  apart : ∀ k b, isMut blks k = true → μ[k]? = some (some b) → ¬ F b
  inj : ∀ k k' b, isMut blks k = true → isMut blks k' = true → μ[k]? = some (some b) → μ[k']? = some (some b) → k = k'
  here : ∀ b, F b → b < w.heap.size

/-- What becomes of a block: it may have gone; else its kind and length stay. -/
def Sim : Blk → Blk → Prop
  | .gone, y => y = .gone
  | .hole, y => True
  | .cells T cs, y => y = .gone ∨ ∃ cs', y = .cells T cs' ∧ cs'.length = cs.length
  | .row T t xs _, y => y = .gone ∨ ∃ xs' fz', y = .row T t xs' fz' ∧ xs'.length = xs.length

theorem Sim.refl : ∀ (x : Blk), Sim x x
  | .gone => rfl
  | .hole => trivial
  | .cells T cs => .inr ⟨cs, rfl, rfl⟩
  | .row T t xs fz => .inr ⟨xs, fz, rfl, rfl⟩
theorem Sim.trans : ∀ {x y z : Blk}, Sim x y → Sim y z → Sim x z
  | .gone, y, z, h, k => by cases h; exact k
  | .hole, y, z, h, k => trivial
  | .cells T cs, y, z, h, k => by
    rcases h with rfl | ⟨cs', rfl, e⟩
    · cases k; exact .inl rfl
    · rcases k with rfl | ⟨cs'', rfl, e'⟩
      · exact .inl rfl
      · exact .inr ⟨cs'', rfl, e'.trans e⟩
  | .row T t xs fz, y, z, h, k => by
    rcases h with rfl | ⟨xs', fz', rfl, e⟩
    · cases k; exact .inl rfl
    · rcases k with rfl | ⟨xs'', fz'', rfl, e'⟩
      · exact .inl rfl
      · exact .inr ⟨xs'', fz'', rfl, e'.trans e⟩

theorem Sim.live : ∀ {x y : Blk}, Sim x y → x ≠ .hole → y ≠ .hole
  | .gone, y, h, _ => by cases h; simp
  | .hole, y, h, hn => absurd rfl hn
  | .cells T cs, y, h, _ => by
    rcases h with rfl | ⟨cs', rfl, _⟩ <;> simp
  | .row T t xs fz, y, h, _ => by
    rcases h with rfl | ⟨xs', fz', rfl, _⟩ <;> simp

/-- How knowledge grows. -/
structure Grow (F : Nat → Prop) (μ : List (Option Nat)) (blks : List Blk) (w : World) (F' : Nat → Prop) (μ' : List (Option Nat)) (blks' : List Blk) (w' : World) : Prop where
  le : ∀ b, F b → F' b
  heap : ∀ b, F b → w'.heap[b]? = w.heap[b]?
  shape : ∀ (b : Nat) (c : Array Value) (T : TypeId), w.heap[b]? = some (.cells c T (0, 0)) → ∃ c', w'.heap[b]? = some (.cells c' T (0, 0)) ∧ c'.size = c.size
  mu : ∀ (k : Nat) (x : Option Nat), μ[k]? = some x → (x ≠ none ∨ ∃ y, blks[k]? = some y ∧ y ≠ .hole) → μ'[k]? = some x
  sim : ∀ (k : Nat) (x : Blk), blks[k]? = some x → ∃ y, blks'[k]? = some y ∧ Sim x y

theorem Grow.refl (F : Nat → Prop) (μ : List (Option Nat)) (blks : List Blk) (w : World) : Grow F μ blks w F μ blks w :=
  ⟨fun _ h => h, fun _ _ => rfl, fun _ c _ h => ⟨c, h, rfl⟩, fun _ _ h _ => h, fun _ x h => ⟨x, h, Sim.refl x⟩⟩
theorem Grow.trans {F F' F'' : Nat → Prop} {μ μ' μ'' : List (Option Nat)} {b b' b'' : List Blk} {w w' w'' : World} (h : Grow F μ b w F' μ' b' w') (k : Grow F' μ' b' w' F'' μ'' b'' w'') : Grow F μ b w F'' μ'' b'' w'' :=
  ⟨fun x hx => k.le x (h.le x hx), fun x hx => (k.heap x (h.le x hx)).trans (h.heap x hx),
    fun x c T hx => by
      obtain ⟨c1, h1, e1⟩ := h.shape x c T hx
      obtain ⟨c2, h2, e2⟩ := k.shape x c1 T h1
      exact ⟨c2, h2, e2.trans e1⟩,
    fun i x hx hh => k.mu i x (h.mu i x hx hh) (hh.imp id fun ⟨y, hy, hn⟩ => by
      obtain ⟨z, hz, s⟩ := h.sim i y hy
      exact ⟨z, hz, s.live hn⟩),
    fun i x hx => by
      obtain ⟨y, hy, s⟩ := h.sim i x hx
      obtain ⟨z, hz, s'⟩ := k.sim i y hy
      exact ⟨z, hz, s.trans s'⟩⟩

/-- A step of the memory's side. -/
structure Upd (P : Program) (F : Nat → Prop) (μ : List (Option Nat)) (blks : List Blk) (w : World) (F' : Nat → Prop) (μ' : List (Option Nat)) (blks' : List Blk) (w' : World) : Prop where
  grow : Grow F μ blks w F' μ' blks' w'
  mem : MemR P F' μ' blks' w'
  keep : Keep w (fun b => ∃ k, isMut blks k = true ∧ μ[k]? = some (some b)) w'
  own : ∀ k b, isMut blks' k = true → μ'[k]? = some (some b) → (∃ k, isMut blks k = true ∧ μ[k]? = some (some b)) ∨ w.heap.size ≤ b
  fresh : ∀ b, F' b → F b ∨ (∃ k, isMut blks k = true ∧ μ[k]? = some (some b)) ∨ w.heap.size ≤ b

theorem Upd.refl {P : Program} {F : Nat → Prop} {μ : List (Option Nat)} {blks : List Blk} {w : World} (h : MemR P F μ blks w) : Upd P F μ blks w F μ blks w :=
  ⟨.refl .., h, .refl .., fun k b hk hb => .inl ⟨k, hk, hb⟩, fun b hb => .inl hb⟩
theorem Upd.trans {P : Program} {F F' F'' : Nat → Prop} {μ μ' μ'' : List (Option Nat)} {b b' b'' : List Blk} {w w' w'' : World} (h : Upd P F μ b w F' μ' b' w') (k : Upd P F' μ' b' w' F'' μ'' b'' w'') : Upd P F μ b w F'' μ'' b'' w'' :=
  ⟨h.grow.trans k.grow, k.mem,
    h.keep.trans k.keep (fun x ⟨i, hi, hx⟩ hlt => (h.own i x hi hx).resolve_right (by omega)),
    fun i x hi hx => by
      rcases k.own i x hi hx with ⟨j, hj, hx'⟩ | hx'
      · exact h.own j x hj hx'
      · exact .inr (Nat.le_trans h.keep.size hx'),
    fun x hx => by
      rcases k.fresh x hx with hx | ⟨j, hj, hx⟩ | hx
      · exact h.fresh x hx
      · exact .inr (h.own j x hj hx)
      · exact .inr (.inr (Nat.le_trans h.keep.size hx))⟩

/-- Where a call began. -/
structure Entry where
  F : Nat → Prop
  μ : List (Option Nat)
  b : List Blk
  w : World

structure Rel (P : Program) (N : Entry) (F : Nat → Prop) (μ : List (Option Nat)) (st : St) (a : Act) (w : World) : Prop where
  size : a.tmps.size = st.tmps.length
  tmps : ∀ (i : Nat) (v : V), st.tmps[i]? = some v → VR P w F μ st.blks v (a.tmps.getD i undef)
  defers : a.defers = []
  ok : N.μ.length = N.b.length
  upd : Upd P N.F N.μ N.b N.w F μ st.blks w

/-- What code must come to, for the model. -/
def Goal (P : Program) (N : Entry) (Q : Exit → St → Prop) : Exit → Act → World → Prop := fun e a w =>
  match e with
  | .panic _ => False
  | .outgrown => False
  | e => ∃ F μ st, Rel P N F μ st a w ∧ Q e st

/-- A loop is sound from a state at its head on; 'm': how many blocks the call was handed. -/
def Lp (P : Program) (m : Nat) (c : Code) (st : St) (Q : Exit → St → Prop) : Prop :=
  ∀ (N : Entry) (F : Nat → Prop) (μ : List (Option Nat)) (a : Act) (w : World), N.b.length = m → Rel P N F μ st a w →
    ∀ (b : Frame) (k : List Item) (cs : List Frame), ∃ e a' w', Goal P N Q e a' w' ∧ Arrives P (lone (b.at a (.code c :: .inLoop c :: k)) cs w) b k cs e a' w'

/-- A call: its arguments, the blocks that it is handed, and what it comes to. -/
def CSem (P : Program) (f : FuncId) (args : List E) (blks : List Blk) (post : V → List Blk → Prop) : Prop :=
  ∀ (w : World) (F : Nat → Prop) (μ : List (Option Nat)) (vals : Array Value), MemR P F μ blks w → All2 (ElR P w F μ blks) args vals.toList →
    Calls P f vals w fun e w' => ∃ v V' F' μ' blks', e = .returned v ∧ post V' blks' ∧ Upd P F μ blks w F' μ' blks' w' ∧ VR P w' F' μ' blks' V' v

theorem CSem.mono {P : Program} {f : FuncId} {args : List E} {blks : List Blk} {post post' : V → List Blk → Prop} (h : CSem P f args blks post) (hp : ∀ v b, post v b → post' v b) : CSem P f args blks post' :=
  fun w F μ vals hm ha => (h w F μ vals hm ha).mono fun e w' ⟨v, V', F', μ', blks', he, hq, r⟩ => ⟨v, V', F', μ', blks', he, hp _ _ hq, r⟩

/-! ### What stays true as knowledge grows -/
section
variable {P : Program} {F F' : Nat → Prop} {μ μ' : List (Option Nat)} {b b' : List Blk} {w w' : World}
theorem CellR.mono (g : Grow F μ b w F' μ' b' w') {x : Cell} {v : Value} (h : CellR P w F μ b x v) : CellR P w' F' μ' b' x v := by
  cases x with
  | dead => exact h
  | i64 n => exact h
  | u64 n => exact h
  | u8 n => exact h
  | bool n => exact h
  | str n => exact h
  | nils => exact h
  | nilp => exact h
  | nilfn => exact h
  | sl t xs => exact ER_mono g.le g.heap (.slice t) _ _ h
  | ptr k off => obtain ⟨x, h1, h2⟩ := h; exact ⟨x, g.mu _ _ h1 (.inl (by simp)), h2⟩
  | cptr t x fo =>
    obtain ⟨x', o, cs, T, fr, h1, h2, h3, h4⟩ := h
    exact ⟨x', o, cs, T, fr, h1, g.le _ h2, (g.heap _ h2).trans h3, ER_mono g.le g.heap t _ _ h4⟩
  | fn f cap =>
    obtain ⟨bs, h1, h2⟩ := h
    refine ⟨bs, h1, ?_⟩
    clear h1
    induction cap generalizing bs with
    | nil => cases bs with
      | nil => rfl
      | cons y ys => simp at h2
    | cons k ks ih => cases bs with
      | nil => simp at h2
      | cons y ys =>
        simp only [List.map_cons, List.cons.injEq] at h2 ⊢
        exact ⟨g.mu _ _ h2.1 (.inl (by simp)), ih ys h2.2⟩
  | eptr k i fo =>
    refine ⟨h.1, ?_⟩
    have h2 := h.2
    cases hk : b[k]? with
    | none => simp only [hk] at h2
    | some x =>
      obtain ⟨y, hy, s⟩ := g.sim k x hk
      simp only [hk] at h2
      cases x with
      | gone => cases s; simp only [hy]
      | hole => exact h2.elim
      | cells T cs => exact h2.elim
      | row T t xs fz =>
        rcases s with rfl | ⟨xs', fz', rfl, e⟩
        · simp only [hy]
        · obtain ⟨z, h3, h4, h5⟩ := h2
          simp only [hy]
          exact ⟨z, g.mu _ _ h3 (.inl (by simp)), h4, by omega⟩
  | win k lo n =>
    refine ⟨h.1, ?_⟩
    have h2 := h.2
    cases hk : b[k]? with
    | none => simp only [hk] at h2
    | some x =>
      obtain ⟨y, hy, s⟩ := g.sim k x hk
      simp only [hk] at h2
      cases x with
      | gone => cases s; simp only [hy]
      | hole => exact h2.elim
      | cells T cs => exact h2.elim
      | row T t xs fz =>
        rcases s with rfl | ⟨xs', fz', rfl, e⟩
        · simp only [hy]
        · obtain ⟨a, cap, h3, h4, h5, h6⟩ := h2
          simp only [hy]
          exact ⟨a, cap, h3, h4, by omega, fun hp => by obtain ⟨z, h7, h8⟩ := h6 hp; exact ⟨z, g.mu _ _ h7 (.inl (by simp)), h8⟩⟩
  | ref k =>
    refine ⟨h.1, ?_⟩
    have h2 := h.2
    cases hk : b[k]? with
    | none => simp only [hk] at h2
    | some x =>
      obtain ⟨y, hy, s⟩ := g.sim k x hk
      simp only [hk] at h2
      cases x with
      | gone => cases s; simp only [hy]
      | hole => exact h2.elim
      | cells T cs =>
        rcases s with rfl | ⟨cs', rfl, e⟩
        · simp only [hy]
        · obtain ⟨z, c, n, cap, h3, h4, h5, h6, h7, h8, h9⟩ := h2
          obtain ⟨c', h6', h7'⟩ := g.shape _ _ _ h6
          simp only [hy]
          exact ⟨z, c', n, cap, g.mu _ _ h3 (.inl (by simp)), h4, by omega, h6', by omega, h8, h9⟩
      | row T t xs fz =>
        rcases s with rfl | ⟨xs', fz', rfl, e⟩
        · simp only [hy]
        · simp only [hy]
          rcases h2 with ⟨h3, h4⟩ | ⟨z, c, cap, h3, h4, h5, h6⟩
          · exact .inl ⟨g.mu _ _ h3 (.inr ⟨_, hk, by simp⟩), h4⟩
          · obtain ⟨c', h5', h6'⟩ := g.shape _ _ _ h5
            exact .inr ⟨z, c', cap, g.mu _ _ h3 (.inl (by simp)), by rw [e]; exact h4, h5', by omega⟩
theorem All2.mono {α β : Type} {R R' : α → β → Prop} (hR : ∀ x y, R x y → R' x y) {xs : List α} {ys : List β} (h : All2 R xs ys) : All2 R' xs ys :=
  ⟨h.1, fun i x y hx hy => hR _ _ (h.2 i x y hx hy)⟩
theorem ElR.mono (g : Grow F μ b w F' μ' b' w') {x : E} {v : Value} (h : ElR P w F μ b x v) : ElR P w' F' μ' b' x v := by
  cases x with
  | c x => exact CellR.mono g h
  | agg xs => obtain ⟨vs, e, h⟩ := h; exact ⟨vs, e, h.mono fun _ _ => CellR.mono g⟩
theorem VR.mono (g : Grow F μ b w F' μ' b' w') {x : V} {v : Value} (h : VR P w F μ b x v) : VR P w' F' μ' b' x v := by
  cases x with
  | dead => trivial
  | e x => exact ElR.mono g h
  | tup xs => obtain ⟨vs, e, h⟩ := h; exact ⟨vs, e, h.mono fun _ _ => ElR.mono g⟩
/-- A block that was not touched. -/
theorem BlkR.mono (g : Grow F μ b w F' μ' b' w') {m : Option Nat} {x : Blk} (hm : ∀ k y, m = some k → w.heap[k]? = some y → w'.heap[k]? = some y) (h : BlkR P w F μ b m x) : BlkR P w' F' μ' b' m x := by
  cases x with
  | gone => trivial
  | hole => exact h
  | cells T cs =>
    obtain ⟨k, c, h1, h2, h3, h4⟩ := h
    exact ⟨k, c, h1, hm k _ h1 h2, h3, h4.mono fun _ _ => CellR.mono g⟩
  | row T t xs fz =>
    obtain ⟨h0, h00, h⟩ := h
    refine ⟨h0, h00, ?_⟩
    rcases h with h | ⟨k, c, cap, h1, h2, h3, h4, h5, h6, h7⟩
    · exact .inl h
    · exact .inr ⟨k, c, cap, h1, hm k _ h1 h2, h3, h4, h5, fun i x hx => ER_mono g.le g.heap t _ _ (h6 i x hx), fun hf => g.le _ (h7 hf)⟩
end

/-- A value is put where the operation says. -/
theorem Rel.put {P : Program} {N : Entry} {w w' : World} {F F' : Nat → Prop} {μ μ' : List (Option Nat)} {st : St} {a : Act} {b' : List Blk} {v : V} {val : Value} {d : Option Nat} {l : List V}
    (h : Rel P N F μ st a w) (u : Upd P F μ st.blks w F' μ' b' w') (hv : VR P w' F' μ' b' v val) (hl : l = match d with | some d => st.tmps.set d v | none => st.tmps) : Rel P N F' μ' ⟨l, b'⟩ (a.put d val) w' := by
  subst hl
  refine ⟨?_, ?_, ?_, h.ok, h.upd.trans u⟩
  · cases d <;> simp [Act.put, h.size]
  · intro i x hx
    cases d with
    | none => exact VR.mono u.grow (h.tmps i x hx)
    | some d =>
      simp only [Act.put] at *
      rw [List.getElem?_set] at hx
      by_cases hd : d = i
      · subst hd
        simp only [if_true] at hx
        split at hx
        · rename_i hlt
          cases hx
          have : d < a.tmps.size := by rw [h.size]; exact hlt
          simpa [Array.getD_eq_getD_getElem?, this] using hv
        · cases hx
      · simp only [if_neg hd] at hx
        have := VR.mono u.grow (h.tmps i x hx)
        simpa [Array.getD_eq_getD_getElem?, Array.getElem?_setIfInBounds, hd] using this
  · cases d <;> simp [Act.put, h.defers]
end Go.SM
