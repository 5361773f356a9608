/- The S-machine: a law that is true of all data is true of the function. -/
import Derived.Test.YtnhebloiappfiaaGreatSMen
namespace Go.SM
open Go.ChangeShapes Go.WideShapes Go.ChangeAt Go.RowKit
set_option linter.unusedVariables false

/-- A function's parameters are data. -/
def entAll (P : Program) (n : Nat) : List TypeId → List Ty → Bool
  | [], [] => true
  | T :: Ts, t :: ts => entOk P n T t && entAll P n Ts ts
  | _, _ => false
def SzAll : (ts : List Ty) → Tys.den ts → Prop
  | [], _ => True
  | [t], x => Sz t x
  | t :: u :: r, x => Sz t x.1 ∧ SzAll (u :: r) x.2

section
variable {H : Type} {enc : TypeId × Value → H} {P : Program} {w : World} {base : Nat} {spare : Nat → Bool} {held : Bool}

theorem one_cell {v u : Value} (h : v.cells.toList = [u]) (hv : ∀ cs, v ≠ .agg cs) : v = u := by
  cases v <;> simp [Value.cells] at h <;> first | exact h | (exact absurd rfl (hv _))

theorem arg_El {n : Nat} {T : TypeId} {t : Ty} {v : Value} {b : Nat} {x : t.den} (he : entOk P n T t = true) (hok : Value.okWide P w .any b T v) (hx : ER w (fun b => b < w.heap.size) t x v.cells.toList) :
    ElR P w (fun b => b < w.heap.size) [] [] (t.e x) v := by
  cases n with
  | zero => simp [entOk] at he
  | succ n =>
    unfold entOk at he
    unfold Value.okWide at hok
    split at he
    · rename_i hT
      rw [hT] at hok
      have hv : ∀ cs, v ≠ .agg cs := by rintro cs rfl; simp [Cell.okWide, Cell.ok, hT] at hok
      exact one_cell hx hv
    · rename_i hT
      rw [hT] at hok
      have hv : ∀ cs, v ≠ .agg cs := by rintro cs rfl; simp [Cell.okWide, Cell.ok, hT] at hok
      exact ⟨one_cell hx.1 hv, hx.2⟩
    · rename_i hT
      rw [hT] at hok
      have hv : ∀ cs, v ≠ .agg cs := by rintro cs rfl; simp [Cell.okWide, Cell.ok, hT] at hok
      exact one_cell hx hv
    · rename_i hT
      rw [hT] at hok
      have hv : ∀ cs, v ≠ .agg cs := by rintro cs rfl; simp [Cell.okWide, Cell.ok, hT] at hok
      exact one_cell hx hv
    · rename_i hT
      rw [hT] at hok
      have hv : ∀ cs, v ≠ .agg cs := by rintro cs rfl; simp [Cell.okWide, Cell.ok, hT] at hok
      obtain ⟨ba, h1, h2⟩ := hx
      exact ⟨ba, one_cell h1 hv, h2⟩
    · rename_i hT
      rw [hT] at hok
      have hv : ∀ cs, v ≠ .agg cs := by rintro cs rfl; simp [Cell.okWide, Cell.ok, hT] at hok
      obtain ⟨a, cap, h1, h2⟩ := hx
      have := one_cell h1 hv
      subst this
      exact ⟨a, cap, rfl, h2⟩
    · rename_i t _ _ fs hT
      rw [hT] at hok
      obtain ⟨cs, rfl, _⟩ := hok
      simp only [Bool.and_eq_true] at he
      have hagg : t.e x = .agg (inj t x) := by
        have h2 := he.2
        cases t <;> first | rfl | (cases fs.toList <;> simp [fieldsOk] at h2; done) | (cases n <;> cases fs.toList <;> simp [fieldsOk] at h2; done)
      rw [hagg]
      exact ⟨cs, rfl, inj_sound t x _ hx⟩
    · cases he

theorem args_data : ∀ {n : Nat} {Ts : List TypeId} {ts : List Ty} {vs : List Value} {ds : List (DataW H)} {ps : List MemPlace} {b : Nat}, entAll P n Ts ts = true → DataW.TrodAll enc P w base spare held Ts vs ds ps →
    (∀ (j : Nat) (T : TypeId) (v : Value), Ts[j]? = some T → vs[j]? = some v → Value.okWide P w .any b T v) → (DataW.weightsEach P Ts ds).all (· ≤ reachBytes) = true →
    ∃ x : Tys.den ts, All2 (ElR P w (fun b => b < w.heap.size) [] []) (Tys.es ts x) vs ∧ SzAll ts x
  | n, [], [], vs, ds, ps, b, he, h, hok, hz => by
    obtain ⟨rfl, rfl, rfl⟩ := trodAll_nil h
    exact ⟨(), all2_nil, trivial⟩
  | n, T :: Ts, [t], vs, ds, ps, b, he, h, hok, hz => by
    obtain ⟨v, vs', d, ds', p, q, rfl, rfl, rfl, h1, h2⟩ := trodAll_cons h
    simp only [entAll, Bool.and_eq_true] at he
    unfold DataW.weightsEach at hz
    obtain ⟨hz1, hz2⟩ := all_append hz
    obtain ⟨fuel, h1⟩ := h1
    obtain ⟨x, hx, hs⟩ := trod_ER n fuel T t _ d p he.1 h1 hz1
    cases Ts with
    | nil =>
      obtain ⟨rfl, rfl, rfl⟩ := trodAll_nil h2
      exact ⟨x, all2_cons (arg_El he.1 (hok 0 T v rfl rfl) hx) all2_nil, hs⟩
    | cons T' Ts => have := he.2; simp [entAll] at this
  | n, T :: Ts, t :: u :: r, vs, ds, ps, b, he, h, hok, hz => by
    obtain ⟨v, vs', d, ds', p, q, rfl, rfl, rfl, h1, h2⟩ := trodAll_cons h
    simp only [entAll, Bool.and_eq_true] at he
    unfold DataW.weightsEach at hz
    obtain ⟨hz1, hz2⟩ := all_append hz
    obtain ⟨fuel, h1⟩ := h1
    obtain ⟨x, hx, hs⟩ := trod_ER n fuel T t _ d p he.1 h1 hz1
    obtain ⟨y, hy, hs'⟩ := args_data (ts := u :: r) (n := n) (Ts := Ts) he.2 h2 (fun j T v hj hv => hok (j + 1) T v (by simpa using hj) (by simpa using hv)) hz2
    exact ⟨(x, y), all2_cons (arg_El he.1 (hok 0 T v rfl rfl) hx) hy, hs, hs'⟩
  | n, [], _ :: _, _, _, _, _, he, _, _, _ => by simp [entAll] at he
  | n, _ :: _, [], _, _, _, _, he, _, _, _ => by simp [entAll] at he

theorem trodAll_below (hl : laidOutB P = true) {W W' : World} (hb : Below W.heap.size W W') : ∀ {Ts : List TypeId} {vs : List Value} {ds : List (DataW H)} {ps : List MemPlace}, (Ts.all fun T => P.readableRec T && decide (T < P.types.size)) = true →
    DataW.TrodAll enc P W 0 (fun _ => true) true Ts vs ds ps → (∀ x ∈ ps, x.block < W.heap.size) → DataW.TrodAll enc P W' 0 (fun b => decide (b < W.heap.size)) true Ts vs ds ps
  | [], vs, ds, ps, _, h, _ => by
    obtain ⟨rfl, rfl, rfl⟩ := trodAll_nil h
    exact rfl
  | T :: Ts, vs, ds, ps, hr, h, hlt => by
    obtain ⟨v, vs', d, ds', p, q, rfl, rfl, rfl, h1, h2⟩ := trodAll_cons h
    simp only [List.all_cons, Bool.and_eq_true, decide_eq_true_eq] at hr
    exact ⟨p, q, Below.trod hl hr.1.1 hr.1.2 h1 hb (fun x hx => hlt x (by simp [hx])), trodAll_below hl hb (by simpa using hr.2) h2 (fun x hx => hlt x (by simp [hx])), rfl⟩

/-- A LAW: true of all data that a machine can hold, so true of the function. -/
theorem law_handed {C : Checked} {os : Os} {f : FuncId} {fn : Func} {s : ChangeSpec} {ts : List Ty} {T : TypeId} {a : Assume} {apart : Bool}
    (own : ownKnob C.prog.godebug = none) (started : os.Started) (noInit : C.prog.inits.idxOf? f = none) (hfn : C.prog.funcs[f]? = some fn) (hl : laidOutB C.prog = true)
    (witness : ∃ (w : World) (tape : Tape) (i : Input), w.os = os ∧ (w.forCall tape i).Shaped C.prog ∧ i.vars = [] ∧ Input.okWide C.prog (w.forCall tape i) .any w.heap.size f i ∧
      s.pre6 enc C.prog fn [] apart (w.forCall tape i).memory i.args ∧ a.holds C.prog (lone (Frame.enter C.prog f i.args .normal) [] (w.forCall tape i)))
    (hvars : s.vars = []) (hent : entAll C.prog 20 fn.params.toList ts = true) (hread : (fn.params.toList.all fun T => C.prog.readableRec T && decide (T < C.prog.types.size)) = true)
    (hres : fn.resultTypes = #[T]) (hT : C.prog.underlying T = some .bool) (hlen : ∀ x : Tys.den ts, (Tys.es ts x).length = fn.params.size)
    (hspec : ∀ ds : List (DataW H), ds.length = fn.params.size → s.fn H ds = { results := [.lit (.bool true)], args := ds })
    (hlaw : ∀ x : Tys.den ts, SzAll ts x → CSem C.prog f (Tys.es ts x) [] fun v b => v = .e (.c (.bool true)) ∧ b = []) :
    ReturnsInHanded a C os f .any (s.pre6 enc C.prog fn [] apart) (s.post enc C.prog fn apart true false false) := by
  refine returnsInHanded_of_change_sized own started noInit hfn witness ?_
  intro W base args ds gs before hval hW hcnd hz _
  have hW' := hW
  obtain ⟨p, q, hA, hV, rfl, hfz, hnd⟩ := hW
  rw [hvars] at hV
  obtain ⟨rfl, rfl⟩ := trodVars_none hV
  simp only [List.append_nil] at hW' hz
  have hz' : (DataW.weightsEach C.prog fn.params.toList ds).all (· ≤ reachBytes) = true := by
    have e : s.plain.varTypes C.prog = [] := by simp [ChangeSpec.plain, DataSpec.varTypes, hvars]
    rw [e, List.append_nil] at hz
    exact hz
  obtain ⟨x, hx, hs⟩ := args_data (b := base) hent hA (fun j T v hj hv => hval j T v (by simpa using hj) (by simpa using hv)) hz'
  have hm : MemR C.prog (fun b => b < W.heap.size) [] [] W := ⟨rfl, fun k x h => by simp at h, fun k b h => by simp [isMut] at h, fun k k' b h => by simp [isMut] at h, fun b h => h⟩
  have hdl : ds.length = fn.params.size := by
    have h1 := hx.1
    rw [hlen x] at h1
    have : ∀ {Ts : List TypeId} {vs : List Value} {ds : List (DataW H)} {ps : List MemPlace}, DataW.TrodAll enc C.prog W 0 (fun _ => true) true Ts vs ds ps → ds.length = vs.length := by
      intro Ts
      induction Ts with
      | nil => intro vs ds ps h; obtain ⟨rfl, rfl, rfl⟩ := trodAll_nil h; rfl
      | cons T Ts ih => intro vs ds ps h; obtain ⟨v, vs', d, ds', p, q, rfl, rfl, rfl, h1, h2⟩ := trodAll_cons h; simp [ih h2]
    rw [this hA, ← h1]
  refine (hlaw x hs W _ [] args hm (by simpa using hx)).mono ?_
  rintro e W' ⟨v, V', F', μ', b', rfl, ⟨rfl, rfl⟩, u, hv⟩
  have hv : v = .bool true := hv
  subst hv
  have hb : Below W.heap.size W W' := ⟨u.keep.os, u.keep.tape, u.keep.output, u.keep.size, fun k hk => u.keep.block k hk (by rintro ⟨j, hj, _⟩; simp [isMut] at hj)⟩
  have hlt : ∀ y ∈ p, y.block < W.heap.size := fun y hy => by simpa using hW'.lt y (by simpa using hy)
  refine ⟨_, rfl, ds, [], p, [], p, [], by simpa using hW', ?_, ?_, ?_, Below.frame hb _, fun h => by cases h⟩
  · rw [List.append_nil, hspec ds hdl, hres]
    exact ⟨[], [], ⟨1, by simp [DataW.trod, hT, Value.cells]⟩, rfl, rfl⟩
  · rw [List.append_nil, hspec ds hdl]
    exact trodAll_below hl hb hread hA hlt
  · rw [List.append_nil, hspec ds hdl, hvars]
    exact rfl
end
end Go.SM
