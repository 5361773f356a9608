/- The S-machine, part p: every operation is sound. -/
import Derived.Test.YtnhebloiappfiaaGreatSMo
namespace Go.SM
set_option linter.unusedVariables false
set_option linter.unusedSimpArgs false

section
variable {P : Program} {F : Nat → Prop} {μ : List (Option Nat)} {w : World} {st : St} {a : Act} {o : Oper}

theorem runs_eff {b b' : List Blk} {s : Sem Value} {v : V} (hx : execOp a.eval o = (do pure (.value (← s)))) (h : Eff P w F μ b s v b') : Runs P o a w F μ b v b' := by
  obtain ⟨val, w', F', μ', hr, u, hv⟩ := h
  exact ⟨val, w', F', μ', .inl (by rw [hx]; simp [hr]), u, hv⟩
theorem runs_val {b b' : List Blk} {s : Sem Value} {v : V} (hm : MemR P F μ b w) (hx : execOp a.eval o = (do pure (.value (← s)))) (h : Val P w F μ b s v b') : Runs P o a w F μ b v b' := runs_eff hx (h.eff hm)
theorem runs_effU {b b' : List Blk} {s : Sem Unit} (hx : execOp a.eval o = (do s; pure .skip)) (h : EffU P w F μ b s b') : Runs P o a w F μ b .dead b' := by
  obtain ⟨w', F', μ', hr, u⟩ := h
  exact ⟨undef, w', F', μ', .inr ⟨by rw [hx]; simp [hr], rfl⟩, u, trivial⟩
theorem good_val {b : List Blk} {s : Sem Value} {r : Res} (hm : MemR P F μ b w) (hx : execOp a.eval o = (do pure (.value (← s)))) (h : r.good (Val P w F μ b s)) : r.good (Runs P o a w F μ b) := Res.good_mono (fun _ _ => runs_val hm hx) h
theorem good_eff {b : List Blk} {s : Sem Value} {r : Res} (hx : execOp a.eval o = (do pure (.value (← s)))) (h : r.good (Eff P w F μ b s)) : r.good (Runs P o a w F μ b) := Res.good_mono (fun _ _ => runs_eff hx) h

theorem cells_map (ht : TmpsR P w F μ st a) : ∀ (l : List Operand), (∀ x ∈ l, evC st x ≠ .dead) → All2 (CellR P w F μ st.blks) (l.map (evC st)) (l.map a.eval)
  | [], _ => all2_nil
  | x :: l, h => all2_cons (evC_sound ht rfl (h x (by simp))) (cells_map ht l fun y hy => h y (by simp [hy]))

theorem mmGo_live (mx : Bool) : ∀ (cs : List Cell) (x n : Int), mmGo mx x cs = some n → ∀ c ∈ cs, c ≠ .dead
  | [], _, _, _, c, hc => by simp at hc
  | d :: cs, x, n, h, c, hc => by
    cases d <;> simp [mmGo] at h
    rcases List.mem_cons.1 hc with rfl | hc
    · simp
    · exact mmGo_live mx cs _ n h c hc
theorem minmax_live (mx : Bool) (cs : List Cell) (n : Int) (h : minmax mx cs = some n) : ∀ c ∈ cs, c ≠ .dead := by
  cases cs with
  | nil => intro c hc; simp at hc
  | cons d cs =>
    cases d <;> simp [minmax] at h
    intro c hc
    rcases List.mem_cons.1 hc with rfl | hc
    · simp
    · exact mmGo_live mx cs _ n h c hc

theorem fn_pointers (ht : TmpsR P w F μ st a) : ∀ {l : List Operand} {ks : List Nat}, (l.map (evC st)).mapM (fun c => match c with | .ptr k 0 => some k | _ => none) = some ks →
    ∃ bs : List Nat, l.map a.eval = bs.map (fun b => Value.pointer (some ⟨b, 0, none⟩)) ∧ ks.map (fun k => μ[k]?) = bs.map (fun b => some (some b)) := by
  intro l
  induction l with
  | nil => intro ks h; simp at h; subst h; exact ⟨[], rfl, rfl⟩
  | cons x l ih =>
    intro ks h
    rw [List.map_cons, List.mapM_cons] at h
    simp only [Option.bind_eq_bind, Option.bind_eq_some_iff] at h
    obtain ⟨k, hk, ks', hks, he⟩ := h
    cases he
    split at hk
    · rename_i k' hc
      cases hk
      obtain ⟨g, hg, hv⟩ := (evC_sound ht hc (by simp) : CellR P w F μ st.blks (.ptr k 0) (a.eval x))
      obtain ⟨bs, h1, h2⟩ := ih hks
      exact ⟨g :: bs, by simp [hv, h1], by simp [hg, h2]⟩
    · cases hk

theorem evC_dead (ht : TmpsR P w F μ st a) (x : Operand) {r : Cell → Res} {s : Sem Value} (hr : r .dead = .fail) (h : evC st x ≠ .dead → (r (evC st x)).good (Val P w F μ st.blks s)) : (r (evC st x)).good (Val P w F μ st.blks s) := by
  by_cases hd : evC st x = .dead
  · rw [hd, hr]; trivial
  · exact h hd

theorem fieldR_sound {b : List Blk} (hm : MemR P F μ b w) (S : TypeId) (f : Nat) {cs : List Cell} {vs : Array Value} (ha : All2 (CellR P w F μ b) cs vs.toList) :
    (fieldR P S b cs f).good (Val P w F μ b (Instr.field S (.agg vs) f)) := by
  unfold fieldR
  split
  · rename_i fs hS
    split
    · rename_i fd hfd
      unfold subR
      split
      · rename_i e he
        have hd := all2_drop ha fd.offset
        obtain ⟨i, hi⟩ := Option.ne_none_iff_exists'.1 (sub_info he)
        unfold sub at he
        split at he
        · rename_i hagg
          split at he
          · rename_i hle
            cases he
            have hsz : i.size = P.cellsOf fd.type := by simp [Program.cellsOf, hi]
            refine ⟨rfl, .agg (vs.extract fd.offset (fd.offset + P.cellsOf fd.type)), ?_, ⟨_, rfl, ?_⟩⟩
            · simp [Instr.field, run_underlying hS, hfd, asAgg, part, isAgg_run hagg, sizeOf, typeInfo, hi, hsz]
            · have := all2_take hd (P.cellsOf fd.type)
              rw [Array.toList_extract]
              simpa [List.extract] using this
          · cases he
        · rename_i hagg
          split at he
          · rename_i c r hcs
            cases he
            rw [hcs] at hd
            obtain ⟨y, ys, hys, hcy, _⟩ := all2_head hd
            have hg : vs[fd.offset]? = some y := by
              have : (vs.toList.drop fd.offset)[0]? = some y := by rw [hys]; rfl
              simpa using this
            refine ⟨rfl, y, ?_, hcy⟩
            simp [Instr.field, run_underlying hS, hfd, asAgg, part, isAgg_run hagg, hg]
          · cases he
        · cases he
      · trivial
    · trivial
  · trivial

set_option maxHeartbeats 1000000 in
theorem opR_sound (hm : MemR P F μ st.blks w) (ht : TmpsR P w F μ st a) : (opR P st o).good (Runs P o a w F μ st.blks) := by
  cases hop : o.op <;> simp only [opR, hop] <;> try exact trivial
  case move x =>
    split
    · trivial
    · have := ev_sound ht x
      exact ⟨_, w, F, μ, .inl (by simp only [execOp, hop]; rfl), .refl hm, this⟩
  case assign x =>
    split
    · trivial
    · have := ev_sound ht x
      exact ⟨_, w, F, μ, .inl (by simp only [execOp, hop]; rfl), .refl hm, this⟩
  case pick c x y =>
    split
    · rename_i h
      have hc : a.eval c = .bool true := evC_sound ht h (by simp)
      exact ⟨_, w, F, μ, .inl (by simp [execOp, hop, hc, asBool]), .refl hm, ev_sound ht x⟩
    · rename_i h
      have hc : a.eval c = .bool false := evC_sound ht h (by simp)
      exact ⟨_, w, F, μ, .inl (by simp [execOp, hop, hc, asBool]), .refl hm, ev_sound ht y⟩
    · trivial
  case alloc T => exact good_eff (by simp only [execOp, hop]) (alloc_eff hm T)
  case box T x =>
    split
    · rename_i e he
      exact good_eff (by simp only [execOp, hop]) (box_eff hm T (evE_sound ht he))
    · trivial
  case build T parts =>
    split
    · rename_i l hl
      exact good_val hm (by simp only [execOp, hop]; rfl) (buildR_sound hm T (by simpa using evParts_sound ht hl))
    · trivial
  case buildSlice T len parts =>
    split
    · rename_i l hl
      exact good_eff (by simp only [execOp, hop]; rfl) (buildSliceR_sound hm T len (by simpa using evParts_sound ht hl))
    · trivial
  case load T x =>
    exact good_val hm (by simp only [execOp, hop]) (evC_dead ht x rfl fun hd => loadR_sound hm T (evC_sound ht rfl hd))
  case store T x y =>
    split
    · rename_i e he
      by_cases hd : evC st x = .dead
      · rw [hd]
        unfold storeR
        split
        · trivial
        · trivial
      · exact Res.good_mono (fun v b' ⟨hv, h⟩ => by subst hv; exact runs_effU (by simp only [execOp, hop]) h) (storeR_sound hm T (evC_sound ht rfl hd) (evE_sound ht he))
    · trivial
  case nilCheck x =>
    split
    · rename_i k off h
      have hc := evC_sound ht h (by simp)
      obtain ⟨g, _, hv⟩ := hc
      exact ⟨_, w, F, μ, .inl (by simp only [execOp, hop, hv]; rfl), .refl hm, by have := evC_sound ht h (by simp); rw [hv] at this; exact this⟩
    · rename_i t y fo h
      have hc := evC_sound ht h (by simp)
      obtain ⟨g, o', _, _, _, hv, _⟩ := hc
      exact ⟨_, w, F, μ, .inl (by simp only [execOp, hop, hv]; rfl), .refl hm, by have := evC_sound ht h (by simp); rw [hv] at this; exact this⟩
    · trivial
  case binOp op T x y yT =>
    by_cases hd : evC st x = .dead
    · rw [hd]; cases evC st y <;> trivial
    · by_cases hd' : evC st y = .dead
      · rw [hd']; cases evC st x <;> trivial
      · exact good_val hm (by simp only [execOp, hop]) (binR_sound op T x y (evC_sound ht rfl hd) (evC_sound ht rfl hd'))
  case unOp op T x =>
    exact good_val hm (by simp only [execOp, hop]) (evC_dead (r := unR op st.blks) ht x rfl fun hd => unR_sound op (evC_sound ht rfl hd))
  case convert s d x =>
    refine good_val hm (by simp only [execOp, hop]) (evC_dead (r := convR P s d st.blks) ht x ?_ fun hd => convR_sound s d (evC_sound ht rfl hd))
    unfold convR
    split <;> simp_all
  case makeSlice T l c =>
    by_cases hd : evC st l = .dead
    · rw [hd]; cases evC st c <;> trivial
    · by_cases hd' : evC st c = .dead
      · rw [hd']; cases evC st l <;> trivial
      · exact good_eff (by simp only [execOp, hop]) (makeSliceR_sound hm T (evC_sound ht rfl hd) (evC_sound ht rfl hd'))
  case slice T x lo hi mx =>
    cases mx with
    | some m =>
      dsimp only
      by_cases hd : evC st x = .dead
      · rw [hd]
        unfold slice3R
        repeat' split
        all_goals first | trivial | simp_all
      · by_cases hd' : evC st m = .dead
        · rw [hd']
          unfold slice3R
          repeat' split
          all_goals first | trivial | simp_all
        · exact good_eff (by simp only [execOp, hop]; rfl) (slice3R_sound hm T (evC_sound ht rfl hd) (evC_sound ht rfl hd') (boundV_of ht lo) (boundV_of ht hi))
    | none =>
      dsimp only
      by_cases hd : evC st x = .dead
      · rw [hd]; trivial
      · exact good_eff (by simp only [execOp, hop]; rfl) (sliceR_sound hm T (evC_sound ht rfl hd) (boundV_of ht lo) (boundV_of ht hi))
  case fieldAddr S x f =>
    refine good_val hm (by simp only [execOp, hop]) (evC_dead (r := fun c => fieldAddrR P S st.blks c f) ht x ?_ fun hd => fieldAddrR_sound hm S f (evC_sound ht rfl hd))
    simp only [fieldAddrR, moveAddr]
    repeat' split
    all_goals first | rfl | simp_all
  case field S x f =>
    split
    · rename_i cs he
      obtain ⟨vs, hv, ha⟩ := evE_sound ht he
      refine good_val (s := Instr.field S (a.eval x) f) hm (by simp only [execOp, hop]) ?_
      rw [hv]
      exact fieldR_sound hm S f ha
    · trivial
  case indexAddr T x i =>
    by_cases hd : evC st x = .dead
    · rw [hd]
      unfold indexAddrR
      repeat' split
      all_goals first | trivial | simp_all [moveAddr]
    · by_cases hd' : evC st i = .dead
      · rw [hd']; trivial
      · exact good_val hm (by simp only [execOp, hop]) (indexAddrR_sound hm T (evC_sound ht rfl hd) (evC_sound ht rfl hd'))
  case index T x i =>
    by_cases hd : evC st x = .dead
    · rw [hd]; unfold indexR; split <;> simp_all [Res.good]
    · by_cases hd' : evC st i = .dead
      · rw [hd']; unfold indexR; split <;> simp_all [Res.good]
      · exact good_val hm (by simp only [execOp, hop]) (indexR_sound T (evC_sound ht rfl hd) (evC_sound ht rfl hd'))
  case extract x i =>
    split
    · rename_i xs he
      split
      · rename_i e hxi
        have hv := ev_sound ht x
        rw [he] at hv
        obtain ⟨vs, hv, ha⟩ := hv
        have hlt := (List.getElem?_eq_some_iff.1 hxi).1
        have hlt' : i < vs.size := by have := ha.1; simp at this; omega
        have hg : vs[i]? = some vs[i] := Array.getElem?_eq_getElem hlt'
        exact ⟨vs[i], w, F, μ, .inl (by simp [execOp, hop, hv, Instr.extract, hg]), .refl hm, ha.2 i e vs[i] hxi (by simp)⟩
      · trivial
    · trivial
  case makeFunc fn first cap =>
    cases fn <;> try exact trivial
    rename_i f
    dsimp only
    split
    · rename_i ks hks
      split
      · rename_i hf
        obtain ⟨bs, h1, h2⟩ := fn_pointers ht hks
        have hf' : first = #[] := by simpa using hf
        subst hf'
        have hcap : cap.map a.eval = (bs.map (fun b => Value.pointer (some ⟨b, 0, none⟩))).toArray := by
          apply Array.ext'
          rw [Array.toList_map, h1]
        refine ⟨.func (.func f) #[] (bs.map (fun b => Value.pointer (some ⟨b, 0, none⟩))).toArray, w, F, μ, .inl (by simp [execOp, hop, Instr.makeFunc, hcap]), .refl hm, ⟨bs, rfl, h2⟩⟩
      · trivial
    · trivial
  case call c =>
    obtain ⟨cal, args, tys⟩ := c
    cases cal <;> try exact trivial
    rename_i bi
    cases bi <;> try exact trivial
    case len =>
      dsimp only
      split
      · rename_i x T hx hT
        have h1 : args = #[x] := by apply Array.ext'; simpa using hx
        have h2 : tys = #[T] := by apply Array.ext'; simpa using hT
        subst h1; subst h2
        refine good_val (s := Builtin.len_ #[T] o.type #[a.eval x]) hm (by simp [execOp, hop, resolve, invoke, builtin]) (evC_dead (r := lenR P T st.blks) ht x ?_ fun hd => lenR_sound hm T _ (evC_sound ht rfl hd))
        unfold lenR
        split <;> simp_all
      · trivial
    case append =>
      dsimp only
      split
      · rename_i s x T T' hx hT
        have h1 : args = #[s, x] := by apply Array.ext'; simpa using hx
        have h2 : tys = #[T, T'] := by apply Array.ext'; simpa using hT
        subst h1; subst h2
        split
        · rename_i hTT
          have hTT : T = T' := by simpa using hTT
          subst hTT
          by_cases hd : evC st s = .dead
          · rw [hd]; unfold appendR appendP; repeat' split
            all_goals first | trivial | simp_all
          · by_cases hd' : evC st x = .dead
            · rw [hd']
              unfold appendR appendP
              repeat' split
              all_goals first | trivial | (simp [dataOf, ptrsOf] at *; done) | simp_all [dataOf, ptrsOf]
            · exact good_eff (s := Builtin.append_ #[T, T] o.type #[a.eval s, a.eval x]) (by simp [execOp, hop, resolve, invoke, builtin]) (appendR_sound hm T _ (evC_sound ht rfl hd) (evC_sound ht rfl hd'))
        · trivial
      · trivial
    case max =>
      dsimp only
      split
      · rename_i n hn
        obtain ⟨v, r, hvs, hr, hrange⟩ := minmax_sound true (cells_map ht args.toList (fun x hx => minmax_live true _ n hn _ (List.mem_map_of_mem hx))) hn
        simp only [if_true] at hr
        refine ⟨.int .i64 n, w, F, μ, .inl ?_, .refl hm, rfl, hrange⟩
        have he : (args.map a.eval).toList = v :: r := by simpa using hvs
        simp [execOp, hop, resolve, invoke, builtin, Builtin.max_, hvs, hr]
      · trivial
    case min =>
      dsimp only
      split
      · rename_i n hn
        obtain ⟨v, r, hvs, hr, hrange⟩ := minmax_sound false (cells_map ht args.toList (fun x hx => minmax_live false _ n hn _ (List.mem_map_of_mem hx))) hn
        simp only [Bool.false_eq_true, if_false] at hr
        refine ⟨.int .i64 n, w, F, μ, .inl ?_, .refl hm, rfl, hrange⟩
        have he : (args.map a.eval).toList = v :: r := by simpa using hvs
        simp [execOp, hop, resolve, invoke, builtin, Builtin.min_, hvs, hr]
      · trivial
end
end Go.SM
