/- The S-machine: a call whose arguments are known is run. -/
import Derived.Test.YtnhebloiappfiaaGreatSMtr
namespace Go.SM
set_option linter.unusedVariables false

/-! ### What is known is brought to one form -/
section
variable {α : Type}
def fNat (n : Nat) (k : Nat → α) : α := match n with
  | 0 => k 0
  | m + 1 => k (m + 1)
theorem fNat_eq (n : Nat) (k : Nat → α) : fNat n k = k n := by cases n <;> rfl
def fInt (n : Int) (k : Int → α) : α := match n with
  | .ofNat m => fNat m fun m => k (.ofNat m)
  | .negSucc m => fNat m fun m => k (.negSucc m)
theorem fInt_eq (n : Int) (k : Int → α) : fInt n k = k n := by cases n <;> simp only [fInt, fNat_eq]
def fBool (n : Bool) (k : Bool → α) : α := match n with
  | true => k true
  | false => k false
theorem fBool_eq (n : Bool) (k : Bool → α) : fBool n k = k n := by cases n <;> rfl
def fU64 (x : UInt64) (k : UInt64 → α) : α := fNat x.toNat fun n => k (UInt64.ofNat n)
theorem fU64_eq (x : UInt64) (k : UInt64 → α) : fU64 x k = k x := by simp only [fU64, fNat_eq, UInt64.ofNat_toNat]
def fU8 (x : UInt8) (k : UInt8 → α) : α := fNat x.toNat fun n => k (UInt8.ofNat n)
theorem fU8_eq (x : UInt8) (k : UInt8 → α) : fU8 x k = k x := by simp only [fU8, fNat_eq, UInt8.ofNat_toNat]
def fList {β : Type} (f : β → (β → α) → α) : List β → (List β → α) → α
  | [], k => k []
  | x :: l, k => f x fun x' => fList f l fun l' => k (x' :: l')
theorem fList_eq {β : Type} {f : β → (β → α) → α} (hf : ∀ x k, f x k = k x) : ∀ (l : List β) (k : List β → α), fList f l k = k l
  | [], _ => rfl
  | x :: l, k => by simp only [fList, hf, fList_eq hf l]
def fTy : (t : Ty) → t.den → (t.den → α) → α
  | .i64, n, k => fInt n k
  | .u64, n, k => fU64 n k
  | .u8, n, k => fU8 n k
  | .bool, n, k => fBool n k
  | .str, s, k => fList fU8 s k
  | .unit, _, k => k ()
  | .slice t, xs, k => fList (fTy t) xs k
  | .pair a b, x, k => fTy a x.1 fun y => fTy b x.2 fun z => k (y, z)
theorem fTy_eq : ∀ (t : Ty) (x : t.den) (k : t.den → α), fTy t x k = k x
  | .i64, n, k => fInt_eq n k
  | .u64, n, k => fU64_eq n k
  | .u8, n, k => fU8_eq n k
  | .bool, n, k => fBool_eq n k
  | .str, s, k => fList_eq fU8_eq s k
  | .unit, _, k => rfl
  | .slice t, xs, k => fList_eq (fTy_eq t) xs k
  | .pair a b, x, k => by simp only [fTy, fTy_eq a, fTy_eq b]
def fCell (c : Cell) (k : Cell → α) : α := match c with
  | .i64 n => fInt n fun n => k (.i64 n)
  | .u64 n => fU64 n fun n => k (.u64 n)
  | .u8 n => fU8 n fun n => k (.u8 n)
  | .bool n => fBool n fun n => k (.bool n)
  | .str n => fList fU8 n fun n => k (.str n)
  | .sl t xs => fList (fTy t) xs fun xs => k (.sl t xs)
  | .ref n => fNat n fun n => k (.ref n)
  | .ptr n o => fNat n fun n => fNat o fun o => k (.ptr n o)
  | .eptr n i o => fNat n fun n => fNat i fun i => fNat o fun o => k (.eptr n i o)
  | .win n i o => fNat n fun n => fNat i fun i => fNat o fun o => k (.win n i o)
  | .cptr t x o => fTy t x fun x => fNat o fun o => k (.cptr t x o)
  | .fn f cap => fNat f fun f => fList fNat cap fun cap => k (.fn f cap)
  | .dead => k .dead
  | .nils => k .nils
  | .nilp => k .nilp
  | .nilfn => k .nilfn
theorem fCell_eq (c : Cell) (k : Cell → α) : fCell c k = k c := by
  cases c <;> simp only [fCell, fInt_eq, fU64_eq, fU8_eq, fBool_eq, fNat_eq, fTy_eq, fList_eq fU8_eq, fList_eq (fTy_eq _), fList_eq fNat_eq]
def fE (e : E) (k : E → α) : α := match e with
  | .c x => fCell x fun x => k (.c x)
  | .agg xs => fList fCell xs fun xs => k (.agg xs)
theorem fE_eq (e : E) (k : E → α) : fE e k = k e := by cases e <;> simp only [fE, fCell_eq, fList_eq fCell_eq]
def fV (v : V) (k : V → α) : α := match v with
  | .dead => k .dead
  | .e x => fE x fun x => k (.e x)
  | .tup xs => fList fE xs fun xs => k (.tup xs)
theorem fV_eq (v : V) (k : V → α) : fV v k = k v := by cases v <;> simp only [fV, fE_eq, fList_eq fE_eq]
def fBlk (x : Blk) (k : Blk → α) : α := match x with
  | .gone => k .gone
  | .hole => k .hole
  | .cells T cs => fNat T fun T => fList fCell cs fun cs => k (.cells T cs)
  | .row T t xs fz => fNat T fun T => fList (fTy t) xs fun xs => fBool fz fun fz => k (.row T t xs fz)
theorem fBlk_eq (x : Blk) (k : Blk → α) : fBlk x k = k x := by
  cases x <;> simp only [fBlk, fNat_eq, fBool_eq, fList_eq fCell_eq, fList_eq (fTy_eq _)]
def fSt (st : St) (k : St → α) : α := fList fV st.tmps fun l => fList fBlk st.blks fun b => k ⟨l, b⟩
theorem fSt_eq (st : St) (k : St → α) : fSt st k = k st := by simp only [fSt, fList_eq fV_eq, fList_eq fBlk_eq]
end

/-! ### The run -/
/-- Everything comes back as it is; rows are handed on as data but to the functions that write them. -/
def H0 (refs : List Nat) : Hint := ⟨fun g => isIn g refs, true, fun _ => [], fun _ => [], fun _ => [], fun _ => [], fun _ => [], fun _ => [], none, fun _ _ _ => ⟨V × List Blk, id⟩⟩
abbrev Runner := FuncId → List E → List Blk → Option (V × List Blk)
def ropR : Res → Option (V × List Blk)
  | .fail => none
  | .ok v b => some (v, b)
  | @Res.ob p d v b => @ite _ p d (some (v, b)) none
def rcall (call : Runner) (g : FuncId) (es : List E) (b : List Blk) : Option (V × List Blk) :=
  fList fNat (reach b 1000 (es.flatMap E.ids) []) fun order =>
  fList fE (es.map (rnE (idx order))) fun es' =>
  fList fBlk (pickB order b) fun b0 =>
  match call g es' b0 with
  | some (v, b') => some (rnV (backN order b.length) v, backB order b b')
  | none => none
def rstep (P : Program) (refs : List Nat) (call : Runner) (st : St) (o : Oper) : Option (V × List Blk) :=
  match callee P st o with
  | some (g, es) => if isIn g refs then rcall call g es st.blks else rcall call g (lowEs st.blks es).1 (lowEs st.blks es).2
  | none => match nilTest P st o with
    | some e => if e then none else some (cst (.bool false), st.blks)
    | none => ropR (opR P st o)
def rdstep (P : Program) (refs : List Nat) (call : Runner) (id : Nat) (st : St) (o : Oper) : Option (V × List Blk) :=
  match callee P st o with
  | some (g, es) => if isIn g refs then rcall call g es st.blks else rcall call g (lowEs st.blks es).1 (lowEs st.blks es).2
  | none => ropR (dopR P id st o)
def rguard (ops : List Oper) (st : St) (o : Oper) : Option Bool :=
  match o.guard with
  | none => some true
  | some (j, want) => match ((ops[j]?).bind (·.dst)).map st.get with
    | some (.e (.c (.bool y))) => some (y == want)
    | some (.tup []) => some false
    | _ => none
def rops (P : Program) (refs : List Nat) (call : Runner) (ops : List Oper) : List Oper → St → Option St
  | [], st => some st
  | o :: r, st => match rguard ops st o with
    | some true => match rstep P refs call st o with
      | some (v, b) => fV v fun v => rops P refs call ops r ⟨put st.tmps o.dst v, b⟩
      | none => none
    | some false => rops P refs call ops r ⟨put st.tmps o.dst none0, st.blks⟩
    | none => none
def rdrun (P : Program) (refs : List Nat) (call : Runner) (ops : List Oper) (bs : List Nat) (base : Nat) : List Nat → List Log → St → Option St
  | [], _, st => some st
  | i :: r, log, st => match ops[i]? with
    | none => none
    | some o => match rguard ops st o with
      | some true => if logOk bs i (cls P o.op) (foot P (H0 refs) (base + alRank P ops i) st o) log then
          match rdstep P refs call (base + alRank P ops i) st o with
          | some (v, b) => fV v fun v => rdrun P refs call ops bs base r (⟨i, cls P o.op, foot P (H0 refs) (base + alRank P ops i) st o⟩ :: log) ⟨put st.tmps o.dst v, b⟩
          | none => none
        else none
      | some false => rdrun P refs call ops bs base r log ⟨put st.tmps o.dst none0, st.blks⟩
      | none => none
def rdraw1 (P : Program) (refs : List Nat) (call : Runner) (ops : List Oper) (bs l : List Nat) (st : St) : Option St :=
  if P.follows .mixedOrders && Nat.beq l.length ops.length && allIn l ops.length && bitsOk bs 0 ops && pairsOk P ops bs l then
    rdrun P refs call ops bs st.blks.length l [] ⟨st.tmps, st.blks ++ List.replicate (ops.filter (isAl P)).length .hole⟩
  else none
def rdraw (P : Program) (refs : List Nat) (call : Runner) (ops : List Oper) (st : St) : Option St :=
  rdraw1 P refs call ops (befores ops []) (canon P ops (befores ops []) ops.length 0) st
/-- The rows that boxes hold are handed on as data. -/
def lowBox (st : St) (d : Nat) : St :=
  match st.get d with
  | .e (.c (.ptr k 0)) => match st.blks[k]? with
    | some (.cells T cs) => ⟨st.tmps, (lows st.blks cs).2.set k (.cells T (lows st.blks cs).1)⟩
    | _ => st
  | _ => st
def lowBoxes : List Nat → St → St
  | [], st => st
  | d :: ds, st => lowBoxes ds (lowBox st d)
/-- Where a region cannot be run as it is: the same with the boxes' rows handed on. -/
def rdrawB (P : Program) (refs : List Nat) (call : Runner) (ops : List Oper) (st : St) : Option St :=
  match rdraw P refs call ops st with
  | some st' => some st'
  | none => fSt (lowBoxes (List.range st.tmps.length) st) fun st => rdraw P refs call ops st
def rloop (f : St → Option (Exit × St)) (m : Nat) : Nat → St → Option (Exit × St)
  | 0, _ => none
  | n + 1, st => fSt (pack m st) fun st => match f st with
    | some (.normal, st') => rloop f m n st'
    | r => r
def rcode (P : Program) (refs : List Nat) (call : Runner) (m : Nat) : Code → St → Option (Exit × St)
  | .skip, st => some (.normal, st)
  | .region id ops draw, st => match (if draw then rdrawB P refs call ops.toList st else rops P refs call ops.toList ops.toList st) with
    | some st' => fSt st' fun st' => some (.normal, st')
    | none => none
  | .seq a b, st => match rcode P refs call m a st with
    | some (.normal, st') => rcode P refs call m b st'
    | r => r
  | .cond c a b, st => match evC st c with
    | .bool y => cond y (rcode P refs call m a st) (rcode P refs call m b st)
    | _ => none
  | .block id b, st => match rcode P refs call m b st with
    | some (.exit id', st') => if Nat.beq id' id then some (.normal, st') else some (.exit id', st')
    | r => r
  | .loop b, st => rloop (rcode P refs call m b) m F0 st
  | .exit id, st => some (.exit id, st)
  | .scope b, st => match rcode P refs call m b st with
    | some (.goto _, _) => none
    | r => r
  | .label _, st => some (.normal, st)
  | .goto l, st => some (.goto l, st)
  | .ret, st => some (.ret, st)
  | .rangeFunc .., _ => none
  | .refuse _, _ => none
def isRet : Exit → Bool
  | .normal | .ret => true
  | _ => false
def rdone (keep : Bool) (m : Nat) (es : List E) (b : List Blk) : V × List Blk :=
  if keep then (wrap (es.map (rnE (idx (reach b 1000 (es.flatMap E.ids) (List.range m))))), pickB (reach b 1000 (es.flatMap E.ids) (List.range m)) b)
  else (wrap ((lowEs b es).1.map (rnE (idx (reach (lowEs b es).2 1000 ((lowEs b es).1.flatMap E.ids) (List.range m))))), pickB (reach (lowEs b es).2 1000 ((lowEs b es).1.flatMap E.ids) (List.range m)) (lowEs b es).2)
/-- 'refs': functions that write what they are handed; 'keeps': those whose results are written on. -/
def runF (P : Program) (refs keeps : List Nat) : Nat → FuncId → List E → List Blk → Option (V × List Blk)
  | 0, _, _, _ => none
  | n + 1, f, args, blks => match P.funcs[f]? with
    | none => none
    | some fn => match fn.body with
      | none => none
      | some c => if Nat.ble args.length fn.ntmps then
          match rcode P refs (runF P refs keeps n) blks.length c (start fn args blks) with
          | some (e, st) => if isRet e then match resEs P st fn.results.toList with
              | some es => some (rdone (isIn f keeps) blks.length es st.blks)
              | none => none
            else none
          | none => none
        else none

/-! ### The run is sound -/
section
variable {P : Program} {refs : List Nat} {call : Runner} {st : St} {o : Oper}
def CallOk (P : Program) (call : Runner) : Prop := ∀ g es b v b', call g es b = some (v, b') → CSem P g es b fun v1 b1 => v1 = v ∧ b1 = b'

theorem ropR_then {r : Res} {v : V} {b : List Blk} {K : V → List Blk → Prop} (h : ropR r = some (v, b)) (hk : K v b) : r.then K := by
  cases r with
  | fail => cases h
  | ok v b => cases h; exact hk
  | ob p v b =>
    simp only [ropR] at h
    split at h
    · rename_i hp; cases h; exact ⟨hp, hk⟩
    · cases h

theorem rcall_sound (hc : CallOk P call) {g : FuncId} {es : List E} {b b' : List Blk} {v : V} {K : V → List Blk → Prop} (h : rcall call g es b = some (v, b')) (hk : K v b') : callS P (H0 refs) g es b K := by
  simp only [rcall, fList_eq fNat_eq, fList_eq fE_eq, fList_eq fBlk_eq] at h
  split at h
  · rename_i v1 b1 hr
    cases h
    exact ⟨(v1, b1), hc _ _ _ _ _ hr, hk⟩
  · cases h

theorem rstep_sound (hc : CallOk P call) {v : V} {b : List Blk} {K : V → List Blk → Prop} (h : rstep P refs call st o = some (v, b)) (hk : K v b) : step P (H0 refs) st o K := by
  unfold rstep at h
  unfold step
  split at h
  · rename_i g es he
    rw [he]
    simp only [H0]
    split at h
    · rename_i hr
      simp only [hr, if_true]
      exact rcall_sound hc h hk
    · rename_i hr
      simp only [hr]
      exact rcall_sound hc h hk
  · rename_i he
    rw [he]
    simp only
    split at h
    · rename_i e hn
      rw [hn]
      cases e with
      | true => cases h
      | false =>
        cases h
        intro g hg
        cases g with
        | true => cases hg rfl
        | false => exact hk
    · rename_i hn
      rw [hn]
      exact ropR_then h hk
theorem rdstep_sound (hc : CallOk P call) {id : Nat} {v : V} {b : List Blk} {K : V → List Blk → Prop} (h : rdstep P refs call id st o = some (v, b)) (hk : K v b) : dstep P (H0 refs) id st o K := by
  unfold rdstep at h
  unfold dstep
  split at h
  · rename_i g es he
    rw [he]
    simp only [H0]
    split at h
    · rename_i hr
      simp only [hr, if_true]
      exact rcall_sound hc h hk
    · rename_i hr
      simp only [hr]
      exact rcall_sound hc h hk
  · rename_i he
    rw [he]
    exact ropR_then h hk

theorem rguard_dguard {ops : List Oper} {st : St} {o : Oper} {go skip : Prop} {y : Bool} (h : rguard ops st o = some y) (hg : y = true → go) (hs : y = false → skip) : dguard ops o st go skip := by
  unfold rguard at h
  unfold dguard
  split at h
  · rename_i hq
    rw [hq]
    cases h
    exact hg rfl
  · rename_i j want hq
    rw [hq]
    simp only
    split at h
    · rename_i z hz
      rw [hz]
      cases h
      cases want <;> cases z <;> simp only [SM.br, if_true, Bool.false_eq_true, if_false]
      · exact hg rfl
      · exact hs rfl
      · exact hs rfl
      · exact hg rfl
    · rename_i hz
      rw [hz]
      cases h
      exact hs rfl
    · cases h

theorem rops_sound (hc : CallOk P call) {ops : List Oper} {st' : St} {K : St → Prop} (hk : K st') : ∀ (l : List Oper) (st : St), rops P refs call ops l st = some st' → runOps P (H0 refs) ops l st K
  | [], st, h => by cases h; exact hk
  | o :: r, st, h => by
    simp only [rops] at h
    have go : rguard ops st o = some true → step P (H0 refs) st o (fun v b => gs (guards ops o.dst) v fun v => runOps P (H0 refs) ops r ⟨put st.tmps o.dst v, b⟩ K) := by
      intro hg
      rw [hg] at h
      simp only at h
      split at h
      · rename_i v b hs
        rw [fV_eq] at h
        exact rstep_sound hc hs (by rw [gs_eq]; exact rops_sound hc hk r _ h)
      · cases h
    have skip : rguard ops st o = some false → runOps P (H0 refs) ops r ⟨put st.tmps o.dst none0, st.blks⟩ K := by
      intro hg
      rw [hg] at h
      exact rops_sound hc hk r _ h
    simp only [runOps, runOp]
    cases hg : rguard ops st o with
    | none => rw [hg] at h; cases h
    | some y => exact rguard_dguard hg (fun e => go (by rw [hg, e])) (fun e => skip (by rw [hg, e]))

theorem rdrun_sound (hc : CallOk P call) {ops : List Oper} {bs : List Nat} {base : Nat} {st' : St} {K : St → Prop} (hk : K st') : ∀ (l : List Nat) (log : List Log) (st : St), rdrun P refs call ops bs base l log st = some st' → drun P (H0 refs) ops bs base l log st K
  | [], log, st, h => by cases h; exact hk
  | i :: r, log, st, h => by
    simp only [rdrun] at h
    simp only [drun]
    split at h
    · cases h
    · rename_i o ho
      rw [ho]
      simp only
      split at h
      · rename_i hg
        refine rguard_dguard hg (fun _ => ?_) (fun e => by cases e)
        split at h
        · rename_i hl
          rw [if_pos hl]
          split at h
          · rename_i v b hs
            rw [fV_eq] at h
            exact rdstep_sound hc hs (by rw [gs_eq]; exact rdrun_sound hc hk r _ _ h)
          · cases h
        · cases h
      · rename_i hg
        exact rguard_dguard hg (fun e => by cases e) (fun _ => rdrun_sound hc hk r _ _ h)
      · cases h

theorem rdraw_sound (hc : CallOk P call) {id : Nat} {ops : List Oper} {st' : St} {K : St → Prop} (hk : K st') (h : rdraw P refs call ops st = some st') : drawS P (H0 refs) id ops st K := by
  unfold rdraw rdraw1 at h
  unfold drawS draw1
  split at h
  · rename_i hcd
    rw [if_pos hcd]
    exact rdrun_sound hc hk _ _ _ h
  · cases h

variable {N : Entry} {F : Nat → Prop} {μ : List (Option Nat)} {a : Act} {w : World}
theorem low1_cells {b : List Blk} {c : Cell} {k : Nat} {T : TypeId} {cs : List Cell} (h : b[k]? = some (.cells T cs)) : (low1 b c).2[k]? = some (.cells T cs) := by
  unfold low1
  split
  · rename_i j
    split
    · rename_i hj
      have hne : j ≠ k := fun e => by rw [e, h] at hj; cases hj
      rw [List.getElem?_set_ne hne]
      exact h
    · exact h
  · rename_i j lo n
    split
    · rename_i hj
      have hne : j ≠ k := fun e => by rw [e, h] at hj; cases hj
      rw [List.getElem?_set_ne hne]
      exact h
    · exact h
  · exact h
theorem lows_cells {k : Nat} {T : TypeId} {cs : List Cell} : ∀ (xs : List Cell) {b : List Blk}, b[k]? = some (.cells T cs) → (lows b xs).2[k]? = some (.cells T cs)
  | [], b, h => h
  | x :: xs, b, h => lows_cells xs (low1_cells h)
theorem lows_length : ∀ (xs : List Cell) (b : List Blk), (lows b xs).1.length = xs.length
  | [], b => rfl
  | x :: xs, b => by simp [lows, lows_length xs]
theorem Rel.lowBox (h : Rel P N F μ st a w) (d : Nat) : ∃ F', Rel P N F' μ (lowBox st d) a w := by
  unfold SM.lowBox
  split
  · rename_i k hv
    split
    · rename_i T cs hk
      obtain ⟨m, c, hm, hc, hl, hcs⟩ := h.mem.blk k _ hk
      obtain ⟨F', u, h2⟩ := lows_sound h.mem hcs
      have hk' := lows_cells (b := st.blks) cs hk
      have u2 := Upd.write u.mem (x' := .cells T (lows st.blks cs).1) hk' rfl rfl (mu_of_getD hm) hc rfl (Sim.cells (by rw [lows_length])) (fun g => by
        refine ⟨m, c, rfl, ?_, by rw [lows_length]; exact hl, ?_⟩
        · rw [setRow_same hc]; exact hc
        · rw [setRow_same hc] at g ⊢
          rw [lows_length]
          exact h2.mono fun _ _ => CellR.mono g)
      rw [setRow_same hc] at u2
      exact ⟨F', (h.step u).step u2⟩
    · exact ⟨F, h⟩
  · exact ⟨F, h⟩
theorem Rel.lowBoxes : ∀ (ds : List Nat) {F : Nat → Prop} {st : St}, Rel P N F μ st a w → ∃ F', Rel P N F' μ (lowBoxes ds st) a w
  | [], F, st, h => ⟨F, h⟩
  | d :: ds, F, st, h => by
    obtain ⟨F1, h1⟩ := h.lowBox d
    exact Rel.lowBoxes ds h1
theorem rloop_lp {f : St → Option (Exit × St)} {m : Nat} {c : Code}
    (hf : ∀ {N : Entry} {F : Nat → Prop} {μ : List (Option Nat)} {st : St} {a : Act} {w : World} {e : Exit} {st' : St}, N.b.length = m → Rel P N F μ st a w → f st = some (e, st') → c.wp P (Goal P N fun e' s' => e' = e ∧ s' = st') a w) :
    ∀ (n : Nat) (st : St) (e : Exit) (st' : St), rloop f m n st = some (e, st') → Lp P m c st fun e' s' => e' = e ∧ s' = st'
  | 0, _, _, _, h => by cases h
  | n + 1, st, e, st', h => by
    intro N F μ a w hm hr b k cs
    subst hm
    simp only [rloop, fSt_eq] at h
    obtain ⟨μ', h'⟩ := hr.pack
    cases hs : f (pack N.b.length st) with
    | none => rw [hs] at h; cases h
    | some q =>
      obtain ⟨e1, st1⟩ := q
      obtain ⟨e2, a2, w2, hq, harr⟩ := hf rfl h' hs b (.inLoop c :: k) cs
      rw [hs] at h
      have out : e1 ≠ .normal → ((e1, st1) : Exit × St) = (e, st') := by
        intro hne
        cases e1 <;> first | (exact absurd rfl hne) | (simpa using h)
      cases e2 with
      | panic ch => exact hq.elim
      | outgrown => exact hq.elim
      | normal =>
        obtain ⟨F1, μ1, s1, hr1, rfl, rfl⟩ := hq
        obtain ⟨e3, a3, w3, hq3, harr3⟩ := rloop_lp hf n _ e st' h N F1 μ1 a2 w2 rfl hr1 b k cs
        exact ⟨e3, a3, w3, hq3, .of_steps (Steps.trans harr (.one step_inLoop)) harr3⟩
      | exit id =>
        obtain ⟨F1, μ1, s1, hr1, he, hs1⟩ := hq
        subst he
        have := out (by simp)
        cases this
        exact ⟨.exit id, a2, w2, ⟨F1, μ1, s1, hr1, rfl, hs1⟩, .pass (x := .inLoop c) rfl (fun _ _ => .inl (by simp)) harr⟩
      | goto l =>
        obtain ⟨F1, μ1, s1, hr1, he, hs1⟩ := hq
        subst he
        have := out (by simp)
        cases this
        exact ⟨.goto l, a2, w2, ⟨F1, μ1, s1, hr1, rfl, hs1⟩, .pass (x := .inLoop c) rfl (fun _ _ => .inl (by simp)) harr⟩
      | ret =>
        obtain ⟨F1, μ1, s1, hr1, he, hs1⟩ := hq
        subst he
        have := out (by simp)
        cases this
        exact ⟨.ret, a2, w2, ⟨F1, μ1, s1, hr1, rfl, hs1⟩, .pass (x := .inLoop c) rfl (fun _ _ => .inl (by simp)) harr⟩

theorem rcode_sound (hc : CallOk P call) {m : Nat} : ∀ (c : Code) {N : Entry} {F : Nat → Prop} {μ : List (Option Nat)} {st : St} {a : Act} {w : World} {e : Exit} {st' : St}, N.b.length = m → Rel P N F μ st a w → rcode P refs call m c st = some (e, st') →
    c.wp P (Goal P N fun e' s' => e' = e ∧ s' = st') a w
  | .skip, N, F, μ, st, a, w, e, st', hm, h, hs => by cases hs; exact wp_skip ⟨F, μ, st, h, rfl, rfl⟩
  | .label l, N, F, μ, st, a, w, e, st', hm, h, hs => by cases hs; exact wp_label ⟨F, μ, st, h, rfl, rfl⟩
  | .exit id, N, F, μ, st, a, w, e, st', hm, h, hs => by cases hs; exact wp_exit ⟨F, μ, st, h, rfl, rfl⟩
  | .goto l, N, F, μ, st, a, w, e, st', hm, h, hs => by cases hs; exact wp_goto ⟨F, μ, st, h, rfl, rfl⟩
  | .ret, N, F, μ, st, a, w, e, st', hm, h, hs => by cases hs; exact wp_ret ⟨F, μ, st, h, rfl, rfl⟩
  | .rangeFunc .., N, F, μ, st, a, w, e, st', hm, h, hs => by cases hs
  | .refuse _, N, F, μ, st, a, w, e, st', hm, h, hs => by cases hs
  | .scope b, N, F, μ, st, a, w, e, st', hm, h, hs => by
    simp only [rcode] at hs
    cases hb : rcode P refs call m b st with
    | none => rw [hb] at hs; cases hs
    | some q =>
      obtain ⟨e1, st1⟩ := q
      rw [hb] at hs
      refine wp_scope_straight (wp_mono (rcode_sound hc b hm h hb) fun e2 a' w' hq => ?_)
      cases e2 with
      | goto l =>
        obtain ⟨F1, μ1, s1, hr1, he, hs1⟩ := hq
        subst he
        cases hs
      | panic c => exact hq
      | outgrown => exact hq
      | exit id =>
        obtain ⟨F1, μ1, s1, hr1, he, hs1⟩ := hq
        subst he
        cases hs
        exact ⟨F1, μ1, s1, hr1, rfl, hs1⟩
      | normal =>
        obtain ⟨F1, μ1, s1, hr1, he, hs1⟩ := hq
        subst he
        cases hs
        exact ⟨F1, μ1, s1, hr1, rfl, hs1⟩
      | ret =>
        obtain ⟨F1, μ1, s1, hr1, he, hs1⟩ := hq
        subst he
        cases hs
        exact ⟨F1, μ1, s1, hr1, rfl, hs1⟩
  | .seq x y, N, F, μ, st, a, w, e, st', hm, h, hs => by
    simp only [rcode] at hs
    cases hb : rcode P refs call m x st with
    | none => rw [hb] at hs; cases hs
    | some q =>
      obtain ⟨e1, st1⟩ := q
      rw [hb] at hs
      refine wp_seq (wp_mono (rcode_sound hc x hm h hb) fun e2 a' w' hq => ?_)
      cases e2 with
      | panic c => exact hq
      | outgrown => exact hq
      | normal =>
        obtain ⟨F1, μ1, s1, hr1, he, rfl⟩ := hq
        subst he
        exact rcode_sound hc y hm hr1 hs
      | exit id =>
        obtain ⟨F1, μ1, s1, hr1, he, hs1⟩ := hq
        subst he
        cases hs
        exact ⟨F1, μ1, s1, hr1, rfl, hs1⟩
      | goto id =>
        obtain ⟨F1, μ1, s1, hr1, he, hs1⟩ := hq
        subst he
        cases hs
        exact ⟨F1, μ1, s1, hr1, rfl, hs1⟩
      | ret =>
        obtain ⟨F1, μ1, s1, hr1, he, hs1⟩ := hq
        subst he
        cases hs
        exact ⟨F1, μ1, s1, hr1, rfl, hs1⟩
  | .cond c x y, N, F, μ, st, a, w, e, st', hm, h, hs => by
    simp only [rcode] at hs
    split at hs
    · rename_i t ht
      have hv : a.eval c = .bool t := evC_sound h.tmpsR ht (by simp)
      refine wp_cond hv ?_
      cases t with
      | true => exact rcode_sound hc x hm h hs
      | false => exact rcode_sound hc y hm h hs
    · cases hs
  | .block id b, N, F, μ, st, a, w, e, st', hm, h, hs => by
    simp only [rcode] at hs
    cases hb : rcode P refs call m b st with
    | none => rw [hb] at hs; cases hs
    | some q =>
      obtain ⟨e1, st1⟩ := q
      rw [hb] at hs
      refine wp_block (wp_mono (rcode_sound hc b hm h hb) fun e2 a' w' hq => ?_)
      cases e2 with
      | panic c => exact hq
      | outgrown => exact hq
      | exit id' =>
        obtain ⟨F1, μ1, s1, hr1, he, hs1⟩ := hq
        subst he
        simp only [Exit.inBlock]
        simp only at hs
        by_cases hid : id' = id
        · rw [if_pos hid]
          rw [if_pos (by simpa using hid)] at hs
          cases hs
          exact ⟨F1, μ1, s1, hr1, rfl, hs1⟩
        · rw [if_neg hid]
          rw [if_neg (by simpa using hid)] at hs
          cases hs
          exact ⟨F1, μ1, s1, hr1, rfl, hs1⟩
      | normal =>
        obtain ⟨F1, μ1, s1, hr1, he, hs1⟩ := hq
        subst he
        cases hs
        exact ⟨F1, μ1, s1, hr1, rfl, hs1⟩
      | goto id =>
        obtain ⟨F1, μ1, s1, hr1, he, hs1⟩ := hq
        subst he
        cases hs
        exact ⟨F1, μ1, s1, hr1, rfl, hs1⟩
      | ret =>
        obtain ⟨F1, μ1, s1, hr1, he, hs1⟩ := hq
        subst he
        cases hs
        exact ⟨F1, μ1, s1, hr1, rfl, hs1⟩
  | .loop b, N, F, μ, st, a, w, e, st', hm, h, hs => by
    simp only [rcode] at hs
    intro fr k cs
    obtain ⟨e', a', w', hg, harr⟩ := rloop_lp (c := b) (fun hm' h' hs' => rcode_sound hc b hm' h' hs') F0 st e st' hs N F μ a w hm h fr k cs
    exact ⟨e', a', w', hg, .of_steps (.one step_loop) harr⟩
  | .region id ops draw, N, F, μ, st, a, w, e, st', hm, h, hs => by
    simp only [rcode] at hs
    cases draw with
    | true =>
      simp only [if_true] at hs
      split at hs
      · rename_i s1 hr
        rw [fSt_eq] at hs
        cases hs
        unfold rdrawB at hr
        split at hr
        · rename_i s2 hr2
          cases hr
          exact draw_sound h (rdraw_sound (K := fun s => s = st') hc rfl hr2) (fun F' μ' st' a' w' hr hk => ⟨F', μ', st', hr, rfl, hk⟩)
        · rw [fSt_eq] at hr
          obtain ⟨F1, h1⟩ := Rel.lowBoxes (List.range st.tmps.length) h
          exact draw_sound h1 (rdraw_sound (K := fun s => s = st') hc rfl hr) (fun F' μ' st' a' w' hr hk => ⟨F', μ', st', hr, rfl, hk⟩)
      · cases hs
    | false =>
      simp only [Bool.false_eq_true, if_false] at hs
      split at hs
      · rename_i s1 hr
        rw [fSt_eq] at hs
        cases hs
        refine wp_region ?_
        rw [List.range_eq_range', show ops.size = ops.toList.length by simp, wpOps_eq_wpList ops.toList 0 (fun j => by simp)]
        exact runOps_sound (K := fun s => s = st') (fun F' μ' st' a' w' hr hk => ⟨F', μ', st', hr, rfl, hk⟩) ops.toList F μ st a w h (rops_sound (K := fun s => s = st') hc rfl _ _ hr)
      · cases hs

theorem rdone_done {keep : Bool} {m : Nat} {es : List E} {b : List Blk} {post : V → List Blk → Prop} (h : post (rdone keep m es b).1 (rdone keep m es b).2) : done { H0 refs with keep := keep } m es b post := by
  unfold done
  simp only [H0]
  cases keep with
  | true => exact h
  | false => exact h
theorem runF_sound {keeps : List Nat} : ∀ (n : Nat), CallOk P (runF P refs keeps n)
  | 0, g, es, b, v, b', h => by cases h
  | n + 1, f, args, blks, v, b', h => by
    have hc : CallOk P (runF P refs keeps n) := runF_sound n
    simp only [runF] at h
    split at h
    · cases h
    · rename_i fn hf
      split at h
      · cases h
      · rename_i c hb
        split at h
        · rename_i hn
          split at h
          · rename_i e st hr
            split at h
            · rename_i hret
              split at h
              · rename_i es he
                have h := Option.some.inj h
                have e1 : v = (rdone (isIn f keeps) blks.length es st.blks).1 := by rw [h]
                have e2 : b' = (rdone (isIn f keeps) blks.length es st.blks).2 := by rw [h]
                subst e1; subst e2
                suffices hs : ∀ post : V → List Blk → Prop, post (rdone (isIn f keeps) blks.length es st.blks).1 (rdone (isIn f keeps) blks.length es st.blks).2 → CSem P f args blks post from hs _ ⟨rfl, rfl⟩
                intro post hpost w F μ vals hm ha
                refine calls_of_wp hf hb ?_
                have hr0 : Rel P ⟨F, μ, blks, w⟩ F μ (start fn args blks) { tmps := vals ++ Array.replicate (fn.ntmps - vals.size) undef, defers := [] } w := start_rel hm ha (by simpa using hn)
                refine wp_mono (rcode_sound hc c rfl hr0 hr) fun e' a' w' hq => ?_
                have fin_ok : ∀ {F' : Nat → Prop} {μ' : List (Option Nat)}, Rel P ⟨F, μ, blks, w⟩ F' μ' st a' w' →
                    a'.defers = [] ∧ ∃ v, (results fn a'.tmps).run P w' = .ok v w' ∧ ∃ v', ∃ V' F' μ' blks', Ending.returned v = .returned v' ∧ post V' blks' ∧ Upd P F μ blks w F' μ' blks' w' ∧ VR P w' F' μ' blks' V' v' := by
                  intro F' μ' hr'
                  obtain ⟨vs, hrun, hvs⟩ := resEs_sound hr' he
                  obtain ⟨V', F2, μ2, b2, hp, hu, hv⟩ := done_sound (H := { H0 refs with keep := isIn f keeps }) hr' hvs (post := post) (rdone_done hpost)
                  exact ⟨hr'.defers, _, results_run hrun, _, V', F2, μ2, b2, rfl, hp, hu, hv⟩
                cases e' with
                | normal => obtain ⟨F', μ', st', hr', he', rfl⟩ := hq; exact fin_ok hr'
                | ret => obtain ⟨F', μ', st', hr', he', rfl⟩ := hq; exact fin_ok hr'
                | panic ch => exact hq.elim
                | outgrown => exact hq.elim
                | exit id => obtain ⟨F', μ', st', hr', he', rfl⟩ := hq; subst he'; cases hret
                | goto id => obtain ⟨F', μ', st', hr', he', rfl⟩ := hq; subst he'; cases hret
              · cases h
            · cases h
          · cases h
        · cases h

/-- A CLOSED CALL: what the run comes to. -/
theorem run_closed {n : Nat} {f : FuncId} {args : List E} {v : V} {keeps : List Nat} (h : runF P refs keeps n f args [] = some (v, [])) : CSem P f args [] fun v' b => v' = v ∧ b = [] := runF_sound n f args [] v [] h
end
end Go.SM
