/- The S-machine, part y: regions of open order: every order comes to the same. -/
import Derived.Test.YtnhebloiappfiaaGreatSMx
namespace Go.SM
set_option linter.unusedVariables false
set_option linter.unusedSimpArgs false

section
variable {P : Program} {H : Hint} {l l' : List V} {b b' b2 : List Blk}

theorem compat_spec {x y : Cls} (h : compat x y = true) : (still x = true ∨ x = .al) ∧ y ≠ .no ∧ (x = .al → y = .al ∨ still y = true ∨ y = .call) := by
  cases x <;> cases y <;> simp [compat, still] at h ⊢

theorem foot_b {o : Oper} {id : Nat} (hc : still (cls P o.op) = true ∨ cls P o.op = .al) (b b2 : List Blk) : foot P H id ⟨l, b⟩ o = foot P H id ⟨l, b2⟩ o := by
  have hsame : SameOps l l o := fun x _ _ _ => by cases x <;> rfl
  have hcl : cls P o.op ≠ .call := by rcases hc with hc | hc <;> intro e <;> rw [e] at hc <;> cases hc
  unfold foot
  rw [callee_none hcl, callee_none hcl]
  simp only
  cases hk : cls P o.op <;> rw [hk] at hc <;> simp only <;> try (first | rfl | (rw [opIds_eq hsame]; done) | (rw [roIds_eq hsame]; done) | (simp [still] at hc; done))

theorem calm_spec {f g : List Nat × List Nat} (h : calm f g = true) : (∀ k ∈ f.1, k ∉ g.2) ∧ (∀ k ∈ f.2, k ∉ g.1) ∧ (∀ k ∈ f.2, k ∉ g.2) := by
  have key : ∀ {x y : List Nat}, meets x y = false → ∀ k ∈ x, k ∉ y := by
    intro x y hm k hk hk'
    have : meets x y = true := by
      unfold meets
      rw [List.any_eq_true]
      exact ⟨k, hk, by rw [List.any_eq_true]; exact ⟨k, hk', by simp⟩⟩
    rw [hm] at this
    cases this
  simp only [calm, Bool.and_eq_true, Bool.not_eq_true'] at h
  exact ⟨key h.1.1, key h.1.2, key h.2⟩

theorem put_length (l : List V) (d : Option Nat) (v : V) : (put l d v).length = l.length := by cases d <;> simp [put]
theorem put_comm {x y : Option Nat} (h : ∀ d, x = some d → y ≠ some d) (v u : V) : put (put l x v) y u = put (put l y u) x v := by
  cases x with
  | none => rfl
  | some d =>
    cases y with
    | none => rfl
    | some e =>
      have hne : d ≠ e := fun he => h d rfl (he ▸ rfl)
      exact List.set_comm _ _ hne

/-- Two operations change places. -/
theorem swap {ops : Array Oper} {oc oi : Oper} {idc idi : Nat} {vc vi : V} {bc bci : List Blk} (hap : oc.apart ops oi = true) (hcp : compat (cls P oc.op) (cls P oi.op) = true)
    (hc : DS P H idc ⟨l, b⟩ oc vc bc) (hi : DS P H idi ⟨put l oc.dst vc, bc⟩ oi vi bci) (hcalm : calm (foot P H idc ⟨l, b⟩ oc) (foot P H idi ⟨put l oc.dst vc, bc⟩ oi) = true) :
    foot P H idi ⟨l, b⟩ oi = foot P H idi ⟨put l oc.dst vc, bc⟩ oi ∧ ∃ bi, DS P H idi ⟨l, b⟩ oi vi bi ∧ DS P H idc ⟨put l oi.dst vi, bi⟩ oc vc bci ∧
      foot P H idc ⟨put l oi.dst vi, bi⟩ oc = foot P H idc ⟨l, b⟩ oc := by
  obtain ⟨a1, a2, a3⟩ := Oper.apart_spec hap
  obtain ⟨s1, s2, s3⟩ := compat_spec hcp
  have ei : SameOps (put l oc.dst vc) l oi := sameOps_put a1
  have ec : SameOps (put l oi.dst vi) l oc := sameOps_put a3
  rw [foot_eq ei] at hcalm ⊢
  rw [DS_eq ei] at hi
  obtain ⟨m1, m2, m3⟩ := calm_spec hcalm
  have fc : ∀ bi, foot P H idc ⟨put l oi.dst vi, bi⟩ oc = foot P H idc ⟨l, b⟩ oc := fun bi => by rw [foot_eq ec, foot_b s1 bi b]
  rcases s1 with s1 | s1
  · obtain ⟨rfl, _⟩ := still_on (b2 := b) s1 hc
    refine ⟨rfl, bci, hi, ?_, fc _⟩
    rw [DS_eq ec]
    exact (still_on s1 hc).2 fun k hk x hx => DS_keep s2 hi (m1 k hk) hx
  · obtain ⟨p, X, c, hX, hb, hp, rfl, rfl⟩ := (al_iff s1).1 hc
    have hf : foot P H idc ⟨l, b⟩ oc = ([], [idc]) := by unfold foot; rw [callee_none (by rw [s1]; decide)]; simp only [s1]
    rw [hf] at m2 m3
    obtain ⟨e1, b1, h1, h2, h3⟩ := DS_set (s3 s1) hb hi (m2 idc (by simp)) (m3 idc (by simp))
    refine ⟨e1, b1, h1, ?_, fc _⟩
    rw [DS_eq ec]
    exact (al_iff s1).2 ⟨p, X, c, by rw [alX_b b1 b]; exact hX, h3, hp, rfl, h2⟩

/-! ### Guards -/
def Gd (ops : List Oper) (o : Oper) (st : St) (y : Bool) : Prop :=
  match o.guard with
  | none => y = true
  | some (j, want) => (∃ z, ((ops[j]?).bind (·.dst)).map st.get = some (.e (.c (.bool z))) ∧ y = (z == want)) ∨ (((ops[j]?).bind (·.dst)).map st.get = some (.tup []) ∧ y = false)
theorem dguard_iff {ops : List Oper} {o : Oper} {st : St} {go skip : Prop} : dguard ops o st go skip ↔ (Gd ops o st true ∧ go) ∨ (Gd ops o st false ∧ skip) := by
  unfold dguard Gd
  cases o.guard with
  | none => simp
  | some q =>
    obtain ⟨j, want⟩ := q
    simp only
    split
    · rename_i z hz
      cases z <;> cases want <;> simp [hz, br]
    · rename_i hz
      simp [hz]
    · rename_i hz hz2
      constructor
      · exact False.elim
      · rintro (⟨⟨z, hz', _⟩ | ⟨hz', _⟩, _⟩ | ⟨⟨z, hz', _⟩ | ⟨hz', _⟩, _⟩) <;> first | exact (hz z hz').elim | exact (hz2 hz').elim
theorem Gd_put {ops : List Oper} {o : Oper} {d : Option Nat} {v : V} {y : Bool} (h : ∀ x, d = some x → x ∉ o.looksAt ops.toArray) : Gd ops o ⟨put l d v, b⟩ y ↔ Gd ops o ⟨l, b2⟩ y := by
  unfold Gd
  cases hg : o.guard with
  | none => exact Iff.rfl
  | some q =>
    obtain ⟨j, want⟩ := q
    simp only
    cases ht : (ops[j]?).bind (·.dst) with
    | none => simp
    | some t =>
      have : (St.get ⟨put l d v, b⟩ t) = St.get ⟨l, b2⟩ t := by
        cases d with
        | none => rfl
        | some k =>
          have hne : k ≠ t := fun e => h k rfl (by
            subst e
            have ht' : (ops.toArray[j]?).bind (·.dst) = some k := by simpa using ht
            simp only [Oper.looksAt, hg, ht', Option.toList_some]
            exact List.mem_append_right _ (by simp))
          simp [St.get, put, List.getElem?_set_ne hne]
      simp only [Option.map_some, this]

/-! ### Runs -/
variable {ops : List Oper} {bs : List Nat} {base : Nat} {K : St → Prop}
def Log.of (P : Program) (H : Hint) (ops : List Oper) (base i : Nat) (st : St) (o : Oper) : Log := ⟨i, cls P o.op, foot P H (base + alRank P ops i) st o⟩
theorem drun_cons {i : Nat} {r : List Nat} {log : List Log} {st : St} : drun P H ops bs base (i :: r) log st K ↔ ∃ o, ops[i]? = some o ∧
    ((Gd ops o st true ∧ logOk bs i (cls P o.op) (foot P H (base + alRank P ops i) st o) log = true ∧ ∃ v b', DS P H (base + alRank P ops i) st o v b' ∧ drun P H ops bs base r (Log.of P H ops base i st o :: log) ⟨put st.tmps o.dst v, b'⟩ K) ∨
     (Gd ops o st false ∧ drun P H ops bs base r log ⟨put st.tmps o.dst none0, st.blks⟩ K)) := by
  rw [drun]
  cases ho : ops[i]? with
  | none => simp
  | some o =>
    simp only [Option.some.injEq, exists_eq_left', gs_eq]
    rw [dguard_iff]
    refine or_congr (and_congr Iff.rfl ?_) Iff.rfl
    split
    · rename_i hl
      rw [dstep_iff]
      simp only [hl, true_and]
      exact Iff.rfl
    · rename_i hl
      simp [hl]

theorem logOk_mono {i : Nat} {c : Cls} {f : List Nat × List Nat} {log log' : List Log} (hs : ∀ x ∈ log', x ∈ log) (h : logOk bs i c f log = true) : logOk bs i c f log' = true := by
  unfold logOk at *
  rw [List.all_eq_true] at *
  exact fun x hx => h x (hs x hx)
theorem drun_log : ∀ {r : List Nat} {log log' : List Log} {st : St}, (∀ x ∈ log', x ∈ log) → drun P H ops bs base r log st K → drun P H ops bs base r log' st K
  | [], _, _, _, _, h => h
  | i :: r, log, log', st, hs, h => by
    rw [drun_cons] at h ⊢
    obtain ⟨o, ho, h⟩ := h
    refine ⟨o, ho, h.imp ?_ ?_⟩
    · rintro ⟨hg, hl, v, b', hd, hr⟩
      refine ⟨hg, logOk_mono hs hl, v, b', hd, drun_log ?_ hr⟩
      intro x hx
      rcases List.mem_cons.1 hx with rfl | hx
      · simp
      · exact List.mem_cons_of_mem _ (hs x hx)
    · exact fun ⟨hg, hr⟩ => ⟨hg, drun_log hs hr⟩

theorem front {i : Nat} {L2 : List Nat} {oi : Oper} (hoi : ops[i]? = some oi) : ∀ (L1 : List Nat) (log : List Log) (l : List V) (b : List Blk),
    (∀ c ∈ L1, ∃ oc, ops[c]? = some oc ∧ oc.apart ops.toArray oi = true ∧ compat (cls P oc.op) (cls P oi.op) = true ∧ (bs.getD i 0).testBit c = false) →
    drun P H ops bs base (L1 ++ i :: L2) log ⟨l, b⟩ K →
    (Gd ops oi ⟨l, b⟩ true ∧ logOk bs i (cls P oi.op) (foot P H (base + alRank P ops i) ⟨l, b⟩ oi) log = true ∧ ∃ v b', DS P H (base + alRank P ops i) ⟨l, b⟩ oi v b' ∧ drun P H ops bs base (L1 ++ L2) log ⟨put l oi.dst v, b'⟩ K) ∨
     (Gd ops oi ⟨l, b⟩ false ∧ drun P H ops bs base (L1 ++ L2) log ⟨put l oi.dst none0, b⟩ K)
  | [], log, l, b, hf, h => by
    rw [List.nil_append, drun_cons] at h
    obtain ⟨o, ho, h⟩ := h
    rw [hoi] at ho
    cases ho
    refine h.imp ?_ id
    rintro ⟨hg, hl, v, b', hd, hr⟩
    exact ⟨hg, hl, v, b', hd, drun_log (fun x hx => List.mem_cons_of_mem _ hx) hr⟩
  | c :: L1, log, l, b, hf, h => by
    rw [List.cons_append, drun_cons] at h
    obtain ⟨oc, hoc, h⟩ := h
    obtain ⟨oc', hoc', hap, hcp, hbit⟩ := hf c (by simp)
    rw [hoc] at hoc'
    cases hoc'
    obtain ⟨a1, a2, a3⟩ := Oper.apart_spec hap
    have rest : ∀ c ∈ L1, ∃ oc, ops[c]? = some oc ∧ oc.apart ops.toArray oi = true ∧ compat (cls P oc.op) (cls P oi.op) = true ∧ (bs.getD i 0).testBit c = false := fun c hc => hf c (by simp [hc])
    rcases h with ⟨hg, hl, vc, bc, hd, hr⟩ | ⟨hg, hr⟩
    · have ih := front hoi L1 _ _ _ rest hr
      rcases ih with ⟨gi, li, vi, bci, di, ri⟩ | ⟨gi, ri⟩
      · rw [Gd_put a1 (b2 := b)] at gi
        have li' : logOk bs i (cls P oi.op) (foot P H (base + alRank P ops i) ⟨put l oc.dst vc, bc⟩ oi) log = true := logOk_mono (fun x hx => List.mem_cons_of_mem _ hx) li
        have hcalm : calm (foot P H (base + alRank P ops c) ⟨l, b⟩ oc) (foot P H (base + alRank P ops i) ⟨put l oc.dst vc, bc⟩ oi) = true := by
          unfold logOk at li
          rw [List.all_eq_true] at li
          have := li _ (List.mem_cons_self ..)
          simp only [Log.of, hbit, Bool.false_or, Bool.and_eq_true] at this
          exact this.2
        obtain ⟨e1, bi, d1, d2, e2⟩ := swap hap hcp hd di hcalm
        rw [← e1] at li'
        refine .inl ⟨gi, li', vi, bi, d1, ?_⟩
        rw [List.cons_append, drun_cons]
        refine ⟨oc, hoc, .inl ⟨(Gd_put a3).2 hg, by rw [e2]; exact hl, vc, bci, d2, ?_⟩⟩
        simp only [Log.of] at ri ⊢
        rw [e2, ← put_comm a2]
        exact ri
      · rw [Gd_put a1 (b2 := b)] at gi
        refine .inr ⟨gi, ?_⟩
        rw [List.cons_append, drun_cons]
        have ec : SameOps (put l oi.dst none0) l oc := sameOps_put a3
        refine ⟨oc, hoc, .inl ⟨(Gd_put a3).2 hg, by rw [foot_eq ec]; exact hl, vc, bc, (DS_eq ec).2 hd, ?_⟩⟩
        simp only [Log.of] at ri ⊢
        rw [foot_eq ec, ← put_comm a2]
        exact ri
    · have ih := front hoi L1 _ _ _ rest hr
      rcases ih with ⟨gi, li, vi, bi, di, ri⟩ | ⟨gi, ri⟩
      · rw [Gd_put a1 (b2 := b)] at gi
        have ei : SameOps (put l oc.dst none0) l oi := sameOps_put a1
        refine .inl ⟨gi, by rw [foot_eq ei] at li; exact li, vi, bi, (DS_eq ei).1 di, ?_⟩
        rw [List.cons_append, drun_cons]
        refine ⟨oc, hoc, .inr ⟨(Gd_put a3).2 hg, ?_⟩⟩
        simp only
        rw [← put_comm a2]
        exact ri
      · rw [Gd_put a1 (b2 := b)] at gi
        refine .inr ⟨gi, ?_⟩
        rw [List.cons_append, drun_cons]
        refine ⟨oc, hoc, .inr ⟨(Gd_put a3).2 hg, ?_⟩⟩
        simp only
        rw [← put_comm a2]
        exact ri
end
end Go.SM
