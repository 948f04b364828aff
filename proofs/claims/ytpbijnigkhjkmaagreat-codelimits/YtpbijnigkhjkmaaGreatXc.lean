/- Regions that draw their order: a plan of the orders that matter. -/
import Derived.Test.YtpbijnigkhjkmaaGreatXb
namespace Go.X
set_option linter.unusedSimpArgs false

/-- how an operation is taken: its value is the same in every world; it leaves the world alone; anything -/
inductive Kd | pur | qui | lou
  deriving DecidableEq
/-- which operation next, and how; 'br' tells of one of several that may be next, and of the others -/
inductive Plan
  | done
  | one (i : Nat) (p : Plan)
  | br (i : Nat) (p q : Plan)
  | non

section orders
variable (ops : Array Oper) (kinds : Array Kd)
def rdy (l : Array Bool) (i : Nat) : Bool := !l.getD i true && ((ops[i]?).map (·.after.all fun e => !Region.binds .any e || l.getD e.on false)).getD false
def slotsOf (o : Oper) : List Tmp := o.op.operands.toList.filterMap fun | .tmp t => some t | _ => none
def guardSlot (o : Oper) : List Tmp := match o.guard with
  | some (j, _) => match (ops[j]?).bind (·.dst) with | some d => [d] | none => []
  | none => []
def supp : Op → Bool
  | .move _ | .assign _ | .pick .. | .alloc _ | .box .. | .build .. | .buildSlice .. | .insert .. | .load .. | .store .. | .nilCheck _ | .binOp .. | .unOp .. | .convert .. | .makeInterface .. | .makeFunc .. | .makeMap .. | .makeSlice ..
  | .slice .. | .fieldAddr .. | .field .. | .indexAddr .. | .index .. | .lookup .. | .mapUpdate .. | .mapEntry .. | .entryStore .. | .extract .. | .call _ => true
  | _ => false
def apartOps (o p : Oper) : Bool :=
  match o.dst with
  | none => true
  | some d => !(slotsOf p).contains d && !(guardSlot ops p).contains d && p.dst != some d
def kindsOk : Kd → Kd → Bool
  | .pur, _ => true
  | _, .pur => true
  | .qui, .qui => true
  | _, _ => false
def indep (i j : Nat) : Bool :=
  match ops[i]?, ops[j]? with
  | some o, some p => supp o.op && supp p.op && apartOps ops o p && apartOps ops p o && kindsOk (kinds.getD i .lou) (kinds.getD j .lou)
  | _, _ => false
/-- what can come to be done without i -/
def clo (i : Nat) : Nat → Array Bool → Array Bool
  | 0, l => l
  | n + 1, l => clo i n ((List.range ops.size).foldl (fun l j => if !(Nat.beq j i) && rdy ops l j then l.setIfInBounds j true else l) l)
def first (l : Array Bool) (i : Nat) : Bool :=
  let c := clo ops i ops.size l
  rdy ops l i && !c.getD i true && (List.range ops.size).all fun j =>
    (!l.getD j false || c.getD j false) && (Nat.beq j i || c.getD j false || !rdy ops c j) && (l.getD j false || !c.getD j false || indep ops kinds i j)
def firsts : Plan → List Nat
  | .br i _ q => i :: firsts q
  | _ => []
def okPlan : Bool → Plan → Array Bool → Bool
  | top, .done, l => top && (List.range ops.size).all fun j => !rdy ops l j
  | top, .one i p, l => top && first ops kinds l i && okPlan true p (l.setIfInBounds i true)
  | top, .br i p q, l => (!top || (List.range ops.size).all fun j => !rdy ops l j || (firsts (.br i p q)).contains j) && rdy ops l i && okPlan true p (l.setIfInBounds i true) && okPlan false q l
  | top, .non, _ => !top
end orders

/-! ### One step, and a list of steps -/
section steps
variable (P : Program) (ro : Option Nat) (ops : Array Oper) (kinds : Array Kd)
def runS (k : Kd) (o : Oper) (a : Act) (w : World) (K : KV) : Prop :=
  match k with
  | .pur => ∃ v, (∀ w, (execOp a.eval o).run P w = .ok (.value v) w) ∧ K v w
  | .qui => ∃ v, (execOp a.eval o).run P w = .ok (.value v) w ∧ K v w
  | .lou => NextOk P ro K ((execOp a.eval o).run P w)
def stepS (k : Kd) (o : Oper) (a : Act) (w : World) (K : KV) : Prop :=
  if Region.wanted o (yielded ops a.tmps) then runS P ro k o a w K else K undef w
def seqS (N : Act → World → Prop) : List Nat → Act → World → Prop
  | [], a, w => N a w
  | i :: r, a, w => match ops[i]? with
    | none => False
    | some o => (∀ c, o.op ≠ .defer c) ∧ stepS P ro ops (kinds.getD i .lou) o a w fun v w' => seqS N r (a.put o.dst v) w'
end steps

section
variable {P : Program} {ro : Option Nat} {ops : Array Oper} {kinds : Array Kd} {N : Act → World → Prop}
theorem NextOk.mono {K K' : KV} {r : Result Next} (h : NextOk P ro K r) (hk : ∀ v w, K v w → K' v w) : NextOk P ro K' r := by
  cases r with
  | halt => exact h
  | ok n w =>
    cases n with
    | value v => exact hk _ _ h
    | skip => exact hk _ _ h
    | enter => exact CallsIn.mono h fun e w' he => by cases e <;> first | exact hk _ _ he | exact he
    | round => exact RoundIn.mono h fun e w' he => by cases e <;> first | exact hk _ _ he | exact he
    | row => exact RowsIn.mono h hk
    | _ => exact h
/-- there is a way on -/
theorem NextOk.some {K : KV} {r : Result Next} (h : NextOk P ro K r) : ∃ v w, K v w := by
  cases r with
  | halt => exact h.elim
  | ok n w =>
    cases n with
    | value v => exact ⟨_, _, h⟩
    | skip => exact ⟨_, _, h⟩
    | enter =>
      obtain ⟨e, w', fr, hr, _⟩ := h.2 [] (fun d hd => by simp [Fw, Fence.wide] at hd)
      cases e <;> first | exact ⟨_, _, hr⟩ | exact hr.elim
    | round =>
      obtain ⟨e, w', hr, _⟩ := h.2 default [] (fun d hd => by simp [Fw, Fence.wide] at hd)
      cases e <;> first | exact ⟨_, _, hr⟩ | exact hr.elim
    | row =>
      obtain ⟨v, w', hr, _⟩ := h default [] (fun d hd => by simp [Fw, Fence.wide] at hd)
      exact ⟨_, _, hr⟩
    | _ => exact h.elim
theorem stepS_mono {k : Kd} {o : Oper} {a : Act} {w : World} {K K' : KV} (h : stepS P ro ops k o a w K) (hk : ∀ v w, K v w → K' v w) : stepS P ro ops k o a w K' := by
  unfold stepS runS at h ⊢
  split
  · rename_i hw
    rw [if_pos hw] at h
    cases k with
    | pur => exact let ⟨v, h1, h2⟩ := h; ⟨v, h1, hk _ _ h2⟩
    | qui => exact let ⟨v, h1, h2⟩ := h; ⟨v, h1, hk _ _ h2⟩
    | lou => exact NextOk.mono h hk
  · rename_i hw
    rw [if_neg hw] at h
    exact hk _ _ h
theorem seqS_wp {Q : Exit → Act → World → Prop} (hQ : ∀ a w, N a w → Q .normal a w) : ∀ (l : List Nat) (a : Act) (w : World), seqS P ro ops kinds N l a w → wpOpsIn (Fw ro) 0 P ops Q l a w := by
  intro l
  induction l with
  | nil => intro a w h; exact hQ a w h
  | cons i r ih =>
    intro a w h
    unfold seqS at h
    simp only [wpOpsIn]
    split at h
    · exact h.elim
    · rename_i o ho
      obtain ⟨hnd, h⟩ := h
      simp only [ho]
      unfold stepS at h
      by_cases hw : Region.wanted o (yielded ops a.tmps) = true
      · rw [if_pos hw] at h
        rw [if_pos hw]
        refine ⟨fun _ _ => trivial, ?_⟩
        rw [Oper.semAt_eq _ _ _ hnd]
        have h : NextOk P ro (fun v w' => seqS P ro ops kinds N r (a.put o.dst v) w') ((execOp a.eval o).run P w) := by
          unfold runS at h
          split at h
          · obtain ⟨v, h1, h2⟩ := h; rw [h1 w]; exact h2
          · obtain ⟨v, h1, h2⟩ := h; rw [h1]; exact h2
          · exact h
        generalize (execOp a.eval o).run P w = rr at h
        unfold NextOk at h
        split at h
        · exact ih _ _ h
        · exact ih _ _ h
        · refine ⟨fun hd => by simp [Fw, Fence.wide] at hd, CallsIn.mono h ?_⟩
          intro e w' he
          cases e <;> first | exact ih _ _ he | exact he.elim
        · refine ⟨fun hd => by simp [Fw, Fence.wide] at hd, RoundIn.mono h ?_⟩
          intro e w' he
          cases e <;> first | exact ih _ _ he | exact he.elim
        · exact ⟨fun hd => by simp [Fw, Fence.wide] at hd, RowsIn.mono h fun v w' hv => ih _ _ hv⟩
        · exact h.elim
      · rw [if_neg hw] at h
        rw [if_neg hw]
        exact ⟨fun _ _ => trivial, ih _ _ h⟩

/-! ### Two that stand beside one another change places -/
theorem eval_put {a : Act} {d : Option Tmp} {v : Value} {x : Operand} (h : ∀ t, x = .tmp t → d ≠ some t) : (a.put d v).eval x = a.eval x := by
  cases x with
  | tmp t =>
    have := h t rfl
    cases d with
    | none => rfl
    | some d =>
      have hd : d ≠ t := fun e => this (by rw [e])
      simp [Act.eval, Act.put, Array.getD_eq_getD_getElem?, Array.getElem?_setIfInBounds, hd]
  | const => rfl
  | global => rfl
  | func => rfl
theorem execOp_congr {ρ ρ' : Operand → Value} {o : Oper} (hs : supp o.op = true) (h : ∀ x ∈ o.op.operands, ρ x = ρ' x) : execOp ρ o = execOp ρ' o := by
  obtain ⟨dst, op, type, pos, after, guard⟩ := o
  dsimp only at hs h
  have hm : ∀ (xs : Array Operand), (∀ x ∈ xs, ρ x = ρ' x) → xs.map ρ = xs.map ρ' := fun xs hx => Array.map_congr_left hx
  cases op <;> simp only [supp, Bool.false_eq_true] at hs
  case build t ps =>
    have : (ps.map fun (i, x) => (i, ρ x)) = ps.map fun (i, x) => (i, ρ' x) := by
      apply Array.map_congr_left
      rintro ⟨i, x⟩ hx
      have := h x (by simp [Op.operands]; exact ⟨i, by simpa using hx⟩)
      simp [this]
    simp only [execOp, this]
  case buildSlice t n ps =>
    have : (ps.map fun (i, x) => (i, ρ x)) = ps.map fun (i, x) => (i, ρ' x) := by
      apply Array.map_congr_left
      rintro ⟨i, x⟩ hx
      have := h x (by simp [Op.operands]; exact ⟨i, by simpa using hx⟩)
      simp [this]
    simp only [execOp, this]
  case makeFunc fn a b =>
    have h1 := hm a fun x hx => h x (by simp [Op.operands, hx])
    have h2 := hm b fun x hx => h x (by simp [Op.operands, hx])
    simp only [execOp, h1, h2]
  case makeMap t r =>
    cases r with
    | none => rfl
    | some x => have := h x (by simp [Op.operands]); simp only [execOp, Option.map_some, this]
  case slice t x l hh m =>
    have h0 := h x (by simp [Op.operands])
    have e : ∀ y : Option Operand, (∀ z, y = some z → ρ z = ρ' z) → y.map ρ = y.map ρ' := by
      intro y hy; cases y with
      | none => rfl
      | some z => simp [hy z rfl]
    have h1 := e l fun z hz => h z (by subst hz; simp [Op.operands])
    have h2 := e hh fun z hz => h z (by subst hz; simp [Op.operands])
    have h3 := e m fun z hz => h z (by subst hz; simp [Op.operands])
    simp only [execOp, h0, h1, h2, h3]
  case call c =>
    obtain ⟨callee, args, argTypes⟩ := c
    have ha := hm args fun x hx => h x (by cases callee <;> simp [Op.operands, Call.operands, hx])
    have : resolve ρ ⟨callee, args, argTypes⟩ type = resolve ρ' ⟨callee, args, argTypes⟩ type := by
      cases callee with
      | value f => have := h f (by simp [Op.operands, Call.operands]); simp only [resolve, ha, this]
      | invoke r m => have := h r (by simp [Op.operands, Call.operands]); simp only [resolve, ha, this]
      | builtin b => simp only [resolve, ha]
    simp only [execOp, this]
  all_goals
    simp only [Op.operands, List.mem_toArray, List.mem_cons, List.not_mem_nil, or_false, forall_eq_or_imp, forall_eq] at h
    first
      | rfl
      | simp only [execOp, h]
theorem put_put {a : Act} {d e : Option Tmp} {v u : Value} (h : ∀ t, d = some t → e ≠ some t) : (a.put d v).put e u = (a.put e u).put d v := by
  cases d with
  | none => cases e <;> rfl
  | some d =>
    cases e with
    | none => rfl
    | some e =>
      have : d ≠ e := fun he => h d rfl (by rw [he])
      simp only [Act.put]
      congr 1
      exact Array.setIfInBounds_comm _ _ (by omega)
theorem yielded_put {a : Act} {d : Option Tmp} {v : Value} {o : Oper} (h : ∀ t, d = some t → (guardSlot ops o).contains t = false) : Region.wanted o (yielded ops (a.put d v).tmps) = Region.wanted o (yielded ops a.tmps) := by
  unfold Region.wanted
  cases hg : o.guard with
  | none => rfl
  | some jw =>
    obtain ⟨j, want⟩ := jw
    dsimp only
    have : yielded ops (a.put d v).tmps j = yielded ops a.tmps j := by
      unfold yielded
      cases hd : (ops[j]?).bind (·.dst) with
      | none => rfl
      | some s =>
        simp only [Option.bind_some]
        have : (a.put d v).tmps[s]? = a.tmps[s]? := by
          cases d with
          | none => rfl
          | some d =>
            have := h d rfl
            have hne : d ≠ s := by
              intro e; subst e
              simp [guardSlot, hg, hd] at this
            simp [Act.put, Array.getElem?_setIfInBounds, hne]
        rw [this]
    rw [this]
theorem apart_of {o p : Oper} (h : apartOps ops o p = true) : (∀ t, o.dst = some t → (guardSlot ops p).contains t = false) ∧ (∀ t, o.dst = some t → p.dst ≠ some t) ∧ ∀ (a : Act) (v : Value) x, x ∈ p.op.operands → (a.put o.dst v).eval x = a.eval x := by
  unfold apartOps at h
  cases hd : o.dst with
  | none => exact ⟨by simp, by simp, fun a v x _ => by cases x <;> rfl⟩
  | some d =>
    rw [hd] at h
    simp only [Bool.and_eq_true, Bool.not_eq_true', bne_iff_ne, ne_eq] at h
    obtain ⟨⟨h1, h2⟩, h3⟩ := h
    refine ⟨fun t ht => by cases ht; exact h2, fun t ht => by cases ht; exact h3, fun a v x hx => eval_put ?_⟩
    rintro t rfl e
    cases e
    have : (slotsOf p).contains d = true := by
      rw [List.contains_iff_mem]
      exact List.mem_filterMap.2 ⟨.tmp d, by simpa using hx, rfl⟩
    rw [this] at h1; cases h1
/-- the second operation's step, behind the first's and ahead of it -/
theorem stepS_put {k : Kd} {o p : Oper} {a : Act} {v : Value} {w : World} {K : KV} (ha : apartOps ops o p = true) (hs : supp p.op = true) : stepS P ro ops k p (a.put o.dst v) w K = stepS P ro ops k p a w K := by
  obtain ⟨h1, _, h3⟩ := apart_of ha
  unfold stepS runS
  rw [yielded_put h1, execOp_congr (ρ := (a.put o.dst v).eval) (ρ' := a.eval) hs fun x hx => h3 a v x hx]
theorem swapS {i j : Nat} {r : List Nat} {a : Act} {w : World} (hij : indep ops kinds i j = true) (h : seqS P ro ops kinds N (i :: j :: r) a w) : seqS P ro ops kinds N (j :: i :: r) a w := by
  unfold indep at hij
  split at hij
  case h_2 => cases hij
  rename_i o p ho hp
  simp only [Bool.and_eq_true] at hij
  obtain ⟨⟨⟨⟨hso, hsp⟩, hop⟩, hpo⟩, hk⟩ := hij
  simp only [seqS, ho, hp] at h ⊢
  obtain ⟨hd, h⟩ := h
  have hdp : ∀ c, p.op ≠ .defer c := by intro c hc; rw [hc] at hsp; cases hsp
  refine ⟨hdp, ?_⟩
  have hput : ∀ v u, (a.put o.dst v).put p.dst u = (a.put p.dst u).put o.dst v := fun v u => put_put (apart_of hop).2.1
  -- the inner step is that of p at a
  have h : stepS P ro ops (kinds.getD i .lou) o a w fun v w' => stepS P ro ops (kinds.getD j .lou) p a w' fun u w'' => seqS P ro ops kinds N r ((a.put p.dst u).put o.dst v) w'' := by
    refine stepS_mono h fun v w' hv => ?_
    obtain ⟨_, hv⟩ := hv
    rw [stepS_put hop hsp] at hv
    refine stepS_mono hv fun u w'' hu => ?_
    rw [← hput]; exact hu
  suffices hg : stepS P ro ops (kinds.getD j .lou) p a w fun u w'' => stepS P ro ops (kinds.getD i .lou) o a w'' fun v w' => seqS P ro ops kinds N r ((a.put p.dst u).put o.dst v) w' by
    refine stepS_mono hg fun u w'' hu => ⟨hd, ?_⟩
    rw [stepS_put hpo hso]; exact hu
  generalize kinds.getD i .lou = ki at h hk ⊢
  generalize kinds.getD j .lou = kj at h hk ⊢
  generalize hF : (fun (v u : Value) (w : World) => seqS P ro ops kinds N r ((a.put p.dst u).put o.dst v) w) = F
  have hF' : ∀ v u w, seqS P ro ops kinds N r ((a.put p.dst u).put o.dst v) w = F v u w := fun v u w => by rw [← hF]
  simp only [hF'] at h ⊢
  unfold stepS at h ⊢
  by_cases ho' : Region.wanted o (yielded ops a.tmps) = true <;> by_cases hp' : Region.wanted p (yielded ops a.tmps) = true
  · simp only [if_pos ho', if_pos hp'] at h ⊢
    cases ki with
    | pur =>
      obtain ⟨v, hv, h⟩ := h
      cases kj with
      | pur => obtain ⟨u, hu, h⟩ := h; exact ⟨u, hu, v, hv, h⟩
      | qui => obtain ⟨u, hu, h⟩ := h; exact ⟨u, hu, v, hv, h⟩
      | lou => exact NextOk.mono h fun u w' hu => ⟨v, hv, hu⟩
    | qui =>
      obtain ⟨v, hv, h⟩ := h
      cases kj with
      | pur => obtain ⟨u, hu, h⟩ := h; exact ⟨u, hu, v, hv, h⟩
      | qui => obtain ⟨u, hu, h⟩ := h; exact ⟨u, hu, v, hv, h⟩
      | lou => cases hk
    | lou =>
      cases kj with
      | pur =>
        -- p's value is the same in every world
        simp only [runS] at h ⊢
        obtain ⟨_, _, u, hu, _⟩ := NextOk.some h
        refine ⟨u, hu, NextOk.mono h ?_⟩
        rintro v w' ⟨u', hu', hf⟩
        have := hu w'
        rw [hu' w'] at this
        cases this
        exact hf
      | qui => cases hk
      | lou => cases hk
  · simp only [if_pos ho', if_neg hp'] at h ⊢
    exact h
  · simp only [if_neg ho', if_pos hp'] at h ⊢
    exact h
  · simp only [if_neg ho', if_neg hp'] at h ⊢
    exact h

/-! ### Plans -/
inductive Lin (ops : Array Oper) : Array Bool → List Nat → Prop
  | nil {l : Array Bool} (h : ∀ i, rdy ops l i = false) : Lin ops l []
  | cons {l : Array Bool} {i : Nat} {σ : List Nat} (h : rdy ops l i = true) (t : Lin ops (l.setIfInBounds i true) σ) : Lin ops l (i :: σ)
def LeB (l c : Array Bool) : Prop := l.size = c.size ∧ ∀ k, l.getD k false = true → c.getD k false = true
theorem rdy_lt {l : Array Bool} {i : Nat} (h : rdy ops l i = true) : i < ops.size ∧ i < l.size ∧ l.getD i false = false := by
  unfold rdy at h
  simp only [Bool.and_eq_true, Bool.not_eq_true'] at h
  obtain ⟨h1, h2⟩ := h
  have hi : i < l.size := by
    apply Classical.byContradiction; intro hn
    simp [Array.getD, hn] at h1
  refine ⟨?_, hi, by simpa [Array.getD, hi] using h1⟩
  apply Classical.byContradiction; intro hn
  simp [Array.getElem?_eq_none (by omega : ops.size ≤ i)] at h2
theorem rdy_mono {l c : Array Bool} {i : Nat} (h : LeB l c) (hr : rdy ops l i = true) (hc : c.getD i false = false) : rdy ops c i = true := by
  obtain ⟨hi, hil, _⟩ := rdy_lt hr
  unfold rdy at hr ⊢
  simp only [Bool.and_eq_true, Bool.not_eq_true'] at hr ⊢
  refine ⟨?_, ?_⟩
  · have hic : i < c.size := by have := h.1; omega
    simpa [Array.getD, hic] using hc
  · have h2 := hr.2
    rw [Array.getElem?_eq_getElem hi] at h2 ⊢
    simp only [Option.map_some, Option.getD_some, Array.all_eq_true, Bool.or_eq_true, Bool.not_eq_true'] at h2 ⊢
    intro k hk
    exact (h2 k hk).imp id fun e => h.2 _ e
theorem LeB.refl (l : Array Bool) : LeB l l := ⟨rfl, fun _ h => h⟩
theorem leB_set (l : Array Bool) (i : Nat) : LeB l (l.setIfInBounds i true) := by
  refine ⟨by simp, fun k h => ?_⟩
  rw [Array.getD_eq_getD_getElem?] at h ⊢
  rw [Array.getElem?_setIfInBounds]
  split
  · split
    · rfl
    · rename_i e hn
      subst e
      rw [Array.getElem?_eq_none (by omega)] at h
      cases h
  · exact h
theorem getD_set_ne (l : Array Bool) {i j : Nat} (h : i ≠ j) : (l.setIfInBounds i true).getD j false = l.getD j false := by
  rw [Array.getD_eq_getD_getElem?, Array.getD_eq_getD_getElem?, Array.getElem?_setIfInBounds, if_neg h]
theorem leB_of_set {l c : Array Bool} {i : Nat} (h : LeB l c) (hi : c.getD i false = true) : LeB (l.setIfInBounds i true) c := by
  refine ⟨by simpa using h.1, fun k hk => ?_⟩
  by_cases e : i = k
  · subst e; exact hi
  · rw [getD_set_ne l e] at hk; exact h.2 k hk
theorem Lin.mem {l : Array Bool} {σ : List Nat} {i : Nat} (h : Lin ops l σ) (hr : rdy ops l i = true) : i ∈ σ := by
  induction h with
  | nil h => rw [h i] at hr; cases hr
  | @cons l j σ hj _ ih =>
    by_cases e : j = i
    · subst e; simp
    · have := ih (rdy_mono (leB_set l j) hr (by rw [getD_set_ne l e]; exact (rdy_lt hr).2.2))
      simp [this]
theorem Lin.pull {i : Nat} {β : List Nat} : ∀ (α : List Nat) (l : Array Bool), Lin ops l (α ++ i :: β) → i ∉ α → rdy ops l i = true → Lin ops (l.setIfInBounds i true) (α ++ β) := by
  intro α
  induction α with
  | nil => intro l h _ _; cases h with
    | cons h t => exact t
  | cons j α ih =>
    intro l h hi hr
    cases h with
    | cons hj t =>
      have hne : j ≠ i := fun e => hi (by simp [e])
      have hr' := rdy_mono (leB_set l j) hr (by rw [getD_set_ne l hne]; exact (rdy_lt hr).2.2)
      have := ih _ t (fun hm => hi (by simp [hm])) hr'
      refine .cons (rdy_mono (leB_set l i) hj (by rw [getD_set_ne l (Ne.symm hne)]; exact (rdy_lt hj).2.2)) ?_
      rw [Array.setIfInBounds_comm _ _ (Ne.symm hne)]
      exact this
theorem Lin.inClo {i : Nat} {β : List Nat} {c : Array Bool} (hcl : ∀ j, j ≠ i → c.getD j false = false → rdy ops c j = false) : ∀ (α : List Nat) (l : Array Bool), LeB l c → Lin ops l (α ++ i :: β) → i ∉ α →
    ∀ j ∈ α, c.getD j false = true ∧ l.getD j false = false ∧ j < ops.size := by
  intro α
  induction α with
  | nil => intro l _ _ _ j hj; simp at hj
  | cons k α ih =>
    intro l hle h hi j hj
    cases h with
    | cons hk t =>
      have hne : k ≠ i := fun e => hi (by simp [e])
      have hck : c.getD k false = true := by
        cases hc : c.getD k false with
        | true => rfl
        | false => have := rdy_mono hle hk hc; rw [hcl k hne hc] at this; cases this
      rcases List.mem_cons.1 hj with rfl | hj
      · exact ⟨hck, (rdy_lt hk).2.2, (rdy_lt hk).1⟩
      · obtain ⟨h1, h2, h3⟩ := ih _ (leB_of_set hle hck) t (fun hm => hi (by simp [hm])) j hj
        refine ⟨h1, ?_, h3⟩
        cases hl : l.getD j false with
        | false => rfl
        | true => have := (leB_set l k).2 j hl; rw [h2] at this; cases this
theorem bubble {i : Nat} {β : List Nat} : ∀ (α : List Nat) (a : Act) (w : World), (∀ j ∈ α, indep ops kinds i j = true) → seqS P ro ops kinds N (i :: (α ++ β)) a w → seqS P ro ops kinds N (α ++ i :: β) a w := by
  intro α
  induction α with
  | nil => intro a w _ h; exact h
  | cons j α ih =>
    intro a w hi h
    have h := swapS (hi j (by simp)) h
    rw [List.cons_append]
    unfold seqS at h ⊢
    split at h
    · exact h.elim
    · exact ⟨h.1, stepS_mono h.2 fun v w' hv => ih _ _ (fun k hk => hi k (by simp [hk])) hv⟩
def planS (P : Program) (ro : Option Nat) (ops : Array Oper) (kinds : Array Kd) (N : Act → World → Prop) : Plan → Act → World → Prop
  | .done, a, w => N a w
  | .one i p, a, w => match ops[i]? with
    | none => False
    | some o => (∀ c, o.op ≠ .defer c) ∧ stepS P ro ops (kinds.getD i .lou) o a w fun v w' => planS P ro ops kinds N p (a.put o.dst v) w'
  | .br i p q, a, w => (match ops[i]? with
    | none => False
    | some o => (∀ c, o.op ≠ .defer c) ∧ stepS P ro ops (kinds.getD i .lou) o a w fun v w' => planS P ro ops kinds N p (a.put o.dst v) w') ∧ planS P ro ops kinds N q a w
  | .non, _, _ => True
theorem planS_sound : ∀ (p : Plan) (top : Bool) (l : Array Bool), l.size = ops.size → okPlan ops kinds top p l = true → ∀ (σ : List Nat), Lin ops l σ → ∀ a w, planS P ro ops kinds N p a w →
    (top = true → seqS P ro ops kinds N σ a w) ∧ (∀ j τ, σ = j :: τ → j ∈ firsts p → seqS P ro ops kinds N σ a w) := by
  intro p
  induction p with
  | done =>
    intro top l hs hok σ hl a w h
    refine ⟨fun ht => ?_, fun j τ _ hj => by simp [firsts] at hj⟩
    cases hl with
    | nil => exact h
    | cons hi _ =>
      simp only [okPlan, Bool.and_eq_true, List.all_eq_true, List.mem_range, Bool.not_eq_true'] at hok
      have := hok.2 _ (rdy_lt hi).1
      rw [hi] at this; cases this
  | one i p ih =>
    intro top l hs hok σ hl a w h
    refine ⟨fun ht => ?_, fun j τ _ hj => by simp [firsts] at hj⟩
    simp only [okPlan, Bool.and_eq_true] at hok
    obtain ⟨⟨_, hf⟩, hok⟩ := hok
    unfold first at hf
    simp only [Bool.and_eq_true, Bool.not_eq_true', List.all_eq_true, List.mem_range, Bool.or_eq_true] at hf
    obtain ⟨⟨hr, hci⟩, hall⟩ := hf
    generalize hc : clo ops i ops.size l = c at hci hall
    have hmem := hl.mem hr
    obtain ⟨α, β, rfl, hα⟩ := List.eq_append_cons_of_mem hmem
    have hcs : c.size = l.size := by
      rw [← hc]
      have : ∀ n (l : Array Bool), (clo ops i n l).size = l.size := by
        intro n
        induction n with
        | zero => intro l; rfl
        | succ n ih =>
          intro l
          unfold clo
          rw [ih]
          generalize List.range ops.size = rs
          induction rs generalizing l with
          | nil => rfl
          | cons r rs ih2 =>
            rw [List.foldl_cons, ih2]
            split <;> simp
      exact this _ _
    have hle : LeB l c := by
      refine ⟨hcs.symm, fun k hk => ?_⟩
      have hkl : k < ops.size := by
        apply Classical.byContradiction; intro hn
        simp [Array.getD, hs, hn] at hk
      rcases (hall k hkl).1.1 with h | h
      · rw [h] at hk; cases hk
      · simpa [Array.getD, hcs, hs, hkl] using h
    have hcl : ∀ j, j ≠ i → c.getD j false = false → rdy ops c j = false := by
      intro j hji hcj
      cases hrj : rdy ops c j with
      | false => rfl
      | true =>
        have hj := (rdy_lt hrj).1
        rcases (hall j hj).1.2 with (h | h) | h
        · exact absurd (Nat.eq_of_beq_eq_true h) hji
        · simp [Array.getD, hcs, hs, hj] at h hcj; rw [h] at hcj; cases hcj
        · rw [h] at hrj; cases hrj
    have hin := Lin.inClo hcl α l hle hl hα
    refine bubble α a w (fun j hj => ?_) ?_
    · obtain ⟨h1, h2, h3⟩ := hin j hj
      rcases (hall j h3).2 with (h | h) | h
      · rw [h2] at h; cases h
      · rw [h1] at h; cases h
      · exact h
    · have hp := Lin.pull α l hl hα hr
      unfold planS at h
      unfold seqS
      split at h
      · exact h.elim
      · exact ⟨h.1, stepS_mono h.2 fun v w' hv => (ih true _ (by simpa using hs) hok _ hp _ _ hv).1 rfl⟩
  | br i p q ihp ihq =>
    intro top l hs hok σ hl a w h
    simp only [okPlan, Bool.and_eq_true, Bool.or_eq_true, Bool.not_eq_true', List.all_eq_true, List.mem_range] at hok
    obtain ⟨⟨⟨htop, hr⟩, hokp⟩, hokq⟩ := hok
    have hfirst : ∀ j τ, σ = j :: τ → j ∈ firsts (.br i p q) → seqS P ro ops kinds N σ a w := by
      rintro j τ rfl hj
      simp only [firsts, List.mem_cons] at hj
      by_cases e : j = i
      · subst e
        cases hl with
        | cons hj' t =>
          have h := h.1
          unfold seqS
          split at h
          · exact h.elim
          · exact ⟨h.1, stepS_mono h.2 fun v w' hv => (ihp true _ (by simpa using hs) hokp _ t _ _ hv).1 rfl⟩
      · exact (ihq false l hs hokq _ hl a w h.2).2 j τ rfl (hj.resolve_left e)
    refine ⟨fun ht => ?_, hfirst⟩
    subst ht
    cases hl with
    | nil h => rw [h i] at hr; cases hr
    | cons hj t =>
      refine hfirst _ _ rfl ?_
      rcases htop with h | h
      · cases h
      · rcases h _ (rdy_lt hj).1 with h | h
        · rw [hj] at h; cases h
        · simpa using h
  | non =>
    intro top l hs hok σ hl a w h
    refine ⟨fun ht => ?_, fun j τ _ hj => by simp [firsts] at hj⟩
    subst ht; simp [okPlan] at hok
theorem count_set : ∀ (l : List Bool) (i : Nat), l[i]? = some false → ((l.set i true).filter (!·)).length + 1 = (l.filter (!·)).length
  | [], i, h => by simp at h
  | b :: l, 0, h => by simp at h; subst h; simp
  | b :: l, i + 1, h => by
    have := count_set l i (by simpa using h)
    cases b <;> simp [List.filter_cons] <;> omega
theorem go_lin : ∀ (fuel t : Nat) (l : Array Bool) (acc : List Nat), l.size = ops.size → (l.toList.filter (!·)).length ≤ fuel → ∃ σ, Region.linearise.go .any ops fuel t l acc = acc.reverse ++ σ ∧ Lin ops l σ := by
  intro fuel
  induction fuel with
  | zero =>
    intro t l acc hs hc
    refine ⟨[], by simp [Region.linearise.go], .nil fun i => ?_⟩
    cases hr : rdy ops l i with
    | false => rfl
    | true =>
      obtain ⟨_, h2, h3⟩ := rdy_lt hr
      have hm : false ∈ l.toList.filter (!·) := by
        simp only [List.mem_filter, Bool.not_false, and_true, Array.mem_toList_iff]
        rw [Array.mem_iff_getElem]
        exact ⟨i, h2, by simpa [Array.getD, h2] using h3⟩
      have := List.length_pos_of_mem hm
      omega
  | succ fuel ih =>
    intro t l acc hs hc
    unfold Region.linearise.go
    simp only
    have hrs : ∀ i, i ∈ (List.range ops.size).filter (fun i => !l.getD i true && ((ops[i]?).map (·.after.all fun e => !Region.binds .any e || l.getD e.on false)).getD false) ↔ rdy ops l i = true := by
      intro i
      rw [List.mem_filter, List.mem_range]
      constructor
      · exact fun h => h.2
      · exact fun h => ⟨(rdy_lt h).1, h⟩
    generalize (List.range ops.size).filter (fun i => !l.getD i true && ((ops[i]?).map (·.after.all fun e => !Region.binds .any e || l.getD e.on false)).getD false) = rs at hrs
    split
    · rename_i i hi
      have hr := (hrs i).1 (List.mem_of_getElem? hi)
      obtain ⟨_, h2, h3⟩ := rdy_lt hr
      have hcs := count_set l.toList i (by simpa [Array.getD, h2] using h3)
      obtain ⟨σ, h4, h5⟩ := ih (t / rs.length) (l.setIfInBounds i true) (i :: acc) (by simpa using hs) (by simp only [Array.toList_setIfInBounds]; omega)
      exact ⟨i :: σ, by rw [h4]; simp, .cons hr h5⟩
    · rename_i hn
      refine ⟨[], by simp, .nil fun i => ?_⟩
      cases hr : rdy ops l i with
      | false => rfl
      | true =>
        have hm := (hrs i).2 hr
        have hpos : 0 < rs.length := List.length_pos_of_mem hm
        have := Nat.mod_lt t hpos
        rw [List.getElem?_eq_none_iff] at hn
        omega
theorem linearise_lin (t : Nat) : Lin ops (Array.replicate ops.size false) (Region.linearise .any ops t) := by
  obtain ⟨σ, h1, h2⟩ := go_lin (ops := ops) ops.size t (Array.replicate ops.size false) [] (by simp) (by
    have := List.length_filter_le (fun b => !b) (Array.replicate ops.size false).toList
    rwa [Array.toList_replicate, List.length_replicate] at this)
  unfold Region.linearise
  rw [h1]; exact h2
theorem draw_wp {id : Nat} {plan : Plan} {Q : Exit → Act → World → Prop} (hm : P.follows .mixedOrders = true) (hok : okPlan ops kinds true plan (Array.replicate ops.size false) = true)
    (hQ : ∀ a w, N a w → Q .normal a w) {a : Act} {w : World} (h : planS P ro ops kinds N plan a { w with drawn := w.drawn + 1 }) : (Code.region id ops true).wpIn (Fw ro) 0 P Q a w := by
  refine wpIn_region_draw fun t => ?_
  unfold Region.schedule
  rw [hm, if_pos (by simp)]
  exact seqS_wp hQ _ _ _ ((planS_sound plan true _ (by simp) hok _ (linearise_lin t) _ _ h).1 rfl)
end
end Go.X

/- A plan, walked. -/
namespace Go.X
set_option linter.unusedSimpArgs false

/-- the computation of a value that an operation is -/
def semK (t : List Value) (ty : TypeId) (F : Sem Value → Prop) : Op → Prop
  | .load T a => evK t a fun a => F (Instr.loadAt T a)
  | .binOp op T x y _ => evK t x fun a => evK t y fun b => F (binOpG op T x y a b)
  | .unOp op _ x => evK t x fun x => F (Op.unary op x)
  | .convert S D x => evK t x fun x => F (convert S D x)
  | .makeInterface T x => evK t x fun x => F (Instr.makeInterface T x)
  | .fieldAddr T x f => evK t x fun x => F (Instr.fieldAt T x f)
  | .field T x f => evK t x fun x => F (Instr.field T x f)
  | .indexAddr T x i => evK t x fun x => evK t i fun i => F (Instr.indexAt T x i)
  | .index T x i => evK t x fun x => evK t i fun i => F (Instr.index T x i)
  | .slice T x lo hi mx => evK t x fun x => evoK t lo fun lo => evoK t hi fun hi => evoK t mx fun mx => F (Instr.sliceAt T x lo hi mx)
  | .build T ps => evpK t ps.toList fun ps => F (Instr.build T ps.toArray)
  | .lookup T x i ok => evK t x fun x => evK t i fun i => F (Instr.lookup T x i ok)
  | .extract x i => evK t x fun x => F (Instr.extract x i)
  | .call c => match c.callee with
    | .builtin b => evsK t c.args.toList fun as => match b with
      | .cap => F (Builtin.cap_ c.argTypes ty as.toArray)
      | .len => F (Builtin.len_ c.argTypes ty as.toArray)
      | .max => F (Builtin.max_ c.argTypes ty as.toArray)
      | .min => F (Builtin.min_ c.argTypes ty as.toArray)
      | .unsafeSliceData => F (Builtin.unsafeSliceData_ c.argTypes ty as.toArray)
      | .unsafeString => F (Builtin.unsafeString_ c.argTypes ty as.toArray)
      | _ => XBad "builtin"
    | _ => XBad "call"
  | _ => XBad "op"
def xpur (P : Program) (t : List Value) (ty : TypeId) (K : Value → Prop) : Op → Prop
  | .move x => evK t x K
  | .assign x => evK t x K
  | .pick c a b => evK t c fun c => match c with
    | .bool q => evK t a fun a => evK t b fun b => XIf q (K a) (K b)
    | _ => XBad "pick"
  | .nilCheck x => evK t x fun x => match x with
    | .pointer (some a) => K (.pointer (some a))
    | .func fn a b => XFn fn (K (.func fn a b))
    | _ => XBad "nilCheck"
  | .makeFunc fn a b => evsK t a.toList fun a => evsK t b.toList fun b => K (.func fn a.toArray b.toArray)
  | op => semK t ty (fun s => XPur P s K) op
/-- with the builtins on bytes -/
def xlou (P : Program) (ro : Option Nat) (t : List Value) (w : World) (ty : TypeId) (K : KV) : Op → Prop
  | .call c => match c.callee with
    | .builtin .unsafeString => semK t ty (fun s => XSem P s w K) (.call c)
    | _ => xop P ro t w ty K (.call c)
  | op => xop P ro t w ty K op
def xrun (P : Program) (ro : Option Nat) (k : Kd) (o : Oper) (w : World) (K : List Value → World → Prop) (t : List Value) : Prop :=
  match k with
  | .pur => xpur P t o.type (fun v => dstK t o.dst v fun t => K t w) o.op
  | .qui => semK t o.type (fun s => XLd P s w fun v => dstK t o.dst v fun t => K t w) o.op
  | .lou => xlou P ro t w o.type (fun v w => dstK t o.dst v fun t => K t w) o.op
def xstep (P : Program) (ro : Option Nat) (all : List Oper) (k : Kd) (o : Oper) (t : List Value) (w : World) (K : List Value → World → Prop) : Prop :=
  match o.guard with
  | none => xrun P ro k o w K t
  | some (j, want) => match dstOf all j with
    | none => XBad "guard"
    | some s => nthK t s fun v => match v with
      | .bool b => XIf b
        (setK t s (.bool true) fun t => match want with
          | true => xrun P ro k o w K t
          | false => dstK t o.dst undef fun t => K t w)
        (setK t s (.bool false) fun t => match want with
          | false => xrun P ro k o w K t
          | true => dstK t o.dst undef fun t => K t w)
      | .tuple _ => dstK t o.dst undef fun t => K t w
      | _ => XBad "guarded by no bool"
def nthO {α : Type} : List Oper → List Kd → Nat → (Oper → Kd → Prop) → Prop
  | [], _, _, _ => XBad "no such operation"
  | _ :: _, [], _, _ => XBad "no such kind"
  | o :: _, k :: _, 0, K => K o k
  | _ :: os, _ :: ks, n + 1, K => nthO (α := α) os ks n K
structure XBoth (A B : Prop) : Prop where
  a : A
  b : B
noncomputable section
variable (P : Program) (ro : Option Nat) (all : List Oper) (ks : List Kd)
def pOne (i : Nat) (_ : Plan) (ih : List Value → World → Prop) : List Value → World → Prop := fun t w => nthO (α := Unit) all ks i fun o k => xstep P ro all k o t w ih
def pBr (i : Nat) (_ _ : Plan) (ih ih2 : List Value → World → Prop) : List Value → World → Prop := fun t w => XBoth (nthO (α := Unit) all ks i fun o k => xstep P ro all k o t w ih) (ih2 t w)
def pNon : List Value → World → Prop := fun _ _ => True
def xplan (Kn : List Value → World → Prop) (p : Plan) : List Value → World → Prop :=
  Plan.rec (motive := fun _ => List Value → World → Prop) Kn (pOne P ro all ks) (pBr P ro all ks) pNon p
end

section
variable {P : Program} {ro : Option Nat}
theorem semK_ex {t : List Value} {ds : List Deferred} {F : Sem Value → Prop} {o : Oper} (h : semK t o.type F o.op) :
    ∃ s, F s ∧ supp o.op = true ∧ ∀ w, (execOp (({ tmps := t.toArray, defers := ds } : Act).eval) o).run P w = Result.andThen (s.run P w) fun v w' => .ok (.value v) w' := by
  obtain ⟨dst, op, type, pos, after, guard⟩ := o
  dsimp only at h
  have hv : ∀ (s : Sem Value) w, (do pure (Next.value (← s)) : Sem Next).run P w = Result.andThen (s.run P w) fun v w' => .ok (.value v) w' := by
    intro s w; simp only [Sem.run_bind]; rfl
  cases op <;> simp only [semK, evK_eq t ds, evsK_eq t ds, evpK_eq t ds, evoK_eq t ds] at h
  case load => exact ⟨_, h, rfl, fun w => hv _ w⟩
  case binOp => exact ⟨_, h, rfl, fun w => hv _ w⟩
  case unOp => exact ⟨_, h, rfl, fun w => hv _ w⟩
  case convert => exact ⟨_, h, rfl, fun w => hv _ w⟩
  case makeInterface => exact ⟨_, h, rfl, fun w => hv _ w⟩
  case fieldAddr => exact ⟨_, h, rfl, fun w => hv _ w⟩
  case field => exact ⟨_, h, rfl, fun w => hv _ w⟩
  case indexAddr => exact ⟨_, h, rfl, fun w => hv _ w⟩
  case index => exact ⟨_, h, rfl, fun w => hv _ w⟩
  case slice => exact ⟨_, h, rfl, fun w => hv _ w⟩
  case build T ps =>
    have e : (List.map (fun p => (p.1, ({ tmps := t.toArray, defers := ds } : Act).eval p.2)) ps.toList).toArray = ps.map (fun (i, x) => (i, ({ tmps := t.toArray, defers := ds } : Act).eval x)) := by
      apply Array.ext'; simp
    rw [e] at h; exact ⟨_, h, rfl, fun w => hv _ w⟩
  case lookup => exact ⟨_, h, rfl, fun w => hv _ w⟩
  case extract => exact ⟨_, h, rfl, fun w => hv _ w⟩
  case call c =>
    obtain ⟨callee, args, argTypes⟩ := c
    have e (a : Array Operand) : (List.map (({ tmps := t.toArray, defers := ds } : Act).eval) a.toList).toArray = a.map (({ tmps := t.toArray, defers := ds } : Act).eval) := by
      apply Array.ext'; simp
    cases callee with
    | value f => exact nomatch h
    | invoke r m => exact nomatch h
    | builtin b =>
      dsimp only at h
      rw [e] at h
      cases b <;> first | exact ⟨_, h, rfl, fun w => hv _ w⟩ | cases h
  all_goals cases h
theorem xpur_ex {t : List Value} {ds : List Deferred} {K : Value → Prop} {o : Oper} (h : xpur P t o.type K o.op) :
    supp o.op = true ∧ ∃ v, (∀ w, (execOp (({ tmps := t.toArray, defers := ds } : Act).eval) o).run P w = .ok (.value v) w) ∧ K v := by
  have hsem : semK t o.type (fun s => XPur P s K) o.op → supp o.op = true ∧ ∃ v, (∀ w, (execOp (({ tmps := t.toArray, defers := ds } : Act).eval) o).run P w = .ok (.value v) w) ∧ K v := by
    intro h
    obtain ⟨s, ⟨v, hr, hk⟩, h1, h2⟩ := semK_ex (P := P) (ds := ds) h
    exact ⟨h1, v, fun w => by rw [h2, hr]; rfl, hk⟩
  obtain ⟨dst, op, type, pos, after, guard⟩ := o
  dsimp only at h
  cases op <;> simp only [xpur, evK_eq t ds, evsK_eq t ds] at h <;> try exact hsem h
  case move => exact ⟨rfl, _, fun w => rfl, h⟩
  case assign => exact ⟨rfl, _, fun w => rfl, h⟩
  case pick c a b =>
    refine ⟨rfl, ?_⟩
    split at h
    · rename_i q hq
      rcases h with ⟨rfl, h⟩ | ⟨rfl, h⟩
      · exact ⟨_, fun w => by simp [execOp, hq, asBool, Sem.run_bind, Result.andThen, Sem.run, pure], h⟩
      · exact ⟨_, fun w => by simp [execOp, hq, asBool, Sem.run_bind, Result.andThen, Sem.run, pure], h⟩
    · cases h
  case nilCheck x =>
    refine ⟨rfl, ?_⟩
    split at h
    · rename_i a ha
      exact ⟨_, fun w => by simp only [execOp, ha]; rfl, h⟩
    · rename_i fn a b ha
      obtain ⟨hne, h⟩ := h
      refine ⟨_, fun w => ?_, h⟩
      simp only [execOp, ha]
      cases fn with
      | method m => exact absurd rfl (hne m)
      | _ => rfl
    · cases h
  case makeFunc fn a b =>
    have e (a : Array Operand) : (List.map (({ tmps := t.toArray, defers := ds } : Act).eval) a.toList).toArray = a.map (({ tmps := t.toArray, defers := ds } : Act).eval) := by
      apply Array.ext'; simp
    rw [e, e] at h
    exact ⟨rfl, _, fun w => rfl, h⟩
theorem xop_supp {t : List Value} {w : World} {ty : TypeId} {K : KV} {op : Op} (h : xop P ro t w ty K op) : ∀ c, op ≠ .defer c := by
  rintro c rfl; exact nomatch h
theorem xlou_ok {t : List Value} {ds : List Deferred} {w : World} {K : KV} {o : Oper} (h : xlou P ro t w o.type K o.op) :
    (∀ c, o.op ≠ .defer c) ∧ NextOk P ro K ((execOp (({ tmps := t.toArray, defers := ds } : Act).eval) o).run P w) := by
  have hx : xop P ro t w o.type K o.op → (∀ c, o.op ≠ .defer c) ∧ NextOk P ro K ((execOp (({ tmps := t.toArray, defers := ds } : Act).eval) o).run P w) :=
    fun h => ⟨xop_supp h, xop_ok t ds w K o h⟩
  unfold xlou at h
  split at h
  · rename_i c hc
    split at h
    · rw [← hc] at h
      obtain ⟨s, ⟨v, w', hr, hk⟩, h1, h2⟩ := semK_ex (P := P) (ds := ds) h
      refine ⟨fun c' e => (by rw [e] at hc; cases hc), ?_⟩
      rw [h2, hr]; exact hk
    · rw [← hc] at h; exact hx h
  · exact hx h
theorem xstep_ok {ops : Array Oper} {k : Kd} {o : Oper} {t : List Value} {ds : List Deferred} {w : World} {K : List Value → World → Prop} {N : Act → World → Prop} (h : xstep P ro ops.toList k o t w K)
    (hK : ∀ t w, K t w → N { tmps := t.toArray, defers := ds } w) :
    stepS P ro ops k o { tmps := t.toArray, defers := ds } w (fun v w' => N (({ tmps := t.toArray, defers := ds } : Act).put o.dst v) w') := by
  have hput : ∀ t v w, (dstK t o.dst v fun t => K t w) → N (({ tmps := t.toArray, defers := ds } : Act).put o.dst v) w := by
    intro t v w h
    rw [dstK_eq t ds] at h
    have := hK _ _ h
    rwa [put_mk] at this
  have hrun : ∀ t : List Value, xrun P ro k o w K t → runS P ro k o { tmps := t.toArray, defers := ds } w (fun v w' => N (({ tmps := t.toArray, defers := ds } : Act).put o.dst v) w') := by
    intro t h
    cases k with
    | pur => obtain ⟨_, v, h1, h2⟩ := xpur_ex (ds := ds) h; exact ⟨v, h1, hput _ _ _ h2⟩
    | qui =>
      have h : semK t o.type (fun s => XLd P s w fun v => dstK t o.dst v fun t => K t w) o.op := h
      obtain ⟨s, ⟨v, hr, hk⟩, _, h2⟩ := semK_ex (P := P) (ds := ds) h
      exact ⟨v, by rw [h2, hr]; rfl, hput _ _ _ hk⟩
    | lou => exact NextOk.mono (xlou_ok h).2 fun v w hv => hput _ _ _ hv
  unfold xstep at h
  unfold stepS
  split at h
  · rename_i hg
    simp only [Region.wanted, hg, if_true]
    exact hrun t h
  · rename_i j want hg
    split at h
    · exact nomatch h
    · rename_i s hs
      rw [dstOf_eq] at hs
      simp only [nthK_eq, setK_eq] at h
      split at h
      · rename_i b hb
        have hlt : s < t.length := by
          apply Classical.byContradiction; intro hn
          simp [Array.getD, hn, undef] at hb
        have hy : yielded ops t.toArray j = some b := by
          simp only [yielded, hs, Option.bind_some]
          have : t.toArray[s]? = some (.bool b) := by
            simp [Array.getD, hlt] at hb ⊢; exact hb
          rw [this]
        simp only [Region.wanted, hg, hy]
        rcases h with ⟨rfl, h⟩ | ⟨rfl, h⟩
        · rw [set_same t s _ hb] at h
          cases want with
          | true => simpa using hrun t h
          | false => simpa using hput _ _ _ h
        · rw [set_same t s _ hb] at h
          cases want with
          | true => simpa using hput _ _ _ h
          | false => simpa using hrun t h
      · rename_i vs hb
        have hy : yielded ops t.toArray j = none := by
          simp only [yielded, hs, Option.bind_some]
          by_cases hlt : s < t.length
          · have : t.toArray[s]? = some (.tuple vs) := by
              simp [Array.getD, hlt] at hb ⊢; exact hb
            rw [this]
          · have : t.toArray[s]? = none := by simp; omega
            rw [this]
        simp only [Region.wanted, hg, hy]
        simpa using hput _ _ _ h
      · exact nomatch h
theorem nthO_ex {all : Array Oper} {ks : Array Kd} {i : Nat} {K : Oper → Kd → Prop} (h : nthO (α := Unit) all.toList ks.toList i K) : ∃ o, all[i]? = some o ∧ K o (ks.getD i .lou) := by
  obtain ⟨os⟩ := all
  obtain ⟨ks⟩ := ks
  simp only at h
  induction os generalizing ks i with
  | nil => simp only [nthO] at h; exact nomatch h
  | cons o os ih =>
    cases ks with
    | nil => simp only [nthO] at h; exact nomatch h
    | cons k ks =>
      cases i with
      | zero => exact ⟨o, by simp, by simpa [nthO] using h⟩
      | succ i =>
        obtain ⟨o', h1, h2⟩ := ih ks (i := i) h
        exact ⟨o', by simpa using h1, by simpa using h2⟩
def noDefer (ops : Array Oper) : Bool := ops.all fun o => supp o.op
theorem xplan_ok {ops : Array Oper} {kinds : Array Kd} (hnd : noDefer ops = true) {ds : List Deferred} {Kn : List Value → World → Prop} {N : Act → World → Prop} (hK : ∀ t w, Kn t w → N { tmps := t.toArray, defers := ds } w) :
    ∀ (p : Plan) (t : List Value) (w : World), xplan P ro ops.toList kinds.toList Kn p t w → planS P ro ops kinds N p { tmps := t.toArray, defers := ds } w := by
  have hd : ∀ (i : Nat) (o : Oper), ops[i]? = some o → ∀ c, o.op ≠ Op.defer c := by
    intro i o ho c hc
    have hs : supp o.op = true := by
      unfold noDefer at hnd
      rw [Array.all_eq_true'] at hnd
      exact hnd o (Array.mem_of_getElem? ho)
    rw [hc] at hs; cases hs
  intro p
  induction p with
  | done => intro t w h; exact hK t w h
  | one i p ih =>
    intro t w h
    have h : nthO (α := Unit) ops.toList kinds.toList i fun o k => xstep P ro ops.toList k o t w (xplan P ro ops.toList kinds.toList Kn p) := h
    obtain ⟨o, ho, h⟩ := nthO_ex h
    simp only [planS, ho]
    exact ⟨hd i o ho, xstep_ok h ih⟩
  | br i p q ihp ihq =>
    intro t w h
    have h : XBoth (nthO (α := Unit) ops.toList kinds.toList i fun o k => xstep P ro ops.toList k o t w (xplan P ro ops.toList kinds.toList Kn p)) (xplan P ro ops.toList kinds.toList Kn q t w) := h
    obtain ⟨h, hq⟩ := h
    obtain ⟨o, ho, h⟩ := nthO_ex h
    simp only [planS, ho]
    exact ⟨⟨hd i o ho, xstep_ok h ihp⟩, ihq t w hq⟩
  | non => intro t w _; trivial
/-- a region that draws its order, by a plan -/
theorem XCode.draw {id : Nat} {ops : Array Oper} {t : List Value} {ds : List Deferred} {w : World} {Kn : KW} {Ke : KE} (kinds : Array Kd) (plan : Plan) (hm : P.follows .mixedOrders = true)
    (hok : (noDefer ops && okPlan ops kinds true plan (Array.replicate ops.size false)) = true)
    (h : ∀ dr, xplan P ro ops.toList kinds.toList (fun t w => Kn t ds w) plan t { w with drawn := dr }) : XCode P ro (.region id ops true) t ds w Kn Ke := by
  rw [Bool.and_eq_true] at hok
  refine ⟨draw_wp (N := fun a w => Kn a.tmps.toList ds w ∧ a.defers = ds) hm hok.2 ?_ (xplan_ok hok.1 (fun t w h => ⟨h, rfl⟩) plan t _ (h _))⟩
  intro a w hN
  obtain ⟨h1, h2⟩ := hN
  simp only [Qof, h2]; exact h1
theorem XCode.drawH {id : Nat} {ops : Array Oper} {t : List Value} {ds : List Deferred} {w : World} {Kn : KW} {Ke : KE} {I : Im} {L : Heap} [hh : HH w I L] (kinds : Array Kd) (plan : Plan) (hm : P.follows .mixedOrders = true)
    (hok : (noDefer ops && okPlan ops kinds true plan (Array.replicate ops.size false)) = true)
    (h : ∀ w', HH w' I L → xplan P ro ops.toList kinds.toList (fun t w => Kn t ds w) plan t w') : XCode P ro (.region id ops true) t ds w Kn Ke :=
  .draw kinds plan hm hok fun dr => h _ (hh.drawn dr)
end
end Go.X

/- Blocks that are frozen, and forgotten. -/
namespace Go.X
theorem HH.less {w : World} {I I' : Im} {L : Heap} (h : HH w I' L) (hl : I.Le I') : HH w I L where
  imm := fun b o hb => h.imm b o (hl.at_ b o hb)
  own := h.own
  disj := fun b o hm => by
    cases e : I.at_ b with
    | none => rfl
    | some o' => have := h.disj b o hm; rw [hl.at_ b o' e] at this; cases this
  nodup := h.nodup
  os := h.os.trans hl.os
  tape := h.tape.trans hl.tape
  output := h.output.trans hl.output
theorem getElem?_flatten_enc {α : Type} {sz : Nat} {enc : α → List Value} : ∀ (xs : List α) (junk : List Value) (_ : ∀ x ∈ xs, (enc x).length = sz) (k j : Nat) (x : α) (v : Value),
    xs[k]? = some x → (enc x)[j]? = some v → ((xs.map enc).flatten ++ junk)[k * sz + j]? = some v
  | [], _, _, _, _, _, _, h, _ => by simp at h
  | y :: ys, junk, he, 0, j, x, v, h, hv => by
    simp only [List.getElem?_cons_zero, Option.some.injEq] at h
    subst h
    have : j < (enc y).length := (List.getElem?_eq_some_iff.1 hv).1
    simp only [List.map_cons, List.flatten_cons, List.append_assoc, Nat.zero_mul, Nat.zero_add]
    rw [List.getElem?_append_left this, hv]
  | y :: ys, junk, he, k + 1, j, x, v, h, hv => by
    have hy := he y (List.mem_cons_self ..)
    simp only [List.map_cons, List.flatten_cons, List.append_assoc]
    rw [List.getElem?_append_right (by rw [hy, Nat.succ_mul]; omega), show (k + 1) * sz + j - (enc y).length = k * sz + j by rw [hy, Nat.succ_mul]; omega]
    exact getElem?_flatten_enc ys junk (fun x hx => he x (List.mem_cons_of_mem _ hx)) k j x v (by simpa using h) hv
theorem SlI.ofImm {α : Type} {I : Im} {b sz : Nat} {enc : α → List Value} {vs junk : List Value} {T : TypeId} {xs : List α} (h : Imm I b (oc vs T)) (e : vs = (xs.map enc).flatten ++ junk) (he : ∀ x ∈ xs, (enc x).length = sz) :
    SlI I b 0 sz enc xs :=
  ⟨vs.toArray, T, (0, 0), h.eq, fun k x hx => ⟨he x (List.mem_of_getElem? hx), fun j v hv => by
    subst e; simpa using getElem?_flatten_enc xs junk he k j x v hx hv⟩⟩
/-- a block of one's own becomes a row that is read -/
theorem HH.row {α : Type} {w : World} {I : Im} {L : Heap} {b sz : Nat} {enc : α → List Value} {vs : List Value} {T : TypeId} (xs : List α) (h : HH w I ((b, oc vs T) :: L)) (e : vs = (xs.map enc).flatten)
    (he : ∀ x ∈ xs, (enc x).length = sz) : ∃ I', I.Le I' ∧ HH w I' L ∧ SlI I' b 0 sz enc xs ∧ SlA I' (some ⟨b, 0, none⟩) sz enc xs := by
  obtain ⟨h1, h2, h3⟩ := h.freeze
  have s := SlI.ofImm (junk := []) h3 (by simpa using e) he
  exact ⟨_, h2, h1, s, s.toA⟩
/-- what a contract's end says of memory, found from what is known there -/
class LeR (I I' : Im) : Prop where
  le : I.Le I'
instance (priority := high) {I : Im} : LeR I I := ⟨.refl I⟩
instance {I J I' : Im} [h : J.Le I'] [k : LeR I J] : LeR I I' := ⟨k.le.trans h⟩
class SubL (L L' : Heap) : Prop where
  sub : L.Sublist L'
instance (priority := high) {L : Heap} : SubL L L := ⟨.refl L⟩
instance (priority := low) {x : Nat × Obj} {L L' : Heap} [h : SubL L L'] : SubL L (x :: L') := ⟨h.sub.cons x⟩
instance {x : Nat × Obj} {L L' : Heap} [h : SubL L L'] : SubL (x :: L) (x :: L') := ⟨h.sub.cons_cons x⟩
instance (priority := low) {E L L' : Heap} [h : SubL L L'] : SubL L (E ++ L') := ⟨h.sub.trans (List.sublist_append_right E L')⟩
instance {E L L' : Heap} [h : SubL L L'] : SubL (E ++ L) (E ++ L') := ⟨(List.append_sublist_append_left E).2 h.sub⟩
theorem HH.fin {w : World} {I I' : Im} {L L' : Heap} [h : HH w I' L'] [hl : LeR I I'] [hs : SubL L L'] : HH w I L :=
  (h.sub (fun _ hx => hs.sub.subset hx) ((hs.sub.map (·.1)).nodup h.nodup)).less hl.le
theorem retTo {K : KV} {u v : Value} {w : World} (k : K u w) (e : v = u) : K v w := e ▸ k
/-- what comes of something that may not be -/
inductive XOpt {α : Type} (o : Option α) (A : α → Prop) (B : Prop) : Prop
  | some (x : α) (e : o = some x) (a : A x)
  | none (e : o = none) (b : B)
theorem XOpt.mk {α : Type} {o : Option α} {A : α → Prop} {B : Prop} (a : ∀ x, o = .some x → A x) (b : o = .none → B) : XOpt o A B := by
  cases o with
  | none => exact .none rfl (b rfl)
  | some x => exact .some x rfl (a x rfl)
instance {α : Type} {x : α} {A : α → Prop} {B : Prop} : XStep (XOpt (.some x) A B) (A x) := ⟨fun a => .some x rfl a⟩
instance {α : Type} {A : α → Prop} {B : Prop} : XStep (XOpt .none A B) B := ⟨fun b => .none rfl b⟩
theorem XIf.toT {b : Bool} {A B : Prop} (h : XIf b A B) (e : b = true) : A := by
  cases h with
  | t _ a => exact a
  | f e' _ => rw [e] at e'; cases e'
theorem XIf.toF {b : Bool} {A B : Prop} (h : XIf b A B) (e : b = false) : B := by
  cases h with
  | f _ a => exact a
  | t e' _ => rw [e] at e'; cases e'
theorem XOpt.toSome {α : Type} {o : Option α} {A : α → Prop} {B : Prop} {x : α} (h : XOpt o A B) (e : o = .some x) : A x := by
  cases h with
  | none e' => rw [e] at e'; cases e'
  | some y e' a => rw [e] at e'; cases e'; exact a
theorem XOpt.toNone {α : Type} {o : Option α} {A : α → Prop} {B : Prop} (h : XOpt o A B) (e : o = .none) : B := by
  cases h with
  | none _ b => exact b
  | some y e' a => rw [e] at e'; cases e'
/-- what comes, or an error's number -/
inductive XRes {α : Type} (o : Except Int α) (A : α → Prop) (B : Int → Prop) : Prop
  | ok (x : α) (e : o = .ok x) (a : A x)
  | err (x : Int) (e : o = .error x) (b : B x)
theorem XRes.mk {α : Type} {o : Except Int α} {A : α → Prop} {B : Int → Prop} (a : ∀ x, o = .ok x → A x) (b : ∀ e, o = .error e → B e) : XRes o A B := by
  cases o with
  | error e => exact .err e rfl (b e rfl)
  | ok x => exact .ok x rfl (a x rfl)
theorem XRes.toOk {α : Type} {o : Except Int α} {A : α → Prop} {B : Int → Prop} {x : α} (h : XRes o A B) (e : o = .ok x) : A x := by
  cases h with
  | err y e' => rw [e] at e'; cases e'
  | ok y e' a => rw [e] at e'; cases e'; exact a
theorem XRes.toErr {α : Type} {o : Except Int α} {A : α → Prop} {B : Int → Prop} {x : Int} (h : XRes o A B) (e : o = .error x) : B x := by
  cases h with
  | ok y e' => rw [e] at e'; cases e'
  | err y e' a => rw [e] at e'; cases e'; exact a
end Go.X

/- Maps: a list of keys and values, each key once. -/
namespace Go.X
set_option linter.unusedSimpArgs false
set_option linter.unusedSectionVars false
set_option linter.unusedVariables false

def mapEs {κ ν : Type} (ek : κ → Value) (ev : ν → Value) (m : List (κ × ν)) : List MapEntry := m.zipIdx.map fun p => ⟨ek p.1.1, ev p.1.2, p.2⟩
def MO {κ ν : Type} (ek : κ → Value) (ev : ν → Value) (m : List (κ × ν)) : Obj := .map (mapEs ek ev m).toArray m.length
def ekS (l : List UInt8) : Value := .string ⟨l.toArray⟩
def ekI (n : Int) : Value := .int .i64 n
def evB (b : Bool) : Value := .bool b
def mget {κ ν : Type} [DecidableEq κ] (m : List (κ × ν)) (k : κ) : Option ν := (m.find? fun p => decide (p.1 = k)).map (·.2)
def mset {κ ν : Type} [DecidableEq κ] (m : List (κ × ν)) (k : κ) (v : ν) : List (κ × ν) := if (mget m k).isSome then m.map fun p => if p.1 = k then (p.1, v) else p else m ++ [(k, v)]
/-- the key whose value this is -/
class KeyV {κ : Type} (ek : outParam (κ → Value)) (v : Value) (k : outParam κ) : Prop where
  eq : v = ek k
instance {l : List UInt8} : KeyV ekS (.string ⟨l.toArray⟩) l := ⟨rfl⟩
instance {n : Int} : KeyV ekI (.int .i64 n) n := ⟨rfl⟩
class ValV {ν : Type} (ev : ν → Value) (v : Value) (x : outParam ν) : Prop where
  eq : v = ev x
instance {b : Bool} : ValV evB (.bool b) b := ⟨rfl⟩
instance {n : Int} : ValV ekI (.int .i64 n) n := ⟨rfl⟩
class TyMap (P : Program) (T : TypeId) (kt et : outParam TypeId) : Prop where
  eq : P.underlying T = some (.map kt et)
class TyKey (P : Program) (kt : TypeId) {κ : outParam Type} (ek : outParam (κ → Value)) [DecidableEq κ] : Prop where
  ex : ∃ d, P.underlying kt = some d ∧ (∀ a b : κ, Instr.sameNow d (ek a) (ek b) = some (decide (a = b))) ∧ (∀ a : κ, Instr.sameBits 10000 (ek a) (ek a) = true) ∧
    ∀ (e : Bool) (a : κ) (w : World), (Instr.checkKey e 10000 kt (ek a)).run P w = .ok () w
class TyZero (P : Program) (T : TypeId) (z : outParam Value) : Prop where
  ex : ∃ i, P.info? T = some i ∧ i.zero = some z
theorem bytes_beq (a b : List UInt8) : ((⟨a.toArray⟩ : ByteArray) == ⟨b.toArray⟩) = decide (a = b) := by
  show ByteArray.beq _ _ = _
  unfold ByteArray.beq
  rw [Bool.eq_iff_iff]
  simp
theorem checkKey_plain {P : Program} {kt : TypeId} {d : TypeDesc} (h : P.underlying kt = some d) (hd : (∃ k, d = .int k) ∨ d = .string) (e : Bool) (n : Nat) (v : Value) (w : World) : (Instr.checkKey e (n + 1) kt v).run P w = .ok () w := by
  unfold Instr.checkKey
  simp only [Sem.run_bind, run_underlying h, Result.andThen]
  rcases hd with ⟨k, rfl⟩ | rfl <;> rfl
theorem TyZero.of {P : Program} {T : TypeId} {z : Value} (h : (P.info? T).bind (·.zero) = some z) : TyZero P T z := by
  cases e : P.info? T with
  | none => rw [e] at h; cases h
  | some i => rw [e] at h; exact ⟨i, e, h⟩
theorem TyKey.ofS {P : Program} {kt : TypeId} (h : P.underlying kt = some .string) : TyKey P kt ekS :=
  ⟨_, h, fun a b => by simp only [Instr.sameNow, ekS, bytes_beq], fun a => by simp only [ekS]; unfold Instr.sameBits; simp only [bytes_beq, decide_true], fun e a w => checkKey_plain h (.inr rfl) e 9999 _ w⟩
theorem TyKey.ofI {P : Program} {kt : TypeId} (h : P.underlying kt = some (.int .i64)) : TyKey P kt ekI :=
  ⟨_, h, fun a b => by simp only [Instr.sameNow, ekI, if_true, Option.some.injEq]; rw [Bool.eq_iff_iff]; simp, fun a => by simp only [ekI]; unfold Instr.sameBits; simp, fun e a w => checkKey_plain h (.inl ⟨_, rfl⟩) e 9999 _ w⟩

section
variable {P : Program} {w : World} {K : KV} {K1 : Value → Prop} {I : Im} {L : Heap} {T kt et : TypeId} {κ ν : Type} [DecidableEq κ] {ek : κ → Value} {ev : ν → Value} {m : List (κ × ν)} {b : Nat}
theorem findNow_map {d : TypeDesc} (hd : ∀ a b : κ, Instr.sameNow d (ek a) (ek b) = some (decide (a = b))) (k : κ) (ev : ν → Value) : ∀ (m : List (κ × ν)) (j i : Nat),
    Instr.findNow d (ek k) ((m.zipIdx j).map fun p => (⟨ek p.1.1, ev p.1.2, p.2⟩ : MapEntry)) i = some ((m.findIdx? fun p => decide (p.1 = k)).bind fun n => (m[n]?).map fun p => (i + n, ev p.2))
  | [], j, i => rfl
  | p :: m, j, i => by
    simp only [List.zipIdx_cons, List.map_cons, Instr.findNow, hd]
    by_cases h : k = p.1
    · have h' : p.1 = k := h.symm
      simp [h, List.findIdx?_cons]
    · have h' : ¬ p.1 = k := fun e => h e.symm
      simp only [h, decide_false]
      rw [findNow_map hd k ev m (j + 1) (i + 1)]
      simp only [List.findIdx?_cons, h', decide_false, Bool.false_eq_true, if_false]
      cases m.findIdx? fun p => decide (p.1 = k) with
      | none => rfl
      | some n => simp [show ∀ x, i + 1 + x = i + (x + 1) from fun x => by omega]
theorem mget_idx (m : List (κ × ν)) (k : κ) : mget m k = (m.findIdx? fun p => decide (p.1 = k)).bind fun n => (m[n]?).map (·.2) := by
  unfold mget
  induction m with
  | nil => rfl
  | cons p m ih =>
    rw [List.find?_cons, List.findIdx?_cons]
    by_cases h : p.1 = k
    · simp [h]
    · simp only [h, decide_false, Bool.false_eq_true, if_false]
      rw [ih]
      cases m.findIdx? fun p => decide (p.1 = k) <;> simp
theorem run_getMap {es : Array MapEntry} {c : Nat} (h : w.heap[b]? = some (.map es c)) : (getObj b).run P w = .ok (.map es c) w := by simp [getObj, Sem.run, h]
theorem run_zero' {z : Value} [t : TyZero P T z] : (zeroValue T).run P w = .ok z w := by
  obtain ⟨i, h, hz⟩ := t.ex
  exact run_zero h hz
theorem findKey_run [tk : TyKey P kt ek] (k : κ) : (Instr.findKey kt (ek k) (mapEs ek ev m)).run P w = .ok ((m.findIdx? fun p => decide (p.1 = k)).bind fun n => (m[n]?).map fun p => (n, ev p.2)) w := by
  obtain ⟨d, h1, h2, h3, h4⟩ := tk.ex
  simp only [Instr.findKey, Sem.run_bind, run_underlying h1, Result.andThen, mapEs, findNow_map h2, run_pure, Nat.zero_add]
theorem lookup_run [t : TyMap P T kt et] [tk : TyKey P kt ek] {z : Value} [tz : TyZero P et z] (h : w.heap[b]? = some (MO ek ev m)) (k : κ) (c : Bool) :
    (Instr.lookup T (.map (some b)) (ek k) c).run P w = .ok (let r : Value × Bool := match mget m k with | some v => (ev v, true) | none => (z, false); if c then .tuple #[r.1, .bool r.2] else r.1) w := by
  obtain ⟨d, h1, h2, h3, h4⟩ := tk.ex
  have hg := run_getMap (P := P) (w := w) (b := b) (es := (mapEs ek ev m).toArray) (c := m.length) h
  simp only [Instr.lookup, Sem.run_bind, run_underlying t.eq, Result.andThen, hg, run_pure, h4, findKey_run]
  rw [mget_idx]
  cases hi : m.findIdx? fun p => decide (p.1 = k) with
  | none => simp [Sem.run_bind, run_zero', Result.andThen, run_pure]
  | some n =>
    have hn := List.findIdx?_eq_some_iff_getElem.1 hi
    obtain ⟨hl, _⟩ := hn
    simp [hl, run_pure]
instance lookupM {kv : Value} {k : κ} {z : Value} [t : TyMap P T kt et] [tk : TyKey P kt ek] [tz : TyZero P et z] [h : HH w I L] [o : Own L b (MO ek ev m)] [kk : KeyV ek kv k] :
    XStep (XLd P (Instr.lookup T (.map (some b)) kv false) w K1) (XOpt (mget m k) (fun v => K1 (ev v)) (K1 z)) := ⟨fun x => by
  have e := kk.eq
  subst e
  have hr := lookup_run (P := P) (T := T) (kt := kt) (et := et) (z := z) (h.own _ _ o.mem) k false
  cases x with
  | some v e a => rw [e] at hr; exact .of hr a
  | none e a => rw [e] at hr; exact .of hr a⟩
instance lookupMok {kv : Value} {k : κ} {z : Value} [t : TyMap P T kt et] [tk : TyKey P kt ek] [tz : TyZero P et z] [h : HH w I L] [o : Own L b (MO ek ev m)] [kk : KeyV ek kv k] :
    XStep (XLd P (Instr.lookup T (.map (some b)) kv true) w K1) (XOpt (mget m k) (fun v => K1 (.tuple (List.toArray [ev v, .bool true]))) (K1 (.tuple (List.toArray [z, .bool false])))) := ⟨fun x => by
  have e := kk.eq
  subst e
  have hr := lookup_run (P := P) (T := T) (kt := kt) (et := et) (z := z) (h.own _ _ o.mem) k true
  cases x with
  | some v e a => rw [e] at hr; exact .of hr a
  | none e a => rw [e] at hr; exact .of hr a⟩
/-- how maps of a type are told here -/
class MapRep (P : Program) (T : TypeId) {κ ν : outParam Type} (ek : outParam (κ → Value)) (ev : outParam (ν → Value)) : Prop where
  yes : True
instance makeMapStep [_r : MapRep P T ek ev] : XStep (XSem P (Instr.makeMap T none) w K) (XNew (MO (κ := κ) (ν := ν) ek ev []) w fun b w' => K (.map (some b)) w') := ⟨fun k => by
  refine .of ?_ k.k
  simp [Instr.makeMap, Sem.run_bind, newObj, Sem.run, Result.andThen, run_pure, MO, mapEs]⟩
theorem mapEs_set (m : List (κ × ν)) (k : κ) (v : ν) {n : Nat} (hi : (m.findIdx? fun p => decide (p.1 = k)) = some n) (hnd : (m.map (·.1)).Nodup) :
    (mapEs ek ev m).toArray.modify n (fun e => { e with key := ek k, val := ev v }) = (mapEs ek ev (m.map fun p => if p.1 = k then (p.1, v) else p)).toArray := by
  obtain ⟨hl, hk, _⟩ := List.findIdx?_eq_some_iff_getElem.1 hi
  simp only [decide_eq_true_eq] at hk
  apply Array.ext_getElem?
  intro i
  rw [Array.getElem?_modify]
  simp only [mapEs, List.getElem?_toArray, List.getElem?_map, List.getElem?_zipIdx, Nat.zero_add]
  cases hm : m[i]? with
  | none => simp
  | some p =>
    simp only [Option.map_some, Option.map_map]
    by_cases e : n = i
    · subst e
      have : p = m[n] := by rw [List.getElem?_eq_getElem hl] at hm; exact (Option.some.inj hm).symm
      subst this
      simp [hk]
    · rw [if_neg e]
      have hp : ¬ p.1 = k := by
        intro hpk
        obtain ⟨hil, hpi⟩ := List.getElem?_eq_some_iff.1 hm
        have := (List.getElem_inj (xs := m.map (·.1)) (h₀ := by simpa using hl) (h₁ := by simpa using hil) hnd).1 (by simp [hk, hpi, hpk])
        exact e this
      simp [hp]
/-- each key once -/
class MNd {κ ν : Type} (m : List (κ × ν)) : Prop where
  nd : (m.map (·.1)).Nodup
theorem mget_none {m : List (κ × ν)} {k : κ} (h : mget m k = none) : k ∉ m.map (·.1) := by
  unfold mget at h
  simp only [Option.map_eq_none_iff, List.find?_eq_none, decide_eq_true_eq] at h
  intro hk
  obtain ⟨p, hp, e⟩ := List.mem_map.1 hk
  exact h p hp e
theorem mset_nd {m : List (κ × ν)} (h : (m.map (·.1)).Nodup) (k : κ) (v : ν) : ((mset m k v).map (·.1)).Nodup := by
  unfold mset
  split
  · have : (m.map fun p => if p.1 = k then (p.1, v) else p).map (·.1) = m.map (·.1) := by
      rw [List.map_map]; congr 1; funext p; simp only [Function.comp]; split <;> rfl
    rw [this]; exact h
  · rename_i hk
    have hk : mget m k = none := by simpa using hk
    rw [List.map_append, List.nodup_append]
    refine ⟨h, by simp, ?_⟩
    intro a ha b hb
    simp only [List.map_cons, List.map_nil, List.mem_singleton] at hb
    subst hb
    rintro rfl
    exact mget_none hk ha
instance {κ ν : Type} : MNd ([] : List (κ × ν)) := ⟨List.nodup_nil⟩
instance {m : List (κ × ν)} {k : κ} {v : ν} [h : MNd m] : MNd (mset m k v) := ⟨mset_nd h.nd k v⟩
instance mapUpdateM {kv vv : Value} {k : κ} {v : ν} {L' : Heap} {K : World → Prop} [t : TyMap P T kt et] [tk : TyKey P kt ek] [h : HH w I L] [o : Own L b (MO ek ev m)] [nd : MNd m] [kk : KeyV ek kv k] [hv : ValV ev vv v] [u : Upd L b (MO ek ev (mset m k v)) L'] :
    XStep (XUnit P (Instr.mapUpdate T (.map (some b)) kv vv) w K) (∀ w', HH w' I L' → K w') := ⟨fun x => by
  have e := kk.eq
  have e2 := hv.eq
  subst e e2
  obtain ⟨d, h1, h2, h3, h4⟩ := tk.ex
  have hb := h.own _ _ o.mem
  have hg := run_getMap (P := P) (w := w) (b := b) (es := (mapEs ek ev m).toArray) (c := m.length) hb
  let w' : World := { w with heap := w.heap.setIfInBounds b (MO ek ev (mset m k v)) }
  have hset : ∀ o, (setObj b o).run P w = .ok () { w with heap := w.heap.setIfInBounds b o } := by
    intro o; simp [setObj, Sem.run, show w.heap[b]? = some (.map _ _) from hb]
  refine ⟨w', ?_, x w' (h.put u w' rfl rfl rfl rfl)⟩
  simp only [Instr.mapUpdate, Sem.run_bind, run_underlying t.eq, Result.andThen, hg, h4, findKey_run]
  cases hi : m.findIdx? fun p => decide (p.1 = k) with
  | none =>
    have hn : mget m k = none := by rw [mget_idx, hi]; rfl
    have hs : mset m k v = m ++ [(k, v)] := by unfold mset; rw [hn]; rfl
    simp only [Option.bind_none, hset]
    simp only [w', hs]
    congr 4
    · simp [mapEs, List.zipIdx_append]
    · simp
  | some n =>
    obtain ⟨hl, hk, _⟩ := List.findIdx?_eq_some_iff_getElem.1 hi
    simp only [decide_eq_true_eq] at hk
    have hn : mget m k = some m[n].2 := by rw [mget_idx, hi]; simp [hl]
    have hs : mset m k v = m.map fun p => if p.1 = k then (p.1, v) else p := by unfold mset; rw [hn]; rfl
    have hkey : (((mapEs ek ev m).toArray[n]?).map (·.key)).getD (ek k) = ek k := by
      simp [mapEs, hl, hk]
    have hst : (Instr.keyThatStays (ek k) (ek k)).run P w = .ok (ek k) w := by
      unfold Instr.keyThatStays; rw [if_pos (h3 k)]; rfl
    simp only [List.getElem?_eq_getElem hl, Option.bind_some, Option.map_some, Sem.run_bind, hkey, hst, Result.andThen, hset, mapEs_set m k v hi nd.nd]
    simp only [w', hs, MO, List.length_map]⟩
end
end Go.X
