/- The X evaluator: a way to walk the model's code by computation, and its soundness. Over any program. -/
import Derived.RangeFuncLeaves
import Derived.RangeFuncCalls
import Derived.OwnWalkIn
import Derived.WalkKit
namespace Go.X

abbrev KV := Value → World → Prop
abbrev KW := List Value → List Deferred → World → Prop
abbrev KE := Exit → KW
abbrev KC := List Value → List Deferred → World → KW → KE → Prop

def Fw (ro : Option Nat) : Fence := { Fence.wide with round := ro }

def Qof (Kn : KW) (Ke : KE) : Exit → Act → World → Prop
  | .normal, a, w => Kn a.tmps.toList a.defers w
  | .panic _, _, _ => False
  | .outgrown, _, _ => False
  | .ret, a, w => Ke .ret a.tmps.toList a.defers w
  | .exit i, a, w => Ke (.exit i) a.tmps.toList a.defers w
  | .goto l, a, w => Ke (.goto l) a.tmps.toList a.defers w

def Ret (K : KV) : Ending → World → Prop
  | .returned v, w => K v w
  | _, _ => False

def NextOk (P : Program) (ro : Option Nat) (K : KV) : Result Next → Prop
  | .ok (.value v) w => K v w
  | .ok .skip w => K undef w
  | .ok (.enter f args) w => CallsIn (Fw ro) 0 P f args w (Ret K)
  | .ok (.round l f tmps a b) w => RoundIn (Fw ro) 0 P l f tmps a b w (Ret K)
  | .ok (.row r args) w => RowsIn (Fw ro) 0 P r args w K
  | _ => False

/- the stops -/
structure XSem (P : Program) (s : Sem Value) (w : World) (K : KV) : Prop where
  ex : ∃ v w', s.run P w = .ok v w' ∧ K v w'
structure XUnit (P : Program) (s : Sem Unit) (w : World) (K : World → Prop) : Prop where
  ex : ∃ w', s.run P w = .ok () w' ∧ K w'
structure XLd (P : Program) (s : Sem Value) (w : World) (K : Value → Prop) : Prop where
  ex : ∃ v, s.run P w = .ok v w ∧ K v
structure XPur (P : Program) (s : Sem Value) (K : Value → Prop) : Prop where
  ex : ∃ v, (∀ w, s.run P w = .ok v w) ∧ K v
structure XNext (P : Program) (ro : Option Nat) (s : Sem Next) (w : World) (K : KV) : Prop where
  ok : NextOk P ro K (s.run P w)
def callSem (f : Value) (args : List Value) : Sem Next := do let d ← Deferred.ofValue f args.toArray; invoke d.target d.args
structure XCall (P : Program) (ro : Option Nat) (f : Value) (args : List Value) (w : World) (K : KV) : Prop where
  ok : NextOk P ro K ((callSem f args).run P w)
structure XFn (fn : Fn) (A : Prop) : Prop where
  ne : ∀ m, fn ≠ .method m
  k : A
inductive XIf (b : Bool) (A B : Prop) : Prop
  | t (h : b = true) (k : A)
  | f (h : b = false) (k : B)
structure XCode (P : Program) (ro : Option Nat) (c : Code) (t : List Value) (ds : List Deferred) (w : World) (Kn : KW) (Ke : KE) : Prop where
  wp : c.wpIn (Fw ro) 0 P (Qof Kn Ke) { tmps := t.toArray, defers := ds } w
structure XTake (P : Program) (r : Nat) (w : World) (K : World → Prop) : Prop where
  ex : ∃ w', (Instr.takeDeferred r).run P w = .ok [] w' ∧ K w'
inductive XBad (s : String) : Prop

/- frames, in continuation style -/
def nthK {α : Type} : List Value → Nat → (Value → α) → α
  | [], _, K => K undef
  | x :: _, 0, K => K x
  | _ :: t, n+1, K => nthK t n K
def setK {α : Type} : List Value → Nat → Value → (List Value → α) → α
  | [], _, _, K => K []
  | _ :: t, 0, v, K => K (v :: t)
  | x :: t, n+1, v, K => setK t n v (fun t' => K (x :: t'))
def evK {α : Type} (t : List Value) : Operand → (Value → α) → α
  | .tmp i, K => nthK t i K
  | .const v, K => K v
  | .global g, K => K (.pointer (some ⟨g, 0, none⟩))
  | .func f, K => K (.func (.func f) #[] #[])
def evsK {α : Type} (t : List Value) : List Operand → (List Value → α) → α
  | [], K => K []
  | x :: xs, K => evK t x fun v => evsK t xs fun vs => K (v :: vs)
def evpK {α : Type} (t : List Value) : List (Nat × Operand) → (List (Nat × Value) → α) → α
  | [], K => K []
  | (i, x) :: xs, K => evK t x fun v => evpK t xs fun vs => K ((i, v) :: vs)
def evoK {α : Type} (t : List Value) : Option Operand → (Option Value → α) → α
  | none, K => K none
  | some x, K => evK t x fun v => K (some v)
def dstK {α : Type} (t : List Value) (d : Option Nat) (v : Value) (K : List Value → α) : α :=
  match d with
  | none => K t
  | some d => setK t d v K
def dstOf : List Oper → Nat → Option Nat
  | [], _ => none
  | o :: _, 0 => o.dst
  | _ :: os, n + 1 => dstOf os n

def binOpG (op : BinOp) (T : TypeId) (x y : Operand) (a b : Value) : Sem Value := do eqGuard op T x y a b; binOp op T a b
def isC : Operand → Bool
  | .const _ => true
  | _ => false

def xop (P : Program) (ro : Option Nat) (t : List Value) (w : World) (ty : TypeId) (K : KV) : Op → Prop
  | .move x => evK t x fun v => K v w
  | .assign x => evK t x fun v => K v w
  | .pick c a b => evK t c fun c => match c with
    | .bool q => evK t a fun a => evK t b fun b => XIf q (K a w) (K b w)
    | _ => XBad "pick"
  | .load T a => evK t a fun a => XSem P (Instr.loadAt T a) w K
  | .store T a x => evK t a fun a => evK t x fun x => XUnit P (Instr.storeAt T a x) w fun w => K undef w
  | .nilCheck x => evK t x fun x => match x with
    | .pointer (some a) => K (.pointer (some a)) w
    | .func fn a b => XFn fn (K (.func fn a b) w)
    | _ => XBad "nilCheck"
  | .binOp op T x y _ => evK t x fun a => evK t y fun b => XSem P (binOpG op T x y a b) w K
  | .unOp op _ x => evK t x fun x => XSem P (Op.unary op x) w K
  | .convert S D x => evK t x fun x => XSem P (convert S D x) w K
  | .makeInterface T x => evK t x fun x => XSem P (Instr.makeInterface T x) w K
  | .fieldAddr T x f => evK t x fun x => XSem P (Instr.fieldAt T x f) w K
  | .field T x f => evK t x fun x => XSem P (Instr.field T x f) w K
  | .indexAddr T x i => evK t x fun x => evK t i fun i => XSem P (Instr.indexAt T x i) w K
  | .index T x i => evK t x fun x => evK t i fun i => XSem P (Instr.index T x i) w K
  | .slice T x lo hi mx => evK t x fun x => evoK t lo fun lo => evoK t hi fun hi => evoK t mx fun mx => XSem P (Instr.sliceAt T x lo hi mx) w K
  | .alloc e => XSem P (Instr.alloc e true (.tuple #[])) w K
  | .box e x => evK t x fun x => XSem P (Instr.box e x) w K
  | .build T ps => evpK t ps.toList fun ps => XSem P (Instr.build T ps.toArray) w K
  | .buildSlice T n ps => evpK t ps.toList fun ps => XSem P (Instr.buildSlice T n ps.toArray) w K
  | .makeFunc fn a b => evsK t a.toList fun a => evsK t b.toList fun b => K (.func fn a.toArray b.toArray) w
  | .makeMap T r => evoK t r fun r => XSem P (Instr.makeMap T r) w K
  | .makeSlice T l c => evK t l fun l => evK t c fun c => XSem P (Instr.makeSlice T l c) w K
  | .lookup T x i ok => evK t x fun x => evK t i fun i => XSem P (Instr.lookup T x i ok) w K
  | .mapUpdate T m k v => evK t m fun m => evK t k fun k => evK t v fun v => XUnit P (Instr.mapUpdate T m k v) w fun w => K undef w
  | .insert T m k v => evK t m fun m => evK t k fun k => evK t v fun v => XUnit P (Instr.mapUpdate T m k v) w fun w => K undef w
  | .mapEntry T m k => evK t m fun m => evK t k fun k => XSem P (Instr.mapEntry T m k) w K
  | .entryStore T m s v => evK t m fun m => evK t s fun s => evK t v fun v => XUnit P (Instr.entryStore T m s v) w fun w => K undef w
  | .range T x => evK t x fun x => XSem P (Instr.range T x) w K
  | .next it s => evK t it fun it => XSem P (Instr.next it s ty) w K
  | .entry it => evK t it fun it => XSem P (Instr.entry it) w K
  | .ready g => XUnit P (Instr.ready g) w fun w => K undef w
  | .waits g => XSem P (Instr.waits g) w K
  | .extract x i => evK t x fun x => XSem P (Instr.extract x i) w K
  | .call c => match c.callee with
    | .value f => evK t f fun f => evsK t c.args.toList fun as => XCall P ro f as w K
    | .invoke r m => evK t r fun r => evsK t c.args.toList fun as => XNext P ro (invoke (.fn (.method m) #[]) (#[r] ++ as.toArray)) w K
    | .builtin b => evsK t c.args.toList fun as => match b with
      | .append => XSem P (Builtin.append_ c.argTypes ty as.toArray) w K
      | .cap => XSem P (Builtin.cap_ c.argTypes ty as.toArray) w K
      | .clear => XSem P (Builtin.clear_ c.argTypes ty as.toArray) w K
      | .copy => XSem P (Builtin.copy_ c.argTypes ty as.toArray) w K
      | .delete => XSem P (Builtin.delete_ c.argTypes ty as.toArray) w K
      | .len => XSem P (Builtin.len_ c.argTypes ty as.toArray) w K
      | .max => XSem P (Builtin.max_ c.argTypes ty as.toArray) w K
      | .min => XSem P (Builtin.min_ c.argTypes ty as.toArray) w K
      | b => XNext P ro (builtin b c.argTypes ty (c.args.map fun | .const _ => true | _ => false) as.toArray) w K
  | _ => XBad "op"

noncomputable section
variable (P : Program) (ro : Option Nat)
def xopsCons (all : List Oper) (o : Oper) (_os : List Oper) (ih : KW) : KW := fun t ds w =>
    match o.guard with
    | none => xop P ro t w o.type (fun v w => dstK t o.dst v fun t => ih t ds w) o.op
    | some (j, want) =>
      match dstOf all j with
      | none => XBad "guard"
      | some s => nthK t s fun v => match v with
        | .bool b => XIf b
           (setK t s (.bool true) fun t => match want with
            | true => xop P ro t w o.type (fun v w => dstK t o.dst v fun t => ih t ds w) o.op
            | false => dstK t o.dst undef fun t => ih t ds w)
           (setK t s (.bool false) fun t => match want with
            | false => xop P ro t w o.type (fun v w => dstK t o.dst v fun t => ih t ds w) o.op
            | true => dstK t o.dst undef fun t => ih t ds w)
        | .tuple _ => dstK t o.dst undef fun t => ih t ds w
        | _ => XBad "guarded by no bool"
def xops (all : List Oper) (Kn : KW) (os : List Oper) : KW := List.rec (motive := fun _ => KW) Kn (xopsCons P ro all) os

def cSkip : KC := fun t ds w Kn _ => Kn t ds w
def cRegion (id : Nat) (ops : Array Oper) (d : Bool) : KC := fun t ds w Kn Ke => match d with
  | false => xops P ro ops.toList Kn ops.toList t ds w
  | true => XCode P ro (.region id ops true) t ds w Kn Ke
def cSeq (_ _ : Code) (a b : KC) : KC := fun t ds w Kn Ke => a t ds w (fun t ds w => b t ds w Kn Ke) Ke
def cCond (c : Operand) (x y : Code) (_ _ : KC) : KC := fun t ds w Kn Ke => XCode P ro (.cond c x y) t ds w Kn Ke
def cBlock (id : Nat) (c : Code) (_ : KC) : KC := fun t ds w Kn Ke => XCode P ro (.block id c) t ds w Kn Ke
def cLoop (c : Code) (_ : KC) : KC := fun t ds w Kn Ke => XCode P ro (.loop c) t ds w Kn Ke
def cRangeFunc (g : Operand) (ps : Array Tmp) (a b : Code) (_ _ : KC) : KC := fun t ds w Kn Ke => XCode P ro (.rangeFunc g ps a b) t ds w Kn Ke
def cExit (i : Nat) : KC := fun t ds w _ Ke => Ke (.exit i) t ds w
def cScope (c : Code) (_ : KC) : KC := fun t ds w Kn Ke => XCode P ro (.scope c) t ds w Kn Ke
def cLabel (_ : Nat) : KC := fun t ds w Kn _ => Kn t ds w
def cGoto (l : Nat) : KC := fun t ds w _ Ke => Ke (.goto l) t ds w
def cRet : KC := fun t ds w _ Ke => Ke .ret t ds w
def cRefuse (_ : String) : KC := fun _ _ _ _ _ => XBad "refuse"
def xcode (c : Code) : KC :=
  Code.rec (motive := fun _ => KC) cSkip (cRegion P ro) cSeq (cCond P ro) (cBlock P ro) (cLoop P ro) (cRangeFunc P ro) cExit (cScope P ro) cLabel cGoto cRet cRefuse c
end

/- a function: its results, its way out -/
def resK (P : Program) (t : List Value) (w : World) : List ResultVar → (List Value → Prop) → Prop
  | [], K => K []
  | .tmp i :: rs, K => nthK t i fun v => resK P t w rs fun vs => K (v :: vs)
  | .cell a T :: rs, K => nthK t a fun a => match a with
    | .pointer (some p) => XLd P (loadVar T p) w fun v => resK P t w rs fun vs => K (v :: vs)
    | _ => XBad "result"
def retV : List Value → Value
  | [v] => v
  | vs => .tuple vs.toArray
def outK (P : Program) (rs : List ResultVar) (K : KV) (t : List Value) : List Deferred → World → Prop
  | [], w => resK P t w rs fun vs => K (retV vs) w
  | d :: ds, w => match d.target with
    | .collected r => XTake P r w fun w => outK P rs K t ds w
    | _ => XBad "defer"
def outE (P : Program) (rs : List ResultVar) (K : KV) : KE := fun e t ds w => match e with
  | .ret => outK P rs K t ds w
  | _ => XBad "exit"
noncomputable def xfun (P : Program) (fn : Func) (args : List Value) (w : World) (K : KV) : Prop :=
  match fn.body with
  | some c => xcode P none c (args ++ List.replicate (fn.ntmps - args.length) undef) [] w (fun t ds w => outK P fn.results.toList K t ds w) (outE P fn.results.toList K)
  | none => XBad "no body"

/-! ### Soundness -/

theorem nthK_eq {α : Type} (t : List Value) (i : Nat) (K : Value → α) : nthK t i K = K (t.toArray.getD i undef) := by
  induction t generalizing i with
  | nil => simp [nthK]
  | cons x t ih =>
    cases i with
    | zero => simp [nthK]
    | succ i => rw [nthK, ih]; congr 1; simp [Array.getD]

theorem setK_eq {α : Type} (t : List Value) (i : Nat) (v : Value) (K : List Value → α) : setK t i v K = K (t.set i v) := by
  induction t generalizing i K with
  | nil => simp [setK]
  | cons x t ih =>
    cases i with
    | zero => simp [setK]
    | succ i => rw [setK, ih]; simp

theorem evK_eq {α : Type} (t : List Value) (ds : List Deferred) (x : Operand) (K : Value → α) :
    evK t x K = K (({ tmps := t.toArray, defers := ds } : Act).eval x) := by
  cases x <;> simp [evK, Act.eval, nthK_eq]

theorem evsK_eq {α : Type} (t : List Value) (ds : List Deferred) (l : List Operand) (K : List Value → α) :
    evsK t l K = K (l.map (({ tmps := t.toArray, defers := ds } : Act).eval)) := by
  induction l generalizing K with
  | nil => simp [evsK]
  | cons x l ih => rw [evsK, evK_eq t ds, ih]; simp

theorem evpK_eq {α : Type} (t : List Value) (ds : List Deferred) (l : List (Nat × Operand)) (K : List (Nat × Value) → α) :
    evpK t l K = K (l.map fun p => (p.1, ({ tmps := t.toArray, defers := ds } : Act).eval p.2)) := by
  induction l generalizing K with
  | nil => simp [evpK]
  | cons x l ih => obtain ⟨i, x⟩ := x; rw [evpK, evK_eq t ds, ih]; simp

theorem evoK_eq {α : Type} (t : List Value) (ds : List Deferred) (x : Option Operand) (K : Option Value → α) :
    evoK t x K = K (x.map (({ tmps := t.toArray, defers := ds } : Act).eval)) := by
  cases x with
  | none => rfl
  | some x => rw [evoK, evK_eq t ds]; rfl

theorem dstK_eq {α : Type} (t : List Value) (ds : List Deferred) (d : Option Nat) (v : Value) (K : List Value → α) :
    dstK t d v K = K ((({ tmps := t.toArray, defers := ds } : Act).put d v).tmps.toList) := by
  cases d with
  | none => simp [dstK, Act.put]
  | some d => simp [dstK, setK_eq, Act.put]

theorem put_mk (t : List Value) (ds : List Deferred) (d : Option Nat) (v : Value) :
    ({ tmps := (({ tmps := t.toArray, defers := ds } : Act).put d v).tmps.toList.toArray, defers := ds } : Act) = ({ tmps := t.toArray, defers := ds } : Act).put d v := by
  cases d <;> simp [Act.put]

theorem nextOk_of_sem {P : Program} {ro : Option Nat} {s : Sem Value} {w : World} {K : KV} (h : XSem P s w K) :
    NextOk P ro K ((do pure (Next.value (← s)) : Sem Next).run P w) := by
  obtain ⟨v, w', hr, hk⟩ := h.ex
  simp [Sem.run_bind, hr, Result.andThen, NextOk, Sem.run, pure, hk]

theorem nextOk_of_unit {P : Program} {ro : Option Nat} {s : Sem Unit} {w : World} {K : KV} (h : XUnit P s w fun w => K undef w) :
    NextOk P ro K ((do s; pure Next.skip : Sem Next).run P w) := by
  obtain ⟨w', hr, hk⟩ := h.ex
  simp [Sem.run_bind, hr, Result.andThen, NextOk, Sem.run, pure, hk]

theorem nextOk_value {P : Program} {ro : Option Nat} {v : Value} {w : World} {K : KV} (h : K v w) :
    NextOk P ro K ((pure (Next.value v) : Sem Next).run P w) := h

theorem xop_ok {P : Program} {ro : Option Nat} (t : List Value) (ds : List Deferred) (w : World) (K : KV) (o : Oper) (h : xop P ro t w o.type K o.op) :
    NextOk P ro K ((execOp (({ tmps := t.toArray, defers := ds } : Act).eval) o).run P w) := by
  obtain ⟨dst, op, type, pos, after, guard⟩ := o
  dsimp only at h
  cases op <;> simp only [xop, evK_eq t ds, evsK_eq t ds, evpK_eq t ds, evoK_eq t ds] at h <;> dsimp only [execOp]
  case move => exact h
  case assign => exact h
  case pick c a b =>
    split at h
    · rename_i q hq
      rw [hq]
      rcases h with ⟨rfl, h⟩ | ⟨rfl, h⟩ <;> simpa [asBool, Sem.run_bind, Result.andThen, Sem.run, pure, NextOk] using h
    · cases h
  case nilCheck x =>
    split at h
    · rename_i a ha
      rw [ha]; exact h
    · rename_i fn a b ha
      rw [ha]
      obtain ⟨hne, h⟩ := h
      cases fn with
      | method m => exact absurd rfl (hne m)
      | _ => exact h
    · cases h
  case load => exact nextOk_of_sem h
  case store => exact nextOk_of_unit h
  case binOp => exact nextOk_of_sem h
  case unOp => exact nextOk_of_sem h
  case convert => exact nextOk_of_sem h
  case makeInterface => exact nextOk_of_sem h
  case fieldAddr => exact nextOk_of_sem h
  case field => exact nextOk_of_sem h
  case indexAddr => exact nextOk_of_sem h
  case index => exact nextOk_of_sem h
  case slice => exact nextOk_of_sem h
  case alloc => exact nextOk_of_sem h
  case box => exact nextOk_of_sem h
  case build T ps =>
    have e : (List.map (fun p => (p.1, ({ tmps := t.toArray, defers := ds } : Act).eval p.2)) ps.toList).toArray = ps.map (fun (i, x) => (i, ({ tmps := t.toArray, defers := ds } : Act).eval x)) := by
      apply Array.ext'; simp
    rw [e] at h; exact nextOk_of_sem h
  case buildSlice T n ps =>
    have e : (List.map (fun p => (p.1, ({ tmps := t.toArray, defers := ds } : Act).eval p.2)) ps.toList).toArray = ps.map (fun (i, x) => (i, ({ tmps := t.toArray, defers := ds } : Act).eval x)) := by
      apply Array.ext'; simp
    rw [e] at h; exact nextOk_of_sem h
  case makeFunc fn a b =>
    have e (a : Array Operand) : (List.map (({ tmps := t.toArray, defers := ds } : Act).eval) a.toList).toArray = a.map (({ tmps := t.toArray, defers := ds } : Act).eval) := by
      apply Array.ext'; simp
    rw [e, e] at h; exact h
  case makeMap => exact nextOk_of_sem h
  case makeSlice => exact nextOk_of_sem h
  case lookup => exact nextOk_of_sem h
  case mapUpdate => exact nextOk_of_unit h
  case insert => exact nextOk_of_unit h
  case mapEntry => exact nextOk_of_sem h
  case entryStore => exact nextOk_of_unit h
  case range => exact nextOk_of_sem h
  case next => exact nextOk_of_sem h
  case entry => exact nextOk_of_sem h
  case ready => exact nextOk_of_unit h
  case waits => exact nextOk_of_sem h
  case extract => exact nextOk_of_sem h
  case call c =>
    obtain ⟨callee, args, argTypes⟩ := c
    have e (a : Array Operand) : (List.map (({ tmps := t.toArray, defers := ds } : Act).eval) a.toList).toArray = a.map (({ tmps := t.toArray, defers := ds } : Act).eval) := by
      apply Array.ext'; simp
    cases callee with
    | value f =>
      have h := h.ok
      dsimp only [callSem] at h
      rw [e] at h
      exact h
    | invoke r m =>
      have h := h.ok
      rw [e] at h
      exact h
    | builtin b =>
      dsimp only at h
      cases b <;> dsimp only at h <;> rw [e] at h <;> first | exact nextOk_of_sem h | exact h.ok
  all_goals exact (nomatch h)

theorem xop_wp {P : Program} {ro : Option Nat} {t : List Value} {ds : List Deferred} {w : World} {K : KV} {o : Oper} {next : Act → World → Prop} {Q : Exit → Act → World → Prop}
    (h : xop P ro t w o.type K o.op) (hk : ∀ v w', K v w' → next (({ tmps := t.toArray, defers := ds } : Act).put o.dst v) w') :
    o.wpIn (Fw ro) 0 P { tmps := t.toArray, defers := ds } w next Q := by
  refine ⟨fun _ _ => trivial, ?_⟩
  have hnd : ∀ c, o.op ≠ .defer c := by
    intro c hc; rw [hc] at h; exact nomatch h
  rw [Oper.semAt_eq _ _ _ hnd]
  have h := xop_ok t ds w K o h
  generalize (execOp (({ tmps := t.toArray, defers := ds } : Act).eval) o).run P w = r at h
  unfold NextOk at h
  split at h
  · exact hk _ _ h
  · exact hk _ _ h
  · refine ⟨fun hd => by simp [Fw, Fence.wide] at hd, CallsIn.mono h ?_⟩
    intro e w' he
    cases e with
    | returned v => exact hk _ _ he
    | panicked c => exact he.elim
    | outgrown => exact he.elim
  · refine ⟨fun hd => by simp [Fw, Fence.wide] at hd, RoundIn.mono h ?_⟩
    intro e w' he
    cases e with
    | returned v => exact hk _ _ he
    | panicked c => exact he.elim
    | outgrown => exact he.elim
  · exact ⟨fun hd => by simp [Fw, Fence.wide] at hd, RowsIn.mono h fun v w' hv => hk _ _ hv⟩
  · exact h.elim

theorem dstOf_eq (all : Array Oper) (j : Nat) : dstOf all.toList j = (all[j]?).bind (·.dst) := by
  obtain ⟨l⟩ := all
  simp only [List.getElem?_toArray]
  induction l generalizing j with
  | nil => simp [dstOf]
  | cons o l ih => cases j with
    | zero => simp [dstOf]
    | succ j => simp [dstOf, ih]

theorem set_same (t : List Value) (s : Nat) (v : Value) (h : t.toArray.getD s undef = v) : t.set s v = t := by
  by_cases hs : s < t.length
  · apply List.ext_getElem (by simp)
    intro i h1 h2
    rw [List.getElem_set]
    split
    · rename_i e; subst e; simp [Array.getD, hs] at h; exact h.symm
    · rfl
  · exact List.set_eq_of_length_le (by omega)

theorem xops_wp {P : Program} {ro : Option Nat} {all : Array Oper} {Kn : KW} {Q : Exit → Act → World → Prop} (hQ : ∀ t ds w, Kn t ds w → Q .normal { tmps := t.toArray, defers := ds } w) :
    ∀ (os : List Oper) (k : Nat), all.toList.drop k = os → ∀ (t : List Value) (ds : List Deferred) (w : World), xops P ro all.toList Kn os t ds w →
      wpOpsIn (Fw ro) 0 P all Q (List.range' k os.length) { tmps := t.toArray, defers := ds } w := by
  intro os
  induction os with
  | nil => intro k _ t ds w h; exact hQ _ _ _ h
  | cons o os ih =>
    intro k hk t ds w h
    have hget : all[k]? = some o := by
      have : (all.toList.drop k)[0]? = some o := by rw [hk]; rfl
      rw [List.getElem?_drop] at this
      simpa using this
    have hk' : all.toList.drop (k + 1) = os := by
      have := congrArg List.tail hk
      simpa [List.tail_drop] using this
    have hi := ih (k + 1) hk'
    have h : xopsCons P ro all.toList o os (xops P ro all.toList Kn os) t ds w := h
    rw [List.length_cons, List.range'_succ]
    simp only [wpOpsIn, hget]
    have hrun : ∀ t : List Value, xop P ro t w o.type (fun v w => dstK t o.dst v fun t => xops P ro all.toList Kn os t ds w) o.op →
        o.wpIn (Fw ro) 0 P { tmps := t.toArray, defers := ds } w (wpOpsIn (Fw ro) 0 P all Q (List.range' (k + 1) os.length)) Q := by
      intro t hx
      refine xop_wp hx ?_
      intro v w' hv
      rw [dstK_eq t ds] at hv
      have := hi _ _ _ hv
      rw [put_mk] at this
      exact this
    have hskip : ∀ t : List Value, (dstK t o.dst undef fun t => xops P ro all.toList Kn os t ds w) →
        (∀ f, o.about P w (({ tmps := t.toArray, defers := ds } : Act).eval) = some f → (Fw ro).fn f) ∧ wpOpsIn (Fw ro) 0 P all Q (List.range' (k + 1) os.length) (({ tmps := t.toArray, defers := ds } : Act).put o.dst undef) w := by
      intro t hv
      refine ⟨fun _ _ => trivial, ?_⟩
      rw [dstK_eq t ds] at hv
      have := hi _ _ _ hv
      rw [put_mk] at this
      exact this
    unfold xopsCons at h
    split at h
    · rename_i hg
      simp only [Region.wanted, hg, if_true]
      exact hrun t h
    · rename_i j want hg
      split at h
      · exact nomatch h
      · rename_i s hs
        rw [dstOf_eq] at hs
        simp only [nthK_eq, setK_eq] at h
        split at h
        · rename_i b hb
          have hlt : s < t.length := by
            apply Classical.byContradiction; intro hn
            simp [Array.getD, hn, undef] at hb
          have hy : yielded all t.toArray j = some b := by
            simp only [yielded, hs, Option.bind_some]
            have : t.toArray[s]? = some (.bool b) := by
              simp [Array.getD, hlt] at hb ⊢; exact hb
            rw [this]
          simp only [Region.wanted, hg, hy]
          rcases h with ⟨rfl, h⟩ | ⟨rfl, h⟩
          · rw [set_same t s _ hb] at h
            cases want with
            | true => simpa using hrun t h
            | false => simpa using hskip t h
          · rw [set_same t s _ hb] at h
            cases want with
            | true => simpa using hskip t h
            | false => simpa using hrun t h
        · rename_i vs hb
          have hy : yielded all t.toArray j = none := by
            simp only [yielded, hs, Option.bind_some]
            by_cases hlt : s < t.length
            · have : t.toArray[s]? = some (.tuple vs) := by
                simp [Array.getD, hlt] at hb ⊢; exact hb
              rw [this]
            · have : t.toArray[s]? = none := by simp; omega
              rw [this]
          simp only [Region.wanted, hg, hy]
          simpa using hskip t h
        · exact nomatch h

theorem xcode_sound {P : Program} {ro : Option Nat} (c : Code) : ∀ (t : List Value) (ds : List Deferred) (w : World) (Kn : KW) (Ke : KE), xcode P ro c t ds w Kn Ke →
    c.wpIn (Fw ro) 0 P (Qof Kn Ke) { tmps := t.toArray, defers := ds } w := by
  induction c with
  | skip => intro t ds w Kn Ke h; exact wpIn_skip h
  | region id ops d =>
    intro t ds w Kn Ke h
    cases d with
    | true => exact XCode.wp h
    | false =>
      have h : xops P ro ops.toList Kn ops.toList t ds w := h
      refine wpIn_region ?_
      have := xops_wp (all := ops) (Q := Qof Kn Ke) (fun t ds w h => h) ops.toList 0 (by simp) t ds w h
      rw [List.range_eq_range']
      simpa using this
  | seq a b iha ihb =>
    intro t ds w Kn Ke h
    have h : xcode P ro a t ds w (fun t ds w => xcode P ro b t ds w Kn Ke) Ke := h
    refine wpIn_seq (wpIn_mono (iha _ _ _ _ _ h) ?_)
    intro e a w he
    cases e with
    | normal => exact ihb _ _ _ _ _ he
    | _ => exact he
  | cond => intro t ds w Kn Ke h; exact XCode.wp h
  | block => intro t ds w Kn Ke h; exact XCode.wp h
  | loop c => intro t ds w Kn Ke h; exact XCode.wp h
  | rangeFunc => intro t ds w Kn Ke h; exact XCode.wp h
  | exit i => intro t ds w Kn Ke h; exact wpIn_exit h
  | scope => intro t ds w Kn Ke h; exact XCode.wp h
  | label => intro t ds w Kn Ke h; exact wpIn_label h
  | goto l => intro t ds w Kn Ke h; exact wpIn_goto h
  | ret => intro t ds w Kn Ke h; exact wpIn_ret h
  | refuse => intro t ds w Kn Ke h; exact nomatch h

/-- an 'if' -/
theorem XCode.cond {P : Program} {ro : Option Nat} {c : Operand} {x y : Code} {t : List Value} {ds : List Deferred} {w : World} {Kn : KW} {Ke : KE}
    (h : evK t c fun v => match v with
      | .bool q => XIf q (xcode P ro x t ds w Kn Ke) (xcode P ro y t ds w Kn Ke)
      | _ => XBad "cond") : XCode P ro (.cond c x y) t ds w Kn Ke := by
  refine ⟨?_⟩
  rw [evK_eq t ds] at h
  split at h
  · rename_i q hq
    rcases h with ⟨rfl, h'⟩ | ⟨rfl, h'⟩
    · exact wpIn_cond_true hq (xcode_sound x _ _ _ _ _ h')
    · exact wpIn_cond_false hq (xcode_sound y _ _ _ _ _ h')
  · exact nomatch h
/-- a block: its own exits lead behind it -/
def blockE (id : Nat) (Kn : KW) (Ke : KE) : KE := fun e t ds w => match e with
  | .exit i => match Nat.beq i id with | true => Kn t ds w | false => Ke (.exit i) t ds w
  | e => Ke e t ds w
theorem XCode.block {P : Program} {ro : Option Nat} {id : Nat} {c : Code} {t : List Value} {ds : List Deferred} {w : World} {Kn : KW} {Ke : KE}
    (h : xcode P ro c t ds w Kn (blockE id Kn Ke)) : XCode P ro (.block id c) t ds w Kn Ke := by
  refine ⟨wpIn_block (wpIn_mono (xcode_sound c _ _ _ _ _ h) ?_)⟩
  intro e a w he
  cases e with
  | normal => exact he
  | exit i =>
    simp only [Qof, blockE] at he
    simp only [Exit.inBlock]
    split at he
    · rename_i hb; rw [if_pos (Nat.eq_of_beq_eq_true hb)]; exact he
    · rename_i hb; rw [if_neg (Nat.ne_of_beq_eq_false hb)]; exact he
  | _ => exact he
/-- what is behind a piece of code is asked of an assertion alone -/
theorem XCode.cut {P : Program} {ro : Option Nat} {c : Code} {t : List Value} {ds : List Deferred} {w : World} {Kn R : KW} {Ke : KE}
    (h : XCode P ro c t ds w R Ke) (hR : ∀ t ds w, R t ds w → Kn t ds w) : XCode P ro c t ds w Kn Ke := by
  refine ⟨wpIn_mono h.wp ?_⟩
  intro e a w he
  cases e with
  | normal => exact hR _ _ _ he
  | _ => exact he
theorem XCode.loop {P : Program} {ro : Option Nat} {c : Code} {t : List Value} {ds : List Deferred} {w : World} {Kn : KW} {Ke : KE} (Inv : KW) (mu : List Value → World → Nat) (h0 : Inv t ds w)
    (step : ∀ t ds w, Inv t ds w → xcode P ro c t ds w (fun t' ds' w' => Inv t' ds' w' ∧ mu t' w' < mu t w) Ke) : XCode P ro (.loop c) t ds w Kn Ke := by
  refine ⟨wpIn_loop (fun a w => Inv a.tmps.toList a.defers w) (fun a w => mu a.tmps.toList w) (by simpa using h0) ?_⟩
  intro a w hi
  have := xcode_sound c _ _ _ _ _ (step _ _ _ hi)
  refine wpIn_mono this ?_
  intro e a' w' he
  cases e <;> exact he
/-! frames of which some slots are told -/
def fits : List (Option Value) → List Value → Prop
  | [], [] => True
  | some v :: s, x :: t => x = v ∧ fits s t
  | none :: s, _ :: t => fits s t
  | _, _ => False
def allFrCons (o : Option Value) (_ : List (Option Value)) (ih : (List Value → Prop) → Prop) : (List Value → Prop) → Prop := fun K =>
  match o with
  | some v => ih fun t => K (v :: t)
  | none => ∀ j, ih fun t => K (j :: t)
noncomputable def allFr (s : List (Option Value)) : (List Value → Prop) → Prop := List.rec (motive := fun _ => (List Value → Prop) → Prop) (fun K => K []) allFrCons s
theorem allFr_fits {s : List (Option Value)} {K : List Value → Prop} (h : allFr s K) : ∀ t, fits s t → K t := by
  induction s generalizing K with
  | nil => intro t ht; cases t with
    | nil => exact h
    | cons x t => exact ht.elim
  | cons v s ih =>
    intro t ht
    cases t with
    | nil => cases v <;> exact ht.elim
    | cons x t =>
      cases v with
      | none => exact ih (h x) t ht
      | some v => obtain ⟨rfl, ht⟩ := ht; exact ih h t ht
/-- a loop: ghost states s, what the slots hold, what else is known; the measure falls -/
theorem XCode.loopG {σ : Type} {P : Program} {ro : Option Nat} {c : Code} {t : List Value} {ds : List Deferred} {w : World} {Kn : KW} {Ke : KE}
    (spec : σ → List (Option Value)) (F : σ → World → Prop) (mu : σ → Nat) (s0 : σ) (h0 : fits (spec s0) t) (hF : F s0 w)
    (step : ∀ s w, F s w → allFr (spec s) fun t => xcode P ro c t ds w (fun t' ds' w' => ∃ s', ds' = ds ∧ fits (spec s') t' ∧ F s' w' ∧ mu s' < mu s) Ke) : XCode P ro (.loop c) t ds w Kn Ke := by
  let Ok (a : Act) (w : World) (n : Nat) : Prop := ∃ s, mu s = n ∧ a.defers = ds ∧ fits (spec s) a.tmps.toList ∧ F s w
  have least : ∀ a w n, Ok a w n → ∃ m, Ok a w m ∧ ∀ i, Ok a w i → m ≤ i := by
    intro a w n
    induction n using Nat.strongRecOn with
    | _ n ih =>
      intro hn
      by_cases hl : ∃ i, i < n ∧ Ok a w i
      · obtain ⟨i, hi, hok⟩ := hl; exact ih i hi hok
      · refine ⟨n, hn, fun i hi => ?_⟩
        apply Nat.le_of_not_lt
        intro hlt; exact hl ⟨i, hlt, hi⟩
  let I (a : Act) (w : World) : Prop := ∃ n, Ok a w n
  let μ (a : Act) (w : World) : Nat := Classical.epsilon fun m => Ok a w m ∧ ∀ i, Ok a w i → m ≤ i
  have hμ : ∀ a w, I a w → Ok a w (μ a w) ∧ ∀ i, Ok a w i → μ a w ≤ i := by
    rintro a w ⟨n, hn⟩
    exact Classical.epsilon_spec (least a w n hn)
  refine ⟨wpIn_loop I μ ⟨_, s0, rfl, rfl, by simpa using h0, hF⟩ ?_⟩
  intro a w hi
  obtain ⟨⟨s, hs, hd, hm, hf⟩, _⟩ := hμ a w hi
  have hx := xcode_sound c _ _ _ _ _ (allFr_fits (step s w hf) a.tmps.toList hm)
  have ea : ({ tmps := a.tmps.toList.toArray, defers := ds } : Act) = a := by rw [← hd]
  rw [ea] at hx
  refine wpIn_mono hx ?_
  intro e a' w' he
  cases e with
  | normal =>
    obtain ⟨s', hd', hm', hf', hlt⟩ := he
    have hi' : I a' w' := ⟨mu s', s', rfl, hd', hm', hf'⟩
    exact ⟨hi', Nat.lt_of_le_of_lt ((hμ a' w' hi').2 _ ⟨s', rfl, hd', hm', hf'⟩) (hs ▸ hlt)⟩
  | _ => exact he
/-- a cut, in the same form -/
theorem XCode.cutG {σ : Type} {P : Program} {ro : Option Nat} {c : Code} {t : List Value} {ds : List Deferred} {w : World} {Kn : KW} {Ke : KE}
    (spec : σ → List (Option Value)) (F : σ → World → Prop)
    (h : XCode P ro c t ds w (fun t' ds' w' => ∃ s, ds' = ds ∧ fits (spec s) t' ∧ F s w') Ke) (k : ∀ s w, F s w → allFr (spec s) fun t => Kn t ds w) : XCode P ro c t ds w Kn Ke := by
  refine h.cut ?_
  rintro t ds w ⟨s, rfl, hm, hf⟩
  exact allFr_fits (k s w hf) t hm

def resStep (t : Array Value) : ResultVar → Sem Value
  | .tmp i => pure (t.getD i undef)
  | .cell a T => do loadVar T (← asAddr (t.getD a undef))

theorem resStep_tmp {P : Program} (t : Array Value) (i : Tmp) (w : World) : (resStep t (.tmp i)).run P w = .ok (t.getD i undef) w := rfl
theorem resStep_cell {P : Program} (t : Array Value) (a : Tmp) (T : TypeId) (w : World) (p : Addr) (h : t.getD a undef = .pointer (some p)) :
    (resStep t (.cell a T)).run P w = (loadVar T p).run P w := by
  simp [resStep, h, asAddr, Sem.run_bind, Result.andThen, pure]

theorem resK_run {P : Program} (t : List Value) (w : World) (K : List Value → Prop) (rs : List ResultVar) : ∀ (acc : List Value), (resK P t w rs fun vs => K (acc ++ vs)) →
    ∃ vs, (List.mapM (resStep t.toArray) rs).run P w = Result.ok vs w ∧ K (acc ++ vs) := by
  induction rs with
  | nil => intro acc h; exact ⟨[], rfl, h⟩
  | cons r rs ih =>
    intro acc h
    cases r with
    | tmp i =>
      simp only [resK, nthK_eq] at h
      obtain ⟨vs, hr, hk⟩ := ih (acc ++ [t.toArray.getD i undef]) (by simpa using h)
      refine ⟨t.toArray.getD i undef :: vs, ?_, by simpa using hk⟩
      simp only [List.mapM_cons, Sem.run_bind, resStep_tmp, Result.andThen, hr]
      rfl
    | cell a T =>
      simp only [resK, nthK_eq] at h
      split at h
      · rename_i p hp
        obtain ⟨v, hv, h⟩ := h.ex
        obtain ⟨vs, hr, hk⟩ := ih (acc ++ [v]) (by simpa using h)
        refine ⟨v :: vs, ?_, by simpa using hk⟩
        simp only [List.mapM_cons, Sem.run_bind, resStep_cell _ _ _ _ _ hp, hv, Result.andThen, hr]
        rfl
      · exact nomatch h

theorem results_eq (fn : Func) (t : Array Value) :
    results fn t = (fn.results.mapM (resStep t) >>= fun vs => pure (if h : vs.size = 1 then vs[0] else .tuple vs)) := by
  unfold results
  first
    | rfl
    | (congr 1; congr 1; funext r; cases r <;> rfl)

theorem resK_results {P : Program} (fn : Func) (t : List Value) (w : World) (K : KV) (h : resK P t w fn.results.toList fun vs => K (retV vs) w) :
    ∃ v, (results fn t.toArray).run P w = .ok v w ∧ K v w := by
  obtain ⟨vs, hr, hk⟩ := resK_run t w (fun vs => K (retV vs) w) fn.results.toList [] (by simpa using h)
  refine ⟨retV vs, ?_, by simpa using hk⟩
  rw [results_eq, Array.mapM_eq_mapM_toList]
  simp only [Sem.run_bind, Sem.run_map, hr, Result.andThen]
  show Result.ok _ w = _
  congr 1
  match vs with
  | [] => rfl
  | [v] => rfl
  | v :: u :: vs => simp [retV]

theorem outK_leaves {P : Program} (fn : Func) (K : KV) (t : List Value) : ∀ (ds : List Deferred) (w : World), outK P fn.results.toList K t ds w →
    LeavesInM (Fw none) 0 P fn t.toArray (Ret K) ds .returning w := by
  intro ds
  induction ds with
  | nil =>
    intro w h
    exact resK_results fn t w K h
  | cons d ds ih =>
    intro w h
    unfold outK at h
    split at h
    · rename_i r hr
      obtain ⟨w', hw, h⟩ := h.ex
      exact ⟨by simp, .inl ⟨r, w', hr, hw, ih w' h⟩⟩
    · exact nomatch h

theorem callsIn_of_x {P : Program} {ro : Option Nat} {f : FuncId} {fn : Func} {args : List Value} {w : World} {K : KV} (hf : P.funcs[f]? = some fn)
    (h : xfun P fn args w K) : CallsIn (Fw ro) 0 P f args.toArray w (Ret K) := by
  have h0 : CallsIn (Fw none) 0 P f args.toArray w (Ret K) := by
    unfold xfun at h
    split at h
    · rename_i c hc
      refine callsIn_of_wp_marks hf hc trivial ?_
      have h := xcode_sound c _ _ _ _ _ h
      have e : args.toArray ++ Array.replicate (fn.ntmps - args.toArray.size) undef = (args ++ List.replicate (fn.ntmps - args.length) undef).toArray := by
        apply Array.ext'; simp
      rw [e]
      refine wpIn_mono h ?_
      intro e a w he
      cases e with
      | normal => exact outK_leaves fn K a.tmps.toList a.defers w he
      | ret => exact outK_leaves fn K a.tmps.toList a.defers w he
      | panic => exact he.elim
      | outgrown => exact he.elim
      | exit i => exact nomatch he
      | goto l => exact nomatch he
    · exact nomatch h
  cases ro with
  | none => exact h0
  | some l => exact CallsIn.inRound l h0
#print axioms callsIn_of_x
end Go.X

/- The X evaluator's memory: what is known of blocks (HH), and the rules for memory, numbers, texts. -/
namespace Go.X

/-! ### What is known of the memory: immutable blocks, and blocks of our own -/
structure Im where
  at_ : Nat → Option Obj
  os : Os
  tape : Nat → Question → Nat
  output : Array (Nat × ByteArray)
abbrev Heap := List (Nat × Obj)
abbrev oc (cs : List Value) (T : TypeId) : Obj := .cells cs.toArray T (0, 0)

class HH (w : World) (I : outParam Im) (L : outParam Heap) : Prop where
  imm : ∀ b o, I.at_ b = some o → w.heap[b]? = some o
  own : ∀ b o, (b, o) ∈ L → w.heap[b]? = some o
  disj : ∀ b o, (b, o) ∈ L → I.at_ b = none
  nodup : (L.map (·.1)).Nodup
  os : w.os = I.os
  tape : w.tape = I.tape
  output : w.output = I.output

class Im.Le (I : outParam Im) (I' : Im) : Prop where
  at_ : ∀ b o, I.at_ b = some o → I'.at_ b = some o
  os : I'.os = I.os
  tape : I'.tape = I.tape
  output : I'.output = I.output
theorem Im.Le.refl (I : Im) : I.Le I := ⟨fun _ _ h => h, rfl, rfl, rfl⟩
theorem Im.Le.trans {I J K : Im} (h : I.Le J) (k : J.Le K) : I.Le K := ⟨fun b o hb => k.at_ b o (h.at_ b o hb), k.os.trans h.os, k.tape.trans h.tape, k.output.trans h.output⟩

/-- a block of our own is in the list -/
class Own (L : Heap) (b : Nat) (o : outParam Obj) : Prop where
  mem : (b, o) ∈ L
instance (priority := high) Own.head {b : Nat} {o : Obj} {L : Heap} : Own ((b, o) :: L) b o := ⟨List.mem_cons_self ..⟩
instance Own.tail {b : Nat} {o : Obj} {x : Nat × Obj} {L : Heap} [h : Own L b o] : Own (x :: L) b o := ⟨List.mem_cons_of_mem _ h.mem⟩
instance Own.app {b : Nat} {o : Obj} {E L : Heap} [h : Own L b o] : Own (E ++ L) b o := ⟨List.mem_append_right _ h.mem⟩
/-- .. and another thing lies in it -/
class Upd (L : Heap) (b : Nat) (o' : Obj) (L' : outParam Heap) : Prop where
  ex : ∃ A o B, L = A ++ (b, o) :: B ∧ L' = A ++ (b, o') :: B
instance (priority := high) Upd.head {b : Nat} {o o' : Obj} {L : Heap} : Upd ((b, o) :: L) b o' ((b, o') :: L) := ⟨[], o, L, rfl, rfl⟩
instance Upd.tail {b : Nat} {o' : Obj} {x : Nat × Obj} {L L' : Heap} [h : Upd L b o' L'] : Upd (x :: L) b o' (x :: L') :=
  let ⟨A, o, B, h1, h2⟩ := h.ex; ⟨x :: A, o, B, by rw [h1]; rfl, by rw [h2]; rfl⟩
instance Upd.app {b : Nat} {o' : Obj} {E L L' : Heap} [h : Upd L b o' L'] : Upd (E ++ L) b o' (E ++ L') :=
  let ⟨A, o, B, h1, h2⟩ := h.ex; ⟨E ++ A, o, B, by rw [h1]; simp, by rw [h2]; simp⟩
/-- an immutable block -/
class Imm (I : Im) (b : Nat) (o : outParam Obj) : Prop where
  eq : I.at_ b = some o
theorem Imm.mono {I I' : Im} {b : Nat} {o : Obj} (h : Imm I b o) (hl : I.Le I') : Imm I' b o := ⟨hl.at_ _ _ h.eq⟩
instance (priority := low) Imm.lift {I I' : Im} {b : Nat} {o : Obj} [hl : I.Le I'] [h : Imm I b o] : Imm I' b o := h.mono hl

section
variable {w : World} {I : Im} {L : Heap}
theorem HH.lt (h : HH w I L) {b : Nat} {o : Obj} (hm : (b, o) ∈ L) : b < w.heap.size := by
  have := h.own b o hm
  exact (Array.getElem?_eq_some_iff.1 this).1
theorem HH.ltImm (h : HH w I L) {b : Nat} {o : Obj} (hm : I.at_ b = some o) : b < w.heap.size :=
  (Array.getElem?_eq_some_iff.1 (h.imm b o hm)).1
theorem HH.drawn (h : HH w I L) (n : Nat) : HH { w with drawn := n } I L := ⟨h.imm, h.own, h.disj, h.nodup, h.os, h.tape, h.output⟩
/-- a new block -/
theorem HH.new (h : HH w I L) (o : Obj) : HH { w with heap := w.heap.push o } I ((w.heap.size, o) :: L) where
  imm b o' hb := by
    have := h.ltImm hb
    show (w.heap.push o)[b]? = _
    rw [Array.getElem?_push, if_neg (by omega)]; exact h.imm _ _ hb
  own b o' hb := by
    show (w.heap.push o)[b]? = _
    rcases List.mem_cons.1 hb with e | hb
    · cases e; simp
    · have := h.lt hb
      rw [Array.getElem?_push, if_neg (by omega)]; exact h.own _ _ hb
  disj b o' hb := by
    rcases List.mem_cons.1 hb with e | hb
    · cases e
      cases hI : I.at_ w.heap.size with
      | none => rfl
      | some o' => exact absurd (h.ltImm hI) (by omega)
    · exact h.disj _ _ hb
  nodup := by
    simp only [List.map_cons, List.nodup_cons]
    refine ⟨?_, h.nodup⟩
    intro hm
    obtain ⟨⟨b, o'⟩, hb, e⟩ := List.mem_map.1 hm
    have := h.lt hb
    simp only at e; omega
  os := h.os
  tape := h.tape
  output := h.output
/-- another thing in a block of our own -/
theorem HH.put (h : HH w I L) {b : Nat} {o' : Obj} {L' : Heap} (hu : Upd L b o' L') (w' : World) (hw : w'.heap = w.heap.setIfInBounds b o')
    (hos : w'.os = w.os) (ht : w'.tape = w.tape) (ho : w'.output = w.output) : HH w' I L' := by
  obtain ⟨A, o, B, rfl, rfl⟩ := hu.ex
  have hb : b < w.heap.size := h.lt (o := o) (by simp)
  have hnd := h.nodup
  simp only [List.map_append, List.map_cons] at hnd
  have hne : ∀ (c : Nat) (p : Obj), (c, p) ∈ A ∨ (c, p) ∈ B → c ≠ b := by
    rintro c p hc rfl
    rw [List.nodup_append] at hnd
    obtain ⟨h1, h2, h3⟩ := hnd
    rcases hc with hc | hc
    · exact h3 c (List.mem_map.2 ⟨(c, p), hc, rfl⟩) c (by simp) rfl
    · rw [List.nodup_cons] at h2
      exact h2.1 (List.mem_map.2 ⟨(c, p), hc, rfl⟩)
  constructor
  · intro c p hc
    have hcb : c ≠ b := by
      rintro rfl
      have := h.disj c o (by simp)
      rw [hc] at this; cases this
    rw [hw, Array.getElem?_setIfInBounds, if_neg (Ne.symm hcb)]
    exact h.imm _ _ hc
  · intro c p hc
    rw [hw, Array.getElem?_setIfInBounds]
    rw [List.mem_append, List.mem_cons] at hc
    rcases hc with hc | hc | hc
    · rw [if_neg (Ne.symm (hne c p (.inl hc)))]; exact h.own _ _ (by simp [hc])
    · cases hc; simp [hb]
    · rw [if_neg (Ne.symm (hne c p (.inr hc)))]; exact h.own _ _ (by simp [hc])
  · intro c p hc
    rw [List.mem_append, List.mem_cons] at hc
    rcases hc with hc | hc | hc
    · exact h.disj c p (by simp [hc])
    · cases hc; exact h.disj b o (by simp)
    · exact h.disj c p (by simp [hc])
  · simpa using h.nodup
  · rw [hos]; exact h.os
  · rw [ht]; exact h.tape
  · rw [ho]; exact h.output
/-- the list in another order, or some of it -/
theorem HH.sub (h : HH w I L) {L' : Heap} (hs : ∀ x, x ∈ L' → x ∈ L) (hn : (L'.map (·.1)).Nodup) : HH w I L' :=
  ⟨h.imm, fun b o hb => h.own b o (hs _ hb), fun b o hb => h.disj b o (hs _ hb), hn, h.os, h.tape, h.output⟩
theorem HH.perm (h : HH w I L) {L' : Heap} (hp : L.Perm L') : HH w I L' :=
  h.sub (fun _ hx => hp.mem_iff.2 hx) ((hp.map _).nodup_iff.1 h.nodup)
theorem HH.drop (h : HH w I L) {A B C : Heap} (e : L = A ++ (B ++ C)) : HH w I (A ++ C) := by
  subst e
  refine h.sub (fun x hx => ?_) ?_
  · simp only [List.mem_append] at hx ⊢; rcases hx with hx | hx <;> simp [hx]
  · have := h.nodup
    simp only [List.map_append] at this ⊢
    exact this.sublist (List.Sublist.append (List.Sublist.refl _) (List.sublist_append_right _ _))
/-- a block of our own becomes immutable -/
def Im.add (I : Im) (b : Nat) (o : Obj) : Im := { I with at_ := fun c => if c = b then some o else I.at_ c }
theorem HH.freeze {b : Nat} {o : Obj} (h : HH w I ((b, o) :: L)) : HH w (I.add b o) L ∧ I.Le (I.add b o) ∧ Imm (I.add b o) b o := by
  have hnd := h.nodup
  simp only [List.map_cons, List.nodup_cons] at hnd
  refine ⟨⟨?_, ?_, ?_, hnd.2, h.os, h.tape, h.output⟩, ⟨?_, rfl, rfl, rfl⟩, ⟨by simp [Im.add]⟩⟩
  · intro c p hc
    simp only [Im.add] at hc
    split at hc
    · rename_i e; subst e; cases hc; exact h.own _ _ (by simp)
    · exact h.imm _ _ hc
  · intro c p hc; exact h.own _ _ (by simp [hc])
  · intro c p hc
    have : c ≠ b := by
      rintro rfl
      exact hnd.1 (List.mem_map.2 ⟨(c, p), hc, rfl⟩)
    simp only [Im.add, if_neg this]
    exact h.disj c p (by simp [hc])
  · intro c p hc
    have hcb : c ≠ b := by
      rintro rfl
      have := h.disj c o (by simp)
      rw [hc] at this; cases this
    simp [Im.add, if_neg hcb, hc]
end

/-! ### Steps: which goal is enough for which stop -/
class XStep (A : Prop) (B : outParam Prop) : Prop where
  go : B → A

/- what is asked beside -/
structure XChk (p A : Prop) : Prop where
  h : p
  k : A
structure XNew (o : Obj) (w : World) (K : Nat → World → Prop) : Prop where
  k : K w.heap.size { w with heap := w.heap.push o }
/-- other cells in block b -/
def putCells (w : World) (b : Nat) (cs : List Value) : World :=
  { w with heap := w.heap.modify b fun
    | .cells _ T fz => .cells cs.toArray T fz
    | o => o }
structure XPut (w : World) (b : Nat) (cs : List Value) (K : World → Prop) : Prop where
  k : K (putCells w b cs)
inductive XBr (p A B : Prop) : Prop
  | t (h : p) (k : A)
  | f (h : ¬ p) (k : B)
theorem XBr.mk {p A B : Prop} (t : p → A) (f : ¬ p → B) : XBr p A B := by
  by_cases h : p
  · exact .t h (t h)
  · exact .f h (f h)
theorem XIf.mk {b : Bool} {A B : Prop} (t : b = true → A) (f : b = false → B) : XIf b A B := by
  cases b
  · exact .f rfl (f rfl)
  · exact .t rfl (t rfl)

instance XNew.step {o : Obj} {w : World} {K : Nat → World → Prop} {I : Im} {L : Heap} [h : HH w I L] :
    XStep (XNew o w K) (∀ b w', HH w' I ((b, o) :: L) → K b w') := ⟨fun k => ⟨k _ _ (h.new o)⟩⟩
instance XPut.step {w : World} {b : Nat} {cs : List Value} {K : World → Prop} {I : Im} {L L' : Heap} {c : Array Value} {T : TypeId} {fz : Nat × Nat} [h : HH w I L] [ho : Own L b (.cells c T fz)]
    [hu : Upd L b (.cells cs.toArray T fz) L'] : XStep (XPut w b cs K) (∀ w', HH w' I L' → K w') := by
  refine ⟨fun k => ⟨k _ (h.put hu _ ?_ rfl rfl rfl)⟩⟩
  have := h.own _ _ ho.mem
  simp only [putCells]
  apply Array.ext_getElem?
  intro i
  rw [Array.getElem?_modify, Array.getElem?_setIfInBounds]
  split
  · rename_i e; subst e; rw [this]; simp [h.lt ho.mem]
  · rfl

instance XIf.stepT {A B : Prop} : XStep (XIf true A B) A := ⟨fun h => .t rfl h⟩
instance XIf.stepF {A B : Prop} : XStep (XIf false A B) B := ⟨fun h => .f rfl h⟩
instance XIf.stepNot {b : Bool} {A B : Prop} : XStep (XIf (!b) A B) (XIf b B A) :=
  ⟨fun h => by rcases h with ⟨rfl, h⟩ | ⟨rfl, h⟩; exact .f rfl h; exact .t rfl h⟩
instance XIf.stepDec {p : Prop} [Decidable p] {A B : Prop} : XStep (XIf (decide p) A B) (XBr p A B) :=
  ⟨fun h => by rcases h with ⟨h, k⟩ | ⟨h, k⟩; exact .t (decide_eq_true h) k; exact .f (decide_eq_false h) k⟩
instance XBr.stepNot {p : Prop} {A B : Prop} : XStep (XBr (¬ p) A B) (XBr p B A) :=
  ⟨fun h => by rcases h with ⟨h, k⟩ | ⟨h, k⟩; exact .f (fun n => n h) k; exact .t h k⟩
instance condStep {P : Program} {ro : Option Nat} {c : Operand} {x y : Code} {t : List Value} {ds : List Deferred} {w : World} {Kn : KW} {Ke : KE} :
    XStep (XCode P ro (.cond c x y) t ds w Kn Ke) (evK t c fun v => match v with
      | .bool q => XIf q (xcode P ro x t ds w Kn Ke) (xcode P ro y t ds w Kn Ke)
      | _ => XBad "cond") := ⟨XCode.cond⟩
instance blockStep {P : Program} {ro : Option Nat} {id : Nat} {c : Code} {t : List Value} {ds : List Deferred} {w : World} {Kn : KW} {Ke : KE} :
    XStep (XCode P ro (.block id c) t ds w Kn Ke) (xcode P ro c t ds w Kn (blockE id Kn Ke)) := ⟨XCode.block⟩
instance XFn.stepF {f : FuncId} {A : Prop} : XStep (XFn (.func f) A) A := ⟨fun h => ⟨by simp, h⟩⟩
instance XFn.stepY {l : Nat} {A : Prop} : XStep (XFn (.yield l) A) A := ⟨fun h => ⟨by simp, h⟩⟩

/-! ### Types -/
section types
variable (P : Program)
class TyOne (T : TypeId) : Prop where      -- a variable of one cell
  agg : ∀ w, (isAgg T).run P w = .ok false w
  size : P.cellsOf T = 1
  info : (P.info? T).isSome = true
class TyAgg (T : TypeId) (n : outParam Nat) : Prop where   -- a struct or an array, of n cells
  agg : ∀ w, (isAgg T).run P w = .ok true w
  size : P.cellsOf T = n
  info : (P.info? T).isSome = true
class TyField (T : TypeId) (f : Nat) (off : outParam Nat) : Prop where
  ex : ∃ fs g, P.underlying T = some (.struct fs) ∧ fs[f]? = some g ∧ g.offset = off ∧ P.cellsOf g.type ≠ 0 ∧ (P.info? g.type).isSome = true
class TySlice (T : TypeId) (e : outParam TypeId) : Prop where
  eq : P.underlying T = some (.slice e)
class TyStr (T : TypeId) : Prop where
  eq : P.underlying T = some .string
class TyInt (T : TypeId) (k : outParam IntKind) : Prop where
  eq : P.underlying T = some (.int k)
class TyElem (T : TypeId) (zero : outParam (List Value)) (size bytes : outParam Nat) : Prop where   -- what an element of a row is
  ex : ∃ i z, P.info? T = some i ∧ i.zero = some z ∧ z.cells = zero.toArray ∧ i.size = size ∧ i.bytes = bytes ∧ zero.length = size ∧ size ≠ 0
class TyStruct (T : TypeId) (zero : outParam (List Value)) (places : outParam (List (Nat × Nat))) : Prop where
  ex : ∃ i z fs, P.info? T = some i ∧ i.zero = some z ∧ z.cells = zero.toArray ∧ P.underlying T = some (.struct fs) ∧ fs.toList.map (fun f => (f.offset, P.cellsOf f.type)) = places ∧
    fs.all (fun f => (P.info? f.type).isSome) = true
end types

end Go.X

/- The X evaluator's rules: memory, numbers, texts. -/
namespace Go.X
set_option linter.unusedSimpArgs false
set_option linter.unusedSectionVars false

/-! ### Lists of cells, in continuation style -/
def ldK (cs : List Value) (off : Nat) (K : Value → Prop) : Prop :=
  match cs, off with
  | [], _ => XBad "load"
  | x :: _, 0 => K x
  | _ :: cs, n + 1 => ldK cs n K
def takeK (cs : List Value) (n : Nat) (K : List Value → Prop) : Prop :=
  match n, cs with
  | 0, _ => K []
  | _ + 1, [] => XBad "load"
  | n + 1, x :: cs => takeK cs n fun vs => K (x :: vs)
def ldsK (cs : List Value) (off n : Nat) (K : List Value → Prop) : Prop :=
  match off, cs with
  | 0, cs => takeK cs n K
  | _ + 1, [] => XBad "load"
  | m + 1, _ :: cs => ldsK cs m n K
/-- the cells vs laid over the beginning -/
def overK (cs vs : List Value) (K : List Value → Prop) : Prop :=
  match vs, cs with
  | [], cs => K cs
  | _ :: _, [] => XBad "store"
  | v :: vs, _ :: cs => overK cs vs fun cs => K (v :: cs)
def stK (cs : List Value) (off : Nat) (vs : List Value) (K : List Value → Prop) : Prop :=
  match off, cs with
  | 0, cs => overK cs vs K
  | _ + 1, [] => XBad "store"
  | m + 1, x :: cs => stK cs m vs fun cs => K (x :: cs)
/-- a value of one cell -/
def oneK (v : Value) (A : Prop) : Prop :=
  match v with
  | .agg _ => XBad "one cell"
  | .tuple _ => XBad "one cell"
  | _ => A
def onesK (vs : List Value) (A : Prop) : Prop :=
  match vs with
  | [] => A
  | v :: vs => oneK v (onesK vs A)
/-- the cells of a struct's value, n of them -/
def aggK (v : Value) (n : Nat) (K : List Value → Prop) : Prop :=
  match v with
  | .agg cs => match Nat.beq cs.toList.length n with
    | true => onesK cs.toList (K cs.toList)
    | false => XBad "size"
  | _ => XBad "struct"

theorem ldK_ex {cs : List Value} {off : Nat} {K : Value → Prop} (h : ldK cs off K) : ∃ v, cs[off]? = some v ∧ K v := by
  induction cs generalizing off with
  | nil => simp only [ldK] at h; exact nomatch h
  | cons x cs ih =>
    cases off with
    | zero => exact ⟨x, rfl, h⟩
    | succ n => simpa using ih (off := n) h
theorem takeK_ex {cs : List Value} {n : Nat} {K : List Value → Prop} (h : takeK cs n K) : n ≤ cs.length ∧ K (cs.take n) := by
  induction n generalizing cs K with
  | zero => simpa [takeK] using h
  | succ n ih =>
    cases cs with
    | nil => simp only [takeK] at h; exact nomatch h
    | cons x cs => simpa using ih (cs := cs) h
theorem ldsK_ex {cs : List Value} {off n : Nat} {K : List Value → Prop} (h : ldsK cs off n K) : off + n ≤ cs.length ∧ K ((cs.drop off).take n) := by
  induction off generalizing cs with
  | zero => simp only [ldsK] at h; simpa using takeK_ex h
  | succ m ih =>
    cases cs with
    | nil => simp only [ldsK] at h; exact nomatch h
    | cons x cs =>
      obtain ⟨h1, h2⟩ := ih (cs := cs) h
      exact ⟨by simp; omega, by simpa using h2⟩
theorem overK_ex {cs vs : List Value} {K : List Value → Prop} (h : overK cs vs K) : vs.length ≤ cs.length ∧ K (vs ++ cs.drop vs.length) := by
  induction vs generalizing cs K with
  | nil => simpa [overK] using h
  | cons v vs ih =>
    cases cs with
    | nil => simp only [overK] at h; exact nomatch h
    | cons x cs => simpa using ih (cs := cs) h
theorem stK_ex {cs : List Value} {off : Nat} {vs : List Value} {K : List Value → Prop} (h : stK cs off vs K) :
    off + vs.length ≤ cs.length ∧ K (cs.take off ++ vs ++ cs.drop (off + vs.length)) := by
  induction off generalizing cs K with
  | zero => simp only [stK] at h; simpa using overK_ex h
  | succ m ih =>
    cases cs with
    | nil => simp only [stK] at h; exact nomatch h
    | cons x cs =>
      obtain ⟨h1, h2⟩ := ih (cs := cs) h
      refine ⟨by simp; omega, ?_⟩
      simp only [List.take_succ_cons, List.cons_append]
      rw [show m + 1 + vs.length = (m + vs.length) + 1 by omega, List.drop_succ_cons]
      exact h2
theorem oneK_ex {v : Value} {A : Prop} (h : oneK v A) : v.oneCell' = true ∧ v.cells = #[v] ∧ A := by
  cases v <;> simp only [oneK] at h <;> first | exact ⟨rfl, rfl, h⟩ | cases h
theorem onesK_ex {vs : List Value} {A : Prop} (h : onesK vs A) : (∀ v ∈ vs, v.oneCell' = true) ∧ A := by
  induction vs with
  | nil => exact ⟨by simp, h⟩
  | cons v vs ih =>
    obtain ⟨h1, _, h2⟩ := oneK_ex h
    obtain ⟨h3, h4⟩ := ih h2
    exact ⟨by simpa using ⟨h1, h3⟩, h4⟩
theorem aggK_ex {v : Value} {n : Nat} {K : List Value → Prop} (h : aggK v n K) : ∃ cs : List Value, v = .agg cs.toArray ∧ cs.length = n ∧ (∀ v ∈ cs, v.oneCell' = true) ∧ K cs := by
  unfold aggK at h
  split at h
  · rename_i cs
    split at h
    · rename_i hb
      obtain ⟨h1, h2⟩ := onesK_ex h
      exact ⟨cs.toList, by simp, Nat.eq_of_beq_eq_true hb, h1, h2⟩
    · exact nomatch h
  · exact nomatch h

/-! ### Runs -/
section runs
variable {P : Program} {w : World}
theorem run_pure {α : Type} (a : α) : (pure a : Sem α).run P w = .ok a w := rfl
theorem run_sureAddr (a : Addr) : (Instr.sureAddr (.pointer (some a))).run P w = .ok a w := rfl
theorem run_sizeOf' {T : TypeId} (h : (P.info? T).isSome = true) : (sizeOf T).run P w = .ok (P.cellsOf T) w := by
  obtain ⟨i, hi⟩ := Option.isSome_iff_exists.1 h
  exact run_sizeOf w hi
theorem add_none (b o n : Nat) : (⟨b, o, none⟩ : Addr).add n = ⟨b, o + n, none⟩ := by
  unfold Addr.add; split <;> simp_all
theorem cell_of {b : Nat} {c : Array Value} {T : TypeId} {fz : Nat × Nat} (h : w.heap[b]? = some (.cells c T fz)) (off : Nat) :
    w.cell? ⟨b, off, none⟩ = c[off]? := by simp [World.cell?, h]
theorem run_loadAt_one {T : TypeId} [t : TyOne P T] {b off : Nat} {c : Array Value} {Te : TypeId} {fz : Nat × Nat} (h : w.heap[b]? = some (.cells c Te fz)) {v : Value} (hv : c[off]? = some v) :
    (Instr.loadAt T (.pointer (some ⟨b, off, none⟩))).run P w = .ok v w := by
  simp only [Instr.loadAt, loadVar, Sem.run_bind, run_sureAddr, Result.andThen, t.agg, Bool.false_eq_true, if_false]
  simp only [load, Sem.run]
  rw [cell_of h, hv]
theorem run_loadVar_one {T : TypeId} [t : TyOne P T] {b off : Nat} {c : Array Value} {Te : TypeId} {fz : Nat × Nat} (h : w.heap[b]? = some (.cells c Te fz)) {v : Value} (hv : c[off]? = some v) :
    (loadVar T ⟨b, off, none⟩).run P w = .ok v w := by
  simp only [loadVar, Sem.run_bind, Result.andThen, t.agg, Bool.false_eq_true, if_false]
  simp only [load, Sem.run]
  rw [cell_of h, hv]
theorem run_loadVar_agg {T n : Nat} [t : TyAgg P T n] {b off : Nat} {c : Array Value} {Te : TypeId} {fz : Nat × Nat} (h : w.heap[b]? = some (.cells c Te fz)) {vs : List Value}
    (hl : vs.length = n) (hv : ∀ j v, vs[j]? = some v → c[off + j]? = some v) :
    (loadVar T ⟨b, off, none⟩).run P w = .ok (.agg vs.toArray) w := by
  have := run_loadCells_list (P := P) w ⟨b, off, none⟩ vs (fun j v hj => by rw [add_none, cell_of h]; exact hv j v hj)
  rw [hl] at this
  simp only [loadVar, Sem.run_bind, Result.andThen, t.agg, if_true, run_sizeOf' t.info, t.size, this]
  rfl
theorem run_loadAt_agg {T n : Nat} [t : TyAgg P T n] {b off : Nat} {c : Array Value} {Te : TypeId} {fz : Nat × Nat} (h : w.heap[b]? = some (.cells c Te fz)) {vs : List Value}
    (hl : vs.length = n) (hv : ∀ j v, vs[j]? = some v → c[off + j]? = some v) :
    (Instr.loadAt T (.pointer (some ⟨b, off, none⟩))).run P w = .ok (.agg vs.toArray) w := by
  simp only [Instr.loadAt, Sem.run_bind, run_sureAddr, Result.andThen]
  exact run_loadVar_agg h hl hv
theorem run_storeCells_put {b off : Nat} {c : Array Value} {Te : TypeId} {vs : List Value} (h : w.heap[b]? = some (.cells c Te (0, 0))) (hl : off + vs.length ≤ c.size) (h1 : ∀ v ∈ vs, v.oneCell' = true) :
    (storeCells ⟨b, off, none⟩ vs).run P w = .ok () (putCells w b (c.toList.take off ++ vs ++ c.toList.drop (off + vs.length))) := by
  have := run_storeCells_at (P := P) b off Te vs 0 c w h (by simpa using hl) h1
  rw [this]
  congr 1
theorem run_storeAt_one {T : TypeId} [t : TyOne P T] {b off : Nat} {c : List Value} {Te : TypeId} (h : w.heap[b]? = some (.cells c.toArray Te (0, 0))) {v : Value} (h1 : v.oneCell' = true) (h2 : v.cells = #[v])
    (hl : off + 1 ≤ c.length) : (Instr.storeAt T (.pointer (some ⟨b, off, none⟩)) v).run P w = .ok () (putCells w b (c.take off ++ [v] ++ c.drop (off + 1))) := by
  have := run_storeCells_put (P := P) (vs := [v]) (off := off) h (by simpa using hl) (by simpa using h1)
  simp only [Instr.storeAt, storeVar, Sem.run_bind, run_sureAddr, Result.andThen, run_sizeOf' t.info, t.size, h2]
  simpa using this
theorem run_storeAt_agg {T n : Nat} [t : TyAgg P T n] {b off : Nat} {c : List Value} {Te : TypeId} (h : w.heap[b]? = some (.cells c.toArray Te (0, 0))) {vs : List Value} (hn : vs.length = n) (h1 : ∀ v ∈ vs, v.oneCell' = true)
    (hl : off + vs.length ≤ c.length) : (Instr.storeAt T (.pointer (some ⟨b, off, none⟩)) (.agg vs.toArray)).run P w = .ok () (putCells w b (c.take off ++ vs ++ c.drop (off + vs.length))) := by
  have := run_storeCells_put (P := P) (vs := vs) (off := off) h (by simpa using hl) h1
  simp only [Instr.storeAt, storeVar, Sem.run_bind, run_sureAddr, Result.andThen, run_sizeOf' t.info, t.size, Value.cells, List.size_toArray, hn, ne_eq, not_true_eq_false, if_false]
  simpa [hn] using this
end runs

theorem XSem.of {P : Program} {s : Sem Value} {w : World} {K : KV} {v : Value} {w' : World} (h : s.run P w = .ok v w') (k : K v w') : XSem P s w K := ⟨v, w', h, k⟩
theorem XPur.of {P : Program} {s : Sem Value} {K : Value → Prop} {v : Value} (h : ∀ w, s.run P w = .ok v w) (k : K v) : XPur P s K := ⟨v, h, k⟩
theorem XLd.of {P : Program} {s : Sem Value} {w : World} {K : Value → Prop} {v : Value} (h : s.run P w = .ok v w) (k : K v) : XLd P s w K := ⟨v, h, k⟩
theorem XUnit.of {P : Program} {s : Sem Unit} {w : World} {K : World → Prop} {w' : World} (h : s.run P w = .ok () w') (k : K w') : XUnit P s w K := ⟨w', h, k⟩

/-! ### The rules: memory -/
section rules
variable {P : Program} {w : World} {K : KV} {K1 : Value → Prop} {I : Im} {L : Heap}

instance (priority := high) semOfPur {s : Sem Value} {B : Prop} [h : XStep (XPur P s fun v => K v w) B] : XStep (XSem P s w K) B := ⟨fun b => let ⟨v, hr, k⟩ := (h.go b).ex; ⟨v, w, hr w, k⟩⟩
instance (priority := high) semOfLd {s : Sem Value} {B : Prop} [h : XStep (XLd P s w fun v => K v w) B] : XStep (XSem P s w K) B := ⟨fun b => let ⟨v, hr, k⟩ := (h.go b).ex; ⟨v, w, hr, k⟩⟩
instance (priority := low) ldOfPur {s : Sem Value} {B : Prop} [h : XStep (XPur P s K1) B] : XStep (XLd P s w K1) B := ⟨fun b => let ⟨v, hr, k⟩ := (h.go b).ex; ⟨v, hr w, k⟩⟩

instance loadOwn {T : TypeId} {b off : Nat} {cs : List Value} {Te : TypeId} {fz : Nat × Nat} [TyOne P T] [h : HH w I L] [o : Own L b (.cells cs.toArray Te fz)] :
    XStep (XLd P (Instr.loadAt T (.pointer (some ⟨b, off, none⟩))) w K1) (ldK cs off fun v => K1 v) := ⟨fun k => by
  obtain ⟨v, hv, k⟩ := ldK_ex k
  exact .of (run_loadAt_one (h.own _ _ o.mem) (by simpa using hv)) k⟩
instance loadImm {T : TypeId} {b off : Nat} {cs : List Value} {Te : TypeId} {fz : Nat × Nat} [TyOne P T] [h : HH w I L] [o : Imm I b (.cells cs.toArray Te fz)] :
    XStep (XLd P (Instr.loadAt T (.pointer (some ⟨b, off, none⟩))) w K1) (ldK cs off fun v => K1 v) := ⟨fun k => by
  obtain ⟨v, hv, k⟩ := ldK_ex k
  exact .of (run_loadAt_one (h.imm _ _ o.eq) (by simpa using hv)) k⟩
instance loadOwnAgg {T n : Nat} {b off : Nat} {cs : List Value} {Te : TypeId} {fz : Nat × Nat} [TyAgg P T n] [h : HH w I L] [o : Own L b (.cells cs.toArray Te fz)] :
    XStep (XLd P (Instr.loadAt T (.pointer (some ⟨b, off, none⟩))) w K1) (ldsK cs off n fun vs => K1 (.agg vs.toArray)) := ⟨fun k => by
  obtain ⟨hl, k⟩ := ldsK_ex k
  refine .of (run_loadAt_agg (h.own _ _ o.mem) (vs := (cs.drop off).take n) (by simp; omega) ?_) k
  intro j v hj
  rw [List.getElem?_take] at hj
  split at hj
  · simpa using hj
  · cases hj⟩
instance loadImmAgg {T n : Nat} {b off : Nat} {cs : List Value} {Te : TypeId} {fz : Nat × Nat} [TyAgg P T n] [h : HH w I L] [o : Imm I b (.cells cs.toArray Te fz)] :
    XStep (XLd P (Instr.loadAt T (.pointer (some ⟨b, off, none⟩))) w K1) (ldsK cs off n fun vs => K1 (.agg vs.toArray)) := ⟨fun k => by
  obtain ⟨hl, k⟩ := ldsK_ex k
  refine .of (run_loadAt_agg (h.imm _ _ o.eq) (vs := (cs.drop off).take n) (by simp; omega) ?_) k
  intro j v hj
  rw [List.getElem?_take] at hj
  split at hj
  · simpa using hj
  · cases hj⟩
/- a result variable -/
instance ldOwn {T : TypeId} {b off : Nat} {cs : List Value} {Te : TypeId} {fz : Nat × Nat} {K : Value → Prop} [TyOne P T] [h : HH w I L] [o : Own L b (.cells cs.toArray Te fz)] :
    XStep (XLd P (loadVar T ⟨b, off, none⟩) w K) (ldK cs off K) := ⟨fun k => by
  obtain ⟨v, hv, k⟩ := ldK_ex k
  exact ⟨v, run_loadVar_one (h.own _ _ o.mem) (by simpa using hv), k⟩⟩
instance ldOwnAgg {T n : Nat} {b off : Nat} {cs : List Value} {Te : TypeId} {fz : Nat × Nat} {K : Value → Prop} [TyAgg P T n] [h : HH w I L] [o : Own L b (.cells cs.toArray Te fz)] :
    XStep (XLd P (loadVar T ⟨b, off, none⟩) w K) (ldsK cs off n fun vs => K (.agg vs.toArray)) := ⟨fun k => by
  obtain ⟨hl, k⟩ := ldsK_ex k
  refine ⟨_, run_loadVar_agg (h.own _ _ o.mem) (vs := (cs.drop off).take n) (by simp; omega) ?_, k⟩
  intro j v hj
  rw [List.getElem?_take] at hj
  split at hj
  · simpa using hj
  · cases hj⟩
instance storeOwn {T : TypeId} {b off : Nat} {cs : List Value} {Te : TypeId} {v : Value} {K : World → Prop} [TyOne P T] [h : HH w I L] [o : Own L b (.cells cs.toArray Te (0, 0))] :
    XStep (XUnit P (Instr.storeAt T (.pointer (some ⟨b, off, none⟩)) v) w K) (oneK v (stK cs off [v] fun cs => XPut w b cs K)) := ⟨fun k => by
  obtain ⟨h1, h2, k⟩ := oneK_ex k
  obtain ⟨hl, k⟩ := stK_ex k
  exact .of (run_storeAt_one (h.own _ _ o.mem) h1 h2 (by simpa using hl)) k.k⟩
instance storeOwnAgg {T n : Nat} {b off : Nat} {cs : List Value} {Te : TypeId} {v : Value} {K : World → Prop} [TyAgg P T n] [h : HH w I L] [o : Own L b (.cells cs.toArray Te (0, 0))] :
    XStep (XUnit P (Instr.storeAt T (.pointer (some ⟨b, off, none⟩)) v) w K) (aggK v n fun vs => stK cs off vs fun cs => XPut w b cs K) := ⟨fun k => by
  obtain ⟨vs, rfl, hn, h1, k⟩ := aggK_ex k
  obtain ⟨hl, k⟩ := stK_ex k
  exact .of (run_storeAt_agg (h.own _ _ o.mem) hn h1 hl) k.k⟩
instance fieldAt {T f off : Nat} {b o : Nat} [t : TyField P T f off] :
    XStep (XPur P (Instr.fieldAt T (.pointer (some ⟨b, o, none⟩)) f) K1) (match Nat.beq off 0 with | true => K1 (.pointer (some ⟨b, o, none⟩)) | false => K1 (.pointer (some ⟨b, o + off, none⟩))) := ⟨fun k => by
  obtain ⟨fs, g, hu, hg, ho, hz, hi⟩ := t.ex
  refine .of (v := .pointer (some ⟨b, o + off, none⟩)) (fun w => ?_) ?_
  · simp only [Instr.fieldAt, Sem.run_bind, run_underlying hu, Result.andThen, hg, run_sureAddr, fieldPlace, run_sizeOf' hi, hz, if_false, ho, add_none]
    rfl
  · split at k
    · rename_i e; rw [Nat.eq_of_beq_eq_true e]; exact k
    · exact k⟩
/-- a number as a natural one -/
class NatOf (i : Int) (k : outParam Nat) : Prop where
  eq : i.toNat = k
instance (priority := low) NatOf.any (i : Int) : NatOf i i.toNat := ⟨rfl⟩
instance NatOf.cast (k : Nat) : NatOf (k : Int) k := ⟨by simp⟩
instance NatOf.lit (n : Nat) : NatOf (@OfNat.ofNat Int n _) n := ⟨rfl⟩
instance NatOf.addOne (k : Nat) : NatOf ((k : Int) + 1) (k + 1) := ⟨by omega⟩
instance NatOf.add (k j : Nat) : NatOf ((k : Int) + (j : Int)) (k + j) := ⟨by omega⟩
instance indexAtSlice {T e sz by' : Nat} {z : List Value} {b o n c : Nat} {q : IntKind} {i : Int} {k : Nat} [t : TySlice P T e] [te : TyElem P e z sz by'] [hk : NatOf i k] :
    XStep (XPur P (Instr.indexAt T (.slice (some ⟨b, o, none⟩) n c) (.int q i)) K1) (XChk (0 ≤ i ∧ i < (n : Int)) (K1 (.pointer (some ⟨b, o + k * sz, none⟩)))) := ⟨fun ⟨hi, k⟩ => by
  obtain ⟨ii, zz, h1, h2, h3, h4, h5, h6, h7⟩ := te.ex
  refine .of (fun w => ?_) k
  have hs : (sizeOf e).run P w = .ok sz w := by rw [run_sizeOf w h1, Program.cellsOf, h1]; simp [h4]
  simp only [Instr.indexAt, Sem.run_bind, asIntOf, run_underlying t.eq, Result.andThen, run_pure, hi, and_self, if_true, hs, add_none, hk.eq]⟩
end rules
end Go.X

/- The X evaluator's rules: new memory, structs, slices' literals, numbers, texts, calls, loops. -/
namespace Go.X
set_option linter.unusedSimpArgs false
set_option linter.unusedSectionVars false

/-! ### Building -/
def valK (v : Value) (n : Nat) (K : List Value → Prop) : Prop :=
  match v with
  | .agg cs => match Nat.beq cs.toList.length n with
    | true => K cs.toList
    | false => XBad "size"
  | v => match Nat.beq n 1 with
    | true => K [v]
    | false => XBad "size"
def placeK (l : List (Nat × Nat)) (i : Nat) (K : Nat → Nat → Prop) : Prop :=
  match l, i with
  | [], _ => XBad "place"
  | (o, n) :: _, 0 => K o n
  | _ :: l, i + 1 => placeK l i K
def fillK (places : List (Nat × Nat)) (cells : List Value) (parts : List (Nat × Value)) (K : List Value → Prop) : Prop :=
  match parts with
  | [] => K cells
  | (i, v) :: rest => placeK places i fun o n => valK v n fun vs => stK cells o vs fun cells => fillK places cells rest K
/-- the parts of a slice, size cells each -/
def fillsK (size : Nat) (cells : List Value) (parts : List (Nat × Value)) (K : List Value → Prop) : Prop :=
  match parts with
  | [] => K cells
  | (i, v) :: rest => valK v size fun vs => stK cells (i * size) vs fun cells => fillsK size cells rest K
def repK (n : Nat) (z : List Value) (K : List Value → Prop) : Prop :=
  match n with
  | 0 => K []
  | n + 1 => repK n z fun l => K (z ++ l)
/-- z ++ l, the first list literal -/
def appK (z l : List Value) (K : List Value → Prop) : Prop :=
  match z with
  | [] => K l
  | x :: z => appK z l fun r => K (x :: r)
def repsK (n : Nat) (z : List Value) (K : List Value → Prop) : Prop :=
  match n with
  | 0 => K []
  | n + 1 => repsK n z fun l => appK z l K

theorem appK_eq (z l : List Value) (K : List Value → Prop) : appK z l K = K (z ++ l) := by
  induction z generalizing K with
  | nil => rfl
  | cons x z ih => simp [appK, ih]
theorem repsK_eq (n : Nat) (z : List Value) (K : List Value → Prop) : repsK n z K = K (List.replicate n z).flatten := by
  induction n generalizing K with
  | zero => simp [repsK]
  | succ n ih => rw [repsK, ih, appK_eq]; simp [List.replicate_succ]
theorem valK_ex {v : Value} {n : Nat} {K : List Value → Prop} (h : valK v n K) : v.cells.size = n ∧ K v.cells.toList := by
  unfold valK at h
  split at h
  · rename_i cs
    split at h
    · rename_i hb
      exact ⟨by simpa [Value.cells] using Nat.eq_of_beq_eq_true hb, h⟩
    · exact nomatch h
  · rename_i hv
    split at h
    · rename_i hb
      have : v.cells = #[v] := by cases v <;> first | rfl | exact absurd rfl (hv _)
      rw [this]
      exact ⟨by simpa using (Nat.eq_of_beq_eq_true hb).symm, h⟩
    · exact nomatch h
theorem placeK_ex {l : List (Nat × Nat)} {i : Nat} {K : Nat → Nat → Prop} (h : placeK l i K) : ∃ o n, l[i]? = some (o, n) ∧ K o n := by
  induction l generalizing i with
  | nil => simp only [placeK] at h; exact nomatch h
  | cons x l ih =>
    obtain ⟨o, n⟩ := x
    cases i with
    | zero => exact ⟨o, n, rfl, h⟩
    | succ i => simpa using ih (i := i) h
theorem fold_over (off : Nat) : ∀ (vs : List Value) (j : Nat) (cells : List Value), off + j + vs.length ≤ cells.length →
    (vs.zipIdx j).foldl (fun (cs : Array Value) (p : Value × Nat) => cs.setIfInBounds (off + p.2) p.1) cells.toArray = (cells.take (off + j) ++ vs ++ cells.drop (off + j + vs.length)).toArray
  | [], j, cells, _ => by simp
  | v :: vs, j, cells, h => by
    simp only [List.length_cons] at h
    rw [List.zipIdx_cons, List.foldl_cons]
    have := fold_over off vs (j + 1) (cells.set (off + j) v) (by simp; omega)
    rw [List.setIfInBounds_toArray, this]
    congr 1
    rw [show off + (j + 1) = off + j + 1 by omega]
    have hlt : off + j < cells.length := by omega
    rw [List.take_succ_eq_append_getElem (by simpa using hlt), List.getElem_set_self, List.take_set_of_le (by omega)]
    simp only [List.append_assoc, List.cons_append, List.nil_append, List.length_cons]
    congr 3
    rw [List.drop_set_of_lt (by omega)]
    congr 1; omega
theorem fill_step (place : Nat → Option (Nat × Nat)) (cells : List Value) (i : Nat) (v : Value) (rest : List (Nat × Value)) (o n : Nat) (hp : place i = some (o, n)) (hn : v.cells.size = n)
    (hl : o + v.cells.toList.length ≤ cells.length) :
    Instr.fill place cells.toArray ((i, v) :: rest) = Instr.fill place (cells.take o ++ v.cells.toList ++ cells.drop (o + v.cells.toList.length)).toArray rest := by
  have h := fold_over o v.cells.toList 0 cells (by simpa using hl)
  simp only [Nat.add_zero] at h
  conv => lhs; unfold Instr.fill
  simp only [hp]
  rw [if_neg (by simp [hn]; simp [hn] at hl; omega)]
  congr 1
  rw [← h, ← Array.foldl_toList]
  congr 1
  simp
theorem fillK_ex {place : Nat → Option (Nat × Nat)} {places : List (Nat × Nat)} (hpl : ∀ i, place i = places[i]?) {parts : List (Nat × Value)} {K : List Value → Prop} :
    ∀ {cells : List Value}, fillK places cells parts K → ∃ cs : List Value, Instr.fill place cells.toArray parts = some cs.toArray ∧ K cs := by
  induction parts with
  | nil => intro cells h; exact ⟨cells, rfl, h⟩
  | cons p parts ih =>
    obtain ⟨i, v⟩ := p
    intro cells h
    obtain ⟨o, n, hp, h⟩ := placeK_ex h
    obtain ⟨hn, h⟩ := valK_ex h
    obtain ⟨hl, h⟩ := stK_ex h
    obtain ⟨cs, hf, hk⟩ := ih h
    exact ⟨cs, by rw [fill_step place cells i v parts o n ((hpl i).trans hp) hn hl]; exact hf, hk⟩
theorem fillsK_ex {size : Nat} {parts : List (Nat × Value)} {K : List Value → Prop} :
    ∀ {cells : List Value}, fillsK size cells parts K → ∃ cs : List Value, Instr.fill (fun i => some (i * size, size)) cells.toArray parts = some cs.toArray ∧ K cs := by
  induction parts with
  | nil => intro cells h; exact ⟨cells, rfl, h⟩
  | cons p parts ih =>
    obtain ⟨i, v⟩ := p
    intro cells h
    obtain ⟨hn, h⟩ := valK_ex h
    obtain ⟨hl, h⟩ := stK_ex h
    obtain ⟨cs, hf, hk⟩ := ih h
    exact ⟨cs, by rw [fill_step _ cells i v parts (i * size) size rfl hn hl]; exact hf, hk⟩
theorem range_zero (z : List Value) (n : Nat) (hz : z ≠ []) : (Array.range (n * z.length)).map (z.toArray[· % z.toArray.size]!) = (List.replicate n z).flatten.toArray := by
  have hpos : 0 < z.length := by cases z <;> simp_all
  apply Array.ext'
  simp only [Array.toList_map, Array.toList_range, List.size_toArray]
  induction n with
  | zero => simp
  | succ n ih =>
    rw [Nat.succ_mul, List.range_add, List.map_append, ih]
    rw [List.replicate_succ', List.flatten_append]
    congr 1
    apply List.ext_getElem
    · simp
    · intro i h1 h2
      simp at h1 h2 ⊢
      rw [Nat.mod_eq_of_lt h1]
      simp [h1]

section rules
variable {P : Program} {ro : Option Nat} {w : World} {K : KV} {K1 : Value → Prop} {I : Im} {L : Heap}
theorem run_zero {T : TypeId} {i : TypeInfo} {z : Value} (h : P.info? T = some i) (hz : i.zero = some z) : (zeroValue T).run P w = .ok z w := by
  simp only [zeroValue, typeInfo, program]
  simp [Sem.run_bind, Result.andThen, h, hz, pure, Sem.run, bind, Sem.bind]
theorem run_newRow (e : TypeId) (cs : Array Value) : (newRow e cs).run P w = .ok ⟨w.heap.size, 0, none⟩ { w with heap := w.heap.push (.cells cs e) } := by
  simp only [newRow, newObj, Sem.run_bind, Sem.run, Result.andThen]; rfl

instance allocStep {T : TypeId} {z : List Value} {sz by' : Nat} [te : TyElem P T z sz by'] :
    XStep (XSem P (Instr.alloc T true (.tuple #[])) w K) (XNew (.cells z.toArray T (0, 0)) w fun b w' => K (.pointer (some ⟨b, 0, none⟩)) w') := ⟨fun k => by
  obtain ⟨i, zv, h1, h2, h3, _⟩ := te.ex
  refine .of ?_ k.k
  simp only [Instr.alloc, Sem.run_bind, run_zero h1 h2, Result.andThen, newVar, h3, run_newRow, run_pure]⟩
instance boxStep {T : TypeId} {v : Value} {z : List Value} {sz by' : Nat} [_te : TyElem P T z sz by'] :
    XStep (XSem P (Instr.box T v) w K) (valK v sz fun cs => XNew (.cells cs.toArray T (0, 0)) w fun b w' => K (.pointer (some ⟨b, 0, none⟩)) w') := ⟨fun k => by
  obtain ⟨_, k⟩ := valK_ex k
  refine .of ?_ k.k
  simp only [Instr.box, Sem.run_bind, Result.andThen, newVar, run_newRow, run_pure]⟩
instance buildStep {T : TypeId} {z : List Value} {places : List (Nat × Nat)} {ps : List (Nat × Value)} [te : TyStruct P T z places] :
    XStep (XPur P (Instr.build T ps.toArray) K1) (fillK places z ps fun cs => K1 (.agg cs.toArray)) := ⟨fun k => by
  obtain ⟨i, zv, fs, h1, h2, h3, h4, h5, h6⟩ := te.ex
  obtain ⟨cs, hf, k⟩ := fillK_ex (place := fun i => places[i]?) (fun _ => rfl) k
  refine .of (fun w => ?_) k
  have hm : (fs.mapM fun f => do pure (f.offset, ← sizeOf f.type) : Sem (Array (Nat × Nat))).run P w = .ok places.toArray w := by
    subst h5
    rw [Array.mapM_eq_mapM_toList]
    simp only [Sem.run_map]
    have : ∀ l : List Field, (∀ f ∈ l, (P.info? f.type).isSome = true) → (l.mapM fun f => do pure (f.offset, ← sizeOf f.type) : Sem (List (Nat × Nat))).run P w = .ok (l.map fun f => (f.offset, P.cellsOf f.type)) w := by
      intro l
      induction l with
      | nil => intro _; rfl
      | cons f l ih =>
        intro hf
        simp only [List.mapM_cons, Sem.run_bind, run_sizeOf' (hf f (by simp)), Result.andThen, ih (fun g hg => hf g (by simp [hg])), run_pure, List.map_cons]
    rw [this fs.toList (fun f hf => by rw [Array.all_eq_true'] at h6; exact h6 f (by simpa using hf))]
    rfl
  simp only [Instr.build, Sem.run_bind, run_zero h1 h2, run_underlying h4, Result.andThen, hm, h3]
  simp only [List.getElem?_toArray, hf, run_pure]⟩
instance buildSliceStep {T e sz by' n : Nat} {z : List Value} {ps : List (Nat × Value)} [t : TySlice P T e] [te : TyElem P e z sz by'] :
    XStep (XSem P (Instr.buildSlice T n ps.toArray) w K) (XChk (n * sz ≤ 16777216) (repsK n z fun cs => fillsK sz cs ps fun cs => XNew (.cells cs.toArray e (0, 0)) w fun b w' => K (.slice (some ⟨b, 0, none⟩) n n) w')) := ⟨fun ⟨hn, k⟩ => by
  obtain ⟨i, zv, h1, h2, h3, h4, h5, h6, h7⟩ := te.ex
  rw [repsK_eq] at k
  obtain ⟨cs, hf, k⟩ := fillsK_ex k
  refine .of ?_ k.k
  have hs : (sizeOf e).run P w = .ok sz w := by rw [run_sizeOf w h1, Program.cellsOf, h1]; simp [h4]
  have hz : z ≠ [] := by rintro rfl; simp at h6; exact h7 h6.symm
  have hr := range_zero z n hz
  rw [h6] at hr
  simp only [Instr.buildSlice, Sem.run_bind, run_underlying t.eq, Result.andThen, hs]
  rw [if_neg (by omega)]
  by_cases h0 : n * sz = 0
  · have hn0 : n = 0 := by rcases Nat.mul_eq_zero.1 h0 with h | h; exact h; exact absurd h h7
    subst hn0
    have hf' : Instr.fill (fun i => some (i * sz, sz)) #[] ps = some cs.toArray := hf
    have e0 : Array.map (fun x => z.toArray[x % z.toArray.size]!) (Array.range (0 * sz)) = #[] := by rw [hr]; rfl
    have e1 : Array.map (fun x => (#[] : Array Value)[x % (#[] : Array Value).size]!) (Array.range (0 * sz)) = #[] := by rw [Nat.zero_mul]; simp
    simp only [Nat.zero_mul, if_true, Sem.run_bind, run_pure, Result.andThen] at e1 ⊢
    rw [e1, hf']
    simp only [Sem.run_bind, run_newRow, Result.andThen, run_pure]
  · rw [if_neg h0]
    simp only [Sem.run_bind, run_zero h1 h2, Result.andThen, h3, run_pure, hr, hf, run_newRow]⟩
end rules

/-! ### Numbers -/
section numbers
variable {P : Program} {ro : Option Nat} {w : World} {K : KV} {K1 : Value → Prop} {I : Im} {L : Heap} {T : TypeId} {x y : Operand}
theorem run_guard_int (op : BinOp) (k q : IntKind) (a b : Int) : (binOpG op T x y (.int k a) (.int q b)).run P w = (binOp op T (.int k a) (.int q b)).run P w := by
  simp only [binOpG, eqGuard, Sem.run_bind]
  split <;> simp [Result.andThen, run_pure]
theorem wrap64_in {n : Int} (h : -9223372036854775808 ≤ n ∧ n ≤ 9223372036854775807) : IntKind.i64.wrap n = n := by
  simp only [IntKind.wrap, IntKind.bits, IntKind.signed]
  have : (2 : Int) ^ 64 = 18446744073709551616 := by decide
  have h2 : (2 : Int) ^ (64 - 1) = 9223372036854775808 := by decide
  simp only [this, h2, Bool.true_and, decide_eq_true_eq]
  split <;> omega
theorem wrapU8_in {n : Int} (h : 0 ≤ n ∧ n ≤ 255) : IntKind.u8.wrap n = n := by
  simp only [IntKind.wrap, IntKind.bits, IntKind.signed]
  have : (2 : Int) ^ 8 = 256 := by decide
  simp only [this, Bool.false_and, Bool.false_eq_true, if_false]
  omega
abbrev R64 (e : Int) (A : Prop) : Prop := XChk (-9223372036854775808 ≤ e ∧ e ≤ 9223372036854775807) A
abbrev R8 (e : Int) (A : Prop) : Prop := XChk (0 ≤ e ∧ e ≤ 255) A
instance add64 {a b : Int} : XStep (XPur P (binOpG .add T x y (.int .i64 a) (.int .i64 b)) K1) (R64 (a + b) (K1 (.int .i64 (a + b)))) := ⟨fun ⟨h, k⟩ => by
  refine .of (fun w => ?_) k; rw [run_guard_int]; simp only [binOp, Op.intArith, wrap64_in h, ne_eq, not_true_eq_false, if_false, run_pure]⟩
instance sub64 {a b : Int} : XStep (XPur P (binOpG .sub T x y (.int .i64 a) (.int .i64 b)) K1) (R64 (a - b) (K1 (.int .i64 (a - b)))) := ⟨fun ⟨h, k⟩ => by
  refine .of (fun w => ?_) k; rw [run_guard_int]; simp only [binOp, Op.intArith, wrap64_in h, ne_eq, not_true_eq_false, if_false, run_pure]⟩
instance mul64 {a b : Int} : XStep (XPur P (binOpG .mul T x y (.int .i64 a) (.int .i64 b)) K1) (R64 (a * b) (K1 (.int .i64 (a * b)))) := ⟨fun ⟨h, k⟩ => by
  refine .of (fun w => ?_) k; rw [run_guard_int]; simp only [binOp, Op.intArith, wrap64_in h, ne_eq, not_true_eq_false, if_false, run_pure]⟩
instance add8 {a b : Int} : XStep (XPur P (binOpG .add T x y (.int .u8 a) (.int .u8 b)) K1) (R8 (a + b) (K1 (.int .u8 (a + b)))) := ⟨fun ⟨h, k⟩ => by
  refine .of (fun w => ?_) k; rw [run_guard_int]; simp only [binOp, Op.intArith, wrapU8_in h, ne_eq, not_true_eq_false, if_false, run_pure]⟩
instance sub8 {a b : Int} : XStep (XPur P (binOpG .sub T x y (.int .u8 a) (.int .u8 b)) K1) (R8 (a - b) (K1 (.int .u8 (a - b)))) := ⟨fun ⟨h, k⟩ => by
  refine .of (fun w => ?_) k; rw [run_guard_int]; simp only [binOp, Op.intArith, wrapU8_in h, ne_eq, not_true_eq_false, if_false, run_pure]⟩
instance quo64 {a b : Int} : XStep (XPur P (binOpG .quo T x y (.int .i64 a) (.int .i64 b)) K1) (XChk (b ≠ 0) (R64 (a.tdiv b) (K1 (.int .i64 (a.tdiv b))))) := ⟨fun ⟨h0, h, k⟩ => by
  refine .of (fun w => ?_) k; rw [run_guard_int]; simp only [binOp, Op.intDiv, if_neg h0, wrap64_in h, ne_eq, not_true_eq_false, if_false, run_pure]⟩
instance rem64 {a b : Int} : XStep (XPur P (binOpG .rem T x y (.int .i64 a) (.int .i64 b)) K1) (XChk (b ≠ 0) (K1 (.int .i64 (a.tmod b)))) := ⟨fun ⟨h0, k⟩ => by
  refine .of (fun w => ?_) k; rw [run_guard_int]; simp only [binOp, Op.intDiv, if_neg h0, ne_eq, not_true_eq_false, if_false, run_pure]⟩
instance eqlInt {k : IntKind} {a b : Int} : XStep (XPur P (binOpG .eql T x y (.int k a) (.int k b)) K1) (K1 (.bool (decide (a = b)))) := ⟨fun k => by
  refine .of (fun w => ?_) k; rw [run_guard_int]; simp only [binOp, Op.intCmp, ne_eq, not_true_eq_false, if_false, run_pure]; congr 2⟩
instance neqInt {k : IntKind} {a b : Int} : XStep (XPur P (binOpG .neq T x y (.int k a) (.int k b)) K1) (K1 (.bool (decide (¬ a = b)))) := ⟨fun k => by
  refine .of (fun w => ?_) k; rw [run_guard_int]; simp only [binOp, Op.intCmp, ne_eq, not_true_eq_false, if_false, run_pure]; congr 2; rw [Bool.eq_iff_iff]; simp⟩
instance lssInt {k : IntKind} {a b : Int} : XStep (XPur P (binOpG .lss T x y (.int k a) (.int k b)) K1) (K1 (.bool (decide (a < b)))) := ⟨fun k => by
  refine .of (fun w => ?_) k; rw [run_guard_int]; simp only [binOp, Op.intCmp, ne_eq, not_true_eq_false, if_false, run_pure]⟩
instance leqInt {k : IntKind} {a b : Int} : XStep (XPur P (binOpG .leq T x y (.int k a) (.int k b)) K1) (K1 (.bool (decide (a ≤ b)))) := ⟨fun k => by
  refine .of (fun w => ?_) k; rw [run_guard_int]; simp only [binOp, Op.intCmp, ne_eq, not_true_eq_false, if_false, run_pure]⟩
instance gtrInt {k : IntKind} {a b : Int} : XStep (XPur P (binOpG .gtr T x y (.int k a) (.int k b)) K1) (K1 (.bool (decide (b < a)))) := ⟨fun k => by
  refine .of (fun w => ?_) k; rw [run_guard_int]; simp only [binOp, Op.intCmp, ne_eq, not_true_eq_false, if_false, run_pure, gt_iff_lt]⟩
instance geqInt {k : IntKind} {a b : Int} : XStep (XPur P (binOpG .geq T x y (.int k a) (.int k b)) K1) (K1 (.bool (decide (b ≤ a)))) := ⟨fun k => by
  refine .of (fun w => ?_) k; rw [run_guard_int]; simp only [binOp, Op.intCmp, ne_eq, not_true_eq_false, if_false, run_pure, ge_iff_le]⟩
instance notStep {b : Bool} : XStep (XPur P (Op.unary .not (.bool b)) K1) (K1 (.bool (!b))) := ⟨fun k => .of (fun _ => rfl) k⟩
instance negStep {n : Int} : XStep (XPur P (Op.unary .neg (.int .i64 n)) K1) (R64 (-n) (K1 (.int .i64 (-n)))) := ⟨fun ⟨h, k⟩ => by
  refine .of (fun w => ?_) k; simp only [Op.unary, Op.intArith, Int.zero_sub, wrap64_in h, run_pure]⟩
instance conv64 {S : TypeId} {q : IntKind} {n : Int} [t : TyInt P T .i64] [s : TyInt P S q] : XStep (XPur P (convert S T (.int q n)) K1) (R64 n (K1 (.int .i64 n))) := ⟨fun ⟨h, k⟩ => by
  refine .of (fun w => ?_) k; simp only [convert, Sem.run_bind, run_underlying t.eq, run_underlying s.eq, Result.andThen, Conv.intToInt, wrap64_in h, run_pure]⟩
instance conv8 {S : TypeId} {q : IntKind} {n : Int} [t : TyInt P T .u8] [s : TyInt P S q] : XStep (XPur P (convert S T (.int q n)) K1) (R8 n (K1 (.int .u8 n))) := ⟨fun ⟨h, k⟩ => by
  refine .of (fun w => ?_) k; simp only [convert, Sem.run_bind, run_underlying t.eq, run_underlying s.eq, Result.andThen, Conv.intToInt, wrapU8_in h, run_pure]⟩

/-! ### Texts -/
theorem beq_dec (a b : List UInt8) : (a == b) = decide (a = b) := by rw [Bool.eq_iff_iff]; simp
theorem run_guard_str (op : BinOp) (a b : ByteArray) : (binOpG op T x y (.string a) (.string b)).run P w = (Op.stringOp op a b).run P w := by
  have : binOp op T (.string a) (.string b) = Op.stringOp op a b := by cases op <;> rfl
  simp only [binOpG, eqGuard, Sem.run_bind, this]
  split <;> simp [Result.andThen, run_pure]
instance eqlStr {a b : List UInt8} : XStep (XPur P (binOpG .eql T x y (.string ⟨a.toArray⟩) (.string ⟨b.toArray⟩)) K1) (K1 (.bool (decide (a = b)))) := ⟨fun k => by
  refine .of (fun w => ?_) k; rw [run_guard_str]; simp only [Op.stringOp, ByteArray.toList_mk, run_pure, beq_dec]⟩
instance neqStr {a b : List UInt8} : XStep (XPur P (binOpG .neq T x y (.string ⟨a.toArray⟩) (.string ⟨b.toArray⟩)) K1) (K1 (.bool (decide (¬ a = b)))) := ⟨fun k => by
  refine .of (fun w => ?_) k; rw [run_guard_str]; simp only [Op.stringOp, ByteArray.toList_mk, run_pure]; congr 2; rw [Bool.eq_iff_iff]; simp⟩
instance addStr {a b : List UInt8} : XStep (XPur P (binOpG .add T x y (.string ⟨a.toArray⟩) (.string ⟨b.toArray⟩)) K1)
    (XChk ((a.length : Int) + b.length ≤ 9223372036854775807) (K1 (.string ⟨(a ++ b).toArray⟩))) := ⟨fun ⟨h, k⟩ => by
  refine .of (fun w => ?_) k; rw [run_guard_str]
  have hm : IntKind.i64.max = 9223372036854775807 := by decide
  have hs (l : List UInt8) : (ByteArray.mk l.toArray).size = l.length := by simp [ByteArray.size]
  simp only [Op.stringOp, hs, hm]
  rw [if_neg (by omega), run_pure]
  congr 2⟩
instance lssStr {a b : List UInt8} : XStep (XPur P (binOpG .lss T x y (.string ⟨a.toArray⟩) (.string ⟨b.toArray⟩)) K1) (K1 (.bool (Op.bytesLess a b))) := ⟨fun k => by
  refine .of (fun w => ?_) k; rw [run_guard_str]; simp only [Op.stringOp, ByteArray.toList_mk, run_pure]⟩
instance gtrStr {a b : List UInt8} : XStep (XPur P (binOpG .gtr T x y (.string ⟨a.toArray⟩) (.string ⟨b.toArray⟩)) K1) (K1 (.bool (!(Op.bytesLess a b || decide (a = b))))) := ⟨fun k => by
  refine .of (fun w => ?_) k; rw [run_guard_str]; simp only [Op.stringOp, ByteArray.toList_mk, run_pure, beq_dec]⟩
instance leqStr {a b : List UInt8} : XStep (XPur P (binOpG .leq T x y (.string ⟨a.toArray⟩) (.string ⟨b.toArray⟩)) K1) (K1 (.bool (Op.bytesLess a b || decide (a = b)))) := ⟨fun k => by
  refine .of (fun w => ?_) k; rw [run_guard_str]; simp only [Op.stringOp, ByteArray.toList_mk, run_pure, beq_dec]⟩
instance geqStr {a b : List UInt8} : XStep (XPur P (binOpG .geq T x y (.string ⟨a.toArray⟩) (.string ⟨b.toArray⟩)) K1) (K1 (.bool (!(Op.bytesLess a b)))) := ⟨fun k => by
  refine .of (fun w => ?_) k; rw [run_guard_str]; simp only [Op.stringOp, ByteArray.toList_mk, run_pure]⟩
instance lenStr {l : List UInt8} {ty : TypeId} [t : TyStr P T] : XStep (XPur P (Builtin.len_ #[T] ty (List.toArray [.string ⟨l.toArray⟩])) K1) (K1 (.int .i64 l.length)) := ⟨fun k => by
  refine .of (fun w => ?_) k
  have hs : (ByteArray.mk l.toArray).size = l.length := by simp [ByteArray.size]
  simp [Builtin.len_, Sem.run_bind, run_underlying t.eq, Result.andThen, hs, goInt, run_pure]⟩
instance lenSlice {a : Option Addr} {n c : Nat} {e ty : TypeId} [t : TySlice P T e] : XStep (XPur P (Builtin.len_ #[T] ty (List.toArray [.slice a n c])) K1) (K1 (.int .i64 n)) := ⟨fun k => by
  refine .of (fun w => ?_) k
  simp [Builtin.len_, Sem.run_bind, run_underlying t.eq, Result.andThen, goInt, run_pure]⟩
instance indexStr {l : List UInt8} {q : IntKind} {i : Int} {k : Nat} [t : TyStr P T] [hk : NatOf i k] :
    XStep (XPur P (Instr.index T (.string ⟨l.toArray⟩) (.int q i)) K1) (XChk (0 ≤ i ∧ i < (l.length : Int)) (K1 (.int .u8 ((l.getD k 0).toNat : Int)))) := ⟨fun ⟨hi, k'⟩ => by
  refine .of (fun w => ?_) k'
  have hlt : i.toNat < l.length := by omega
  have hg : (ByteArray.mk l.toArray)[i.toNat]? = some (l.getD k 0) := by
    rw [← hk.eq]
    have hs : i.toNat < (ByteArray.mk l.toArray).size := by simpa [ByteArray.size] using hlt
    rw [getElem?_pos (ByteArray.mk l.toArray) i.toNat hs]
    congr 1
    show (List.toArray l)[i.toNat] = _
    simp [List.getD, hlt]
  simp only [Instr.index, Sem.run_bind, asIntOf, run_pure, run_underlying t.eq, Result.andThen, hi.1, if_true, hg]⟩
/-- the component of a tuple -/
instance extractStep {vs : List Value} {i : Nat} : XStep (XPur P (Instr.extract (.tuple vs.toArray) i) K1) (ldK vs i fun v => K1 v) := ⟨fun k => by
  obtain ⟨v, hv, k⟩ := ldK_ex k
  refine .of (fun w => ?_) k
  simp [Instr.extract, hv, run_pure]⟩
theorem bound_run {i : Int} {q : IntKind} {yy : Nat} (h : 0 ≤ i ∧ i ≤ (yy : Int)) (code : BoundsCode) : (Instr.sliceBound (.int q i) yy code).run P w = .ok i.toNat w := by
  simp only [Instr.sliceBound, Sem.run_bind, asIntOf, run_pure, Result.andThen, h, and_self, if_true]
/- slices of texts -/
theorem bounds_lo {i : Int} {q : IntKind} {len cap : Nat} {b : Bool} (h : 0 ≤ i ∧ i ≤ (len : Int)) :
    (Instr.sliceBounds b len cap (some (.int q i)) none none).run P w = .ok (i.toNat, len, cap) w := by
  have hb : ∀ c, (Instr.sliceBound (.int q i) len c).run P w = .ok i.toNat w := bound_run h
  simp [Instr.sliceBounds, Sem.run_bind, Result.andThen, run_pure, hb]
theorem bounds_hi {i : Int} {q : IntKind} {len cap : Nat} {b : Bool} (h : 0 ≤ i ∧ i ≤ (cap : Int)) :
    (Instr.sliceBounds b len cap none (some (.int q i)) none).run P w = .ok (0, i.toNat, cap) w := by
  have hb : ∀ c, (Instr.sliceBound (.int q i) cap c).run P w = .ok i.toNat w := bound_run h
  simp [Instr.sliceBounds, Sem.run_bind, Result.andThen, run_pure, hb]
theorem bounds_both {i j : Int} {q q' : IntKind} {len cap : Nat} {b : Bool} (h : 0 ≤ i ∧ i ≤ j ∧ j ≤ (cap : Int)) :
    (Instr.sliceBounds b len cap (some (.int q i)) (some (.int q' j)) none).run P w = .ok (i.toNat, j.toNat, cap) w := by
  have h1 : 0 ≤ j ∧ j ≤ (cap : Int) := ⟨by omega, h.2.2⟩
  have h2 : 0 ≤ i ∧ i ≤ ((j.toNat : Nat) : Int) := ⟨h.1, by omega⟩
  have hb1 : ∀ c, (Instr.sliceBound (.int q' j) cap c).run P w = .ok j.toNat w := bound_run h1
  have hb2 : ∀ c, (Instr.sliceBound (.int q i) j.toNat c).run P w = .ok i.toNat w := bound_run h2
  simp [Instr.sliceBounds, Sem.run_bind, Result.andThen, run_pure, hb1, hb2]
theorem bounds_none {len cap : Nat} {b : Bool} : (Instr.sliceBounds b len cap none none none).run P w = .ok (0, len, cap) w := by
  simp [Instr.sliceBounds, Sem.run_bind, Result.andThen, run_pure]
theorem str_extract (l : List UInt8) (a b : Nat) : (ByteArray.mk l.toArray).extract a b = ⟨((l.drop a).take (b - a)).toArray⟩ := by
  apply ByteArray.ext
  simp [List.take_drop, List.extract_eq_take_drop]
theorem str_size (l : List UInt8) : (ByteArray.mk l.toArray).size = l.length := by simp [ByteArray.size]
theorem sliceAt_str (l : List UInt8) (lo hi mx : Option Value) [t : TyStr P T] : (Instr.sliceAt T (.string ⟨l.toArray⟩) lo hi mx).run P w = (Instr.slice T (.string ⟨l.toArray⟩) lo hi mx).run P w := by
  simp only [Instr.sliceAt, Sem.run_bind, run_underlying t.eq, Result.andThen]
instance sliceStrLo {l : List UInt8} {q : IntKind} {i : Int} {k : Nat} [t : TyStr P T] [hk : NatOf i k] :
    XStep (XPur P (Instr.sliceAt T (.string ⟨l.toArray⟩) (some (.int q i)) none none) K1) (XChk (0 ≤ i ∧ i ≤ (l.length : Int)) (K1 (.string ⟨(l.drop k).toArray⟩))) := ⟨fun ⟨hi, k'⟩ => by
  refine .of (fun w => ?_) k'
  rw [sliceAt_str]
  simp only [Instr.slice, Sem.run_bind, run_underlying t.eq, Result.andThen, run_pure, str_size, bounds_lo hi, Option.isSome_none, Bool.false_eq_true, if_false]
  rw [str_extract, hk.eq, List.take_of_length_le (by simp)]⟩
instance sliceStrHi {l : List UInt8} {q : IntKind} {i : Int} {k : Nat} [t : TyStr P T] [hk : NatOf i k] :
    XStep (XPur P (Instr.sliceAt T (.string ⟨l.toArray⟩) none (some (.int q i)) none) K1) (XChk (0 ≤ i ∧ i ≤ (l.length : Int)) (K1 (.string ⟨(l.take k).toArray⟩))) := ⟨fun ⟨hi, k'⟩ => by
  refine .of (fun w => ?_) k'
  rw [sliceAt_str]
  simp only [Instr.slice, Sem.run_bind, run_underlying t.eq, Result.andThen, run_pure, str_size, bounds_hi hi, Option.isSome_none, Bool.false_eq_true, if_false]
  rw [str_extract, hk.eq]; rfl⟩
instance sliceStrBoth {l : List UInt8} {q q' : IntKind} {i j : Int} {k m : Nat} [t : TyStr P T] [hk : NatOf i k] [hm : NatOf j m] :
    XStep (XPur P (Instr.sliceAt T (.string ⟨l.toArray⟩) (some (.int q i)) (some (.int q' j)) none) K1)
      (XChk (0 ≤ i ∧ i ≤ j ∧ j ≤ (l.length : Int)) (K1 (.string ⟨((l.drop k).take (m - k)).toArray⟩))) := ⟨fun ⟨hi, k'⟩ => by
  refine .of (fun w => ?_) k'
  rw [sliceAt_str]
  simp only [Instr.slice, Sem.run_bind, run_underlying t.eq, Result.andThen, run_pure, str_size, bounds_both hi, Option.isSome_none, Bool.false_eq_true, if_false]
  rw [str_extract, hk.eq, hm.eq]⟩
/- slices of slices -/
theorem sliceAt_sl {e : TypeId} (x : Value) (lo hi mx : Option Value) [t : TySlice P T e] : (Instr.sliceAt T x lo hi mx).run P w = (Instr.slice T x lo hi mx).run P w := by
  simp only [Instr.sliceAt, Sem.run_bind, run_underlying t.eq, Result.andThen]
instance sliceSlHi {e sz by' : Nat} {z : List Value} {a : Option Addr} {n c : Nat} {q : IntKind} {i : Int} {k : Nat} [t : TySlice P T e] [te : TyElem P e z sz by'] [hk : NatOf i k] :
    XStep (XPur P (Instr.sliceAt T (.slice a n c) none (some (.int q i)) none) K1) (XChk (0 ≤ i ∧ i ≤ (c : Int)) (K1 (.slice a k c))) := ⟨fun ⟨hi, k'⟩ => by
  refine .of (fun w => ?_) k'
  obtain ⟨ii, zz, h1, h2, h3, h4, h5, h6, h7⟩ := te.ex
  have hs : (sizeOf e).run P w = .ok sz w := by rw [run_sizeOf w h1, Program.cellsOf, h1]; simp [h4]
  rw [sliceAt_sl]
  simp only [Instr.slice, Sem.run_bind, run_underlying t.eq, Result.andThen, run_pure, bounds_hi hi, hs, hk.eq, Nat.zero_mul, Nat.sub_zero]
  congr 2
  split
  · rfl
  · cases a <;> rfl⟩
/-- where a piece of a slice lies -/
structure PieceAt (b o c k sz b' o' : Nat) : Prop where
  eq : b' = b
  at_ : c ≠ k → o' = o + k * sz
theorem run_slicePiece {e sz by' : Nat} {z : List Value} {b o n c : Nat} {lo hi : Option Value} {l h : Nat} [t : TySlice P T e] [te : TyElem P e z sz by']
    (hb : ∀ w, (Instr.sliceBounds true n c lo hi none).run P w = .ok (l, h, c) w) :
    ∃ b' o', PieceAt b o c l sz b' o' ∧ ∀ w, (Instr.sliceAt T (.slice (some ⟨b, o, none⟩) n c) lo hi none).run P w = .ok (.slice (some ⟨b', o', none⟩) (h - l) (c - l)) w := by
  obtain ⟨ii, zz, h1, h2, h3, h4, h5, h6, h7⟩ := te.ex
  have hs (w : World) : (sizeOf e).run P w = .ok sz w := by rw [run_sizeOf w h1, Program.cellsOf, h1]; simp [h4]
  by_cases hc : c = l
  · refine ⟨b, o, ⟨rfl, fun h => absurd hc h⟩, fun w => ?_⟩
    rw [sliceAt_sl]
    simp only [Instr.slice, Sem.run_bind, run_underlying t.eq, Result.andThen, run_pure, hb, hs]
    rw [if_pos hc]
  · refine ⟨b, o + l * sz, ⟨rfl, fun _ => rfl⟩, fun w => ?_⟩
    rw [sliceAt_sl]
    simp only [Instr.slice, Sem.run_bind, run_underlying t.eq, Result.andThen, run_pure, hb, hs]
    rw [if_neg hc]
    simp only [Option.map_some, add_none]
instance sliceSlLo {e sz by' : Nat} {z : List Value} {b o n c : Nat} {q : IntKind} {i : Int} {k : Nat} [t : TySlice P T e] [te : TyElem P e z sz by'] [hk : NatOf i k] :
    XStep (XPur P (Instr.sliceAt T (.slice (some ⟨b, o, none⟩) n c) (some (.int q i)) none none) K1)
      (XChk (0 ≤ i ∧ i ≤ (n : Int)) (∀ b' o', PieceAt b o c k sz b' o' → K1 (.slice (some ⟨b', o', none⟩) (n - k) (c - k)))) := ⟨fun ⟨hi, k'⟩ => by
  obtain ⟨b', o', hp, hr⟩ := run_slicePiece (P := P) (T := T) (e := e) (sz := sz) (z := z) (by' := by') (b := b) (o := o) (fun _ => bounds_lo (b := true) (cap := c) (q := q) hi)
  rw [hk.eq] at hp hr
  exact .of hr (k' _ _ hp)⟩
instance sliceSlBoth {e sz by' : Nat} {z : List Value} {b o n c : Nat} {q q' : IntKind} {i j : Int} {k m : Nat} [t : TySlice P T e] [te : TyElem P e z sz by'] [hk : NatOf i k] [hm : NatOf j m] :
    XStep (XPur P (Instr.sliceAt T (.slice (some ⟨b, o, none⟩) n c) (some (.int q i)) (some (.int q' j)) none) K1)
      (XChk (0 ≤ i ∧ i ≤ j ∧ j ≤ (c : Int)) (∀ b' o', PieceAt b o c k sz b' o' → K1 (.slice (some ⟨b', o', none⟩) (m - k) (c - k)))) := ⟨fun ⟨hi, k'⟩ => by
  obtain ⟨b', o', hp, hr⟩ := run_slicePiece (P := P) (T := T) (e := e) (sz := sz) (z := z) (by' := by') (b := b) (o := o) (n := n) (fun _ => bounds_both (b := true) (len := n) (q := q) (q' := q') hi)
  rw [hk.eq, hm.eq] at hr
  rw [hk.eq] at hp
  exact .of hr (k' _ _ hp)⟩
end numbers

/-! ### Calls -/
structure XApp (P : Program) (g : FuncId) (args : List Value) (w : World) (K : KV) : Prop where
  calls : CallsIn (Fw none) 0 P g args.toArray w (Ret K)
class FnOk (P : Program) (g : FuncId) : Prop where
  ex : ∃ fn, P.funcs[g]? = some fn ∧ (fn.name == "runtime.NumGoroutine") = false ∧ fn.body.isNone = false
theorem XApp.of {P : Program} {g : FuncId} {fn : Func} {args : List Value} {w : World} {K : KV} (hf : P.funcs[g]? = some fn) (h : xfun P fn args w K) : XApp P g args w K :=
  ⟨callsIn_of_x hf h⟩
theorem XApp.mono {P : Program} {g : FuncId} {args : List Value} {w : World} {K K' : KV} (h : XApp P g args w K) (hk : ∀ v w', K v w' → K' v w') : XApp P g args w K' :=
  ⟨CallsIn.mono h.calls fun e w' he => by
    cases e with
    | returned v => exact hk _ _ he
    | _ => exact he⟩
theorem XApp.inRound {P : Program} {g : FuncId} {args : List Value} {w : World} {K : KV} (ro : Option Nat) (h : XApp P g args w K) : CallsIn (Fw ro) 0 P g args.toArray w (Ret K) := by
  cases ro with
  | none => exact h.calls
  | some l => exact CallsIn.inRound l h.calls
theorem run_callFunc {P : Program} {g : FuncId} [h : FnOk P g] (args : Array Value) (w : World) : (callFunc g args).run P w = .ok (.enter g args) w := by
  obtain ⟨fn, hf, h1, h2⟩ := h.ex
  simp only [callFunc, Sem.run_bind]
  show Result.andThen (Result.ok P w) _ = _
  simp only [Result.andThen, hf, h1, h2, Bool.false_eq_true, if_false]
  rfl
def appsK {α : Type} (z l : List Value) (K : List Value → α) : α :=
  match z with
  | [] => K l
  | x :: z => appsK z l fun r => K (x :: r)
theorem appsK_eq {α : Type} (z l : List Value) (K : List Value → α) : appsK z l K = K (z ++ l) := by
  induction z generalizing K with
  | nil => rfl
  | cons x z ih => simp [appsK, ih]
instance callStep {P : Program} {ro : Option Nat} {g : FuncId} {fs cs as : List Value} {w : World} {K : KV} [FnOk P g] :
    XStep (XCall P ro (.func (.func g) fs.toArray cs.toArray) as w K) (appsK fs as fun l => appsK l cs fun l => XApp P g l w K) := ⟨fun h => by
  rw [appsK_eq, appsK_eq] at h
  refine ⟨?_⟩
  have e : (callSem (.func (.func g) fs.toArray cs.toArray) as).run P w = .ok (.enter g (fs ++ as ++ cs).toArray) w := by
    simp only [callSem, Deferred.ofValue, Sem.run_bind, run_pure, Result.andThen, invoke, run_callFunc]
    simp
  rw [e]
  exact h.inRound ro⟩

end Go.X
