/- Ranges over functions: the loop's record is a block of one's own; a round is walked where yield is called. -/
import Derived.Test.YtpbijnigkhjkmaaGreatXc
import Derived.RangeFuncRecord
import Derived.Laws.StructEq
namespace Go.X
set_option linter.unusedSimpArgs false
set_option linter.unusedSectionVars false
set_option linter.unusedVariables false

abbrev loopO (st : LoopState) (pd : Option Code) (fn : FuncId) (t : List Value) (ps : Array Tmp) (a b : Code) (D : Nat) : Obj :=
  .loop { state := st, pending := pd, fn := fn, tmps := t.toArray, params := ps, assign := a, body := b, defers := D }
def markOf : Option Nat → Nat → List Deferred
  | none, D => [{ target := .collected D, args := #[] }]
  | some _, _ => []
structure XEndLoop (P : Program) (ro : Option Nat) (l : Nat) (t : List Value) (ds : List Deferred) (w : World) (Kn : KW) (Ke : KE) : Prop where
  ex : ∃ jump w4, (Instr.endLoop l).run P w = .ok jump w4 ∧ match jump with
    | none => Kn t ds w4
    | some c => xcode P ro c t ds w4 Kn Ke
structure XBegin (P : Program) (l : Nat) (w : World) (K : World → Prop) : Prop where
  ex : ∃ w', (Instr.beginRound l).run P w = .ok () w' ∧ K w'
structure XEndR (P : Program) (l : Nat) (jump : Option Code) (w : World) (K : KV) : Prop where
  ex : ∃ v w', (Instr.endRound l jump).run P w = .ok v w' ∧ K v w'
def endE (P : Program) (l : Nat) (K : KV) : KE := fun e _ _ w => match e with
  | .ret => XEndR P l (some .ret) w K
  | .exit i => XEndR P l (some (.exit i)) w K
  | .goto i => XEndR P l (some (.goto i)) w K
  | _ => XBad "round"
def noE : KE := fun _ _ _ _ => XBad "round's assignment"
/-- yield's arguments in the round's frame -/
def ysetK {α : Type} : List Nat → List Value → List Value → (List Value → α) → α
  | p :: ps, v :: vs, t, K => setK t p v fun t => ysetK ps vs t K
  | _, _, t, K => K t
theorem ysetK_eq {α : Type} (ps : List Nat) : ∀ (vs t : List Value) (K : List Value → α), ysetK ps vs t K = K ((ps.zip vs).foldl (fun t p => t.set p.1 p.2) t) := by
  induction ps with
  | nil => intro vs t K; cases vs <;> rfl
  | cons p ps ih =>
    intro vs t K
    cases vs with
    | nil => rfl
    | cons v vs => rw [ysetK, setK_eq, ih]; rfl
theorem yset_arr (l : List (Nat × Value)) : ∀ (t : List Value), l.foldl (fun (a : Array Value) p => a.setIfInBounds p.1 p.2) t.toArray = (l.foldl (fun t p => t.set p.1 p.2) t).toArray := by
  induction l with
  | nil => intro t; rfl
  | cons p l ih => intro t; simp only [List.foldl_cons, List.setIfInBounds_toArray, ih]

section
variable {P : Program} {ro : Option Nat} {w : World} {I : Im} {L L' : Heap}
theorem run_setObj' {b : Nat} {o : Obj} (hb : ∃ r, w.heap[b]? = some (.loop r)) (o' : Obj) : (setObj b o').run P w = .ok () { w with heap := w.heap.setIfInBounds b o' } := by
  obtain ⟨r, h⟩ := hb
  simp [setObj, Sem.run, h]
theorem XRound.of {l : Nat} {fn : FuncId} {t : List Value} {a b : Code} {w : World} {K : KV}
    (h : xcode P (some l) a t [] w (fun t ds w1 => XBegin P l w1 fun w2 => xcode P (some l) b t ds w2 (fun _ _ w => XEndR P l none w K) (endE P l K)) noE) :
    RoundIn (Fw ro) 0 P l fn t.toArray a b w (Ret K) := by
  refine roundIn_of_wpIn trivial ?_
  have := xcode_sound a _ _ _ _ _ h
  refine wpIn_mono this ?_
  intro e a1 w1 he
  cases e with
  | normal =>
    obtain ⟨w2, hb, hk⟩ := XBegin.ex he
    refine ⟨w2, hb, ?_⟩
    have := xcode_sound b _ _ _ _ _ hk
    refine wpIn_mono this ?_
    intro e a2 w3 he2
    cases e with
    | normal => exact XEndR.ex he2
    | ret => exact XEndR.ex he2
    | exit i => exact XEndR.ex he2
    | goto i => exact XEndR.ex he2
    | panic => exact he2.elim
    | outgrown => exact he2.elim
  | ret => exact nomatch he
  | exit i => exact nomatch he
  | goto i => exact nomatch he
  | panic => exact he.elim
  | outgrown => exact he.elim
instance yieldStep {l : Nat} {st : LoopState} {pd : Option Code} {fn : FuncId} {t : List Value} {ps : Array Tmp} {a b : Code} {D : Nat} {as : List Value} {K : KV} [h : HH w I L] [o : Own L l (loopO st pd fn t ps a b D)] :
    XStep (XCall P ro (.func (.yield l) #[] #[]) as w K)
      (match Nat.beq as.length ps.toList.length with
       | true => ysetK ps.toList as t fun t => xcode P (some l) a t [] w (fun t ds w1 => XBegin P l w1 fun w2 => xcode P (some l) b t ds w2 (fun _ _ w => XEndR P l none w K) (endE P l K)) noE
       | false => XBad "yield") := ⟨fun k => by
  split at k
  · rename_i hb
    have hlen := Nat.eq_of_beq_eq_true hb
    have hl := h.own _ _ o.mem
    rw [ysetK_eq] at k
    refine ⟨?_⟩
    have e : (callSem (.func (.yield l) #[] #[]) as).run P w = .ok (.round l fn ((ps.toList.zip as).foldl (fun t p => t.set p.1 p.2) t).toArray a b) w := by
      have hy := run_yield (P := P) (w := w) (l := l) (args := as.toArray) hl (by simp [hlen])
      simp only [callSem, Deferred.ofValue, Sem.run_bind, run_pure, Result.andThen, invoke]
      have e1 : (#[] ++ as.toArray : Array Value) = as.toArray := by simp
      try simp only [Array.append_empty]
      rw [e1, hy]
      congr 2
      rw [← yset_arr]
      rw [← Array.foldl_toList]
      congr 1
      simp
    rw [e]
    exact XRound.of k
  · exact nomatch k⟩
instance beginStep {l : Nat} {pd : Option Code} {fn : FuncId} {t : List Value} {ps : Array Tmp} {a b : Code} {D : Nat} {K : World → Prop} [h : HH w I L] [o : Own L l (loopO .ready pd fn t ps a b D)] [u : Upd L l (loopO .busy pd fn t ps a b D) L'] :
    XStep (XBegin P l w K) (∀ w', HH w' I L' → K w') := ⟨fun k => by
  have hl := h.own _ _ o.mem
  exact ⟨_, run_beginRound hl rfl, k _ (h.put u _ rfl rfl rfl rfl)⟩⟩
instance endRNone {l : Nat} {st : LoopState} {pd : Option Code} {fn : FuncId} {t : List Value} {ps : Array Tmp} {a b : Code} {D : Nat} {K : KV} [h : HH w I L] [o : Own L l (loopO st pd fn t ps a b D)] [u : Upd L l (loopO .ready none fn t ps a b D) L'] :
    XStep (XEndR P l none w K) (∀ w', HH w' I L' → K (.bool true) w') := ⟨fun k => by
  have hl := h.own _ _ o.mem
  exact ⟨_, _, run_endRound none hl, k _ (h.put u _ rfl rfl rfl rfl)⟩⟩
instance endRSome {l : Nat} {st : LoopState} {pd : Option Code} {fn : FuncId} {t : List Value} {ps : Array Tmp} {a b : Code} {D : Nat} {c : Code} {K : KV} [h : HH w I L] [o : Own L l (loopO st pd fn t ps a b D)] [u : Upd L l (loopO .done (some c) fn t ps a b D) L'] :
    XStep (XEndR P l (some c) w K) (∀ w', HH w' I L' → K (.bool false) w') := ⟨fun k => by
  have hl := h.own _ _ o.mem
  exact ⟨_, _, run_endRound (some c) hl, k _ (h.put u _ rfl rfl rfl rfl)⟩⟩
/-- the loop is over: nothing is pending -/
instance endLoopR {l : Nat} {fn : FuncId} {t0 : List Value} {ps : Array Tmp} {a b : Code} {D : Nat} {t : List Value} {ds : List Deferred} {Kn : KW} {Ke : KE} [h : HH w I L] [o : Own L l (loopO .ready none fn t0 ps a b D)] [u : Upd L l (loopO .exhausted none fn t0 ps a b D) L'] :
    XStep (XEndLoop P ro l t ds w Kn Ke) (∀ w', HH w' I L' → Kn t ds w') := ⟨fun k => by
  have hl := h.own _ _ o.mem
  exact ⟨_, _, run_endLoop hl (by simp), k _ (h.put u _ rfl rfl rfl rfl)⟩⟩
instance endLoopD {l : Nat} {fn : FuncId} {t0 : List Value} {ps : Array Tmp} {a b c : Code} {D : Nat} {t : List Value} {ds : List Deferred} {Kn : KW} {Ke : KE} [h : HH w I L] [o : Own L l (loopO .done (some c) fn t0 ps a b D)] [u : Upd L l (loopO .exhausted (some c) fn t0 ps a b D) L'] :
    XStep (XEndLoop P ro l t ds w Kn Ke) (∀ w', HH w' I L' → xcode P ro c t ds w' Kn Ke) := ⟨fun k => by
  have hl := h.own _ _ o.mem
  exact ⟨_, _, run_endLoop hl (by simp), k _ (h.put u _ rfl rfl rfl rfl)⟩⟩
/-- the mark of the rounds' deferred calls, of which there are none -/
instance takeStep {D : Nat} {K : World → Prop} [h : HH w I L] [o : Own L D (.deferred (some []))] [u : Upd L D (.deferred none) L'] : XStep (XTake P D w K) (∀ w', HH w' I L' → K w') := ⟨fun k => by
  have hl := h.own _ _ o.mem
  exact ⟨_, run_takeDeferred hl, k (w.putObj D (.deferred none)) (h.put u _ rfl rfl rfl rfl)⟩⟩
structure XEnter (P : Program) (ro : Option Nat) (t : List Value) (ps : Array Tmp) (a b : Code) (w : World) (K : Nat → List Deferred → World → Prop) : Prop where
  ex : ∀ fn, ∃ l mark w1, (Instr.enterLoop fn t.toArray ps a b ro).run P w = .ok (l, mark) w1 ∧ K l mark w1
structure XRgo (P : Program) (f : FuncId) (fs cs : List Value) (l : Nat) (w : World) (K : World → Prop) : Prop where
  fn : FnOk P f
  app : XApp P f (fs ++ [.func (.yield l) #[] #[]] ++ cs) w fun _ w => K w
instance rgoStep {f : FuncId} {fs cs : List Value} {l : Nat} {K : World → Prop} [fo : FnOk P f] :
    XStep (XRgo P f fs cs l w K) (appsK fs [.func (.yield l) #[] #[]] fun l => appsK l cs fun l => XApp P f l w fun _ w => K w) := ⟨fun h => by
  rw [appsK_eq, appsK_eq] at h
  exact ⟨fo, h⟩⟩
instance enterOuter {t : List Value} {ps : Array Tmp} {a b : Code} {K : Nat → List Deferred → World → Prop} [h : HH w I L] :
    XStep (XEnter P none t ps a b w K) (∀ fn D l w', HH w' I ((l, loopO .ready none fn t ps a b D) :: (D, .deferred (some [])) :: L) → K l [{ target := .collected D, args := #[] }] w') := ⟨fun k => ⟨fun fn => by
  refine ⟨_, _, _, run_enterLoop_outer fn t.toArray ps a b, ?_⟩
  exact k fn w.heap.size (w.heap.size + 1) _ (by
    have h1 := h.new (.deferred (some []))
    have h2 := h1.new (loopO .ready none fn t ps a b w.heap.size)
    have e : ({ w with heap := w.heap.push (.deferred (some [])) } : World).heap.size = w.heap.size + 1 := by simp
    rw [e] at h2
    exact h2)⟩⟩
instance enterInner {l0 : Nat} {st : LoopState} {pd : Option Code} {fn0 : FuncId} {t0 t : List Value} {ps0 ps : Array Tmp} {a0 b0 a b : Code} {D : Nat} {K : Nat → List Deferred → World → Prop} [h : HH w I L] [o : Own L l0 (loopO st pd fn0 t0 ps0 a0 b0 D)] :
    XStep (XEnter P (some l0) t ps a b w K) (∀ fn l w', HH w' I ((l, loopO .ready none fn t ps a b D) :: L) → K l [] w') := ⟨fun k => ⟨fun fn => by
  have hl := h.own _ _ o.mem
  refine ⟨w.heap.size, [], { w with heap := w.heap.push (loopO .ready none fn t ps a b D) }, ?_, k fn _ _ (h.new _)⟩
  unfold Instr.enterLoop
  simp only [Sem.run_bind, run_getLoop hl, Result.andThen, Sem.run_pure, newObj, Sem.run]⟩⟩
instance rangeStep {g : Operand} {ps : Array Tmp} {a b : Code} {t : List Value} {ds : List Deferred} {Kn : KW} {Ke : KE} :
    XStep (XCode P ro (.rangeFunc g ps a b) t ds w Kn Ke) (evK t g fun v => match v with
      | .func (.func f) fs cs => XEnter P ro t ps a b w fun l mark w1 => XRgo P f fs.toList cs.toList l w1 fun w3 => XEndLoop P ro l t (mark ++ ds) w3 Kn Ke
      | _ => XBad "range over no function") := ⟨fun h => by
  rw [evK_eq t ds] at h
  split at h
  · rename_i f fs cs hv
    refine ⟨wpIn_rangeFunc fun fn _ => ?_⟩
    obtain ⟨l, mark, w1, he, hk⟩ := h.ex fn
    obtain ⟨hfn, happ⟩ := hk
    refine ⟨l, mark, w1, { target := .fn (.func f) cs, args := fs ++ #[Value.func (.yield l) #[] #[]] }, w1, f, (fs.toList ++ [Value.func (.yield l) #[] #[]] ++ cs.toList).toArray, w1, he, ?_, fun _ _ => trivial, ?_, fun h => by simp [Fw, Fence.wide] at h, ?_⟩
    · show Sem.run P (Deferred.ofValue (Act.eval { tmps := t.toArray, defers := ds } g) (Array.map _ #[Operand.const (Value.func (.yield l) #[] #[])])) w1 = _
      rw [hv]
      simp [Deferred.ofValue, run_pure, Act.eval]
    · have e1 : (fs ++ #[Value.func (.yield l) #[] #[]] ++ cs) = (fs.toList ++ [Value.func (.yield l) #[] #[]] ++ cs.toList).toArray := by
        apply Array.ext'; simp
      simp only [invoke]
      rw [← e1]
      exact run_callFunc _ _
    · refine (happ.inRound ro).mono ?_
      intro e w3 he
      cases e with
      | returned v =>
        obtain ⟨jump, w4, h1, h2⟩ := XEndLoop.ex he
        refine ⟨jump, w4, h1, ?_⟩
        cases jump with
        | none => exact h2
        | some c => exact xcode_sound c _ _ _ _ _ h2
      | panicked => exact he.elim
      | outgrown => exact he.elim
  · exact nomatch h⟩
end
end Go.X

/- Rows of one's own, read and written in place; borrowing; structs that are compared; more appends. -/
namespace Go.X
set_option linter.unusedSimpArgs false
set_option linter.unusedSectionVars false
set_option linter.unusedVariables false

/-! ### Borrowing: what is of our own is lent to who reads it -/
theorem HH.thaw {w : World} {I : Im} {L : Heap} {b : Nat} {o : Obj} (h : HH w (I.add b o) L) (hI : I.at_ b = none) (hb : b ∉ L.map (·.1)) : HH w I ((b, o) :: L) where
  imm c p hc := by
    have : c ≠ b := by rintro rfl; rw [hI] at hc; cases hc
    exact h.imm c p (by simp [Im.add, this, hc])
  own c p hc := by
    rcases List.mem_cons.1 hc with e | hc
    · cases e; exact h.imm b o (by simp [Im.add])
    · exact h.own c p hc
  disj c p hc := by
    rcases List.mem_cons.1 hc with e | hc
    · cases e; exact hI
    · have := h.disj c p hc
      by_cases e : c = b
      · subst e; simp [Im.add] at this
      · simpa [Im.add, e] using this
  nodup := by simpa using ⟨by simpa using hb, h.nodup⟩
  os := h.os
  tape := h.tape
  output := h.output
section
variable {α : Type} {T : TypeId} {sz : Nat} {enc : α → List Value} {xs : List α} {E L R : Heap} {a : Option Addr} {cap : Nat} {w : World} {I : Im}
theorem SO.lend (s : SO T a cap sz enc xs E) (h : HH w I (E ++ R)) : ∃ I', I.Le I' ∧ HH w I' R ∧ SlA I' a sz enc xs ∧ xs.length ≤ cap ∧ ∀ w', HH w' I' R → HH w' I (E ++ R) := by
  rcases s.ex with ⟨rfl, rfl, rfl, rfl⟩ | ⟨b, junk, rfl, rfl, hl, hc, hs⟩
  · exact ⟨I, Im.Le.refl I, by simpa using h, SlA.nil, by simp, fun w' h' => by simpa using h'⟩
  · have h0 : HH w I ((b, oc ((xs.map enc).flatten ++ junk) T) :: R) := h
    obtain ⟨h1, h2, h3⟩ := HH.freeze h0
    have hI := h0.disj b _ (List.mem_cons_self ..)
    have hn : b ∉ R.map (·.1) := by have := h0.nodup; simp only [List.map_cons, List.nodup_cons] at this; exact this.1
    exact ⟨_, h2, h1, ⟨.inr ⟨b, 0, rfl, ⟨_, _, _, h3.eq, fun k x hx => ⟨hs x (List.mem_of_getElem? hx), fun j v hv => by simpa using flat_get hs hx hv junk⟩⟩⟩⟩, hc, fun w' h' => h'.thaw hI hn⟩
/-- a whole row in a block -/
def rowO {α : Type} (T : TypeId) (enc : α → List Value) (xs : List α) (junk : List Value) : Obj := oc ((xs.map enc).flatten ++ junk) T
class RowOk (b : Nat) (cap : outParam Nat) {α : Type} (sz : outParam Nat) (enc : α → List Value) (xs : List α) (junk : List Value) : Prop where
  len : ((xs.map enc).flatten ++ junk).length = cap * sz
  cap : xs.length ≤ cap
  sz : ∀ x ∈ xs, (enc x).length = sz
theorem SO.open (s : SO T a cap sz enc xs E) (h : HH w I (E ++ R)) (hx : xs ≠ []) : ∃ b junk, a = some ⟨b, 0, none⟩ ∧ HH w I ((b, rowO T enc xs junk) :: R) ∧ RowOk b cap sz enc xs junk := by
  rcases s.ex with ⟨rfl, rfl, rfl, rfl⟩ | ⟨b, junk, rfl, rfl, hl, hc, hs⟩
  · exact absurd rfl hx
  · exact ⟨b, junk, rfl, h, ⟨hl, hc, hs⟩⟩
theorem RowOk.so {b : Nat} {junk : List Value} (r : RowOk b cap sz enc xs junk) : SO T (some ⟨b, 0, none⟩) cap sz enc xs [(b, rowO T enc xs junk)] := ⟨.inr ⟨b, junk, rfl, rfl, r.len, r.cap, r.sz⟩⟩
end
theorem soFrz {α : Type} {T : TypeId} {sz : Nat} {enc : α → List Value} {xs : List α} {E R L : Heap} {a : Option Addr} {cap : Nat} (s : SO T a cap sz enc xs E) {w : World} {I : Im} [h : HH w I L] [sp : Split L E R] :
    ∃ I', I.Le I' ∧ HH w I' R ∧ SlA I' a sz enc xs ∧ xs.length ≤ cap := s.freeze (h.perm sp.perm)
theorem soCap {α : Type} {T : TypeId} {sz : Nat} {enc : α → List Value} {xs : List α} {E : Heap} {a : Option Addr} {cap : Nat} (s : SO T a cap sz enc xs E) : xs.length ≤ cap := by
  rcases s.ex with ⟨rfl, rfl, rfl, rfl⟩ | ⟨b, junk, rfl, rfl, hl, hc, hs⟩
  · simp
  · exact hc
instance (priority := low) Split.one {L R : Heap} {b : Nat} {o : Obj} [r : Rem L b o R] : Split L [(b, o)] R := ⟨r.perm⟩

/-! ### A list of blocks, found among others in whatever order -/
class Has (L T : Heap) : Prop where
  has : ∃ X, L.Perm (T ++ X)
theorem perm_of_sublist {α : Type} {T L : List α} (h : T.Sublist L) : ∃ X, L.Perm (T ++ X) := by
  induction h with
  | slnil => exact ⟨[], by simp⟩
  | cons a _ ih => obtain ⟨X, hX⟩ := ih; exact ⟨a :: X, (List.Perm.cons a hX).trans List.perm_middle.symm⟩
  | cons_cons a _ ih => obtain ⟨X, hX⟩ := ih; exact ⟨X, by simpa using hX⟩
instance (priority := low) Has.base {L T : Heap} [s : SubL T L] : Has L T := ⟨perm_of_sublist s.sub⟩
instance Has.cons {L T R : Heap} {b : Nat} {o : Obj} [r : Rem L b o R] [h : Has R T] : Has L ((b, o) :: T) :=
  ⟨let ⟨X, hX⟩ := h.has; ⟨X, r.perm.trans (by simpa using hX)⟩⟩
instance Has.app {L T E R : Heap} [r : Split L E R] [h : Has R T] : Has L (E ++ T) :=
  ⟨let ⟨X, hX⟩ := h.has; ⟨X, r.perm.trans (by rw [List.append_assoc]; exact List.Perm.append_left E hX)⟩⟩
theorem HH.has {w : World} {I I' : Im} {L T : Heap} [h : HH w I' L] [p : Has L T] [hl : LeR I I'] : HH w I T := by
  obtain ⟨X, hX⟩ := p.has
  have h1 := h.perm hX
  refine (h1.sub (fun x hx => List.mem_append_left _ hx) ?_).less hl.le
  have := h1.nodup
  rw [List.map_append] at this
  exact (List.nodup_append.1 this).1

/-! ### Objects put in place of others -/
structure XPutO (w : World) (b : Nat) (o : Obj) (K : World → Prop) : Prop where
  k : K { w with heap := w.heap.setIfInBounds b o }
instance XPutO.step {w : World} {b : Nat} {o : Obj} {K : World → Prop} {I : Im} {L L' : Heap} [h : HH w I L] [u : Upd L b o L'] : XStep (XPutO w b o K) (∀ w', HH w' I L' → K w') := ⟨fun k => ⟨k _ (h.put u _ rfl rfl rfl rfl)⟩⟩
structure XDec {α : Type} (enc : α → List Value) (cs : List Value) (K : α → Prop) : Prop where
  ex : ∃ y, enc y = cs ∧ K y
instance XDec.step {α : Type} {enc : α → List Value} {cs : List Value} {y : α} {K : α → Prop} [e : EncOf enc cs y] : XStep (XDec enc cs K) (K y) := ⟨fun k => ⟨y, e.eq, k⟩⟩
theorem flat_take {α : Type} {enc : α → List Value} {sz : Nat} : ∀ (xs : List α) (_ : ∀ x ∈ xs, (enc x).length = sz) (k : Nat), (xs.map enc).flatten.take (k * sz) = ((xs.take k).map enc).flatten
  | [], _, k => by simp
  | x :: xs, h, 0 => by simp
  | x :: xs, h, k + 1 => by
    have hx := h x (by simp)
    simp only [List.map_cons, List.flatten_cons, List.take_succ_cons]
    rw [List.take_append, List.take_of_length_le (by rw [hx, Nat.succ_mul]; omega), hx, Nat.succ_mul, Nat.add_sub_cancel]
    rw [flat_take xs (fun y hy => h y (by simp [hy])) k]
theorem flat_drop {α : Type} {enc : α → List Value} {sz : Nat} : ∀ (xs : List α) (_ : ∀ x ∈ xs, (enc x).length = sz) (k : Nat), (xs.map enc).flatten.drop (k * sz) = ((xs.drop k).map enc).flatten
  | [], _, k => by simp
  | x :: xs, h, 0 => by simp
  | x :: xs, h, k + 1 => by
    have hx := h x (by simp)
    simp only [List.map_cons, List.flatten_cons, List.drop_succ_cons]
    rw [List.drop_append, List.drop_of_length_le (by rw [hx, Nat.succ_mul]; omega), hx, Nat.succ_mul, Nat.add_sub_cancel]
    rw [flat_drop xs (fun y hy => h y (by simp [hy])) k]; simp
/-- one element's cells in a row are others -/
theorem row_set {α : Type} {enc : α → List Value} {sz : Nat} {xs : List α} {k : Nat} {x y : α} (h : ∀ x ∈ xs, (enc x).length = sz) (hx : xs[k]? = some x) (hy : (enc y).length = sz) (junk : List Value) {f : Nat} {v : Value} (hf : f < sz)
    (he : enc y = (enc x).take f ++ [v] ++ (enc x).drop (f + 1)) :
    (((xs.map enc).flatten ++ junk).take (k * sz + f) ++ [v] ++ ((xs.map enc).flatten ++ junk).drop (k * sz + f + 1)) = (((xs.set k y).map enc).flatten ++ junk) := by
  obtain ⟨hk, e⟩ := List.getElem?_eq_some_iff.1 hx
  have hex : (enc x).length = sz := h x (List.mem_of_getElem? hx)
  have hsplit : xs = xs.take k ++ x :: xs.drop (k + 1) := by rw [← e, List.getElem_cons_drop, List.take_append_drop]
  have hlt : (xs.take k).length = k := by simp; omega
  have hset : xs.set k y = xs.take k ++ y :: xs.drop (k + 1) := List.set_eq_take_append_cons_drop .. |>.trans (by rw [if_pos hk])
  have hA : ((xs.take k).map enc).flatten.length = k * sz := by rw [flat_len (fun z hz => h z (List.mem_of_mem_take hz)), hlt]
  have hflat : (xs.map enc).flatten = ((xs.take k).map enc).flatten ++ (enc x ++ ((xs.drop (k + 1)).map enc).flatten) := by
    conv => lhs; rw [hsplit]
    simp
  rw [hset, hflat]
  simp only [List.map_append, List.map_cons, List.flatten_append, List.flatten_cons, he, List.append_assoc]
  rw [List.take_append, List.drop_append, hA]
  have e1 : k * sz + f - k * sz = f := by omega
  have e2 : k * sz + f + 1 - k * sz = f + 1 := by omega
  have d1 : List.drop (k * sz + f + 1) ((xs.take k).map enc).flatten = [] := List.drop_of_length_le (by omega)
  rw [e1, e2, List.take_of_length_le (by omega), d1, List.nil_append, List.take_append, List.drop_append, hex]
  have e3 : f - sz = 0 := by omega
  have e4 : f + 1 - sz = 0 := by omega
  rw [e3, e4]
  simp
section
variable {P : Program} {w : World} {K : KV} {K1 : Value → Prop} {I : Im} {L : Heap} {α : Type} {sz : Nat} {enc : α → List Value} {xs : List α} {T Te : TypeId} {b cap k f : Nat} {junk : List Value} {x : α}
theorem row_get (r : RowOk b cap sz enc xs junk) (hx : xs[k]? = some x) {v : Value} (hv : (enc x)[f]? = some v) : ((xs.map enc).flatten ++ junk)[0 + k * sz + f]? = some v := flat_get r.sz hx hv junk
instance loadRowF [TyOne P T] [h : HH w I L] [o : Own L b (rowO Te enc xs junk)] [r : RowOk b cap sz enc xs junk] [hx : At xs k x] :
    XStep (XLd P (Instr.loadAt T (.pointer (some ⟨b, 0 + k * sz + f, none⟩))) w K1) (ldK (enc x) f fun v => K1 v) := ⟨fun k' => by
  obtain ⟨v, hv, k'⟩ := ldK_ex k'
  exact .of (run_loadAt_one (h.own _ _ o.mem) (by simpa using row_get r hx.eq hv)) k'⟩
instance loadRow0 [TyOne P T] [h : HH w I L] [o : Own L b (rowO Te enc xs junk)] [r : RowOk b cap sz enc xs junk] [hx : At xs k x] :
    XStep (XLd P (Instr.loadAt T (.pointer (some ⟨b, 0 + k * sz, none⟩))) w K1) (ldK (enc x) 0 fun v => K1 v) := ⟨fun k' => by
  obtain ⟨v, hv, k'⟩ := ldK_ex k'
  exact .of (run_loadAt_one (h.own _ _ o.mem) (by simpa using row_get r hx.eq hv)) k'⟩
theorem row_store [t1 : TyOne P T] (h : HH w I L) (o : Own L b (rowO Te enc xs junk)) (r : RowOk b cap sz enc xs junk) (hx : xs[k]? = some x) {v : Value} {K : World → Prop}
    (k' : oneK v (stK (enc x) f [v] fun cs => XDec enc cs fun y => XPutO w b (rowO Te enc (xs.set k y) junk) K)) : XUnit P (Instr.storeAt T (.pointer (some ⟨b, 0 + k * sz + f, none⟩)) v) w K := by
  obtain ⟨h1, h2, k'⟩ := oneK_ex k'
  obtain ⟨hl, k'⟩ := stK_ex k'
  obtain ⟨y, hy, k'⟩ := XDec.ex k'
  have hex := r.sz x (List.mem_of_getElem? hx)
  simp only [List.length_cons, List.length_nil, Nat.zero_add] at hl
  have hyl : (enc y).length = sz := by rw [hy]; simp; omega
  have hk : k < xs.length := (List.getElem?_eq_some_iff.1 hx).1
  have hmul : (k + 1) * sz ≤ cap * sz := Nat.mul_le_mul_right _ (Nat.le_trans hk r.cap)
  have hlen := r.len
  rw [Nat.succ_mul] at hmul
  have hst := run_storeAt_one (P := P) (T := T) (w := w) (b := b) (off := k * sz + f) (h.own _ _ o.mem) h1 h2 (by omega)
  have e : 0 + k * sz + f = k * sz + f := by omega
  rw [e]
  refine ⟨_, hst, ?_⟩
  have hs := row_set r.sz hx hyl junk (f := f) (v := v) (by omega) hy
  have hp : Go.X.putCells w b (((xs.map enc).flatten ++ junk).take (k * sz + f) ++ [v] ++ ((xs.map enc).flatten ++ junk).drop (k * sz + f + 1)) = { w with heap := w.heap.setIfInBounds b (rowO Te enc (xs.set k y) junk) } := by
    rw [hs]
    simp only [Go.X.putCells]
    congr 1
    have hb := h.own _ _ o.mem
    apply Array.ext_getElem?
    intro i
    rw [Array.getElem?_modify, Array.getElem?_setIfInBounds]
    split
    · rename_i e; subst e; rw [hb]; simp [h.lt o.mem, rowO]
    · rfl
  rw [hp]
  exact k'.k
instance storeRowF [TyOne P T] [h : HH w I L] [o : Own L b (rowO Te enc xs junk)] [r : RowOk b cap sz enc xs junk] [hx : At xs k x] {v : Value} {K : World → Prop} :
    XStep (XUnit P (Instr.storeAt T (.pointer (some ⟨b, 0 + k * sz + f, none⟩)) v) w K) (oneK v (stK (enc x) f [v] fun cs => XDec enc cs fun y => XPutO w b (rowO Te enc (xs.set k y) junk) K)) := ⟨fun k' => row_store h o r hx.eq k'⟩
instance storeRow0 [TyOne P T] [h : HH w I L] [o : Own L b (rowO Te enc xs junk)] [r : RowOk b cap sz enc xs junk] [hx : At xs k x] {v : Value} {K : World → Prop} :
    XStep (XUnit P (Instr.storeAt T (.pointer (some ⟨b, 0 + k * sz, none⟩)) v) w K) (oneK v (stK (enc x) 0 [v] fun cs => XDec enc cs fun y => XPutO w b (rowO Te enc (xs.set k y) junk) K)) := ⟨fun k' => row_store (f := 0) h o r hx.eq k'⟩
theorem RowOk.set (r : RowOk b cap sz enc xs junk) {y : α} (hy : (enc y).length = sz) (k : Nat) : RowOk b cap sz enc (xs.set k y) junk where
  len := by
    have h1 := r.len
    have hall : ∀ z ∈ xs.set k y, (enc z).length = sz := fun z hz => (List.mem_or_eq_of_mem_set hz).elim (r.sz z) (fun e => e ▸ hy)
    rw [List.length_append, flat_len hall]
    rw [List.length_append, flat_len r.sz] at h1
    simpa using h1
  cap := by simpa using r.cap
  sz := fun z hz => (List.mem_or_eq_of_mem_set hz).elim (r.sz z) (fun e => e ▸ hy)
end

/-! ### More of the same -/
section
variable {P : Program} {ro : Option Nat} {w : World} {K : KV} {K1 : Value → Prop} {I : Im} {L R : Heap} {T e : TypeId} {x y : Operand}
instance max64 {a b : Int} {at' : Array TypeId} {ty : TypeId} : XStep (XPur P (Builtin.max_ at' ty (List.toArray [.int .i64 a, .int .i64 b])) K1) (K1 (.int .i64 (max a b))) := ⟨fun k => by
  refine .of (fun w => ?_) k
  simp only [Builtin.max_, List.foldlM_cons, List.foldlM_nil, Builtin.max2, bind_pure, run_pure]
  congr 2
  split <;> omega⟩
instance min64 {a b : Int} {at' : Array TypeId} {ty : TypeId} : XStep (XPur P (Builtin.min_ at' ty (List.toArray [.int .i64 a, .int .i64 b])) K1) (K1 (.int .i64 (min a b))) := ⟨fun k => by
  refine .of (fun w => ?_) k
  simp only [Builtin.min_, List.foldlM_cons, List.foldlM_nil, Builtin.min2, bind_pure, run_pure]
  congr 2
  split <;> omega⟩
theorem run_guard_sl (op : BinOp) (a b : Option Addr) (n c m d : Nat) : (binOpG op T x y (.slice a n c) (.slice b m d)).run P w = (binOp op T (.slice a n c) (.slice b m d)).run P w := by
  simp only [binOpG, eqGuard, Sem.run_bind]
  split <;> simp [Result.andThen, run_pure]
theorem run_eq_sl [t : TySlice P T e] (a : Option Addr) (n c : Nat) : (Op.equal T (.slice a n c) (.slice none 0 0)).run P w = .ok a.isNone w := by
  show (Op.equalIn (9999 + 1) T _ _).run P w = _
  rw [Op.equalIn]
  simp only [Sem.run_bind, run_underlying t.eq, Result.andThen]
  cases a <;> rfl
instance eqlNilSl {a : Option Addr} {n c : Nat} [t : TySlice P T e] : XStep (XPur P (binOpG .eql T x y (.slice a n c) (.slice none 0 0)) K1) (K1 (.bool (decide (a = none)))) := ⟨fun k => by
  refine .of (fun w => ?_) k; rw [run_guard_sl]; simp only [binOp, Sem.run_bind, run_eq_sl, Result.andThen, run_pure]; cases a <;> rfl⟩
instance neqNilSl {a : Option Addr} {n c : Nat} [t : TySlice P T e] : XStep (XPur P (binOpG .neq T x y (.slice a n c) (.slice none 0 0)) K1) (K1 (.bool (decide (¬ a = none)))) := ⟨fun k => by
  refine .of (fun w => ?_) k; rw [run_guard_sl]; simp only [binOp, Sem.run_bind, run_eq_sl, Result.andThen, run_pure]; cases a <;> rfl⟩
instance XIf.stepAnd {a b : Bool} {A B : Prop} : XStep (XIf (a && b) A B) (XIf a (XIf b A B) B) :=
  ⟨fun h => by
    rcases h with ⟨rfl, h⟩ | ⟨rfl, h⟩
    · simpa using h
    · exact .f rfl h⟩
instance XIf.stepOr {a b : Bool} {A B : Prop} : XStep (XIf (a || b) A B) (XIf a A (XIf b A B)) :=
  ⟨fun h => by
    rcases h with ⟨rfl, h⟩ | ⟨rfl, h⟩
    · exact .t rfl h
    · simpa using h⟩
end
end Go.X

/- Appends of slices, structs that are compared, slices with three indexes. -/
namespace Go.X
set_option linter.unusedSimpArgs false
set_option linter.unusedSectionVars false
set_option linter.unusedVariables false

class EncOne {α : Type} (enc : α → List Value) : Prop where
  one : ∀ y, ∀ v ∈ enc y, v.oneCell' = true
instance : EncOne sEnc := ⟨fun y v hv => by simp [sEnc] at hv; subst hv; rfl⟩
instance : EncOne bEnc := ⟨fun y v hv => by simp [bEnc] at hv; subst hv; rfl⟩
instance : EncOne iEnc := ⟨fun y v hv => by simp [iEnc] at hv; subst hv; rfl⟩
class EncLen {α : Type} (enc : α → List Value) (sz : Nat) : Prop where
  len : ∀ y, (enc y).length = sz
instance : EncLen sEnc 1 := ⟨fun _ => rfl⟩
instance : EncLen bEnc 1 := ⟨fun _ => rfl⟩
instance : EncLen iEnc 1 := ⟨fun _ => rfl⟩
section
variable {P : Program} {ro : Option Nat} {w : World} {K : KV} {K1 : Value → Prop} {I : Im} {L E R : Heap} {α : Type} {T e sz by' : Nat} {z : List Value} {enc : α → List Value} {xs ys : List α} {a ay : Option Addr} {cap cy : Nat} {ty : TypeId}
theorem firstCells_sl (sl : SlA I ay sz enc ys) (hl : EncLen enc sz) {w : World} {R : Heap} (h : HH w I R) : (Builtin.firstCells sz ys.length (.slice ay ys.length cy)).run P w = .ok (ys.map enc).flatten.toArray w := by
  rcases sl.ex with rfl | ⟨b, o, rfl, hs⟩
  · cases ay with
    | none => rw [run_firstCells_none]; rfl
    | some ad => exact run_firstCells_some (P := P) (w := w) _ _ ad _ _ _ (by simp) (by intro j v hj; simp at hj)
  · obtain ⟨c, Te, fz, h1, h2⟩ := hs.ex
    refine run_firstCells_some (P := P) (w := w) _ _ _ _ _ _ (by rw [flat_len (fun y _ => hl.len y)]) ?_
    intro j v hj
    rw [add_none, cell_of (h.imm _ _ h1)]
    by_cases hz : sz = 0
    · have := flat_len (enc := enc) (xs := ys) (fun y _ => hl.len y)
      rw [hz, Nat.mul_zero] at this
      rw [List.eq_nil_of_length_eq_zero this] at hj
      simp at hj
    · have hjl : j < ys.length * sz := by
        have := (List.getElem?_eq_some_iff.1 hj).1
        rwa [flat_len (fun y _ => hl.len y)] at this
      have hpos : 0 < sz := Nat.pos_of_ne_zero hz
      have hk : j / sz < ys.length := Nat.div_lt_of_lt_mul (by rwa [Nat.mul_comm])
      have hx : ys[j / sz]? = some ys[j / sz] := List.getElem?_eq_getElem hk
      have hm : j % sz < (enc ys[j / sz]).length := by rw [hl.len]; exact Nat.mod_lt _ hpos
      have hv : (enc ys[j / sz])[j % sz]? = some ((enc ys[j / sz])[j % sz]) := List.getElem?_eq_getElem hm
      have hf := flat_get (fun y _ => hl.len y) hx hv []
      have e : 0 + j / sz * sz + j % sz = j := by rw [Nat.zero_add, Nat.mul_comm]; exact Nat.div_add_mod j sz
      rw [e, List.append_nil, hj] at hf
      have hc := (h2 _ _ hx).2 _ _ hv
      rw [Nat.add_assoc, show j / sz * sz + j % sz = j by omega] at hc
      rw [hc, hf]
theorem appendSl_run [t : TySlice P T e] [te : TyElem P e z sz by'] (so : SO e a cap sz enc xs E) (h : HH w I (E ++ R)) (sl : SlA I ay sz enc ys) [eo : EncOne enc] [el : EncLen enc sz]
    (hb : (xs.length + ys.length) * by' ≤ 70368744177664) (hm : xs.length + ys.length < 4611686018427387904) :
    ∃ a' cap' E' w', (Builtin.append_ #[T, T] ty #[.slice a xs.length cap, .slice ay ys.length cy]).run P w = .ok (.slice a' (xs ++ ys).length cap') w' ∧ SO e a' cap' sz enc (xs ++ ys) E' ∧ HH w' I (E' ++ R) :=
  append_run (P := P) (w := w) (T := T) (ty := ty) so h (ys := ys) (x := .slice ay ys.length cy) (fun y _ => el.len y) (fun y _ => eo.one y) (by simp [Builtin.lenOf, run_pure])
    (fun dr => firstCells_sl sl el (h.drawn dr)) hb hm
instance appendSl [t : TySlice P T e] [te : TyElem P e z sz by'] [h : HH w I L] [so : SO e a cap sz enc xs E] [sp : Split L E R] [sl : SlA I ay sz enc ys] [eo : EncOne enc] [el : EncLen enc sz] :
    XStep (XSem P (Builtin.append_ (List.toArray [T, T]) ty (List.toArray [.slice a xs.length cap, .slice ay ys.length cy])) w K)
      (XChk ((xs.length + ys.length) * by' ≤ 70368744177664 ∧ xs.length + ys.length < 4611686018427387904)
        (∀ w' a' cap' E', HH w' I (E' ++ R) → SO e a' cap' sz enc (xs ++ ys) E' → K (.slice a' (xs ++ ys).length cap') w')) := ⟨fun ⟨hc, k⟩ => by
  obtain ⟨a', cap', E', w', hr, hs', hh'⟩ := appendSl_run (P := P) (T := T) (ty := ty) (cy := cy) so (h.perm sp.perm) sl hc.1 hc.2
  exact .of hr (k w' a' cap' E' hh' hs')⟩
/-- onto a literal of no element -/
instance appendLit0 {b : Nat} [t : TySlice P T e] [te : TyElem P e z sz by'] [h : HH w I L] [r : Rem L b (.cells (List.toArray []) e (0, 0)) R] [sl : SlA I ay sz enc ys] [eo : EncOne enc] [el : EncLen enc sz] :
    XStep (XSem P (Builtin.append_ (List.toArray [T, T]) ty (List.toArray [.slice (some ⟨b, 0, none⟩) 0 0, .slice ay ys.length cy])) w K)
      (XChk (ys.length * by' ≤ 70368744177664 ∧ ys.length < 4611686018427387904)
        (∀ w' a' cap' E', HH w' I (E' ++ R) → SO e a' cap' sz enc ys E' → K (.slice a' ys.length cap') w')) := ⟨fun ⟨hc, k⟩ => by
  have so : SO e (some ⟨b, 0, none⟩) 0 sz enc ([] : List α) [(b, oc [] e)] := ⟨.inr ⟨b, [], rfl, rfl, by simp, by simp, by simp⟩⟩
  obtain ⟨a', cap', E', w', hr, hs', hh'⟩ := appendSl_run (P := P) (T := T) (ty := ty) (cy := cy) (R := R) so (h.perm r.perm) sl (by simpa using hc.1) (by simpa using hc.2)
  exact .of hr (k w' a' cap' E' hh' hs')⟩
instance sliceSl3 {n c : Nat} {q q' : IntKind} {i j : Int} {k m : Nat} [t : TySlice P T e] [te : TyElem P e z sz by'] [hk : NatOf i k] [hm : NatOf j m] :
    XStep (XPur P (Instr.sliceAt T (.slice a n c) none (some (.int q i)) (some (.int q' j))) K1) (XChk (0 ≤ i ∧ i ≤ j ∧ j ≤ (c : Int)) (K1 (.slice a k m))) := ⟨fun ⟨hi, k'⟩ => by
  refine .of (fun w => ?_) k'
  obtain ⟨ii, zz, h1, h2, h3, h4, h5, h6, h7⟩ := te.ex
  have hs : (sizeOf e).run P w = .ok sz w := by rw [run_sizeOf w h1, Program.cellsOf, h1]; simp [h4]
  have hb : (Instr.sliceBounds true n c none (some (.int q i)) (some (.int q' j))).run P w = .ok (0, i.toNat, j.toNat) w := by
    have h1 : 0 ≤ j ∧ j ≤ (c : Int) := ⟨by omega, hi.2.2⟩
    have h2 : 0 ≤ i ∧ i ≤ ((j.toNat : Nat) : Int) := ⟨hi.1, by omega⟩
    have hb1 : ∀ cd, (Instr.sliceBound (.int q' j) c cd).run P w = .ok j.toNat w := bound_run h1
    have hb2 : ∀ cd, (Instr.sliceBound (.int q i) j.toNat cd).run P w = .ok i.toNat w := bound_run h2
    simp [Instr.sliceBounds, Sem.run_bind, Result.andThen, run_pure, hb1, hb2]
  rw [sliceAt_sl]
  simp only [Instr.slice, Sem.run_bind, run_underlying t.eq, Result.andThen, run_pure, hb, hs, hk.eq, hm.eq, Nat.zero_mul, Nat.sub_zero]
  congr 2
  split
  · rfl
  · cases a with
    | none => rfl
    | some ad => simp [Addr.add]⟩
end

/-! ### Structs of numbers and texts, compared -/
def valEqK (s : Bool) (x y : Value) (K : Bool → Prop) : Prop :=
  match s, x, y with
  | true, .string a, .string b => K (decide (a.data.toList = b.data.toList))
  | false, .int k n, .int k' m => match decide (k = k') with
    | true => K (decide (n = m))
    | false => XBad "kinds"
  | _, _, _ => XBad "compared"
def eqfK : List (Nat × Bool) → List Value → List Value → (Bool → Prop) → Prop
  | [], _, _, K => K true
  | (o, s) :: r, a, b, K => ldK a o fun x => ldK b o fun y => valEqK s x y fun q => eqfK r a b fun q' => K (q && q')
class TyEq (P : Program) (T : TypeId) (fs : outParam (List (Nat × Bool))) : Prop where
  u : P.underlying T = some (.struct (P.fieldsOf T))
  p : P.stoodInHeld T = false
  g : P.eqGuardType P.depth T = false
  f : (P.fieldsOf T).toList.map (fun f => f.offset) = fs.map (·.1)
  n : ∀ f ∈ (P.fieldsOf T).toList, f.name ≠ "_"
  d : ∀ (i : Nat) f x, (P.fieldsOf T).toList[i]? = some f → fs[i]? = some x → (∀ w, (isAgg f.type).run P w = .ok false w) ∧ (if x.2 then P.underlying f.type = some .string else ∃ k, P.underlying f.type = some (.int k))
theorem part_one {P : Program} {T : TypeId} {w : World} {cs : List Value} {o : Nat} {v : Value} (h : ∀ w, (isAgg T).run P w = .ok false w) (hv : cs[o]? = some v) : (part T cs.toArray o).run P w = .ok v w := by
  simp only [part, Sem.run_bind, h, Result.andThen, Bool.false_eq_true, if_false, List.getElem?_toArray, hv, run_pure]
theorem valEqK_ex {s : Bool} {x y : Value} {K : Bool → Prop} (h : valEqK s x y K) : (∃ a b, s = true ∧ x = .string a ∧ y = .string b ∧ K (decide (a.data.toList = b.data.toList))) ∨ (∃ k n m, s = false ∧ x = .int k n ∧ y = .int k m ∧ K (decide (n = m))) := by
  unfold valEqK at h
  split at h
  · exact .inl ⟨_, _, rfl, rfl, rfl, h⟩
  · rename_i k n k' m
    by_cases hk : k = k'
    · subst hk
      simp only [decide_true] at h
      exact .inr ⟨_, _, _, rfl, rfl, rfl, h⟩
    · simp only [hk, decide_false] at h
      exact nomatch h
  · exact nomatch h
theorem eqfK_run {P : Program} {d : Nat} {a b : List Value} : ∀ (fields : List Field) (fs : List (Nat × Bool)), fields.map (fun f => f.offset) = fs.map (·.1) → (∀ f ∈ fields, f.name ≠ "_") →
    (∀ (i : Nat) f x, fields[i]? = some f → fs[i]? = some x → (∀ w, (isAgg f.type).run P w = .ok false w) ∧ (if x.2 then P.underlying f.type = some .string else ∃ k, P.underlying f.type = some (.int k))) →
    ∀ {K : Bool → Prop}, eqfK fs a b K → ∃ q, (∀ w, (Op.eqFields (d + 1) a.toArray b.toArray fields).run P w = .ok q w) ∧ K q
  | [], [], _, _, _, K, h => ⟨true, fun _ => rfl, h⟩
  | [], _ :: _, he, _, _, K, h => by simp at he
  | _ :: _, [], he, _, _, K, h => by simp at he
  | f :: fields, (o, s) :: fs, he, hn, hd, K, h => by
    simp only [List.map_cons, List.cons.injEq] at he
    obtain ⟨ho, he⟩ := he
    have hd0 := hd 0 f (o, s) rfl rfl
    obtain ⟨x, hx, h⟩ := ldK_ex h
    obtain ⟨y, hy, h⟩ := ldK_ex h
    have hnm := hn f (by simp)
    have key : ∃ q, (∀ w, (Op.equalIn (d + 1) f.type x y).run P w = .ok q w) ∧ eqfK fs a b fun q' => K (q && q') := by
      rcases valEqK_ex h with ⟨aa, bb, rfl, rfl, rfl, h3⟩ | ⟨kd, n, m, rfl, rfl, rfl, h3⟩
      · have hu : P.underlying f.type = some .string := by simpa using hd0.2
        refine ⟨_, fun w => ?_, h3⟩
        rw [run_equalIn_string w d f.type aa bb hu]
        congr 1
        rw [Bool.eq_iff_iff]
        simp only [beq_iff_eq, decide_eq_true_eq]
        have e1 : ∀ l : ByteArray, l.toList = l.data.toList := fun l => by obtain ⟨d⟩ := l; obtain ⟨d⟩ := d; exact ByteArray.toList_mk d
        rw [e1, e1]
      · obtain ⟨kk, hu⟩ : ∃ k, P.underlying f.type = some (.int k) := by simpa using hd0.2
        refine ⟨_, fun w => ?_, h3⟩
        simp only [Op.equalIn, Sem.run_bind, run_underlying hu, Result.andThen, if_true, run_pure]
        congr 1
    obtain ⟨q, hq, h⟩ := key
    obtain ⟨q', hq', hk⟩ := eqfK_run (d := d) fields fs he (fun g hg => hn g (by simp [hg])) (fun i g x h1 h2 => hd (i + 1) g x (by simpa using h1) (by simpa using h2)) h
    refine ⟨q && q', fun w => ?_, hk⟩
    simp only [Op.eqFields, if_pos hnm, Sem.run_bind, ho, part_one hd0.1 hx, part_one hd0.1 hy, Result.andThen, hq]
    cases q
    · simp [run_pure, Sem.run_ite]
    · simp [hq', Sem.run_ite]
section
variable {P : Program} {w : World} {K1 : Value → Prop} {T : TypeId} {x y : Operand} {a b : List Value} {fs : List (Nat × Bool)}
theorem equal_agg [t : TyEq P T fs] {K : Bool → Prop} (h : eqfK fs a b K) : ∃ q, (∀ w, (Op.equalIn 10000 T (.agg a.toArray) (.agg b.toArray)).run P w = .ok q w) ∧ K q := by
  obtain ⟨q, hq, hk⟩ := eqfK_run (P := P) (d := 9998) _ fs t.f t.n t.d h
  exact ⟨q, fun w => by rw [show (10000 : Nat) = 9999 + 1 from rfl, run_equalIn_struct w 9999 T _ _ t.u t.p]; exact hq w, hk⟩
instance eqlAgg [t : TyEq P T fs] : XStep (XPur P (binOpG .eql T x y (.agg a.toArray) (.agg b.toArray)) K1) (eqfK fs a b fun q => K1 (.bool q)) := ⟨fun k => by
  obtain ⟨q, hq, k⟩ := equal_agg (P := P) (T := T) k
  refine .of (fun w => ?_) k
  simp only [binOpG, Sem.run_bind, run_eqGuard_agg w .eql T x y _ _ t.g, Result.andThen, run_eql_struct, hq]⟩
instance neqAgg [t : TyEq P T fs] : XStep (XPur P (binOpG .neq T x y (.agg a.toArray) (.agg b.toArray)) K1) (eqfK fs a b fun q => K1 (.bool (!q))) := ⟨fun k => by
  obtain ⟨q, hq, k⟩ := equal_agg (P := P) (T := T) k
  refine .of (fun w => ?_) k
  simp only [binOpG, Sem.run_bind, run_eqGuard_agg w .neq T x y _ _ t.g, Result.andThen, run_neq_struct, hq]⟩
end
def tyEqF (P : Program) : List Field → Option (List (Nat × Bool))
  | [] => some []
  | f :: fs => match f.name == "_", tyOne P f.type, P.underlying f.type, tyEqF P fs with
    | false, true, some .string, some r => some ((f.offset, true) :: r)
    | false, true, some (.int _), some r => some ((f.offset, false) :: r)
    | _, _, _, _ => none
def tyEq (P : Program) (T : TypeId) : Option (List (Nat × Bool)) :=
  match P.underlying T, P.stoodInHeld T, P.eqGuardType P.depth T with
  | some (.struct fs), false, false => tyEqF P fs.toList
  | _, _, _ => none
theorem tyEqF_of {P : Program} : ∀ (fields : List Field) (fs : List (Nat × Bool)), tyEqF P fields = some fs → fields.map (fun f => f.offset) = fs.map (·.1) ∧ (∀ f ∈ fields, f.name ≠ "_") ∧
    (∀ (i : Nat) f x, fields[i]? = some f → fs[i]? = some x → (∀ w, (isAgg f.type).run P w = .ok false w) ∧ (if x.2 then P.underlying f.type = some .string else ∃ k, P.underlying f.type = some (.int k)))
  | [], fs, h => by simp only [tyEqF, Option.some.injEq] at h; subst h; simp
  | f :: fields, fs, h => by
    simp only [tyEqF] at h
    split at h
    · rename_i h1 h2 h3 h4
      cases h
      obtain ⟨e1, e2, e3⟩ := tyEqF_of fields _ h4
      refine ⟨by simp [e1], fun g hg => ?_, fun i g x hg hx => ?_⟩
      · rcases List.mem_cons.1 hg with rfl | hg
        · simpa using h1
        · exact e2 g hg
      · cases i with
        | zero => simp at hg hx; subst hg hx; exact ⟨(TyOne.of h2).agg, by simpa using h3⟩
        | succ i => exact e3 i g x (by simpa using hg) (by simpa using hx)
    · rename_i h1 h2 h3 h4
      cases h
      obtain ⟨e1, e2, e3⟩ := tyEqF_of fields _ h4
      refine ⟨by simp [e1], fun g hg => ?_, fun i g x hg hx => ?_⟩
      · rcases List.mem_cons.1 hg with rfl | hg
        · simpa using h1
        · exact e2 g hg
      · cases i with
        | zero => simp at hg hx; subst hg hx; exact ⟨(TyOne.of h2).agg, by simpa using ⟨_, h3⟩⟩
        | succ i => exact e3 i g x (by simpa using hg) (by simpa using hx)
    · cases h
theorem TyEq.of {P : Program} {T : TypeId} {fs : List (Nat × Bool)} (h : tyEq P T = some fs) : TyEq P T fs := by
  unfold tyEq at h
  split at h
  · rename_i f h1 h2 h3
    have hf : P.fieldsOf T = f := by simp [Program.fieldsOf, h1]
    obtain ⟨e1, e2, e3⟩ := tyEqF_of _ _ h
    exact ⟨by rw [hf]; exact h1, h2, h3, by rw [hf]; exact e1, by rw [hf]; exact e2, by rw [hf]; exact e3⟩
  · cases h
end Go.X
