/- Facts on a program's types, by computation. -/
import Derived.Test.YtpbijnigkhjkmaaGreatXa
import Derived.KernelRfl
import Derived.Room.Entries
namespace Go.X
section
variable {P : Program} {T : TypeId}
def tyOne (P : Program) (T : TypeId) : Bool :=
  match P.underlying T with
  | some (.struct _) => false
  | some (.array _ _) => false
  | some _ => Nat.beq (P.cellsOf T) 1
  | none => false
def tyAgg (P : Program) (T : TypeId) : Option Nat :=
  match P.underlying T with
  | some (.struct _) => some (P.cellsOf T)
  | some (.array _ _) => some (P.cellsOf T)
  | _ => none
def tyField (P : Program) (T f : Nat) : Option Nat :=
  match P.underlying T with
  | some (.struct fs) => match fs[f]? with
    | some g => match Nat.beq (P.cellsOf g.type) 0, (P.info? g.type).isSome with
      | false, true => some g.offset
      | _, _ => none
    | none => none
  | _ => none
def tyElem (P : Program) (T : TypeId) : Option (List Value × Nat × Nat) :=
  match P.info? T with
  | some i => match i.zero with
    | some z => match Nat.beq z.cells.toList.length i.size, Nat.beq i.size 0 with
      | true, false => some (z.cells.toList, i.size, i.bytes)
      | _, _ => none
    | none => none
  | none => none
def tyStruct (P : Program) (T : TypeId) : Option (List Value × List (Nat × Nat)) :=
  match P.info? T with
  | some i => match i.zero with
    | some z => match P.underlying T with
      | some (.struct fs) => match fs.all (fun f => (P.info? f.type).isSome) with
        | true => some (z.cells.toList, fs.toList.map fun f => (f.offset, P.cellsOf f.type))
        | false => none
      | _ => none
    | none => none
  | none => none
def fnOk (P : Program) (g : FuncId) : Bool :=
  match P.funcs[g]? with
  | some fn => !(fn.name == "runtime.NumGoroutine") && !fn.body.isNone
  | none => false
theorem info_of_underlying {d : TypeDesc} (h : P.underlying T = some d) : (P.info? T).isSome = true := by
  unfold Program.underlying at h
  cases hi : P.info? T with
  | none => rw [hi] at h; cases h
  | some i => rfl
theorem run_underlying' {d : TypeDesc} (h : P.underlying T = some d) (w : World) : (underlying T).run P w = .ok d w := run_underlying h w
theorem TyOne.of (h : tyOne P T = true) : TyOne P T := by
  unfold tyOne at h
  split at h
  · cases h
  · cases h
  · rename_i d h1 h2 hd
    refine ⟨fun w => ?_, Nat.eq_of_beq_eq_true h, info_of_underlying hd⟩
    simp only [isAgg, Sem.run_bind, run_underlying hd, Result.andThen]
    rfl
  · cases h
theorem TyAgg.of {n : Nat} (h : tyAgg P T = some n) : TyAgg P T n := by
  unfold tyAgg at h
  split at h
  · rename_i fs hd
    cases h
    refine ⟨fun w => ?_, rfl, info_of_underlying hd⟩
    simp only [isAgg, Sem.run_bind, run_underlying hd, Result.andThen]; rfl
  · rename_i m e hd
    cases h
    refine ⟨fun w => ?_, rfl, info_of_underlying hd⟩
    simp only [isAgg, Sem.run_bind, run_underlying hd, Result.andThen]; rfl
  · cases h
theorem TyField.of {f off : Nat} (h : tyField P T f = some off) : TyField P T f off := by
  unfold tyField at h
  split at h
  · rename_i fs hd
    split at h
    · rename_i g hg
      split at h
      · rename_i h1 h2
        cases h
        exact ⟨fs, g, hd, hg, rfl, Nat.ne_of_beq_eq_false h1, h2⟩
      · cases h
    · cases h
  · cases h
theorem TyElem.of {z : List Value} {s b : Nat} (h : tyElem P T = some (z, s, b)) : TyElem P T z s b := by
  unfold tyElem at h
  split at h
  · rename_i i hi
    split at h
    · rename_i zv hz
      split at h
      · rename_i h1 h2
        cases h
        exact ⟨i, zv, hi, hz, by simp, rfl, rfl, Nat.eq_of_beq_eq_true h1, Nat.ne_of_beq_eq_false h2⟩
      · cases h
    · cases h
  · cases h
theorem TyStruct.of {z : List Value} {ps : List (Nat × Nat)} (h : tyStruct P T = some (z, ps)) : TyStruct P T z ps := by
  unfold tyStruct at h
  split at h
  · rename_i i hi
    split at h
    · rename_i zv hz
      split at h
      · rename_i fs hd
        split at h
        · rename_i ha
          cases h
          exact ⟨i, zv, fs, hi, hz, by simp, hd, rfl, ha⟩
        · cases h
      · cases h
    · cases h
  · cases h
theorem FnOk.of {g : FuncId} (h : fnOk P g = true) : FnOk P g := by
  unfold fnOk at h
  split at h
  · rename_i fn hf
    simp only [Bool.and_eq_true, Bool.not_eq_true'] at h
    exact ⟨fn, hf, h.1, h.2⟩
  · cases h
end
end Go.X

/- Slices that are read: immutable rows. -/
namespace Go.X
set_option linter.unusedSimpArgs false
set_option linter.unusedSectionVars false

/-- from cell o of block b on lie the elements xs, sz cells each -/
class SlI (I : Im) (b o : Nat) {α : outParam Type} (sz : outParam Nat) (enc : outParam (α → List Value)) (xs : outParam (List α)) : Prop where
  ex : ∃ c T fz, I.at_ b = some (.cells c T fz) ∧ ∀ k x, xs[k]? = some x → (enc x).length = sz ∧ ∀ j v, (enc x)[j]? = some v → c[o + k * sz + j]? = some v
/-- .. at a slice's address, which need not be there if there are none -/
class SlA (I : Im) (a : Option Addr) {α : outParam Type} (sz : outParam Nat) (enc : outParam (α → List Value)) (xs : outParam (List α)) : Prop where
  ex : xs = [] ∨ ∃ b o, a = some ⟨b, o, none⟩ ∧ SlI I b o sz enc xs
/-- the element at a place -/
class At {α : Type} (xs : List α) (k : Nat) (x : outParam α) : Prop where
  eq : xs[k]? = some x

section
variable {α : Type} {I I' : Im} {b o sz : Nat} {a : Option Addr} {enc : α → List Value} {xs : List α}
theorem SlI.mono (h : SlI I b o sz enc xs) (hl : I.Le I') : SlI I' b o sz enc xs :=
  let ⟨c, T, fz, h1, h2⟩ := h.ex; ⟨c, T, fz, hl.at_ _ _ h1, h2⟩
theorem SlA.mono (h : SlA I a sz enc xs) (hl : I.Le I') : SlA I' a sz enc xs :=
  ⟨h.ex.imp id fun ⟨b, o, h1, h2⟩ => ⟨b, o, h1, h2.mono hl⟩⟩
instance (priority := low) SlI.lift [hl : I.Le I'] [h : SlI I b o sz enc xs] : SlI I' b o sz enc xs := h.mono hl
instance (priority := low) SlA.lift [hl : I.Le I'] [h : SlA I a sz enc xs] : SlA I' a sz enc xs := h.mono hl
theorem SlA.nil : SlA I a sz enc ([] : List α) := ⟨.inl rfl⟩
theorem SlI.toA (h : SlI I b o sz enc xs) : SlA I (some ⟨b, o, none⟩) sz enc xs := ⟨.inr ⟨b, o, rfl, h⟩⟩
theorem SlI.drop (h : SlI I b o sz enc xs) (k : Nat) : SlI I b (o + k * sz) sz enc (xs.drop k) := by
  obtain ⟨c, T, fz, h1, h2⟩ := h.ex
  refine ⟨c, T, fz, h1, fun j x hj => ?_⟩
  obtain ⟨h3, h4⟩ := h2 (k + j) x (by simpa using hj)
  refine ⟨h3, fun i v hv => ?_⟩
  rw [← h4 i v hv, Nat.add_mul]; congr 1; omega
theorem SlI.take (h : SlI I b o sz enc xs) (k : Nat) : SlI I b o sz enc (xs.take k) := by
  obtain ⟨c, T, fz, h1, h2⟩ := h.ex
  refine ⟨c, T, fz, h1, fun j x hj => h2 j x ?_⟩
  rw [List.getElem?_take] at hj
  split at hj
  · exact hj
  · cases hj
theorem SlA.take (h : SlA I a sz enc xs) (k : Nat) : SlA I a sz enc (xs.take k) := by
  rcases h.ex with rfl | ⟨b, o, h1, h2⟩
  · exact ⟨.inl (by simp)⟩
  · exact ⟨.inr ⟨b, o, h1, h2.take k⟩⟩
end

section rules
variable {P : Program} {w : World} {K : KV} {K1 : Value → Prop} {I : Im} {L : Heap} {α : Type} {b o sz : Nat} {a : Option Addr} {enc : α → List Value} {xs : List α}
/- a variable of one cell, field f of element k -/
theorem run_loadSl {T : TypeId} [TyOne P T] [h : HH w I L] (s : SlI I b o sz enc xs) {k f : Nat} {x : α} (hx : xs[k]? = some x) {v : Value} (hv : (enc x)[f]? = some v) :
    (Instr.loadAt T (.pointer (some ⟨b, o + k * sz + f, none⟩))).run P w = .ok v w := by
  obtain ⟨c, Te, fz, h1, h2⟩ := s.ex
  exact run_loadAt_one (h.imm _ _ h1) ((h2 k x hx).2 f v hv)
instance loadSl0 {T : TypeId} {k : Nat} {x : α} [TyOne P T] [h : HH w I L] [s : SlI I b o sz enc xs] [hx : At xs k x] :
    XStep (XLd P (Instr.loadAt T (.pointer (some ⟨b, o + k * sz, none⟩))) w K1) (ldK (enc x) 0 fun v => K1 v) := ⟨fun k' => by
  obtain ⟨v, hv, k'⟩ := ldK_ex k'
  exact .of (by simpa using run_loadSl (P := P) (T := T) s hx.eq hv) k'⟩
instance loadSlF {T : TypeId} {k f : Nat} {x : α} [TyOne P T] [h : HH w I L] [s : SlI I b o sz enc xs] [hx : At xs k x] :
    XStep (XLd P (Instr.loadAt T (.pointer (some ⟨b, o + k * sz + f, none⟩))) w K1) (ldK (enc x) f fun v => K1 v) := ⟨fun k' => by
  obtain ⟨v, hv, k'⟩ := ldK_ex k'
  exact .of (run_loadSl (P := P) (T := T) s hx.eq hv) k'⟩
instance (priority := low) loadSl0any {T : TypeId} {k : Nat} [TyOne P T] [h : HH w I L] [s : SlI I b o sz enc xs] :
    XStep (XLd P (Instr.loadAt T (.pointer (some ⟨b, o + k * sz, none⟩))) w K1) (XChk (k < xs.length) (∀ x, At xs k x → ldK (enc x) 0 fun v => K1 v)) := ⟨fun ⟨hk, k'⟩ => by
  have hx : xs[k]? = some xs[k] := List.getElem?_eq_getElem hk
  obtain ⟨v, hv, k'⟩ := ldK_ex (k' _ ⟨hx⟩)
  exact .of (by simpa using run_loadSl (P := P) (T := T) s hx hv) k'⟩
instance (priority := low) loadSlFany {T : TypeId} {k f : Nat} [TyOne P T] [h : HH w I L] [s : SlI I b o sz enc xs] :
    XStep (XLd P (Instr.loadAt T (.pointer (some ⟨b, o + k * sz + f, none⟩))) w K1) (XChk (k < xs.length) (∀ x, At xs k x → ldK (enc x) f fun v => K1 v)) := ⟨fun ⟨hk, k'⟩ => by
  have hx : xs[k]? = some xs[k] := List.getElem?_eq_getElem hk
  obtain ⟨v, hv, k'⟩ := ldK_ex (k' _ ⟨hx⟩)
  exact .of (run_loadSl (P := P) (T := T) s hx hv) k'⟩
/-- a whole list of values -/
def allK (l : List Value) (K : List Value → Prop) : Prop :=
  match l with
  | [] => K []
  | x :: l => allK l fun r => K (x :: r)
theorem allK_eq (l : List Value) (K : List Value → Prop) : allK l K = K l := by
  induction l generalizing K with
  | nil => rfl
  | cons x l ih => simp [allK, ih]
instance loadSlAgg {T n : Nat} {k : Nat} {x : α} [TyAgg P T n] [h : HH w I L] [s : SlI I b o n enc xs] [hx : At xs k x] :
    XStep (XLd P (Instr.loadAt T (.pointer (some ⟨b, o + k * n, none⟩))) w K1) (allK (enc x) fun vs => K1 (.agg vs.toArray)) := ⟨fun k' => by
  rw [allK_eq] at k'
  obtain ⟨c, Te, fz, h1, h2⟩ := s.ex
  obtain ⟨h3, h4⟩ := h2 k x hx.eq
  exact .of (run_loadAt_agg (h.imm _ _ h1) (vs := enc x) h3 h4) k'⟩
instance (priority := low) loadSlAggAny {T n : Nat} {k : Nat} [TyAgg P T n] [h : HH w I L] [s : SlI I b o n enc xs] :
    XStep (XLd P (Instr.loadAt T (.pointer (some ⟨b, o + k * n, none⟩))) w K1) (XChk (k < xs.length) (∀ x, At xs k x → allK (enc x) fun vs => K1 (.agg vs.toArray))) := ⟨fun ⟨hk, k'⟩ => by
  have hx : xs[k]? = some xs[k] := List.getElem?_eq_getElem hk
  have k' := k' _ ⟨hx⟩
  rw [allK_eq] at k'
  obtain ⟨c, Te, fz, h1, h2⟩ := s.ex
  obtain ⟨h3, h4⟩ := h2 k _ hx
  exact .of (run_loadAt_agg (h.imm _ _ h1) (vs := enc xs[k]) h3 h4) k'⟩
instance indexAtA {T e by' : Nat} {z : List Value} {c : Nat} {q : IntKind} {i : Int} {k : Nat} [t : TySlice P T e] [te : TyElem P e z sz by'] [_h : HH w I L] [s : SlA I a sz enc xs] [hk : NatOf i k] :
    XStep (XLd P (Instr.indexAt T (.slice a xs.length c) (.int q i)) w K1) (XChk (0 ≤ i ∧ i < (xs.length : Int)) (∀ b o, SlI I b o sz enc xs → K1 (.pointer (some ⟨b, o + k * sz, none⟩)))) := ⟨fun ⟨hi, k'⟩ => by
  rcases s.ex with rfl | ⟨b, o, rfl, hs⟩
  · simp at hi; omega
  · exact (ldOfPur (h := indexAtSlice (P := P) (T := T) (e := e) (z := z) (by' := by') (K1 := K1))).go ⟨hi, k' b o hs⟩⟩
instance sliceSlLoA {T e by' : Nat} {z : List Value} {c : Nat} {q : IntKind} {i : Int} {k : Nat} [t : TySlice P T e] [te : TyElem P e z sz by'] [_h : HH w I L] [s : SlA I a sz enc xs] [hk : NatOf i k] :
    XStep (XLd P (Instr.sliceAt T (.slice a xs.length c) (some (.int q i)) none none) w K1)
      (XChk (0 ≤ i ∧ i ≤ (xs.length : Int) ∧ xs.length ≤ c) (∀ a', SlA I a' sz enc (xs.drop k) → (xs.drop k).length ≤ c - k → K1 (.slice a' (xs.drop k).length (c - k)))) := ⟨fun ⟨hi, k'⟩ => by
  have hkk := hk.eq
  rcases s.ex with rfl | ⟨b, o, rfl, hs⟩
  · have hk0 : k = 0 := by simp at hi; omega
    subst hk0
    have := k' a ⟨.inl (by simp)⟩ (by simp)
    obtain ⟨ii, zz, h1, h2, h3, h4, h5, h6, h7⟩ := te.ex
    have hs : (sizeOf e).run P w = .ok sz w := by rw [run_sizeOf w h1, Program.cellsOf, h1]; simp [h4]
    refine .of ?_ this
    rw [sliceAt_sl]
    have hb := bounds_lo (P := P) (w := w) (b := true) (len := 0) (cap := c) (q := q) (i := i) ⟨hi.1, by simpa using hi.2.1⟩
    simp only [Instr.slice, Sem.run_bind, run_underlying t.eq, Result.andThen, run_pure, List.length_nil, hb, hs, hkk, Nat.zero_mul, Nat.sub_zero, List.drop_nil]
    congr 2
    split
    · rfl
    · cases a <;> rfl
  · refine (ldOfPur (h := sliceSlLo (P := P) (T := T) (e := e) (z := z) (by' := by') (sz := sz) (K1 := K1))).go ⟨⟨hi.1, hi.2.1⟩, fun b' o' hp => ?_⟩
    rw [← List.length_drop]
    refine k' _ ?_ (by simp; omega)
    by_cases hc : c = k
    · rw [List.drop_eq_nil_iff.2 (by omega)]; exact SlA.nil
    · have e1 := hp.eq; have e2 := hp.at_ hc
      subst e1 e2
      exact (hs.drop k).toA⟩
instance sliceSlHiA {T e by' : Nat} {z : List Value} {c : Nat} {q : IntKind} {i : Int} {k : Nat} [t : TySlice P T e] [te : TyElem P e z sz by'] [_h : HH w I L] [s : SlA I a sz enc xs] [hk : NatOf i k] :
    XStep (XLd P (Instr.sliceAt T (.slice a xs.length c) none (some (.int q i)) none) w K1)
      (XChk (0 ≤ i ∧ i ≤ (xs.length : Int) ∧ xs.length ≤ c) (SlA I a sz enc (xs.take k) → (xs.take k).length ≤ c → K1 (.slice a (xs.take k).length c))) := ⟨fun ⟨hi, k'⟩ => by
  have hkk := hk.eq
  have := k' (s.take k) (by simp; omega)
  have e1 : (xs.take k).length = k := by simp; omega
  rw [e1] at this
  exact (ldOfPur (h := sliceSlHi (P := P) (T := T) (e := e) (z := z) (by' := by') (sz := sz) (K1 := K1))).go ⟨⟨hi.1, by omega⟩, this⟩⟩
end rules
end Go.X

/- Slices of our own: append. -/
namespace Go.X
set_option linter.unusedSimpArgs false
set_option linter.unusedSectionVars false

/-- a slice of our own: no array, or a whole block; E: its entries among the blocks -/
class SO (T : TypeId) (a : Option Addr) (cap : Nat) {α : outParam Type} (sz : outParam Nat) (enc : outParam (α → List Value)) (xs : outParam (List α)) (E : outParam Heap) : Prop where
  ex : (a = none ∧ cap = 0 ∧ xs = [] ∧ E = []) ∨
    ∃ b junk, a = some ⟨b, 0, none⟩ ∧ E = [(b, oc ((xs.map enc).flatten ++ junk) T)] ∧ ((xs.map enc).flatten ++ junk).length = cap * sz ∧ xs.length ≤ cap ∧ ∀ x ∈ xs, (enc x).length = sz
/-- L is E and R, but for the order -/
class Split (L E : Heap) (R : outParam Heap) : Prop where
  perm : L.Perm (E ++ R)
instance (priority := high) Split.head {E R : Heap} : Split (E ++ R) E R := ⟨.refl _⟩
instance Split.tail {x : Nat × Obj} {L E R : Heap} [h : Split L E R] : Split (x :: L) E (x :: R) :=
  ⟨(List.Perm.cons x h.perm).trans (List.perm_middle.symm)⟩
instance Split.app {E' L E R : Heap} [h : Split L E R] : Split (E' ++ L) E (E' ++ R) :=
  ⟨(List.Perm.append_left E' h.perm).trans (by
    rw [← List.append_assoc, ← List.append_assoc]
    exact List.Perm.append_right R List.perm_append_comm)⟩
instance Split.nil {L : Heap} : Split L [] L := ⟨.refl _⟩

/-- L, but for block b -/
class Rem (L : Heap) (b : Nat) (o : outParam Obj) (R : outParam Heap) : Prop where
  perm : L.Perm ((b, o) :: R)
instance (priority := high) Rem.head {b : Nat} {o : Obj} {R : Heap} : Rem ((b, o) :: R) b o R := ⟨.refl _⟩
instance Rem.tail {b : Nat} {o : Obj} {x : Nat × Obj} {L R : Heap} [h : Rem L b o R] : Rem (x :: L) b o (x :: R) :=
  ⟨(List.Perm.cons x h.perm).trans (List.Perm.swap ..)⟩
instance Rem.app {b : Nat} {o : Obj} {E L R : Heap} [h : Rem L b o R] : Rem (E ++ L) b o (E ++ R) :=
  ⟨(List.Perm.append_left E h.perm).trans List.perm_middle⟩

section
variable {α : Type} {T : TypeId} {sz : Nat} {enc : α → List Value} {xs : List α} {E : Heap}
theorem SO.nil : SO T none 0 sz enc ([] : List α) [] := ⟨.inl ⟨rfl, rfl, rfl, rfl⟩⟩
theorem flat_len (h : ∀ x ∈ xs, (enc x).length = sz) : (xs.map enc).flatten.length = xs.length * sz := by
  induction xs with
  | nil => simp
  | cons x xs ih =>
    simp only [List.map_cons, List.flatten_cons, List.length_append, List.length_cons]
    rw [ih (fun y hy => h y (by simp [hy])), h x (by simp), Nat.succ_mul, Nat.add_comm]
theorem flat_get (h : ∀ x ∈ xs, (enc x).length = sz) {k : Nat} {x : α} (hx : xs[k]? = some x) {j : Nat} {v : Value} (hv : (enc x)[j]? = some v) (junk : List Value) :
    ((xs.map enc).flatten ++ junk)[0 + k * sz + j]? = some v := by
  induction xs generalizing k with
  | nil => simp at hx
  | cons y xs ih =>
    have hy := h y (by simp)
    simp only [List.map_cons, List.flatten_cons, List.append_assoc]
    cases k with
    | zero =>
      simp at hx; subst hx
      have hj : j < (enc y).length := (List.getElem?_eq_some_iff.1 hv).1
      rw [List.getElem?_append_left (by omega)]
      simpa using hv
    | succ k =>
      have := ih (fun z hz => h z (by simp [hz])) (k := k) (by simpa using hx)
      rw [List.getElem?_append_right (by rw [hy, Nat.succ_mul]; omega)]
      rw [← this]; congr 1; rw [hy, Nat.succ_mul]; omega
/-- what is of our own becomes immutable, and is read from then on -/
theorem SO.freeze {a : Option Addr} {cap : Nat} (s : SO T a cap sz enc xs E) {w : World} {I : Im} {R : Heap} (h : HH w I (E ++ R)) :
    ∃ I', I.Le I' ∧ HH w I' R ∧ SlA I' a sz enc xs ∧ xs.length ≤ cap := by
  rcases s.ex with ⟨rfl, rfl, rfl, rfl⟩ | ⟨b, junk, rfl, rfl, hl, hc, hs⟩
  · exact ⟨I, Im.Le.refl I, by simpa using h, SlA.nil, by simp⟩
  · obtain ⟨h1, h2, h3⟩ := HH.freeze (b := b) (o := oc ((xs.map enc).flatten ++ junk) T) (L := R) h
    refine ⟨_, h2, h1, ⟨.inr ⟨b, 0, rfl, ⟨_, _, _, h3.eq, fun k x hx => ⟨hs x (List.mem_of_getElem? hx), fun j v hv => ?_⟩⟩⟩⟩, hc⟩
    simpa using flat_get hs hx hv junk
end

section
variable {P : Program} {w : World} {K : KV} {I : Im} {L R : Heap} {α : Type} {T e sz by' : Nat} {z : List Value} {enc : α → List Value} {xs : List α} {E : Heap}
theorem run_choose (q : Question) (hq : q.forced = false) : (choose q).run P w = .ok (q.cut (w.tape w.drawn q)) { w with drawn := w.drawn + 1 } := by
  simp [choose, Sem.run, hq]
theorem run_askRoom (n : Nat) : (askRoom n).run P w = .ok () w := by
  unfold askRoom; split <;> simp [mark, Sem.run, pure]
theorem zeroCells_nil (zz : Array Value) : Builtin.zeroCells zz 0 = #[] := by simp [Builtin.zeroCells]
/-- append, at what is of our own: xs, and the elements ys that stand elsewhere -/
theorem append_run {a : Option Addr} {cap : Nat} {ty : TypeId} [t : TySlice P T e] [te : TyElem P e z sz by'] (s : SO e a cap sz enc xs E) (h : HH w I (E ++ R)) {ys : List α} {x : Value}
    (hys : ∀ y ∈ ys, (enc y).length = sz) (h1 : ∀ y ∈ ys, ∀ v ∈ enc y, v.oneCell' = true)
    (hlen : (Builtin.lenOf x).run P w = .ok ys.length w) (hnew : ∀ dr, (Builtin.firstCells sz ys.length x).run P { w with drawn := dr } = .ok (ys.map enc).flatten.toArray { w with drawn := dr })
    (hb : (xs.length + ys.length) * by' ≤ 70368744177664) (hm : xs.length + ys.length < 4611686018427387904) :
    ∃ a' cap' E' w', (Builtin.append_ #[T, T] ty #[.slice a xs.length cap, x]).run P w = .ok (.slice a' (xs ++ ys).length cap') w' ∧ SO e a' cap' sz enc (xs ++ ys) E' ∧ HH w' I (E' ++ R) := by
  obtain ⟨ii, zz, h2, h3, h4, h5, h6, h7, h8⟩ := te.ex
  have hs : (sizeOf e).run P w = .ok sz w := by rw [run_sizeOf w h2, Program.cellsOf, h2]; simp [h5]
  have hi (w : World) : (typeInfo e).run P w = .ok ii w := by simp [typeInfo, Sem.run_bind, program, Sem.run, Result.andThen, h2, pure, bind, Sem.bind]
  have hxs : ∀ x ∈ xs, (enc x).length = sz := by
    rcases s.ex with ⟨rfl, rfl, rfl, rfl⟩ | ⟨b, junk, rfl, rfl, hl, hc, hss⟩
    · simp
    · exact hss
  have hall : ∀ y ∈ xs ++ ys, (enc y).length = sz := by
    intro y hy; rcases List.mem_append.1 hy with hy | hy; exact hxs y hy; exact hys y hy
  have hnew' : (Builtin.firstCells sz ys.length x).run P w = .ok (ys.map enc).flatten.toArray w := hnew w.drawn
  have hmm : ¬ ((xs.length + ys.length : Nat) : Int) > IntKind.i64.max := by
    have : IntKind.i64.max = 9223372036854775807 := by decide
    rw [this]; omega
  by_cases hfit : xs.length + ys.length ≤ cap
  · rcases s.ex with ⟨rfl, rfl, rfl, rfl⟩ | ⟨b, junk, rfl, rfl, hl, hc, hss⟩
    · have hy0 : ys = [] := by cases ys with
        | nil => rfl
        | cons y ys => simp at hfit
      subst hy0
      refine ⟨none, 0, [], w, ?_, SO.nil, by simpa using h⟩
      simp only [List.length_nil, Nat.add_zero] at hlen hnew'
      simp [Builtin.append_, Sem.run_bind, run_underlying t.eq, Result.andThen, hs, run_pure, hlen, hnew']
    · have hheap := h.own b _ (List.mem_append_left _ (List.mem_cons_self ..))
      have hfl := flat_len hxs
      have hyl := flat_len hys
      have hall1 : ∀ v ∈ (ys.map enc).flatten, v.oneCell' = true := by
        intro v hv
        obtain ⟨l, hl, hv⟩ := List.mem_flatten.1 hv
        obtain ⟨y, hy, rfl⟩ := List.mem_map.1 hl
        exact h1 y hy v hv
      have hmul : (xs.length + ys.length) * sz ≤ cap * sz := Nat.mul_le_mul_right _ hfit
      rw [Nat.add_mul] at hmul
      have hst := run_storeCells_put (P := P) (w := w) (b := b) (off := xs.length * sz) (vs := (ys.map enc).flatten) hheap (by rw [hyl]; simp only [List.size_toArray]; omega) hall1
      let cs' := ((xs.map enc).flatten ++ junk).take (xs.length * sz) ++ (ys.map enc).flatten ++ ((xs.map enc).flatten ++ junk).drop (xs.length * sz + (ys.map enc).flatten.length)
      have hcs : cs' = (((xs ++ ys).map enc).flatten ++ junk.drop (ys.length * sz)) := by
        show List.take _ _ ++ _ ++ List.drop _ _ = _
        rw [← hfl, List.take_left, List.drop_append, List.map_append, List.flatten_append, hyl, List.drop_eq_nil_of_le (by omega), Nat.add_sub_cancel_left, List.nil_append]
      refine ⟨some ⟨b, 0, none⟩, cap, [(b, oc cs' e)], putCells w b cs', ?_, ?_, ?_⟩
      · simp only [Builtin.append_, List.getElem?_toArray, List.getElem?_cons_zero, List.getElem?_cons_succ, Sem.run_bind, run_underlying t.eq, Result.andThen, hs, run_pure, Bool.false_eq_true, if_false, hlen, hfit, if_true, Bool.not_false, hnew', add_none, Nat.zero_add, hst]
        simp [cs']
      · rw [hcs]
        refine ⟨.inr ⟨b, junk.drop (ys.length * sz), rfl, rfl, ?_, by simpa using hfit, hall⟩⟩
        rw [List.length_append, flat_len hall]
        simp only [List.length_append, List.length_drop] at hl ⊢
        rw [hfl] at hl
        rw [Nat.add_mul]
        omega
      · refine HH.put h (b := b) (o' := oc cs' e) (L' := [(b, oc cs' e)] ++ R) ⟨[], _, R, rfl, rfl⟩ _ ?_ rfl rfl rfl
        simp only [putCells]
        apply Array.ext_getElem?
        intro i
        rw [Array.getElem?_modify, Array.getElem?_setIfInBounds]
        split
        · rename_i e; subst e; rw [hheap]; simp [(Array.getElem?_eq_some_iff.1 hheap).1]
        · rfl
  · have hg : ¬ Builtin.nextslicecap (xs.length + ys.length) cap * by' > 2 ^ 48 := by
      have h1 := Room.nextslicecap_le' (need := xs.length + ys.length) (old := cap) (by omega)
      have h2 : Builtin.nextslicecap (xs.length + ys.length) cap * by' ≤ 2 * (xs.length + ys.length) * by' := Nat.mul_le_mul_right _ h1
      rw [Nat.mul_assoc] at h2
      omega
    let q : Question := .appendCap (xs.length + ys.length) cap e
    let newCap := q.cut (w.tape w.drawn q)
    have hnc : xs.length + ys.length ≤ newCap := by simp [newCap, q, Question.cut]
    let w1 : World := { w with drawn := w.drawn + 1 }
    have hold : (Builtin.firstCells sz xs.length (.slice a xs.length cap)).run P w1 = .ok (xs.map enc).flatten.toArray w1 := by
      rcases s.ex with ⟨rfl, rfl, rfl, rfl⟩ | ⟨b, junk, rfl, rfl, hl, hc, hss⟩
      · rw [run_firstCells_none]; rfl
      · refine run_firstCells_some (P := P) (w := w1) _ _ _ _ _ _ (flat_len hxs) ?_
        intro j v hj
        have hheap : w1.heap[b]? = some (oc ((xs.map enc).flatten ++ junk) e) := h.own b _ (List.mem_append_left _ (List.mem_cons_self ..))
        rw [add_none, cell_of hheap]
        simp only [Nat.zero_add, List.getElem?_toArray]
        rw [List.getElem?_append_left (List.getElem?_eq_some_iff.1 hj).1]
        exact hj
    have hnw := hnew (w.drawn + 1)
    let cells := (xs.map enc).flatten.toArray ++ (ys.map enc).flatten.toArray ++ Builtin.zeroCells zz.cells (newCap - (xs.length + ys.length))
    refine ⟨some ⟨w.heap.size, 0, none⟩, newCap, [(w.heap.size, .cells cells e)], { w1 with heap := w1.heap.push (.cells cells e) }, ?_, ?_, ?_⟩
    · have hch := run_choose (P := P) (w := w) q rfl
      simp only [Builtin.append_, List.getElem?_toArray, List.getElem?_cons_zero, List.getElem?_cons_succ, Sem.run_bind, run_underlying t.eq, Result.andThen, hs, run_pure, Bool.false_eq_true, if_false, hlen, hfit, if_true,
        Bool.not_false, hi, hmm, false_and, h6, hg, hch, q, run_askRoom, hold, w1, hnw, run_zero h2 h3, run_newRow, List.length_append]
      rfl
    · refine ⟨.inr ⟨w.heap.size, (Builtin.zeroCells zz.cells (newCap - (xs.length + ys.length))).toList, rfl, ?_, ?_, by simpa using hnc, hall⟩⟩
      · simp [cells, oc]
      · rw [List.length_append, flat_len hall]
        simp only [Builtin.zeroCells, List.length_append, Array.length_toList, Array.size_map, Array.size_range, h4, List.size_toArray, h7]
        rw [← Nat.add_mul]
        congr 1; omega
    · have hR : HH w I R := HH.drop (A := []) h rfl
      exact (hR.drawn (w.drawn + 1)).new _
/-- the element whose cells these are -/
class EncOf {α : Type} (enc : α → List Value) (vs : List Value) (y : outParam α) : Prop where
  eq : enc y = vs
instance append1 {a : Option Addr} {cap bx c : Nat} {ty : TypeId} {vs : List Value} {y : α} [t : TySlice P T e] [te : TyElem P e z sz by'] [h : HH w I ((bx, .cells vs.toArray e (0, 0)) :: L)] [s : SO e a cap sz enc xs E] [sp : Split L E R] [hy : EncOf enc vs y] :
    XStep (XSem P (Builtin.append_ (List.toArray [T, T]) ty (List.toArray [.slice a xs.length cap, .slice (some ⟨bx, 0, none⟩) 1 c])) w K)
      (match Nat.beq vs.length sz with
       | true => onesK vs (XChk ((xs.length + 1) * by' ≤ 70368744177664 ∧ xs.length + 1 < 4611686018427387904)
          (∀ w' a' cap' E', HH w' I (E' ++ R) → SO e a' cap' sz enc (xs ++ [y]) E' → K (.slice a' (xs ++ [y]).length cap') w'))
       | false => XBad "size") := ⟨fun k => by
  split at k
  · rename_i hb
    obtain ⟨h1, ⟨hc, k⟩⟩ := onesK_ex k
    have he := hy.eq
    have hl : (enc y).length = sz := by rw [he]; exact Nat.eq_of_beq_eq_true hb
    have hperm : HH w I (E ++ ((bx, .cells vs.toArray e (0, 0)) :: R)) := h.perm ((List.Perm.cons _ sp.perm).trans List.perm_middle.symm)
    have hblk := h.own bx _ (List.mem_cons_self ..)
    obtain ⟨a', cap', E', w', hr, hs', hh'⟩ := append_run (P := P) (w := w) (T := T) (ty := ty) (x := .slice (some ⟨bx, 0, none⟩) 1 c) (ys := [y]) s hperm (by simpa using hl) (by simpa [he] using h1)
      (by simp [Builtin.lenOf, run_pure])
      (fun dr => by
        have := run_firstCells_some (P := P) (w := { w with drawn := dr }) sz 1 ⟨bx, 0, none⟩ 1 c vs (by rw [← he, hl]; simp) (by
          intro j v hj
          rw [add_none, cell_of (w := { w with drawn := dr }) hblk]
          simpa using hj)
        simpa [he] using this)
      (by simpa using hc.1) (by simpa using hc.2)
    refine .of hr (k w' a' cap' E' ?_ hs')
    exact HH.drop (A := E') (B := [(bx, .cells vs.toArray e (0, 0))]) (C := R) hh' (by simp)
  · exact nomatch k⟩
/-! texts and bytes -/
def bEnc (c : UInt8) : List Value := [.int .u8 (c.toNat : Int)]
def sEnc (l : List UInt8) : List Value := [.string ⟨l.toArray⟩]
def iEnc (n : Int) : List Value := [.int .i64 n]
instance {c : UInt8} : EncOf bEnc [.int .u8 (c.toNat : Int)] c := ⟨rfl⟩
instance {l : List UInt8} : EncOf sEnc [.string ⟨l.toArray⟩] l := ⟨rfl⟩
instance {n : Int} : EncOf iEnc [.int .i64 n] n := ⟨rfl⟩
theorem fold_push (l : List UInt8) : ∀ (acc : ByteArray), (l.map fun c => (c.toNat : Int)).foldl (fun r n => r.push (UInt8.ofNat n.toNat)) acc = ⟨(acc.data.toList ++ l).toArray⟩ := by
  induction l with
  | nil => intro acc; simp
  | cons c l ih =>
    intro acc
    rw [List.map_cons, List.foldl_cons, ih]
    simp
instance convBytesStr {S e' : TypeId} {a : Option Addr} {c : Nat} {l : List UInt8} [t : TySlice P S e'] [t8 : TyInt P e' .u8] [ts : TyStr P T] [h : HH w I L] [s : SlA I a 1 bEnc l] :
    XStep (XSem P (convert S T (.slice a l.length c)) w K) (K (.string ⟨l.toArray⟩) w) := ⟨fun k => by
  refine .of ?_ k
  simp only [convert, Sem.run_bind, run_underlying t.eq, run_underlying ts.eq, run_underlying t8.eq, Result.andThen]
  rcases s.ex with rfl | ⟨b, o, rfl, hs⟩
  · cases a with
    | none => rfl
    | some ad =>
      have := run_bytesToString (P := P) w ad 0 c [] rfl
      exact this
  · obtain ⟨cc, Te, fz, h1, h2⟩ := hs.ex
    have hc : ∀ j v, (l.map fun c => Value.int .u8 (c.toNat : Int))[j]? = some v → w.cell? ((⟨b, o, none⟩ : Addr).add j) = some v := by
      intro j v hj
      rw [List.getElem?_map] at hj
      obtain ⟨x, hx, rfl⟩ := Option.map_eq_some_iff.1 hj
      rw [add_none, cell_of (h.imm _ _ h1)]
      simpa using (h2 j x hx).2 0 _ rfl
    have hl := run_loadCells_list (P := P) w ⟨b, o, none⟩ (l.map fun c => Value.int .u8 (c.toNat : Int)) hc
    rw [List.length_map] at hl
    have e : (l.map fun c => Value.int .u8 (c.toNat : Int)) = (l.map fun c => (c.toNat : Int)).map (Value.int .u8) := by simp
    rw [e] at hl
    have := run_bytesToString (P := P) w ⟨b, o, none⟩ l.length c _ hl
    rw [fold_push] at this
    exact this⟩
instance convStrBytes {e' : TypeId} {S : TypeId} {l : List UInt8} [t : TySlice P T e'] [t8 : TyInt P e' .u8] [ts : TyStr P S] [h : HH w I L] :
    XStep (XSem P (convert S T (.string ⟨l.toArray⟩)) w K) (∀ w' I' a c, I.Le I' → HH w' I' L → SlA I' a 1 bEnc l → l.length ≤ c → K (.slice a l.length c) w') := ⟨fun k => by
  let q : Question := .appendCap l.length 0 e'
  let cap := q.cut (w.tape w.drawn q)
  let cells : Array Value := (l.map fun b => Value.int .u8 (b.toNat : Int)).toArray ++ Array.replicate (cap - l.length) (.int .u8 0)
  let w1 : World := { w with drawn := w.drawn + 1 }
  let w2 : World := { w1 with heap := w1.heap.push (.cells cells e') }
  let w3 := w2.freeze ⟨w.heap.size, cells.size, none⟩ 1
  have hcap : l.length ≤ cap := by simp [cap, q, Question.cut]
  have hrun : (convert S T (.string ⟨l.toArray⟩)).run P w = .ok (.slice (some ⟨w.heap.size, 0, none⟩) l.length cap) w3 := by
    have hch := run_choose (P := P) (w := w) q rfl
    have hsz : (ByteArray.mk l.toArray).size = l.length := str_size l
    have hm : (markStringish ⟨w.heap.size, 0, none⟩).run P w2 = .ok () w3 := by
      have hsh : w2.shape? w.heap.size = some (e', cells.size) := by simp [World.shape?, w2, w1]
      simp [markStringish, Sem.run_bind, shape, Sem.run, freeze, hsh, Result.andThen, w3, pure]
    have hcl : (l.toArray.map fun b => Value.int .u8 (b.toNat : Int)) ++ Array.replicate (cap - l.length) (.int .u8 0) = cells := by simp [cells]
    simp only [convert, Sem.run_bind, run_underlying t.eq, run_underlying ts.eq, run_underlying t8.eq, Result.andThen, Conv.stringToBytes, hsz, hch, q]
    rw [show (Question.appendCap l.length 0 e').cut (w.tape w.drawn (Question.appendCap l.length 0 e')) = cap from rfl, hcl, run_newRow]
    show Result.andThen _ _ = _
    simp only [Result.andThen, w2, w1] at hm ⊢
    rw [hm]
    rfl
  have h2 : HH w2 I ((w.heap.size, .cells cells e') :: L) := (h.drawn (w.drawn + 1)).new _
  have h3 : HH w3 I ((w.heap.size, .cells cells e' (cells.size, cells.size + 1)) :: L) := by
    refine h2.put (b := w.heap.size) (o' := .cells cells e' (cells.size, cells.size + 1)) ⟨[], _, L, rfl, rfl⟩ _ ?_ rfl rfl rfl
    simp only [w3, World.freeze]
    rw [if_neg (by decide)]
    apply Array.ext_getElem?
    intro i
    simp only [Array.getElem?_modify, Array.getElem?_setIfInBounds]
    split
    · rename_i e; subst e; simp [w2, w1]
    · rfl
  obtain ⟨h4, h5, h6⟩ := h3.freeze
  refine .of hrun (k _ _ _ _ h5 h4 ⟨.inr ⟨_, 0, rfl, ⟨_, _, _, h6.eq, fun k x hx => ⟨rfl, fun j v hv => ?_⟩⟩⟩⟩ hcap)
  have hj : j = 0 := by
    have := (List.getElem?_eq_some_iff.1 hv).1
    simp [bEnc] at this; exact this
  subst hj
  simp only [bEnc, List.getElem?_cons_zero, Option.some.injEq] at hv
  subst hv
  have hk : k < l.length := (List.getElem?_eq_some_iff.1 hx).1
  simp only [cells, Nat.zero_add, Nat.mul_one, Nat.add_zero]
  rw [Array.getElem?_append_left (by simpa using hk)]
  simp [hx]⟩
instance lenSO {a : Option Addr} {cap n : Nat} {ty : TypeId} [t : TySlice P T e] : XStep (XSem P (Builtin.cap_ (List.toArray [T]) ty (List.toArray [.slice a n cap])) w K) (K (.int .i64 cap) w) := ⟨fun k => by
  refine .of ?_ k
  simp [Builtin.cap_, Sem.run_bind, run_underlying t.eq, Result.andThen, goInt, run_pure]⟩
end
end Go.X

/- Pointers; functions without a body; what the library's Builder does with its bytes. -/
namespace Go.X
set_option linter.unusedSimpArgs false
set_option linter.unusedSectionVars false

section
variable {P : Program} {ro : Option Nat} {w : World} {K : KV} {K1 : Value → Prop} {I : Im} {L R : Heap} {T : TypeId} {x y : Operand}
class TyPtr (P : Program) (T : TypeId) (e : outParam TypeId) : Prop where
  eq : P.underlying T = some (.pointer e)
class TyUnsafe (P : Program) (T : TypeId) : Prop where
  eq : P.underlying T = some .unsafePointer
theorem run_guard_ptr (op : BinOp) (a b : Option Addr) : (binOpG op T x y (.pointer a) (.pointer b)).run P w = (binOp op T (.pointer a) (.pointer b)).run P w := by
  simp only [binOpG, eqGuard, Sem.run_bind]
  split <;> simp [Result.andThen, run_pure]
theorem run_eq_ptr {e : TypeId} [t : TyPtr P T e] (a : Option Addr) : (Op.equal T (.pointer a) (.pointer none)).run P w = .ok a.isNone w := by
  have hp : P.underlying T = some (.pointer (P.pointee T)) := by
    have := t.eq
    simp [Program.pointee, this]
  exact run_equal_pointer_nil _ _ a hp
instance eqlNil {e : TypeId} {a : Option Addr} [t : TyPtr P T e] : XStep (XPur P (binOpG .eql T x y (.pointer a) (.pointer none)) K1) (K1 (.bool (decide (a = none)))) := ⟨fun k => by
  refine .of (fun w => ?_) k; rw [run_guard_ptr]; simp only [binOp, Sem.run_bind, run_eq_ptr, Result.andThen, run_pure]; cases a <;> rfl⟩
instance neqNil {e : TypeId} {a : Option Addr} [t : TyPtr P T e] : XStep (XPur P (binOpG .neq T x y (.pointer a) (.pointer none)) K1) (K1 (.bool (decide (¬ a = none)))) := ⟨fun k => by
  refine .of (fun w => ?_) k; rw [run_guard_ptr]; simp only [binOp, Sem.run_bind, run_eq_ptr, Result.andThen, run_pure]; cases a <;> rfl⟩
instance (priority := high) eqlNilS {e : TypeId} {a : Addr} [t : TyPtr P T e] : XStep (XPur P (binOpG .eql T x y (.pointer (some a)) (.pointer none)) K1) (K1 (.bool false)) := ⟨fun k => eqlNil.go k⟩
instance (priority := high) neqNilS {e : TypeId} {a : Addr} [t : TyPtr P T e] : XStep (XPur P (binOpG .neq T x y (.pointer (some a)) (.pointer none)) K1) (K1 (.bool true)) := ⟨fun k => neqNil.go k⟩
instance (priority := high) eqlNilN {e : TypeId} [t : TyPtr P T e] : XStep (XPur P (binOpG .eql T x y (.pointer none) (.pointer none)) K1) (K1 (.bool true)) := ⟨fun k => eqlNil.go k⟩
instance (priority := high) neqNilN {e : TypeId} [t : TyPtr P T e] : XStep (XPur P (binOpG .neq T x y (.pointer none) (.pointer none)) K1) (K1 (.bool false)) := ⟨fun k => neqNil.go k⟩
theorem run_eq_same {e sz by' : Nat} {z : List Value} [t : TyPtr P T e] [te : TyElem P e z sz by'] (a : Addr) : (Op.equal T (.pointer (some a)) (.pointer (some a))).run P w = .ok true w := by
  obtain ⟨ii, zz, h1, h2, h3, h4, h5, h6, h7⟩ := te.ex
  have hs : (sizeOf e).run P w = .ok sz w := by rw [run_sizeOf w h1, Program.cellsOf, h1]; simp [h4]
  show (Op.equalIn (9999 + 1) T (.pointer (some a)) (.pointer (some a))).run P w = _
  rw [Op.equalIn]
  simp only [Sem.run_bind, run_underlying t.eq, Result.andThen, hs, ne_eq, h7, not_false_eq_true, if_true, sameAddr, beq_self_eq_true, run_pure]
instance neqSame {e sz by' : Nat} {z : List Value} {a : Addr} [t : TyPtr P T e] [te : TyElem P e z sz by'] : XStep (XPur P (binOpG .neq T x y (.pointer (some a)) (.pointer (some a))) K1) (K1 (.bool false)) := ⟨fun k => by
  refine .of (fun w => ?_) k; rw [run_guard_ptr]; simp only [binOp, Sem.run_bind, run_eq_same, Result.andThen, run_pure]; rfl⟩
instance eqlSame {e sz by' : Nat} {z : List Value} {a : Addr} [t : TyPtr P T e] [te : TyElem P e z sz by'] : XStep (XPur P (binOpG .eql T x y (.pointer (some a)) (.pointer (some a))) K1) (K1 (.bool true)) := ⟨fun k => by
  refine .of (fun w => ?_) k; rw [run_guard_ptr]; simp only [binOp, Sem.run_bind, run_eq_same, Result.andThen, run_pure]⟩

/-! functions without a body -/
class FnExt (P : Program) (g : FuncId) (s : outParam (Array Value → Sem Value)) : Prop where
  ex : ∃ fn, P.funcs[g]? = some fn ∧ (fn.name == "runtime.NumGoroutine") = false ∧ fn.body.isNone = true ∧ (Extern.findNext fn).isNone = true ∧ Extern.find fn = some s
theorem run_callExt {g : FuncId} {s : Array Value → Sem Value} [h : FnExt P g s] (args : Array Value) (w : World) :
    (callFunc g args).run P w = Result.andThen ((s args).run P w) (fun v w' => Result.ok (Next.value v) w') := by
  obtain ⟨fn, hf, h1, h2, h3, h4⟩ := h.ex
  have h3' : Extern.findNext fn = none := by simpa using h3
  simp only [callFunc, Sem.run_bind]
  show Result.andThen (Result.ok P w) _ = _
  simp only [Result.andThen, hf, h1, h2, Bool.false_eq_true, if_false, if_true, Sem.run_bind, h3', h4]
  rfl
instance callExt {g : FuncId} {s : Array Value → Sem Value} {fs cs as : List Value} [h : FnExt P g s] :
    XStep (XCall P ro (.func (.func g) fs.toArray cs.toArray) as w K) (appsK fs as fun l => appsK l cs fun l => XSem P (s l.toArray) w K) := ⟨fun hk => by
  rw [appsK_eq, appsK_eq] at hk
  obtain ⟨v, w', hr, k⟩ := hk.ex
  refine ⟨?_⟩
  have e : (callSem (.func (.func g) fs.toArray cs.toArray) as).run P w = .ok (.value v) w' := by
    have ea : fs.toArray ++ as.toArray ++ cs.toArray = (fs ++ as ++ cs).toArray := by simp
    simp only [callSem, Deferred.ofValue, Sem.run_bind, run_pure, Result.andThen, invoke, ea, run_callExt, hr]
  rw [e]; exact k⟩
instance noEscape {v : Value} : XStep (XSem P (Extern.AbiNoEscape.same (List.toArray [v])) w K) (K v w) := ⟨fun k => .of rfl k⟩
def ixb (l : List UInt8) (c : UInt8) : Int := if l.findIdx (· == c) < l.length then (l.findIdx (· == c) : Int) else -1
theorem find_range (l : List UInt8) (c : UInt8) : ((List.range l.length).find? fun i => (ByteArray.mk l.toArray)[i]! == c) = if l.findIdx (· == c) < l.length then some (l.findIdx (· == c)) else none := by
  have hb : ∀ i, i < l.length → (ByteArray.mk l.toArray)[i]! = l.getD i 0 := by
    intro i hi
    have hs : i < (ByteArray.mk l.toArray).size := by simpa [ByteArray.size] using hi
    rw [getElem!_pos (ByteArray.mk l.toArray) i hs]
    show (List.toArray l)[i] = _
    simp [List.getD, hi]
  split
  · rename_i h
    rw [List.find?_range_eq_some]
    refine ⟨?_, ?_, ?_⟩
    · rw [hb _ h]
      have := List.findIdx_getElem (w := h)
      simpa [List.getD, h] using this
    · simpa using h
    · intro j hj
      have := List.not_of_lt_findIdx hj
      rw [hb _ (by omega)]
      have hjl : j < l.length := by omega
      simpa [List.getD, hjl] using this
  · rename_i h
    rw [List.find?_range_eq_none]
    intro i hi
    rw [hb i hi]
    have hm : l.getD i 0 ∈ l := by
      have hi' : i < l.length := hi
      simp [List.getD, hi']
    have := List.findIdx_eq_length.1 (show l.findIdx (· == c) = l.length by have := List.findIdx_le_length (p := (· == c)) (xs := l); omega)
    simpa using this _ hm
instance indexByteStr {l : List UInt8} {c : UInt8} : XStep (XSem P (Extern.BytealgIndexByte.indexByte (List.toArray [.string ⟨l.toArray⟩, .int .u8 (c.toNat : Int)])) w K) (K (.int .i64 (ixb l c)) w) := ⟨fun k => by
  refine .of ?_ k
  have hs : (Extern.Bytes.bytesOf (.string ⟨l.toArray⟩)).run P w = .ok ⟨l.toArray⟩ w := rfl
  have hc : (Extern.Bytes.asByte (.int .u8 (c.toNat : Int))).run P w = .ok c w := by
    simp [Extern.Bytes.asByte, run_pure]
  change Sem.run P (bind (Extern.Bytes.bytesOf (.string ⟨l.toArray⟩)) fun b => bind (Extern.Bytes.asByte (.int .u8 (c.toNat : Int))) _) w = _
  simp only [Sem.run_bind, hs, hc, Result.andThen, str_size, find_range]
  unfold ixb
  split
  · rename_i heq
    split at heq
    · rename_i h; cases heq; rw [if_pos h]; rfl
    · cases heq
  · rename_i heq
    split at heq
    · cases heq
    · rename_i h; rw [if_neg h]; rfl⟩
end
end Go.X
namespace Go.X
section
variable {P : Program} {ro : Option Nat} {w : World} {K : KV} {K1 : Value → Prop} {I : Im} {L R : Heap} {T S : TypeId}
class Lies (P : Program) (e cnt o u n : Nat) : Prop where
  eq : liesAt P P.depth e cnt o u n = true
theorem run_program : (program).run P w = .ok P w := rfl
theorem run_shape {b : Nat} {c : Array Value} {Te : TypeId} {fz : Nat × Nat} (h : w.heap[b]? = some (.cells c Te fz)) : (shape b).run P w = .ok (some (Te, c.size)) w := by
  simp [shape, Sem.run, World.shape?, h]
theorem run_seenAt {b o : Nat} {c : Array Value} {Te : TypeId} {fz : Nat × Nat} (h : w.heap[b]? = some (.cells c Te fz)) : (Conv.seenAt ⟨b, o, none⟩).run P w = .ok ⟨b, o, none⟩ w := by
  simp [Conv.seenAt, viewAt, Sem.run_bind, run_shape h, Result.andThen]
instance convPtrUnsafe {e sz by' b o : Nat} {z : List Value} {cs : List Value} {Te : TypeId} {fz : Nat × Nat} [s : TyPtr P S e] [t : TyUnsafe P T] [te : TyElem P e z sz by'] [h : HH w I L] [ob : Own L b (.cells cs.toArray Te fz)] :
    XStep (XSem P (convert S T (.pointer (some ⟨b, o, none⟩))) w K) (ldK cs o fun _ => K (.pointer (some ⟨b, o, none⟩)) w) := ⟨fun k => by
  obtain ⟨v, hv, k⟩ := ldK_ex k
  obtain ⟨ii, zz, h1, h2, h3, h4, h5, h6, h7⟩ := te.ex
  have hs : (sizeOf e).run P w = .ok sz w := by rw [run_sizeOf w h1, Program.cellsOf, h1]; simp [h4]
  have hb := h.own _ _ ob.mem
  have hlt : o < cs.length := (List.getElem?_eq_some_iff.1 hv).1
  refine .of ?_ k
  have hc : (cellsIn b).run P w = .ok (some cs.length) w := by simp [cellsIn, Sem.run_bind, run_shape hb, Result.andThen]
  unfold convert
  simp only [Sem.run_bind, run_underlying s.eq, run_underlying t.eq, Result.andThen, Conv.unsafePointer, run_seenAt hb, hc, hs]
  rw [if_neg (by simp; omega)]
  rfl⟩
instance convUnsafePtr {u sz su by' byu b o : Nat} {z zu : List Value} {cs : List Value} {Te : TypeId} {fz : Nat × Nat} [s : TyUnsafe P S] [t : TyPtr P T u] [te : TyElem P Te z sz by'] [tu : TyElem P u zu su byu] [h : HH w I L]
    [ob : Own L b (.cells cs.toArray Te fz)] [hl : Lies P Te 1 o u 1] :
    XStep (XSem P (convert S T (.pointer (some ⟨b, o, none⟩))) w K) (match Nat.beq cs.length sz with | true => K (.pointer (some ⟨b, o, none⟩)) w | false => XBad "size") := ⟨fun k => by
  split at k
  · rename_i hb'
    have hcs := Nat.eq_of_beq_eq_true hb'
    obtain ⟨ii, zz, h1, h2, h3, h4, h5, h6, h7⟩ := te.ex
    obtain ⟨iu, zzu, g1, g2, g3, g4, g5, g6, g7⟩ := tu.ex
    have hs : (sizeOf u).run P w = .ok su w := by rw [run_sizeOf w g1, Program.cellsOf, g1]; simp [g4]
    have hc : P.cellsOf Te = sz := by rw [Program.cellsOf, h1]; simp [h4]
    have hb := h.own _ _ ob.mem
    refine .of ?_ k
    have hv : (variablesAt ⟨b, o, none⟩ u 1).run P w = .ok true w := by
      simp only [variablesAt, Sem.run_bind, run_program, run_shape hb, Result.andThen, List.size_toArray, hcs, hc, Nat.div_self (Nat.pos_of_ne_zero h7), run_pure, hl.eq]
    unfold convert
    simp only [Sem.run_bind, run_underlying s.eq, run_underlying t.eq, Result.andThen, Conv.unsafePointer, run_seenAt hb, hs, hv, Bool.or_true, if_true, run_pure]
  · exact nomatch k⟩
instance sliceDataSome {a : Addr} {n c : Nat} {at' : Array TypeId} {ty : TypeId} : XStep (XPur P (Builtin.unsafeSliceData_ at' ty (List.toArray [.slice (some a) n c])) K1) (XChk (c ≠ 0) (K1 (.pointer (some a)))) := ⟨fun ⟨h, k⟩ => by
  refine .of (fun w => ?_) k
  change Sem.run P (if c ≠ 0 then pure (Value.pointer (some a)) else _) w = _
  rw [if_pos h, run_pure]⟩
instance sliceDataNone {n c : Nat} {at' : Array TypeId} {ty : TypeId} : XStep (XPur P (Builtin.unsafeSliceData_ at' ty (List.toArray [.slice none n c])) K1) (K1 (.pointer none)) := ⟨fun k => .of (fun _ => rfl) k⟩
instance unsafeStringNone {ty : TypeId} {T0 : TypeId} : XStep (XSem P (Builtin.unsafeString_ (List.toArray [T0, T]) ty (List.toArray [.pointer none, .int .i64 0])) w K) (K (.string ⟨#[]⟩) w) := ⟨fun k => .of rfl k⟩
theorem run_loadBytes {b : Nat} {c : Array Value} {Te : TypeId} {fz : Nat × Nat} (hb : w.heap[b]? = some (.cells c Te fz)) : ∀ (l : List UInt8) (o : Nat) (acc : ByteArray), (∀ k x, l[k]? = some x → c[o + k]? = some (.int .u8 (x.toNat : Int))) →
    (loadBytes ⟨b, o, none⟩ acc l.length).run P w = .ok ⟨(acc.data.toList ++ l).toArray⟩ w := by
  intro l
  induction l with
  | nil => intro o acc _; simp [loadBytes]
  | cons x l ih =>
    intro o acc h
    have h0 := h 0 x rfl
    have hld : (load ⟨b, o, none⟩).run P w = .ok (.int .u8 (x.toNat : Int)) w := by
      simp only [load, Sem.run]; rw [cell_of hb]; simp at h0; rw [h0]
    simp only [List.length_cons, loadBytes, Sem.run_bind, hld, Result.andThen, add_none]
    rw [ih (o + 1) _ (fun k y hk => by have := h (k + 1) y (by simpa using hk); rwa [show o + (k + 1) = o + 1 + k by omega] at this)]
    simp
theorem lies_bytes {e : TypeId} {n cnt : Nat} (h1 : P.cellsOf e = 1) (hn : n ≤ cnt) : liesAt P P.depth e cnt 0 e n = true := by
  have hd : P.depth = (P.depth - 1) + 1 := by unfold Program.depth; omega
  rw [hd]
  unfold liesAt
  rw [hd]
  simp only [Nat.add_sub_cancel]
  unfold rowAt
  simp only [h1, Nat.zero_div, Nat.zero_mod, Nat.zero_add]
  have hl : sameLayout P (P.depth - 1 + 1) e e = true := by unfold sameLayout; simp
  simp [hn, hl]
/-- the bytes of a slice of our own become a text's -/
theorem unsafeString_run {pt e b : Nat} {l : List UInt8} {junk : List Value} {Ts ty : TypeId} (tp : TyPtr P pt e) (te : TyElem P e [.int .u8 0] 1 1) (h : HH w I ((b, oc ((l.map bEnc).flatten ++ junk) e) :: R))
    (hl : l ≠ []) (hn : l.length < 4611686018427387904) :
    ∃ w', (Builtin.unsafeString_ (List.toArray [pt, Ts]) ty (List.toArray [.pointer (some ⟨b, 0, none⟩), .int .i64 l.length])).run P w = .ok (.string ⟨l.toArray⟩) w' ∧ HH w' I R := by
  have hb := h.own b _ (List.mem_cons_self ..)
  obtain ⟨ii, zz, h1, h2, h3, h4, h5, h6, h7⟩ := te.ex
  have hc : P.cellsOf e = 1 := by rw [Program.cellsOf, h1]; simp [h4]
  have hlen : (l.map bEnc).flatten.length = l.length := by rw [flat_len (sz := 1) (fun _ _ => rfl)]; simp
  have hpos : 0 < l.length := List.length_pos_iff.2 hl
  let w' := w.freeze ⟨b, 0, none⟩ l.length
  have hv : (variablesAt ⟨b, 0, none⟩ e l.length).run P w = .ok true w := by
    simp only [variablesAt, Sem.run_bind, run_program, run_shape hb, Result.andThen, run_pure, hc, Nat.div_one]
    rw [lies_bytes hc (by simp only [List.size_toArray, List.length_append, hlen]; omega)]
  have hld := run_loadBytes (P := P) hb l 0 .empty (fun k x hk => by
    have := flat_get (enc := bEnc) (sz := 1) (fun _ _ => rfl) hk (j := 0) rfl junk
    simpa using this)
  have hel : (elemOf pt).run P w = .ok e w := by simp [elemOf, Sem.run_bind, run_underlying tp.eq, Result.andThen]
  refine ⟨w', ?_, ?_⟩
  · have hn0 : ¬ ((l.length : Int) < 0) := by omega
    have hm : ¬ ((l.length : Int) > IntKind.i64.max) := by
      have : IntKind.i64.max = 9223372036854775807 := by decide
      rw [this]; omega
    have hz : ¬ ((l.length : Int) = 0) := by omega
    have hpt : (List.toArray [pt, Ts])[0]? = some pt := rfl
    change Sem.run P (bind (asInt (.int .i64 (l.length : Int))) _) w = _
    have hi : (asInt (.int .i64 (l.length : Int))).run P w = .ok (l.length : Int) w := rfl
    simp only [Sem.run_bind, hi, Result.andThen, hn0, hm, hz, if_false, run_pure, hpt, hel, Int.toNat_natCast, hv, if_true, hld, freeze, Sem.run]
    rfl
  · have hR : HH w I R := HH.drop (A := []) (B := [(b, oc ((l.map bEnc).flatten ++ junk) e)]) (C := R) h rfl
    have hne : ∀ c o, I.at_ c = some o ∨ (c, o) ∈ R → c ≠ b := by
      rintro c o (hc | hc) rfl
      · have := h.disj c _ (List.mem_cons_self ..)
        rw [hc] at this; cases this
      · have := h.nodup
        simp only [List.map_cons, List.nodup_cons] at this
        exact this.1 (List.mem_map.2 ⟨(c, o), hc, rfl⟩)
    have hget : ∀ c, c ≠ b → w'.heap[c]? = w.heap[c]? := by
      intro c hcb
      simp only [w', World.freeze]
      rw [if_neg (by omega)]
      simp only [Array.getElem?_modify]
      rw [if_neg (Ne.symm hcb)]
    have hf : w'.os = w.os ∧ w'.tape = w.tape ∧ w'.output = w.output := by
      simp only [w', World.freeze]; split <;> exact ⟨rfl, rfl, rfl⟩
    exact ⟨fun c o hc => by rw [hget c (hne c o (.inl hc))]; exact hR.imm _ _ hc, fun c o hc => by rw [hget c (hne c o (.inr hc))]; exact hR.own _ _ hc, hR.disj, hR.nodup, hf.1.trans hR.os, hf.2.1.trans hR.tape, hf.2.2.trans hR.output⟩
end
end Go.X
