/- lex: signs. -/
import Derived.Test.YtpbijnigkhjkmaaGreatLib
namespace Go.Proofs
open Go.X
set_option maxHeartbeats 1000000
set_option linter.unusedVariables false
set_option linter.unusedSimpArgs false

def isDigit (c : UInt8) : Bool := decide (48 ≤ c.toNat ∧ c.toNat ≤ 57)
def isLetter (c : UInt8) : Bool := decide (c.toNat = 95 ∨ (97 ≤ c.toNat ∧ c.toNat ≤ 122) ∨ (65 ≤ c.toNat ∧ c.toNat ≤ 90))
instance letterC {w : World} {I : Im} {L : Heap} [hh : HH w I L] {c : UInt8} {K : KV} : XStep (XApp Tryz.prog 98 [.int .u8 (c.toNat : Int)] w K) (K (.bool (isLetter c)) w) := ⟨fun k => by
  refine .of Tryz.func98 ?_
  repeat' (conv => whnf
           first
             | exact trivial
             | refine XStep.go ?_
             | refine XChk.mk (by first | omega | decide | (simp only [List.length_take, List.length_drop]; omega) | (simp only [List.length_append, List.length_cons, List.length_nil]; omega)) ?_
             | refine XBoth.mk ?_ ?_
             | intro xx
             | (refine XBr.t (by omega) ?_)
             | (refine XBr.f (by omega) ?_)
             | refine XOpt.mk (fun x hc => ?_) (fun hc => ?_)
             | refine XRes.mk (fun x hc => ?_) (fun x hc => ?_)
             | refine XBr.mk (fun hc => ?_) (fun hc => ?_)
             | refine XIf.mk (fun hc => ?_) (fun hc => ?_))
  all_goals conv => whnf
  all_goals
    refine cast (congrArg (fun b => K (.bool b) w) ?_) k
    unfold isLetter
    first
    | (apply decide_eq_true; omega)
    | (apply decide_eq_false; omega)
    | (apply decide_eq_decide.2; omega)⟩
instance digitC {w : World} {I : Im} {L : Heap} [hh : HH w I L] {c : UInt8} {K : KV} : XStep (XApp Tryz.prog 100 [.int .u8 (c.toNat : Int)] w K) (K (.bool (isDigit c)) w) := ⟨fun k => by
  refine .of Tryz.func100 ?_
  repeat' (conv => whnf
           first
             | exact trivial
             | refine XStep.go ?_
             | refine XChk.mk (by first | omega | decide | (simp only [List.length_take, List.length_drop]; omega) | (simp only [List.length_append, List.length_cons, List.length_nil]; omega)) ?_
             | refine XBoth.mk ?_ ?_
             | intro xx
             | (refine XBr.t (by omega) ?_)
             | (refine XBr.f (by omega) ?_)
             | refine XOpt.mk (fun x hc => ?_) (fun hc => ?_)
             | refine XRes.mk (fun x hc => ?_) (fun x hc => ?_)
             | refine XBr.mk (fun hc => ?_) (fun hc => ?_)
             | refine XIf.mk (fun hc => ?_) (fun hc => ?_))
  all_goals conv => whnf
  all_goals
    refine cast (congrArg (fun b => K (.bool b) w) ?_) k
    unfold isDigit
    first
    | (apply decide_eq_true; omega)
    | (apply decide_eq_false; omega)
    | (apply decide_eq_decide.2; omega)⟩
instance name1C {w : World} {I : Im} {L : Heap} [hh : HH w I L] {c : UInt8} {K : KV} : XStep (XApp Tryz.prog 139 [.int .u8 (c.toNat : Int)] w K) (K (.bool (isLetter c || isDigit c)) w) := ⟨fun k => by
  refine .of Tryz.func139 ?_
  repeat' (conv => whnf
           first
             | exact trivial
             | refine XStep.go ?_
             | refine XChk.mk (by first | omega | decide | (simp only [List.length_take, List.length_drop]; omega) | (simp only [List.length_append, List.length_cons, List.length_nil]; omega)) ?_
             | refine XBoth.mk ?_ ?_
             | intro xx
             | (refine XBr.t (by omega) ?_)
             | (refine XBr.f (by omega) ?_)
             | refine XOpt.mk (fun x hc => ?_) (fun hc => ?_)
             | refine XRes.mk (fun x hc => ?_) (fun x hc => ?_)
             | refine XBr.mk (fun hc => ?_) (fun hc => ?_)
             | refine XIf.mk (fun hc => ?_) (fun hc => ?_))
  all_goals conv => whnf
  all_goals refine cast (congrArg (fun b => K (.bool b) w) ?_) k
  all_goals simp [*]⟩
instance {I : Im} : PureB Tryz.prog I (.func (.func 139) #[] #[]) (fun c => isLetter c || isDigit c) :=
  PureB.ofApp (fs := []) (cs := []) fun w I' L c hl hh => name1C.go ⟨rfl, hh⟩
instance {I : Im} : PureB Tryz.prog I (.func (.func 100) #[] #[]) isDigit :=
  PureB.ofApp (fs := []) (cs := []) fun w I' L c hl hh => digitC.go ⟨rfl, hh⟩

/-! run, words, marks, name -/
theorem takeWhile_find (p : UInt8 → Bool) (xs : Bs) : xs.findIdx (fun c => !p c) = (xs.takeWhile p).length := by
  induction xs with
  | nil => rfl
  | cons x xs ih =>
    rw [List.findIdx_cons, List.takeWhile_cons]
    cases p x <;> simp [ih]
theorem run1P {I I' : Im} {b : Nat} {f : Value} {p : UInt8 → Bool} (hl : I.Le I') [hp : PureB Tryz.prog I f p] [hi : Imm I' b (oc [f] 182)] :
    PureB Tryz.prog I' (.func (.func 138) #[] #[.pointer (some ⟨b, 0, none⟩)]) (fun c => !p c) :=
  PureB.ofApp (fs := []) (cs := [.pointer (some ⟨b, 0, none⟩)]) fun w J L c hj hh => by
    have hp2 := hp.mono (hl.trans hj)
    refine .of Tryz.func138 ?_
    repeat' (conv => whnf
             first
               | exact trivial
               | refine XStep.go ?_
               | refine XChk.mk (by first | omega | decide | (simp only [List.length_take, List.length_drop]; omega) | (simp only [List.length_append, List.length_cons, List.length_nil]; omega)) ?_
               | refine XBoth.mk ?_ ?_
               | intro xx
               | (refine XBr.t (by omega) ?_)
               | (refine XBr.f (by omega) ?_)
               | refine XOpt.mk (fun x hc => ?_) (fun hc => ?_)
               | refine XRes.mk (fun x hc => ?_) (fun x hc => ?_)
               | refine XBr.mk (fun hc => ?_) (fun hc => ?_)
               | refine XIf.mk (fun hc => ?_) (fun hc => ?_))
    all_goals conv => whnf
    exact ⟨rfl, ‹_›⟩
instance runC {w : World} {I : Im} {L : Heap} {a : Option Addr} {c : Nat} {f : Value} {p : UInt8 → Bool} {xs : Bs} {K : KV} [hh : HH w I L] [sl : SlA I a 1 bEnc xs] [hp : PureB Tryz.prog I f p] :
    XStep (XApp Tryz.prog 96 [.slice a xs.length c, f] w K) (XChk (xs.length ≤ 1000000000) (∀ w', HH w' I L → K (.int .i64 (xs.takeWhile p).length) w')) := ⟨fun ⟨h, k⟩ => by
  refine .of Tryz.func96 ?_
  obtain ⟨g, fs, cs, rfl⟩ := hp.fn
  repeat' (conv => whnf
           first
             | exact trivial
             | refine XStep.go ?_
             | refine XChk.mk (by first | omega | decide | (simp only [List.length_take, List.length_drop]; omega) | (simp only [List.length_append, List.length_cons, List.length_nil]; omega)) ?_
             | refine XBoth.mk ?_ ?_
             | intro xx
             | (refine XBr.t (by omega) ?_)
             | (refine XBr.f (by omega) ?_)
             | refine XOpt.mk (fun x hc => ?_) (fun hc => ?_)
             | refine XRes.mk (fun x hc => ?_) (fun x hc => ?_)
             | refine XBr.mk (fun hc => ?_) (fun hc => ?_)
             | refine XIf.mk (fun hc => ?_) (fun hc => ?_))
  obtain ⟨h2, hl, hi⟩ := xx.freeze
  clear xx
  have hp2 := run1P (p := p) hl (hi := hi)
  repeat' (conv => whnf
           first
             | exact trivial
             | refine XStep.go ?_
             | refine XChk.mk (by first | omega | decide | (simp only [List.length_take, List.length_drop]; omega) | (simp only [List.length_append, List.length_cons, List.length_nil]; omega)) ?_
             | refine XBoth.mk ?_ ?_
             | intro xx
             | (refine XBr.t (by omega) ?_)
             | (refine XBr.f (by omega) ?_)
             | refine XOpt.mk (fun x hc => ?_) (fun hc => ?_)
             | refine XRes.mk (fun x hc => ?_) (fun x hc => ?_)
             | refine XBr.mk (fun hc => ?_) (fun hc => ?_)
             | refine XIf.mk (fun hc => ?_) (fun hc => ?_))
  all_goals conv => whnf
  all_goals
    refine cast (congrArg (fun b => K (.int .i64 b) _) ?_) (k _ (xx.less hl))
    rw [idx, takeWhile_find] at *
    have := (List.takeWhile_sublist p (l := xs)).length_le
    split at hc <;> first | omega | simp_all⟩
def wordList : List Bs := [[111, 110], [105, 102], [101, 108, 115, 101], [119, 104, 105, 108, 101], [115, 116, 111, 112], [97, 110, 100], [111, 114], [110, 111, 116], [110, 105, 108]]
def markList : List Bs := [[61, 61], [33, 61], [60, 61], [62, 61], [60], [62], [61], [43], [45], [42], [47], [37], [40], [41], [123], [125], [44], [59]]
instance wordsC {w : World} {I : Im} {L : Heap} {K : KV} [hh : HH w I L] :
    XStep (XApp Tryz.prog 141 [] w K) (∀ w' I' a, I.Le I' → HH w' I' L → SlA I' a 1 sEnc wordList → K (.slice a wordList.length 9) w') := ⟨fun k => by
  refine .of Tryz.func141 ?_
  repeat' (conv => whnf
           first
             | exact trivial
             | refine XStep.go ?_
             | refine XChk.mk (by first | omega | decide | (simp only [List.length_take, List.length_drop]; omega) | (simp only [List.length_append, List.length_cons, List.length_nil]; omega)) ?_
             | refine XBoth.mk ?_ ?_
             | intro xx
             | (refine XBr.t (by omega) ?_)
             | (refine XBr.f (by omega) ?_)
             | refine XOpt.mk (fun x hc => ?_) (fun hc => ?_)
             | refine XRes.mk (fun x hc => ?_) (fun x hc => ?_)
             | refine XBr.mk (fun hc => ?_) (fun hc => ?_)
             | refine XIf.mk (fun hc => ?_) (fun hc => ?_))
  obtain ⟨I', hl, h2, _, hs⟩ := xx.row (enc := sEnc) (sz := 1) wordList rfl (by simp [wordList, sEnc])
  conv => whnf
  exact k _ _ _ hl h2 hs⟩
instance marksC {w : World} {I : Im} {L : Heap} {K : KV} [hh : HH w I L] :
    XStep (XApp Tryz.prog 103 [] w K) (∀ w' I' a, I.Le I' → HH w' I' L → SlA I' a 1 sEnc markList → K (.slice a markList.length 18) w') := ⟨fun k => by
  refine .of Tryz.func103 ?_
  repeat' (conv => whnf
           first
             | exact trivial
             | refine XStep.go ?_
             | refine XChk.mk (by first | omega | decide | (simp only [List.length_take, List.length_drop]; omega) | (simp only [List.length_append, List.length_cons, List.length_nil]; omega)) ?_
             | refine XBoth.mk ?_ ?_
             | intro xx
             | (refine XBr.t (by omega) ?_)
             | (refine XBr.f (by omega) ?_)
             | refine XOpt.mk (fun x hc => ?_) (fun hc => ?_)
             | refine XRes.mk (fun x hc => ?_) (fun x hc => ?_)
             | refine XBr.mk (fun hc => ?_) (fun hc => ?_)
             | refine XIf.mk (fun hc => ?_) (fun hc => ?_))
  obtain ⟨I', hl, h2, _, hs⟩ := xx.row (enc := sEnc) (sz := 1) markList rfl (by simp [markList, sEnc])
  conv => whnf
  exact k _ _ _ hl h2 hs⟩
end Go.Proofs

/- lex: names, numbers, texts. -/
namespace Go.Proofs
open Go.X
set_option maxHeartbeats 1000000
set_option linter.unusedVariables false
set_option linter.unusedSimpArgs false

structure Sg where
  kind : Int
  text : Bs
  num : Int
  at_ : Int
def Sg.none : Sg := ⟨0, [], 0, 0⟩
abbrev Sg.v (s : Sg) : Value := .agg (List.toArray [.int .i64 s.kind, .string ⟨s.text.toArray⟩, .int .i64 s.num, .int .i64 s.at_])
abbrev res3 (r : Sg × Nat × Int) : Value := .tuple (List.toArray [r.1.v, Value.int .i64 (r.2.1 : Nat), .int .i64 r.2.2])
theorem take_takeWhile {α : Type} (p : α → Bool) (xs : List α) : xs.take (xs.takeWhile p).length = xs.takeWhile p := by
  induction xs with
  | nil => rfl
  | cons x xs ih => rw [List.takeWhile_cons]; cases p x <;> simp [ih]

def nameF (t : Bs) : Sg × Nat × Int :=
  let x := t.takeWhile fun c => isLetter c || isDigit c
  if 63 < x.length then (⟨1, x, 0, 0⟩, x.length, 3) else (⟨if x ∈ wordList then 2 else 1, x, 0, 0⟩, x.length, 0)
instance nameC {w : World} {I : Im} {L : Heap} {a : Option Addr} {c : Nat} {xs : Bs} {K : KV} [hh : HH w I L] [sl : SlA I a 1 bEnc xs] :
    XStep (XApp Tryz.prog 99 [.slice a xs.length c] w K) (XChk (xs.length ≤ 1000000000 ∧ xs.length ≤ c) (∀ w', HH w' I L → K (res3 (nameF xs)) w')) := ⟨fun ⟨⟨h1, h2⟩, k⟩ => by
  have hle := (List.takeWhile_sublist (fun c => isLetter c || isDigit c) (l := xs)).length_le
  refine .of Tryz.func99 ?_
  repeat' (conv => whnf
           first
             | exact trivial
             | refine XStep.go ?_
             | refine XChk.mk (by first | omega | decide | (simp only [List.length_take, List.length_drop]; omega) | (simp only [List.length_append, List.length_cons, List.length_nil]; omega)) ?_
             | refine XBoth.mk ?_ ?_
             | (refine XCode.drawH (id := 5) #[.lou, .pur, .qui, .lou] (.one 1 (.br 0 (.one 2 (.one 3 .done)) (.br 2 (.one 0 (.one 3 .done)) .non))) mixed (by kernel_rfl) ?_)
             | intro xx
             | (refine XBr.t (by omega) ?_)
             | (refine XBr.f (by omega) ?_)
             | refine XOpt.mk (fun x hc => ?_) (fun hc => ?_)
             | refine XRes.mk (fun x hc => ?_) (fun x hc => ?_)
             | refine XBr.mk (fun hc => ?_) (fun hc => ?_)
             | refine XIf.mk (fun hc => ?_) (fun hc => ?_))
  all_goals conv => whnf
  all_goals
    refine retTo (k _ HH.fin) ?_
    simp only [take_takeWhile, retV] at *
    dsimp only [nameF]
    repeat' split
    all_goals first | rfl | contradiction | (exfalso; omega)⟩

/-! cut.Number -/
def numGo (most : Int) : Int → Bs → Option Int
  | n, [] => some n
  | n, b :: bs => if isDigit b = false ∨ most / 10 < n then none else if most < n * 10 + (b.toNat - 48 : Int) then none else numGo most (n * 10 + (b.toNat - 48 : Int)) bs
def numF (most : Int) (t : Bs) : Option Int := if t = [] ∨ (1 < t.length ∧ t[0]? = some 48) then none else numGo most 0 t
theorem numGo_drop {most n : Int} {xs : Bs} {k : Nat} {b : UInt8} (h : xs[k]? = some b) : numGo most n (xs.drop k) =
    if isDigit b = false ∨ most / 10 < n then none else if most < n * 10 + (b.toNat - 48 : Int) then none else numGo most (n * 10 + (b.toNat - 48 : Int)) (xs.drop (k + 1)) := by
  obtain ⟨hk, e⟩ := List.getElem?_eq_some_iff.1 h
  rw [List.drop_eq_getElem_cons hk, numGo, e]
theorem noneTo {α : Type} {o : Option α} {A : α → Prop} {B : Prop} (h : XOpt o A B) (e : o = none) : B := by
  cases h with
  | none _ b => exact b
  | some x e' => rw [e] at e'; cases e'
theorem someTo {α : Type} {o : Option α} {A : α → Prop} {B : Prop} {x : α} (h : XOpt o A B) (e : o = some x) : A x := by
  cases h with
  | none e' => rw [e] at e'; cases e'
  | some y e' a => rw [e] at e'; cases e'; exact a
instance numC {w : World} {I : Im} {L : Heap} {a : Option Addr} {c : Nat} {most : Int} {xs : Bs} {K : KV} [hh : HH w I L] [sl : SlA I a 1 bEnc xs] :
    XStep (XApp Tryz.prog 142 [.slice a xs.length c, .int .i64 most] w K) (XChk (xs.length ≤ 1000000000 ∧ 0 ≤ most ∧ most ≤ 1000000000000) (∀ w', HH w' I L → XOpt (numF most xs) (fun n => K (.tuple (List.toArray [.int .i64 n, .bool true])) w') (K (.tuple (List.toArray [.int .i64 0, .bool false])) w'))) := ⟨fun ⟨⟨h1, h2, h3⟩, k⟩ => by
  refine .of Tryz.func142 ?_
  repeat' (conv => whnf
           first
             | exact trivial
             | refine XStep.go ?_
             | refine XChk.mk (by first | omega | decide | (simp only [List.length_take, List.length_drop]; omega) | (simp only [List.length_append, List.length_cons, List.length_nil]; omega)) ?_
             | refine XBoth.mk ?_ ?_
             | intro xx
             | (refine XBr.t (by omega) ?_)
             | (refine XBr.f (by omega) ?_)
             | refine XOpt.mk (fun x hc => ?_) (fun hc => ?_)
             | refine XRes.mk (fun x hc => ?_) (fun x hc => ?_)
             | refine XBr.mk (fun hc => ?_) (fun hc => ?_)
             | refine XIf.mk (fun hc => ?_) (fun hc => ?_))
  · conv => whnf
    have : xs = [] := List.length_eq_zero_iff.1 (by omega)
    exact noneTo (k _ hh) (by rw [numF, if_pos (.inl this)])
  · conv => whnf
    have e := xx.eq
    have hb : xs[0]? = some 48 := by rw [show (0 : Nat) = Int.toNat 0 from rfl, e]; congr 1; apply UInt8.toNat_inj.1; show _ = 48; omega
    exact noneTo (k _ hh) (by rw [numF, if_pos (.inr ⟨by omega, hb⟩)])
  all_goals
    have hn : numF most xs = numGo most 0 xs := by
      rw [numF, if_neg]
      rintro (rfl | ⟨_, h0⟩)
      · simp at *
      · first
        | omega
        | (have e := xx.eq
           have := Option.some.inj (e.symm.trans h0)
           subst this
           exact ‹¬ (_ : Int) = 48› rfl)
    refine XCode.loopG (fun s : Nat × Int => [some (.slice a xs.length c), some (.int .i64 most), none, none, some (.int .i64 0), some (.bool false), some (.int .i64 s.2), none, none, none, none, none, none, none, none, none, none, none, none, none, none, none, none, some (.slice a xs.length c), some (.int .i64 xs.length), some (.int .i64 s.1), none, none, none, none, none, none, none, none, none, none, none, none, none, none, none, none, none, none, none, none, none, none, none, none, none, none, none, none, none, none])
      (fun s w => HH w I L ∧ 0 ≤ s.2 ∧ s.2 ≤ most ∧ s.1 ≤ xs.length ∧ numGo most s.2 (xs.drop s.1) = numF most xs) (fun s => xs.length - s.1) (0, 0) ?_ ⟨hh, by omega, by omega, by omega, by simp [hn]⟩ ?_
    · simp [fits]
    · rintro ⟨k', n⟩ w ⟨hh, h4, h5, h6, h7⟩
      dsimp only at h4 h5 h6 h7 ⊢
      have hd : most.tdiv 10 = most / 10 := Int.tdiv_eq_ediv_of_nonneg h2
      repeat' (conv => whnf
               first
                 | exact trivial
                 | refine XStep.go ?_
                 | refine XChk.mk (by first | omega | decide | (simp only [List.length_take, List.length_drop]; omega) | (simp only [List.length_append, List.length_cons, List.length_nil]; omega)) ?_
                 | refine XBoth.mk ?_ ?_
                 | intro xx
                 | (refine XBr.t (by omega) ?_)
                 | (refine XBr.f (by omega) ?_)
                 | refine XOpt.mk (fun x hc => ?_) (fun hc => ?_)
                 | refine XRes.mk (fun x hc => ?_) (fun x hc => ?_)
                 | refine XBr.mk (fun hc => ?_) (fun hc => ?_)
                 | refine XIf.mk (fun hc => ?_) (fun hc => ?_))
      all_goals conv => whnf
      all_goals first
      | (have hk : xs.drop k' = [] := List.drop_eq_nil_of_le (by omega)
         exact someTo (x := n) (k _ hh) (by rw [← h7, hk]; rfl))
      | (have hx := (‹At xs k' _›).eq
         rw [numGo_drop hx] at h7
         first
         | (rw [if_pos (by unfold isDigit; first | (left; exact decide_eq_false (by omega)) | (right; omega))] at h7
            exact noneTo (k _ hh) (by rw [← h7]))
         | (rw [if_neg (by unfold isDigit; rw [decide_eq_true (by omega)]; simp; omega)] at h7
            first
            | (rw [if_pos (by omega)] at h7
               exact noneTo (k _ hh) (by rw [← h7]))
            | (rw [if_neg (by omega)] at h7
               exact ⟨(k' + 1, _), rfl, by simp [fits], ⟨inferInstance, by omega, by omega, by omega, h7⟩, by omega⟩)))
      skip⟩
end Go.Proofs

/- lex: numbers, texts. -/
namespace Go.Proofs
open Go.X
set_option maxHeartbeats 1000000
set_option linter.unusedVariables false
set_option linter.unusedSimpArgs false

def numberF (t : Bs) : Sg × Nat × Int :=
  let x := t.takeWhile isDigit
  if 1 < x.length ∧ t[0]? = some 48 then (Sg.none, x.length, 2) else match numF 2147483648 x with
    | none => (Sg.none, x.length, 3)
    | some n => (⟨3, [], n, 0⟩, x.length, 0)
instance numberC {w : World} {I : Im} {L : Heap} {a : Option Addr} {c : Nat} {xs : Bs} {K : KV} [hh : HH w I L] [sl : SlA I a 1 bEnc xs] :
    XStep (XApp Tryz.prog 101 [.slice a xs.length c] w K) (XChk (xs.length ≤ 1000000000 ∧ xs.length ≤ c) (∀ w', HH w' I L → K (res3 (numberF xs)) w')) := ⟨fun ⟨⟨h1, h2⟩, k⟩ => by
  have hle := (List.takeWhile_sublist isDigit (l := xs)).length_le
  have hsl := sl.take (xs.takeWhile isDigit).length
  rw [take_takeWhile] at hsl
  refine .of Tryz.func101 ?_
  repeat' (conv => whnf
           first
             | exact trivial
             | refine XStep.go ?_
             | refine XChk.mk (by first | omega | decide | (simp only [List.length_take, List.length_drop]; omega) | (simp only [List.length_append, List.length_cons, List.length_nil]; omega)) ?_
             | refine XBoth.mk ?_ ?_
             | intro xx
             | (refine XBr.t (by omega) ?_)
             | (refine XBr.f (by omega) ?_)
             | refine XOpt.mk (fun x hc => ?_) (fun hc => ?_)
             | refine XRes.mk (fun x hc => ?_) (fun x hc => ?_)
             | refine XBr.mk (fun hc => ?_) (fun hc => ?_)
             | refine XIf.mk (fun hc => ?_) (fun hc => ?_))
  all_goals conv => whnf
  all_goals
    refine retTo (k _ HH.fin) ?_
    simp only [take_takeWhile, retV] at *
    dsimp only [numberF]
    first
    | (have e := (‹At xs (Int.toNat 0) _›).eq
       have e : xs[0]? = _ := e
       rw [e])
    | skip
    repeat' split
    all_goals first
    | rfl
    | (exfalso; omega)
    | (exfalso; simp only [Option.some.injEq, ← UInt8.toNat_inj, UInt8.reduceToNat] at *; omega)
    | (simp_all; done)⟩

theorem fidx_lt {l : Bs} {c : UInt8} {n : Nat} (h : fidx l c = some n) : n < l.length := by
  unfold fidx at h; split at h <;> cases h; assumption
def escO (c : UInt8) : Option UInt8 := (fidx [110, 34, 92] c).map fun n => [10, 34, 92].getD n 0
def textGo : Nat → Bs → Bs → Sg × Nat × Int
  | n, _, [] => (Sg.none, n, 2)
  | n, out, b :: r =>
    if b.toNat = 34 then (if 4096 < out.length then (Sg.none, n, 3) else (⟨4, out, 0, 0⟩, n + 1, 0))
    else if b.toNat = 10 then (Sg.none, n, 2)
    else if b.toNat = 92 then match r with
      | [] => (Sg.none, n + 1, 2)
      | e :: r' => match escO e with
        | none => (Sg.none, n + 1, 2)
        | some x => textGo (n + 1 + 1) (out ++ [x]) r'
    else textGo (n + 1) (out ++ [b]) r
def textF (t : Bs) : Sg × Nat × Int := textGo 1 [] (t.drop 1)
theorem textGo_cons (n : Nat) (out : Bs) (b : UInt8) (r : Bs) : textGo n out (b :: r) =
    if b.toNat = 34 then (if 4096 < out.length then (Sg.none, n, 3) else (⟨4, out, 0, 0⟩, n + 1, 0))
    else if b.toNat = 10 then (Sg.none, n, 2)
    else if b.toNat = 92 then match r with
      | [] => (Sg.none, n + 1, 2)
      | e :: r' => match escO e with
        | none => (Sg.none, n + 1, 2)
        | some x => textGo (n + 1 + 1) (out ++ [x]) r'
    else textGo (n + 1) (out ++ [b]) r := by
  rw [textGo.eq_def]; rfl
theorem drop_at {α : Type} {xs : List α} {k : Nat} {b : α} (h : xs[k]? = some b) : xs.drop k = b :: xs.drop (k + 1) := by
  obtain ⟨hk, e⟩ := List.getElem?_eq_some_iff.1 h
  rw [List.drop_eq_getElem_cons hk, e]
instance textC {w : World} {I : Im} {L : Heap} {a : Option Addr} {c : Nat} {xs : Bs} {K : KV} [hh : HH w I L] [sl : SlA I a 1 bEnc xs] :
    XStep (XApp Tryz.prog 102 [.slice a xs.length c] w K) (XChk (xs.length ≤ 1000000000 ∧ 0 < xs.length) (∀ w', HH w' I L → K (res3 (textF xs)) w')) := ⟨fun ⟨⟨h1, h2⟩, k⟩ => by
  refine .of Tryz.func102 ?_
  repeat' (conv => whnf
           first
             | exact trivial
             | refine XStep.go ?_
             | refine XChk.mk (by first | omega | decide | (simp only [List.length_take, List.length_drop]; omega) | (simp only [List.length_append, List.length_cons, List.length_nil]; omega)) ?_
             | refine XBoth.mk ?_ ?_
             | intro xx
             | (refine XBr.t (by omega) ?_)
             | (refine XBr.f (by omega) ?_)
             | refine XOpt.mk (fun x hc => ?_) (fun hc => ?_)
             | refine XRes.mk (fun x hc => ?_) (fun x hc => ?_)
             | refine XBr.mk (fun hc => ?_) (fun hc => ?_)
             | refine XIf.mk (fun hc => ?_) (fun hc => ?_))
  rename_i b2 _ _ b5 w1
  refine XCode.loopG (fun s : Nat × Bs => [some (.slice a xs.length c), none, some (.pointer (some ⟨b2, 0, none⟩)), some (.int .i64 0), some (.int .i64 0), some (.pointer (some ⟨b5, 0, none⟩)), some (.int .i64 s.1), none, none, none, none, none, none, none, none, none, none, none, none, none, none, none, none, none, none, none, none, none, none, none, none, none, none, none, none, none, none, none, none, none, none, none, none, none, none, none, none, none, none, none, none, none, none, none, none, none, none, none, none, none])
    (fun s w => (∃ x aa cap E, HH w I ((b5, oc [.pointer x, .slice aa s.2.length cap] TBld) :: (E ++ ((b2, oc [.int .i64 0, .string ⟨#[]⟩, .int .i64 0, .int .i64 0] 159) :: L))) ∧ BSelf x b5 ∧ SO T8 aa cap 1 bEnc s.2 E ∧ BNil s.2 aa)
      ∧ 1 ≤ s.1 ∧ s.1 ≤ xs.length ∧ s.2.length ≤ s.1 ∧ textGo s.1 s.2 (xs.drop s.1) = textF xs) (fun s => xs.length - s.1) (1, []) ?_
    ⟨⟨none, none, 0, [], xx, inferInstance, SO.nil, inferInstance⟩, by omega, by omega, by simp, rfl⟩ ?_
  · simp [fits]
  · rintro ⟨n, out⟩ w ⟨⟨x, aa, cap, E, hh, bs, so, bn⟩, h4, h5, h6, h7⟩
    dsimp only at hh so bn h4 h5 h6 h7 ⊢
    repeat' (conv => whnf
             first
               | exact trivial
               | refine XStep.go ?_
               | refine XChk.mk (by first | omega | decide | (simp only [List.length_take, List.length_drop]; omega) | (simp only [List.length_append, List.length_cons, List.length_nil]; omega)) ?_
               | refine XBoth.mk ?_ ?_
               | (refine XChk.mk (by have h3 : x < 3 := fidx_lt hc; exact ⟨by omega, by show (x : Int) < 3; omega⟩) ?_)
               | intro xx
               | (refine XBr.t (by omega) ?_)
               | (refine XBr.f (by omega) ?_)
               | refine XOpt.mk (fun x hc => ?_) (fun hc => ?_)
               | refine XRes.mk (fun x hc => ?_) (fun x hc => ?_)
               | refine XBr.mk (fun hc => ?_) (fun hc => ?_)
               | refine XIf.mk (fun hc => ?_) (fun hc => ?_))
    all_goals conv => whnf
    · have hx := (‹At xs n _›).eq
      rw [drop_at hx, textGo_cons, if_pos (by omega), if_pos (by omega)] at h7
      exact retTo (k _ HH.fin) (by rw [← h7]; rfl)
    · have hx := (‹At xs n _›).eq
      rw [drop_at hx, textGo_cons, if_pos (by omega), if_neg (by omega)] at h7
      exact retTo (k _ HH.fin) (by rw [← h7]; rfl)
    · have hx := (‹At xs n _›).eq
      rw [drop_at hx, textGo_cons, if_neg (by omega), if_pos (by omega)] at h7
      exact retTo (k _ HH.fin) (by rw [← h7]; rfl)
    · have hx := (‹At xs n _›).eq
      rw [drop_at hx, textGo_cons, if_neg (by omega), if_neg (by omega), if_pos (by omega), List.drop_eq_nil_of_le (by omega)] at h7
      exact retTo (k _ HH.fin) (by rw [← h7]; rfl)
    · have hx := (‹At xs n _›).eq
      have hx2 := (‹At xs (n + 1) _›).eq
      rw [drop_at hx, drop_at hx2, textGo_cons, if_neg (by omega), if_neg (by omega), if_pos (by omega)] at h7
      simp only [escO, hc, Option.map_some] at h7
      exact ⟨(n + 1 + 1, _), rfl, by simp [fits], ⟨⟨_, _, _, _, ‹HH _ _ ((b5, _) :: _)›, inferInstance, xx, inferInstance⟩, by omega, by omega, by simp; omega, h7⟩, by omega⟩
    · have hx := (‹At xs n _›).eq
      have hx2 := (‹At xs (n + 1) _›).eq
      rw [drop_at hx, drop_at hx2, textGo_cons, if_neg (by omega), if_neg (by omega), if_pos (by omega)] at h7
      simp only [escO, hc, Option.map_none] at h7
      exact retTo (k _ HH.fin) (by rw [← h7]; rfl)
    · have hx := (‹At xs n _›).eq
      rw [drop_at hx, textGo_cons, if_neg (by omega), if_neg (by omega), if_neg (by omega)] at h7
      exact ⟨(n + 1, _), rfl, by simp [fits], ⟨⟨_, _, _, _, ‹HH _ _ ((b5, _) :: _)›, inferInstance, xx, inferInstance⟩, by omega, by omega, by simp; omega, h7⟩, by omega⟩
    · rw [List.drop_eq_nil_of_le (by omega), textGo] at h7
      have : n = xs.length := by omega
      subst this
      exact retTo (k _ HH.fin) (by rw [← h7]; rfl)⟩
end Go.Proofs

/- lex: the first sign, what is empty. -/
namespace Go.Proofs
open Go.X
set_option maxHeartbeats 1000000
set_option linter.unusedVariables false
set_option linter.unusedSimpArgs false

instance equalC {w : World} {I : Im} {L : Heap} {a b : Option Addr} {c d : Nat} {xs ys : Bs} {K : KV} [hh : HH w I L] [sl : SlA I a 1 bEnc xs] [s2 : SlA I b 1 bEnc ys] :
    XStep (XApp Tryz.prog 146 [.slice a xs.length c, .slice b ys.length d] w K) (XChk (xs.length ≤ 1000000000 ∧ ys.length ≤ 1000000000) (∀ w', HH w' I L → K (.bool (decide (xs = ys))) w')) := ⟨fun ⟨⟨h1, h2⟩, k⟩ => by
  refine .of Tryz.func146 ?_
  repeat' (conv => whnf
           first
             | exact trivial
             | refine XStep.go ?_
             | refine XChk.mk (by first | omega | decide | (simp only [List.length_take, List.length_drop]; omega) | (simp only [List.length_append, List.length_cons, List.length_nil]; omega)) ?_
             | refine XBoth.mk ?_ ?_
             | intro xx
             | (refine XBr.t (by omega) ?_)
             | (refine XBr.f (by omega) ?_)
             | refine XOpt.mk (fun x hc => ?_) (fun hc => ?_)
             | refine XRes.mk (fun x hc => ?_) (fun x hc => ?_)
             | refine XBr.mk (fun hc => ?_) (fun hc => ?_)
             | refine XIf.mk (fun hc => ?_) (fun hc => ?_))
  conv => whnf
  exact retTo (k _ HH.fin) rfl⟩
instance hasPrefixC {w : World} {I : Im} {L : Heap} {a b : Option Addr} {c d : Nat} {xs ys : Bs} {K : KV} [hh : HH w I L] [sl : SlA I a 1 bEnc xs] [s2 : SlA I b 1 bEnc ys] :
    XStep (XApp Tryz.prog 104 [.slice a xs.length c, .slice b ys.length d] w K) (XChk (xs.length ≤ 1000000000 ∧ xs.length ≤ c) (∀ w', HH w' I L → K (.bool (ys.isPrefixOf xs)) w')) := ⟨fun ⟨⟨h1, h2⟩, k⟩ => by
  have e : ys.isPrefixOf xs = decide (xs.take ys.length = ys) := by
    rw [Bool.eq_iff_iff, List.isPrefixOf_iff_prefix, decide_eq_true_iff, List.prefix_iff_eq_take]
    exact eq_comm
  have e2 : xs.length < ys.length → decide (xs.take ys.length = ys) = false := fun h => decide_eq_false fun h3 => by
    have := congrArg List.length h3
    simp at this; omega
  refine .of Tryz.func104 ?_
  repeat' (conv => whnf
           first
             | exact trivial
             | refine XStep.go ?_
             | refine XChk.mk (by first | omega | decide | (simp only [List.length_take, List.length_drop]; omega) | (simp only [List.length_append, List.length_cons, List.length_nil]; omega)) ?_
             | refine XBoth.mk ?_ ?_
             | intro xx
             | (refine XBr.t (by omega) ?_)
             | (refine XBr.f (by omega) ?_)
             | refine XOpt.mk (fun x hc => ?_) (fun hc => ?_)
             | refine XRes.mk (fun x hc => ?_) (fun x hc => ?_)
             | refine XBr.mk (fun hc => ?_) (fun hc => ?_)
             | refine XIf.mk (fun hc => ?_) (fun hc => ?_))
  all_goals conv => whnf
  all_goals
    refine retTo (k _ HH.fin) ?_
    rw [e]
    first | rfl | (rw [e2 (by omega)]; rfl) | (rw [e2 (by omega)]; simp [retV]; omega)⟩

def signF (t : Bs) : Sg × Nat × Int :=
  match t with
  | [] => (Sg.none, 0, 2)
  | c :: _ => if isLetter c = true then nameF t else if isDigit c = true then numberF t else if c.toNat = 34 then textF t else
    match markList.find? (·.isPrefixOf t) with
    | some m => (⟨5, m, 0, 0⟩, m.length, 0)
    | none => (Sg.none, 0, 2)
theorem markList_len {k : Nat} {m : Bs} (h : markList[k]? = some m) : m.length ≤ 2 := by
  have : ∀ m ∈ markList, m.length ≤ 2 := by decide
  exact this m (List.mem_of_getElem? h)
instance signC {w : World} {I : Im} {L : Heap} {a : Option Addr} {c : Nat} {xs : Bs} {K : KV} [hh : HH w I L] [sl : SlA I a 1 bEnc xs] :
    XStep (XApp Tryz.prog 70 [.slice a xs.length c] w K) (XChk (xs.length ≤ 1000000000 ∧ xs.length ≤ c ∧ 0 < xs.length) (∀ w', HH w' I L → K (res3 (signF xs)) w')) := ⟨fun ⟨⟨h1, h2, h3⟩, k⟩ => by
  obtain ⟨b, bs, rfl⟩ : ∃ b bs, xs = b :: bs := by cases xs with | nil => simp at h3 | cons b bs => exact ⟨b, bs, rfl⟩
  have h0 : At (b :: bs) (Int.toNat 0) b := ⟨rfl⟩
  refine .of Tryz.func70 ?_
  repeat' (conv => whnf
           first
             | exact trivial
             | refine XStep.go ?_
             | refine XChk.mk (by first | omega | decide | (simp only [List.length_take, List.length_drop]; omega) | (simp only [List.length_append, List.length_cons, List.length_nil]; omega)) ?_
             | refine XBoth.mk ?_ ?_
             | intro xx
             | (refine XBr.t (by omega) ?_)
             | (refine XBr.f (by omega) ?_)
             | refine XOpt.mk (fun x hc => ?_) (fun hc => ?_)
             | refine XRes.mk (fun x hc => ?_) (fun x hc => ?_)
             | refine XBr.mk (fun hc => ?_) (fun hc => ?_)
             | refine XIf.mk (fun hc => ?_) (fun hc => ?_))
  · conv => whnf
    exact retTo (k _ HH.fin) (by rw [signF, if_pos hc]; rfl)
  · conv => whnf
    exact retTo (k _ HH.fin) (by rw [signF, if_neg (by simp [*]), if_pos hc]; rfl)
  · conv => whnf
    exact retTo (k _ HH.fin) (by rw [signF, if_neg (by simp [*]), if_neg (by simp [*]), if_pos (by omega)]; rfl)
  rename_i b2 _ _ _ _ _ _ _ _ _ _ _ _ _ w1 I1 a1 le1 hh1
  refine XCode.loopG (fun n : Nat => [some (.slice a (b :: bs).length c), none, some (.pointer (some ⟨b2, 0, none⟩)), some (.int .i64 0), some (.int .i64 0), none, none, none, none, none, none, none, none, none, none, none, none, none, none, none, none, none, none, none, none, none, none, none, none, none, none, none, none, none, none, none, none, some (.slice a1 markList.length 18), some (.int .i64 markList.length), some (.int .i64 n), none, none, none, none, none, none, none, none, none, none, none, none, none])
    (fun n w => HH w I1 ((b2, oc [.int .i64 0, .string ⟨#[]⟩, .int .i64 0, .int .i64 0] 159) :: L) ∧ n ≤ markList.length ∧ (markList.drop n).find? (·.isPrefixOf (b :: bs)) = markList.find? (·.isPrefixOf (b :: bs)))
    (fun n => markList.length - n) 0 ?_ ⟨hh1, by omega, rfl⟩ ?_
  · simp [fits]
  · rintro n w ⟨hh2, h4, h5⟩
    have hml : markList.length = 18 := rfl
    repeat' (conv => whnf
             first
               | exact trivial
               | refine XStep.go ?_
               | refine XChk.mk (by first | omega | decide | (simp only [List.length_take, List.length_drop]; omega) | (simp only [List.length_append, List.length_cons, List.length_nil]; omega)) ?_
               | refine XBoth.mk ?_ ?_
               | intro xx
               | (refine XBr.t (by omega) ?_)
               | (refine XBr.f (by omega) ?_)
               | refine XOpt.mk (fun x hc => ?_) (fun hc => ?_)
               | refine XRes.mk (fun x hc => ?_) (fun x hc => ?_)
               | refine XBr.mk (fun hc => ?_) (fun hc => ?_)
               | refine XIf.mk (fun hc => ?_) (fun hc => ?_))
    all_goals conv => whnf
    · have hx := (‹At markList n _›).eq
      rw [drop_at hx, List.find?_cons, hc] at h5
      refine retTo (k _ HH.fin) ?_
      rw [signF, if_neg (by simp [*]), if_neg (by simp [*]), if_neg (by omega), ← h5]; rfl
    · have hx := (‹At markList n _›).eq
      rw [drop_at hx, List.find?_cons, hc] at h5
      exact ⟨n + 1, rfl, by simp [fits], ⟨HH.fin, by omega, h5⟩, by omega⟩
    · rw [List.drop_eq_nil_of_le (by omega), List.find?_nil] at h5
      refine retTo (k _ HH.fin) ?_
      rw [signF, if_neg (by simp [*]), if_neg (by simp [*]), if_neg (by omega), ← h5]; rfl⟩

def emGo : Bool → Bs → Nat
  | _, [] => 0
  | true, b :: r => if b.toNat = 10 then 1 + emGo false r else 1 + emGo true r
  | false, b :: r => if b.toNat = 32 ∨ b.toNat = 9 ∨ b.toNat = 13 ∨ b.toNat = 10 then 1 + emGo false r else if b.toNat = 35 then 1 + emGo true r else 0
def emF (t : Bs) : Nat := emGo false t
def notNl (c : UInt8) : Bool := decide (¬ (c.toNat : Int) = 10)
theorem emGo_true (l : Bs) : emGo true l = (l.takeWhile notNl).length + emGo false (l.drop (l.takeWhile notNl).length) := by
  induction l with
  | nil => rfl
  | cons b r ih =>
    rw [emGo, List.takeWhile_cons]
    by_cases h : b.toNat = 10
    · rw [if_pos h, show notNl b = false from decide_eq_false (by omega)]
      simp [emGo, h]
    · rw [if_neg h, show notNl b = true from decide_eq_true (by omega), ih]
      simp; omega
theorem emGo_le (c : Bool) (l : Bs) : emGo c l ≤ l.length := by
  induction l generalizing c with
  | nil => cases c <;> simp [emGo]
  | cons b r ih =>
    have h1 := ih true
    have h2 := ih false
    cases c <;> rw [emGo] <;> repeat' split
    all_goals simp; try omega
theorem h35 {c : UInt8} (h : (c.toNat : Int) = 35) : ¬ c.toNat = 10 ∧ c.toNat = 35 := by omega
theorem blank_some {c : UInt8} {n : Nat} (h : fidx [32, 9, 13, 10] c = some n) : c.toNat = 32 ∨ c.toNat = 9 ∨ c.toNat = 13 ∨ c.toNat = 10 := by
  unfold fidx at h
  split at h
  · rename_i hl
    have := List.findIdx_getElem (w := hl)
    have hm := List.getElem_mem hl
    generalize ([32, 9, 13, 10] : Bs)[List.findIdx (fun x => x == c) [32, 9, 13, 10]] = y at this hm
    simp at this; subst this
    simp at hm
    rcases hm with rfl | rfl | rfl | rfl <;> simp
  · cases h
theorem blank_none {c : UInt8} (h : fidx [32, 9, 13, 10] c = none) : ¬ (c.toNat = 32 ∨ c.toNat = 9 ∨ c.toNat = 13 ∨ c.toNat = 10) := by
  unfold fidx at h
  split at h
  · cases h
  · rename_i hl
    intro hc
    apply hl
    apply List.findIdx_lt_length_of_exists
    refine ⟨c, ?_, by simp⟩
    have : c = 32 ∨ c = 9 ∨ c = 13 ∨ c = 10 := by simpa [← UInt8.toNat_inj] using hc
    rcases this with rfl | rfl | rfl | rfl <;> simp
instance {I : Im} : PureB Tryz.prog I (.func (.func 97) #[] #[]) notNl :=
  PureB.ofApp (fs := []) (cs := []) fun w I' L c hl hh => by
    refine .of Tryz.func97 ?_
    repeat' (conv => whnf
             first
               | exact trivial
               | refine XStep.go ?_
               | refine XChk.mk (by first | omega | decide | (simp only [List.length_take, List.length_drop]; omega) | (simp only [List.length_append, List.length_cons, List.length_nil]; omega)) ?_
               | refine XBoth.mk ?_ ?_
               | intro xx
               | (refine XBr.t (by omega) ?_)
               | (refine XBr.f (by omega) ?_)
               | refine XOpt.mk (fun x hc => ?_) (fun hc => ?_)
               | refine XRes.mk (fun x hc => ?_) (fun x hc => ?_)
               | refine XBr.mk (fun hc => ?_) (fun hc => ?_)
               | refine XIf.mk (fun hc => ?_) (fun hc => ?_))
    conv => whnf
    exact ⟨rfl, hh⟩
instance emptyC {w : World} {I : Im} {L : Heap} {a : Option Addr} {c : Nat} {xs : Bs} {K : KV} [hh : HH w I L] [sl : SlA I a 1 bEnc xs] :
    XStep (XApp Tryz.prog 69 [.slice a xs.length c] w K) (XChk (xs.length ≤ 1000000000 ∧ xs.length ≤ c) (∀ w', HH w' I L → K (.int .i64 (emF xs : Nat)) w')) := ⟨fun ⟨⟨h1, h2⟩, k⟩ => by
  refine .of Tryz.func69 ?_
  repeat' (conv => whnf
           first
             | exact trivial
             | refine XStep.go ?_
             | refine XChk.mk (by first | omega | decide | (simp only [List.length_take, List.length_drop]; omega) | (simp only [List.length_append, List.length_cons, List.length_nil]; omega)) ?_
             | refine XBoth.mk ?_ ?_
             | intro xx
             | (refine XBr.t (by omega) ?_)
             | (refine XBr.f (by omega) ?_)
             | refine XOpt.mk (fun x hc => ?_) (fun hc => ?_)
             | refine XRes.mk (fun x hc => ?_) (fun x hc => ?_)
             | refine XBr.mk (fun hc => ?_) (fun hc => ?_)
             | refine XIf.mk (fun hc => ?_) (fun hc => ?_))
  refine XCode.loopG (fun n : Nat => [some (.slice a xs.length c), none, some (.int .i64 0), some (.int .i64 n), none, none, none, none, none, none, none, none, none, none, none, none, none, none, none, none, none, none, none, none, none, none, none, none, none, none, none]) (fun n w => HH w I L ∧ n ≤ xs.length ∧ n + emF (xs.drop n) = emF xs) (fun n => xs.length - n) 0 ?_ ⟨hh, by omega, by simp⟩ ?_
  · simp [fits]
  · rintro n w ⟨hh2, h4, h5⟩
    unfold emF at h5
    have hle := (List.takeWhile_sublist notNl (l := xs.drop n)).length_le
    rw [List.length_drop] at hle
    repeat' (conv => whnf
             first
               | exact trivial
               | refine XStep.go ?_
               | refine XChk.mk (by first | omega | decide | (simp only [List.length_take, List.length_drop]; omega) | (simp only [List.length_append, List.length_cons, List.length_nil]; omega)) ?_
               | refine XBoth.mk ?_ ?_
               | intro xx
               | (refine XBr.t (by omega) ?_)
               | (refine XBr.f (by omega) ?_)
               | refine XOpt.mk (fun x hc => ?_) (fun hc => ?_)
               | refine XRes.mk (fun x hc => ?_) (fun x hc => ?_)
               | refine XBr.mk (fun hc => ?_) (fun hc => ?_)
               | refine XIf.mk (fun hc => ?_) (fun hc => ?_))
    all_goals conv => whnf
    · have hx := (‹At xs n _›).eq
      rw [drop_at hx, emGo, if_pos (blank_some hc)] at h5
      exact ⟨n + 1, rfl, by simp [fits], ⟨HH.fin, by omega, by unfold emF; omega⟩, by omega⟩
    · have hx := (‹At xs n _›).eq
      have h6 := emGo_true (xs.drop n)
      have hp : 0 < (List.takeWhile notNl (xs.drop n)).length := by
        rw [drop_at hx, List.takeWhile_cons, notNl, decide_eq_true (by omega)]; simp
      have h7 : emGo true (xs.drop n) = emGo false (xs.drop n) := by
        rw [drop_at hx]
        simp only [emGo]
        rw [if_neg (blank_none ‹fidx [32, 9, 13, 10] _ = none›)]
        rw [if_neg (h35 hc).1, if_pos (h35 hc).2]
      rw [List.drop_drop] at h6
      refine ⟨n + (List.takeWhile notNl (xs.drop n)).length, rfl, by simp [fits], ⟨HH.fin, by omega, by unfold emF; omega⟩, by omega⟩
    · have hx := (‹At xs n _›).eq
      rw [drop_at hx, emGo, if_neg (blank_none ‹fidx [32, 9, 13, 10] _ = none›), if_neg (by omega)] at h5
      exact retTo (k _ HH.fin) (by rw [emF, ← h5]; rfl)
    · rw [List.drop_eq_nil_of_le (by omega), emGo] at h5
      exact retTo (k _ HH.fin) (by rw [emF, ← h5]; rfl)⟩
end Go.Proofs

/- lex: all signs. -/
namespace Go.Proofs
open Go.X
set_option maxHeartbeats 1000000
set_option linter.unusedVariables false
set_option linter.unusedSimpArgs false

def encSg (s : Sg) : List Value := [.int .i64 s.kind, .string ⟨s.text.toArray⟩, .int .i64 s.num, .int .i64 s.at_]
instance {k n a : Int} {t : Bs} : EncOf encSg [.int .i64 k, .string ⟨t.toArray⟩, .int .i64 n, .int .i64 a] ⟨k, t, n, a⟩ := ⟨rfl⟩

theorem textGo_le (n : Nat) (out l : Bs) : n ≤ (textGo n out l).2.1 ∧ (textGo n out l).2.1 ≤ n + l.length := by
  fun_induction textGo n out l <;> simp_all <;> omega
theorem textGo_e (n : Nat) (out l : Bs) : 0 ≤ (textGo n out l).2.2 ∧ (textGo n out l).2.2 ≤ 3 := by
  fun_induction textGo n out l <;> simp_all
theorem find_le {l : List Bs} {p : Bs → Bool} {m : Bs} {n : Nat} (h : l.find? p = some m) (hl : ∀ x ∈ l, p x = true → x.length ≤ n ∧ 0 < x.length) : m.length ≤ n ∧ 0 < m.length :=
  hl m (List.mem_of_find?_eq_some h) (List.find?_some h)
theorem signF_le (t : Bs) (h : 0 < t.length) : (signF t).2.1 ≤ t.length ∧ ((signF t).2.2 = 0 → 0 < (signF t).2.1) ∧ 0 ≤ (signF t).2.2 ∧ (signF t).2.2 ≤ 3 := by
  obtain ⟨b, bs, rfl⟩ : ∃ b bs, t = b :: bs := by cases t with | nil => simp at h | cons b bs => exact ⟨b, bs, rfl⟩
  unfold signF
  dsimp only
  split
  · have h1 := (List.takeWhile_sublist (fun c => isLetter c || isDigit c) (l := b :: bs)).length_le
    have h2 : 0 < ((b :: bs).takeWhile fun c => isLetter c || isDigit c).length := by simp [List.takeWhile_cons, *]
    unfold nameF
    dsimp only
    split <;> simp only [] <;> omega
  · split
    · have h1 := (List.takeWhile_sublist isDigit (l := b :: bs)).length_le
      have h2 : 0 < ((b :: bs).takeWhile isDigit).length := by simp [List.takeWhile_cons, *]
      unfold numberF
      dsimp only
      repeat' split
      all_goals simp only []; omega
    · split
      · have h1 := textGo_le 1 [] bs
        have h2 := textGo_e 1 [] bs
        simp only [textF, List.drop_succ_cons, List.drop_zero, List.length_cons]
        omega
      · split
        · rename_i m hm
          have h1 : m.length ≤ (b :: bs).length ∧ 0 < m.length := find_le hm fun x hx hp => by
            have hp := (List.isPrefixOf_iff_prefix.1 hp).length_le
            have : ∀ m ∈ markList, 0 < m.length := by decide
            exact ⟨hp, this x hx⟩
          simp only []
          omega
        · simp
def signsGo (t : Bs) : Nat → Nat → List Sg → Except Int (List Sg)
  | 0, _, _ => .error 2
  | fuel + 1, i, out =>
    if i = t.length then .ok (out ++ [⟨0, [], 0, i⟩]) else
    let r := signF (t.drop i)
    if r.2.2 = 0 ∧ 1024 ≤ out.length then .error 3 else
    if r.2.2 ≠ 0 then .error r.2.2 else
    signsGo t fuel (i + r.2.1 + emF (t.drop (i + r.2.1))) (out ++ [{ r.1 with at_ := i }])
def signsF (t : Bs) : Except Int (List Sg) := if 4096 < t.length then .error 3 else signsGo t (t.length + 1) (emF t) []
instance signsC {w : World} {I : Im} {L : Heap} {a : Option Addr} {c : Nat} {xs : Bs} {K : KV} [hh : HH w I L] [sl : SlA I a 1 bEnc xs] :
    XStep (XApp Tryz.prog 40 [.slice a xs.length c] w K) (XChk (xs.length ≤ 1000000000 ∧ xs.length ≤ c)
      (XRes (signsF xs) (fun ss => ∀ w' I' a c, I.Le I' → HH w' I' L → SlA I' a 4 encSg ss → ss.length ≤ 1025 → ss.length ≤ c → K (.tuple (List.toArray [.slice a ss.length c, .int .i64 0])) w')
        fun e => ∀ w', HH w' I L → K (.tuple (List.toArray [.slice none 0 0, .int .i64 e])) w')) := ⟨fun ⟨⟨h1, h2⟩, k⟩ => by
  have hle := emGo_le false xs
  refine .of Tryz.func40 ?_
  repeat' (conv => whnf
           first
             | exact trivial
             | refine XStep.go ?_
             | refine XChk.mk (by first | omega | decide | (simp only [List.length_take, List.length_drop]; omega) | (simp only [List.length_append, List.length_cons, List.length_nil]; omega)) ?_
             | refine XBoth.mk ?_ ?_
             | intro xx
             | (refine XBr.t (by omega) ?_)
             | (refine XBr.f (by omega) ?_)
             | refine XOpt.mk (fun x hc => ?_) (fun hc => ?_)
             | refine XRes.mk (fun x hc => ?_) (fun x hc => ?_)
             | refine XBr.mk (fun hc => ?_) (fun hc => ?_)
             | refine XIf.mk (fun hc => ?_) (fun hc => ?_))
  · conv => whnf
    exact (k.toErr (by rw [signsF, if_pos (by omega)])) _ HH.fin
  rw [signsF, if_neg (by omega)] at k
  refine XCode.loopG (fun s : Nat × Nat × List Sg × Option Addr × Nat => [some (.slice a xs.length c), none, some (.slice none 0 0), some (.int .i64 0), some (.slice s.2.2.2.1 s.2.2.1.length s.2.2.2.2), some (.int .i64 s.2.1), none, none, none, none, none, none, none, none, none, none, none, none, none, none, none, none, none, none, none, none, none, none, none, none, none, none, none, none, none, none, none, none, none, none, none, none, none, none, none, none, none, none, none, none, none, none, none, none, none, none])
    (fun s w => (∃ E, HH w I (E ++ L) ∧ SO 159 s.2.2.2.1 s.2.2.2.2 4 encSg s.2.2.1 E) ∧ s.2.1 ≤ xs.length ∧ s.2.2.1.length ≤ 1024 ∧ xs.length + 1 ≤ s.1 + s.2.1 ∧ signsGo xs s.1 s.2.1 s.2.2.1 = signsGo xs (xs.length + 1) (emF xs) [])
    (fun s => xs.length - s.2.1) (xs.length + 1, emF xs, [], none, 0) ?_ ⟨⟨[], ‹HH _ I L›, SO.nil⟩, hle, by simp, by simp, rfl⟩ ?_
  · simp [fits]
  · rintro ⟨fuel, i, out, aa, cap⟩ w ⟨⟨E, hh2, so⟩, h4, h5, h6, h7⟩
    dsimp only at hh2 so h4 h5 h6 h7 ⊢
    have hs : i < xs.length → (signF (xs.drop i)).2.1 ≤ xs.length - i ∧ ((signF (xs.drop i)).2.2 = 0 → 0 < (signF (xs.drop i)).2.1) := fun h => by
      have := signF_le (xs.drop i) (by rw [List.length_drop]; omega)
      rw [List.length_drop] at this
      exact ⟨this.1, this.2.1⟩
    have hem : emF (xs.drop (i + (signF (xs.drop i)).2.1)) ≤ xs.length - (i + (signF (xs.drop i)).2.1) := by
      have := emGo_le false (xs.drop (i + (signF (xs.drop i)).2.1))
      rw [List.length_drop] at this
      exact this
    obtain ⟨f, rfl⟩ : ∃ f, fuel = f + 1 := ⟨fuel - 1, by omega⟩
    rw [signsGo] at h7
    dsimp only at h7
    rw [← h7] at k
    repeat' (conv => whnf
             first
               | exact trivial
               | refine XStep.go ?_
               | refine XChk.mk (by first | omega | decide | (simp only [List.length_take, List.length_drop]; omega) | (simp only [List.length_append, List.length_cons, List.length_nil]; omega)) ?_
               | refine XBoth.mk ?_ ?_
               | intro xx
               | (refine XBr.t (by omega) ?_)
               | (refine XBr.f (by omega) ?_)
               | refine XOpt.mk (fun x hc => ?_) (fun hc => ?_)
               | refine XRes.mk (fun x hc => ?_) (fun x hc => ?_)
               | refine XBr.mk (fun hc => ?_) (fun hc => ?_)
               | refine XIf.mk (fun hc => ?_) (fun hc => ?_))
    all_goals conv => whnf
    · rw [if_pos (by omega)] at k
      obtain ⟨I', l1, h8, h9, h10⟩ := SO.freeze xx ‹HH _ I (_ ++ L)›
      exact k.toOk rfl _ I' _ _ l1 h8 h9 (by simp; omega) h10
    · rw [if_neg (by omega), if_pos ⟨by omega, by omega⟩] at k
      exact k.toErr rfl _ HH.fin
    · rw [if_neg (by omega), if_neg (by omega), if_neg (by omega)] at h7
      have hso := ‹SO _ _ _ 4 encSg (out ++ _) _›
      exact ⟨(f, _, _, _, _), rfl, ⟨rfl, rfl, rfl, rfl, rfl, trivial⟩, ⟨⟨_, HH.fin, hso⟩, by dsimp only; omega, by simp; omega, by dsimp only; omega, h7⟩, by dsimp only; omega⟩
    · rw [if_neg (by omega), if_neg (by omega), if_pos (by omega)] at k
      exact k.toErr rfl _ HH.fin⟩
end Go.Proofs

/- what signs a text has, piece by piece. -/
namespace Go.Proofs
open Go.X
set_option maxHeartbeats 1000000
set_option linter.unusedVariables false
set_option linter.unusedSimpArgs false

/-- a sign, wherever it stands -/
abbrev K3 := Int × Bs × Int
def st (g : Sg) : K3 := (g.kind, g.text, g.num)
def LexK (u : Bs) (ks : List K3) : Prop := ∀ (t : Bs) (f i : Nat) (out : List Sg), t.drop i = u → i ≤ t.length → u.length < f → out.length + ks.length ≤ 1024 → ∃ l, signsGo t f i out = .ok (out ++ l) ∧ l.map st = ks
theorem LexK.nil : LexK [] [(0, [], 0)] := by
  intro t f i out h1 h2 h3 h4
  obtain ⟨f, rfl⟩ : ∃ g, f = g + 1 := ⟨f - 1, by omega⟩
  have : i = t.length := by
    have := congrArg List.length h1
    rw [List.length_drop] at this
    simp at this; omega
  rw [signsGo, if_pos this]
  exact ⟨_, rfl, rfl⟩
theorem LexK.cons {u : Bs} {g : Sg} {k e : Nat} {ks : List K3} (h1 : signF u = (g, k, 0)) (hk : 0 < k) (h2 : emF (u.drop k) = e) (hl : k + e ≤ u.length) (h3 : LexK (u.drop (k + e)) ks) : LexK u (st g :: ks) := by
  intro t f i out e1 e2 e3 e4
  obtain ⟨f, rfl⟩ : ∃ g, f = g + 1 := ⟨f - 1, by omega⟩
  have el : u.length = t.length - i := by rw [← e1, List.length_drop]
  rw [signsGo, if_neg (by omega)]
  simp only [e1, h1]
  have e5 : t.drop (i + k) = u.drop k := by rw [← e1, List.drop_drop]
  rw [e5, h2, if_neg (by simp at e4 ⊢; omega), if_neg (by simp)]
  obtain ⟨l, hl1, hl2⟩ := h3 t f (i + k + e) (out ++ [{ g with at_ := i }]) (by rw [← e1, List.drop_drop, Nat.add_assoc]) (by omega) (by rw [List.length_drop]; omega) (by simp at e4 ⊢; omega)
  exact ⟨_ :: l, by rw [hl1, List.append_assoc]; rfl, by rw [List.map_cons, hl2]; rfl⟩
theorem LexK.all {t : Bs} {ks : List K3} (h : LexK (t.drop (emF t)) ks) (he : emF t ≤ t.length) (ht : t.length ≤ 4096) (hk : ks.length ≤ 1024) : ∃ l, signsF t = .ok l ∧ l.map st = ks := by
  obtain ⟨l, h1, h2⟩ := h t (t.length + 1) (emF t) [] rfl he (by rw [List.length_drop]; omega) (by simpa using hk)
  exact ⟨l, by rw [signsF, if_neg (by omega), h1]; rfl, h2⟩
theorem map_cons {α β : Type} {f : α → β} {l : List α} {k : β} {ks : List β} (h : l.map f = k :: ks) : ∃ g r, l = g :: r ∧ f g = k ∧ r.map f = ks := by
  cases l with
  | nil => cases h
  | cons g r => cases h; exact ⟨g, r, rfl, rfl, rfl⟩
/-- a mark, a number, a name, ahead of what is no blank -/
theorem LexK.mark (c : UInt8) {u : Bs} {ks : List K3} (h : signF (c :: u) = (⟨5, [c], 0, 0⟩, 1, 0)) (hu : emF u = 0) (h3 : LexK u ks) : LexK (c :: u) ((5, [c], 0) :: ks) :=
  .cons h (by decide) hu (by simp) h3
theorem LexK.one {c : UInt8} {u : Bs} {ks : List K3} (hc : isDigit c = false) (hu : emF (c :: u) = 0) (h3 : LexK (c :: u) ks) : LexK (49 :: c :: u) ((3, [], 1) :: ks) :=
  .cons (g := ⟨3, [], 1, 0⟩) (k := 1) (by
    have h1 : isLetter 49 = false := by decide
    have h2 : isDigit 49 = true := by decide
    rw [signF, if_neg (by rw [h1]; decide), if_pos h2, numberF]
    simp only [List.takeWhile_cons, h2, hc, if_true]
    rfl) (by decide) hu (by simp) h3
end Go.Proofs
