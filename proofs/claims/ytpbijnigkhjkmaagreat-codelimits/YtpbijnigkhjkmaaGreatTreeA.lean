/- tree: the parser's small steps. -/
import Derived.Test.YtpbijnigkhjkmaaGreatLex
namespace Go.Proofs
open Go.X
set_option maxHeartbeats 1000000
set_option linter.unusedVariables false
set_option linter.unusedSimpArgs false

/-- where all signs lie -/
structure Env where
  b : Nat
  o : Nat
  c : Nat
  l : List Sg
/-- the parser's state -/
structure PS where
  l : List Sg
  d : Nat
  e : Int
abbrev TPar : TypeId := 115
abbrev PS.obj (v : Env) (s : PS) : Obj :=
  .cells (List.toArray [.slice (some ⟨v.b, v.o + (v.l.length - s.l.length) * 4, none⟩) s.l.length (v.c - (v.l.length - s.l.length)), .int .i64 (s.d : Nat), .int .i64 s.e]) TPar (0, 0)
structure Env.Ok (v : Env) : Prop where
  len : v.l.length ≤ v.c ∧ v.l.length ≤ 2000
  last : ∃ l g, v.l = l ++ [g] ∧ g.kind = 0
class PSok (I : Im) (v : Env) (s : PS) : Prop where
  ok : v.Ok
  sl : SlI I v.b v.o 4 encSg v.l
  suf : s.l <:+ v.l
  ne : s.l ≠ []
  d : s.d ≤ 16
  e : 0 ≤ s.e ∧ s.e ≤ 100
theorem PSok.mono {I I' : Im} {v : Env} {s : PS} (h : PSok I v s) (hl : I.Le I') : PSok I' v s := ⟨h.ok, h.sl.mono hl, h.suf, h.ne, h.d, h.e⟩
instance (priority := low) {I I' : Im} {v : Env} {s : PS} [hl : I.Le I'] [h : PSok I v s] : PSok I' v s := h.mono hl
theorem PSok.drop {I : Im} {v : Env} {s : PS} (h : PSok I v s) : s.l = v.l.drop (v.l.length - s.l.length) := by
  obtain ⟨t, e⟩ := h.suf
  rw [← e]; simp
instance PSok.row {I : Im} {v : Env} {s : PS} [h : PSok I v s] : SlI I v.b (v.o + (v.l.length - s.l.length) * 4) 4 encSg s.l := by
  have := h.sl.drop (v.l.length - s.l.length)
  rwa [← h.drop] at this
theorem PSok.le {I : Im} {v : Env} {s : PS} (h : PSok I v s) : 0 < s.l.length ∧ s.l.length ≤ v.l.length ∧ v.l.length ≤ v.c ∧ v.l.length ≤ 2000 ∧ s.l.length ≤ v.c :=
  ⟨List.length_pos_iff.2 h.ne, h.suf.length_le, h.ok.len.1, h.ok.len.2, Nat.le_trans h.suf.length_le h.ok.len.1⟩
def PS.hd (s : PS) : Sg := s.l.headD Sg.none
def PS.next (s : PS) : PS := { s with l := s.l.tail }
theorem PSok.hd {I : Im} {v : Env} {s : PS} (h : PSok I v s) : s.l = s.hd :: s.l.tail := by
  have := h.ne
  cases e : s.l with
  | nil => exact absurd e this
  | cons g r => simp [PS.hd, e]
theorem PSok.at0 {I : Im} {v : Env} {s : PS} (h : PSok I v s) : At s.l (Int.toNat 0) s.hd := ⟨by
  have := h.hd
  show s.l[0]? = _
  rw [this]; simp [PS.hd]⟩
/-- a sign that isn't the last one -/
theorem PSok.next {I : Im} {v : Env} {s : PS} (h : PSok I v s) (hk : s.hd.kind ≠ 0) : PSok I v s.next := by
  obtain ⟨l, g, e1, e2⟩ := h.ok.last
  obtain ⟨t, e3⟩ := h.suf
  refine ⟨h.ok, h.sl, ⟨t ++ [s.hd], ?_⟩, fun e => ?_, h.d, h.e⟩
  · rw [← e3, List.append_assoc]; congr 1; exact h.hd.symm
  · have e4 : s.l.tail = [] := e
    have := h.hd
    rw [e4] at this
    rw [this, e1] at e3
    have := (List.append_inj' e3 rfl).2
    cases this
    exact hk e2
theorem PSok.obj_next {I : Im} {v : Env} {s : PS} (h : PSok I v s) (hk : s.hd.kind ≠ 0) {b o : Nat} (hp : PieceAt v.b (v.o + (v.l.length - s.l.length) * 4) (v.c - (v.l.length - s.l.length)) 1 4 b o) :
    PS.obj v s.next = .cells (List.toArray [.slice (some ⟨b, o, none⟩) (s.l.length - 1) (v.c - (v.l.length - s.l.length) - 1), .int .i64 (s.d : Nat), .int .i64 s.e]) TPar (0, 0) := by
  have := h.le
  have hn := (h.next hk).le
  have e : s.next.l.length = s.l.length - 1 := by simp [PS.next]
  rw [e] at hn
  rw [hp.eq, hp.at_ (by omega)]
  unfold PS.obj
  rw [e, show v.l.length - (s.l.length - 1) = v.l.length - s.l.length + 1 by omega, Nat.succ_mul, Nat.sub_add_eq]
  rfl
theorem PSok.putNext {w : World} {I : Im} {v : Env} {s : PS} {R : Heap} {bp : Nat} (h : PSok I v s) (hk : s.hd.kind ≠ 0) {b o : Nat} (hp : PieceAt v.b (v.o + (v.l.length - s.l.length) * 4) (v.c - (v.l.length - s.l.length)) (Int.toNat 1) 4 b o)
    (hh : HH w I ((bp, .cells (List.toArray [.slice (some ⟨b, o, none⟩) (s.l.length - Int.toNat 1) (v.c - (v.l.length - s.l.length) - Int.toNat 1), .int .i64 (s.d : Nat), .int .i64 s.e]) TPar (0, 0)) :: R)) : HH w I ((bp, PS.obj v s.next) :: R) := by
  rw [h.obj_next hk hp]; exact hh
def isB (t : Bs) (s : PS) : Bool := decide (s.e = 0 ∧ s.hd.text = t ∧ (s.hd.kind = 2 ∨ s.hd.kind = 5))
instance isC {w : World} {I : Im} {L R : Heap} {bp : Nat} {v : Env} {s : PS} {t : Bs} {K : KV} [hh : HH w I L] [r : Rem L bp (PS.obj v s) R] [ok : PSok I v s] :
    XStep (XApp Tryz.prog 105 [.pointer (some ⟨bp, 0, none⟩), .string ⟨t.toArray⟩] w K)
      (∀ w', HH w' I ((bp, PS.obj v s) :: R) → XIf (isB t s) (∀ w', HH w' I ((bp, PS.obj v s.next) :: R) → PSok I v s.next → K (.bool true) w') (K (.bool false) w')) := ⟨fun k => by
  have hh' := hh.perm r.perm
  have ha := ok.at0
  have hle := ok.le
  clear hh r
  refine .of Tryz.func105 ?_
  repeat' (conv => whnf
           first
             | exact trivial
             | refine XStep.go ?_
             | refine XChk.mk (by first | omega | decide | (simp only [List.length_take, List.length_drop]; omega) | (simp only [List.length_append, List.length_cons, List.length_nil]; omega)) ?_
             | refine XBoth.mk ?_ ?_
             | intro xx
             | (refine XBr.t (by omega) ?_)
             | (refine XBr.f (by omega) ?_)
             | refine XOpt.mk (fun x hc => ?_) (fun hc => ?_)
             | refine XRes.mk (fun x hc => ?_) (fun x hc => ?_)
             | refine XBr.mk (fun hc => ?_) (fun hc => ?_)
             | refine XIf.mk (fun hc => ?_) (fun hc => ?_))
  all_goals conv => whnf
  · exact (k _ hh').toT (by simp [isB, *]) _ (ok.putNext (by omega) ‹PieceAt ..› HH.fin) (ok.next (by omega))
  · exact (k _ hh').toT (by simp [isB, *]) _ (ok.putNext (by omega) ‹PieceAt ..› HH.fin) (ok.next (by omega))
  · exact (k _ HH.fin).toF (by simp [isB, *])
  · exact (k _ HH.fin).toF (by simp [isB, *])
  · exact (k _ HH.fin).toF (by simp [isB, *])⟩
def failS (s : PS) (e : Int) : PS := if s.e = 0 then { s with e := e } else s
instance failC {w : World} {I : Im} {L R : Heap} {bp : Nat} {v : Env} {s : PS} {e : Int} {K : KV} [hh : HH w I L] [r : Rem L bp (PS.obj v s) R] [ok : PSok I v s] :
    XStep (XApp Tryz.prog 106 [.pointer (some ⟨bp, 0, none⟩), .int .i64 e] w K)
      (XChk (0 ≤ e ∧ e ≤ 100) (∀ w', HH w' I ((bp, PS.obj v (failS s e)) :: R) → PSok I v (failS s e) → K (.tuple #[]) w')) := ⟨fun ⟨he, k⟩ => by
  have hh' := hh.perm r.perm
  clear hh r
  refine .of Tryz.func106 ?_
  repeat' (conv => whnf
           first
             | exact trivial
             | refine XStep.go ?_
             | refine XChk.mk (by first | omega | decide | (simp only [List.length_take, List.length_drop]; omega) | (simp only [List.length_append, List.length_cons, List.length_nil]; omega)) ?_
             | refine XBoth.mk ?_ ?_
             | intro xx
             | (refine XBr.t (by omega) ?_)
             | (refine XBr.f (by omega) ?_)
             | refine XOpt.mk (fun x hc => ?_) (fun hc => ?_)
             | refine XRes.mk (fun x hc => ?_) (fun x hc => ?_)
             | refine XBr.mk (fun hc => ?_) (fun hc => ?_)
             | refine XIf.mk (fun hc => ?_) (fun hc => ?_))
  all_goals conv => whnf
  · have e : failS s e = { s with e := e } := if_pos hc
    rw [e] at k
    exact k _ xx ⟨ok.ok, ok.sl, ok.suf, ok.ne, ok.d, he⟩
  · have e : failS s e = s := if_neg hc
    rw [e] at k
    exact k _ hh' ok⟩
def mustS (t : Bs) (s : PS) : PS := if isB t s = true then s.next else failS s 2
instance mustC {w : World} {I : Im} {L R : Heap} {bp : Nat} {v : Env} {s : PS} {t : Bs} {K : KV} [hh : HH w I L] [r : Rem L bp (PS.obj v s) R] [ok : PSok I v s] :
    XStep (XApp Tryz.prog 71 [.pointer (some ⟨bp, 0, none⟩), .string ⟨t.toArray⟩] w K)
      (∀ w', HH w' I ((bp, PS.obj v (mustS t s)) :: R) → PSok I v (mustS t s) → K (.tuple #[]) w') := ⟨fun k => by
  have hh' := hh.perm r.perm
  clear hh r
  unfold mustS at k
  refine .of Tryz.func71 ?_
  repeat' (conv => whnf
           first
             | exact trivial
             | refine XStep.go ?_
             | refine XChk.mk (by first | omega | decide | (simp only [List.length_take, List.length_drop]; omega) | (simp only [List.length_append, List.length_cons, List.length_nil]; omega)) ?_
             | refine XBoth.mk ?_ ?_
             | intro xx
             | (refine XBr.t (by omega) ?_)
             | (refine XBr.f (by omega) ?_)
             | refine XOpt.mk (fun x hc => ?_) (fun hc => ?_)
             | refine XRes.mk (fun x hc => ?_) (fun x hc => ?_)
             | refine XBr.mk (fun hc => ?_) (fun hc => ?_)
             | refine XIf.mk (fun hc => ?_) (fun hc => ?_))
  all_goals conv => whnf
  · rw [if_pos hc] at k
    exact k _ HH.fin ‹_›
  · rw [if_neg (by simp [hc])] at k
    exact k _ HH.fin ‹_›⟩
def takeS (n : Int) (s : PS) : Bool := decide (s.e = 0 ∧ s.hd.kind = n)
instance takeC {w : World} {I : Im} {L R : Heap} {bp : Nat} {v : Env} {s : PS} {n : Int} {K : KV} [hh : HH w I L] [r : Rem L bp (PS.obj v s) R] [ok : PSok I v s] :
    XStep (XApp Tryz.prog 107 [.pointer (some ⟨bp, 0, none⟩), .int .i64 n] w K)
      (XChk (n ≠ 0) (∀ w', HH w' I ((bp, PS.obj v s) :: R) → XIf (takeS n s) (∀ w', HH w' I ((bp, PS.obj v s.next) :: R) → PSok I v s.next → K (.tuple (List.toArray [s.hd.v, .bool true])) w')
        (K (.tuple (List.toArray [Sg.none.v, .bool false])) w'))) := ⟨fun ⟨hn, k⟩ => by
  have hh' := hh.perm r.perm
  have ha := ok.at0
  have hle := ok.le
  clear hh r
  refine .of Tryz.func107 ?_
  repeat' (conv => whnf
           first
             | exact trivial
             | refine XStep.go ?_
             | refine XChk.mk (by first | omega | decide | (simp only [List.length_take, List.length_drop]; omega) | (simp only [List.length_append, List.length_cons, List.length_nil]; omega)) ?_
             | refine XBoth.mk ?_ ?_
             | intro xx
             | (refine XBr.t (by omega) ?_)
             | (refine XBr.f (by omega) ?_)
             | refine XOpt.mk (fun x hc => ?_) (fun hc => ?_)
             | refine XRes.mk (fun x hc => ?_) (fun x hc => ?_)
             | refine XBr.mk (fun hc => ?_) (fun hc => ?_)
             | refine XIf.mk (fun hc => ?_) (fun hc => ?_))
  all_goals conv => whnf
  · exact (k _ hh').toT (by simp [takeS, *]) _ (ok.putNext (by omega) ‹PieceAt ..› HH.fin) (ok.next (by omega))
  · exact (k _ HH.fin).toF (by simp [takeS, *])
  · exact (k _ HH.fin).toF (by simp [takeS, *])⟩
def nameS (s : PS) : Bs × PS := if takeS 1 s = true then (s.hd.text, s.next) else ([], failS s 2)
instance pnameC {w : World} {I : Im} {L R : Heap} {bp : Nat} {v : Env} {s : PS} {K : KV} [hh : HH w I L] [r : Rem L bp (PS.obj v s) R] [ok : PSok I v s] :
    XStep (XApp Tryz.prog 72 [.pointer (some ⟨bp, 0, none⟩)] w K)
      (∀ w', HH w' I ((bp, PS.obj v (nameS s).2) :: R) → PSok I v (nameS s).2 → K (.string ⟨(nameS s).1.toArray⟩) w') := ⟨fun k => by
  have hh' := hh.perm r.perm
  clear hh r
  unfold nameS at k
  refine .of Tryz.func72 ?_
  repeat' (conv => whnf
           first
             | exact trivial
             | refine XStep.go ?_
             | refine XChk.mk (by first | omega | decide | (simp only [List.length_take, List.length_drop]; omega) | (simp only [List.length_append, List.length_cons, List.length_nil]; omega)) ?_
             | refine XBoth.mk ?_ ?_
             | intro xx
             | (refine XBr.t (by omega) ?_)
             | (refine XBr.f (by omega) ?_)
             | refine XOpt.mk (fun x hc => ?_) (fun hc => ?_)
             | refine XRes.mk (fun x hc => ?_) (fun x hc => ?_)
             | refine XBr.mk (fun hc => ?_) (fun hc => ?_)
             | refine XIf.mk (fun hc => ?_) (fun hc => ?_))
  all_goals conv => whnf
  · rw [if_pos hc] at k
    exact k _ HH.fin ‹_›
  · rw [if_neg (by simp [hc])] at k
    exact k _ HH.fin ‹_›⟩
end Go.Proofs

/- tree: nodes, operators. -/
namespace Go.Proofs
open Go.X
set_option maxHeartbeats 1000000
set_option linter.unusedVariables false
set_option linter.unusedSimpArgs false

def levelList : List (List Bs) := [[[111, 114]], [[97, 110, 100]], [[61, 61], [33, 61], [60], [60, 61], [62], [62, 61]], [[43], [45]], [[42], [47], [37]]]
def encLv (x : List Bs × Nat) : List Value := [.slice (some ⟨x.2, 0, none⟩) x.1.length x.1.length]
class LvOk (I : Im) (xs : List (List Bs × Nat)) : Prop where
  map : xs.map (·.1) = levelList
  row : ∀ x ∈ xs, SlI I x.2 0 1 sEnc x.1
theorem LvOk.at {I : Im} {xs : List (List Bs × Nat)} {k : Nat} {x : List Bs × Nat} (h : LvOk I xs) (ha : At xs k x) : SlI I x.2 0 1 sEnc x.1 :=
  h.row x (List.mem_of_getElem? ha.eq)
theorem LvOk.len {I : Im} {xs : List (List Bs × Nat)} (h : LvOk I xs) : xs.length = 5 := by
  have := congrArg List.length h.map
  simpa [levelList] using this
theorem LvOk.get {I : Im} {xs : List (List Bs × Nat)} {k : Nat} {x : List Bs × Nat} (h : LvOk I xs) (ha : xs[k]? = some x) : levelList.getD k [] = x.1 := by
  have : levelList[k]? = some x.1 := by rw [← h.map]; simp [ha]
  simp [List.getD, this]
instance levelsC {w : World} {I : Im} {L : Heap} {K : KV} [hh : HH w I L] :
    XStep (XApp Tryz.prog 162 [] w K) (∀ w' I' a xs, I.Le I' → HH w' I' L → SlA I' a 1 encLv xs → LvOk I' xs → K (.slice a xs.length 5) w') := ⟨fun k => by
  refine .of Tryz.func162 ?_
  repeat' (conv => whnf
           first
             | exact trivial
             | refine XStep.go ?_
             | refine XChk.mk (by first | omega | decide | (simp only [List.length_take, List.length_drop]; omega) | (simp only [List.length_append, List.length_cons, List.length_nil]; omega)) ?_
             | refine XBoth.mk ?_ ?_
             | intro xx
             | (refine XBr.t (by omega) ?_)
             | (refine XBr.f (by omega) ?_)
             | refine XOpt.mk (fun x hc => ?_) (fun hc => ?_)
             | refine XRes.mk (fun x hc => ?_) (fun x hc => ?_)
             | refine XBr.mk (fun hc => ?_) (fun hc => ?_)
             | refine XIf.mk (fun hc => ?_) (fun hc => ?_))
  obtain ⟨I1, l1, h1, s1, -⟩ := xx.row (enc := encLv) (sz := 1) [([[111, 114]], _), ([[97, 110, 100]], _), ([[61, 61], [33, 61], [60], [60, 61], [62], [62, 61]], _), ([[43], [45]], _), ([[42], [47], [37]], _)] rfl (by simp [encLv])
  obtain ⟨I2, l2, h2, s2, -⟩ := h1.row (enc := sEnc) (sz := 1) [[42], [47], [37]] rfl (by simp [sEnc])
  obtain ⟨I3, l3, h3, s3, -⟩ := h2.row (enc := sEnc) (sz := 1) [[43], [45]] rfl (by simp [sEnc])
  obtain ⟨I4, l4, h4, s4, -⟩ := h3.row (enc := sEnc) (sz := 1) [[61, 61], [33, 61], [60], [60, 61], [62], [62, 61]] rfl (by simp [sEnc])
  obtain ⟨I5, l5, h5, s5, -⟩ := h4.row (enc := sEnc) (sz := 1) [[97, 110, 100]] rfl (by simp [sEnc])
  obtain ⟨I6, l6, h6, s6, -⟩ := h5.row (enc := sEnc) (sz := 1) [[111, 114]] rfl (by simp [sEnc])
  conv => whnf
  have l56 := l5.trans l6
  have l46 := l4.trans l56
  have l36 := l3.trans l46
  have l26 := l2.trans l36
  refine k _ I6 _ _ (l1.trans l26) h6 (s1.mono l26).toA ⟨rfl, fun x hx => ?_⟩
  simp only [List.mem_cons, List.not_mem_nil, or_false] at hx
  rcases hx with rfl | rfl | rfl | rfl | rfl
  · exact s6
  · exact s5.mono l6
  · exact s4.mono l56
  · exact s3.mono l46
  · exact s2.mono l36⟩
def opS (i : Nat) (s : PS) : Option Bs := (levelList.getD i []).find? fun x => isB x s
instance opC {w : World} {I : Im} {L R : Heap} {bp i : Nat} {v : Env} {s : PS} {K : KV} [hh : HH w I L] [r : Rem L bp (PS.obj v s) R] [ok : PSok I v s] :
    XStep (XApp Tryz.prog 164 [.pointer (some ⟨bp, 0, none⟩), .int .i64 (i : Nat)] w K)
      (XChk (i < 5) (∀ w', HH w' I ((bp, PS.obj v s) :: R) → XOpt (opS i s) (fun x => ∀ w', HH w' I ((bp, PS.obj v s.next) :: R) → PSok I v s.next → K (.tuple (List.toArray [.string ⟨x.toArray⟩, .bool true])) w')
        (K (.tuple (List.toArray [.string ⟨#[]⟩, .bool false])) w'))) := ⟨fun ⟨hi, k⟩ => by
  have hh' := hh.perm r.perm
  clear hh r
  refine .of Tryz.func164 ?_
  repeat' (conv => whnf
           first
             | exact trivial
             | refine XStep.go ?_
             | refine XChk.mk (by first | omega | decide | (simp only [List.length_take, List.length_drop]; omega) | (simp only [List.length_append, List.length_cons, List.length_nil]; omega)) ?_
             | refine XBoth.mk ?_ ?_
             | (refine XChk.mk (by have := LvOk.len ‹LvOk _ _›; omega) ?_)
             | intro xx
             | (refine XBr.t (by omega) ?_)
             | (refine XBr.f (by omega) ?_)
             | refine XOpt.mk (fun x hc => ?_) (fun hc => ?_)
             | refine XRes.mk (fun x hc => ?_) (fun x hc => ?_)
             | refine XBr.mk (fun hc => ?_) (fun hc => ?_)
             | refine XIf.mk (fun hc => ?_) (fun hc => ?_))
  rename_i w1 I1 a1 rows hle h1 _ hlv b1 o1 _ row
  have hrow := hlv.at xx
  have hop : opS i s = row.1.find? fun x => isB x s := by rw [opS, hlv.get xx.eq]
  have hrl : row.1.length ≤ 6 := by
    have hm := List.mem_map_of_mem (f := (·.1)) (List.mem_of_getElem? xx.eq)
    rw [hlv.map] at hm
    have : ∀ l ∈ levelList, l.length ≤ 6 := by decide
    exact this _ hm
  rw [hop] at k
  refine XCode.loopG (fun n : Nat => [some (.pointer (some ⟨bp, 0, none⟩)), some (.int .i64 (i : Nat)), none, none, some (.string ⟨#[]⟩), some (.bool false), none, none, none, none, none, some (.slice (some ⟨row.2, 0, none⟩) row.1.length row.1.length), some (.int .i64 row.1.length), some (.int .i64 n), none, none, none, none, none, none, none, none])
    (fun n w => HH w I1 ((bp, PS.obj v s) :: R) ∧ n ≤ row.1.length ∧ (row.1.drop n).find? (fun x => isB x s) = row.1.find? fun x => isB x s) (fun n => row.1.length - n) 0 ?_ ⟨h1, by omega, rfl⟩ ?_
  · simp [fits]
  · rintro n w ⟨hh2, h4, h5⟩
    repeat' (conv => whnf
             first
               | exact trivial
               | refine XStep.go ?_
               | refine XChk.mk (by first | omega | decide | (simp only [List.length_take, List.length_drop]; omega) | (simp only [List.length_append, List.length_cons, List.length_nil]; omega)) ?_
               | refine XBoth.mk ?_ ?_
               | intro xx
               | (refine XBr.t (by omega) ?_)
               | (refine XBr.f (by omega) ?_)
               | refine XOpt.mk (fun x hc => ?_) (fun hc => ?_)
               | refine XRes.mk (fun x hc => ?_) (fun x hc => ?_)
               | refine XBr.mk (fun hc => ?_) (fun hc => ?_)
               | refine XIf.mk (fun hc => ?_) (fun hc => ?_))
    all_goals conv => whnf
    · have hx := (‹At row.1 n _›).eq
      rw [drop_at hx, List.find?_cons, hc] at h5
      exact (k _ (hh'.less (.refl _))).toSome h5.symm _ HH.fin ⟨ok.ok, ok.sl, ‹PSok _ v s.next›.suf, ‹PSok _ v s.next›.ne, ok.d, ok.e⟩
    · have hx := (‹At row.1 n _›).eq
      rw [drop_at hx, List.find?_cons, hc] at h5
      exact ⟨n + 1, rfl, by simp [fits], ⟨HH.fin, by omega, h5⟩, by omega⟩
    · rw [List.drop_eq_nil_of_le (by omega), List.find?_nil] at h5
      exact (k _ HH.fin).toNone h5.symm⟩
end Go.Proofs

/- tree: what the parser reads, as a function. -/
namespace Go.Proofs
open Go.X
set_option maxHeartbeats 1000000
set_option linter.unusedVariables false
set_option linter.unusedSimpArgs false

inductive Nd where
  | mk (op : Int) (text : Bs) (num : Int) (kids : List Nd)
namespace Nd
def op : Nd → Int | mk o _ _ _ => o
def text : Nd → Bs | mk _ t _ _ => t
def num : Nd → Int | mk _ _ n _ => n
def kids : Nd → List Nd | mk _ _ _ k => k
def zero : Nd := mk 0 [] 0 []
end Nd
/-- what is read -/
inductive Q where
  | level (i : Nat)
  | loop (i : Nat) (out : Nd)
  | unary
  | primary
  | deep (q : Q)
  | var
  | list (q : Q)
  | args (q : Q) (out : List Nd)
  | block
  | stmts (out : List Nd)
  | stmt
  | script (out : List Nd)
def atSet (s : PS) : Prop := s.hd.kind = 1 ∧ ∃ g, s.l[1]? = some g ∧ g.kind = 5 ∧ g.text = [61]
instance (s : PS) : Decidable (atSet s) := by
  unfold atSet
  cases h : s.l[1]? with
  | none => exact .isFalse (by simp)
  | some g => exact decidable_of_iff (s.hd.kind = 1 ∧ g.kind = 5 ∧ g.text = [61]) (by simp)
def deepS (s : PS) : PS := if 16 ≤ s.d then failS s 9 else s
abbrev PRes := Option (Nd × PS)
def prun : Nat → Q → PS → PRes
  | 0, _, _ => none
  | f + 1, q, s => match q with
    | .level i => if i = 5 then prun f .unary s else (prun f (.level (i + 1)) s).bind fun r => prun f (.loop i r.1) r.2
    | .loop i out => match opS i s with
      | none => some (out, s)
      | some x => (prun f (.level (i + 1)) s.next).bind fun r => if i = 2 then some (.mk 13 x 0 [out, r.1], r.2) else prun f (.loop i (.mk 13 x 0 [out, r.1])) r.2
    | .unary =>
      if isB [110, 111, 116] s = true then (prun f (.deep .unary) s.next).bind fun r => some (.mk 14 [110, 111, 116] 0 [r.1], r.2)
      else if isB [45] s = true then (prun f (.deep .unary) s.next).bind fun r => some (.mk 14 [45] 0 [r.1], r.2)
      else prun f .primary s
    | .primary =>
      if takeS 3 s = true then some (.mk 8 [] s.hd.num [], s.next)
      else if takeS 4 s = true then some (.mk 9 s.hd.text 0 [], s.next)
      else if isB [110, 105, 108] s = true then some (.mk 10 [] 0 [], s.next)
      else if isB [40] s = true then (prun f (.deep (.level 0)) s.next).bind fun r => some (r.1, mustS [41] r.2)
      else if isB [40] (nameS s).2 = true then (prun f (.list (.deep (.level 0))) (nameS s).2.next).bind fun r => some (.mk 12 (nameS s).1 0 r.1.kids, r.2)
      else some (.mk 11 (nameS s).1 0 [], (nameS s).2)
    | .deep q => if (deepS s).e ≠ 0 then some (.zero, deepS s) else (prun f q { deepS s with d := (deepS s).d + 1 }).bind fun r => some (r.1, { r.2 with d := (deepS s).d })
    | .var => some (.mk 11 (nameS s).1 0 [], (nameS s).2)
    | .list q => if isB [41] s = true then some (.zero, s.next) else prun f (.args q []) s
    | .args q out => if s.e ≠ 0 then some (.mk 0 [] 0 out, s) else
      (prun f q s).bind fun r => if isB [41] r.2 = true then some (.mk 0 [] 0 (out ++ [r.1]), r.2.next) else prun f (.args q (out ++ [r.1])) (mustS [44] r.2)
    | .block => prun f (.deep (.stmts [])) (mustS [123] s)
    | .stmts out => if s.e ≠ 0 then some (.mk 2 [] 0 out, s) else if isB [125] s = true then some (.mk 2 [] 0 out, s.next) else
      (prun f .stmt s).bind fun r => prun f (.stmts (out ++ [r.1])) r.2
    | .stmt =>
      if isB [105, 102] s = true then (prun f (.level 0) s.next).bind fun r => (prun f .block r.2).bind fun r2 =>
        if isB [101, 108, 115, 101] r2.2 = true then (prun f .block r2.2.next).bind fun r3 => some (.mk 5 [] 0 [r.1, r2.1, r3.1], r3.2) else some (.mk 5 [] 0 [r.1, r2.1], r2.2)
      else if isB [119, 104, 105, 108, 101] s = true then (prun f (.level 0) s.next).bind fun r => (prun f .block r.2).bind fun r2 => some (.mk 6 [] 0 [r.1, r2.1], r2.2)
      else if isB [115, 116, 111, 112] s = true then some (.mk 7 [] 0 [], mustS [59] s.next)
      else if atSet s then (prun f (.level 0) (mustS [61] (nameS s).2)).bind fun r => some (.mk 3 (nameS s).1 0 [r.1], mustS [59] r.2)
      else (prun f (.level 0) s).bind fun r => some (.mk 4 [] 0 [r.1], mustS [59] r.2)
    | .script out => if s.e ≠ 0 ∨ s.hd.kind = 0 then some (.mk 0 [] 0 out, s) else
      (prun f (.list .var) (mustS [40] (nameS (mustS [111, 110] s)).2)).bind fun r => (prun f .block r.2).bind fun r2 =>
        prun f (.script (out ++ [.mk 1 (nameS (mustS [111, 110] s)).1 0 (r.1.kids ++ [r2.1])])) r2.2
/-- what is said with little fuel is said with more -/
def PLe (a b : PRes) : Prop := ∀ x, a = some x → b = some x
theorem PLe.refl (a : PRes) : PLe a a := fun _ h => h
theorem PLe.bind {a b : PRes} {k k' : Nd × PS → PRes} (h : PLe a b) (hk : ∀ r, PLe (k r) (k' r)) : PLe (a.bind k) (b.bind k') := fun x hx => by
  cases e : a with
  | none => rw [e] at hx; cases hx
  | some y => rw [e] at hx; rw [h _ e]; exact hk _ _ hx
theorem PLe.ite {c : Prop} [Decidable c] {a b a' b' : PRes} (h : PLe a b) (h' : PLe a' b') : PLe (if c then a else a') (if c then b else b') := by
  split <;> assumption
theorem prun_le : ∀ (f : Nat) (q : Q) (s : PS), PLe (prun f q s) (prun (f + 1) q s)
  | 0, _, _ => fun _ h => by simp [prun] at h
  | f + 1, q, s => by
    have ih := prun_le f
    cases q
    case loop i out =>
      rw [prun, prun]
      cases opS i s
      · exact .refl _
      · exact .bind (ih _ _) fun r => .ite (.refl _) (ih _ _)
    all_goals
      rw [prun, prun]
      repeat' (first | exact ih _ _ | exact PLe.refl _ | refine PLe.ite ?_ ?_ | refine PLe.bind (ih _ _) fun r => ?_)
theorem prun_mono {f g : Nat} (h : f ≤ g) (q : Q) (s : PS) : PLe (prun f q s) (prun g q s) := by
  induction h with
  | refl => exact .refl _
  | step _ ih => exact fun x hx => prun_le _ _ _ x (ih x hx)
def PR (q : Q) (s : PS) (n : Nd) (s' : PS) : Prop := ∃ f, prun f q s = some (n, s')
theorem PR.unique {q : Q} {s s1 s2 : PS} {n1 n2 : Nd} (h1 : PR q s n1 s1) (h2 : PR q s n2 s2) : n1 = n2 ∧ s1 = s2 := by
  obtain ⟨f, h1⟩ := h1
  obtain ⟨g, h2⟩ := h2
  have e1 := prun_mono (Nat.le_max_left f g) _ _ _ h1
  have e2 := prun_mono (Nat.le_max_right f g) _ _ _ h2
  rw [e1] at e2
  cases e2
  exact ⟨rfl, rfl⟩
/-- one step, of parts that are read -/
theorem PR.one {q q1 : Q} {s s1 s' t : PS} {n n1 : Nd} (h : PR q1 s1 n1 t) (k : ∀ f, prun f q1 s1 = some (n1, t) → prun (f + 1) q s = some (n, s')) : PR q s n s' :=
  let ⟨f, hf⟩ := h; ⟨f + 1, k f hf⟩
theorem PR.two {q q1 q2 : Q} {s s1 s2 s' t1 t2 : PS} {n n1 n2 : Nd} (h1 : PR q1 s1 n1 t1) (h2 : PR q2 s2 n2 t2)
    (k : ∀ f, prun f q1 s1 = some (n1, t1) → prun f q2 s2 = some (n2, t2) → prun (f + 1) q s = some (n, s')) : PR q s n s' :=
  let ⟨f, hf⟩ := h1; let ⟨g, hg⟩ := h2
  ⟨max f g + 1, k _ (prun_mono (Nat.le_max_left f g) _ _ _ hf) (prun_mono (Nat.le_max_right f g) _ _ _ hg)⟩
theorem PR.three {q q1 q2 q3 : Q} {s s1 s2 s3 s' t1 t2 t3 : PS} {n n1 n2 n3 : Nd} (h1 : PR q1 s1 n1 t1) (h2 : PR q2 s2 n2 t2) (h3 : PR q3 s3 n3 t3)
    (k : ∀ f, prun f q1 s1 = some (n1, t1) → prun f q2 s2 = some (n2, t2) → prun f q3 s3 = some (n3, t3) → prun (f + 1) q s = some (n, s')) : PR q s n s' :=
  let ⟨f, hf⟩ := h1; let ⟨g, hg⟩ := h2; let ⟨e, he⟩ := h3
  ⟨max f (max g e) + 1, k _ (prun_mono (by omega) _ _ _ hf) (prun_mono (by omega) _ _ _ hg) (prun_mono (by omega) _ _ _ he)⟩
end Go.Proofs

/- tree: nodes in memory, what is one deeper, lists. -/
namespace Go.Proofs
open Go.X
set_option maxHeartbeats 1000000
set_option linter.unusedVariables false
set_option linter.unusedSimpArgs false

/-- a node, and where its kids lie -/
structure NV where
  n : Nd
  a : Option Addr
  c : Nat
def encN (x : NV) : List Value := [.int .i64 x.n.op, .string ⟨x.n.text.toArray⟩, .int .i64 x.n.num, .slice x.a x.n.kids.length x.c]
inductive KidsP (I : Im) : Option Addr → Nat → List Nd → Prop
  | mk (a : Option Addr) (c : Nat) (xs : List NV) (h : SlA I a 4 encN xs) (hc : xs.length ≤ c) (hk : ∀ x ∈ xs, KidsP I x.a x.c x.n.kids) : KidsP I a c (xs.map (·.n))
theorem KidsP.mono {I I' : Im} (hl : I.Le I') {a : Option Addr} {c : Nat} {k : List Nd} (h : KidsP I a c k) : KidsP I' a c k := by
  induction h with
  | mk a c xs h hc hk ih => exact .mk a c xs (h.mono hl) hc ih
class KidsC (I : Im) (a : Option Addr) (c : Nat) (k : List Nd) : Prop where
  p : KidsP I a c k
instance (priority := low) {I I' : Im} {a : Option Addr} {c : Nat} {k : List Nd} [hl : I.Le I'] [h : KidsC I a c k] : KidsC I' a c k := ⟨h.p.mono hl⟩
instance {I : Im} {a : Option Addr} {c : Nat} : KidsC I a c [] := ⟨.mk a c [] SlA.nil (by simp) (by simp)⟩
theorem KidsC.of {I : Im} {a : Option Addr} {c : Nat} {xs : List NV} (h : SlA I a 4 encN xs) (hc : xs.length ≤ c) (hk : ∀ x ∈ xs, KidsC I x.a x.c x.n.kids) : KidsC I a c (xs.map (·.n)) :=
  ⟨.mk a c xs h hc fun x hx => (hk x hx).p⟩
abbrev nodeV (n : Nd) (a : Option Addr) (c : Nat) : Value := .agg (List.toArray [.int .i64 n.op, .string ⟨n.text.toArray⟩, .int .i64 n.num, .slice a n.kids.length c])
instance {n : Nd} {a : Option Addr} {c : Nat} : EncOf encN [.int .i64 n.op, .string ⟨n.text.toArray⟩, .int .i64 n.num, .slice a n.kids.length c] ⟨n, a, c⟩ := ⟨rfl⟩
/-- what is known when q was read -/
structure PDone (q : Q) (s s' : PS) (n : Nd) : Prop where
  pr : PR q s n s'
  len : s'.l.length ≤ s.l.length
  d : s'.d = s.d
structure PPost (q : Q) (v : Env) (bp : Nat) (s : PS) (I : Im) (R : Heap) (K : KV) : Prop where
  go : ∀ n s' w' I' a c, PDone q s s' n → I.Le I' → HH w' I' ((bp, PS.obj v s') :: R) → PSok I' v s' → KidsC I' a c n.kids → K (nodeV n a c) w'
def rank : Q → Nat
  | .level i => 8 - i
  | .unary => 2
  | .primary => 1
  | .stmt => 9
  | .deep q => rank q
  | .stmts _ => 10
  | _ => 0
/-- a function value that reads q, as long as no more than m is left of it -/
class PFn (I : Im) (f : Value) (bp : outParam Nat) (q : outParam Q) (m : outParam Nat) : Prop where
  run : ∀ v ro w I' R s K, I.Le I' → s.l.length * 32 + rank q < m → HH w I' ((bp, PS.obj v s) :: R) → PSok I' v s → PPost q v bp s I' R K → XCall Tryz.prog ro f [] w K
instance pfnStep {ro : Option Nat} {w : World} {I : Im} {L R : Heap} {bp m : Nat} {v : Env} {s : PS} {f : Value} {q : Q} {K : KV} [hh : HH w I L] [pf : PFn I f bp q m] [r : Rem L bp (PS.obj v s) R] [ok : PSok I v s] :
    XStep (XCall Tryz.prog ro f [] w K) (XChk (s.l.length * 32 + rank q < m) (PPost q v bp s I R K)) := ⟨fun ⟨hm, k⟩ => pf.run v ro w I R s K (.refl I) hm (hh.perm r.perm) ok k⟩
theorem failS_l (s : PS) (e : Int) : (failS s e).l = s.l ∧ (failS s e).d = s.d := by
  unfold failS; split <;> exact ⟨rfl, rfl⟩
theorem failS_e (s : PS) (e : Int) (h : e ≠ 0) : (failS s e).e ≠ 0 := by
  unfold failS; split <;> assumption
theorem PR.deep0 {q : Q} {s : PS} (h : (deepS s).e ≠ 0) : PDone (.deep q) s (deepS s) .zero := by
  refine ⟨⟨1, by rw [prun, if_pos h]⟩, ?_, ?_⟩ <;> (unfold deepS; split <;> simp [failS_l])
theorem PR.deep1 {q : Q} {s t : PS} {n : Nd} (h : (deepS s).e = 0) (p : PDone q { deepS s with d := (deepS s).d + 1 } t n) : PDone (.deep q) s { t with d := (deepS s).d } n := by
  refine ⟨p.pr.one fun f hf => by rw [prun, if_neg (by simp [h]), hf]; rfl, ?_, ?_⟩
  · refine Nat.le_trans p.len ?_
    show (deepS s).l.length ≤ _
    unfold deepS; split <;> simp [failS_l]
  · show (deepS s).d = s.d
    unfold deepS; split <;> simp [failS_l]
instance deeperC {w : World} {I : Im} {L R : Heap} {bp m : Nat} {v : Env} {s : PS} {f : Value} {q : Q} {K : KV} [hh : HH w I L] [pf : PFn I f bp q m] [r : Rem L bp (PS.obj v s) R] [ok : PSok I v s] :
    XStep (XApp Tryz.prog 108 [.pointer (some ⟨bp, 0, none⟩), f] w K)
      (XChk (s.l.length * 32 + rank q < m ∨ s.e ≠ 0) (PPost (.deep q) v bp s I R K)) := ⟨fun ⟨hm, k⟩ => by
  have hh' := hh.perm r.perm
  clear hh r
  refine .of Tryz.func108 ?_
  have hf := failS_e s 9 (by decide)
  repeat' (conv => whnf
           first
             | exact trivial
             | refine XStep.go ?_
             | refine XChk.mk (by first | omega | decide | (simp only [List.length_take, List.length_drop]; omega) | (simp only [List.length_append, List.length_cons, List.length_nil]; omega)) ?_
             | refine XBoth.mk ?_ ?_
             | intro xx
             | (refine XBr.t (by omega) ?_)
             | (refine XBr.f (by omega) ?_)
             | refine XOpt.mk (fun x hc => ?_) (fun hc => ?_)
             | refine XRes.mk (fun x hc => ?_) (fun x hc => ?_)
             | refine XBr.mk (fun hc => ?_) (fun hc => ?_)
             | refine XIf.mk (fun hc => ?_) (fun hc => ?_))
  · conv => whnf
    have e : deepS s = failS s 9 := if_pos (by omega)
    have hd := PR.deep0 (q := q) (s := s) (by rw [e]; exact hf)
    rw [e] at hd
    exact k.go _ _ _ _ none 0 hd (.refl _) HH.fin ‹_› (inferInstanceAs (KidsC I none 0 []))
  · have e : deepS s = s := if_neg (by omega)
    have ok2 : PSok I v { s with d := s.d + 1 } := ⟨ok.ok, ok.sl, ok.suf, ok.ne, by show s.d + 1 ≤ 16; omega, ok.e⟩
    have hx : HH _ I ((_, _) :: (bp, PS.obj v { s with d := s.d + 1 }) :: R) := xx
    clear xx hh'
    refine pfnStep.go ⟨by show s.l.length * 32 + rank q < m; omega, ⟨fun n s' w' I' a c hd hl hh3 ok3 hk => ?_⟩⟩
    have hd2 : s'.d = s.d + 1 := hd.d
    have hd3 := PR.deep1 (q := q) (s := s) (t := s') (n := n) (by rw [e]; exact hc) (by rw [e]; exact hd)
    rw [e] at hd3
    have ok4 : PSok I' v { s' with d := s.d } := ⟨ok3.ok, ok3.sl, ok3.suf, ok3.ne, ok.d, ok3.e⟩
    repeat' (conv => whnf
             first
               | exact trivial
               | refine XStep.go ?_
               | refine XChk.mk (by first | omega | decide | (simp only [List.length_take, List.length_drop]; omega) | (simp only [List.length_append, List.length_cons, List.length_nil]; omega)) ?_
               | refine XBoth.mk ?_ ?_
               | intro xx
               | (refine XBr.t (by omega) ?_)
               | (refine XBr.f (by omega) ?_)
               | refine XOpt.mk (fun x hc => ?_) (fun hc => ?_)
               | refine XRes.mk (fun x hc => ?_) (fun x hc => ?_)
               | refine XBr.mk (fun hc => ?_) (fun hc => ?_)
               | refine XIf.mk (fun hc => ?_) (fun hc => ?_))
    conv => whnf
    have e2 : ((s'.d : Int) - 1) = (s.d : Nat) := by omega
    rw [e2] at xx
    exact k.go _ _ _ _ _ _ hd3 hl HH.fin ok4 hk
  · conv => whnf
    have e : deepS s = s := if_neg (by omega)
    have hd := PR.deep0 (q := q) (s := s) (by rw [e]; exact hc)
    rw [e] at hd
    exact k.go _ _ _ _ none 0 hd (.refl _) HH.fin ‹_› (inferInstanceAs (KidsC I none 0 []))⟩
end Go.Proofs

/- tree: lists. -/
namespace Go.Proofs
open Go.X
set_option maxHeartbeats 1000000
set_option linter.unusedVariables false
set_option linter.unusedSimpArgs false

theorem isB_e {t : Bs} {s : PS} (h : isB t s = true) : s.e = 0 ∧ s.hd.kind ≠ 0 := by
  unfold isB at h; simp at h; exact ⟨h.1, by omega⟩
theorem takeS_e {n : Int} {s : PS} (h : takeS n s = true) : s.e = 0 ∧ s.hd.kind = n := by
  unfold takeS at h; simpa using h
theorem next_len (s : PS) : s.next.l.length = s.l.length - 1 ∧ s.next.d = s.d ∧ s.next.e = s.e := ⟨by simp [PS.next], rfl, rfl⟩
theorem mustS_cases (t : Bs) (s : PS) (h : s.l ≠ []) : ((mustS t s).e = s.e ∧ s.e = 0 ∧ (mustS t s).l.length + 1 = s.l.length ∧ (mustS t s).d = s.d) ∨ ((mustS t s).e ≠ 0 ∧ (mustS t s).l.length = s.l.length ∧ (mustS t s).d = s.d) := by
  have hl := List.length_pos_iff.2 h
  unfold mustS
  split
  · rename_i hb
    have := next_len s
    exact .inl ⟨rfl, (isB_e hb).1, by omega, rfl⟩
  · exact .inr ⟨failS_e s 2 (by decide), by rw [(failS_l s 2).1], (failS_l s 2).2⟩
theorem nameS_cases (s : PS) (h : s.l ≠ []) : ((nameS s).2.e = s.e ∧ s.e = 0 ∧ (nameS s).2.l.length + 1 = s.l.length ∧ (nameS s).2.d = s.d) ∨ ((nameS s).2.e ≠ 0 ∧ (nameS s).2.l.length = s.l.length ∧ (nameS s).2.d = s.d) := by
  have hl := List.length_pos_iff.2 h
  unfold nameS
  split
  · rename_i hb
    have := next_len s
    exact .inl ⟨rfl, (takeS_e hb).1, by dsimp only; omega, rfl⟩
  · exact .inr ⟨failS_e s 2 (by decide), by rw [(failS_l s 2).1], (failS_l s 2).2⟩
instance (priority := low) PFn.lift {I I' : Im} {f : Value} {bp m : Nat} {q : Q} [hl : I.Le I'] [h : PFn I f bp q m] : PFn I' f bp q m :=
  ⟨fun v ro w J R s K hj => h.run v ro w J R s K (hl.trans hj)⟩
theorem PDone.of1 {q q1 : Q} {s s1 t s' : PS} {n n1 : Nd} (p : PDone q1 s1 t n1) (hl : s1.l.length ≤ s.l.length) (hd : s1.d = s.d) (hl2 : s'.l.length ≤ t.l.length) (hd2 : s'.d = t.d)
    (k : ∀ f, prun f q1 s1 = some (n1, t) → prun (f + 1) q s = some (n, s')) : PDone q s s' n :=
  ⟨p.pr.one k, by have := p.len; omega, by rw [hd2, p.d, hd]⟩
theorem kids_snoc {I I' : Im} {out : List NV} {y : NV} (hk : ∀ x ∈ out, KidsC I x.a x.c x.n.kids) (hl : I.Le I') (hy : KidsC I' y.a y.c y.n.kids) : ∀ x ∈ out ++ [y], KidsC I' x.a x.c x.n.kids := fun x hx => by
  rcases List.mem_append.1 hx with h | h
  · exact ⟨(hk x h).p.mono hl⟩
  · rw [List.mem_singleton.1 h]; exact hy
structure LPost (q : Q) (v : Env) (bp : Nat) (s : PS) (I : Im) (R : Heap) (K : KV) : Prop where
  go : ∀ n s' w' I' a c xs E, PDone (.list q) s s' n → I.Le I' → HH w' I' ((bp, PS.obj v s') :: (E ++ R)) → PSok I' v s' → SO 63 a c 4 encN xs E → n.kids = xs.map (·.n) → (∀ x ∈ xs, KidsC I' x.a x.c x.n.kids) →
    xs.length ≤ 2001 → K (.slice a xs.length c) w'
instance listC {w : World} {I : Im} {L R : Heap} {bp m : Nat} {v : Env} {s : PS} {f : Value} {q : Q} {K : KV} [hh : HH w I L] [pf : PFn I f bp q m] [r : Rem L bp (PS.obj v s) R] [ok : PSok I v s] :
    XStep (XApp Tryz.prog 73 [.pointer (some ⟨bp, 0, none⟩), f] w K)
      (XChk (s.l.length * 32 + rank q < m ∨ s.e ≠ 0) (LPost q v bp s I R K)) := ⟨fun ⟨hm, k⟩ => by
  have hh' := hh.perm r.perm
  clear hh r
  refine .of Tryz.func73 ?_
  repeat' (conv => whnf
           first
             | exact trivial
             | refine XStep.go ?_
             | refine XChk.mk (by first | omega | decide | (simp only [List.length_take, List.length_drop]; omega) | (simp only [List.length_append, List.length_cons, List.length_nil]; omega)) ?_
             | refine XBoth.mk ?_ ?_
             | intro xx
             | (refine XBr.t (by omega) ?_)
             | (refine XBr.f (by omega) ?_)
             | refine XOpt.mk (fun x hc => ?_) (fun hc => ?_)
             | refine XRes.mk (fun x hc => ?_) (fun x hc => ?_)
             | refine XBr.mk (fun hc => ?_) (fun hc => ?_)
             | refine XIf.mk (fun hc => ?_) (fun hc => ?_))
  · conv => whnf
    have := next_len s
    exact k.go .zero s.next _ I none 0 [] [] ⟨⟨1, by rw [prun, if_pos hc]⟩, by omega, rfl⟩ (.refl _) (by simpa using (HH.fin : HH _ I ((bp, PS.obj v s.next) :: R))) ‹_› SO.nil rfl (by simp) (by simp)
  have hle := ok.le
  refine XCode.loopG (fun g : List NV × Option Addr × Nat × PS => [some (.pointer (some ⟨bp, 0, none⟩)), some (f), none, none, some (.slice none 0 0), some (.slice g.2.1 g.1.length g.2.2.1), none, none, none, none, none, none, none, none, none, none, none, none, none, none, none, none, none, none])
    (fun g w => (∃ I' E, I.Le I' ∧ HH w I' ((bp, PS.obj v g.2.2.2) :: (E ++ R)) ∧ SO 63 g.2.1 g.2.2.1 4 encN g.1 E ∧ PSok I' v g.2.2.2 ∧ (∀ x ∈ g.1, KidsC I' x.a x.c x.n.kids))
      ∧ g.2.2.2.l.length ≤ s.l.length ∧ g.2.2.2.d = s.d ∧ g.1.length ≤ 2001 ∧ (g.2.2.2.e = 0 → g.1.length + g.2.2.2.l.length ≤ 2000 ∧ s.e = 0) ∧ ∀ n s', PDone (.args q (g.1.map (·.n))) g.2.2.2 s' n → PDone (.list q) s s' n)
    (fun g => if g.2.2.2.e = 0 then g.2.2.2.l.length + 1 else 0) ([], none, 0, s) ?_
    ⟨⟨I, [], .refl _, xx, SO.nil, ok, by simp⟩, by simp, rfl, by simp, fun _ => ⟨by show 0 + s.l.length ≤ 2000; omega, by assumption⟩, fun n s' h => ⟨h.pr.one fun f hf => by rw [prun, if_neg (by simp [hc])]; exact hf, h.len, h.d⟩⟩ ?_
  · simp [fits]
  · rintro ⟨out, aa, cap, s1⟩ w ⟨⟨I1, E, hl1, hh2, so, ok1, hk⟩, h4, h5, h6, h7, h8⟩
    dsimp only at hh2 so ok1 hk h4 h5 h6 h7 h8 ⊢
    have hle1 := ok1.le
    repeat' (conv => whnf
             first
               | exact trivial
               | refine XStep.go ?_
               | refine XChk.mk (by first | omega | decide | (simp only [List.length_take, List.length_drop]; omega) | (simp only [List.length_append, List.length_cons, List.length_nil]; omega)) ?_
               | refine XBoth.mk ?_ ?_
               | (refine PPost.mk fun n2 s2 w2 I2 a2 c2 hd hl hh3 ok2 hk2 => ?_)
               | intro xx
               | (refine XBr.t (by omega) ?_)
               | (refine XBr.f (by omega) ?_)
               | refine XOpt.mk (fun x hc => ?_) (fun hc => ?_)
               | refine XRes.mk (fun x hc => ?_) (fun x hc => ?_)
               | refine XBr.mk (fun hc => ?_) (fun hc => ?_)
               | refine XIf.mk (fun hc => ?_) (fun hc => ?_))
    all_goals conv => whnf
    · have hn := next_len s2
      have hd2 : PDone (.args q (out.map NV.n)) s1 s2.next (.mk 0 [] 0 ((out ++ [(⟨n2, a2, c2⟩ : NV)]).map NV.n)) := PDone.of1 hd (Nat.le_refl _) rfl (by omega) rfl fun f hf => by
        rw [prun, if_neg (by simpa using ‹s1.e = 0›), hf]; simp [hc]
      have := hd.len
      exact k.go _ _ _ _ _ _ _ _ (h8 _ _ hd2) (hl1.trans hl) HH.fin ‹_› ‹SO _ _ _ 4 encN (out ++ _) _› rfl (kids_snoc hk hl hk2) (by simp; omega)
    · have h9 := mustS_cases [44] s2 ok2.ne
      have := hd.len
      have := hd.d
      refine ⟨(out ++ [⟨n2, a2, c2⟩], _, _, mustS [44] s2), rfl, ⟨rfl, rfl, rfl, rfl, trivial⟩, ⟨⟨_, _, hl1.trans hl, HH.fin, ‹SO _ _ _ 4 encN (out ++ _) _›, ‹PSok _ v (mustS _ _)›, kids_snoc hk hl hk2⟩, ?_, ?_, ?_, ?_, ?_⟩, ?_⟩
      all_goals dsimp only
      · omega
      · omega
      · simp; omega
      · simp; omega
      · intro n s' h
        refine h8 _ _ ⟨PR.two hd.pr h.pr fun f hf hf2 => ?_, by have := h.len; omega, by have := h.d; omega⟩
        rw [prun, if_neg (by simpa using ‹s1.e = 0›), hf]
        simpa [hc] using hf2
      · rw [if_pos ‹s1.e = 0›]; split <;> omega
    · exact k.go _ _ _ _ _ _ _ _ (h8 (.mk 0 [] 0 (out.map (·.n))) s1 ⟨⟨1, by rw [prun, if_pos hc]⟩, Nat.le_refl _, rfl⟩) hl1 hh2 ok1 so rfl hk h6⟩
end Go.Proofs
