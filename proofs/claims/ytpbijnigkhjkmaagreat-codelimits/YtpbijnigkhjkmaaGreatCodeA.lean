/- code: values, instructions, places in lists. -/
import Derived.Test.YtpbijnigkhjkmaaGreatTreeC
import Derived.Test.YtpbijnigkhjkmaaGreatLib
namespace Go.Proofs
open Go.X
set_option maxHeartbeats 1000000
set_option linter.unusedVariables false
set_option linter.unusedSimpArgs false

/-- a value -/
structure VV where
  kind : Int
  num : Int
  text : Bs
  deriving DecidableEq
abbrev VV.v (x : VV) : Value := .agg (List.toArray [.int .i64 x.kind, .int .i64 x.num, .string ⟨x.text.toArray⟩])
def vEnc (x : VV) : List Value := [.int .i64 x.kind, .int .i64 x.num, .string ⟨x.text.toArray⟩]
instance {k n : Int} {t : Bs} : EncOf vEnc [.int .i64 k, .int .i64 n, .string ⟨t.toArray⟩] ⟨k, n, t⟩ := ⟨rfl⟩
instance : EncOne vEnc := ⟨fun y v hv => by simp [vEnc] at hv; rcases hv with rfl | rfl | rfl <;> rfl⟩
instance : EncLen vEnc 3 := ⟨fun _ => rfl⟩
def VV.nil : VV := ⟨0, 0, []⟩
/-- an instruction -/
structure In where
  op : Int
  a : Int
  text : Bs
  deriving DecidableEq
abbrev In.v (x : In) : Value := .agg (List.toArray [.int .i64 x.op, .int .i64 x.a, .string ⟨x.text.toArray⟩])
def inEnc (x : In) : List Value := [.int .i64 x.op, .int .i64 x.a, .string ⟨x.text.toArray⟩]
instance {k n : Int} {t : Bs} : EncOf inEnc [.int .i64 k, .int .i64 n, .string ⟨t.toArray⟩] ⟨k, n, t⟩ := ⟨rfl⟩
instance : EncOne inEnc := ⟨fun y v hv => by simp [inEnc] at hv; rcases hv with rfl | rfl | rfl <;> rfl⟩
instance : EncLen inEnc 3 := ⟨fun _ => rfl⟩

/-! value.Of, value.Say -/
def ofF (n : Int) : VV × Int := if n < -2147483648 ∨ 2147483648 < n then (.nil, 13) else (⟨1, n, []⟩, 0)
def sayF (t : Bs) : VV × Int := if 4096 < t.length then (.nil, 3) else (⟨2, 0, t⟩, 0)
instance ofC {w : World} {I : Im} {L : Heap} {n : Int} {K : KV} [hh : HH w I L] : XStep (XApp Tryz.prog 112 [.int .i64 n] w K) (∀ w', HH w' I L → K (.tuple (List.toArray [(ofF n).1.v, .int .i64 (ofF n).2])) w') := ⟨fun k => by
  refine .of Tryz.func112 ?_
  repeat' (conv => whnf
           first
             | exact trivial
             | refine XStep.go ?_
             | refine XChk.mk (by first | omega | decide | (simp only [List.length_take, List.length_drop]; omega) | (simp only [List.length_append, List.length_cons, List.length_nil]; omega)) ?_
             | refine XBoth.mk ?_ ?_
             | intro xx
             | (refine XBr.t (by omega) ?_)
             | (refine XBr.f (by omega) ?_)
             | refine XOpt.mk (fun x hc => ?_) (fun hc => ?_)
             | refine XRes.mk (fun x hc => ?_) (fun x hc => ?_)
             | refine XBr.mk (fun hc => ?_) (fun hc => ?_)
             | refine XIf.mk (fun hc => ?_) (fun hc => ?_))
  all_goals conv => whnf
  all_goals
    refine retTo (k _ HH.fin) ?_
    unfold ofF
    first
    | (rw [if_pos (by omega)]; rfl)
    | (rw [if_neg (by omega)]; rfl)⟩
instance sayC {w : World} {I : Im} {L : Heap} {t : Bs} {K : KV} [hh : HH w I L] : XStep (XApp Tryz.prog 113 [.string ⟨t.toArray⟩] w K) (∀ w', HH w' I L → K (.tuple (List.toArray [(sayF t).1.v, .int .i64 (sayF t).2])) w') := ⟨fun k => by
  refine .of Tryz.func113 ?_
  repeat' (conv => whnf
           first
             | exact trivial
             | refine XStep.go ?_
             | refine XChk.mk (by first | omega | decide | (simp only [List.length_take, List.length_drop]; omega) | (simp only [List.length_append, List.length_cons, List.length_nil]; omega)) ?_
             | refine XBoth.mk ?_ ?_
             | intro xx
             | (refine XBr.t (by omega) ?_)
             | (refine XBr.f (by omega) ?_)
             | refine XOpt.mk (fun x hc => ?_) (fun hc => ?_)
             | refine XRes.mk (fun x hc => ?_) (fun x hc => ?_)
             | refine XBr.mk (fun hc => ?_) (fun hc => ?_)
             | refine XIf.mk (fun hc => ?_) (fun hc => ?_))
  all_goals conv => whnf
  all_goals
    refine retTo (k _ HH.fin) ?_
    unfold sayF
    first
    | (rw [if_pos (by omega)]; rfl)
    | (rw [if_neg (by omega)]; rfl)⟩
/-- a node's constant -/
def constF (o : Int) (t : Bs) (i : Int) : VV × Bool := if o = 8 then ((ofF i).1, true) else if o = 9 then ((sayF t).1, true) else if o = 10 then (.nil, true) else (.nil, false)
instance constC {w : World} {I : Im} {L : Heap} {o i : Int} {t : Bs} {a : Option Addr} {n c : Nat} {K : KV} [hh : HH w I L] :
    XStep (XApp Tryz.prog 77 [.agg (List.toArray [.int .i64 o, .string ⟨t.toArray⟩, .int .i64 i, .slice a n c])] w K) (∀ w', HH w' I L → K (.tuple (List.toArray [(constF o t i).1.v, .bool (constF o t i).2])) w') := ⟨fun k => by
  refine .of Tryz.func77 ?_
  repeat' (conv => whnf
           first
             | exact trivial
             | refine XStep.go ?_
             | refine XChk.mk (by first | omega | decide | (simp only [List.length_take, List.length_drop]; omega) | (simp only [List.length_append, List.length_cons, List.length_nil]; omega)) ?_
             | refine XBoth.mk ?_ ?_
             | intro xx
             | (refine XBr.t (by omega) ?_)
             | (refine XBr.f (by omega) ?_)
             | refine XOpt.mk (fun x hc => ?_) (fun hc => ?_)
             | refine XRes.mk (fun x hc => ?_) (fun x hc => ?_)
             | refine XBr.mk (fun hc => ?_) (fun hc => ?_)
             | refine XIf.mk (fun hc => ?_) (fun hc => ?_))
  all_goals conv => whnf
  all_goals
    refine retTo (k _ HH.fin) ?_
    unfold constF
    simp [*, VV.nil, retV]⟩
theorem vv_eq {x y : VV} (h1 : x.kind = y.kind) (h2 : x.num = y.num) (h3 : x.text = y.text) : x = y := by cases x; cases y; simp_all
/-! slices.Index -/
instance indexSO {w : World} {I : Im} {L E R : Heap} {a : Option Addr} {cap : Nat} {x : Bs} {xs : List Bs} {K : KV} [hh : HH w I L] [so : SO 9 a cap 1 sEnc xs E] [sp : Split L E R] :
    XStep (XApp Tryz.prog 79 [.slice a xs.length cap, .string ⟨x.toArray⟩] w K) (XChk (xs.length ≤ 1000000000) (∀ w', HH w' I (E ++ R) → K (.int .i64 (idx (fun y => decide (x = y)) xs)) w')) := ⟨fun ⟨h, k⟩ => by
  obtain ⟨I', hl, h1, h2, h3, h4⟩ := so.lend (hh.perm sp.perm)
  exact (IndexS h).mono fun _ _ ⟨e, hw⟩ => by subst hw; exact e ▸ k _ (h4 _ h1)⟩
theorem IndexV {w : World} {I : Im} {L : Heap} {a : Option Addr} {c : Nat} {x : VV} {xs : List VV} [hh : HH w I L] [SlA I a 3 vEnc xs] (hl : xs.length ≤ 1000000000) :
    XApp Tryz.prog 114 [.slice a xs.length c, x.v] w fun v w' => v = .int .i64 (idx (fun y => decide (x = y)) xs) ∧ HH w' I L := by
  refine .of Tryz.func114 ?_
  repeat' (conv => whnf
           first
             | exact trivial
             | refine XStep.go ?_
             | refine XChk.mk (by first | omega | decide | (simp only [List.length_take, List.length_drop]; omega) | (simp only [List.length_append, List.length_cons, List.length_nil]; omega)) ?_
             | refine XBoth.mk ?_ ?_
             | (refine XCode.drawH (id := 4) #[.qui, .pur, .pur, .qui, .qui, .pur] (.one 1 (.one 2 (.one 0 (.one 3 (.one 4 (.one 5 .done)))))) mixed (by kernel_rfl) ?_)
             | intro xx
             | (refine XBr.t (by omega) ?_)
             | (refine XBr.f (by omega) ?_)
             | refine XOpt.mk (fun x hc => ?_) (fun hc => ?_)
             | refine XRes.mk (fun x hc => ?_) (fun x hc => ?_)
             | refine XBr.mk (fun hc => ?_) (fun hc => ?_)
             | refine XIf.mk (fun hc => ?_) (fun hc => ?_))
  rename_i b3 _
  refine XCode.loopG (fun k : Nat => [some (.slice a xs.length c), none, none, some (.pointer (some ⟨b3, 0, none⟩)), some (.int .i64 0), none, none, some (.int .i64 xs.length), some (.int .i64 k), none, none, none, none, none, none, none, none, none, none]) (fun k w' => HH w' I ((b3, .cells (List.toArray [.int .i64 x.kind, .int .i64 x.num, .string ⟨x.text.toArray⟩]) 54 (0, 0)) :: L) ∧ k ≤ xs.findIdx (fun y => decide (x = y))) (fun k => xs.length - k) 0 ?_ ⟨xx, Nat.zero_le _⟩ ?_
  · simp [fits]
  · rintro k w' ⟨hh2, hk⟩
    have hle := List.findIdx_le_length (p := fun y => decide (x = y)) (xs := xs)
    clear hh xx
    repeat' (conv => whnf
             first
               | exact trivial
               | refine XStep.go ?_
               | refine XChk.mk (by first | omega | decide | (simp only [List.length_take, List.length_drop]; omega) | (simp only [List.length_append, List.length_cons, List.length_nil]; omega)) ?_
               | refine XBoth.mk ?_ ?_
               | (refine XCode.drawH (id := 4) #[.qui, .pur, .pur, .qui, .qui, .pur] (.one 1 (.one 2 (.one 0 (.one 3 (.one 4 (.one 5 .done)))))) mixed (by kernel_rfl) ?_)
               | intro xx
               | (refine XBr.t (by omega) ?_)
               | (refine XBr.f (by omega) ?_)
               | refine XOpt.mk (fun x hc => ?_) (fun hc => ?_)
               | refine XRes.mk (fun x hc => ?_) (fun x hc => ?_)
               | refine XBr.mk (fun hc => ?_) (fun hc => ?_)
               | refine XIf.mk (fun hc => ?_) (fun hc => ?_))
    all_goals conv => whnf
    · have hx := (‹At xs k _›).eq
      have e := findIdx_hit hk hx (decide_eq_true (vv_eq ‹_› ‹_› ‹_›))
      exact ⟨by rw [idx, e, if_pos (by omega)]; rfl, HH.fin⟩
    · have hx := (‹At xs k _›).eq
      exact ⟨k + 1, rfl, by simp [fits], ⟨HH.fin, findIdx_miss hk hx (decide_eq_false (fun h => hc (congrArg VV.text h)))⟩, by omega⟩
    · have hx := (‹At xs k _›).eq
      exact ⟨k + 1, rfl, by simp [fits], ⟨HH.fin, findIdx_miss hk hx (decide_eq_false (fun h => hc (congrArg VV.num h)))⟩, by omega⟩
    · have hx := (‹At xs k _›).eq
      exact ⟨k + 1, rfl, by simp [fits], ⟨HH.fin, findIdx_miss hk hx (decide_eq_false (fun h => hc (congrArg VV.kind h)))⟩, by omega⟩
    · exact ⟨by rw [idx, if_neg (by omega)]; rfl, HH.fin⟩
instance indexVSO {w : World} {I : Im} {L E R : Heap} {a : Option Addr} {cap : Nat} {k n : Int} {s : Bs} {xs : List VV} {K : KV} [hh : HH w I L] [so : SO 54 a cap 3 vEnc xs E] [sp : Split L E R] :
    XStep (XApp Tryz.prog 114 [.slice a xs.length cap, .agg (List.toArray [.int .i64 k, .int .i64 n, .string ⟨s.toArray⟩])] w K) (XChk (xs.length ≤ 1000000000) (∀ w', HH w' I (E ++ R) → K (.int .i64 (idx (fun y => decide ((⟨k, n, s⟩ : VV) = y)) xs)) w')) := ⟨fun ⟨h, kk⟩ => by
  obtain ⟨I', hl, h1, h2, h3, h4⟩ := so.lend (hh.perm sp.perm)
  exact (IndexV (x := ⟨k, n, s⟩) h).mono fun _ _ ⟨e, hw⟩ => e ▸ kk _ (h4 _ hw)⟩

/-! ends, in whatever order -/
theorem fin1 {w : World} {I I' : Im} {L R1 R2 E R : Heap} {b : Nat} {o : Obj} [h : HH w I' L] [r : Rem L b o R1] [sp : Split R1 E R2] [hl : LeR I I'] [hs : SubL R R2] : HH w I ((b, o) :: (E ++ R)) := by
  have h1 := h.perm (r.perm.trans (List.Perm.cons _ sp.perm))
  have hsub : ((b, o) :: (E ++ R)).Sublist ((b, o) :: (E ++ R2)) := ((List.append_sublist_append_left E).2 hs.sub).cons_cons _
  exact (h1.sub (fun _ hx => hsub.subset hx) ((hsub.map (·.1)).nodup h1.nodup)).less hl.le
/-! place -/
section
variable {α : Type} [DecidableEq α]
def placeI (l : List α) (x : α) : Nat := l.findIdx fun y => decide (x = y)
def placeL (l : List α) (x : α) : List α := if x ∈ l then l else l ++ [x]
theorem place_neg {l : List α} {x : α} (h : idx (fun y => decide (x = y)) l < 0) : placeI l x = l.length ∧ placeL l x = l ++ [x] := by
  unfold idx at h
  split at h
  · omega
  · rename_i hn
    have hle := List.findIdx_le_length (p := fun y => decide (x = y)) (xs := l)
    refine ⟨by unfold placeI; omega, if_neg fun hm => hn (List.findIdx_lt_length_of_exists ⟨x, hm, by simp⟩)⟩
theorem place_pos {l : List α} {x : α} (h : ¬ idx (fun y => decide (x = y)) l < 0) : idx (fun y => decide (x = y)) l = (placeI l x : Nat) ∧ placeL l x = l := by
  unfold idx at h ⊢
  split at h
  · rename_i hn
    have := List.findIdx_getElem (w := hn)
    simp at this
    exact ⟨by rw [if_pos hn]; rfl, if_pos (by rw [this]; exact List.getElem_mem hn)⟩
  · omega
end
abbrev TProg : TypeId := 99
abbrev progO (an : Option Addr) (cn : Nat) (names : List Bs) (ac : Option Addr) (cc : Nat) (consts : List VV) (m s : Value) : Obj := .cells (List.toArray [.slice an names.length cn, .slice ac consts.length cc, m, s]) TProg (0, 0)
instance placeN {w : World} {I : Im} {L L1 E R : Heap} {bp cn cc : Nat} {an ac : Option Addr} {names : List Bs} {consts : List VV} {m s : Value} {x : Bs} {K : KV} [hh : HH w I L] [r : Rem L bp (progO an cn names ac cc consts m s) L1] [so : SO 9 an cn 1 sEnc names E] [sp : Split L1 E R] :
    XStep (XApp Tryz.prog 43 [.pointer (some ⟨bp, 0, none⟩), .string ⟨x.toArray⟩] w K)
      (XChk (names.length ≤ 1000000000) (∀ w' an' cn' E', HH w' I ((bp, progO an' cn' (placeL names x) ac cc consts m s) :: (E' ++ R)) → SO 9 an' cn' 1 sEnc (placeL names x) E' → K (.int .i64 (placeI names x : Nat)) w')) := ⟨fun ⟨hx, k⟩ => by
  have hh' := hh.perm (r.perm.trans (List.Perm.cons _ sp.perm))
  clear hh r sp
  refine .of Tryz.func43 ?_
  repeat' (conv => whnf
           first
             | exact trivial
             | refine XStep.go ?_
             | refine XChk.mk (by first | omega | decide | (simp only [List.length_take, List.length_drop]; omega) | (simp only [List.length_append, List.length_cons, List.length_nil]; omega)) ?_
             | refine XBoth.mk ?_ ?_
             | intro xx
             | (refine XBr.t (by omega) ?_)
             | (refine XBr.f (by omega) ?_)
             | refine XOpt.mk (fun x hc => ?_) (fun hc => ?_)
             | refine XRes.mk (fun x hc => ?_) (fun x hc => ?_)
             | refine XBr.mk (fun hc => ?_) (fun hc => ?_)
             | refine XIf.mk (fun hc => ?_) (fun hc => ?_))
  all_goals conv => whnf
  · rw [(place_neg hc).1, (place_neg hc).2] at k
    exact k _ _ _ _ fin1 ‹SO _ _ _ 1 sEnc (names ++ _) _›
  · rw [(place_pos hc).2] at k
    exact retTo (k _ _ _ _ fin1 so) (by rw [(place_pos hc).1]; rfl)⟩
instance placeV {w : World} {I : Im} {L L1 E R : Heap} {bp cn cc : Nat} {an ac : Option Addr} {names : List Bs} {consts : List VV} {m s : Value} {kd n : Int} {t : Bs} {K : KV} [hh : HH w I L] [r : Rem L bp (progO an cn names ac cc consts m s) L1] [so : SO 54 ac cc 3 vEnc consts E] [sp : Split L1 E R] :
    XStep (XApp Tryz.prog 78 [.pointer (some ⟨bp, 0 + 1, none⟩), .agg (List.toArray [.int .i64 kd, .int .i64 n, .string ⟨t.toArray⟩])] w K)
      (XChk (consts.length ≤ 1000000000) (∀ w' ac' cc' E', HH w' I ((bp, progO an cn names ac' cc' (placeL consts ⟨kd, n, t⟩) m s) :: (E' ++ R)) → SO 54 ac' cc' 3 vEnc (placeL consts ⟨kd, n, t⟩) E' → K (.int .i64 (placeI consts ⟨kd, n, t⟩ : Nat)) w')) := ⟨fun ⟨hx, k⟩ => by
  have hh' := hh.perm (r.perm.trans (List.Perm.cons _ sp.perm))
  clear hh r sp
  refine .of Tryz.func78 ?_
  repeat' (conv => whnf
           first
             | exact trivial
             | refine XStep.go ?_
             | refine XChk.mk (by first | omega | decide | (simp only [List.length_take, List.length_drop]; omega) | (simp only [List.length_append, List.length_cons, List.length_nil]; omega)) ?_
             | refine XBoth.mk ?_ ?_
             | (refine XCode.drawH (id := 1) #[.pur, .pur, .qui, .qui, .lou, .pur] (.one 0 (.one 1 (.one 2 (.one 3 (.one 4 (.one 5 .done)))))) mixed (by kernel_rfl) ?_)
             | (refine XCode.drawH (id := 4) #[.pur, .pur, .pur, .qui, .qui, .lou, .lou, .pur, .lou] (.one 0 (.one 1 (.one 2 (.one 4 (.br 3 (.one 5 (.one 6 (.one 7 (.one 8 .done)))) (.br 5 (.one 3 (.one 6 (.one 7 (.one 8 .done)))) .non)))))) mixed (by kernel_rfl) ?_)
             | intro xx
             | (refine XBr.t (by omega) ?_)
             | (refine XBr.f (by omega) ?_)
             | refine XOpt.mk (fun x hc => ?_) (fun hc => ?_)
             | refine XRes.mk (fun x hc => ?_) (fun x hc => ?_)
             | refine XBr.mk (fun hc => ?_) (fun hc => ?_)
             | refine XIf.mk (fun hc => ?_) (fun hc => ?_))
  all_goals conv => whnf
  all_goals first
  | (rw [(place_neg hc).1, (place_neg hc).2] at k
     exact k _ _ _ _ fin1 ‹SO _ _ _ 3 vEnc (consts ++ _) _›)
  | (rw [(place_pos hc).2] at k
     exact retTo (k _ _ _ _ fin1 so) (by rw [(place_pos hc).1]; rfl))⟩
end Go.Proofs

/- code: the maker's small steps. -/
namespace Go.Proofs
open Go.X
set_option maxHeartbeats 1000000
set_option maxRecDepth 100000
set_option linter.unusedVariables false
set_option linter.unusedSimpArgs false

/-- what is made: variables, constants, and a handler's instructions -/
structure CS where
  names : List Bs
  consts : List VV
  l : List In
  fixed : Nat
  depth : Int
  most : Int
abbrev TMk : TypeId := 123
abbrev TIn : TypeId := 41
abbrev mkO (bp : Nat) (al : Option Addr) (cl : Nat) (l : List In) (fixed : Nat) (depth most : Int) : Obj := .cells (List.toArray [.pointer (some ⟨bp, 0, none⟩), .slice al l.length cl, .int .i64 fixed, .int .i64 depth, .int .i64 most]) TMk (0, 0)
/-- a list's last element's A is so much more -/
def addLast (l : List In) (a : Int) : List In := match l.getLast? with
  | some x => l.set (l.length - 1) { x with a := x.a + a }
  | none => l
def burns (l : List In) (fixed : Nat) : Bool := match l.getLast? with
  | some x => decide (fixed < l.length) && decide (x.op = 0)
  | none => false
def putL (op a : Int) (t : Bs) (l : List In) (fixed : Nat) : List In := if op = 0 ∧ burns l fixed = true then addLast l a else l ++ [⟨op, a, t⟩]
def putI (op : Int) (l : List In) (fixed : Nat) : Nat := if op = 0 ∧ burns l fixed = true then l.length - 1 else l.length
def big : Nat := 1000000000
theorem big_eq : (big : Int) = 1000000000 := rfl
/-- how great all is -/
structure LOk (N : Nat) (l : List In) (fixed : Nat) (depth most : Int) : Prop where
  len : l.length ≤ N
  fx : fixed ≤ N
  d : -(N : Int) ≤ depth ∧ depth ≤ N
  m : -(N : Int) ≤ most ∧ most ≤ N
  a : ∀ x ∈ l, -(N : Int) ≤ x.a ∧ x.a ≤ N
theorem burns_at {l : List In} {fixed k : Nat} {x : In} (hk : k + 1 = l.length) (hx : l[k]? = some x) : burns l fixed = (decide (fixed < l.length) && decide (x.op = 0)) ∧ ∀ a, addLast l a = l.set k { x with a := x.a + a } := by
  have e : l.getLast? = some x := by rw [List.getLast?_eq_getElem?, show l.length - 1 = k by omega]; exact hx
  unfold burns addLast
  rw [e]
  exact ⟨rfl, fun a => by simp only [show l.length - 1 = k by omega]⟩
theorem burns_short {l : List In} {fixed : Nat} (h : ¬ fixed < l.length) : burns l fixed = false := by
  unfold burns
  cases l.getLast? with
  | none => rfl
  | some x => simp [h]
instance {n : Nat} : NatOf ((n : Nat) - 1 : Int) (n - 1) := ⟨by omega⟩
instance putC {w : World} {I : Im} {L L1 E R : Heap} {bm bp cl fixed : Nat} {al : Option Addr} {l : List In} {depth most op a g : Int} {t : Bs} {K : KV} [hh : HH w I L] [r : Rem L bm (mkO bp al cl l fixed depth most) L1] [so : SO TIn al cl 3 inEnc l E] [sp : Split L1 E R] :
    XStep (XApp Tryz.prog 45 [.pointer (some ⟨bm, 0, none⟩), .int .i64 op, .int .i64 a, .string ⟨t.toArray⟩, .int .i64 g] w K)
      (XChk (LOk big l fixed depth most ∧ -(big : Int) ≤ g ∧ g ≤ big ∧ -(big : Int) ≤ a ∧ a ≤ big)
        (∀ w' al' cl' E', HH w' I ((bm, mkO bp al' cl' (putL op a t l fixed) fixed (depth + g) (max most (depth + g))) :: (E' ++ R)) → SO TIn al' cl' 3 inEnc (putL op a t l fixed) E' → K (.int .i64 (putI op l fixed : Nat)) w')) := ⟨fun ⟨⟨hl, hg⟩, k⟩ => by
  have hh' := hh.perm (r.perm.trans (List.Perm.cons _ sp.perm))
  clear hh r sp
  obtain ⟨h1, h2, h3, h4, h5⟩ := hl
  have hb := big_eq
  by_cases h0 : l = []
  · subst h0
    have e : burns [] fixed = false := rfl
    have e0 : ([] : List In).length = 0 := rfl
    have e1 : putL op a t [] fixed = [⟨op, a, t⟩] := by simp [putL, e]
    have e2 : putI op [] fixed = 0 := by simp [putI, e]
    rw [e1, e2] at k
    refine .of Tryz.func45 ?_
    repeat' (conv => whnf
             first
               | exact trivial
               | refine XStep.go ?_
               | refine XChk.mk (by first | omega | decide | (simp only [List.length_take, List.length_drop]; omega) | (simp only [List.length_append, List.length_cons, List.length_nil]; omega)) ?_
               | refine XBoth.mk ?_ ?_
               | (refine XCode.drawH (id := 2) #[.pur, .pur, .pur, .pur, .qui, .pur, .pur, .pur, .qui, .qui, .pur, .pur, .lou] (.one 0 (.one 1 (.one 2 (.one 3 (.one 5 (.one 6 (.one 7 (.one 4 (.one 8 (.one 9 (.one 10 (.one 11 (.one 12 .done))))))))))))) mixed (by kernel_rfl) ?_)
               | intro xx
               | (refine XBr.t (by omega) ?_)
               | (refine XBr.f (by omega) ?_)
               | refine XOpt.mk (fun x hc => ?_) (fun hc => ?_)
               | refine XRes.mk (fun x hc => ?_) (fun x hc => ?_)
               | refine XBr.mk (fun hc => ?_) (fun hc => ?_)
               | refine XIf.mk (fun hc => ?_) (fun hc => ?_))
    all_goals conv => whnf
    all_goals exact k _ _ _ _ fin1 ‹SO _ _ _ 3 inEnc ([] ++ _) _›
  · obtain ⟨b, junk, rfl, h2, ok⟩ := so.open (hh'.perm List.perm_middle.symm) h0
    have hpos : 0 < l.length := List.length_pos_iff.2 h0
    have hx : l[l.length - 1]? = some l[l.length - 1] := List.getElem?_eq_getElem (by omega)
    obtain ⟨hbr, had⟩ := burns_at (fixed := fixed) (by omega) hx
    have : At l (l.length - 1) l[l.length - 1] := ⟨hx⟩
    have h6 := h5 _ (List.getElem_mem (by omega : l.length - 1 < l.length))
    generalize l[l.length - 1] = x at hx hbr had this h6
    clear hh' so
    have so := ok.so (T := TIn)
    refine .of Tryz.func45 ?_
    repeat' (conv => whnf
             first
               | exact trivial
               | refine XStep.go ?_
               | refine XChk.mk (by first | omega | decide | (simp only [List.length_take, List.length_drop]; omega) | (simp only [List.length_append, List.length_cons, List.length_nil]; omega)) ?_
               | refine XBoth.mk ?_ ?_
               | (refine XCode.drawH (id := 2) #[.pur, .pur, .pur, .pur, .qui, .pur, .pur, .pur, .qui, .qui, .pur, .pur, .lou] (.one 0 (.one 1 (.one 2 (.one 3 (.one 5 (.one 6 (.one 7 (.one 4 (.one 8 (.one 9 (.one 10 (.one 11 (.one 12 .done))))))))))))) mixed (by kernel_rfl) ?_)
               | intro xx
               | (refine XBr.t (by omega) ?_)
               | (refine XBr.f (by omega) ?_)
               | refine XOpt.mk (fun x hc => ?_) (fun hc => ?_)
               | refine XRes.mk (fun x hc => ?_) (fun x hc => ?_)
               | refine XBr.mk (fun hc => ?_) (fun hc => ?_)
               | refine XIf.mk (fun hc => ?_) (fun hc => ?_))
    all_goals conv => whnf
    · have e : op = 0 ∧ burns l fixed = true := ⟨‹op = 0›, by rw [hbr]; simp [hc]; omega⟩
      have e1 : putL op a t l fixed = l.set (l.length - 1) ⟨x.op, x.a + a, x.text⟩ := by rw [putL, if_pos e, had]
      have e2 : putI op l fixed = l.length - 1 := if_pos e
      have so2 := (ok.set (y := (⟨x.op, x.a + a, x.text⟩ : In)) rfl (l.length - 1)).so (T := TIn)
      rw [e1, e2] at k
      have k2 := k
      dsimp only [mkO] at k2
      rw [List.length_set] at k2
      exact retTo (k2 _ _ _ _ fin1 so2) (by show Value.int _ _ = _; congr 1; omega)
    all_goals
      have e : ¬ (op = 0 ∧ burns l fixed = true) := by
        rintro ⟨h1, h2⟩
        first
        | exact absurd h1 ‹¬ op = 0›
        | (rw [hbr] at h2
           simp only [Bool.and_eq_true, decide_eq_true_eq] at h2
           first
           | exact absurd h2.2 hc
           | omega)
      have e1 : putL op a t l fixed = l ++ [⟨op, a, t⟩] := if_neg e
      have e2 : putI op l fixed = l.length := if_neg e
      rw [e1, e2] at k
      exact retTo (k _ _ _ _ fin1 ‹SO _ _ _ 3 inEnc (l ++ _) _›) (by simp [retV])⟩
instance hereC {w : World} {I : Im} {L R : Heap} {bm bp cl fixed : Nat} {al : Option Addr} {l : List In} {depth most : Int} {K : KV} [hh : HH w I L] [r : Rem L bm (mkO bp al cl l fixed depth most) R] :
    XStep (XApp Tryz.prog 115 [.pointer (some ⟨bm, 0, none⟩)] w K) (∀ w', HH w' I ((bm, mkO bp al cl l l.length depth most) :: R) → K (.int .i64 l.length) w') := ⟨fun k => by
  have hh' := hh.perm r.perm
  clear hh r
  refine .of Tryz.func115 ?_
  repeat' (conv => whnf
           first
             | exact trivial
             | refine XStep.go ?_
             | refine XChk.mk (by first | omega | decide | (simp only [List.length_take, List.length_drop]; omega) | (simp only [List.length_append, List.length_cons, List.length_nil]; omega)) ?_
             | refine XBoth.mk ?_ ?_
             | intro xx
             | (refine XBr.t (by omega) ?_)
             | (refine XBr.f (by omega) ?_)
             | refine XOpt.mk (fun x hc => ?_) (fun hc => ?_)
             | refine XRes.mk (fun x hc => ?_) (fun x hc => ?_)
             | refine XBr.mk (fun hc => ?_) (fun hc => ?_)
             | refine XIf.mk (fun hc => ?_) (fun hc => ?_))
  conv => whnf
  exact k _ HH.fin⟩
/-- a jump leads to the next instruction -/
def leadL (l : List In) (at_ : Nat) : List In := match l[at_]? with
  | some x => l.set at_ { x with a := (l.length : Int) }
  | none => l
instance leadC {w : World} {I : Im} {L L1 E R : Heap} {bm bp cl fixed j : Nat} {al : Option Addr} {l : List In} {depth most i : Int} {K : KV} [hh : HH w I L] [r : Rem L bm (mkO bp al cl l fixed depth most) L1] [so : SO TIn al cl 3 inEnc l E] [sp : Split L1 E R] [hj : NatOf i j] :
    XStep (XApp Tryz.prog 117 [.pointer (some ⟨bm, 0, none⟩), .int .i64 i] w K)
      (XChk (0 ≤ i ∧ i < l.length ∧ l.length ≤ big) (∀ w' al' cl' E', HH w' I ((bm, mkO bp al' cl' (leadL l j) l.length depth most) :: (E' ++ R)) → SO TIn al' cl' 3 inEnc (leadL l j) E' → K (.tuple #[]) w')) := ⟨fun ⟨⟨hi0, hi, hb⟩, k⟩ => by
  have hh' := hh.perm (r.perm.trans (List.Perm.cons _ sp.perm))
  clear hh r sp
  have he := hj.eq
  obtain rfl : i = (j : Nat) := by omega
  have hjl : j < l.length := by omega
  have h0 : l ≠ [] := by rintro rfl; simp at hjl
  obtain ⟨b, junk, rfl, h2, ok⟩ := so.open (hh'.perm List.perm_middle.symm) h0
  have hx : l[j]? = some l[j] := List.getElem?_eq_getElem hjl
  have : At l j l[j] := ⟨hx⟩
  have e1 : leadL l j = l.set j { l[j] with a := (l.length : Int) } := by unfold leadL; rw [hx]
  generalize l[j] = x at hx this e1
  clear hh' so
  refine .of Tryz.func117 ?_
  repeat' (conv => whnf
           first
             | exact trivial
             | refine XStep.go ?_
             | refine XChk.mk (by first | omega | decide | (simp only [List.length_take, List.length_drop]; omega) | (simp only [List.length_append, List.length_cons, List.length_nil]; omega)) ?_
             | refine XBoth.mk ?_ ?_
             | (refine XCode.drawH (id := 0) #[.pur, .pur, .pur, .qui, .pur, .pur, .lou, .qui, .pur, .lou] (.one 0 (.one 1 (.one 2 (.one 4 (.one 5 (.br 3 (.one 6 (.one 7 (.one 8 (.one 9 .done)))) (.br 6 (.one 3 (.one 7 (.one 8 (.one 9 .done)))) .non))))))) mixed (by kernel_rfl) ?_)
             | intro xx
             | (refine XBr.t (by omega) ?_)
             | (refine XBr.f (by omega) ?_)
             | refine XOpt.mk (fun x hc => ?_) (fun hc => ?_)
             | refine XRes.mk (fun x hc => ?_) (fun x hc => ?_)
             | refine XBr.mk (fun hc => ?_) (fun hc => ?_)
             | refine XIf.mk (fun hc => ?_) (fun hc => ?_))
  all_goals conv => whnf
  all_goals
    have so2 := (ok.set (y := (⟨x.op, (l.length : Int), x.text⟩ : In)) rfl j).so (T := TIn)
    have k2 := k
    rw [e1] at k2
    dsimp only [mkO] at k2
    rw [List.length_set] at k2
    exact k2 _ _ _ _ fin1 so2⟩
end Go.Proofs

/- code: an expression's instructions, as a function. -/
namespace Go.Proofs
open Go.X
set_option maxHeartbeats 1000000
set_option linter.unusedVariables false
set_option linter.unusedSimpArgs false

def putS (op a : Int) (t : Bs) (g : Int) (s : CS) : CS := { s with l := putL op a t s.l s.fixed, depth := s.depth + g, most := max s.most (s.depth + g) }
def nameP (t : Bs) (s : CS) : CS := { s with names := placeL s.names t }
def constP (v : VV) (s : CS) : CS := { s with consts := placeL s.consts v }
/-- what comes behind an expression's parts -/
def exprEnd (n : Nd) (s : CS) : CS :=
  if n.op = 11 then putS 2 (placeI s.names n.text : Nat) [] 1 (nameP n.text s)
  else if n.op = 13 then putS 5 0 n.text (-1) s
  else if n.op = 14 then putS 6 0 n.text 0 s
  else if n.op = 12 then putS 7 n.kids.length n.text (1 - n.kids.length) s
  else putS 1 (placeI s.consts (constF n.op n.text n.num).1 : Nat) [] 1 (constP (constF n.op n.text n.num).1 s)
mutual
def exprS : Nd → CS → CS
  | .mk op t num kids, s => exprEnd (.mk op t num kids) (exprsS kids (putS 0 1 [] 0 s))
def exprsS : List Nd → CS → CS
  | [], s => s
  | k :: r, s => exprsS r (exprS k s)
end
mutual
/-- how much an expression brings at most -/
def wgt : Nd → Nat
  | .mk _ _ _ kids => 3 + wgts kids
def wgts : List Nd → Nat
  | [] => 0
  | k :: r => 1 + wgt k + wgts r
end
theorem exprS_eq (n : Nd) (s : CS) : exprS n s = exprEnd n (exprsS n.kids (putS 0 1 [] 0 s)) := by cases n; rw [exprS]; rfl
theorem wgt_eq (n : Nd) : wgt n = 3 + wgts n.kids := by cases n; rw [wgt]; rfl
theorem exprsS_snoc (l : List Nd) (k : Nd) (s : CS) : exprsS (l ++ [k]) s = exprS k (exprsS l s) := by
  induction l generalizing s with
  | nil => simp [exprsS]
  | cons x l ih => simp only [List.cons_append, exprsS, ih]
theorem wgts_snoc (l : List Nd) (k : Nd) : wgts (l ++ [k]) = wgts l + 1 + wgt k := by
  induction l with
  | nil => simp [wgts]
  | cons x l ih => simp only [List.cons_append, wgts, ih]; omega
theorem wgts_len (l : List Nd) : l.length ≤ wgts l := by
  induction l with
  | nil => simp
  | cons x l ih => simp only [wgts, List.length_cons]; omega
structure CSok (N : Nat) (s : CS) : Prop where
  l : LOk N s.l s.fixed s.depth s.most
  n : s.names.length ≤ N
  c : s.consts.length ≤ N
theorem LOk.mono {N M : Nat} {l : List In} {f : Nat} {d m : Int} (h : LOk N l f d m) (hm : N ≤ M) : LOk M l f d m :=
  ⟨Nat.le_trans h.len hm, Nat.le_trans h.fx hm, by have := h.d; omega, by have := h.m; omega, fun x hx => by have := h.a x hx; omega⟩
theorem CSok.mono {N M : Nat} {s : CS} (h : CSok N s) (hm : N ≤ M) : CSok M s := ⟨h.l.mono hm, Nat.le_trans h.n hm, Nat.le_trans h.c hm⟩
theorem addLast_mem {l : List In} {a : Int} {x : In} (h : x ∈ addLast l a) : x ∈ l ∨ ∃ y ∈ l, x.a = y.a + a := by
  unfold addLast at h
  split at h
  · rename_i y hy
    rcases List.mem_or_eq_of_mem_set h with h | rfl
    · exact .inl h
    · exact .inr ⟨y, List.mem_of_getLast? hy, rfl⟩
  · exact .inl h
theorem addLast_len (l : List In) (a : Int) : (addLast l a).length = l.length := by
  unfold addLast; split <;> simp
theorem putS_ok {N M : Nat} {s : CS} {op a g : Int} {t : Bs} (h : CSok N s) (hM : 1 ≤ M) (ha : -((N : Int) + M) ≤ a ∧ a ≤ (N : Int) + M) (h0 : op = 0 → -(M : Int) ≤ a ∧ a ≤ M) (hg : -(M : Int) ≤ g ∧ g ≤ M) : CSok (N + M) (putS op a t g s) := by
  obtain ⟨⟨h1, h2, h3, h4, h5⟩, h6, h7⟩ := h
  refine ⟨⟨?_, by show s.fixed ≤ _; omega, by show -_ ≤ s.depth + g ∧ s.depth + g ≤ _; omega, by show -_ ≤ max s.most (s.depth + g) ∧ max s.most (s.depth + g) ≤ _; omega, ?_⟩, by show s.names.length ≤ _; omega, by show s.consts.length ≤ _; omega⟩
  · show (putL op a t s.l s.fixed).length ≤ _
    unfold putL; split
    · rw [addLast_len]; omega
    · simp; omega
  · show ∀ x ∈ putL op a t s.l s.fixed, _
    unfold putL
    intro x hx
    split at hx
    · rename_i hb
      have := h0 hb.1
      rcases addLast_mem hx with hx | ⟨y, hy, e⟩
      · have := h5 x hx; omega
      · have := h5 y hy; omega
    · rcases List.mem_append.1 hx with hx | hx
      · have := h5 x hx; omega
      · rw [List.mem_singleton.1 hx]; simpa using ha
theorem placeI_le {α : Type} [DecidableEq α] (l : List α) (x : α) : placeI l x ≤ l.length := List.findIdx_le_length
theorem placeL_len {α : Type} [DecidableEq α] (l : List α) (x : α) : (placeL l x).length ≤ l.length + 1 := by unfold placeL; split <;> simp
theorem nameP_ok {N : Nat} {s : CS} (h : CSok N s) (t : Bs) : CSok (N + 1) (nameP t s) := ⟨h.l.mono (by omega), by have := placeL_len s.names t; have := h.n; show (placeL s.names t).length ≤ _; omega, by have := h.c; show s.consts.length ≤ _; omega⟩
theorem constP_ok {N : Nat} {s : CS} (h : CSok N s) (v : VV) : CSok (N + 1) (constP v s) := ⟨h.l.mono (by omega), by have := h.n; show s.names.length ≤ _; omega, by have := placeL_len s.consts v; have := h.c; show (placeL s.consts v).length ≤ _; omega⟩
theorem exprEnd_ok {N : Nat} {n : Nd} {s : CS} (h : CSok N s) : CSok (N + 2 + n.kids.length) (exprEnd n s) := by
  have h1 := placeI_le s.names n.text
  have h2 := placeI_le s.consts (constF n.op n.text n.num).1
  have h3 := h.n
  have h4 := h.c
  unfold exprEnd
  split
  · exact (putS_ok (nameP_ok h n.text) (M := 1) (by omega) (by omega) (by omega) (by omega)).mono (by omega)
  · split
    · exact (putS_ok h (M := 1) (by omega) (by omega) (by omega) (by omega)).mono (by omega)
    · split
      · exact (putS_ok h (M := 1) (by omega) (by omega) (by omega) (by omega)).mono (by omega)
      · split
        · exact (putS_ok h (M := n.kids.length + 1) (by omega) (by omega) (by omega) (by omega)).mono (by omega)
        · exact (putS_ok (constP_ok h _) (M := 1) (by omega) (by omega) (by omega) (by omega)).mono (by omega)
theorem burn_ok {N : Nat} {s : CS} (h : CSok N s) : CSok (N + 1) (putS 0 1 [] 0 s) := putS_ok h (M := 1) (by omega) (by omega) (by omega) (by omega)
mutual
theorem exprS_ok : ∀ (n : Nd) {N : Nat} {s : CS}, CSok N s → CSok (N + wgt n) (exprS n s)
  | .mk op t num kids, N, s, h => by
    rw [exprS, wgt]
    have h1 := exprsS_ok kids (burn_ok h)
    exact (exprEnd_ok (n := .mk op t num kids) h1).mono (by have := wgts_len kids; show N + 1 + wgts kids - kids.length + 2 + kids.length ≤ _; omega)
theorem exprsS_ok : ∀ (l : List Nd) {N : Nat} {s : CS}, CSok N s → CSok (N + wgts l - l.length) (exprsS l s)
  | [], N, s, h => by simpa [exprsS, wgts] using h
  | k :: r, N, s, h => by
    rw [exprsS, wgts]
    have h1 := exprsS_ok r (exprS_ok k h)
    have := wgts_len r
    refine h1.mono ?_
    simp only [List.length_cons]; omega
end
end Go.Proofs

/- code: expressions walked. -/
namespace Go.Proofs
open Go.X
set_option maxHeartbeats 2000000
set_option maxRecDepth 100000
set_option linter.unusedVariables false
set_option linter.unusedSimpArgs false

/-- the maker and its program in memory -/
class CAt (w : World) (bm : Nat) (bp : outParam Nat) (s : outParam CS) (m sv : outParam Value) (I : outParam Im) (R : outParam Heap) : Prop where
  ex : ∃ al cl El an cn En ac cc Ec, HH w I ((bm, mkO bp al cl s.l s.fixed s.depth s.most) :: (bp, progO an cn s.names ac cc s.consts m sv) :: (El ++ (En ++ (Ec ++ R)))) ∧
    SO TIn al cl 3 inEnc s.l El ∧ SO 9 an cn 1 sEnc s.names En ∧ SO 54 ac cc 3 vEnc s.consts Ec
instance CAt.of {w : World} {I : Im} {L L1 L2 L3 L4 R El En Ec : Heap} {bm bp cl cn cc fixed : Nat} {al an ac : Option Addr} {l : List In} {depth most : Int} {names : List Bs} {consts : List VV} {m sv : Value}
    [hh : HH w I L] [r1 : Rem L bm (mkO bp al cl l fixed depth most) L1] [r2 : Rem L1 bp (progO an cn names ac cc consts m sv) L2] [so1 : SO TIn al cl 3 inEnc l El] [sp1 : Split L2 El L3]
    [so2 : SO 9 an cn 1 sEnc names En] [sp2 : Split L3 En L4] [so3 : SO 54 ac cc 3 vEnc consts Ec] [sp3 : Split L4 Ec R] : CAt w bm bp ⟨names, consts, l, fixed, depth, most⟩ m sv I R :=
  ⟨al, cl, El, an, cn, En, ac, cc, Ec, hh.perm (r1.perm.trans (List.Perm.cons _ (r2.perm.trans (List.Perm.cons _ (sp1.perm.trans (List.Perm.append_left El (sp2.perm.trans (List.Perm.append_left En sp3.perm)))))))), so1, so2, so3⟩
structure CPost (bm bp : Nat) (s : CS) (m sv : Value) (I : Im) (R : Heap) (K : KV) : Prop where
  go : ∀ w' al cl El an cn En ac cc Ec, HH w' I ((bm, mkO bp al cl s.l s.fixed s.depth s.most) :: (bp, progO an cn s.names ac cc s.consts m sv) :: (El ++ (En ++ (Ec ++ R)))) →
    SO TIn al cl 3 inEnc s.l El → SO 9 an cn 1 sEnc s.names En → SO 54 ac cc 3 vEnc s.consts Ec → K (.tuple #[]) w'
theorem CAt.sub {w : World} {bm bp : Nat} {s : CS} {m sv : Value} {I : Im} {R R' : Heap} (c : CAt w bm bp s m sv I R') [hs : SubL R R'] : CAt w bm bp s m sv I R := by
  obtain ⟨al, cl, El, an, cn, En, ac, cc, Ec, h, s1, s2, s3⟩ := c.ex
  refine ⟨_, _, _, _, _, _, _, _, _, h.sub (fun x hx => ?_) ?_, s1, s2, s3⟩
  · have := hs.sub.subset
    simp only [List.mem_cons, List.mem_append] at hx ⊢
    rcases hx with hx | hx | hx | hx | hx | hx
    · exact .inl hx
    · exact .inr (.inl hx)
    · exact .inr (.inr (.inl hx))
    · exact .inr (.inr (.inr (.inl hx)))
    · exact .inr (.inr (.inr (.inr (.inl hx))))
    · exact .inr (.inr (.inr (.inr (.inr (this hx)))))
  · have hsub : ((bm, mkO bp al cl s.l s.fixed s.depth s.most) :: (bp, progO an cn s.names ac cc s.consts m sv) :: (El ++ (En ++ (Ec ++ R)))).Sublist ((bm, mkO bp al cl s.l s.fixed s.depth s.most) :: (bp, progO an cn s.names ac cc s.consts m sv) :: (El ++ (En ++ (Ec ++ R')))) :=
      (((List.append_sublist_append_left El).2 ((List.append_sublist_append_left En).2 ((List.append_sublist_append_left Ec).2 hs.sub))).cons_cons _).cons_cons _
    exact (hsub.map (·.1)).nodup h.nodup
theorem CPost.fin {w : World} {bm bp : Nat} {s : CS} {m sv : Value} {I : Im} {R R' : Heap} {K : KV} (k : CPost bm bp s m sv I R K) (c : CAt w bm bp s m sv I R') [hs : SubL R R'] : K (.tuple #[]) w := by
  obtain ⟨al, cl, El, an, cn, En, ac, cc, Ec, h, s1, s2, s3⟩ := (c.sub (R := R)).ex
  exact k.go _ _ _ _ _ _ _ _ _ _ h s1 s2 s3
abbrev nodeA (n : Nd) (a : Option Addr) (c : Nat) : Value := .agg (List.toArray [.int .i64 n.op, .string ⟨n.text.toArray⟩, .int .i64 n.num, .slice a n.kids.length c])
theorem wgts_take (l : List Nd) (k : Nat) : wgts (l.take k) ≤ wgts l := by
  induction l generalizing k with
  | nil => simp
  | cons x l ih => cases k with
    | zero => simp [wgts]
    | succ k => simp only [List.take_succ_cons, wgts]; have := ih k; omega
class PEX (m : outParam Nat) : Prop where
  ex : ∀ (n : Nd) (N : Nat) w bm bp s mv sv I R a c K, wgt n < m → CAt w bm bp s mv sv I R → KidsC I a c n.kids → CSok N s → N + wgt n ≤ big → CPost bm bp (exprS n s) mv sv I R K →
    XApp Tryz.prog 116 [.pointer (some ⟨bm, 0, none⟩), nodeA n a c] w K
instance exprIH {m bm bp : Nat} {n : Nd} {w : World} {s : CS} {mv sv : Value} {I : Im} {R : Heap} {a : Option Addr} {c : Nat} {K : KV} [ih : PEX m] [ca : CAt w bm bp s mv sv I R] [kc : KidsC I a c n.kids] :
    XStep (XApp Tryz.prog 116 [.pointer (some ⟨bm, 0, none⟩), .agg (List.toArray [.int .i64 n.op, .string ⟨n.text.toArray⟩, .int .i64 n.num, .slice a n.kids.length c])] w K)
      (XChk (wgt n < m ∧ ∃ N, CSok N s ∧ N + wgt n ≤ big) (CPost bm bp (exprS n s) mv sv I R K)) := ⟨fun ⟨⟨hm, N, h1, h2⟩, k⟩ => ih.ex n N w bm bp s mv sv I R a c K hm ca kc h1 h2 k⟩
theorem exprStep {m : Nat} [ih : PEX m] (n : Nd) (N : Nat) (w : World) (bm bp : Nat) (s : CS) (mv sv : Value) (I : Im) (R : Heap) (a : Option Addr) (c : Nat) (K : KV) (hm : wgt n ≤ m) (ca : CAt w bm bp s mv sv I R) (kc : KidsC I a c n.kids) (hok : CSok N s) (hN : N + wgt n ≤ big)
    (k : CPost bm bp (exprS n s) mv sv I R K) : XApp Tryz.prog 116 [.pointer (some ⟨bm, 0, none⟩), nodeA n a c] w K := by
  obtain ⟨al, cl, El, an, cn, En, ac, cc, Ec, h1, s1, s2, s3⟩ := ca.ex
  clear ca
  obtain ⟨no, nt, ni, nk⟩ := n
  obtain ⟨kp⟩ := kc
  cases kp with
  | mk _ _ xs hs hcs hks =>
  have ek : (Nd.mk no nt ni (xs.map fun x => x.n)).kids.length = xs.length := by simp [Nd.kids]
  dsimp only [nodeA, Nd.op, Nd.text, Nd.num]
  rw [ek]
  rw [wgt_eq] at hN hm
  have hok1 := burn_ok hok
  have hL := hok.l.mono (show N ≤ big by omega)
  have hb := big_eq
  refine .of Tryz.func116 ?_
  have kn : (Nd.mk no nt ni (xs.map fun x => x.n)).kids = xs.map fun x => x.n := rfl
  rw [kn] at hN hm
  have hwl := wgts_len (xs.map fun x => x.n)
  rw [List.length_map] at hwl
  repeat' (conv => whnf
           first
             | exact trivial
             | refine XStep.go ?_
             | refine XChk.mk (by first | omega | decide | (simp only [List.length_take, List.length_drop]; omega) | (simp only [List.length_append, List.length_cons, List.length_nil]; omega)) ?_
             | refine XBoth.mk ?_ ?_
             | (refine XChk.mk ⟨hL, by omega⟩ ?_)
             | (refine XCode.drawH (id := 11) #[.pur, .pur, .pur, .pur, .qui, .pur, .pur, .pur, .qui, .lou, .lou] (.one 0 (.one 1 (.one 2 (.one 3 (.one 7 (.one 4 (.one 5 (.one 6 (.one 8 (.one 9 (.one 10 .done))))))))))) mixed (by kernel_rfl) ?_)
             | (refine XCode.drawH (id := 9) #[.pur, .pur, .pur, .pur, .qui, .pur, .pur, .qui, .lou, .lou] (.one 0 (.one 1 (.one 2 (.one 3 (.one 4 (.one 5 (.one 6 (.one 7 (.one 8 (.one 9 .done)))))))))) mixed (by kernel_rfl) ?_)
             | intro xx
             | (refine XBr.t (by omega) ?_)
             | (refine XBr.f (by omega) ?_)
             | refine XOpt.mk (fun x hc => ?_) (fun hc => ?_)
             | refine XRes.mk (fun x hc => ?_) (fun x hc => ?_)
             | refine XBr.mk (fun hc => ?_) (fun hc => ?_)
             | refine XIf.mk (fun hc => ?_) (fun hc => ?_))
  rename_i b3 _ _ _ _ _ _ _
  refine XCode.loopG (fun i : Nat => [some (.pointer (some ⟨bm, 0, none⟩)), none, none, some (.pointer (some ⟨b3, 0, none⟩)), none, none, none, none, none, none, none, some (.slice a xs.length c), some (.int .i64 xs.length), some (.int .i64 i), none, none, none, none, none, none, none, none, none, none, none, none, none, none, none, none, none, none, none, none, none, none, none, none, none, none, none, none, none, none, none, none, none, none, none, none, none, none, none, none, none, none, none, none, none, none, none, none, none, none, none, none, none, none, none, none, none, none, none, none, none, none])
    (fun i w => CAt w bm bp (exprsS ((xs.take i).map fun x => x.n) (putS 0 1 [] 0 s)) mv sv I ((b3, .cells (List.toArray [.int .i64 no, .string ⟨nt.toArray⟩, .int .i64 ni, .slice a xs.length c]) 63 (0, 0)) :: R) ∧ i ≤ xs.length)
    (fun i => xs.length - i) 0 ?_ ⟨CAt.of, by omega⟩ ?_
  · simp [fits]
  · rintro i w ⟨ca, hi⟩
    obtain ⟨al, cl, El, an, cn, En, ac, cc, Ec, h1, s1, s2, s3⟩ := ca.ex
    clear ca
    by_cases hlt : i < xs.length
    · have hx : xs[i]? = some xs[i] := List.getElem?_eq_getElem hlt
      have hAt : At xs i xs[i] := ⟨hx⟩
      have e1 : (xs.take (i + 1)).map (fun x => x.n) = ((xs.take i).map fun x => x.n) ++ [xs[i].n] := by rw [List.take_succ_eq_append_getElem hlt, List.map_append]; rfl
      have hw := wgts_take (xs.map fun x => x.n) (i + 1)
      rw [← List.map_take, e1, wgts_snoc] at hw
      have hoki := exprsS_ok ((xs.take i).map fun x => x.n) hok1
      have hkx : KidsC I xs[i].a xs[i].c xs[i].n.kids := ⟨hks _ (List.getElem_mem hlt)⟩
      have e2 := exprsS_snoc ((xs.take i).map fun x => x.n) xs[i].n (putS 0 1 [] 0 s)
      rw [← e1] at e2
      have hwi := wgts_len ((xs.take i).map fun x => x.n)
      generalize xs[i] = x at *
      generalize exprsS ((xs.take i).map fun x => x.n) (putS 0 1 [] 0 s) = si at *
      repeat' (conv => whnf
               first
                 | exact trivial
                 | refine XStep.go ?_
                 | refine XChk.mk (by first | omega | decide | (simp only [List.length_take, List.length_drop]; omega) | (simp only [List.length_append, List.length_cons, List.length_nil]; omega)) ?_
                 | refine XBoth.mk ?_ ?_
                 | (refine XChk.mk ⟨by omega, _, hoki, by omega⟩ ?_)
                 | (refine CPost.mk fun w2 al2 cl2 El2 an2 cn2 En2 ac2 cc2 Ec2 hh2 s12 s22 s32 => ?_)
                 | (refine XCode.drawH (id := 11) #[.pur, .pur, .pur, .pur, .qui, .pur, .pur, .pur, .qui, .lou, .lou] (.one 0 (.one 1 (.one 2 (.one 3 (.one 7 (.one 4 (.one 5 (.one 6 (.one 8 (.one 9 (.one 10 .done))))))))))) mixed (by kernel_rfl) ?_)
                 | (refine XCode.drawH (id := 9) #[.pur, .pur, .pur, .pur, .qui, .pur, .pur, .qui, .lou, .lou] (.one 0 (.one 1 (.one 2 (.one 3 (.one 4 (.one 5 (.one 6 (.one 7 (.one 8 (.one 9 .done)))))))))) mixed (by kernel_rfl) ?_)
                 | intro xx
                 | (refine XBr.t (by omega) ?_)
                 | (refine XBr.f (by omega) ?_)
                 | refine XOpt.mk (fun x hc => ?_) (fun hc => ?_)
                 | refine XRes.mk (fun x hc => ?_) (fun x hc => ?_)
                 | refine XBr.mk (fun hc => ?_) (fun hc => ?_)
                 | refine XIf.mk (fun hc => ?_) (fun hc => ?_))
      conv => whnf
      refine ⟨i + 1, rfl, by simp [fits], ⟨?_, by omega⟩, by omega⟩
      rw [e2]
      exact CAt.sub CAt.of
    · have e0 : xs.take i = xs := List.take_of_length_le (by omega)
      rw [e0] at h1 s1 s2 s3
      have hoki := exprsS_ok (xs.map fun x => x.n) hok1
      have e2 := exprS_eq (.mk no nt ni (xs.map fun x => x.n)) s
      rw [kn] at e2
      rw [e2] at k
      generalize exprsS (xs.map fun x => x.n) (putS 0 1 [] 0 s) = si at *
      have hL2 := hoki.l.mono (show _ ≤ big by omega)
      have hn2 := hoki.n
      have hc2 := hoki.c
      rw [List.length_map] at hn2 hc2
      clear hL hok hok1
      have hp1 := placeI_le si.names nt
      have hp2 : placeI si.consts ⟨(constF no nt ni).1.kind, (constF no nt ni).1.num, (constF no nt ni).1.text⟩ ≤ si.consts.length := placeI_le _ _
      repeat' (conv => whnf
               first
                 | exact trivial
                 | refine XStep.go ?_
                 | refine XChk.mk (by first | omega | decide | (simp only [List.length_take, List.length_drop]; omega) | (simp only [List.length_append, List.length_cons, List.length_nil]; omega)) ?_
                 | refine XBoth.mk ?_ ?_
                 | (refine XChk.mk ⟨hL2, by omega⟩ ?_)
                 | (refine XCode.drawH (id := 11) #[.pur, .pur, .pur, .pur, .qui, .pur, .pur, .pur, .qui, .lou, .lou] (.one 0 (.one 1 (.one 2 (.one 3 (.one 7 (.one 4 (.one 5 (.one 6 (.one 8 (.one 9 (.one 10 .done))))))))))) mixed (by kernel_rfl) ?_)
                 | (refine XCode.drawH (id := 9) #[.pur, .pur, .pur, .pur, .qui, .pur, .pur, .qui, .lou, .lou] (.one 0 (.one 1 (.one 2 (.one 3 (.one 4 (.one 5 (.one 6 (.one 7 (.one 8 (.one 9 .done)))))))))) mixed (by kernel_rfl) ?_)
                 | intro xx
                 | (refine XBr.t (by omega) ?_)
                 | (refine XBr.f (by omega) ?_)
                 | refine XOpt.mk (fun x hc => ?_) (fun hc => ?_)
                 | refine XRes.mk (fun x hc => ?_) (fun x hc => ?_)
                 | refine XBr.mk (fun hc => ?_) (fun hc => ?_)
                 | refine XIf.mk (fun hc => ?_) (fun hc => ?_))
      all_goals try conv => whnf
      · have e3 : exprEnd (.mk no nt ni (xs.map fun x => x.n)) si = putS 2 (placeI si.names nt : Nat) [] 1 (nameP nt si) := if_pos hc
        rw [e3] at k
        exact k.fin CAt.of
      · have e3 : exprEnd (.mk no nt ni (xs.map fun x => x.n)) si = putS 5 0 nt (-1) si := (if_neg ‹¬ no = 11›).trans (if_pos hc)
        rw [e3] at k
        exact k.fin CAt.of
      · have e3 : exprEnd (.mk no nt ni (xs.map fun x => x.n)) si = putS 6 0 nt 0 si := (if_neg ‹¬ no = 11›).trans ((if_neg ‹¬ no = 13›).trans (if_pos hc))
        rw [e3] at k
        exact k.fin CAt.of
      · have e3 : exprEnd (.mk no nt ni (xs.map fun x => x.n)) si = putS 7 xs.length nt (1 - xs.length) si := (if_neg ‹¬ no = 11›).trans ((if_neg ‹¬ no = 13›).trans ((if_neg ‹¬ no = 14›).trans ((if_pos hc).trans (by simp [Nd.kids, Nd.text]))))
        rw [e3] at k
        exact k.fin CAt.of
      · have e3 : exprEnd (.mk no nt ni (xs.map fun x => x.n)) si = putS 1 (placeI si.consts (constF no nt ni).1 : Nat) [] 1 (constP (constF no nt ni).1 si) := (if_neg ‹¬ no = 11›).trans ((if_neg ‹¬ no = 13›).trans ((if_neg ‹¬ no = 14›).trans (if_neg hc)))
        rw [e3] at k
        exact k.fin CAt.of
theorem pexAll : ∀ m, PEX m
  | 0 => ⟨fun _ _ _ _ _ _ _ _ _ _ _ _ _ h => absurd h (Nat.not_lt_zero _)⟩
  | m + 1 =>
    have ih := pexAll m
    ⟨fun n N w bm bp s mv sv I R a c K hm ca kc hok hN k => exprStep n N w bm bp s mv sv I R a c K (Nat.lt_succ_iff.1 hm) ca kc hok hN k⟩
end Go.Proofs

/- code: statements' instructions, as a function. -/
namespace Go.Proofs
open Go.X
set_option maxHeartbeats 1000000
set_option linter.unusedVariables false
set_option linter.unusedSimpArgs false

instance : PEX 2000000000 := pexAll _
def hereS (s : CS) : CS := { s with fixed := s.l.length }
def leadS (i : Nat) (s : CS) : CS := { s with l := leadL s.l i, fixed := s.l.length }
def headS (op : Int) (s : CS) : CS := putS 0 1 [] 0 (if op = 6 then hereS s else s)
mutual
def stmtS : Nd → CS → CS
  | .mk op t _ [], s => if op = 7 then putS 10 0 [] 0 (headS op s) else headS op s
  | .mk op t _ [e], s => if op = 3 then putS 3 (placeI (exprS e (headS op s)).names t : Nat) [] (-1) (nameP t (exprS e (headS op s))) else putS 4 0 [] (-1) (exprS e (headS op s))
  | .mk op t _ [e, b], s => if op = 5 then leadS (exprS e (headS op s)).l.length (blockS b (putS 9 0 [] (-1) (exprS e (headS op s))))
      else leadS (exprS e (headS op s)).l.length (putS 8 s.l.length [] 0 (blockS b (putS 9 0 [] (-1) (exprS e (headS op s)))))
  | .mk op t _ (e :: b :: c :: _), s => leadS (blockS b (putS 9 0 [] (-1) (exprS e (headS op s)))).l.length
      (blockS c (leadS (exprS e (headS op s)).l.length (putS 8 0 [] 0 (blockS b (putS 9 0 [] (-1) (exprS e (headS op s)))))))
def blockS : Nd → CS → CS
  | .mk _ _ _ kids, s => stmtsS kids s
def stmtsS : List Nd → CS → CS
  | [], s => s
  | k :: r, s => stmtsS r (stmtS k s)
end
mutual
def wfS : Nd → Prop
  | .mk op _ _ [] => op = 7
  | .mk op _ _ [_] => op = 3 ∨ op = 4
  | .mk op _ _ [_, b] => (op = 5 ∨ op = 6) ∧ wfB b
  | .mk op _ _ [_, b, c] => op = 5 ∧ wfB b ∧ wfB c
  | .mk _ _ _ (_ :: _ :: _ :: _ :: _) => False
def wfB : Nd → Prop
  | .mk _ _ _ kids => wfBs kids
def wfBs : List Nd → Prop
  | [] => True
  | k :: r => wfS k ∧ wfBs r
end
mutual
def sw : Nd → Nat
  | .mk _ _ _ [] => 6
  | .mk _ _ _ [e] => 6 + wgt e
  | .mk _ _ _ [e, b] => 6 + wgt e + bw b
  | .mk _ _ _ (e :: b :: c :: _) => 6 + wgt e + bw b + bw c
def bw : Nd → Nat
  | .mk _ _ _ kids => bws kids
def bws : List Nd → Nat
  | [] => 0
  | k :: r => 1 + sw k + bws r
end
theorem blockS_eq (n : Nd) (s : CS) : blockS n s = stmtsS n.kids s := by cases n; rw [blockS]; rfl
theorem bw_eq (n : Nd) : bw n = bws n.kids := by cases n; rw [bw]; rfl
theorem wfB_eq (n : Nd) : wfB n = wfBs n.kids := by cases n; rw [wfB]; rfl
theorem stmtsS_snoc (l : List Nd) (k : Nd) (s : CS) : stmtsS (l ++ [k]) s = stmtS k (stmtsS l s) := by
  induction l generalizing s with
  | nil => simp [stmtsS]
  | cons x l ih => simp only [List.cons_append, stmtsS, ih]
theorem bws_snoc (l : List Nd) (k : Nd) : bws (l ++ [k]) = bws l + 1 + sw k := by
  induction l with
  | nil => simp [bws]
  | cons x l ih => simp only [List.cons_append, bws, ih]; omega
theorem bws_take (l : List Nd) (k : Nat) : bws (l.take k) ≤ bws l := by
  induction l generalizing k with
  | nil => simp
  | cons x l ih => cases k with
    | zero => simp [bws]
    | succ k => simp only [List.take_succ_cons, bws]; have := ih k; omega
theorem bws_len (l : List Nd) : l.length ≤ bws l := by
  induction l with
  | nil => simp
  | cons x l ih => simp only [bws, List.length_cons]; omega
theorem wfBs_mem {l : List Nd} (h : wfBs l) {x : Nd} (hx : x ∈ l) : wfS x := by
  induction l with
  | nil => simp at hx
  | cons y l ih =>
    rw [wfBs] at h
    rcases List.mem_cons.1 hx with rfl | hx
    · exact h.1
    · exact ih h.2 hx
theorem leadL_len (l : List In) (i : Nat) : (leadL l i).length = l.length := by unfold leadL; split <;> simp
theorem hereS_ok {N : Nat} {s : CS} (h : CSok N s) : CSok N (hereS s) := ⟨⟨h.l.len, h.l.len, h.l.d, h.l.m, h.l.a⟩, h.n, h.c⟩
theorem leadS_ok {N : Nat} {s : CS} (h : CSok N s) (i : Nat) : CSok N (leadS i s) := by
  refine ⟨⟨by show (leadL s.l i).length ≤ _; rw [leadL_len]; exact h.l.len, h.l.len, h.l.d, h.l.m, ?_⟩, h.n, h.c⟩
  show ∀ x ∈ leadL s.l i, _
  unfold leadL
  intro x hx
  split at hx
  · rcases List.mem_or_eq_of_mem_set hx with hx | rfl
    · exact h.l.a x hx
    · have := h.l.len; show -_ ≤ (s.l.length : Int) ∧ (s.l.length : Int) ≤ _; omega
  · exact h.l.a x hx
theorem headS_ok {N : Nat} {s : CS} (h : CSok N s) (op : Int) : CSok (N + 1) (headS op s) := by
  unfold headS; split
  · exact burn_ok (hereS_ok h)
  · exact burn_ok h
theorem put0_ok {N : Nat} {s : CS} (h : CSok N s) {op g : Int} {t : Bs} (hg : -1 ≤ g ∧ g ≤ 1) : CSok (N + 1) (putS op 0 t g s) := putS_ok h (M := 1) (by omega) (by omega) (by omega) (by omega)
theorem putA_ok {N : Nat} {s : CS} (h : CSok N s) {op g : Int} {t : Bs} {a : Nat} (ho : op ≠ 0) (ha : a ≤ N) (hg : -1 ≤ g ∧ g ≤ 1) : CSok (N + 1) (putS op a t g s) := putS_ok h (M := 1) (by omega) (by omega) (fun h => absurd h ho) (by omega)
mutual
theorem stmtS_ok : ∀ (n : Nd) {N : Nat} {s : CS}, CSok N s → CSok (N + sw n) (stmtS n s)
  | .mk op t _ [], N, s, h => by
    rw [stmtS, sw]
    split
    · exact (put0_ok (headS_ok h op) (by omega)).mono (by omega)
    · exact (headS_ok h op).mono (by omega)
  | .mk op t _ [e], N, s, h => by
    rw [stmtS, sw]
    have h1 := exprS_ok e (headS_ok h op)
    split
    · have := placeI_le (exprS e (headS op s)).names t
      have := h1.n
      exact (putA_ok (nameP_ok h1 t) (by decide) (by omega) (by omega)).mono (by omega)
    · exact (put0_ok h1 (by omega)).mono (by omega)
  | .mk op t _ [e, b], N, s, h => by
    rw [stmtS, sw]
    have h1 := exprS_ok e (headS_ok h op)
    have h2 := blockS_ok b (put0_ok (op := 9) (t := []) h1 (g := -1) (by omega))
    have := h.l.len
    split
    · exact (leadS_ok h2 _).mono (by omega)
    · exact (leadS_ok (putA_ok h2 (by decide) (by omega) (by omega)) _).mono (by omega)
  | .mk op t _ (e :: b :: c :: r), N, s, h => by
    rw [stmtS, sw]
    have h1 := exprS_ok e (headS_ok h op)
    have h2 := blockS_ok b (put0_ok (op := 9) (t := []) h1 (g := -1) (by omega))
    have h3 := leadS_ok (put0_ok (op := 8) (t := []) h2 (g := 0) (by omega)) (exprS e (headS op s)).l.length
    exact (leadS_ok (blockS_ok c h3) _).mono (by omega)
theorem blockS_ok : ∀ (n : Nd) {N : Nat} {s : CS}, CSok N s → CSok (N + bw n) (blockS n s)
  | .mk _ _ _ kids, N, s, h => by rw [blockS, bw]; exact stmtsS_ok kids h
theorem stmtsS_ok : ∀ (l : List Nd) {N : Nat} {s : CS}, CSok N s → CSok (N + bws l) (stmtsS l s)
  | [], N, s, h => by rw [stmtsS, bws]; exact h
  | k :: r, N, s, h => by rw [stmtsS, bws]; exact (stmtsS_ok r (stmtS_ok k h)).mono (by omega)
end
/-! a list of instructions gets no shorter -/
theorem putL_len (op a : Int) (t : Bs) (l : List In) (f : Nat) : l.length ≤ (putL op a t l f).length := by
  unfold putL; split
  · rw [addLast_len]; omega
  · simp
theorem putL_len1 {op : Int} (ho : op ≠ 0) (a : Int) (t : Bs) (l : List In) (f : Nat) : (putL op a t l f).length = l.length + 1 := by
  unfold putL; rw [if_neg (fun h => ho h.1)]; simp
theorem putI_len {op : Int} (ho : op ≠ 0) (l : List In) (f : Nat) : putI op l f = l.length := by
  unfold putI; rw [if_neg (fun h => ho h.1)]
theorem putS_len (op a g : Int) (t : Bs) (s : CS) : s.l.length ≤ (putS op a t g s).l.length := putL_len _ _ _ _ _
theorem exprEnd_len (n : Nd) (s : CS) : s.l.length ≤ (exprEnd n s).l.length := by
  unfold exprEnd
  repeat' split
  all_goals first
  | exact putS_len _ _ _ _ _
  | exact putS_len _ _ _ _ (nameP _ s)
  | exact putS_len _ _ _ _ (constP _ s)
mutual
theorem exprS_len : ∀ (n : Nd) (s : CS), s.l.length ≤ (exprS n s).l.length
  | .mk op t num kids, s => by
    rw [exprS]
    exact Nat.le_trans (putS_len 0 1 0 [] s) (Nat.le_trans (exprsS_len kids _) (exprEnd_len _ _))
theorem exprsS_len : ∀ (l : List Nd) (s : CS), s.l.length ≤ (exprsS l s).l.length
  | [], s => by rw [exprsS]; exact Nat.le_refl _
  | k :: r, s => by rw [exprsS]; exact Nat.le_trans (exprS_len k s) (exprsS_len r _)
end
theorem headS_len (op : Int) (s : CS) : s.l.length ≤ (headS op s).l.length := by
  unfold headS; split
  · exact putS_len 0 1 0 [] (hereS s)
  · exact putS_len 0 1 0 [] s
theorem leadS_len (i : Nat) (s : CS) : (leadS i s).l.length = s.l.length := leadL_len _ _
mutual
theorem stmtS_len : ∀ (n : Nd) (s : CS), s.l.length ≤ (stmtS n s).l.length
  | .mk op t _ [], s => by
    rw [stmtS]; split
    · exact Nat.le_trans (headS_len op s) (putS_len _ _ _ _ _)
    · exact headS_len op s
  | .mk op t _ [e], s => by
    rw [stmtS]
    have h1 := Nat.le_trans (headS_len op s) (exprS_len e _)
    split
    · exact Nat.le_trans h1 (putS_len _ _ _ _ (nameP t (exprS e (headS op s))))
    · exact Nat.le_trans h1 (putS_len _ _ _ _ _)
  | .mk op t _ [e, b], s => by
    rw [stmtS]
    have h1 := Nat.le_trans (headS_len op s) (exprS_len e _)
    have h2 := Nat.le_trans h1 (Nat.le_trans (putS_len 9 0 (-1) [] _) (blockS_len b _))
    split
    · rw [leadS_len]; exact h2
    · rw [leadS_len]; exact Nat.le_trans h2 (putS_len _ _ _ _ _)
  | .mk op t _ (e :: b :: c :: r), s => by
    rw [stmtS]
    have h1 := Nat.le_trans (headS_len op s) (exprS_len e _)
    have h2 := Nat.le_trans h1 (Nat.le_trans (putS_len 9 0 (-1) [] _) (blockS_len b _))
    rw [leadS_len]
    refine Nat.le_trans h2 (Nat.le_trans (putS_len 8 0 0 [] _) ?_)
    rw [← leadS_len (exprS e (headS op s)).l.length (putS 8 0 [] 0 (blockS b (putS 9 0 [] (-1) (exprS e (headS op s)))))]
    exact blockS_len c _
theorem blockS_len : ∀ (n : Nd) (s : CS), s.l.length ≤ (blockS n s).l.length
  | .mk _ _ _ kids, s => by rw [blockS]; exact stmtsS_len kids s
theorem stmtsS_len : ∀ (l : List Nd) (s : CS), s.l.length ≤ (stmtsS l s).l.length
  | [], s => by rw [stmtsS]; exact Nat.le_refl _
  | k :: r, s => by rw [stmtsS]; exact Nat.le_trans (stmtS_len k s) (stmtsS_len r _)
end
end Go.Proofs
