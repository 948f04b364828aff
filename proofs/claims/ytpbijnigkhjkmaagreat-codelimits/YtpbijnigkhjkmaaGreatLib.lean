/- Library functions, and small helpers. -/
import Derived.Test.YtpbijnigkhjkmaaGreatTypes
import Derived.Test.YtpbijnigkhjkmaaGreatXc
import Derived.Test.YtpbijnigkhjkmaaGreatShelf
namespace Go.Proofs
open Go.X

abbrev Bs := List UInt8
/-- a function value that tells of a byte -/
class PureB (P : Program) (I : Im) (f : Value) (p : outParam (UInt8 → Bool)) : Prop where
  run : ∀ ro w I' L K (c : UInt8), I.Le I' → HH w I' L → (∀ w', HH w' I' L → K (.bool (p c)) w') → XCall P ro f [.int .u8 (c.toNat : Int)] w K
  fn : ∃ g fs cs, f = .func g fs cs
instance pureStep {P : Program} {ro : Option Nat} {I : Im} {L : Heap} {w : World} {K : KV} {f : Value} {p : UInt8 → Bool} {c : UInt8} [h : HH w I L] [hp : PureB P I f p] :
    XStep (XCall P ro f [.int .u8 (c.toNat : Int)] w K) (∀ w', HH w' I L → K (.bool (p c)) w') := ⟨fun k => hp.run ro w I L K c (Im.Le.refl _) h k⟩
theorem PureB.mono {P : Program} {I I' : Im} {f : Value} {p : UInt8 → Bool} (h : PureB P I f p) (hl : I.Le I') : PureB P I' f p :=
  ⟨fun ro w J L K c hj => h.run ro w J L K c (hl.trans hj), h.fn⟩

instance (priority := low) PureB.lift {P : Program} {I I' : Im} {f : Value} {p : UInt8 → Bool} [hl : I.Le I'] [h : PureB P I f p] : PureB P I' f p := h.mono hl
theorem findIdx_hit {α : Type} {p : α → Bool} {xs : List α} {k : Nat} {x : α} (h : k ≤ xs.findIdx p) (hx : xs[k]? = some x) (px : p x = true) : xs.findIdx p = k := by
  rcases Nat.lt_or_ge k (xs.findIdx p) with hlt | hge
  · have := List.not_of_lt_findIdx hlt
    have hk : k < xs.length := (List.getElem?_eq_some_iff.1 hx).1
    rw [List.getElem?_eq_getElem hk] at hx
    cases hx
    simp_all
  · omega
theorem findIdx_miss {α : Type} {p : α → Bool} {xs : List α} {k : Nat} {x : α} (h : k ≤ xs.findIdx p) (hx : xs[k]? = some x) (px : p x = false) : k + 1 ≤ xs.findIdx p := by
  rcases Nat.lt_or_ge k (xs.findIdx p) with hlt | hge
  · omega
  · exfalso
    have he : xs.findIdx p = k := by omega
    have hk : k < xs.length := (List.getElem?_eq_some_iff.1 hx).1
    have := List.findIdx_getElem (p := p) (xs := xs) (w := by omega)
    rw [List.getElem?_eq_getElem hk] at hx
    cases hx
    simp_all
def idx {α : Type} (p : α → Bool) (xs : List α) : Int := if xs.findIdx p < xs.length then (xs.findIdx p : Int) else -1

set_option maxHeartbeats 1000000
theorem IndexFunc8 {w : World} {I : Im} {L : Heap} {a : Option Addr} {c : Nat} {f : Value} {p : UInt8 → Bool} {xs : Bs} [hh : HH w I L] [SlA I a 1 bEnc xs] [PureB Tryz.prog I f p] (hl : xs.length ≤ 1000000000) :
    XApp Tryz.prog 137 [.slice a xs.length c, f] w fun v w' => v = .int .i64 (idx p xs) ∧ HH w' I L := by
  refine .of Tryz.func137 ?_
  repeat' (conv => whnf
           first
             | exact trivial
             | refine XStep.go ?_
             | refine XChk.mk (by first | omega | decide | (simp only [List.length_take, List.length_drop]; omega) | (simp only [List.length_append, List.length_cons, List.length_nil]; omega)) ?_
             | refine XBoth.mk ?_ ?_
             | intro xx
             | (refine XBr.t (by omega) ?_)
             | (refine XBr.f (by omega) ?_)
             | refine XOpt.mk (fun x hc => ?_) (fun hc => ?_)
             | refine XRes.mk (fun x hc => ?_) (fun x hc => ?_)
             | refine XBr.mk (fun hc => ?_) (fun hc => ?_)
             | refine XIf.mk (fun hc => ?_) (fun hc => ?_))
  refine XCode.loopG (fun k : Nat => [some (.slice a xs.length c), some (f), none, none, none, none, none, some (.int .i64 xs.length), some (.int .i64 k), none, none, none, none, none, none, none, none, none, none]) (fun k w => HH w I L ∧ k ≤ xs.findIdx p) (fun k => xs.length - k) 0 ?_ ⟨hh, Nat.zero_le _⟩ ?_
  · exact ⟨rfl, rfl, rfl, rfl, trivial⟩
  · rintro k w ⟨hh, hk⟩
    have hle := List.findIdx_le_length (p := p) (xs := xs)
    repeat' (conv => whnf
             first
               | exact trivial
               | refine XStep.go ?_
               | refine XChk.mk (by first | omega | decide | (simp only [List.length_take, List.length_drop]; omega) | (simp only [List.length_append, List.length_cons, List.length_nil]; omega)) ?_
               | refine XBoth.mk ?_ ?_
               | intro xx
               | (refine XBr.t (by omega) ?_)
               | (refine XBr.f (by omega) ?_)
               | refine XOpt.mk (fun x hc => ?_) (fun hc => ?_)
               | refine XRes.mk (fun x hc => ?_) (fun x hc => ?_)
               | refine XBr.mk (fun hc => ?_) (fun hc => ?_)
               | refine XIf.mk (fun hc => ?_) (fun hc => ?_))
    all_goals conv => whnf
    · rename_i hx _
      have e := findIdx_hit hk hx.eq hc
      exact ⟨by rw [idx, e, if_pos (by omega)]; rfl, inferInstance⟩
    · rename_i hx _
      exact ⟨k + 1, rfl, by simp [fits], ⟨inferInstance, findIdx_miss hk hx.eq hc⟩, by omega⟩
    · exact ⟨by rw [idx, if_neg (by omega)]; rfl, inferInstance⟩
instance {w : World} {I : Im} {L : Heap} {a : Option Addr} {c : Nat} {f : Value} {p : UInt8 → Bool} {xs : Bs} {K : KV} [hh : HH w I L] [SlA I a 1 bEnc xs] [PureB Tryz.prog I f p] :
    XStep (XApp Tryz.prog 137 [.slice a xs.length c, f] w K) (XChk (xs.length ≤ 1000000000) (∀ w', HH w' I L → K (.int .i64 (idx p xs)) w')) :=
  ⟨fun ⟨h, k⟩ => (IndexFunc8 h).mono fun _ w' ⟨e, hw⟩ => e ▸ k w' hw⟩
theorem PureB.ofApp {P : Program} {I : Im} {g : FuncId} [FnOk P g] {fs cs : List Value} {p : UInt8 → Bool}
    (h : ∀ w I' L (c : UInt8), I.Le I' → HH w I' L → XApp P g (fs ++ [.int .u8 (c.toNat : Int)] ++ cs) w fun v w' => v = .bool (p c) ∧ HH w' I' L) :
    PureB P I (.func (.func g) fs.toArray cs.toArray) p :=
  ⟨fun ro w I' L K c hl hh k => callStep.go (by rw [appsK_eq, appsK_eq]; exact (h w I' L c hl hh).mono fun _ w' ⟨e, hw⟩ => e ▸ k w' hw), _, _, _, rfl⟩

/-! slices.Contains, slices.Index at texts; strings.IndexByte -/
theorem IndexS {w : World} {I : Im} {L : Heap} {a : Option Addr} {c : Nat} {x : Bs} {xs : List Bs} [hh : HH w I L] [SlA I a 1 sEnc xs] (hl : xs.length ≤ 1000000000) :
    XApp Tryz.prog 79 [.slice a xs.length c, .string ⟨x.toArray⟩] w fun v w' => v = .int .i64 (idx (fun y => decide (x = y)) xs) ∧ w' = w := by
  refine .of Tryz.func79 ?_
  repeat' (conv => whnf
           first
             | exact trivial
             | refine XStep.go ?_
             | refine XChk.mk (by first | omega | decide | (simp only [List.length_take, List.length_drop]; omega) | (simp only [List.length_append, List.length_cons, List.length_nil]; omega)) ?_
             | refine XBoth.mk ?_ ?_
             | intro xx
             | (refine XBr.t (by omega) ?_)
             | (refine XBr.f (by omega) ?_)
             | refine XOpt.mk (fun x hc => ?_) (fun hc => ?_)
             | refine XRes.mk (fun x hc => ?_) (fun x hc => ?_)
             | refine XBr.mk (fun hc => ?_) (fun hc => ?_)
             | refine XIf.mk (fun hc => ?_) (fun hc => ?_))
  refine XCode.loopG (fun k : Nat => [some (.slice a xs.length c), some (.string ⟨x.toArray⟩), none, none, none, none, none, some (.int .i64 xs.length), some (.int .i64 k), none, none, none, none, none, none, none, none, none, none]) (fun k w' => w' = w ∧ k ≤ xs.findIdx (fun y => decide (x = y))) (fun k => xs.length - k) 0 ?_ ⟨rfl, Nat.zero_le _⟩ ?_
  · exact ⟨rfl, rfl, rfl, rfl, trivial⟩
  · rintro k w' ⟨rfl, hk⟩
    have hle := List.findIdx_le_length (p := fun y => decide (x = y)) (xs := xs)
    repeat' (conv => whnf
             first
               | exact trivial
               | refine XStep.go ?_
               | refine XChk.mk (by first | omega | decide | (simp only [List.length_take, List.length_drop]; omega) | (simp only [List.length_append, List.length_cons, List.length_nil]; omega)) ?_
               | refine XBoth.mk ?_ ?_
               | intro xx
               | (refine XBr.t (by omega) ?_)
               | (refine XBr.f (by omega) ?_)
               | refine XOpt.mk (fun x hc => ?_) (fun hc => ?_)
               | refine XRes.mk (fun x hc => ?_) (fun x hc => ?_)
               | refine XBr.mk (fun hc => ?_) (fun hc => ?_)
               | refine XIf.mk (fun hc => ?_) (fun hc => ?_))
    all_goals conv => whnf
    · have hx := (‹At xs k _›).eq
      have e := findIdx_hit hk hx (by simpa using hc)
      exact ⟨by rw [idx, e, if_pos (by omega)]; rfl, rfl⟩
    · have hx := (‹At xs k _›).eq
      exact ⟨k + 1, rfl, by simp [fits], ⟨rfl, findIdx_miss hk hx (by simpa using hc)⟩, by omega⟩
    · exact ⟨by rw [idx, if_neg (by omega)]; rfl, rfl⟩
instance {w : World} {I : Im} {L : Heap} {a : Option Addr} {c : Nat} {x : Bs} {xs : List Bs} {K : KV} [hh : HH w I L] [SlA I a 1 sEnc xs] :
    XStep (XApp Tryz.prog 79 [.slice a xs.length c, .string ⟨x.toArray⟩] w K) (XChk (xs.length ≤ 1000000000) (K (.int .i64 (idx (fun y => decide (x = y)) xs)) w)) :=
  ⟨fun ⟨h, k⟩ => (IndexS h).mono fun _ _ ⟨e, hw⟩ => e ▸ hw ▸ k⟩
theorem idx_mem (x : Bs) (xs : List Bs) : (0 ≤ idx (fun y => decide (x = y)) xs) ↔ x ∈ xs := by
  unfold idx
  split
  · rename_i h
    have := List.findIdx_getElem (w := h)
    simp at this
    constructor
    · intro _; rw [this]; exact List.getElem_mem h
    · intro _; omega
  · rename_i h
    constructor
    · intro h; omega
    · intro hm; exact absurd (List.findIdx_lt_length_of_exists ⟨x, hm, by simp⟩) h
instance {w : World} {I : Im} {L : Heap} {a : Option Addr} {c : Nat} {x : Bs} {xs : List Bs} {K : KV} [hh : HH w I L] [SlA I a 1 sEnc xs] :
    XStep (XApp Tryz.prog 140 [.slice a xs.length c, .string ⟨x.toArray⟩] w K) (XChk (xs.length ≤ 1000000000) (K (.bool (decide (x ∈ xs))) w)) :=
  ⟨fun ⟨h, k⟩ => by
    refine .of Tryz.func140 ?_
    repeat' (conv => whnf
             first
               | exact trivial
               | refine XStep.go ?_
               | refine XChk.mk (by first | omega | decide | (simp only [List.length_take, List.length_drop]; omega) | (simp only [List.length_append, List.length_cons, List.length_nil]; omega)) ?_
               | refine XBoth.mk ?_ ?_
               | intro xx
               | (refine XBr.t (by omega) ?_)
               | (refine XBr.f (by omega) ?_)
               | refine XOpt.mk (fun x hc => ?_) (fun hc => ?_)
               | refine XRes.mk (fun x hc => ?_) (fun x hc => ?_)
               | refine XBr.mk (fun hc => ?_) (fun hc => ?_)
               | refine XIf.mk (fun hc => ?_) (fun hc => ?_))
    conv => whnf
    have : decide (0 ≤ idx (fun y => decide (x = y)) xs) = decide (x ∈ xs) := by
      rw [Bool.eq_iff_iff]; simp [idx_mem]
    rw [this]; exact k⟩
end Go.Proofs

/- strings.Builder, strings.IndexByte, bytes.HasPrefix. -/
namespace Go.Proofs
open Go.X
set_option maxHeartbeats 1000000
set_option linter.unusedVariables false
set_option linter.unusedSimpArgs false

/-! strings.Builder -/
abbrev TBld : TypeId := 216
abbrev T8 : TypeId := 5
/-- the builder's own address, as it keeps it -/
class BSelf (x : Option Addr) (b : Nat) : Prop where
  or : x = none ∨ x = some ⟨b, 0, none⟩
instance {b : Nat} : BSelf none b := ⟨.inl rfl⟩
instance {b : Nat} : BSelf (some ⟨b, 0, none⟩) b := ⟨.inr rfl⟩
instance copyCheck {w : World} {I : Im} {L R : Heap} {b : Nat} {x : Option Addr} {v : Value} {K : KV} [hh : HH w I L] [r : Rem L b (.cells (List.toArray [.pointer x, v]) TBld (0, 0)) R] [bs : BSelf x b] :
    XStep (XApp Tryz.prog 157 [.pointer (some ⟨b, 0, none⟩)] w K) (∀ w', HH w' I ((b, oc [.pointer (some ⟨b, 0, none⟩), v] TBld) :: R) → K (.tuple #[]) w') := ⟨fun k => by
  have hh' := hh.perm r.perm
  clear hh r
  refine .of Tryz.func157 ?_
  rcases bs.or with rfl | rfl
  · repeat' (conv => whnf
             first
               | exact trivial
               | refine XStep.go ?_
               | refine XChk.mk (by first | omega | decide | (simp only [List.length_take, List.length_drop]; omega) | (simp only [List.length_append, List.length_cons, List.length_nil]; omega)) ?_
               | refine XBoth.mk ?_ ?_
               | intro xx
               | (refine XBr.t (by omega) ?_)
               | (refine XBr.f (by omega) ?_)
               | refine XOpt.mk (fun x hc => ?_) (fun hc => ?_)
               | refine XRes.mk (fun x hc => ?_) (fun x hc => ?_)
               | refine XBr.mk (fun hc => ?_) (fun hc => ?_)
               | refine XIf.mk (fun hc => ?_) (fun hc => ?_))
    all_goals conv => whnf
    exact k _ inferInstance
  · repeat' (conv => whnf
             first
               | exact trivial
               | refine XStep.go ?_
               | refine XChk.mk (by first | omega | decide | (simp only [List.length_take, List.length_drop]; omega) | (simp only [List.length_append, List.length_cons, List.length_nil]; omega)) ?_
               | refine XBoth.mk ?_ ?_
               | intro xx
               | (refine XBr.t (by omega) ?_)
               | (refine XBr.f (by omega) ?_)
               | refine XOpt.mk (fun x hc => ?_) (fun hc => ?_)
               | refine XRes.mk (fun x hc => ?_) (fun x hc => ?_)
               | refine XBr.mk (fun hc => ?_) (fun hc => ?_)
               | refine XIf.mk (fun hc => ?_) (fun hc => ?_))
    all_goals conv => whnf
    exact k _ inferInstance⟩
instance bldLen {w : World} {I : Im} {L : Heap} {b : Nat} {x : Value} {a : Option Addr} {n c : Nat} {K : KV} [hh : HH w I L] [o : X.Own L b (.cells (List.toArray [x, .slice a n c]) TBld (0, 0))] :
    XStep (XApp Tryz.prog 143 [.pointer (some ⟨b, 0, none⟩)] w K) (K (.int .i64 n) w) := ⟨fun k => by
  refine .of Tryz.func143 ?_
  repeat' (conv => whnf
           first
             | exact trivial
             | refine XStep.go ?_
             | refine XChk.mk (by first | omega | decide | (simp only [List.length_take, List.length_drop]; omega) | (simp only [List.length_append, List.length_cons, List.length_nil]; omega)) ?_
             | refine XBoth.mk ?_ ?_
             | intro xx
             | (refine XBr.t (by omega) ?_)
             | (refine XBr.f (by omega) ?_)
             | refine XOpt.mk (fun x hc => ?_) (fun hc => ?_)
             | refine XRes.mk (fun x hc => ?_) (fun x hc => ?_)
             | refine XBr.mk (fun hc => ?_) (fun hc => ?_)
             | refine XIf.mk (fun hc => ?_) (fun hc => ?_))
  conv => whnf
  exact k⟩
instance bldWriteByte {w : World} {I : Im} {L L1 E R : Heap} {b : Nat} {x a : Option Addr} {cap : Nat} {l : Bs} {c : UInt8} {K : KV} [hh : HH w I L] [r : Rem L b (.cells (List.toArray [.pointer x, .slice a l.length cap]) TBld (0, 0)) L1]
    [bs : BSelf x b] [so : SO T8 a cap 1 bEnc l E] [sp : Split L1 E R] :
    XStep (XApp Tryz.prog 145 [.pointer (some ⟨b, 0, none⟩), .int .u8 (c.toNat : Int)] w K) (XChk (l.length + 1 ≤ 1000000000)
      (∀ w' a' cap' E', HH w' I ((b, oc [.pointer (some ⟨b, 0, none⟩), .slice a' (l ++ [c]).length cap'] TBld) :: (E' ++ R)) → SO T8 a' cap' 1 bEnc (l ++ [c]) E' → K .nilIface w')) := ⟨fun ⟨hl, k⟩ => by
  have hh' := hh.perm (r.perm.trans (List.Perm.cons _ sp.perm))
  clear hh r sp
  refine .of Tryz.func145 ?_
  repeat' (conv => whnf
           first
             | exact trivial
             | refine XStep.go ?_
             | refine XChk.mk (by first | omega | decide | (simp only [List.length_take, List.length_drop]; omega) | (simp only [List.length_append, List.length_cons, List.length_nil]; omega)) ?_
             | refine XBoth.mk ?_ ?_
             | intro xx
             | (refine XBr.t (by omega) ?_)
             | (refine XBr.f (by omega) ?_)
             | refine XOpt.mk (fun x hc => ?_) (fun hc => ?_)
             | refine XRes.mk (fun x hc => ?_) (fun x hc => ?_)
             | refine XBr.mk (fun hc => ?_) (fun hc => ?_)
             | refine XIf.mk (fun hc => ?_) (fun hc => ?_))
  all_goals conv => whnf
  exact k _ _ _ _ (HH.perm ‹_› List.perm_middle) ‹_›⟩
/-- the builder's text; its bytes are gone then -/
theorem bldString {w : World} {I : Im} {L1 E R : Heap} {b : Nat} {x a : Option Addr} {cap : Nat} {l : Bs} [hh : HH w I ((b, oc [.pointer x, .slice a l.length cap] TBld) :: L1)]
    [so : SO T8 a cap 1 bEnc l E] [sp : Split L1 E R] (hn : l = [] → a = none) (hl : l.length ≤ 1000000000) :
    XApp Tryz.prog 144 [.pointer (some ⟨b, 0, none⟩)] w fun v w' => v = .string ⟨l.toArray⟩ ∧ HH w' I R := by
  refine .of Tryz.func144 ?_
  have hh' := hh.perm (List.Perm.cons _ sp.perm)
  clear hh sp
  rcases so.ex with ⟨rfl, rfl, rfl, rfl⟩ | ⟨g, junk, rfl, rfl, h1, h2, h3⟩
  · repeat' (conv => whnf
             first
               | exact trivial
               | refine XStep.go ?_
               | refine XChk.mk (by first | omega | decide | (simp only [List.length_take, List.length_drop]; omega) | (simp only [List.length_append, List.length_cons, List.length_nil]; omega)) ?_
               | refine XBoth.mk ?_ ?_
               | (refine XSem.of rfl ?_)
               | (refine XCode.drawH (id := 1) #[.pur, .pur, .pur, .qui, .pur, .pur, .pur, .pur, .qui, .qui, .lou, .pur] (.one 0 (.one 1 (.one 2 (.one 5 (.one 6 (.one 7 (.one 3 (.one 4 (.one 8 (.one 9 (.one 10 (.one 11 .done)))))))))))) mixed (by kernel_rfl) ?_)
               | intro xx
               | (refine XBr.t (by omega) ?_)
               | (refine XBr.f (by omega) ?_)
               | refine XOpt.mk (fun x hc => ?_) (fun hc => ?_)
               | refine XRes.mk (fun x hc => ?_) (fun x hc => ?_)
               | refine XBr.mk (fun hc => ?_) (fun hc => ?_)
               | refine XIf.mk (fun hc => ?_) (fun hc => ?_))
    all_goals conv => whnf
    all_goals exact ⟨rfl, HH.drop (A := []) (B := [(b, _)]) (C := R) ‹_› rfl⟩
  · have hl0 : l ≠ [] := fun e => by have := hn e; cases this
    have hpos : 0 < l.length := List.length_pos_iff.2 hl0
    repeat' (conv => whnf
             first
               | exact trivial
               | refine XStep.go ?_
               | refine XChk.mk (by first | omega | decide | (simp only [List.length_take, List.length_drop]; omega) | (simp only [List.length_append, List.length_cons, List.length_nil]; omega)) ?_
               | refine XBoth.mk ?_ ?_
               | (refine XCode.drawH (id := 1) #[.pur, .pur, .pur, .qui, .pur, .pur, .pur, .pur, .qui, .qui, .lou, .pur] (.one 0 (.one 1 (.one 2 (.one 5 (.one 6 (.one 7 (.one 3 (.one 4 (.one 8 (.one 9 (.one 10 (.one 11 .done)))))))))))) mixed (by kernel_rfl) ?_)
               | intro xx
               | (refine XBr.t (by omega) ?_)
               | (refine XBr.f (by omega) ?_)
               | refine XOpt.mk (fun x hc => ?_) (fun hc => ?_)
               | refine XRes.mk (fun x hc => ?_) (fun x hc => ?_)
               | refine XBr.mk (fun hc => ?_) (fun hc => ?_)
               | refine XIf.mk (fun hc => ?_) (fun hc => ?_))
    all_goals
      obtain ⟨w3, hr, hh3⟩ := unsafeString_run (P := Tryz.prog) (pt := 226) (e := T8) (Ts := 3) (ty := 9) inferInstance inferInstance (HH.drop (A := []) (B := [(b, _)]) xx rfl) hl0 (by omega)
      conv => whnf
      refine XSem.of hr ?_
      clear xx
      repeat' (conv => whnf
               first
                 | exact trivial
                 | refine XStep.go ?_
                 | refine XChk.mk (by first | omega | decide | (simp only [List.length_take, List.length_drop]; omega) | (simp only [List.length_append, List.length_cons, List.length_nil]; omega)) ?_
                 | refine XBoth.mk ?_ ?_
                 | (refine XCode.drawH (id := 1) #[.pur, .pur, .pur, .qui, .pur, .pur, .pur, .pur, .qui, .qui, .lou, .pur] (.one 0 (.one 1 (.one 2 (.one 5 (.one 6 (.one 7 (.one 3 (.one 4 (.one 8 (.one 9 (.one 10 (.one 11 .done)))))))))))) mixed (by kernel_rfl) ?_)
                 | intro xx
                 | (refine XBr.t (by omega) ?_)
                 | (refine XBr.f (by omega) ?_)
                 | refine XOpt.mk (fun x hc => ?_) (fun hc => ?_)
                 | refine XRes.mk (fun x hc => ?_) (fun x hc => ?_)
                 | refine XBr.mk (fun hc => ?_) (fun hc => ?_)
                 | refine XIf.mk (fun hc => ?_) (fun hc => ?_))
      all_goals conv => whnf
      all_goals exact ⟨rfl, inferInstance⟩
class BNil (l : Bs) (a : Option Addr) : Prop where
  e : l = [] → a = none
instance {l : Bs} : BNil l none := ⟨fun _ => rfl⟩
instance {l : Bs} {c : UInt8} {a : Option Addr} : BNil (l ++ [c]) a := ⟨fun h => by simp at h⟩
instance bldStringC {w : World} {I : Im} {L L1 E R : Heap} {b : Nat} {x a : Option Addr} {cap : Nat} {l : Bs} {K : KV} [hh : HH w I L] [r : Rem L b (.cells (List.toArray [.pointer x, .slice a l.length cap]) TBld (0, 0)) L1]
    [so : SO T8 a cap 1 bEnc l E] [sp : Split L1 E R] [bn : BNil l a] :
    XStep (XApp Tryz.prog 144 [.pointer (some ⟨b, 0, none⟩)] w K) (XChk (l.length ≤ 1000000000) (∀ w', HH w' I R → K (.string ⟨l.toArray⟩) w')) := ⟨fun ⟨hl, k⟩ => by
  have hh' := hh.perm r.perm
  exact (bldString (sp := sp) bn.e hl).mono fun _ w' ⟨e, hw⟩ => e ▸ k w' hw⟩

/-! strings.IndexByte -/
def fidx (l : Bs) (c : UInt8) : Option Nat := if l.findIdx (· == c) < l.length then some (l.findIdx (· == c)) else none
instance {w : World} {I : Im} {L : Heap} {l : Bs} {c : UInt8} {K : KV} [hh : HH w I L] :
    XStep (XApp Tryz.prog 95 [.string ⟨l.toArray⟩, .int .u8 (c.toNat : Int)] w K) (XOpt (fidx l c) (fun n => K (.int .i64 (n : Nat)) w) (K (.int .i64 (-1)) w)) := ⟨fun k => by
  have key : K (.int .i64 (ixb l c)) w := by
    unfold ixb
    cases k with
    | some x e a => unfold fidx at e; split at e <;> cases e; rw [if_pos ‹_›]; exact a
    | none e a => unfold fidx at e; split at e <;> cases e; rw [if_neg ‹_›]; exact a
  refine .of Tryz.func95 ?_
  repeat' (conv => whnf
           first
             | exact trivial
             | refine XStep.go ?_
             | refine XChk.mk (by first | omega | decide | (simp only [List.length_take, List.length_drop]; omega) | (simp only [List.length_append, List.length_cons, List.length_nil]; omega)) ?_
             | refine XBoth.mk ?_ ?_
             | (refine XApp.of Tryz.func136 ?_)
             | intro xx
             | (refine XBr.t (by omega) ?_)
             | (refine XBr.f (by omega) ?_)
             | refine XOpt.mk (fun x hc => ?_) (fun hc => ?_)
             | refine XRes.mk (fun x hc => ?_) (fun x hc => ?_)
             | refine XBr.mk (fun hc => ?_) (fun hc => ?_)
             | refine XIf.mk (fun hc => ?_) (fun hc => ?_))
  conv => whnf
  exact key⟩
end Go.Proofs

/- slices.Clone, Clip, Sort, Compact; sorted.Of. -/
namespace Go.Proofs
open Go.X
set_option maxHeartbeats 1000000
set_option linter.unusedVariables false
set_option linter.unusedSimpArgs false

instance cloneS {w : World} {I : Im} {L : Heap} {a : Option Addr} {c : Nat} {xs : List Bs} {K : KV} [hh : HH w I L] [sl : SlA I a 1 sEnc xs] :
    XStep (XApp Tryz.prog 37 [.slice a xs.length c] w K) (XChk (xs.length ≤ 1000000000) (∀ w' a' cap' E', HH w' I (E' ++ L) → SO 9 a' cap' 1 sEnc xs E' → K (.slice a' xs.length cap') w')) := ⟨fun ⟨hx, k⟩ => by
  refine .of Tryz.func37 ?_
  repeat' (conv => whnf
           first
             | exact trivial
             | refine XStep.go ?_
             | refine XChk.mk (by first | omega | decide | (simp only [List.length_take, List.length_drop]; omega) | (simp only [List.length_append, List.length_cons, List.length_nil]; omega)) ?_
             | refine XBoth.mk ?_ ?_
             | intro xx
             | (refine XBr.t (by omega) ?_)
             | (refine XBr.f (by omega) ?_)
             | refine XOpt.mk (fun x hc => ?_) (fun hc => ?_)
             | refine XRes.mk (fun x hc => ?_) (fun x hc => ?_)
             | refine XBr.mk (fun hc => ?_) (fun hc => ?_)
             | refine XIf.mk (fun hc => ?_) (fun hc => ?_))
  all_goals conv => whnf
  · have e : xs = [] := by
      rcases sl.ex with h | ⟨b, o, h, _⟩
      · exact h
      · rw [hc] at h; cases h
    subst e
    exact k _ none 0 [] hh SO.nil
  · exact k _ _ _ _ ‹_› ‹_›⟩
instance cloneI {w : World} {I : Im} {L : Heap} {a : Option Addr} {c : Nat} {xs : List Int} {K : KV} [hh : HH w I L] [sl : SlA I a 1 iEnc xs] :
    XStep (XApp Tryz.prog 55 [.slice a xs.length c] w K) (XChk (xs.length ≤ 1000000000) (∀ w' a' cap' E', HH w' I (E' ++ L) → SO 3 a' cap' 1 iEnc xs E' → K (.slice a' xs.length cap') w')) := ⟨fun ⟨hx, k⟩ => by
  refine .of Tryz.func55 ?_
  repeat' (conv => whnf
           first
             | exact trivial
             | refine XStep.go ?_
             | refine XChk.mk (by first | omega | decide | (simp only [List.length_take, List.length_drop]; omega) | (simp only [List.length_append, List.length_cons, List.length_nil]; omega)) ?_
             | refine XBoth.mk ?_ ?_
             | intro xx
             | (refine XBr.t (by omega) ?_)
             | (refine XBr.f (by omega) ?_)
             | refine XOpt.mk (fun x hc => ?_) (fun hc => ?_)
             | refine XRes.mk (fun x hc => ?_) (fun x hc => ?_)
             | refine XBr.mk (fun hc => ?_) (fun hc => ?_)
             | refine XIf.mk (fun hc => ?_) (fun hc => ?_))
  all_goals conv => whnf
  · have e : xs = [] := by
      rcases sl.ex with h | ⟨b, o, h, _⟩
      · exact h
      · rw [hc] at h; cases h
    subst e
    exact k _ none 0 [] hh SO.nil
  · exact k _ _ _ _ ‹_› ‹_›⟩
instance clipS {w : World} {a : Option Addr} {n c : Nat} {K : KV} {I : Im} {L : Heap} [hh : HH w I L] :
    XStep (XApp Tryz.prog 81 [.slice a n c] w K) (XChk (n ≤ c) (K (.slice a n n) w)) := ⟨fun ⟨hn, k⟩ => by
  refine .of Tryz.func81 ?_
  repeat' (conv => whnf
           first
             | exact trivial
             | refine XStep.go ?_
             | refine XChk.mk (by first | omega | decide | (simp only [List.length_take, List.length_drop]; omega) | (simp only [List.length_append, List.length_cons, List.length_nil]; omega)) ?_
             | refine XBoth.mk ?_ ?_
             | intro xx
             | (refine XBr.t (by omega) ?_)
             | (refine XBr.f (by omega) ?_)
             | refine XOpt.mk (fun x hc => ?_) (fun hc => ?_)
             | refine XRes.mk (fun x hc => ?_) (fun x hc => ?_)
             | refine XBr.mk (fun hc => ?_) (fun hc => ?_)
             | refine XIf.mk (fun hc => ?_) (fun hc => ?_))
  conv => whnf
  exact k⟩
def sortF (xs : List Bs) : List Bs := xs.mergeSort fun x y => decide (x ≤ y)
theorem sortF_len (xs : List Bs) : (sortF xs).length = xs.length := List.length_mergeSort ..
instance sortC {w : World} {I : Im} {L E R : Heap} {a : Option Addr} {cap : Nat} {xs : List Bs} {K : KV} [hh : HH w I L] [so : SO 9 a cap 1 sEnc xs E] [sp : Split L E R] :
    XStep (XApp Tryz.prog 53 [.slice a xs.length cap] w K) (XChk (xs.length ≤ 1000000000) (∀ w' E', HH w' I (E' ++ R) → SO 9 a cap 1 sEnc (sortF xs) E' → K (.tuple #[]) w')) := ⟨fun ⟨hx, k⟩ => by
  by_cases h0 : xs = []
  · subst h0
    refine XApp.ofCalls (Any.slices_Sort_string_none Tryz.lays190 a cap w) ?_
    rintro e w' ⟨rfl, rfl⟩
    have e0 : sortF [] = [] := by simp [sortF]
    rw [e0] at k
    exact ⟨_, rfl, k _ E (hh.perm sp.perm) so⟩
  · obtain ⟨b, junk, rfl, h2, ok⟩ := so.open (hh.perm sp.perm) h0
    refine XApp.ofCalls (Tryz.slices_Sort_string b 0 cap xs w (holds_row h2) (h2.lt (List.mem_cons_self ..)) (by omega)) ?_
    rintro e w' ⟨rfl, n, os, rfl⟩
    have ok2 : RowOk b cap 1 sEnc (sortF xs) junk := ⟨by have := ok.len; rw [List.length_append, flat_len ok.sz] at this; rw [List.length_append, flat_len (sz := 1) (fun _ _ => rfl), sortF_len]; exact this, by rw [sortF_len]; exact ok.cap, fun _ _ => rfl⟩
    exact ⟨_, rfl, k _ [(b, rowO _ sEnc (sortF xs) junk)] ((h2.putRow (sortF_len xs) n).grow os) ok2.so⟩⟩
theorem compact_len (xs : List Bs) : (Lib.compact xs).length ≤ xs.length := by
  unfold Lib.compact Lib.compactUpTo
  rw [List.length_map]
  refine Nat.le_trans (List.length_filter_le _ _) ?_
  simp
instance compactC {w : World} {I : Im} {L E R : Heap} {a : Option Addr} {cap : Nat} {xs : List Bs} {K : KV} [hh : HH w I L] [so : SO 9 a cap 1 sEnc xs E] [sp : Split L E R] :
    XStep (XApp Tryz.prog 82 [.slice a xs.length cap] w K) (XChk (xs.length ≤ 1000000000) (∀ w' E', HH w' I (E' ++ R) → SO 9 a cap 1 sEnc (Lib.compact xs) E' → K (.slice a (Lib.compact xs).length cap) w')) := ⟨fun ⟨hx, k⟩ => by
  by_cases h0 : xs = []
  · subst h0
    refine XApp.ofCalls (Tryz.slices_Compact_string_empty a cap w) ?_
    rintro e w' ⟨rfl, rfl⟩
    exact ⟨_, rfl, k _ E (hh.perm sp.perm) so⟩
  · obtain ⟨b, junk, rfl, h2, ok⟩ := so.open (hh.perm sp.perm) h0
    refine XApp.ofCalls (Tryz.slices_Compact_string b 0 cap xs w (holds_row h2) (by omega) ok.cap) ?_
    rintro e w' ⟨rfl, q, rfl⟩
    have hl := compact_len xs
    have h3 := h2.putRow (ys := Lib.compact xs ++ List.replicate (xs.length - (Lib.compact xs).length) []) (by simp; omega) q
    have e1 : rowO 9 sEnc (Lib.compact xs ++ List.replicate (xs.length - (Lib.compact xs).length) []) junk = rowO 9 sEnc (Lib.compact xs) (((List.replicate (xs.length - (Lib.compact xs).length) []).map sEnc).flatten ++ junk) := by
      simp [rowO]
    rw [e1] at h3
    have ok2 : RowOk b cap 1 sEnc (Lib.compact xs) (((List.replicate (xs.length - (Lib.compact xs).length) []).map sEnc).flatten ++ junk) := by
      refine ⟨?_, Nat.le_trans hl ok.cap, fun _ _ => rfl⟩
      have := ok.len
      rw [List.length_append, flat_len ok.sz] at this
      rw [List.length_append, List.length_append, flat_len (sz := 1) (fun _ _ => rfl), flat_len (sz := 1) (fun _ _ => rfl), List.length_replicate]
      omega
    exact ⟨_, rfl, k _ [(b, _)] h3 ok2.so⟩⟩
/-- a sorted set -/
def setF (xs : List Bs) : List Bs := Lib.compact (sortF xs)
instance setOfC {w : World} {I : Im} {L : Heap} {a : Option Addr} {c : Nat} {xs : List Bs} {K : KV} [hh : HH w I L] [sl : SlA I a 1 sEnc xs] :
    XStep (XApp Tryz.prog 48 [.slice a xs.length c] w K) (XChk (xs.length ≤ 1000000000)
      (∀ w' I' a', I.Le I' → HH w' I' L → SlA I' a' 1 sEnc (setF xs) → K (.agg (List.toArray [.slice a' (setF xs).length (setF xs).length])) w')) := ⟨fun ⟨hx, k⟩ => by
  have hs := sortF_len xs
  refine .of Tryz.func48 ?_
  repeat' (conv => whnf
           first
             | exact trivial
             | refine XStep.go ?_
             | refine XChk.mk (by first | omega | decide | (simp only [List.length_take, List.length_drop]; omega) | (simp only [List.length_append, List.length_cons, List.length_nil]; omega)) ?_
             | refine XBoth.mk ?_ ?_
             | intro xx
             | (refine XBr.t (by omega) ?_)
             | (refine XBr.f (by omega) ?_)
             | refine XOpt.mk (fun x hc => ?_) (fun hc => ?_)
             | refine XRes.mk (fun x hc => ?_) (fun x hc => ?_)
             | refine XBr.mk (fun hc => ?_) (fun hc => ?_)
             | refine XIf.mk (fun hc => ?_) (fun hc => ?_))
  rw [← hs]
  repeat' (conv => whnf
           first
             | exact trivial
             | refine XStep.go ?_
             | refine XChk.mk (by first | omega | decide | (simp only [List.length_take, List.length_drop]; omega) | (simp only [List.length_append, List.length_cons, List.length_nil]; omega)) ?_
             | refine XBoth.mk ?_ ?_
             | (refine XChk.mk (soCap ‹SO _ _ _ _ sEnc (Lib.compact _) _›) ?_)
             | intro xx
             | (refine XBr.t (by omega) ?_)
             | (refine XBr.f (by omega) ?_)
             | refine XOpt.mk (fun x hc => ?_) (fun hc => ?_)
             | refine XRes.mk (fun x hc => ?_) (fun x hc => ?_)
             | refine XBr.mk (fun hc => ?_) (fun hc => ?_)
             | refine XIf.mk (fun hc => ?_) (fun hc => ?_))
  have so := ‹SO _ _ _ _ sEnc (Lib.compact _) _›
  obtain ⟨I2, hl, hh2, sl2, hc⟩ := soFrz (h := ‹HH _ I _›) so
  all_goals conv => whnf
  exact k _ _ _ hl HH.fin sl2⟩
end Go.Proofs
