/- code: Compile, as a function. -/
import Derived.Test.YtpbijnigkhjkmaaGreatCodeB
namespace Go.Proofs
open Go.X
set_option maxHeartbeats 2000000
set_option maxRecDepth 100000
set_option linter.unusedVariables false
set_option linter.unusedSimpArgs false

section
variable {P : Program} {w : World} {K : KV} {K1 : Value → Prop} {I : Im} {L : Heap} {T kt et : TypeId} {κ ν : Type} [DecidableEq κ] {ek : κ → Value} {ev : ν → Value} {m : List (κ × ν)} {b : Nat}
instance lookupMI {kv : Value} {k : κ} {z : Value} [t : TyMap P T kt et] [tk : TyKey P kt ek] [tz : TyZero P et z] [h : HH w I L] [o : Imm I b (MO ek ev m)] [kk : KeyV ek kv k] :
    XStep (XLd P (Instr.lookup T (.map (some b)) kv false) w K1) (XOpt (mget m k) (fun v => K1 (ev v)) (K1 z)) := ⟨fun x => by
  have e := kk.eq
  subst e
  have hr := lookup_run (P := P) (T := T) (kt := kt) (et := et) (z := z) (h.imm _ _ o.eq) k false
  cases x with
  | some v e a => rw [e] at hr; exact .of hr a
  | none e a => rw [e] at hr; exact .of hr a⟩
instance lookupMokI {kv : Value} {k : κ} {z : Value} [t : TyMap P T kt et] [tk : TyKey P kt ek] [tz : TyZero P et z] [h : HH w I L] [o : Imm I b (MO ek ev m)] [kk : KeyV ek kv k] :
    XStep (XLd P (Instr.lookup T (.map (some b)) kv true) w K1) (XOpt (mget m k) (fun v => K1 (.tuple (List.toArray [ev v, .bool true]))) (K1 (.tuple (List.toArray [z, .bool false])))) := ⟨fun x => by
  have e := kk.eq
  subst e
  have hr := lookup_run (P := P) (T := T) (kt := kt) (et := et) (z := z) (h.imm _ _ o.eq) k true
  cases x with
  | some v e a => rw [e] at hr; exact .of hr a
  | none e a => rw [e] at hr; exact .of hr a⟩
end
/-- a handler; and where its lists lie -/
structure Hn where
  params : List Int
  code : List In
  deriving DecidableEq
structure HV where
  h : Hn
  ap : Option Addr
  cp : Nat
  al : Option Addr
  cl : Nat
def hEnc (x : HV) : Value := .agg (List.toArray [.slice x.ap x.h.params.length x.cp, .slice x.al x.h.code.length x.cl])
instance {ap al : Option Addr} {cp cl : Nat} {ps : List Int} {l : List In} : ValV hEnc (.agg (List.toArray [.slice ap ps.length cp, .slice al l.length cl])) ⟨⟨ps, l⟩, ap, cp, al, cl⟩ := ⟨rfl⟩
instance : MapRep Tryz.prog 97 ekS hEnc := ⟨trivial⟩
class HVok (I : Im) (x : HV) : Prop where
  p : SlA I x.ap 1 iEnc x.h.params
  pc : x.h.params.length ≤ x.cp
  l : SlA I x.al 3 inEnc x.h.code
  lc : x.h.code.length ≤ x.cl
theorem HVok.mono {I I' : Im} {x : HV} (h : HVok I x) (hl : I.Le I') : HVok I' x := ⟨h.p.mono hl, h.pc, h.l.mono hl, h.lc⟩
def hvs (m : List (Bs × HV)) : List (Bs × Hn) := m.map fun p => (p.1, p.2.h)
theorem hvs_get (m : List (Bs × HV)) (k : Bs) : mget (hvs m) k = (mget m k).map HV.h := by
  unfold mget hvs
  rw [List.find?_map]
  cases h : m.find? fun p => decide (p.1 = k) with
  | none =>
    have : List.find? ((fun p : Bs × Hn => decide (p.1 = k)) ∘ fun p : Bs × HV => (p.1, p.2.h)) m = none := h
    rw [this]; rfl
  | some x =>
    have : List.find? ((fun p : Bs × Hn => decide (p.1 = k)) ∘ fun p : Bs × HV => (p.1, p.2.h)) m = some x := h
    rw [this]; rfl
theorem hvs_set (m : List (Bs × HV)) (k : Bs) (x : HV) : hvs (mset m k x) = mset (hvs m) k x.h := by
  unfold mset
  rw [hvs_get, Option.isSome_map]
  split
  · unfold hvs
    rw [List.map_map, List.map_map]
    congr 1
    funext p
    simp only [Function.comp]
    split <;> rfl
  · simp [hvs]
theorem mset_mem {κ ν : Type} [DecidableEq κ] {m : List (κ × ν)} {k : κ} {v : ν} {p : κ × ν} (h : p ∈ mset m k v) : p ∈ m ∨ p.2 = v := by
  unfold mset at h
  split at h
  · obtain ⟨q, hq, e⟩ := List.mem_map.1 h
    split at e
    · subst e; exact .inr rfl
    · subst e; exact .inl hq
  · rcases List.mem_append.1 h with h | h
    · exact .inl h
    · rw [List.mem_singleton.1 h]; exact .inr rfl
def parStep (p : List Int × List Bs) (x : Nd) : List Int × List Bs := (p.1 ++ [((placeI p.2 x.text : Nat) : Int)], placeL p.2 x.text)
def parS (l : List Nd) (names : List Bs) : List Int × List Bs := l.foldl parStep ([], names)
theorem parS_nil (names : List Bs) : parS [] names = ([], names) := rfl
theorem parS_snoc (l : List Nd) (x : Nd) (names : List Bs) : parS (l ++ [x]) names = parStep (parS l names) x := by simp [parS]
theorem parS_len (l : List Nd) (names : List Bs) : (parS l names).1.length = l.length ∧ (parS l names).2.length ≤ names.length + l.length := by
  have key : ∀ (l : List Nd) (p : List Int × List Bs), (l.foldl parStep p).1.length = p.1.length + l.length ∧ (l.foldl parStep p).2.length ≤ p.2.length + l.length := by
    intro l
    induction l with
    | nil => intro p; simp
    | cons x l ih =>
      intro p
      have h1 := ih (parStep p x)
      have h2 := placeL_len p.2 x.text
      simp only [List.foldl_cons, List.length_cons]
      have e1 : (parStep p x).1.length = p.1.length + 1 := by simp [parStep]
      have e2 : (parStep p x).2.length ≤ p.2.length + 1 := h2
      omega
  have := key l ([], names)
  simpa [parS] using this
/-- a handler's parameters and its block -/
def vars (h : Nd) : List Nd := h.kids.dropLast
def body (h : Nd) : Nd := h.kids.getLast?.getD .zero
def makeS (h : Nd) (names : List Bs) (consts : List VV) : CS := putS 10 0 [] 0 (blockS (body h) ⟨(parS (vars h) names).2, consts, [], 0, 0, 0⟩)
abbrev PG := List Bs × List VV × List (Bs × Hn)
def compGo : List Nd → List Bs → List VV → List (Bs × Hn) → Bool → Except Int PG
  | [], ns, cs, hs, deep => if deep = true then .error 9 else .ok (ns, cs, hs)
  | h :: r, ns, cs, hs, deep => if 8192 < (makeS h ns cs).l.length then .error 3 else
      compGo r (makeS h ns cs).names (makeS h ns cs).consts (mset hs h.text ⟨(parS (vars h) ns).1, (makeS h ns cs).l⟩) (deep || decide (128 < (makeS h ns cs).most))
def compF (n : Nd) : Except Int PG := if 32 < (collAll n).names.length then .error 6 else compGo n.kids (collAll n).names (collAll n).consts [] false
def wfH (h : Nd) : Prop := h.kids ≠ [] ∧ wfB (body h)
def hw (h : Nd) : Nat := 10 + h.kids.length + bw (body h)
def hws : List Nd → Nat
  | [] => 0
  | h :: r => hw h + hws r
theorem hws_drop {l : List Nd} {i : Nat} {h : Nd} (hx : l[i]? = some h) : hws (l.drop i) = hw h + hws (l.drop (i + 1)) := by
  obtain ⟨hi, e⟩ := List.getElem?_eq_some_iff.1 hx
  rw [List.drop_eq_getElem_cons hi, e, hws]
theorem makeS_ok {N : Nat} {h : Nd} {names : List Bs} {consts : List VV} (h1 : names.length ≤ N) (h2 : consts.length ≤ N) : CSok (N + h.kids.length + bw (body h) + 1) (makeS h names consts) := by
  have h3 := (parS_len (vars h) names).2
  have h4 : (vars h).length ≤ h.kids.length := by simp [vars]
  have h0 : CSok (N + h.kids.length) ⟨(parS (vars h) names).2, consts, [], 0, 0, 0⟩ := ⟨⟨by simp, by simp, by simp; omega, by simp; omega, by simp⟩, by show (parS (vars h) names).2.length ≤ _; omega, by show consts.length ≤ _; omega⟩
  exact put0_ok (blockS_ok (body h) h0) (by omega)
end Go.Proofs

/- code: Compile walked. -/
namespace Go.Proofs
open Go.X
set_option maxHeartbeats 4000000
set_option maxRecDepth 100000
set_option linter.unusedVariables false
set_option linter.unusedSimpArgs false

/-- a program in memory, read from now on -/
class PgC (I : Im) (bp : Nat) (pg : outParam PG) (calls : outParam (List Bs)) : Prop where
  ex : ∃ an cn ac cc bm ak m, Imm I bp (progO an cn pg.1 ac cc pg.2.1 (.map (some bm)) (.slice ak calls.length calls.length)) ∧ SlA I an 1 sEnc pg.1 ∧ pg.1.length ≤ cn ∧ SlA I ac 3 vEnc pg.2.1 ∧ pg.2.1.length ≤ cc ∧
    Imm I bm (MO ekS hEnc m) ∧ hvs m = pg.2.2 ∧ (∀ p ∈ m, HVok I p.2) ∧ SlA I ak 1 sEnc calls
structure CompPost (n : Nd) (I : Im) (L : Heap) (K : KV) : Prop where
  ok : ∀ pg w' I' bp, compF n = .ok pg → I.Le I' → HH w' I' L → PgC I' bp pg (setF (collAll n).calls) → K (.tuple (List.toArray [.pointer (some ⟨bp, 0, none⟩), .int .i64 0])) w'
  err : ∀ e w', compF n = .error e → HH w' I L → K (.tuple (List.toArray [.pointer none, .int .i64 e])) w'
abbrev slAddr {α : Type} {I : Im} {a : Option Addr} {sz : Nat} {enc : α → List Value} {xs : List α} (_ : SlA I a sz enc xs) : Option Addr := a
abbrev leCap {n c : Nat} (_ : n ≤ c) : Nat := c
theorem compC {w : World} {I : Im} {L : Heap} {n : Nd} {a : Option Addr} {c : Nat} {K : KV} [hh : HH w I L] [kc : KidsC I a c n.kids] (hn : (walkN 0 n).length ≤ 100000000) (hwt : hws n.kids ≤ 100000000) (hwf : ∀ h ∈ n.kids, wfH h) (k : CompPost n I L K) :
    XApp Tryz.prog 20 [.agg (List.toArray [.int .i64 n.op, .string ⟨n.text.toArray⟩, .int .i64 n.num, .slice a n.kids.length c])] w K := by
  have hcl := collS_len ((walkN 0 n).map (·.2)) ⟨[], [], []⟩
  rw [List.length_map] at hcl
  simp only [List.length_nil, Nat.zero_add] at hcl
  have hcl2 : (collAll n).names.length ≤ (walkN 0 n).length ∧ (collAll n).consts.length ≤ (walkN 0 n).length := ⟨hcl.1, hcl.2.1⟩
  clear hcl
  have hnl : n.kids.length ≤ 100000000 := by
    have h1 := walkNs_len (0 + 1) n.kids
    have h2 := hn
    rw [walkN_eq, List.length_cons] at h2
    omega
  refine .of Tryz.func20 ?_
  repeat' (conv => whnf
           first
             | exact trivial
             | refine XStep.go ?_
             | refine XChk.mk (by first | omega | decide | (simp only [List.length_take, List.length_drop]; omega) | (simp only [List.length_append, List.length_cons, List.length_nil]; omega)) ?_
             | refine XBoth.mk ?_ ?_
             | (refine XCode.drawH (id := 14) #[.pur, .qui, .pur, .pur, .pur, .pur, .qui, .lou, .lou, .lou, .pur, .lou] (.one 0 (.one 2 (.one 3 (.one 4 (.one 5 (.one 6 (.br 1 (.one 7 (.one 8 (.one 9 (.one 10 (.one 11 .done))))) (.br 7 (.br 1 (.one 8 (.one 9 (.one 10 (.one 11 .done)))) (.br 8 (.one 1 (.one 9 (.one 10 (.one 11 .done)))) .non)) .non)))))))) mixed (by kernel_rfl) ?_)
             | (refine XCode.drawH (id := 23) #[.pur, .pur, .pur, .qui, .pur, .qui, .qui, .lou] (.one 0 (.one 1 (.one 2 (.one 4 (.one 3 (.one 5 (.one 6 (.one 7 .done)))))))) mixed (by kernel_rfl) ?_)
             | intro xx
             | (refine XBr.t (by omega) ?_)
             | (refine XBr.f (by omega) ?_)
             | refine XOpt.mk (fun x hc => ?_) (fun hc => ?_)
             | refine XRes.mk (fun x hc => ?_) (fun x hc => ?_)
             | refine XBr.mk (fun hc => ?_) (fun hc => ?_)
             | refine XIf.mk (fun hc => ?_) (fun hc => ?_))
  conv => whnf
  rename_i b1 _ _ bm _ _ bp w3
  have hx : HH w3 I ((bp, progO none 0 [] none 0 [] (.map (some bm)) (.slice none 0 0)) :: (bm, MO ekS hEnc ([] : List (Bs × HV))) :: (b1, .cells (List.toArray [.int .i64 n.op, .string ⟨n.text.toArray⟩, .int .i64 n.num, .slice a n.kids.length c]) 63 (0, 0)) :: L) := xx
  clear xx hh
  refine collectC hx kc hn ⟨fun w4 I4 an cn En ac cc Ec ak hl4 hh4 s1 s2 s3 => ?_⟩
  clear hx
  generalize hcn : (collAll n).names = names0 at *
  generalize hcc : (collAll n).consts = consts0 at *
  generalize hck : setF (collAll n).calls = calls0 at *
  repeat' (conv => whnf
           first
             | exact trivial
             | refine XStep.go ?_
             | refine XChk.mk (by first | omega | decide | (simp only [List.length_take, List.length_drop]; omega) | (simp only [List.length_append, List.length_cons, List.length_nil]; omega)) ?_
             | refine XBoth.mk ?_ ?_
             | (refine XCode.drawH (id := 14) #[.pur, .qui, .pur, .pur, .pur, .pur, .qui, .lou, .lou, .lou, .pur, .lou] (.one 0 (.one 2 (.one 3 (.one 4 (.one 5 (.one 6 (.br 1 (.one 7 (.one 8 (.one 9 (.one 10 (.one 11 .done))))) (.br 7 (.br 1 (.one 8 (.one 9 (.one 10 (.one 11 .done)))) (.br 8 (.one 1 (.one 9 (.one 10 (.one 11 .done)))) .non)) .non)))))))) mixed (by kernel_rfl) ?_)
             | (refine XCode.drawH (id := 23) #[.pur, .pur, .pur, .qui, .pur, .qui, .qui, .lou] (.one 0 (.one 1 (.one 2 (.one 4 (.one 3 (.one 5 (.one 6 (.one 7 .done)))))))) mixed (by kernel_rfl) ?_)
             | intro xx
             | (refine XBr.t (by omega) ?_)
             | (refine XBr.f (by omega) ?_)
             | refine XOpt.mk (fun x hc => ?_) (fun hc => ?_)
             | refine XRes.mk (fun x hc => ?_) (fun x hc => ?_)
             | refine XBr.mk (fun hc => ?_) (fun hc => ?_)
             | refine XIf.mk (fun hc => ?_) (fun hc => ?_))
  · conv => whnf
    exact k.err 6 _ (by rw [compF, hcn, if_pos (by omega)]) HH.fin
  · have hF : compF n = compGo n.kids names0 consts0 [] false := by rw [compF, hcn, hcc, if_neg (by omega)]
    obtain ⟨ns, en, hs, hcs, hks⟩ := kc.get
    have el : n.kids.length = ns.length := by rw [en, List.length_map]
    rw [el]
    rw [el] at hh4 hnl
    repeat' (conv => whnf
             first
               | exact trivial
               | refine XStep.go ?_
               | refine XChk.mk (by first | omega | decide | (simp only [List.length_take, List.length_drop]; omega) | (simp only [List.length_append, List.length_cons, List.length_nil]; omega)) ?_
               | refine XBoth.mk ?_ ?_
               | (refine XCode.drawH (id := 14) #[.pur, .qui, .pur, .pur, .pur, .pur, .qui, .lou, .lou, .lou, .pur, .lou] (.one 0 (.one 2 (.one 3 (.one 4 (.one 5 (.one 6 (.br 1 (.one 7 (.one 8 (.one 9 (.one 10 (.one 11 .done))))) (.br 7 (.br 1 (.one 8 (.one 9 (.one 10 (.one 11 .done)))) (.br 8 (.one 1 (.one 9 (.one 10 (.one 11 .done)))) .non)) .non)))))))) mixed (by kernel_rfl) ?_)
               | (refine XCode.drawH (id := 23) #[.pur, .pur, .pur, .qui, .pur, .qui, .qui, .lou] (.one 0 (.one 1 (.one 2 (.one 4 (.one 3 (.one 5 (.one 6 (.one 7 .done)))))))) mixed (by kernel_rfl) ?_)
               | intro xx
               | (refine XBr.t (by omega) ?_)
               | (refine XBr.f (by omega) ?_)
               | refine XOpt.mk (fun x hc => ?_) (fun hc => ?_)
               | refine XRes.mk (fun x hc => ?_) (fun x hc => ?_)
               | refine XBr.mk (fun hc => ?_) (fun hc => ?_)
               | refine XIf.mk (fun hc => ?_) (fun hc => ?_))
    refine XCode.loopG (fun g : Nat × List Bs × List VV × List (Bs × HV) × Bool × Im => [none, none, some (.pointer none), some (.int .i64 0), some (.pointer (some ⟨bp, 0, none⟩)), some (.bool g.2.2.2.2.1), none, none, none, none, none, none, none, none, none, none, none, none, none, none, none, none, none, none, none, none, some (.slice a ns.length c), some (.int .i64 ns.length), some (.int .i64 g.1), none, none, none, none, none, none, none, none, none, none, none, none, none, none, none, none, none, none, none, none, none, none, none, none, none, none, none, none, none, none, none, none, none, none, none, none, none, none, none, none, none, none, none, none, none, none, none, none, none, none, none, none, none, none, none, none, none, none, none, none, none, none, none, none, none, none, none, none, none])
      (fun g w => I4.Le g.2.2.2.2.2 ∧ (∃ an cn En ac cc Ec, HH w g.2.2.2.2.2 ((bp, progO an cn g.2.1 ac cc g.2.2.1 (.map (some bm)) (.slice ak calls0.length calls0.length)) :: (bm, MO ekS hEnc g.2.2.2.1) :: (En ++ (Ec ++ L))) ∧ SO 9 an cn 1 sEnc g.2.1 En ∧ SO 54 ac cc 3 vEnc g.2.2.1 Ec) ∧
        (∀ p ∈ g.2.2.2.1, HVok g.2.2.2.2.2 p.2) ∧ (g.2.2.2.1.map (·.1)).Nodup ∧ g.1 ≤ ns.length ∧ compGo (n.kids.drop g.1) g.2.1 g.2.2.1 (hvs g.2.2.2.1) g.2.2.2.2.1 = compGo n.kids names0 consts0 [] false ∧ g.2.1.length + hws (n.kids.drop g.1) ≤ 200000000 ∧ g.2.2.1.length + hws (n.kids.drop g.1) ≤ 200000000)
      (fun g => ns.length - g.1) (0, names0, consts0, [], false, I4) ?_ ⟨.refl _, ⟨_, _, _, _, _, _, HH.has, s1, s2⟩, by simp, by simp, by omega, rfl, by simp only [List.drop_zero]; omega, by simp only [List.drop_zero]; omega⟩ ?_
    · simp [fits]
    · rintro ⟨i, names, consts, m, deep, I5⟩ w5 ⟨hl5, ⟨an, cn, En, ac, cc, Ec, hh5, s1, s2⟩, hok, hnd, hi, hgo, hb1, hb2⟩
      dsimp only at hl5 hh5 s1 s2 hok hnd hi hgo hb1 hb2 ⊢
      clear hh4
      have hs5 := hs.mono (hl4.trans hl5)
      by_cases hlt : i < ns.length
      · have hx : ns[i]? = some ns[i] := List.getElem?_eq_getElem hlt
        have hAt : At ns i ns[i] := ⟨hx⟩
        have hkx := hks _ (List.getElem_mem hlt)
        have hxk : n.kids[i]? = some ns[i].n := by rw [en, List.getElem?_map, hx]; rfl
        have hwx := hwf _ (List.mem_of_getElem? hxk)
        rw [hws_drop hxk] at hb1 hb2
        generalize ns[i] = x at *
        obtain ⟨xs, ex, hxs, hxc, hxk2⟩ := hkx.get
        have exl : x.n.kids.length = xs.length := by rw [ex, List.length_map]
        repeat' (conv => whnf
                 first
                   | exact trivial
                   | refine XStep.go ?_
                   | refine XChk.mk (by first | omega | decide | (simp only [List.length_take, List.length_drop]; omega) | (simp only [List.length_append, List.length_cons, List.length_nil]; omega)) ?_
                   | refine XBoth.mk ?_ ?_
                   | (refine XCode.drawH (id := 14) #[.pur, .qui, .pur, .pur, .pur, .pur, .qui, .lou, .lou, .lou, .pur, .lou] (.one 0 (.one 2 (.one 3 (.one 4 (.one 5 (.one 6 (.br 1 (.one 7 (.one 8 (.one 9 (.one 10 (.one 11 .done))))) (.br 7 (.br 1 (.one 8 (.one 9 (.one 10 (.one 11 .done)))) (.br 8 (.one 1 (.one 9 (.one 10 (.one 11 .done)))) .non)) .non)))))))) mixed (by kernel_rfl) ?_)
                   | (refine XCode.drawH (id := 23) #[.pur, .pur, .pur, .qui, .pur, .qui, .qui, .lou] (.one 0 (.one 1 (.one 2 (.one 4 (.one 3 (.one 5 (.one 6 (.one 7 .done)))))))) mixed (by kernel_rfl) ?_)
                   | intro xx
                   | (refine XBr.t (by omega) ?_)
                   | (refine XBr.f (by omega) ?_)
                   | refine XOpt.mk (fun x hc => ?_) (fun hc => ?_)
                   | refine XRes.mk (fun x hc => ?_) (fun x hc => ?_)
                   | refine XBr.mk (fun hc => ?_) (fun hc => ?_)
                   | refine XIf.mk (fun hc => ?_) (fun hc => ?_))
        rename_i b7 _ _ w7
        rw [exl]
        rw [exl] at xx
        have hkl : 0 < x.n.kids.length := List.length_pos_iff.2 hwx.1
        have hwl : hw x.n = 10 + x.n.kids.length + bw (body x.n) := rfl
        rw [exl] at hkl hwl
        have hxs5 := hxs.mono (hl4.trans hl5)
        clear hh5
        repeat' (conv => whnf
                 first
                   | exact trivial
                   | refine XStep.go ?_
                   | refine XChk.mk (by first | omega | decide | (simp only [List.length_take, List.length_drop]; omega) | (simp only [List.length_append, List.length_cons, List.length_nil]; omega)) ?_
                   | refine XBoth.mk ?_ ?_
                   | (refine XCode.drawH (id := 14) #[.pur, .qui, .pur, .pur, .pur, .pur, .qui, .lou, .lou, .lou, .pur, .lou] (.one 0 (.one 2 (.one 3 (.one 4 (.one 5 (.one 6 (.br 1 (.one 7 (.one 8 (.one 9 (.one 10 (.one 11 .done))))) (.br 7 (.br 1 (.one 8 (.one 9 (.one 10 (.one 11 .done)))) (.br 8 (.one 1 (.one 9 (.one 10 (.one 11 .done)))) .non)) .non)))))))) mixed (by kernel_rfl) ?_)
                   | (refine XCode.drawH (id := 23) #[.pur, .pur, .pur, .qui, .pur, .qui, .qui, .lou] (.one 0 (.one 1 (.one 2 (.one 4 (.one 3 (.one 5 (.one 6 (.one 7 .done)))))))) mixed (by kernel_rfl) ?_)
                   | intro xx
                   | (refine XBr.t (by omega) ?_)
                   | (refine XBr.f (by omega) ?_)
                   | refine XOpt.mk (fun x hc => ?_) (fun hc => ?_)
                   | refine XRes.mk (fun x hc => ?_) (fun x hc => ?_)
                   | refine XBr.mk (fun hc => ?_) (fun hc => ?_)
                   | refine XIf.mk (fun hc => ?_) (fun hc => ?_))
        conv => whnf
        rename_i b9 w9 hh9 hsv
        have hvl : (xs.take (xs.length - 1)).length ≤ xs.length := (List.take_sublist _ _).length_le
        have hev : vars x.n = (xs.take (xs.length - 1)).map fun x => x.n := by unfold vars; rw [ex, List.dropLast_eq_take, List.length_map, List.map_take]
        have hcpv := xx
        clear xx
        generalize hvsE : xs.take (xs.length - 1) = vs at *
        refine XCode.loopG (fun j : Nat => [none, none, some (.pointer none), some (.int .i64 0), some (.pointer (some ⟨bp, 0, none⟩)), some (.bool deep), none, some (.pointer (some ⟨b7, 0, none⟩)), some (.int .i64 (xs.length - 1)), some (.pointer (some ⟨b9, 0, none⟩)), none, none, none, none, none, none, none, none, none, none, none, none, none, none, none, none, some (.slice a ns.length c), some (.int .i64 ns.length), some (.int .i64 i), none, none, none, none, none, none, none, none, none, none, some (.slice x.a vs.length x.c), some (.int .i64 vs.length), some (.int .i64 j), none, none, none, none, none, none, none, none, none, none, none, none, none, none, none, none, none, none, none, none, none, none, none, none, none, none, none, none, none, none, none, none, none, none, none, none, none, none, none, none, none, none, none, none, none, none, none, none, none, none, none, none, none, none, none, none])
          (fun j w => (∃ an cn En ap cp Ep, HH w I5 ((b9, .cells (List.toArray [.slice ap (parS ((vs.take j).map fun x => x.n) names).1.length cp, .slice none 0 0]) 38 (0, 0)) :: (b7, .cells (List.toArray [.int .i64 x.n.op, .string ⟨x.n.text.toArray⟩, .int .i64 x.n.num, .slice x.a xs.length x.c]) 63 (0, 0)) ::
            (bp, progO an cn (parS ((vs.take j).map fun x => x.n) names).2 ac cc consts (.map (some bm)) (.slice ak calls0.length calls0.length)) :: (bm, MO ekS hEnc m) :: (En ++ (Ep ++ (Ec ++ L)))) ∧ SO 9 an cn 1 sEnc (parS ((vs.take j).map fun x => x.n) names).2 En ∧ SO 3 ap cp 1 iEnc (parS ((vs.take j).map fun x => x.n) names).1 Ep) ∧ j ≤ vs.length)
          (fun j => vs.length - j) 0 ?_ ⟨⟨an, cn, En, none, 0, [], by simp only [List.take_zero, List.map_nil, parS_nil, List.length_nil]; exact HH.has, s1, SO.nil⟩, by omega⟩ ?_
        · simp [fits]
        · rintro j w ⟨⟨an, cn, En, ap, cp, Ep, hh10, s1, s4⟩, hj⟩
          clear hh9
          have hpl := parS_len ((vs.take j).map fun x => x.n) names
          rw [List.length_map] at hpl
          have htl : (vs.take j).length ≤ vs.length := (List.take_sublist _ _).length_le
          by_cases hjl : j < vs.length
          · have hy : vs[j]? = some vs[j] := List.getElem?_eq_getElem hjl
            have hAy : At vs j vs[j] := ⟨hy⟩
            have e1 : (vs.take (j + 1)).map (fun x => x.n) = ((vs.take j).map fun x => x.n) ++ [vs[j].n] := by rw [List.take_succ_eq_append_getElem hjl, List.map_append]; rfl
            have e2 := parS_snoc ((vs.take j).map fun x => x.n) vs[j].n names
            rw [← e1] at e2
            generalize vs[j] = y at *
            generalize parS ((vs.take j).map fun x => x.n) names = ps at *
            repeat' (conv => whnf
                     first
                       | exact trivial
                       | refine XStep.go ?_
                       | refine XChk.mk (by first | omega | decide | (simp only [List.length_take, List.length_drop]; omega) | (simp only [List.length_append, List.length_cons, List.length_nil]; omega)) ?_
                       | refine XBoth.mk ?_ ?_
                       | (refine XCode.drawH (id := 14) #[.pur, .qui, .pur, .pur, .pur, .pur, .qui, .lou, .lou, .lou, .pur, .lou] (.one 0 (.one 2 (.one 3 (.one 4 (.one 5 (.one 6 (.br 1 (.one 7 (.one 8 (.one 9 (.one 10 (.one 11 .done))))) (.br 7 (.br 1 (.one 8 (.one 9 (.one 10 (.one 11 .done)))) (.br 8 (.one 1 (.one 9 (.one 10 (.one 11 .done)))) .non)) .non)))))))) mixed (by kernel_rfl) ?_)
                       | (refine XCode.drawH (id := 23) #[.pur, .pur, .pur, .qui, .pur, .qui, .qui, .lou] (.one 0 (.one 1 (.one 2 (.one 4 (.one 3 (.one 5 (.one 6 (.one 7 .done)))))))) mixed (by kernel_rfl) ?_)
                       | intro xx
                       | (refine XBr.t (by omega) ?_)
                       | (refine XBr.f (by omega) ?_)
                       | refine XOpt.mk (fun x hc => ?_) (fun hc => ?_)
                       | refine XRes.mk (fun x hc => ?_) (fun x hc => ?_)
                       | refine XBr.mk (fun hc => ?_) (fun hc => ?_)
                       | refine XIf.mk (fun hc => ?_) (fun hc => ?_))
            all_goals conv => whnf
            all_goals
              have e3 : parStep ps y.n = (ps.1 ++ [((placeI ps.2 y.n.text : Nat) : Int)], placeL ps.2 y.n.text) := rfl
              rw [e3] at e2
              refine ⟨j + 1, rfl, by simp [fits], ⟨?_, by omega⟩, by omega⟩
              rw [e2]
              exact ⟨_, _, _, _, _, _, HH.has, ‹SO _ _ _ 1 sEnc (placeL ps.2 _) _›, ‹SO _ _ _ 1 iEnc (ps.1 ++ _) _›⟩
          · have e0 : vs.take j = vs := List.take_of_length_le (by omega)
            rw [e0, ← hev] at hh10 s1 s4
            have hpl2 := parS_len (vars x.n) names
            have hvx : (vars x.n).length ≤ xs.length := by rw [hev, List.length_map]; exact hvl
            have hmk := makeS_ok (h := x.n) (names := names) (consts := consts) (N := 200000000 - (hw x.n + hws (n.kids.drop (i + 1)))) (by omega) (by omega)
            have hndm : MNd m := ⟨hnd⟩
            have hyl : xs[xs.length - 1]? = some xs[xs.length - 1] := List.getElem?_eq_getElem (by omega)
            have hyk := hxk2 _ (List.getElem_mem (show xs.length - 1 < xs.length by omega))
            have hAy : At xs (xs.length - 1) xs[xs.length - 1] := ⟨hyl⟩
            have hby : body x.n = xs[xs.length - 1].n := by
              unfold body
              rw [ex, List.getLast?_eq_getElem?, List.length_map, List.getElem?_map, hyl]; rfl
            generalize xs[xs.length - 1] = y at *
            have wb := hwx.2
            rw [hby] at wb
            have hky : KidsC I5 y.a y.c y.n.kids := ⟨hyk.p.mono (hl4.trans hl5)⟩
            have hdrop : n.kids.drop i = x.n :: n.kids.drop (i + 1) := by
              obtain ⟨hik, e⟩ := List.getElem?_eq_some_iff.1 hxk
              rw [List.drop_eq_getElem_cons hik, e]
            rw [hdrop, compGo] at hgo
            have hmdef : makeS x.n names consts = putS 10 0 [] 0 (blockS y.n ⟨(parS (vars x.n) names).2, consts, [], 0, 0, 0⟩) := by unfold makeS; rw [hby]
            rw [hmdef] at hgo
            rw [hmdef, hby] at hmk
            have ok0 : CSok (200000000 + xs.length) ⟨(parS (vars x.n) names).2, consts, [], 0, 0, 0⟩ := ⟨⟨by simp, by simp, by simp; omega, by simp; omega, by simp⟩, by show (parS (vars x.n) names).2.length ≤ _; omega, by show consts.length ≤ _; omega⟩
            rw [hby] at hwl
            have ok1 := blockS_ok y.n ok0
            have hb := big_eq
            have g1 := ok1.l.mono (show _ ≤ big by omega)
            generalize hpr : parS (vars x.n) names = pr at *
            clear hpl
            repeat' (conv => whnf
                     first
                       | exact trivial
                       | refine XStep.go ?_
                       | refine XChk.mk (by first | omega | decide | (simp only [List.length_take, List.length_drop]; omega) | (simp only [List.length_append, List.length_cons, List.length_nil]; omega)) ?_
                       | refine XBoth.mk ?_ ?_
                       | (refine XCode.drawH (id := 14) #[.pur, .qui, .pur, .pur, .pur, .pur, .qui, .lou, .lou, .lou, .pur, .lou] (.one 0 (.one 2 (.one 3 (.one 4 (.one 5 (.one 6 (.br 1 (.one 7 (.one 8 (.one 9 (.one 10 (.one 11 .done))))) (.br 7 (.br 1 (.one 8 (.one 9 (.one 10 (.one 11 .done)))) (.br 8 (.one 1 (.one 9 (.one 10 (.one 11 .done)))) .non)) .non)))))))) mixed (by kernel_rfl) ?_)
                       | (refine XCode.drawH (id := 23) #[.pur, .pur, .pur, .qui, .pur, .qui, .qui, .lou] (.one 0 (.one 1 (.one 2 (.one 4 (.one 3 (.one 5 (.one 6 (.one 7 .done)))))))) mixed (by kernel_rfl) ?_)
                       | intro xx
                       | (refine XBr.t (by omega) ?_)
                       | (refine XBr.f (by omega) ?_)
                       | refine XOpt.mk (fun x hc => ?_) (fun hc => ?_)
                       | refine XRes.mk (fun x hc => ?_) (fun x hc => ?_)
                       | refine XBr.mk (fun hc => ?_) (fun hc => ?_)
                       | refine XIf.mk (fun hc => ?_) (fun hc => ?_))
            rename_i b12 w12 hh12 _ _
            have hx12 : HH w12 I5 ((b12, mkO bp none 0 [] 0 0 0) :: (b9, .cells (List.toArray [.slice ap pr.1.length cp, .slice none 0 0]) 38 (0, 0)) :: (b7, .cells (List.toArray [.int .i64 x.n.op, .string ⟨x.n.text.toArray⟩, .int .i64 x.n.num, .slice x.a xs.length x.c]) 63 (0, 0)) ::
              (bp, progO an cn pr.2 ac cc consts (.map (some bm)) (.slice ak calls0.length calls0.length)) :: (bm, MO ekS hEnc m) :: (En ++ (Ep ++ (Ec ++ L)))) := hh12
            have so0 : SO TIn none 0 3 inEnc ([] : List In) [] := SO.nil
            clear hh12 hh10
            repeat' (conv => whnf
                     first
                       | exact trivial
                       | refine XStep.go ?_
                       | refine XChk.mk (by first | omega | decide | (simp only [List.length_take, List.length_drop]; omega) | (simp only [List.length_append, List.length_cons, List.length_nil]; omega)) ?_
                       | refine XBoth.mk ?_ ?_
                       | (refine XChk.mk ⟨by omega, wb, _, ok0, by omega⟩ ?_)
                       | (refine CPost.mk fun w2 al2 cl2 El2 an2 cn2 En2 ac2 cc2 Ec2 hh2 s12 s22 s32 => ?_)
                       | (refine XChk.mk ⟨g1, by omega⟩ ?_)
                       | (refine XCode.drawH (id := 14) #[.pur, .qui, .pur, .pur, .pur, .pur, .qui, .lou, .lou, .lou, .pur, .lou] (.one 0 (.one 2 (.one 3 (.one 4 (.one 5 (.one 6 (.br 1 (.one 7 (.one 8 (.one 9 (.one 10 (.one 11 .done))))) (.br 7 (.br 1 (.one 8 (.one 9 (.one 10 (.one 11 .done)))) (.br 8 (.one 1 (.one 9 (.one 10 (.one 11 .done)))) .non)) .non)))))))) mixed (by kernel_rfl) ?_)
                       | (refine XCode.drawH (id := 23) #[.pur, .pur, .pur, .qui, .pur, .qui, .qui, .lou] (.one 0 (.one 1 (.one 2 (.one 4 (.one 3 (.one 5 (.one 6 (.one 7 .done)))))))) mixed (by kernel_rfl) ?_)
                       | intro xx
                       | (refine XBr.t (by omega) ?_)
                       | (refine XBr.f (by omega) ?_)
                       | refine XOpt.mk (fun x hc => ?_) (fun hc => ?_)
                       | refine XRes.mk (fun x hc => ?_) (fun x hc => ?_)
                       | refine XBr.mk (fun hc => ?_) (fun hc => ?_)
                       | refine XIf.mk (fun hc => ?_) (fun hc => ?_))
            all_goals try conv => whnf
            · refine k.err 3 _ (hF.trans (hgo.symm.trans (if_pos ?_))) HH.has
              show 8192 < (putL 10 0 [] (blockS y.n ⟨pr.2, consts, [], 0, 0, 0⟩).l (blockS y.n ⟨pr.2, consts, [], 0, 0, 0⟩).fixed).length
              omega
            all_goals
              have hsl := ‹SO TIn _ _ 3 inEnc (putL 10 0 [] _ _) _›
              obtain ⟨I6, hl6, hh6, hs6, hc6⟩ := soFrz (h := ‹HH _ I5 _›) s4
              obtain ⟨I7, hl7, hh7, hs7, hc7⟩ := soFrz (h := hh6) hsl
              have hdeep : ∀ d : Bool, (deep || decide (128 < (putS 10 0 [] 0 (blockS y.n ⟨pr.2, consts, [], 0, 0, 0⟩)).most)) = d → compGo (n.kids.drop (i + 1)) (putS 10 0 [] 0 (blockS y.n ⟨pr.2, consts, [], 0, 0, 0⟩)).names (putS 10 0 [] 0 (blockS y.n ⟨pr.2, consts, [], 0, 0, 0⟩)).consts
                  (mset (hvs m) x.n.text ⟨pr.1, (putS 10 0 [] 0 (blockS y.n ⟨pr.2, consts, [], 0, 0, 0⟩)).l⟩) d = compGo n.kids names0 consts0 [] false := by
                rintro d rfl
                refine Eq.trans ?_ hgo
                rw [if_neg]
                show ¬ 8192 < (putL 10 0 [] (blockS y.n ⟨pr.2, consts, [], 0, 0, 0⟩).l (blockS y.n ⟨pr.2, consts, [], 0, 0, 0⟩).fixed).length
                omega
              have hnew : HVok I7 ⟨⟨pr.1, putL 10 0 [] (blockS y.n ⟨pr.2, consts, [], 0, 0, 0⟩).l (blockS y.n ⟨pr.2, consts, [], 0, 0, 0⟩).fixed⟩, ap, cp, _, _⟩ := ⟨hs6.mono hl7, hc6, hs7, hc7⟩
              have hn' : (blockS y.n ⟨pr.2, consts, [], 0, 0, 0⟩).names.length ≤ _ := hmk.n
              have hc' : (blockS y.n ⟨pr.2, consts, [], 0, 0, 0⟩).consts.length ≤ _ := hmk.c
              refine ⟨(i + 1, (blockS y.n ⟨pr.2, consts, [], 0, 0, 0⟩).names, (blockS y.n ⟨pr.2, consts, [], 0, 0, 0⟩).consts, mset m x.n.text ⟨⟨pr.1, putL 10 0 [] (blockS y.n ⟨pr.2, consts, [], 0, 0, 0⟩).l (blockS y.n ⟨pr.2, consts, [], 0, 0, 0⟩).fixed⟩, ap, cp, slAddr hs7, leCap hc7⟩, (deep || decide (128 < (putS 10 0 [] 0 (blockS y.n ⟨pr.2, consts, [], 0, 0, 0⟩)).most)), I7), rfl, ?_,
                ⟨hl5.trans (hl6.trans hl7), ⟨_, _, _, _, _, _, HH.has, ‹SO _ _ _ 1 sEnc (blockS y.n _).names _›, ‹SO _ _ _ 3 vEnc (blockS y.n _).consts _›⟩, ?_, mset_nd hnd _ _, by dsimp only; omega, ?_, by dsimp only; omega, by dsimp only; omega⟩, by dsimp only; omega⟩
              · simp [fits, hc, putS]
              · intro p hp
                rcases mset_mem hp with hp | e
                · exact (hok p hp).mono (hl6.trans hl7)
                · rw [e]; exact hnew
              · dsimp only
                rw [hvs_set]
                exact hdeep _ rfl
      · have e0 : n.kids.drop i = [] := List.drop_eq_nil_of_le (by omega)
        rw [e0, compGo] at hgo
        repeat' (conv => whnf
                 first
                   | exact trivial
                   | refine XStep.go ?_
                   | refine XChk.mk (by first | omega | decide | (simp only [List.length_take, List.length_drop]; omega) | (simp only [List.length_append, List.length_cons, List.length_nil]; omega)) ?_
                   | refine XBoth.mk ?_ ?_
                   | (refine XCode.drawH (id := 14) #[.pur, .qui, .pur, .pur, .pur, .pur, .qui, .lou, .lou, .lou, .pur, .lou] (.one 0 (.one 2 (.one 3 (.one 4 (.one 5 (.one 6 (.br 1 (.one 7 (.one 8 (.one 9 (.one 10 (.one 11 .done))))) (.br 7 (.br 1 (.one 8 (.one 9 (.one 10 (.one 11 .done)))) (.br 8 (.one 1 (.one 9 (.one 10 (.one 11 .done)))) .non)) .non)))))))) mixed (by kernel_rfl) ?_)
                   | (refine XCode.drawH (id := 23) #[.pur, .pur, .pur, .qui, .pur, .qui, .qui, .lou] (.one 0 (.one 1 (.one 2 (.one 4 (.one 3 (.one 5 (.one 6 (.one 7 .done)))))))) mixed (by kernel_rfl) ?_)
                   | intro xx
                   | (refine XBr.t (by omega) ?_)
                   | (refine XBr.f (by omega) ?_)
                   | refine XOpt.mk (fun x hc => ?_) (fun hc => ?_)
                   | refine XRes.mk (fun x hc => ?_) (fun x hc => ?_)
                   | refine XBr.mk (fun hc => ?_) (fun hc => ?_)
                   | refine XIf.mk (fun hc => ?_) (fun hc => ?_))
        all_goals conv => whnf
        · exact k.err 9 _ (hF.trans (hgo.symm.trans (if_pos hc))) HH.has
        · obtain ⟨g1, g2, g3⟩ := hh5.freeze
          obtain ⟨g4, g5, g6⟩ := g1.freeze
          obtain ⟨I8, g7, g8, g9, g10⟩ := s1.freeze g4
          obtain ⟨I9, g11, g12, g13, g14⟩ := s2.freeze g8
          have l9 := g5.trans (g7.trans g11)
          have hPg : PgC I9 bp (names, consts, hvs m) (setF (collAll n).calls) := by
            rw [hck]
            exact ⟨⟨an, cn, ac, cc, bm, ak, m, g3.mono l9, g9.mono g11, g10, g13, g14, g6.mono (g7.trans g11), rfl, fun p hp => (hok p hp).mono (g2.trans l9), s3.mono (hl5.trans (g2.trans l9))⟩⟩
          exact k.ok (names, consts, hvs m) _ I9 bp (hF.trans (hgo.symm.trans (if_neg (by simp [hc])))) (hl4.trans (hl5.trans (g2.trans l9))) g12 hPg
instance {w : World} {I : Im} {L : Heap} {n : Nd} {a : Option Addr} {c : Nat} {K : KV} [hh : HH w I L] [kc : KidsC I a c n.kids] :
    XStep (XApp Tryz.prog 20 [.agg (List.toArray [.int .i64 n.op, .string ⟨n.text.toArray⟩, .int .i64 n.num, .slice a n.kids.length c])] w K)
      (XChk ((walkN 0 n).length ≤ 100000000 ∧ hws n.kids ≤ 100000000 ∧ ∀ h ∈ n.kids, wfH h) (CompPost n I L K)) := ⟨fun ⟨⟨h1, h2, h3⟩, k⟩ => compC h1 h2 h3 k⟩
end Go.Proofs

/- code: a tree's size and form. -/
namespace Go.Proofs
open Go.X
set_option maxHeartbeats 2000000
set_option maxRecDepth 100000
set_option linter.unusedVariables false
set_option linter.unusedSimpArgs false

mutual
def sz : Nd → Nat
  | .mk _ _ _ kids => 1 + szs kids
def szs : List Nd → Nat
  | [] => 0
  | k :: r => sz k + szs r
end
theorem sz_eq (n : Nd) : sz n = 1 + szs n.kids := by cases n; rw [sz]; rfl
theorem szs_snoc (l : List Nd) (k : Nd) : szs (l ++ [k]) = szs l + sz k := by
  induction l with
  | nil => simp [szs]
  | cons x l ih => simp only [List.cons_append, szs, ih]; omega
theorem szs_mem {l : List Nd} {x : Nd} (h : x ∈ l) : sz x ≤ szs l := by
  induction l with
  | nil => simp at h
  | cons y l ih =>
    rw [szs]
    rcases List.mem_cons.1 h with rfl | h
    · omega
    · have := ih h; omega
theorem szs_len (l : List Nd) : l.length ≤ szs l := by
  induction l with
  | nil => simp
  | cons y l ih => rw [szs, List.length_cons, sz_eq]; omega
mutual
theorem walkN_sz : ∀ (d : Int) (n : Nd), (walkN d n).length = sz n
  | d, .mk _ _ _ kids => by rw [walkN, sz, List.length_cons, walkNs_sz (d + 1) kids]; omega
theorem walkNs_sz : ∀ (d : Int) (l : List Nd), (walkNs d l).length = szs l
  | d, [] => by rw [walkNs, szs]; rfl
  | d, k :: r => by rw [walkNs, szs, List.length_append, walkN_sz d k, walkNs_sz d r]
end
mutual
theorem wgt_sz : ∀ n : Nd, wgt n + 1 ≤ 4 * sz n
  | .mk _ _ _ kids => by rw [wgt, sz]; have := wgts_sz kids; omega
theorem wgts_sz : ∀ l : List Nd, wgts l ≤ 4 * szs l
  | [] => by rw [wgts, szs]; omega
  | k :: r => by rw [wgts, szs]; have := wgt_sz k; have := wgts_sz r; omega
end
mutual
theorem sw_sz : ∀ n : Nd, sw n + 1 ≤ 7 * sz n
  | .mk _ _ _ [] => by rw [sw, sz, szs]; omega
  | .mk _ _ _ [e] => by rw [sw, sz, szs, szs]; have := wgt_sz e; omega
  | .mk _ _ _ [e, b] => by rw [sw, sz, szs, szs, szs]; have := wgt_sz e; have := bw_sz b; omega
  | .mk _ _ _ (e :: b :: c :: r) => by rw [sw, sz, szs, szs, szs]; have := wgt_sz e; have := bw_sz b; have := bw_sz c; omega
theorem bw_sz : ∀ n : Nd, bw n + 7 ≤ 7 * sz n
  | .mk _ _ _ kids => by rw [bw, sz]; have := bws_sz kids; omega
theorem bws_sz : ∀ l : List Nd, bws l ≤ 7 * szs l
  | [] => by rw [bws, szs]; omega
  | k :: r => by rw [bws, szs]; have := sw_sz k; have := bws_sz r; omega
end
theorem hw_sz (n : Nd) : hw n ≤ 10 * sz n := by
  unfold hw body
  rw [sz_eq]
  have h1 := szs_len n.kids
  cases h : n.kids.getLast? with
  | none => simp only [Option.getD_none, Nd.zero]; rw [bw, bws]; omega
  | some x =>
    have h2 := szs_mem (List.mem_of_getLast? h)
    have h3 := bw_sz x
    simp only [Option.getD_some]
    omega
theorem hws_sz (l : List Nd) : hws l ≤ 10 * szs l := by
  induction l with
  | nil => rw [hws, szs]; omega
  | cons k r ih => rw [hws, szs]; have := hw_sz k; omega
/-! what is read has a form -/
def Good : Q → Nd → Prop
  | .stmt, n => wfS n
  | .stmts out, n => (∀ x ∈ out, wfS x) → wfB n
  | .block, n => wfB n
  | .deep (.stmts out), n => (∀ x ∈ out, wfS x) → wfB n
  | .script out, n => (∀ x ∈ out, wfH x) → ∀ x ∈ n.kids, wfH x
  | _, _ => True
theorem wfBs_of {l : List Nd} (h : ∀ x ∈ l, wfS x) : wfBs l := by
  induction l with
  | nil => rw [wfBs]; trivial
  | cons k r ih => rw [wfBs]; exact ⟨h k (by simp), ih fun x hx => h x (by simp [hx])⟩
def PG' (q : Q) (r : PRes) : Prop := ∀ n s', r = some (n, s') → Good q n
theorem PG'.some {q : Q} {n : Nd} {s : PS} (h : Good q n) : PG' q (some (n, s)) := fun _ _ e => by cases e; exact h
theorem PG'.bind {q q1 : Q} {a : PRes} {k : Nd × PS → PRes} (h : PG' q1 a) (hk : ∀ n s, Good q1 n → PG' q (k (n, s))) : PG' q (a.bind k) := fun n s' e => by
  cases ea : a with
  | none => rw [ea] at e; cases e
  | some x => rw [ea] at e; exact hk x.1 x.2 (h _ _ ea) _ _ e
theorem PG'.ite {q : Q} {c : Prop} [Decidable c] {a b : PRes} (h : PG' q a) (h' : PG' q b) : PG' q (if c then a else b) := by
  split <;> assumption
theorem Good.of {q : Q} {n : Nd} (h : Good q n = True) : Good q n := h ▸ trivial
theorem prun_good : ∀ (f : Nat) (q : Q) (s : PS), PG' q (prun f q s)
  | 0, _, _ => fun _ _ h => by simp [prun] at h
  | f + 1, q, s => by
    have ih := prun_good f
    cases q with
    | stmt =>
      rw [prun]
      refine .ite (.bind (ih _ _) fun n s1 _ => .bind (ih _ _) fun b s2 hb => .ite (.bind (ih _ _) fun c s3 hc => .some ?_) (.some ?_)) (.ite (.bind (ih _ _) fun n s1 _ => .bind (ih _ _) fun b s2 hb => .some ?_) (.ite (.some ?_) (.ite (.bind (ih _ _) fun n s1 _ => .some ?_) (.bind (ih _ _) fun n s1 _ => .some ?_))))
      · show wfS _; rw [wfS]; exact ⟨rfl, hb, hc⟩
      · show wfS _; rw [wfS]; exact ⟨.inl rfl, hb⟩
      · show wfS _; rw [wfS]; exact ⟨.inr rfl, hb⟩
      · show wfS _; rw [wfS]
      · show wfS _; rw [wfS]; exact .inl rfl
      · show wfS _; rw [wfS]; exact .inr rfl
    | stmts out =>
      rw [prun]
      refine .ite (.some ?_) (.ite (.some ?_) (.bind (ih _ _) fun n s1 h1 n' s' e => ?_))
      · intro h; rw [wfB]; exact wfBs_of h
      · intro h; rw [wfB]; exact wfBs_of h
      · have h2 := ih _ _ _ _ e
        intro h
        refine h2 fun x hx => ?_
        rcases List.mem_append.1 hx with hx | hx
        · exact h x hx
        · rw [List.mem_singleton.1 hx]; exact h1
    | block =>
      rw [prun]
      intro n s' e
      exact ih _ _ _ _ e (by simp)
    | deep q =>
      cases q with
      | stmts out =>
        rw [prun]
        refine .ite (.some ?_) (.bind (ih _ _) fun n s1 h1 => .some h1)
        intro _; rw [Nd.zero, wfB, wfBs]; trivial
      | _ => exact fun _ _ _ => trivial
    | script out =>
      rw [prun]
      refine .ite (.some fun h => h) (.bind (ih _ _) fun n s1 _ => .bind (ih _ _) fun b s2 hb n' s' e => ?_)
      have h2 := ih _ _ _ _ e
      intro h
      refine h2 fun x hx => ?_
      rcases List.mem_append.1 hx with hx | hx
      · exact h x hx
      · rw [List.mem_singleton.1 hx]
        refine ⟨by simp [Nd.kids], ?_⟩
        show wfB (body _)
        unfold body
        simp only [Nd.kids, List.getLast?_append, List.getLast?_singleton, Option.some_or, Option.getD_some]
        exact hb
    | _ => exact fun _ _ _ => trivial
/-! what is read is no greater than what it is read from -/
def szo : Q → Nat
  | .loop _ n => sz n
  | .args _ out => szs out
  | .stmts out => szs out
  | .deep q => szo q
  | .script out => 1 + szs out
  | _ => 0
def OkQ : Q → Prop
  | .args q _ => szo q = 0 ∧ OkQ q
  | .list q => szo q = 0 ∧ OkQ q
  | .deep q => OkQ q
  | _ => True
def PB (r : PRes) (m : Nat) : Prop := ∀ n s', r = some (n, s') → s'.e ≠ 0 ∨ sz n + 2 * s'.l.length ≤ m
theorem PB.some {n : Nd} {s : PS} {m : Nat} (h : s.e ≠ 0 ∨ sz n + 2 * s.l.length ≤ m) : PB (some (n, s)) m := fun _ _ e => by cases e; exact h
theorem PB.bind {a : PRes} {k : Nd × PS → PRes} {m m' : Nat} (h : PB a m') (hk : ∀ n s, s.e = 0 → sz n + 2 * s.l.length ≤ m' → PB (k (n, s)) m) (he : ∀ n s, s.e ≠ 0 → PE (k (n, s))) : PB (a.bind k) m := fun n s' e => by
  cases ea : a with
  | none => rw [ea] at e; cases e
  | some x =>
    rw [ea] at e
    by_cases h0 : x.2.e = 0
    · exact hk x.1 x.2 h0 ((h _ _ ea).resolve_left (fun h => h h0)) _ _ e
    · exact .inl (he x.1 x.2 h0 _ _ e)
theorem PB.ite {c : Prop} [Decidable c] {a b : PRes} {m : Nat} (h : c → PB a m) (h' : ¬ c → PB b m) : PB (if c then a else b) m := by
  split
  · exact h ‹_›
  · exact h' ‹_›
theorem PB.mono {r : PRes} {m m' : Nat} (h : PB r m') (hm : m' ≤ m) : PB r m := fun n s e => (h n s e).imp_right fun h => by omega
theorem PB.err {f : Nat} {q : Q} {s : PS} {m : Nat} (h : s.e ≠ 0) : PB (prun f q s) m := fun n s' e => .inl (prun_err f q s h n s' e)
theorem takeS_len {k : Int} {s : PS} (hk : k ≠ 0) (h : takeS k s = true) : s.next.l.length + 1 = s.l.length := by
  have h1 := (takeS_e h).2
  have hn := (next_len s).1
  cases e : s.l with
  | nil => rw [PS.hd, e] at h1; exact absurd h1.symm hk
  | cons g r => rw [e] at hn; simp at hn ⊢; omega
theorem nameS_e (s : PS) : (nameS s).2.e ≠ 0 ∨ (nameS s).2.l.length + 1 = s.l.length := by
  unfold nameS; split
  · exact .inr (takeS_len (k := 1) (by decide) ‹_›)
  · exact .inl (failS_e s 2 (by decide))
theorem deepS_l (s : PS) : (deepS s).l = s.l := by unfold deepS; split; exact (failS_l s 9).1; rfl
theorem opS_len {i : Nat} {s : PS} {x : Bs} (h : opS i s = some x) : s.next.l.length + 1 = s.l.length := by
  have := List.find?_some h
  exact isB_len this
theorem prun_sz : ∀ (f : Nat) (q : Q) (s : PS), OkQ q → PB (prun f q s) (2 * s.l.length + szo q)
  | 0, _, _, _ => fun _ _ h => by simp [prun] at h
  | f + 1, q, s, ok => by
    have ih := prun_sz f
    have er := fun q s => @prun_err f q s
    cases q with
    | level i =>
      rw [prun]
      refine .ite (fun _ => (ih _ _ (by first | exact trivial | exact ⟨rfl, trivial⟩)).mono (Nat.le_refl _)) fun _ => .bind (ih _ _ (by first | exact trivial | exact ⟨rfl, trivial⟩)) (fun n s1 _ h1 => (ih _ _ (by first | exact trivial | exact ⟨rfl, trivial⟩)).mono ?_) fun n s1 h => er _ _ h
      show 2 * s1.l.length + sz n ≤ _; simp only [szo] at *; omega
    | loop i out =>
      rw [prun]
      cases ho : opS i s with
      | none => exact .some (.inr (by simp only [szo]; omega))
      | some x =>
        have h0 := opS_len ho
        refine .bind (ih _ _ (by first | exact trivial | exact ⟨rfl, trivial⟩)) (fun n s1 _ h1 => .ite (fun _ => .some (.inr ?_)) fun _ => (ih _ _ (by first | exact trivial | exact ⟨rfl, trivial⟩)).mono ?_) fun n s1 h => .ite (.some h) (er _ _ h)
        all_goals
          simp only [szo] at *
          try rw [sz]
          simp only [sz, szs] at *
          omega
    | unary =>
      rw [prun]
      refine .ite (fun h => ?_) fun _ => .ite (fun h => ?_) fun _ => (ih _ _ (by first | exact trivial | exact ⟨rfl, trivial⟩)).mono (Nat.le_refl _)
      all_goals
        have h0 := isB_len h
        refine .bind (ih _ _ (by first | exact trivial | exact ⟨rfl, trivial⟩)) (fun n s1 _ h1 => .some (.inr ?_)) fun n s1 h => .some h
        simp only [szo, sz, szs] at *
        omega
    | primary =>
      rw [prun]
      refine .ite (fun h => ?_) fun _ => .ite (fun h => ?_) fun _ => .ite (fun h => ?_) fun _ => .ite (fun h => ?_) fun _ => .ite (fun h => ?_) fun _ => ?_
      · have h0 := takeS_len (by decide) h
        exact .some (.inr (by simp only [szo, sz, szs]; omega))
      · have h0 := takeS_len (by decide) h
        exact .some (.inr (by simp only [szo, sz, szs]; omega))
      · have h0 := isB_len h
        exact .some (.inr (by simp only [szo, sz, szs]; omega))
      · have h0 := isB_len h
        refine .bind (ih _ _ (by first | exact trivial | exact ⟨rfl, trivial⟩)) (fun n s1 _ h1 => .some (.inr ?_)) fun n s1 h => .some (mustS_ne h _)
        have := mustS_le [41] s1
        simp only [szo] at *
        omega
      · have h0 := isB_len h
        have h2 := nameS_le s
        refine .bind (ih _ _ (by first | exact trivial | exact ⟨rfl, trivial⟩)) (fun n s1 _ h1 => .some (.inr ?_)) fun n s1 h => .some h
        simp only [szo] at *
        rw [sz]
        rw [sz_eq] at h1
        omega
      · rcases nameS_e s with h | h
        · exact .some (.inl h)
        · exact .some (.inr (by simp only [szo, sz, szs]; omega))
    | deep q =>
      rw [prun]
      refine .ite (fun h => .some (.inl h)) fun _ => .bind (ih _ _ ok) (fun n s1 _ h1 => .some (.inr ?_)) fun n s1 h => .some h
      rw [deepS_l] at h1
      simp only [szo] at *
      omega
    | var =>
      rw [prun]
      rcases nameS_e s with h | h
      · exact .some (.inl h)
      · exact .some (.inr (by simp only [szo, sz, szs]; omega))
    | list q =>
      rw [prun]
      refine .ite (fun h => ?_) fun _ => (ih (.args q []) _ ok).mono (by simp only [szo, szs]; omega)
      have h0 := isB_len h
      exact .some (.inr (by simp only [szo, sz, szs, Nd.zero]; omega))
    | args q out =>
      rw [prun]
      refine .ite (fun h => .some (.inl h)) fun _ => .bind (ih _ _ ok.2) (fun n s1 _ h1 => ?_) fun n s1 h => .ite (.some h) (er _ _ (mustS_ne h _))
      have ok1 := ok.1
      have h2 := mustS_le [44] s1
      refine .ite (fun h => .some (.inr ?_)) fun _ => (ih (.args q (out ++ [n])) _ ok).mono ?_
      · have h0 := isB_len h
        simp only [szo, sz, szs_snoc] at *; omega
      · simp only [szo, szs_snoc] at *; omega
    | block =>
      rw [prun]
      rcases mustS_e [123] s with h | h
      · exact .err h
      · exact (ih _ _ (by first | exact trivial | exact ⟨rfl, trivial⟩)).mono (by simp only [szo, szs]; omega)
    | stmts out =>
      rw [prun]
      refine .ite (fun h => .some (.inl h)) fun _ => .ite (fun h => ?_) fun _ => .bind (ih _ _ (by first | exact trivial | exact ⟨rfl, trivial⟩)) (fun n s1 _ h1 => (ih _ _ (by first | exact trivial | exact ⟨rfl, trivial⟩)).mono ?_) fun n s1 h => er _ _ h
      · have h0 := isB_len h
        exact .some (.inr (by simp only [szo, sz]; omega))
      · simp only [szo, szs_snoc] at *; omega
    | stmt =>
      rw [prun]
      refine .ite (fun h => ?_) fun _ => .ite (fun h => ?_) fun _ => .ite (fun h => ?_) fun _ => .ite (fun h => ?_) fun _ => ?_
      · have h0 := isB_len h
        refine .bind (ih _ _ (by first | exact trivial | exact ⟨rfl, trivial⟩)) (fun n s1 _ h1 => .bind (ih _ _ (by first | exact trivial | exact ⟨rfl, trivial⟩)) (fun b s2 _ h2 => .ite (fun h => .bind (ih _ _ (by first | exact trivial | exact ⟨rfl, trivial⟩)) (fun c s3 _ h3 => .some (.inr ?_)) fun n s1 h => .some h) fun _ => .some (.inr ?_)) fun n s1 h => .ite (.bind (er _ _ h) fun _ _ h => .some h) (.some h))
          fun n s1 h => .bind (er _ _ h) fun _ _ h => .ite (.bind (er _ _ h) fun _ _ h => .some h) (.some h)
        · have h4 := isB_len h
          simp only [szo, sz, szs] at *; omega
        · simp only [szo, sz, szs] at *; omega
      · have h0 := isB_len h
        refine .bind (ih _ _ (by first | exact trivial | exact ⟨rfl, trivial⟩)) (fun n s1 _ h1 => .bind (ih _ _ (by first | exact trivial | exact ⟨rfl, trivial⟩)) (fun b s2 _ h2 => .some (.inr ?_)) fun n s1 h => .some h) fun n s1 h => .bind (er _ _ h) fun _ _ h => .some h
        simp only [szo, sz, szs] at *; omega
      · have h0 := isB_len h
        have := mustS_le [59] s.next
        exact .some (.inr (by simp only [szo, sz, szs]; omega))
      · have h0 := nameS_le s
        rcases mustS_e [61] (nameS s).2 with h | h
        · exact .bind (m' := 0) (.err h) (fun n s1 _ h1 => by rw [sz_eq] at h1; omega) fun n s1 h => .some (mustS_ne h _)
        · refine .bind (ih _ _ (by first | exact trivial | exact ⟨rfl, trivial⟩)) (fun n s1 _ h1 => ?_) fun n s1 h => .some (mustS_ne h _)
          have := mustS_le [59] s1
          exact .some (.inr (by simp only [szo, sz, szs] at *; omega))
      · refine .bind (ih _ _ (by first | exact trivial | exact ⟨rfl, trivial⟩)) (fun n s1 _ h1 => ?_) fun n s1 h => .some (mustS_ne h _)
        rcases mustS_e [59] s1 with h | h
        · exact .some (.inl h)
        · exact .some (.inr (by simp only [szo, sz, szs] at *; omega))
    | script out =>
      rw [prun]
      refine .ite (fun h => .some ?_) fun _ => ?_
      · exact .inr (by simp only [szo, sz]; omega)
      · have h1 := mustS_le [40] (nameS (mustS [111, 110] s)).2
        have h2 := nameS_le (mustS [111, 110] s)
        have h3 := mustS_le [111, 110] s
        refine .bind (ih _ _ (by first | exact trivial | exact ⟨rfl, trivial⟩)) (fun n s1 _ h4 => .bind (ih _ _ (by first | exact trivial | exact ⟨rfl, trivial⟩)) (fun b s2 _ h5 => (ih _ _ (by first | exact trivial | exact ⟨rfl, trivial⟩)).mono ?_) fun n s1 h => er _ _ h) fun n s1 h => .bind (er _ _ h) fun _ _ h => er _ _ h
        rw [sz_eq] at h4
        simp only [szo, sz, szs_snoc] at *
        omega
theorem signsGo_len (t : Bs) : ∀ (f i : Nat) (out l : List Sg), out.length ≤ 1024 → signsGo t f i out = .ok l → l.length ≤ 1025
  | 0, _, _, _, _, h => by simp [signsGo] at h
  | f + 1, i, out, l, ho, h => by
    rw [signsGo] at h
    split at h
    · cases h; simp; omega
    · dsimp only at h
      split at h
      · cases h
      · rename_i h1
        split at h
        · cases h
        · rename_i h2
          refine signsGo_len t f _ _ l ?_ h
          have := Classical.not_not.1 h2
          simp
          omega
theorem signsF_len {t : Bs} {l : List Sg} (h : signsF t = .ok l) : l.length ≤ 1025 := by
  unfold signsF at h
  split at h
  · cases h
  · exact signsGo_len _ _ _ _ _ (by simp) h
/-- what Parse says can be compiled -/
theorem ParseR.good {t : Bs} {n : Nd} (h : ParseR t (.ok n)) : (walkN 0 n).length ≤ 100000000 ∧ hws n.kids ≤ 100000000 ∧ ∀ h ∈ n.kids, wfH h := by
  unfold ParseR at h
  split at h
  · cases h
  · rename_i l hl
    obtain ⟨m, s, ⟨f, hf⟩, hr⟩ := h
    have hlen := signsF_len hl
    split at hr
    · cases hr
    · split at hr
      · cases hr
        rename_i he _
        have h1 := (prun_sz f (.script []) _ trivial _ _ hf).resolve_left he
        have h2 := prun_good f _ _ _ _ hf (by simp)
        have h3 := hws_sz n.kids
        rw [sz_eq] at h1
        simp only [szo, szs] at h1
        refine ⟨?_, ?_, h2⟩
        · rw [walkN_sz, sz_eq]; omega
        · omega
      · cases hr
end Go.Proofs

/- code: Of, twin, Handler, Names, Calls. -/
namespace Go.Proofs
open Go.X
set_option maxHeartbeats 2000000
set_option maxRecDepth 100000
set_option linter.unusedVariables false
set_option linter.unusedSimpArgs false

/-- what Of says of a text -/
def OfR (t : Bs) (r : Except Int PG) (calls : List Bs) : Prop := ∃ q, ParseR t q ∧ match q with
  | .error e => r = .error e
  | .ok n => r = compF n ∧ calls = setF (collAll n).calls
structure OfPost (t : Bs) (I : Im) (L : Heap) (K : KV) : Prop where
  ok : ∀ pg cs w' I' bp, OfR t (.ok pg) cs → I.Le I' → HH w' I' L → PgC I' bp pg cs → K (.tuple (List.toArray [.pointer (some ⟨bp, 0, none⟩), .int .i64 0])) w'
  err : ∀ e cs w' I', OfR t (.error e) cs → I.Le I' → HH w' I' L → K (.tuple (List.toArray [.pointer none, .int .i64 e])) w'
theorem codeOfC {w : World} {I : Im} {L : Heap} {a : Option Addr} {c : Nat} {xs : Bs} {K : KV} [hh : HH w I L] [sl : SlA I a 1 bEnc xs] (hx : xs.length ≤ 1000000000 ∧ xs.length ≤ c) (k : OfPost xs I L K) :
    XApp Tryz.prog 8 [.slice a xs.length c] w K := by
  refine .of Tryz.func8 ?_
  repeat' (conv => whnf
           first
             | exact trivial
             | refine XStep.go ?_
             | refine XChk.mk (by first | omega | decide | (simp only [List.length_take, List.length_drop]; omega) | (simp only [List.length_append, List.length_cons, List.length_nil]; omega)) ?_
             | refine XBoth.mk ?_ ?_
             | (refine ParsePost.mk (fun n w1 I1 a1 c1 h1 h2 h3 h4 => ?_) (fun e w1 h1 h2 h3 => ?_))
             | intro xx
             | (refine XBr.t (by omega) ?_)
             | (refine XBr.f (by omega) ?_)
             | refine XOpt.mk (fun x hc => ?_) (fun hc => ?_)
             | refine XRes.mk (fun x hc => ?_) (fun x hc => ?_)
             | refine XBr.mk (fun hc => ?_) (fun hc => ?_)
             | refine XIf.mk (fun hc => ?_) (fun hc => ?_))
  all_goals try conv => whnf
  · refine XChk.mk h1.good (CompPost.mk (fun pg w2 I2 bp g1 g2 g3 g4 => ?_) (fun e w2 g1 g2 => ?_))
    all_goals
      conv => whnf
    repeat' (conv => whnf
             first
               | exact trivial
               | refine XStep.go ?_
               | refine XChk.mk (by first | omega | decide | (simp only [List.length_take, List.length_drop]; omega) | (simp only [List.length_append, List.length_cons, List.length_nil]; omega)) ?_
               | refine XBoth.mk ?_ ?_
               | intro xx
               | (refine XBr.t (by omega) ?_)
               | (refine XBr.f (by omega) ?_)
               | refine XOpt.mk (fun x hc => ?_) (fun hc => ?_)
               | refine XRes.mk (fun x hc => ?_) (fun x hc => ?_)
               | refine XBr.mk (fun hc => ?_) (fun hc => ?_)
               | refine XIf.mk (fun hc => ?_) (fun hc => ?_))
    all_goals conv => whnf
    · exact k.ok pg _ w2 I2 bp ⟨_, h1, g1.symm, rfl⟩ (h2.trans g2) HH.fin g4
    · exact k.err e _ w2 I1 ⟨_, h1, g1.symm, rfl⟩ h2 HH.fin
  · exact k.err e [] _ I ⟨_, h1, rfl⟩ (.refl _) HH.fin
instance {w : World} {I : Im} {L : Heap} {a : Option Addr} {c : Nat} {xs : Bs} {K : KV} [hh : HH w I L] [sl : SlA I a 1 bEnc xs] :
    XStep (XApp Tryz.prog 8 [.slice a xs.length c] w K) (XChk (xs.length ≤ 1000000000 ∧ xs.length ≤ c) (OfPost xs I L K)) := ⟨fun ⟨h, k⟩ => codeOfC h k⟩
instance cloneIn {w : World} {I : Im} {L : Heap} {a : Option Addr} {c : Nat} {xs : List In} {K : KV} [hh : HH w I L] [sl : SlA I a 3 inEnc xs] :
    XStep (XApp Tryz.prog 56 [.slice a xs.length c] w K) (XChk (xs.length ≤ 1000000000) (∀ w' a' cap' E', HH w' I (E' ++ L) → SO TIn a' cap' 3 inEnc xs E' → K (.slice a' xs.length cap') w')) := ⟨fun ⟨hx, k⟩ => by
  refine .of Tryz.func56 ?_
  repeat' (conv => whnf
           first
             | exact trivial
             | refine XStep.go ?_
             | refine XChk.mk (by first | omega | decide | (simp only [List.length_take, List.length_drop]; omega) | (simp only [List.length_append, List.length_cons, List.length_nil]; omega)) ?_
             | refine XBoth.mk ?_ ?_
             | intro xx
             | (refine XBr.t (by omega) ?_)
             | (refine XBr.f (by omega) ?_)
             | refine XOpt.mk (fun x hc => ?_) (fun hc => ?_)
             | refine XRes.mk (fun x hc => ?_) (fun x hc => ?_)
             | refine XBr.mk (fun hc => ?_) (fun hc => ?_)
             | refine XIf.mk (fun hc => ?_) (fun hc => ?_))
  all_goals conv => whnf
  · have e : xs = [] := by
      rcases sl.ex with h | ⟨b, o, h, _⟩
      · exact h
      · rw [hc] at h; cases h
    subst e
    exact k _ none 0 [] hh SO.nil
  · exact k _ _ _ _ ‹_› ‹_›⟩
/-- a handler's value -/
abbrev HV.v (x : HV) : Value := .agg (List.toArray [.slice x.ap x.h.params.length x.cp, .slice x.al x.h.code.length x.cl])
instance twinC {w : World} {I : Im} {L : Heap} {ap al : Option Addr} {cp cl : Nat} {ps : List Int} {l : List In} {K : KV} [hh : HH w I L] [s1 : SlA I ap 1 iEnc ps] [s2 : SlA I al 3 inEnc l] :
    XStep (XApp Tryz.prog 35 [.agg (List.toArray [.slice ap ps.length cp, .slice al l.length cl])] w K) (XChk (ps.length ≤ 1000000000 ∧ l.length ≤ 1000000000)
      (∀ w' I' x, I.Le I' → HH w' I' L → HVok I' x → x.h = ⟨ps, l⟩ → K x.v w')) := ⟨fun ⟨hx, k⟩ => by
  refine .of Tryz.func35 ?_
  repeat' (conv => whnf
           first
             | exact trivial
             | refine XStep.go ?_
             | refine XChk.mk (by first | omega | decide | (simp only [List.length_take, List.length_drop]; omega) | (simp only [List.length_append, List.length_cons, List.length_nil]; omega)) ?_
             | refine XBoth.mk ?_ ?_
             | (refine XCode.drawH (id := 1) #[.pur, .qui, .lou, .pur, .qui, .lou, .pur, .lou] (.one 0 (.one 3 (.one 1 (.br 2 (.one 4 (.one 5 (.one 6 (.one 7 .done)))) (.br 4 (.one 2 (.one 5 (.one 6 (.one 7 .done)))) .non))))) mixed (by kernel_rfl) ?_)
             | intro xx
             | (refine XBr.t (by omega) ?_)
             | (refine XBr.f (by omega) ?_)
             | refine XOpt.mk (fun x hc => ?_) (fun hc => ?_)
             | refine XRes.mk (fun x hc => ?_) (fun x hc => ?_)
             | refine XBr.mk (fun hc => ?_) (fun hc => ?_)
             | refine XIf.mk (fun hc => ?_) (fun hc => ?_))
  all_goals
    conv => whnf
    obtain ⟨I6, hl6, hh6, hs6, hc6⟩ := soFrz (h := ‹HH _ I _›) ‹SO _ _ _ 1 iEnc ps _›
    obtain ⟨I7, hl7, hh7, hs7, hc7⟩ := soFrz (h := hh6) ‹SO _ _ _ 3 inEnc l _›
    exact k _ I7 ⟨⟨ps, l⟩, _, _, _, _⟩ (hl6.trans hl7) HH.fin ⟨hs6.mono hl7, hc6, hs7, hc7⟩ rfl⟩
instance twin0 {w : World} {I : Im} {L : Heap} {K : KV} [hh : HH w I L] :
    XStep (XApp Tryz.prog 35 [.agg (List.toArray [.slice none 0 0, .slice none 0 0])] w K)
      (∀ w' I' x, I.Le I' → HH w' I' L → HVok I' x → x.h = ⟨[], []⟩ → K x.v w') := ⟨fun k => by
  have s1 : SlA I none 1 iEnc ([] : List Int) := ⟨.inl rfl⟩
  have s2 : SlA I none 3 inEnc ([] : List In) := ⟨.inl rfl⟩
  exact (twinC (hh := hh) (s1 := s1) (s2 := s2) (K := K) (ap := none) (al := none) (cp := 0) (cl := 0) (ps := []) (l := [])).go ⟨⟨by simp, by simp⟩, k⟩⟩
/-! a program that isn't there -/
instance handlerN {w : World} {I : Im} {L : Heap} {t : Bs} {K : KV} [hh : HH w I L] :
    XStep (XApp Tryz.prog 13 [.pointer none, .string ⟨t.toArray⟩] w K) (∀ w', HH w' I L → K (.tuple (List.toArray [.agg (List.toArray [.slice none 0 0, .slice none 0 0]), .bool false])) w') := ⟨fun k => by
  refine .of Tryz.func13 ?_
  repeat' (conv => whnf
           first
             | exact trivial
             | refine XStep.go ?_
             | refine XChk.mk (by first | omega | decide | (simp only [List.length_take, List.length_drop]; omega) | (simp only [List.length_append, List.length_cons, List.length_nil]; omega)) ?_
             | refine XBoth.mk ?_ ?_
             | intro xx
             | (refine XBr.t (by omega) ?_)
             | (refine XBr.f (by omega) ?_)
             | refine XOpt.mk (fun x hc => ?_) (fun hc => ?_)
             | refine XRes.mk (fun x hc => ?_) (fun x hc => ?_)
             | refine XBr.mk (fun hc => ?_) (fun hc => ?_)
             | refine XIf.mk (fun hc => ?_) (fun hc => ?_))
  conv => whnf
  exact k _ HH.fin⟩
instance namesN {w : World} {I : Im} {L : Heap} {K : KV} [hh : HH w I L] :
    XStep (XApp Tryz.prog 12 [.pointer none] w K) (∀ w', HH w' I L → K (.slice none 0 0) w') := ⟨fun k => by
  refine .of Tryz.func12 ?_
  repeat' (conv => whnf
           first
             | exact trivial
             | refine XStep.go ?_
             | refine XChk.mk (by first | omega | decide | (simp only [List.length_take, List.length_drop]; omega) | (simp only [List.length_append, List.length_cons, List.length_nil]; omega)) ?_
             | refine XBoth.mk ?_ ?_
             | intro xx
             | (refine XBr.t (by omega) ?_)
             | (refine XBr.f (by omega) ?_)
             | refine XOpt.mk (fun x hc => ?_) (fun hc => ?_)
             | refine XRes.mk (fun x hc => ?_) (fun x hc => ?_)
             | refine XBr.mk (fun hc => ?_) (fun hc => ?_)
             | refine XIf.mk (fun hc => ?_) (fun hc => ?_))
  conv => whnf
  exact k _ HH.fin⟩
instance callsN {w : World} {I : Im} {L : Heap} {K : KV} [hh : HH w I L] :
    XStep (XApp Tryz.prog 14 [.pointer none] w K) (∀ w', HH w' I L → K (.agg (List.toArray [.slice none 0 0])) w') := ⟨fun k => by
  refine .of Tryz.func14 ?_
  repeat' (conv => whnf
           first
             | exact trivial
             | refine XStep.go ?_
             | refine XChk.mk (by first | omega | decide | (simp only [List.length_take, List.length_drop]; omega) | (simp only [List.length_append, List.length_cons, List.length_nil]; omega)) ?_
             | refine XBoth.mk ?_ ?_
             | intro xx
             | (refine XBr.t (by omega) ?_)
             | (refine XBr.f (by omega) ?_)
             | refine XOpt.mk (fun x hc => ?_) (fun hc => ?_)
             | refine XRes.mk (fun x hc => ?_) (fun x hc => ?_)
             | refine XBr.mk (fun hc => ?_) (fun hc => ?_)
             | refine XIf.mk (fun hc => ?_) (fun hc => ?_))
  conv => whnf
  exact k _ HH.fin⟩
instance constN {w : World} {I : Im} {L : Heap} {i : Int} {K : KV} [hh : HH w I L] :
    XStep (XApp Tryz.prog 16 [.pointer none, .int .i64 i] w K) (∀ w', HH w' I L → K VV.nil.v w') := ⟨fun k => by
  refine .of Tryz.func16 ?_
  repeat' (conv => whnf
           first
             | exact trivial
             | refine XStep.go ?_
             | refine XChk.mk (by first | omega | decide | (simp only [List.length_take, List.length_drop]; omega) | (simp only [List.length_append, List.length_cons, List.length_nil]; omega)) ?_
             | refine XBoth.mk ?_ ?_
             | intro xx
             | (refine XBr.t (by omega) ?_)
             | (refine XBr.f (by omega) ?_)
             | refine XOpt.mk (fun x hc => ?_) (fun hc => ?_)
             | refine XRes.mk (fun x hc => ?_) (fun x hc => ?_)
             | refine XBr.mk (fun hc => ?_) (fun hc => ?_)
             | refine XIf.mk (fun hc => ?_) (fun hc => ?_))
  conv => whnf
  exact k _ HH.fin⟩
instance trueC {w : World} {I : Im} {L : Heap} {n m : Int} {t : Bs} {K : KV} [hh : HH w I L] :
    XStep (XApp Tryz.prog 17 [.agg (List.toArray [.int .i64 n, .int .i64 m, .string ⟨t.toArray⟩])] w K) (∀ w', HH w' I L → K (.bool (decide (n = 3 ∨ m ≠ 0 ∨ t ≠ []))) w') := ⟨fun k => by
  refine .of Tryz.func17 ?_
  repeat' (conv => whnf
           first
             | exact trivial
             | refine XStep.go ?_
             | refine XChk.mk (by first | omega | decide | (simp only [List.length_take, List.length_drop]; omega) | (simp only [List.length_append, List.length_cons, List.length_nil]; omega)) ?_
             | refine XBoth.mk ?_ ?_
             | intro xx
             | (refine XBr.t (by omega) ?_)
             | (refine XBr.f (by omega) ?_)
             | refine XOpt.mk (fun x hc => ?_) (fun hc => ?_)
             | refine XRes.mk (fun x hc => ?_) (fun x hc => ?_)
             | refine XBr.mk (fun hc => ?_) (fun hc => ?_)
             | refine XIf.mk (fun hc => ?_) (fun hc => ?_))
  all_goals conv => whnf
  all_goals exact retTo (k _ HH.fin) (by simp [retV, *])⟩
/-! a program that is there -/
structure HandPost (o : Option Hn) (I : Im) (L : Heap) (K : KV) : Prop where
  some : ∀ h w' I' x, o = some h → I.Le I' → HH w' I' L → HVok I' x → x.h = h → K (.tuple (List.toArray [x.v, .bool true])) w'
  none : ∀ w' I' x, o = none → I.Le I' → HH w' I' L → HVok I' x → x.h = ⟨[], []⟩ → K (.tuple (List.toArray [x.v, .bool false])) w'
theorem handlerC {w : World} {I : Im} {L : Heap} {bp : Nat} {pg : PG} {cs : List Bs} {t : Bs} {K : KV} [hh : HH w I L] [hp : PgC I bp pg cs] (hl : ∀ p ∈ pg.2.2, p.2.params.length ≤ 1000000000 ∧ p.2.code.length ≤ 1000000000) (k : HandPost (mget pg.2.2 t) I L K) :
    XApp Tryz.prog 13 [.pointer (some ⟨bp, 0, none⟩), .string ⟨t.toArray⟩] w K := by
  obtain ⟨an, cn, ac, cc, bm, ak, m, h1, h2, h3, h4, h5, h6, h7, h8, h9⟩ := hp.ex
  rw [← h7] at hl k
  have hg := hvs_get m t
  refine .of Tryz.func13 ?_
  repeat' (conv => whnf
           first
             | exact trivial
             | refine XStep.go ?_
             | refine XChk.mk (by first | omega | decide | (simp only [List.length_take, List.length_drop]; omega) | (simp only [List.length_append, List.length_cons, List.length_nil]; omega)) ?_
             | refine XBoth.mk ?_ ?_
             | intro xx
             | (refine XBr.t (by omega) ?_)
             | (refine XBr.f (by omega) ?_)
             | refine XOpt.mk (fun x hc => ?_) (fun hc => ?_)
             | refine XRes.mk (fun x hc => ?_) (fun x hc => ?_)
             | refine XBr.mk (fun hc => ?_) (fun hc => ?_)
             | refine XIf.mk (fun hc => ?_) (fun hc => ?_))
  · rw [hc] at hg
    have hm : ∃ p ∈ m, p.2 = x := by
      unfold mget at hc
      cases hf : m.find? fun p => decide (p.1 = t) with
      | none => rw [hf] at hc; cases hc
      | some p => rw [hf] at hc; exact ⟨p, List.mem_of_find?_eq_some hf, by simpa using hc⟩
    obtain ⟨p, hp1, hp2⟩ := hm
    have hok := h8 p hp1
    have hle := hl (p.1, p.2.h) (by unfold hvs; exact List.mem_map.2 ⟨p, hp1, rfl⟩)
    rw [hp2] at hok hle
    have s1 := hok.p
    have s2 := hok.l
    conv => whnf
    repeat' (conv => whnf
             first
               | exact trivial
               | refine XStep.go ?_
               | refine XChk.mk (by first | omega | decide | (simp only [List.length_take, List.length_drop]; omega) | (simp only [List.length_append, List.length_cons, List.length_nil]; omega)) ?_
               | refine XBoth.mk ?_ ?_
               | intro xx
               | (refine XBr.t (by omega) ?_)
               | (refine XBr.f (by omega) ?_)
               | refine XOpt.mk (fun x hc => ?_) (fun hc => ?_)
               | refine XRes.mk (fun x hc => ?_) (fun x hc => ?_)
               | refine XBr.mk (fun hc => ?_) (fun hc => ?_)
               | refine XIf.mk (fun hc => ?_) (fun hc => ?_))
    conv => whnf
    exact k.some x.h _ _ _ hg (by assumption) HH.fin (by assumption) (by assumption)
  · rw [hc] at hg
    repeat' (conv => whnf
             first
               | exact trivial
               | refine XStep.go ?_
               | refine XChk.mk (by first | omega | decide | (simp only [List.length_take, List.length_drop]; omega) | (simp only [List.length_append, List.length_cons, List.length_nil]; omega)) ?_
               | refine XBoth.mk ?_ ?_
               | intro xx
               | (refine XBr.t (by omega) ?_)
               | (refine XBr.f (by omega) ?_)
               | refine XOpt.mk (fun x hc => ?_) (fun hc => ?_)
               | refine XRes.mk (fun x hc => ?_) (fun x hc => ?_)
               | refine XBr.mk (fun hc => ?_) (fun hc => ?_)
               | refine XIf.mk (fun hc => ?_) (fun hc => ?_))
    conv => whnf
    exact k.none _ _ _ hg (by assumption) HH.fin (by assumption) (by assumption)
instance {w : World} {I : Im} {L : Heap} {bp : Nat} {pg : PG} {cs : List Bs} {t : Bs} {K : KV} [hh : HH w I L] [hp : PgC I bp pg cs] :
    XStep (XApp Tryz.prog 13 [.pointer (some ⟨bp, 0, none⟩), .string ⟨t.toArray⟩] w K)
      (XChk (∀ p ∈ pg.2.2, p.2.params.length ≤ 1000000000 ∧ p.2.code.length ≤ 1000000000) (HandPost (mget pg.2.2 t) I L K)) := ⟨fun ⟨h, k⟩ => handlerC h k⟩
instance setLenC {w : World} {I : Im} {L : Heap} {a : Option Addr} {n c : Nat} {K : KV} [hh : HH w I L] :
    XStep (XApp Tryz.prog 15 [.agg (List.toArray [.slice a n c])] w K) (∀ w', HH w' I L → K (.int .i64 n) w') := ⟨fun k => by
  refine .of Tryz.func15 ?_
  repeat' (conv => whnf
           first
             | exact trivial
             | refine XStep.go ?_
             | refine XChk.mk (by first | omega | decide | (simp only [List.length_take, List.length_drop]; omega) | (simp only [List.length_append, List.length_cons, List.length_nil]; omega)) ?_
             | refine XBoth.mk ?_ ?_
             | intro xx
             | (refine XBr.t (by omega) ?_)
             | (refine XBr.f (by omega) ?_)
             | refine XOpt.mk (fun x hc => ?_) (fun hc => ?_)
             | refine XRes.mk (fun x hc => ?_) (fun x hc => ?_)
             | refine XBr.mk (fun hc => ?_) (fun hc => ?_)
             | refine XIf.mk (fun hc => ?_) (fun hc => ?_))
  conv => whnf
  exact k _ HH.fin⟩
end Go.Proofs
