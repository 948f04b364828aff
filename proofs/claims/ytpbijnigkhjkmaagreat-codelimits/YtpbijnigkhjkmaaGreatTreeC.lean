/- tree: a statement. -/
import Derived.Test.YtpbijnigkhjkmaaGreatTreeB
import Derived.Test.YtpbijnigkhjkmaaGreatLex
namespace Go.Proofs
open Go.X
set_option maxHeartbeats 2000000
set_option linter.unusedVariables false
set_option linter.unusedSimpArgs false

theorem mustS_d (t : Bs) (s : PS) : (mustS t s).d = s.d := by unfold mustS; split; rfl; exact (failS_l s 2).2
theorem nameS_d (s : PS) : (nameS s).2.d = s.d := by unfold nameS; split; rfl; exact (failS_l s 2).2
section
variable {s s1 s2 s3 : PS} {n1 n2 n3 : Nd}
theorem stmDo (h1 : isB [105, 102] s = false) (h2 : isB [119, 104, 105, 108, 101] s = false) (h3 : isB [115, 116, 111, 112] s = false) (h4 : ¬ atSet s) (hd : PDone (.level 0) s s1 n1) : PDone .stmt s (mustS [59] s1) (.mk 4 [] 0 [n1]) :=
  PDone.of1 hd (Nat.le_refl _) rfl (mustS_le _ _) (mustS_d _ _) fun f hf => by simp [prun, h1, h2, h3, h4, hf]
theorem stmSet (h1 : isB [105, 102] s = false) (h2 : isB [119, 104, 105, 108, 101] s = false) (h3 : isB [115, 116, 111, 112] s = false) (h4 : atSet s) (hd : PDone (.level 0) (mustS [61] (nameS s).2) s1 n1) : PDone .stmt s (mustS [59] s1) (.mk 3 (nameS s).1 0 [n1]) :=
  PDone.of1 hd (Nat.le_trans (mustS_le _ _) (nameS_le _)) (by rw [mustS_d, nameS_d]) (mustS_le _ _) (mustS_d _ _) fun f hf => by simp [prun, h1, h2, h3, h4, hf]
theorem stmStop (h1 : isB [105, 102] s = false) (h2 : isB [119, 104, 105, 108, 101] s = false) (h3 : isB [115, 116, 111, 112] s = true) : PDone .stmt s (mustS [59] s.next) (.mk 7 [] 0 []) :=
  ⟨⟨1, by simp [prun, h1, h2, h3]⟩, Nat.le_trans (mustS_le _ _) (next_le _), by rw [mustS_d]; rfl⟩
theorem stmIf (h1 : isB [105, 102] s = true) (hd : PDone (.level 0) s.next s1 n1) (hd2 : PDone .block s1 s2 n2) (h : isB [101, 108, 115, 101] s2 = false) : PDone .stmt s s2 (.mk 5 [] 0 [n1, n2]) :=
  ⟨PR.two hd.pr hd2.pr fun f hf hf2 => by simp [prun, h1, hf, hf2, h], Nat.le_trans hd2.len (Nat.le_trans hd.len (next_le _)), by rw [hd2.d, hd.d]; rfl⟩
theorem stmElse (h1 : isB [105, 102] s = true) (hd : PDone (.level 0) s.next s1 n1) (hd2 : PDone .block s1 s2 n2) (h : isB [101, 108, 115, 101] s2 = true) (hd3 : PDone .block s2.next s3 n3) : PDone .stmt s s3 (.mk 5 [] 0 [n1, n2, n3]) :=
  ⟨PR.three hd.pr hd2.pr hd3.pr fun f hf hf2 hf3 => by simp [prun, h1, hf, hf2, h, hf3], Nat.le_trans hd3.len (Nat.le_trans (next_le _) (Nat.le_trans hd2.len (Nat.le_trans hd.len (next_le _)))), by rw [hd3.d]; exact (hd2.d.trans hd.d)⟩
theorem stmWhile (h1 : isB [105, 102] s = false) (h2 : isB [119, 104, 105, 108, 101] s = true) (hd : PDone (.level 0) s.next s1 n1) (hd2 : PDone .block s1 s2 n2) : PDone .stmt s s2 (.mk 6 [] 0 [n1, n2]) :=
  ⟨PR.two hd.pr hd2.pr fun f hf hf2 => by simp [prun, h1, h2, hf, hf2], Nat.le_trans hd2.len (Nat.le_trans hd.len (next_le _)), by rw [hd2.d, hd.d]; rfl⟩
end
theorem kids1 {I : Im} {x : NV} {a : Option Addr} {c : Nat} (h : SlA I a 4 encN [x]) (hc : 1 ≤ c) (hx : KidsC I x.a x.c x.n.kids) : KidsC I a c [x.n] :=
  KidsC.of h (by simpa using hc) fun y hy => by rw [List.mem_singleton.1 hy]; exact hx
theorem PPost.fin {q : Q} {v : Env} {bp : Nat} {s s' : PS} {I I' : Im} {R R' L E : Heap} {K : KV} {w' : World} {n : Nd} {a : Option Addr} {c : Nat} {xs : List NV} (k : PPost q v bp s I R K) (hd : PDone q s s' n) (hl : I.Le I') (so : SO 63 a c 4 encN xs E)
    (hx : n.kids = xs.map (·.n)) (hk : ∀ x ∈ xs, KidsC I' x.a x.c x.n.kids) (ok : PSok I' v s') [hh : HH w' I' L] [hp : Split L E R'] [hs : SubL ((bp, PS.obj v s') :: R) R'] :
    K (.agg (List.toArray [.int .i64 n.op, .string ⟨n.text.toArray⟩, .int .i64 n.num, .slice a xs.length c])) w' := by
  obtain ⟨I2, hl2, hh2, hs2, hc2⟩ := so.freeze (hh.perm hp.perm)
  have hk2 := KidsC.of hs2 hc2 fun x hx => ⟨(hk x hx).p.mono hl2⟩
  have e : n.kids.length = xs.length := by rw [hx, List.length_map]
  rw [← hx] at hk2
  exact retTo (k.go n s' w' I2 a c hd (hl.trans hl2) HH.fin (ok.mono hl2) hk2) (by rw [← e])
theorem PPost.fin1 {q : Q} {v : Env} {bp : Nat} {s s' : PS} {I I' : Im} {R R' L : Heap} {K : KV} {w' : World} {n : Nd} {b : Nat} {x : NV} (k : PPost q v bp s I R K) (hd : PDone q s s' n) (hl : I.Le I')
    (hx : n.kids = [x.n]) (hk : KidsC I' x.a x.c x.n.kids) (ok : PSok I' v s') [hh : HH w' I' L] [r : Rem L b (.cells (List.toArray [.int .i64 x.n.op, .string ⟨x.n.text.toArray⟩, .int .i64 x.n.num, .slice x.a x.n.kids.length x.c]) 63 (0, 0)) R']
    [hs : SubL ((bp, PS.obj v s') :: R) R'] :
    K (.agg (List.toArray [.int .i64 n.op, .string ⟨n.text.toArray⟩, .int .i64 n.num, .slice (some ⟨b, 0, none⟩) 1 1])) w' :=
  k.fin (E := [(b, _)]) (xs := [x]) (hp := ⟨r.perm⟩) hd hl (SO.lit rfl rfl) hx (fun y hy => by rw [List.mem_singleton.1 hy]; exact hk) ok
theorem kidsOf2 {I : Im} {x y : NV} (h1 : KidsC I x.a x.c x.n.kids) (h2 : KidsC I y.a y.c y.n.kids) : ∀ z ∈ [x] ++ [y], KidsC I z.a z.c z.n.kids := fun z hz => by
  simp only [List.cons_append, List.nil_append, List.mem_cons, List.not_mem_nil, or_false] at hz
  rcases hz with rfl | rfl <;> assumption
theorem kidsOf3 {I : Im} {x y u : NV} (h1 : KidsC I x.a x.c x.n.kids) (h2 : KidsC I y.a y.c y.n.kids) (h3 : KidsC I u.a u.c u.n.kids) : ∀ z ∈ [x] ++ [y] ++ [u], KidsC I z.a z.c z.n.kids := fun z hz => by
  simp only [List.cons_append, List.nil_append, List.mem_cons, List.not_mem_nil, or_false] at hz
  rcases hz with rfl | rfl | rfl <;> assumption
theorem hd_of {I : Im} {v : Env} {s : PS} {g : Sg} (ok : PSok I v s) (h : At s.l (Int.toNat 0) g) : s.hd = g := Option.some.inj (ok.at0.eq.symm.trans h.eq)
theorem atSet_of {I : Im} {v : Env} {s : PS} {g g' : Sg} (ok : PSok I v s) (h : At s.l (Int.toNat 0) g) (h' : At s.l (Int.toNat 1) g') : atSet s ↔ g.kind = 1 ∧ g'.kind = 5 ∧ g'.text = [61] := by
  unfold atSet
  rw [hd_of ok h]
  have e : s.l[1]? = some g' := h'.eq
  rw [e]
  simp
theorem stmStep {m : Nat} [ih : PSS m] (v : Env) (w : World) (I : Im) (R : Heap) (bp : Nat) (s : PS) (K : KV) (hm : s.l.length * 32 + 9 ≤ m) (hh : HH w I ((bp, PS.obj v s) :: R)) (ok : PSok I v s) (k : PPost .stmt v bp s I R K) :
    XApp Tryz.prog 147 [.pointer (some ⟨bp, 0, none⟩)] w K := by
  have hle := ok.le
  have hn := next_len s
  have q1 := mustS_le [61] (nameS s).2
  have q2 := nameS_le s
  refine .of Tryz.func147 ?_
  repeat' (conv => whnf
           first
             | exact trivial
             | refine XStep.go ?_
             | refine XChk.mk (by first | omega | decide | (simp only [List.length_take, List.length_drop]; omega) | (simp only [List.length_append, List.length_cons, List.length_nil]; omega)) ?_
             | refine XBoth.mk ?_ ?_
             | ((refine PPost.mk (q := .level 0) fun n1 s1 w1 I1 a1 c1 hd1 hl1 hh1 ok1 hk1 => ?_; have hq1 := hd1.len))
             | ((have h2 := hd2; refine PPost.mk (q := .block) fun n3 s3 w3 I3 a3 c3 hd3 hl3 hh3 ok3 hk3 => ?_))
             | ((refine PPost.mk (q := .block) fun n2 s2 w2 I2 a2 c2 hd2 hl2 hh2 ok2 hk2 => ?_; have hq2 := hd2.len; have hn2 := next_len s2))
             | ((refine XChk.mk (by have := isB_len (s := s) (by assumption); omega) ?_))
             | (refine XCode.drawH (id := 3) #[.pur, .qui, .pur, .lou, .lou, .lou, .pur, .lou] (.one 0 (.one 2 (.br 1 (.one 3 (.one 4 (.one 5 (.one 6 (.one 7 .done))))) (.br 3 (.br 1 (.one 4 (.one 5 (.one 6 (.one 7 .done)))) (.br 4 (.one 1 (.one 5 (.one 6 (.one 7 .done)))) .non)) .non)))) mixed (by kernel_rfl) ?_)
             | (refine XCode.drawH (id := 5) #[.pur, .qui, .pur, .lou, .lou, .lou, .pur, .lou] (.one 0 (.one 2 (.br 1 (.one 3 (.one 4 (.one 5 (.one 6 (.one 7 .done))))) (.br 3 (.br 1 (.one 4 (.one 5 (.one 6 (.one 7 .done)))) (.br 4 (.one 1 (.one 5 (.one 6 (.one 7 .done)))) .non)) .non)))) mixed (by kernel_rfl) ?_)
             | (refine XCode.drawH (id := 9) #[.pur, .qui, .pur, .lou, .lou, .lou, .pur, .lou] (.one 0 (.one 2 (.br 1 (.one 3 (.one 4 (.one 5 (.one 6 (.one 7 .done))))) (.br 3 (.br 1 (.one 4 (.one 5 (.one 6 (.one 7 .done)))) (.br 4 (.one 1 (.one 5 (.one 6 (.one 7 .done)))) .non)) .non)))) mixed (by kernel_rfl) ?_)
             | intro xx
             | (refine XBr.t (by omega) ?_)
             | (refine XBr.f (by omega) ?_)
             | refine XOpt.mk (fun x hc => ?_) (fun hc => ?_)
             | refine XRes.mk (fun x hc => ?_) (fun x hc => ?_)
             | refine XBr.mk (fun hc => ?_) (fun hc => ?_)
             | refine XIf.mk (fun hc => ?_) (fun hc => ?_))
  all_goals try clear hh
  all_goals try clear hh1
  all_goals try clear hh2
  all_goals conv => whnf
  all_goals first
  | exact k.fin (stmElse ‹_› hd1 hd2 ‹_› hd3) (hl1.trans (hl2.trans hl3)) ‹_› rfl (kidsOf3 ⟨hk1.p.mono (hl2.trans hl3)⟩ ⟨hk2.p.mono hl3⟩ hk3) ok3
  | exact k.fin (stmIf ‹_› hd1 hd2 ‹_›) (hl1.trans hl2) ‹_› rfl (kidsOf2 ⟨hk1.p.mono hl2⟩ hk2) ok2
  | exact k.fin (stmWhile ‹_› ‹_› hd1 hd2) (hl1.trans hl2) ‹_› rfl (kidsOf2 ⟨hk1.p.mono hl2⟩ hk2) ok2
  | exact k.go _ (mustS [59] s.next) _ I none 0 (stmStop ‹_› ‹_› ‹_›) (.refl _) HH.fin inferInstance (inferInstanceAs (KidsC I none 0 []))
  | exact k.fin1 (x := ⟨n1, a1, c1⟩) (stmSet ‹_› ‹_› ‹_› ((atSet_of ok ‹At s.l (Int.toNat 0) _› ‹At s.l (Int.toNat 1) _›).2 ⟨‹_›, ‹_›, ‹_›⟩) hd1) hl1 rfl hk1 inferInstance
  | exact k.fin1 (x := ⟨n1, a1, c1⟩) (stmDo ‹_› ‹_› ‹_› (fun h => hc ((atSet_of ok ‹At s.l (Int.toNat 0) _› ‹At s.l (Int.toNat 1) _›).1 h).2.2) hd1) hl1 rfl hk1 inferInstance
  | exact k.fin1 (x := ⟨n1, a1, c1⟩) (stmDo ‹_› ‹_› ‹_› (fun h => hc ((atSet_of ok ‹At s.l (Int.toNat 0) _› ‹At s.l (Int.toNat 1) _›).1 h).2.1) hd1) hl1 rfl hk1 inferInstance
  | exact k.fin1 (x := ⟨n1, a1, c1⟩) (stmDo ‹_› ‹_› ‹_› (fun h => hc ((congrArg Sg.kind (hd_of ok ‹At s.l (Int.toNat 0) _›)).symm.trans h.1)) hd1) hl1 rfl hk1 inferInstance
  | exact k.fin1 (x := ⟨n1, a1, c1⟩) (stmDo ‹_› ‹_› ‹_› (fun h => hc (by obtain ⟨_, g, h, _⟩ := h; have := (List.getElem?_eq_some_iff.1 h).1; omega)) hd1) hl1 rfl hk1 inferInstance
  | skip
theorem pssAll : ∀ m, PSS m
  | 0 => ⟨fun _ _ _ _ _ _ _ h => absurd h (Nat.not_lt_zero _), fun _ _ _ _ _ _ _ h => absurd h (Nat.not_lt_zero _)⟩
  | m + 1 =>
    have ih := pssAll m
    ⟨fun v w I R bp s K hm hh ok k => stmStep v w I R bp s K (Nat.lt_succ_iff.1 hm) hh ok k,
     fun v w I R bp s K hm hh ok k => stsStep v w I R bp s K (Nat.lt_succ_iff.1 hm) hh ok k⟩
instance : PSS 100000 := pssAll _
end Go.Proofs

/- tree: a script. -/
namespace Go.Proofs
open Go.X
set_option maxHeartbeats 2000000
set_option linter.unusedVariables false
set_option linter.unusedSimpArgs false

/-! an error stays -/
theorem failS_ne {s : PS} (h : s.e ≠ 0) (e : Int) : (failS s e).e ≠ 0 := by unfold failS; rw [if_neg h]; exact h
theorem next_ne {s : PS} (h : s.e ≠ 0) : s.next.e ≠ 0 := h
theorem mustS_ne {s : PS} (h : s.e ≠ 0) (t : Bs) : (mustS t s).e ≠ 0 := by unfold mustS; split; exact h; exact failS_ne h 2
theorem nameS_ne {s : PS} (h : s.e ≠ 0) : (nameS s).2.e ≠ 0 := by unfold nameS; split; exact h; exact failS_ne h 2
theorem deepS_ne {s : PS} (h : s.e ≠ 0) : (deepS s).e ≠ 0 := by unfold deepS; split; exact failS_ne h 9; exact h
def PE (r : PRes) : Prop := ∀ n s', r = some (n, s') → s'.e ≠ 0
theorem PE.some {n : Nd} {s : PS} (h : s.e ≠ 0) : PE (some (n, s)) := fun _ _ e => by cases e; exact h
theorem PE.bind {a : PRes} {k : Nd × PS → PRes} (h : PE a) (hk : ∀ n s, s.e ≠ 0 → PE (k (n, s))) : PE (a.bind k) := fun n s' e => by
  cases ea : a with
  | none => rw [ea] at e; cases e
  | some x => rw [ea] at e; exact hk x.1 x.2 (h _ _ ea) _ _ e
theorem PE.ite {c : Prop} [Decidable c] {a b : PRes} (h : PE a) (h' : PE b) : PE (if c then a else b) := by
  split <;> assumption
theorem prun_err : ∀ (f : Nat) (q : Q) (s : PS), s.e ≠ 0 → PE (prun f q s)
  | 0, _, _, _ => fun _ _ h => by simp [prun] at h
  | f + 1, q, s, h => by
    have ih := prun_err f
    cases q
    case loop i out =>
      rw [prun]
      cases opS i s
      · exact .some h
      · exact .bind (ih _ _ h) fun n s' h => .ite (.some h) (ih _ _ h)
    all_goals
      rw [prun]
      repeat' (first
        | refine PE.ite ?_ ?_
        | refine PE.bind (ih _ _ ?_) fun n s' h => ?_
        | refine PE.some ?_
        | refine ih _ _ ?_
        | assumption
        | with_reducible refine mustS_ne ?_ _
        | with_reducible refine nameS_ne ?_
        | with_reducible refine next_ne ?_
        | with_reducible refine deepS_ne ?_
        | exact deepS_ne (s := s) h)
theorem PDone.err {q : Q} {s s' : PS} {n : Nd} (h : PDone q s s' n) (he : s.e ≠ 0) : s'.e ≠ 0 := by
  obtain ⟨f, hf⟩ := h.pr
  exact prun_err _ _ _ he _ _ hf
instance script1F {I : Im} {bx bp : Nat} [hi : Imm I bx (.cells (List.toArray [.pointer (some ⟨bp, 0, none⟩)]) 113 (0, 0))] :
    PFn I (.func (.func 74) #[] #[.pointer (some ⟨bx, 0, none⟩)]) bp .var 100000 :=
  PFn.ofApp (fs := []) (cs := [.pointer (some ⟨bx, 0, none⟩)]) fun v w I' R s K hl hm hh ok k => by
    have hi2 := hi.mono hl
    refine .of Tryz.func74 ?_
    repeat' (conv => whnf
             first
               | exact trivial
               | refine XStep.go ?_
               | refine XChk.mk (by first | omega | decide | (simp only [List.length_take, List.length_drop]; omega) | (simp only [List.length_append, List.length_cons, List.length_nil]; omega)) ?_
               | refine XBoth.mk ?_ ?_
               | intro xx
               | (refine XBr.t (by omega) ?_)
               | (refine XBr.f (by omega) ?_)
               | refine XOpt.mk (fun x hc => ?_) (fun hc => ?_)
               | refine XRes.mk (fun x hc => ?_) (fun x hc => ?_)
               | refine XBr.mk (fun hc => ?_) (fun hc => ?_)
               | refine XIf.mk (fun hc => ?_) (fun hc => ?_))
    conv => whnf
    exact k.go (.mk 11 (nameS s).1 0 []) (nameS s).2 _ I' none 0 ⟨⟨1, rfl⟩, nameS_le _, nameS_d _⟩ (.refl _) HH.fin inferInstance (inferInstanceAs (KidsC I' none 0 []))
instance encKids {o i : Int} {t : Bs} {a : Option Addr} {c : Nat} {ys : List NV} : EncOf encN [.int .i64 o, .string ⟨t.toArray⟩, .int .i64 i, .slice a ys.length c] ⟨.mk o t i (ys.map NV.n), a, c⟩ :=
  ⟨by simp [encN, Nd.op, Nd.text, Nd.num, Nd.kids]⟩
theorem perm2 {α : Type} (a b x : α) (R : List α) : (a :: b :: x :: R).Perm (x :: a :: b :: R) := List.perm_middle (l₁ := [a, b])
theorem scrEnd {s1 : PS} {out : List Nd} (h : s1.e ≠ 0 ∨ s1.hd.kind = 0) : PDone (.script out) s1 s1 (.mk 0 [] 0 out) := ⟨⟨1, by rw [prun, if_pos h]⟩, Nat.le_refl _, rfl⟩
theorem scriptStep (v : Env) (w : World) (I : Im) (R : Heap) (bp : Nat) (s : PS) (K : KV) (hh : HH w I ((bp, PS.obj v s) :: R)) (ok : PSok I v s) (k : PPost (.script []) v bp s I R K) :
    XApp Tryz.prog 41 [.pointer (some ⟨bp, 0, none⟩)] w K := by
  have hle := ok.le
  refine .of Tryz.func41 ?_
  repeat' (conv => whnf
           first
             | exact trivial
             | refine XStep.go ?_
             | refine XChk.mk (by first | omega | decide | (simp only [List.length_take, List.length_drop]; omega) | (simp only [List.length_append, List.length_cons, List.length_nil]; omega)) ?_
             | refine XBoth.mk ?_ ?_
             | (refine XCode.drawH (id := 7) #[.pur, .qui, .qui, .lou, .lou, .lou, .pur, .lou] (.one 0 (.one 2 (.br 1 (.one 3 (.one 4 (.one 5 (.one 6 (.one 7 .done))))) (.br 3 (.br 1 (.one 4 (.one 5 (.one 6 (.one 7 .done)))) (.br 4 (.one 1 (.one 5 (.one 6 (.one 7 .done)))) .non)) .non)))) mixed (by kernel_rfl) ?_)
             | intro xx
             | (refine XBr.t (by omega) ?_)
             | (refine XBr.f (by omega) ?_)
             | refine XOpt.mk (fun x hc => ?_) (fun hc => ?_)
             | refine XRes.mk (fun x hc => ?_) (fun x hc => ?_)
             | refine XBr.mk (fun hc => ?_) (fun hc => ?_)
             | refine XIf.mk (fun hc => ?_) (fun hc => ?_))
  rename_i b1 _ _ b2 _ _ b3 _ _ w3
  obtain ⟨hf1, hf2, hf3⟩ := (xx.perm (perm2 _ _ _ _)).freeze
  clear hh xx
  refine XCode.loopG (fun g : List NV × Option Addr × Nat × PS => [some (.pointer (some ⟨bp, 0, none⟩)), some (.pointer (some ⟨b1, 0, none⟩)), some (.pointer (some ⟨b2, 0, none⟩)), some (.pointer (some ⟨b3, 0, none⟩)), none, none, none, none, none, none, none, none, none, none, none, none, none, none, none, none, none, none, none, none, none, none, none, none, none, none, none, none, none, none, none, none, none, none, none, none, none, none, none, none, none, none])
    (fun g w => (∃ I' E, (I.add b1 (.cells (List.toArray [.pointer (some ⟨bp, 0, none⟩)]) 113 (0, 0))).Le I' ∧ HH w I' (E ++ ((bp, PS.obj v g.2.2.2) :: (b3, .cells (List.toArray [.int .i64 0, .string ⟨#[]⟩, .int .i64 0, .slice g.2.1 g.1.length g.2.2.1]) 63 (0, 0)) ::
        (b2, .cells (List.toArray [.int .i64 0, .string ⟨#[]⟩, .int .i64 0, .slice none 0 0]) 63 (0, 0)) :: R)) ∧ SO 63 g.2.1 g.2.2.1 4 encN g.1 E ∧ PSok I' v g.2.2.2 ∧ (∀ x ∈ g.1, KidsC I' x.a x.c x.n.kids))
      ∧ g.2.2.2.l.length ≤ s.l.length ∧ g.2.2.2.d = s.d ∧ g.1.length ≤ 2001 ∧ (g.2.2.2.e = 0 → g.1.length + g.2.2.2.l.length ≤ 2000) ∧ ∀ n s', PDone (.script (g.1.map (·.n))) g.2.2.2 s' n → PDone (.script []) s s' n)
    (fun g => if g.2.2.2.e = 0 then g.2.2.2.l.length + 1 else 0) ([], none, 0, s) ?_
    ⟨⟨_, [], .refl _, hf1.perm (perm2 _ _ _ _), SO.nil, ok.mono hf2, by simp⟩, by simp, rfl, by simp, fun _ => by show 0 + s.l.length ≤ 2000; omega, fun n s' h => h⟩ ?_
  · simp [fits]
  · rintro ⟨out, aa, cap, s1⟩ w ⟨⟨I1, E, hl1, hh2, so, ok1, hk⟩, h4, h5, h6, h7, h8⟩
    dsimp only at hh2 so ok1 hk h4 h5 h6 h7 h8 ⊢
    have hle1 := ok1.le
    have hi1 := hf3.mono hl1
    clear hf1 hf3
    have q1 : (mustS [40] (nameS (mustS [111, 110] s1)).2).l.length ≤ s1.l.length := Nat.le_trans (mustS_le _ _) (Nat.le_trans (nameS_le _) (mustS_le _ _))
    repeat' (conv => whnf
             first
               | exact trivial
               | refine XStep.go ?_
               | refine XChk.mk (by first | omega | decide | (simp only [List.length_take, List.length_drop]; omega) | (simp only [List.length_append, List.length_cons, List.length_nil]; omega)) ?_
               | refine XBoth.mk ?_ ?_
               | (refine XChk.mk (.inl (by show _ * 32 + 0 < _; omega)) ?_)
               | ((refine LPost.mk fun n1 s2 w1 I2 a1 c1 xs1 E1 hd1 hl2 hh3 ok2 so1 he1 hk1 hn1 => ?_; have hq1 := hd1.len))
               | ((refine PPost.mk fun n2 s3 w2 I3 a2 c2 hd2 hl3 hh4 ok3 hk2 => ?_; have := hd2.len; have := hd1.len))
               | (refine XCode.drawH (id := 7) #[.pur, .qui, .qui, .lou, .lou, .lou, .pur, .lou] (.one 0 (.one 2 (.br 1 (.one 3 (.one 4 (.one 5 (.one 6 (.one 7 .done))))) (.br 3 (.br 1 (.one 4 (.one 5 (.one 6 (.one 7 .done)))) (.br 4 (.one 1 (.one 5 (.one 6 (.one 7 .done)))) .non)) .non)))) mixed (by kernel_rfl) ?_)
               | intro xx
               | (refine XBr.t (by omega) ?_)
               | (refine XBr.f (by omega) ?_)
               | refine XOpt.mk (fun x hc => ?_) (fun hc => ?_)
               | refine XRes.mk (fun x hc => ?_) (fun x hc => ?_)
               | refine XBr.mk (fun hc => ?_) (fun hc => ?_)
               | refine XIf.mk (fun hc => ?_) (fun hc => ?_))
    all_goals try clear hh2
    all_goals try clear hh3
    all_goals conv => whnf
    all_goals first
    | exact k.fin (n := .mk 0 [] 0 (out.map (·.n))) (s' := s1) (h8 _ _ (scrEnd (.inl hc))) (hf2.trans hl1) so rfl hk ok1
    | exact k.fin (n := .mk 0 [] 0 (out.map (·.n))) (s' := s1) (h8 _ _ (scrEnd (.inr ((congrArg Sg.kind (hd_of ok1 ‹At s1.l (Int.toNat 0) _›)).trans hc)))) (hf2.trans hl1) so rfl hk ok1
    | skip
    all_goals
      have he := mustS_e [111, 110] s1
      have he0 : s1.e = 0 := ‹s1.e = 0›
      have r1 := nameS_le (mustS [111, 110] s1)
      have r2 := mustS_le [40] (nameS (mustS [111, 110] s1)).2
      have g1 := hd2.d.trans (hd1.d.trans ((mustS_d _ _).trans ((nameS_d _).trans (mustS_d _ _))))
      have g2 : (mustS [111, 110] s1).e ≠ 0 → s3.e ≠ 0 := fun h => hd2.err (hd1.err (mustS_ne (nameS_ne h) _))
      have so2 := ‹SO _ _ _ 4 encN (xs1 ++ _) _›
      have so3 := ‹SO _ _ _ 4 encN (out ++ _) _›
      obtain ⟨I4, hl4, hh5, hs4, hc4⟩ := soFrz (h := ‹HH _ I3 (_ ++ _)›) so2
      have hkk : ∀ z ∈ xs1 ++ [(⟨n2, a2, c2⟩ : NV)], KidsC I4 z.a z.c z.n.kids := kids_snoc (fun x hx => ⟨(hk1 x hx).p.mono hl3⟩) hl4 ⟨hk2.p.mono hl4⟩
      have hk5 := KidsC.of hs4 hc4 hkk
      refine ⟨(out ++ [⟨.mk 1 (nameS (mustS [111, 110] s1)).1 0 ((xs1 ++ [(⟨n2, a2, c2⟩ : NV)]).map NV.n), _, _⟩], _, _, s3), rfl, ⟨rfl, rfl, rfl, rfl, trivial⟩, ⟨⟨I4, _, hl1.trans (hl2.trans (hl3.trans hl4)), HH.fin, so3, ok3.mono hl4, kids_snoc hk (hl2.trans (hl3.trans hl4)) hk5⟩, ?_, ?_, ?_, ?_, ?_⟩, ?_⟩
      all_goals dsimp only
      · omega
      · omega
      · have := h7 he0; simp; omega
      · intro h0
        have := h7 he0
        rcases he with he | he
        · exact absurd h0 (g2 he)
        · simp; omega
      · intro n s' h
        refine h8 _ _ ⟨PR.three hd1.pr hd2.pr h.pr fun f f1 f2 f3 => ?_, by have := h.len; omega, by have := h.d; omega⟩
        rw [prun, if_neg (by rintro (h | h); (exact h he0); exact hc ((congrArg Sg.kind (hd_of ok1 ‹At s1.l (Int.toNat 0) _›)).symm.trans h)), f1]
        simp only [Option.bind_some, f2, he1]
        simpa using f3
      · rw [if_pos he0]
        split
        · rename_i h0
          rcases he with he | he
          · exact absurd h0 (g2 he)
          · omega
        · omega
end Go.Proofs

/- tree: Parse. -/
namespace Go.Proofs
open Go.X
set_option maxHeartbeats 2000000
set_option linter.unusedVariables false
set_option linter.unusedSimpArgs false

theorem signsGo_last (t : Bs) : ∀ (f i : Nat) (out l : List Sg), signsGo t f i out = .ok l → ∃ r g, l = r ++ [g] ∧ g.kind = 0
  | 0, _, _, _, h => by simp [signsGo] at h
  | f + 1, i, out, l, h => by
    rw [signsGo] at h
    split at h
    · cases h; exact ⟨_, _, rfl, rfl⟩
    · dsimp only at h
      split at h
      · cases h
      · split at h
        · cases h
        · exact signsGo_last t f _ _ l h
theorem signsF_last {t : Bs} {l : List Sg} (h : signsF t = .ok l) : ∃ r g, l = r ++ [g] ∧ g.kind = 0 := by
  unfold signsF at h
  split at h
  · cases h
  · exact signsGo_last _ _ _ _ _ h
theorem signsGo_err (t : Bs) : ∀ (f i : Nat) (out : List Sg) (e : Int), signsGo t f i out = .error e → e ≠ 0
  | 0, _, _, _, h => by simp [signsGo] at h; omega
  | f + 1, i, out, e, h => by
    rw [signsGo] at h
    split at h
    · cases h
    · dsimp only at h
      split at h
      · cases h; decide
      · split at h
        · cases h; assumption
        · exact signsGo_err t f _ _ e h
theorem signsF_err {t : Bs} {e : Int} (h : signsF t = .error e) : e ≠ 0 := by
  unfold signsF at h
  split at h
  · cases h; decide
  · exact signsGo_err _ _ _ _ _ h
/-- what Parse says of a text -/
def ParseR (t : Bs) (r : Except Int Nd) : Prop :=
  match signsF t with
  | .error e => r = .error e
  | .ok l => ∃ n s, PR (.script []) ⟨l, 0, 0⟩ n s ∧ r = if s.e ≠ 0 then .error s.e else if (n.kids.map Nd.text).Nodup then .ok n else .error 5
theorem ParseR.unique {t : Bs} {r1 r2 : Except Int Nd} (h1 : ParseR t r1) (h2 : ParseR t r2) : r1 = r2 := by
  unfold ParseR at h1 h2
  split at h1
  · rename_i e; rw [e] at h2; rw [h1, h2]
  · rename_i e
    rw [e] at h2
    obtain ⟨n1, s1, p1, rfl⟩ := h1
    obtain ⟨n2, s2, p2, rfl⟩ := h2
    obtain ⟨rfl, rfl⟩ := p1.unique p2
    rfl
structure ParsePost (t : Bs) (I : Im) (L : Heap) (K : KV) : Prop where
  ok : ∀ n w' I' a c, ParseR t (.ok n) → I.Le I' → HH w' I' L → KidsC I' a c n.kids → K (.tuple (List.toArray [nodeV n a c, .int .i64 0])) w'
  err : ∀ e w', ParseR t (.error e) → e ≠ 0 → HH w' I L → K (.tuple (List.toArray [nodeV .zero none 0, .int .i64 e])) w'
def nameM (xs : List NV) (i : Nat) : List (Bs × Bool) := (xs.take i).map fun x => (x.n.text, true)
instance : MapRep Tryz.prog 117 ekS evB := ⟨trivial⟩
theorem script_kids : ∀ (f : Nat) (out : List Nd) (s s' : PS) (n : Nd), prun f (.script out) s = some (n, s') → n.kids.length ≤ out.length + (if s.e = 0 then s.l.length + 1 else 0)
  | 0, _, _, _, _, h => by simp [prun] at h
  | f + 1, out, s, s', n, h => by
    rw [prun] at h
    split at h
    · cases h; show out.length ≤ _; omega
    · rename_i hs
      have h0 : s.e = 0 := Classical.byContradiction fun h => hs (.inl h)
      cases e1 : prun f (.list .var) (mustS [40] (nameS (mustS [111, 110] s)).2) with
      | none => rw [e1] at h; cases h
      | some r1 =>
        rw [e1] at h
        simp only [Option.bind_some] at h
        cases e2 : prun f .block r1.2 with
        | none => rw [e2] at h; cases h
        | some r2 =>
          rw [e2] at h
          simp only [Option.bind_some] at h
          have ih := script_kids f _ _ _ _ h
          have l1 := prun_len f _ _ _ _ e1
          have l2 := prun_len f _ _ _ _ e2
          have he := mustS_e [111, 110] s
          have r3 := nameS_le (mustS [111, 110] s)
          have r4 := mustS_le [40] (nameS (mustS [111, 110] s)).2
          have g2 : (mustS [111, 110] s).e ≠ 0 → r2.2.e ≠ 0 := fun h => prun_err f _ _ (prun_err f _ _ (mustS_ne (nameS_ne h) _) _ _ e1) _ _ e2
          rw [if_pos h0]
          simp only [List.length_append, List.length_cons, List.length_nil] at ih
          split at ih
          · rename_i h3
            rcases he with he | he
            · exact absurd h3 (g2 he)
            · omega
          · omega
theorem nameM_true {xs : List NV} {i : Nat} {t : Bs} {b : Bool} (h : mget (nameM xs i) t = some b) : b = true := by
  unfold mget at h
  obtain ⟨p, hp, rfl⟩ := Option.map_eq_some_iff.1 h
  obtain ⟨x, _, rfl⟩ := List.mem_map.1 (List.mem_of_find?_eq_some hp)
  rfl
theorem nameM_at {xs : List NV} {i : Nat} {x : NV} (hx : xs[i]? = some x) : nameM xs (i + 1) = nameM xs i ++ [(x.n.text, true)] := by
  unfold nameM
  obtain ⟨hl, e⟩ := List.getElem?_eq_some_iff.1 hx
  rw [List.take_succ_eq_append_getElem hl, List.map_append, e]; rfl
theorem nameM_succ {xs : List NV} {i : Nat} {x : NV} (hx : xs[i]? = some x) (h : mget (nameM xs i) x.n.text = none) : mset (nameM xs i) x.n.text true = nameM xs (i + 1) := by
  rw [nameM_at hx, mset, h]; rfl
theorem nameM_nd {xs : List NV} {i : Nat} {x : NV} (hx : xs[i]? = some x) (h : mget (nameM xs i) x.n.text = none) (hn : ((nameM xs i).map (·.1)).Nodup) : ((nameM xs (i + 1)).map (·.1)).Nodup := by
  rw [← nameM_succ hx h]; exact mset_nd hn _ _
theorem nameM_dup {xs : List NV} {i : Nat} {x : NV} {b : Bool} (hx : xs[i]? = some x) (h : mget (nameM xs i) x.n.text = some b) : ¬ (xs.map (Nd.text ∘ fun x => x.n)).Nodup := by
  intro hn
  have h1 : (nameM xs (i + 1)).map (·.1) = (xs.map (Nd.text ∘ fun x => x.n)).take (i + 1) := by simp [nameM, List.map_take, Function.comp_def]
  have h2 : ((nameM xs (i + 1)).map (·.1)).Nodup := by rw [h1]; exact hn.sublist (List.take_sublist _ _)
  rw [nameM_at hx, List.map_append, List.nodup_append] at h2
  have h3 : x.n.text ∈ (nameM xs i).map (·.1) := by
    apply Classical.byContradiction
    intro hm
    have : mget (nameM xs i) x.n.text = none := by
      unfold mget
      simp only [Option.map_eq_none_iff, List.find?_eq_none, decide_eq_true_eq]
      intro p hp e
      exact hm (List.mem_map.2 ⟨p, hp, e⟩)
    rw [h] at this; cases this
  exact h2.2.2 _ h3 _ (by simp) rfl
theorem parseC {w : World} {I : Im} {L : Heap} {a : Option Addr} {c : Nat} {xs : Bs} {K : KV} [hh : HH w I L] [sl : SlA I a 1 bEnc xs] (hx : xs.length ≤ 1000000000 ∧ xs.length ≤ c) (k : ParsePost xs I L K) :
    XApp Tryz.prog 19 [.slice a xs.length c] w K := by
  refine .of Tryz.func19 ?_
  repeat' (conv => whnf
           first
             | exact trivial
             | refine XStep.go ?_
             | refine XChk.mk (by first | omega | decide | (simp only [List.length_take, List.length_drop]; omega) | (simp only [List.length_append, List.length_cons, List.length_nil]; omega)) ?_
             | refine XBoth.mk ?_ ?_
             | (refine XCode.drawH (id := 7) #[.pur, .pur, .pur, .pur, .qui, .lou, .pur] (.one 0 (.one 1 (.one 2 (.one 3 (.br 4 (.one 5 (.one 6 .done)) (.br 5 (.one 4 (.one 6 .done)) .non)))))) mixed (by kernel_rfl) ?_)
             | intro xx
             | (refine XBr.t (by omega) ?_)
             | (refine XBr.f (by omega) ?_)
             | refine XOpt.mk (fun x hc => ?_) (fun hc => ?_)
             | refine XRes.mk (fun x hc => ?_) (fun x hc => ?_)
             | refine XBr.mk (fun hc => ?_) (fun hc => ?_)
             | refine XIf.mk (fun hc => ?_) (fun hc => ?_))
  all_goals clear hh
  · rename_i b2 _ _ w1 I1 a1 c1 hl1 hh1 sl1 hx1 hc1 b6 w6
    have hh6 := xx; clear xx
    obtain ⟨r, g, e1, e2⟩ := signsF_last hc
    rcases sl1.ex with rfl | ⟨b, o, rfl, hsl⟩
    · simp at e1
    have ok : PSok I1 ⟨b, o, c1, x⟩ ⟨x, 0, 0⟩ := ⟨⟨⟨hc1, by show x.length ≤ 2000; omega⟩, ⟨r, g, e1, e2⟩⟩, hsl, List.suffix_refl _, by rw [e1]; simp, Nat.zero_le _, ⟨Int.le_refl _, by show (0 : Int) ≤ 100; omega⟩⟩
    have e3 : PS.obj ⟨b, o, c1, x⟩ ⟨x, 0, 0⟩ = .cells (List.toArray [.slice (some ⟨b, o, none⟩) x.length c1, .int .i64 0, .int .i64 0]) TPar (0, 0) := by simp [PS.obj]
    rw [← e3] at hh6
    conv => whnf
    refine scriptStep _ w6 I1 _ b6 _ _ hh6 ok ⟨fun n s w7 I2 a2 c2 hd hl2 hh2 ok2 hk2 => ?_⟩
    clear hh6 hh1
    have hr : ∀ r, (r = if s.e ≠ 0 then .error s.e else if (n.kids.map Nd.text).Nodup then .ok n else .error 5) → ParseR xs r := fun r hr => by
      unfold ParseR; rw [hc]; exact ⟨n, s, hd.pr, hr⟩
    have h1 : s.e ≠ 0 → ParseR xs (.error s.e) := fun h => hr _ (by rw [if_pos h])
    have h2 : s.e = 0 → ¬ (n.kids.map Nd.text).Nodup → ParseR xs (.error 5) := fun h h' => hr _ (by rw [if_neg (by simpa using h), if_neg h'])
    have h3 : s.e = 0 → (n.kids.map Nd.text).Nodup → ParseR xs (.ok n) := fun h h' => hr _ (by rw [if_neg (by simpa using h), if_pos h'])
    clear hr
    have hlen : n.kids.length ≤ 2000 := by
      obtain ⟨f, hf⟩ := hd.pr
      have := script_kids f _ _ _ _ hf
      simp only [List.length_nil, if_true] at this
      omega
    have hk3 := hk2
    obtain ⟨no, nt, ni, nk⟩ := n
    obtain ⟨hk2⟩ := hk2
    dsimp only [Nd.kids] at hk2 h2 h3 hk3 hlen
    cases hk2 with
    | mk _ _ ns hs hcs hks =>
    rw [List.map_map] at h2 h3
    rw [List.length_map] at hlen
    have ek : (Nd.mk no nt ni (ns.map fun x => x.n)).kids.length = ns.length := by simp [Nd.kids]
    dsimp only [nodeV, Nd.op, Nd.text, Nd.num]
    rw [ek]
    repeat' (conv => whnf
             first
               | exact trivial
               | refine XStep.go ?_
               | refine XChk.mk (by first | omega | decide | (simp only [List.length_take, List.length_drop]; omega) | (simp only [List.length_append, List.length_cons, List.length_nil]; omega)) ?_
               | refine XBoth.mk ?_ ?_
               | (refine XCode.drawH (id := 7) #[.pur, .pur, .pur, .pur, .qui, .lou, .pur] (.one 0 (.one 1 (.one 2 (.one 3 (.br 4 (.one 5 (.one 6 .done)) (.br 5 (.one 4 (.one 6 .done)) .non)))))) mixed (by kernel_rfl) ?_)
               | intro xx
               | (refine XBr.t (by omega) ?_)
               | (refine XBr.f (by omega) ?_)
               | refine XOpt.mk (fun x hc => ?_) (fun hc => ?_)
               | refine XRes.mk (fun x hc => ?_) (fun x hc => ?_)
               | refine XBr.mk (fun hc => ?_) (fun hc => ?_)
               | refine XIf.mk (fun hc => ?_) (fun hc => ?_))
    · rename_i b7 _ _ _ _ bm _
      refine XCode.loopG (fun i : Nat => [none, none, some (.pointer (some ⟨b2, 0, none⟩)), none, none, none, none, some (.pointer (some ⟨b7, 0, none⟩)), some (.map (some bm)), none, none, none, none, none, none, none, none, none, none, none, none, none, none, none, none, none, none, none, none, none, none, none, none, none, none, none, none, some (.slice a2 ns.length c2), some (.int .i64 ns.length), some (.int .i64 i), none, none, none, none, none, none, none, none, none, none, none, none, none])
        (fun i w => HH w I2 ((bm, MO ekS evB (nameM ns i)) :: (b7, .cells (List.toArray [.int .i64 no, .string ⟨nt.toArray⟩, .int .i64 ni, .slice a2 ns.length c2]) 63 (0, 0)) :: (b6, PS.obj ⟨b, o, c1, x⟩ s) ::
          (b2, .cells (List.toArray [.int .i64 0, .string ⟨#[]⟩, .int .i64 0, .slice none 0 0]) 63 (0, 0)) :: L) ∧ i ≤ ns.length ∧ ((nameM ns i).map (·.1)).Nodup) (fun i => ns.length - i) 0 ?_ ⟨xx, by omega, by simp [nameM]⟩ ?_
      · simp [fits]
      · rintro i w ⟨hh3, h4, h5⟩
        have : MNd (nameM ns i) := ⟨h5⟩
        clear hh2 xx
        repeat' (conv => whnf
                 first
                   | exact trivial
                   | refine XStep.go ?_
                   | refine XChk.mk (by first | omega | decide | (simp only [List.length_take, List.length_drop]; omega) | (simp only [List.length_append, List.length_cons, List.length_nil]; omega)) ?_
                   | refine XBoth.mk ?_ ?_
                   | (refine XCode.drawH (id := 7) #[.pur, .pur, .pur, .pur, .qui, .lou, .pur] (.one 0 (.one 1 (.one 2 (.one 3 (.br 4 (.one 5 (.one 6 .done)) (.br 5 (.one 4 (.one 6 .done)) .non)))))) mixed (by kernel_rfl) ?_)
                   | intro xx
                   | (refine XBr.t (by omega) ?_)
                   | (refine XBr.f (by omega) ?_)
                   | refine XOpt.mk (fun x hc => ?_) (fun hc => ?_)
                   | refine XRes.mk (fun x hc => ?_) (fun x hc => ?_)
                   | refine XBr.mk (fun hc => ?_) (fun hc => ?_)
                   | refine XIf.mk (fun hc => ?_) (fun hc => ?_))
        all_goals try (have hx := (‹At ns i _›).eq)
        all_goals try conv => whnf
        · have hn : ¬ (ns.map (Nd.text ∘ fun x => x.n)).Nodup := nameM_dup hx (by assumption)
          exact k.err 5 _ (h2 ‹s.e = 0› hn) (by decide) HH.fin
        · exact absurd (nameM_true ‹mget _ _ = some _›) (by rw [hc]; decide)
        · have e4 := nameM_succ hx hc
          have e5 := nameM_nd hx hc h5
          rw [e4] at xx
          repeat' (conv => whnf
                   first
                     | exact trivial
                     | refine XStep.go ?_
                     | refine XChk.mk (by first | omega | decide | (simp only [List.length_take, List.length_drop]; omega) | (simp only [List.length_append, List.length_cons, List.length_nil]; omega)) ?_
                     | refine XBoth.mk ?_ ?_
                     | (refine XCode.drawH (id := 7) #[.pur, .pur, .pur, .pur, .qui, .lou, .pur] (.one 0 (.one 1 (.one 2 (.one 3 (.br 4 (.one 5 (.one 6 .done)) (.br 5 (.one 4 (.one 6 .done)) .non)))))) mixed (by kernel_rfl) ?_)
                     | intro xx
                     | (refine XBr.t (by omega) ?_)
                     | (refine XBr.f (by omega) ?_)
                     | refine XOpt.mk (fun x hc => ?_) (fun hc => ?_)
                     | refine XRes.mk (fun x hc => ?_) (fun x hc => ?_)
                     | refine XBr.mk (fun hc => ?_) (fun hc => ?_)
                     | refine XIf.mk (fun hc => ?_) (fun hc => ?_))
          conv => whnf
          exact ⟨i + 1, rfl, by simp [fits], ⟨HH.fin, by omega, e5⟩, by omega⟩
        · have e6 : ns.take i = ns := List.take_of_length_le (by omega)
          have h6 : (ns.map (Nd.text ∘ fun x => x.n)).Nodup := by
            have := h5
            rw [nameM, e6, List.map_map] at this
            exact this
          exact retTo (k.ok _ _ I2 a2 c2 (h3 ‹s.e = 0› h6) (hl1.trans hl2) HH.fin hk3) (by simp [retV, nodeV, Nd.kids, Nd.op, Nd.text, Nd.num])
    all_goals conv => whnf
    all_goals exact k.err _ _ (h1 hc) hc HH.fin
  · exact absurd hc (signsF_err ‹_›)
  · conv => whnf
    exact k.err _ _ (by unfold ParseR; rw [‹signsF xs = _›]) hc HH.fin
instance {w : World} {I : Im} {L : Heap} {a : Option Addr} {c : Nat} {xs : Bs} {K : KV} [hh : HH w I L] [sl : SlA I a 1 bEnc xs] :
    XStep (XApp Tryz.prog 19 [.slice a xs.length c] w K) (XChk (xs.length ≤ 1000000000 ∧ xs.length ≤ c) (ParsePost xs I L K)) := ⟨fun ⟨h, k⟩ => parseC h k⟩
end Go.Proofs

/- tree: how what is written is read, piece by piece. -/
namespace Go.Proofs
open Go.X
set_option maxHeartbeats 1000000
set_option linter.unusedVariables false
set_option linter.unusedSimpArgs false

theorem PR.loop0 {i : Nat} {n : Nd} {s : PS} (h : opS i s = none) : PR (.loop i n) s n s := ⟨1, by rw [prun, h]⟩
theorem PR.lev {i : Nat} {s s' : PS} {n : Nd} (hi : i ≠ 5) (h : PR (.level (i + 1)) s n s') (ho : opS i s' = none) : PR (.level i) s n s' :=
  PR.two h (PR.loop0 ho) fun f h1 h2 => by rw [prun, if_neg hi, h1]; exact h2
/-- a part with no sign ahead of it and none behind it -/
theorem PR.prim {s s' : PS} {n : Nd} (h : PR .primary s n s') (h1 : isB [110, 111, 116] s = false) (h2 : isB [45] s = false) (ho : ∀ i, i < 5 → opS i s' = none) : PR (.level 0) s n s' := by
  have h0 : PR .unary s n s' := PR.one h fun f e => by rw [prun, if_neg (by simp [h1]), if_neg (by simp [h2])]; exact e
  have h5 : PR (.level 5) s n s' := PR.one h0 fun f e => by rw [prun, if_pos rfl]; exact e
  exact .lev (by decide) (.lev (by decide) (.lev (by decide) (.lev (by decide) (.lev (by decide) h5 (ho 4 (by decide))) (ho 3 (by decide))) (ho 2 (by decide))) (ho 1 (by decide))) (ho 0 (by decide))
theorem PR.deep {q : Q} {s s' : PS} {n : Nd} (h0 : s.e = 0) (hd : s.d < 16) (h : PR q { s with d := s.d + 1 } n s') : PR (.deep q) s n { s' with d := s.d } := by
  have e : deepS s = s := by unfold deepS; rw [if_neg (by omega)]
  exact PR.one h fun f e1 => by rw [prun, e, if_neg (by simp [h0]), e1]; rfl
theorem PR.args0 {q : Q} {s s1 : PS} {n : Nd} {out : List Nd} (h0 : s.e = 0) (h : PR q s n s1) (hb : isB [41] s1 = true) : PR (.args q out) s (.mk 0 [] 0 (out ++ [n])) s1.next :=
  PR.one h fun f e => by rw [prun, if_neg (by simp [h0]), e]; simp only [Option.bind_some]; rw [if_pos hb]
theorem PR.args1 {q : Q} {s s1 s2 : PS} {n m : Nd} {out : List Nd} (h0 : s.e = 0) (h : PR q s n s1) (hb : isB [41] s1 = false) (h2 : PR (.args q (out ++ [n])) (mustS [44] s1) m s2) : PR (.args q out) s m s2 :=
  PR.two h h2 fun f e e2 => by rw [prun, if_neg (by simp [h0]), e]; simp only [Option.bind_some]; rw [if_neg (by simp [hb])]; exact e2
theorem PR.list0 {q : Q} {s : PS} (hb : isB [41] s = true) : PR (.list q) s .zero s.next := ⟨1, by rw [prun, if_pos hb]⟩
theorem PR.list1 {q : Q} {s s' : PS} {n : Nd} (hb : isB [41] s = false) (h : PR (.args q []) s n s') : PR (.list q) s n s' :=
  PR.one h fun f e => by rw [prun, if_neg (by simp [hb])]; exact e
theorem PR.stmts0 {s : PS} {out : List Nd} (h0 : s.e = 0) (hb : isB [125] s = true) : PR (.stmts out) s (.mk 2 [] 0 out) s.next := ⟨1, by rw [prun, if_neg (by simp [h0]), if_pos hb]⟩
theorem PR.stmts1 {s s1 s2 : PS} {n m : Nd} {out : List Nd} (h0 : s.e = 0) (hb : isB [125] s = false) (h : PR .stmt s n s1) (h2 : PR (.stmts (out ++ [n])) s1 m s2) : PR (.stmts out) s m s2 :=
  PR.two h h2 fun f e e2 => by rw [prun, if_neg (by simp [h0]), if_neg (by simp [hb]), e]; exact e2
theorem PR.block {s s' : PS} {n : Nd} (h : PR (.deep (.stmts [])) (mustS [123] s) n s') : PR .block s n s' := PR.one h fun f e => by rw [prun]; exact e
theorem PR.scr0 {s : PS} {out : List Nd} (h : s.hd.kind = 0) : PR (.script out) s (.mk 0 [] 0 out) s := ⟨1, by rw [prun, if_pos (.inr h)]⟩
theorem PR.scr1 {s s1 s2 s3 : PS} {n m r : Nd} {out : List Nd} (h0 : s.e = 0) (hk : s.hd.kind ≠ 0) (h1 : PR (.list .var) (mustS [40] (nameS (mustS [111, 110] s)).2) n s1) (h2 : PR .block s1 m s2)
    (h3 : PR (.script (out ++ [.mk 1 (nameS (mustS [111, 110] s)).1 0 (n.kids ++ [m])])) s2 r s3) : PR (.script out) s r s3 :=
  PR.three h1 h2 h3 fun f e1 e2 e3 => by rw [prun, if_neg (by simp [h0, hk]), e1]; simp only [Option.bind_some]; rw [e2]; exact e3
/-- a statement that is a part -/
theorem PR.stmtE {s s1 : PS} {n : Nd} (h1 : isB [105, 102] s = false) (h2 : isB [119, 104, 105, 108, 101] s = false) (h3 : isB [115, 116, 111, 112] s = false) (h4 : ¬ atSet s) (h : PR (.level 0) s n s1) : PR .stmt s (.mk 4 [] 0 [n]) (mustS [59] s1) :=
  PR.one h fun f e => by rw [prun, if_neg (by simp [h1]), if_neg (by simp [h2]), if_neg (by simp [h3]), if_neg h4, e]; rfl
theorem PR.stmtS {s s1 : PS} {n : Nd} (h1 : isB [105, 102] s = false) (h2 : isB [119, 104, 105, 108, 101] s = false) (h3 : isB [115, 116, 111, 112] s = false) (h4 : atSet s) (h : PR (.level 0) (mustS [61] (nameS s).2) n s1) : PR .stmt s (.mk 3 (nameS s).1 0 [n]) (mustS [59] s1) :=
  PR.one h fun f e => by rw [prun, if_neg (by simp [h1]), if_neg (by simp [h2]), if_neg (by simp [h3]), if_pos h4, e]; rfl
theorem PR.call {s s' : PS} {n : Nd} (h1 : takeS 3 s = false) (h2 : takeS 4 s = false) (h3 : isB [110, 105, 108] s = false) (h4 : isB [40] s = false) (h5 : isB [40] (nameS s).2 = true) (h : PR (.list (.deep (.level 0))) (nameS s).2.next n s') :
    PR .primary s (.mk 12 (nameS s).1 0 n.kids) s' :=
  PR.one h fun f e => by rw [prun, if_neg (by simp [h1]), if_neg (by simp [h2]), if_neg (by simp [h3]), if_neg (by simp [h4]), if_pos h5, e]; rfl
/-- the number one -/
def oneN : Nd := .mk 8 [] 1 []
theorem prOne {c : Bs} {p p' : Int} {d : Nat} {r : List Sg} {q : Int} (hc : c = [44] ∨ c = [41] ∨ c = [59]) : PR (.level 0) ⟨⟨3, [], 1, p⟩ :: ⟨5, c, q, p'⟩ :: r, d, 0⟩ oneN ⟨⟨5, c, q, p'⟩ :: r, d, 0⟩ := by
  refine PR.prim ⟨1, ?_⟩ ?_ ?_ ?_
  · rcases hc with rfl | rfl | rfl <;> kernel_rfl
  · rcases hc with rfl | rfl | rfl <;> kernel_rfl
  · rcases hc with rfl | rfl | rfl <;> kernel_rfl
  · intro i hi
    have h5 : i = 0 ∨ i = 1 ∨ i = 2 ∨ i = 3 ∨ i = 4 := by omega
    rcases h5 with rfl | rfl | rfl | rfl | rfl <;> rcases hc with rfl | rfl | rfl <;> trace_state <;> exact (by kernel_rfl : opS _ _ = none)
end Go.Proofs
