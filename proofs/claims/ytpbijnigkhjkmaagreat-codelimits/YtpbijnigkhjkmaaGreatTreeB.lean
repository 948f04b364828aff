/- tree: expressions. -/
import Derived.Test.YtpbijnigkhjkmaaGreatTreeA
namespace Go.Proofs
open Go.X
set_option maxHeartbeats 1000000
set_option linter.unusedVariables false
set_option linter.unusedSimpArgs false

theorem rowAt {α : Type} {w : World} {I : Im} {L R : Heap} {b sz : Nat} {enc : α → List Value} {vs : List Value} {T : TypeId} (xs : List α) (h : HH w I L) (r : Rem L b (.cells vs.toArray T (0, 0)) R) (e : vs = (xs.map enc).flatten)
    (he : ∀ x ∈ xs, (enc x).length = sz) : ∃ I', I.Le I' ∧ HH w I' R ∧ SlI I' b 0 sz enc xs ∧ SlA I' (some ⟨b, 0, none⟩) sz enc xs := (h.perm r.perm).row xs e he
class PCE (m : outParam Nat) : Prop where
  lev : ∀ v w I R bp s K i, i ≤ 5 → s.l.length * 32 + rank (.level i) < m → HH w I ((bp, PS.obj v s) :: R) → PSok I v s → PPost (.level i) v bp s I R K →
    XApp Tryz.prog 161 [.pointer (some ⟨bp, 0, none⟩), .int .i64 (i : Nat)] w K
  una : ∀ v w I R bp s K, s.l.length * 32 + rank .unary < m → HH w I ((bp, PS.obj v s) :: R) → PSok I v s → PPost .unary v bp s I R K →
    XApp Tryz.prog 163 [.pointer (some ⟨bp, 0, none⟩)] w K
  pri : ∀ v w I R bp s K, s.l.length * 32 + rank .primary < m → HH w I ((bp, PS.obj v s) :: R) → PSok I v s → PPost .primary v bp s I R K →
    XApp Tryz.prog 165 [.pointer (some ⟨bp, 0, none⟩)] w K
instance (i : Nat) : NatOf ((i : Int) + 1) (i + 1) := ⟨by omega⟩
instance levIH {w : World} {I : Im} {L R : Heap} {bp m i : Nat} {j : Int} {v : Env} {s : PS} {K : KV} [hh : HH w I L] [ih : PCE m] [nj : NatOf j i] [r : Rem L bp (PS.obj v s) R] [ok : PSok I v s] :
    XStep (XApp Tryz.prog 161 [.pointer (some ⟨bp, 0, none⟩), .int .i64 j] w K) (XChk (0 ≤ j ∧ j ≤ 5 ∧ s.l.length * 32 + (8 - j) < m) (PPost (.level i) v bp s I R K)) := ⟨fun ⟨⟨h0, h1, h2⟩, k⟩ => by
  have e := nj.eq
  have : j = (i : Nat) := by omega
  subst this
  exact ih.lev v w I R bp s K i (by omega) (by simp only [rank]; omega) (hh.perm r.perm) ok k⟩
instance unaIH {w : World} {I : Im} {L R : Heap} {bp m : Nat} {v : Env} {s : PS} {K : KV} [hh : HH w I L] [ih : PCE m] [r : Rem L bp (PS.obj v s) R] [ok : PSok I v s] :
    XStep (XApp Tryz.prog 163 [.pointer (some ⟨bp, 0, none⟩)] w K) (XChk (s.l.length * 32 + 2 < m) (PPost .unary v bp s I R K)) := ⟨fun ⟨h2, k⟩ =>
  ih.una v w I R bp s K h2 (hh.perm r.perm) ok k⟩
instance priIH {w : World} {I : Im} {L R : Heap} {bp m : Nat} {v : Env} {s : PS} {K : KV} [hh : HH w I L] [ih : PCE m] [r : Rem L bp (PS.obj v s) R] [ok : PSok I v s] :
    XStep (XApp Tryz.prog 165 [.pointer (some ⟨bp, 0, none⟩)] w K) (XChk (s.l.length * 32 + 1 < m) (PPost .primary v bp s I R K)) := ⟨fun ⟨h2, k⟩ =>
  ih.pri v w I R bp s K h2 (hh.perm r.perm) ok k⟩
theorem levStep {m : Nat} [ih : PCE m] (v : Env) (w : World) (I : Im) (R : Heap) (bp : Nat) (s : PS) (K : KV) (i : Nat) (hi : i ≤ 5) (hm : s.l.length * 32 + (8 - i) ≤ m) (hh : HH w I ((bp, PS.obj v s) :: R)) (ok : PSok I v s) (k : PPost (.level i) v bp s I R K) :
    XApp Tryz.prog 161 [.pointer (some ⟨bp, 0, none⟩), .int .i64 (i : Nat)] w K := by
  refine .of Tryz.func161 ?_
  repeat' (conv => whnf
           first
             | exact trivial
             | refine XStep.go ?_
             | refine XChk.mk (by first | omega | decide | (simp only [List.length_take, List.length_drop]; omega) | (simp only [List.length_append, List.length_cons, List.length_nil]; omega)) ?_
             | refine XBoth.mk ?_ ?_
             | (refine PPost.mk fun n1 s1 w1 I1 a1 c1 hd1 hl1 hh1 ok1 hk1 => ?_)
             | (refine XChk.mk (by have := LvOk.len ‹LvOk _ _›; omega) ?_)
             | (refine XCode.drawH (id := 7) #[.pur, .qui, .pur, .pur, .pur, .lou, .lou, .pur, .lou] (.one 0 (.one 2 (.one 3 (.one 4 (.br 1 (.one 5 (.one 6 (.one 7 (.one 8 .done)))) (.br 5 (.one 1 (.one 6 (.one 7 (.one 8 .done)))) .non)))))) mixed (by kernel_rfl) ?_)
             | intro xx
             | (refine XBr.t (by omega) ?_)
             | (refine XBr.f (by omega) ?_)
             | refine XOpt.mk (fun x hc => ?_) (fun hc => ?_)
             | refine XRes.mk (fun x hc => ?_) (fun x hc => ?_)
             | refine XBr.mk (fun hc => ?_) (fun hc => ?_)
             | refine XIf.mk (fun hc => ?_) (fun hc => ?_))
  · conv => whnf
    have h5 := LvOk.len ‹LvOk _ _›
    have hl0 := ‹I.Le _›
    exact k.go _ _ _ _ _ _ ⟨hd1.pr.one fun f hf => by rw [prun, if_pos (by omega)]; exact hf, hd1.len, hd1.d⟩ (hl0.trans hl1) HH.fin ok1 hk1
  · rename_i b4 _ _ _ I0 _ _ hl0 _ _ hlv b5 _ _ w5
    have h5 := hlv.len
    have hle := ok.le
    have hle1 := hd1.len
    refine XCode.loopG (fun g : NV × PS => [some (.pointer (some ⟨bp, 0, none⟩)), some (.int .i64 (i : Nat)), none, none, some (.pointer (some ⟨b4, 0, none⟩)), some (.pointer (some ⟨b5, 0, none⟩)), none, none, none, none, none, none, none, none, none, none, none, none, none, none, none, none, none, none, none, none, none, none, none, none, none, none, none, none, none, none, none, none])
      (fun g w => (∃ I', I.Le I' ∧ HH w I' ((bp, PS.obj v g.2) :: (b5, .cells (List.toArray [.int .i64 g.1.n.op, .string ⟨g.1.n.text.toArray⟩, .int .i64 g.1.n.num, .slice g.1.a g.1.n.kids.length g.1.c]) 63 (0, 0)) :: (b4, .cells (List.toArray [.int .i64 0, .string ⟨#[]⟩, .int .i64 0, .slice none 0 0]) 63 (0, 0)) :: R) ∧ PSok I' v g.2 ∧ KidsC I' g.1.a g.1.c g.1.n.kids)
        ∧ g.2.l.length ≤ s.l.length ∧ g.2.d = s.d ∧ ∀ n s', PDone (.loop i g.1.n) g.2 s' n → PDone (.level i) s s' n)
      (fun g => g.2.l.length) (⟨n1, a1, c1⟩, s1) ?_
      ⟨⟨I1, hl0.trans hl1, xx.perm (List.Perm.swap _ _ _), ok1, hk1⟩, hle1, hd1.d, fun n s' h => ⟨PR.two hd1.pr h.pr fun f h1 h2 => by rw [prun, if_neg (by omega), h1]; exact h2, by have := h.len; dsimp only at this; omega, by rw [h.d]; exact hd1.d⟩⟩ ?_
    · simp [fits]
    · rintro ⟨⟨no, ao, co⟩, s2⟩ w2 ⟨⟨I2, hl2, hh2, ok2, hk2⟩, g1, g2, g3⟩
      dsimp only at hh2 ok2 hk2 g1 g2 g3 ⊢
      have hle2 := ok2.le
      have hn2 := next_len s2
      clear hh1 xx hh
      repeat' (conv => whnf
               first
                 | exact trivial
                 | refine XStep.go ?_
                 | refine XChk.mk (by first | omega | decide | (simp only [List.length_take, List.length_drop]; omega) | (simp only [List.length_append, List.length_cons, List.length_nil]; omega)) ?_
                 | refine XBoth.mk ?_ ?_
                 | (refine PPost.mk fun n3 s3 w3 I3 a3 c3 hd3 hl3 hh3 ok3 hk3 => ?_)
                 | (refine XCode.drawH (id := 7) #[.pur, .qui, .pur, .pur, .pur, .lou, .lou, .pur, .lou] (.one 0 (.one 2 (.one 3 (.one 4 (.br 1 (.one 5 (.one 6 (.one 7 (.one 8 .done)))) (.br 5 (.one 1 (.one 6 (.one 7 (.one 8 .done)))) .non)))))) mixed (by kernel_rfl) ?_)
                 | intro xx
                 | (refine XBr.t (by omega) ?_)
                 | (refine XBr.f (by omega) ?_)
                 | refine XOpt.mk (fun x hc => ?_) (fun hc => ?_)
                 | refine XRes.mk (fun x hc => ?_) (fun x hc => ?_)
                 | refine XBr.mk (fun hc => ?_) (fun hc => ?_)
                 | refine XIf.mk (fun hc => ?_) (fun hc => ?_))
      all_goals first
      | (obtain ⟨I4, hl4, hh4, _, ha4⟩ := xx.row (enc := encN) (sz := 4) [⟨no, ao, co⟩, ⟨n3, a3, c3⟩] rfl (by simp [encN])
         conv => whnf
         have hk4 := KidsC.of ha4 (Nat.le_refl 2) (by
           intro y hy
           simp only [List.mem_cons, List.not_mem_nil, or_false] at hy
           rcases hy with rfl | rfl
           · exact ⟨hk2.p.mono (hl3.trans hl4)⟩
           · exact ⟨hk3.p.mono hl4⟩)
         have hd4 : PDone (.loop i no) s2 s3 (.mk 13 x 0 [no, n3]) := PDone.of1 hd3 (by omega) rfl (Nat.le_refl _) rfl fun f hf => by
           rw [prun, ‹opS i s2 = some x›]
           simp only [hf, Option.bind_some]
           rw [if_pos (by omega)]
         exact k.go _ _ _ _ _ _ (g3 _ _ hd4) (hl2.trans (hl3.trans hl4)) HH.fin inferInstance hk4)
      | (obtain ⟨I4, hl4, hh4, _, ha4⟩ := xx.row (enc := encN) (sz := 4) [⟨no, ao, co⟩, ⟨n3, a3, c3⟩] rfl (by simp [encN])
         conv => whnf
         have hk4 := KidsC.of ha4 (Nat.le_refl 2) (by
           intro y hy
           simp only [List.mem_cons, List.not_mem_nil, or_false] at hy
           rcases hy with rfl | rfl
           · exact ⟨hk2.p.mono (hl3.trans hl4)⟩
           · exact ⟨hk3.p.mono hl4⟩)
         have e1 := hd3.len
         have e2 := hd3.d
         refine ⟨(⟨.mk 13 x 0 [no, n3], _, 2⟩, s3), rfl, ⟨rfl, rfl, rfl, rfl, trivial⟩, ⟨⟨I4, hl2.trans (hl3.trans hl4), hh4, inferInstance, hk4⟩, by dsimp only; omega, by dsimp only; omega, fun n s' h => ?_⟩, by dsimp only; omega⟩
         refine g3 _ _ ⟨PR.two hd3.pr h.pr fun f h1 h2 => ?_, by have := h.len; dsimp only at this; omega, by have := h.d; dsimp only at this; omega⟩
         rw [prun, ‹opS i s2 = some x›]
         simp only [h1, Option.bind_some]
         rw [if_neg (by omega)]
         exact h2)
      | (conv => whnf
         exact k.go _ _ _ _ _ _ (g3 _ _ ⟨⟨1, by rw [prun, hc]⟩, Nat.le_refl _, rfl⟩) hl2 HH.fin ok2 hk2)
end Go.Proofs

/- tree: unary parts, primary parts. -/
namespace Go.Proofs
open Go.X
set_option maxHeartbeats 1000000
set_option linter.unusedVariables false
set_option linter.unusedSimpArgs false

instance exprC {w : World} {I : Im} {L R : Heap} {bp m : Nat} {v : Env} {s : PS} {K : KV} [hh : HH w I L] [ih : PCE m] [r : Rem L bp (PS.obj v s) R] [ok : PSok I v s] :
    XStep (XApp Tryz.prog 158 [.pointer (some ⟨bp, 0, none⟩)] w K) (XChk (s.l.length * 32 + 8 < m) (PPost (.level 0) v bp s I R K)) := ⟨fun ⟨hm, k⟩ => by
  have hh' := hh.perm r.perm
  clear hh r
  refine .of Tryz.func158 ?_
  repeat' (conv => whnf
           first
             | exact trivial
             | refine XStep.go ?_
             | refine XChk.mk (by first | omega | decide | (simp only [List.length_take, List.length_drop]; omega) | (simp only [List.length_append, List.length_cons, List.length_nil]; omega)) ?_
             | refine XBoth.mk ?_ ?_
             | (refine PPost.mk fun n1 s1 w1 I1 a1 c1 hd1 hl1 hh1 ok1 hk1 => ?_)
             | intro xx
             | (refine XBr.t (by omega) ?_)
             | (refine XBr.f (by omega) ?_)
             | refine XOpt.mk (fun x hc => ?_) (fun hc => ?_)
             | refine XRes.mk (fun x hc => ?_) (fun x hc => ?_)
             | refine XBr.mk (fun hc => ?_) (fun hc => ?_)
             | refine XIf.mk (fun hc => ?_) (fun hc => ?_))
  conv => whnf
  exact k.go _ _ _ _ _ _ hd1 hl1 HH.fin ok1 hk1⟩
theorem PFn.ofApp {I : Im} {g : FuncId} [FnOk Tryz.prog g] {fs cs : List Value} {bp m : Nat} {q : Q}
    (h : ∀ v w I' R s K, I.Le I' → s.l.length * 32 + rank q < m → HH w I' ((bp, PS.obj v s) :: R) → PSok I' v s → PPost q v bp s I' R K → XApp Tryz.prog g (fs ++ cs) w K) :
    PFn I (.func (.func g) fs.toArray cs.toArray) bp q m :=
  ⟨fun v ro w I' R s K hl hm hh ok k => callStep.go (by rw [appsK_eq, appsK_eq]; simpa using h v w I' R s K hl hm hh ok k)⟩
instance exprF {I : Im} {bp m : Nat} [ih : PCE m] : PFn I (.func (.func 158) #[.pointer (some ⟨bp, 0, none⟩)] #[]) bp (.level 0) m :=
  PFn.ofApp (fs := [.pointer (some ⟨bp, 0, none⟩)]) (cs := []) fun v w I' R s K hl hm hh ok k => exprC.go ⟨hm, k⟩
instance unaryF {I : Im} {bp m : Nat} [ih : PCE m] : PFn I (.func (.func 163) #[.pointer (some ⟨bp, 0, none⟩)] #[]) bp .unary m :=
  PFn.ofApp (fs := [.pointer (some ⟨bp, 0, none⟩)]) (cs := []) fun v w I' R s K hl hm hh ok k => unaIH.go ⟨hm, k⟩
instance prim1F {I : Im} {bx bp m : Nat} [ih : PCE m] [hi : Imm I bx (.cells (List.toArray [.pointer (some ⟨bp, 0, none⟩)]) 113 (0, 0))] :
    PFn I (.func (.func 166) #[] #[.pointer (some ⟨bx, 0, none⟩)]) bp (.deep (.level 0)) m :=
  PFn.ofApp (fs := []) (cs := [.pointer (some ⟨bx, 0, none⟩)]) fun v w I' R s K hl hm hh ok k => by
    have hi2 := hi.mono hl
    refine .of Tryz.func166 ?_
    repeat' (conv => whnf
             first
               | exact trivial
               | refine XStep.go ?_
               | refine XChk.mk (by first | omega | decide | (simp only [List.length_take, List.length_drop]; omega) | (simp only [List.length_append, List.length_cons, List.length_nil]; omega)) ?_
               | refine XBoth.mk ?_ ?_
               | (refine PPost.mk fun n1 s1 w1 I1 a1 c1 hd1 hl1 hh1 ok1 hk1 => ?_)
               | (refine XChk.mk (Or.inl hm) ?_)
               | intro xx
               | (refine XBr.t (by omega) ?_)
               | (refine XBr.f (by omega) ?_)
               | refine XOpt.mk (fun x hc => ?_) (fun hc => ?_)
               | refine XRes.mk (fun x hc => ?_) (fun x hc => ?_)
               | refine XBr.mk (fun hc => ?_) (fun hc => ?_)
               | refine XIf.mk (fun hc => ?_) (fun hc => ?_))
    conv => whnf
    exact k.go _ _ _ _ _ _ hd1 hl1 HH.fin ok1 hk1
theorem una_isB {n : Nat} {x : Bs} {s : PS} (hn : n < 2) (hx : ([[110, 111, 116], [45]] : List Bs)[n]? = some x) (hc : isB x s = false) (h5 : 1 ≤ n → isB [110, 111, 116] s = false) (h6 : 2 ≤ n → isB [45] s = false) :
    (1 ≤ n + 1 → isB [110, 111, 116] s = false) ∧ (2 ≤ n + 1 → isB [45] s = false) := by
  match n, hn with
  | 0, _ => cases hx; exact ⟨fun _ => hc, fun h => by omega⟩
  | 1, _ => cases hx; exact ⟨fun _ => h5 (by omega), fun _ => hc⟩
theorem unaPR {n : Nat} {x : Bs} {s s1 : PS} {n1 : Nd} (hn : n < 2) (hx : ([[110, 111, 116], [45]] : List Bs)[n]? = some x) (hc : isB x s = true) (h5 : 1 ≤ n → isB [110, 111, 116] s = false) (hd : PDone (.deep .unary) s.next s1 n1) : PDone .unary s s1 (.mk 14 x 0 [n1]) := by
  have hl := (next_len s).1
  match n, hn with
  | 0, _ =>
    cases hx
    exact PDone.of1 hd (by omega) rfl (Nat.le_refl _) rfl fun f hf => by rw [prun, if_pos hc, hf]; rfl
  | 1, _ =>
    cases hx
    exact PDone.of1 hd (by omega) rfl (Nat.le_refl _) rfl fun f hf => by rw [prun, if_neg (by simp [h5]), if_pos hc, hf]; rfl
theorem unaStep {m : Nat} [ih : PCE m] (v : Env) (w : World) (I : Im) (R : Heap) (bp : Nat) (s : PS) (K : KV) (hm : s.l.length * 32 + 2 ≤ m) (hh : HH w I ((bp, PS.obj v s) :: R)) (ok : PSok I v s) (k : PPost .unary v bp s I R K) :
    XApp Tryz.prog 163 [.pointer (some ⟨bp, 0, none⟩)] w K := by
  refine .of Tryz.func163 ?_
  repeat' (conv => whnf
           first
             | exact trivial
             | refine XStep.go ?_
             | refine XChk.mk (by first | omega | decide | (simp only [List.length_take, List.length_drop]; omega) | (simp only [List.length_append, List.length_cons, List.length_nil]; omega)) ?_
             | refine XBoth.mk ?_ ?_
             | intro xx
             | (refine XBr.t (by omega) ?_)
             | (refine XBr.f (by omega) ?_)
             | refine XOpt.mk (fun x hc => ?_) (fun hc => ?_)
             | refine XRes.mk (fun x hc => ?_) (fun x hc => ?_)
             | refine XBr.mk (fun hc => ?_) (fun hc => ?_)
             | refine XIf.mk (fun hc => ?_) (fun hc => ?_))
  rename_i b2 _ _ b5 w5
  obtain ⟨I1, hl1, hh1, s1, -⟩ := xx.row (enc := sEnc) (sz := 1) [[110, 111, 116], [45]] rfl (by simp [sEnc])
  clear xx
  refine XCode.loopG (fun n : Nat => [some (.pointer (some ⟨bp, 0, none⟩)), none, some (.pointer (some ⟨b2, 0, none⟩)), none, none, some (.slice (some ⟨b5, 0, none⟩) 2 2), some (.int .i64 2), some (.int .i64 n), none, none, none, none, none, none, none, none, none, none, none, none, none, none, none, none])
    (fun n w => HH w I1 ((bp, PS.obj v s) :: (b2, .cells (List.toArray [.int .i64 0, .string ⟨#[]⟩, .int .i64 0, .slice none 0 0]) 63 (0, 0)) :: R) ∧ n ≤ 2 ∧ (1 ≤ n → isB [110, 111, 116] s = false) ∧ (2 ≤ n → isB [45] s = false))
    (fun n => 2 - n) 0 ?_ ⟨hh1.perm (List.Perm.swap _ _ _), by omega, by omega, by omega⟩ ?_
  · exact ⟨rfl, rfl, rfl, rfl, rfl, trivial⟩
  · rintro n w ⟨hh2, h4, h5, h6⟩
    have ok1 := ok.mono hl1
    have hle := ok.le
    have hn := next_len s
    have hlen : ([[110, 111, 116], [45]] : List Bs).length = 2 := rfl
    clear hh hh1
    repeat' (conv => whnf
             first
               | exact trivial
               | refine XStep.go ?_
               | refine XChk.mk (by first | omega | decide | (simp only [List.length_take, List.length_drop]; omega) | (simp only [List.length_append, List.length_cons, List.length_nil]; omega)) ?_
               | refine XBoth.mk ?_ ?_
               | (refine PPost.mk fun n1 s1 w1 I2 a1 c1 hd1 hl2 hh3 ok3 hk3 => ?_)
               | (refine XChk.mk (Or.inl (by show _ * 32 + 2 < _; omega)) ?_)
               | intro xx
               | (refine XBr.t (by omega) ?_)
               | (refine XBr.f (by omega) ?_)
               | refine XOpt.mk (fun x hc => ?_) (fun hc => ?_)
               | refine XRes.mk (fun x hc => ?_) (fun x hc => ?_)
               | refine XBr.mk (fun hc => ?_) (fun hc => ?_)
               | refine XIf.mk (fun hc => ?_) (fun hc => ?_))
    all_goals conv => whnf
    · obtain ⟨I3, hl3, hh4, _, ha⟩ := xx.row (enc := encN) (sz := 4) [⟨n1, a1, c1⟩] rfl (by simp [encN])
      have hx := (‹At ([[110, 111, 116], [45]] : List Bs) n _›).eq
      have hk4 := KidsC.of ha (Nat.le_refl 1) (by
        intro y hy
        rw [List.mem_singleton.1 hy]
        exact ⟨hk3.p.mono hl3⟩)
      exact k.go _ _ _ _ _ _ (unaPR (by omega) hx hc h5 hd1) (hl1.trans (hl2.trans hl3)) HH.fin inferInstance hk4
    · have hx := (‹At ([[110, 111, 116], [45]] : List Bs) n _›).eq
      have h9 := una_isB (by omega) hx hc h5 h6
      exact ⟨n + 1, rfl, ⟨rfl, rfl, rfl, rfl, rfl, trivial⟩, ⟨HH.fin, by omega, h9.1, h9.2⟩, by omega⟩
    · exact k.go _ _ _ _ _ _ (PDone.of1 hd1 (Nat.le_refl _) rfl (Nat.le_refl _) rfl fun f hf => by
        rw [prun, if_neg (by simp [h5 (by omega)]), if_neg (by simp [h6 (by omega)])]; exact hf) (hl1.trans hl2) HH.fin ok3 hk3
theorem perm5 {α : Type} (a b c d e x : α) (R : List α) : (a :: b :: c :: d :: e :: x :: R).Perm (x :: a :: b :: c :: d :: e :: R) := List.perm_middle (l₁ := [a, b, c, d, e])
theorem priStep {m : Nat} [ih : PCE m] (v : Env) (w : World) (I : Im) (R : Heap) (bp : Nat) (s : PS) (K : KV) (hm : s.l.length * 32 + 1 ≤ m) (hh : HH w I ((bp, PS.obj v s) :: R)) (ok : PSok I v s) (k : PPost .primary v bp s I R K) :
    XApp Tryz.prog 165 [.pointer (some ⟨bp, 0, none⟩)] w K := by
  have hle := ok.le
  have hn := next_len s
  have hns := nameS_cases s ok.ne
  have hnn := next_len (nameS s).2
  refine .of Tryz.func165 ?_
  repeat' (conv => whnf
           first
             | exact trivial
             | refine XStep.go ?_
             | refine XChk.mk (by first | omega | decide | (simp only [List.length_take, List.length_drop]; omega) | (simp only [List.length_append, List.length_cons, List.length_nil]; omega)) ?_
             | refine XBoth.mk ?_ ?_
             | (refine PPost.mk fun n1 s1 w1 I1 a1 c1 hd1 hl1 hh1 ok1 hk1 => ?_)
             | (refine XChk.mk (Or.inl (by show _ * 32 + 8 < _; omega)) ?_)
             | intro xx
             | (refine XBr.t (by omega) ?_)
             | (refine XBr.f (by omega) ?_)
             | refine XOpt.mk (fun x hc => ?_) (fun hc => ?_)
             | refine XRes.mk (fun x hc => ?_) (fun x hc => ?_)
             | refine XBr.mk (fun hc => ?_) (fun hc => ?_)
             | refine XIf.mk (fun hc => ?_) (fun hc => ?_))
  · conv => whnf
    exact k.go (.mk 8 [] s.hd.num []) s.next _ I none 0 ⟨⟨1, by rw [prun, if_pos hc]⟩, by omega, rfl⟩ (.refl _) HH.fin inferInstance (inferInstanceAs (KidsC I none 0 []))
  · conv => whnf
    exact k.go (.mk 9 s.hd.text 0 []) s.next _ I none 0 ⟨⟨1, by rw [prun, if_neg (by simp [*]), if_pos hc]⟩, by omega, rfl⟩ (.refl _) HH.fin inferInstance (inferInstanceAs (KidsC I none 0 []))
  · conv => whnf
    exact k.go (.mk 10 [] 0 []) s.next _ I none 0 ⟨⟨1, by rw [prun, if_neg (by simp [*]), if_neg (by simp [*]), if_pos hc]⟩, by omega, rfl⟩ (.refl _) HH.fin inferInstance (inferInstanceAs (KidsC I none 0 []))
  · conv => whnf
    have h9 := mustS_cases [41] s1 ok1.ne
    exact k.go n1 (mustS [41] s1) _ _ _ _ (PDone.of1 hd1 (by omega) rfl (by omega) (by omega) fun f hf => by
      rw [prun, if_neg (by simp [*]), if_neg (by simp [*]), if_neg (by simp [*]), if_pos ‹isB [40] s = true›, hf]; rfl) hl1 HH.fin inferInstance hk1
  · have hx := xx.perm (perm5 ..)
    obtain ⟨hh2, hl2, hi2⟩ := hx.freeze
    clear xx hx
    have ok2 := (‹PSok I v (nameS s).2.next›).mono hl2
    have hh3 := hh2
    repeat' (conv => whnf
             first
               | exact trivial
               | refine XStep.go ?_
               | refine XChk.mk (by first | omega | decide | (simp only [List.length_take, List.length_drop]; omega) | (simp only [List.length_append, List.length_cons, List.length_nil]; omega)) ?_
               | refine XBoth.mk ?_ ?_
               | (refine LPost.mk fun n1 s1 w1 I2 a1 c1 xs1 E1 hd1 hl3 hh3 ok3 so3 he3 hk3 hn3 => ?_)
               | (refine XChk.mk (Or.inl (by show _ * 32 + 8 < _; omega)) ?_)
               | intro xx
               | (refine XBr.t (by omega) ?_)
               | (refine XBr.f (by omega) ?_)
               | refine XOpt.mk (fun x hc => ?_) (fun hc => ?_)
               | refine XRes.mk (fun x hc => ?_) (fun x hc => ?_)
               | refine XBr.mk (fun hc => ?_) (fun hc => ?_)
               | refine XIf.mk (fun hc => ?_) (fun hc => ?_))
    obtain ⟨I3, hl4, hh4, ha4, hc4⟩ := so3.freeze (xx.perm List.perm_middle.symm)
    clear xx
    conv => whnf
    have hk4 := KidsC.of ha4 hc4 fun y hy => ⟨(hk3 y hy).p.mono hl4⟩
    have hlen4 : n1.kids.length = xs1.length := by rw [he3]; simp
    have hd4 : PDone .primary s s1 (.mk 12 (nameS s).1 0 n1.kids) := PDone.of1 hd1 (by omega) (by omega) (Nat.le_refl _) rfl fun f hf => by
      rw [prun, if_neg (by simp [*]), if_neg (by simp [*]), if_neg (by simp [*]), if_neg (by simp [*]), if_pos hc, hf]; rfl
    rw [← he3] at hk4
    exact retTo (k.go (.mk 12 (nameS s).1 0 n1.kids) s1 _ I3 a1 c1 hd4 (hl2.trans (hl3.trans hl4)) HH.fin inferInstance hk4) (by rw [← hlen4]; rfl)
  · conv => whnf
    exact k.go (.mk 11 (nameS s).1 0 []) (nameS s).2 _ I none 0 ⟨⟨1, by rw [prun, if_neg (by simp [*]), if_neg (by simp [*]), if_neg (by simp [*]), if_neg (by simp [*]), if_neg (by simp [*])]⟩, by omega, by omega⟩ (.refl _) HH.fin inferInstance (inferInstanceAs (KidsC I none 0 []))
theorem pceAll : ∀ m, PCE m
  | 0 => ⟨fun _ _ _ _ _ _ _ _ _ h => absurd h (Nat.not_lt_zero _), fun _ _ _ _ _ _ _ h => absurd h (Nat.not_lt_zero _), fun _ _ _ _ _ _ _ h => absurd h (Nat.not_lt_zero _)⟩
  | m + 1 =>
    have ih := pceAll m
    ⟨fun v w I R bp s K i hi hm hh ok k => levStep v w I R bp s K i hi (Nat.lt_succ_iff.1 hm) hh ok k,
     fun v w I R bp s K hm hh ok k => unaStep v w I R bp s K (Nat.lt_succ_iff.1 hm) hh ok k,
     fun v w I R bp s K hm hh ok k => priStep v w I R bp s K (Nat.lt_succ_iff.1 hm) hh ok k⟩
instance : PCE 100000 := pceAll _
end Go.Proofs

/- tree: what is read gets less. -/
namespace Go.Proofs
open Go.X
set_option maxHeartbeats 2000000
set_option linter.unusedVariables false
set_option linter.unusedSimpArgs false

theorem isB_len {t : Bs} {s : PS} (h : isB t s = true) : s.next.l.length + 1 = s.l.length := by
  have hk := (isB_e h).2
  have hn := (next_len s).1
  cases e : s.l with
  | nil => rw [PS.hd, e] at hk; exact absurd rfl hk
  | cons g r => rw [e] at hn; simp at hn ⊢; omega
theorem mustS_e (t : Bs) (s : PS) : (mustS t s).e ≠ 0 ∨ (mustS t s).l.length + 1 = s.l.length := by
  unfold mustS
  split
  · exact .inr (isB_len ‹_›)
  · exact .inl (failS_e s 2 (by decide))
theorem next_le (s : PS) : s.next.l.length ≤ s.l.length := by have := (next_len s).1; omega
theorem mustS_le (t : Bs) (s : PS) : (mustS t s).l.length ≤ s.l.length := by
  unfold mustS; split
  · exact next_le s
  · rw [(failS_l s 2).1]; exact Nat.le_refl _
theorem nameS_le (s : PS) : (nameS s).2.l.length ≤ s.l.length := by
  unfold nameS; split
  · exact next_le s
  · show (failS s 2).l.length ≤ _; rw [(failS_l s 2).1]; exact Nat.le_refl _
theorem deepS_le (s : PS) : (deepS s).l.length ≤ s.l.length := by
  unfold deepS; split
  · rw [(failS_l s 9).1]; exact Nat.le_refl _
  · exact Nat.le_refl _
def PLen (r : PRes) (m : Nat) : Prop := ∀ n s', r = some (n, s') → s'.l.length ≤ m
theorem PLen.some {n : Nd} {s : PS} {m : Nat} (h : s.l.length ≤ m) : PLen (some (n, s)) m := fun _ _ e => by cases e; exact h
theorem PLen.bind {a : PRes} {k : Nd × PS → PRes} {m m' : Nat} (h : PLen a m') (hm : m' ≤ m) (hk : ∀ n s, s.l.length ≤ m' → PLen (k (n, s)) m) : PLen (a.bind k) m := fun n s' e => by
  cases ea : a with
  | none => rw [ea] at e; cases e
  | some x => rw [ea] at e; exact hk x.1 x.2 (h _ _ ea) _ _ e
theorem PLen.ite {c : Prop} [Decidable c] {a b : PRes} {m : Nat} (h : PLen a m) (h' : PLen b m) : PLen (if c then a else b) m := by
  split <;> assumption
theorem PLen.mono {a : PRes} {m m' : Nat} (h : PLen a m') (hm : m' ≤ m) : PLen a m := fun n s e => Nat.le_trans (h n s e) hm
theorem prun_len : ∀ (f : Nat) (q : Q) (s : PS), PLen (prun f q s) s.l.length
  | 0, _, _ => fun _ _ h => by simp [prun] at h
  | f + 1, q, s => by
    have ih := prun_len f
    have h1 := next_le s
    have h2 := nameS_le s
    have h3 := next_le (nameS s).2
    have h4 := deepS_le s
    have h5 := mustS_le [61] (nameS s).2
    have h6 := mustS_le [40] (nameS (mustS [111, 110] s)).2
    have h7 := nameS_le (mustS [111, 110] s)
    have h8 := mustS_le [111, 110] s
    cases q
    case loop i out =>
      rw [prun]
      cases opS i s
      · exact .some (Nat.le_refl _)
      · exact .bind (ih _ _) h1 fun n s' h => .ite (.some (Nat.le_trans h h1)) ((ih _ _).mono (Nat.le_trans h h1))
    all_goals
      rw [prun]
      repeat' (first
        | refine PLen.ite ?_ ?_
        | refine PLen.bind (ih _ _) ?_ fun n s' h => ?_
        | refine PLen.some ?_
        | refine PLen.mono (ih _ _) ?_)
    all_goals try dsimp only at *
    all_goals first
      | omega
      | exact Nat.le_trans (mustS_le _ _) (by first | omega | exact mustS_le _ _)
      | exact Nat.le_trans (mustS_le _ _) (Nat.le_trans (nameS_le _) (mustS_le _ _))
      | exact Nat.le_trans (next_le _) (by omega)
      | exact Nat.le_trans (by assumption) (Nat.le_trans (next_le _) (by omega))
      | skip
def PLess (r : PRes) (m : Nat) : Prop := ∀ n s', r = some (n, s') → s'.e ≠ 0 ∨ s'.l.length < m
theorem PLess.ofLen {r : PRes} {m m' : Nat} (h : PLen r m') (hm : m' < m) : PLess r m := fun n s e => .inr (Nat.lt_of_le_of_lt (h n s e) hm)
theorem PLess.must {t : Bs} {n : Nd} {s : PS} {m : Nat} (h : s.l.length ≤ m) : PLess (some (n, mustS t s)) m := fun _ _ e => by
  cases e
  rcases mustS_e t s with h1 | h1
  · exact .inl h1
  · exact .inr (by omega)
theorem PLess.bind {a : PRes} {k : Nd × PS → PRes} {m m' : Nat} (h : PLen a m') (hk : ∀ n s, s.l.length ≤ m' → PLess (k (n, s)) m) : PLess (a.bind k) m := fun n s' e => by
  cases ea : a with
  | none => rw [ea] at e; cases e
  | some x => rw [ea] at e; exact hk x.1 x.2 (h _ _ ea) _ _ e
theorem stm_less {f : Nat} {s : PS} : PLess (prun f .stmt s) s.l.length := by
  cases f with
  | zero => intro n s' h; simp [prun] at h
  | succ f =>
    rw [prun]
    split
    · rename_i hb
      have h1 := isB_len hb
      refine PLess.ofLen (m' := s.next.l.length) ?_ (by omega)
      refine PLen.bind (prun_len _ _ _) (Nat.le_refl _) fun n s1 h2 => ?_
      refine PLen.bind (prun_len _ _ _) h2 fun n s2 h3 => ?_
      refine PLen.ite ?_ ?_
      · refine PLen.bind (prun_len _ _ _) (Nat.le_trans (next_le _) (Nat.le_trans h3 h2)) fun n s3 h4 => ?_
        exact PLen.some (Nat.le_trans h4 (Nat.le_trans (next_le _) (Nat.le_trans h3 h2)))
      · exact PLen.some (Nat.le_trans h3 h2)
    split
    · rename_i hb
      have h1 := isB_len hb
      refine PLess.ofLen (m' := s.next.l.length) ?_ (by omega)
      refine PLen.bind (prun_len _ _ _) (Nat.le_refl _) fun n s1 h2 => ?_
      refine PLen.bind (prun_len _ _ _) h2 fun n s2 h3 => ?_
      exact PLen.some (Nat.le_trans h3 h2)
    split
    · exact PLess.must (next_le s)
    split
    · refine PLess.bind (prun_len _ _ _) fun n s1 h2 => ?_
      exact PLess.must (Nat.le_trans h2 (Nat.le_trans (mustS_le _ _) (nameS_le s)))
    · refine PLess.bind (prun_len _ _ _) fun n s1 h2 => ?_
      exact PLess.must h2
theorem PDone.less {s s' : PS} {n : Nd} (h : PDone .stmt s s' n) : s'.e ≠ 0 ∨ s'.l.length < s.l.length := by
  obtain ⟨f, hf⟩ := h.pr
  exact stm_less _ _ hf
end Go.Proofs

/- tree: statements. -/
namespace Go.Proofs
open Go.X
set_option maxHeartbeats 2000000
set_option linter.unusedVariables false
set_option linter.unusedSimpArgs false

theorem SO.lit {α : Type} {T b sz : Nat} {enc : α → List Value} {vs : List Value} {x : α} (e : vs = enc x) (h : vs.length = sz) : SO T (some ⟨b, 0, none⟩) 1 sz enc [x] [(b, oc vs T)] :=
  ⟨.inr ⟨b, [], rfl, by simp [e], by simp [← e, h], by simp, by simp [← e, h]⟩⟩
instance appendLit {b bx c : Nat} {w : World} {I : Im} {L R : Heap} {K : KV} {T e by' : Nat} {z : List Value} {ty : TypeId} {vs : List Value} {y : NV} {n0 : Nd} {a0 : Option Addr} {c0 : Nat} [t : TySlice Tryz.prog T e] [te : TyElem Tryz.prog e z 4 by']
    [h : HH w I ((bx, .cells vs.toArray e (0, 0)) :: L)] [r : Rem L b (.cells (List.toArray [.int .i64 n0.op, .string ⟨n0.text.toArray⟩, .int .i64 n0.num, .slice a0 n0.kids.length c0]) e (0, 0)) R] [hy : EncOf encN vs y] :
    XStep (XSem Tryz.prog (Builtin.append_ (List.toArray [T, T]) ty (List.toArray [.slice (some ⟨b, 0, none⟩) 1 1, .slice (some ⟨bx, 0, none⟩) 1 c])) w K)
      (match Nat.beq vs.length 4 with
       | true => onesK vs (XChk ((1 + 1) * by' ≤ 70368744177664 ∧ 1 + 1 < 4611686018427387904)
          (∀ w' a' cap' E', HH w' I (E' ++ R) → SO e a' cap' 4 encN ([⟨n0, a0, c0⟩] ++ [y]) E' → K (.slice a' ([(⟨n0, a0, c0⟩ : NV)] ++ [y]).length cap') w'))
       | false => XBad "size") := ⟨fun k => by
  have so : SO e (some ⟨b, 0, none⟩) 1 4 encN [(⟨n0, a0, c0⟩ : NV)] [(b, oc [.int .i64 n0.op, .string ⟨n0.text.toArray⟩, .int .i64 n0.num, .slice a0 n0.kids.length c0] e)] := SO.lit rfl rfl
  have sp : Split L [(b, oc [.int .i64 n0.op, .string ⟨n0.text.toArray⟩, .int .i64 n0.num, .slice a0 n0.kids.length c0] e)] R := ⟨r.perm⟩
  exact (append1 (P := Tryz.prog) (xs := [(⟨n0, a0, c0⟩ : NV)]) (vs := vs) (c := c) (bx := bx) (ty := ty) (T := T) (K := K) (w := w)).go k⟩
class PSS (m : outParam Nat) : Prop where
  stm : ∀ v w I R bp s K, s.l.length * 32 + 9 < m → HH w I ((bp, PS.obj v s) :: R) → PSok I v s → PPost .stmt v bp s I R K →
    XApp Tryz.prog 147 [.pointer (some ⟨bp, 0, none⟩)] w K
  sts : ∀ v w I R bp s K, s.l.length * 32 + 10 < m → HH w I ((bp, PS.obj v s) :: R) → PSok I v s → PPost (.stmts []) v bp s I R K →
    XApp Tryz.prog 109 [.pointer (some ⟨bp, 0, none⟩)] w K
instance stmIH {w : World} {I : Im} {L R : Heap} {bp m : Nat} {v : Env} {s : PS} {K : KV} [hh : HH w I L] [ih : PSS m] [r : Rem L bp (PS.obj v s) R] [ok : PSok I v s] :
    XStep (XApp Tryz.prog 147 [.pointer (some ⟨bp, 0, none⟩)] w K) (XChk (s.l.length * 32 + 9 < m) (PPost .stmt v bp s I R K)) := ⟨fun ⟨h2, k⟩ =>
  ih.stm v w I R bp s K h2 (hh.perm r.perm) ok k⟩
instance stsF {I : Im} {bp m : Nat} [ih : PSS m] : PFn I (.func (.func 109) #[.pointer (some ⟨bp, 0, none⟩)] #[]) bp (.stmts []) m :=
  PFn.ofApp (fs := [.pointer (some ⟨bp, 0, none⟩)]) (cs := []) fun v w I' R s K hl hm hh ok k => ih.sts v w I' R bp s K hm hh ok k
instance blockC {w : World} {I : Im} {L R : Heap} {bp m : Nat} {v : Env} {s : PS} {K : KV} [hh : HH w I L] [ih : PSS m] [r : Rem L bp (PS.obj v s) R] [ok : PSok I v s] :
    XStep (XApp Tryz.prog 75 [.pointer (some ⟨bp, 0, none⟩)] w K) (XChk (s.l.length * 32 ≤ m) (PPost .block v bp s I R K)) := ⟨fun ⟨hm, k⟩ => by
  have hh' := hh.perm r.perm
  clear hh r
  have h9 := mustS_cases [123] s ok.ne
  have hle := ok.le
  refine .of Tryz.func75 ?_
  repeat' (conv => whnf
           first
             | exact trivial
             | refine XStep.go ?_
             | refine XChk.mk (by first | omega | decide | (simp only [List.length_take, List.length_drop]; omega) | (simp only [List.length_append, List.length_cons, List.length_nil]; omega)) ?_
             | refine XBoth.mk ?_ ?_
             | (refine PPost.mk fun n1 s1 w1 I1 a1 c1 hd1 hl1 hh1 ok1 hk1 => ?_)
             | (refine XChk.mk (by show _ * 32 + 10 < _ ∨ _; omega) ?_)
             | intro xx
             | (refine XBr.t (by omega) ?_)
             | (refine XBr.f (by omega) ?_)
             | refine XOpt.mk (fun x hc => ?_) (fun hc => ?_)
             | refine XRes.mk (fun x hc => ?_) (fun x hc => ?_)
             | refine XBr.mk (fun hc => ?_) (fun hc => ?_)
             | refine XIf.mk (fun hc => ?_) (fun hc => ?_))
  conv => whnf
  exact k.go _ _ _ _ _ _ (PDone.of1 hd1 (by omega) (by omega) (Nat.le_refl _) rfl fun f hf => by rw [prun]; exact hf) hl1 HH.fin ok1 hk1⟩
theorem stsStep {m : Nat} [ih : PSS m] (v : Env) (w : World) (I : Im) (R : Heap) (bp : Nat) (s : PS) (K : KV) (hm : s.l.length * 32 + 10 ≤ m) (hh : HH w I ((bp, PS.obj v s) :: R)) (ok : PSok I v s) (k : PPost (.stmts []) v bp s I R K) :
    XApp Tryz.prog 109 [.pointer (some ⟨bp, 0, none⟩)] w K := by
  have hle := ok.le
  refine .of Tryz.func109 ?_
  repeat' (conv => whnf
           first
             | exact trivial
             | refine XStep.go ?_
             | refine XChk.mk (by first | omega | decide | (simp only [List.length_take, List.length_drop]; omega) | (simp only [List.length_append, List.length_cons, List.length_nil]; omega)) ?_
             | refine XBoth.mk ?_ ?_
             | (refine XCode.drawH (id := 3) #[.pur, .qui, .pur, .lou, .lou, .lou, .pur, .lou] (.one 0 (.one 2 (.br 1 (.one 3 (.one 4 (.one 5 (.one 6 (.one 7 .done))))) (.br 3 (.br 1 (.one 4 (.one 5 (.one 6 (.one 7 .done)))) (.br 4 (.one 1 (.one 5 (.one 6 (.one 7 .done)))) .non)) .non)))) mixed (by kernel_rfl) ?_)
             | intro xx
             | (refine XBr.t (by omega) ?_)
             | (refine XBr.f (by omega) ?_)
             | refine XOpt.mk (fun x hc => ?_) (fun hc => ?_)
             | refine XRes.mk (fun x hc => ?_) (fun x hc => ?_)
             | refine XBr.mk (fun hc => ?_) (fun hc => ?_)
             | refine XIf.mk (fun hc => ?_) (fun hc => ?_))
  rename_i b2 _ _ b3 _ _ w3
  refine XCode.loopG (fun g : List NV × Option Addr × Nat × PS => [some (.pointer (some ⟨bp, 0, none⟩)), none, some (.pointer (some ⟨b2, 0, none⟩)), some (.pointer (some ⟨b3, 0, none⟩)), none, none, none, none, none, none, none, none, none, none, none, none, none, none, none, none, none, none, none])
    (fun g w => (∃ I' E, I.Le I' ∧ HH w I' ((bp, PS.obj v g.2.2.2) :: (E ++ ((b3, .cells (List.toArray [.int .i64 2, .string ⟨#[]⟩, .int .i64 0, .slice g.2.1 g.1.length g.2.2.1]) 63 (0, 0)) ::
        (b2, .cells (List.toArray [.int .i64 0, .string ⟨#[]⟩, .int .i64 0, .slice none 0 0]) 63 (0, 0)) :: R))) ∧ SO 63 g.2.1 g.2.2.1 4 encN g.1 E ∧ PSok I' v g.2.2.2 ∧ (∀ x ∈ g.1, KidsC I' x.a x.c x.n.kids))
      ∧ g.2.2.2.l.length ≤ s.l.length ∧ g.2.2.2.d = s.d ∧ g.1.length ≤ 2001 ∧ (g.2.2.2.e = 0 → g.1.length + g.2.2.2.l.length ≤ 2000) ∧ ∀ n s', PDone (.stmts (g.1.map (·.n))) g.2.2.2 s' n → PDone (.stmts []) s s' n)
    (fun g => if g.2.2.2.e = 0 then g.2.2.2.l.length + 1 else 0) ([], none, 0, s) ?_
    ⟨⟨I, [], .refl _, xx.perm (by first | exact (List.perm_middle (l₁ := [_, _])) | exact .refl _), SO.nil, ok, by simp⟩, by simp, rfl, by simp, fun _ => by show 0 + s.l.length ≤ 2000; omega, fun n s' h => h⟩ ?_
  · simp [fits]
  · rintro ⟨out, aa, cap, s1⟩ w ⟨⟨I1, E, hl1, hh2, so, ok1, hk⟩, h4, h5, h6, h7, h8⟩
    dsimp only at hh2 so ok1 hk h4 h5 h6 h7 h8 ⊢
    have hle1 := ok1.le
    clear hh xx
    repeat' (conv => whnf
             first
               | exact trivial
               | refine XStep.go ?_
               | refine XChk.mk (by first | omega | decide | (simp only [List.length_take, List.length_drop]; omega) | (simp only [List.length_append, List.length_cons, List.length_nil]; omega)) ?_
               | refine XBoth.mk ?_ ?_
               | (refine PPost.mk fun n2 s2 w2 I2 a2 c2 hd hl hh3 ok2 hk2 => ?_)
               | (refine XCode.drawH (id := 3) #[.pur, .qui, .pur, .lou, .lou, .lou, .pur, .lou] (.one 0 (.one 2 (.br 1 (.one 3 (.one 4 (.one 5 (.one 6 (.one 7 .done))))) (.br 3 (.br 1 (.one 4 (.one 5 (.one 6 (.one 7 .done)))) (.br 4 (.one 1 (.one 5 (.one 6 (.one 7 .done)))) .non)) .non)))) mixed (by kernel_rfl) ?_)
               | intro xx
               | (refine XBr.t (by omega) ?_)
               | (refine XBr.f (by omega) ?_)
               | refine XOpt.mk (fun x hc => ?_) (fun hc => ?_)
               | refine XRes.mk (fun x hc => ?_) (fun x hc => ?_)
               | refine XBr.mk (fun hc => ?_) (fun hc => ?_)
               | refine XIf.mk (fun hc => ?_) (fun hc => ?_))
    all_goals conv => whnf
    · obtain ⟨I3, hl4, hh4, ha4, hc4⟩ := so.freeze (xx.perm List.perm_middle.symm)
      have hn := next_len s1
      have hd4 : PDone (.stmts (out.map NV.n)) s1 s1.next (.mk 2 [] 0 (out.map NV.n)) := ⟨⟨1, by rw [prun, if_neg (by simpa using ‹s1.e = 0›), if_pos hc]⟩, by omega, rfl⟩
      have hk4 := KidsC.of ha4 hc4 fun y hy => ⟨(hk y hy).p.mono hl4⟩
      have hok : PSok I3 v s1.next := (‹PSok I1 v s1.next›).mono hl4
      clear xx
      exact retTo (k.go (.mk 2 [] 0 (out.map NV.n)) s1.next _ I3 aa cap (h8 _ _ hd4) (hl1.trans hl4) HH.fin hok hk4) (by simp [retV, nodeV, Nd.op, Nd.text, Nd.num, Nd.kids])
    · have h9 := hd.less
      have e1 := hd.len
      have e2 := hd.d
      have hxx := xx.perm List.perm_middle
      have hso := ‹SO _ _ _ 4 encN (out ++ _) _›
      refine ⟨(out ++ [⟨n2, a2, c2⟩], _, _, s2), rfl, ⟨rfl, rfl, rfl, trivial⟩, ⟨⟨_, _, hl1.trans hl, hxx, hso, ok2, kids_snoc hk hl hk2⟩, ?_, ?_, ?_, ?_, ?_⟩, ?_⟩
      all_goals dsimp only
      · omega
      · omega
      · simp; omega
      · simp; omega
      · intro n s' h
        refine h8 _ _ ⟨PR.two hd.pr h.pr fun f hf hf2 => ?_, by have := h.len; omega, by have := h.d; omega⟩
        rw [prun, if_neg (by simpa using ‹s1.e = 0›), if_neg (by simp [hc]), hf]
        simpa using hf2
      · rw [if_pos ‹s1.e = 0›]; split <;> omega
    · have h9 := hd.less
      have e1 := hd.len
      have e2 := hd.d
      have hxx := xx.perm List.perm_middle
      have hso := ‹SO _ _ _ 4 encN (out ++ _) _›
      refine ⟨(out ++ [⟨n2, a2, c2⟩], _, _, s2), rfl, ⟨rfl, rfl, rfl, trivial⟩, ⟨⟨_, _, hl1.trans hl, hxx, hso, ok2, kids_snoc hk hl hk2⟩, ?_, ?_, ?_, ?_, ?_⟩, ?_⟩
      all_goals dsimp only
      · omega
      · omega
      · simp; omega
      · simp; omega
      · intro n s' h
        refine h8 _ _ ⟨PR.two hd.pr h.pr fun f hf hf2 => ?_, by have := h.len; omega, by have := h.d; omega⟩
        rw [prun, if_neg (by simpa using ‹s1.e = 0›), if_neg (by simp [hc]), hf]
        simpa using hf2
      · rw [if_pos ‹s1.e = 0›]; split <;> omega
    · have h9 := hd.less
      have e1 := hd.len
      have e2 := hd.d
      have hxx := xx.perm List.perm_middle
      have hso := ‹SO _ _ _ 4 encN (out ++ _) _›
      refine ⟨(out ++ [⟨n2, a2, c2⟩], _, _, s2), rfl, ⟨rfl, rfl, rfl, trivial⟩, ⟨⟨_, _, hl1.trans hl, hxx, hso, ok2, kids_snoc hk hl hk2⟩, ?_, ?_, ?_, ?_, ?_⟩, ?_⟩
      all_goals dsimp only
      · omega
      · omega
      · simp; omega
      · simp; omega
      · intro n s' h
        refine h8 _ _ ⟨PR.two hd.pr h.pr fun f hf hf2 => ?_, by have := h.len; omega, by have := h.d; omega⟩
        rw [prun, if_neg (by simpa using ‹s1.e = 0›), if_neg (by simp [hc]), hf]
        simpa using hf2
      · rw [if_pos ‹s1.e = 0›]; split <;> omega
    · obtain ⟨I3, hl4, hh4, ha4, hc4⟩ := so.freeze (xx.perm List.perm_middle.symm)
      have hd4 : PDone (.stmts (out.map NV.n)) s1 s1 (.mk 2 [] 0 (out.map NV.n)) := ⟨⟨1, by rw [prun, if_pos hc]⟩, Nat.le_refl _, rfl⟩
      have hk4 := KidsC.of ha4 hc4 fun y hy => ⟨(hk y hy).p.mono hl4⟩
      have hok := ok1.mono hl4
      clear xx
      exact retTo (k.go (.mk 2 [] 0 (out.map NV.n)) s1 _ I3 aa cap (h8 _ _ hd4) (hl1.trans hl4) HH.fin hok hk4) (by simp [retV, nodeV, Nd.op, Nd.text, Nd.num, Nd.kids])
end Go.Proofs
