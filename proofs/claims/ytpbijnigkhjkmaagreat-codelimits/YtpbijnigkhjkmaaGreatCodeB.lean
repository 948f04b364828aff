/- code: statements walked. -/
import Derived.Test.YtpbijnigkhjkmaaGreatCodeA
namespace Go.Proofs
open Go.X
set_option maxHeartbeats 4000000
set_option maxRecDepth 100000
set_option linter.unusedVariables false
set_option linter.unusedSimpArgs false

class PSX (m : outParam Nat) : Prop where
  st : ∀ (n : Nd) (N : Nat) w bm bp s mv sv I R a c K, sw n < m → wfS n → CAt w bm bp s mv sv I R → KidsC I a c n.kids → CSok N s → N + sw n ≤ big → CPost bm bp (stmtS n s) mv sv I R K →
    XApp Tryz.prog 80 [.pointer (some ⟨bm, 0, none⟩), nodeA n a c] w K
instance stmtIHc {m bm bp : Nat} {n : Nd} {w : World} {s : CS} {mv sv : Value} {I : Im} {R : Heap} {a : Option Addr} {c : Nat} {K : KV} [ih : PSX m] [ca : CAt w bm bp s mv sv I R] [kc : KidsC I a c n.kids] :
    XStep (XApp Tryz.prog 80 [.pointer (some ⟨bm, 0, none⟩), .agg (List.toArray [.int .i64 n.op, .string ⟨n.text.toArray⟩, .int .i64 n.num, .slice a n.kids.length c])] w K)
      (XChk (sw n < m ∧ wfS n ∧ ∃ N, CSok N s ∧ N + sw n ≤ big) (CPost bm bp (stmtS n s) mv sv I R K)) := ⟨fun ⟨⟨hm, hw, N, h1, h2⟩, k⟩ => ih.st n N w bm bp s mv sv I R a c K hm hw ca kc h1 h2 k⟩
theorem blockStep {m : Nat} [ih : PSX m] (n : Nd) (N : Nat) (w : World) (bm bp : Nat) (s : CS) (mv sv : Value) (I : Im) (R : Heap) (a : Option Addr) (c : Nat) (K : KV) (hm : bw n ≤ m) (hwf : wfB n) (ca : CAt w bm bp s mv sv I R) (kc : KidsC I a c n.kids) (hok : CSok N s) (hN : N + bw n ≤ big)
    (k : CPost bm bp (blockS n s) mv sv I R K) : XApp Tryz.prog 44 [.pointer (some ⟨bm, 0, none⟩), nodeA n a c] w K := by
  obtain ⟨al, cl, El, an, cn, En, ac, cc, Ec, h1, s1, s2, s3⟩ := ca.ex
  clear ca
  obtain ⟨no, nt, ni, nk⟩ := n
  obtain ⟨kp⟩ := kc
  cases kp with
  | mk _ _ xs hs hcs hks =>
  have ek : (Nd.mk no nt ni (xs.map fun x => x.n)).kids.length = xs.length := by simp [Nd.kids]
  dsimp only [nodeA, Nd.op, Nd.text, Nd.num]
  rw [ek]
  rw [bw_eq] at hN hm
  rw [wfB_eq] at hwf
  have hb := big_eq
  have kn : (Nd.mk no nt ni (xs.map fun x => x.n)).kids = xs.map fun x => x.n := rfl
  rw [blockS_eq, kn] at k
  rw [kn] at hN hm hwf
  have hwl := bws_len (xs.map fun x => x.n)
  rw [List.length_map] at hwl
  refine .of Tryz.func44 ?_
  repeat' (conv => whnf
           first
             | exact trivial
             | refine XStep.go ?_
             | refine XChk.mk (by first | omega | decide | (simp only [List.length_take, List.length_drop]; omega) | (simp only [List.length_append, List.length_cons, List.length_nil]; omega)) ?_
             | refine XBoth.mk ?_ ?_
             | intro xx
             | (refine XBr.t (by omega) ?_)
             | (refine XBr.f (by omega) ?_)
             | refine XOpt.mk (fun x hc => ?_) (fun hc => ?_)
             | refine XRes.mk (fun x hc => ?_) (fun x hc => ?_)
             | refine XBr.mk (fun hc => ?_) (fun hc => ?_)
             | refine XIf.mk (fun hc => ?_) (fun hc => ?_))
  rename_i b3 _
  refine XCode.loopG (fun i : Nat => [some (.pointer (some ⟨bm, 0, none⟩)), none, none, some (.pointer (some ⟨b3, 0, none⟩)), none, none, none, some (.slice a xs.length c), some (.int .i64 xs.length), some (.int .i64 i), none, none, none, none, none, none, none])
    (fun i w => CAt w bm bp (stmtsS ((xs.take i).map fun x => x.n) s) mv sv I R ∧ i ≤ xs.length)
    (fun i => xs.length - i) 0 ?_ ⟨CAt.sub CAt.of, by omega⟩ ?_
  · simp [fits]
  · rintro i w ⟨ca, hi⟩
    obtain ⟨al, cl, El, an, cn, En, ac, cc, Ec, h1, s1, s2, s3⟩ := ca.ex
    clear ca xx
    by_cases hlt : i < xs.length
    · have hx : xs[i]? = some xs[i] := List.getElem?_eq_getElem hlt
      have hAt : At xs i xs[i] := ⟨hx⟩
      have e1 : (xs.take (i + 1)).map (fun x => x.n) = ((xs.take i).map fun x => x.n) ++ [xs[i].n] := by rw [List.take_succ_eq_append_getElem hlt, List.map_append]; rfl
      have hw := bws_take (xs.map fun x => x.n) (i + 1)
      rw [← List.map_take, e1, bws_snoc] at hw
      have hoki := stmtsS_ok ((xs.take i).map fun x => x.n) hok
      have hkx : KidsC I xs[i].a xs[i].c xs[i].n.kids := ⟨hks _ (List.getElem_mem hlt)⟩
      have hwx : wfS xs[i].n := wfBs_mem hwf (List.mem_map_of_mem (List.getElem_mem hlt))
      have e2 := stmtsS_snoc ((xs.take i).map fun x => x.n) xs[i].n s
      rw [← e1] at e2
      generalize xs[i] = x at *
      generalize stmtsS ((xs.take i).map fun x => x.n) s = si at *
      repeat' (conv => whnf
               first
                 | exact trivial
                 | refine XStep.go ?_
                 | refine XChk.mk (by first | omega | decide | (simp only [List.length_take, List.length_drop]; omega) | (simp only [List.length_append, List.length_cons, List.length_nil]; omega)) ?_
                 | refine XBoth.mk ?_ ?_
                 | (refine XChk.mk ⟨by omega, hwx, _, hoki, by omega⟩ ?_)
                 | (refine CPost.mk fun w2 al2 cl2 El2 an2 cn2 En2 ac2 cc2 Ec2 hh2 s12 s22 s32 => ?_)
                 | intro xx
                 | (refine XBr.t (by omega) ?_)
                 | (refine XBr.f (by omega) ?_)
                 | refine XOpt.mk (fun x hc => ?_) (fun hc => ?_)
                 | refine XRes.mk (fun x hc => ?_) (fun x hc => ?_)
                 | refine XBr.mk (fun hc => ?_) (fun hc => ?_)
                 | refine XIf.mk (fun hc => ?_) (fun hc => ?_))
      conv => whnf
      refine ⟨i + 1, rfl, by simp [fits], ⟨?_, by omega⟩, by omega⟩
      rw [e2]
      exact CAt.sub CAt.of
    · have e0 : xs.take i = xs := List.take_of_length_le (by omega)
      rw [e0] at h1 s1 s2 s3
      repeat' (conv => whnf
               first
                 | exact trivial
                 | refine XStep.go ?_
                 | refine XChk.mk (by first | omega | decide | (simp only [List.length_take, List.length_drop]; omega) | (simp only [List.length_append, List.length_cons, List.length_nil]; omega)) ?_
                 | refine XBoth.mk ?_ ?_
                 | intro xx
                 | (refine XBr.t (by omega) ?_)
                 | (refine XBr.f (by omega) ?_)
                 | refine XOpt.mk (fun x hc => ?_) (fun hc => ?_)
                 | refine XRes.mk (fun x hc => ?_) (fun x hc => ?_)
                 | refine XBr.mk (fun hc => ?_) (fun hc => ?_)
                 | refine XIf.mk (fun hc => ?_) (fun hc => ?_))
      conv => whnf
      exact k.fin CAt.of
instance blockIHc {m bm bp : Nat} {n : Nd} {w : World} {s : CS} {mv sv : Value} {I : Im} {R : Heap} {a : Option Addr} {c : Nat} {K : KV} [ih : PSX m] [ca : CAt w bm bp s mv sv I R] [kc : KidsC I a c n.kids] :
    XStep (XApp Tryz.prog 44 [.pointer (some ⟨bm, 0, none⟩), .agg (List.toArray [.int .i64 n.op, .string ⟨n.text.toArray⟩, .int .i64 n.num, .slice a n.kids.length c])] w K)
      (XChk (bw n ≤ m ∧ wfB n ∧ ∃ N, CSok N s ∧ N + bw n ≤ big) (CPost bm bp (blockS n s) mv sv I R K)) := ⟨fun ⟨⟨hm, hw, N, h1, h2⟩, k⟩ => blockStep n N w bm bp s mv sv I R a c K hm hw ca kc h1 h2 k⟩
end Go.Proofs

/- code: a statement walked. -/
namespace Go.Proofs
open Go.X
set_option maxHeartbeats 4000000
set_option maxRecDepth 100000
set_option linter.unusedVariables false
set_option linter.unusedSimpArgs false
set_option linter.unusedSectionVars false

theorem headS_ne {op : Int} (h : op ≠ 6) (s : CS) : headS op s = putS 0 1 [] 0 s := by unfold headS; rw [if_neg h]
theorem headS_6 (s : CS) : headS 6 s = putS 0 1 [] 0 (hereS s) := by unfold headS; rw [if_pos rfl]
section
variable {m : Nat} {N : Nat} {w : World} {bm bp : Nat} {s : CS} {mv sv : Value} {I : Im} {R : Heap} {a : Option Addr} {c : Nat} {K : KV} {nt : Bs} {ni : Int}
theorem stmt7 [ih : PSX m] (hm : 6 ≤ m) (ca : CAt w bm bp s mv sv I R) (hok : CSok N s) (hN : N + 6 ≤ big) (k : CPost bm bp (putS 10 0 [] 0 (putS 0 1 [] 0 s)) mv sv I R K) :
    XApp Tryz.prog 80 [.pointer (some ⟨bm, 0, none⟩), .agg (List.toArray [.int .i64 7, .string ⟨nt.toArray⟩, .int .i64 ni, .slice a 0 c])] w K := by
  obtain ⟨al, cl, El, an, cn, En, ac, cc, Ec, h1, s1, s2, s3⟩ := ca.ex
  clear ca
  have hb := big_eq
  have g0 := hok.l.mono (show N ≤ big by omega)
  have g1 := (burn_ok hok).l.mono (show N + 1 ≤ big by omega)
  refine .of Tryz.func80 ?_
  repeat' (conv => whnf
           first
             | exact trivial
             | refine XStep.go ?_
             | refine XChk.mk (by first | omega | decide | (simp only [List.length_take, List.length_drop]; omega) | (simp only [List.length_append, List.length_cons, List.length_nil]; omega)) ?_
             | refine XBoth.mk ?_ ?_
             | (refine XChk.mk ⟨g0, by omega⟩ ?_)
             | (refine XChk.mk ⟨g1, by omega⟩ ?_)
             | (refine XCode.drawH (id := 8) #[.pur, .pur, .pur, .pur, .qui, .pur, .pur, .pur, .qui, .lou, .lou] (.one 0 (.one 1 (.one 2 (.one 3 (.one 7 (.one 4 (.one 5 (.one 6 (.one 8 (.one 9 (.one 10 .done))))))))))) mixed (by kernel_rfl) ?_)
             | intro xx
             | (refine XBr.t (by omega) ?_)
             | (refine XBr.f (by omega) ?_)
             | refine XOpt.mk (fun x hc => ?_) (fun hc => ?_)
             | refine XRes.mk (fun x hc => ?_) (fun x hc => ?_)
             | refine XBr.mk (fun hc => ?_) (fun hc => ?_)
             | refine XIf.mk (fun hc => ?_) (fun hc => ?_))
  conv => whnf
  exact k.fin CAt.of
theorem stmt34 [ih : PSX m] {op : Int} {x : NV} (ho : op = 3 ∨ op = 4) (hm : 6 + wgt x.n ≤ m) (ca : CAt w bm bp s mv sv I R) (hs : SlA I a 4 encN [x]) (hk : KidsC I x.a x.c x.n.kids) (hok : CSok N s) (hN : N + (6 + wgt x.n) ≤ big) (k : CPost bm bp (stmtS (.mk op nt ni [x.n]) s) mv sv I R K) :
    XApp Tryz.prog 80 [.pointer (some ⟨bm, 0, none⟩), .agg (List.toArray [.int .i64 op, .string ⟨nt.toArray⟩, .int .i64 ni, .slice a [x].length c])] w K := by
  obtain ⟨al, cl, El, an, cn, En, ac, cc, Ec, h1, s1, s2, s3⟩ := ca.ex
  clear ca
  have hb := big_eq
  have e1 : ([x] : List NV).length = 1 := rfl
  have hA : At [x] (Int.toNat 0) x := ⟨rfl⟩
  have g0 := hok.l.mono (show N ≤ big by omega)
  have o1 := burn_ok hok
  have o2 := exprS_ok x.n o1
  have g2 := o2.l.mono (show _ ≤ big by omega)
  have g3 := (nameP_ok o2 nt).l.mono (show _ ≤ big by omega)
  have hn := o2.n
  have hp := placeI_le (exprS x.n (putS 0 1 [] 0 s)).names nt
  have hpb : -(big : Int) ≤ (placeI (exprS x.n (putS 0 1 [] 0 s)).names nt : Nat) ∧ ((placeI (exprS x.n (putS 0 1 [] 0 s)).names nt : Nat) : Int) ≤ big := by omega
  have hnb : (exprS x.n (putS 0 1 [] 0 s)).names.length ≤ 1000000000 := by omega
  rw [stmtS, headS_ne (by omega)] at k
  rcases ho with rfl | rfl
  · rw [if_pos rfl] at k
    refine .of Tryz.func80 ?_
    repeat' (conv => whnf
             first
               | exact trivial
               | refine XStep.go ?_
               | refine XChk.mk (by first | omega | decide | (simp only [List.length_take, List.length_drop]; omega) | (simp only [List.length_append, List.length_cons, List.length_nil]; omega)) ?_
               | refine XBoth.mk ?_ ?_
               | (refine XChk.mk ⟨g0, by omega⟩ ?_)
               | (refine XChk.mk ⟨by omega, _, o1, by omega⟩ ?_)
               | (refine CPost.mk fun w2 al2 cl2 El2 an2 cn2 En2 ac2 cc2 Ec2 hh2 s12 s22 s32 => ?_)
               | (refine XChk.mk hnb ?_)
               | (refine XChk.mk ⟨g3, by omega, by omega, hpb⟩ ?_)
               | (refine XCode.drawH (id := 8) #[.pur, .pur, .pur, .pur, .qui, .pur, .pur, .pur, .qui, .lou, .lou] (.one 0 (.one 1 (.one 2 (.one 3 (.one 7 (.one 4 (.one 5 (.one 6 (.one 8 (.one 9 (.one 10 .done))))))))))) mixed (by kernel_rfl) ?_)
               | intro xx
               | (refine XBr.t (by omega) ?_)
               | (refine XBr.f (by omega) ?_)
               | refine XOpt.mk (fun x hc => ?_) (fun hc => ?_)
               | refine XRes.mk (fun x hc => ?_) (fun x hc => ?_)
               | refine XBr.mk (fun hc => ?_) (fun hc => ?_)
               | refine XIf.mk (fun hc => ?_) (fun hc => ?_))
    all_goals conv => whnf
    all_goals exact k.fin CAt.of
  · rw [if_neg (by decide)] at k
    refine .of Tryz.func80 ?_
    repeat' (conv => whnf
             first
               | exact trivial
               | refine XStep.go ?_
               | refine XChk.mk (by first | omega | decide | (simp only [List.length_take, List.length_drop]; omega) | (simp only [List.length_append, List.length_cons, List.length_nil]; omega)) ?_
               | refine XBoth.mk ?_ ?_
               | (refine XChk.mk ⟨g0, by omega⟩ ?_)
               | (refine XChk.mk ⟨by omega, _, o1, by omega⟩ ?_)
               | (refine CPost.mk fun w2 al2 cl2 El2 an2 cn2 En2 ac2 cc2 Ec2 hh2 s12 s22 s32 => ?_)
               | (refine XChk.mk ⟨g2, by omega⟩ ?_)
               | (refine XCode.drawH (id := 8) #[.pur, .pur, .pur, .pur, .qui, .pur, .pur, .pur, .qui, .lou, .lou] (.one 0 (.one 1 (.one 2 (.one 3 (.one 7 (.one 4 (.one 5 (.one 6 (.one 8 (.one 9 (.one 10 .done))))))))))) mixed (by kernel_rfl) ?_)
               | intro xx
               | (refine XBr.t (by omega) ?_)
               | (refine XBr.f (by omega) ?_)
               | refine XOpt.mk (fun x hc => ?_) (fun hc => ?_)
               | refine XRes.mk (fun x hc => ?_) (fun x hc => ?_)
               | refine XBr.mk (fun hc => ?_) (fun hc => ?_)
               | refine XIf.mk (fun hc => ?_) (fun hc => ?_))
    all_goals conv => whnf
    all_goals exact k.fin CAt.of
theorem stmt5 [ih : PSX m] {x b : NV} (hm : 6 + wgt x.n + bw b.n ≤ m) (wb : wfB b.n) (ca : CAt w bm bp s mv sv I R) (hs : SlA I a 4 encN [x, b]) (hk : KidsC I x.a x.c x.n.kids) (hk2 : KidsC I b.a b.c b.n.kids) (hok : CSok N s) (hN : N + (6 + wgt x.n + bw b.n) ≤ big)
    (k : CPost bm bp (stmtS (.mk 5 nt ni [x.n, b.n]) s) mv sv I R K) :
    XApp Tryz.prog 80 [.pointer (some ⟨bm, 0, none⟩), .agg (List.toArray [.int .i64 5, .string ⟨nt.toArray⟩, .int .i64 ni, .slice a [x, b].length c])] w K := by
  obtain ⟨al, cl, El, an, cn, En, ac, cc, Ec, h1, s1, s2, s3⟩ := ca.ex
  clear ca
  have hb := big_eq
  have e1 : ([x, b] : List NV).length = 2 := rfl
  have hA : At [x, b] (Int.toNat 0) x := ⟨rfl⟩
  have hB : At [x, b] (Int.toNat 1) b := ⟨rfl⟩
  have g0 := hok.l.mono (show N ≤ big by omega)
  have o1 := burn_ok hok
  have o3 := exprS_ok x.n o1
  have g3 := o3.l.mono (show _ ≤ big by omega)
  have o4 := put0_ok (op := 9) (t := []) o3 (g := -1) (by omega)
  have o5 := blockS_ok b.n o4
  have g5 := o5.l.mono (show _ ≤ big by omega)
  have hl5 : (exprS x.n (putS 0 1 [] 0 s)).l.length < (blockS b.n (putS 9 0 [] (-1) (exprS x.n (putS 0 1 [] 0 s)))).l.length := by
    have q1 := blockS_len b.n (putS 9 0 [] (-1) (exprS x.n (putS 0 1 [] 0 s)))
    have q2 : (putS 9 0 [] (-1) (exprS x.n (putS 0 1 [] 0 s))).l.length = (exprS x.n (putS 0 1 [] 0 s)).l.length + 1 := putL_len1 (op := 9) (by decide) 0 [] _ (exprS x.n (putS 0 1 [] 0 s)).fixed
    omega
  have hi := putI_len (op := 9) (by decide) (exprS x.n (putS 0 1 [] 0 s)).l (exprS x.n (putS 0 1 [] 0 s)).fixed
  have hld : 0 ≤ ((putI 9 (exprS x.n (putS 0 1 [] 0 s)).l (exprS x.n (putS 0 1 [] 0 s)).fixed : Nat) : Int) ∧ ((putI 9 (exprS x.n (putS 0 1 [] 0 s)).l (exprS x.n (putS 0 1 [] 0 s)).fixed : Nat) : Int) < (blockS b.n (putS 9 0 [] (-1) (exprS x.n (putS 0 1 [] 0 s)))).l.length ∧ (blockS b.n (putS 9 0 [] (-1) (exprS x.n (putS 0 1 [] 0 s)))).l.length ≤ big := by
    have := g5.len
    rw [hi]; omega
  rw [stmtS, headS_ne (by omega), if_pos rfl, ← hi] at k
  refine .of Tryz.func80 ?_
  repeat' (conv => whnf
           first
             | exact trivial
             | refine XStep.go ?_
             | refine XChk.mk (by first | omega | decide | (simp only [List.length_take, List.length_drop]; omega) | (simp only [List.length_append, List.length_cons, List.length_nil]; omega)) ?_
             | refine XBoth.mk ?_ ?_
             | (refine XChk.mk ⟨g0, by omega⟩ ?_)
             | (refine XChk.mk ⟨by omega, _, o1, by omega⟩ ?_)
             | (refine CPost.mk fun w2 al2 cl2 El2 an2 cn2 En2 ac2 cc2 Ec2 hh2 s12 s22 s32 => ?_)
             | (refine XChk.mk ⟨g3, by omega⟩ ?_)
             | (refine XChk.mk ⟨by omega, wb, _, o4, by omega⟩ ?_)
             | (refine XChk.mk hld ?_)
             | (refine XCode.drawH (id := 8) #[.pur, .pur, .pur, .pur, .qui, .pur, .pur, .pur, .qui, .lou, .lou] (.one 0 (.one 1 (.one 2 (.one 3 (.one 7 (.one 4 (.one 5 (.one 6 (.one 8 (.one 9 (.one 10 .done))))))))))) mixed (by kernel_rfl) ?_)
             | intro xx
             | (refine XBr.t (by omega) ?_)
             | (refine XBr.f (by omega) ?_)
             | refine XOpt.mk (fun x hc => ?_) (fun hc => ?_)
             | refine XRes.mk (fun x hc => ?_) (fun x hc => ?_)
             | refine XBr.mk (fun hc => ?_) (fun hc => ?_)
             | refine XIf.mk (fun hc => ?_) (fun hc => ?_))
  all_goals conv => whnf
  all_goals exact k.fin CAt.of
theorem stmt6 [ih : PSX m] {x b : NV} (hm : 6 + wgt x.n + bw b.n ≤ m) (wb : wfB b.n) (ca : CAt w bm bp s mv sv I R) (hs : SlA I a 4 encN [x, b]) (hk : KidsC I x.a x.c x.n.kids) (hk2 : KidsC I b.a b.c b.n.kids) (hok : CSok N s) (hN : N + (6 + wgt x.n + bw b.n) ≤ big)
    (k : CPost bm bp (stmtS (.mk 6 nt ni [x.n, b.n]) s) mv sv I R K) :
    XApp Tryz.prog 80 [.pointer (some ⟨bm, 0, none⟩), .agg (List.toArray [.int .i64 6, .string ⟨nt.toArray⟩, .int .i64 ni, .slice a [x, b].length c])] w K := by
  obtain ⟨al, cl, El, an, cn, En, ac, cc, Ec, h1, s1, s2, s3⟩ := ca.ex
  clear ca
  have hb := big_eq
  have e1 : ([x, b] : List NV).length = 2 := rfl
  have hA : At [x, b] (Int.toNat 0) x := ⟨rfl⟩
  have hB : At [x, b] (Int.toNat 1) b := ⟨rfl⟩
  have g0 := hok.l.mono (show N ≤ big by omega)
  have g0' := (hereS_ok hok).l.mono (show N ≤ big by omega)
  have o1 : CSok (N + 1) (putS 0 1 [] 0 (hereS s)) := burn_ok (hereS_ok hok)
  have o3 := exprS_ok x.n o1
  have g3 := o3.l.mono (show _ ≤ big by omega)
  have o4 := put0_ok (op := 9) (t := []) o3 (g := -1) (by omega)
  have o5 := blockS_ok b.n o4
  have g5 := o5.l.mono (show _ ≤ big by omega)
  have hl5 : (exprS x.n (putS 0 1 [] 0 (hereS s))).l.length < (blockS b.n (putS 9 0 [] (-1) (exprS x.n (putS 0 1 [] 0 (hereS s))))).l.length := by
    have q1 := blockS_len b.n (putS 9 0 [] (-1) (exprS x.n (putS 0 1 [] 0 (hereS s))))
    have q2 : (putS 9 0 [] (-1) (exprS x.n (putS 0 1 [] 0 (hereS s)))).l.length = (exprS x.n (putS 0 1 [] 0 (hereS s))).l.length + 1 := putL_len1 (op := 9) (by decide) 0 [] _ (exprS x.n (putS 0 1 [] 0 (hereS s))).fixed
    omega
  have hi := putI_len (op := 9) (by decide) (exprS x.n (putS 0 1 [] 0 (hereS s))).l (exprS x.n (putS 0 1 [] 0 (hereS s))).fixed
  have hs0 := hok.l.len
  have o6 := putA_ok (op := 8) (t := []) (g := 0) o5 (by decide) (show s.l.length ≤ _ by omega) (by omega)
  have hl6 : (putS 8 s.l.length [] 0 (blockS b.n (putS 9 0 [] (-1) (exprS x.n (putS 0 1 [] 0 (hereS s)))))).l.length = (blockS b.n (putS 9 0 [] (-1) (exprS x.n (putS 0 1 [] 0 (hereS s))))).l.length + 1 := putL_len1 (op := 8) (by decide) s.l.length [] _ (blockS b.n (putS 9 0 [] (-1) (exprS x.n (putS 0 1 [] 0 (hereS s))))).fixed
  have hld : 0 ≤ ((putI 9 (exprS x.n (putS 0 1 [] 0 (hereS s))).l (exprS x.n (putS 0 1 [] 0 (hereS s))).fixed : Nat) : Int) ∧ ((putI 9 (exprS x.n (putS 0 1 [] 0 (hereS s))).l (exprS x.n (putS 0 1 [] 0 (hereS s))).fixed : Nat) : Int) < (putS 8 s.l.length [] 0 (blockS b.n (putS 9 0 [] (-1) (exprS x.n (putS 0 1 [] 0 (hereS s)))))).l.length ∧ (putS 8 s.l.length [] 0 (blockS b.n (putS 9 0 [] (-1) (exprS x.n (putS 0 1 [] 0 (hereS s)))))).l.length ≤ big := by
    have := o6.l.len
    rw [hi]; omega
  rw [stmtS, headS_6, if_neg (by decide), ← hi] at k
  refine .of Tryz.func80 ?_
  repeat' (conv => whnf
           first
             | exact trivial
             | refine XStep.go ?_
             | refine XChk.mk (by first | omega | decide | (simp only [List.length_take, List.length_drop]; omega) | (simp only [List.length_append, List.length_cons, List.length_nil]; omega)) ?_
             | refine XBoth.mk ?_ ?_
             | (refine XChk.mk ⟨g0, by omega⟩ ?_)
             | (refine XChk.mk ⟨g0', by omega⟩ ?_)
             | (refine XChk.mk ⟨by omega, _, o1, by omega⟩ ?_)
             | (refine CPost.mk fun w2 al2 cl2 El2 an2 cn2 En2 ac2 cc2 Ec2 hh2 s12 s22 s32 => ?_)
             | (refine XChk.mk ⟨g3, by omega⟩ ?_)
             | (refine XChk.mk ⟨by omega, wb, _, o4, by omega⟩ ?_)
             | (refine XChk.mk ⟨g5, by omega⟩ ?_)
             | (refine XChk.mk hld ?_)
             | (refine XCode.drawH (id := 8) #[.pur, .pur, .pur, .pur, .qui, .pur, .pur, .pur, .qui, .lou, .lou] (.one 0 (.one 1 (.one 2 (.one 3 (.one 7 (.one 4 (.one 5 (.one 6 (.one 8 (.one 9 (.one 10 .done))))))))))) mixed (by kernel_rfl) ?_)
             | intro xx
             | (refine XBr.t (by omega) ?_)
             | (refine XBr.f (by omega) ?_)
             | refine XOpt.mk (fun x hc => ?_) (fun hc => ?_)
             | refine XRes.mk (fun x hc => ?_) (fun x hc => ?_)
             | refine XBr.mk (fun hc => ?_) (fun hc => ?_)
             | refine XIf.mk (fun hc => ?_) (fun hc => ?_))
  all_goals conv => whnf
  all_goals exact k.fin CAt.of
theorem stmt5e [ih : PSX m] {x b d : NV} (hm : 6 + wgt x.n + bw b.n + bw d.n ≤ m) (wb : wfB b.n) (wd : wfB d.n) (ca : CAt w bm bp s mv sv I R) (hs : SlA I a 4 encN [x, b, d]) (hk : KidsC I x.a x.c x.n.kids) (hk2 : KidsC I b.a b.c b.n.kids) (hk3 : KidsC I d.a d.c d.n.kids) (hok : CSok N s)
    (hN : N + (6 + wgt x.n + bw b.n + bw d.n) ≤ big) (k : CPost bm bp (stmtS (.mk 5 nt ni [x.n, b.n, d.n]) s) mv sv I R K) :
    XApp Tryz.prog 80 [.pointer (some ⟨bm, 0, none⟩), .agg (List.toArray [.int .i64 5, .string ⟨nt.toArray⟩, .int .i64 ni, .slice a [x, b, d].length c])] w K := by
  obtain ⟨al, cl, El, an, cn, En, ac, cc, Ec, h1, s1, s2, s3⟩ := ca.ex
  clear ca
  have hb := big_eq
  have e1 : ([x, b, d] : List NV).length = 3 := rfl
  have hA : At [x, b, d] (Int.toNat 0) x := ⟨rfl⟩
  have hB : At [x, b, d] (Int.toNat 1) b := ⟨rfl⟩
  have hD : At [x, b, d] (Int.toNat 2) d := ⟨rfl⟩
  have g0 := hok.l.mono (show N ≤ big by omega)
  have g0' := (hereS_ok hok).l.mono (show N ≤ big by omega)
  have o1 : CSok (N + 1) (putS 0 1 [] 0 s) := burn_ok hok
  have o3 := exprS_ok x.n o1
  have g3 := o3.l.mono (show _ ≤ big by omega)
  have o4 := put0_ok (op := 9) (t := []) o3 (g := -1) (by omega)
  have o5 := blockS_ok b.n o4
  have g5 := o5.l.mono (show _ ≤ big by omega)
  have hl5 : (exprS x.n (putS 0 1 [] 0 s)).l.length < (blockS b.n (putS 9 0 [] (-1) (exprS x.n (putS 0 1 [] 0 s)))).l.length := by
    have q1 := blockS_len b.n (putS 9 0 [] (-1) (exprS x.n (putS 0 1 [] 0 s)))
    have q2 : (putS 9 0 [] (-1) (exprS x.n (putS 0 1 [] 0 s))).l.length = (exprS x.n (putS 0 1 [] 0 s)).l.length + 1 := putL_len1 (op := 9) (by decide) 0 [] _ (exprS x.n (putS 0 1 [] 0 s)).fixed
    omega
  have hi := putI_len (op := 9) (by decide) (exprS x.n (putS 0 1 [] 0 s)).l (exprS x.n (putS 0 1 [] 0 s)).fixed
  have o6 := put0_ok (op := 8) (t := []) o5 (g := 0) (by omega)
  have o7 := leadS_ok o6 (putI 9 (exprS x.n (putS 0 1 [] 0 s)).l (exprS x.n (putS 0 1 [] 0 s)).fixed)
  have o8 := blockS_ok d.n o7
  have g8 := o8.l.mono (show _ ≤ big by omega)
  have hl6 : (putS 8 0 [] 0 (blockS b.n (putS 9 0 [] (-1) (exprS x.n (putS 0 1 [] 0 s))))).l.length = (blockS b.n (putS 9 0 [] (-1) (exprS x.n (putS 0 1 [] 0 s)))).l.length + 1 := putL_len1 (op := 8) (by decide) 0 [] _ (blockS b.n (putS 9 0 [] (-1) (exprS x.n (putS 0 1 [] 0 s)))).fixed
  have hj := putI_len (op := 8) (by decide) (blockS b.n (putS 9 0 [] (-1) (exprS x.n (putS 0 1 [] 0 s)))).l (blockS b.n (putS 9 0 [] (-1) (exprS x.n (putS 0 1 [] 0 s)))).fixed
  have hl8 : (putS 8 0 [] 0 (blockS b.n (putS 9 0 [] (-1) (exprS x.n (putS 0 1 [] 0 s))))).l.length ≤ (blockS d.n (leadS (putI 9 (exprS x.n (putS 0 1 [] 0 s)).l (exprS x.n (putS 0 1 [] 0 s)).fixed) (putS 8 0 [] 0 (blockS b.n (putS 9 0 [] (-1) (exprS x.n (putS 0 1 [] 0 s))))))).l.length := by
    have q1 := blockS_len d.n (leadS (putI 9 (exprS x.n (putS 0 1 [] 0 s)).l (exprS x.n (putS 0 1 [] 0 s)).fixed) (putS 8 0 [] 0 (blockS b.n (putS 9 0 [] (-1) (exprS x.n (putS 0 1 [] 0 s))))))
    have q2 := leadS_len (putI 9 (exprS x.n (putS 0 1 [] 0 s)).l (exprS x.n (putS 0 1 [] 0 s)).fixed) (putS 8 0 [] 0 (blockS b.n (putS 9 0 [] (-1) (exprS x.n (putS 0 1 [] 0 s)))))
    omega
  have hld : 0 ≤ (((putI 9 (exprS x.n (putS 0 1 [] 0 s)).l (exprS x.n (putS 0 1 [] 0 s)).fixed) : Nat) : Int) ∧ (((putI 9 (exprS x.n (putS 0 1 [] 0 s)).l (exprS x.n (putS 0 1 [] 0 s)).fixed) : Nat) : Int) < (putS 8 0 [] 0 (blockS b.n (putS 9 0 [] (-1) (exprS x.n (putS 0 1 [] 0 s))))).l.length ∧ (putS 8 0 [] 0 (blockS b.n (putS 9 0 [] (-1) (exprS x.n (putS 0 1 [] 0 s))))).l.length ≤ big := by
    have := o6.l.len
    rw [hi]; omega
  have hld2 : 0 ≤ (((putI 8 (blockS b.n (putS 9 0 [] (-1) (exprS x.n (putS 0 1 [] 0 s)))).l (blockS b.n (putS 9 0 [] (-1) (exprS x.n (putS 0 1 [] 0 s)))).fixed) : Nat) : Int) ∧ (((putI 8 (blockS b.n (putS 9 0 [] (-1) (exprS x.n (putS 0 1 [] 0 s)))).l (blockS b.n (putS 9 0 [] (-1) (exprS x.n (putS 0 1 [] 0 s)))).fixed) : Nat) : Int) < (blockS d.n (leadS (putI 9 (exprS x.n (putS 0 1 [] 0 s)).l (exprS x.n (putS 0 1 [] 0 s)).fixed) (putS 8 0 [] 0 (blockS b.n (putS 9 0 [] (-1) (exprS x.n (putS 0 1 [] 0 s))))))).l.length ∧ (blockS d.n (leadS (putI 9 (exprS x.n (putS 0 1 [] 0 s)).l (exprS x.n (putS 0 1 [] 0 s)).fixed) (putS 8 0 [] 0 (blockS b.n (putS 9 0 [] (-1) (exprS x.n (putS 0 1 [] 0 s))))))).l.length ≤ big := by
    have := g8.len
    rw [hj]; omega
  rw [stmtS, headS_ne (by omega), ← hi, ← hj] at k
  refine .of Tryz.func80 ?_
  repeat' (conv => whnf
           first
             | exact trivial
             | refine XStep.go ?_
             | refine XChk.mk (by first | omega | decide | (simp only [List.length_take, List.length_drop]; omega) | (simp only [List.length_append, List.length_cons, List.length_nil]; omega)) ?_
             | refine XBoth.mk ?_ ?_
             | (refine XChk.mk ⟨g0, by omega⟩ ?_)
             | (refine XChk.mk ⟨g0', by omega⟩ ?_)
             | (refine XChk.mk ⟨by omega, _, o1, by omega⟩ ?_)
             | (refine CPost.mk fun w2 al2 cl2 El2 an2 cn2 En2 ac2 cc2 Ec2 hh2 s12 s22 s32 => ?_)
             | (refine XChk.mk ⟨g3, by omega⟩ ?_)
             | (refine XChk.mk ⟨by omega, wb, _, o4, by omega⟩ ?_)
             | (refine XChk.mk ⟨g5, by omega⟩ ?_)
             | (refine XChk.mk hld ?_)
             | (refine XChk.mk ⟨by omega, wd, _, o7, by omega⟩ ?_)
             | (refine XChk.mk hld2 ?_)
             | (refine XCode.drawH (id := 8) #[.pur, .pur, .pur, .pur, .qui, .pur, .pur, .pur, .qui, .lou, .lou] (.one 0 (.one 1 (.one 2 (.one 3 (.one 7 (.one 4 (.one 5 (.one 6 (.one 8 (.one 9 (.one 10 .done))))))))))) mixed (by kernel_rfl) ?_)
             | intro xx
             | (refine XBr.t (by omega) ?_)
             | (refine XBr.f (by omega) ?_)
             | refine XOpt.mk (fun x hc => ?_) (fun hc => ?_)
             | refine XRes.mk (fun x hc => ?_) (fun x hc => ?_)
             | refine XBr.mk (fun hc => ?_) (fun hc => ?_)
             | refine XIf.mk (fun hc => ?_) (fun hc => ?_))
  all_goals conv => whnf
  all_goals exact k.fin CAt.of
end
theorem stStep {m : Nat} [ih : PSX m] (n : Nd) (N : Nat) (w : World) (bm bp : Nat) (s : CS) (mv sv : Value) (I : Im) (R : Heap) (a : Option Addr) (c : Nat) (K : KV) (hm : sw n ≤ m) (hwf : wfS n) (ca : CAt w bm bp s mv sv I R) (kc : KidsC I a c n.kids) (hok : CSok N s) (hN : N + sw n ≤ big)
    (k : CPost bm bp (stmtS n s) mv sv I R K) : XApp Tryz.prog 80 [.pointer (some ⟨bm, 0, none⟩), nodeA n a c] w K := by
  obtain ⟨no, nt, ni, nk⟩ := n
  obtain ⟨kp⟩ := kc
  cases kp with
  | mk _ _ xs hs hcs hks =>
  have hk : ∀ x ∈ xs, KidsC I x.a x.c x.n.kids := fun x hx => ⟨hks x hx⟩
  have ek : (Nd.mk no nt ni (xs.map fun x => x.n)).kids.length = xs.length := by simp [Nd.kids]
  dsimp only [nodeA, Nd.op, Nd.text, Nd.num]
  rw [ek]
  rcases xs with _ | ⟨x, _ | ⟨b, _ | ⟨d, _ | ⟨e, r⟩⟩⟩⟩
  · simp only [List.map_nil, wfS] at hwf
    subst hwf
    simp only [List.map_nil, sw] at hm hN
    simp only [List.map_nil, stmtS, if_true, headS_ne (show (7 : Int) ≠ 6 by decide)] at k
    exact stmt7 hm ca hok hN k
  · simp only [List.map_cons, List.map_nil, wfS] at hwf
    simp only [List.map_cons, List.map_nil, sw] at hm hN
    exact stmt34 hwf hm ca hs (hk x (by simp)) hok hN k
  · simp only [List.map_cons, List.map_nil, wfS] at hwf
    simp only [List.map_cons, List.map_nil, sw] at hm hN
    obtain ⟨rfl | rfl, wb⟩ := hwf
    · exact stmt5 hm wb ca hs (hk x (by simp)) (hk b (by simp)) hok hN k
    · exact stmt6 hm wb ca hs (hk x (by simp)) (hk b (by simp)) hok hN k
  · simp only [List.map_cons, List.map_nil, wfS] at hwf
    simp only [List.map_cons, List.map_nil, sw] at hm hN
    obtain ⟨rfl, wb, wd⟩ := hwf
    exact stmt5e hm wb wd ca hs (hk x (by simp)) (hk b (by simp)) (hk d (by simp)) hok hN k
  · simp only [List.map_cons, wfS] at hwf
theorem psxAll : ∀ m, PSX m
  | 0 => ⟨fun _ _ _ _ _ _ _ _ _ _ _ _ _ h => absurd h (Nat.not_lt_zero _)⟩
  | m + 1 =>
    have ih := psxAll m
    ⟨fun n N w bm bp s mv sv I R a c K hm hw ca kc hok hN k => stStep n N w bm bp s mv sv I R a c K (Nat.lt_succ_iff.1 hm) hw ca kc hok hN k⟩
instance : PSX 2000000000 := psxAll _
end Go.Proofs

/- tree: walks. -/
namespace Go.Proofs
open Go.X
set_option maxHeartbeats 2000000
set_option maxRecDepth 100000
set_option linter.unusedVariables false
set_option linter.unusedSimpArgs false

mutual
def walkN : Int → Nd → List (Int × Nd)
  | d, .mk op t num kids => (d, .mk op t num kids) :: walkNs (d + 1) kids
def walkNs : Int → List Nd → List (Int × Nd)
  | _, [] => []
  | d, k :: r => walkN d k ++ walkNs d r
end
theorem walkN_eq (d : Int) (n : Nd) : walkN d n = (d, n) :: walkNs (d + 1) n.kids := by cases n; rw [walkN]; rfl
theorem walkNs_snoc (d : Int) (l : List Nd) (k : Nd) : walkNs d (l ++ [k]) = walkNs d l ++ walkN d k := by
  induction l with
  | nil => simp [walkNs]
  | cons x l ih => simp only [List.cons_append, walkNs, ih, List.append_assoc]
theorem walkNs_take (d : Int) (l : List Nd) (k : Nat) : walkNs d l = walkNs d (l.take k) ++ walkNs d (l.drop k) := by
  induction l generalizing k with
  | nil => simp [walkNs]
  | cons x l ih => cases k with
    | zero => simp [walkNs]
    | succ k => simp only [List.take_succ_cons, List.drop_succ_cons, walkNs, List.append_assoc]; rw [ih k]
theorem walkNs_len (d : Int) (l : List Nd) : l.length ≤ (walkNs d l).length := by
  induction l with
  | nil => simp
  | cons x l ih => rw [walkNs, walkN_eq]; simp; omega
/-- what a walk's nodes are told to: xs in all, J: i have been told, Jx: no more -/
structure YB (y : Value) (xs : List (Int × Nd)) (J : Nat → Im → Heap → Prop) (Jx : Im → Heap → Prop) : Prop where
  run : ∀ ro i d n a c w I F L K, xs[i]? = some (d, n) → J i I L → HH w I (F ++ L) → KidsC I a c n.kids →
    (∀ w' I' L', I.Le I' → J (i + 1) I' L' → HH w' I' (F ++ L') → K (.bool true) w') → (∀ w' I' L', I.Le I' → Jx I' L' → HH w' I' (F ++ L') → K (.bool false) w') →
    XCall Tryz.prog ro y [.int .i64 d, .agg (List.toArray [.int .i64 n.op, .string ⟨n.text.toArray⟩, .int .i64 n.num, .slice a n.kids.length c])] w K
theorem KidsC.get {I : Im} {a : Option Addr} {c : Nat} {k : List Nd} (h : KidsC I a c k) : ∃ xs : List NV, k = xs.map (fun x => x.n) ∧ SlA I a 4 encN xs ∧ xs.length ≤ c ∧ ∀ x ∈ xs, KidsC I x.a x.c x.n.kids := by
  obtain ⟨kp⟩ := h
  cases kp with
  | mk _ _ xs hs hcs hks => exact ⟨xs, rfl, hs, hcs, fun x hx => ⟨hks x hx⟩⟩
theorem walkC {y : Value} {xs : List (Int × Nd)} {J : Nat → Im → Heap → Prop} {Jx : Im → Heap → Prop} (yb : YB y xs J Jx) : ∀ (m : Nat) (n : Nd) (d : Int) (i : Nat) (rest : List (Int × Nd)) (a : Option Addr) (c : Nat) (w : World) (I : Im) (F L : Heap) (K : KV),
    (walkN d n).length < m → xs.drop i = walkN d n ++ rest → J i I L → HH w I (F ++ L) → KidsC I a c n.kids → 0 ≤ d → d + (walkN d n).length ≤ 1000000000 →
    (∀ w' I' L', I.Le I' → J (i + (walkN d n).length) I' L' → HH w' I' (F ++ L') → K (.bool true) w') → (∀ w' I' L', I.Le I' → Jx I' L' → HH w' I' (F ++ L') → K (.bool false) w') →
    XApp Tryz.prog 111 [.agg (List.toArray [.int .i64 n.op, .string ⟨n.text.toArray⟩, .int .i64 n.num, .slice a n.kids.length c]), .int .i64 d, y] w K := by
  intro m
  induction m with
  | zero => intro n d i rest a c w I F L K h; exact absurd h (Nat.not_lt_zero _)
  | succ m ih =>
    intro n d i rest a c w I F L K hm hxs hJ hh kc hd0 hd kt kf
    have h0 : xs[i]? = some (d, n) := by
      have := congrArg (fun l => l[0]?) hxs
      rw [walkN_eq] at this
      simpa using this
    refine .of Tryz.func111 ?_
    repeat' (conv => whnf
             first
               | exact trivial
               | refine XStep.go ?_
               | refine XChk.mk (by first | omega | decide | (simp only [List.length_take, List.length_drop]; omega) | (simp only [List.length_append, List.length_cons, List.length_nil]; omega)) ?_
               | refine XBoth.mk ?_ ?_
               | intro xx
               | (refine XBr.t (by omega) ?_)
               | (refine XBr.f (by omega) ?_)
               | refine XOpt.mk (fun x hc => ?_) (fun hc => ?_)
               | refine XRes.mk (fun x hc => ?_) (fun x hc => ?_)
               | refine XBr.mk (fun hc => ?_) (fun hc => ?_)
               | refine XIf.mk (fun hc => ?_) (fun hc => ?_))
    conv => whnf
    rename_i b3 w3
    have hx3 : HH w3 I (((b3, .cells (List.toArray [.int .i64 n.op, .string ⟨n.text.toArray⟩, .int .i64 n.num, .slice a n.kids.length c]) 63 (0, 0)) :: F) ++ L) := xx
    clear xx hh
    refine yb.run none i d n a c _ I _ L _ h0 hJ hx3 kc (fun w1 I1 L1 hl1 hJ1 hh1 => ?_) (fun w1 I1 L1 hl1 hJ1 hh1 => ?_)
    · obtain ⟨ns, en, hs, hcs, hks⟩ := kc.get
      have el : n.kids.length = ns.length := by rw [en, List.length_map]
      have hh2 : HH w1 I1 ((b3, .cells (List.toArray [.int .i64 n.op, .string ⟨n.text.toArray⟩, .int .i64 n.num, .slice a n.kids.length c]) 63 (0, 0)) :: (F ++ L1)) := hh1
      clear hh1 hx3
      rw [walkN_eq] at hm hd kt hxs
      rw [el] at hh2
      have hln := walkNs_len (d + 1) n.kids
      rw [el] at hln
      simp only [List.length_cons] at hm hd kt
      repeat' (conv => whnf
               first
                 | exact trivial
                 | refine XStep.go ?_
                 | refine XChk.mk (by first | omega | decide | (simp only [List.length_take, List.length_drop]; omega) | (simp only [List.length_append, List.length_cons, List.length_nil]; omega)) ?_
                 | refine XBoth.mk ?_ ?_
                 | intro xx
                 | (refine XBr.t (by omega) ?_)
                 | (refine XBr.f (by omega) ?_)
                 | refine XOpt.mk (fun x hc => ?_) (fun hc => ?_)
                 | refine XRes.mk (fun x hc => ?_) (fun x hc => ?_)
                 | refine XBr.mk (fun hc => ?_) (fun hc => ?_)
                 | refine XIf.mk (fun hc => ?_) (fun hc => ?_))
      refine XCode.loopG (fun g : Nat × Im × Heap => [none, some (.int .i64 d), some (y), some (.pointer (some ⟨b3, 0, none⟩)), none, none, none, none, none, none, none, none, none, none, none, some (.slice a ns.length c), some (.int .i64 ns.length), some (.int .i64 g.1), none, none, none, none, none, none, none, none, none, none])
        (fun g w => I1.Le g.2.1 ∧ J (i + 1 + (walkNs (d + 1) ((ns.take g.1).map fun x => x.n)).length) g.2.1 g.2.2 ∧ HH w g.2.1 ((b3, .cells (List.toArray [.int .i64 n.op, .string ⟨n.text.toArray⟩, .int .i64 n.num, .slice a ns.length c]) 63 (0, 0)) :: (F ++ g.2.2)) ∧ g.1 ≤ ns.length)
        (fun g => ns.length - g.1) (0, I1, L1) ?_ ⟨.refl _, by simpa [walkNs] using hJ1, hh2, by omega⟩ ?_
      · simp [fits]
      · rintro ⟨j, I2, L2⟩ w ⟨hl2, hJ2, hh3, hj⟩
        dsimp only at hl2 hJ2 hh3 hj ⊢
        have hs2 := hs.mono (hl1.trans hl2)
        clear hh2
        by_cases hlt : j < ns.length
        · have hx : ns[j]? = some ns[j] := List.getElem?_eq_getElem hlt
          have hAt : At ns j ns[j] := ⟨hx⟩
          have hkx : KidsC I2 ns[j].a ns[j].c ns[j].n.kids := ⟨(hks _ (List.getElem_mem hlt)).p.mono (hl1.trans hl2)⟩
          have e1 : (ns.take (j + 1)).map (fun x => x.n) = ((ns.take j).map fun x => x.n) ++ [ns[j].n] := by rw [List.take_succ_eq_append_getElem hlt, List.map_append]; rfl
          have e2 := walkNs_snoc (d + 1) ((ns.take j).map fun x => x.n) ns[j].n
          rw [← e1] at e2
          have e3 := walkNs_take (d + 1) n.kids (j + 1)
          have e4 : n.kids.take (j + 1) = (ns.take (j + 1)).map fun x => x.n := by rw [en, List.map_take]
          rw [e4, e2] at e3
          have hdr : xs.drop (i + 1 + (walkNs (d + 1) ((ns.take j).map fun x => x.n)).length) = walkN (d + 1) ns[j].n ++ (walkNs (d + 1) (n.kids.drop (j + 1)) ++ rest) := by
            have h5 : xs.drop (i + 1) = walkNs (d + 1) n.kids ++ rest := by
              have := congrArg List.tail hxs
              simpa [List.tail_drop] using this
            rw [← List.drop_drop, h5, e3]
            simp [List.append_assoc]
          have hle : (walkN (d + 1) ns[j].n).length ≤ (walkNs (d + 1) n.kids).length := by rw [e3]; simp; omega
          generalize ns[j] = x at *
          repeat' (conv => whnf
                   first
                     | exact trivial
                     | refine XStep.go ?_
                     | refine XChk.mk (by first | omega | decide | (simp only [List.length_take, List.length_drop]; omega) | (simp only [List.length_append, List.length_cons, List.length_nil]; omega)) ?_
                     | refine XBoth.mk ?_ ?_
                     | intro xx
                     | (refine XBr.t (by omega) ?_)
                     | (refine XBr.f (by omega) ?_)
                     | refine XOpt.mk (fun x hc => ?_) (fun hc => ?_)
                     | refine XRes.mk (fun x hc => ?_) (fun x hc => ?_)
                     | refine XBr.mk (fun hc => ?_) (fun hc => ?_)
                     | refine XIf.mk (fun hc => ?_) (fun hc => ?_))
          conv => whnf
          rename_i b8 _ _ w8
          have hx8 : HH w8 I2 (((b8, .cells (List.toArray [.int .i64 x.n.op, .string ⟨x.n.text.toArray⟩, .int .i64 x.n.num, .slice x.a x.n.kids.length x.c]) 63 (0, 0)) :: (b3, .cells (List.toArray [.int .i64 n.op, .string ⟨n.text.toArray⟩, .int .i64 n.num, .slice a ns.length c]) 63 (0, 0)) :: F) ++ L2) := xx
          clear xx hh3
          refine ih x.n (d + 1) _ _ x.a x.c w8 I2 _ L2 _ (by omega) hdr hJ2 hx8 hkx (by omega) (by omega) (fun w4 I4 L4 hl4 hJ4 hh4 => ?_) (fun w4 I4 L4 hl4 hJ4 hh4 => ?_)
          · have hh5 : HH w4 I4 ((b8, .cells (List.toArray [.int .i64 x.n.op, .string ⟨x.n.text.toArray⟩, .int .i64 x.n.num, .slice x.a x.n.kids.length x.c]) 63 (0, 0)) :: (b3, .cells (List.toArray [.int .i64 n.op, .string ⟨n.text.toArray⟩, .int .i64 n.num, .slice a ns.length c]) 63 (0, 0)) :: (F ++ L4)) := hh4
            clear hh4 hx8
            repeat' (conv => whnf
                     first
                       | exact trivial
                       | refine XStep.go ?_
                       | refine XChk.mk (by first | omega | decide | (simp only [List.length_take, List.length_drop]; omega) | (simp only [List.length_append, List.length_cons, List.length_nil]; omega)) ?_
                       | refine XBoth.mk ?_ ?_
                       | intro xx
                       | (refine XBr.t (by omega) ?_)
                       | (refine XBr.f (by omega) ?_)
                       | refine XOpt.mk (fun x hc => ?_) (fun hc => ?_)
                       | refine XRes.mk (fun x hc => ?_) (fun x hc => ?_)
                       | refine XBr.mk (fun hc => ?_) (fun hc => ?_)
                       | refine XIf.mk (fun hc => ?_) (fun hc => ?_))
            conv => whnf
            refine ⟨(j + 1, I4, L4), rfl, by simp [fits], ⟨hl2.trans hl4, ?_, HH.fin, by dsimp only; omega⟩, by dsimp only; omega⟩
            dsimp only
            rw [e2, List.length_append, ← Nat.add_assoc]
            exact hJ4
          · have hh5 : HH w4 I4 ((b8, .cells (List.toArray [.int .i64 x.n.op, .string ⟨x.n.text.toArray⟩, .int .i64 x.n.num, .slice x.a x.n.kids.length x.c]) 63 (0, 0)) :: (b3, .cells (List.toArray [.int .i64 n.op, .string ⟨n.text.toArray⟩, .int .i64 n.num, .slice a ns.length c]) 63 (0, 0)) :: (F ++ L4)) := hh4
            clear hh4 hx8
            repeat' (conv => whnf
                     first
                       | exact trivial
                       | refine XStep.go ?_
                       | refine XChk.mk (by first | omega | decide | (simp only [List.length_take, List.length_drop]; omega) | (simp only [List.length_append, List.length_cons, List.length_nil]; omega)) ?_
                       | refine XBoth.mk ?_ ?_
                       | intro xx
                       | (refine XBr.t (by omega) ?_)
                       | (refine XBr.f (by omega) ?_)
                       | refine XOpt.mk (fun x hc => ?_) (fun hc => ?_)
                       | refine XRes.mk (fun x hc => ?_) (fun x hc => ?_)
                       | refine XBr.mk (fun hc => ?_) (fun hc => ?_)
                       | refine XIf.mk (fun hc => ?_) (fun hc => ?_))
            conv => whnf
            exact kf _ _ _ (hl1.trans (hl2.trans hl4)) hJ4 HH.fin
        · have e0 : ns.take j = ns := List.take_of_length_le (by omega)
          rw [e0, ← en] at hJ2
          repeat' (conv => whnf
                   first
                     | exact trivial
                     | refine XStep.go ?_
                     | refine XChk.mk (by first | omega | decide | (simp only [List.length_take, List.length_drop]; omega) | (simp only [List.length_append, List.length_cons, List.length_nil]; omega)) ?_
                     | refine XBoth.mk ?_ ?_
                     | intro xx
                     | (refine XBr.t (by omega) ?_)
                     | (refine XBr.f (by omega) ?_)
                     | refine XOpt.mk (fun x hc => ?_) (fun hc => ?_)
                     | refine XRes.mk (fun x hc => ?_) (fun x hc => ?_)
                     | refine XBr.mk (fun hc => ?_) (fun hc => ?_)
                     | refine XIf.mk (fun hc => ?_) (fun hc => ?_))
          conv => whnf
          refine kt _ I2 L2 (hl1.trans hl2) ?_ HH.fin
          rw [show i + ((walkNs (d + 1) n.kids).length + 1) = i + 1 + (walkNs (d + 1) n.kids).length by omega]
          exact hJ2
    · have hh2 : HH w1 I1 ((b3, .cells (List.toArray [.int .i64 n.op, .string ⟨n.text.toArray⟩, .int .i64 n.num, .slice a n.kids.length c]) 63 (0, 0)) :: (F ++ L1)) := hh1
      clear hh1 hx3
      repeat' (conv => whnf
               first
                 | exact trivial
                 | refine XStep.go ?_
                 | refine XChk.mk (by first | omega | decide | (simp only [List.length_take, List.length_drop]; omega) | (simp only [List.length_append, List.length_cons, List.length_nil]; omega)) ?_
                 | refine XBoth.mk ?_ ?_
                 | intro xx
                 | (refine XBr.t (by omega) ?_)
                 | (refine XBr.f (by omega) ?_)
                 | refine XOpt.mk (fun x hc => ?_) (fun hc => ?_)
                 | refine XRes.mk (fun x hc => ?_) (fun x hc => ?_)
                 | refine XBr.mk (fun hc => ?_) (fun hc => ?_)
                 | refine XIf.mk (fun hc => ?_) (fun hc => ?_))
      conv => whnf
      exact kf _ _ _ hl1 hJ1 HH.fin
instance walkFn {w : World} {I : Im} {L : Heap} {n c : Nat} {o i : Int} {t : Bs} {a : Option Addr} {K : KV} [hh : HH w I L] :
    XStep (XApp Tryz.prog 76 [.agg (List.toArray [.int .i64 o, .string ⟨t.toArray⟩, .int .i64 i, .slice a n c])] w K)
      (∀ b w', HH w' I ((b, .cells (List.toArray [.int .i64 o, .string ⟨t.toArray⟩, .int .i64 i, .slice a n c]) 63 (0, 0)) :: L) → K (.func (.func 110) #[] (List.toArray [.pointer (some ⟨b, 0, none⟩)])) w') := ⟨fun k => by
  refine .of Tryz.func76 ?_
  repeat' (conv => whnf
           first
             | exact trivial
             | refine XStep.go ?_
             | refine XChk.mk (by first | omega | decide | (simp only [List.length_take, List.length_drop]; omega) | (simp only [List.length_append, List.length_cons, List.length_nil]; omega)) ?_
             | refine XBoth.mk ?_ ?_
             | intro xx
             | (refine XBr.t (by omega) ?_)
             | (refine XBr.f (by omega) ?_)
             | refine XOpt.mk (fun x hc => ?_) (fun hc => ?_)
             | refine XRes.mk (fun x hc => ?_) (fun x hc => ?_)
             | refine XBr.mk (fun hc => ?_) (fun hc => ?_)
             | refine XIf.mk (fun hc => ?_) (fun hc => ?_))
  conv => whnf
  exact k _ _ ‹_›⟩
/-- all of a walk -/
theorem walk1C {y : Value} {J : Nat → Im → Heap → Prop} {Jx : Im → Heap → Prop} {n : Nd} {a : Option Addr} {c b : Nat} {w : World} {I : Im} {F L : Heap} {K : KV} (yb : YB y (walkN 0 n) J Jx) (hJ : J 0 I L) (hh : HH w I (F ++ L))
    (ho : X.Own F b (.cells (List.toArray [.int .i64 n.op, .string ⟨n.text.toArray⟩, .int .i64 n.num, .slice a n.kids.length c]) 63 (0, 0))) (kc : KidsC I a c n.kids) (hn : (walkN 0 n).length ≤ 1000000000)
    (kt : ∀ w' I' L', I.Le I' → J (walkN 0 n).length I' L' → HH w' I' (F ++ L') → K (.tuple #[]) w') (kf : ∀ w' I' L', I.Le I' → Jx I' L' → HH w' I' (F ++ L') → K (.tuple #[]) w') :
    XApp Tryz.prog 110 [y, .pointer (some ⟨b, 0, none⟩)] w K := by
  have ho2 : X.Own (F ++ L) b (.cells (List.toArray [.int .i64 n.op, .string ⟨n.text.toArray⟩, .int .i64 n.num, .slice a n.kids.length c]) 63 (0, 0)) := ⟨List.mem_append_left _ ho.mem⟩
  refine .of Tryz.func110 ?_
  repeat' (conv => whnf
           first
             | exact trivial
             | refine XStep.go ?_
             | refine XChk.mk (by first | omega | decide | (simp only [List.length_take, List.length_drop]; omega) | (simp only [List.length_append, List.length_cons, List.length_nil]; omega)) ?_
             | refine XBoth.mk ?_ ?_
             | intro xx
             | (refine XBr.t (by omega) ?_)
             | (refine XBr.f (by omega) ?_)
             | refine XOpt.mk (fun x hc => ?_) (fun hc => ?_)
             | refine XRes.mk (fun x hc => ?_) (fun x hc => ?_)
             | refine XBr.mk (fun hc => ?_) (fun hc => ?_)
             | refine XIf.mk (fun hc => ?_) (fun hc => ?_))
  conv => whnf
  refine walkC yb _ n 0 0 [] a c w I F L _ (Nat.lt_succ_self _) (by simp) hJ hh kc (Int.le_refl _) (by omega) (fun w1 I1 L1 hl1 hJ1 hh1 => ?_) (fun w1 I1 L1 hl1 hJ1 hh1 => ?_)
  · repeat' (conv => whnf
             first
               | exact trivial
               | refine XStep.go ?_
               | refine XChk.mk (by first | omega | decide | (simp only [List.length_take, List.length_drop]; omega) | (simp only [List.length_append, List.length_cons, List.length_nil]; omega)) ?_
               | refine XBoth.mk ?_ ?_
               | intro xx
               | (refine XBr.t (by omega) ?_)
               | (refine XBr.f (by omega) ?_)
               | refine XOpt.mk (fun x hc => ?_) (fun hc => ?_)
               | refine XRes.mk (fun x hc => ?_) (fun x hc => ?_)
               | refine XBr.mk (fun hc => ?_) (fun hc => ?_)
               | refine XIf.mk (fun hc => ?_) (fun hc => ?_))
    conv => whnf
    exact kt _ _ _ hl1 (by simpa using hJ1) hh1
  · repeat' (conv => whnf
             first
               | exact trivial
               | refine XStep.go ?_
               | refine XChk.mk (by first | omega | decide | (simp only [List.length_take, List.length_drop]; omega) | (simp only [List.length_append, List.length_cons, List.length_nil]; omega)) ?_
               | refine XBoth.mk ?_ ?_
               | intro xx
               | (refine XBr.t (by omega) ?_)
               | (refine XBr.f (by omega) ?_)
               | refine XOpt.mk (fun x hc => ?_) (fun hc => ?_)
               | refine XRes.mk (fun x hc => ?_) (fun x hc => ?_)
               | refine XBr.mk (fun hc => ?_) (fun hc => ?_)
               | refine XIf.mk (fun hc => ?_) (fun hc => ?_))
    conv => whnf
    exact kf _ _ _ hl1 hJ1 hh1
end Go.Proofs

/- code: collect. -/
namespace Go.Proofs
open Go.X
set_option maxHeartbeats 4000000
set_option maxRecDepth 100000
set_option linter.unusedVariables false
set_option linter.unusedSimpArgs false

/-- a range over a walk, of which no round leaves -/
theorem walkRange {l D b : Nat} {fn : FuncId} {t : List Value} {ps : Array Tmp} {ca cb : Code} {n : Nd} {a : Option Addr} {c : Nat} {w : World} {I : Im} {F L0 : Heap} {K : KV} (St : Nat → Im → Heap → Prop)
    (hh : HH w I (F ++ ((l, loopO .ready none fn t ps ca cb D) :: L0)))
    (ho : X.Own F b (.cells (List.toArray [.int .i64 n.op, .string ⟨n.text.toArray⟩, .int .i64 n.num, .slice a n.kids.length c]) 63 (0, 0))) (kc : KidsC I a c n.kids) (hn : (walkN 0 n).length ≤ 1000000000) (h0 : St 0 I L0)
    (step : ∀ ro i d n' a c w I' F L0 K, (walkN 0 n)[i]? = some (d, n') → I.Le I' → St i I' L0 → HH w I' (F ++ ((l, loopO .ready none fn t ps ca cb D) :: L0)) → KidsC I' a c n'.kids →
      (∀ w' I'' L0', I'.Le I'' → St (i + 1) I'' L0' → HH w' I'' (F ++ ((l, loopO .ready none fn t ps ca cb D) :: L0')) → K (.bool true) w') →
      XCall Tryz.prog ro (.func (.yield l) #[] #[]) [.int .i64 d, .agg (List.toArray [.int .i64 n'.op, .string ⟨n'.text.toArray⟩, .int .i64 n'.num, .slice a n'.kids.length c])] w K)
    (k : ∀ w' I' L0', I.Le I' → St (walkN 0 n).length I' L0' → HH w' I' (F ++ ((l, loopO .ready none fn t ps ca cb D) :: L0')) → K (.tuple #[]) w') :
    XApp Tryz.prog 110 [.func (.yield l) #[] #[], .pointer (some ⟨b, 0, none⟩)] w K := by
  refine walk1C (J := fun i I' L' => I.Le I' ∧ ∃ L0, L' = (l, loopO .ready none fn t ps ca cb D) :: L0 ∧ St i I' L0) (Jx := fun _ _ => False) ⟨?_⟩ ⟨.refl _, L0, rfl, h0⟩ hh ho kc hn ?_ ?_
  · rintro ro i d n' a c w I' F L K hx ⟨hl, L0, rfl, hs⟩ hh kc kt kf
    exact step ro i d n' a c w I' F L0 K hx hl hs hh kc fun w' I'' L0' hl' hs' hh' => kt w' I'' _ hl' ⟨hl.trans hl', L0', rfl, hs'⟩ hh'
  · rintro w' I' L' hl ⟨_, L0, rfl, hs⟩ hh
    exact k w' I' L0 hl hs hh
  · rintro w' I' L' hl hf; exact hf.elim
/-- what is collected -/
structure CL where
  names : List Bs
  consts : List VV
  calls : List Bs
def collStep (s : CL) (n : Nd) : CL :=
  let s1 : CL := if n.op = 11 ∨ n.op = 3 then { s with names := placeL s.names n.text } else if n.op = 12 then { s with calls := s.calls ++ [n.text] } else s
  if (constF n.op n.text n.num).2 = true then { s1 with consts := placeL s1.consts (constF n.op n.text n.num).1 } else s1
def collS (l : List Nd) (s : CL) : CL := l.foldl collStep s
theorem collS_snoc (l : List Nd) (n : Nd) (s : CL) : collS (l ++ [n]) s = collStep (collS l s) n := by simp [collS]
theorem collStep_len (s : CL) (n : Nd) : (collStep s n).names.length ≤ s.names.length + 1 ∧ (collStep s n).consts.length ≤ s.consts.length + 1 ∧ (collStep s n).calls.length ≤ s.calls.length + 1 := by
  have h1 := placeL_len s.names n.text
  unfold collStep
  dsimp only
  split <;> split <;> (try split) <;> (try simp only [List.length_append, List.length_cons, List.length_nil])
  all_goals first
  | omega
  | (have h2 := placeL_len s.consts (constF n.op n.text n.num).1; omega)
theorem collS_len (l : List Nd) (s : CL) : (collS l s).names.length ≤ s.names.length + l.length ∧ (collS l s).consts.length ≤ s.consts.length + l.length ∧ (collS l s).calls.length ≤ s.calls.length + l.length := by
  induction l generalizing s with
  | nil => simp [collS]
  | cons x l ih =>
    have h1 := collStep_len s x
    have h2 := ih (collStep s x)
    show (collS l (collStep s x)).names.length ≤ _ ∧ _ ∧ _
    simp only [List.length_cons]
    have e : collS (x :: l) s = collS l (collStep s x) := rfl
    rw [e]
    omega
def collAll (n : Nd) : CL := collS ((walkN 0 n).map (·.2)) ⟨[], [], []⟩
structure CollPost (n : Nd) (bp : Nat) (m : Value) (I : Im) (R : Heap) (K : KV) : Prop where
  go : ∀ w' I' an cn En ac cc Ec ak, I.Le I' → HH w' I' ((bp, progO an cn (collAll n).names ac cc (collAll n).consts m (.slice ak (setF (collAll n).calls).length (setF (collAll n).calls).length)) :: (En ++ (Ec ++ R))) →
    SO 9 an cn 1 sEnc (collAll n).names En → SO 54 ac cc 3 vEnc (collAll n).consts Ec → SlA I' ak 1 sEnc (setF (collAll n).calls) → K (.tuple #[]) w'
section
variable {s : CL} {n : Nd}
theorem coll_nc (h : n.op = 11 ∨ n.op = 3) (hc : (constF n.op n.text n.num).2 = true) : collStep s n = ⟨placeL s.names n.text, placeL s.consts (constF n.op n.text n.num).1, s.calls⟩ := by unfold collStep; rw [if_pos h]; dsimp only; rw [if_pos hc]
theorem coll_n0 (h : n.op = 11 ∨ n.op = 3) (hc : (constF n.op n.text n.num).2 = false) : collStep s n = ⟨placeL s.names n.text, s.consts, s.calls⟩ := by unfold collStep; rw [if_pos h]; dsimp only; rw [if_neg (by simp [hc])]
theorem coll_cc (h1 : ¬ n.op = 11) (h3 : ¬ n.op = 3) (h : n.op = 12) (hc : (constF n.op n.text n.num).2 = true) : collStep s n = ⟨s.names, placeL s.consts (constF n.op n.text n.num).1, s.calls ++ [n.text]⟩ := by
  unfold collStep; rw [if_neg (show ¬ (n.op = 11 ∨ n.op = 3) from fun h' => h'.elim h1 h3), if_pos h]; dsimp only; rw [if_pos hc]
theorem coll_c0 (h1 : ¬ n.op = 11) (h3 : ¬ n.op = 3) (h : n.op = 12) (hc : (constF n.op n.text n.num).2 = false) : collStep s n = ⟨s.names, s.consts, s.calls ++ [n.text]⟩ := by
  unfold collStep; rw [if_neg (show ¬ (n.op = 11 ∨ n.op = 3) from fun h' => h'.elim h1 h3), if_pos h]; dsimp only; rw [if_neg (by simp [hc])]
theorem coll_0c (h1 : ¬ n.op = 11) (h3 : ¬ n.op = 3) (h : ¬ n.op = 12) (hc : (constF n.op n.text n.num).2 = true) : collStep s n = ⟨s.names, placeL s.consts (constF n.op n.text n.num).1, s.calls⟩ := by
  unfold collStep; rw [if_neg (show ¬ (n.op = 11 ∨ n.op = 3) from fun h' => h'.elim h1 h3), if_neg h]; dsimp only; rw [if_pos hc]
theorem coll_00 (h1 : ¬ n.op = 11) (h3 : ¬ n.op = 3) (h : ¬ n.op = 12) (hc : (constF n.op n.text n.num).2 = false) : collStep s n = s := by
  unfold collStep; rw [if_neg (show ¬ (n.op = 11 ∨ n.op = 3) from fun h' => h'.elim h1 h3), if_neg h]; dsimp only; rw [if_neg (by simp [hc])]
end
instance setOfSO {w : World} {I : Im} {L E R : Heap} {a : Option Addr} {c : Nat} {xs : List Bs} {K : KV} [hh : HH w I L] [so : SO 9 a c 1 sEnc xs E] [sp : Split L E R] :
    XStep (XApp Tryz.prog 48 [.slice a xs.length c] w K) (XChk (xs.length ≤ 1000000000)
      (∀ w' I' a', I.Le I' → HH w' I' R → SlA I' a' 1 sEnc (setF xs) → K (.agg (List.toArray [.slice a' (setF xs).length (setF xs).length])) w')) := ⟨fun ⟨hx, k⟩ => by
  obtain ⟨I2, hl, h2, hs, hc⟩ := soFrz so (w := w)
  exact setOfC.go ⟨hx, fun w' I' a' hl' h' hs' => k w' I' a' (hl.trans hl') h' hs'⟩⟩
theorem perm7 {w : World} {I : Im} {R : Heap} {l D b5 b4 b3 b2 bp : Nat} {ol oD o5 o4 o3 o2 op : Obj} (h : HH w I ((l, ol) :: (D, oD) :: (b5, o5) :: (b4, o4) :: (b3, o3) :: (b2, o2) :: (bp, op) :: R)) :
    HH w I ((b5, o5) :: (l, ol) :: (bp, op) :: (b4, o4) :: (b2, o2) :: (b3, o3) :: (D, oD) :: R) := HH.has
def CollSt (n : Nd) (bp b4 b2 b3 D : Nat) (o2 o3 : Obj) (m sv : Value) (R : Heap) (i : Nat) (_ : Im) (L0 : Heap) : Prop :=
  ∃ an cn En ac cc Ec ak ck Ek, L0 = (bp, progO an cn (collS (((walkN 0 n).take i).map (·.2)) ⟨[], [], []⟩).names ac cc (collS (((walkN 0 n).take i).map (·.2)) ⟨[], [], []⟩).consts m sv) ::
    (b4, .cells (List.toArray [.slice ak (collS (((walkN 0 n).take i).map (·.2)) ⟨[], [], []⟩).calls.length ck]) 28 (0, 0)) :: (b2, o2) :: (b3, o3) :: (D, .deferred (some [])) :: (En ++ (Ec ++ (Ek ++ R))) ∧
    SO 9 an cn 1 sEnc (collS (((walkN 0 n).take i).map (·.2)) ⟨[], [], []⟩).names En ∧ SO 54 ac cc 3 vEnc (collS (((walkN 0 n).take i).map (·.2)) ⟨[], [], []⟩).consts Ec ∧ SO 9 ak ck 1 sEnc (collS (((walkN 0 n).take i).map (·.2)) ⟨[], [], []⟩).calls Ek
theorem collectC {w : World} {I : Im} {R : Heap} {bp : Nat} {m sv : Value} {n : Nd} {a : Option Addr} {c : Nat} {K : KV} (hh : HH w I ((bp, progO none 0 [] none 0 [] m sv) :: R)) (kc : KidsC I a c n.kids) (hn : (walkN 0 n).length ≤ 100000000) (k : CollPost n bp m I R K) :
    XApp Tryz.prog 42 [.pointer (some ⟨bp, 0, none⟩), .agg (List.toArray [.int .i64 n.op, .string ⟨n.text.toArray⟩, .int .i64 n.num, .slice a n.kids.length c])] w K := by
  refine .of Tryz.func42 ?_
  repeat' (conv => whnf
           first
             | exact trivial
             | refine XStep.go ?_
             | refine XChk.mk (by first | omega | decide | (simp only [List.length_take, List.length_drop]; omega) | (simp only [List.length_append, List.length_cons, List.length_nil]; omega)) ?_
             | refine XBoth.mk ?_ ?_
             | (refine XCode.drawH (id := 7) #[.qui, .pur, .pur, .pur, .qui, .lou] (.one 3 (.one 0 (.one 1 (.one 2 (.one 4 (.one 5 .done)))))) mixed (by kernel_rfl) ?_)
             | (refine XCode.drawH (id := 12) #[.qui, .pur, .pur, .qui, .lou] (.one 0 (.one 1 (.one 2 (.one 3 (.one 4 .done))))) mixed (by kernel_rfl) ?_)
             | (refine XCode.drawH (id := 13) #[.qui, .qui, .lou, .pur, .pur, .lou] (.one 1 (.br 0 (.one 2 (.one 3 (.one 4 (.one 5 .done)))) (.br 2 (.one 0 (.one 3 (.one 4 (.one 5 .done)))) .non))) mixed (by kernel_rfl) ?_)
             | intro xx
             | (refine XBr.t (by omega) ?_)
             | (refine XBr.f (by omega) ?_)
             | refine XOpt.mk (fun x hc => ?_) (fun hc => ?_)
             | refine XRes.mk (fun x hc => ?_) (fun x hc => ?_)
             | refine XBr.mk (fun hc => ?_) (fun hc => ?_)
             | refine XIf.mk (fun hc => ?_) (fun hc => ?_))
  conv => whnf
  rename_i b2 _ _ b3 _ _ b4 _ _ b5 _ _ fn D l w9
  have hx := perm7 xx
  clear xx hh
  refine walkRange (F := [(b5, _)]) (CollSt n bp b4 b2 b3 D _ _ m sv R) hx ⟨List.mem_cons_self ..⟩ kc (by omega) ⟨_, _, [], _, _, [], _, _, [], rfl, SO.nil, SO.nil, SO.nil⟩ ?_ ?_
  · rintro ro i d n' a' c' w I' F L0 K hxi hle ⟨an, cn, En, ac, cc, Ec, ak, ck, Ek, rfl, s1, s2, s3⟩ hh kc kt
    have hlen := collS_len (((walkN 0 n).take i).map (·.2)) ⟨[], [], []⟩
    have htk : (((walkN 0 n).take i).map (·.2)).length ≤ 100000000 := by simp; omega
    simp only [List.length_nil, Nat.zero_add] at hlen
    have e1 : collS (((walkN 0 n).take (i + 1)).map (·.2)) ⟨[], [], []⟩ = collStep (collS (((walkN 0 n).take i).map (·.2)) ⟨[], [], []⟩) n' := by
      obtain ⟨hi, e⟩ := List.getElem?_eq_some_iff.1 hxi
      rw [List.take_succ_eq_append_getElem hi, List.map_append, List.map_cons, e]
      exact collS_snoc _ _ _
    unfold CollSt at kt
    rw [e1] at kt
    generalize collS (((walkN 0 n).take i).map (·.2)) ⟨[], [], []⟩ = s at *
    clear hx
    repeat' (conv => whnf
             first
               | exact trivial
               | refine XStep.go ?_
               | refine XChk.mk (by first | omega | decide | (simp only [List.length_take, List.length_drop]; omega) | (simp only [List.length_append, List.length_cons, List.length_nil]; omega)) ?_
               | refine XBoth.mk ?_ ?_
               | (refine XCode.drawH (id := 7) #[.qui, .pur, .pur, .pur, .qui, .lou] (.one 3 (.one 0 (.one 1 (.one 2 (.one 4 (.one 5 .done)))))) mixed (by kernel_rfl) ?_)
               | (refine XCode.drawH (id := 12) #[.qui, .pur, .pur, .qui, .lou] (.one 0 (.one 1 (.one 2 (.one 3 (.one 4 .done))))) mixed (by kernel_rfl) ?_)
               | (refine XCode.drawH (id := 13) #[.qui, .qui, .lou, .pur, .pur, .lou] (.one 1 (.br 0 (.one 2 (.one 3 (.one 4 (.one 5 .done)))) (.br 2 (.one 0 (.one 3 (.one 4 (.one 5 .done)))) .non))) mixed (by kernel_rfl) ?_)
               | intro xx
               | (refine XBr.t (by omega) ?_)
               | (refine XBr.f (by omega) ?_)
               | refine XOpt.mk (fun x hc => ?_) (fun hc => ?_)
               | refine XRes.mk (fun x hc => ?_) (fun x hc => ?_)
               | refine XBr.mk (fun hc => ?_) (fun hc => ?_)
               | refine XIf.mk (fun hc => ?_) (fun hc => ?_))
    all_goals conv => whnf
    · rw [coll_nc (.inl ‹_›) hc] at kt
      exact kt _ I' _ (.refl _) ⟨_, _, _, _, _, _, _, _, _, rfl, ‹SO _ _ _ 1 sEnc (placeL s.names n'.text) _›, ‹SO _ _ _ 3 vEnc (placeL s.consts _) _›, s3⟩ HH.has
    · rw [coll_n0 (.inl ‹_›) hc] at kt
      exact kt _ I' _ (.refl _) ⟨_, _, _, _, _, _, _, _, _, rfl, ‹SO _ _ _ 1 sEnc (placeL s.names n'.text) _›, s2, s3⟩ HH.has
    · rw [coll_nc (.inr ‹_›) hc] at kt
      exact kt _ I' _ (.refl _) ⟨_, _, _, _, _, _, _, _, _, rfl, ‹SO _ _ _ 1 sEnc (placeL s.names n'.text) _›, ‹SO _ _ _ 3 vEnc (placeL s.consts _) _›, s3⟩ HH.has
    · rw [coll_n0 (.inr ‹_›) hc] at kt
      exact kt _ I' _ (.refl _) ⟨_, _, _, _, _, _, _, _, _, rfl, ‹SO _ _ _ 1 sEnc (placeL s.names n'.text) _›, s2, s3⟩ HH.has
    · rw [coll_cc ‹_› ‹_› ‹_› hc] at kt
      exact kt _ I' _ (.refl _) ⟨_, _, _, _, _, _, _, _, _, rfl, s1, ‹SO _ _ _ 3 vEnc (placeL s.consts _) _›, ‹SO _ _ _ 1 sEnc (s.calls ++ [n'.text]) _›⟩ HH.has
    · rw [coll_c0 ‹_› ‹_› ‹_› hc] at kt
      exact kt _ I' _ (.refl _) ⟨_, _, _, _, _, _, _, _, _, rfl, s1, s2, ‹SO _ _ _ 1 sEnc (s.calls ++ [n'.text]) _›⟩ HH.has
    · rw [coll_0c ‹_› ‹_› ‹_› hc] at kt
      exact kt _ I' _ (.refl _) ⟨_, _, _, _, _, _, _, _, _, rfl, s1, ‹SO _ _ _ 3 vEnc (placeL s.consts _) _›, s3⟩ HH.has
    · rw [coll_00 ‹_› ‹_› ‹_› hc] at kt
      exact kt _ I' _ (.refl _) ⟨_, _, _, _, _, _, _, _, _, rfl, s1, s2, s3⟩ HH.has
  · rintro w' I' L0' hle ⟨an, cn, En, ac, cc, Ec, ak, ck, Ek, rfl, s1, s2, s3⟩ hh
    rw [List.take_length] at hh s1 s2 s3
    have hlen := collS_len ((walkN 0 n).map (·.2)) ⟨[], [], []⟩
    rw [List.length_map] at hlen
    simp only [List.length_nil, Nat.zero_add] at hlen
    have hk := k.go
    unfold collAll at hk
    generalize collS ((walkN 0 n).map (·.2)) ⟨[], [], []⟩ = s at *
    clear hx
    repeat' (conv => whnf
             first
               | exact trivial
               | refine XStep.go ?_
               | refine XChk.mk (by first | omega | decide | (simp only [List.length_take, List.length_drop]; omega) | (simp only [List.length_append, List.length_cons, List.length_nil]; omega)) ?_
               | refine XBoth.mk ?_ ?_
               | (refine XCode.drawH (id := 7) #[.qui, .pur, .pur, .pur, .qui, .lou] (.one 3 (.one 0 (.one 1 (.one 2 (.one 4 (.one 5 .done)))))) mixed (by kernel_rfl) ?_)
               | (refine XCode.drawH (id := 12) #[.qui, .pur, .pur, .qui, .lou] (.one 0 (.one 1 (.one 2 (.one 3 (.one 4 .done))))) mixed (by kernel_rfl) ?_)
               | (refine XCode.drawH (id := 13) #[.qui, .qui, .lou, .pur, .pur, .lou] (.one 1 (.br 0 (.one 2 (.one 3 (.one 4 (.one 5 .done)))) (.br 2 (.one 0 (.one 3 (.one 4 (.one 5 .done)))) .non))) mixed (by kernel_rfl) ?_)
               | intro xx
               | (refine XBr.t (by omega) ?_)
               | (refine XBr.f (by omega) ?_)
               | refine XOpt.mk (fun x hc => ?_) (fun hc => ?_)
               | refine XRes.mk (fun x hc => ?_) (fun x hc => ?_)
               | refine XBr.mk (fun hc => ?_) (fun hc => ?_)
               | refine XIf.mk (fun hc => ?_) (fun hc => ?_))
    all_goals conv => whnf
    all_goals exact hk _ _ _ _ _ _ _ _ _ (hle.trans ‹I'.Le _›) HH.has s1 s2 ‹_›
end Go.Proofs
