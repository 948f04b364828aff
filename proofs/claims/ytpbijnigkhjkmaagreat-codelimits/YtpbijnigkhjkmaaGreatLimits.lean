/- code: Handlers of no program; cordonlaw22.all; lives. -/
import Derived.Test.YtpbijnigkhjkmaaGreatCodeC
import Derived.Test.YtpbijnigkhjkmaaGreatXe
import Derived.Test.YtpbijnigkhjkmaaGreatTreeC
namespace Go.Proofs
open Go.X
set_option maxHeartbeats 2000000
set_option maxRecDepth 100000
set_option linter.unusedVariables false
set_option linter.unusedSimpArgs false

instance handlersN {w : World} {I : Im} {L : Heap} {p : Option Addr} {K : KV} [hh : HH w I L] :
    XStep (XApp Tryz.prog 10 [.pointer p] w K) (∀ w' b, HH w' I ((b, .cells (List.toArray [.pointer p]) 24 (0, 0)) :: L) → K (.func (.func 32) #[] #[.pointer (some ⟨b, 0, none⟩)]) w') := ⟨fun k => by
  refine .of Tryz.func10 ?_
  repeat' (conv => whnf
           first
             | exact trivial
             | refine XStep.go ?_
             | refine XChk.mk (by first | omega | decide | (simp only [List.length_take, List.length_drop]; omega) | (simp only [List.length_append, List.length_cons, List.length_nil]; omega)) ?_
             | refine XBoth.mk ?_ ?_
             | intro xx
             | (refine XBr.t (by omega) ?_)
             | (refine XBr.f (by omega) ?_)
             | refine XOpt.mk (fun x hc => ?_) (fun hc => ?_)
             | refine XRes.mk (fun x hc => ?_) (fun x hc => ?_)
             | refine XBr.mk (fun hc => ?_) (fun hc => ?_)
             | refine XIf.mk (fun hc => ?_) (fun hc => ?_))
  conv => whnf
  exact k _ _ HH.fin⟩
instance handlers1N {w : World} {I : Im} {L : Heap} {b : Nat} {y : Value} {K : KV} [hh : HH w I L] [o : X.Own L b (.cells (List.toArray [.pointer none]) 24 (0, 0))] :
    XStep (XApp Tryz.prog 32 [y, .pointer (some ⟨b, 0, none⟩)] w K) (∀ w', HH w' I L → K (.tuple #[]) w') := ⟨fun k => by
  refine .of Tryz.func32 ?_
  repeat' (conv => whnf
           first
             | exact trivial
             | refine XStep.go ?_
             | refine XChk.mk (by first | omega | decide | (simp only [List.length_take, List.length_drop]; omega) | (simp only [List.length_append, List.length_cons, List.length_nil]; omega)) ?_
             | refine XBoth.mk ?_ ?_
             | intro xx
             | (refine XBr.t (by omega) ?_)
             | (refine XBr.f (by omega) ?_)
             | refine XOpt.mk (fun x hc => ?_) (fun hc => ?_)
             | refine XRes.mk (fun x hc => ?_) (fun x hc => ?_)
             | refine XBr.mk (fun hc => ?_) (fun hc => ?_)
             | refine XIf.mk (fun hc => ?_) (fun hc => ?_))
  conv => whnf
  exact k _ HH.fin⟩
instance allN {w : World} {I : Im} {L R : Heap} {b : Nat} {K : KV} [hh : HH w I L] [o : Rem L b (.cells (List.toArray [.pointer none]) 24 (0, 0)) R] :
    XStep (XApp Tryz.prog 9 [.func (.func 32) #[] #[.pointer (some ⟨b, 0, none⟩)]] w K) (∀ w', HH w' I R → K (.tuple (List.toArray [.slice none 0 0, .slice none 0 0])) w') := ⟨fun k => by
  have hh' := hh.perm o.perm
  clear hh o
  refine .of Tryz.func9 ?_
  repeat' (conv => whnf
           first
             | exact trivial
             | refine XStep.go ?_
             | refine XChk.mk (by first | omega | decide | (simp only [List.length_take, List.length_drop]; omega) | (simp only [List.length_append, List.length_cons, List.length_nil]; omega)) ?_
             | refine XBoth.mk ?_ ?_
             | (refine XCode.drawH (id := 6) #[.qui, .pur, .lou, .lou, .qui, .qui, .lou, .lou, .lou, .lou] (.one 1 (.br 0 (.br 2 (.br 3 (.one 5 (.br 4 (.one 6 (.one 7 (.one 8 (.one 9 .done)))) (.br 6 (.one 4 (.one 7 (.one 8 (.one 9 .done)))) .non))) (.br 4 (.br 3 (.one 5 (.one 6 (.one 7 (.one 8 (.one 9 .done))))) (.br 5 (.br 3 (.one 6 (.one 7 (.one 8 (.one 9 .done)))) (.br 6 (.one 3 (.one 7 (.one 8 (.one 9 .done)))) .non)) .non)) (.br 5 (.br 3 (.br 4 (.one 6 (.one 7 (.one 8 (.one 9 .done)))) (.br 6 (.one 4 (.one 7 (.one 8 (.one 9 .done)))) .non)) (.br 4 (.br 3 (.one 6 (.one 7 (.one 8 (.one 9 .done)))) (.br 6 (.one 3 (.one 7 (.one 8 (.one 9 .done)))) .non)) (.br 6 (.br 3 (.one 4 (.one 7 (.one 8 (.one 9 .done)))) (.br 4 (.one 3 (.one 7 (.one 8 (.one 9 .done)))) .non)) .non))) .non))) (.br 4 (.br 2 (.br 3 (.one 5 (.one 6 (.one 7 (.one 8 (.one 9 .done))))) (.br 5 (.br 3 (.one 6 (.one 7 (.one 8 (.one 9 .done)))) (.br 6 (.one 3 (.one 7 (.one 8 (.one 9 .done)))) .non)) .non)) (.br 5 (.br 2 (.br 3 (.one 6 (.one 7 (.one 8 (.one 9 .done)))) (.br 6 (.one 3 (.one 7 (.one 8 (.one 9 .done)))) .non)) (.br 6 (.one 2 (.one 3 (.one 7 (.one 8 (.one 9 .done))))) .non)) .non)) (.br 5 (.br 2 (.br 3 (.br 4 (.one 6 (.one 7 (.one 8 (.one 9 .done)))) (.br 6 (.one 4 (.one 7 (.one 8 (.one 9 .done)))) .non)) (.br 4 (.br 3 (.one 6 (.one 7 (.one 8 (.one 9 .done)))) (.br 6 (.one 3 (.one 7 (.one 8 (.one 9 .done)))) .non)) (.br 6 (.br 3 (.one 4 (.one 7 (.one 8 (.one 9 .done)))) (.br 4 (.one 3 (.one 7 (.one 8 (.one 9 .done)))) .non)) .non))) (.br 4 (.br 2 (.br 3 (.one 6 (.one 7 (.one 8 (.one 9 .done)))) (.br 6 (.one 3 (.one 7 (.one 8 (.one 9 .done)))) .non)) (.br 6 (.one 2 (.one 3 (.one 7 (.one 8 (.one 9 .done))))) .non)) (.br 6 (.br 2 (.br 3 (.one 4 (.one 7 (.one 8 (.one 9 .done)))) (.br 4 (.one 3 (.one 7 (.one 8 (.one 9 .done)))) .non)) (.br 4 (.one 2 (.one 3 (.one 7 (.one 8 (.one 9 .done))))) .non)) .non))) .non))) (.br 2 (.br 0 (.br 3 (.one 5 (.br 4 (.one 6 (.one 7 (.one 8 (.one 9 .done)))) (.br 6 (.one 4 (.one 7 (.one 8 (.one 9 .done)))) .non))) (.br 4 (.br 3 (.one 5 (.one 6 (.one 7 (.one 8 (.one 9 .done))))) (.br 5 (.br 3 (.one 6 (.one 7 (.one 8 (.one 9 .done)))) (.br 6 (.one 3 (.one 7 (.one 8 (.one 9 .done)))) .non)) .non)) (.br 5 (.br 3 (.br 4 (.one 6 (.one 7 (.one 8 (.one 9 .done)))) (.br 6 (.one 4 (.one 7 (.one 8 (.one 9 .done)))) .non)) (.br 4 (.br 3 (.one 6 (.one 7 (.one 8 (.one 9 .done)))) (.br 6 (.one 3 (.one 7 (.one 8 (.one 9 .done)))) .non)) (.br 6 (.br 3 (.one 4 (.one 7 (.one 8 (.one 9 .done)))) (.br 4 (.one 3 (.one 7 (.one 8 (.one 9 .done)))) .non)) .non))) .non))) (.br 4 (.br 0 (.br 3 (.one 5 (.one 6 (.one 7 (.one 8 (.one 9 .done))))) (.br 5 (.br 3 (.one 6 (.one 7 (.one 8 (.one 9 .done)))) (.br 6 (.one 3 (.one 7 (.one 8 (.one 9 .done)))) .non)) .non)) (.br 5 (.br 0 (.br 3 (.one 6 (.one 7 (.one 8 (.one 9 .done)))) (.br 6 (.one 3 (.one 7 (.one 8 (.one 9 .done)))) .non)) (.br 6 (.one 0 (.one 3 (.one 7 (.one 8 (.one 9 .done))))) .non)) .non)) (.br 5 (.br 0 (.br 3 (.br 4 (.one 6 (.one 7 (.one 8 (.one 9 .done)))) (.br 6 (.one 4 (.one 7 (.one 8 (.one 9 .done)))) .non)) (.br 4 (.br 3 (.one 6 (.one 7 (.one 8 (.one 9 .done)))) (.br 6 (.one 3 (.one 7 (.one 8 (.one 9 .done)))) .non)) (.br 6 (.br 3 (.one 4 (.one 7 (.one 8 (.one 9 .done)))) (.br 4 (.one 3 (.one 7 (.one 8 (.one 9 .done)))) .non)) .non))) (.br 4 (.br 0 (.br 3 (.one 6 (.one 7 (.one 8 (.one 9 .done)))) (.br 6 (.one 3 (.one 7 (.one 8 (.one 9 .done)))) .non)) (.br 6 (.one 0 (.one 3 (.one 7 (.one 8 (.one 9 .done))))) .non)) (.br 6 (.one 0 (.br 3 (.one 4 (.one 7 (.one 8 (.one 9 .done)))) (.br 4 (.one 3 (.one 7 (.one 8 (.one 9 .done)))) .non))) .non))) .non))) (.br 4 (.br 0 (.br 2 (.br 3 (.one 5 (.one 6 (.one 7 (.one 8 (.one 9 .done))))) (.br 5 (.br 3 (.one 6 (.one 7 (.one 8 (.one 9 .done)))) (.br 6 (.one 3 (.one 7 (.one 8 (.one 9 .done)))) .non)) .non)) (.br 5 (.br 2 (.br 3 (.one 6 (.one 7 (.one 8 (.one 9 .done)))) (.br 6 (.one 3 (.one 7 (.one 8 (.one 9 .done)))) .non)) (.br 6 (.one 2 (.one 3 (.one 7 (.one 8 (.one 9 .done))))) .non)) .non)) (.br 2 (.br 0 (.br 3 (.one 5 (.one 6 (.one 7 (.one 8 (.one 9 .done))))) (.br 5 (.br 3 (.one 6 (.one 7 (.one 8 (.one 9 .done)))) (.br 6 (.one 3 (.one 7 (.one 8 (.one 9 .done)))) .non)) .non)) (.br 5 (.br 0 (.br 3 (.one 6 (.one 7 (.one 8 (.one 9 .done)))) (.br 6 (.one 3 (.one 7 (.one 8 (.one 9 .done)))) .non)) (.br 6 (.one 0 (.one 3 (.one 7 (.one 8 (.one 9 .done))))) .non)) .non)) (.br 5 (.br 0 (.br 2 (.br 3 (.one 6 (.one 7 (.one 8 (.one 9 .done)))) (.br 6 (.one 3 (.one 7 (.one 8 (.one 9 .done)))) .non)) (.br 6 (.one 2 (.one 3 (.one 7 (.one 8 (.one 9 .done))))) .non)) (.br 2 (.br 0 (.br 3 (.one 6 (.one 7 (.one 8 (.one 9 .done)))) (.br 6 (.one 3 (.one 7 (.one 8 (.one 9 .done)))) .non)) (.br 6 (.one 0 (.one 3 (.one 7 (.one 8 (.one 9 .done))))) .non)) (.br 6 (.br 0 (.one 2 (.one 3 (.one 7 (.one 8 (.one 9 .done))))) (.br 2 (.one 0 (.one 3 (.one 7 (.one 8 (.one 9 .done))))) .non)) .non))) .non))) (.br 5 (.br 0 (.br 2 (.br 3 (.br 4 (.one 6 (.one 7 (.one 8 (.one 9 .done)))) (.br 6 (.one 4 (.one 7 (.one 8 (.one 9 .done)))) .non)) (.br 4 (.br 3 (.one 6 (.one 7 (.one 8 (.one 9 .done)))) (.br 6 (.one 3 (.one 7 (.one 8 (.one 9 .done)))) .non)) (.br 6 (.br 3 (.one 4 (.one 7 (.one 8 (.one 9 .done)))) (.br 4 (.one 3 (.one 7 (.one 8 (.one 9 .done)))) .non)) .non))) (.br 4 (.br 2 (.br 3 (.one 6 (.one 7 (.one 8 (.one 9 .done)))) (.br 6 (.one 3 (.one 7 (.one 8 (.one 9 .done)))) .non)) (.br 6 (.one 2 (.one 3 (.one 7 (.one 8 (.one 9 .done))))) .non)) (.br 6 (.br 2 (.br 3 (.one 4 (.one 7 (.one 8 (.one 9 .done)))) (.br 4 (.one 3 (.one 7 (.one 8 (.one 9 .done)))) .non)) (.br 4 (.one 2 (.one 3 (.one 7 (.one 8 (.one 9 .done))))) .non)) .non))) (.br 2 (.br 0 (.br 3 (.br 4 (.one 6 (.one 7 (.one 8 (.one 9 .done)))) (.br 6 (.one 4 (.one 7 (.one 8 (.one 9 .done)))) .non)) (.br 4 (.br 3 (.one 6 (.one 7 (.one 8 (.one 9 .done)))) (.br 6 (.one 3 (.one 7 (.one 8 (.one 9 .done)))) .non)) (.br 6 (.br 3 (.one 4 (.one 7 (.one 8 (.one 9 .done)))) (.br 4 (.one 3 (.one 7 (.one 8 (.one 9 .done)))) .non)) .non))) (.br 4 (.br 0 (.br 3 (.one 6 (.one 7 (.one 8 (.one 9 .done)))) (.br 6 (.one 3 (.one 7 (.one 8 (.one 9 .done)))) .non)) (.br 6 (.one 0 (.one 3 (.one 7 (.one 8 (.one 9 .done))))) .non)) (.br 6 (.one 0 (.br 3 (.one 4 (.one 7 (.one 8 (.one 9 .done)))) (.br 4 (.one 3 (.one 7 (.one 8 (.one 9 .done)))) .non))) .non))) (.br 4 (.br 0 (.br 2 (.br 3 (.one 6 (.one 7 (.one 8 (.one 9 .done)))) (.br 6 (.one 3 (.one 7 (.one 8 (.one 9 .done)))) .non)) (.br 6 (.one 2 (.one 3 (.one 7 (.one 8 (.one 9 .done))))) .non)) (.br 2 (.br 0 (.br 3 (.one 6 (.one 7 (.one 8 (.one 9 .done)))) (.br 6 (.one 3 (.one 7 (.one 8 (.one 9 .done)))) .non)) (.br 6 (.one 0 (.one 3 (.one 7 (.one 8 (.one 9 .done))))) .non)) (.br 6 (.br 0 (.one 2 (.one 3 (.one 7 (.one 8 (.one 9 .done))))) (.br 2 (.one 0 (.one 3 (.one 7 (.one 8 (.one 9 .done))))) .non)) .non))) (.br 6 (.br 0 (.br 2 (.br 3 (.one 4 (.one 7 (.one 8 (.one 9 .done)))) (.br 4 (.one 3 (.one 7 (.one 8 (.one 9 .done)))) .non)) (.br 4 (.one 2 (.one 3 (.one 7 (.one 8 (.one 9 .done))))) .non)) (.br 2 (.one 0 (.br 3 (.one 4 (.one 7 (.one 8 (.one 9 .done)))) (.br 4 (.one 3 (.one 7 (.one 8 (.one 9 .done)))) .non))) (.br 4 (.br 0 (.one 2 (.one 3 (.one 7 (.one 8 (.one 9 .done))))) (.br 2 (.one 0 (.one 3 (.one 7 (.one 8 (.one 9 .done))))) .non)) .non))) .non)))) .non))))) mixed (by kernel_rfl) ?_)
             | (refine XCode.drawH (id := 7) #[.qui, .qui, .pur, .pur] (.one 0 (.one 2 (.one 1 (.one 3 .done)))) mixed (by kernel_rfl) ?_)
             | intro xx
             | (refine XBr.t (by omega) ?_)
             | (refine XBr.f (by omega) ?_)
             | refine XOpt.mk (fun x hc => ?_) (fun hc => ?_)
             | refine XRes.mk (fun x hc => ?_) (fun x hc => ?_)
             | refine XBr.mk (fun hc => ?_) (fun hc => ?_)
             | refine XIf.mk (fun hc => ?_) (fun hc => ?_))
  all_goals conv => whnf
  exact k _ HH.fin⟩
/-! the chapter's example -/
def livesT : Bs := [111, 110, 32, 97, 40, 120, 41, 123, 121, 61, 120, 59, 125]
def livesSg : List Sg := match signsF livesT with | .ok l => l | .error _ => []
def livesR : Nd × PS := match prun 60 (.script []) ⟨livesSg, 0, 0⟩ with | some r => r | none => (.zero, ⟨[], 0, 0⟩)
theorem lives_sg : signsF livesT = .ok livesSg := by kernel_rfl
theorem lives_n : prun 60 (.script []) ⟨livesSg, 0, 0⟩ = some (livesR.1, livesR.2) := by kernel_rfl
theorem lives_e : livesR.2.e = 0 := by kernel_rfl
theorem lives_p : ParseR livesT (.ok livesR.1) := by
  unfold ParseR
  rw [lives_sg]
  refine ⟨livesR.1, livesR.2, ⟨60, lives_n⟩, ?_⟩
  rw [if_neg (by simp [lives_e]), if_pos (by decide +kernel)]
def livesH : Hn := ⟨[0], [⟨0, 2, []⟩, ⟨2, 0, []⟩, ⟨3, 1, []⟩, ⟨10, 0, []⟩]⟩
def livesPG : PG := ([[120], [121]], [], [([97], livesH)])
theorem lives_c : compF livesR.1 = .ok livesPG := by kernel_rfl
theorem lives_of {r : Except Int PG} {cs : List Bs} (h : OfR livesT r cs) : r = .ok livesPG := by
  obtain ⟨q, h1, h2⟩ := h
  have e := h1.unique lives_p
  subst e
  exact h2.1.trans lives_c
instance livesC {w : World} {I : Im} {L : Heap} {K : KV} [hh : HH w I L] :
    XStep (XApp Tryz.prog 7 [] w K) (∀ w' I', I.Le I' → HH w' I' L → K (.bool true) w') := ⟨fun k => by
  refine .of Tryz.func7 ?_
  repeat' (conv => whnf
           first
             | exact trivial
             | refine XStep.go ?_
             | refine XChk.mk (by first | omega | decide | (simp only [List.length_take, List.length_drop]; omega) | (simp only [List.length_append, List.length_cons, List.length_nil]; omega)) ?_
             | refine XBoth.mk ?_ ?_
             | (refine XChk.mk (by decide) ?_)
             | (refine OfPost.mk (fun pg cs w1 I1 bp h1 h2 h3 h4 => ?_) (fun e cs w1 I1 h1 h2 h3 => absurd (lives_of h1) (by simp)))
             | intro xx
             | (refine XBr.t (by omega) ?_)
             | (refine XBr.f (by omega) ?_)
             | refine XOpt.mk (fun x hc => ?_) (fun hc => ?_)
             | refine XRes.mk (fun x hc => ?_) (fun x hc => ?_)
             | refine XBr.mk (fun hc => ?_) (fun hc => ?_)
             | refine XIf.mk (fun hc => ?_) (fun hc => ?_))
  have e := lives_of h1
  cases e
  clear h1 hh
  conv => whnf
  refine XChk.mk (by decide) (HandPost.mk (fun h w2 I2 x g1 g2 g3 g4 g5 => ?_) (fun w' I' x g => absurd g (by decide)))
  have e : h = livesH := by
    have : mget livesPG.2.2 [97] = some livesH := by decide
    exact (Option.some.inj (this.symm.trans g1)).symm
  subst e
  obtain ⟨h, ap, cp, al, cl⟩ := x
  dsimp only at g5
  subst g5
  have s1 : SlA I2 al 3 inEnc livesH.code := g4.l
  clear h3
  conv => whnf
  repeat' (conv => whnf
           first
             | exact trivial
             | refine XStep.go ?_
             | refine XChk.mk (by first | omega | decide | (simp only [List.length_take, List.length_drop]; omega) | (simp only [List.length_append, List.length_cons, List.length_nil]; omega)) ?_
             | refine XBoth.mk ?_ ?_
             | intro xx
             | (refine XBr.t (by omega) ?_)
             | (refine XBr.f (by omega) ?_)
             | refine XOpt.mk (fun x hc => ?_) (fun hc => ?_)
             | refine XRes.mk (fun x hc => ?_) (fun x hc => ?_)
             | refine XBr.mk (fun hc => ?_) (fun hc => ?_)
             | refine XIf.mk (fun hc => ?_) (fun hc => ?_))
  all_goals conv => whnf
  all_goals try obtain rfl : (⟨0, 2, []⟩ : In) = _ := Option.some.inj (‹At livesH.code 0 _›).eq
  all_goals try obtain rfl : (⟨3, 1, []⟩ : In) = _ := Option.some.inj (‹At livesH.code 2 _›).eq
  all_goals first
    | exact absurd rfl hc
    | exact k _ _ (by assumption) HH.fin
    | exact k _ I2 ((‹I.Le _›).trans (h2.trans g2)) HH.fin⟩
end Go.Proofs

/- CodeLimits walked. -/
namespace Go.Proofs
open Go.X
set_option maxHeartbeats 4000000
set_option maxRecDepth 100000
set_option linter.unusedVariables false
set_option linter.unusedSimpArgs false

/-- the text of so many variables and arguments -/
def varB (i : Nat) : Bs := [118, UInt8.ofNat (97 + i / 20), UInt8.ofNat (97 + i % 20), 61, 49, 59]
def varsB : Nat → Bs
  | 0 => [111, 110, 32, 97, 40, 41] ++ [123]
  | i + 1 => varsB i ++ varB i
def argsB (b : Bs) : Nat → Bs
  | 0 => b ++ [102, 40]
  | i + 1 => argsB b i ++ ((if 0 < i then [44] else []) ++ [49])
def limT (n m : Nat) : Bs := argsB (varsB n) m ++ [41, 59, 125]
theorem varsB_len (i : Nat) : (varsB i).length = 7 + 6 * i := by
  induction i with
  | zero => rfl
  | succ i ih => rw [varsB, List.length_append, ih]; simp [varB]; omega
theorem argsB_len (b : Bs) (i : Nat) : (argsB b i).length ≤ b.length + 2 + 2 * i := by
  induction i with
  | zero => simp [argsB]
  | succ i ih =>
    rw [argsB, List.length_append, List.length_append]
    split <;> simp <;> omega
def limW (n m : Nat) : Int := if 32 < n then 6 else if 128 < m then 9 else 0
theorem limC {w : World} {I : Im} {L : Heap} {a b : Int} {K : KV} [hh : HH w I L] (hpl : ∀ n m : Nat, n < 40 → m < 140 → ∀ r cs, OfR (limT n m) r cs → (match r with | .ok _ => (0 : Int) | .error e => e) = limW n m)
    (k : ∀ w' I', I.Le I' → HH w' I' L → K (.bool true) w') : XApp Tryz.prog 4 [.int .i64 a, .int .i64 b] w K := by
  obtain ⟨n, hn, hn2⟩ : ∃ n : Nat, a % 18446744073709551616 % 40 = n ∧ n < 40 := ⟨(a % 18446744073709551616 % 40).toNat, by omega, by omega⟩
  obtain ⟨m, hm, hm2⟩ : ∃ n : Nat, b % 18446744073709551616 % 140 = n ∧ n < 140 := ⟨(b % 18446744073709551616 % 140).toNat, by omega, by omega⟩
  refine .of Tryz.func4 ?_
  repeat' (conv => whnf
           first
             | exact trivial
             | refine XStep.go ?_
             | refine XChk.mk (by first | omega | decide | (simp only [List.length_take, List.length_drop]; omega) | (simp only [List.length_append, List.length_cons, List.length_nil]; omega)) ?_
             | refine XBoth.mk ?_ ?_
             | intro xx
             | (refine XBr.t (by omega) ?_)
             | (refine XBr.f (by omega) ?_)
             | refine XOpt.mk (fun x hc => ?_) (fun hc => ?_)
             | refine XRes.mk (fun x hc => ?_) (fun x hc => ?_)
             | refine XBr.mk (fun hc => ?_) (fun hc => ?_)
             | refine XIf.mk (fun hc => ?_) (fun hc => ?_))
  rename_i w1 I1 hl1
  have hh1 := xx
  clear xx
  rw [hn, hm]
  clear hh
  refine XCode.loopG (fun i : Nat => [some (.int .i64 n), some (.int .i64 m), none, none, some (.bool false), some (.string ⟨(varsB i).toArray⟩), none, none, none, none, none, none, none, none, none, none, none, none, none, none, none, none, none, none, none, none, some (.int .i64 n), some (.int .i64 i), none, none, none, none, none, none, none, none, none, none, none, none, none, none, none, none, none, none, none, none, none, none, none, none, none, none, none, none, none, none, none, none, none, none, none, none, none, none, none, none, none, none, none, none, none, none, none, none, none, none, none, none, none, none, none, none, none, none, none, none, none, none, none, none, none, none, none, none, none, none, none, none, none, none, none, none, none, none, none, none])
    (fun i w => (∃ L1, HH w I1 (L1 ++ L)) ∧ i ≤ n) (fun i => n - i) 0 ?_ ⟨⟨[], hh1⟩, by omega⟩ ?_
  · simp [fits, varsB]
  · rintro i w2 ⟨⟨L1, hh2⟩, hi⟩
    clear hh1
    have hvl := varsB_len i
    have t1 : (i : Int).tdiv 20 = i / 20 := Int.tdiv_eq_ediv_of_nonneg (by omega)
    have t2 : (i : Int).tmod 20 = i % 20 := Int.tmod_eq_emod_of_nonneg (by omega)
    repeat' (conv => whnf
             first
               | exact trivial
               | refine XStep.go ?_
               | refine XChk.mk (by first | omega | decide | (simp only [List.length_take, List.length_drop]; omega) | (simp only [List.length_append, List.length_cons, List.length_nil]; omega)) ?_
               | refine XBoth.mk ?_ ?_
               | ((refine XChk.mk (by rw [t1]; omega) ?_))
               | ((refine XChk.mk (by rw [t2]; omega) ?_))
               | ((refine XChk.mk ⟨⟨⟨by omega, by omega⟩, ⟨by omega, by omega⟩, trivial⟩, rfl⟩ ?_))
               | intro xx
               | (refine XBr.t (by omega) ?_)
               | (refine XBr.f (by omega) ?_)
               | refine XOpt.mk (fun x hc => ?_) (fun hc => ?_)
               | refine XRes.mk (fun x hc => ?_) (fun x hc => ?_)
               | refine XBr.mk (fun hc => ?_) (fun hc => ?_)
               | refine XIf.mk (fun hc => ?_) (fun hc => ?_))
    · conv => whnf
      refine ⟨i + 1, rfl, ?_, ⟨⟨_ :: L1, xx⟩, by omega⟩, by omega⟩
      have u1 : UInt8.ofNat (97 + (i : Int).tdiv 20).toNat = UInt8.ofNat (97 + i / 20) := by rw [t1]; congr 1
      have u2 : UInt8.ofNat (97 + (i : Int).tmod 20).toNat = UInt8.ofNat (97 + i % 20) := by rw [t2]; congr 1
      rw [u1, u2]
      simp [fits, varsB, varB]
    · have e0 : i = n := by omega
      subst e0
      refine XCode.loopG (fun j : Nat => [some (.int .i64 i), some (.int .i64 m), none, none, some (.bool false), some (.string ⟨(argsB (varsB i) j).toArray⟩), none, none, none, none, none, none, none, none, none, none, none, none, none, none, none, none, none, none, none, none, none, none, none, none, none, none, none, none, none, none, none, none, none, none, none, none, none, none, none, none, none, some (.int .i64 m), some (.int .i64 j), none, none, none, none, none, none, none, none, none, none, none, none, none, none, none, none, none, none, none, none, none, none, none, none, none, none, none, none, none, none, none, none, none, none, none, none, none, none, none, none, none, none, none, none, none, none, none, none, none, none, none, none, none, none, none, none, none, none, none])
        (fun j w => (∃ L1, HH w I1 (L1 ++ L)) ∧ j ≤ m) (fun j => m - j) 0 ?_ ⟨⟨L1, hh2⟩, by omega⟩ ?_
      · simp [fits, argsB]
      · rintro j w3 ⟨⟨L1, hh3⟩, hj⟩
        clear hh2
        have hal := argsB_len (varsB i) j
        repeat' (conv => whnf
                 first
                   | exact trivial
                   | refine XStep.go ?_
                   | refine XChk.mk (by first | omega | decide | (simp only [List.length_take, List.length_drop]; omega) | (simp only [List.length_append, List.length_cons, List.length_nil]; omega)) ?_
                   | refine XBoth.mk ?_ ?_
                   | intro xx
                   | (refine XBr.t (by omega) ?_)
                   | (refine XBr.f (by omega) ?_)
                   | refine XOpt.mk (fun x hc => ?_) (fun hc => ?_)
                   | refine XRes.mk (fun x hc => ?_) (fun x hc => ?_)
                   | refine XBr.mk (fun hc => ?_) (fun hc => ?_)
                   | refine XIf.mk (fun hc => ?_) (fun hc => ?_))
        all_goals conv => whnf
        · refine ⟨j + 1, rfl, ?_, ⟨⟨L1, hh3⟩, by omega⟩, by omega⟩
          have : 0 < j := by omega
          simp [fits, argsB, this]
        · refine ⟨j + 1, rfl, ?_, ⟨⟨L1, hh3⟩, by omega⟩, by omega⟩
          have : j = 0 := by omega
          simp [fits, argsB, this]
        · have e0 : j = m := by omega
          subst e0
          have hp := hpl i j (by omega) (by omega)
          have hle := ‹I1.Le _›
          have hle2 : (argsB (varsB i) j ++ [41, 59, 125]).length ≤ _ := ‹_›
          refine XChk.mk ⟨by simp only [List.length_append, List.length_cons, List.length_nil]; omega, hle2⟩ (OfPost.mk (fun pg cs w4 I4 bp h1 h2 h3 h4 => ?_) (fun e cs w4 I4 h1 h2 h3 => ?_))
          all_goals
            have hq := hp _ _ h1
            dsimp only at hq
            clear hp hpl hh3
            conv => whnf
          repeat' (conv => whnf
                   first
                     | exact trivial
                     | refine XStep.go ?_
                     | refine XChk.mk (by first | omega | decide | (simp only [List.length_take, List.length_drop]; omega) | (simp only [List.length_append, List.length_cons, List.length_nil]; omega)) ?_
                     | refine XBoth.mk ?_ ?_
                     | intro xx
                     | (refine XBr.t (by omega) ?_)
                     | (refine XBr.f (by omega) ?_)
                     | refine XOpt.mk (fun x hc => ?_) (fun hc => ?_)
                     | refine XRes.mk (fun x hc => ?_) (fun x hc => ?_)
                     | refine XBr.mk (fun hc => ?_) (fun hc => ?_)
                     | refine XIf.mk (fun hc => ?_) (fun hc => ?_))
          all_goals conv => whnf
          all_goals first
            | exact k _ I4 (hl1.trans (hle.trans h2)) HH.fin
            | (exfalso; unfold limW at hq; (repeat' split at hq) <;> omega)
end Go.Proofs

/- CodeLimits: what its texts are. -/
namespace Go.Proofs
open Go.X
set_option maxHeartbeats 1000000
set_option linter.unusedVariables false
set_option linter.unusedSimpArgs false

def vname (i : Nat) : Bs := [118, UInt8.ofNat (97 + i / 20), UInt8.ofNat (97 + i % 20)]
def vtok (i : Nat) : List K3 := [(1, vname i, 0), (5, [61], 0), (3, [], 1), (5, [59], 0)]
def asg (i : Nat) : Nd := .mk 3 (vname i) 0 [oneN]
def restB (m : Nat) : Bs := (List.replicate m [44, 49]).flatten
def restK (m : Nat) : List K3 := (List.replicate m [(5, [44], 0), (3, [], 1)]).flatten
def argT : Nat → Bs
  | 0 => []
  | m + 1 => 49 :: restB m
def argK : Nat → List K3
  | 0 => []
  | m + 1 => (3, [], 1) :: restK m
theorem restB_succ (m : Nat) : restB (m + 1) = 44 :: 49 :: restB m := by simp [restB, List.replicate_succ]
theorem restK_succ (m : Nat) : restK (m + 1) = (5, [44], 0) :: (3, [], 1) :: restK m := by simp [restK, List.replicate_succ]
theorem restB_snoc (m : Nat) : restB (m + 1) = restB m ++ [44, 49] := by simp [restB, List.replicate_succ']
theorem restK_len (m : Nat) : (restK m).length = 2 * m := by
  induction m with
  | zero => rfl
  | succ m ih => rw [restK_succ, List.length_cons, List.length_cons, ih]; omega
theorem argsB_eq (b : Bs) (m : Nat) : argsB b m = b ++ ([102, 40] ++ argT m) := by
  induction m with
  | zero => rfl
  | succ m ih =>
    rw [argsB, ih]
    cases m with
    | zero => simp [argT, restB]
    | succ m =>
      rw [if_pos (by omega), argT, argT, restB_snoc]
      simp
theorem varsB_eq (n : Nat) : varsB n = [111, 110, 32, 97, 40, 41, 123] ++ (List.range n).flatMap varB := by
  induction n with
  | zero => rfl
  | succ n ih => rw [varsB, ih, List.range_succ, List.flatMap_append]; simp
theorem lexVar {i : Nat} (hi : i < 40) {u : Bs} {ks : List K3} (hu : emF u = 0) (h : LexK u ks) : LexK (varB i ++ u) (vtok i ++ ks) := by
  have hl : ∀ j, j < 20 → isLetter (UInt8.ofNat (97 + j)) = true := by decide
  have hx := hl (i / 20) (by omega)
  have hy := hl (i % 20) (by omega)
  refine LexK.cons (g := ⟨1, vname i, 0, 0⟩) (k := 3) (e := 0) ?_ (by decide) rfl (by simp [varB]) ?_
  · show signF (118 :: UInt8.ofNat (97 + i / 20) :: UInt8.ofNat (97 + i % 20) :: 61 :: 49 :: 59 :: u) = _
    unfold vname
    generalize UInt8.ofNat (97 + i / 20) = x at *
    generalize UInt8.ofNat (97 + i % 20) = y at *
    have h1 : isLetter 118 = true := by decide
    have h2 : (isLetter 61 || isDigit 61) = false := by decide
    rw [signF, if_pos h1, nameF]
    simp only [List.takeWhile_cons, h1, hx, hy, h2, Bool.true_or, if_true]
    simp [wordList]
  · show LexK (61 :: 49 :: 59 :: u) _
    exact .mark 61 (by kernel_rfl) (by kernel_rfl) (.one (by decide) (by kernel_rfl) (.mark 59 (by kernel_rfl) hu h))
theorem lexVars : ∀ (L : List Nat), (∀ i ∈ L, i < 40) → ∀ {u : Bs} {ks : List K3}, emF u = 0 → LexK u ks → LexK (L.flatMap varB ++ u) (L.flatMap vtok ++ ks) ∧ emF (L.flatMap varB ++ u) = 0
  | [], _, u, ks, hu, h => ⟨h, hu⟩
  | i :: L, hL, u, ks, hu, h => by
    obtain ⟨h1, h2⟩ := lexVars L (fun j hj => hL j (by simp [hj])) hu h
    rw [List.flatMap_cons, List.flatMap_cons, List.append_assoc, List.append_assoc]
    exact ⟨lexVar (hL i (by simp)) h2 h1, by kernel_rfl⟩
theorem lexRest : ∀ (m : Nat) {u : Bs} {ks : List K3}, LexK (41 :: u) ks → LexK (49 :: (restB m ++ 41 :: u)) ((3, [], 1) :: (restK m ++ ks))
  | 0, u, ks, h => .one (by decide) (by kernel_rfl) h
  | m + 1, u, ks, h => by
    rw [restB_succ, restK_succ]
    exact .one (by decide) (by kernel_rfl) (.mark 44 (by kernel_rfl) (by kernel_rfl) (lexRest m h))
theorem lexArgs (m : Nat) {u : Bs} {ks : List K3} (h : LexK (41 :: u) ks) : LexK (argT m ++ 41 :: u) (argK m ++ ks) ∧ emF (argT m ++ 41 :: u) = 0 := by
  cases m with
  | zero => exact ⟨h, by kernel_rfl⟩
  | succ m => exact ⟨lexRest m h, by kernel_rfl⟩
def limK (n m : Nat) : List K3 := (2, [111, 110], 0) :: (1, [97], 0) :: (5, [40], 0) :: (5, [41], 0) :: (5, [123], 0) :: ((List.range n).flatMap vtok ++ ((1, [102], 0) :: (5, [40], 0) :: (argK m ++ [(5, [41], 0), (5, [59], 0), (5, [125], 0), (0, [], 0)])))
theorem limT_eq (n m : Nat) : limT n m = 111 :: 110 :: 32 :: 97 :: 40 :: 41 :: 123 :: ((List.range n).flatMap varB ++ (102 :: 40 :: (argT m ++ [41, 59, 125]))) := by
  rw [limT, argsB_eq, varsB_eq]
  simp
theorem limLex {n m : Nat} (hn : n < 40) (hm : m < 140) : ∃ l, signsF (limT n m) = .ok l ∧ l.map st = limK n m := by
  have h0 : LexK [41, 59, 125] [(5, [41], 0), (5, [59], 0), (5, [125], 0), (0, [], 0)] := .mark 41 (by kernel_rfl) (by kernel_rfl) (.mark 59 (by kernel_rfl) (by kernel_rfl) (.mark 125 (by kernel_rfl) (by kernel_rfl) .nil))
  obtain ⟨h1, h2⟩ := lexArgs m h0
  have h3 : LexK (102 :: 40 :: (argT m ++ [41, 59, 125])) ((1, [102], 0) :: (5, [40], 0) :: (argK m ++ [(5, [41], 0), (5, [59], 0), (5, [125], 0), (0, [], 0)])) :=
    .cons (g := ⟨1, [102], 0, 0⟩) (k := 1) (e := 0) (by kernel_rfl) (by decide) (by kernel_rfl) (by simp) (.mark 40 (by kernel_rfl) h2 h1)
  obtain ⟨h4, h5⟩ := lexVars (List.range n) (fun i hi => by have := List.mem_range.1 hi; omega) (by kernel_rfl) h3
  refine LexK.all ?_ ?_ ?_ ?_
  · rw [limT_eq]
    show LexK (111 :: 110 :: 32 :: 97 :: 40 :: 41 :: 123 :: ((List.range n).flatMap varB ++ (102 :: 40 :: (argT m ++ [41, 59, 125])))) _
    refine .cons (g := ⟨2, [111, 110], 0, 0⟩) (k := 2) (e := 1) (by kernel_rfl) (by decide) (by kernel_rfl) (by simp) ?_
    refine .cons (g := ⟨1, [97], 0, 0⟩) (k := 1) (e := 0) (by kernel_rfl) (by decide) (by kernel_rfl) (by simp) ?_
    exact .mark 40 (by kernel_rfl) (by kernel_rfl) (.mark 41 (by kernel_rfl) (by kernel_rfl) (.mark 123 (by kernel_rfl) h5 h4))
  · rw [limT_eq]; exact Nat.zero_le _
  · have := argsB_len (varsB n) m
    have := varsB_len n
    rw [limT, List.length_append]
    simp only [List.length_cons, List.length_nil]
    omega
  · have e : ((List.range n).flatMap vtok).length = 4 * n := by
      clear hn h3 h4 h5
      induction n with
      | zero => rfl
      | succ n ih => rw [List.range_succ, List.flatMap_append, List.length_append, ih]; simp [vtok]; omega
    have e2 : (argK m).length ≤ 2 * m := by
      cases m with
      | zero => simp [argK]
      | succ m => rw [argK, List.length_cons, restK_len]; omega
    simp only [limK, List.length_cons, List.length_append, List.length_nil, e]
    omega
/-! what is read of it -/
theorem st_eq {g : Sg} {k : Int} {t : Bs} {n : Int} (h : st g = (k, t, n)) : ∃ p, g = ⟨k, t, n, p⟩ := by
  obtain ⟨k', t', n', p⟩ := g
  cases h
  exact ⟨p, rfl⟩
theorem tok {l : List Sg} {k : Int} {t : Bs} {n : Int} {ks : List K3} (h : l.map st = (k, t, n) :: ks) : ∃ p r, l = ⟨k, t, n, p⟩ :: r ∧ r.map st = ks := by
  obtain ⟨g, r, rfl, h1, h2⟩ := map_cons h
  obtain ⟨p, rfl⟩ := st_eq h1
  exact ⟨p, r, rfl, h2⟩
theorem prVar (i : Nat) (p1 p2 p3 p4 : Int) (r : List Sg) : PR .stmt ⟨⟨1, vname i, 0, p1⟩ :: ⟨5, [61], 0, p2⟩ :: ⟨3, [], 1, p3⟩ :: ⟨5, [59], 0, p4⟩ :: r, 1, 0⟩ (asg i) ⟨r, 1, 0⟩ := by
  have e1 : mustS [61] (nameS ⟨⟨1, vname i, 0, p1⟩ :: ⟨5, [61], 0, p2⟩ :: ⟨3, [], 1, p3⟩ :: ⟨5, [59], 0, p4⟩ :: r, 1, 0⟩).2 = ⟨⟨3, [], 1, p3⟩ :: ⟨5, [59], 0, p4⟩ :: r, 1, 0⟩ := by kernel_rfl
  have h := PR.stmtS (s := ⟨⟨1, vname i, 0, p1⟩ :: ⟨5, [61], 0, p2⟩ :: ⟨3, [], 1, p3⟩ :: ⟨5, [59], 0, p4⟩ :: r, 1, 0⟩) (by kernel_rfl) (by kernel_rfl) (by kernel_rfl) ⟨rfl, _, rfl, rfl, rfl⟩ (by rw [e1]; exact prOne (.inr (.inr rfl)))
  have e2 : mustS [59] ⟨⟨5, [59], 0, p4⟩ :: r, 1, 0⟩ = ⟨r, 1, 0⟩ := by kernel_rfl
  rw [e2] at h
  exact h
theorem prVars : ∀ (L : List Nat) {out : List Nd} {l : List Sg} {ks : List K3}, l.map st = L.flatMap vtok ++ ks → ∃ l', l'.map st = ks ∧ ∀ n s', PR (.stmts (out ++ L.map asg)) ⟨l', 1, 0⟩ n s' → PR (.stmts out) ⟨l, 1, 0⟩ n s'
  | [], out, l, ks, h => ⟨l, h, fun n s' h => by simpa using h⟩
  | i :: L, out, l, ks, h => by
    rw [List.flatMap_cons, List.append_assoc] at h
    obtain ⟨p1, l, rfl, hq1⟩ := tok (h : l.map st = (1, vname i, 0) :: (5, [61], 0) :: (3, [], 1) :: (5, [59], 0) :: (L.flatMap vtok ++ ks))
    obtain ⟨p2, l, rfl, hq2⟩ := tok hq1
    obtain ⟨p3, l, rfl, hq3⟩ := tok hq2
    obtain ⟨p4, l, rfl, hq4⟩ := tok hq3
    obtain ⟨l', h1, h2⟩ := prVars L (out := out ++ [asg i]) hq4
    refine ⟨l', h1, fun n s' hp => PR.stmts1 rfl (by kernel_rfl) (prVar i p1 p2 p3 p4 l) (h2 n s' ?_)⟩
    rw [List.append_assoc]; exact hp
theorem prEl {c : Bs} {p p' : Int} {r : List Sg} {q : Int} (hc : c = [44] ∨ c = [41] ∨ c = [59]) : PR (.deep (.level 0)) ⟨⟨3, [], 1, p⟩ :: ⟨5, c, q, p'⟩ :: r, 1, 0⟩ oneN ⟨⟨5, c, q, p'⟩ :: r, 1, 0⟩ :=
  PR.deep (s := ⟨⟨3, [], 1, p⟩ :: ⟨5, c, q, p'⟩ :: r, 1, 0⟩) rfl (by show (1 : Nat) < 16; decide) (prOne (d := 2) hc)
theorem prRest : ∀ (m : Nat) {out : List Nd} {l : List Sg} {ks : List K3}, l.map st = (3, [], 1) :: (restK m ++ (5, [41], 0) :: ks) → ∃ l', l'.map st = ks ∧ PR (.args (.deep (.level 0)) out) ⟨l, 1, 0⟩ (.mk 0 [] 0 (out ++ List.replicate (m + 1) oneN)) ⟨l', 1, 0⟩
  | 0, out, l, ks, h => by
    obtain ⟨p1, l, rfl, hq1⟩ := tok h
    obtain ⟨p2, l, rfl, hq2⟩ := tok (hq1 : l.map st = (5, [41], 0) :: ks)
    exact ⟨l, hq2, PR.args0 rfl (prEl (.inr (.inl rfl))) (by kernel_rfl)⟩
  | m + 1, out, l, ks, h => by
    rw [restK_succ] at h
    obtain ⟨p1, l, rfl, hq1⟩ := tok h
    obtain ⟨p2, l, rfl, hq2⟩ := tok (hq1 : l.map st = (5, [44], 0) :: (3, [], 1) :: (restK m ++ (5, [41], 0) :: ks))
    obtain ⟨l', h1, h2⟩ := prRest m (out := out ++ [oneN]) hq2
    refine ⟨l', h1, PR.args1 rfl (prEl (.inl rfl)) (by kernel_rfl) ?_⟩
    have e : mustS [44] ⟨⟨5, [44], 0, p2⟩ :: l, 1, 0⟩ = ⟨l, 1, 0⟩ := by kernel_rfl
    rw [e]
    rw [List.append_assoc, List.singleton_append, ← List.replicate_succ] at h2
    exact h2
theorem prArgs (m : Nat) {l : List Sg} {ks : List K3} (h : l.map st = argK m ++ (5, [41], 0) :: ks) : ∃ l' n, l'.map st = ks ∧ PR (.list (.deep (.level 0))) ⟨l, 1, 0⟩ n ⟨l', 1, 0⟩ ∧ n.kids = List.replicate m oneN := by
  cases m with
  | zero =>
    obtain ⟨p, l, rfl, hq1⟩ := tok (h : l.map st = (5, [41], 0) :: ks)
    exact ⟨l, .zero, hq1, PR.list0 (by kernel_rfl), rfl⟩
  | succ m =>
    have h' : l.map st = (3, [], 1) :: (restK m ++ (5, [41], 0) :: ks) := h
    obtain ⟨l', h1, h2⟩ := prRest m (out := []) h'
    obtain ⟨p, l, rfl, hq1⟩ := tok h'
    exact ⟨l', _, h1, PR.list1 (by kernel_rfl) h2, rfl⟩
def callN (m : Nat) : Nd := .mk 12 [102] 0 (List.replicate m oneN)
def bodyN (n m : Nat) : Nd := .mk 2 [] 0 ((List.range n).map asg ++ [.mk 4 [] 0 [callN m]])
def handN (n m : Nat) : Nd := .mk 1 [97] 0 [bodyN n m]
def limN (n m : Nat) : Nd := .mk 0 [] 0 [handN n m]
theorem limPR {n m : Nat} {l : List Sg} (h : l.map st = limK n m) : ∃ s, PR (.script []) ⟨l, 0, 0⟩ (limN n m) s ∧ s.e = 0 := by
  obtain ⟨p1, l, rfl, hq1⟩ := tok h
  obtain ⟨p2, l, rfl, hq2⟩ := tok hq1
  obtain ⟨p3, l, rfl, hq3⟩ := tok hq2
  obtain ⟨p4, l, rfl, hq4⟩ := tok hq3
  obtain ⟨p5, l, rfl, hq5⟩ := tok hq4
  obtain ⟨l1, h1, hv⟩ := prVars (List.range n) (out := []) hq5
  obtain ⟨p6, l1, rfl, h1q6⟩ := tok h1
  obtain ⟨p7, l1, rfl, h1q7⟩ := tok h1q6
  obtain ⟨l2, a, h2, ha, hk⟩ := prArgs m (ks := [(5, [59], 0), (5, [125], 0), (0, [], 0)]) h1q7
  obtain ⟨p8, l2, rfl, h2q8⟩ := tok h2
  obtain ⟨p9, l2, rfl, h2q9⟩ := tok h2q8
  obtain ⟨p10, l2, rfl, h2q10⟩ := tok h2q9
  -- the call
  have c1 : PR .primary ⟨⟨1, [102], 0, p6⟩ :: ⟨5, [40], 0, p7⟩ :: l1, 1, 0⟩ (callN m) ⟨⟨5, [59], 0, p8⟩ :: ⟨5, [125], 0, p9⟩ :: ⟨0, [], 0, p10⟩ :: l2, 1, 0⟩ := by
    have := PR.call (s := ⟨⟨1, [102], 0, p6⟩ :: ⟨5, [40], 0, p7⟩ :: l1, 1, 0⟩) (by kernel_rfl) (by kernel_rfl) (by kernel_rfl) (by kernel_rfl) (by kernel_rfl) ha
    rw [hk] at this
    exact this
  have c2 : PR (.level 0) ⟨⟨1, [102], 0, p6⟩ :: ⟨5, [40], 0, p7⟩ :: l1, 1, 0⟩ (callN m) ⟨⟨5, [59], 0, p8⟩ :: ⟨5, [125], 0, p9⟩ :: ⟨0, [], 0, p10⟩ :: l2, 1, 0⟩ := by
    refine PR.prim c1 (by kernel_rfl) (by kernel_rfl) fun i hi => ?_
    have h5 : i = 0 ∨ i = 1 ∨ i = 2 ∨ i = 3 ∨ i = 4 := by omega
    rcases h5 with rfl | rfl | rfl | rfl | rfl <;> exact (by kernel_rfl : opS _ _ = none)
  have c3 := PR.stmtE (by kernel_rfl) (by kernel_rfl) (by kernel_rfl) (by rintro ⟨_, g, hg, _, ht⟩; cases hg; exact absurd ht (by show ¬ ([40] : Bs) = [61]; decide)) c2
  have e3 : mustS [59] ⟨⟨5, [59], 0, p8⟩ :: ⟨5, [125], 0, p9⟩ :: ⟨0, [], 0, p10⟩ :: l2, 1, 0⟩ = ⟨⟨5, [125], 0, p9⟩ :: ⟨0, [], 0, p10⟩ :: l2, 1, 0⟩ := by kernel_rfl
  rw [e3] at c3
  have c4 := PR.stmts1 (out := [] ++ (List.range n).map asg) rfl (by kernel_rfl) c3 (PR.stmts0 rfl (by kernel_rfl))
  have c5 := hv _ _ c4
  have c6 : PR .block ⟨⟨5, [123], 0, p5⟩ :: l, 0, 0⟩ (bodyN n m) ⟨⟨0, [], 0, p10⟩ :: l2, 0, 0⟩ := by
    refine PR.block ?_
    have e : mustS [123] ⟨⟨5, [123], 0, p5⟩ :: l, 0, 0⟩ = ⟨l, 0, 0⟩ := by kernel_rfl
    rw [e]
    exact PR.deep (s := ⟨l, 0, 0⟩) rfl (by show (0 : Nat) < 16; decide) c5
  have e7 : mustS [40] (nameS (mustS [111, 110] ⟨⟨2, [111, 110], 0, p1⟩ :: ⟨1, [97], 0, p2⟩ :: ⟨5, [40], 0, p3⟩ :: ⟨5, [41], 0, p4⟩ :: ⟨5, [123], 0, p5⟩ :: l, 0, 0⟩)).2 = ⟨⟨5, [41], 0, p4⟩ :: ⟨5, [123], 0, p5⟩ :: l, 0, 0⟩ := by kernel_rfl
  refine ⟨⟨⟨0, [], 0, p10⟩ :: l2, 0, 0⟩, PR.scr1 rfl (by simp [PS.hd]) (by rw [e7]; exact PR.list0 (by kernel_rfl)) c6 (PR.scr0 rfl), rfl⟩
theorem limParse {n m : Nat} (hn : n < 40) (hm : m < 140) : ParseR (limT n m) (.ok (limN n m)) := by
  obtain ⟨l, h1, h2⟩ := limLex hn hm
  obtain ⟨s, h3, h4⟩ := limPR h2
  unfold ParseR
  rw [h1]
  refine ⟨limN n m, s, h3, ?_⟩
  rw [if_neg (by simp [h4]), if_pos (by simp [limN, Nd.kids])]
/-! what is made of it -/
theorem szs_app (l r : List Nd) : szs (l ++ r) = szs l + szs r := by
  induction l with
  | nil => simp [szs]
  | cons x l ih => simp only [List.cons_append, szs, ih]; omega
theorem szs_one (m : Nat) : szs (List.replicate m oneN) = m := by
  induction m with
  | zero => rfl
  | succ m ih => rw [List.replicate_succ, szs, ih, oneN, sz, szs]; omega
theorem szs_asg (n : Nat) : szs ((List.range n).map asg) = 2 * n := by
  induction n with
  | zero => rfl
  | succ n ih => rw [List.range_succ, List.map_append, szs_app, ih]; simp only [List.map_cons, List.map_nil, szs, asg, sz, oneN]; omega
theorem sz_body (n m : Nat) : sz (bodyN n m) = 2 * n + m + 3 := by
  rw [bodyN, sz, szs_app, szs_asg]
  simp only [szs, sz, callN, szs_one]; omega
theorem sz_lim (n m : Nat) : sz (limN n m) = 2 * n + m + 5 := by
  rw [limN, sz, szs, handN, sz, szs, szs, szs, sz_body]; omega
theorem vname_inj {i j : Nat} (hi : i < 40) (hj : j < 40) (h : vname i = vname j) : i = j := by
  have key : ∀ i < 2, ∀ j < 2, UInt8.ofNat (97 + i) = UInt8.ofNat (97 + j) → i = j := by decide
  have key2 : ∀ i < 20, ∀ j < 20, UInt8.ofNat (97 + i) = UInt8.ofNat (97 + j) → i = j := by decide
  unfold vname at h
  simp only [List.cons.injEq, true_and, and_true] at h
  have h1 := key _ (by omega) _ (by omega) h.1
  have h2 := key2 _ (by omega) _ (by omega) h.2
  omega
theorem walkNs_app (d : Int) (l r : List Nd) : walkNs d (l ++ r) = walkNs d l ++ walkNs d r := by
  induction l with
  | nil => rw [walkNs]; rfl
  | cons x l ih => rw [List.cons_append, walkNs, walkNs, ih, List.append_assoc]
theorem collS_app (l r : List Nd) (s : CL) : collS (l ++ r) s = collS r (collS l s) := by simp [collS]
/-- what tells no name -/
theorem collS_names {l : List Nd} (h : ∀ x ∈ l, ¬ (x.op = 11 ∨ x.op = 3)) (s : CL) : (collS l s).names = s.names := by
  induction l generalizing s with
  | nil => rfl
  | cons x l ih =>
    have e : collS (x :: l) s = collS l (collStep s x) := rfl
    rw [e, ih fun y hy => h y (by simp [hy])]
    unfold collStep
    rw [if_neg (h x (by simp))]
    dsimp only
    split <;> split <;> rfl
theorem walk_asg (d : Int) (n : Nat) : (walkNs d ((List.range (n + 1)).map asg)).map (·.2) = (walkNs d ((List.range n).map asg)).map (·.2) ++ [asg n, oneN] := by
  rw [List.range_succ, List.map_append, walkNs_app, List.map_append]
  congr 1
theorem walk_ones (d : Int) (m : Nat) : (walkNs d (List.replicate m oneN)).map (·.2) = List.replicate m oneN := by
  induction m with
  | zero => rfl
  | succ m ih => rw [List.replicate_succ, walkNs, List.map_append, ih]; rfl
theorem names_asg (d : Int) : ∀ (n : Nat), n ≤ 40 → ∀ (s : CL), s.names = [] → (collS ((walkNs d ((List.range n).map asg)).map (·.2)) s).names = (List.range n).map vname
  | 0, _, s, h => h
  | n + 1, hn, s, h => by
    rw [walk_asg, collS_app, List.range_succ, List.map_append]
    have ih := names_asg d n (by omega) s h
    have e : collS [asg n, oneN] (collS ((walkNs d ((List.range n).map asg)).map (·.2)) s) = collS [oneN] (collStep (collS ((walkNs d ((List.range n).map asg)).map (·.2)) s) (asg n)) := rfl
    rw [e, collS_names (by simp [oneN, Nd.op])]
    rw [coll_n0 (.inr rfl) (by simp [asg, Nd.op, constF])]
    show placeL _ (vname n) = _
    rw [ih]
    unfold placeL
    rw [if_neg]
    · rfl
    · intro hm
      obtain ⟨i, hi, e⟩ := List.mem_map.1 hm
      have := List.mem_range.1 hi
      have := vname_inj (by omega) (by omega) e
      omega
theorem lim_names {n m : Nat} (hn : n ≤ 40) : (collAll (limN n m)).names = (List.range n).map vname := by
  have e : (walkN 0 (limN n m)).map (·.2) = [limN n m, handN n m, bodyN n m] ++ ((walkNs 3 ((List.range n).map asg)).map (·.2) ++ ([.mk 4 [] 0 [callN m], callN m] ++ List.replicate m oneN)) := by
    rw [limN, walkN, walkNs, walkNs, handN, walkN, walkNs, walkNs, bodyN, walkN, walkNs_app, walkNs, walkNs, walkN, walkNs, walkNs, callN, walkN]
    simp [walk_ones]
  unfold collAll
  rw [e, collS_app, collS_app, collS_names]
  · refine names_asg 3 n hn _ ?_
    rw [collS_names (by simp [limN, handN, bodyN, Nd.op])]
  · intro x hx
    rcases List.mem_append.1 hx with hx | hx
    · simp only [List.mem_cons, List.not_mem_nil, or_false] at hx
      rcases hx with rfl | rfl <;> simp [callN, Nd.op]
    · rw [(List.mem_replicate.1 hx).2]; simp [oneN, Nd.op]
theorem dm_one (s : CS) (h : s.depth ≤ s.most) : (exprS oneN s).depth = s.depth + 1 ∧ (exprS oneN s).most = max s.most (s.depth + 1) := by
  rw [oneN, exprS, exprsS]
  have e : ∀ t, exprEnd (.mk 8 [] 1 []) t = putS 1 (placeI t.consts (constF 8 [] 1).1 : Nat) [] 1 (constP (constF 8 [] 1).1 t) := fun t => rfl
  rw [e]
  refine ⟨?_, ?_⟩
  · show s.depth + 0 + 1 = _; omega
  · show max (max s.most (s.depth + 0)) (s.depth + 0 + 1) = _; omega
theorem dm_asg (i : Nat) (s : CS) (h : s.depth ≤ s.most) : (stmtS (asg i) s).depth = s.depth ∧ (stmtS (asg i) s).most = max s.most (s.depth + 1) := by
  rw [asg, stmtS, if_pos rfl]
  obtain ⟨h1, h2⟩ := dm_one (headS 3 s) (by show s.depth + 0 ≤ max s.most (s.depth + 0); omega)
  have e1 : (headS 3 s).depth = s.depth + 0 := rfl
  have e2 : (headS 3 s).most = max s.most (s.depth + 0) := rfl
  rw [e1] at h1
  rw [e1, e2] at h2
  refine ⟨?_, ?_⟩
  · show (exprS oneN (headS 3 s)).depth + -1 = _; omega
  · show max (exprS oneN (headS 3 s)).most ((exprS oneN (headS 3 s)).depth + -1) = _; omega
theorem dm_asgs : ∀ (n : Nat) (s : CS), s.depth = 0 → s.most = 0 → (stmtsS ((List.range n).map asg) s).depth = 0 ∧ 0 ≤ (stmtsS ((List.range n).map asg) s).most ∧ (stmtsS ((List.range n).map asg) s).most ≤ 1
  | 0, s, h1, h2 => by
    show (stmtsS [] s).depth = 0 ∧ _
    rw [List.range_zero, List.map_nil, stmtsS]; omega
  | n + 1, s, h1, h2 => by
    rw [List.range_succ, List.map_append, List.map_cons, List.map_nil, stmtsS_snoc]
    obtain ⟨h3, h4, h5⟩ := dm_asgs n s h1 h2
    obtain ⟨h6, h7⟩ := dm_asg n (stmtsS ((List.range n).map asg) s) (by omega)
    rw [h6, h7]; omega
theorem dm_ones : ∀ (m : Nat) (s : CS), s.depth ≤ s.most → (exprsS (List.replicate m oneN) s).depth = s.depth + m ∧ (exprsS (List.replicate m oneN) s).most = max s.most (s.depth + m)
  | 0, s, h => by rw [List.replicate_zero, exprsS]; omega
  | m + 1, s, h => by
    obtain ⟨h1, h2⟩ := dm_one s h
    obtain ⟨h3, h4⟩ := dm_ones m (exprS oneN s) (by omega)
    rw [List.replicate_succ, exprsS, h3, h4]; omega
theorem dm_call (m : Nat) (s : CS) (h : s.depth = 0) (h0 : 0 ≤ s.most) (h1 : s.most ≤ 1) : (stmtS (.mk 4 [] 0 [callN m]) s).depth = 0 ∧ (stmtS (.mk 4 [] 0 [callN m]) s).most = max 1 (m : Int) := by
  rw [stmtS, if_neg (by decide), callN, exprS]
  have e : ∀ t, exprEnd (.mk 12 [102] 0 (List.replicate m oneN)) t = putS 7 ((List.replicate m oneN).length : Nat) [102] (1 - (List.replicate m oneN).length) t := fun t => rfl
  rw [e, List.length_replicate]
  obtain ⟨h3, h4⟩ := dm_ones m (putS 0 1 [] 0 (headS 4 s)) (by show s.depth + 0 + 0 ≤ max (max s.most (s.depth + 0)) (s.depth + 0 + 0); omega)
  have e1 : (putS 0 1 [] 0 (headS 4 s)).depth = s.depth + 0 + 0 := rfl
  have e2 : (putS 0 1 [] 0 (headS 4 s)).most = max (max s.most (s.depth + 0)) (s.depth + 0 + 0) := rfl
  rw [e1] at h3
  rw [e1, e2] at h4
  generalize exprsS (List.replicate m oneN) (putS 0 1 [] 0 (headS 4 s)) = t at *
  refine ⟨?_, ?_⟩
  · show t.depth + (1 - (m : Int)) + -1 = _; omega
  · show max (max t.most (t.depth + (1 - (m : Int)))) (t.depth + (1 - (m : Int)) + -1) = _; omega
theorem lim_most (n m : Nat) (names : List Bs) (consts : List VV) : (makeS (handN n m) names consts).most = max 1 (m : Int) := by
  unfold makeS
  have eb : body (handN n m) = bodyN n m := rfl
  rw [eb, bodyN, blockS, stmtsS_snoc]
  obtain ⟨h1, h2, h3⟩ := dm_asgs n ⟨(parS (vars (handN n m)) names).2, consts, [], 0, 0, 0⟩ rfl rfl
  obtain ⟨h4, h5⟩ := dm_call m _ h1 h2 h3
  show max (stmtS _ _).most ((stmtS _ _).depth + 0) = _
  rw [h4, h5]; omega
theorem lim_comp {n m : Nat} (hn : n < 40) (hm : m < 140) : (match compF (limN n m) with | .ok _ => (0 : Int) | .error e => e) = limW n m := by
  have hl : (collAll (limN n m)).names.length = n := by rw [lim_names (by omega)]; simp
  unfold compF limW
  by_cases h : 32 < n
  · rw [hl, if_pos h, if_pos h]
  · rw [hl, if_neg h, if_neg h]
    have hc := (collS_len ((walkN 0 (limN n m)).map (·.2)) ⟨[], [], []⟩).2.1
    rw [List.length_map, walkN_sz, sz_lim] at hc
    have hk : (collAll (limN n m)).consts.length ≤ 400 := by
      have : (collAll (limN n m)).consts.length ≤ _ := hc
      simp only [List.length_nil] at this
      omega
    have hok := (makeS_ok (N := 400) (h := handN n m) (names := (collAll (limN n m)).names) (consts := (collAll (limN n m)).consts) (by omega) hk).l.len
    have hb := bw_sz (body (handN n m))
    have eb : body (handN n m) = bodyN n m := rfl
    rw [eb, sz_body] at hb
    rw [eb] at hok
    have ek : (handN n m).kids.length = 1 := rfl
    rw [ek] at hok
    show (match compGo [handN n m] _ _ [] false with | .ok _ => (0 : Int) | .error e => e) = _
    rw [compGo, if_neg (by omega), compGo, lim_most]
    by_cases h2 : 128 < m
    · rw [if_pos h2, if_pos (by simp; omega)]
    · rw [if_neg h2, if_neg (by simp; omega)]
theorem lim_law : ∀ n m : Nat, n < 40 → m < 140 → ∀ r cs, OfR (limT n m) r cs → (match r with | .ok _ => (0 : Int) | .error e => e) = limW n m := by
  rintro n m hn hm r cs ⟨q, h1, h2⟩
  have e := h1.unique (limParse hn hm)
  subst e
  rw [h2.1]
  exact lim_comp hn hm
theorem limitsC {w : World} {I : Im} {L : Heap} {a b : Int} {K : KV} (hh : HH w I L) (k : ∀ w' I', I.Le I' → HH w' I' L → K (.bool true) w') : XApp Tryz.prog 4 [.int .i64 a, .int .i64 b] w K := limC lim_law k
end Go.Proofs
