/- The shelf's contracts (sort, compact) as steps. -/
import Derived.Test.YtpbijnigkhjkmaaGreatXd
import Derived.Shelf.Sort.Plain
import Derived.Shelf.Slices.CompactS
import Derived.ChangeSame
namespace Go.X
set_option linter.unusedSimpArgs false
set_option linter.unusedSectionVars false
set_option linter.unusedVariables false
open Go.Sort (grow ahead putRow onCells)
open Go.Proofs (encStr)
theorem XApp.ofCalls {P : Program} {g : FuncId} {args : List Value} {w : World} {K : KV} {R : Ending → World → Prop} (h : Calls P g args.toArray w R) (hR : ∀ e w', R e w' → ∃ v, e = .returned v ∧ K v w') : XApp P g args w K :=
  ⟨CallsIn.mono (callsIn_wide.2 h) fun e w' he => by obtain ⟨v, rfl, hk⟩ := hR e w' he; exact hk⟩
theorem HH.grow {w : World} {I : Im} {L : Heap} (h : HH w I L) (os : Array Obj) : HH (Go.Sort.grow w os) I L where
  imm b o hb := by rw [Go.Sort.heap_grow_old w os (h.ltImm hb)]; exact h.imm b o hb
  own b o hb := by rw [Go.Sort.heap_grow_old w os (h.lt hb)]; exact h.own b o hb
  disj := h.disj
  nodup := h.nodup
  os := h.os
  tape := h.tape
  output := h.output
theorem flatS (xs : List (List UInt8)) : (xs.map sEnc).flatten = xs.map encStr := by
  induction xs with
  | nil => rfl
  | cons x xs ih => simp only [List.map_cons, List.flatten_cons, ih]; rfl
theorem putCells_row {xs ys : List (List UInt8)} (h : ys.length = xs.length) (junk : List Value) : Go.Sort.putCells encStr 0 ys.toArray ((xs.map sEnc).flatten ++ junk).toArray = ((ys.map sEnc).flatten ++ junk).toArray := by
  rw [flatS, flatS]
  apply Array.ext'
  simp only [Go.Sort.putCells, Array.toList_mapIdx]
  apply List.ext_getElem
  · simp [h]
  · intro i h1 h2
    simp only [List.getElem_mapIdx, Nat.zero_le, true_and, Nat.zero_add, List.size_toArray, Nat.sub_zero]
    by_cases hi : i < ys.length
    · have hi2 : i < (ys.map encStr).length := by simpa using hi
      rw [if_pos hi, List.getElem_append_left hi2]
      simp [hi]
    · rw [if_neg hi]
      have e1 : ¬ i < (ys.map encStr).length := by simpa using hi
      have e2 : ¬ i < (xs.map encStr).length := by simpa [h] using hi
      rw [List.getElem_append_right (by omega), List.getElem_append_right (by omega)]
      simp [h]
theorem HH.putRow {w : World} {I : Im} {R : Heap} {b : Nat} {T : TypeId} {xs ys : List (List UInt8)} {junk : List Value} (h : HH w I ((b, rowO T sEnc xs junk) :: R)) (hl : ys.length = xs.length) (n : Nat) :
    HH (Go.Sort.putRow encStr (Go.Sort.ahead w n) b 0 ys.toArray) I ((b, rowO T sEnc ys junk) :: R) := by
  have hd : HH (Go.Sort.ahead w n) I ((b, rowO T sEnc xs junk) :: R) := h.drawn _
  refine hd.put (b := b) (o' := rowO T sEnc ys junk) ⟨[], _, R, rfl, rfl⟩ _ ?_ rfl rfl rfl
  have hb := hd.own b _ (List.mem_cons_self ..)
  simp only [Go.Sort.putRow, Go.Sort.mapBlock]
  apply Array.ext_getElem?
  intro i
  rw [Array.getElem?_modify, Array.getElem?_setIfInBounds]
  split
  · rename_i e
    subst e
    rw [hb]
    simp only [Option.map_some, rowO, Go.Sort.onCells]
    rw [putCells_row hl, if_pos (hd.lt (List.mem_cons_self ..))]
  · rfl
theorem holds_row {w : World} {I : Im} {R : Heap} {b : Nat} {T : TypeId} {xs : List (List UInt8)} {junk : List Value} (h : HH w I ((b, rowO T sEnc xs junk) :: R)) : Go.Sort.Holds encStr w b 0 xs.toArray := by
  have hb := h.own b _ (List.mem_cons_self ..)
  intro j hj
  have hj' : j < xs.length := by simpa using hj
  constructor
  · rw [cell_of (c := ((xs.map sEnc).flatten ++ junk).toArray) hb]
    rw [flatS]
    simp [hj']
    rw [List.getElem?_append_left (by simpa using hj')]
    simp [hj']
  · simp [World.frozen?, show w.heap[b]? = some (.cells _ _ (0, 0)) from hb]
end Go.X

/- Bytes that are written out; numbers without sign. -/
namespace Go.X
set_option linter.unusedSimpArgs false
set_option linter.unusedSectionVars false
set_option linter.unusedVariables false
/-- bytes that are written out -/
class BytesV (cs : List Value) (l : outParam (List UInt8)) (c : outParam Prop) : Prop where
  eq : c → cs = l.map fun b => Value.int .u8 (b.toNat : Int)
instance : BytesV [] [] True := ⟨fun _ => rfl⟩
instance {n : Int} {r : List Value} {l : List UInt8} {c : Prop} [h : BytesV r l c] : BytesV (.int .u8 n :: r) (UInt8.ofNat n.toNat :: l) ((0 ≤ n ∧ n ≤ 255) ∧ c) := ⟨fun ⟨h1, h2⟩ => by
  rw [h.eq h2, List.map_cons]
  congr 2
  rw [UInt8.toNat_ofNat']
  omega⟩
section
variable {P : Program} {ro : Option Nat} {w : World} {K : KV} {K1 : Value → Prop} {I : Im} {L R : Heap} {S T e e' : TypeId} {x y : Operand}
instance convLitSl {b n : Nat} {cs : List Value} {l : List UInt8} {c : Prop} [t : TySlice P T e'] [t8 : TyInt P e' .u8] [h : HH w I L] [o : Rem L b (.cells (List.toArray cs) e (0, 0)) R] [bv : BytesV cs l c] :
    XStep (XSem P (convert T T (.slice (some ⟨b, 0, none⟩) n n)) w K) (XChk (c ∧ n = l.length) (∀ w' I', I.Le I' → HH w' I' R → SlA I' (some ⟨b, 0, none⟩) 1 bEnc l → K (.slice (some ⟨b, 0, none⟩) l.length l.length) w')) := ⟨fun ⟨⟨hc, hn⟩, k⟩ => by
  subst hn
  have e1 := bv.eq hc
  have h2 := h.perm o.perm
  have hb := h2.own b _ (List.mem_cons_self ..)
  let w3 := w.freeze ⟨b, cs.length, none⟩ 1
  have hrun : (convert T T (.slice (some ⟨b, 0, none⟩) l.length l.length)).run P w = .ok (.slice (some ⟨b, 0, none⟩) l.length l.length) w3 := by
    have hm : (markStringish ⟨b, 0, none⟩).run P w = .ok () w3 := by
      have hsh : w.shape? b = some (e, cs.length) := by simp [World.shape?, hb]
      simp [markStringish, Sem.run_bind, shape, Sem.run, freeze, hsh, Result.andThen, w3, pure]
    simp only [convert, Sem.run_bind, run_underlying t.eq, run_underlying t8.eq, Result.andThen, beq_self_eq_true, hm]
    rfl
  have h3 : HH w3 I ((b, .cells (List.toArray cs) e (cs.length, cs.length + 1)) :: R) := by
    refine h2.put (b := b) (o' := .cells (List.toArray cs) e (cs.length, cs.length + 1)) ⟨[], _, R, rfl, rfl⟩ _ ?_ rfl rfl rfl
    simp only [w3, World.freeze]
    rw [if_neg (by decide)]
    apply Array.ext_getElem?
    intro i
    have hlt := h2.lt (List.mem_cons_self ..)
    simp only [Array.getElem?_modify, Array.getElem?_setIfInBounds]
    split
    · rename_i e; subst e; rw [hb]; first | rfl | (rw [if_pos hlt]; rfl) | simp [hlt]
    · rfl
  obtain ⟨h4, h5, h6⟩ := h3.freeze
  refine .of hrun (k _ _ h5 h4 ⟨.inr ⟨_, 0, rfl, ⟨_, _, _, h6.eq, fun k x hx => ⟨rfl, fun j v hv => ?_⟩⟩⟩⟩)
  have hj : j = 0 := by
    have := (List.getElem?_eq_some_iff.1 hv).1
    simp [bEnc] at this; exact this
  subst hj
  simp only [bEnc, List.getElem?_cons_zero, Option.some.injEq] at hv
  subst hv
  simp [e1, hx]⟩
instance convLitStr {b n : Nat} {cs : List Value} {l : List UInt8} {c : Prop} {e0 : TypeId} {fz : Nat × Nat} [t : TySlice P S e'] [t8 : TyInt P e' .u8] [ts : TyStr P T] [h : HH w I L] [o : Own L b (.cells (List.toArray cs) e0 fz)] [bv : BytesV cs l c] :
    XStep (XSem P (convert S T (.slice (some ⟨b, 0, none⟩) n n)) w K) (XChk (c ∧ n = l.length) (K (.string ⟨l.toArray⟩) w)) := ⟨fun ⟨⟨hc, hn⟩, k⟩ => by
  subst hn
  have e1 := bv.eq hc
  have hb := h.own b _ o.mem
  refine .of ?_ k
  simp only [convert, Sem.run_bind, run_underlying t.eq, run_underlying ts.eq, run_underlying t8.eq, Result.andThen]
  have hc2 : ∀ j v, (l.map fun c => Value.int .u8 (c.toNat : Int))[j]? = some v → w.cell? ((⟨b, 0, none⟩ : Addr).add j) = some v := by
    intro j v hj
    rw [add_none, cell_of hb]
    simpa [e1] using hj
  have hl := run_loadCells_list (P := P) w ⟨b, 0, none⟩ (l.map fun c => Value.int .u8 (c.toNat : Int)) hc2
  rw [List.length_map] at hl
  have e : (l.map fun c => Value.int .u8 (c.toNat : Int)) = (l.map fun c => (c.toNat : Int)).map (Value.int .u8) := by simp
  rw [e] at hl
  have := run_bytesToString (P := P) w ⟨b, 0, none⟩ l.length l.length _ hl
  rw [fold_push] at this
  exact this⟩
theorem wrapU64 (n : Int) : IntKind.u64.wrap n = n % 18446744073709551616 := by
  simp only [IntKind.wrap, IntKind.bits, IntKind.signed]
  have : (2 : Int) ^ 64 = 18446744073709551616 := by decide
  simp only [this, Bool.false_and, Bool.false_eq_true, if_false]
instance convU64 {S : TypeId} {q : IntKind} {n : Int} [t : TyInt P T .u64] [s : TyInt P S q] : XStep (XPur P (convert S T (.int q n)) K1) (K1 (.int .u64 (n % 18446744073709551616))) := ⟨fun k => by
  refine .of (fun w => ?_) k; simp only [convert, Sem.run_bind, run_underlying t.eq, run_underlying s.eq, Result.andThen, Conv.intToInt, wrapU64, run_pure]⟩
instance remU64 {a b : Int} : XStep (XPur P (binOpG .rem T x y (.int .u64 a) (.int .u64 b)) K1) (XChk (0 ≤ a ∧ 0 < b) (K1 (.int .u64 (a % b)))) := ⟨fun ⟨⟨h0, h1⟩, k⟩ => by
  refine .of (fun w => ?_) k; rw [run_guard_int]; simp only [binOp, Op.intDiv, if_neg (show ¬ b = 0 by omega), ne_eq, not_true_eq_false, if_false, run_pure, Int.tmod_eq_emod_of_nonneg h0]⟩
end
end Go.X

/- From a walk to a row: what was there is left as it was. -/
namespace Go.X
set_option linter.unusedSimpArgs false
set_option linter.unusedSectionVars false
set_option linter.unusedVariables false
open Go.ChangeShapes Go.WideShapes
/-- all that is there when a call begins -/
def Im.of (W : World) : Im := ⟨fun b => W.heap[b]?, W.os, W.tape, W.output⟩
theorem HH.start (W : World) : HH W (Im.of W) [] := ⟨fun _ _ h => h, fun _ _ h => (by simp at h), fun _ _ h => (by simp at h), by simp, rfl, rfl, rfl⟩
def Kept (W W' : World) : Prop := (∀ may, W.keptBut W' may) ∧ ∀ a : Addr, a.block < W.heap.size → W'.frozen? a = W.frozen? a
theorem HH.kept {W W' : World} {I : Im} {L : Heap} (h : HH W' I L) (hl : (Im.of W).Le I) : Kept W W' := by
  have key : ∀ b, b < W.heap.size → W'.heap[b]? = W.heap[b]? := fun b hb => by
    have e : W.heap[b]? = some W.heap[b] := Array.getElem?_eq_getElem hb
    rw [e]
    exact h.imm b _ (hl.at_ b _ e)
  refine ⟨fun may => ⟨h.os.trans hl.os, h.output.trans hl.output, fun i hi => ?_⟩, fun a ha => by unfold World.frozen?; rw [key _ ha]⟩
  rw [key i hi]
  split
  · rename_i e1 e2
    rw [e1] at e2
    cases e2
    exact ⟨rfl, rfl, rfl, fun _ _ => rfl⟩
  · rename_i e1 e2
    rw [e1] at e2
    cases e2
    exact .inr ⟨rfl, rfl⟩
  · rename_i o o' h1 h2
    rfl
theorem XApp.toCalls {P : Program} {g : FuncId} {args : List Value} {w : World} {K : KV} (h : XApp P g args w K) : Calls P g args.toArray w fun e w' => ∃ v, e = .returned v ∧ K v w' :=
  callsIn_wide.1 (CallsIn.mono h.calls fun e w' he => by
    cases e with
    | returned v => exact ⟨v, rfl, he⟩
    | _ => exact he.elim)
/-- 'post_of_same' where new blocks may be frozen -/
theorem post_kept {H : Type} {enc : TypeId × Value → H} {P : Program} {f : Func} {s : ChangeSpec} {apart fresh handsOn again : Bool} {W W' : World} {args : Array Value} {v : Value} {ds gs : List (DataW H)} {before pa pv : List MemPlace}
    (hW : DataW.Whole enc P f.params.toList s.vars apart W args.toList ds gs before)
    (hres : ∀ (b : Nat) (sp : Nat → Bool) (hd : Bool), DataW.TrodAll enc P W' b sp hd f.resultTypes.toList (v.resultList f.resultTypes.size) (s.fn H (ds ++ gs)).results [])
    (hargs : ∀ sp : Nat → Bool, (∀ p ∈ before, sp p.block = true) → DataW.TrodAll enc P W' 0 sp true f.params.toList args.toList (s.fn H (ds ++ gs)).args pa)
    (hvars : ∀ sp : Nat → Bool, (∀ p ∈ before, sp p.block = true) → DataW.TrodVars enc P W' sp s.vars (s.fn H (ds ++ gs)).vars pv)
    (hps : before = pa ++ pv) (hk : Kept W W')
    (hok : ∀ (j : Nat) (t : TypeId) (r : Value), f.resultTypes[j]? = some t → (v.resultList f.resultTypes.size)[j]? = some r → Value.okWide P W' .any 0 t r) :
    s.post enc P f apart fresh handsOn again W args v W' := by
  have hlt : ∀ p ∈ before, p.block < W.heap.size := fun p hp => hW.lt p hp
  have hin : ∀ p ∈ before, p ∈ pa ++ pv := fun p hp => hps ▸ hp
  refine ⟨ds, gs, before, [], pa, pv, hW, hres _ _ _, hargs (fun b => decide (b < W.heap.size)) (fun p hp => by simpa using hlt p hp), hvars _ (fun p hp => by simpa using hlt p hp), hk.1 _, fun _ => ?_⟩
  obtain ⟨_, _, _, _, _, hz, hn⟩ := hW
  refine ⟨hok, _, _, ([] ++ pa) ++ pv, ⟨[] ++ pa, pv, trodAll_append (hargs _ (fun _ _ => rfl)) (hres _ _ _), hvars _ (fun _ _ => rfl), rfl, fun b off hp => ?_, fun ha => ?_⟩, fun p hp _ => by subst hps; simpa using hp⟩
  · have hm : MemPlace.cell b off ∈ before := by subst hps; simpa using hp
    exact (hk.2 _ (hlt _ hm)).trans (hz b off hm)
  · have := hn ha
    subst hps
    simpa using this
end Go.X
