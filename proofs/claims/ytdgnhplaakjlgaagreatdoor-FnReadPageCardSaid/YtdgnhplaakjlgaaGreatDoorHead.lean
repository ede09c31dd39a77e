/- The closed facts on the program that all rows of this seat share, each proved once; a row's closed facts out of its own few. No condition. -/
import Derived.Test.YtdgnhplaakjlgaaGreatDoorRows
import Derived.JoinedOf
import Derived.JoinedCond
import Derived.KernelRfl
namespace Go.Proofs.YtdgnhplaakjlgaaGreatDoor
set_option linter.unusedVariables false

/-! ### the head's words: 'harness', a sum, then what was cut -/
def initA : List Nat := [104, 97, 114, 110, 101, 115, 115]
def initB : List Nat := [98, 50, 51, 97, 100, 57, 48, 102, 55, 97, 97, 98, 52, 57, 57, 48, 53, 48, 53, 101, 55, 57, 53, 101, 101, 102, 48, 52, 51, 55, 102, 98, 54, 101, 57, 49, 100, 52, 99, 52, 101, 99, 54, 55, 100, 53, 53, 48, 54, 51, 53, 102, 54, 48, 99, 53, 52, 99, 57, 51, 49, 49, 101, 97]
def initC : List Nat := [99, 117, 116]
def initR : List Nat := [97, 116, 32, 108, 111, 111, 112, 46, 101, 120, 97, 109, 112, 108, 101, 47, 100, 105, 102, 102, 101, 114, 101, 110, 99, 101, 101, 110, 103, 105, 110, 101, 47, 108, 97, 119, 115, 46, 70, 110, 82, 101, 97, 100, 80, 97, 103, 101, 32, 108, 111, 111, 112, 46, 101, 120, 97, 109, 112, 108, 101, 47, 100, 105, 102, 102, 101, 114, 101, 110, 99, 101, 101, 110, 103, 105, 110, 101, 47, 108, 97, 119, 115, 46, 70, 110, 87, 104, 111, 108, 101, 83, 104, 101, 101, 116]
def chs (l : List Nat) : List Char := l.map Char.ofNat
theorem words_word : ∀ (w r : List Char), (w.all fun c => c != Char.ofNat 32) = true → wordsSigns (w ++ Char.ofNat 32 :: r) = w :: wordsSigns r := by
  intro w
  induction w with
  | nil => intro r _; rfl
  | cons c w ih =>
    intro r h
    simp only [List.all_cons, Bool.and_eq_true, bne_iff_ne, ne_eq] at h
    have h2 := ih r h.2
    rw [List.cons_append]
    conv => lhs; unfold wordsSigns
    split
    · rename_i heq; cases heq
    · rename_i heq; simp only [List.cons.injEq] at heq; exact absurd heq.1 h.1
    · rename_i heq
      simp only [List.cons.injEq] at heq
      obtain ⟨rfl, rfl⟩ := heq
      rw [h2]
theorem initS : Tryz.prog.initOrder = String.ofList (chs (initA ++ 32 :: (initB ++ 32 :: (initC ++ 32 :: initR)))) := by kernel_rfl
theorem behind_two {a b : List Char} {r : List (List Char)} (h : ((a == "harness".toList || a == "ownmain".toList) && isSumSigns b) = true) : behindMainWord (a :: b :: r) = r := by
  unfold behindMainWord; simp only [h, if_true]
theorem initW : ∃ R, behindMainWord (wordsSigns Tryz.prog.initOrder.toList) = chs initC :: R := by
  refine ⟨wordsSigns (chs initR), ?_⟩
  rw [initS, String.toList_ofList]
  unfold chs
  simp only [List.map_append, List.map_cons]
  rw [words_word _ _ (by decide +kernel), words_word _ _ (by decide +kernel), words_word _ _ (by decide +kernel)]
  exact behind_two (by decide +kernel)
theorem liftsF_of {P : Program} {R : List (List Char)} (h : behindMainWord (wordsSigns P.initOrder.toList) = chs initC :: R) : P.headLifts = [] ∧ P.liftsFinal = false := by
  have e : P.headLifts = [] := by unfold Program.headLifts; rw [h]; kernel_rfl
  refine ⟨e, ?_⟩
  unfold Program.liftsFinal; rw [e]; simp only [h]; kernel_rfl
theorem mayE_of {P : Program} {R : List (List Char)} (h : behindMainWord (wordsSigns P.initOrder.toList) = chs initC :: R) (h1 : P.laysLater = false) (h2 : P.bearsReflect = false) (h3 : P.doorFits [] = true) : P.mayEnter = true := by
  unfold Program.mayEnter; rw [h]
  have e1 : (stripLifts liftWords (chs initC :: R)).1 = [] := by kernel_rfl
  have e2 : ((stripLifts liftWords (chs initC :: R)).2.head? == some "cut".toList) = true := by kernel_rfl
  show (_ || _ || _) = true
  rw [e1, e2, h1, h2, h3]
  kernel_rfl
theorem makeW_of {P : Program} {R : List (List Char)} (h : behindMainWord (wordsSigns P.initOrder.toList) = chs initC :: R) : P.make = some Make.cut := by
  unfold Program.make; rw [h]; kernel_rfl

theorem hd1 : laidOutB Tryz.prog = true := by kernel_rfl
theorem hd2 : mapsRowed Tryz.prog = true := by kernel_rfl
theorem hd6 : (Tryz.prog.stops == []) = true := by kernel_rfl
theorem hd8 : (Tryz.prog.stopKnobs == []) = true := by kernel_rfl
theorem hd22 : Tryz.prog.plainKeys = true := by kernel_rfl
theorem hd24 : Tryz.prog.stopsHeard = true := by kernel_rfl
theorem hdL : Tryz.prog.laysLater = false := by kernel_rfl
theorem hdB : Tryz.prog.bearsReflect = false := by kernel_rfl
theorem hdD : Tryz.prog.doorFits [] = true := by kernel_rfl
theorem hd25 : Tryz.prog.mayEnter = true := by obtain ⟨R, h⟩ := initW; exact mayE_of h hdL hdB hdD
theorem hd26 : Tryz.prog.liftsFinal = false := by obtain ⟨R, h⟩ := initW; exact (liftsF_of h).2
theorem hd27 : Tryz.prog.make = some Make.cut := by obtain ⟨R, h⟩ := initW; exact makeW_of h
theorem own : ownKnob Tryz.prog.godebug = none := by kernel_rfl
theorem laidOut : laidOutB Tryz.prog = true := hd1

/-! ### a row's own closed facts -/
def factsA (P : Program) (f : FuncId) (fn : Func) (s : ChangeSpec) (c : OpenClaim) : Bool :=
  (c.wf (OpenSpec.ofChange s)) &&
  (fn.params.all (P.readableRec ·)) &&
  (namedTie P c.named s.vars) &&
  ((c.stops == [])) &&
  ((c.knobs == [])) &&
  (c.shortTexts.isNone) &&
  ((c.kinds == (if c.domain.isEmpty then [] else fn.params.toList.map fun t => match P.underlying t with | some (.int k) => some k | _ => none))) &&
  ((c.pinned == c.pinnedBy))
def factsB (P : Program) (f : FuncId) (fn : Func) (s : ChangeSpec) (c : OpenClaim) : Bool :=
  ((c.maps == (fn.params.toList ++ s.plain.varTypes P).any (P.mapsRec ·))) &&
  ((c.ifaces == (fn.params.toList ++ s.plain.varTypes P).any (P.ifacesRec ·))) &&
  ((c.mapsOut == P.mapsAmong fn.resultTypes.toList)) &&
  ((c.loops == (fn.params.toList ++ s.plain.varTypes P).any (P.loopsFrom ·))) &&
  ((c.wideKeys == (fn.params.toList ++ s.plain.varTypes P ++ fn.resultTypes.toList).any (P.wideKeysFrom ·))) &&
  (s.vars.all (P.varReadable ·)) &&
  (fn.resultTypes.all (fun t => P.readableRec t && decide (t < P.types.size))) &&
  ((c.ifacesOut == fn.resultTypes.toList.any (P.ifacesRec ·))) &&
  ((c.loopsOut == fn.resultTypes.toList.any (P.loopsFrom ·))) &&
  ((c.veiled == (fn.params.toList ++ s.plain.varTypes P ++ fn.resultTypes.toList).any (P.veiledRec ·))) &&
  (c.veiledFits P fn.params.toList (fn.params.toList ++ s.plain.varTypes P ++ fn.resultTypes.toList))
set_option maxRecDepth 100000 in
theorem closed_of {f : FuncId} {fn : Func} {s : ChangeSpec} {c : OpenClaim} (hA : factsA Tryz.prog f fn s c = true)
    (h9 : (c.inPlace == Tryz.prog.inPlace f) = true) (h10 : (c.unfollowed == Tryz.prog.unfollowed f) = true) (h11 : (c.recurses == Tryz.prog.recurses f) = true) (h12 : (c.named == Tryz.prog.varsNamed f) = true)
    (hB : factsB Tryz.prog f fn s c = true) (h22 : c.plainKeys = true) (h26 : c.lifted = false) (h27 : c.make = Make.cut) : joinedFacts Tryz.prog f fn s c = true := by
  simp only [factsA, Bool.and_eq_true] at hA
  simp only [factsB, Bool.and_eq_true] at hB
  simp only [joinedFacts, Bool.and_eq_true]
  exact ⟨⟨⟨⟨⟨⟨⟨⟨⟨⟨⟨⟨⟨⟨⟨⟨⟨⟨⟨⟨⟨⟨⟨⟨⟨⟨⟨⟨⟨⟨⟨hA.1.1.1.1.1.1.1, hd1⟩, hd2⟩, hA.1.1.1.1.1.1.2⟩, hA.1.1.1.1.1.2⟩, hA.1.1.1.1.2⟩, hd6⟩, hA.1.1.1.2⟩, hd8⟩, h9⟩, h10⟩, h11⟩, h12⟩, hB.1.1.1.1.1.1.1.1.1.1⟩, hB.1.1.1.1.1.1.1.1.1.2⟩, hB.1.1.1.1.1.1.1.1.2⟩, hB.1.1.1.1.1.1.1.2⟩, hB.1.1.1.1.1.1.2⟩, hB.1.1.1.1.1.2⟩, hB.1.1.1.1.2⟩, hB.1.1.1.2⟩, hB.1.1.2⟩, (by rw [h22, hd22]; rfl)⟩, hA.1.1.2⟩, hd24⟩, hd25⟩, (by rw [h26, hd26]; rfl)⟩, (by rw [h27, hd27]; rfl)⟩, hA.1.2⟩, hA.2⟩, hB.1.2⟩, hB.2⟩
end Go.Proofs.YtdgnhplaakjlgaaGreatDoor
