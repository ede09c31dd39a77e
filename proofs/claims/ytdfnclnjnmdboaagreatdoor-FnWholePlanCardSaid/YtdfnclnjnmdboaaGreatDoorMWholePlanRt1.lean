/- Lemmas and contracts for WholePlan (Rt1): plain words on memory, contracts of the functions that the law reaches. No condition but what each states. -/
import Derived.Test.YtdfnclnjnmdboaaGreatDoorMWholePlanNumPl
import Derived.Test.YtdfnclnjnmdboaaGreatDoorMWholePlanSapp
import Derived.Test.YtdfnclnjnmdboaaGreatDoorMWholePlanStrs
import Derived.Lib.Hide
namespace Go.Proofs.YtdfnclnjnmdboaaGreatDoor
set_option linter.unusedVariables false
open Go.RowKit

/-- the pieces D cut off so far: from F on nothing has been cut, and up to i there is no c -/
def CutR (c : UInt8) (l : List UInt8) (D : List (List UInt8)) (F i : Nat) : Prop :=
  (i ≤ l.length ∧ F ≤ i ∧ c ∉ (l.drop F).take (i - F) ∧ cutP c l = D ++ cutP c (l.drop F)) ∨ (i = l.length + 1 ∧ D = cutP c l)
theorem CutR.start (c : UInt8) (l : List UInt8) : CutR c l [] 0 0 := .inl ⟨by omega, Nat.le_refl _, by simp, by simp⟩
theorem CutR.last {c : UInt8} {l : List UInt8} {D : List (List UInt8)} {F : Nat} (h : CutR c l D F l.length) : F ≤ l.length ∧ CutR c l (D ++ [(l.drop F).take (l.length - F)]) (l.length + 1) (l.length + 1) := by
  rcases h with ⟨_, h2, h3, h4⟩ | ⟨h1, _⟩
  · refine ⟨h2, .inr ⟨rfl, ?_⟩⟩
    have e : (l.drop F).take (l.length - F) = l.drop F := List.take_of_length_le (by rw [List.length_drop]; exact Nat.le_refl _)
    rw [e] at h3 ⊢
    rw [h4, cutP_end c _ h3]
  · omega
theorem cut_at {l : List UInt8} {F i : Nat} (hi : i < l.length) (hF : F ≤ i) : l.drop F = (l.drop F).take (i - F) ++ l[i] :: l.drop (i + 1) := by
  conv => lhs; rw [← List.take_append_drop (i - F) (l.drop F)]
  congr 1
  rw [List.drop_drop, show F + (i - F) = i by omega]
  exact List.drop_eq_getElem_cons hi
theorem CutR.hit {c : UInt8} {l : List UInt8} {D : List (List UInt8)} {F i : Nat} (h : CutR c l D F i) (hi : i < l.length) (e : l[i] = c) : F ≤ i ∧ CutR c l (D ++ [(l.drop F).take (i - F)]) (i + 1) (i + 1) := by
  rcases h with ⟨_, h2, h3, h4⟩ | ⟨h1, _⟩
  · refine ⟨h2, .inl ⟨by omega, Nat.le_refl _, by simp, ?_⟩⟩
    have h5 := cut_at hi h2
    rw [e] at h5
    rw [h4, h5, cutP_hit c _ _ h3]
    have h6 : ((l.drop F).take (i - F) ++ c :: l.drop (i + 1)).take (i - F) = (l.drop F).take (i - F) := by rw [← h5]
    rw [h6]
    simp
  · omega
theorem CutR.miss {c : UInt8} {l : List UInt8} {D : List (List UInt8)} {F i : Nat} (h : CutR c l D F i) (hi : i < l.length) (e : l[i] ≠ c) : F ≤ i ∧ CutR c l D F (i + 1) := by
  rcases h with ⟨_, h2, h3, h4⟩ | ⟨h1, _⟩
  · refine ⟨h2, .inl ⟨by omega, by omega, ?_, h4⟩⟩
    rw [show i + 1 - F = (i - F) + 1 by omega, List.take_add_one]
    have : (l.drop F)[i - F]? = some l[i] := by rw [List.getElem?_drop, show F + (i - F) = i by omega, List.getElem?_eq_getElem hi]
    rw [this]
    intro q
    rcases List.mem_append.1 q with q | q
    · exact h3 q
    · simp at q; exact e q.symm
  · omega
theorem CutR.fin {c : UInt8} {l : List UInt8} {D : List (List UInt8)} {F i : Nat} (h : CutR c l D F i) (hi : l.length < i) : D = cutP c l := by
  rcases h with ⟨h1, _⟩ | ⟨_, h2⟩
  · omega
  · exact h2

set_option maxRecDepth 20000 in
set_option maxHeartbeats 1600000 in
theorem c_l9Cut (s : ByteArray) (c : UInt8) (l : List UInt8) (hs : IsS s l) (w : World) (hsz : s.size ≤ 1048576) :
    Calls Tryz.prog 75 #[.string s, .int .u8 (c.toNat : Int)] w (FreshS w (cutS c l)) := by
  have HS : Hid (IsS s l) := hs
  have HZ : Hid (s.size = l.length) := hs.size
  have hs0 := OwnS_made w w.heap.size (Nat.le_refl _)
  clear hs
  go_enter Tryz.func75, Tryz.ntmps75
  go_wp2
  go_loopw [5, 6, 7] (fun o f i wr => ∃ (F k : Nat) (D : List (List UInt8)), k ≤ s.size + 1 ∧ F ≤ s.size + 1 ∧ i = .int .i64 k ∧ f = .int .i64 F ∧ Hid (D.length ≤ k) ∧ OwnS wr w.heap.size o (D.map bytS) ∧ Hid (CutR c l D F k) ∧ Below w.heap.size w wr) (fun _ _ i _ => s.size + 1 - (intOf i).toNat)
  case atStart => exact ⟨0, 0, [], by omega, by omega, rfl, rfl, Nat.zero_le _, hs0, CutR.start c l, (Below.refl _ _).alloc (Nat.le_refl _) _⟩
  case round =>
    obtain ⟨F, k, D, hk, hF, rfl, rfl, HD, ho, HC, hB⟩ := hrel
    by_cases hle : k ≤ s.size
    · have hBs := hB.size
      have hDl : (D.map bytS).length ≤ 1048577 := by rw [List.length_map]; have := HD.out; omega
      by_cases heq : k = s.size
      · have h5 := HC.out
        rw [heq, HZ.out] at h5
        obtain ⟨hFl, h6⟩ := h5.last
        have HT : Hid (bytS ((l.drop F).take (l.length - F)) = s.extract F s.size) := by
          show _ = _
          have h7 := HS.out.ext F s.size
          rw [HZ.out] at h7 ⊢
          exact IsS.inj (IsS.mk _) h7
        have h6' : CutR c l (D ++ [(l.drop F).take (l.length - F)]) (s.size + 1) (s.size + 1) := by rw [HZ.out]; exact h6
        have HC2 := Lib.hid h6'
        have i1 : (F : Int) ≤ (s.size : Int) := by have := HZ.out; omega
        have e1 : ((k : Int) == (s.size : Int)) = true := beq_iff_eq.2 (by omega)
        subst heq
        obtain ⟨L, hL⟩ : ∃ L, D.map bytS = L := ⟨_, rfl⟩
        have HM : Hid ((D ++ [(l.drop F).take (l.length - F)]).map bytS = L ++ [s.extract F s.size]) := by show _ = _; rw [List.map_append, List.map_cons, List.map_nil, HT.out, hL]
        unfold OwnS at ho
        rw [hL] at ho hDl
        clear hL
        clear h5 h6 h6' hFl hs0
        go_wp2_with (first | (at_builtin; refine app1 47 9 Tryz.underlying47 infoStr rfl (by decide) rfl _ _ rfl w.heap.size _ _ _ rfl ho rfl rfl ?c1 ?c2 ?_))
        case c1 => omega
        case c2 => exact hBs
        intro v' w3 ho3 hg3
        have HO : Hid (OwnS w3 w.heap.size v' ((D ++ [(l.drop F).take (l.length - F)]).map bytS) ∧ Below w.heap.size w w3) :=
          ⟨by rw [HM.out]; exact OwnS_snoc rfl ho3, hB.grown hg3 hBs (fun j hj => (ho.lt j hj).1)⟩
        clear ho ho3 hg3 hB
        go_wp2
        go_roundw
        case rel => exact ⟨s.size + 1, s.size + 1, _, by omega, by omega, by go_num, by go_num, by show _ ≤ _; have := HD.out; rw [List.length_append]; simp; exact this, HO.out.1, HC2, HO.out.2⟩
        case measure => simp [intOf] <;> omega
      · have hlt : k < s.size := by omega
        have hltl : k < l.length := by rw [← HZ.out]; exact hlt
        have hat : s[k] = l[k] := HS.out.at_ hlt hltl
        have e1 : ((k : Int) == (s.size : Int)) = false := beq_eq_false_iff_ne.2 (by omega)
        by_cases hc : l[k] = c
        · obtain ⟨hFk, h6⟩ := HC.out.hit hltl hc
          have HT : Hid (bytS ((l.drop F).take (k - F)) = s.extract F k) := IsS.inj (IsS.mk _) (HS.out.ext F k)
          have HC2 := Lib.hid h6
          have i1 : (F : Int) ≤ (k : Int) := by omega
          have i2 : (k : Int) ≤ (s.size : Int) := by omega
          have e2 : ((s[k].toNat : Int) == (c.toNat : Int)) = true := by rw [hat, hc]; simp
          obtain ⟨L, hL⟩ : ∃ L, D.map bytS = L := ⟨_, rfl⟩
          have HM : Hid ((D ++ [(l.drop F).take (k - F)]).map bytS = L ++ [s.extract F k]) := by show _ = _; rw [List.map_append, List.map_cons, List.map_nil, HT.out, hL]
          unfold OwnS at ho
          rw [hL] at ho hDl
          clear hL
          clear h6 hFk hs0 hat hc heq
          go_wp2_with (first | (at_builtin; refine app1 47 9 Tryz.underlying47 infoStr rfl (by decide) rfl _ _ rfl w.heap.size _ _ _ rfl ho rfl rfl ?c1 ?c2 ?_))
          case c1 => omega
          case c2 => exact hBs
          intro v' w3 ho3 hg3
          have HO : Hid (OwnS w3 w.heap.size v' ((D ++ [(l.drop F).take (k - F)]).map bytS) ∧ Below w.heap.size w w3) :=
            ⟨by rw [HM.out]; exact OwnS_snoc rfl ho3, hB.grown hg3 hBs (fun j hj => (ho.lt j hj).1)⟩
          clear ho ho3 hg3 hB
          go_wp2
          go_roundw
          case rel => exact ⟨k + 1, k + 1, _, by omega, by omega, by go_num, by go_num, by show _ ≤ _; have := HD.out; rw [List.length_append]; simp; exact this, HO.out.1, HC2, HO.out.2⟩
          case measure => simp [intOf] <;> omega
        · obtain ⟨hFk, h6⟩ := HC.out.miss hltl hc
          have HC2 := Lib.hid h6
          have e2 : ((s[k].toNat : Int) == (c.toNat : Int)) = false := by
            rw [beq_eq_false_iff_ne]
            intro e
            apply hc
            rw [← hat]
            apply UInt8.toNat_inj.1
            exact Int.ofNat.inj e
          have HO : Hid (OwnS wr w.heap.size u5 (D.map bytS) ∧ Below w.heap.size w wr) := ⟨ho, hB⟩
          clear h6 hFk hs0 hat hc heq ho hB
          go_wp2
          go_roundw
          case rel => exact ⟨F, k + 1, D, by omega, by omega, by go_num, rfl, by show _ ≤ _; have := HD.out; omega, HO.out.1, HC2, HO.out.2⟩
          case measure => simp [intOf] <;> omega
    · have HO : Hid (OwnS wr w.heap.size u5 (cutS c l) ∧ Below w.heap.size w wr) := by
        have h := HC.out.fin (by rw [← HZ.out]; omega)
        refine ⟨?_, hB⟩
        unfold cutS
        rw [← h]
        exact ho
      clear ho hB hs0
      go_wp2
      go_ret
      exact ⟨_, rfl, HO.out.1, HO.out.2⟩
end Go.Proofs.YtdfnclnjnmdboaaGreatDoor
