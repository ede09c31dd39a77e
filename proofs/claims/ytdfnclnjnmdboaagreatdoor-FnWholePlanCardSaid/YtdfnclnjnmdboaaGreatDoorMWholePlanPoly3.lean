/- Lemmas and contracts for WholePlan (Poly3 Poly4 Poly5 Poly6): plain words on memory, contracts of the functions that the law reaches. No condition but what each states. -/
import Derived.Test.YtdfnclnjnmdboaaGreatDoorMWholePlanPoly1
import Derived.Test.YtdfnclnjnmdboaaGreatDoorMWholePlanApp
namespace Go.Proofs.YtdfnclnjnmdboaaGreatDoor
set_option linter.unusedVariables false
open Go.RowKit

theorem allIn_zero (xs : List Int) : allIn xs 0 = allZ xs := by
  unfold allIn allZ
  congr 1
  funext n
  rw [Bool.eq_iff_iff, inB_iff, beq_iff_eq]
  omega
set_option maxRecDepth 20000 in
theorem c_allZero (v : Value) (xs : List Int) (w : World) (ha : RdI w v xs) (hx : xs.length ≤ 1099511627776) :
    Calls Tryz.prog 51 #[v] w fun e w' => e = .returned (.bool (allZ xs)) ∧ Below w.heap.size w w' := by
  go_enter Tryz.func51, Tryz.ntmps51
  go_wp2_with (go_at_call 82; refine (c_allWithin _ xs _ _ ha hx (by omega) (by omega)).mono ?_; rw [allIn_zero]; rintro e w1 ⟨rfl, hB⟩)
  go_ret
  exact ⟨rfl, hB⟩
theorem allZ_take_succ (xs : List Int) (k : Nat) (hk : k < xs.length) : allZ (xs.take (k + 1)) = (allZ (xs.take k) && (xs.getD k 0 == 0)) := by
  rw [← allIn_zero, ← allIn_zero, allIn_take xs 0 k hk]
  congr 1
  rw [Bool.eq_iff_iff, inB_iff, beq_iff_eq]
  omega
set_option maxRecDepth 20000 in
theorem c_l2Zero (v : Value) (xs : List Int) (w : World) (ha : RdI w v xs) (hx : xs.length ≤ 1099511627776) :
    Calls Tryz.prog 142 #[v] w fun e w' => e = .returned (.bool (allZ xs)) ∧ Below w.heap.size w w' := by
  have ha0 := ha
  obtain ⟨a, cap, rfl, ha1⟩ := ha0
  clear ha1
  simp only [List.length_map] at ha ⊢
  go_enter Tryz.func142, Tryz.ntmps142
  go_wp2
  go_loopw [3] (fun i wr => ∃ k : Nat, k ≤ xs.length ∧ i = .int .i64 k ∧ allZ (xs.take k) = true ∧ Below w.heap.size w wr) (fun i _ => xs.length - (intOf i).toNat)
  case atStart => exact ⟨0, by omega, rfl, rfl, Below.refl _ _⟩
  case round =>
    obtain ⟨k, hk, rfl, hA, hB⟩ := hrel
    have HA : Hid (allZ (xs.take k) = true) := hA
    clear hA
    by_cases hlt : k < xs.length
    · obtain ⟨b1, o1, rfl, hb1, e1⟩ := RdI_cell ha hB hlt
      have HT : Hid _ := allZ_take_succ xs k hlt
      have HG : Hid (allZ xs = true → xs.getD k 0 = 0) := fun h => allZ_getD h k
      obtain ⟨x, hx1⟩ : ∃ x, xs.getD k 0 = x := ⟨_, rfl⟩
      rw [hx1] at e1
      by_cases hz : x = 0
      · subst hz
        have HO : Hid (allZ (xs.take (k + 1)) = true) := by show _ = _; rw [HT.out, HA.out, hx1]; rfl
        clear hx1 ha
        go_wp2
        go_roundw
        case rel => exact ⟨k + 1, by omega, by go_num, HO.out, hB⟩
        case measure => simp [intOf]; omega
      · have HO : Hid (allZ xs = false) := by
          show _ = _
          cases e : allZ xs
          · rfl
          · exact absurd (hx1.symm.trans (HG.out e)) hz
        have hz' : (x != 0) = true := by simpa using hz
        clear hx1 ha hz
        go_wp2
        go_ret
        exact ⟨ret_bool HO.out.symm, hB⟩
    · have HO : Hid (allZ xs = true) := by
        have h := HA.out
        rw [List.take_of_length_le (by omega)] at h
        exact h
      clear ha
      go_wp2
      go_ret
      exact ⟨ret_bool HO.out.symm, hB⟩

/-- a slice lies apart from a row that may grow -/
def AptV (r row : Value) : Prop := ∀ a n c, row = .slice (some a) n c → r.ownBlock ≠ some a.block
theorem RdL_grownO {w w' : World} {r v : Value} {xs : List Value} (h : RdL w v xs) (hg : w.grownBy w' r.ownBlock) (hne : AptV r v) : RdL w' v xs := by
  obtain ⟨a, cap, rfl, h⟩ := h
  refine ⟨a, cap, rfl, ?_⟩
  rcases h with h | ⟨b, off, rfl, hlt, h⟩
  · exact .inl h
  · refine .inr ⟨b, off, rfl, by have := hg.size; omega, fun i hi => ?_⟩
    have hb : w'.heap[b]? = w.heap[b]? := hg.block b hlt (fun e => hne _ _ _ rfl e.symm)
    rw [World.cell?_of_block (w := w) (a := ⟨b, off + i, none⟩) hb]
    exact h i hi
theorem AptV_new {w w' : World} {b0 e1 e2 n m : Nat} {r u : Value} {x1 x2 : List Value} (h : w.ownsRow b0 e1 1 r n x1) (hu : w'.ownsRow w.heap.size e2 1 u m x2) : AptV r u := by
  intro a n' c e hr
  have h1 := (h.lt _ hr).2
  have h2 : u.ownBlock = some a.block := by rw [e]; rfl
  have h3 := (hu.lt _ h2).1
  omega
theorem AptV_old {w w' : World} {e1 n : Nat} {r v : Value} {x1 xs : List Value} (h : w'.ownsRow w.heap.size e1 1 r n x1) (hv : ∀ a m c, v = .slice (some a) m c → a.block < w.heap.size) : AptV r v := by
  intro a m c e hr
  have h1 := (h.lt _ hr).1
  have h2 := hv a m c e
  omega
def AltV (w : World) (v : Value) : Prop := ∀ a m c, v = .slice (some a) m c → a.block < w.heap.size
def lenOf : Value → Nat
  | .slice _ n _ => n
  | _ => 0
theorem fd_take_succ (xs : List Int) (k : Nat) (h : k < xs.length) : (fd xs).take (k + 1) = (fd xs).take k ++ [(nxtN k xs).getD 0 0] := by
  rw [take_snoc_getD _ _ (by rw [fd_len]; exact h), fd_getD _ _ h]

set_option maxRecDepth 20000 in
theorem c_firstDifferences (v : Value) (xs : List Int) (w : World) (ha : RdI w v xs) (hx : xs.length ≤ 60) (hb : ∀ k, bdI (nxtN k xs)) :
    Calls Tryz.prog 119 #[v] w (FreshI w (fd xs)) := by
  have hv0 : xs.length = 0 ∨ AltV w v := by
    rcases ha with ⟨a, cap, rfl, h | ⟨b, off, rfl, hlt, h⟩⟩
    · exact .inl (by simpa using h)
    · exact .inr (fun a' m c e => by cases e; exact hlt)
  have ha0 := ha
  obtain ⟨a, cap, rfl, ha1⟩ := ha0
  clear ha1
  simp only [List.length_map] at ha hv0 ⊢
  have HB : Hid (∀ k, bdI (nxtN k xs)) := hb
  clear hb
  go_enter Tryz.func119, Tryz.ntmps119
  go_wp2_with (at_make; refine mkcap 32 3 Tryz.underlying32 infoInt (by decide) rfl _ _ rfl xs.length rfl rfl rfl (by omega) ?_; intro w2 ho2 hB2 hz2)
  go_loopw [3, 4] (fun r row wr => ∃ (k : Nat) (row' : List Int), k ≤ xs.length ∧ Hid (row' = nxtN k xs) ∧ row'.length = xs.length - k ∧ RdI wr row row' ∧ (row'.length = 0 ∨ AptV r row) ∧ OwnI wr w.heap.size r ((fd xs).take k) ∧ Below w.heap.size w wr) (fun _ row _ => lenOf row)
  case atStart => exact ⟨0, xs, by omega, rfl, by omega, ha.kept hB2, hv0.imp id (fun h => AptV_old ho2 (xs := []) h), ho2, hB2⟩
  case round =>
    obtain ⟨k, row', hk, HR, hrl, hr, hap, ho, hB⟩ := hrel
    clear ho2 hB2 ha hv0
    have hr0 := hr
    obtain ⟨a4, cap4, rfl, hr1⟩ := hr0
    clear hr1
    simp only [List.length_map] at hr hap ⊢
    by_cases hlt : k < xs.length
    · obtain ⟨b1, o1, rfl, hb1, e1⟩ := RdI_cell hr (Below.refl _ _) (k := 0) (by omega)
      have HF : Hid _ := fd_take_succ xs k hlt
      have hlen : ((fd xs).take k).length ≤ 60 := by rw [List.length_take]; omega
      obtain ⟨x, hx1⟩ : ∃ x, row'.getD 0 0 = x := ⟨_, rfl⟩
      rw [hx1] at e1
      obtain ⟨L, hL⟩ : ∃ L, (fd xs).take k = L := ⟨_, rfl⟩
      rw [hL] at ho hlen
      have HL : Hid ((fd xs).take (k + 1) = L ++ [x]) := by show _ = _; rw [HF.out, hL, ← HR.out, hx1]
      have hbd : bdI row' := by rw [HR.out]; exact HB.out k
      have hr10 : row'.length ≤ 1000 := by omega
      have HN : Hid (nxt row' = nxtN (k + 1) xs) := by show _ = _; rw [nxtN_succ, HR.out]
      have HNL : Hid ((nxt row').length = xs.length - (k + 1)) := by show _ = _; rw [nxt_len]; omega
      have HAP : Hid (AptV u3 (.slice (some ⟨b1, o1, none⟩) row'.length cap4)) := hap.resolve_left (by omega)
      obtain ⟨m, hm⟩ : ∃ m, row'.length = m + 1 := ⟨row'.length - 1, by omega⟩
      have hBs := hB.size
      have hc := fun W (hW : RdI W (.slice (some ⟨b1, o1, none⟩) row'.length cap4) row') => c_neighbors _ row' W hW hr10 hbd
      rw [hm] at hr hc HAP ⊢
      have HC : Hid _ := hc
      have HR2 : Hid _ := hr
      have HM2 : Hid (m + 1 = xs.length - k) := by show _ = _; omega
      have hm6 : m ≤ 60 := by omega
      clear hx1 hL HF hc hbd hrl hm hap hr
      rw [Nat.add_zero] at e1
      go_wp2_with (at_builtin; refine app1at 32 3 Tryz.underlying32 infoInt rfl (by decide) rfl _ _ rfl w.heap.size _ _ _ rfl ho rfl rfl ?c1 ?c2 ?_)
      case c1 => omega
      case c2 => exact hBs
      intro v' wn ho3 hg1 hin
      have HRn : Hid (RdI wn (.slice (some ⟨b1, o1, none⟩) (m + 1) cap4) row') := RdL_grownO HR2.out hg1 HAP.out
      have HO3 : Hid (OwnI wn w.heap.size v' ((fd xs).take (k + 1))) := by show OwnI _ _ _ _; rw [HL.out]; exact OwnI_snoc' rfl ho3
      have HBn : Hid (Below w.heap.size w wn) := hB.grown hg1 hBs (fun j hj => (ho.lt j hj).1)
      clear ho ho3 hg1 hB e1 hin
      go_wp2_with fail
      refine (HC.out _ HRn.out).mono ?_
      rintro e wm ⟨u, rfl, ho5, hB5⟩
      have HU : Hid (AptV v' u) := AptV_new HO3.out ho5
      have HF : Hid (RdI wm u (nxt row') ∧ OwnI wm w.heap.size v' ((fd xs).take (k + 1)) ∧ Below w.heap.size w wm) := ⟨owns_RdI ho5, ownsRow_kept_below HO3.out hB5, bthen HBn.out hB5⟩
      have HL2 : Hid (lenOf u = (nxt row').length) := by
        obtain ⟨a, cap, rfl, _⟩ := owns_RdI ho5
        show (List.map _ _).length = _
        simp
      clear ho5 hB5
      go_wp2
      go_roundw
      case rel => exact ⟨k + 1, nxt row', by omega, HN.out, HNL.out, HF.out.1, .inr HU.out, HF.out.2.1, HF.out.2.2⟩
      case measure => show lenOf u < _; rw [HL2.out, HNL.out]; have := HM2.out; simp [lenOf]; omega
    · have HO : Hid (OwnI wr w.heap.size u3 (fd xs) ∧ Below w.heap.size w wr) := by
        rw [List.take_of_length_le (by rw [fd_len]; omega)] at ho
        exact ⟨ho, hB⟩
      have g1 : row'.length = 0 := by omega
      clear ho hB hr
      go_wp2
      go_ret
      exact ⟨_, rfl, HO.out.1, HO.out.2⟩

set_option maxRecDepth 20000 in
theorem c_l2Diffs (v : Value) (xs : List Int) (w : World) (ha : RdI w v xs) (hx : xs.length ≤ 60) (hb : ∀ k, bdI (nxtN k xs)) :
    Calls Tryz.prog 162 #[v] w (FreshI w (fd xs)) := by
  have hv0 : xs.length = 0 ∨ AltV w v := by
    rcases ha with ⟨a, cap, rfl, h | ⟨b, off, rfl, hlt, h⟩⟩
    · exact .inl (by simpa using h)
    · exact .inr (fun a' m c e => by cases e; exact hlt)
  have ha0 := ha
  obtain ⟨a, cap, rfl, ha1⟩ := ha0
  clear ha1
  simp only [List.length_map] at ha hv0 ⊢
  have HB : Hid (∀ k, bdI (nxtN k xs)) := hb
  clear hb
  go_enter Tryz.func162, Tryz.ntmps162
  have ho2 := madeP0 w
  have hB2 : Below w.heap.size w (w.alloc (.cells #[] 3)) := (Below.refl _ _).alloc (Nat.le_refl _) _
  go_wp2
  go_loopw [0, 3] (fun row r wr => ∃ (k : Nat) (row' : List Int), k ≤ xs.length ∧ Hid (row' = nxtN k xs) ∧ row'.length = xs.length - k ∧ RdI wr row row' ∧ (row'.length = 0 ∨ AptV r row) ∧ OwnI wr w.heap.size r ((fd xs).take k) ∧ Below w.heap.size w wr) (fun row _ _ => lenOf row)
  case atStart => exact ⟨0, xs, by omega, rfl, by omega, ha.kept hB2, hv0.imp id (fun h => AptV_old ho2 (xs := []) h), ho2, hB2⟩
  case round =>
    obtain ⟨k, row', hk, HR, hrl, hr, hap, ho, hB⟩ := hrel
    clear ho2 hB2 ha hv0
    have hr0 := hr
    obtain ⟨a4, cap4, rfl, hr1⟩ := hr0
    clear hr1
    simp only [List.length_map] at hr hap ⊢
    by_cases hlt : k < xs.length
    · obtain ⟨b1, o1, rfl, hb1, e1⟩ := RdI_cell hr (Below.refl _ _) (k := 0) (by omega)
      have HF : Hid _ := fd_take_succ xs k hlt
      have hlen : ((fd xs).take k).length ≤ 60 := by rw [List.length_take]; omega
      obtain ⟨x, hx1⟩ : ∃ x, row'.getD 0 0 = x := ⟨_, rfl⟩
      rw [hx1] at e1
      obtain ⟨L, hL⟩ : ∃ L, (fd xs).take k = L := ⟨_, rfl⟩
      rw [hL] at ho hlen
      have HL : Hid ((fd xs).take (k + 1) = L ++ [x]) := by show _ = _; rw [HF.out, hL, ← HR.out, hx1]
      have hbd : bdI row' := by rw [HR.out]; exact HB.out k
      have hr10 : row'.length ≤ 1000 := by omega
      have HN : Hid (nxt row' = nxtN (k + 1) xs) := by show _ = _; rw [nxtN_succ, HR.out]
      have HNL : Hid ((nxt row').length = xs.length - (k + 1)) := by show _ = _; rw [nxt_len]; omega
      have HAP : Hid (AptV u3 (.slice (some ⟨b1, o1, none⟩) row'.length cap4)) := hap.resolve_left (by omega)
      obtain ⟨m, hm⟩ : ∃ m, row'.length = m + 1 := ⟨row'.length - 1, by omega⟩
      have hBs := hB.size
      have hc := fun W (hW : RdI W (.slice (some ⟨b1, o1, none⟩) row'.length cap4) row') => c_l2Next _ row' W hW hr10 hbd
      rw [hm] at hr hc HAP ⊢
      have HC : Hid _ := hc
      have HR2 : Hid _ := hr
      have HM2 : Hid (m + 1 = xs.length - k) := by show _ = _; omega
      have hm6 : m ≤ 60 := by omega
      clear hx1 hL HF hc hbd hrl hm hap hr
      rw [Nat.add_zero] at e1
      go_wp2_with (at_builtin; refine app1at 32 3 Tryz.underlying32 infoInt rfl (by decide) rfl _ _ rfl w.heap.size _ _ _ rfl ho rfl rfl ?c1 ?c2 ?_)
      case c1 => omega
      case c2 => exact hBs
      intro v' wn ho3 hg1 hin
      have HRn : Hid (RdI wn (.slice (some ⟨b1, o1, none⟩) (m + 1) cap4) row') := RdL_grownO HR2.out hg1 HAP.out
      have HO3 : Hid (OwnI wn w.heap.size v' ((fd xs).take (k + 1))) := by show OwnI _ _ _ _; rw [HL.out]; exact OwnI_snoc' rfl ho3
      have HBn : Hid (Below w.heap.size w wn) := hB.grown hg1 hBs (fun j hj => (ho.lt j hj).1)
      clear ho ho3 hg1 hB e1 hin
      go_wp2_with fail
      refine (HC.out _ HRn.out).mono ?_
      rintro e wm ⟨u, rfl, ho5, hB5⟩
      have HU : Hid (AptV v' u) := AptV_new HO3.out ho5
      have HF : Hid (RdI wm u (nxt row') ∧ OwnI wm w.heap.size v' ((fd xs).take (k + 1)) ∧ Below w.heap.size w wm) := ⟨owns_RdI ho5, ownsRow_kept_below HO3.out hB5, bthen HBn.out hB5⟩
      have HL2 : Hid (lenOf u = (nxt row').length) := by
        obtain ⟨a, cap, rfl, _⟩ := owns_RdI ho5
        show (List.map _ _).length = _
        simp
      clear ho5 hB5
      go_wp2
      go_roundw
      case rel => exact ⟨k + 1, nxt row', by omega, HN.out, HNL.out, HF.out.1, .inr HU.out, HF.out.2.1, HF.out.2.2⟩
      case measure => show lenOf u < _; rw [HL2.out, HNL.out]; have := HM2.out; simp [lenOf]; omega
    · have HO : Hid (OwnI wr w.heap.size u3 (fd xs) ∧ Below w.heap.size w wr) := by
        rw [List.take_of_length_le (by rw [fd_len]; omega)] at ho
        exact ⟨ho, hB⟩
      have g1 : row'.length = 0 := by omega
      clear ho hB hr
      go_wp2
      go_ret
      exact ⟨_, rfl, HO.out.1, HO.out.2⟩
end Go.Proofs.YtdfnclnjnmdboaaGreatDoor

namespace Go.Proofs.YtdfnclnjnmdboaaGreatDoor
set_option linter.unusedVariables false
open Go.RowKit

set_option maxRecDepth 20000 in
theorem c_checked_t (v : Value) (p : List Int) (w : World) (ha : RdI w v p) (hp : polyB p = true) :
    Calls Tryz.prog 72 #[v] w fun e w' => e = .returned (.tuple #[v, .bool true]) ∧ Below w.heap.size w w' := by
  have hl := (polyB_iff hp).2.1
  go_enter Tryz.func72, Tryz.ntmps72
  go_wp2_with fail
  refine (c_impl_PolyValid v p _ ha (by omega)).mono ?_
  rw [hp]
  rintro e w1 ⟨rfl, hB⟩
  go_wp2
  go_ret2
  exact ⟨rfl, hB⟩
set_option maxRecDepth 20000 in
theorem c_checked_f (v : Value) (p : List Int) (w : World) (ha : RdI w v p) (hx : p.length ≤ 1099511627776) (hp : polyB p = false) :
    Calls Tryz.prog 72 #[v] w fun e w' => e = .returned (.tuple #[.slice none 0 0, .bool false]) ∧ Below w.heap.size w w' := by
  go_enter Tryz.func72, Tryz.ntmps72
  go_wp2_with fail
  refine (c_impl_PolyValid v p _ ha hx).mono ?_
  rw [hp]
  rintro e w1 ⟨rfl, hB⟩
  go_wp2
  go_ret2
  exact ⟨rfl, hB⟩
/-- first differences that are a polynomial, or nothing -/
def resL (p : List Int) : List Int := if polyB p = true then p else []
set_option maxRecDepth 20000 in
theorem c_l2Result (v : Value) (xs : List Int) (w : World) (ha : RdI w v xs) (hx : xs.length ≤ 60) (hb : ∀ k, bdI (nxtN k xs)) :
    Calls Tryz.prog 144 #[v] w (FreshIB w (resL (fd xs)) (polyB (fd xs))) := by
  have hfl := fd_len xs
  obtain ⟨p, hp⟩ : ∃ p, fd xs = p := ⟨_, rfl⟩
  have hc := c_l2Diffs v xs w ha hx hb
  rw [hp] at hc hfl ⊢
  have hl : p.length ≤ 60 := by omega
  clear hp hfl hb ha
  cases hv : polyB p
  · have E : Hid (resL p = []) := if_neg (by rw [hv]; decide)
    go_enter Tryz.func144, Tryz.ntmps144
    go_wp2_with fail
    refine hc.mono ?_
    rintro e w1 ⟨u, rfl, ho, hB⟩
    go_wp2_with fail
    refine (c_spec_PolyValid u p _ (owns_RdI ho) (by omega)).mono ?_
    rw [hv]
    rintro e w2 ⟨rfl, hB2⟩
    have HF : Hid (FreshIB w (resL p) false (.returned (.tuple #[.slice (some ⟨w2.heap.size, 0, none⟩) 0 0, .bool false])) (w2.alloc (.cells #[] 3))) := by
      refine ⟨_, rfl, ?_, ?_⟩
      · rw [E.out]
        exact ownsRow_mono (madeP0 w2) (by have := hB.size; have := hB2.size; omega)
      · exact bthen (bthen hB hB2) ((Below.refl _ _).alloc (Nat.le_refl _) _)
    clear hB hB2 ho hc
    go_wp2
    go_ret2
    exact HF.out
  · have E : Hid (resL p = p) := if_pos hv
    go_enter Tryz.func144, Tryz.ntmps144
    go_wp2_with fail
    refine hc.mono ?_
    rintro e w1 ⟨u, rfl, ho, hB⟩
    go_wp2_with fail
    refine (c_spec_PolyValid u p _ (owns_RdI ho) (by omega)).mono ?_
    rw [hv]
    rintro e w2 ⟨rfl, hB2⟩
    have HF : Hid (FreshIB w (resL p) true (.returned (.tuple #[u, .bool true])) w2) := by
      refine ⟨_, rfl, ?_, bthen hB hB2⟩
      rw [E.out]
      exact ownsRow_kept_below ho hB2
    clear hB hB2 ho hc
    go_wp2
    go_ret2
    exact HF.out

/-- the least degree, -2 if the numbers are no table -/
def ldF (xs : List Int) : Int := if tabB xs = true then ld xs else -2
theorem tabB_bd {xs : List Int} (h : tabB xs = true) : ∀ k, k ≤ 7 → bdI (nxtN k xs) := by
  intro k hk i
  obtain ⟨_, _, h3⟩ := tabB_iff h
  have hg : ∀ i, -1000000000 ≤ xs.getD i 0 ∧ xs.getD i 0 ≤ 1000000000 := fun i => by
    by_cases hi : i < xs.length
    · exact allIn_get h3 hi
    · simp [List.getD, Nat.le_of_not_lt hi]
  have h1 := nxtN_bd 1000000000 (by decide) k xs hg i
  have h2 : (2 : Int) ^ k ≤ 2 ^ 7 := pow_mono_right (by omega) hk
  have h3 : (2 : Int) ^ 7 = 128 := by decide
  omega
theorem ldN_z {f : Nat} {k : Int} {l : List Int} (h : allZ l = true) : ldN (f + 1) k l = k := if_pos h
theorem ldN_n {f : Nat} {k : Int} {l : List Int} (h : allZ l = false) : ldN (f + 1) k l = ldN f (k + 1) (nxt l) := if_neg (by rw [h]; decide)

set_option maxRecDepth 20000 in
set_option maxHeartbeats 400000 in
theorem c_impl_LeastDegree (v : Value) (xs : List Int) (w : World) (ha : RdI w v xs) (hx : xs.length ≤ 1099511627776) :
    Calls Tryz.prog 91 #[v] w fun e w' => e = .returned (.int .i64 (ldF xs)) ∧ Below w.heap.size w w' := by
  have hct := c_impl_TableValid v xs w ha hx
  cases hv : tabB xs
  · have E : Hid (ldF xs = -2) := if_neg (by rw [hv]; decide)
    rw [hv] at hct
    clear hv
    go_enter Tryz.func91, Tryz.ntmps91
    go_wp2_with fail
    refine hct.mono ?_
    rintro e w1 ⟨rfl, hB1⟩
    go_wp2
    go_ret
    exact ⟨ret_int E.out.symm, hB1⟩
  · have E : Hid (ldF xs = ldN 8 (-1) xs) := if_pos hv
    have HB : Hid (∀ k, k ≤ 7 → bdI (nxtN k xs)) := tabB_bd hv
    have hx60 := (tabB_iff hv).2.1
    rw [hv] at hct
    clear hv
    go_enter Tryz.func91, Tryz.ntmps91
    go_wp2_with fail
    refine hct.mono ?_
    rintro e w1 ⟨rfl, hB1⟩
    have har := ha.kept hB1
    clear ha hct
    go_wp2
    go_loopw [3, 4] (fun row i wr => ∃ (j : Nat) (row' : List Int), j ≤ 8 ∧ i = .int .i64 ((j : Int) - 1) ∧ Hid (row' = nxtN j xs) ∧ row'.length ≤ 60 ∧ RdI wr row row' ∧ Hid (ldF xs = ldN (8 - j) ((j : Int) - 1) row') ∧ Below w.heap.size w wr) (fun _ i _ => (7 - intOf i).toNat)
    case atStart => exact ⟨0, xs, by omega, rfl, rfl, by omega, har, E.out, hB1⟩
    case round =>
      obtain ⟨j, row', hj, rfl, HR, hrl, hr, HL, hB⟩ := hrel
      clear har hB1 E
      by_cases hlt : j < 8
      · have hr6 : row'.length ≤ 1099511627776 := by omega
        have h8 : 8 - j = (8 - (j + 1)) + 1 := by omega
        have hL := HL.out
        rw [h8] at hL
        have hbd : bdI row' := by rw [HR.out]; exact HB.out j (by omega)
        have HN : Hid (nxt row' = nxtN (j + 1) xs) := by show _ = _; rw [nxtN_succ, HR.out]
        have HNL : Hid ((nxt row').length ≤ 60) := by show _ ≤ _; rw [nxt_len]; omega
        have hz := c_allZero u3 row' wr hr hr6
        cases hzz : allZ row'
        · have HL2 : Hid (ldF xs = ldN (8 - (j + 1)) (((j + 1 : Nat) : Int) - 1) (nxt row')) := by
            show _ = _
            rw [hL, ldN_n hzz]
            congr 1
            push_cast; omega
          have HC : Hid (∀ W, RdI W u3 row' → Calls Tryz.prog 94 #[u3] W (FreshI W (nxt row'))) := fun W hW => c_neighbors u3 row' W hW (by omega) hbd
          rw [hzz] at hz
          clear hL hbd hzz h8 HL HR
          go_wp2_with fail
          refine hz.mono ?_
          rintro e w2 ⟨rfl, hB2⟩
          replace hr := hr.kept hB2
          replace hB := bthen hB hB2
          clear hB2 hz
          go_wp2_with fail
          refine (HC.out _ hr).mono ?_
          rintro e w3 ⟨u, rfl, ho, hB3⟩
          have HO : Hid (RdI w3 u (nxt row') ∧ Below w.heap.size w w3) := ⟨owns_RdI ho, bthen hB hB3⟩
          clear ho hB3 hB hr
          go_wp2
          go_roundw
          case rel => exact ⟨j + 1, nxt row', by omega, by go_num, HN.out, HNL.out, HO.out.1, HL2.out, HO.out.2⟩
          case measure => simp [intOf]; omega
        · have HE : Hid (ldF xs = (j : Int) - 1) := by show _ = _; rw [hL, ldN_z hzz]
          rw [hzz] at hz
          clear hL hbd hzz h8 HL HR HB
          go_wp2_with fail
          refine hz.mono ?_
          rintro e w2 ⟨rfl, hB2⟩
          replace hB := bthen hB hB2
          clear hB2 hz hr
          go_wp2
          go_ret
          exact ⟨ret_int HE.out.symm, hB⟩
      · have HE : Hid (ldF xs = 7) := by
          have : j = 8 := by omega
          subst this
          exact HL.out
        clear hr
        go_wp2
        go_ret
        exact ⟨ret_int HE.out.symm, hB⟩
set_option maxRecDepth 20000 in
set_option maxHeartbeats 400000 in
theorem c_spec_LeastDegree (v : Value) (xs : List Int) (w : World) (ha : RdI w v xs) (hx : xs.length ≤ 1099511627776) :
    Calls Tryz.prog 110 #[v] w fun e w' => e = .returned (.int .i64 (ldF xs)) ∧ Below w.heap.size w w' := by
  have hct := c_spec_TableValid v xs w ha hx
  cases hv : tabB xs
  · have E : Hid (ldF xs = -2) := if_neg (by rw [hv]; decide)
    rw [hv] at hct
    clear hv
    go_enter Tryz.func110, Tryz.ntmps110
    go_wp2_with fail
    refine hct.mono ?_
    rintro e w1 ⟨rfl, hB1⟩
    go_wp2
    go_ret
    exact ⟨ret_int E.out.symm, hB1⟩
  · have E : Hid (ldF xs = ldN 8 (-1) xs) := if_pos hv
    have HB : Hid (∀ k, k ≤ 7 → bdI (nxtN k xs)) := tabB_bd hv
    have hx60 := (tabB_iff hv).2.1
    rw [hv] at hct
    clear hv
    go_enter Tryz.func110, Tryz.ntmps110
    go_wp2_with fail
    refine hct.mono ?_
    rintro e w1 ⟨rfl, hB1⟩
    have har := ha.kept hB1
    clear ha hct
    go_wp2
    go_loopw [3, 4] (fun row i wr => ∃ (j : Nat) (row' : List Int), j ≤ 7 ∧ i = .int .i64 ((j : Int) - 1) ∧ Hid (row' = nxtN j xs) ∧ row'.length ≤ 60 ∧ RdI wr row row' ∧ Hid (ldF xs = ldN (8 - j) ((j : Int) - 1) row') ∧ Below w.heap.size w wr) (fun _ i _ => (7 - intOf i).toNat)
    case atStart => exact ⟨0, xs, by omega, rfl, rfl, by omega, har, E.out, hB1⟩
    case round =>
      obtain ⟨j, row', hj, rfl, HR, hrl, hr, HL, hB⟩ := hrel
      clear har hB1 E
      by_cases hlt : j < 7
      · have hr6 : row'.length ≤ 1099511627776 := by omega
        have h8 : 8 - j = (8 - (j + 1)) + 1 := by omega
        have hL := HL.out
        rw [h8] at hL
        have hbd : bdI row' := by rw [HR.out]; exact HB.out j (by omega)
        have HN : Hid (nxt row' = nxtN (j + 1) xs) := by show _ = _; rw [nxtN_succ, HR.out]
        have HNL : Hid ((nxt row').length ≤ 60) := by show _ ≤ _; rw [nxt_len]; omega
        have hz := c_l2Zero u3 row' wr hr hr6
        cases hzz : allZ row'
        · have HL2 : Hid (ldF xs = ldN (8 - (j + 1)) (((j + 1 : Nat) : Int) - 1) (nxt row')) := by
            show _ = _
            rw [hL, ldN_n hzz]
            congr 1
            push_cast; omega
          have HC : Hid (∀ W, RdI W u3 row' → Calls Tryz.prog 143 #[u3] W (FreshI W (nxt row'))) := fun W hW => c_l2Next u3 row' W hW (by omega) hbd
          rw [hzz] at hz
          clear hL hbd hzz h8 HL HR
          go_wp2_with fail
          refine hz.mono ?_
          rintro e w2 ⟨rfl, hB2⟩
          replace hr := hr.kept hB2
          replace hB := bthen hB hB2
          clear hB2 hz
          go_wp2_with fail
          refine (HC.out _ hr).mono ?_
          rintro e w3 ⟨u, rfl, ho, hB3⟩
          have HO : Hid (RdI w3 u (nxt row') ∧ Below w.heap.size w w3) := ⟨owns_RdI ho, bthen hB hB3⟩
          clear ho hB3 hB hr
          go_wp2
          go_roundw
          case rel => exact ⟨j + 1, nxt row', by omega, by go_num, HN.out, HNL.out, HO.out.1, HL2.out, HO.out.2⟩
          case measure => simp [intOf]; omega
        · have HE : Hid (ldF xs = (j : Int) - 1) := by show _ = _; rw [hL, ldN_z hzz]
          rw [hzz] at hz
          clear hL hbd hzz h8 HL HR HB
          go_wp2_with fail
          refine hz.mono ?_
          rintro e w2 ⟨rfl, hB2⟩
          replace hB := bthen hB hB2
          clear hB2 hz hr
          go_wp2
          go_ret
          exact ⟨ret_int HE.out.symm, hB⟩
      · obtain rfl : j = 7 := by omega
        have hr6 : row'.length ≤ 1099511627776 := by omega
        have hz := c_l2Zero u3 row' wr hr hr6
        have hL := HL.out
        cases hzz : allZ row'
        all_goals
          have HE : Hid (ldF xs = if allZ row' = true then 6 else 7) := by
            show _ = _
            rw [hL]
            rfl
          rw [hzz] at hz HE
          clear hL hzz HL HR HB
          go_wp2_with fail
          refine hz.mono ?_
          rintro e w2 ⟨rfl, hB2⟩
          replace hB := bthen hB hB2
          clear hB2 hz hr
          go_wp2
          go_ret
          exact ⟨ret_int HE.out.symm, hB⟩

/-- the polynomial with a table -/
def intB (xs : List Int) : Bool := tabB xs && decide (ld xs ≤ 6) && polyB (ip xs)
def intL (xs : List Int) : List Int := if intB xs = true then ip xs else []
theorem ipN_max {xs : List Int} : max (ld xs) 0 = ((iplN xs - 1 : Nat) : Int) := by have := ld_bd xs; unfold iplN; omega
theorem ipN_max1 {xs : List Int} : max (ld xs + 1) 1 = ((iplN xs : Nat) : Int) := by have := ld_bd xs; unfold iplN; omega
theorem take_bd {xs : List Int} (h : tabB xs = true) (m : Nat) (hm : m ≤ 7) : ∀ k, bdI (nxtN k (xs.take m)) := by
  intro k i
  by_cases hk : k ≤ 7
  · rw [nxtN_take]
    by_cases hi : i < m - k
    · rw [getD_take _ _ _ hi]; exact tabB_bd h k hk i
    · have : ((nxtN k xs).take (m - k)).getD i 0 = 0 := by simp [List.getD, List.getElem?_take, hi]
      rw [this]; simp
  · have : nxtN k (xs.take m) = [] := List.eq_nil_of_length_eq_zero (by rw [nxtN_len, List.length_take]; omega)
    rw [this]; simp
theorem RdI_take {w : World} {a : Option Addr} {n cap k : Nat} {xs : List Int} (h : RdI w (.slice a n cap) xs) (hk : k ≤ xs.length) : RdI w (.slice a k cap) (xs.take k) := by
  have hn : n = xs.length := by
    obtain ⟨a2, c2, e, _⟩ := h
    simp only [Value.slice.injEq, List.length_map] at e
    exact e.2.1
  subst hn
  obtain ⟨a2, c2, e, h⟩ := h
  simp only [Value.slice.injEq, List.length_map, true_and] at e
  obtain ⟨rfl, rfl⟩ := e
  refine ⟨a, cap, by simp [Nat.min_eq_left hk], ?_⟩
  rcases h with h | ⟨b, off, rfl, hlt, h⟩
  · exact .inl (by rw [List.map_eq_nil_iff] at h ⊢; rw [h]; simp)
  · refine .inr ⟨b, off, rfl, hlt, fun i hi => ?_⟩
    have hi' : i < k ∧ i < xs.length := by simp at hi; omega
    rw [h i (by simpa using hi'.2)]
    simp [hi'.1]

set_option maxRecDepth 20000 in
set_option maxHeartbeats 400000 in
theorem c_impl_Interpolate (v : Value) (xs : List Int) (w : World) (ha : RdI w v xs) (hcap : CapOk v) (hx : xs.length ≤ 1099511627776) :
    Calls Tryz.prog 92 #[v] w (FreshIB w (intL xs) (intB xs)) := by
  have hld := c_impl_LeastDegree v xs w ha hx
  have ha0 := ha
  obtain ⟨a, cap, rfl, ha1⟩ := ha0
  clear ha1
  simp only [List.length_map] at ha hld hcap ⊢
  have hcc : xs.length ≤ cap := hcap _ _ _ rfl
  by_cases hv : tabB xs = true ∧ ld xs ≤ 6
  · obtain ⟨hv1, hv2⟩ := hv
    have E : Hid (intB xs = polyB (ip xs) ∧ intL xs = resL (ip xs)) := by
      have h : intB xs = polyB (ip xs) := by unfold intB; rw [hv1, decide_eq_true hv2]; rfl
      refine ⟨h, ?_⟩
      unfold intL resL; rw [h]
    have e1 : ldF xs = ld xs := if_pos hv1
    have hm := ipN_max (xs := xs)
    have hbd := ld_bd xs
    have hlen := (tabB_iff hv1).1
    have hle := ipN_le hlen hv2
    have hb := take_bd hv1 (iplN xs) (by unfold iplN; omega)
    have hi1 := (ipN_bd xs).1
    obtain ⟨m, hN⟩ : ∃ m, iplN xs = m + 1 := ⟨iplN xs - 1, by omega⟩
    have hfd : fd (xs.take (m + 1)) = ip xs := by unfold ip; rw [hN]
    have hrt := fun W (h : RdI W (.slice a xs.length cap) xs) => RdI_take h (k := m + 1) (by omega)
    have hm6 : m ≤ 6 := by unfold iplN at hN; omega
    rw [hN] at hm hb hle
    rw [e1] at hld
    have HC : Hid (∀ W K, K = m + 1 → RdI W (.slice a xs.length cap) xs → Calls Tryz.prog 119 #[.slice a K cap] W (FreshI W (ip xs))) := by
      show ∀ W K, _ → _
      rintro W K rfl h
      have := c_firstDifferences _ (xs.take (m + 1)) W (hrt W h) (by simp; omega) hb
      rwa [hfd] at this
    have HPL : Hid ((ip xs).length ≤ 7) := by show _ ≤ _; rw [ip_len hlen hv2, hN]; omega
    obtain ⟨D, hD⟩ : ∃ D, ld xs = D := ⟨_, rfl⟩
    rw [hD] at hld hm hv2 hbd
    have b1 : (D == -2) = false := beq_eq_false_iff_ne.2 (by omega)
    have hcc2 : m + 1 ≤ cap := by omega
    obtain ⟨p, hp⟩ : ∃ p, ip xs = p := ⟨_, rfl⟩
    rw [hp] at E HC HPL
    have hm2 : max D 0 = (m : Int) := by rw [hm]; simp
    have HX : Hid (RdI w (.slice a xs.length cap) xs) := ha
    clear hD hN hm hb hle hrt hfd e1 hv1 hi1 hlen hcap hx hcc ha hp
    cases hpb : polyB p
    · have HCK : Hid (∀ u W, RdI W u p → Calls Tryz.prog 72 #[u] W fun e w' => e = .returned (.tuple #[.slice none 0 0, .bool false]) ∧ Below W.heap.size W w') := fun u W h => c_checked_f u p W h (by have := HPL.out; omega) hpb
      have HR : Hid (intB xs = false ∧ intL xs = []) := ⟨by rw [E.out.1, hpb], by rw [E.out.2]; exact if_neg (by rw [hpb]; decide)⟩
      clear hpb E
      go_enter Tryz.func92, Tryz.ntmps92
      go_wp2_with fail
      refine hld.mono ?_
      rintro e w1 ⟨rfl, hB1⟩
      have hx1 := HX.out.kept hB1
      clear hld
      go_wp2_with fail
      all_goals
        refine (HC.out _ _ (by omega) hx1).mono ?_
        rintro e w2 ⟨u, rfl, ho, hB2⟩
        have ho2 := owns_RdI ho
        go_wp2_with fail
        refine (HCK.out _ _ ho2).mono ?_
        rintro e w3 ⟨rfl, hB3⟩
        have HF : Hid (FreshIB w (intL xs) (intB xs) (.returned (.tuple #[.slice none 0 0, .bool false])) w3) :=
          ⟨_, by rw [HR.out.1], by rw [HR.out.2]; exact World.ownsRow_nil _ _ _ _, bthen (bthen hB1 hB2) hB3⟩
        clear ho ho2 hB1 hB2 hB3 hx1
        go_wp2
        go_ret2
        exact HF.out
    · have HCK : Hid (∀ u W, RdI W u p → Calls Tryz.prog 72 #[u] W fun e w' => e = .returned (.tuple #[u, .bool true]) ∧ Below W.heap.size W w') := fun u W h => c_checked_t u p W h hpb
      have HR : Hid (intB xs = true ∧ intL xs = p) := ⟨by rw [E.out.1, hpb], by rw [E.out.2]; exact if_pos hpb⟩
      clear hpb E
      go_enter Tryz.func92, Tryz.ntmps92
      go_wp2_with fail
      refine hld.mono ?_
      rintro e w1 ⟨rfl, hB1⟩
      have hx1 := HX.out.kept hB1
      clear hld
      go_wp2_with fail
      all_goals
        refine (HC.out _ _ (by omega) hx1).mono ?_
        rintro e w2 ⟨u, rfl, ho, hB2⟩
        have ho2 := owns_RdI ho
        go_wp2_with fail
        refine (HCK.out _ _ ho2).mono ?_
        rintro e w3 ⟨rfl, hB3⟩
        have HF : Hid (FreshIB w (intL xs) (intB xs) (.returned (.tuple #[u, .bool true])) w3) :=
          ⟨_, by rw [HR.out.1], by rw [HR.out.2]; exact ownsRow_mono (ownsRow_kept_below ho hB3) hB1.size, bthen (bthen hB1 hB2) hB3⟩
        clear ho ho2 hB1 hB2 hB3 hx1
        go_wp2
        go_ret2
        exact HF.out
  · have HR : Hid (intB xs = false ∧ intL xs = []) := by
      have h : intB xs = false := by
        cases e : intB xs
        · rfl
        · unfold intB at e
          simp only [Bool.and_eq_true, decide_eq_true_eq] at e
          exact absurd e.1 hv
      exact ⟨h, if_neg (by rw [h]; decide)⟩
    have hd : ldF xs = -2 ∨ (ldF xs ≠ -2 ∧ 6 < ldF xs) := by
      unfold ldF
      by_cases h : tabB xs = true
      · rw [if_pos h]; have := ld_bd xs; have : ¬ ld xs ≤ 6 := fun q => hv ⟨h, q⟩; right; omega
      · rw [if_neg h]; left; rfl
    obtain ⟨D, hD⟩ : ∃ D, ldF xs = D := ⟨_, rfl⟩
    rw [hD] at hld hd
    clear hD hv hcap ha hx
    rcases hd with h | ⟨h, h2⟩
    · have b1 : (D == -2) = true := beq_iff_eq.2 h
      clear h
      go_enter Tryz.func92, Tryz.ntmps92
      go_wp2_with fail
      refine hld.mono ?_
      rintro e w1 ⟨rfl, hB1⟩
      have HF : Hid (FreshIB w (intL xs) (intB xs) (.returned (.tuple #[.slice none 0 0, .bool false])) w1) :=
        ⟨_, by rw [HR.out.1], by rw [HR.out.2]; exact World.ownsRow_nil _ _ _ _, hB1⟩
      clear hld hB1
      go_wp2
      go_ret2
      exact HF.out
    · have b1 : (D == -2) = false := beq_eq_false_iff_ne.2 h
      clear h
      go_enter Tryz.func92, Tryz.ntmps92
      go_wp2_with fail
      refine hld.mono ?_
      rintro e w1 ⟨rfl, hB1⟩
      have HF : Hid (FreshIB w (intL xs) (intB xs) (.returned (.tuple #[.slice none 0 0, .bool false])) w1) :=
        ⟨_, by rw [HR.out.1], by rw [HR.out.2]; exact World.ownsRow_nil _ _ _ _, hB1⟩
      clear hld hB1
      go_wp2
      go_ret2
      exact HF.out
end Go.Proofs.YtdfnclnjnmdboaaGreatDoor

namespace Go.Proofs.YtdfnclnjnmdboaaGreatDoor
set_option linter.unusedVariables false
open Go.RowKit

theorem intB_no {xs : List Int} (h : ¬ (tabB xs = true ∧ ld xs ≤ 6)) : intB xs = false ∧ intL xs = [] := by
  have h : intB xs = false := by
    cases e : intB xs
    · rfl
    · unfold intB at e
      simp only [Bool.and_eq_true, decide_eq_true_eq] at e
      exact absurd e.1 h
  exact ⟨h, if_neg (by rw [h]; decide)⟩
set_option maxRecDepth 20000 in
set_option maxHeartbeats 400000 in
theorem c_spec_Interpolate (v : Value) (xs : List Int) (w : World) (ha : RdI w v xs) (hcap : CapOk v) (hx : xs.length ≤ 1099511627776) :
    Calls Tryz.prog 111 #[v] w (FreshIB w (intL xs) (intB xs)) := by
  have hld := c_spec_LeastDegree v xs w ha hx
  have ha0 := ha
  obtain ⟨a, cap, rfl, ha1⟩ := ha0
  clear ha1
  simp only [List.length_map] at ha hld hcap ⊢
  have hcc : xs.length ≤ cap := hcap _ _ _ rfl
  by_cases hv : tabB xs = true ∧ ld xs ≤ 6
  · obtain ⟨hv1, hv2⟩ := hv
    have E : Hid (intB xs = polyB (ip xs) ∧ intL xs = resL (ip xs)) := by
      have h : intB xs = polyB (ip xs) := by unfold intB; rw [hv1, decide_eq_true hv2]; rfl
      refine ⟨h, ?_⟩
      unfold intL resL; rw [h]
    have e1 : ldF xs = ld xs := if_pos hv1
    have hm := ipN_max1 (xs := xs)
    have hbd := ld_bd xs
    have hlen := (tabB_iff hv1).1
    have hle := ipN_le hlen hv2
    have hb := take_bd hv1 (iplN xs) (by unfold iplN; omega)
    have hm7 : iplN xs ≤ 7 := by unfold iplN; omega
    have hrt := fun W (h : RdI W (.slice a xs.length cap) xs) => RdI_take h (k := iplN xs) hle
    have hfd : fd (xs.take (iplN xs)) = ip xs := rfl
    obtain ⟨m, hN⟩ : ∃ m, iplN xs = m := ⟨_, rfl⟩
    rw [hN] at hm hb hle hm7 hrt hfd
    rw [e1] at hld
    have HC : Hid (∀ W K, K = m → RdI W (.slice a xs.length cap) xs → Calls Tryz.prog 144 #[.slice a K cap] W (FreshIB W (intL xs) (intB xs))) := by
      show ∀ W K, _ → _
      rintro W K rfl h
      have := c_l2Result _ (xs.take K) W (hrt W h) (by simp; omega) hb
      rw [hfd] at this
      rw [E.out.1, E.out.2]
      exact this
    obtain ⟨D, hD⟩ : ∃ D, ld xs = D := ⟨_, rfl⟩
    rw [hD] at hld hm hv2 hbd
    have b1 : inB D (-1) 6 = true := inB_t (by omega) (by omega)
    have hcc2 : m ≤ cap := by omega
    have HX : Hid (RdI w (.slice a xs.length cap) xs) := ha
    clear hD hN hb hle hrt hfd e1 hv1 hlen hcap hx hcc ha E
    go_enter Tryz.func111, Tryz.ntmps111
    go_wp2_with fail
    refine hld.mono ?_
    rintro e w1 ⟨rfl, hB1⟩
    have hx1 := HX.out.kept hB1
    clear hld
    go_wp2_with (go_at_call 60; refine (c_l1In _ _ _ _).mono ?_; rintro e w' ⟨rfl, rfl⟩)
    all_goals
      refine (HC.out _ _ (by omega) hx1).mono ?_
      rintro e w2 ⟨u, rfl, ho, hB2⟩
      have HF : Hid (FreshIB w (intL xs) (intB xs) (.returned (.tuple #[u, .bool (intB xs)])) w2) := ⟨_, rfl, ownsRow_mono ho hB1.size, bthen hB1 hB2⟩
      clear ho hB1 hB2 hx1
      go_wp2
      go_ret2
      exact HF.out
  · have HR : Hid (intB xs = false ∧ intL xs = []) := intB_no hv
    have hd : ldF xs < -1 ∨ 6 < ldF xs := by
      unfold ldF
      by_cases h : tabB xs = true
      · rw [if_pos h]; have := ld_bd xs; have : ¬ ld xs ≤ 6 := fun q => hv ⟨h, q⟩; omega
      · rw [if_neg h]; left; decide
    obtain ⟨D, hD⟩ : ∃ D, ldF xs = D := ⟨_, rfl⟩
    rw [hD] at hld hd
    have b1 : inB D (-1) 6 = false := inB_f (by omega)
    clear hD hv hcap ha hx hd
    go_enter Tryz.func111, Tryz.ntmps111
    go_wp2_with fail
    refine hld.mono ?_
    rintro e w1 ⟨rfl, hB1⟩
    have HF : Hid (FreshIB w (intL xs) (intB xs) (.returned (.tuple #[.slice (some ⟨w1.heap.size, 0, none⟩) 0 0, .bool false])) (w1.alloc (.cells #[] 3))) :=
      ⟨_, by rw [HR.out.1], by rw [HR.out.2]; exact ownsRow_mono (madeP0 w1) hB1.size, bthen hB1 ((Below.refl _ _).alloc (Nat.le_refl _) _)⟩
    clear hld hB1
    go_wp2_with (go_at_call 60; refine (c_l1In _ _ _ _).mono ?_; rintro e w' ⟨rfl, rfl⟩)
    go_ret2
    exact HF.out

/-- a run of a degree -/
def runB (xs : List Int) (d : Int) : Bool := tabB xs && decide (ld xs ≤ d) && intB xs
def runL (xs : List Int) (d : Int) : List Int := if runB xs d = true then ip xs else []
theorem runB_int {xs : List Int} {d : Int} (h : ldF xs ≤ d) : runB xs d = intB xs ∧ runL xs d = intL xs := by
  have e : runB xs d = intB xs := by
    unfold runB
    by_cases hv : tabB xs = true
    · unfold ldF at h
      rw [if_pos hv] at h
      rw [hv, decide_eq_true h]; rfl
    · have : intB xs = false := by unfold intB; simp [hv]
      rw [this, Bool.and_false]
  exact ⟨e, by unfold runL intL; rw [e]⟩
theorem runB_no {xs : List Int} {d : Int} (h : ldF xs = -2 ∨ d < ldF xs) : runB xs d = false ∧ runL xs d = [] := by
  have e : runB xs d = false := by
    unfold runB
    by_cases hv : tabB xs = true
    · unfold ldF at h
      rw [if_pos hv] at h
      have := ld_bd xs
      rw [decide_eq_false (by omega)]; simp
    · simp [hv]
  exact ⟨e, by unfold runL; rw [e]; rfl⟩

set_option maxRecDepth 20000 in
theorem c_l5Run (v : Value) (xs : List Int) (d : Int) (w : World) (ha : RdI w v xs) (hcap : CapOk v) (hx : xs.length ≤ 1099511627776) :
    Calls Tryz.prog 86 #[v, (.int .i64 (d))] w (FreshIB w (runL xs d) (runB xs d)) := by
  have hld := c_spec_LeastDegree v xs w ha hx
  have HC : Hid (∀ W, RdI W v xs → Calls Tryz.prog 111 #[v] W (FreshIB W (intL xs) (intB xs))) := fun W h => c_spec_Interpolate v xs W h hcap hx
  by_cases h : ldF xs ≤ d
  · have E : Hid _ := runB_int h
    obtain ⟨D, hD⟩ : ∃ D, ldF xs = D := ⟨_, rfl⟩
    rw [hD] at hld h
    clear hcap hx hD
    go_enter Tryz.func86, Tryz.ntmps86
    go_wp2_with fail
    refine hld.mono ?_
    rintro e w1 ⟨rfl, hB1⟩
    have hx1 := ha.kept hB1
    clear hld ha
    go_wp2_with fail
    refine (HC.out _ hx1).mono ?_
    rintro e w2 ⟨u, rfl, ho, hB2⟩
    have HF : Hid (FreshIB w (runL xs d) (runB xs d) (.returned (.tuple #[u, .bool (intB xs)])) w2) := ⟨_, by rw [E.out.1], by rw [E.out.2]; exact ownsRow_mono ho hB1.size, bthen hB1 hB2⟩
    clear ho hB1 hB2 hx1
    go_wp2
    go_ret2
    exact HF.out
  · have E : Hid _ := runB_no (xs := xs) (d := d) (.inr (by omega))
    obtain ⟨D, hD⟩ : ∃ D, ldF xs = D := ⟨_, rfl⟩
    rw [hD] at hld h
    clear hcap hx hD ha
    go_enter Tryz.func86, Tryz.ntmps86
    go_wp2_with fail
    refine hld.mono ?_
    rintro e w1 ⟨rfl, hB1⟩
    have HF : Hid (FreshIB w (runL xs d) (runB xs d) (.returned (.tuple #[.slice (some ⟨w1.heap.size, 0, none⟩) 0 0, .bool false])) (w1.alloc (.cells #[] 3))) :=
      ⟨_, by rw [E.out.1], by rw [E.out.2]; exact ownsRow_mono (madeP0 w1) hB1.size, bthen hB1 ((Below.refl _ _).alloc (Nat.le_refl _) _)⟩
    clear hld hB1
    go_wp2
    go_ret2
    exact HF.out

set_option maxRecDepth 20000 in
theorem c_runOf (v : Value) (xs : List Int) (d : Int) (w : World) (ha : RdI w v xs) (hcap : CapOk v) (hx : xs.length ≤ 1099511627776) :
    Calls Tryz.prog 49 #[v, (.int .i64 (d))] w (FreshIB w (runL xs d) (runB xs d)) := by
  have hld := c_impl_LeastDegree v xs w ha hx
  have HC : Hid (∀ W, RdI W v xs → Calls Tryz.prog 92 #[v] W (FreshIB W (intL xs) (intB xs))) := fun W h => c_impl_Interpolate v xs W h hcap hx
  by_cases h : ldF xs ≠ -2 ∧ ldF xs ≤ d
  · have E : Hid _ := runB_int h.2
    obtain ⟨D, hD⟩ : ∃ D, ldF xs = D := ⟨_, rfl⟩
    rw [hD] at hld h
    obtain ⟨h1, h2⟩ := h
    have b1 : (D == -2) = false := beq_eq_false_iff_ne.2 h1
    clear hcap hx hD h1
    go_enter Tryz.func49, Tryz.ntmps49
    go_wp2_with fail
    refine hld.mono ?_
    rintro e w1 ⟨rfl, hB1⟩
    have hx1 := ha.kept hB1
    clear hld ha
    go_wp2_with fail
    refine (HC.out _ hx1).mono ?_
    rintro e w2 ⟨u, rfl, ho, hB2⟩
    have HF : Hid (FreshIB w (runL xs d) (runB xs d) (.returned (.tuple #[u, .bool (intB xs)])) w2) := ⟨_, by rw [E.out.1], by rw [E.out.2]; exact ownsRow_mono ho hB1.size, bthen hB1 hB2⟩
    clear ho hB1 hB2 hx1
    go_wp2
    go_ret2
    exact HF.out
  · have h' : ldF xs = -2 ∨ (ldF xs ≠ -2 ∧ d < ldF xs) := by omega
    have E : Hid _ := runB_no (xs := xs) (d := d) (by omega)
    obtain ⟨D, hD⟩ : ∃ D, ldF xs = D := ⟨_, rfl⟩
    rw [hD] at hld h'
    clear hcap hx hD ha h
    rcases h' with h | ⟨h, h2⟩
    · have b1 : (D == -2) = true := beq_iff_eq.2 h
      clear h
      go_enter Tryz.func49, Tryz.ntmps49
      go_wp2_with fail
      refine hld.mono ?_
      rintro e w1 ⟨rfl, hB1⟩
      have HF : Hid (FreshIB w (runL xs d) (runB xs d) (.returned (.tuple #[.slice none 0 0, .bool false])) w1) :=
        ⟨_, by rw [E.out.1], by rw [E.out.2]; exact World.ownsRow_nil _ _ _ _, hB1⟩
      clear hld hB1
      go_wp2
      go_ret2
      exact HF.out
    · have b1 : (D == -2) = false := beq_eq_false_iff_ne.2 h
      clear h
      go_enter Tryz.func49, Tryz.ntmps49
      go_wp2_with fail
      refine hld.mono ?_
      rintro e w1 ⟨rfl, hB1⟩
      have HF : Hid (FreshIB w (runL xs d) (runB xs d) (.returned (.tuple #[.slice none 0 0, .bool false])) w1) :=
        ⟨_, by rw [E.out.1], by rw [E.out.2]; exact World.ownsRow_nil _ _ _ _, hB1⟩
      clear hld hB1
      go_wp2
      go_ret2
      exact HF.out
end Go.Proofs.YtdfnclnjnmdboaaGreatDoor

namespace Go.Proofs.YtdfnclnjnmdboaaGreatDoor
set_option linter.unusedVariables false
open Go.RowKit

theorem hidd {p : Prop} (h : p) : Hid p := h
theorem sizeInt (w : World) : (sizeOf (Tryz.prog.elem 32)).run Tryz.prog w = .ok 1 w := by kernel_rfl
theorem addr_mul (a : Addr) (k : Nat) : a.add (k * 1) = a.add k := by rw [Nat.mul_one]
theorem RdL_sub {w : World} {a : Option Addr} {n cap l h : Nat} {xs : List Value} (hr : RdL w (.slice a n cap) xs) (hl : l ≤ h) (hh : h ≤ n) (hc : n ≤ cap) :
    RdL w (sliced a l h cap 1) ((xs.take h).drop l) := by
  obtain ⟨a2, c2, e, hr⟩ := hr
  simp only [Value.slice.injEq] at e
  obtain ⟨rfl, rfl, rfl⟩ := e
  refine ⟨if cap = l then a else a.map (·.add (l * 1)), cap - l, ?_, ?_⟩
  · unfold sliced; simp; omega
  · by_cases hlh : l = h
    · left; subst hlh; simp
    · right
      rcases hr with hr | ⟨b, off, rfl, hlt, hr⟩
      · rw [hr] at hh; simp at hh; omega
      · refine ⟨b, off + l, ?_, hlt, fun i hi => ?_⟩
        · rw [if_neg (by omega), Option.map_some, addr_mul, addr_add]
        · simp at hi
          rw [Nat.add_assoc, hr (l + i) (by omega)]
          simp [show l + i < h by omega]
theorem RdI_sub {w : World} {a : Option Addr} {n cap l h : Nat} {xs : List Int} (hr : RdI w (.slice a n cap) xs) (hl : l ≤ h) (hh : h ≤ xs.length) (hc : xs.length ≤ cap) :
    RdI w (sliced a l h cap 1) ((xs.take h).drop l) := by
  have hn : n = xs.length := by
    obtain ⟨a2, c2, e, _⟩ := hr
    simp only [Value.slice.injEq, List.length_map] at e
    exact e.2.1
  subst hn
  unfold RdI
  rw [List.map_drop, List.map_take]
  exact RdL_sub hr hl hh hc
set_option maxRecDepth 20000 in
/-- s[k:], under a name -/
theorem sl_from (a : Option Addr) (n cap k : Nat) (hk : k ≤ n) (hc : n ≤ cap) : ∃ A, (∀ W, (Instr.slice 32 (.slice a n cap) (some (.int .i64 (k : Int))) none none).run Tryz.prog W = .ok (.slice A (n - k) (cap - k)) W) ∧
    (∀ W xs, xs.length = n → RdI W (.slice a n cap) xs → RdI W (.slice A (n - k) (cap - k)) (xs.drop k)) := by
  refine ⟨if cap = k then a else a.map (·.add (k * 1)), fun W => ?_, ?_⟩
  · rw [run_slice_l W 32 a n cap Tryz.underlying32 .i64 (k : Int) (by omega) (by omega), sizeInt]
    rfl
  · rintro W xs rfl h
    have := RdI_sub h hk (Nat.le_refl _) hc
    rwa [List.take_length] at this
set_option maxRecDepth 20000 in
theorem sl_lh (a : Option Addr) (n cap l h : Nat) (hl : l ≤ h) (hh : h ≤ n) (hc : n ≤ cap) : ∃ A, (∀ W, (Instr.slice 32 (.slice a n cap) (some (.int .i64 (l : Int))) (some (.int .i64 (h : Int))) none).run Tryz.prog W = .ok (.slice A (h - l) (cap - l)) W) ∧
    (∀ W xs, xs.length = n → RdI W (.slice a n cap) xs → RdI W (.slice A (h - l) (cap - l)) ((xs.take h).drop l)) := by
  refine ⟨if cap = l then a else a.map (·.add (l * 1)), fun W => ?_, ?_⟩
  · rw [run_slice_lh W 32 a n cap Tryz.underlying32 .i64 .i64 (l : Int) (h : Int) (by omega) (by omega) (by omega), sizeInt]
    rfl
  · rintro W xs rfl h
    exact RdI_sub h hl hh hc
theorem CapOk_of {a : Option Addr} {n c : Nat} (h : n ≤ c) : CapOk (.slice a n c) := fun _ _ _ e => by cases e; exact h
theorem owns_CapOk {w : World} {base e n : Nat} {v : Value} {xs : List Value} (h : w.ownsRow base e 1 v n xs) : CapOk v := by
  rcases h.2 with ⟨rfl, _⟩ | ⟨g, cap, cur, rfl, _, _, h3, _⟩
  · exact CapOk_of (Nat.le_refl _)
  · exact CapOk_of h3

/-- the polynomial at another argument, if it is one -/
def shB (p : List Int) (n : Nat) : Bool := polyB p && polyB (shf p n)
def shfL (p : List Int) (n : Nat) : List Int := if shB p n = true then shf p n else []
theorem shf_fill (p : List Int) (n : Nat) : (List.range p.length).map (fun k => (.int .i64 (evalP (p.drop k) n))) = (shf p n).map (Value.int .i64) := by
  unfold shf; rw [List.map_map]; rfl
set_option maxRecDepth 20000 in
theorem c_impl_ShiftPoly (v : Value) (p : List Int) (n : Nat) (w : World) (ha : RdI w v p) (hcap : CapOk v) (hx : p.length ≤ 1099511627776) (hn : n ≤ 90) :
    Calls Tryz.prog 87 #[v, (.int .i64 ((n : Int)))] w (FreshIB w (shfL p n) (shB p n)) := by
  have hpv := c_impl_PolyValid v p w ha hx
  have ha0 := ha
  obtain ⟨a, cap, rfl, ha1⟩ := ha0
  clear ha1
  simp only [List.length_map] at ha hpv hcap ⊢
  have hcc : p.length ≤ cap := hcap _ _ _ rfl
  cases hv : polyB p
  · have E : Hid (shB p n = false ∧ shfL p n = []) := by
      have h : shB p n = false := by unfold shB; rw [hv]; rfl
      exact ⟨h, if_neg (by rw [h]; decide)⟩
    rw [hv] at hpv
    clear hv ha hcap hx hcc
    go_enter Tryz.func87, Tryz.ntmps87
    go_wp2_with fail
    refine hpv.mono ?_
    rintro e w1 ⟨rfl, hB1⟩
    have HF : Hid (FreshIB w (shfL p n) (shB p n) (.returned (.tuple #[.slice none 0 0, .bool false])) w1) :=
      ⟨_, by rw [E.out.1], by rw [E.out.2]; exact World.ownsRow_nil _ _ _ _, hB1⟩
    clear hpv hB1
    go_wp2
    go_ret2
    exact HF.out
  · have E : Hid (shB p n = polyB (shf p n) ∧ shfL p n = resL (shf p n)) := by
      have h : shB p n = polyB (shf p n) := by unfold shB; rw [hv]; rfl
      exact ⟨h, by unfold shfL resL; rw [h]⟩
    have hok := polyB_ok hv
    have hp7 := hok.1
    rw [hv] at hpv
    have hw : inB (n : Int) (-200) 200 = true := inB_t (by omega) (by omega)
    have hsl := shf_len p n
    clear hv hcap hx
    go_enter Tryz.func87, Tryz.ntmps87
    go_wp2_with fail
    refine hpv.mono ?_
    rintro e w1 ⟨rfl, hB1⟩
    have ha1 := ha.kept hB1
    clear hpv
    go_wp2_with (first | (go_at_call 99; refine (c_within _ _ _ (by omega) (by omega)).mono ?_; rw [hw]; rintro e w' ⟨rfl, rfl⟩) | (at_make; refine mkfull 32 3 Tryz.underlying32 infoInt rfl (by decide) rfl _ _ rfl p.length rfl rfl rfl rfl (by omega) ?_; intro w2 ho2 hB2 hz2))
    clear hw
    go_loopw [21] (fun i wr => ∃ k : Nat, k ≤ p.length ∧ i = .int .i64 k ∧ wr.ownsRow w1.heap.size 3 1 (.slice (some ⟨w1.heap.size, 0, none⟩) p.length p.length) p.length (fill (fun i => (.int .i64 (evalP (p.drop i) n))) (.int .i64 (0)) k p.length) ∧ Below w1.heap.size w1 wr) (fun i _ => p.length - (intOf i).toNat)
    case atStart => exact ⟨0, by omega, rfl, by rw [fill_zero]; exact ho2, hB2⟩
    case round =>
      obtain ⟨k, hk, rfl, ho, hB⟩ := hrel
      clear ho2 hB2 hz2
      by_cases hlt : k < p.length
      · obtain ⟨A, g1, g2⟩ := sl_from a p.length cap k hk hcc
        have hpd : RdI wr (.slice A (p.length - k) (cap - k)) (p.drop k) := g2 wr p rfl (ha1.kept hB)
        obtain ⟨⟨x, e2⟩, e3, ho3⟩ := fill_step ho hlt
        have HO : Hid (_ ∧ _) := ⟨ho3, hB.setCell (p := ⟨w1.heap.size, k, none⟩) (Nat.le_refl _) (.int .i64 (evalP (p.drop k) n))⟩
        have HC : Hid (Calls Tryz.prog 100 #[.slice A (p.length - k) (cap - k), (.int .i64 ((n : Int)))] wr fun e w' => e = .returned (.int .i64 (evalP (p.drop k) n)) ∧ wr = w') := c_valueAt _ (p.drop k) n wr hpd (hok.drop k) (by omega)
        have i1 : (0 : Int) ≤ (k : Int) := by omega
        clear g2 hpd ho3 ho hB
        go_wp2_with fail
        refine HC.out.mono ?_
        rintro e w' ⟨rfl, hw'⟩
        subst hw'
        clear g1
        go_wp2
        go_roundw
        case rel => exact ⟨k + 1, by omega, by go_num, HO.out.1, HO.out.2⟩
        case measure => simp [intOf]; omega
      · have HO : Hid (OwnI wr w1.heap.size (.slice (some ⟨w1.heap.size, 0, none⟩) p.length p.length) (shf p n) ∧ Below w.heap.size w wr ∧ w.heap.size ≤ w1.heap.size) := by
          have : k = p.length := by omega
          subst this
          rw [fill_end, shf_fill, ← hsl] at ho
          have hs2 := hsl.symm
          refine ⟨?_, bthen hB1 hB, hB1.size⟩
          rw [hsl] at ho
          unfold OwnI
          rw [hsl]
          exact ho
        have HS : Hid _ := hsl
        have hrd : RdI wr (.slice (some ⟨w1.heap.size, 0, none⟩) p.length p.length) (shf p n) := owns_RdI HO.out.1
        clear ho hB ha ha1 hB1 hsl hcc
        obtain ⟨q, hq⟩ : ∃ q, shf p n = q := ⟨_, rfl⟩
        rw [hq] at HO E hrd HS
        cases hpb : polyB q
        · have HC := hidd (c_checked_f _ q wr hrd (by rw [HS.out]; omega) hpb)
          have HR : Hid (shB p n = false ∧ shfL p n = []) := ⟨by rw [E.out.1, hpb], by rw [E.out.2]; exact if_neg (by rw [hpb]; decide)⟩
          clear hpb hrd hq
          go_wp2_with fail
          refine HC.out.mono ?_
          rintro e w3 ⟨rfl, hB3⟩
          have HF : Hid (FreshIB w (shfL p n) (shB p n) (.returned (.tuple #[.slice none 0 0, .bool false])) w3) :=
            ⟨_, by rw [HR.out.1], by rw [HR.out.2]; exact World.ownsRow_nil _ _ _ _, bthen HO.out.2.1 hB3⟩
          clear hB3
          go_wp2
          go_ret2
          exact HF.out
        · have HC := hidd (c_checked_t _ q wr hrd hpb)
          have HR : Hid (shB p n = true ∧ shfL p n = q) := ⟨by rw [E.out.1, hpb], by rw [E.out.2]; exact if_pos hpb⟩
          clear hpb hrd hq
          go_wp2_with fail
          refine HC.out.mono ?_
          rintro e w3 ⟨rfl, hB3⟩
          have HF : Hid (FreshIB w (shfL p n) (shB p n) (.returned (.tuple #[.slice (some ⟨w1.heap.size, 0, none⟩) p.length p.length, .bool true])) w3) :=
            ⟨_, by rw [HR.out.1], by rw [HR.out.2]; exact ownsRow_mono (ownsRow_kept_below HO.out.1 hB3) HO.out.2.2, bthen HO.out.2.1 hB3⟩
          clear hB3
          go_wp2
          go_ret2
          exact HF.out

theorem shf_res (p : List Int) (n : Nat) (hv : polyB p = true) : shB p n = polyB (shf p n) ∧ shfL p n = resL (shf p n) := by
  have h : shB p n = polyB (shf p n) := by unfold shB; rw [hv]; rfl
  exact ⟨h, by unfold shfL resL; rw [h]⟩
theorem vals_bd {p : List Int} (h : evalOk p) (f c : Nat) (hn : f + c ≤ 101) : ∀ k, bdI (nxtN k (valsF p f c)) := by
  intro k i
  rw [nxtN_vals]
  by_cases hi : i < c - k
  · rw [valsF_getD _ _ _ _ hi]
    have := (h.drop k).bd (n := f + i) (by omega)
    omega
  · have : (valsF (p.drop k) f (c - k)).getD i 0 = 0 := by simp [List.getD, valsF_len, Nat.le_of_not_lt hi]
    rw [this]; simp
set_option maxRecDepth 20000 in
theorem c_spec_ShiftPoly (v : Value) (p : List Int) (n : Nat) (w : World) (ha : RdI w v p) (hx : p.length ≤ 1099511627776) (hn : n ≤ 90) :
    Calls Tryz.prog 140 #[v, (.int .i64 ((n : Int)))] w (FreshIB w (shfL p n) (shB p n)) := by
  have hpv := c_spec_PolyValid v p w ha hx
  have ha0 := ha
  obtain ⟨a, cap, rfl, ha1⟩ := ha0
  clear ha1
  simp only [List.length_map] at ha hpv ⊢
  cases hv : polyB p
  · have E : Hid (shB p n = false ∧ shfL p n = []) := by
      have h : shB p n = false := by unfold shB; rw [hv]; rfl
      exact ⟨h, if_neg (by rw [h]; decide)⟩
    rw [hv] at hpv
    clear hv ha hx
    go_enter Tryz.func140, Tryz.ntmps140
    go_wp2_with fail
    refine hpv.mono ?_
    rintro e w1 ⟨rfl, hB1⟩
    have HF : Hid (FreshIB w (shfL p n) (shB p n) (.returned (.tuple #[.slice (some ⟨w1.heap.size, 0, none⟩) 0 0, .bool false])) (w1.alloc (.cells #[] 3))) :=
      ⟨_, by rw [E.out.1], by rw [E.out.2]; exact ownsRow_mono (madeP0 w1) hB1.size, bthen hB1 ((Below.refl _ _).alloc (Nat.le_refl _) _)⟩
    clear hpv hB1
    go_wp2
    go_ret2
    exact HF.out
  · have E : Hid _ := shf_res p n hv
    have hok := polyB_ok hv
    have hp7 := hok.1
    rw [hv] at hpv
    have hw : inB (n : Int) (-200) 200 = true := inB_t (by omega) (by omega)
    have hfd := shf_fd p n
    have hbd := vals_bd hok n p.length (by omega)
    have hvl := valsF_len p n p.length
    clear hv hx
    go_enter Tryz.func140, Tryz.ntmps140
    go_wp2_with fail
    refine hpv.mono ?_
    rintro e w1 ⟨rfl, hB1⟩
    have HC := hidd (c_l2Values _ p n p.length w1 (ha.kept hB1) hok (by omega))
    have HC2 : Hid (∀ u W, RdI W u (valsF p n p.length) → Calls Tryz.prog 144 #[u] W (FreshIB W (shfL p n) (shB p n))) := by
      show ∀ u W, _
      intro u W h
      have := c_l2Result u _ W h (by omega) hbd
      rw [hfd] at this
      rw [E.out.1, E.out.2]
      exact this
    clear hpv hfd hbd hvl ha
    go_wp2_with (first | (go_at_call 161; refine (c_l2Argument _ _).mono ?_; rw [hw]; rintro e w' ⟨rfl, rfl⟩))
    refine HC.out.mono ?_
    rintro e w2 ⟨u, rfl, ho2, hB2⟩
    have HC3 := hidd (HC2.out _ _ (owns_RdI ho2))
    clear ho2
    go_wp2_with fail
    refine HC3.out.mono ?_
    rintro e w3 ⟨u3, rfl, ho3, hB3⟩
    have HF : Hid (FreshIB w (shfL p n) (shB p n) (.returned (.tuple #[u3, .bool (shB p n)])) w3) :=
      ⟨_, rfl, ownsRow_mono ho3 (Nat.le_trans hB1.size hB2.size), bthen (bthen hB1 hB2) hB3⟩
    clear ho3 hB1 hB2 hB3
    go_wp2
    go_ret2
    exact HF.out

/-- the values from 0 on, of a valid polynomial -/
theorem vals_fill (p : List Int) (c : Nat) : (List.range c).map (fun k => (.int .i64 (evalP p k))) = (vals p c).map (Value.int .i64) := by
  unfold vals valsF; rw [List.map_map]; congr 1; funext i; simp
set_option maxRecDepth 20000 in
theorem c_ValuesOf (v : Value) (p : List Int) (c : Nat) (w : World) (ha : RdI w v p) (hp : polyB p = true) (hc : c ≤ 60) :
    Calls Tryz.prog 66 #[v, (.int .i64 (0)), (.int .i64 ((c : Int)))] w (FreshIB w (vals p c) true) := by
  have hok := polyB_ok hp
  have hp7 := hok.1
  have hpv := c_impl_PolyValid v p w ha (by omega)
  rw [hp] at hpv
  have hw : inB 0 (-200) 200 = true := by decide
  have hvl := vals_len p c
  clear hp
  go_enter Tryz.func66, Tryz.ntmps66
  go_wp2_with fail
  refine hpv.mono ?_
  rintro e w1 ⟨rfl, hB1⟩
  have ha1 := ha.kept hB1
  clear hpv ha
  go_wp2_with (first | (go_at_call 99; refine (c_within _ _ _ (by omega) (by omega)).mono ?_; rw [hw]; rintro e w' ⟨rfl, rfl⟩) | (at_make; refine mkfull 32 3 Tryz.underlying32 infoInt rfl (by decide) rfl _ _ rfl c rfl rfl rfl rfl (by omega) ?_; intro w2 ho2 hB2 hz2))
  clear hw
  go_loopw [35] (fun i wr => ∃ k : Nat, k ≤ c ∧ i = .int .i64 k ∧ wr.ownsRow w1.heap.size 3 1 (.slice (some ⟨w1.heap.size, 0, none⟩) c c) c (fill (fun i => (.int .i64 (evalP p i))) (.int .i64 (0)) k c) ∧ Below w1.heap.size w1 wr) (fun i _ => c - (intOf i).toNat)
  case atStart => exact ⟨0, by omega, rfl, by rw [fill_zero]; exact ho2, hB2⟩
  case round =>
    obtain ⟨k, hk, rfl, ho, hB⟩ := hrel
    clear ho2 hB2 hz2
    by_cases hlt : k < c
    · obtain ⟨⟨x, e2⟩, e3, ho3⟩ := fill_step ho hlt
      have HO : Hid (_ ∧ _) := ⟨ho3, hB.setCell (p := ⟨w1.heap.size, k, none⟩) (Nat.le_refl _) (.int .i64 (evalP p k))⟩
      have HC := hidd (c_valueAt v p k wr (ha1.kept hB) hok (by omega))
      have i1 : (0 : Int) ≤ (k : Int) := by omega
      clear ho3 ho hB
      go_wp2_with fail
      refine HC.out.mono ?_
      rintro e w' ⟨rfl, hw'⟩
      subst hw'
      go_wp2
      go_roundw
      case rel => exact ⟨k + 1, by omega, by go_num, HO.out.1, HO.out.2⟩
      case measure => simp [intOf]; omega
    · have HF : Hid (FreshIB w (vals p c) true (.returned (.tuple #[.slice (some ⟨w1.heap.size, 0, none⟩) c c, .bool true])) wr) := by
        have : k = c := by omega
        subst this
        rw [fill_end, vals_fill] at ho
        refine ⟨_, rfl, ?_, bthen hB1 hB⟩
        unfold OwnI
        rw [hvl]
        exact ownsRow_mono ho hB1.size
      clear ho hB ha1 hB1
      go_wp2
      go_ret2
      exact HF.out
set_option maxRecDepth 20000 in
theorem c_ValuesOf_no (v : Value) (p : List Int) (c : Int) (w : World) (ha : RdI w v p) (hx : p.length ≤ 1099511627776) (hp : polyB p = false) :
    Calls Tryz.prog 66 #[v, (.int .i64 (0)), (.int .i64 (c))] w (FreshIB w [] false) := by
  have hpv := c_impl_PolyValid v p w ha hx
  rw [hp] at hpv
  clear hp ha hx
  go_enter Tryz.func66, Tryz.ntmps66
  go_wp2_with fail
  refine hpv.mono ?_
  rintro e w1 ⟨rfl, hB1⟩
  have HF : Hid (FreshIB w [] false (.returned (.tuple #[.slice none 0 0, .bool false])) w1) := ⟨_, rfl, World.ownsRow_nil _ _ _ _, hB1⟩
  clear hpv hB1
  go_wp2
  go_ret2
  exact HF.out
end Go.Proofs.YtdfnclnjnmdboaaGreatDoor
