/- Contracts: first differences, the least degree of a table, the polynomial with a table; program and reference. -/
import Derived.Test.YthjehjdcpfefcaaPoly2
import Derived.Test.YthjehjdcpfefcaaApp2
namespace Go.Proofs.Ythjehjdcpfefcaa
set_option linter.unusedVariables false
open Go.RowKit

theorem allIn_zero (xs : List Int) : allIn xs 0 = allZ xs := by
  unfold allIn allZ
  congr 1
  funext n
  rw [Bool.eq_iff_iff, inB_iff, beq_iff_eq]
  omega
theorem allZ_take_succ (xs : List Int) (k : Nat) (hk : k < xs.length) : allZ (xs.take (k + 1)) = (allZ (xs.take k) && (xs.getD k 0 == 0)) := by
  rw [← allIn_zero, ← allIn_zero, allIn_take xs 0 k hk]
  congr 1
  rw [Bool.eq_iff_iff, inB_iff, beq_iff_eq]
  omega
set_option maxRecDepth 20000 in
theorem c_l2Zero (v : Value) (xs : List Int) (w : World) (ha : RdI w v xs) (hx : xs.length ≤ 1099511627776) :
    Calls Try.prog 115 #[v] w fun e w' => e = .returned (.bool (allZ xs)) ∧ Below w.heap.size w w' := by
  have ha0 := ha
  obtain ⟨a, cap, rfl, ha1⟩ := ha0
  clear ha1
  simp only [List.length_map] at ha ⊢
  go_enter Try.func115, Try.ntmps115
  go_wp2
  go_loopw [3] (fun i wr => ∃ k : Nat, k ≤ xs.length ∧ i = .int .i64 k ∧ allZ (xs.take k) = true ∧ Below w.heap.size w wr) (fun i _ => xs.length - (intOf i).toNat)
  case atStart => exact ⟨0, by omega, rfl, rfl, Below.refl _ _⟩
  case round =>
    obtain ⟨k, hk, rfl, hA, hB⟩ := hrel
    have HA : Hid (allZ (xs.take k) = true) := hA
    clear hA
    by_cases hlt : k < xs.length
    · obtain ⟨b1, o1, rfl, hb1, e1⟩ := RdI_cell ha hB hlt
      have HT : Hid _ := allZ_take_succ xs k hlt
      have HG : Hid (allZ xs = true → xs.getD k 0 = 0) := fun h => allZ_getD h k
      obtain ⟨x, hx1⟩ : ∃ x, xs.getD k 0 = x := ⟨_, rfl⟩
      rw [hx1] at e1
      by_cases hz : x = 0
      · subst hz
        have HO : Hid (allZ (xs.take (k + 1)) = true) := by show _ = _; rw [HT.out, HA.out, hx1]; rfl
        clear hx1 ha
        go_wp2
        go_roundw
        case rel => exact ⟨k + 1, by omega, by go_num, HO.out, hB⟩
        case measure => simp [intOf]; omega
      · have HO : Hid (allZ xs = false) := by
          show _ = _
          cases e : allZ xs
          · rfl
          · exact absurd (hx1.symm.trans (HG.out e)) hz
        have hz' : (x != 0) = true := by simpa using hz
        clear hx1 ha hz
        go_wp2
        go_ret
        exact ⟨ret_bool HO.out.symm, hB⟩
    · have HO : Hid (allZ xs = true) := by
        have h := HA.out
        rw [List.take_of_length_le (by omega)] at h
        exact h
      clear ha
      go_wp2
      go_ret
      exact ⟨ret_bool HO.out.symm, hB⟩

/-- a slice lies apart from a row that may grow -/
def AptV (r row : Value) : Prop := ∀ a n c, row = .slice (some a) n c → r.ownBlock ≠ some a.block
theorem RdL_grownO {w w' : World} {r v : Value} {xs : List Value} (h : RdL w v xs) (hg : w.grownBy w' r.ownBlock) (hne : AptV r v) : RdL w' v xs := by
  obtain ⟨a, cap, rfl, h⟩ := h
  refine ⟨a, cap, rfl, ?_⟩
  rcases h with h | ⟨b, off, rfl, hlt, h⟩
  · exact .inl h
  · refine .inr ⟨b, off, rfl, by have := hg.size; omega, fun i hi => ?_⟩
    have hb : w'.heap[b]? = w.heap[b]? := hg.block b hlt (fun e => hne _ _ _ rfl e.symm)
    rw [World.cell?_of_block (w := w) (a := ⟨b, off + i, none⟩) hb]
    exact h i hi
theorem AptV_new {w w' : World} {b0 e1 e2 n m : Nat} {r u : Value} {x1 x2 : List Value} (h : w.ownsRow b0 e1 1 r n x1) (hu : w'.ownsRow w.heap.size e2 1 u m x2) : AptV r u := by
  intro a n' c e hr
  have h1 := (h.lt _ hr).2
  have h2 : u.ownBlock = some a.block := by rw [e]; rfl
  have h3 := (hu.lt _ h2).1
  omega
theorem AptV_old {w w' : World} {e1 n : Nat} {r v : Value} {x1 xs : List Value} (h : w'.ownsRow w.heap.size e1 1 r n x1) (hv : ∀ a m c, v = .slice (some a) m c → a.block < w.heap.size) : AptV r v := by
  intro a m c e hr
  have h1 := (h.lt _ hr).1
  have h2 := hv a m c e
  omega
def AltV (w : World) (v : Value) : Prop := ∀ a m c, v = .slice (some a) m c → a.block < w.heap.size
def lenOf : Value → Nat
  | .slice _ n _ => n
  | _ => 0
theorem fd_take_succ (xs : List Int) (k : Nat) (h : k < xs.length) : (fd xs).take (k + 1) = (fd xs).take k ++ [(nxtN k xs).getD 0 0] := by
  rw [take_snoc_getD _ _ (by rw [fd_len]; exact h), fd_getD _ _ h]

set_option maxRecDepth 20000 in
theorem c_l2Diffs (v : Value) (xs : List Int) (w : World) (ha : RdI w v xs) (hx : xs.length ≤ 60) (hb : ∀ k, bdI (nxtN k xs)) :
    Calls Try.prog 100 #[v] w (FreshI w (fd xs)) := by
  have hv0 : xs.length = 0 ∨ AltV w v := by
    rcases ha with ⟨a, cap, rfl, h | ⟨b, off, rfl, hlt, h⟩⟩
    · exact .inl (by simpa using h)
    · exact .inr (fun a' m c e => by cases e; exact hlt)
  have ha0 := ha
  obtain ⟨a, cap, rfl, ha1⟩ := ha0
  clear ha1
  simp only [List.length_map] at ha hv0 ⊢
  have HB : Hid (∀ k, bdI (nxtN k xs)) := hb
  clear hb
  go_enter Try.func100, Try.ntmps100
  have ho2 := madeP0 w
  have hB2 : Below w.heap.size w (w.alloc (.cells #[] 3)) := (Below.refl _ _).alloc (Nat.le_refl _) _
  go_wp2
  go_loopw [0, 3] (fun row r wr => ∃ (k : Nat) (row' : List Int), k ≤ xs.length ∧ Hid (row' = nxtN k xs) ∧ row'.length = xs.length - k ∧ RdI wr row row' ∧ (row'.length = 0 ∨ AptV r row) ∧ OwnI wr w.heap.size r ((fd xs).take k) ∧ Below w.heap.size w wr) (fun row _ _ => lenOf row)
  case atStart => exact ⟨0, xs, by omega, rfl, by omega, ha.kept hB2, hv0.imp id (fun h => AptV_old ho2 (xs := []) h), ho2, hB2⟩
  case round =>
    obtain ⟨k, row', hk, HR, hrl, hr, hap, ho, hB⟩ := hrel
    clear ho2 hB2 ha hv0
    have hr0 := hr
    obtain ⟨a4, cap4, rfl, hr1⟩ := hr0
    clear hr1
    simp only [List.length_map] at hr hap ⊢
    by_cases hlt : k < xs.length
    · obtain ⟨b1, o1, rfl, hb1, e1⟩ := RdI_cell hr (Below.refl _ _) (k := 0) (by omega)
      have HF : Hid _ := fd_take_succ xs k hlt
      have hlen : ((fd xs).take k).length ≤ 60 := by rw [List.length_take]; omega
      obtain ⟨x, hx1⟩ : ∃ x, row'.getD 0 0 = x := ⟨_, rfl⟩
      rw [hx1] at e1
      obtain ⟨L, hL⟩ : ∃ L, (fd xs).take k = L := ⟨_, rfl⟩
      rw [hL] at ho hlen
      have HL : Hid ((fd xs).take (k + 1) = L ++ [x]) := by show _ = _; rw [HF.out, hL, ← HR.out, hx1]
      have hbd : bdI row' := by rw [HR.out]; exact HB.out k
      have hr10 : row'.length ≤ 1000 := by omega
      have HN : Hid (nxt row' = nxtN (k + 1) xs) := by show _ = _; rw [nxtN_succ, HR.out]
      have HNL : Hid ((nxt row').length = xs.length - (k + 1)) := by show _ = _; rw [nxt_len]; omega
      have HAP : Hid (AptV u3 (.slice (some ⟨b1, o1, none⟩) row'.length cap4)) := hap.resolve_left (by omega)
      obtain ⟨m, hm⟩ : ∃ m, row'.length = m + 1 := ⟨row'.length - 1, by omega⟩
      have hBs := hB.size
      have hc := fun W (hW : RdI W (.slice (some ⟨b1, o1, none⟩) row'.length cap4) row') => c_l2Next _ row' W hW hr10 hbd
      rw [hm] at hr hc HAP ⊢
      have HC : Hid _ := hc
      have HR2 : Hid _ := hr
      have HM2 : Hid (m + 1 = xs.length - k) := by show _ = _; omega
      have hm6 : m ≤ 60 := by omega
      clear hx1 hL HF hc hbd hrl hm hap hr
      rw [Nat.add_zero] at e1
      go_wp2_with (at_builtin; refine app1at 32 3 Try.underlying32 infoInt rfl (by decide) rfl _ _ rfl w.heap.size _ _ _ rfl ho rfl rfl ?c1 ?c2 ?_)
      case c1 => omega
      case c2 => exact hBs
      intro v' wn ho3 hg1 hin
      have HRn : Hid (RdI wn (.slice (some ⟨b1, o1, none⟩) (m + 1) cap4) row') := RdL_grownO HR2.out hg1 HAP.out
      have HO3 : Hid (OwnI wn w.heap.size v' ((fd xs).take (k + 1))) := by show OwnI _ _ _ _; rw [HL.out]; exact OwnI_snoc' rfl ho3
      have HBn : Hid (Below w.heap.size w wn) := hB.grown hg1 hBs (fun j hj => (ho.lt j hj).1)
      clear ho ho3 hg1 hB e1 hin
      go_wp2_with fail
      refine (HC.out _ HRn.out).mono ?_
      rintro e wm ⟨u, rfl, ho5, hB5⟩
      have HU : Hid (AptV v' u) := AptV_new HO3.out ho5
      have HF : Hid (RdI wm u (nxt row') ∧ OwnI wm w.heap.size v' ((fd xs).take (k + 1)) ∧ Below w.heap.size w wm) := ⟨owns_RdI ho5, ownsRow_kept_below HO3.out hB5, bthen HBn.out hB5⟩
      have HL2 : Hid (lenOf u = (nxt row').length) := by
        obtain ⟨a, cap, rfl, _⟩ := owns_RdI ho5
        show (List.map _ _).length = _
        simp
      clear ho5 hB5
      go_wp2
      go_roundw
      case rel => exact ⟨k + 1, nxt row', by omega, HN.out, HNL.out, HF.out.1, .inr HU.out, HF.out.2.1, HF.out.2.2⟩
      case measure => show lenOf u < _; rw [HL2.out, HNL.out]; have := HM2.out; simp [lenOf]; omega
    · have HO : Hid (OwnI wr w.heap.size u3 (fd xs) ∧ Below w.heap.size w wr) := by
        rw [List.take_of_length_le (by rw [fd_len]; omega)] at ho
        exact ⟨ho, hB⟩
      have g1 : row'.length = 0 := by omega
      clear ho hB hr
      go_wp2
      go_ret
      exact ⟨_, rfl, HO.out.1, HO.out.2⟩
end Go.Proofs.Ythjehjdcpfefcaa
