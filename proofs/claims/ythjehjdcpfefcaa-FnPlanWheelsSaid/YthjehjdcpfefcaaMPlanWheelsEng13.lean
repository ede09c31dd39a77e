/- Lemmas and contracts for PlanWheels (Eng13 Whl1 Whl2): plain words on memory, contracts of the functions that the law reaches. No condition but what each states. -/
import Derived.Test.YthjehjdcpfefcaaMPlanWheelsEng11
import Derived.Test.YthjehjdcpfefcaaMPlanWheelsEng9
import Derived.Laws.CopyOwn
namespace Go.Proofs.Ythjehjdcpfefcaa
set_option linter.unusedVariables false
open Go.RowKit

def padP (p : List Int) (n : Nat) : List Int := p ++ List.replicate (n - p.length) 0
theorem padP_len {p : List Int} {n : Nat} (h : p.length ≤ n) : (padP p n).length = n := by simp [padP]; omega
theorem padP_poly {p : List Int} {n : Nat} (h : polyB p = true) (hn : p.length ≤ n) (h7 : n ≤ 7) : polyB (padP p n) = true := by
  obtain ⟨h1, h2, h3⟩ := polyB_iff h
  unfold polyB
  rw [padP_len hn, inB_t (by omega) (by omega), Bool.true_and]
  unfold padP allIn
  rw [List.all_append, Bool.and_eq_true]
  refine ⟨h3, ?_⟩
  rw [List.all_eq_true]
  intro x hx
  rw [(List.mem_replicate.1 hx).2]
  decide
/-- the length of the longest polynomial -/
def lngN : List Seg → Nat
  | [] => 0
  | s :: l => max s.2.length (lngN l)
theorem lngN_append : ∀ a b : List Seg, lngN (a ++ b) = max (lngN a) (lngN b)
  | [], b => by simp [lngN]
  | s :: a, b => by simp only [List.cons_append, lngN, lngN_append a b]; omega
theorem lngN_take_succ (pl : List Seg) (k : Nat) (h : k < pl.length) : lngN (pl.take (k + 1)) = max (lngN (pl.take k)) (pl.getD k noG).2.length := by
  rw [take_succG pl k h, lngN_append]
  simp [lngN]
theorem lngN_mem : ∀ {pl : List Seg} {s : Seg}, s ∈ pl → s.2.length ≤ lngN pl
  | t :: l, s, h => by
    rcases List.mem_cons.1 h with rfl | h
    · simp only [lngN]; omega
    · have := lngN_mem h; simp only [lngN]; omega
theorem lngN_le : ∀ {pl : List Seg}, (∀ s ∈ pl, s.2.length ≤ 7) → lngN pl ≤ 7
  | [], _ => by simp [lngN]
  | s :: l, h => by
    have h1 := h s (by simp)
    have h2 := lngN_le (pl := l) (fun t ht => h t (by simp [ht]))
    simp only [lngN]; omega
/-- the wheels set between two segments -/
def whD (W : Int) (n : Nat) (a b : Seg) : Nat := difE (cols W.toNat (trnN a.1.toNat (padP a.2 n))) (cols W.toNat (padP b.2 n)) n
def whN (W : Int) (n : Nat) (pl : List Seg) : Nat → Nat
  | 0 => 0
  | j + 1 => whN W n pl j + if j = 0 then 0 else whD W n (pl.getD (j - 1) noG) (pl.getD j noG)
def whB (pl : List Seg) (W : Int) : Bool := planB pl && inB W 1 12 && pl.all fun s => suB (padP s.2 (lngN pl)) W
def whF (pl : List Seg) (W : Int) : Int := if whB pl W = true then (whN W (lngN pl) pl pl.length : Int) else -1
theorem whD_le (W : Int) (n : Nat) (a b : Seg) (hW : inB W 1 12 = true) (hn : n ≤ 7) : whD W n a b ≤ 84 := by
  have hb := inB_iff.1 hW
  have := difE_le (xs := cols W.toNat (trnN a.1.toNat (padP a.2 n))) (ys := cols W.toNat (padP b.2 n)) (fun s hs => by
    obtain ⟨x, _, rfl⟩ := List.mem_map.1 hs
    rw [colS_size]; omega) n
  unfold whD
  omega
theorem whN_le (W : Int) (n : Nat) (pl : List Seg) (hW : inB W 1 12 = true) (hn : n ≤ 7) : ∀ j, whN W n pl j ≤ j * 84
  | 0 => by simp [whN]
  | j + 1 => by
    have h1 := whN_le W n pl hW hn j
    have h2 := whD_le W n (pl.getD (j - 1) noG) (pl.getD j noG) hW hn
    unfold whN
    split <;> omega
theorem wh_no {pl : List Seg} {W : Int} {k : Nat} (hk : k < pl.length) (h : suB (padP (pl.getD k noG).2 (lngN pl)) W = false) : whF pl W = -1 := by
  have e : whB pl W = false := by
    unfold whB
    rw [Bool.and_eq_false_iff]
    right
    rw [List.all_eq_false]
    exact ⟨pl[k], List.getElem_mem hk, by simpa [List.getD, hk] using h⟩
  unfold whF; rw [e]; rfl
theorem wh_yes {pl : List Seg} {W : Int} (hv : planB pl = true) (hW : inB W 1 12 = true) (h : ∀ i, i < pl.length → suB (padP (pl.getD i noG).2 (lngN pl)) W = true) : whF pl W = (whN W (lngN pl) pl pl.length : Int) := by
  have e : whB pl W = true := by
    unfold whB
    rw [hv, hW, Bool.true_and, Bool.true_and, List.all_eq_true]
    intro x hx
    obtain ⟨i, hi, rfl⟩ := List.mem_iff_getElem.1 hx
    have := h i hi
    simpa [List.getD, hi] using this
  unfold whF; rw [if_pos e]
theorem wh_inv {pl : List Seg} {W : Int} (h : planB pl = false ∨ inB W 1 12 = false) : whF pl W = -1 := by
  have e : whB pl W = false := by
    unfold whB
    rcases h with h | h <;> rw [h] <;> simp
  unfold whF; rw [e]; rfl
theorem wh_lens {pl : List Seg} (hv : valOk pl) : lngN pl ≤ 7 ∧ ∀ k, k < pl.length → 1 ≤ (pl.getD k noG).2.length ∧ (pl.getD k noG).2.length ≤ lngN pl := by
  refine ⟨lngN_le fun s hs => (polyB_iff (hv s hs).2.2).2.1, fun k hk => ⟨(polyB_iff (hv.get hk).2.2).1, lngN_mem (by simp [List.getD, hk])⟩⟩
theorem rd_row {w : World} {g cap : Nat} {t : TypeId} {fr : Nat × Nat} {xs : List Int} (h : w.heap[g]? = some (.cells (xs.map (Value.int .i64)).toArray t fr)) : RdI w (.slice (some ⟨g, 0, none⟩) xs.length cap) xs := by
  have hlt : g < w.heap.size := by
    by_cases hlt : g < w.heap.size
    · exact hlt
    · rw [Array.getElem?_eq_none (by omega)] at h; cases h
  refine ⟨some ⟨g, 0, none⟩, cap, by simp, .inr ⟨g, 0, rfl, hlt, fun i hi => ?_⟩⟩
  simp [World.cell?, h]
theorem infoIntSz : (Try.prog.info? 3).map (·.size) = some 1 := by kernel_rfl
theorem made_row {w : World} {g n : Nat} {z : Value} (h : w.ownsRow g 3 1 (.slice (some ⟨g, 0, none⟩) n n) n (List.replicate n z)) : w.heap[g]? = some (.cells (List.replicate n z).toArray 3 (0, 0)) := by
  obtain ⟨_, ⟨e, _⟩ | ⟨g', cap, cur, e, hg, hh, h3, h4, h5, h6⟩⟩ := h
  · cases e
  · simp only [Value.slice.injEq, Option.some.injEq, Addr.mk.injEq] at e
    obtain ⟨⟨rfl, _, _⟩, _, rfl⟩ := e
    rw [hh]
    congr 2
    apply Array.ext'
    rw [Nat.mul_one] at h5 h6
    rw [List.take_of_length_le (by simp [h5])] at h6
    simpa using h6
theorem splice_pad {p : List Int} {n : Nat} (h : p.length ≤ n) : splice (List.replicate n (Value.int .i64 0)) 0 (p.map (Value.int .i64)) = (padP p n).map (Value.int .i64) := by
  unfold splice padP
  simp
set_option maxRecDepth 20000 in
set_option maxHeartbeats 800000 in
theorem c_l5Padded (v : Value) (p : List Int) (n : Nat) (w : World) (ha : RdI w v p) (hp : p.length ≤ n) (hn : n ≤ 7) :
    Calls Try.prog 23 #[v, (.int .i64 ((n : Int)))] w (FreshI w (padP p n)) := by
  have hB0 : Below w.heap.size w (w.alloc (.cells #[] 3)) := (Below.refl _ _).alloc (Nat.le_refl _) _
  have har := RdN_ints (ha.kept hB0)
  have ho0 := madeP0 w
  have hz0 : (w.alloc (.cells #[] 3)).heap.size = w.heap.size + 1 := by simp
  clear ha
  go_enter Try.func23, Try.ntmps23
  go_wp2_with (at_builtin; refine appN 32 3 Try.underlying32 infoInt rfl (by decide) (by decide) rfl _ _ rfl w.heap.size _ _ _ rfl ho0 _ p.length _ rfl har (one_ints p) ?c1 ?c2 ?_)
  case c1 => omega
  case c2 => rw [hz0]; omega
  intro v' w2 ho hg hin
  replace ho : OwnI w2 w.heap.size v' (p ++ List.replicate 0 0) := by simpa [OwnI] using ho
  have hBA := hB0.grown hg (by rw [hz0]; omega) (fun j hj => by cases hj; exact Nat.le_refl _)
  clear hB0 har ho0 hg hin hz0
  go_wp2
  go_loopw [5] (fun o wr => ∃ m : Nat, p.length + m ≤ n ∧ (∃ oa oc, o = .slice oa (p.length + m) oc) ∧ OwnI wr w.heap.size o (p ++ List.replicate m 0) ∧ Below w.heap.size w wr) (fun o _ => match o with | .slice _ l _ => n - l | _ => 0)
  case atStart =>
    obtain ⟨oa, oc, e⟩ := RdI_form (owns_RdI ho)
    exact ⟨0, by omega, ⟨oa, oc, by rw [e]; simp⟩, ho, hBA⟩
  case round =>
    obtain ⟨m, hm, ⟨oa, oc, rfl⟩, ho', hB⟩ := hrel
    clear ho hBA
    by_cases hlt : p.length + m < n
    · have hlt' : (p.length : Int) + (m : Int) < (n : Int) := by omega
      have q1 : wr.ownsRow w.heap.size 3 1 (.slice oa (p.length + m) oc) (p.length + m) ((p ++ List.replicate m 0).map (Value.int .i64)) := by
        have := ho'
        unfold OwnI at this
        rwa [show (p ++ List.replicate m (0 : Int)).length = p.length + m by simp] at this
      have hBs := hB.size
      have HRS : Hid (p ++ List.replicate (m + 1) 0 = (p ++ List.replicate m 0) ++ [0]) := by show _ = _; rw [List.replicate_succ', List.append_assoc]
      clear ho'
      go_wp2_with (at_builtin; refine app1 32 3 Try.underlying32 infoInt rfl (by decide) rfl _ _ rfl w.heap.size _ _ _ rfl q1 rfl rfl ?c1 ?c2 ?_)
      case c1 => omega
      case c2 => exact hBs
      intro v' w5 ho5 hg5
      have HO : Hid (OwnI w5 w.heap.size v' (p ++ List.replicate (m + 1) 0) ∧ Below w.heap.size w w5) := ⟨by unfold OwnI; rw [HRS.out]; simpa [Nat.add_assoc] using ho5, hB.grown hg5 hBs (fun q hq => (q1.lt q hq).1)⟩
      obtain ⟨xa, xc, hx⟩ := RdI_form (owns_RdI HO.out.1)
      rw [show (p ++ List.replicate (m + 1) (0 : Int)).length = p.length + (m + 1) by simp] at hx
      subst hx
      clear ho5 hg5 q1 hB
      go_wp2
      go_roundw
      case rel => exact ⟨m + 1, by omega, ⟨_, _, rfl⟩, HO.out.1, HO.out.2⟩
      case measure => simp; omega
    · have HF : Hid (FreshI w (padP p n) (.returned (.slice oa (p.length + m) oc)) wr) := by
        have e : padP p n = p ++ List.replicate m 0 := by unfold padP; rw [show n - p.length = m by omega]
        rw [e]
        exact ⟨_, rfl, ho', hB⟩
      have hlt' : ¬ ((p.length : Int) + (m : Int) < (n : Int)) := by omega
      clear ho' hB
      go_wp2
      go_ret
      exact HF.out
end Go.Proofs.Ythjehjdcpfefcaa

namespace Go.Proofs.Ythjehjdcpfefcaa
set_option linter.unusedVariables false
open Go.RowKit

/-- what a round of the plan's wheels finds in any world above: the box of the last engine, the segment, its polynomial -/
theorem whl_keep {w wr W1 : World} {c9 : Nat} {ua pa : Option Addr} {un uc pn pc : Nat} {C : Int} {p : List Int} {xs : List ByteArray}
    (hW1 : W1 = wr.alloc (.cells #[.int .i64 C, .slice pa pn pc] 47)) (hB : Below w.heap.size w wr) (hb : wr.cell? ⟨c9, 0, none⟩ = some (.slice ua un uc)) (hf : wr.frozen? ⟨c9, 0, none⟩ = false) (hc : c9 < wr.heap.size) (hp : RdI w (.slice pa pn pc) p) {P : Prop} (hu : P → RdS wr (.slice ua un uc) xs) :
    ∀ W, Below W1.heap.size W1 W → W.cell? ⟨wr.heap.size, 0, none⟩ = some (.int .i64 C) ∧ W.cell? ⟨wr.heap.size, 1, none⟩ = some (.slice pa pn pc) ∧ W.cell? ⟨c9, 0, none⟩ = some (.slice ua un uc) ∧ W.frozen? ⟨c9, 0, none⟩ = false ∧ RdI W (.slice pa pn pc) p ∧ (P → RdS W (.slice ua un uc) xs) ∧ Below w.heap.size w W ∧ c9 < W.heap.size ∧ Below wr.heap.size wr W := by
  intro W h
  have hal : Below wr.heap.size wr W1 := by rw [hW1]; exact (Below.refl _ _).alloc (Nat.le_refl _) _
  have hz : W1.heap.size = wr.heap.size + 1 := by rw [hW1]; simp
  have hBW := bthen hal h
  obtain ⟨bc, bf⟩ := bcell hBW
  obtain ⟨bc1, _⟩ := bcell h
  refine ⟨?_, ?_, (bc _ _ hc).trans hb, (bf _ _ hc).trans hf, hp.kept (bthen hB hBW), fun q => (hu q).kept hBW, bthen hB hBW, ?_, hBW⟩
  · rw [bc1 _ _ (by omega), hW1]; simp [go_sem]
  · rw [bc1 _ _ (by omega), hW1]; simp [go_sem]
  · have := hBW.size; omega
theorem run_pad {W3 : World} {g n pc : Nat} {pa : Option Addr} {p : List Int} (hrow : W3.heap[g]? = some (.cells (List.replicate n (Value.int .i64 0)).toArray 3 (0, 0))) (hp : RdI W3 (.slice pa p.length pc) p) (h1 : 1 ≤ p.length) (hl : p.length ≤ n) :
    ∃ W4, (Builtin.copy_ #[32, 32] 3 #[.slice (some ⟨g, 0, none⟩) n n, .slice pa p.length pc]).run Try.prog W3 = .ok (goInt p.length) W4 ∧ RdI W4 (.slice (some ⟨g, 0, none⟩) n n) (padP p n) ∧ ∀ (B : Nat) (w0 : World), Below B w0 W3 → B ≤ g → Below B w0 W4 := by
  obtain ⟨b, o, c, e, hb, hc⟩ : ∃ b o c, Value.slice pa p.length pc = .slice (some ⟨b, o, none⟩) p.length c ∧ b < W3.heap.size ∧ ∀ i, i < p.length → W3.cell? ⟨b, o + i, none⟩ = some (.int .i64 (p.getD i 0)) := by
    rcases hp.op with ⟨a, cap, e, e2⟩ | ⟨b, off, cap, e, h2, h3⟩
    · rw [e2] at h1; simp at h1
    · exact ⟨b, off, cap, e, h2, h3⟩
  simp only [Value.slice.injEq] at e
  obtain ⟨rfl, _, rfl⟩ := e
  have hrun := run_copy_row (P := Try.prog) W3 32 32 3 3 g 0 n n ⟨b, o, none⟩ p.length pc _ 3 (p.map (Value.int .i64)) Try.underlying32 infoIntSz hrow (by rw [List.length_map]; exact (Nat.min_eq_left hl).symm) (fun j v hj => by
    rw [List.getElem?_map] at hj
    have hjl : j < p.length := by
      by_cases h : j < p.length
      · exact h
      · rw [List.getElem?_eq_none (by omega)] at hj; cases hj
    have := hc j hjl
    rw [List.getD_eq_getElem?_getD, List.getElem?_eq_getElem hjl] at this
    rw [List.getElem?_eq_getElem hjl] at hj
    simp only [Option.map_some, Option.some.injEq] at hj
    subst hj
    have e9 : (⟨b, o, none⟩ : Addr).add j = ⟨b, o + j, none⟩ := by unfold Addr.add; split <;> simp_all
    rw [e9]
    exact this) (by simp; omega) (one_ints p)
  have hs := splice_pad hl
  unfold splice at hs
  rw [List.toList_toArray, List.append_assoc, hs, List.length_map] at hrun
  refine ⟨_, hrun, ?_, fun B w0 h hB => below_setRow h hB _⟩
  have := rd_row (cap := n) (setRow_heap W3 g _ ((padP p n).map (Value.int .i64)).toArray 3 _ hrow)
  rwa [padP_len hl] at this
theorem whl_set {w w8 : World} {c9 base : Nat} {q q0 : Value} {xs : List ByteArray} (hq : OwnS w8 base q xs) (hc : c9 < base) (hw : w.heap.size ≤ c9) (hB : Below w.heap.size w w8) (k0 : w8.cell? ⟨c9, 0, none⟩ = some q0) (k1 : w8.frozen? ⟨c9, 0, none⟩ = false) (hz : c9 < w8.heap.size) :
    (w8.setCell ⟨c9, 0, none⟩ q).cell? ⟨c9, 0, none⟩ = some q ∧ (w8.setCell ⟨c9, 0, none⟩ q).frozen? ⟨c9, 0, none⟩ = false ∧ RdS (w8.setCell ⟨c9, 0, none⟩ q) q xs ∧ Below w.heap.size w (w8.setCell ⟨c9, 0, none⟩ q) ∧ c9 < (w8.setCell ⟨c9, 0, none⟩ q).heap.size :=
  ⟨World.cell?_setCell_same _ _ _ k0, by rw [World.frozen?_setCell]; exact k1, owns_RdS (ownsRow_kept_new hq (grownBy_setCell w8 c9 0 q) (fun k hk => by cases hk; omega)), hB.setCell (p := ⟨c9, 0, none⟩) hw _, by simpa [World.setCell] using hz⟩
set_option maxRecDepth 20000 in
set_option maxHeartbeats 3200000 in
theorem c_PlanWheels (v : Value) (pl : List Seg) (W : Int) (w : World) (ha : RdP w v pl) (hx : pl.length ≤ 1099511627776) (hpx : ∀ s ∈ pl, s.2.length ≤ 1099511627776) :
    Calls Try.prog 9 #[v, (.int .i64 (W))] w fun e w' => e = .returned (.int .i64 (whF pl W)) ∧ Below w.heap.size w w' := by
  have hpv := c_impl_PlanValid v pl w ha hx hpx
  by_cases hvW : planB pl = false ∨ inB W 1 12 = false
  · have HF := hidd (wh_inv hvW)
    have HWV := hidd (c_widthValid W)
    rcases hvW with hv | hw
    · rw [hv] at hpv
      clear hv ha hpx hx
      go_enter Try.func9, Try.ntmps9
      go_wp2_with fail
      refine hpv.mono ?_
      rintro e w1 ⟨rfl, hB1⟩
      clear hpv
      go_wp2
      go_ret
      exact ⟨by rw [HF.out]; rfl, hB1⟩
    · cases hv : planB pl
      · rw [hv] at hpv
        clear hv ha hpx hx
        go_enter Try.func9, Try.ntmps9
        go_wp2_with fail
        refine hpv.mono ?_
        rintro e w1 ⟨rfl, hB1⟩
        clear hpv
        go_wp2
        go_ret
        exact ⟨by rw [HF.out]; rfl, hB1⟩
      · rw [hv] at hpv
        clear hv ha hpx hx
        go_enter Try.func9, Try.ntmps9
        go_wp2_with fail
        refine hpv.mono ?_
        rintro e w1 ⟨rfl, hB1⟩
        clear hpv
        go_wp2_with (go_at_call 28; refine (HWV.out _).mono ?_; rw [hw]; rintro e w' ⟨rfl, rfl⟩)
        go_ret
        exact ⟨by rw [HF.out]; rfl, hB1⟩
  · have hv : planB pl = true := by cases h : planB pl <;> simp_all
    have hw : inB W 1 12 = true := by cases h : inB W 1 12 <;> simp_all
    have HV := hidd (valOk_of (planB_iff.1 hv).2.1)
    have HYES : Hid ((∀ i, i < pl.length → suB (padP (pl.getD i noG).2 (lngN pl)) W = true) → whF pl W = (whN W (lngN pl) pl pl.length : Int)) := fun h => wh_yes hv hw h
    have HNO : Hid (∀ k, k < pl.length → suB (padP (pl.getD k noG).2 (lngN pl)) W = false → whF pl W = -1) := fun k hk h => wh_no hk h
    have hl := planB_len hv
    obtain ⟨hn7, hln⟩ := wh_lens HV.out
    have HLN := hidd hln
    have hwb := inB_iff.1 hw
    have HWL : Hid (∀ j, whN W (lngN pl) pl j ≤ j * 84) := whN_le W _ pl hw hn7
    have HWV := hidd (c_widthValid W)
    rw [hv] at hpv
    clear hvW hv hpx hx hln
    obtain ⟨a, cap, rfl, hcap⟩ := ha.form
    go_enter Try.func9, Try.ntmps9
    go_wp2_with fail
    refine hpv.mono ?_
    rintro e w1 ⟨rfl, hB1⟩
    clear hpv
    go_wp2_with (go_at_call 28; refine (HWV.out _).mono ?_; rw [hw]; rintro e w' ⟨rfl, rfl⟩)
    go_loopw [5, 25] (fun q i wr => ∃ k : Nat, k ≤ pl.length ∧ i = .int .i64 k ∧ q = .int .i64 (lngN (pl.take k) : Nat) ∧ Below w.heap.size w wr) (fun _ i _ => pl.length - (intOf i).toNat)
    case atStart => exact ⟨0, by omega, rfl, rfl, hB1⟩
    case round =>
      obtain ⟨k, hk, rfl, rfl, hB⟩ := hrel
      clear hB1
      by_cases hlt : k < pl.length
      · obtain ⟨b, o, pa, pn, pc, rfl, hb, e1, e2, hp, hpc, hpn⟩ := ha.cell hB hlt
        have HS := hidd (lngN_take_succ pl k hlt)
        obtain ⟨s, hs⟩ : ∃ s, pl.getD k noG = s := ⟨_, rfl⟩
        rw [hs] at e1 HS hpn
        obtain ⟨c, p⟩ := s
        replace hpn : pn = p.length := hpn
        obtain ⟨t, ht⟩ : ∃ t, lngN (pl.take k) = t := ⟨_, rfl⟩
        have HS2 : Hid (lngN (pl.take (k + 1)) = max t pn) := by show _ = _; rw [HS.out, ht, hpn]
        rw [ht]
        have i1 : (0 : Int) ≤ (k : Int) := by omega
        have i2 : (k : Int) < (pl.length : Int) := by omega
        have hBa : Below w.heap.size w (wr.alloc (.cells #[.int .i64 c, .slice pa pn pc] 47)) := hB.alloc hB.size _
        clear hs ht hp hpc hpn ha hB HS HLN HV HYES HNO HWL
        go_wp2
        all_goals
          go_roundw
          case rel => exact ⟨k + 1, by omega, by go_num, by rw [HS2.out]; first | rfl | (congr 1; omega), hBa⟩
          case measure => simp [intOf]; omega
      · have HK : Hid (lngN (pl.take k) = lngN pl) := by show _ = _; rw [List.take_of_length_le (by omega)]
        rw [HK.out]
        obtain ⟨n, hn⟩ : ∃ n, lngN pl = n := ⟨_, rfl⟩
        rw [hn] at HYES HNO HLN HWL hn7 ⊢
        obtain rfl : k = pl.length := by omega
        clear HK hn hlt
        clear hk
        have d0 : (wr.alloc (.cells #[.slice none 0 0] 50)).cell? ⟨wr.heap.size, 0, none⟩ = some (.slice none 0 0) := by simp [go_sem]
        have d1 : (wr.alloc (.cells #[.slice none 0 0] 50)).frozen? ⟨wr.heap.size, 0, none⟩ = false := by simp [go_sem]
        have hB2 : Below w.heap.size w (wr.alloc (.cells #[.slice none 0 0] 50)) := hB.alloc hB.size _
        have hz2 : wr.heap.size < (wr.alloc (.cells #[.slice none 0 0] 50)).heap.size := by simp
        have hzw : w.heap.size ≤ wr.heap.size := hB.size
        go_wp2
        generalize hW2 : wr.alloc (.cells #[.slice none 0 0] 50) = w2 at *
        generalize hc9 : wr.heap.size = c9 at *
        clear hW2 hc9 hB
        go_loopw [8, 37] (fun q i wr => ∃ (j : Nat) (ua : Option Addr) (un uc : Nat), j ≤ pl.length ∧ i = .int .i64 j ∧ q = .int .i64 (whN W n pl j : Nat) ∧ wr.cell? ⟨c9, 0, none⟩ = some (.slice ua un uc) ∧ wr.frozen? ⟨c9, 0, none⟩ = false ∧ (0 < j → RdS wr (.slice ua un uc) (cols W.toNat (trnN (pl.getD (j - 1) noG).1.toNat (padP (pl.getD (j - 1) noG).2 n)))) ∧ (∀ i, i < j → suB (padP (pl.getD i noG).2 n) W = true) ∧ Below w.heap.size w wr ∧ c9 < wr.heap.size) (fun _ i _ => pl.length - (intOf i).toNat)
        case atStart => exact ⟨0, _, _, _, by omega, rfl, rfl, d0, d1, fun h => by omega, fun i hi => by omega, hB2, hz2⟩
        case round =>
          obtain ⟨j, ua, un, uc, hj, rfl, rfl, k0, k1, hu, hok, hB, hz⟩ := hrel
          have HOK := hidd hok
          clear d0 d1 hB2 hz2 hok
          by_cases hlt : j < pl.length
          · obtain ⟨b, o, pa, pn, pc, rfl, hb, e1, e2, hp, hpc, hpn⟩ := ha.cell hB hlt
            obtain ⟨s1, s2, hpv⟩ := HV.out.get hlt
            obtain ⟨l1, l2⟩ := HLN.out j hlt
            have HNJ := hidd (HNO.out j hlt)
            have hwl := HWL.out j
            have HWS : Hid (whN W n pl (j + 1) = whN W n pl j + if j = 0 then 0 else whD W n (pl.getD (j - 1) noG) (pl.getD j noG)) := rfl
            have HOK2 : Hid (suB (padP (pl.getD j noG).2 n) W = true → ∀ i, i < j + 1 → suB (padP (pl.getD i noG).2 n) W = true) := fun h i hi => by
              by_cases h2 : i < j
              · exact HOK.out i h2
              · obtain rfl : i = j := by omega
                exact h
            have HLS : Hid ((pl.getD (j + 1 - 1) noG) = pl.getD j noG) := rfl
            obtain ⟨s, hs⟩ : ∃ s, pl.getD j noG = s := ⟨_, rfl⟩
            rw [hs] at e1 hp s1 s2 hpv l1 l2 HNJ HWS HOK2 HLS hpn
            obtain ⟨c, p⟩ := s
            have s1 : 1 ≤ c := s1
            have s2 : c ≤ 60 := s2
            have l1 : 1 ≤ p.length := l1
            have l2 : p.length ≤ n := l2
            have hpn : pn = p.length := hpn
            subst hpn
            obtain ⟨C, rfl⟩ : ∃ C : Nat, c = C := ⟨c.toNat, by omega⟩
            have e1 : wr.cell? ⟨b, o + j * 2, none⟩ = some (.int .i64 ((C : Int))) := e1
            have i1 : (0 : Int) ≤ (j : Int) := by omega
            have i2 : (j : Int) < (pl.length : Int) := by omega
            have hpp : polyB (padP p n) = true := padP_poly hpv l2 hn7
            have HPL : Hid ((padP p n).length = n) := padP_len l2
            have HX := hidd (whl_keep (W1 := wr.alloc (.cells #[(.int .i64 ((C : Int))), .slice pa p.length pc] 47)) rfl hB k0 k1 hz hp hu)
            have hSU : Hid (∀ g W', RdI W' (.slice (some ⟨g, 0, none⟩) n n) (padP p n) → Calls Try.prog 29 #[.slice (some ⟨g, 0, none⟩) n n, (.int .i64 (0)), (.int .i64 (W))] W' (SuR (padP p n) W W')) := fun g W' h => c_SetUp _ (padP p n) W W' h (fun a l c e => by simp only [Value.slice.injEq] at e; omega) hpp
            have hsp := splice_pad l2
            have HSP := hidd hsp
            have hz1 : (wr.alloc (.cells #[(.int .i64 ((C : Int))), .slice pa p.length pc] 47)).heap.size = wr.heap.size + 1 := by simp
            clear hs hp hpc hpv ha hB hu hpp hsp
            clear k0 k1
            have HMR : Hid (∀ W3 : World, W3.ownsRow (wr.alloc (.cells #[(.int .i64 ((C : Int))), .slice pa p.length pc] 47)).heap.size 3 1 (.slice (some ⟨(wr.alloc (.cells #[(.int .i64 ((C : Int))), .slice pa p.length pc] 47)).heap.size, 0, none⟩) n n) n (List.replicate n (.int .i64 0)) → Below (wr.alloc (.cells #[(.int .i64 ((C : Int))), .slice pa p.length pc] 47)).heap.size (wr.alloc (.cells #[(.int .i64 ((C : Int))), .slice pa p.length pc] 47)) W3 → ∃ W4, (Builtin.copy_ #[32, 32] 3 #[.slice (some ⟨wr.heap.size + 1, 0, none⟩) n n, .slice pa p.length pc]).run Try.prog W3 = .ok (goInt p.length) W4 ∧ RdI W4 (.slice (some ⟨wr.heap.size + 1, 0, none⟩) n n) (padP p n) ∧ Below (wr.alloc (.cells #[(.int .i64 ((C : Int))), .slice pa p.length pc] 47)).heap.size (wr.alloc (.cells #[(.int .i64 ((C : Int))), .slice pa p.length pc] 47)) W4) := fun W3 h hB3 => by
              have hp3 := (HX.out _ hB3).2.2.2.2.1
              rw [hz1] at h
              obtain ⟨W4, h1, h2, h3⟩ := run_pad (made_row h) hp3 l1 l2
              exact ⟨W4, h1, h2, h3 _ _ hB3 (by omega)⟩
            go_wp2_with (at_make; refine mkfull 32 3 Try.underlying32 infoInt rfl (by decide) rfl _ _ rfl n rfl rfl rfl rfl (by omega) ?_; intro w3 ho3 hB3 hz3; obtain ⟨x0, x1, x2, x3, -, -, -, -, -⟩ := HX.out _ hB3; obtain ⟨w4, hrun, hpd, hB4⟩ := HMR.out _ ho3 hB3)
            clear ho3 hB3 hz3 x0 x1 x2 x3 hrun
            obtain ⟨x0, x1, x2, x3, -, hu4, hA4, hz4, -⟩ := HX.out _ hB4
            have HSU := hidd (hSU.out _ _ hpd)
            clear hpd hSU HMR HSP
            cases hsu : suB (padP p n) W with
            | true =>
              have HOK3 := hidd (HOK2.out hsu)
              go_wp2_with fail
              refine HSU.out.mono ?_
              intro e w5 hsr
              unfold SuR at hsr
              rw [if_pos hsu] at hsr
              obtain ⟨u, rfl, hu5, hB5⟩ := hsr
              have hvr := owns_RdS hu5
              obtain ⟨va, vc, rfl⟩ := RdS_form hvr
              rw [cols_len, HPL.out] at hvr ⊢
              have hal : Below w5.heap.size w5 (w5.alloc (.cells #[.slice va n vc] 50)) := (Below.refl _ _).alloc (Nat.le_refl _) _
              have hB6 := bthen (bthen hB4 hB5) hal
              have hzr : wr.heap.size < (w5.alloc (.cells #[.slice va n vc] 50)).heap.size := by have := hB6.size; omega
              obtain ⟨y0, y1, y2, y3, -, hu6, hA6, hz6, -⟩ := HX.out _ hB6
              have d2 : (w5.alloc (.cells #[.slice va n vc] 50)).cell? ⟨w5.heap.size, 0, none⟩ = some (.slice va n vc) := by simp [go_sem]
              have hz7 : w5.heap.size < (w5.alloc (.cells #[.slice va n vc] 50)).heap.size := by simp
              have hvr6 := hvr.kept hal
              have hn1 : 1 ≤ n := by omega
              clear hu5 hvr hal hB5 hsu HSU hA4 x0 x1 x2 x3 hu4 hz4 HNJ hB6
              obtain ⟨w6, hw6⟩ : ∃ w6, w5.alloc (.cells #[.slice va n vc] 50) = w6 := ⟨_, rfl⟩
              obtain ⟨f, hf⟩ : ∃ f, w5.heap.size = f := ⟨_, rfl⟩
              rw [hw6] at d2 hz7 hvr6 y0 y1 y2 y3 hu6 hA6 hz6
              rw [hf] at d2 hz7
              rw [hw6] at hzr
              by_cases hj0 : j = 0
              · subst hj0
                have HW1 : Hid (whN W n pl (0 + 1) = whN W n pl 0) := by show _ = _; rw [HWS.out, if_pos rfl, Nat.add_zero]
                clear hu6 HWS
                go_wp2_with fail
                refine (c_TurnMany W.toNat _ (padP p n) C _ hvr6 (by omega) (by omega) (by rw [HPL.out]; exact hn1) (by rw [HPL.out]; exact hn7) (by omega)).mono ?_
                rintro e w8 ⟨q, rfl, hq, hB8⟩
                obtain ⟨qa, qc, rfl⟩ := RdS_form (owns_RdS hq)
                rw [cols_len, trnN_len, HPL.out] at hq ⊢
                have k8 := ((bcell hB8).1 _ _ hz6).trans y2
                have k9 := ((bcell hB8).2 _ _ hz6).trans y3
                have HE := hidd (whl_set hq hz6 hzw (bthen hA6 hB8) k8 k9 (Nat.lt_of_lt_of_le hz6 hB8.size))
                clear hq hB8 y0 y1 y2 y3 hA6 hz6 d2 hz7 hvr6
                go_wp2
                go_roundw
                case rel => exact ⟨0 + 1, _, _, _, by omega, by go_num, by rw [HW1.out], HE.out.1, HE.out.2.1, fun _ => by rw [HLS.out]; exact HE.out.2.2.1, HOK3.out, HE.out.2.2.2⟩
                case measure => simp [intOf]; omega
              · have hj1 : 0 < j := by omega
                obtain ⟨r1, r2⟩ := HLN.out (j - 1) (by omega)
                have HPV : Hid ((trnN (pl.getD (j - 1) noG).1.toNat (padP (pl.getD (j - 1) noG).2 n)).length = n) := by show _ = _; rw [trnN_len, padP_len r2]
                have hd84 := whD_le W n (pl.getD (j - 1) noG) (↑C, p) hw hn7
                have HW0 : Hid (whN W n pl (j + 1) = whN W n pl j + whD W n (pl.getD (j - 1) noG) (↑C, p)) := by show _ = _; rw [HWS.out, if_neg hj0]
                have HCW := hidd (c_ChangeWheels W.toNat _ _ _ _ w6 (hu6 hj1) hvr6 (by omega) (by omega) (by rw [HPL.out, HPV.out]) (by rw [HPV.out]; exact hn1) (by rw [HPV.out]; exact hn7))
                have HDD : Hid (difE (cols W.toNat (trnN (pl.getD (j - 1) noG).1.toNat (padP (pl.getD (j - 1) noG).2 n))) (cols W.toNat (padP p n)) (trnN (pl.getD (j - 1) noG).1.toNat (padP (pl.getD (j - 1) noG).2 n)).length = whD W n (pl.getD (j - 1) noG) (↑C, p)) := by show _ = _; rw [HPV.out]; rfl
                rw [HDD.out] at HCW
                have j1 : (0 : Int) < (j : Int) := by omega
                clear HWS HDD HPV r1 r2 hu6 hj0
                generalize whD W n (pl.getD (j - 1) noG) (↑C, p) = D at *
                have HW1 : Hid (((whN W n pl (j + 1) : Nat) : Int) = (whN W n pl j : Int) + (D : Int)) := by show _ = _; rw [HW0.out]; push_cast; rfl
                go_wp2_with fail
                refine HCW.out.mono ?_
                rintro e w7 ⟨rfl, hB7⟩
                have z2 := ((bcell hB7).1 _ _ hz6).trans y2
                have z3 := ((bcell hB7).2 _ _ hz6).trans y3
                have z0 := ((bcell hB7).1 _ _ hzr).trans y0
                have d7 := ((bcell hB7).1 _ _ hz7).trans d2
                have hvr7 := hvr6.kept hB7
                have hA7 := bthen hA6 hB7
                have hz77 := Nat.lt_of_lt_of_le hz6 hB7.size
                clear y0 y1 y2 y3 d2 hvr6 hA6 HCW
                go_wp2_with fail
                refine (c_TurnMany W.toNat _ (padP p n) C _ hvr7 (by omega) (by omega) (by rw [HPL.out]; exact hn1) (by rw [HPL.out]; exact hn7) (by omega)).mono ?_
                rintro e w8 ⟨q, rfl, hq, hB8⟩
                obtain ⟨qa, qc, rfl⟩ := RdS_form (owns_RdS hq)
                rw [cols_len, trnN_len, HPL.out] at hq ⊢
                have k8 := ((bcell hB8).1 _ _ hz77).trans z2
                have k9 := ((bcell hB8).2 _ _ hz77).trans z3
                have HE := hidd (whl_set hq hz77 hzw (bthen hA7 hB8) k8 k9 (Nat.lt_of_lt_of_le hz77 hB8.size))
                clear hq hB8 z0 z2 z3 hA7 hz77 d7 hvr7 hB7
                go_wp2
                go_roundw
                case rel => exact ⟨j + 1, _, _, _, by omega, by go_num, by rw [HW1.out], HE.out.1, HE.out.2.1, fun _ => by rw [HLS.out]; exact HE.out.2.2.1, HOK3.out, HE.out.2.2.2⟩
                case measure => simp [intOf]; omega
            | false =>
              have HF := hidd (HNJ.out hsu)
              go_wp2_with fail
              refine HSU.out.mono ?_
              intro e w5 hsr
              unfold SuR at hsr
              rw [if_neg (by rw [hsu]; decide)] at hsr
              obtain ⟨rfl, hB5⟩ := hsr
              have HA : Hid (Below w.heap.size w (w5.alloc (.cells #[.slice none 0 0] 50))) := (bthen hA4 hB5).alloc (by have := (bthen hA4 hB5).size; omega) _
              clear hsu hB5 hA4 hB4 x0 x1 x2 x3 hu4 hz4
              go_wp2
              go_ret
              exact ⟨by rw [HF.out]; rfl, HA.out⟩
          · have HF := hidd (HYES.out (fun i hi => HOK.out i (by omega)))
            obtain rfl : j = pl.length := by omega
            clear hlt k0 k1 hu ha
            go_wp2
            go_ret
            exact ⟨by rw [HF.out]; rfl, hB⟩
end Go.Proofs.Ythjehjdcpfefcaa

namespace Go.Proofs.Ythjehjdcpfefcaa
set_option linter.unusedVariables false
open Go.RowKit

/-- what a round of the plan's wheels finds in any world above: the box of the last engine, the segment's count -/
theorem whs_keep {w wr : World} {c9 b o : Nat} {ua : Option Addr} {un uc : Nat} {x : Value} {xs : List ByteArray}
    (hB : Below w.heap.size w wr) (hb : wr.cell? ⟨c9, 0, none⟩ = some (.slice ua un uc)) (hf : wr.frozen? ⟨c9, 0, none⟩ = false) (hc : c9 < wr.heap.size) (hx : wr.cell? ⟨b, o, none⟩ = some x) (hb1 : b < w.heap.size) {P : Prop} (hu : P → RdS wr (.slice ua un uc) xs) :
    ∀ W, Below wr.heap.size wr W → W.cell? ⟨c9, 0, none⟩ = some (.slice ua un uc) ∧ W.frozen? ⟨c9, 0, none⟩ = false ∧ W.cell? ⟨b, o, none⟩ = some x ∧ (P → RdS W (.slice ua un uc) xs) ∧ Below w.heap.size w W ∧ c9 < W.heap.size := by
  intro W h
  obtain ⟨bc, bf⟩ := bcell h
  have hs := hB.size
  have hs2 := h.size
  exact ⟨(bc _ _ hc).trans hb, (bf _ _ hc).trans hf, (bc _ _ (by omega)).trans hx, fun q => (hu q).kept h, bthen hB h, by omega⟩
/-- while the last engine is turned: the boxes and the count -/
def WhS (w : World) (c9 f b o : Nat) (u x : Value) (wx : World) : Prop :=
  Below w.heap.size w wx ∧ f < wx.heap.size ∧ c9 < wx.heap.size ∧ wx.cell? ⟨f, 0, none⟩ = some u ∧ wx.cell? ⟨b, o, none⟩ = some x
theorem WhS.set {w wx : World} {c9 f b o : Nat} {u x : Value} (h : WhS w c9 f b o u x wx) (hb : b < w.heap.size) (hc : w.heap.size ≤ c9) (hf : f ≠ c9) (q : Value) : WhS w c9 f b o u x (wx.setCell ⟨c9, 0, none⟩ q) := by
  obtain ⟨k0, z1, z2, k1, k2⟩ := h
  refine ⟨k0.setCell (p := ⟨c9, 0, none⟩) hc _, by simpa [World.setCell] using z1, by simpa [World.setCell] using z2, ?_, ?_⟩
  · rw [World.cell?_setCell_other _ _ _ _ (by simp only [ne_eq, Addr.mk.injEq]; omega)]; exact k1
  · rw [World.cell?_setCell_other _ _ _ _ (by simp only [ne_eq, Addr.mk.injEq]; omega)]; exact k2
theorem WhS.kept {w wa wb : World} {c9 f b o : Nat} {u x : Value} (h : WhS w c9 f b o u x wa) (hb : b < w.heap.size) (k : Below wa.heap.size wa wb) : WhS w c9 f b o u x wb := by
  obtain ⟨k0, z1, z2, k1, k2⟩ := h
  have hs := k.size
  have hs0 := k0.size
  obtain ⟨bc, _⟩ := bcell k
  exact ⟨bthen k0 k, by omega, by omega, (bc _ _ z1).trans k1, (bc _ _ (by omega)).trans k2⟩
set_option maxRecDepth 20000 in
set_option maxHeartbeats 3200000 in
theorem c_sPlanWheels (v : Value) (pl : List Seg) (W : Int) (w : World) (ha : RdP w v pl) (hx : pl.length ≤ 1099511627776) (hpx : ∀ s ∈ pl, s.2.length ≤ 1099511627776) :
    Calls Try.prog 7 #[v, (.int .i64 (W))] w fun e w' => e = .returned (.int .i64 (whF pl W)) ∧ Below w.heap.size w w' := by
  have hpv := c_spec_PlanValid v pl w ha hx hpx
  by_cases hvW : planB pl = false ∨ inB W 1 12 = false
  · have HF := hidd (wh_inv hvW)
    have HWV := hidd (c_l1Width W)
    rcases hvW with hv | hw
    · rw [hv] at hpv
      clear hv ha hpx hx
      go_enter Try.func7, Try.ntmps7
      go_wp2_with fail
      refine hpv.mono ?_
      rintro e w1 ⟨rfl, hB1⟩
      clear hpv
      go_wp2
      go_ret
      exact ⟨by rw [HF.out]; rfl, hB1⟩
    · cases hv : planB pl
      · rw [hv] at hpv
        clear hv ha hpx hx
        go_enter Try.func7, Try.ntmps7
        go_wp2_with fail
        refine hpv.mono ?_
        rintro e w1 ⟨rfl, hB1⟩
        clear hpv
        go_wp2
        go_ret
        exact ⟨by rw [HF.out]; rfl, hB1⟩
      · rw [hv] at hpv
        clear hv ha hpx hx
        go_enter Try.func7, Try.ntmps7
        go_wp2_with fail
        refine hpv.mono ?_
        rintro e w1 ⟨rfl, hB1⟩
        clear hpv
        go_wp2_with (go_at_call 21; refine (HWV.out _).mono ?_; rw [hw]; rintro e w' ⟨rfl, rfl⟩)
        go_ret
        exact ⟨by rw [HF.out]; rfl, hB1⟩
  · have hv : planB pl = true := by cases h : planB pl <;> simp_all
    have hw : inB W 1 12 = true := by cases h : inB W 1 12 <;> simp_all
    have HV := hidd (valOk_of (planB_iff.1 hv).2.1)
    have HYES : Hid ((∀ i, i < pl.length → suB (padP (pl.getD i noG).2 (lngN pl)) W = true) → whF pl W = (whN W (lngN pl) pl pl.length : Int)) := fun h => wh_yes hv hw h
    have HNO : Hid (∀ k, k < pl.length → suB (padP (pl.getD k noG).2 (lngN pl)) W = false → whF pl W = -1) := fun k hk h => wh_no hk h
    have hl := planB_len hv
    obtain ⟨hn7, hln⟩ := wh_lens HV.out
    have HLN := hidd hln
    have hwb := inB_iff.1 hw
    have HWL : Hid (∀ j, whN W (lngN pl) pl j ≤ j * 84) := whN_le W _ pl hw hn7
    have HWV := hidd (c_l1Width W)
    rw [hv] at hpv
    clear hvW hv hpx hx hln
    obtain ⟨a, cap, rfl, hcap⟩ := ha.form
    go_enter Try.func7, Try.ntmps7
    go_wp2_with fail
    refine hpv.mono ?_
    rintro e w1 ⟨rfl, hB1⟩
    clear hpv
    go_wp2_with (go_at_call 21; refine (HWV.out _).mono ?_; rw [hw]; rintro e w' ⟨rfl, rfl⟩)
    go_loopw [6, 7] (fun q i wr => ∃ k : Nat, k ≤ pl.length ∧ i = .int .i64 k ∧ q = .int .i64 (lngN (pl.take k) : Nat) ∧ Below w.heap.size w wr) (fun _ i _ => pl.length - (intOf i).toNat)
    case atStart => exact ⟨0, by omega, rfl, rfl, hB1⟩
    case round =>
      obtain ⟨k, hk, rfl, rfl, hB⟩ := hrel
      clear hB1
      by_cases hlt : k < pl.length
      · obtain ⟨b, o, pa, pn, pc, rfl, hb, e1, e2, hp, hpc, hpn⟩ := ha.cell hB hlt
        have HS := hidd (lngN_take_succ pl k hlt)
        obtain ⟨s, hs⟩ : ∃ s, pl.getD k noG = s := ⟨_, rfl⟩
        rw [hs] at e1 HS hpn
        obtain ⟨c, p⟩ := s
        replace hpn : pn = p.length := hpn
        obtain ⟨t, ht⟩ : ∃ t, lngN (pl.take k) = t := ⟨_, rfl⟩
        have HS2 : Hid (lngN (pl.take (k + 1)) = max t pn) := by show _ = _; rw [HS.out, ht, hpn]
        rw [ht]
        have i1 : (0 : Int) ≤ (k : Int) := by omega
        have i2 : (k : Int) < (pl.length : Int) := by omega
        have HBw := hidd hB
        clear hs ht hp hpc hpn ha hB HS HLN HV HYES HNO HWL
        go_wp2
        all_goals
          go_roundw
          case rel => exact ⟨k + 1, by omega, by go_num, by rw [HS2.out]; first | rfl | (congr 1; omega), HBw.out⟩
          case measure => simp [intOf]; omega
      · have HK : Hid (lngN (pl.take k) = lngN pl) := by show _ = _; rw [List.take_of_length_le (by omega)]
        rw [HK.out]
        obtain ⟨n, hn⟩ : ∃ n, lngN pl = n := ⟨_, rfl⟩
        rw [hn] at HYES HNO HLN HWL hn7 ⊢
        obtain rfl : k = pl.length := by omega
        clear HK hn hlt
        clear hk
        have d0 : (wr.alloc (.cells #[.slice none 0 0] 50)).cell? ⟨wr.heap.size, 0, none⟩ = some (.slice none 0 0) := by simp [go_sem]
        have d1 : (wr.alloc (.cells #[.slice none 0 0] 50)).frozen? ⟨wr.heap.size, 0, none⟩ = false := by simp [go_sem]
        have hB2 : Below w.heap.size w (wr.alloc (.cells #[.slice none 0 0] 50)) := hB.alloc hB.size _
        have hz2 : wr.heap.size < (wr.alloc (.cells #[.slice none 0 0] 50)).heap.size := by simp
        have hzw : w.heap.size ≤ wr.heap.size := hB.size
        go_wp2
        generalize hW2 : wr.alloc (.cells #[.slice none 0 0] 50) = w2 at *
        generalize hc9 : wr.heap.size = c9 at *
        clear hW2 hc9 hB
        go_loopw [5, 9] (fun q i wr => ∃ (j : Nat) (ua : Option Addr) (un uc : Nat), j ≤ pl.length ∧ i = .int .i64 j ∧ q = .int .i64 (whN W n pl j : Nat) ∧ wr.cell? ⟨c9, 0, none⟩ = some (.slice ua un uc) ∧ wr.frozen? ⟨c9, 0, none⟩ = false ∧ (0 < j → RdS wr (.slice ua un uc) (cols W.toNat (trnN (pl.getD (j - 1) noG).1.toNat (padP (pl.getD (j - 1) noG).2 n)))) ∧ (∀ i, i < j → suB (padP (pl.getD i noG).2 n) W = true) ∧ Below w.heap.size w wr ∧ c9 < wr.heap.size) (fun _ i _ => pl.length - (intOf i).toNat)
        case atStart => exact ⟨0, _, _, _, by omega, rfl, rfl, d0, d1, fun h => by omega, fun i hi => by omega, hB2, hz2⟩
        case round =>
          obtain ⟨j, ua, un, uc, hj, rfl, rfl, k0, k1, hu, hok, hB, hz⟩ := hrel
          have HOK := hidd hok
          clear d0 d1 hB2 hz2 hok
          by_cases hlt : j < pl.length
          · obtain ⟨b, o, pa, pn, pc, rfl, hb, e1, e2, hp, hpc, hpn⟩ := ha.cell hB hlt
            obtain ⟨s1, s2, hpv⟩ := HV.out.get hlt
            obtain ⟨l1, l2⟩ := HLN.out j hlt
            have HNJ := hidd (HNO.out j hlt)
            have hwl := HWL.out j
            have HWS : Hid (whN W n pl (j + 1) = whN W n pl j + if j = 0 then 0 else whD W n (pl.getD (j - 1) noG) (pl.getD j noG)) := rfl
            have HOK2 : Hid (suB (padP (pl.getD j noG).2 n) W = true → ∀ i, i < j + 1 → suB (padP (pl.getD i noG).2 n) W = true) := fun h i hi => by
              by_cases h2 : i < j
              · exact HOK.out i h2
              · obtain rfl : i = j := by omega
                exact h
            have HLS : Hid ((pl.getD (j + 1 - 1) noG) = pl.getD j noG) := rfl
            obtain ⟨s, hs⟩ : ∃ s, pl.getD j noG = s := ⟨_, rfl⟩
            rw [hs] at e1 hp s1 s2 hpv l1 l2 HNJ HWS HOK2 HLS hpn
            obtain ⟨c, p⟩ := s
            have s1 : 1 ≤ c := s1
            have s2 : c ≤ 60 := s2
            have l1 : 1 ≤ p.length := l1
            have l2 : p.length ≤ n := l2
            have hpn : pn = p.length := hpn
            subst hpn
            obtain ⟨C, rfl⟩ : ∃ C : Nat, c = C := ⟨c.toNat, by omega⟩
            have e1 : wr.cell? ⟨b, o + j * 2, none⟩ = some (.int .i64 ((C : Int))) := e1
            have i1 : (0 : Int) ≤ (j : Int) := by omega
            have i2 : (j : Int) < (pl.length : Int) := by omega
            have hpp : polyB (padP p n) = true := padP_poly hpv l2 hn7
            have HPL : Hid ((padP p n).length = n) := padP_len l2
            have HX := hidd (whs_keep hB k0 k1 hz e1 hb hu)
            have HLP := hidd (c_l5Padded (.slice pa p.length pc) p n wr (hp.kept hB) l2 hn7)
            have hSU : Hid (∀ v W', RdI W' v (padP p n) → CapOk v → Calls Try.prog 22 #[v, (.int .i64 (0)), (.int .i64 (W))] W' (SuR (padP p n) W W')) := fun v W' h hc => c_sSetUp v (padP p n) W W' h hc hpp
            clear hs hp hpc hpv ha hB hu hpp k0 k1 e1
            go_wp2_with fail
            refine HLP.out.mono ?_
            rintro e w3 ⟨pv, rfl, hpo, hB4⟩
            obtain ⟨x0, x1, x2, hu4, hA4, hz4⟩ := HX.out _ hB4
            have HSU := hidd (hSU.out _ _ (owns_RdI hpo) (owns_CapOk hpo))
            clear hpo hSU HLP e2
            cases hsu : suB (padP p n) W with
            | true =>
              have HOK3 := hidd (HOK2.out hsu)
              go_wp2_with fail
              refine HSU.out.mono ?_
              intro e w5 hsr
              unfold SuR at hsr
              rw [if_pos hsu] at hsr
              obtain ⟨u, rfl, hu5, hB5⟩ := hsr
              have hvr := owns_RdS hu5
              obtain ⟨va, vc, rfl⟩ := RdS_form hvr
              rw [cols_len, HPL.out] at hvr ⊢
              have hal : Below w5.heap.size w5 (w5.alloc (.cells #[.slice va n vc] 50)) := (Below.refl _ _).alloc (Nat.le_refl _) _
              have hB6 := bthen (bthen hB4 hB5) hal
              obtain ⟨y2, y3, y0, hu6, hA6, hz6⟩ := HX.out _ hB6
              have d2 : (w5.alloc (.cells #[.slice va n vc] 50)).cell? ⟨w5.heap.size, 0, none⟩ = some (.slice va n vc) := by simp [go_sem]
              have hz7 : w5.heap.size < (w5.alloc (.cells #[.slice va n vc] 50)).heap.size := by simp
              have hvr6 := hvr.kept hal
              have hn1 : 1 ≤ n := by omega
              have hfc : w5.heap.size ≠ c9 := by have := hB5.size; omega
              clear hu5 hvr hal hB5 hsu HSU hA4 x0 x1 x2 hu4 hz4 HNJ hB6
              obtain ⟨w6, hw6⟩ : ∃ w6, w5.alloc (.cells #[.slice va n vc] 50) = w6 := ⟨_, rfl⟩
              obtain ⟨f, hf⟩ : ∃ f, w5.heap.size = f := ⟨_, rfl⟩
              rw [hw6] at d2 hz7 hvr6 y0 y2 y3 hu6 hA6 hz6
              rw [hf] at d2 hz7
              rw [hf] at hfc
              by_cases hj0 : j = 0
              · have hgt : ¬ ((0 : Int) < (j : Int)) := by omega
                have HW1 : Hid (whN W n pl (j + 1) = whN W n pl j) := by show _ = _; rw [HWS.out, if_pos hj0, Nat.add_zero]
                clear hu6 HWS hj0
                have hk0 : WhS w c9 f b (o + j * 2) (.slice va n vc) (.int .i64 ((C : Int))) w6.drew := ⟨hA6.drew, hz7, hz6, d2, y0⟩
                have hvd : RdS w6.drew (.slice va n vc) (cols W.toNat (padP p n)) := hvr6
                have HTM := hidd (c_l3Many W.toNat _ (padP p n) C w6.drew hvd (by omega) (by omega) (by rw [HPL.out]; exact hn1) (by rw [HPL.out]; exact hn7) (by omega))
                have hdc : w6.drew.cell? ⟨c9, 0, none⟩ = some (.slice ua un uc) := y2
                have hdf : w6.drew.frozen? ⟨c9, 0, none⟩ = false := y3
                have hzd : c9 < w6.drew.heap.size := hz6
                have hAd : Below w.heap.size w w6.drew := hA6.drew
                clear y0 y2 y3 hA6 hz6 d2 hz7 hvr6 hvd
                go_wp2
                go_region_held3 (fun wx => Below w.heap.size w wx ∧ f < wx.heap.size ∧ c9 < wx.heap.size ∧ wx.cell? ⟨f, 0, none⟩ = some (.slice va n vc) ∧ wx.cell? ⟨b, o + j * 2, none⟩ = some (.int .i64 ((C : Int)))) (first | assumption | exact hk0 | exact WhS.kept (by assumption) hb (by assumption) | exact WhS.set (by assumption) hb hzw hfc _)
                  ((go_at_call 25; refine HTM.out.mono ?_; rintro e w8 ⟨q, rfl, hq, hB8⟩; obtain ⟨qa, qc, rfl⟩ := RdS_form (owns_RdS hq); have k8 := ((bcell hB8).1 _ _ hzd).trans hdc; have k9 := ((bcell hB8).2 _ _ hzd).trans hdf))
                rename_i hS
                have HE := hidd (whl_set hq hzd hzw (bthen hAd hB8) k8 k9 (Nat.lt_of_lt_of_le hzd hB8.size))
                clear hS hk0 hq hB8 k8 k9 hdc hdf hzd hAd
                go_wp2
                go_roundw
                case rel => exact ⟨j + 1, _, _, _, by omega, by go_num, by rw [HW1.out], HE.out.1, HE.out.2.1, fun _ => by rw [HLS.out]; exact HE.out.2.2.1, HOK3.out, HE.out.2.2.2⟩
                case measure => simp [intOf]; omega
              · have hj1 : 0 < j := by omega
                obtain ⟨r1, r2⟩ := HLN.out (j - 1) (by omega)
                have HPV : Hid ((trnN (pl.getD (j - 1) noG).1.toNat (padP (pl.getD (j - 1) noG).2 n)).length = n) := by show _ = _; rw [trnN_len, padP_len r2]
                have hd84 := whD_le W n (pl.getD (j - 1) noG) (↑C, p) hw hn7
                have HW0 : Hid (whN W n pl (j + 1) = whN W n pl j + whD W n (pl.getD (j - 1) noG) (↑C, p)) := by show _ = _; rw [HWS.out, if_neg hj0]
                have HCW := hidd (c_sChangeWheels W.toNat _ _ _ _ w6 (hu6 hj1) hvr6 (by omega) (by omega) (by rw [HPL.out, HPV.out]) (by rw [HPV.out]; exact hn1) (by rw [HPV.out]; exact hn7))
                have HDD : Hid (difE (cols W.toNat (trnN (pl.getD (j - 1) noG).1.toNat (padP (pl.getD (j - 1) noG).2 n))) (cols W.toNat (padP p n)) (trnN (pl.getD (j - 1) noG).1.toNat (padP (pl.getD (j - 1) noG).2 n)).length = whD W n (pl.getD (j - 1) noG) (↑C, p)) := by show _ = _; rw [HPV.out]; rfl
                rw [HDD.out] at HCW
                have j1 : (0 : Int) < (j : Int) := by omega
                clear HWS HDD HPV r1 r2 hu6 hj0
                generalize whD W n (pl.getD (j - 1) noG) (↑C, p) = D at *
                have HW1 : Hid (((whN W n pl (j + 1) : Nat) : Int) = (whN W n pl j : Int) + (D : Int)) := by show _ = _; rw [HW0.out]; push_cast; rfl
                go_wp2_with fail
                refine HCW.out.mono ?_
                rintro e w7 ⟨rfl, hB7⟩
                replace y2 := ((bcell hB7).1 _ _ hz6).trans y2
                replace y3 := ((bcell hB7).2 _ _ hz6).trans y3
                replace y0 := ((bcell hB7).1 _ _ (by have := hA6.size; omega)).trans y0
                replace d2 := ((bcell hB7).1 _ _ hz7).trans d2
                replace hvr6 := hvr6.kept hB7
                replace hA6 := bthen hA6 hB7
                replace hz6 := Nat.lt_of_lt_of_le hz6 hB7.size
                replace hz7 := Nat.lt_of_lt_of_le hz7 hB7.size
                clear HCW
                have hk0 : WhS w c9 f b (o + j * 2) (.slice va n vc) (.int .i64 ((C : Int))) w7.drew := ⟨hA6.drew, hz7, hz6, d2, y0⟩
                have hvd : RdS w7.drew (.slice va n vc) (cols W.toNat (padP p n)) := hvr6
                have HTM := hidd (c_l3Many W.toNat _ (padP p n) C w7.drew hvd (by omega) (by omega) (by rw [HPL.out]; exact hn1) (by rw [HPL.out]; exact hn7) (by omega))
                have hdc : w7.drew.cell? ⟨c9, 0, none⟩ = some (.slice ua un uc) := y2
                have hdf : w7.drew.frozen? ⟨c9, 0, none⟩ = false := y3
                have hzd : c9 < w7.drew.heap.size := hz6
                have hAd : Below w.heap.size w w7.drew := hA6.drew
                clear y0 y2 y3 hA6 hz6 d2 hz7 hvr6 hvd
                go_wp2
                go_region_held3 (fun wx => Below w.heap.size w wx ∧ f < wx.heap.size ∧ c9 < wx.heap.size ∧ wx.cell? ⟨f, 0, none⟩ = some (.slice va n vc) ∧ wx.cell? ⟨b, o + j * 2, none⟩ = some (.int .i64 ((C : Int)))) (first | assumption | exact hk0 | exact WhS.kept (by assumption) hb (by assumption) | exact WhS.set (by assumption) hb hzw hfc _)
                  ((go_at_call 25; refine HTM.out.mono ?_; rintro e w8 ⟨q, rfl, hq, hB8⟩; obtain ⟨qa, qc, rfl⟩ := RdS_form (owns_RdS hq); have k8 := ((bcell hB8).1 _ _ hzd).trans hdc; have k9 := ((bcell hB8).2 _ _ hzd).trans hdf))
                rename_i hS
                have HE := hidd (whl_set hq hzd hzw (bthen hAd hB8) k8 k9 (Nat.lt_of_lt_of_le hzd hB8.size))
                clear hS hk0 hq hB8 k8 k9 hdc hdf hzd hAd
                go_wp2
                go_roundw
                case rel => exact ⟨j + 1, _, _, _, by omega, by go_num, by rw [HW1.out], HE.out.1, HE.out.2.1, fun _ => by rw [HLS.out]; exact HE.out.2.2.1, HOK3.out, HE.out.2.2.2⟩
                case measure => simp [intOf]; omega
            | false =>
              have HF := hidd (HNJ.out hsu)
              go_wp2_with fail
              refine HSU.out.mono ?_
              intro e w5 hsr
              unfold SuR at hsr
              rw [if_neg (by rw [hsu]; decide)] at hsr
              obtain ⟨rfl, hB5⟩ := hsr
              have HA : Hid (Below w.heap.size w (w5.alloc (.cells #[.slice none 0 0] 50))) := (bthen hA4 hB5).alloc (by have := (bthen hA4 hB5).size; omega) _
              clear hsu hB5 hA4 hB4 x0 x1 x2 hu4 hz4
              go_wp2
              go_ret
              exact ⟨by rw [HF.out]; rfl, HA.out⟩
          · have HF := hidd (HYES.out (fun i hi => HOK.out i (by omega)))
            obtain rfl : j = pl.length := by omega
            clear hlt k0 k1 hu ha
            go_wp2
            go_ret
            exact ⟨by rw [HF.out]; rfl, hB⟩
end Go.Proofs.Ythjehjdcpfefcaa
