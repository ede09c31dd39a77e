/- Lemmas and contracts for ParsePlanX (SegL1 SegL2 SegL3 SegL4 SegL5): plain words on memory, contracts of the functions that the law reaches. No condition but what each states. -/
import Derived.Test.YtdfnclnjnmdboaaDoorMParsePlanXPlan9
import Derived.Test.YtdfnclnjnmdboaaDoorMParsePlanXDeI
import Derived.Test.YtdfnclnjnmdboaaDoorMParsePlanXDrT
namespace Go.Proofs.YtdfnclnjnmdboaaDoor
set_option linter.unusedVariables false
open Go.RowKit

set_option maxRecDepth 20000 in
theorem c_szIntS (v : Value) (p : List Int) (L : Int) (w : World) (ha : RdI w v p) (hx : p.length ≤ 9223372036854775807) (hL : 0 ≤ L) (hL' : L ≤ 1048576) :
    Calls Tryd.prog 32 #[v, (.int .i64 (L))] w fun e w' => e = .returned (.int .i64 ((if L < p.length then -1 else L - p.length))) ∧ w = w' := by
  obtain ⟨a, c, rfl⟩ := RdI_form ha
  by_cases h : L < p.length
  · have E : Hid ((if L < p.length then -1 else L - p.length) = (-1 : Int)) := if_pos h
    clear ha
    go_enter Tryd.func32, Tryd.ntmps32
    go_wp2
    go_ret
    exact ⟨rfl, rfl⟩
  · have E : Hid ((if L < p.length then -1 else L - p.length) = L - p.length) := if_neg h
    clear ha
    go_enter Tryd.func32, Tryd.ntmps32
    go_wp2
    go_ret
    exact ⟨rfl, rfl⟩
set_option maxRecDepth 20000 in
theorem c_szSegment (c : Int) (pa : Option Addr) (pn pc : Nat) (p : List Int) (L : Int) (w : World) (ha : RdI w (.slice pa pn pc) p) (hx : p.length ≤ 9223372036854775807) (hL : 0 ≤ L) (hL' : L ≤ 1048576) :
    Calls Tryd.prog 14 #[.agg #[.int .i64 c, .slice pa pn pc], (.int .i64 (L))] w fun e w' => e = .returned (.int .i64 ((if L < p.length then -1 else L - p.length))) ∧ Below w.heap.size w w' := by
  have hB0 : Below w.heap.size w (w.alloc (.cells #[.int .i64 c, .slice pa pn pc] 36)) := (Below.refl _ _).alloc (Nat.le_refl _) _
  have hc := c_szIntS (.slice pa pn pc) p L _ (ha.kept hB0) hx hL hL'
  by_cases h : L < p.length
  · have E : Hid ((if L < p.length then -1 else L - p.length) = (-1 : Int)) := if_pos h
    rw [if_pos h] at hc
    have HC := hidd hc
    clear ha hc
    go_enter Tryd.func14, Tryd.ntmps14
    go_wp2_with fail
    refine HC.out.mono ?_
    rintro e w1 ⟨rfl, rfl⟩
    go_wp2
    go_ret
    exact ⟨rfl, hB0⟩
  · have E : Hid ((if L < p.length then -1 else L - p.length) = L - p.length) := if_neg h
    rw [if_neg h] at hc
    have HC := hidd hc
    have h0 : 0 ≤ L - (p.length : Int) := by omega
    clear ha hc
    go_enter Tryd.func14, Tryd.ntmps14
    go_wp2_with fail
    refine HC.out.mono ?_
    rintro e w1 ⟨rfl, rfl⟩
    go_wp2
    go_ret
    exact ⟨rfl, hB0⟩
/-- the numbers that a plan holds: a count and a polynomial for each segment -/
def cntM : List Seg → Nat
  | [] => 0
  | s :: t => 1 + s.2.length + cntM t
theorem cntM_append : ∀ a b : List Seg, cntM (a ++ b) = cntM a + cntM b
  | [], b => by simp [cntM]
  | s :: t, b => by simp [cntM, cntM_append t b]; omega
theorem cntM_len : ∀ a : List Seg, a.length ≤ cntM a
  | [] => by simp [cntM]
  | s :: t => by have := cntM_len t; simp [cntM]; omega
theorem cntM_mem : ∀ (a : List Seg) (s : Seg), s ∈ a → s.2.length + 1 ≤ cntM a
  | [], s, h => by simp at h
  | x :: t, s, h => by
    simp at h
    rcases h with rfl | h
    · simp [cntM]; omega
    · have := cntM_mem t s h; simp [cntM]; omega
theorem cntM_succ (pl : List Seg) (k : Nat) (h : k < pl.length) : cntM (pl.take (k + 1)) = cntM (pl.take k) + (1 + (pl.getD k noG).2.length) := by
  rw [take_succG pl k h, cntM_append]; simp [cntM]
theorem cntM_take (pl : List Seg) (k : Nat) : cntM (pl.take k) ≤ cntM pl := by
  have h := cntM_append (pl.take k) (pl.drop k)
  rw [List.take_append_drop] at h
  omega
/-- the size that is left; where it is not negative, all lengths are bounded -/
def SzR (w : World) (pl : List Seg) (L : Int) (e : Ending) (w' : World) : Prop := ∃ r : Int, e = .returned (.int .i64 r) ∧ r ≤ 1048576 ∧ (0 ≤ r → (cntM pl : Int) ≤ L) ∧ Below w.heap.size w w'
set_option maxRecDepth 20000 in
theorem c_szSegmentS (v : Value) (pl : List Seg) (L : Int) (w : World) (ha : RdP w v pl) (hx : pl.length ≤ 9223372036854775807) (hpx : ∀ s ∈ pl, s.2.length ≤ 9223372036854775807) (hL : 0 ≤ L) (hL' : L ≤ 1048576) :
    Calls Tryd.prog 5 #[v, (.int .i64 (L))] w (SzR w pl L) := by
  obtain ⟨a, cap, rfl, hcap⟩ := ha.form
  have HPX := hidd hpx
  by_cases h : L < pl.length
  · have HF : Hid (∀ W, Below w.heap.size w W → SzR w pl L (.returned (.int .i64 (-1))) W) := fun W hW => ⟨-1, rfl, by omega, fun h => by omega, hW⟩
    clear ha hpx
    go_enter Tryd.func5, Tryd.ntmps5
    go_wp2
    go_ret
    exact HF.out _ (Below.refl _ _)
  · have h2 : (pl.length : Int) ≤ L := by omega
    have HN : Hid (∀ W, Below w.heap.size w W → SzR w pl L (.returned (.int .i64 (-1))) W) := fun W hW => ⟨-1, rfl, by omega, fun h => by omega, hW⟩
    clear hpx
    go_enter Tryd.func5, Tryd.ntmps5
    go_wp2
    go_loopw [1, 5] (fun q i wr => ∃ (k : Nat) (r : Int), k ≤ pl.length ∧ i = .int .i64 k ∧ q = .int .i64 r ∧ 0 ≤ r ∧ r ≤ L ∧ Hid (r + cntM (pl.take k) + pl.length = L + k) ∧ Below w.heap.size w wr) (fun _ i _ => pl.length - (intOf i).toNat)
    case atStart => exact ⟨0, L - pl.length, by omega, rfl, rfl, by omega, by omega, (show L - (pl.length : Int) + ((cntM (pl.take 0) : Nat) : Int) + pl.length = L + ((0 : Nat) : Int) by simp [cntM]), Below.refl _ _⟩
    case round =>
      obtain ⟨k, r, hk, rfl, rfl, hr0, hrL, HA, hB⟩ := hrel
      by_cases hlt : k < pl.length
      · obtain ⟨b, o, pa, pn, pc, rfl, hb, e1, e2, hp, hpc, hpn⟩ := ha.cell hB hlt
        have hl := HPX.out (pl.getD k noG) (by simp [List.getD, hlt])
        have HTS := hidd (cntM_succ pl k hlt)
        obtain ⟨s, hs⟩ : ∃ s, pl.getD k noG = s := ⟨_, rfl⟩
        rw [hs] at e1 HTS hp hl
        obtain ⟨c, p⟩ := s
        have i1 : (0 : Int) ≤ (k : Int) := by omega
        have i2 : (k : Int) < (pl.length : Int) := by omega
        have hc := c_szSegment c pa pn pc p r wr (hp.kept hB) hl hr0 (by omega)
        by_cases hrp : r < p.length
        · rw [if_pos hrp] at hc
          have HC := hidd hc
          clear hs hp hpc hpn ha hl hc hrp
          go_wp2_with fail
          refine HC.out.mono ?_
          rintro e w2 ⟨rfl, hB2⟩
          have HB := hidd (bthen hB hB2)
          clear hB hB2
          go_wp2
          go_ret
          exact HN.out _ HB.out
        · rw [if_neg hrp] at hc
          have HC := hidd hc
          have HA2 : Hid (r - (p.length : Int) + cntM (pl.take (k + 1)) + pl.length = L + ((k + 1 : Nat) : Int)) := by
            show _ + _ + _ = _
            have h1 := HTS.out
            have h2 : r + (cntM (pl.take k) : Int) + pl.length = L + k := HA.out
            have h3 : cntM (pl.take (k + 1)) = cntM (pl.take k) + (1 + p.length) := h1
            rw [h3]; omega
          have hpl0 : 0 ≤ r - (p.length : Int) := by omega
          have hpl1 : r - (p.length : Int) ≤ L := by omega
          clear hs hp hpc hpn ha hl hc hrp
          go_wp2_with fail
          refine HC.out.mono ?_
          rintro e w2 ⟨rfl, hB2⟩
          have HB := hidd (bthen hB hB2)
          clear hB hB2
          go_wp2
          go_roundw
          case rel => exact ⟨k + 1, r - p.length, by omega, by go_num, rfl, hpl0, hpl1, HA2.out, HB.out⟩
          case measure => simp [intOf]; omega
      · have HF : Hid (SzR w pl L (.returned (.int .i64 r)) wr) := by
          have h : r + (cntM (pl.take k) : Int) + pl.length = L + k := HA.out
          rw [List.take_of_length_le (by omega)] at h
          exact ⟨r, rfl, by omega, fun _ => by omega, hB⟩
        clear ha
        go_wp2
        go_ret
        exact HF.out
end Go.Proofs.YtdfnclnjnmdboaaDoor

namespace Go.Proofs.YtdfnclnjnmdboaaDoor
set_option linter.unusedVariables false
open Go.RowKit

set_option maxRecDepth 20000 in
theorem c_toSegment (c : Int) (pa : Option Addr) (pn pc : Nat) (p : List Int) (w : World) (ha : RdI w (.slice pa pn pc) p) (hx : p.length ≤ 1099511627776) :
    Calls Tryd.prog 18 #[.agg #[.int .i64 c, .slice pa pn pc]] w (SegR w c p) := by
  have hB1 : Below w.heap.size w (w.alloc (.cells #[.int .i64 c, .slice pa pn pc] 36)) := (Below.refl _ _).alloc (Nat.le_refl _) _
  have hB2 : Below w.heap.size w ((w.alloc (.cells #[.int .i64 c, .slice pa pn pc] 36)).alloc (.cells #[.int .i64 0, .slice none 0 0] 39)) := hB1.alloc (by simp) _
  have hB4 : Below w.heap.size w (((w.alloc (.cells #[.int .i64 c, .slice pa pn pc] 36)).alloc (.cells #[.int .i64 0, .slice none 0 0] 39)).alloc (.cells #[.int .i64 c, .slice none 0 0] 39)) := hB2.alloc (by simp; omega) _
  have HC := hidd (k_to_ints (.slice pa pn pc) p _ (ha.kept hB4) hx)
  clear hB1 hB2 ha
  go_enter Tryd.func18, Tryd.ntmps18
  go_wp2_with fail
  refine HC.out.mono ?_
  rintro e w3 ⟨v', rfl, hq, hb⟩
  have hs3 : w.heap.size + 3 ≤ w3.heap.size := by have := hb.size; simpa using this
  have e1 : w3.cell? ⟨w.heap.size + 1, 0, none⟩ = some (.int .i64 0) := by rw [hb.cell (p := ⟨w.heap.size + 1, 0, none⟩) (by simp)]; simp [go_sem]
  have e2 : w3.cell? ⟨w.heap.size + 1, 1, none⟩ = some (.slice none 0 0) := by rw [hb.cell (p := ⟨w.heap.size + 1, 1, none⟩) (by simp)]; simp [go_sem]
  have e3 : w3.cell? ⟨w.heap.size + 2, 0, none⟩ = some (.int .i64 c) := by rw [hb.cell (p := ⟨w.heap.size + 2, 0, none⟩) (by simp)]; simp [go_sem]
  have e4 : w3.cell? ⟨w.heap.size + 2, 1, none⟩ = some (.slice none 0 0) := by rw [hb.cell (p := ⟨w.heap.size + 2, 1, none⟩) (by simp)]; simp [go_sem]
  have f1 : w3.frozen? ⟨w.heap.size + 1, 0, none⟩ = false := by rw [hb.frozen (p := ⟨w.heap.size + 1, 0, none⟩) (by simp)]; simp [go_sem]
  have f2 : w3.frozen? ⟨w.heap.size + 1, 1, none⟩ = false := by rw [hb.frozen (p := ⟨w.heap.size + 1, 1, none⟩) (by simp)]; simp [go_sem]
  have f4 : w3.frozen? ⟨w.heap.size + 2, 1, none⟩ = false := by rw [hb.frozen (p := ⟨w.heap.size + 2, 1, none⟩) (by simp)]; simp [go_sem]
  have hown : OwnI w3 (w.heap.size + 3) v' p := by
    have := hq
    simpa using this
  have hb3 : Below w.heap.size w w3 := bthen hB4 hb
  obtain ⟨qa, qc, rfl⟩ := RdI_form (owns_RdI hown)
  clear hq hB4 hb HC
  go_wp2
  refine bodyPost_ret (v := .agg #[.int .i64 c, .slice qa p.length qc]) (by simp [results, Tryd.results18, go_sem, e1, e2]) rfl ⟨_, _, _, rfl, ?_, ?_⟩
  · exact ownsRow_mono (own_set (own_set (own_set hown (by omega)) (by omega)) (by omega)) (by omega)
  · exact ((hb3.setCell (p := ⟨w.heap.size + 2, 1, none⟩) (by simp) _).setCell (p := ⟨w.heap.size + 1, 0, none⟩) (by simp) _).setCell (p := ⟨w.heap.size + 1, 1, none⟩) (by simp) _

set_option maxRecDepth 20000 in
set_option maxHeartbeats 1600000 in
theorem c_toSegmentS (v : Value) (pl : List Seg) (w : World) (ha : RdP w v pl) (hx : pl.length ≤ 1099511627776) (hpx : ∀ s ∈ pl, s.2.length ≤ 1099511627776) :
    Calls Tryd.prog 7 #[v] w (FreshP w pl) := by
  have HPX := hidd hpx
  obtain ⟨a, cap, rfl, hcap⟩ := ha.form
  clear hpx
  go_enter Tryd.func7, Tryd.ntmps7
  go_wp2_with (at_make; refine mkfullS 25 39 Tryd.underlying25 infoSeg (by decide) rfl _ _ rfl pl.length rfl rfl rfl rfl (by omega) ?_; intro w2 ho2 hB2 hz2)
  have hc2 : CopR w2 w.heap.size w.heap.size pl.length [] [] := ⟨Nat.zero_le _, by simpa using ho2, ⟨rfl, fun k hk => by simp at hk⟩, ApartR.nil⟩
  clear ho2
  go_loopw [4] (fun i wr => ∃ (k : Nat) (rs : List RSeg), k ≤ pl.length ∧ i = .int .i64 k ∧ rs.length = k ∧ CopR wr w.heap.size w.heap.size pl.length rs (pl.take k) ∧ w.heap.size < wr.heap.size ∧ Below w.heap.size w wr) (fun i _ => pl.length - (intOf i).toNat)
  case atStart => exact ⟨0, [], by omega, rfl, rfl, hc2, hz2, hB2⟩
  case round =>
    obtain ⟨k, rs, hk, rfl, hrk, hC, hgs, hB⟩ := hrel
    clear hc2 hB2 hz2
    by_cases hlt : k < pl.length
    · obtain ⟨b, o, pa, pn, pc, rfl, hb, e1, e2, hp, hpc, hpn⟩ := ha.cell hB hlt
      have hpl := HPX.out (pl.getD k noG) (by simp [List.getD, hlt])
      have HTS := hidd (take_succG pl k hlt)
      obtain ⟨s, hs⟩ : ∃ s, pl.getD k noG = s := ⟨_, rfl⟩
      rw [hs] at e1 HTS hp hpl
      obtain ⟨c, p⟩ := s
      have e1 : wr.cell? ⟨b, o + k * 2, none⟩ = some (.int .i64 c) := e1
      have hpl : p.length ≤ 1099511627776 := hpl
      have i1 : (0 : Int) ≤ (k : Int) := by omega
      have i2 : (k : Int) < (pl.length : Int) := by omega
      have HCL := hidd (c_toSegment c pa pn pc p wr (hp.kept hB) hpl)
      obtain ⟨hC1, hC2, hC3, hC4⟩ := hC
      have HLT := hidd hC3.lt
      have HC2 := hidd hC2
      have HC3 := hidd hC3
      have HC4 := hidd hC4
      have HB := hidd hB
      have HRK := hidd hrk
      clear hs hpc hpn hC2 hC3 hC4 ha hB hp hrk
      go_wp2_with fail
      refine HCL.out.mono ?_
      rintro e w6 ⟨qa, qn, qc, rfl, hu, hb6⟩
      have q1 := ownsRow_kept_below HC2.out hb6
      have q2 := HC3.out.kept hb6
      have hws := HB.out.size
      have hrk := HRK.out
      obtain ⟨y1, z1⟩ : ∃ y, w6.cell? ⟨w.heap.size, k * 2, none⟩ = some y := ⟨_, by rw [q1.cellAt (k * 2) (by omega)]; exact List.getElem?_eq_getElem (by rw [segCells_len]; simp; omega)⟩
      obtain ⟨y2, z2⟩ : ∃ y, w6.cell? ⟨w.heap.size, k * 2 + 1, none⟩ = some y := ⟨_, by rw [q1.cellAt (k * 2 + 1) (by omega)]; exact List.getElem?_eq_getElem (by rw [segCells_len]; simp; omega)⟩
      have z3 := q1.frozenAt (k * 2)
      have z4 := q1.frozenAt (k * 2 + 1)
      have HO : Hid (CopR ((w6.setCell ⟨w.heap.size, k * 2, none⟩ (.int .i64 c)).setCell ⟨w.heap.size, k * 2 + 1, none⟩ (.slice qa qn qc)) w.heap.size w.heap.size pl.length (rs ++ [(c, .slice qa qn qc)]) (pl.take (k + 1))) := by
        rw [HTS.out]
        refine CopR.step (w0 := wr) (w1 := w6) ⟨hC1, q1, q2, HC4.out⟩ (by omega) (Nat.le_refl _) (fun i hi j hj => HLT.out i hi j hj) hws hu ?_
        rw [hrk]
      have HB6 : Hid (Below w.heap.size w ((w6.setCell ⟨w.heap.size, k * 2, none⟩ (.int .i64 c)).setCell ⟨w.heap.size, k * 2 + 1, none⟩ (.slice qa qn qc))) := ((bthen HB.out hb6).setCell (p := ⟨w.heap.size, k * 2, none⟩) (Nat.le_refl _) _).setCell (p := ⟨w.heap.size, k * 2 + 1, none⟩) (Nat.le_refl _) _
      have hgs2 : w.heap.size < ((w6.setCell ⟨w.heap.size, k * 2, none⟩ (.int .i64 c)).setCell ⟨w.heap.size, k * 2 + 1, none⟩ (.slice qa qn qc)).heap.size := by
        have := hb6.size
        simp [World.setCell]; omega
      have hrl : (rs ++ [(c, Value.slice qa qn qc)]).length = k + 1 := by simp [hrk]
      have HRL := hidd hrl
      clear q1 q2 hu hb6 hrl hrk
      go_wp2
      go_roundw
      case rel => exact ⟨k + 1, _, by omega, by go_num, HRL.out, HO.out, hgs2, HB6.out⟩
      case measure => simp [intOf]; omega
    · have HF : Hid (FreshP w pl (.returned (.slice (some ⟨w.heap.size, 0, none⟩) pl.length pl.length)) wr) := by
        obtain ⟨q1, q2, q3, q4⟩ := hC
        rw [List.take_of_length_le (by omega)] at q3
        have hrl : rs.length = pl.length := q3.1
        rw [hrl, Nat.sub_self, List.replicate_zero, List.append_nil] at q2
        exact ⟨_, rfl, ⟨rs, by rw [hrl]; exact q2, q3, q4⟩, hB⟩
      clear hC hB ha
      go_wp2
      go_ret
      exact HF.out
end Go.Proofs.YtdfnclnjnmdboaaDoor

namespace Go.Proofs.YtdfnclnjnmdboaaDoor
set_option linter.unusedVariables false
open Go.RowKit

set_option maxRecDepth 20000 in
theorem c_eqSegment (c : Int) (pa qa : Option Addr) (pn pc qn qc : Nat) (p : List Int) (w : World) (ha : RdI w (.slice pa pn pc) p) (hb : RdI w (.slice qa qn qc) p) (hx : p.length ≤ 1099511627776) :
    Calls Tryd.prog 23 #[.agg #[.int .i64 c, .slice pa pn pc], .agg #[.int .i64 c, .slice qa qn qc]] w fun e w' => e = .returned (.bool true) ∧ Below w.heap.size w w' := by
  have hB1 : Below w.heap.size w (w.alloc (.cells #[.int .i64 c, .slice pa pn pc] 39)) := (Below.refl _ _).alloc (Nat.le_refl _) _
  have hB2 : Below w.heap.size w ((w.alloc (.cells #[.int .i64 c, .slice pa pn pc] 39)).alloc (.cells #[.int .i64 c, .slice qa qn qc] 39)) := hB1.alloc (by simp) _
  have HC := hidd (c_eqIntS_t (.slice pa pn pc) (.slice qa qn qc) p _ (ha.kept hB2) (hb.kept hB2) hx)
  have HB := hidd hB2
  clear hB1 hB2 ha hb
  go_enter Tryd.func23, Tryd.ntmps23
  go_wp2_with fail
  refine HC.out.mono ?_
  rintro e w3 ⟨rfl, hb3⟩
  have HB3 := hidd (bthen HB.out hb3)
  clear hb3
  go_wp2
  go_ret
  exact ⟨rfl, HB3.out⟩
set_option maxRecDepth 20000 in
set_option maxHeartbeats 1600000 in
theorem c_eqSegmentS (va vb : Value) (pl : List Seg) (w : World) (ha : RdP w va pl) (hb : RdP w vb pl) (hx : pl.length ≤ 1099511627776) (hpx : ∀ s ∈ pl, s.2.length ≤ 1099511627776) :
    Calls Tryd.prog 9 #[va, vb] w fun e w' => e = .returned (.bool true) ∧ Below w.heap.size w w' := by
  have HPX := hidd hpx
  obtain ⟨a, cap, rfl, hcap⟩ := ha.form
  obtain ⟨a', cap', rfl, hcap'⟩ := hb.form
  clear hpx
  go_enter Tryd.func9, Tryd.ntmps9
  go_wp2
  go_loopw [5] (fun i wr => ∃ (k : Nat), k ≤ pl.length ∧ i = .int .i64 k ∧ Below w.heap.size w wr) (fun i _ => pl.length - (intOf i).toNat)
  case atStart => exact ⟨0, by omega, rfl, Below.refl _ _⟩
  case round =>
    obtain ⟨k, hk, rfl, hB⟩ := hrel
    by_cases hlt : k < pl.length
    · obtain ⟨b, o, pa, pn, pc, rfl, hbl, e1, e2, hp, hpc, hpn⟩ := ha.cell hB hlt
      obtain ⟨b2, o2, qa, qn, qc, rfl, hbl2, g1, g2, hq, hqc, hqn⟩ := hb.cell hB hlt
      have hpl := HPX.out (pl.getD k noG) (by simp [List.getD, hlt])
      obtain ⟨s, hs⟩ : ∃ s, pl.getD k noG = s := ⟨_, rfl⟩
      rw [hs] at e1 g1 hp hq hpl
      obtain ⟨c, p⟩ := s
      have e1 : wr.cell? ⟨b, o + k * 2, none⟩ = some (.int .i64 c) := e1
      have g1 : wr.cell? ⟨b2, o2 + k * 2, none⟩ = some (.int .i64 c) := g1
      have i1 : (0 : Int) ≤ (k : Int) := by omega
      have i2 : (k : Int) < (pl.length : Int) := by omega
      have HCL : Hid (∀ W, Below w.heap.size w W → Calls Tryd.prog 23 #[.agg #[.int .i64 c, .slice pa pn pc], .agg #[.int .i64 c, .slice qa qn qc]] W fun e w' => e = .returned (.bool true) ∧ Below W.heap.size W w') :=
        fun W hW => c_eqSegment c pa qa pn pc qn qc p W (hp.kept hW) (hq.kept hW) hpl
      have hS0 : Below w.heap.size w wr.drew ∧ wr.drew.cell? ⟨b, o + k * 2, none⟩ = some (.int .i64 c) ∧ wr.drew.cell? ⟨b, o + k * 2 + 1, none⟩ = some (.slice pa pn pc) ∧ wr.drew.cell? ⟨b2, o2 + k * 2, none⟩ = some (.int .i64 c) ∧ wr.drew.cell? ⟨b2, o2 + k * 2 + 1, none⟩ = some (.slice qa qn qc) := ⟨hB.drew, e1, e2, g1, g2⟩
      have hkeep : ∀ W W', Below w.heap.size w W ∧ W.cell? ⟨b, o + k * 2, none⟩ = some (.int .i64 c) ∧ W.cell? ⟨b, o + k * 2 + 1, none⟩ = some (.slice pa pn pc) ∧ W.cell? ⟨b2, o2 + k * 2, none⟩ = some (.int .i64 c) ∧ W.cell? ⟨b2, o2 + k * 2 + 1, none⟩ = some (.slice qa qn qc) → Below W.heap.size W W' →
          Below w.heap.size w W' ∧ W'.cell? ⟨b, o + k * 2, none⟩ = some (.int .i64 c) ∧ W'.cell? ⟨b, o + k * 2 + 1, none⟩ = some (.slice pa pn pc) ∧ W'.cell? ⟨b2, o2 + k * 2, none⟩ = some (.int .i64 c) ∧ W'.cell? ⟨b2, o2 + k * 2 + 1, none⟩ = some (.slice qa qn qc) := by
        rintro W W' ⟨h, h1, h2, h3, h4⟩ hk
        have hs := h.size
        obtain ⟨hc, _⟩ := bcell hk
        exact ⟨bthen h hk, by rw [hc _ _ (by omega)]; exact h1, by rw [hc _ _ (by omega)]; exact h2, by rw [hc _ _ (by omega)]; exact h3, by rw [hc _ _ (by omega)]; exact h4⟩
      have HK := hidd hkeep
      clear hs hpc hpn hqc hqn ha hb hp hq hB hkeep hpl e1 e2 g1 g2
      go_wp2
      go_region_held3 (fun W => Below w.heap.size w W ∧ W.cell? ⟨b, o + k * 2, none⟩ = some (.int .i64 c) ∧ W.cell? ⟨b, o + k * 2 + 1, none⟩ = some (.slice pa pn pc) ∧ W.cell? ⟨b2, o2 + k * 2, none⟩ = some (.int .i64 c) ∧ W.cell? ⟨b2, o2 + k * 2 + 1, none⟩ = some (.slice qa qn qc)) (first | assumption | exact hS0 | exact HK.out _ _ (by assumption) (by assumption))
        ((go_at_call 23; refine (HCL.out _ (by first | assumption | exact (by assumption : _ ∧ _).1)).mono ?_; rintro e w6 ⟨rfl, hb6⟩))
      rename_i hS
      have HB := hidd hS.1
      clear hS hS0
      go_wp2
      go_roundw
      case rel => exact ⟨k + 1, by omega, by go_num, HB.out⟩
      case measure => simp [intOf]; omega
    · clear ha hb
      go_wp2
      go_ret
      exact ⟨rfl, hB⟩
end Go.Proofs.YtdfnclnjnmdboaaDoor

namespace Go.Proofs.YtdfnclnjnmdboaaDoor
set_option linter.unusedVariables false
open Go.RowKit

/-- a plan marked from c on -/
def mkPl : Int → List Seg → List Seg
  | _, [] => []
  | c, s :: t => (c, marks (c + 1) s.2.length) :: mkPl (c + 1 + s.2.length) t
theorem mkPl_len : ∀ (c : Int) (a : List Seg), (mkPl c a).length = a.length
  | c, [] => rfl
  | c, s :: t => by simp [mkPl, mkPl_len _ t]
theorem mkPl_append : ∀ (c : Int) (a b : List Seg), mkPl c (a ++ b) = mkPl c a ++ mkPl (c + cntM a) b
  | c, [], b => by simp [mkPl, cntM]
  | c, s :: t, b => by
    simp only [List.cons_append, mkPl, mkPl_append _ t b, cntM]
    rw [show c + 1 + (s.2.length : Int) + (cntM t : Int) = c + ((1 + s.2.length + cntM t : Nat) : Int) by omega]
theorem mkPl_getD (c : Int) (pl : List Seg) (k : Nat) (h : k < pl.length) : (mkPl c pl).getD k noG = (c + (cntM (pl.take k) : Int), marks (c + (cntM (pl.take k) : Int) + 1) (pl.getD k noG).2.length) := by
  have e : pl = pl.take k ++ (pl.getD k noG :: pl.drop (k + 1)) := by
    conv => lhs; rw [← List.take_append_drop k pl]
    rw [List.drop_eq_getElem_cons h]; simp [List.getD, h]
  have hl : (mkPl c (pl.take k)).length = k := by rw [mkPl_len]; simp; omega
  have e2 : mkPl c pl = mkPl c (pl.take k) ++ ((c + (cntM (pl.take k) : Int), marks (c + (cntM (pl.take k) : Int) + 1) (pl.getD k noG).2.length) :: mkPl (c + (cntM (pl.take k) : Int) + 1 + (pl.getD k noG).2.length) (pl.drop (k + 1))) := by
    conv => lhs; rw [e, mkPl_append]
    rfl
  rw [e2]
  simp only [List.getD]
  rw [List.getElem?_append_right (by omega), hl, Nat.sub_self]
  rfl
/-- marked up to segment k -/
def mkAt (c : Int) (k : Nat) (pl : List Seg) : List Seg := mkPl c (pl.take k) ++ pl.drop k
theorem mkAt_len (c : Int) (k : Nat) (pl : List Seg) : (mkAt c k pl).length = pl.length := by
  unfold mkAt; rw [List.length_append, mkPl_len]; simp; omega
theorem mkAt_getD (c : Int) (k : Nat) (pl : List Seg) (h : k < pl.length) : (mkAt c k pl).getD k noG = pl.getD k noG := by
  have hl : (mkPl c (pl.take k)).length = k := by rw [mkPl_len]; simp; omega
  unfold mkAt
  simp only [List.getD]
  rw [List.getElem?_append_right (by omega), hl, Nat.sub_self]
  simp
theorem mkAt_set (c : Int) (k : Nat) (pl : List Seg) (h : k < pl.length) : (mkAt c k pl).set k (c + (cntM (pl.take k) : Int), marks (c + (cntM (pl.take k) : Int) + 1) (pl.getD k noG).2.length) = mkAt c (k + 1) pl := by
  have hl : (mkPl c (pl.take k)).length = k := by rw [mkPl_len]; simp; omega
  unfold mkAt
  rw [List.set_append_right _ _ (by omega), hl, Nat.sub_self, take_succG pl k h, mkPl_append, List.drop_eq_getElem_cons h, List.set_cons_zero]
  simp [mkPl]
theorem mkAt_end (c : Int) (pl : List Seg) : mkAt c pl.length pl = mkPl c pl := by simp [mkAt]

/-- blocks from hi on stay as they are -/
def Abv (hi : Nat) (w w' : World) : Prop := w.heap.size ≤ w'.heap.size ∧ ∀ b, hi ≤ b → b < w.heap.size → w'.heap[b]? = w.heap[b]?
theorem Abv.refl (hi : Nat) (w : World) : Abv hi w w := ⟨Nat.le_refl _, fun _ _ _ => rfl⟩
theorem Abv.trans {hi : Nat} {a b c : World} (h : Abv hi a b) (k : Abv hi b c) : Abv hi a c :=
  ⟨Nat.le_trans h.1 k.1, fun i h1 h2 => (k.2 i h1 (Nat.lt_of_lt_of_le h2 h.1)).trans (h.2 i h1 h2)⟩
theorem Abv.grown {hi : Nat} {w w' : World} {row : Option Nat} (h : w.grownBy w' row) (hr : ∀ k, row = some k → k < hi) : Abv hi w w' :=
  ⟨h.size, fun b h1 h2 => h.block b h2 (fun e => by have := hr b e.symm; omega)⟩
theorem Abv.row {hi : Nat} {w w' : World} (h : Abv hi w w') {base e s n : Nat} {v : Value} {xs : List Value} (hb : hi ≤ base) (ho : w.ownsRow base e s v n xs) : w'.ownsRow base e s v n xs := by
  have hlt := ho.lt
  obtain ⟨h1, h2⟩ := ho
  refine ⟨h1, ?_⟩
  rcases h2 with h2 | ⟨g, cap, cur, rfl, hg, hh, h3⟩
  · exact .inl h2
  · exact .inr ⟨g, cap, cur, rfl, hg, by rw [h.2 g (by omega) (hlt g rfl).2]; exact hh, h3⟩
theorem OwP.above {hi : Nat} {w w' : World} (h : Abv hi w w') {base : Nat} {v : Value} {pl : List Seg} (hb : hi ≤ base) (ho : OwP w base v pl) : OwP w' base v pl :=
  let ⟨rs, h1, h2, h3⟩ := ho; ⟨rs, h.row hb h1, ⟨h2.1, fun k hk => ⟨(h2.2 k hk).1, h.row hb (h2.2 k hk).2⟩⟩, h3⟩
/-- a plan of the call's own, in blocks below hi -/
def OwPH (w : World) (base hi : Nat) (v : Value) (pl : List Seg) : Prop :=
  ∃ rs, w.ownsRow base 39 2 v rs.length (segCells rs) ∧ PolysO w base rs pl ∧ ApartR rs ∧ (∀ j, v.ownBlock = some j → j < hi) ∧ ∀ k, k < rs.length → ∀ j, (rs.getD k noR).2.ownBlock = some j → j < hi
theorem OwP.upto {w : World} {base : Nat} {v : Value} {pl : List Seg} (h : OwP w base v pl) : OwPH w base w.heap.size v pl :=
  let ⟨rs, h1, h2, h3⟩ := h; ⟨rs, h1, h2, h3, fun j hj => (h1.lt j hj).2, h2.lt⟩
theorem OwPH.kept {w w' : World} {base hi : Nat} {v : Value} {pl : List Seg} (h : OwPH w base hi v pl) (hb : Below w.heap.size w w') : OwPH w' base hi v pl :=
  let ⟨rs, h1, h2, h3, h4, h5⟩ := h; ⟨rs, ownsRow_kept_below h1 hb, h2.kept hb, h3, h4, h5⟩
theorem OwPH.own {w : World} {base hi : Nat} {v : Value} {pl : List Seg} (h : OwPH w base hi v pl) : OwP w base v pl :=
  let ⟨rs, h1, h2, h3, _⟩ := h; ⟨rs, h1, h2, h3⟩
/-- segment k is marked -/
theorem OwPH_mark {w w' : World} {base hi gg cap k : Nat} {rs : List RSeg} {pl : List Seg} {c : Int} {p : List Int} {pv : Value} (h1 : w.ownsRow base 39 2 (.slice (some ⟨gg, 0, none⟩) rs.length cap) rs.length (segCells rs))
    (h2 : PolysO w base rs pl) (h3 : ApartR rs) (hb1 : gg < hi) (hb2 : ∀ k, k < rs.length → ∀ j, (rs.getD k noR).2.ownBlock = some j → j < hi) (hk : k < rs.length) (hpv : (rs.getD k noR).2 = pv)
    (hg : (w.setCell ⟨gg, k * 2, none⟩ (.int .i64 c)).grownBy w' pv.ownBlock) (hp : OwnI w' base pv p) : OwPH w' base hi (.slice (some ⟨gg, 0, none⟩) rs.length cap) (pl.set k (c, p)) := by
  subst hpv
  have hl := h2.1
  have hs : w.grownBy (w.setCell ⟨gg, k * 2, none⟩ (.int .i64 c)) (some gg) := grownBy_setCell w gg _ _
  have q1 := (h1.stored (k * 2) (.int .i64 c)).1
  rw [← segCells_set1 rs k c hk] at q1
  have hp0 : OwnI (w.setCell ⟨gg, k * 2, none⟩ (.int .i64 c)) base (rs.getD k noR).2 _ := World.ownsRow.kept (h2.2 k hk).2 (show w.grownBy _ (Value.slice (some ⟨gg, 0, none⟩) rs.length cap).ownBlock from hs) (seg_apart (h2.2 k hk).2 h1)
  refine ⟨rs.set k (c, (rs.getD k noR).2), ?_, ⟨by simp [hl], fun i hi => ?_⟩, ?_, fun j hj => by simp [Value.ownBlock] at hj; omega, fun i hi j hj => ?_⟩
  · rw [List.length_set]
    exact World.ownsRow.kept q1 hg (apart_comm (seg_apart hp0 q1))
  · rw [List.length_set] at hi
    rw [getD_setR _ _ _ _ hk, getD_setG _ _ _ _ (by omega)]
    by_cases e : i = k
    · rw [if_pos e, if_pos e]
      exact ⟨rfl, hp⟩
    · rw [if_neg e, if_neg e]
      have a := (h2.grown h1 (show w.grownBy _ (Value.slice (some ⟨gg, 0, none⟩) rs.length cap).ownBlock from hs)).2 i hi
      exact ⟨a.1, World.ownsRow.kept a.2 hg (h3 i k hi hk e)⟩
  · exact h3.set hk (fun i hi hne => h3 k i hk hi (Ne.symm hne))
  · rw [List.length_set] at hi
    rw [getD_setR _ _ _ _ hk] at hj
    by_cases e : i = k
    · rw [if_pos e] at hj; exact hb2 k hk j hj
    · rw [if_neg e] at hj; exact hb2 i hi j hj

set_option maxRecDepth 20000 in
set_option maxHeartbeats 1600000 in
theorem c_markSegmentS (v : Value) (base hi : Nat) (pl : List Seg) (c : Int) (w : World) (ha : OwPH w base hi v pl) (hb : base ≤ w.heap.size) (hx : cntM pl ≤ 2000000) (hc : 0 ≤ c) (hc' : c ≤ 1) :
    Calls Tryd.prog 12 #[v, (.int .i64 (c))] w fun e w' => e = .returned (.int .i64 (c + cntM pl)) ∧ OwP w' base v (mkPl c pl) ∧ Below base w w' ∧ Abv hi w w' := by
  have hlen := cntM_len pl
  have HMEM := hidd (cntM_mem pl)
  have HTK := hidd (cntM_take pl)
  obtain ⟨a, cap, rfl, hcap⟩ := ha.own.form
  rcases Nat.eq_zero_or_pos pl.length with h0 | h0
  · have hnil : pl = [] := List.eq_nil_of_length_eq_zero h0
    subst hnil
    have HO : Hid (OwP w base (.slice a 0 cap) [] ∧ Below base w w ∧ Abv hi w w) := ⟨ha.own, Below.refl _ _, Abv.refl _ _⟩
    clear ha hb h0 HMEM HTK
    go_enter Tryd.func12, Tryd.ntmps12
    go_wp2
    refine wp_loop_rounds 1 ?_
    rw [rounds_succ]
    go_wp2
    go_ret
    exact ⟨by simp [cntM], HO.out.1, HO.out.2.1, HO.out.2.2⟩
  · obtain ⟨g, rfl⟩ : ∃ g, a = some ⟨g, 0, none⟩ := by
      obtain ⟨rs, h1, h2, _⟩ := ha
      rcases h1.2 with ⟨e, h⟩ | ⟨g, cap', cur, e, _⟩
      · have := h2.1; omega
      · simp only [Value.slice.injEq] at e
        exact ⟨g, e.1⟩
    have hat0 : OwPH w base hi (.slice (some ⟨g, 0, none⟩) pl.length cap) (mkAt c 0 pl) := by
      simpa [mkAt, mkPl] using ha
    have HA0 := hidd hat0
    have HB := hidd hb
    clear ha hat0 hb h0
    go_enter Tryd.func12, Tryd.ntmps12
    go_wp2
    go_loopw [1, 5] (fun q i wr => ∃ k T : Nat, k ≤ pl.length ∧ i = .int .i64 k ∧ q = .int .i64 (c + (T : Int)) ∧ Hid (cntM (pl.take k) = T) ∧ Hid (OwPH wr base hi (.slice (some ⟨g, 0, none⟩) pl.length cap) (mkAt c k pl) ∧ Below base w wr ∧ Abv hi w wr)) (fun _ i _ => pl.length - (intOf i).toNat)
    case atStart => exact ⟨0, 0, by omega, rfl, by simp, (show cntM (pl.take 0) = 0 by simp [cntM]), ⟨HA0.out, Below.refl _ _, Abv.refl _ _⟩⟩
    case round =>
      obtain ⟨k, T, hk, rfl, rfl, HT, HH⟩ := hrel
      have htk := HTK.out k
      by_cases hlt : k < pl.length
      · obtain ⟨⟨rs, h1, h2, h3, h4, h5⟩, hB, hA⟩ := HH.out
        have hrl : rs.length = pl.length := by rw [h2.1, mkAt_len]
        have h1p : wr.ownsRow base 39 2 (.slice (some ⟨g, 0, none⟩) pl.length cap) pl.length (segCells rs) := by rw [hrl] at h1; exact h1
        have h1r : wr.ownsRow base 39 2 (.slice (some ⟨g, 0, none⟩) rs.length cap) rs.length (segCells rs) := by rw [hrl]; exact h1p
        have hgl : g < hi := h4 g rfl
        have hgw : g < wr.heap.size := (h1.lt g rfl).2
        have hgb : base ≤ g := (h1.lt g rfl).1
        obtain ⟨pv, hpv⟩ : ∃ pv, (rs.getD k noR).2 = pv := ⟨_, rfl⟩
        have hk2 := h2.2 k (by omega)
        rw [mkAt_getD c k pl hlt, hpv] at hk2
        have HSET := hidd (mkAt_set c k pl hlt)
        have HSUC := hidd (cntM_succ pl k hlt)
        have hm := HMEM.out (pl.getD k noG) (by simp [List.getD, hlt])
        have htk2 := HTK.out (k + 1)
        obtain ⟨s, hs⟩ : ∃ s, pl.getD k noG = s := ⟨_, rfl⟩
        rw [hs] at HSET HSUC hm hk2
        obtain ⟨c0, p⟩ := s
        have hT := HT.out
        have hsc : cntM (pl.take (k + 1)) = T + (1 + p.length) := by rw [← hT]; exact HSUC.out
        rw [hsc] at htk2
        rw [hT] at HSET htk
        have hSC := hidd hsc
        have hp : OwnI wr base pv p := hk2.2
        obtain ⟨g1, g2⟩ := segCells_get rs k (by omega)
        rw [hpv] at g2
        have e1 : wr.cell? ⟨g, k * 2, none⟩ = some (.int .i64 (rs.getD k noR).1) := by rw [h1p.cellAt (k * 2) (by omega)]; exact g1
        have e2 : wr.cell? ⟨g, k * 2 + 1, none⟩ = some pv := by rw [h1p.cellAt (k * 2 + 1) (by omega)]; exact g2
        have e3 := h1p.frozenAt (k * 2)
        obtain ⟨y, hy⟩ : ∃ y, (rs.getD k noR).1 = y := ⟨_, rfl⟩
        rw [hy] at e1
        obtain ⟨W1, hW1⟩ : ∃ W1, wr.setCell ⟨g, k * 2, none⟩ (.int .i64 (c + (T : Int))) = W1 := ⟨_, rfl⟩
        have hsg : wr.grownBy (wr.setCell ⟨g, k * 2, none⟩ (.int .i64 (c + (T : Int)))) (some g) := grownBy_setCell wr g _ _
        have hp1 : OwnI (wr.setCell ⟨g, k * 2, none⟩ (.int .i64 (c + (T : Int)))) base pv p := World.ownsRow.kept hp (show wr.grownBy _ (Value.slice (some ⟨g, 0, none⟩) rs.length cap).ownBlock from hsg) (seg_apart hp h1r)
        have hsz := hB.size
        have HCL := hidd (c_markIntS pv base 3 p (c + (T : Int) + 1) _ hp1 (by simp at hm; omega) (by omega) (by omega))
        have HN : Hid (∀ w', (wr.setCell ⟨g, k * 2, none⟩ (.int .i64 (c + (T : Int)))).grownBy w' pv.ownBlock → OwnI w' base pv (marks (c + (T : Int) + 1) p.length) →
            OwPH w' base hi (.slice (some ⟨g, 0, none⟩) pl.length cap) (mkAt c (k + 1) pl) ∧ Below base w w' ∧ Abv hi w w') := by
          intro w' hg' ho'
          have q := OwPH_mark h1r h2 h3 hgl h5 (by omega) hpv hg' ho'
          rw [hrl, HSET.out] at q
          refine ⟨q, ?_, ?_⟩
          · exact (hB.setCell (p := ⟨g, k * 2, none⟩) hgb _).grown hg' (by have := HB.out; simp [World.setCell]; omega) (fun j hj => (hp.lt j hj).1)
          · exact (hA.trans (Abv.grown hsg (fun j hj => by cases hj; exact hgl))).trans (Abv.grown hg' (fun j hj => h5 k (by omega) j (by rw [hpv]; exact hj)))
        have i1 : (0 : Int) ≤ (k : Int) := by omega
        have i2 : (k : Int) < (pl.length : Int) := by omega
        obtain ⟨pa, pc, rfl⟩ := RdI_form (owns_RdI hp)
        clear h1 h1p h1r h2 h3 h4 h5 hB hA hp hk2 hpv hp1 hsg hrl g1 g2 hs HSET HSUC hT hsc hW1 HH hy
        go_wp2_with fail
        refine HCL.out.mono ?_
        rintro e w2 ⟨rfl, ho2, hg2⟩
        have HO := hidd (HN.out w2 hg2 (by unfold OwnI; rw [marks_len]; exact ho2))
        clear ho2 hg2
        go_wp2
        go_roundw
        case rel => exact ⟨k + 1, T + (1 + p.length), by omega, by go_num, by simp only [Value.int.injEq, true_and]; omega, hSC, HO⟩
        case measure => simp [intOf]; omega
      · have hkl : k = pl.length := by omega
        have HO : Hid (c + (T : Int) = c + cntM pl ∧ OwP wr base (.slice (some ⟨g, 0, none⟩) pl.length cap) (mkPl c pl) ∧ Below base w wr ∧ Abv hi w wr) := by
          obtain ⟨q1, q2, q3⟩ := HH.out
          rw [hkl, mkAt_end] at q1
          exact ⟨by rw [← HT.out, hkl, List.take_length], q1.own, q2, q3⟩
        clear HH hkl
        go_wp2
        go_ret
        exact ⟨ret_int HO.out.1, HO.out.2.1, HO.out.2.2.1, HO.out.2.2.2⟩
end Go.Proofs.YtdfnclnjnmdboaaDoor

namespace Go.Proofs.YtdfnclnjnmdboaaDoor
set_option linter.unusedVariables false
open Go.RowKit

set_option maxRecDepth 20000 in
set_option maxHeartbeats 1600000 in
theorem c_heldSegmentS (v : Value) (pl : List Seg) (c : Int) (w : World) (ha : RdP w v (mkPl c pl)) (hx : cntM pl ≤ 2000000) (hc : 0 ≤ c) (hc' : c ≤ 1) :
    Calls Tryd.prog 13 #[v, (.int .i64 (c))] w fun e w' => e = .returned (.int .i64 (c + cntM pl)) ∧ Below w.heap.size w w' := by
  have hlen := cntM_len pl
  have HMEM := hidd (cntM_mem pl)
  have HTK := hidd (cntM_take pl)
  obtain ⟨a, cap, rfl, hcap⟩ := ha.form
  have HLEN := hidd (mkPl_len c pl)
  obtain ⟨N, hN⟩ : ∃ N, (mkPl c pl).length = N := ⟨_, rfl⟩
  rw [hN] at ha ⊢
  have hNl : N = pl.length := by rw [← hN, mkPl_len]
  clear hN hcap
  subst hNl
  go_enter Tryd.func13, Tryd.ntmps13
  go_wp2
  go_loopw [1, 5] (fun q i wr => ∃ k T : Nat, k ≤ pl.length ∧ i = .int .i64 k ∧ q = .int .i64 (c + (T : Int)) ∧ Hid (cntM (pl.take k) = T) ∧ Below w.heap.size w wr) (fun _ i _ => pl.length - (intOf i).toNat)
  case atStart => exact ⟨0, 0, by omega, rfl, by simp, (show cntM (pl.take 0) = 0 by simp [cntM]), Below.refl _ _⟩
  case round =>
    obtain ⟨k, T, hk, rfl, rfl, HT, hB⟩ := hrel
    have htk := HTK.out k
    by_cases hlt : k < pl.length
    · obtain ⟨b, o, pa, pn, pc, rfl, hb, e1, e2, hp, hpc, hpn⟩ := ha.cell hB (by rw [mkPl_len]; exact hlt)
      have hG := mkPl_getD c pl k hlt
      have HSUC := hidd (cntM_succ pl k hlt)
      have hm := HMEM.out (pl.getD k noG) (by simp [List.getD, hlt])
      have htk2 := HTK.out (k + 1)
      obtain ⟨s, hs⟩ : ∃ s, pl.getD k noG = s := ⟨_, rfl⟩
      rw [hs] at hG HSUC hm
      obtain ⟨c0, p⟩ := s
      have hT := HT.out
      have hsc : cntM (pl.take (k + 1)) = T + (1 + p.length) := by rw [← hT]; exact HSUC.out
      rw [hsc] at htk2
      rw [hT] at htk hG
      have hSC := hidd hsc
      rw [hG] at e1 hp
      have hm : p.length + 1 ≤ cntM pl := hm
      have e1 : wr.cell? ⟨b, o + k * 2, none⟩ = some (.int .i64 (c + (T : Int))) := e1
      have hp : RdI w (.slice pa pn pc) (marks (c + (T : Int) + 1) p.length) := hp
      have HCL := hidd (c_heldIntS (.slice pa pn pc) (c + (T : Int) + 1) p.length wr (hp.kept hB) (by omega) (by omega) (by omega))
      have i1 : (0 : Int) ≤ (k : Int) := by omega
      have i2 : (k : Int) < (pl.length : Int) := by omega
      have HB := hidd hB
      clear hs hpc hpn ha hp hB hG HSUC hT hsc HT
      go_wp2_with fail
      refine HCL.out.mono ?_
      rintro e w2 ⟨rfl, hb2⟩
      have HB2 := hidd (bthen HB.out hb2)
      clear hb2
      go_wp2
      go_roundw
      case rel => exact ⟨k + 1, T + (1 + p.length), by omega, by go_num, by simp only [Value.int.injEq, true_and]; omega, hSC, HB2.out⟩
      case measure => simp [intOf]; omega
    · have hkl : k = pl.length := by omega
      have HO : Hid (c + (T : Int) = c + cntM pl) := by
        show c + (T : Int) = _
        rw [← HT.out, hkl, List.take_length]
      clear ha hkl
      go_wp2
      go_ret
      exact ⟨ret_int HO.out, hB⟩
end Go.Proofs.YtdfnclnjnmdboaaDoor
