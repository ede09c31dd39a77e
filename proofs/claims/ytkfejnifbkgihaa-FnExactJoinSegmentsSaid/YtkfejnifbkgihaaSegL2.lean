/- Contracts: the laws' copies of plans. -/
import Derived.Test.YtkfejnifbkgihaaSegL1
namespace Go.Proofs.Ytkfejnifbkgihaa
set_option linter.unusedVariables false
open Go.RowKit

theorem c_toSegment (c : Int) (pa : Option Addr) (pn pc : Nat) (p : List Int) (w : World) (ha : RdI w (.slice pa pn pc) p) (hx : p.length ≤ 1099511627776) :
    Calls Try.prog 53 #[.agg #[.int .i64 c, .slice pa pn pc]] w (SegR w c p) := by
  have hB1 : Below w.heap.size w (w.alloc (.cells #[.int .i64 c, .slice pa pn pc] 66)) := (Below.refl _ _).alloc (Nat.le_refl _) _
  have hB2 : Below w.heap.size w ((w.alloc (.cells #[.int .i64 c, .slice pa pn pc] 66)).alloc (.cells #[.int .i64 0, .slice none 0 0] 31)) := hB1.alloc (by simp) _
  have hB4 : Below w.heap.size w (((w.alloc (.cells #[.int .i64 c, .slice pa pn pc] 66)).alloc (.cells #[.int .i64 0, .slice none 0 0] 31)).alloc (.cells #[.int .i64 c, .slice none 0 0] 31)) := hB2.alloc (by simp; omega) _
  have HC := hidd (k_to_ints (.slice pa pn pc) p _ (ha.kept hB4) hx)
  clear hB1 hB2 ha
  go_enter Try.func53, Try.ntmps53
  go_wp2_with fail
  refine HC.out.mono ?_
  rintro e w3 ⟨v', rfl, hq, hb⟩
  have hs3 : w.heap.size + 3 ≤ w3.heap.size := by have := hb.size; simpa using this
  have e1 : w3.cell? ⟨w.heap.size + 1, 0, none⟩ = some (.int .i64 0) := by rw [hb.cell (p := ⟨w.heap.size + 1, 0, none⟩) (by simp)]; simp [go_sem]
  have e2 : w3.cell? ⟨w.heap.size + 1, 1, none⟩ = some (.slice none 0 0) := by rw [hb.cell (p := ⟨w.heap.size + 1, 1, none⟩) (by simp)]; simp [go_sem]
  have e3 : w3.cell? ⟨w.heap.size + 2, 0, none⟩ = some (.int .i64 c) := by rw [hb.cell (p := ⟨w.heap.size + 2, 0, none⟩) (by simp)]; simp [go_sem]
  have e4 : w3.cell? ⟨w.heap.size + 2, 1, none⟩ = some (.slice none 0 0) := by rw [hb.cell (p := ⟨w.heap.size + 2, 1, none⟩) (by simp)]; simp [go_sem]
  have f1 : w3.frozen? ⟨w.heap.size + 1, 0, none⟩ = false := by rw [hb.frozen (p := ⟨w.heap.size + 1, 0, none⟩) (by simp)]; simp [go_sem]
  have f2 : w3.frozen? ⟨w.heap.size + 1, 1, none⟩ = false := by rw [hb.frozen (p := ⟨w.heap.size + 1, 1, none⟩) (by simp)]; simp [go_sem]
  have f4 : w3.frozen? ⟨w.heap.size + 2, 1, none⟩ = false := by rw [hb.frozen (p := ⟨w.heap.size + 2, 1, none⟩) (by simp)]; simp [go_sem]
  have hown : OwnI w3 (w.heap.size + 3) v' p := by
    have := hq
    simpa using this
  have hb3 : Below w.heap.size w w3 := bthen hB4 hb
  obtain ⟨qa, qc, rfl⟩ := RdI_form (owns_RdI hown)
  clear hq hB4 hb HC
  go_wp2
  refine bodyPost_ret (v := .agg #[.int .i64 c, .slice qa p.length qc]) (by simp [results, Try.results53, go_sem, e1, e2]) rfl ⟨_, _, _, rfl, ?_, ?_⟩
  · exact ownsRow_mono (own_set (own_set (own_set hown (by omega)) (by omega)) (by omega)) (by omega)
  · exact ((hb3.setCell (p := ⟨w.heap.size + 2, 1, none⟩) (by simp) _).setCell (p := ⟨w.heap.size + 1, 0, none⟩) (by simp) _).setCell (p := ⟨w.heap.size + 1, 1, none⟩) (by simp) _

set_option maxRecDepth 20000 in
set_option maxHeartbeats 1600000 in
theorem c_toSegmentS (v : Value) (pl : List Seg) (w : World) (ha : RdP w v pl) (hx : pl.length ≤ 1099511627776) (hpx : ∀ s ∈ pl, s.2.length ≤ 1099511627776) :
    Calls Try.prog 21 #[v] w (FreshP w pl) := by
  have HPX := hidd hpx
  obtain ⟨a, cap, rfl, hcap⟩ := ha.form
  clear hpx
  go_enter Try.func21, Try.ntmps21
  go_wp2_with (at_make; refine mkfullS 23 31 Try.underlying23 infoSeg (by decide) rfl _ _ rfl pl.length rfl rfl rfl rfl (by omega) ?_; intro w2 ho2 hB2 hz2)
  have hc2 : CopR w2 w.heap.size w.heap.size pl.length [] [] := ⟨Nat.zero_le _, by simpa using ho2, ⟨rfl, fun k hk => by simp at hk⟩, ApartR.nil⟩
  clear ho2
  go_loopw [4] (fun i wr => ∃ (k : Nat) (rs : List RSeg), k ≤ pl.length ∧ i = .int .i64 k ∧ rs.length = k ∧ CopR wr w.heap.size w.heap.size pl.length rs (pl.take k) ∧ w.heap.size < wr.heap.size ∧ Below w.heap.size w wr) (fun i _ => pl.length - (intOf i).toNat)
  case atStart => exact ⟨0, [], by omega, rfl, rfl, hc2, hz2, hB2⟩
  case round =>
    obtain ⟨k, rs, hk, rfl, hrk, hC, hgs, hB⟩ := hrel
    clear hc2 hB2 hz2
    by_cases hlt : k < pl.length
    · obtain ⟨b, o, pa, pn, pc, rfl, hb, e1, e2, hp, hpc, hpn⟩ := ha.cell hB hlt
      have hpl := HPX.out (pl.getD k noG) (by simp [List.getD, hlt])
      have HTS := hidd (take_succG pl k hlt)
      obtain ⟨s, hs⟩ : ∃ s, pl.getD k noG = s := ⟨_, rfl⟩
      rw [hs] at e1 HTS hp hpl
      obtain ⟨c, p⟩ := s
      have e1 : wr.cell? ⟨b, o + k * 2, none⟩ = some (.int .i64 c) := e1
      have hpl : p.length ≤ 1099511627776 := hpl
      have i1 : (0 : Int) ≤ (k : Int) := by omega
      have i2 : (k : Int) < (pl.length : Int) := by omega
      have HCL := hidd (c_toSegment c pa pn pc p wr (hp.kept hB) hpl)
      obtain ⟨hC1, hC2, hC3, hC4⟩ := hC
      have HLT := hidd hC3.lt
      have HC2 := hidd hC2
      have HC3 := hidd hC3
      have HC4 := hidd hC4
      have HB := hidd hB
      have HRK := hidd hrk
      clear hs hpc hpn hC2 hC3 hC4 ha hB hp hrk
      go_wp2_with fail
      refine HCL.out.mono ?_
      rintro e w6 ⟨qa, qn, qc, rfl, hu, hb6⟩
      have q1 := ownsRow_kept_below HC2.out hb6
      have q2 := HC3.out.kept hb6
      have hws := HB.out.size
      have hrk := HRK.out
      obtain ⟨y1, z1⟩ : ∃ y, w6.cell? ⟨w.heap.size, k * 2, none⟩ = some y := ⟨_, by rw [q1.cellAt (k * 2) (by omega)]; exact List.getElem?_eq_getElem (by rw [segCells_len]; simp; omega)⟩
      obtain ⟨y2, z2⟩ : ∃ y, w6.cell? ⟨w.heap.size, k * 2 + 1, none⟩ = some y := ⟨_, by rw [q1.cellAt (k * 2 + 1) (by omega)]; exact List.getElem?_eq_getElem (by rw [segCells_len]; simp; omega)⟩
      have z3 := q1.frozenAt (k * 2)
      have z4 := q1.frozenAt (k * 2 + 1)
      have HO : Hid (CopR ((w6.setCell ⟨w.heap.size, k * 2, none⟩ (.int .i64 c)).setCell ⟨w.heap.size, k * 2 + 1, none⟩ (.slice qa qn qc)) w.heap.size w.heap.size pl.length (rs ++ [(c, .slice qa qn qc)]) (pl.take (k + 1))) := by
        rw [HTS.out]
        refine CopR.step (w0 := wr) (w1 := w6) ⟨hC1, q1, q2, HC4.out⟩ (by omega) (Nat.le_refl _) (fun i hi j hj => HLT.out i hi j hj) hws hu ?_
        rw [hrk]
      have HB6 : Hid (Below w.heap.size w ((w6.setCell ⟨w.heap.size, k * 2, none⟩ (.int .i64 c)).setCell ⟨w.heap.size, k * 2 + 1, none⟩ (.slice qa qn qc))) := ((bthen HB.out hb6).setCell (p := ⟨w.heap.size, k * 2, none⟩) (Nat.le_refl _) _).setCell (p := ⟨w.heap.size, k * 2 + 1, none⟩) (Nat.le_refl _) _
      have hgs2 : w.heap.size < ((w6.setCell ⟨w.heap.size, k * 2, none⟩ (.int .i64 c)).setCell ⟨w.heap.size, k * 2 + 1, none⟩ (.slice qa qn qc)).heap.size := by
        have := hb6.size
        simp [World.setCell]; omega
      have hrl : (rs ++ [(c, Value.slice qa qn qc)]).length = k + 1 := by simp [hrk]
      have HRL := hidd hrl
      clear q1 q2 hu hb6 hrl hrk
      go_wp2
      go_roundw
      case rel => exact ⟨k + 1, _, by omega, by go_num, HRL.out, HO.out, hgs2, HB6.out⟩
      case measure => simp [intOf]; omega
    · have HF : Hid (FreshP w pl (.returned (.slice (some ⟨w.heap.size, 0, none⟩) pl.length pl.length)) wr) := by
        obtain ⟨q1, q2, q3, q4⟩ := hC
        rw [List.take_of_length_le (by omega)] at q3
        have hrl : rs.length = pl.length := q3.1
        rw [hrl, Nat.sub_self, List.replicate_zero, List.append_nil] at q2
        exact ⟨_, rfl, ⟨rs, by rw [hrl]; exact q2, q3, q4⟩, hB⟩
      clear hC hB ha
      go_wp2
      go_ret
      exact HF.out
end Go.Proofs.Ytkfejnifbkgihaa
