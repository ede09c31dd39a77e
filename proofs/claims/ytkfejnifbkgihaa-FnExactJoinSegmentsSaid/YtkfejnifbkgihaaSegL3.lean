/- Contracts: the laws' comparison of plans, of two that read alike. -/
import Derived.Test.YtkfejnifbkgihaaSegL2
namespace Go.Proofs.Ytkfejnifbkgihaa
set_option linter.unusedVariables false
open Go.RowKit

theorem c_eqSegment (c : Int) (pa qa : Option Addr) (pn pc qn qc : Nat) (p : List Int) (w : World) (ha : RdI w (.slice pa pn pc) p) (hb : RdI w (.slice qa qn qc) p) (hx : p.length ≤ 1099511627776) :
    Calls Try.prog 57 #[.agg #[.int .i64 c, .slice pa pn pc], .agg #[.int .i64 c, .slice qa qn qc]] w fun e w' => e = .returned (.bool true) ∧ Below w.heap.size w w' := by
  have hB1 : Below w.heap.size w (w.alloc (.cells #[.int .i64 c, .slice pa pn pc] 31)) := (Below.refl _ _).alloc (Nat.le_refl _) _
  have hB2 : Below w.heap.size w ((w.alloc (.cells #[.int .i64 c, .slice pa pn pc] 31)).alloc (.cells #[.int .i64 c, .slice qa qn qc] 31)) := hB1.alloc (by simp) _
  have HC := hidd (c_eqIntS_t (.slice pa pn pc) (.slice qa qn qc) p _ (ha.kept hB2) (hb.kept hB2) hx)
  have HB := hidd hB2
  clear hB1 hB2 ha hb
  go_enter Try.func57, Try.ntmps57
  go_wp2_with fail
  refine HC.out.mono ?_
  rintro e w3 ⟨rfl, hb3⟩
  have HB3 := hidd (bthen HB.out hb3)
  clear hb3
  go_wp2
  go_ret
  exact ⟨rfl, HB3.out⟩
set_option maxRecDepth 20000 in
set_option maxHeartbeats 1600000 in
theorem c_eqSegmentS (va vb : Value) (pl : List Seg) (w : World) (ha : RdP w va pl) (hb : RdP w vb pl) (hx : pl.length ≤ 1099511627776) (hpx : ∀ s ∈ pl, s.2.length ≤ 1099511627776) :
    Calls Try.prog 23 #[va, vb] w fun e w' => e = .returned (.bool true) ∧ Below w.heap.size w w' := by
  have HPX := hidd hpx
  obtain ⟨a, cap, rfl, hcap⟩ := ha.form
  obtain ⟨a', cap', rfl, hcap'⟩ := hb.form
  clear hpx
  go_enter Try.func23, Try.ntmps23
  go_wp2
  go_loopw [5] (fun i wr => ∃ (k : Nat), k ≤ pl.length ∧ i = .int .i64 k ∧ Below w.heap.size w wr) (fun i _ => pl.length - (intOf i).toNat)
  case atStart => exact ⟨0, by omega, rfl, Below.refl _ _⟩
  case round =>
    obtain ⟨k, hk, rfl, hB⟩ := hrel
    by_cases hlt : k < pl.length
    · obtain ⟨b, o, pa, pn, pc, rfl, hbl, e1, e2, hp, hpc, hpn⟩ := ha.cell hB hlt
      obtain ⟨b2, o2, qa, qn, qc, rfl, hbl2, g1, g2, hq, hqc, hqn⟩ := hb.cell hB hlt
      have hpl := HPX.out (pl.getD k noG) (by simp [List.getD, hlt])
      obtain ⟨s, hs⟩ : ∃ s, pl.getD k noG = s := ⟨_, rfl⟩
      rw [hs] at e1 g1 hp hq hpl
      obtain ⟨c, p⟩ := s
      have e1 : wr.cell? ⟨b, o + k * 2, none⟩ = some (.int .i64 c) := e1
      have g1 : wr.cell? ⟨b2, o2 + k * 2, none⟩ = some (.int .i64 c) := g1
      have i1 : (0 : Int) ≤ (k : Int) := by omega
      have i2 : (k : Int) < (pl.length : Int) := by omega
      have HCL : Hid (∀ W, Below w.heap.size w W → Calls Try.prog 57 #[.agg #[.int .i64 c, .slice pa pn pc], .agg #[.int .i64 c, .slice qa qn qc]] W fun e w' => e = .returned (.bool true) ∧ Below W.heap.size W w') :=
        fun W hW => c_eqSegment c pa qa pn pc qn qc p W (hp.kept hW) (hq.kept hW) hpl
      have hS0 : Below w.heap.size w wr.drew ∧ wr.drew.cell? ⟨b, o + k * 2, none⟩ = some (.int .i64 c) ∧ wr.drew.cell? ⟨b, o + k * 2 + 1, none⟩ = some (.slice pa pn pc) ∧ wr.drew.cell? ⟨b2, o2 + k * 2, none⟩ = some (.int .i64 c) ∧ wr.drew.cell? ⟨b2, o2 + k * 2 + 1, none⟩ = some (.slice qa qn qc) := ⟨hB.drew, e1, e2, g1, g2⟩
      have hkeep : ∀ W W', Below w.heap.size w W ∧ W.cell? ⟨b, o + k * 2, none⟩ = some (.int .i64 c) ∧ W.cell? ⟨b, o + k * 2 + 1, none⟩ = some (.slice pa pn pc) ∧ W.cell? ⟨b2, o2 + k * 2, none⟩ = some (.int .i64 c) ∧ W.cell? ⟨b2, o2 + k * 2 + 1, none⟩ = some (.slice qa qn qc) → Below W.heap.size W W' →
          Below w.heap.size w W' ∧ W'.cell? ⟨b, o + k * 2, none⟩ = some (.int .i64 c) ∧ W'.cell? ⟨b, o + k * 2 + 1, none⟩ = some (.slice pa pn pc) ∧ W'.cell? ⟨b2, o2 + k * 2, none⟩ = some (.int .i64 c) ∧ W'.cell? ⟨b2, o2 + k * 2 + 1, none⟩ = some (.slice qa qn qc) := by
        rintro W W' ⟨h, h1, h2, h3, h4⟩ hk
        have hs := h.size
        obtain ⟨hc, _⟩ := bcell hk
        exact ⟨bthen h hk, by rw [hc _ _ (by omega)]; exact h1, by rw [hc _ _ (by omega)]; exact h2, by rw [hc _ _ (by omega)]; exact h3, by rw [hc _ _ (by omega)]; exact h4⟩
      have HK := hidd hkeep
      clear hs hpc hpn hqc hqn ha hb hp hq hB hkeep hpl e1 e2 g1 g2
      go_wp2
      go_region_held3 (fun W => Below w.heap.size w W ∧ W.cell? ⟨b, o + k * 2, none⟩ = some (.int .i64 c) ∧ W.cell? ⟨b, o + k * 2 + 1, none⟩ = some (.slice pa pn pc) ∧ W.cell? ⟨b2, o2 + k * 2, none⟩ = some (.int .i64 c) ∧ W.cell? ⟨b2, o2 + k * 2 + 1, none⟩ = some (.slice qa qn qc)) (first | assumption | exact hS0 | exact HK.out _ _ (by assumption) (by assumption))
        ((go_at_call 57; refine (HCL.out _ (by first | assumption | exact (by assumption : _ ∧ _).1)).mono ?_; rintro e w6 ⟨rfl, hb6⟩))
      rename_i hS
      have HB := hidd hS.1
      clear hS hS0
      go_wp2
      go_roundw
      case rel => exact ⟨k + 1, by omega, by go_num, HB.out⟩
      case measure => simp [intOf]; omega
    · clear ha hb
      go_wp2
      go_ret
      exact ⟨rfl, hB⟩
end Go.Proofs.Ytkfejnifbkgihaa
