/- Contracts: the laws' own comparison of two plans. -/
import Derived.Test.YtkfejnifbkgihaaPlan5
import Derived.Test.YtkfejnifbkgihaaDeI
namespace Go.Proofs.Ytkfejnifbkgihaa
set_option linter.unusedVariables false
open Go.RowKit

theorem keep4 {w wa wb : World} {b1 o1 p1 b2 o2 p2 : Nat} {v1 v2 u1 u2 : Value} (h1 : b1 < w.heap.size) (h2 : b2 < w.heap.size) (h : Below w.heap.size w wa ∧ wa.cell? ⟨b1, o1, none⟩ = some v1 ∧ wa.cell? ⟨b1, p1, none⟩ = some v2 ∧ wa.cell? ⟨b2, o2, none⟩ = some u1 ∧ wa.cell? ⟨b2, p2, none⟩ = some u2) (k : Below wa.heap.size wa wb) :
    Below w.heap.size w wb ∧ wb.cell? ⟨b1, o1, none⟩ = some v1 ∧ wb.cell? ⟨b1, p1, none⟩ = some v2 ∧ wb.cell? ⟨b2, o2, none⟩ = some u1 ∧ wb.cell? ⟨b2, p2, none⟩ = some u2 := by
  obtain ⟨h0, q1, q2, q3, q4⟩ := h
  have hs := h0.size
  obtain ⟨hc, _⟩ := bcell k
  exact ⟨bthen h0 k, by rw [hc _ _ (by omega)]; exact q1, by rw [hc _ _ (by omega)]; exact q2, by rw [hc _ _ (by omega)]; exact q3, by rw [hc _ _ (by omega)]; exact q4⟩
set_option maxRecDepth 20000 in
set_option maxHeartbeats 800000 in
theorem k_de_plans (va vb : Value) (pl : List Seg) (w : World) (ha : RdP w va pl) (hb : RdP w vb pl) (hx : pl.length ≤ 1099511627776) (hpx : ∀ s ∈ pl, s.2.length ≤ 1099511627776) :
    Calls Try.prog 29 #[va, vb] w fun e w' => e = .returned (.bool true) ∧ Below w.heap.size w w' := by
  obtain ⟨a1, c1, rfl, _⟩ := ha.form
  obtain ⟨a2, c2, rfl, _⟩ := hb.form
  have HPX := hidd hpx
  clear hpx
  go_enter Try.func29, Try.ntmps29
  go_wp2
  go_loopw [5] (fun i wr => ∃ k : Nat, k ≤ pl.length ∧ i = .int .i64 k ∧ Below w.heap.size w wr) (fun i _ => pl.length - (intOf i).toNat)
  case atStart => exact ⟨0, by omega, rfl, Below.refl _ _⟩
  case round =>
    obtain ⟨k, hk, rfl, hB⟩ := hrel
    by_cases hlt : k < pl.length
    · obtain ⟨b1, o1, pa1, pn1, pc1, rfl, hb1, e1, e2, hp1, _, hn1⟩ := ha.cell hB hlt
      obtain ⟨b2, o2, pa2, pn2, pc2, rfl, hb2, f1, f2, hp2, _, hn2⟩ := hb.cell hB hlt
      have hl := HPX.out (pl.getD k noG) (by simp [List.getD, hlt])
      obtain ⟨s, hs⟩ : ∃ s, pl.getD k noG = s := ⟨_, rfl⟩
      rw [hs] at e1 f1 hp1 hp2 hl
      obtain ⟨c, p⟩ := s
      have e1 : wr.cell? ⟨b1, o1 + k * 2, none⟩ = some (.int .i64 c) := e1
      have f1 : wr.cell? ⟨b2, o2 + k * 2, none⟩ = some (.int .i64 c) := f1
      have i1 : (0 : Int) ≤ (k : Int) := by omega
      have i2 : (k : Int) < (pl.length : Int) := by omega
      have hcc : (c != c) = false := by simp
      have hk0 : Below w.heap.size w wr.drew ∧ wr.drew.cell? ⟨b1, o1 + k * 2, none⟩ = some (.int .i64 c) ∧ wr.drew.cell? ⟨b1, o1 + k * 2 + 1, none⟩ = some (.slice pa1 pn1 pc1) ∧ wr.drew.cell? ⟨b2, o2 + k * 2, none⟩ = some (.int .i64 c) ∧ wr.drew.cell? ⟨b2, o2 + k * 2 + 1, none⟩ = some (.slice pa2 pn2 pc2) := ⟨hB.drew, e1, e2, f1, f2⟩
      have HD : Hid (∀ W, (Below w.heap.size w W ∧ W.cell? ⟨b1, o1 + k * 2, none⟩ = some (.int .i64 c) ∧ W.cell? ⟨b1, o1 + k * 2 + 1, none⟩ = some (.slice pa1 pn1 pc1) ∧ W.cell? ⟨b2, o2 + k * 2, none⟩ = some (.int .i64 c) ∧ W.cell? ⟨b2, o2 + k * 2 + 1, none⟩ = some (.slice pa2 pn2 pc2)) →
          Calls Try.prog 12 #[.slice pa1 pn1 pc1, .slice pa2 pn2 pc2] W fun e w' => e = .returned (.bool true) ∧ Below W.heap.size W w') :=
        fun W h => (c_deInts _ _ p p W (hp1.kept h.1) (hp2.kept h.1) (Nat.le_trans hl (by decide)) (Nat.le_trans hl (by decide))).mono fun _ _ ⟨h1, h2⟩ => ⟨by rw [h1]; simp, h2⟩
      clear hs hn1 hn2 hp1 hp2 hl ha hb
      go_wp2
      go_region_held3 (fun wx => Below w.heap.size w wx ∧ wx.cell? ⟨b1, o1 + k * 2, none⟩ = some (.int .i64 c) ∧ wx.cell? ⟨b1, o1 + k * 2 + 1, none⟩ = some (.slice pa1 pn1 pc1) ∧ wx.cell? ⟨b2, o2 + k * 2, none⟩ = some (.int .i64 c) ∧ wx.cell? ⟨b2, o2 + k * 2 + 1, none⟩ = some (.slice pa2 pn2 pc2)) (first | assumption | exact hk0 | exact keep4 hb1 hb2 (by assumption) (by assumption))
        ((go_at_call 12; refine (HD.out _ (by assumption)).mono ?_; rintro e w2 ⟨rfl, hb2'⟩))
      rename_i hS
      have HB := hidd hS.1
      clear hS hk0 hB e1 e2 f1 f2
      go_wp2
      go_roundw
      case rel => exact ⟨k + 1, by omega, by go_num, HB.out⟩
      case measure => simp [intOf]; omega
    · clear ha hb
      go_wp2
      go_ret
      exact ⟨rfl, hB⟩
end Go.Proofs.Ytkfejnifbkgihaa
