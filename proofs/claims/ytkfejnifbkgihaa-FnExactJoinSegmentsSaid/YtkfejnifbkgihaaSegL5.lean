/- Contracts: the laws find their marks in plans. -/
import Derived.Test.YtkfejnifbkgihaaSegL4
namespace Go.Proofs.Ytkfejnifbkgihaa
set_option linter.unusedVariables false
open Go.RowKit

set_option maxRecDepth 20000 in
set_option maxHeartbeats 1600000 in
theorem c_heldSegmentS (v : Value) (pl : List Seg) (c : Int) (w : World) (ha : RdP w v (mkPl c pl)) (hx : cntM pl ≤ 2000000) (hc : 0 ≤ c) (hc' : c ≤ 1) :
    Calls Try.prog 25 #[v, (.int .i64 (c))] w fun e w' => e = .returned (.int .i64 (c + cntM pl)) ∧ Below w.heap.size w w' := by
  have hlen := cntM_len pl
  have HMEM := hidd (cntM_mem pl)
  have HTK := hidd (cntM_take pl)
  obtain ⟨a, cap, rfl, hcap⟩ := ha.form
  have HLEN := hidd (mkPl_len c pl)
  obtain ⟨N, hN⟩ : ∃ N, (mkPl c pl).length = N := ⟨_, rfl⟩
  rw [hN] at ha ⊢
  have hNl : N = pl.length := by rw [← hN, mkPl_len]
  clear hN hcap
  subst hNl
  go_enter Try.func25, Try.ntmps25
  go_wp2
  go_loopw [1, 5] (fun q i wr => ∃ k T : Nat, k ≤ pl.length ∧ i = .int .i64 k ∧ q = .int .i64 (c + (T : Int)) ∧ Hid (cntM (pl.take k) = T) ∧ Below w.heap.size w wr) (fun _ i _ => pl.length - (intOf i).toNat)
  case atStart => exact ⟨0, 0, by omega, rfl, by simp, (show cntM (pl.take 0) = 0 by simp [cntM]), Below.refl _ _⟩
  case round =>
    obtain ⟨k, T, hk, rfl, rfl, HT, hB⟩ := hrel
    have htk := HTK.out k
    by_cases hlt : k < pl.length
    · obtain ⟨b, o, pa, pn, pc, rfl, hb, e1, e2, hp, hpc, hpn⟩ := ha.cell hB (by rw [mkPl_len]; exact hlt)
      have hG := mkPl_getD c pl k hlt
      have HSUC := hidd (cntM_succ pl k hlt)
      have hm := HMEM.out (pl.getD k noG) (by simp [List.getD, hlt])
      have htk2 := HTK.out (k + 1)
      obtain ⟨s, hs⟩ : ∃ s, pl.getD k noG = s := ⟨_, rfl⟩
      rw [hs] at hG HSUC hm
      obtain ⟨c0, p⟩ := s
      have hT := HT.out
      have hsc : cntM (pl.take (k + 1)) = T + (1 + p.length) := by rw [← hT]; exact HSUC.out
      rw [hsc] at htk2
      rw [hT] at htk hG
      have hSC := hidd hsc
      rw [hG] at e1 hp
      have hm : p.length + 1 ≤ cntM pl := hm
      have e1 : wr.cell? ⟨b, o + k * 2, none⟩ = some (.int .i64 (c + (T : Int))) := e1
      have hp : RdI w (.slice pa pn pc) (marks (c + (T : Int) + 1) p.length) := hp
      have HCL := hidd (c_heldIntS (.slice pa pn pc) (c + (T : Int) + 1) p.length wr (hp.kept hB) (by omega) (by omega) (by omega))
      have i1 : (0 : Int) ≤ (k : Int) := by omega
      have i2 : (k : Int) < (pl.length : Int) := by omega
      have HB := hidd hB
      clear hs hpc hpn ha hp hB hG HSUC hT hsc HT
      go_wp2_with fail
      refine HCL.out.mono ?_
      rintro e w2 ⟨rfl, hb2⟩
      have HB2 := hidd (bthen HB.out hb2)
      clear hb2
      go_wp2
      go_roundw
      case rel => exact ⟨k + 1, T + (1 + p.length), by omega, by go_num, by simp only [Value.int.injEq, true_and]; omega, hSC, HB2.out⟩
      case measure => simp [intOf]; omega
    · have hkl : k = pl.length := by omega
      have HO : Hid (c + (T : Int) = c + cntM pl) := by
        show c + (T : Int) = _
        rw [← HT.out, hkl, List.take_length]
      clear ha hkl
      go_wp2
      go_ret
      exact ⟨ret_int HO.out, hB⟩
end Go.Proofs.Ytkfejnifbkgihaa
