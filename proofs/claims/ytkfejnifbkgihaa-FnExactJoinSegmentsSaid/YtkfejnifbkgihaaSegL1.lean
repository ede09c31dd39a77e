/- Contracts: the laws' helpers on segments: sizes, copies, comparison. -/
import Derived.Test.YtkfejnifbkgihaaPlan9
import Derived.Test.YtkfejnifbkgihaaDe5
namespace Go.Proofs.Ytkfejnifbkgihaa
set_option linter.unusedVariables false
open Go.RowKit

theorem c_szIntS (v : Value) (p : List Int) (L : Int) (w : World) (ha : RdI w v p) (hx : p.length ≤ 9223372036854775807) (hL : 0 ≤ L) (hL' : L ≤ 1048576) :
    Calls Try.prog 81 #[v, (.int .i64 (L))] w fun e w' => e = .returned (.int .i64 ((if L < p.length then -1 else L - p.length))) ∧ w = w' := by
  obtain ⟨a, c, rfl⟩ := RdI_form ha
  by_cases h : L < p.length
  · have E : Hid ((if L < p.length then -1 else L - p.length) = (-1 : Int)) := if_pos h
    clear ha
    go_enter Try.func81, Try.ntmps81
    go_wp2
    go_ret
    exact ⟨rfl, rfl⟩
  · have E : Hid ((if L < p.length then -1 else L - p.length) = L - p.length) := if_neg h
    clear ha
    go_enter Try.func81, Try.ntmps81
    go_wp2
    go_ret
    exact ⟨rfl, rfl⟩
theorem c_szSegment (c : Int) (pa : Option Addr) (pn pc : Nat) (p : List Int) (L : Int) (w : World) (ha : RdI w (.slice pa pn pc) p) (hx : p.length ≤ 9223372036854775807) (hL : 0 ≤ L) (hL' : L ≤ 1048576) :
    Calls Try.prog 50 #[.agg #[.int .i64 c, .slice pa pn pc], (.int .i64 (L))] w fun e w' => e = .returned (.int .i64 ((if L < p.length then -1 else L - p.length))) ∧ Below w.heap.size w w' := by
  have hB0 : Below w.heap.size w (w.alloc (.cells #[.int .i64 c, .slice pa pn pc] 66)) := (Below.refl _ _).alloc (Nat.le_refl _) _
  have hc := c_szIntS (.slice pa pn pc) p L _ (ha.kept hB0) hx hL hL'
  by_cases h : L < p.length
  · have E : Hid ((if L < p.length then -1 else L - p.length) = (-1 : Int)) := if_pos h
    rw [if_pos h] at hc
    have HC := hidd hc
    clear ha hc
    go_enter Try.func50, Try.ntmps50
    go_wp2_with fail
    refine HC.out.mono ?_
    rintro e w1 ⟨rfl, rfl⟩
    go_wp2
    go_ret
    exact ⟨rfl, hB0⟩
  · have E : Hid ((if L < p.length then -1 else L - p.length) = L - p.length) := if_neg h
    rw [if_neg h] at hc
    have HC := hidd hc
    have h0 : 0 ≤ L - (p.length : Int) := by omega
    clear ha hc
    go_enter Try.func50, Try.ntmps50
    go_wp2_with fail
    refine HC.out.mono ?_
    rintro e w1 ⟨rfl, rfl⟩
    go_wp2
    go_ret
    exact ⟨rfl, hB0⟩
/-- the numbers that a plan holds: a count and a polynomial for each segment -/
def cntM : List Seg → Nat
  | [] => 0
  | s :: t => 1 + s.2.length + cntM t
theorem cntM_append : ∀ a b : List Seg, cntM (a ++ b) = cntM a + cntM b
  | [], b => by simp [cntM]
  | s :: t, b => by simp [cntM, cntM_append t b]; omega
theorem cntM_len : ∀ a : List Seg, a.length ≤ cntM a
  | [] => by simp [cntM]
  | s :: t => by have := cntM_len t; simp [cntM]; omega
theorem cntM_mem : ∀ (a : List Seg) (s : Seg), s ∈ a → s.2.length + 1 ≤ cntM a
  | [], s, h => by simp at h
  | x :: t, s, h => by
    simp at h
    rcases h with rfl | h
    · simp [cntM]; omega
    · have := cntM_mem t s h; simp [cntM]; omega
theorem cntM_succ (pl : List Seg) (k : Nat) (h : k < pl.length) : cntM (pl.take (k + 1)) = cntM (pl.take k) + (1 + (pl.getD k noG).2.length) := by
  rw [take_succG pl k h, cntM_append]; simp [cntM]
theorem cntM_take (pl : List Seg) (k : Nat) : cntM (pl.take k) ≤ cntM pl := by
  have h := cntM_append (pl.take k) (pl.drop k)
  rw [List.take_append_drop] at h
  omega
/-- the size that is left; where it is not negative, all lengths are bounded -/
def SzR (w : World) (pl : List Seg) (L : Int) (e : Ending) (w' : World) : Prop := ∃ r : Int, e = .returned (.int .i64 r) ∧ r ≤ 1048576 ∧ (0 ≤ r → (cntM pl : Int) ≤ L) ∧ Below w.heap.size w w'
set_option maxRecDepth 20000 in
theorem c_szSegmentS (v : Value) (pl : List Seg) (L : Int) (w : World) (ha : RdP w v pl) (hx : pl.length ≤ 9223372036854775807) (hpx : ∀ s ∈ pl, s.2.length ≤ 9223372036854775807) (hL : 0 ≤ L) (hL' : L ≤ 1048576) :
    Calls Try.prog 19 #[v, (.int .i64 (L))] w (SzR w pl L) := by
  obtain ⟨a, cap, rfl, hcap⟩ := ha.form
  have HPX := hidd hpx
  by_cases h : L < pl.length
  · have HF : Hid (∀ W, Below w.heap.size w W → SzR w pl L (.returned (.int .i64 (-1))) W) := fun W hW => ⟨-1, rfl, by omega, fun h => by omega, hW⟩
    clear ha hpx
    go_enter Try.func19, Try.ntmps19
    go_wp2
    go_ret
    exact HF.out _ (Below.refl _ _)
  · have h2 : (pl.length : Int) ≤ L := by omega
    have HN : Hid (∀ W, Below w.heap.size w W → SzR w pl L (.returned (.int .i64 (-1))) W) := fun W hW => ⟨-1, rfl, by omega, fun h => by omega, hW⟩
    clear hpx
    go_enter Try.func19, Try.ntmps19
    go_wp2
    go_loopw [1, 5] (fun q i wr => ∃ (k : Nat) (r : Int), k ≤ pl.length ∧ i = .int .i64 k ∧ q = .int .i64 r ∧ 0 ≤ r ∧ r ≤ L ∧ Hid (r + cntM (pl.take k) + pl.length = L + k) ∧ Below w.heap.size w wr) (fun _ i _ => pl.length - (intOf i).toNat)
    case atStart => exact ⟨0, L - pl.length, by omega, rfl, rfl, by omega, by omega, (show L - (pl.length : Int) + ((cntM (pl.take 0) : Nat) : Int) + pl.length = L + ((0 : Nat) : Int) by simp [cntM]), Below.refl _ _⟩
    case round =>
      obtain ⟨k, r, hk, rfl, rfl, hr0, hrL, HA, hB⟩ := hrel
      by_cases hlt : k < pl.length
      · obtain ⟨b, o, pa, pn, pc, rfl, hb, e1, e2, hp, hpc, hpn⟩ := ha.cell hB hlt
        have hl := HPX.out (pl.getD k noG) (by simp [List.getD, hlt])
        have HTS := hidd (cntM_succ pl k hlt)
        obtain ⟨s, hs⟩ : ∃ s, pl.getD k noG = s := ⟨_, rfl⟩
        rw [hs] at e1 HTS hp hl
        obtain ⟨c, p⟩ := s
        have i1 : (0 : Int) ≤ (k : Int) := by omega
        have i2 : (k : Int) < (pl.length : Int) := by omega
        have hc := c_szSegment c pa pn pc p r wr (hp.kept hB) hl hr0 (by omega)
        by_cases hrp : r < p.length
        · rw [if_pos hrp] at hc
          have HC := hidd hc
          clear hs hp hpc hpn ha hl hc hrp
          go_wp2_with fail
          refine HC.out.mono ?_
          rintro e w2 ⟨rfl, hB2⟩
          have HB := hidd (bthen hB hB2)
          clear hB hB2
          go_wp2
          go_ret
          exact HN.out _ HB.out
        · rw [if_neg hrp] at hc
          have HC := hidd hc
          have HA2 : Hid (r - (p.length : Int) + cntM (pl.take (k + 1)) + pl.length = L + ((k + 1 : Nat) : Int)) := by
            show _ + _ + _ = _
            have h1 := HTS.out
            have h2 : r + (cntM (pl.take k) : Int) + pl.length = L + k := HA.out
            have h3 : cntM (pl.take (k + 1)) = cntM (pl.take k) + (1 + p.length) := h1
            rw [h3]; omega
          have hpl0 : 0 ≤ r - (p.length : Int) := by omega
          have hpl1 : r - (p.length : Int) ≤ L := by omega
          clear hs hp hpc hpn ha hl hc hrp
          go_wp2_with fail
          refine HC.out.mono ?_
          rintro e w2 ⟨rfl, hB2⟩
          have HB := hidd (bthen hB hB2)
          clear hB hB2
          go_wp2
          go_roundw
          case rel => exact ⟨k + 1, r - p.length, by omega, by go_num, rfl, hpl0, hpl1, HA2.out, HB.out⟩
          case measure => simp [intOf]; omega
      · have HF : Hid (SzR w pl L (.returned (.int .i64 r)) wr) := by
          have h : r + (cntM (pl.take k) : Int) + pl.length = L + k := HA.out
          rw [List.take_of_length_le (by omega)] at h
          exact ⟨r, rfl, by omega, fun _ => by omega, hB⟩
        clear ha
        go_wp2
        go_ret
        exact HF.out
end Go.Proofs.Ytkfejnifbkgihaa
