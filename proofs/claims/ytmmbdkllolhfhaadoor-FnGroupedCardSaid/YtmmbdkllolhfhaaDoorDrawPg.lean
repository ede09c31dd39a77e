/- Contracts: drawn numbers in groups, drawn texts of such. -/
import Derived.Test.YtmmbdkllolhfhaaDoorDrawS
import Derived.Test.YtmmbdkllolhfhaaDoorEnt
import Derived.Test.YtmmbdkllolhfhaaDoorShort2
import Derived.Test.YtmmbdkllolhfhaaDoorPgrP2
import Derived.Test.YtmmbdkllolhfhaaDoorGrp2
namespace Go.Proofs.YtmmbdkllolhfhaaDoor
set_option linter.unusedVariables false
open Go.RowKit

theorem c_DrawGroupDigits0 (v : Value) (cs : List Int) (w : World) (hv : RdL w v (cs.map (Value.int .u8))) (hl : cs.length ≤ 1099511627776) (hb : ∀ n ∈ cs, (Lit.int .u8 n).wf = true) (hcap : CapOk v) :
    Calls Tryd.prog 20 #[v] w fun e w' => ∃ n : Int, e = .returned (.int .i64 (n)) ∧ Below w.heap.size w w' := by
  have hv0 := hv
  obtain ⟨a, cap, rfl, hv1⟩ := hv0
  clear hv1
  simp only [List.length_map] at hv hcap ⊢
  go_enter Tryd.func20, Tryd.ntmps20
  go_wp2_with fail
  refine (c_l9Open _ cs w hv hl hb hcap).mono ?_
  rintro e w1 ⟨g, rfl, hr1, hgb, hB⟩
  clear hb hcap hv
  go_wp2_with fail
  refine (c_l6Number g 0 w1 hr1 (by omega)).mono ?_
  rintro e w3 ⟨n, rfl, _, hr3, hg3⟩
  have HO : Hid (Below w.heap.size w w3) := hB.grown hg3 hB.size (fun k hk => by cases hk; exact hgb)
  clear hg3 hB
  go_wp2
  go_ret
  exact ⟨n, rfl, HO.out⟩

theorem slice_toP (y : ByteArray) (n : Nat) (h : n ≤ y.size) : ∃ T, (∀ W, (Instr.slice 9 (.string y) none (some (.int .i64 (n : Int))) none).run Tryd.prog W = .ok (.string T) W) ∧ T.size ≤ y.size := by
  refine ⟨y.extract 0 n, fun W => ?_, by rw [ByteArray.size_extract]; omega⟩
  rw [run_slice_string_to_if W 9 y .i64 n Tryd.underlying9, if_pos (by omega), Int.toNat_natCast]

def DrawT (w : World) (e : Ending) (w' : World) : Prop := ∃ Y : ByteArray, e = .returned (.string Y) ∧ Y.size ≤ 200 ∧ Below w.heap.size w w'

set_option maxRecDepth 20000 in
set_option maxHeartbeats 1600000 in
theorem c_DrawParseGrouped (v : Value) (cs : List Int) (w : World) (hv : RdL w v (cs.map (Value.int .u8))) (hl : cs.length ≤ 1099511627776) (hb : ∀ n ∈ cs, (Lit.int .u8 n).wf = true) (hcap : CapOk v) :
    Calls Tryd.prog 23 #[v] w (DrawT w) := by
  have hv0 := hv
  obtain ⟨a, cap, rfl, hv1⟩ := hv0
  clear hv1
  simp only [List.length_map] at hv hcap ⊢
  go_enter Tryd.func23, Tryd.ntmps23
  go_wp2_with fail
  refine (c_l9Open _ cs w hv hl hb hcap).mono ?_
  rintro e w1 ⟨g, rfl, hr1, hgb, hB1⟩
  have hs1 := hB1.size
  have hgl := hr1.lt
  clear hb hcap hv
  have hgw3 : ∀ k, (some g : Option Nat) = some k → w.heap.size ≤ k := fun k hk => by cases hk; exact hgb
  go_wp2_with fail
  refine (d_pick g 0 _ w1 hr1 (by omega)).mono ?_
  rintro e w2 ⟨x1, rfl, ⟨hxa, hxb⟩, hr2, hg2⟩
  have hB2 := hB1.grown hg2 hs1 hgw3
  have x1b : x1 ≤ 255 := by omega
  have hs2 := hg2.size
  clear hg2 hB1 hr1 hxb
  go_wp2_with fail
  refine (d_pick g _ _ w2 hr2 (by omega)).mono ?_
  rintro e w3 ⟨x2, rfl, ⟨hxa2, hxb⟩, hr3, hg3⟩
  have hB3 := hB2.grown hg3 (by omega) hgw3
  have x2b : x2 ≤ 255 := by omega
  have hs3 := hg3.size
  clear hg3 hB2 hr2 hxb
  obtain ⟨y2, hy2⟩ : ∃ y2, x1 * x2 = y2 := ⟨_, rfl⟩
  have y2a : 0 ≤ y2 := by rw [← hy2]; exact Int.mul_nonneg hxa hxa2
  have y2b : y2 ≤ 255 * 255 := by rw [← hy2]; exact Int.mul_le_mul x1b x2b hxa2 (by omega)
  go_wp2_with fail
  refine (d_pick g _ _ w3 hr3 (by omega)).mono ?_
  rintro e w4 ⟨x3, rfl, ⟨hxa3, hxb⟩, hr4, hg4⟩
  have hB4 := hB3.grown hg4 (by omega) hgw3
  have x3b : x3 ≤ 255 := by omega
  have hs4 := hg4.size
  clear hg4 hB3 hr3 hxb
  obtain ⟨y3, hy3⟩ : ∃ y3, y2 * x3 = y3 := ⟨_, rfl⟩
  have y3a : 0 ≤ y3 := by rw [← hy3]; exact Int.mul_nonneg y2a hxa3
  have y3b : y3 ≤ (255 * 255) * 255 := by rw [← hy3]; exact Int.mul_le_mul y2b x3b hxa3 (by omega)
  go_wp2_with fail
  refine (d_pick g _ _ w4 hr4 (by omega)).mono ?_
  rintro e w5 ⟨x4, rfl, ⟨hxa4, hxb⟩, hr5, hg5⟩
  have hB5 := hB4.grown hg5 (by omega) hgw3
  have x4b : x4 ≤ 999 := by omega
  have hs5 := hg5.size
  clear hg5 hB4 hr4 hxb
  have hne := grpF_ne (n := y3 - x4) (by omega) (by omega)
  have hfl := grpF_len (y3 - x4)
  go_wp2_with fail
  refine (c_spec_GroupDigits (y3 - x4) w5).mono ?_
  rintro e w6 ⟨t, rfl, ht, hB⟩
  have hr6 := hr5.kept hB
  have hB6 := bthen hB5 hB
  have hs6 := hB.size
  have hts := ht.size
  have ht1 : 0 < t.size := by rw [hts]; exact List.length_pos_iff.2 hne
  have ht2 : t.size ≤ 33 := by omega
  clear hB hB5 hr5 hne hfl hts ht hy2 hy3
  go_wp2_with fail
  refine (d_pick g _ _ w6 hr6 (by omega)).mono ?_
  rintro e w7 ⟨x5, rfl, ⟨hxa5, hxb⟩, hr7, hg7⟩
  have hB7 := hB6.grown hg7 (by omega) hgw3
  have hs7 := hg7.size
  clear hg7 hB6 hr6 hxb
  by_cases h0 : x5 = 0
  · have e0 : (x5 == 0) = true := beq_iff_eq.2 h0
    clear h0
    go_wp2
    go_ret
    exact ⟨t, rfl, by omega, hB7⟩
  · have e0 : (x5 == 0) = false := beq_eq_false_iff_ne.2 h0
    clear h0
    go_wp2_with fail
    refine (d_pick g _ _ w7 hr7 (by omega)).mono ?_
    rintro e w8 ⟨x6, rfl, ⟨hxa6, hxb6⟩, hr, hg8⟩
    have hB8 := hB7.grown hg8 (by omega) hgw3
    have hs8 := hg8.size
    obtain ⟨k, rfl⟩ : ∃ k : Nat, x6 = k := ⟨x6.toNat, by omega⟩
    have hk : k < t.size := by omega
    clear hg8 hB7 hr7 hxb6
    obtain ⟨U, g2, hUs⟩ := slice_toP t k (by omega)
    have i1 : (0 : Int) ≤ (k : Int) := by omega
    have i2 : (k : Int) ≤ (t.size : Int) := by omega
    replace hr : IsRdB w8.drew g (0 + 1 + 1 + 1 + 1 + 1 + 1) := hr
    have hG : w8.drew.grownBy w8.drew (some g) := World.grownBy.refl _ _
    have hgl8 : g < w8.drew.heap.size := hr.lt
    go_wp2
    go_region_held3 (fun wx => True) (trivial) (first
      | (go_at_call 50; refine (d_strlit g _ [⟨#[]⟩, ⟨#[32]⟩, ⟨#[48]⟩, ⟨#[45]⟩, ⟨#[120]⟩] _ hr (by omega) (by decide) (by decide)).mono ?_; rintro e wa ⟨z, rfl, hz, hr, hg⟩; have hzs : z.size ≤ 1 := (show ∀ s ∈ ([⟨#[]⟩, ⟨#[32]⟩, ⟨#[48]⟩, ⟨#[45]⟩, ⟨#[120]⟩] : List ByteArray), s.size ≤ 1 by decide) z hz; have hG := grownBy_trans hG hg; have h1 : (9223372036854775807 < U.size + z.size) = False := eq_false (by omega); try (have h2 : (9223372036854775807 < U.size + z.size + T.size) = False := eq_false (by omega)))
      | (go_at_call 50; refine (c_of g _ _ [⟨#[]⟩, ⟨#[32]⟩, ⟨#[48]⟩, ⟨#[45]⟩, ⟨#[120]⟩] _ hr (by omega) (RdL_grown (RdS_lit _ [⟨#[]⟩, ⟨#[32]⟩, ⟨#[48]⟩, ⟨#[45]⟩, ⟨#[120]⟩] 9 5) hg (ne_of_new hgl8)) (by decide) (by decide) (ne_of_new hgl8)).mono ?_; rintro e wa ⟨z, rfl, hz, hr, hg⟩; have hzs : z.size ≤ 1 := (show ∀ s ∈ ([⟨#[]⟩, ⟨#[32]⟩, ⟨#[48]⟩, ⟨#[45]⟩, ⟨#[120]⟩] : List ByteArray), s.size ≤ 1 by decide) z hz; have hG := grownBy_trans hG hg; have h1 : (9223372036854775807 < U.size + z.size) = False := eq_false (by omega); try (have h2 : (9223372036854775807 < U.size + z.size + T.size) = False := eq_false (by omega)))
      | (go_at_call 49; refine (d_pick g _ _ _ (by first | exact hr | exact hr.alloc _) (by omega)).mono ?_; rintro e wa ⟨x7, rfl, ⟨hxa7, hxb7⟩, hr, hg⟩; obtain ⟨N, rfl⟩ : ∃ N : Nat, x7 = N := ⟨x7.toNat, by omega⟩; have hN : k + N ≤ t.size := (by omega); obtain ⟨T, hT⟩ : ∃ T : ByteArray, t.extract (k + N) t.size = T := ⟨_, rfl⟩; have hTs : T.size ≤ 33 := (by rw [← hT, ByteArray.size_extract]; omega); have hw : IntKind.i64.wrap ((k : Int) + (N : Int)) = (k : Int) + (N : Int) := IntWalk.i64_in _ (by omega); have j1 : (0 : Int) ≤ (k : Int) + (N : Int) := (by omega); have j2 : (k : Int) + (N : Int) ≤ (t.size : Int) := (by omega); have j3 : ((k : Int) + (N : Int)).toNat = k + N := (by omega); have hG : w8.drew.grownBy wa (some g) := (by first | exact grownBy_trans hG hg | exact grownBy_trans (grownBy_trans hG (World.grownBy_alloc _ _ (some g))) hg); try (have h2 : (9223372036854775807 < U.size + z.size + T.size) = False := eq_false (by omega))))
    all_goals
      have hF : Hid (((U ++ z) ++ T).size ≤ 200 ∧ Below w.heap.size w _) := ⟨by rw [ByteArray.size_append, ByteArray.size_append]; omega, hB8.drew.grown hG hB8.size hgw3⟩
      clear hG hr hg hB8
      go_wp2
      go_ret
      exact ⟨_, rfl, hF.out.1, hF.out.2⟩
end Go.Proofs.YtmmbdkllolhfhaaDoor
