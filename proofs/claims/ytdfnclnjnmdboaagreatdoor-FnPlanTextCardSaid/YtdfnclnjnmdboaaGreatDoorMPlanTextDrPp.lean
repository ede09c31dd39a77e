/- Lemmas and contracts for PlanText (DrPp): plain words on memory, contracts of the functions that the law reaches. No condition but what each states. -/
import Derived.Test.YtdfnclnjnmdboaaGreatDoorMPlanTextDrT
import Derived.Test.YtdfnclnjnmdboaaGreatDoorMPlanTextDrawS
import Derived.Test.YtdfnclnjnmdboaaGreatDoorMPlanTextFmt1
import Derived.Test.YtdfnclnjnmdboaaGreatDoorMPlanTextShort2
namespace Go.Proofs.YtdfnclnjnmdboaaGreatDoor
set_option linter.unusedVariables false
open Go.RowKit

set_option maxRecDepth 20000 in
theorem c_DrawFormatPlan (v : Value) (cs : List Int) (w : World) (hv : RdL w v (cs.map (Value.int .u8))) (hl : cs.length ≤ 1099511627776) (hb : ∀ n ∈ cs, (Lit.int .u8 n).wf = true) (hcap : CapOk v) :
    Calls Tryz.prog 5 #[v] w (DrawnP w) := by
  go_enter Tryz.func5, Tryz.ntmps5
  go_wp2_with fail
  refine (c_DrawPlanValid _ cs _ hv hl hb hcap).mono ?_
  rintro e w1 ⟨u, pl, rfl, ho, hd, hB⟩
  have HF : Hid (DrawnP w (.returned u) w1) := ⟨_, _, rfl, ho, hd, hB⟩
  clear hv hb hcap ho hd hB
  go_wp2
  go_ret
  exact HF.out
theorem emp_no {s : ByteArray} (h : s ≠ ⟨#[]⟩) : s.toList.isEmpty = false ∧ 0 < s.size := by
  have h1 : s.data.toList ≠ [] := fun e => h (ByteArray.ext (Array.ext' (by rw [e])))
  rw [ByteArray.toList_eq, ← size_data]
  cases hq : s.data.toList with
  | nil => exact absurd hq h1
  | cons x l => exact ⟨rfl, by simp⟩
theorem slice_toPp (y : ByteArray) (n : Nat) (h : n ≤ y.size) : ∃ T, (∀ W, (Instr.slice 9 (.string y) none (some (.int .i64 (n : Int))) none).run Tryz.prog W = .ok (.string T) W) ∧ T.size ≤ y.size := by
  refine ⟨y.extract 0 n, fun W => ?_, by rw [ByteArray.size_extract]; omega⟩
  rw [run_slice_string_to_if W 9 y .i64 n Tryz.underlying9, if_pos (by omega), Int.toNat_natCast]
def DrawTp (w : World) (e : Ending) (w' : World) : Prop := ∃ Y : ByteArray, e = .returned (.string Y) ∧ Y.size ≤ 20000 ∧ Below w.heap.size w w'
set_option maxRecDepth 20000 in
set_option maxHeartbeats 1600000 in
theorem c_DrawParsePlan (v : Value) (cs : List Int) (w : World) (hv : RdL w v (cs.map (Value.int .u8))) (hl : cs.length ≤ 1099511627776) (hb : ∀ n ∈ cs, (Lit.int .u8 n).wf = true) (hcap : CapOk v) :
    Calls Tryz.prog 11 #[v] w (DrawTp w) := by
  go_enter Tryz.func11, Tryz.ntmps11
  go_wp2_with fail
  refine (c_l9Open _ cs w hv hl hb hcap).mono ?_
  rintro e w1 ⟨g, rfl, hr1, hgb, hB1⟩
  have hs1 := hB1.size
  have hgl := hr1.lt
  clear hb hcap hv
  have hgw3 : ∀ k, (some g : Option Nat) = some k → w.heap.size ≤ k := fun k hk => by cases hk; exact hgb
  go_wp2_with fail
  refine (c_l5Plan g 0 w1 hr1 (by omega)).mono ?_
  rintro e w2 ⟨vp, pl, rfl, hop, hd, ⟨hl2, hl61⟩, hr2, hg2⟩
  have hB2 := hB1.grown hg2 hs1 hgw3
  have hs2 := hg2.size
  have HM : Hid (∀ s ∈ pl, s.2.length ≤ 7) := hd.2
  have HPX : Hid (∀ s ∈ pl, s.2.length ≤ 1099511627776) := fun s hs => by have := HM.out s hs; omega
  have hrp := hop.rd
  clear hg2 hB1 hr1 hop hd
  go_wp2_with fail
  refine (c_sFormatPlan vp pl w2 hrp (by omega) HPX.out).mono ?_
  rintro e w6 ⟨t, rfl, ht, hB⟩
  have hr6 := hr2.kept hB
  have hB6 := bthen hB2 hB
  have hs6 := hB.size
  have hts := ht.size
  have hfl := fplL_len pl
  have ht2 : t.size ≤ 8700 := by omega
  clear hB hB2 hr2 hfl hts ht hrp
  go_wp2_with fail
  refine (d_pick g _ _ w6 hr6 (by omega)).mono ?_
  rintro e w7 ⟨x5, rfl, ⟨hxa5, hxb⟩, hr7, hg7⟩
  have hB7 := hB6.grown hg7 (by omega) hgw3
  have hs7 := hg7.size
  clear hg7 hB6 hr6 hxb
  by_cases h0 : x5 = 0
  · have e0 : (x5 == 0) = true := beq_iff_eq.2 h0
    clear h0
    go_wp2
    go_ret
    exact ⟨t, rfl, by omega, hB7⟩
  · have e0 : (x5 == 0) = false := beq_eq_false_iff_ne.2 h0
    clear h0
    by_cases ht0 : t = ⟨#[]⟩
    · subst ht0
      go_wp2
      go_ret
      exact ⟨_, rfl, by omega, hB7⟩
    · obtain ⟨e9, ht1⟩ := emp_no ht0
      go_wp2_with fail
      refine (d_pick g _ _ w7 hr7 (by omega)).mono ?_
      rintro e w8 ⟨x6, rfl, ⟨hxa6, hxb6⟩, hr, hg8⟩
      have hB8 := hB7.grown hg8 (by omega) hgw3
      have hs8 := hg8.size
      obtain ⟨k, rfl⟩ : ∃ k : Nat, x6 = k := ⟨x6.toNat, by omega⟩
      have hk : k < t.size := by omega
      clear hg8 hB7 hr7 hxb6
      obtain ⟨U, g2, hUs⟩ := slice_toPp t k (by omega)
      have i1 : (0 : Int) ≤ (k : Int) := by omega
      have i2 : (k : Int) ≤ (t.size : Int) := by omega
      replace hr : IsRdB w8.drew g _ := hr
      have hG : w8.drew.grownBy w8.drew (some g) := World.grownBy.refl _ _
      have hgl8 : g < w8.drew.heap.size := hr.lt
      go_wp2
      go_region_held3 (fun wx => True) (trivial) (first
        | (go_at_call 36; refine (d_strlit g _ [⟨#[]⟩, ⟨#[48]⟩, ⟨#[32]⟩, ⟨#[45]⟩, ⟨#[47]⟩, ⟨#[58]⟩, ⟨#[49]⟩] _ hr (by omega) (by decide) (by decide)).mono ?_; rintro e wa ⟨z, rfl, hz, hr, hg⟩; have hzs : z.size ≤ 1 := (show ∀ s ∈ ([⟨#[]⟩, ⟨#[48]⟩, ⟨#[32]⟩, ⟨#[45]⟩, ⟨#[47]⟩, ⟨#[58]⟩, ⟨#[49]⟩] : List ByteArray), s.size ≤ 1 by decide) z hz; have hG := grownBy_trans hG hg; have h1 : (9223372036854775807 < U.size + z.size) = False := eq_false (by omega); try (have h2 : (9223372036854775807 < U.size + z.size + T.size) = False := eq_false (by omega)))
        | (go_at_call 36; refine (c_of g _ _ [⟨#[]⟩, ⟨#[48]⟩, ⟨#[32]⟩, ⟨#[45]⟩, ⟨#[47]⟩, ⟨#[58]⟩, ⟨#[49]⟩] _ hr (by omega) (RdL_grown (RdS_lit _ [⟨#[]⟩, ⟨#[48]⟩, ⟨#[32]⟩, ⟨#[45]⟩, ⟨#[47]⟩, ⟨#[58]⟩, ⟨#[49]⟩] 9 7) hg (ne_of_new hgl8)) (by decide) (by decide) (ne_of_new hgl8)).mono ?_; rintro e wa ⟨z, rfl, hz, hr, hg⟩; have hzs : z.size ≤ 1 := (show ∀ s ∈ ([⟨#[]⟩, ⟨#[48]⟩, ⟨#[32]⟩, ⟨#[45]⟩, ⟨#[47]⟩, ⟨#[58]⟩, ⟨#[49]⟩] : List ByteArray), s.size ≤ 1 by decide) z hz; have hG := grownBy_trans hG hg; have h1 : (9223372036854775807 < U.size + z.size) = False := eq_false (by omega); try (have h2 : (9223372036854775807 < U.size + z.size + T.size) = False := eq_false (by omega)))
        | (go_at_call 35; refine (d_pick g _ _ _ (by first | exact hr | exact hr.alloc _) (by omega)).mono ?_; rintro e wa ⟨x7, rfl, ⟨hxa7, hxb7⟩, hr, hg⟩; obtain ⟨N, rfl⟩ : ∃ N : Nat, x7 = N := ⟨x7.toNat, by omega⟩; have hN : k + N ≤ t.size := (by omega); obtain ⟨T, hT⟩ : ∃ T : ByteArray, t.extract (k + N) t.size = T := ⟨_, rfl⟩; have hTs : T.size ≤ 8700 := (by rw [← hT, ByteArray.size_extract]; omega); have hw : IntKind.i64.wrap ((k : Int) + (N : Int)) = (k : Int) + (N : Int) := IntWalk.i64_in _ (by omega); have j1 : (0 : Int) ≤ (k : Int) + (N : Int) := (by omega); have j2 : (k : Int) + (N : Int) ≤ (t.size : Int) := (by omega); have j3 : ((k : Int) + (N : Int)).toNat = k + N := (by omega); have hG : w8.drew.grownBy wa (some g) := (by first | exact grownBy_trans hG hg | exact grownBy_trans (grownBy_trans hG (World.grownBy_alloc _ _ (some g))) hg); try (have h2 : (9223372036854775807 < U.size + z.size + T.size) = False := eq_false (by omega))))
      all_goals
        have hF : Hid (((U ++ z) ++ T).size ≤ 20000 ∧ Below w.heap.size w _) := ⟨by rw [ByteArray.size_append, ByteArray.size_append]; omega, hB8.drew.grown hG hB8.size hgw3⟩
        clear hG hr hg hB8
        go_wp2
        go_ret
        exact ⟨_, rfl, hF.out.1, hF.out.2⟩
end Go.Proofs.YtdfnclnjnmdboaaGreatDoor
