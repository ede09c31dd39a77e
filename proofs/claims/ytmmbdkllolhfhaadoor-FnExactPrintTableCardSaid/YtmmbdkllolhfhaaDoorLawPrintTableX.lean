/- FnExactPrintTable: the program's PrintTable returns what the reference's returns, for all arguments; it changes no argument. The tables that the card lists are tied to the program's text by the given tie. No condition. -/
import Derived.Test.YtmmbdkllolhfhaaDoorPt2
import Derived.Test.YtmmbdkllolhfhaaDoorMstr
import Derived.Test.YtmmbdkllolhfhaaDoorTie
import Derived.Test.YtmmbdkllolhfhaaDoorCards
import Derived.LaidMore
import Derived.Lay
import Derived.LaidSub
import Derived.MakeChecks
import Derived.Stop.Joined
import Derived.SevenTiedAt
namespace Go.Proofs.YtmmbdkllolhfhaaDoor
set_option linter.unusedVariables false
open Go.ChangeShapes Go.WideShapes Go.ChangeAt Go.RowKit

theorem k_impl_PrintTable (r a c : Int) (v : Value) (xs : List Int) (w : World) (htab : TabW w) {base : Nat} (ho : OwnI w base v xs) (hx : xs.length ≤ 1099511627776) :
    Calls Tryd.prog 10 #[(.agg #[.int .i64 r, .int .i64 a, .int .i64 c]), v] w (StrBB (ptF r a c xs) (ptB r a c xs) w) := by
  have hr := owns_RdI ho
  obtain ⟨b, cap, rfl, h1, h2⟩ := own_cap ho
  exact c_impl_PrintTable r a c b cap xs w htab hr hx h1 h2

set_option maxHeartbeats 2000000 in
set_option maxRecDepth 100000 in
theorem walk_FnExactPrintTable (r a c : Int) (va : Value) (xs : List Int) {w : World} (hw : RdL w va (xs.map (Value.int .i64)) ∧ xs.length ≤ 9223372036854775807 ∧ ∀ n ∈ xs, (Lit.int .i64 n).wf = true) (htab : TabW w) :
    Calls Tryd.prog 3 #[(.agg #[.int .i64 r, .int .i64 a, .int .i64 c]), va] w fun e w' => e = .returned (.bool true) ∧ Below w.heap.size w w' := by
  obtain ⟨hR, hlen, _⟩ := hw
  replace hR : RdI w va xs := hR
  have hR0 := hR
  obtain ⟨ba, cap, rfl, hR1⟩ := hR0
  clear hR1
  simp only [List.length_map] at hR ⊢
  by_cases hbig : 1048576 < xs.length
  · go_enter Tryd.func3, Tryd.ntmps3
    go_wp2
    go_ret
    exact ⟨rfl, (Below.refl _ _).alloc (Nat.le_refl _) _⟩
  · go_enter Tryd.func3, Tryd.ntmps3
    go_wp2_with fail
    refine (c_toLayout _ _ _ _).mono ?_
    rintro e w1 ⟨rfl, hB⟩
    have hA : Below w.heap.size w w1 := (by first | exact hB | exact balloc hB)
    have t0 : w1.cell? ⟨w.heap.size, 0, none⟩ = some (.int .i64 (r)) := by rw [hB.cell (p := ⟨w.heap.size, 0, none⟩) (by simp)]; simp [go_sem]
    have t1 : w1.cell? ⟨w.heap.size, 1, none⟩ = some (.int .i64 (a)) := by rw [hB.cell (p := ⟨w.heap.size, 1, none⟩) (by simp)]; simp [go_sem]
    have t2 : w1.cell? ⟨w.heap.size, 2, none⟩ = some (.int .i64 (c)) := by rw [hB.cell (p := ⟨w.heap.size, 2, none⟩) (by simp)]; simp [go_sem]
    have hs1 := hB.size
    (try simp at hs1)
    clear hB
    go_wp2_with fail
    refine (k_to_ints _ xs _ (hR.kept hA) (by omega)).mono ?_
    rintro e w2 ⟨ta, rfl, o_ta, hB⟩
    replace hA := bthen hA hB
    replace t0 : w2.cell? ⟨w.heap.size, 0, none⟩ = some (.int .i64 (r)) := by rw [hB.cell (p := ⟨w.heap.size, 0, none⟩) (by show w.heap.size < _; omega)]; exact t0
    replace t1 : w2.cell? ⟨w.heap.size, 1, none⟩ = some (.int .i64 (a)) := by rw [hB.cell (p := ⟨w.heap.size, 1, none⟩) (by show w.heap.size < _; omega)]; exact t1
    replace t2 : w2.cell? ⟨w.heap.size, 2, none⟩ = some (.int .i64 (c)) := by rw [hB.cell (p := ⟨w.heap.size, 2, none⟩) (by show w.heap.size < _; omega)]; exact t2
    have hs2 := hB.size
    clear hB
    have lt_ta := fun k hk => (o_ta.lt k hk).2
    go_wp2_with fail
    refine (c_spec_PrintTable _ _ _ _ xs _ (owns_RdI o_ta) (by omega)).mono ?_
    rintro e w3 ⟨Y, rfl, hY, hB⟩
    replace o_ta := ownsRow_kept_below o_ta hB
    replace hA := bthen hA hB
    replace t0 : w3.cell? ⟨w.heap.size, 0, none⟩ = some (.int .i64 (r)) := by rw [hB.cell (p := ⟨w.heap.size, 0, none⟩) (by show w.heap.size < _; omega)]; exact t0
    replace t1 : w3.cell? ⟨w.heap.size, 1, none⟩ = some (.int .i64 (a)) := by rw [hB.cell (p := ⟨w.heap.size, 1, none⟩) (by show w.heap.size < _; omega)]; exact t1
    replace t2 : w3.cell? ⟨w.heap.size, 2, none⟩ = some (.int .i64 (c)) := by rw [hB.cell (p := ⟨w.heap.size, 2, none⟩) (by show w.heap.size < _; omega)]; exact t2
    have hs3 := hB.size
    clear hB
    clear o_ta
    go_wp2_with fail
    refine (k_to_ints _ xs _ (hR.kept hA) (by omega)).mono ?_
    rintro e w4 ⟨xa, rfl, o_xa, hB⟩
    replace hA := bthen hA hB
    replace t0 : w4.cell? ⟨w.heap.size, 0, none⟩ = some (.int .i64 (r)) := by rw [hB.cell (p := ⟨w.heap.size, 0, none⟩) (by show w.heap.size < _; omega)]; exact t0
    replace t1 : w4.cell? ⟨w.heap.size, 1, none⟩ = some (.int .i64 (a)) := by rw [hB.cell (p := ⟨w.heap.size, 1, none⟩) (by show w.heap.size < _; omega)]; exact t1
    replace t2 : w4.cell? ⟨w.heap.size, 2, none⟩ = some (.int .i64 (c)) := by rw [hB.cell (p := ⟨w.heap.size, 2, none⟩) (by show w.heap.size < _; omega)]; exact t2
    have hs4 := hB.size
    clear hB
    have lt_xa := fun k hk => (o_xa.lt k hk).2
    go_wp2_with fail
    refine (c_toLayout _ _ _ _).mono ?_
    rintro e w5 ⟨rfl, hB⟩
    replace o_xa := ownsRow_kept_below o_xa hB
    replace hA := bthen hA hB
    replace t0 : w5.cell? ⟨w.heap.size, 0, none⟩ = some (.int .i64 (r)) := by rw [hB.cell (p := ⟨w.heap.size, 0, none⟩) (by show w.heap.size < _; omega)]; exact t0
    replace t1 : w5.cell? ⟨w.heap.size, 1, none⟩ = some (.int .i64 (a)) := by rw [hB.cell (p := ⟨w.heap.size, 1, none⟩) (by show w.heap.size < _; omega)]; exact t1
    replace t2 : w5.cell? ⟨w.heap.size, 2, none⟩ = some (.int .i64 (c)) := by rw [hB.cell (p := ⟨w.heap.size, 2, none⟩) (by show w.heap.size < _; omega)]; exact t2
    have hs5 := hB.size
    clear hB
    go_wp2_with fail
    refine (k_impl_PrintTable _ _ _ _ xs _ (htab.below hA) o_xa (by omega)).mono ?_
    rintro e w6 ⟨Z, rfl, hZ, hB⟩
    replace o_xa := ownsRow_kept_below o_xa hB
    replace hA := bthen hA hB
    replace t0 : w6.cell? ⟨w.heap.size, 0, none⟩ = some (.int .i64 (r)) := by rw [hB.cell (p := ⟨w.heap.size, 0, none⟩) (by show w.heap.size < _; omega)]; exact t0
    replace t1 : w6.cell? ⟨w.heap.size, 1, none⟩ = some (.int .i64 (a)) := by rw [hB.cell (p := ⟨w.heap.size, 1, none⟩) (by show w.heap.size < _; omega)]; exact t1
    replace t2 : w6.cell? ⟨w.heap.size, 2, none⟩ = some (.int .i64 (c)) := by rw [hB.cell (p := ⟨w.heap.size, 2, none⟩) (by show w.heap.size < _; omega)]; exact t2
    have hs6 := hB.size
    clear hB
    obtain rfl : Z = Y := hZ.inj hY
    clear hY hZ
    go_wp2_with fail
    refine (k_to_ints _ xs _ (hR.kept hA) (by omega)).mono ?_
    rintro e w7 ⟨ya, rfl, o_ya, hB⟩
    replace o_xa := ownsRow_kept_below o_xa hB
    replace hA := bthen hA hB
    replace t0 : w7.cell? ⟨w.heap.size, 0, none⟩ = some (.int .i64 (r)) := by rw [hB.cell (p := ⟨w.heap.size, 0, none⟩) (by show w.heap.size < _; omega)]; exact t0
    replace t1 : w7.cell? ⟨w.heap.size, 1, none⟩ = some (.int .i64 (a)) := by rw [hB.cell (p := ⟨w.heap.size, 1, none⟩) (by show w.heap.size < _; omega)]; exact t1
    replace t2 : w7.cell? ⟨w.heap.size, 2, none⟩ = some (.int .i64 (c)) := by rw [hB.cell (p := ⟨w.heap.size, 2, none⟩) (by show w.heap.size < _; omega)]; exact t2
    have hs7 := hB.size
    clear hB
    have lt_ya := fun k hk => (o_ya.lt k hk).2
    go_wp2_with fail
    refine (k_eq_ints _ _ _ _ xs _ o_xa o_ya (by omega)).mono ?_
    rintro e w8 ⟨rfl, hB⟩
    replace o_xa := ownsRow_kept_below o_xa hB
    replace o_ya := ownsRow_kept_below o_ya hB
    replace hA := bthen hA hB
    replace t0 : w8.cell? ⟨w.heap.size, 0, none⟩ = some (.int .i64 (r)) := by rw [hB.cell (p := ⟨w.heap.size, 0, none⟩) (by show w.heap.size < _; omega)]; exact t0
    replace t1 : w8.cell? ⟨w.heap.size, 1, none⟩ = some (.int .i64 (a)) := by rw [hB.cell (p := ⟨w.heap.size, 1, none⟩) (by show w.heap.size < _; omega)]; exact t1
    replace t2 : w8.cell? ⟨w.heap.size, 2, none⟩ = some (.int .i64 (c)) := by rw [hB.cell (p := ⟨w.heap.size, 2, none⟩) (by show w.heap.size < _; omega)]; exact t2
    have hs8 := hB.size
    clear hB
    go_wp2_with fail
    go_ret
    exact ⟨rfl, hA⟩

theorem door_met_FnExactPrintTable (os : Os) (args : Array Value) : laidMetH Tryd.prog Rows.fnExactPrintTableRow.laid ((World.doorLaid Tryd.prog 72 os).forCall (fun _ _ => 0) ⟨#[], args, []⟩).memory :=
  laidMetH_of_parts3 (fuel := 8) (laidMet_of_run' 8 (by kernel_rfl) (by kernel_rfl)) (by kernel_rfl) (by kernel_rfl)
set_option maxRecDepth 100000 in
theorem lifted_FnExactPrintTable (os : Os) (started : os.Started) (H : Type) (enc : TypeId × Value → H) :
    ReturnsInHanded {} Tryd.checked os 3 .any (fun w args => (Rows.fnExactPrintTableSpec.pre enc Tryd.prog Tryd.f3 [] false w args ∧ laidMetH Tryd.prog Rows.fnExactPrintTableRow.laid w) ∧ sizedMet enc Tryd.prog Tryd.f3 (OpenSpec.ofChange Rows.fnExactPrintTableSpec) false w args)
      (Rows.fnExactPrintTableSpec.post enc Tryd.prog Tryd.f3 false true false false) := by
  refine returnsInHanded_of_change_and (C := Tryd.checked) (X := fun w _ => laidMetH Tryd.prog Rows.fnExactPrintTableRow.laid w) (fun _ _ _ hh h => h.of_heap hh) own started (by kernel_rfl) Tryd.func3
    (ChangeSpec.witness_shaped (enc := enc) (C := Tryd.checked) (os := os) (X := fun w _ => laidMetH Tryd.prog Rows.fnExactPrintTableRow.laid w) false (World.doorLaid Tryd.prog 72 os) #[.agg #[.int .i64 0, .int .i64 0, .int .i64 0], .slice none 0 0] 8 rfl (World.shaped_of_RefB (by kernel_rfl) (by kernel_rfl)) (by kernel_rfl) (by kernel_rfl) (by kernel_rfl) (door_met_FnExactPrintTable os _)) ?_
  intro W base args ds gs before hval0 hW _ _ hL _
  have hval : ∀ (j : Nat) t v, Tryd.f3.params[j]? = some t → args[j]? = some v → Value.okWide Tryd.prog W .any base t v := hval0
  have htab : TabW W := TabW.of_laid (by kernel_rfl) hL
  have hW' := hW
  obtain ⟨p, q, hA0, hV, rfl, hfz, hnd⟩ := hW
  have hA : DataW.TrodAll enc Tryd.prog W 0 (fun _ => true) true Tryd.f3.params.toList args.toList ds p := hA0
  rw [Tryd.params3] at hA hval
  obtain ⟨v0, vs0, d0, ds0, p0, q0, hargs, rfl, rfl, h0, r0⟩ := trodAll_cons hA
  obtain ⟨v1, vs1, d1, ds1, p1, q1, rfl, rfl, rfl, h1, r1⟩ := trodAll_cons r0
  obtain ⟨rfl, rfl, rfl⟩ := trodAll_nil r1
  obtain rfl : args = #[v0, v1] := by cases args; simp_all
  obtain ⟨rfl, rfl⟩ := trodVars_none hV
  obtain ⟨x0, y0, z0, rfl⟩ := open_lay (hval 0 23 v0 rfl rfl) h0
  obtain ⟨l1, w1⟩ := open_ints (hval 1 24 v1 rfl rfl) h1
  refine (walk_FnExactPrintTable x0 y0 z0 v1 l1 w1 htab).mono fun e W' ⟨he, hg⟩ => ?_
  subst he
  exact ⟨_, rfl, law_post laidOut hW' rfl (by kernel_rfl) rfl Tryd.underlying4 rfl rfl rfl rfl hg⟩
theorem factA_FnExactPrintTable : factsA Tryd.prog 3 Tryd.f3 Rows.fnExactPrintTableSpec Rows.fnExactPrintTableRow = true := by kernel_rfl
theorem fact9_FnExactPrintTable : (Rows.fnExactPrintTableRow.inPlace == Tryd.prog.inPlace 3) = true := by kernel_rfl
theorem fact10_FnExactPrintTable : (Rows.fnExactPrintTableRow.unfollowed == Tryd.prog.unfollowed 3) = true := by kernel_rfl
theorem fact11_FnExactPrintTable : (Rows.fnExactPrintTableRow.recurses == Tryd.prog.recurses 3) = true := by kernel_rfl
theorem fact12_FnExactPrintTable : (Rows.fnExactPrintTableRow.named == Tryd.prog.varsNamed 3) = true := by kernel_rfl
theorem factB_FnExactPrintTable : factsB Tryd.prog 3 Tryd.f3 Rows.fnExactPrintTableSpec Rows.fnExactPrintTableRow = true := by kernel_rfl
theorem factN_FnExactPrintTable : Tryd.prog.funcNamed Rows.fnExactPrintTableRow.func = some 3 := by kernel_rfl
theorem proved_FnExactPrintTable : Rows.FnExactPrintTableSaid :=
  OpenClaim.holds_of_wide 3 Tryd.f3 rfl rfl rfl rfl rfl rfl rfl ⟨rfl, rfl, rfl, rfl, rfl⟩ rfl rfl rfl rfl rfl factN_FnExactPrintTable Tryd.func3 (closed_of factA_FnExactPrintTable fact9_FnExactPrintTable fact10_FnExactPrintTable fact11_FnExactPrintTable fact12_FnExactPrintTable factB_FnExactPrintTable rfl rfl rfl)
    (of_decide_eq_true (by kernel_rfl)) (by unfold Func.isWrapper; first | (rw [if_pos (by decide +kernel)]; kernel_rfl) | (rw [if_neg (by decide +kernel)]; exact ⟨rfl, rfl⟩))
    (fun os started H enc _ => lifted_FnExactPrintTable os started H enc)
theorem card_FnExactPrintTable : Rows.FnExactPrintTableCardSaid :=
  Claim7.holds_tied_plain_at .later [] [.data, .data, .data] true (true, "e101157e4c9e637363a8fa74284d0f2a3bfd8b41c096af02f62d292a7d2caf41") true
    proved_FnExactPrintTable (fun _ h => by cases h) (by kernel_rfl) (fun _ h => by cases h) fnExactPrintTable_row_tie rfl ⟨rfl, rfl⟩ (by kernel_rfl) rfl
    (fun f fn hf hfn => by
      obtain rfl : f = 3 := Option.some.inj (factN_FnExactPrintTable.symm.trans hf) |>.symm
      obtain rfl : fn = Tryd.f3 := (Option.some.inj (Tryd.func3.symm.trans hfn)).symm
      exact ⟨by kernel_rfl, fun j t ht => by
        rw [Tryd.params3] at ht
        have hm : t ∈ [23, 24] := by simpa using Array.mem_of_getElem? ht
        have hall : ([23, 24].all fun u => !Tryd.prog.wantsStandIn u) = true := by kernel_rfl
        exact (show Tryd.prog.wantsStandIn t = false by simpa using List.all_eq_true.1 hall t hm)⟩)
    (by kernel_rfl)
end Go.Proofs.YtmmbdkllolhfhaaDoor
