/- FnExactReadTable: the program's ReadTable returns what the reference's returns, for all arguments, and what it returns is new memory each time. The tables that the card lists are tied to the program's text by the given tie. No condition. -/
import Derived.Test.YtgjaajfpdajleaaGreatDoorMReadTableXRt4
import Derived.Test.YtgjaajfpdajleaaGreatDoorMReadTableXNum0
import Derived.Test.YtgjaajfpdajleaaGreatDoorMReadTableXMstr
import Derived.Test.YtgjaajfpdajleaaGreatDoorTie
import Derived.Test.YtgjaajfpdajleaaGreatDoorCards
import Derived.LaidMore
import Derived.Lay
import Derived.LaidSub
import Derived.MakeChecks
import Derived.Stop.Joined
import Derived.SevenTiedAt
namespace Go.Proofs.YtgjaajfpdajleaaGreatDoor
set_option linter.unusedVariables false
open Go.ChangeShapes Go.WideShapes Go.ChangeAt Go.RowKit

theorem rdtV_len (r a c : Int) (l : List UInt8) : (rdtV r a c l).length ≤ 60 := by
  unfold rdtV
  by_cases h : rdtB r a c l = true
  · rw [if_pos h]
    exact (tabB_iff (ptV_parts (rt_iff.1 h).1).2).2.1
  · rw [if_neg h]; simp

set_option maxHeartbeats 2000000 in
set_option maxRecDepth 100000 in
theorem walk_FnExactReadTable (r a c : Int) (s : ByteArray) {w : World} (hw : s.size ≤ 9223372036854775807) (htab : TabW w) (herr : ErrW w) (hmax : MaxW w) :
    Calls Tryz.prog 3 #[(.agg #[.int .i64 r, .int .i64 a, .int .i64 c]), .string s] w fun e w' => e = .returned (.bool true) ∧ Below w.heap.size w w' := by
  by_cases hl : s.size ≤ 1048576
  · obtain ⟨l, hS⟩ : ∃ l, IsS s l := ⟨_, rfl⟩
    have g1 : ¬ (1048576 : Int) < (s.size : Int) := by omega
    have hLl := rdtV_len r a c l
    generalize hL : rdtV r a c l = L at hLl
    have HL : Hid (rdtV r a c l = L) := hL
    clear hL
    go_enter Tryz.func3, Tryz.ntmps3
    go_wp2_with fail
    refine (c_toLayout _ _ _ _).mono ?_
    rintro e w1 ⟨rfl, hB⟩
    have hA : Below w.heap.size w w1 := (by first | exact hB | exact balloc hB)
    have t0 : w1.cell? ⟨w.heap.size, 0, none⟩ = some (.int .i64 (r)) := by rw [hB.cell (p := ⟨w.heap.size, 0, none⟩) (by simp)]; simp [go_sem]
    have t1 : w1.cell? ⟨w.heap.size, 1, none⟩ = some (.int .i64 (a)) := by rw [hB.cell (p := ⟨w.heap.size, 1, none⟩) (by simp)]; simp [go_sem]
    have t2 : w1.cell? ⟨w.heap.size, 2, none⟩ = some (.int .i64 (c)) := by rw [hB.cell (p := ⟨w.heap.size, 2, none⟩) (by simp)]; simp [go_sem]
    have hs1 := hB.size
    (try simp at hs1)
    clear hB
    go_wp2_with fail
    refine (c_spec_ReadTable _ _ _ s l hS _ (by omega)).mono ?_
    rintro e w2 ⟨ws, rfl, o_ws, hB⟩
    replace hA := bthen hA hB
    replace t0 : w2.cell? ⟨w.heap.size, 0, none⟩ = some (.int .i64 (r)) := by rw [hB.cell (p := ⟨w.heap.size, 0, none⟩) (by show w.heap.size < _; omega)]; exact t0
    replace t1 : w2.cell? ⟨w.heap.size, 1, none⟩ = some (.int .i64 (a)) := by rw [hB.cell (p := ⟨w.heap.size, 1, none⟩) (by show w.heap.size < _; omega)]; exact t1
    replace t2 : w2.cell? ⟨w.heap.size, 2, none⟩ = some (.int .i64 (c)) := by rw [hB.cell (p := ⟨w.heap.size, 2, none⟩) (by show w.heap.size < _; omega)]; exact t2
    have hs2 := hB.size
    clear hB
    rw [HL.out] at o_ws
    have lt_ws := fun k hk => (o_ws.lt k hk).2
    go_wp2_with fail
    refine (c_toLayout _ _ _ _).mono ?_
    rintro e w3 ⟨rfl, hB⟩
    replace o_ws := ownsRow_kept_below o_ws hB
    replace hA := bthen hA hB
    replace t0 : w3.cell? ⟨w.heap.size, 0, none⟩ = some (.int .i64 (r)) := by rw [hB.cell (p := ⟨w.heap.size, 0, none⟩) (by show w.heap.size < _; omega)]; exact t0
    replace t1 : w3.cell? ⟨w.heap.size, 1, none⟩ = some (.int .i64 (a)) := by rw [hB.cell (p := ⟨w.heap.size, 1, none⟩) (by show w.heap.size < _; omega)]; exact t1
    replace t2 : w3.cell? ⟨w.heap.size, 2, none⟩ = some (.int .i64 (c)) := by rw [hB.cell (p := ⟨w.heap.size, 2, none⟩) (by show w.heap.size < _; omega)]; exact t2
    have hs3 := hB.size
    clear hB
    go_wp2_with fail
    refine (c_impl_ReadTable _ _ _ s l hS _ (htab.below hA) (herr.below hA) (hmax.below hA) hl).mono ?_
    rintro e w4 ⟨gs, rfl, o_gs, hB⟩
    replace o_ws := ownsRow_kept_below o_ws hB
    replace hA := bthen hA hB
    replace t0 : w4.cell? ⟨w.heap.size, 0, none⟩ = some (.int .i64 (r)) := by rw [hB.cell (p := ⟨w.heap.size, 0, none⟩) (by show w.heap.size < _; omega)]; exact t0
    replace t1 : w4.cell? ⟨w.heap.size, 1, none⟩ = some (.int .i64 (a)) := by rw [hB.cell (p := ⟨w.heap.size, 1, none⟩) (by show w.heap.size < _; omega)]; exact t1
    replace t2 : w4.cell? ⟨w.heap.size, 2, none⟩ = some (.int .i64 (c)) := by rw [hB.cell (p := ⟨w.heap.size, 2, none⟩) (by show w.heap.size < _; omega)]; exact t2
    have hs4 := hB.size
    clear hB
    rw [HL.out] at o_gs
    have lt_gs := fun k hk => (o_gs.lt k hk).2
    go_wp2_with fail
    refine (k_eq_ints _ _ _ _ L _ o_gs o_ws (by omega)).mono ?_
    rintro e w5 ⟨rfl, hB⟩
    replace o_ws := ownsRow_kept_below o_ws hB
    replace o_gs := ownsRow_kept_below o_gs hB
    replace hA := bthen hA hB
    replace t0 : w5.cell? ⟨w.heap.size, 0, none⟩ = some (.int .i64 (r)) := by rw [hB.cell (p := ⟨w.heap.size, 0, none⟩) (by show w.heap.size < _; omega)]; exact t0
    replace t1 : w5.cell? ⟨w.heap.size, 1, none⟩ = some (.int .i64 (a)) := by rw [hB.cell (p := ⟨w.heap.size, 1, none⟩) (by show w.heap.size < _; omega)]; exact t1
    replace t2 : w5.cell? ⟨w.heap.size, 2, none⟩ = some (.int .i64 (c)) := by rw [hB.cell (p := ⟨w.heap.size, 2, none⟩) (by show w.heap.size < _; omega)]; exact t2
    have hs5 := hB.size
    clear hB
    go_wp2_with fail
    refine (k_mark_ints _ _ L _ _ o_gs (by omega) (by omega) (by omega) (by omega)).mono ?_
    rintro e w6 ⟨rfl, o_gs, hB, hG⟩
    replace o_ws := ownsRow_kept_old o_ws hB (fun k hk => by have := lt_ws k hk; omega)
    replace hA := hA.trans (hB.mono (by omega))
    replace t0 : w6.cell? ⟨w.heap.size, 0, none⟩ = some (.int .i64 (r)) := by rw [hB.cell (p := ⟨w.heap.size, 0, none⟩) (by show w.heap.size < _; omega)]; exact t0
    replace t1 : w6.cell? ⟨w.heap.size, 1, none⟩ = some (.int .i64 (a)) := by rw [hB.cell (p := ⟨w.heap.size, 1, none⟩) (by show w.heap.size < _; omega)]; exact t1
    replace t2 : w6.cell? ⟨w.heap.size, 2, none⟩ = some (.int .i64 (c)) := by rw [hB.cell (p := ⟨w.heap.size, 2, none⟩) (by show w.heap.size < _; omega)]; exact t2
    have hs6 := hB.size
    clear hB hG
    go_wp2_with fail
    refine (k_held_ints _ _ _ L.length _ o_gs (by omega) (by omega) (by omega)).mono ?_
    rintro e w7 ⟨rfl, hB⟩
    replace o_ws := ownsRow_kept_below o_ws hB
    replace o_gs := ownsRow_kept_below o_gs hB
    replace hA := bthen hA hB
    replace t0 : w7.cell? ⟨w.heap.size, 0, none⟩ = some (.int .i64 (r)) := by rw [hB.cell (p := ⟨w.heap.size, 0, none⟩) (by show w.heap.size < _; omega)]; exact t0
    replace t1 : w7.cell? ⟨w.heap.size, 1, none⟩ = some (.int .i64 (a)) := by rw [hB.cell (p := ⟨w.heap.size, 1, none⟩) (by show w.heap.size < _; omega)]; exact t1
    replace t2 : w7.cell? ⟨w.heap.size, 2, none⟩ = some (.int .i64 (c)) := by rw [hB.cell (p := ⟨w.heap.size, 2, none⟩) (by show w.heap.size < _; omega)]; exact t2
    have hs7 := hB.size
    clear hB
    go_wp2_with fail
    refine (c_toLayout _ _ _ _).mono ?_
    rintro e w8 ⟨rfl, hB⟩
    replace o_ws := ownsRow_kept_below o_ws hB
    replace o_gs := ownsRow_kept_below o_gs hB
    replace hA := bthen hA hB
    replace t0 : w8.cell? ⟨w.heap.size, 0, none⟩ = some (.int .i64 (r)) := by rw [hB.cell (p := ⟨w.heap.size, 0, none⟩) (by show w.heap.size < _; omega)]; exact t0
    replace t1 : w8.cell? ⟨w.heap.size, 1, none⟩ = some (.int .i64 (a)) := by rw [hB.cell (p := ⟨w.heap.size, 1, none⟩) (by show w.heap.size < _; omega)]; exact t1
    replace t2 : w8.cell? ⟨w.heap.size, 2, none⟩ = some (.int .i64 (c)) := by rw [hB.cell (p := ⟨w.heap.size, 2, none⟩) (by show w.heap.size < _; omega)]; exact t2
    have hs8 := hB.size
    clear hB
    go_wp2_with fail
    refine (c_impl_ReadTable _ _ _ s l hS _ (htab.below hA) (herr.below hA) (hmax.below hA) hl).mono ?_
    rintro e w9 ⟨hs, rfl, o_hs, hB⟩
    replace o_ws := ownsRow_kept_below o_ws hB
    replace o_gs := ownsRow_kept_below o_gs hB
    replace hA := bthen hA hB
    replace t0 : w9.cell? ⟨w.heap.size, 0, none⟩ = some (.int .i64 (r)) := by rw [hB.cell (p := ⟨w.heap.size, 0, none⟩) (by show w.heap.size < _; omega)]; exact t0
    replace t1 : w9.cell? ⟨w.heap.size, 1, none⟩ = some (.int .i64 (a)) := by rw [hB.cell (p := ⟨w.heap.size, 1, none⟩) (by show w.heap.size < _; omega)]; exact t1
    replace t2 : w9.cell? ⟨w.heap.size, 2, none⟩ = some (.int .i64 (c)) := by rw [hB.cell (p := ⟨w.heap.size, 2, none⟩) (by show w.heap.size < _; omega)]; exact t2
    have hs9 := hB.size
    clear hB
    rw [HL.out] at o_hs
    have lt_hs := fun k hk => (o_hs.lt k hk).2
    go_wp2_with fail
    refine (k_eq_ints _ _ _ _ L _ o_hs o_ws (by omega)).mono ?_
    rintro e w10 ⟨rfl, hB⟩
    replace o_ws := ownsRow_kept_below o_ws hB
    replace o_gs := ownsRow_kept_below o_gs hB
    replace o_hs := ownsRow_kept_below o_hs hB
    replace hA := bthen hA hB
    replace t0 : w10.cell? ⟨w.heap.size, 0, none⟩ = some (.int .i64 (r)) := by rw [hB.cell (p := ⟨w.heap.size, 0, none⟩) (by show w.heap.size < _; omega)]; exact t0
    replace t1 : w10.cell? ⟨w.heap.size, 1, none⟩ = some (.int .i64 (a)) := by rw [hB.cell (p := ⟨w.heap.size, 1, none⟩) (by show w.heap.size < _; omega)]; exact t1
    replace t2 : w10.cell? ⟨w.heap.size, 2, none⟩ = some (.int .i64 (c)) := by rw [hB.cell (p := ⟨w.heap.size, 2, none⟩) (by show w.heap.size < _; omega)]; exact t2
    have hs10 := hB.size
    clear hB
    go_wp2_with fail
    refine (k_held_ints _ _ _ L.length _ o_gs (by omega) (by omega) (by omega)).mono ?_
    rintro e w11 ⟨rfl, hB⟩
    replace o_ws := ownsRow_kept_below o_ws hB
    replace o_gs := ownsRow_kept_below o_gs hB
    replace o_hs := ownsRow_kept_below o_hs hB
    replace hA := bthen hA hB
    replace t0 : w11.cell? ⟨w.heap.size, 0, none⟩ = some (.int .i64 (r)) := by rw [hB.cell (p := ⟨w.heap.size, 0, none⟩) (by show w.heap.size < _; omega)]; exact t0
    replace t1 : w11.cell? ⟨w.heap.size, 1, none⟩ = some (.int .i64 (a)) := by rw [hB.cell (p := ⟨w.heap.size, 1, none⟩) (by show w.heap.size < _; omega)]; exact t1
    replace t2 : w11.cell? ⟨w.heap.size, 2, none⟩ = some (.int .i64 (c)) := by rw [hB.cell (p := ⟨w.heap.size, 2, none⟩) (by show w.heap.size < _; omega)]; exact t2
    have hs11 := hB.size
    clear hB
    go_wp2_with fail
    go_ret
    exact ⟨rfl, hA⟩
  · have g1 : (1048576 : Int) < (s.size : Int) := by omega
    go_enter Tryz.func3, Tryz.ntmps3
    go_wp2
    go_ret
    exact ⟨rfl, (Below.refl _ _).alloc (Nat.le_refl _) _⟩

set_option maxRecDepth 100000 in
theorem lifted_FnExactReadTable (os : Os) (started : os.Started) (H : Type) (enc : TypeId × Value → H) :
    ReturnsInHanded {} Tryz.checked os 3 .any (fun w args => (Rows.fnExactReadTableSpec.pre enc Tryz.prog Tryz.f3 [] false w args ∧ laidMetH Tryz.prog Rows.fnExactReadTableRow.laid w) ∧ sizedMet enc Tryz.prog Tryz.f3 (OpenSpec.ofChange Rows.fnExactReadTableSpec) false w args)
      (Rows.fnExactReadTableSpec.post enc Tryz.prog Tryz.f3 false true false false) := by
  refine handed_shaped (C := Tryz.checked) (X := fun w _ => laidMetH Tryz.prog Rows.fnExactReadTableRow.laid w) (fun _ _ _ hh h => h.of_heap hh) own started (by kernel_rfl) Tryz.func3
    (ChangeSpec.witness_shaped (enc := enc) (C := Tryz.checked) (os := os) (X := fun w _ => laidMetH Tryz.prog Rows.fnExactReadTableRow.laid w) false (World.laidAll Tryz.prog os Rows.fnExactReadTableRow.laid) #[.agg #[.int .i64 0, .int .i64 0, .int .i64 0], .string ByteArray.empty] 8 (World.laidAll_os _ _ _)
      (World.shaped_of_ZipB (by kernel_rfl) (by kernel_rfl)) (by kernel_rfl) (by kernel_rfl) (by kernel_rfl) (by rw [MakeChecks.laidMetH_plain _ _ _ (by kernel_rfl)]; exact laidMet_laidAll _ (by kernel_rfl) (by kernel_rfl))) ?_
  intro W base args ds gs before hval0 hW hL hsh
  have hval : ∀ (j : Nat) t v, Tryz.f3.params[j]? = some t → args[j]? = some v → Value.okWide Tryz.prog W .any base t v := hval0
  have htab : TabW W := TabW.of_laid (by kernel_rfl) hL
  have herr : ErrW W := ErrW.of_laid (by kernel_rfl) hL
  have hmax : MaxW W := MaxW.of_shaped hsh
  have hW' := hW
  obtain ⟨p, q, hA0, hV, rfl, hfz, hnd⟩ := hW
  have hA : DataW.TrodAll enc Tryz.prog W 0 (fun _ => true) true Tryz.f3.params.toList args.toList ds p := hA0
  rw [Tryz.params3] at hA hval
  obtain ⟨v0, vs0, d0, ds0, p0, q0, hargs, rfl, rfl, h0, r0⟩ := trodAll_cons hA
  obtain ⟨v1, vs1, d1, ds1, p1, q1, rfl, rfl, rfl, h1, r1⟩ := trodAll_cons r0
  obtain ⟨rfl, rfl, rfl⟩ := trodAll_nil r1
  obtain rfl : args = #[v0, v1] := by cases args; simp_all
  obtain ⟨rfl, rfl⟩ := trodVars_none hV
  obtain ⟨x0, y0, z0, rfl⟩ := open_lay (hval 0 23 v0 rfl rfl) h0
  obtain ⟨s1, rfl, rfl, rfl, w1⟩ := Go.ChangeMaps.open_string Tryz.underlying9 (hval 1 9 v1 rfl rfl) h1
  refine (walk_FnExactReadTable x0 y0 z0 s1 w1 htab herr hmax).mono fun e W' ⟨he, hg⟩ => ?_
  subst he
  exact ⟨_, rfl, law_post laidOut hW' rfl (by kernel_rfl) rfl Tryz.underlying4 rfl rfl rfl rfl hg⟩
theorem factA_FnExactReadTable : factsA Tryz.prog 3 Tryz.f3 Rows.fnExactReadTableSpec Rows.fnExactReadTableRow = true := by kernel_rfl
theorem fact9_FnExactReadTable : (Rows.fnExactReadTableRow.inPlace == Tryz.prog.inPlace 3) = true := by kernel_rfl
theorem fact10_FnExactReadTable : (Rows.fnExactReadTableRow.unfollowed == Tryz.prog.unfollowed 3) = true := by kernel_rfl
theorem fact11_FnExactReadTable : (Rows.fnExactReadTableRow.recurses == Tryz.prog.recurses 3) = true := by kernel_rfl
theorem fact12_FnExactReadTable : (Rows.fnExactReadTableRow.named == Tryz.prog.varsNamed 3) = true := by kernel_rfl
theorem factB_FnExactReadTable : factsB Tryz.prog 3 Tryz.f3 Rows.fnExactReadTableSpec Rows.fnExactReadTableRow = true := by kernel_rfl
theorem factN_FnExactReadTable : Tryz.prog.funcNamed Rows.fnExactReadTableRow.func = some 3 := by kernel_rfl
theorem proved_FnExactReadTable : Rows.FnExactReadTableSaid :=
  OpenClaim.holds_of_wide 3 Tryz.f3 rfl rfl rfl rfl rfl rfl rfl ⟨rfl, rfl, rfl, rfl, rfl⟩ rfl rfl rfl rfl rfl factN_FnExactReadTable Tryz.func3 (closed_of factA_FnExactReadTable fact9_FnExactReadTable fact10_FnExactReadTable fact11_FnExactReadTable fact12_FnExactReadTable factB_FnExactReadTable rfl rfl rfl)
    (of_decide_eq_true (by kernel_rfl)) (by unfold Func.isWrapper; first | (rw [if_pos (by decide +kernel)]; kernel_rfl) | (rw [if_neg (by decide +kernel)]; exact ⟨rfl, rfl⟩))
    (fun os started H enc _ => lifted_FnExactReadTable os started H enc)
theorem card_FnExactReadTable : Rows.FnExactReadTableCardSaid :=
  Claim7.holds_tied_plain_at .later [] [.data, .data, .data, .data, .sentinel, .sentinel, .pinned] true (true, "730894ce3fdd1c60b1cd13fd3d8d0eaff75b6a36daf9ceb74fd76b5c933006d2") true
    proved_FnExactReadTable (fun _ h => by cases h) (by kernel_rfl) (fun _ h => by cases h) fnExactReadTable_row_tie rfl ⟨rfl, rfl⟩ (by kernel_rfl) rfl
    (fun f fn hf hfn => by
      obtain rfl : f = 3 := Option.some.inj (factN_FnExactReadTable.symm.trans hf) |>.symm
      obtain rfl : fn = Tryz.f3 := (Option.some.inj (Tryz.func3.symm.trans hfn)).symm
      exact ⟨by kernel_rfl, fun j t ht => by
        rw [Tryz.params3] at ht
        have hm : t ∈ [23, 9] := by simpa using Array.mem_of_getElem? ht
        have hall : ([23, 9].all fun u => !Tryz.prog.wantsStandIn u) = true := by kernel_rfl
        exact (show Tryz.prog.wantsStandIn t = false by simpa using List.all_eq_true.1 hall t hm)⟩)
    (by kernel_rfl)
end Go.Proofs.YtgjaajfpdajleaaGreatDoor
