/- FnExactQuarterTable: the program's QuarterTable returns what the reference's returns, for all arguments; the result is new memory each time. No condition. -/
import Derived.Test.YtjgmagfmdfgkiaaMark
import Derived.Test.YtjgmagfmdfgkiaaLawQuarterSquare
namespace Go.Proofs.Ytjgmagfmdfgkiaa
set_option linter.unusedVariables false
open Go.ChangeShapes Go.WideShapes Go.ChangeAt Go.RowKit

def qtl (k : Nat) : List Int := (List.range k).map fun (i : Nat) => (i : Int) * i / 4
theorem qtl_len (k : Nat) : (qtl k).length = k := by simp [qtl]
theorem qtl_succ (k : Nat) : (qtl (k + 1)) = qtl k ++ [(k : Int) * k / 4] := by simp [qtl, List.range_succ]
def qt (n : Int) : List Int := if 0 ≤ n ∧ n ≤ 60 then qtl n.toNat else []

theorem c_spec_QuarterTable (n : Int) (w : World) : Calls Try.prog 20 #[(.int .i64 (n))] w (FreshI w (qt n)) := by
  by_cases h : 0 ≤ n ∧ n ≤ 60
  · obtain ⟨m, rfl⟩ : ∃ m : Nat, n = m := ⟨n.toNat, by omega⟩
    have E : Hid (qt m = qtl m) := by show _ = _; simp [qt]; omega
    obtain ⟨h0, h1⟩ := h
    obtain ⟨i0, hi, hz0, hz1, hz2⟩ := info_parts infoInt
    go_enter Try.func20, Try.ntmps20
    go_wp2
    go_loopw [3, 4] (fun v i wr => ∃ k : Nat, k ≤ m ∧ i = .int .i64 k ∧ wr.ownsRow w.heap.size 3 1 v k ((qtl k).map (Value.int .i64)) ∧ Below w.heap.size w wr) (fun _ i _ => m - (intOf i).toNat)
    case atStart =>
      refine ⟨0, by omega, rfl, ?_, (Below.refl _ _).alloc (Nat.le_refl _) _⟩
      exact World.ownsRow_made w #[] 0 (Nat.le_refl _) (by decide) rfl
    case round =>
      obtain ⟨k, hk, rfl, ho, hB⟩ := hrel
      by_cases hlt : k < m
      · have hBs := hB.size
        obtain ⟨q1, q2⟩ := qs_bd (n := k) (by omega) (by omega)
        go_wp2_with (at_builtin; refine app1 36 3 Try.underlying36 infoInt rfl (by decide) rfl _ _ rfl w.heap.size _ _ _ rfl ho rfl rfl ?c1 ?c2 ?_)
        case c1 => omega
        case c2 => exact hBs
        intro v' w1 ho1 hg1
        have HO : Hid (w1.ownsRow w.heap.size 3 1 v' (k + 1) ((qtl (k + 1)).map (Value.int .i64)) ∧ Below w.heap.size w w1) :=
          ⟨by rw [qtl_succ, List.map_append]; exact ho1, hB.grown hg1 hBs (fun j hj => (ho.lt j hj).1)⟩
        clear ho1 hg1 ho hB
        go_wp2
        go_roundw
        case rel => exact ⟨k + 1, by omega, by go_num, HO.out.1, HO.out.2⟩
        case measure => simp [intOf]; omega
      · have HO : Hid (wr.ownsRow w.heap.size 3 1 u3 (qt m).length ((qt m).map (Value.int .i64)) ∧ Below w.heap.size w wr) := by
          have : k = m := by omega
          subst this
          rw [E.out, qtl_len]
          exact ⟨ho, hB⟩
        clear ho hB
        go_wp2
        go_ret
        exact ⟨_, rfl, HO.out.1, HO.out.2⟩
  · have E : Hid (qt n = []) := if_neg h
    have hd : n < 0 ∨ (0 < n ∧ 60 < n) := by omega
    clear h
    rcases hd with hn | ⟨hn, hm⟩
    · go_enter Try.func20, Try.ntmps20
      go_wp2
      refine wp_loop_rounds 1 ?_
      rw [rounds_succ]
      go_wp2
      go_ret
      exact ⟨_, rfl, by rw [E.out]; exact World.ownsRow_made w #[] 0 (Nat.le_refl _) (by decide) rfl, (Below.refl _ _).alloc (Nat.le_refl _) _⟩
    · go_enter Try.func20, Try.ntmps20
      go_wp2
      refine wp_loop_rounds 1 ?_
      rw [rounds_succ]
      go_wp2
      go_ret
      exact ⟨_, rfl, by rw [E.out]; exact World.ownsRow_made w #[] 0 (Nat.le_refl _) (by decide) rfl, (Below.refl _ _).alloc (Nat.le_refl _) _⟩

theorem c_impl_QuarterTable (n : Int) (w : World) : Calls Try.prog 21 #[(.int .i64 (n))] w (FreshI w (qt n)) := by
  by_cases h : 0 ≤ n ∧ n ≤ 60
  · obtain ⟨m, rfl⟩ : ∃ m : Nat, n = m := ⟨n.toNat, by omega⟩
    have E : Hid (qt m = qtl m) := by show _ = _; simp [qt]; omega
    have hi : inB m 0 60 = true := inB_t h.1 h.2
    obtain ⟨h0, h1⟩ := h
    go_enter Try.func21, Try.ntmps21
    go_wp2_with (first | (go_at_call 27; refine (c_countValid _ _).mono ?_; rintro e w' ⟨rfl, rfl⟩) | (at_make; refine mkfull 36 3 Try.underlying36 infoInt rfl (by decide) rfl _ _ rfl m rfl rfl rfl rfl (by omega) ?_; intro w1 ho1 hB1 hz1))
    go_loopw [12] (fun i wr => ∃ k : Nat, k ≤ m ∧ i = .int .i64 k ∧ wr.ownsRow w.heap.size 3 1 (.slice (some ⟨w.heap.size, 0, none⟩) m m) m (fill (fun i => (.int .i64 ((i : Int) * i / 4))) (.int .i64 (0)) k m) ∧ Below w.heap.size w wr) (fun i _ => m - (intOf i).toNat)
    case atStart => exact ⟨0, by omega, rfl, by rw [fill_zero]; exact ho1, hB1⟩
    case round =>
      obtain ⟨k, hk, rfl, ho, hB⟩ := hrel
      by_cases hlt : k < m
      · obtain ⟨⟨x, e1⟩, e2, ho2⟩ := fill_step ho hlt
        have eq : qs k = (k : Int) * k / 4 := if_neg (by omega)
        have HO : Hid (_ ∧ _) := ⟨ho2, hB.setCell (p := ⟨w.heap.size, k, none⟩) (Nat.le_refl _) (.int .i64 ((k : Int) * k / 4))⟩
        clear ho ho2 hB ho1 hB1
        go_wp2_with (go_at_call 10; refine (c_impl_QuarterSquare _ _).mono ?_; rintro e w' ⟨rfl, rfl⟩)
        go_roundw
        case rel => exact ⟨k + 1, by omega, by go_num, HO.out.1, HO.out.2⟩
        case measure => simp [intOf]; omega
      · have HO : Hid (wr.ownsRow w.heap.size 3 1 (.slice (some ⟨w.heap.size, 0, none⟩) m m) (qt m).length ((qt m).map (Value.int .i64)) ∧ Below w.heap.size w wr) := by
          have : k = m := by omega
          subst this
          rw [E.out, qtl_len]
          rw [fill_end] at ho
          exact ⟨by simpa [qtl, Function.comp_def] using ho, hB⟩
        clear ho hB ho1 hB1
        go_wp2
        go_ret
        exact ⟨_, rfl, HO.out.1, HO.out.2⟩
  · have E : Hid (qt n = []) := if_neg h
    have hi : inB n 0 60 = false := inB_f h
    clear h
    go_enter Try.func21, Try.ntmps21
    go_wp2_with (first | (go_at_call 27; refine (c_countValid _ _).mono ?_; rintro e w' ⟨rfl, rfl⟩))
    go_ret
    exact ⟨_, rfl, by rw [E.out]; exact World.ownsRow_nil _ _ _ _, Below.refl _ _⟩

theorem qt_len (n : Int) : (qt n).length ≤ 60 := by
  unfold qt; split
  · rw [qtl_len]; omega
  · simp

theorem walk_FnExactQuarterTable (n : Int) (_ : (Lit.int .i64 n).wf = true) (w : World) :
    Calls Try.prog 8 #[(.int .i64 (n))] w fun e w' => e = .returned (.bool true) ∧ Below w.heap.size w w' := by
  have hl := qt_len n
  generalize hq : qt n = L at hl
  have Hq : Hid (qt n = L) := hq
  clear hq
  go_enter Try.func8, Try.ntmps8
  go_wp2_with fail
  refine (c_spec_QuarterTable _ _).mono ?_
  rintro e w1 ⟨v0, rfl, ho0, hB1⟩
  rw [Hq.out] at ho0
  go_wp2_with fail
  refine (c_impl_QuarterTable _ _).mono ?_
  rintro e w2 ⟨v1, rfl, ho1, hB2⟩
  rw [Hq.out] at ho1
  go_wp2_with fail
  refine (c_eqIntS_t _ _ L _ (owns_RdI ho1) ((owns_RdI ho0).kept hB2) (by omega)).mono ?_
  rintro e w3 ⟨rfl, hB3⟩
  have ho1 := ownsRow_kept_below ho1 hB3
  have hA3 := bthen hB2 hB3
  go_wp2_with fail
  refine (c_markIntS_b _ _ _ L _ _ ho1 (by omega) (by omega) (by omega) hA3.size).mono ?_
  rintro e w4 ⟨rfl, ho4, hB4⟩
  have hA4 := hA3.trans hB4
  go_wp2_with fail
  refine (c_heldIntS _ _ L.length _ (marks_RdI ho4) (by omega) (by omega) (by omega)).mono ?_
  rintro e w5 ⟨rfl, hB5⟩
  have ho5 := ownsRow_kept_below ho4 hB5
  have hA5 := bthen hA4 hB5
  go_wp2_with fail
  refine (c_impl_QuarterTable _ _).mono ?_
  rintro e w6 ⟨v2, rfl, ho6, hB6⟩
  rw [Hq.out] at ho6
  have ho5 := ownsRow_kept_below ho5 hB6
  have hA6 := bthen hA5 hB6
  go_wp2_with fail
  refine (c_eqIntS_t _ _ L _ (owns_RdI ho6) ((owns_RdI ho0).kept hA6) (by omega)).mono ?_
  rintro e w7 ⟨rfl, hB7⟩
  have ho5 := ownsRow_kept_below ho5 hB7
  have hA7 := bthen hA6 hB7
  go_wp2_with fail
  refine (c_heldIntS _ _ L.length _ (marks_RdI ho5) (by omega) (by omega) (by omega)).mono ?_
  rintro e w8 ⟨rfl, hB8⟩
  have hA8 := bthen hA7 hB8
  have hZ := bthen hB1 hA8
  go_wp2_with fail
  go_ret
  exact ⟨rfl, hZ⟩

set_option maxRecDepth 100000 in
theorem lifted_FnExactQuarterTable (os : Os) (started : os.Started) (H : Type) (enc : TypeId × Value → H) :
    ReturnsInHanded {} Try.checked os 8 .any (Rows.fnExactQuarterTableSpec.pre6 enc Try.prog Try.f8 Rows.fnExactQuarterTableRow.domain false) (Rows.fnExactQuarterTableSpec.post enc Try.prog Try.f8 false true false false) := by
  refine returnsInHanded_of_change (C := Try.checked) own started (by kernel_rfl) Try.func8
    (ChangeSpec.witness6 (enc := enc) (C := Try.checked) false ⟨#[], #[.int .i64 0], []⟩ 8 (by kernel_rfl) (by kernel_rfl) (by kernel_rfl) (by kernel_rfl)) ?_
  intro W base args ds gs before hval0 hW hcnd _
  have hval : ∀ (j : Nat) t v, Try.f8.params[j]? = some t → args[j]? = some v → Value.okWide Try.prog W .any base t v := hval0
  have hW' := hW
  obtain ⟨p, q, hA0, hV, rfl, hfz, hnd⟩ := hW
  have hA : DataW.TrodAll enc Try.prog W 0 (fun _ => true) true Try.f8.params.toList args.toList ds p := hA0
  rw [Try.params8] at hA hval
  obtain ⟨v0, vs0, d0, ds0, p0, q0, hargs, rfl, rfl, h0, r0⟩ := trodAll_cons hA
  obtain ⟨rfl, rfl, rfl⟩ := trodAll_nil r0
  obtain rfl : args = #[v0] := by cases args; simp_all
  obtain ⟨rfl, rfl⟩ := trodVars_none hV
  obtain ⟨a0, rfl, rfl, rfl, w0⟩ := open_int Try.underlying3 (hval 0 3 v0 rfl rfl) h0
  refine (walk_FnExactQuarterTable a0 w0 W).mono fun e W' ⟨he, hg⟩ => ?_
  subst he
  exact ⟨_, rfl, law_post laidOut hW' rfl (by kernel_rfl) rfl Try.underlying4 rfl rfl rfl rfl hg⟩
theorem proved_FnExactQuarterTable : Rows.FnExactQuarterTableSaid :=
  OpenClaim.holds_of_wide 8 Try.f8 rfl rfl rfl rfl rfl rfl rfl ⟨rfl, rfl, rfl, rfl, rfl⟩ rfl rfl rfl rfl rfl (by kernel_rfl) Try.func8 (by kernel_rfl)
    (of_decide_eq_true (by kernel_rfl)) (by unfold Func.isWrapper; first | (rw [if_pos (by decide +kernel)]; kernel_rfl) | (rw [if_neg (by decide +kernel)]; exact ⟨rfl, rfl⟩))
    (fun os started H enc _ => lifted_FnExactQuarterTable os started H enc)
end Go.Proofs.Ytjgmagfmdfgkiaa
