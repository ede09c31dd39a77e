/- Lemmas and contracts for WholePlan (Eng9 Eng10 Run1): plain words on memory, contracts of the functions that the law reaches. No condition but what each states. -/
import Derived.Test.YtdfnclnjnmdboaaGreatDoorMWholePlanEng3
import Derived.Test.YtdfnclnjnmdboaaGreatDoorMWholePlanFill
import Derived.Test.YtdfnclnjnmdboaaGreatDoorMWholePlanPlan6
import Derived.Test.YtdfnclnjnmdboaaGreatDoorMWholePlanPlan4
namespace Go.Proofs.YtdfnclnjnmdboaaGreatDoor
set_option linter.unusedVariables false
open Go.RowKit

/-- a number has a column of the width -/
def okC (W : Int) (x : Int) : Bool := inB W 1 12 && fitB x W.toNat
def suB (p : List Int) (W : Int) : Bool := p.all (okC W)
def SuN (w : World) (e : Ending) (w' : World) : Prop := e = .returned (.tuple #[.agg #[.slice none 0 0], .bool false]) ∧ Below w.heap.size w w'
def SuR (p : List Int) (W : Int) (w : World) (e : Ending) (w' : World) : Prop := if suB p W = true then FreshEB w (cols W.toNat p) true e w' else SuN w e w'
theorem SuR_t {p : List Int} {W : Int} {w w' : World} {e : Ending} (h : suB p W = true) (k : FreshEB w (cols W.toNat p) true e w') : SuR p W w e w' := by unfold SuR; rw [if_pos h]; exact k
theorem SuR_f {p : List Int} {W : Int} {w w' : World} {e : Ending} (h : suB p W = false) (k : SuN w e w') : SuR p W w e w' := by unfold SuR; rw [if_neg (by rw [h]; decide)]; exact k
theorem okC_iff {W x : Int} (h : okC W x = true) : inB W 1 12 = true ∧ fitB x W.toNat = true := by unfold okC at h; rwa [Bool.and_eq_true] at h
theorem suB_at {p : List Int} {W : Int} {j : Nat} (hj : j < p.length) (h : okC W (p.getD j 0) = false) : suB p W = false := by
  unfold suB
  rw [List.all_eq_false]
  exact ⟨p[j], List.getElem_mem hj, by simpa [List.getD, hj] using h⟩
theorem suB_all {p : List Int} {W : Int} (h : ∀ i, i < p.length → okC W (p.getD i 0) = true) : suB p W = true := by
  unfold suB
  rw [List.all_eq_true]
  intro x hx
  obtain ⟨i, hi, rfl⟩ := List.mem_iff_getElem.1 hx
  have := h i hi
  simpa [List.getD, hi] using this
theorem shB_zero {p : List Int} (h : polyB p = true) : shB p 0 = true ∧ shfL p 0 = p := by
  have e : shB p 0 = true := by unfold shB; rw [shf_zero, h]; rfl
  exact ⟨e, by unfold shfL; rw [if_pos e, shf_zero]⟩
theorem c_ColumnOfC (W x : Int) (w : World) : Calls Tryz.prog 88 #[(.int .i64 (x)), (.int .i64 (W))] w fun e w' => if okC W x = true then ColR W.toNat x w e w' else ColN w e w' := by
  cases h : inB W 1 12 with
  | false =>
    have e : okC W x = false := by unfold okC; rw [h]; rfl
    rw [e]
    exact c_ColumnOf_w x W w h
  | true =>
    have hb := inB_iff.1 h
    obtain ⟨k, rfl⟩ : ∃ k : Nat, W = k := ⟨W.toNat, by omega⟩
    cases hf : fitB x k with
    | true =>
      have e : okC (k : Int) x = true := by unfold okC; rw [h, Int.toNat_natCast, hf]; rfl
      rw [e, Int.toNat_natCast]
      exact c_ColumnOf_t x k w (by omega) (by omega) hf
    | false =>
      have e : okC (k : Int) x = false := by unfold okC; rw [h, Int.toNat_natCast, hf]; rfl
      rw [e]
      exact c_ColumnOf_f x k w (by omega) (by omega) hf
set_option maxRecDepth 20000 in
set_option maxHeartbeats 1600000 in
theorem c_SetUp (v : Value) (p : List Int) (W : Int) (w : World) (ha : RdI w v p) (hcap : CapOk v) (hp : polyB p = true) :
    Calls Tryz.prog 45 #[v, (.int .i64 (0)), (.int .i64 (W))] w (SuR p W w) := by
  have hp7 := (polyB_iff hp).2.1
  have hp1 := (polyB_iff hp).1
  have hB0 : Below w.heap.size w (w.alloc (.cells #[.slice none 0 0] 73)) := (Below.refl _ _).alloc (Nat.le_refl _) _
  have hsh := c_impl_ShiftPoly v p 0 _ (ha.kept hB0) hcap (by omega) (by omega)
  rw [(shB_zero hp).1, (shB_zero hp).2] at hsh
  have HCO := hidd (fun x W' => c_ColumnOfC W x W')
  clear ha hcap hp
  go_enter Tryz.func45, Tryz.ntmps45
  go_wp2_with fail
  refine hsh.mono ?_
  rintro e w1 ⟨q, rfl, hq, hB1⟩
  have hqr := owns_RdI hq
  obtain ⟨qa, qc, rfl⟩ := RdI_form hqr
  have c0 : w1.cell? ⟨w.heap.size, 0, none⟩ = some (.slice none 0 0) := by rw [(bcell hB1).1 _ _ (by simp)]; simp [go_sem]
  have f0 : w1.frozen? ⟨w.heap.size, 0, none⟩ = false := by rw [(bcell hB1).2 _ _ (by simp)]; simp [go_sem]
  have hA1 := bthen hB0 hB1
  have hz1 : w.heap.size + 1 ≤ w1.heap.size := by have := hB1.size; simp at this; exact this
  clear hsh hB0 hB1 hq
  go_wp2_with (at_make; refine mkfull 47 9 Tryz.underlying47 infoStr rfl (by decide) rfl _ _ rfl p.length rfl rfl rfl rfl (by omega) ?_; intro w2 ho2 hB2 hz2)
  rw [← fillS_zero (cols W.toNat p) p.length] at ho2
  generalize hg1 : w1.heap.size = g at *
  go_loopw [27] (fun i wr => ∃ j : Nat, j ≤ p.length ∧ i = .int .i64 j ∧ wr.ownsRow g 9 1 (.slice (some ⟨g, 0, none⟩) p.length p.length) p.length ((fillS (cols W.toNat p) p.length j).map Value.string) ∧ (∀ i, i < j → okC W (p.getD i 0) = true) ∧ Below g w1 wr) (fun i _ => p.length - (intOf i).toNat)
  case atStart => exact ⟨0, by omega, rfl, ho2, fun i hi => by omega, hB2⟩
  case round =>
    obtain ⟨j, hj, rfl, ho, hok, hB⟩ := hrel
    have HOK := hidd hok
    have hB' : Below w1.heap.size w1 wr := by rw [hg1]; exact hB
    have d0 := ((bcell hB').1 w.heap.size 0 (by omega)).trans c0
    have d1 := ((bcell hB').2 w.heap.size 0 (by omega)).trans f0
    clear ho2 hB2 hz2 hok
    by_cases hlt : j < p.length
    · obtain ⟨b, o, rfl, hb, e0⟩ := RdI_cell hqr hB' hlt
      have HC := HCO.out (p.getD j 0)
      have hlt' : (j : Int) < (p.length : Int) := by omega
      cases hy : okC W (p.getD j 0) with
      | true =>
        have HCC : Hid (∀ W', Calls Tryz.prog 88 #[(.int .i64 (p.getD j 0)), (.int .i64 (W))] W' fun e w' => e = .returned (.tuple #[.string (colS W.toNat (p.getD j 0)), .bool true]) ∧ Below W'.heap.size W' w') := fun W' => (HC W').mono fun e w' h => by rw [hy, if_pos rfl] at h; exact h
        have HS : Hid (∀ u : World, u.ownsRow g 9 1 (.slice (some ⟨g, 0, none⟩) p.length p.length) p.length ((fillS (cols W.toNat p) p.length j).map Value.string) → (u.setCell ⟨g, j, none⟩ (.string (colS W.toNat (p.getD j 0)))).ownsRow g 9 1 (.slice (some ⟨g, 0, none⟩) p.length p.length) p.length ((fillS (cols W.toNat p) p.length (j + 1)).map Value.string)) := fun u h => by
          have := (h.stored j (.string (colS W.toNat (p.getD j 0)))).1
          rw [← cols_getD W.toNat p j hlt, fillS_set _ (by rw [cols_len]; exact hlt) hlt] at this
          rw [← cols_getD W.toNat p j hlt]
          exact this
        have HLF : Hid (j < ((fillS (cols W.toNat p) p.length j).map Value.string).length) := by show _ < _; rw [List.length_map, fillS_len _ (by rw [cols_len]; omega) (by omega)]; exact hlt
        have HOK2 : Hid (∀ i, i < j + 1 → okC W (p.getD i 0) = true) := fun i hi => by
          by_cases h : i < j
          · exact HOK.out i h
          · obtain rfl : i = j := by omega
            exact hy
        obtain ⟨X, hX⟩ : ∃ X, colS W.toNat (p.getD j 0) = X := ⟨_, rfl⟩
        rw [hX] at HCC HS
        clear hX hy HC
        generalize p.getD j 0 = x at e0 HCC
        go_wp2_with fail
        refine (HCC.out wr).mono ?_
        rintro e w3 ⟨rfl, hB3⟩
        have q1 := ownsRow_kept_below ho hB3
        have HN := hidd (HS.out w3 q1)
        obtain ⟨y, e2⟩ : ∃ y, w3.cell? ⟨g, j, none⟩ = some y := ⟨_, by rw [q1.cellAt j (by omega)]; exact List.getElem?_eq_getElem HLF.out⟩
        have e3 := q1.frozenAt j
        have HB : Hid (Below g w1 (w3.setCell ⟨g, j, none⟩ (.string X))) := (hB.trans (hB3.mono (by have := hB'.size; omega))).setCell (p := ⟨g, j, none⟩) (Nat.le_refl _) _
        clear q1 hB3 ho hB hB' d0 d1
        go_wp2
        go_roundw
        case rel => exact ⟨j + 1, by omega, by go_num, HN.out, HOK2.out, HB.out⟩
        case measure => simp [intOf]; omega
      | false =>
        have HCC : Hid (∀ W', Calls Tryz.prog 88 #[(.int .i64 (p.getD j 0)), (.int .i64 (W))] W' (ColN W')) := fun W' => (HC W').mono fun e w' h => by rw [hy] at h; exact h
        have HSF := hidd (suB_at hlt hy)
        have HLF : Hid (j < ((fillS (cols W.toNat p) p.length j).map Value.string).length) := by show _ < _; rw [List.length_map, fillS_len _ (by rw [cols_len]; omega) (by omega)]; exact hlt
        clear hy HC
        generalize p.getD j 0 = x at e0 HCC
        go_wp2_with fail
        refine (HCC.out wr).mono ?_
        rintro e w3 ⟨rfl, hB3⟩
        have q1 := ownsRow_kept_below ho hB3
        obtain ⟨y, e2⟩ : ∃ y, w3.cell? ⟨g, j, none⟩ = some y := ⟨_, by rw [q1.cellAt j (by omega)]; exact List.getElem?_eq_getElem HLF.out⟩
        have e3 := q1.frozenAt j
        have hfg : w.heap.size < g := by omega
        have hfr : w.heap.size < wr.heap.size := by have := hB'.size; omega
        have s0 : (w3.setCell ⟨g, j, none⟩ (.string ⟨#[]⟩)).cell? ⟨w.heap.size, 0, none⟩ = some (.slice none 0 0) := by
          rw [World.cell?_setCell_other _ _ _ _ (by simp only [ne_eq, Addr.mk.injEq]; omega)]; exact ((bcell hB3).1 _ _ hfr).trans d0
        have s1 : (w3.setCell ⟨g, j, none⟩ (.string ⟨#[]⟩)).frozen? ⟨w.heap.size, 0, none⟩ = false := by rw [World.frozen?_setCell]; exact ((bcell hB3).2 _ _ hfr).trans d1
        have HB : Hid (Below w.heap.size w (((w3.setCell ⟨g, j, none⟩ (.string ⟨#[]⟩))).setCell ⟨w.heap.size, 0, none⟩ (.slice none 0 0))) := ((bthen hA1 (bthen hB' hB3)).setCell (p := ⟨g, j, none⟩) (by show w.heap.size ≤ g; omega) _).setCell (p := ⟨w.heap.size, 0, none⟩) (Nat.le_refl _) _
        have s2 : (((w3.setCell ⟨g, j, none⟩ (.string ⟨#[]⟩))).setCell ⟨w.heap.size, 0, none⟩ (.slice none 0 0)).cell? ⟨w.heap.size, 0, none⟩ = some (.slice none 0 0) := World.cell?_setCell_same _ _ _ s0
        clear q1 hB3 ho hB hB' d0 d1 c0 f0
        go_wp2
        refine bodyPost_ret (v := .tuple #[.agg #[.slice none 0 0], .bool false]) (by simp [results, Tryz.results45, go_sem, s2]) rfl (SuR_f HSF.out ⟨rfl, HB.out⟩)
    · obtain rfl : j = p.length := by omega
      have HT := hidd (suB_all HOK.out)
      have ho9 : OwnS wr g (.slice (some ⟨g, 0, none⟩) p.length p.length) (cols W.toNat p) := by
        have e := fillS_end (cols W.toNat p)
        rw [cols_len] at e
        rw [e] at ho
        unfold OwnS
        rw [cols_len]
        exact ho
      have hf9 := grownBy_setCell wr w.heap.size 0 (.slice (some ⟨g, 0, none⟩) p.length p.length)
      have HF : Hid (OwnS (wr.setCell ⟨w.heap.size, 0, none⟩ (.slice (some ⟨g, 0, none⟩) p.length p.length)) w.heap.size (.slice (some ⟨g, 0, none⟩) p.length p.length) (cols W.toNat p) ∧ Below w.heap.size w (wr.setCell ⟨w.heap.size, 0, none⟩ (.slice (some ⟨g, 0, none⟩) p.length p.length))) :=
        ⟨ownsRow_monoS (ownsRow_kept_new ho9 hf9 (fun q hq => by cases hq; omega)) (by omega), (bthen hA1 hB').setCell (p := ⟨w.heap.size, 0, none⟩) (Nat.le_refl _) _⟩
      have s2 : (wr.setCell ⟨w.heap.size, 0, none⟩ (.slice (some ⟨g, 0, none⟩) p.length p.length)).cell? ⟨w.heap.size, 0, none⟩ = some (.slice (some ⟨g, 0, none⟩) p.length p.length) := World.cell?_setCell_same _ _ _ d0
      clear ho ho9 hf9 hB hB' c0 f0
      go_wp2
      refine bodyPost_ret (v := .tuple #[.agg #[.slice (some ⟨g, 0, none⟩) p.length p.length], .bool true]) (by simp [results, Tryz.results45, go_sem, s2]) rfl (SuR_t HT.out ⟨_, rfl, HF.out.1, HF.out.2⟩)
end Go.Proofs.YtdfnclnjnmdboaaGreatDoor

namespace Go.Proofs.YtdfnclnjnmdboaaGreatDoor
set_option linter.unusedVariables false
open Go.RowKit

end Go.Proofs.YtdfnclnjnmdboaaGreatDoor

namespace Go.Proofs.YtdfnclnjnmdboaaGreatDoor
set_option linter.unusedVariables false
open Go.RowKit

/-- the results of the engines of a plan -/
def rnV (W : Int) : List Seg → List Int
  | [] => []
  | s :: l => runE W.toNat s.2 s.1.toNat ++ rnV W l
theorem rnV_append (W : Int) : ∀ a b : List Seg, rnV W (a ++ b) = rnV W a ++ rnV W b
  | [], _ => rfl
  | s :: a, b => by simp [rnV, rnV_append W a b]
theorem rnV_take_succ (W : Int) (pl : List Seg) (k : Nat) (h : k < pl.length) : rnV W (pl.take (k + 1)) = rnV W (pl.take k) ++ runE W.toNat (pl.getD k noG).2 (pl.getD k noG).1.toNat := by
  rw [take_succG pl k h, rnV_append]; simp [rnV]
theorem rnV_len (W : Int) : ∀ pl : List Seg, (rnV W pl).length = (plV pl).length
  | [] => rfl
  | s :: l => by simp [rnV, plV, runE_len, vals_len, rnV_len W l]
theorem rnV_map (W : Int) : ∀ pl : List Seg, rnV W pl = (plV pl).map (sg W.toNat)
  | [] => rfl
  | s :: l => by rw [rnV, plV, List.map_append, rnV_map W l, runE_poly]
def rnB (pl : List Seg) (W : Int) : Bool := planB pl && pl.all fun s => suB s.2 W
def rnL (pl : List Seg) (W : Int) : List Int := if rnB pl W = true then rnV W pl else []
theorem rn_no {pl : List Seg} {W : Int} {k : Nat} (hk : k < pl.length) (h : suB (pl.getD k noG).2 W = false) : rnB pl W = false ∧ rnL pl W = [] := by
  have e : rnB pl W = false := by
    unfold rnB
    rw [Bool.and_eq_false_iff]
    right
    rw [List.all_eq_false]
    exact ⟨pl[k], List.getElem_mem hk, by simpa [List.getD, hk] using h⟩
  exact ⟨e, by unfold rnL; rw [e]; rfl⟩
theorem rn_yes {pl : List Seg} {W : Int} (hv : planB pl = true) (h : ∀ i, i < pl.length → suB (pl.getD i noG).2 W = true) : rnB pl W = true ∧ rnL pl W = rnV W pl := by
  have e : rnB pl W = true := by
    unfold rnB
    rw [hv, Bool.true_and, List.all_eq_true]
    intro x hx
    obtain ⟨i, hi, rfl⟩ := List.mem_iff_getElem.1 hx
    have := h i hi
    simpa [List.getD, hi] using this
  exact ⟨e, by unfold rnL; rw [if_pos e]⟩
theorem rn_inv {pl : List Seg} {W : Int} (hv : planB pl = false) : rnB pl W = false ∧ rnL pl W = [] := by
  have e : rnB pl W = false := by unfold rnB; rw [hv]; rfl
  exact ⟨e, by unfold rnL; rw [e]; rfl⟩
theorem suB_w {p : List Int} {W : Int} (h : suB p W = true) (hp : 1 ≤ p.length) : 1 ≤ W.toNat ∧ W.toNat ≤ 12 := by
  unfold suB at h
  rw [List.all_eq_true] at h
  have h1 := (okC_iff (h p[0] (List.getElem_mem (by omega)))).1
  have := inB_iff.1 h1
  omega

set_option maxRecDepth 20000 in
set_option maxHeartbeats 1600000 in
theorem c_RunPlan (v : Value) (pl : List Seg) (W : Int) (w : World) (ha : RdP w v pl) (hx : pl.length ≤ 1099511627776) (hpx : ∀ s ∈ pl, s.2.length ≤ 1099511627776) :
    Calls Tryz.prog 16 #[v, (.int .i64 (W))] w (FreshIB w (rnL pl W) (rnB pl W)) := by
  have hpv := c_impl_PlanValid v pl w ha hx hpx
  cases hv : planB pl
  · have E := rn_inv (W := W) hv
    rw [E.1, E.2]
    rw [hv] at hpv
    clear hv ha hpx hx E
    go_enter Tryz.func16, Tryz.ntmps16
    go_wp2_with fail
    refine hpv.mono ?_
    rintro e w1 ⟨rfl, hB1⟩
    have HF : Hid (FreshIB w [] false (.returned (.tuple #[.slice none 0 0, .bool false])) w1) := ⟨_, rfl, World.ownsRow_nil _ _ _ _, hB1⟩
    clear hpv hB1
    go_wp2
    go_ret2
    exact HF.out
  · have HV := hidd (valOk_of (planB_iff.1 hv).2.1)
    have HPB := hidd hv
    have hl := planB_len hv
    rw [hv] at hpv
    clear hv hpx hx
    obtain ⟨a, cap, rfl, hcap⟩ := ha.form
    go_enter Tryz.func16, Tryz.ntmps16
    go_wp2_with fail
    refine hpv.mono ?_
    rintro e w1 ⟨rfl, hB1⟩
    clear hpv
    have ho0 : w1.ownsRow w.heap.size 3 1 (.slice none 0 0) 0 [] := World.ownsRow_nil _ _ _ _
    go_wp2
    go_loopw [6, 18] (fun r i wr => ∃ k : Nat, k ≤ pl.length ∧ i = .int .i64 k ∧ OwnI wr w.heap.size r (rnV W (pl.take k)) ∧ (∀ i, i < k → suB (pl.getD i noG).2 W = true) ∧ Below w.heap.size w wr) (fun _ i _ => pl.length - (intOf i).toNat)
    case atStart => exact ⟨0, by omega, rfl, ho0, fun i hi => by omega, hB1⟩
    case round =>
      obtain ⟨k, hk, rfl, ho, hok, hB⟩ := hrel
      have HOK := hidd hok
      clear ho0 hB1 hok
      by_cases hlt : k < pl.length
      · obtain ⟨b, o, pa, pn, pc, rfl, hb, e1, e2, hp, hpc, hpn⟩ := ha.cell hB hlt
        obtain ⟨c1, c2, hpv⟩ := HV.out.get hlt
        have HS := hidd (rnV_take_succ W pl k hlt)
        have hlen := HV.out.take_len k
        rw [← rnV_len W] at hlen
        have HNO : Hid (suB (pl.getD k noG).2 W = false → rnB pl W = false ∧ rnL pl W = []) := fun h => rn_no hlt h
        have HOK2 : Hid (suB (pl.getD k noG).2 W = true → ∀ i, i < k + 1 → suB (pl.getD i noG).2 W = true) := fun h i hi => by
          by_cases h2 : i < k
          · exact HOK.out i h2
          · obtain rfl : i = k := by omega
            exact h
        obtain ⟨s, hs⟩ : ∃ s, pl.getD k noG = s := ⟨_, rfl⟩
        rw [hs] at e1 HS hp c1 c2 hpv HNO HOK2 hpn
        obtain ⟨c, p⟩ := s
        obtain ⟨C, rfl⟩ : ∃ C : Nat, c = C := ⟨c.toNat, by have : 1 ≤ c := c1; omega⟩
        have hC60 : C ≤ 60 := by have : (C : Int) ≤ 60 := c2; omega
        obtain ⟨hp1, hp7⟩ : 1 ≤ p.length ∧ p.length ≤ 7 := ⟨(polyB_iff hpv).1, (polyB_iff hpv).2.1⟩
        obtain ⟨L, hL⟩ : ∃ L, rnV W (pl.take k) = L := ⟨_, rfl⟩
        rw [hL] at ho hlen
        have HS2 : Hid (rnV W (pl.take (k + 1)) = L ++ runE W.toNat p C) := by show _ = _; rw [HS.out, hL]; rfl
        have HVL := hidd (runE_len W.toNat p C)
        have i1 : (0 : Int) ≤ (k : Int) := by omega
        have i2 : (k : Int) < (pl.length : Int) := by omega
        have hBa : Below w.heap.size w (wr.alloc (.cells #[(.int .i64 ((C : Int))), .slice pa pn pc] 44)) := hB.alloc hB.size _
        have HSU := hidd (c_SetUp (.slice pa pn pc) p W _ (hp.kept hBa) (CapOk_of hpc) hpv)
        have hoa := ho.alloc (.cells #[(.int .i64 ((C : Int))), .slice pa pn pc] 44)
        have d0 : (wr.alloc (.cells #[(.int .i64 ((C : Int))), .slice pa pn pc] 44)).cell? ⟨wr.heap.size, 0, none⟩ = some (.int .i64 ((C : Int))) := by simp [go_sem]
        have hz1 : wr.heap.size < (wr.alloc (.cells #[(.int .i64 ((C : Int))), .slice pa pn pc] 44)).heap.size := by simp
        clear hs hL HS hp hpc hpn hpv c1 c2 ha hB ho
        cases hsu : suB p W with
        | true =>
          have hwb := suB_w hsu hp1
          have HOK3 := hidd (HOK2.out hsu)
          go_wp2_with fail
          refine HSU.out.mono ?_
          intro e w2 hsr
          unfold SuR at hsr
          rw [if_pos hsu] at hsr
          obtain ⟨u, rfl, hu, hB2⟩ := hsr
          obtain ⟨ua, uc, rfl⟩ := RdS_form (owns_RdS hu)
          have ho2 := ownsRow_kept_below hoa hB2
          have hBw2 := bthen hBa hB2
          have d1 := ((bcell hB2).1 _ _ hz1).trans d0
          have hz2 := Nat.lt_of_lt_of_le hz1 hB2.size
          have hal : Below w2.heap.size w2 (w2.alloc (.cells #[.slice ua (cols W.toNat p).length uc] 73)) := (Below.refl _ _).alloc (Nat.le_refl _) _
          have d2 := ((bcell hal).1 _ _ hz2).trans d1
          have HRE := hidd (c_RunEngine W.toNat _ p C _ ((owns_RdS hu).kept hal) hwb.1 hwb.2 hp1 hp7 hC60)
          have ho3 := ownsRow_kept_below ho2 hal
          have hBw3 := bthen hBw2 hal
          clear hoa hu hB2 d0 d1 ho2 hBw2 hz1 hal hsu HNO HOK2 HSU
          go_wp2_with fail
          refine HRE.out.mono ?_
          rintro e w4 ⟨r, rfl, hr, hB4⟩
          have ho4 := ownsRow_kept_below ho3 hB4
          have hr4 := RdN_ints (owns_RdI hr)
          have HB := hidd (bthen hBw3 hB4)
          have hBs : w.heap.size ≤ w4.heap.size := HB.out.size
          rw [HVL.out] at hr4
          obtain ⟨V, hV⟩ : ∃ V, runE W.toNat p C = V := ⟨_, rfl⟩
          have hVl : V.length = C := by rw [← hV]; exact HVL.out
          rw [hV] at hr4 HS2
          clear hr hB4 ho3 hBw3 HRE hV
          go_wp2_with (at_builtin; refine appN 32 3 Tryz.underlying32 infoInt rfl (by decide) (by decide) rfl _ _ rfl w.heap.size _ _ _ rfl ho4 _ C _ rfl hr4 (one_ints V) (by omega) hBs ?_)
          intro v' w5 ho5 hg5 _
          have HO : Hid (OwnI w5 w.heap.size v' (rnV W (pl.take (k + 1))) ∧ (∀ i, i < k + 1 → suB (pl.getD i noG).2 W = true) ∧ Below w.heap.size w w5) := ⟨by rw [HS2.out]; exact OwnI_app' rfl hVl.symm ho5, HOK3.out, HB.out.grown hg5 hBs (fun j hj => (ho4.lt j hj).1)⟩
          clear ho5 hg5 ho4 hr4
          go_wp2
          go_roundw
          case rel => exact ⟨k + 1, by omega, by go_num, HO.out⟩
          case measure => simp [intOf]; omega
        | false =>
          obtain ⟨E1, E2⟩ := HNO.out hsu
          go_wp2_with fail
          refine HSU.out.mono ?_
          intro e w2 hsr
          unfold SuR at hsr
          rw [if_neg (by rw [hsu]; decide)] at hsr
          obtain ⟨rfl, hB2⟩ := hsr
          have HF : Hid (FreshIB w (rnL pl W) (rnB pl W) (.returned (.tuple #[.slice none 0 0, .bool false])) (w2.alloc (.cells #[.slice none 0 0] 73))) :=
            ⟨_, by rw [E1], by rw [E2]; exact World.ownsRow_nil _ _ _ _, (bthen hBa hB2).alloc (by have := (bthen hBa hB2).size; omega) _⟩
          clear hoa hB2 d0 E1 E2
          go_wp2
          go_ret2
          exact HF.out
      · have E := rn_yes HPB.out (fun i hi => HOK.out i (by omega))
        have HF : Hid (FreshIB w (rnL pl W) (rnB pl W) (.returned (.tuple #[u6, .bool true])) wr) := by
          rw [List.take_of_length_le (by omega)] at ho
          exact ⟨_, by rw [E.1], by rw [E.2]; exact ho, hB⟩
        clear ho hB ha E
        go_wp2
        go_ret2
        exact HF.out
end Go.Proofs.YtdfnclnjnmdboaaGreatDoor
