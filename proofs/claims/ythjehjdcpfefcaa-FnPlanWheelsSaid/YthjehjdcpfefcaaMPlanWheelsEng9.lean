/- Lemmas and contracts for PlanWheels (Eng9 Eng10 Run1 Run2): plain words on memory, contracts of the functions that the law reaches. No condition but what each states. -/
import Derived.Test.YthjehjdcpfefcaaMPlanWheelsEng3
import Derived.Test.YthjehjdcpfefcaaFill
import Derived.Test.YthjehjdcpfefcaaPlan6
import Derived.Test.YthjehjdcpfefcaaPlan4
namespace Go.Proofs.Ythjehjdcpfefcaa
set_option linter.unusedVariables false
open Go.RowKit

/-- a number has a column of the width -/
def okC (W : Int) (x : Int) : Bool := inB W 1 12 && fitB x W.toNat
def suB (p : List Int) (W : Int) : Bool := p.all (okC W)
def SuN (w : World) (e : Ending) (w' : World) : Prop := e = .returned (.tuple #[.agg #[.slice none 0 0], .bool false]) ∧ Below w.heap.size w w'
def SuR (p : List Int) (W : Int) (w : World) (e : Ending) (w' : World) : Prop := if suB p W = true then FreshEB w (cols W.toNat p) true e w' else SuN w e w'
theorem SuR_t {p : List Int} {W : Int} {w w' : World} {e : Ending} (h : suB p W = true) (k : FreshEB w (cols W.toNat p) true e w') : SuR p W w e w' := by unfold SuR; rw [if_pos h]; exact k
theorem SuR_f {p : List Int} {W : Int} {w w' : World} {e : Ending} (h : suB p W = false) (k : SuN w e w') : SuR p W w e w' := by unfold SuR; rw [if_neg (by rw [h]; decide)]; exact k
theorem okC_iff {W x : Int} (h : okC W x = true) : inB W 1 12 = true ∧ fitB x W.toNat = true := by unfold okC at h; rwa [Bool.and_eq_true] at h
theorem suB_at {p : List Int} {W : Int} {j : Nat} (hj : j < p.length) (h : okC W (p.getD j 0) = false) : suB p W = false := by
  unfold suB
  rw [List.all_eq_false]
  exact ⟨p[j], List.getElem_mem hj, by simpa [List.getD, hj] using h⟩
theorem suB_all {p : List Int} {W : Int} (h : ∀ i, i < p.length → okC W (p.getD i 0) = true) : suB p W = true := by
  unfold suB
  rw [List.all_eq_true]
  intro x hx
  obtain ⟨i, hi, rfl⟩ := List.mem_iff_getElem.1 hx
  have := h i hi
  simpa [List.getD, hi] using this
theorem shB_zero {p : List Int} (h : polyB p = true) : shB p 0 = true ∧ shfL p 0 = p := by
  have e : shB p 0 = true := by unfold shB; rw [shf_zero, h]; rfl
  exact ⟨e, by unfold shfL; rw [if_pos e, shf_zero]⟩
theorem c_ColumnOfC (W x : Int) (w : World) : Calls Try.prog 41 #[(.int .i64 (x)), (.int .i64 (W))] w fun e w' => if okC W x = true then ColR W.toNat x w e w' else ColN w e w' := by
  cases h : inB W 1 12 with
  | false =>
    have e : okC W x = false := by unfold okC; rw [h]; rfl
    rw [e]
    exact c_ColumnOf_w x W w h
  | true =>
    have hb := inB_iff.1 h
    obtain ⟨k, rfl⟩ : ∃ k : Nat, W = k := ⟨W.toNat, by omega⟩
    cases hf : fitB x k with
    | true =>
      have e : okC (k : Int) x = true := by unfold okC; rw [h, Int.toNat_natCast, hf]; rfl
      rw [e, Int.toNat_natCast]
      exact c_ColumnOf_t x k w (by omega) (by omega) hf
    | false =>
      have e : okC (k : Int) x = false := by unfold okC; rw [h, Int.toNat_natCast, hf]; rfl
      rw [e]
      exact c_ColumnOf_f x k w (by omega) (by omega) hf
theorem c_sColumnOfC (W x : Int) (w : World) (h : inB W 1 12 = true) : Calls Try.prog 51 #[(.int .i64 (x)), (.int .i64 (W))] w fun e w' => if okC W x = true then ColR W.toNat x w e w' else ColN w e w' := by
  have hb := inB_iff.1 h
  obtain ⟨k, rfl⟩ : ∃ k : Nat, W = k := ⟨W.toNat, by omega⟩
  cases hf : fitB x k with
  | true =>
    have e : okC (k : Int) x = true := by unfold okC; rw [h, Int.toNat_natCast, hf]; rfl
    rw [e, Int.toNat_natCast]
    exact c_sColumnOf_t x k w (by omega) (by omega) hf
  | false =>
    have e : okC (k : Int) x = false := by unfold okC; rw [h, Int.toNat_natCast, hf]; rfl
    rw [e]
    exact c_sColumnOf_f x k w (by omega) (by omega) hf
set_option maxRecDepth 20000 in
set_option maxHeartbeats 1600000 in
theorem c_SetUp (v : Value) (p : List Int) (W : Int) (w : World) (ha : RdI w v p) (hcap : CapOk v) (hp : polyB p = true) :
    Calls Try.prog 29 #[v, (.int .i64 (0)), (.int .i64 (W))] w (SuR p W w) := by
  have hp7 := (polyB_iff hp).2.1
  have hp1 := (polyB_iff hp).1
  have hB0 : Below w.heap.size w (w.alloc (.cells #[.slice none 0 0] 50)) := (Below.refl _ _).alloc (Nat.le_refl _) _
  have hsh := c_impl_ShiftPoly v p 0 _ (ha.kept hB0) hcap (by omega) (by omega)
  rw [(shB_zero hp).1, (shB_zero hp).2] at hsh
  have HCO := hidd (fun x W' => c_ColumnOfC W x W')
  clear ha hcap hp
  go_enter Try.func29, Try.ntmps29
  go_wp2_with fail
  refine hsh.mono ?_
  rintro e w1 ⟨q, rfl, hq, hB1⟩
  have hqr := owns_RdI hq
  obtain ⟨qa, qc, rfl⟩ := RdI_form hqr
  have c0 : w1.cell? ⟨w.heap.size, 0, none⟩ = some (.slice none 0 0) := by rw [(bcell hB1).1 _ _ (by simp)]; simp [go_sem]
  have f0 : w1.frozen? ⟨w.heap.size, 0, none⟩ = false := by rw [(bcell hB1).2 _ _ (by simp)]; simp [go_sem]
  have hA1 := bthen hB0 hB1
  have hz1 : w.heap.size + 1 ≤ w1.heap.size := by have := hB1.size; simp at this; exact this
  clear hsh hB0 hB1 hq
  go_wp2_with (at_make; refine mkfull 48 9 Try.underlying48 infoStr rfl (by decide) rfl _ _ rfl p.length rfl rfl rfl rfl (by omega) ?_; intro w2 ho2 hB2 hz2)
  rw [← fillS_zero (cols W.toNat p) p.length] at ho2
  generalize hg1 : w1.heap.size = g at *
  go_loopw [27] (fun i wr => ∃ j : Nat, j ≤ p.length ∧ i = .int .i64 j ∧ wr.ownsRow g 9 1 (.slice (some ⟨g, 0, none⟩) p.length p.length) p.length ((fillS (cols W.toNat p) p.length j).map Value.string) ∧ (∀ i, i < j → okC W (p.getD i 0) = true) ∧ Below g w1 wr) (fun i _ => p.length - (intOf i).toNat)
  case atStart => exact ⟨0, by omega, rfl, ho2, fun i hi => by omega, hB2⟩
  case round =>
    obtain ⟨j, hj, rfl, ho, hok, hB⟩ := hrel
    have HOK := hidd hok
    have hB' : Below w1.heap.size w1 wr := by rw [hg1]; exact hB
    have d0 := ((bcell hB').1 w.heap.size 0 (by omega)).trans c0
    have d1 := ((bcell hB').2 w.heap.size 0 (by omega)).trans f0
    clear ho2 hB2 hz2 hok
    by_cases hlt : j < p.length
    · obtain ⟨b, o, rfl, hb, e0⟩ := RdI_cell hqr hB' hlt
      have HC := HCO.out (p.getD j 0)
      have hlt' : (j : Int) < (p.length : Int) := by omega
      cases hy : okC W (p.getD j 0) with
      | true =>
        have HCC : Hid (∀ W', Calls Try.prog 41 #[(.int .i64 (p.getD j 0)), (.int .i64 (W))] W' fun e w' => e = .returned (.tuple #[.string (colS W.toNat (p.getD j 0)), .bool true]) ∧ Below W'.heap.size W' w') := fun W' => (HC W').mono fun e w' h => by rw [hy, if_pos rfl] at h; exact h
        have HS : Hid (∀ u : World, u.ownsRow g 9 1 (.slice (some ⟨g, 0, none⟩) p.length p.length) p.length ((fillS (cols W.toNat p) p.length j).map Value.string) → (u.setCell ⟨g, j, none⟩ (.string (colS W.toNat (p.getD j 0)))).ownsRow g 9 1 (.slice (some ⟨g, 0, none⟩) p.length p.length) p.length ((fillS (cols W.toNat p) p.length (j + 1)).map Value.string)) := fun u h => by
          have := (h.stored j (.string (colS W.toNat (p.getD j 0)))).1
          rw [← cols_getD W.toNat p j hlt, fillS_set _ (by rw [cols_len]; exact hlt) hlt] at this
          rw [← cols_getD W.toNat p j hlt]
          exact this
        have HLF : Hid (j < ((fillS (cols W.toNat p) p.length j).map Value.string).length) := by show _ < _; rw [List.length_map, fillS_len _ (by rw [cols_len]; omega) (by omega)]; exact hlt
        have HOK2 : Hid (∀ i, i < j + 1 → okC W (p.getD i 0) = true) := fun i hi => by
          by_cases h : i < j
          · exact HOK.out i h
          · obtain rfl : i = j := by omega
            exact hy
        obtain ⟨X, hX⟩ : ∃ X, colS W.toNat (p.getD j 0) = X := ⟨_, rfl⟩
        rw [hX] at HCC HS
        clear hX hy HC
        generalize p.getD j 0 = x at e0 HCC
        go_wp2_with fail
        refine (HCC.out wr).mono ?_
        rintro e w3 ⟨rfl, hB3⟩
        have q1 := ownsRow_kept_below ho hB3
        have HN := hidd (HS.out w3 q1)
        obtain ⟨y, e2⟩ : ∃ y, w3.cell? ⟨g, j, none⟩ = some y := ⟨_, by rw [q1.cellAt j (by omega)]; exact List.getElem?_eq_getElem HLF.out⟩
        have e3 := q1.frozenAt j
        have HB : Hid (Below g w1 (w3.setCell ⟨g, j, none⟩ (.string X))) := (hB.trans (hB3.mono (by have := hB'.size; omega))).setCell (p := ⟨g, j, none⟩) (Nat.le_refl _) _
        clear q1 hB3 ho hB hB' d0 d1
        go_wp2
        go_roundw
        case rel => exact ⟨j + 1, by omega, by go_num, HN.out, HOK2.out, HB.out⟩
        case measure => simp [intOf]; omega
      | false =>
        have HCC : Hid (∀ W', Calls Try.prog 41 #[(.int .i64 (p.getD j 0)), (.int .i64 (W))] W' (ColN W')) := fun W' => (HC W').mono fun e w' h => by rw [hy] at h; exact h
        have HSF := hidd (suB_at hlt hy)
        have HLF : Hid (j < ((fillS (cols W.toNat p) p.length j).map Value.string).length) := by show _ < _; rw [List.length_map, fillS_len _ (by rw [cols_len]; omega) (by omega)]; exact hlt
        clear hy HC
        generalize p.getD j 0 = x at e0 HCC
        go_wp2_with fail
        refine (HCC.out wr).mono ?_
        rintro e w3 ⟨rfl, hB3⟩
        have q1 := ownsRow_kept_below ho hB3
        obtain ⟨y, e2⟩ : ∃ y, w3.cell? ⟨g, j, none⟩ = some y := ⟨_, by rw [q1.cellAt j (by omega)]; exact List.getElem?_eq_getElem HLF.out⟩
        have e3 := q1.frozenAt j
        have hfg : w.heap.size < g := by omega
        have hfr : w.heap.size < wr.heap.size := by have := hB'.size; omega
        have s0 : (w3.setCell ⟨g, j, none⟩ (.string ⟨#[]⟩)).cell? ⟨w.heap.size, 0, none⟩ = some (.slice none 0 0) := by
          rw [World.cell?_setCell_other _ _ _ _ (by simp only [ne_eq, Addr.mk.injEq]; omega)]; exact ((bcell hB3).1 _ _ hfr).trans d0
        have s1 : (w3.setCell ⟨g, j, none⟩ (.string ⟨#[]⟩)).frozen? ⟨w.heap.size, 0, none⟩ = false := by rw [World.frozen?_setCell]; exact ((bcell hB3).2 _ _ hfr).trans d1
        have HB : Hid (Below w.heap.size w (((w3.setCell ⟨g, j, none⟩ (.string ⟨#[]⟩))).setCell ⟨w.heap.size, 0, none⟩ (.slice none 0 0))) := ((bthen hA1 (bthen hB' hB3)).setCell (p := ⟨g, j, none⟩) (by show w.heap.size ≤ g; omega) _).setCell (p := ⟨w.heap.size, 0, none⟩) (Nat.le_refl _) _
        have s2 : (((w3.setCell ⟨g, j, none⟩ (.string ⟨#[]⟩))).setCell ⟨w.heap.size, 0, none⟩ (.slice none 0 0)).cell? ⟨w.heap.size, 0, none⟩ = some (.slice none 0 0) := World.cell?_setCell_same _ _ _ s0
        clear q1 hB3 ho hB hB' d0 d1 c0 f0
        go_wp2
        refine bodyPost_ret (v := .tuple #[.agg #[.slice none 0 0], .bool false]) (by simp [results, Try.results29, go_sem, s2]) rfl (SuR_f HSF.out ⟨rfl, HB.out⟩)
    · obtain rfl : j = p.length := by omega
      have HT := hidd (suB_all HOK.out)
      have ho9 : OwnS wr g (.slice (some ⟨g, 0, none⟩) p.length p.length) (cols W.toNat p) := by
        have e := fillS_end (cols W.toNat p)
        rw [cols_len] at e
        rw [e] at ho
        unfold OwnS
        rw [cols_len]
        exact ho
      have hf9 := grownBy_setCell wr w.heap.size 0 (.slice (some ⟨g, 0, none⟩) p.length p.length)
      have HF : Hid (OwnS (wr.setCell ⟨w.heap.size, 0, none⟩ (.slice (some ⟨g, 0, none⟩) p.length p.length)) w.heap.size (.slice (some ⟨g, 0, none⟩) p.length p.length) (cols W.toNat p) ∧ Below w.heap.size w (wr.setCell ⟨w.heap.size, 0, none⟩ (.slice (some ⟨g, 0, none⟩) p.length p.length))) :=
        ⟨ownsRow_monoS (ownsRow_kept_new ho9 hf9 (fun q hq => by cases hq; omega)) (by omega), (bthen hA1 hB').setCell (p := ⟨w.heap.size, 0, none⟩) (Nat.le_refl _) _⟩
      have s2 : (wr.setCell ⟨w.heap.size, 0, none⟩ (.slice (some ⟨g, 0, none⟩) p.length p.length)).cell? ⟨w.heap.size, 0, none⟩ = some (.slice (some ⟨g, 0, none⟩) p.length p.length) := World.cell?_setCell_same _ _ _ d0
      clear ho ho9 hf9 hB hB' c0 f0
      go_wp2
      refine bodyPost_ret (v := .tuple #[.agg #[.slice (some ⟨g, 0, none⟩) p.length p.length], .bool true]) (by simp [results, Try.results29, go_sem, s2]) rfl (SuR_t HT.out ⟨_, rfl, HF.out.1, HF.out.2⟩)
end Go.Proofs.Ythjehjdcpfefcaa

namespace Go.Proofs.Ythjehjdcpfefcaa
set_option linter.unusedVariables false
open Go.RowKit

set_option maxRecDepth 20000 in
set_option maxHeartbeats 1600000 in
theorem c_sSetUp (v : Value) (p : List Int) (W : Int) (w : World) (ha : RdI w v p) (hcap : CapOk v) (hp : polyB p = true) :
    Calls Try.prog 22 #[v, (.int .i64 (0)), (.int .i64 (W))] w (SuR p W w) := by
  have hp7 := (polyB_iff hp).2.1
  have hp1 := (polyB_iff hp).1
  have hB0 : Below w.heap.size w (w.alloc (.cells #[.slice none 0 0] 50)) := (Below.refl _ _).alloc (Nat.le_refl _) _
  have hsh := c_spec_ShiftPoly v p 0 _ (ha.kept hB0) (by omega) (by omega)
  rw [(shB_zero hp).1, (shB_zero hp).2] at hsh
  have HSH := hidd hsh
  clear ha hcap hp hsh
  cases hw : inB W 1 12 with
  | false =>
    have HSF : Hid (suB p W = false) := suB_at (j := 0) (by omega) (by unfold okC; rw [hw]; rfl)
    go_enter Try.func22, Try.ntmps22
    go_wp2_with fail
    refine HSH.out.mono ?_
    rintro e w1 ⟨q, rfl, hq, hB1⟩
    have c0 : w1.cell? ⟨w.heap.size, 0, none⟩ = some (.slice none 0 0) := by rw [(bcell hB1).1 _ _ (by simp)]; simp [go_sem]
    have f0 : w1.frozen? ⟨w.heap.size, 0, none⟩ = false := by rw [(bcell hB1).2 _ _ (by simp)]; simp [go_sem]
    have HB : Hid (Below w.heap.size w (w1.setCell ⟨w.heap.size, 0, none⟩ (.slice none 0 0))) := (bthen hB0 hB1).setCell (p := ⟨w.heap.size, 0, none⟩) (Nat.le_refl _) _
    have s2 : (w1.setCell ⟨w.heap.size, 0, none⟩ (.slice none 0 0)).cell? ⟨w.heap.size, 0, none⟩ = some (.slice none 0 0) := World.cell?_setCell_same _ _ _ c0
    clear hq hB1 hB0
    go_wp2_with (go_at_call 21; refine (c_l1Width _ _).mono ?_; rw [hw]; rintro e w' ⟨rfl, rfl⟩)
    refine bodyPost_ret (v := .tuple #[.agg #[.slice none 0 0], .bool false]) (by simp [results, Try.results22, go_sem, s2]) rfl (SuR_f HSF.out ⟨rfl, HB.out⟩)
  | true =>
    have HCO := hidd (fun x W' => c_sColumnOfC W x W' hw)
    go_enter Try.func22, Try.ntmps22
    go_wp2_with fail
    refine HSH.out.mono ?_
    rintro e w1 ⟨q, rfl, hq, hB1⟩
    have hqr := owns_RdI hq
    obtain ⟨qa, qc, rfl⟩ := RdI_form hqr
    have c0 : w1.cell? ⟨w.heap.size, 0, none⟩ = some (.slice none 0 0) := by rw [(bcell hB1).1 _ _ (by simp)]; simp [go_sem]
    have f0 : w1.frozen? ⟨w.heap.size, 0, none⟩ = false := by rw [(bcell hB1).2 _ _ (by simp)]; simp [go_sem]
    have hA1 := bthen hB0 hB1
    have hz1 : w.heap.size + 1 ≤ w1.heap.size := by have := hB1.size; simp at this; exact this
    have hB2 : Below w1.heap.size w1 (w1.alloc (.cells #[.slice none 0 0] 50)) := (Below.refl _ _).alloc (Nat.le_refl _) _
    have ho2 : OwnS (w1.alloc (.cells #[.slice none 0 0] 50)) (w1.heap.size + 1) (.slice none 0 0) (cols W.toNat (p.take 0)) := OwnS_nil _ _
    have d0 : (w1.alloc (.cells #[.slice none 0 0] 50)).cell? ⟨w1.heap.size, 0, none⟩ = some (.slice none 0 0) := by simp [go_sem]
    have d1 : (w1.alloc (.cells #[.slice none 0 0] 50)).frozen? ⟨w1.heap.size, 0, none⟩ = false := by simp [go_sem]
    have hz2 : w1.heap.size < (w1.alloc (.cells #[.slice none 0 0] 50)).heap.size := by simp
    clear hB0 hB1 hq
    go_wp2_with (go_at_call 21; refine (c_l1Width _ _).mono ?_; rw [hw]; rintro e w' ⟨rfl, rfl⟩)
    generalize hW2 : w1.alloc (.cells #[.slice none 0 0] 50) = w2 at *
    generalize hg1 : w1.heap.size = g at *
    go_loopw [11] (fun i wr => ∃ (j : Nat) (ua : Option Addr) (uc : Nat), j ≤ p.length ∧ i = .int .i64 j ∧ OwnS wr (g + 1) (.slice ua j uc) (cols W.toNat (p.take j)) ∧ wr.cell? ⟨g, 0, none⟩ = some (.slice ua j uc) ∧ wr.frozen? ⟨g, 0, none⟩ = false ∧ (∀ i, i < j → okC W (p.getD i 0) = true) ∧ Below g w1 wr ∧ g < wr.heap.size) (fun i _ => p.length - (intOf i).toNat)
    case atStart => exact ⟨0, _, _, by omega, rfl, ho2, d0, d1, fun i hi => by omega, hB2, hz2⟩
    case round =>
      obtain ⟨j, ua, uc, hj, rfl, ho, k0, k1, hok, hB, hz⟩ := hrel
      have HOK := hidd hok
      have hB' : Below w1.heap.size w1 wr := by rw [hg1]; exact hB
      have hgw : w.heap.size < g := by omega
      have e0' := ((bcell hB').1 w.heap.size 0 (by omega)).trans c0
      have e1' := ((bcell hB').2 w.heap.size 0 (by omega)).trans f0
      clear ho2 hB2 hz2 hok d0 d1 hW2
      by_cases hlt : j < p.length
      · obtain ⟨b, o, rfl, hb, e0⟩ := RdI_cell hqr hB' hlt
        have HC := HCO.out (p.getD j 0)
        have hlt' : (j : Int) < (p.length : Int) := by omega
        cases hy : okC W (p.getD j 0) with
        | true =>
          have HCC : Hid (∀ W', Calls Try.prog 51 #[(.int .i64 (p.getD j 0)), (.int .i64 (W))] W' fun e w' => e = .returned (.tuple #[.string (colS W.toNat (p.getD j 0)), .bool true]) ∧ Below W'.heap.size W' w') := fun W' => (HC W').mono fun e w' h => by rw [hy, if_pos rfl] at h; exact h
          have HTK : Hid (cols W.toNat (p.take (j + 1)) = cols W.toNat (p.take j) ++ [colS W.toNat (p.getD j 0)]) := by
            show _ = _
            unfold cols
            rw [List.take_add_one, List.map_append]
            congr 1
            simp [List.getD, hlt]
          have HOK2 : Hid (∀ i, i < j + 1 → okC W (p.getD i 0) = true) := fun i hi => by
            by_cases h : i < j
            · exact HOK.out i h
            · obtain rfl : i = j := by omega
              exact hy
          have hcl : (cols W.toNat (p.take j)).length = j := by rw [cols_len, List.length_take]; omega
          obtain ⟨X, hX⟩ : ∃ X, colS W.toNat (p.getD j 0) = X := ⟨_, rfl⟩
          rw [hX] at HCC HTK
          clear hX hy HC
          generalize p.getD j 0 = x at e0 HCC
          go_wp2_with fail
          refine (HCC.out wr).mono ?_
          rintro e w3 ⟨rfl, hB3⟩
          have q1 : w3.ownsRow (g + 1) 9 1 (.slice ua j uc) j ((cols W.toNat (p.take j)).map Value.string) := by
            have := ownsRow_kept_below ho hB3
            unfold OwnS at this
            rwa [hcl] at this
          have k2 := ((bcell hB3).1 _ _ hz).trans k0
          have k3 := ((bcell hB3).2 _ _ hz).trans k1
          have hz3 : g < w3.heap.size := Nat.lt_of_lt_of_le hz hB3.size
          have hBw3 : Below g w1 w3 := hB.trans (hB3.mono (by omega))
          clear hB3 ho hB hB' k0 k1 hz c0 f0 e0' e1'
          go_wp2_with (at_builtin; refine app1 48 9 Try.underlying48 infoStr rfl (by decide) rfl _ _ rfl (g + 1) _ _ _ rfl q1 rfl rfl ?c1 ?c2 ?_)
          case c1 => omega
          case c2 => omega
          intro v' w5 ho5 hg5
          have ho6 : OwnS w5 (g + 1) v' (cols W.toNat (p.take (j + 1))) := by rw [HTK.out]; exact OwnS_snoc hcl.symm ho5
          obtain ⟨va, vc, hv'⟩ := RdS_form (owns_RdS ho6)
          have hcl2 : (cols W.toNat (p.take (j + 1))).length = j + 1 := by rw [cols_len, List.length_take]; omega
          rw [hcl2] at hv'
          have hbk := hg5.block g (by omega) (fun e => by have := (q1.lt _ e.symm).1; omega)
          have k4 : w5.cell? ⟨g, 0, none⟩ = some (.slice ua j uc) := (World.cell?_of_block (a := ⟨g, 0, none⟩) hbk).trans k2
          have k5 : w5.frozen? ⟨g, 0, none⟩ = false := (World.frozen?_of_block (a := ⟨g, 0, none⟩) hbk).trans k3
          have hBw5 := hBw3.grown hg5 (by omega) (fun q hq => by have := (q1.lt q hq).1; omega)
          have hz5 : g < w5.heap.size := Nat.lt_of_lt_of_le hz3 hg5.size
          subst hv'
          have HN : Hid (OwnS (w5.setCell ⟨g, 0, none⟩ (.slice va (j + 1) vc)) (g + 1) (.slice va (j + 1) vc) (cols W.toNat (p.take (j + 1))) ∧ (w5.setCell ⟨g, 0, none⟩ (.slice va (j + 1) vc)).cell? ⟨g, 0, none⟩ = some (.slice va (j + 1) vc) ∧ (w5.setCell ⟨g, 0, none⟩ (.slice va (j + 1) vc)).frozen? ⟨g, 0, none⟩ = false ∧ (∀ i, i < j + 1 → okC W (p.getD i 0) = true) ∧ Below g w1 (w5.setCell ⟨g, 0, none⟩ (.slice va (j + 1) vc)) ∧ g < (w5.setCell ⟨g, 0, none⟩ (.slice va (j + 1) vc)).heap.size) :=
            ⟨ownsRow_kept_new ho6 (grownBy_setCell w5 g 0 _) (fun q hq => by cases hq; omega), World.cell?_setCell_same _ _ _ k4, by rw [World.frozen?_setCell]; exact k5, HOK2.out, hBw5.setCell (p := ⟨g, 0, none⟩) (Nat.le_refl _) _, by simpa [World.setCell] using hz5⟩
          clear q1 ho5 ho6 hg5 hbk k2 k3 hBw3 hBw5 hz3 hz5
          go_wp2
          go_roundw
          case rel => exact ⟨j + 1, _, _, by omega, by go_num, HN.out⟩
          case measure => simp [intOf]; omega
        | false =>
          have HCC : Hid (∀ W', Calls Try.prog 51 #[(.int .i64 (p.getD j 0)), (.int .i64 (W))] W' (ColN W')) := fun W' => (HC W').mono fun e w' h => by rw [hy] at h; exact h
          have HSF := hidd (suB_at hlt hy)
          clear hy HC
          generalize p.getD j 0 = x at e0 HCC
          go_wp2_with fail
          refine (HCC.out wr).mono ?_
          rintro e w3 ⟨rfl, hB3⟩
          have hfr : w.heap.size < wr.heap.size := by have := hB'.size; omega
          have s0 := ((bcell hB3).1 _ _ hfr).trans e0'
          have s1 := ((bcell hB3).2 _ _ hfr).trans e1'
          have HB : Hid (Below w.heap.size w (w3.setCell ⟨w.heap.size, 0, none⟩ (.slice none 0 0))) := (bthen hA1 (bthen hB' hB3)).setCell (p := ⟨w.heap.size, 0, none⟩) (Nat.le_refl _) _
          have s2 : (w3.setCell ⟨w.heap.size, 0, none⟩ (.slice none 0 0)).cell? ⟨w.heap.size, 0, none⟩ = some (.slice none 0 0) := World.cell?_setCell_same _ _ _ s0
          clear hB3 ho hB hB' e0' e1' c0 f0
          go_wp2
          refine bodyPost_ret (v := .tuple #[.agg #[.slice none 0 0], .bool false]) (by simp [results, Try.results22, go_sem, s2]) rfl (SuR_f HSF.out ⟨rfl, HB.out⟩)
      · obtain rfl : j = p.length := by omega
        have HT := hidd (suB_all HOK.out)
        rw [List.take_length] at ho
        have hf9 := grownBy_setCell wr w.heap.size 0 (.slice ua p.length uc)
        have HF : Hid (OwnS (wr.setCell ⟨w.heap.size, 0, none⟩ (.slice ua p.length uc)) w.heap.size (.slice ua p.length uc) (cols W.toNat p) ∧ Below w.heap.size w (wr.setCell ⟨w.heap.size, 0, none⟩ (.slice ua p.length uc))) :=
          ⟨ownsRow_monoS (ownsRow_kept_new ho hf9 (fun q hq => by cases hq; omega)) (by omega), (bthen hA1 hB').setCell (p := ⟨w.heap.size, 0, none⟩) (Nat.le_refl _) _⟩
        have s2 : (wr.setCell ⟨w.heap.size, 0, none⟩ (.slice ua p.length uc)).cell? ⟨w.heap.size, 0, none⟩ = some (.slice ua p.length uc) := World.cell?_setCell_same _ _ _ e0'
        clear ho hf9 hB hB' c0 f0
        go_wp2
        refine bodyPost_ret (v := .tuple #[.agg #[.slice ua p.length uc], .bool true]) (by simp [results, Try.results22, go_sem, s2]) rfl (SuR_t HT.out ⟨_, rfl, HF.out.1, HF.out.2⟩)
end Go.Proofs.Ythjehjdcpfefcaa

namespace Go.Proofs.Ythjehjdcpfefcaa
set_option linter.unusedVariables false
open Go.RowKit

/-- the results of the engines of a plan -/
def rnV (W : Int) : List Seg → List Int
  | [] => []
  | s :: l => runE W.toNat s.2 s.1.toNat ++ rnV W l
theorem rnV_append (W : Int) : ∀ a b : List Seg, rnV W (a ++ b) = rnV W a ++ rnV W b
  | [], _ => rfl
  | s :: a, b => by simp [rnV, rnV_append W a b]
theorem rnV_take_succ (W : Int) (pl : List Seg) (k : Nat) (h : k < pl.length) : rnV W (pl.take (k + 1)) = rnV W (pl.take k) ++ runE W.toNat (pl.getD k noG).2 (pl.getD k noG).1.toNat := by
  rw [take_succG pl k h, rnV_append]; simp [rnV]
theorem rnV_len (W : Int) : ∀ pl : List Seg, (rnV W pl).length = (plV pl).length
  | [] => rfl
  | s :: l => by simp [rnV, plV, runE_len, vals_len, rnV_len W l]
theorem rnV_map (W : Int) : ∀ pl : List Seg, rnV W pl = (plV pl).map (sg W.toNat)
  | [] => rfl
  | s :: l => by rw [rnV, plV, List.map_append, rnV_map W l, runE_poly]
def rnB (pl : List Seg) (W : Int) : Bool := planB pl && pl.all fun s => suB s.2 W
def rnL (pl : List Seg) (W : Int) : List Int := if rnB pl W = true then rnV W pl else []
theorem rn_no {pl : List Seg} {W : Int} {k : Nat} (hk : k < pl.length) (h : suB (pl.getD k noG).2 W = false) : rnB pl W = false ∧ rnL pl W = [] := by
  have e : rnB pl W = false := by
    unfold rnB
    rw [Bool.and_eq_false_iff]
    right
    rw [List.all_eq_false]
    exact ⟨pl[k], List.getElem_mem hk, by simpa [List.getD, hk] using h⟩
  exact ⟨e, by unfold rnL; rw [e]; rfl⟩
theorem rn_yes {pl : List Seg} {W : Int} (hv : planB pl = true) (h : ∀ i, i < pl.length → suB (pl.getD i noG).2 W = true) : rnB pl W = true ∧ rnL pl W = rnV W pl := by
  have e : rnB pl W = true := by
    unfold rnB
    rw [hv, Bool.true_and, List.all_eq_true]
    intro x hx
    obtain ⟨i, hi, rfl⟩ := List.mem_iff_getElem.1 hx
    have := h i hi
    simpa [List.getD, hi] using this
  exact ⟨e, by unfold rnL; rw [if_pos e]⟩
theorem rn_inv {pl : List Seg} {W : Int} (hv : planB pl = false) : rnB pl W = false ∧ rnL pl W = [] := by
  have e : rnB pl W = false := by unfold rnB; rw [hv]; rfl
  exact ⟨e, by unfold rnL; rw [e]; rfl⟩
theorem suB_w {p : List Int} {W : Int} (h : suB p W = true) (hp : 1 ≤ p.length) : 1 ≤ W.toNat ∧ W.toNat ≤ 12 := by
  unfold suB at h
  rw [List.all_eq_true] at h
  have h1 := (okC_iff (h p[0] (List.getElem_mem (by omega)))).1
  have := inB_iff.1 h1
  omega

set_option maxRecDepth 20000 in
set_option maxHeartbeats 1600000 in
theorem c_RunPlan (v : Value) (pl : List Seg) (W : Int) (w : World) (ha : RdP w v pl) (hx : pl.length ≤ 1099511627776) (hpx : ∀ s ∈ pl, s.2.length ≤ 1099511627776) :
    Calls Try.prog 12 #[v, (.int .i64 (W))] w (FreshIB w (rnL pl W) (rnB pl W)) := by
  have hpv := c_impl_PlanValid v pl w ha hx hpx
  cases hv : planB pl
  · have E := rn_inv (W := W) hv
    rw [E.1, E.2]
    rw [hv] at hpv
    clear hv ha hpx hx E
    go_enter Try.func12, Try.ntmps12
    go_wp2_with fail
    refine hpv.mono ?_
    rintro e w1 ⟨rfl, hB1⟩
    have HF : Hid (FreshIB w [] false (.returned (.tuple #[.slice none 0 0, .bool false])) w1) := ⟨_, rfl, World.ownsRow_nil _ _ _ _, hB1⟩
    clear hpv hB1
    go_wp2
    go_ret2
    exact HF.out
  · have HV := hidd (valOk_of (planB_iff.1 hv).2.1)
    have HPB := hidd hv
    have hl := planB_len hv
    rw [hv] at hpv
    clear hv hpx hx
    obtain ⟨a, cap, rfl, hcap⟩ := ha.form
    go_enter Try.func12, Try.ntmps12
    go_wp2_with fail
    refine hpv.mono ?_
    rintro e w1 ⟨rfl, hB1⟩
    clear hpv
    have ho0 : w1.ownsRow w.heap.size 3 1 (.slice none 0 0) 0 [] := World.ownsRow_nil _ _ _ _
    go_wp2
    go_loopw [6, 18] (fun r i wr => ∃ k : Nat, k ≤ pl.length ∧ i = .int .i64 k ∧ OwnI wr w.heap.size r (rnV W (pl.take k)) ∧ (∀ i, i < k → suB (pl.getD i noG).2 W = true) ∧ Below w.heap.size w wr) (fun _ i _ => pl.length - (intOf i).toNat)
    case atStart => exact ⟨0, by omega, rfl, ho0, fun i hi => by omega, hB1⟩
    case round =>
      obtain ⟨k, hk, rfl, ho, hok, hB⟩ := hrel
      have HOK := hidd hok
      clear ho0 hB1 hok
      by_cases hlt : k < pl.length
      · obtain ⟨b, o, pa, pn, pc, rfl, hb, e1, e2, hp, hpc, hpn⟩ := ha.cell hB hlt
        obtain ⟨c1, c2, hpv⟩ := HV.out.get hlt
        have HS := hidd (rnV_take_succ W pl k hlt)
        have hlen := HV.out.take_len k
        rw [← rnV_len W] at hlen
        have HNO : Hid (suB (pl.getD k noG).2 W = false → rnB pl W = false ∧ rnL pl W = []) := fun h => rn_no hlt h
        have HOK2 : Hid (suB (pl.getD k noG).2 W = true → ∀ i, i < k + 1 → suB (pl.getD i noG).2 W = true) := fun h i hi => by
          by_cases h2 : i < k
          · exact HOK.out i h2
          · obtain rfl : i = k := by omega
            exact h
        obtain ⟨s, hs⟩ : ∃ s, pl.getD k noG = s := ⟨_, rfl⟩
        rw [hs] at e1 HS hp c1 c2 hpv HNO HOK2 hpn
        obtain ⟨c, p⟩ := s
        obtain ⟨C, rfl⟩ : ∃ C : Nat, c = C := ⟨c.toNat, by have : 1 ≤ c := c1; omega⟩
        have hC60 : C ≤ 60 := by have : (C : Int) ≤ 60 := c2; omega
        obtain ⟨hp1, hp7⟩ : 1 ≤ p.length ∧ p.length ≤ 7 := ⟨(polyB_iff hpv).1, (polyB_iff hpv).2.1⟩
        obtain ⟨L, hL⟩ : ∃ L, rnV W (pl.take k) = L := ⟨_, rfl⟩
        rw [hL] at ho hlen
        have HS2 : Hid (rnV W (pl.take (k + 1)) = L ++ runE W.toNat p C) := by show _ = _; rw [HS.out, hL]; rfl
        have HVL := hidd (runE_len W.toNat p C)
        have i1 : (0 : Int) ≤ (k : Int) := by omega
        have i2 : (k : Int) < (pl.length : Int) := by omega
        have hBa : Below w.heap.size w (wr.alloc (.cells #[(.int .i64 ((C : Int))), .slice pa pn pc] 47)) := hB.alloc hB.size _
        have HSU := hidd (c_SetUp (.slice pa pn pc) p W _ (hp.kept hBa) (CapOk_of hpc) hpv)
        have hoa := ho.alloc (.cells #[(.int .i64 ((C : Int))), .slice pa pn pc] 47)
        have d0 : (wr.alloc (.cells #[(.int .i64 ((C : Int))), .slice pa pn pc] 47)).cell? ⟨wr.heap.size, 0, none⟩ = some (.int .i64 ((C : Int))) := by simp [go_sem]
        have hz1 : wr.heap.size < (wr.alloc (.cells #[(.int .i64 ((C : Int))), .slice pa pn pc] 47)).heap.size := by simp
        clear hs hL HS hp hpc hpn hpv c1 c2 ha hB ho
        cases hsu : suB p W with
        | true =>
          have hwb := suB_w hsu hp1
          have HOK3 := hidd (HOK2.out hsu)
          go_wp2_with fail
          refine HSU.out.mono ?_
          intro e w2 hsr
          unfold SuR at hsr
          rw [if_pos hsu] at hsr
          obtain ⟨u, rfl, hu, hB2⟩ := hsr
          obtain ⟨ua, uc, rfl⟩ := RdS_form (owns_RdS hu)
          have ho2 := ownsRow_kept_below hoa hB2
          have hBw2 := bthen hBa hB2
          have d1 := ((bcell hB2).1 _ _ hz1).trans d0
          have hz2 := Nat.lt_of_lt_of_le hz1 hB2.size
          have hal : Below w2.heap.size w2 (w2.alloc (.cells #[.slice ua (cols W.toNat p).length uc] 50)) := (Below.refl _ _).alloc (Nat.le_refl _) _
          have d2 := ((bcell hal).1 _ _ hz2).trans d1
          have HRE := hidd (c_RunEngine W.toNat _ p C _ ((owns_RdS hu).kept hal) hwb.1 hwb.2 hp1 hp7 hC60)
          have ho3 := ownsRow_kept_below ho2 hal
          have hBw3 := bthen hBw2 hal
          clear hoa hu hB2 d0 d1 ho2 hBw2 hz1 hal hsu HNO HOK2 HSU
          go_wp2_with fail
          refine HRE.out.mono ?_
          rintro e w4 ⟨r, rfl, hr, hB4⟩
          have ho4 := ownsRow_kept_below ho3 hB4
          have hr4 := RdN_ints (owns_RdI hr)
          have HB := hidd (bthen hBw3 hB4)
          have hBs : w.heap.size ≤ w4.heap.size := HB.out.size
          rw [HVL.out] at hr4
          obtain ⟨V, hV⟩ : ∃ V, runE W.toNat p C = V := ⟨_, rfl⟩
          have hVl : V.length = C := by rw [← hV]; exact HVL.out
          rw [hV] at hr4 HS2
          clear hr hB4 ho3 hBw3 HRE hV
          go_wp2_with (at_builtin; refine appN 32 3 Try.underlying32 infoInt rfl (by decide) (by decide) rfl _ _ rfl w.heap.size _ _ _ rfl ho4 _ C _ rfl hr4 (one_ints V) (by omega) hBs ?_)
          intro v' w5 ho5 hg5 _
          have HO : Hid (OwnI w5 w.heap.size v' (rnV W (pl.take (k + 1))) ∧ (∀ i, i < k + 1 → suB (pl.getD i noG).2 W = true) ∧ Below w.heap.size w w5) := ⟨by rw [HS2.out]; exact OwnI_app' rfl hVl.symm ho5, HOK3.out, HB.out.grown hg5 hBs (fun j hj => (ho4.lt j hj).1)⟩
          clear ho5 hg5 ho4 hr4
          go_wp2
          go_roundw
          case rel => exact ⟨k + 1, by omega, by go_num, HO.out⟩
          case measure => simp [intOf]; omega
        | false =>
          obtain ⟨E1, E2⟩ := HNO.out hsu
          go_wp2_with fail
          refine HSU.out.mono ?_
          intro e w2 hsr
          unfold SuR at hsr
          rw [if_neg (by rw [hsu]; decide)] at hsr
          obtain ⟨rfl, hB2⟩ := hsr
          have HF : Hid (FreshIB w (rnL pl W) (rnB pl W) (.returned (.tuple #[.slice none 0 0, .bool false])) (w2.alloc (.cells #[.slice none 0 0] 50))) :=
            ⟨_, by rw [E1], by rw [E2]; exact World.ownsRow_nil _ _ _ _, (bthen hBa hB2).alloc (by have := (bthen hBa hB2).size; omega) _⟩
          clear hoa hB2 d0 E1 E2
          go_wp2
          go_ret2
          exact HF.out
      · have E := rn_yes HPB.out (fun i hi => HOK.out i (by omega))
        have HF : Hid (FreshIB w (rnL pl W) (rnB pl W) (.returned (.tuple #[u6, .bool true])) wr) := by
          rw [List.take_of_length_le (by omega)] at ho
          exact ⟨_, by rw [E.1], by rw [E.2]; exact ho, hB⟩
        clear ho hB ha E
        go_wp2
        go_ret2
        exact HF.out
end Go.Proofs.Ythjehjdcpfefcaa

namespace Go.Proofs.Ythjehjdcpfefcaa
set_option linter.unusedVariables false
open Go.RowKit

theorem keepTw {w1 wa wb : World} {b o b' o' : Nat} {v0 v1 : Value} (hb : b < w1.heap.size) (hb' : b' < w1.heap.size) (h : Below w1.heap.size w1 wa ∧ wa.cell? ⟨b, o, none⟩ = some v0 ∧ wa.cell? ⟨b', o', none⟩ = some v1) (k : Below wa.heap.size wa wb) :
    Below w1.heap.size w1 wb ∧ wb.cell? ⟨b, o, none⟩ = some v0 ∧ wb.cell? ⟨b', o', none⟩ = some v1 := by
  obtain ⟨h0, h1, h2⟩ := h
  have hs := h0.size
  obtain ⟨hc, _⟩ := bcell k
  exact ⟨bthen h0 k, by rw [hc _ _ (by omega)]; exact h1, by rw [hc _ _ (by omega)]; exact h2⟩
set_option maxRecDepth 20000 in
set_option maxHeartbeats 1600000 in
theorem c_sRunPlan (v : Value) (pl : List Seg) (W : Int) (w : World) (ha : RdP w v pl) (hx : pl.length ≤ 1099511627776) (hpx : ∀ s ∈ pl, s.2.length ≤ 1099511627776) :
    Calls Try.prog 13 #[v, (.int .i64 (W))] w (FreshIB w (rnL pl W) (rnB pl W)) := by
  have hB0 : Below w.heap.size w (w.alloc (.cells #[] 3)) := (Below.refl _ _).alloc (Nat.le_refl _) _
  have hpv := c_spec_PlanValid v pl _ (ha.kept hB0) hx hpx
  have ho0 := madeP0 w
  cases hv : planB pl
  · have E := rn_inv (W := W) hv
    rw [E.1, E.2]
    rw [hv] at hpv
    clear hv ha hpx hx E
    go_enter Try.func13, Try.ntmps13
    go_wp2_with fail
    refine hpv.mono ?_
    rintro e w1 ⟨rfl, hB1⟩
    have HF : Hid (FreshIB w [] false (.returned (.tuple #[.slice (some ⟨w.heap.size, 0, none⟩) 0 0, .bool false])) w1) := ⟨_, rfl, ownsRow_kept_below ho0 hB1, bthen hB0 hB1⟩
    clear hpv hB1 hB0 ho0
    go_wp2
    go_ret2
    exact HF.out
  · have HV := hidd (valOk_of (planB_iff.1 hv).2.1)
    have HPB := hidd hv
    have hl := planB_len hv
    rw [hv] at hpv
    clear hv hpx hx
    obtain ⟨a, cap, rfl, hcap⟩ := ha.form
    go_enter Try.func13, Try.ntmps13
    go_wp2_with fail
    refine hpv.mono ?_
    rintro e w1 ⟨rfl, hB1⟩
    have ho1 := ownsRow_kept_below ho0 hB1
    have hA1 := bthen hB0 hB1
    clear hpv hB1 hB0 ho0
    go_wp2
    go_loopw [6, 7] (fun r i wr => ∃ k : Nat, k ≤ pl.length ∧ i = .int .i64 k ∧ OwnI wr w.heap.size r (rnV W (pl.take k)) ∧ (∀ i, i < k → suB (pl.getD i noG).2 W = true) ∧ Below w.heap.size w wr) (fun _ i _ => pl.length - (intOf i).toNat)
    case atStart => exact ⟨0, by omega, rfl, ho1, fun i hi => by omega, hA1⟩
    case round =>
      obtain ⟨k, hk, rfl, ho, hok, hB⟩ := hrel
      have HOK := hidd hok
      clear ho1 hA1 hok
      by_cases hlt : k < pl.length
      · obtain ⟨b, o, pa, pn, pc, rfl, hb, e1, e2, hp, hpc, hpn⟩ := ha.cell hB hlt
        obtain ⟨c1, c2, hpv⟩ := HV.out.get hlt
        have HS := hidd (rnV_take_succ W pl k hlt)
        have hlen := HV.out.take_len k
        rw [← rnV_len W] at hlen
        have HNO : Hid (suB (pl.getD k noG).2 W = false → rnB pl W = false ∧ rnL pl W = []) := fun h => rn_no hlt h
        have HOK2 : Hid (suB (pl.getD k noG).2 W = true → ∀ i, i < k + 1 → suB (pl.getD i noG).2 W = true) := fun h i hi => by
          by_cases h2 : i < k
          · exact HOK.out i h2
          · obtain rfl : i = k := by omega
            exact h
        obtain ⟨s, hs⟩ : ∃ s, pl.getD k noG = s := ⟨_, rfl⟩
        rw [hs] at e1 HS hp c1 c2 hpv HNO HOK2 hpn
        obtain ⟨c, p⟩ := s
        obtain ⟨C, rfl⟩ : ∃ C : Nat, c = C := ⟨c.toNat, by have : 1 ≤ c := c1; omega⟩
        have hC60 : C ≤ 60 := by have : (C : Int) ≤ 60 := c2; omega
        obtain ⟨hp1, hp7⟩ : 1 ≤ p.length ∧ p.length ≤ 7 := ⟨(polyB_iff hpv).1, (polyB_iff hpv).2.1⟩
        obtain ⟨L, hL⟩ : ∃ L, rnV W (pl.take k) = L := ⟨_, rfl⟩
        rw [hL] at ho hlen
        have HS2 : Hid (rnV W (pl.take (k + 1)) = L ++ runE W.toNat p C) := by show _ = _; rw [HS.out, hL]; rfl
        have HVL := hidd (runE_len W.toNat p C)
        have i1 : (0 : Int) ≤ (k : Int) := by omega
        have i2 : (k : Int) < (pl.length : Int) := by omega
        have HSU := hidd (c_sSetUp (.slice pa pn pc) p W wr (hp.kept hB) (CapOk_of hpc) hpv)
        clear hs hL HS hp hpc hpn hpv c1 c2 ha
        cases hsu : suB p W with
        | true =>
          have hwb := suB_w hsu hp1
          have HOK3 := hidd (HOK2.out hsu)
          go_wp2_with fail
          refine HSU.out.mono ?_
          intro e w2 hsr
          unfold SuR at hsr
          rw [if_pos hsu] at hsr
          obtain ⟨u, rfl, hu, hB2⟩ := hsr
          obtain ⟨ua, uc, rfl⟩ := RdS_form (owns_RdS hu)
          have hal : Below w2.heap.size w2 (w2.alloc (.cells #[.slice ua (cols W.toNat p).length uc] 50)) := (Below.refl _ _).alloc (Nat.le_refl _) _
          have hBw3 := bthen (bthen hB hB2) hal
          have ho3 := ownsRow_kept_below (ownsRow_kept_below ho hB2) hal
          have hru := (owns_RdS hu).kept hal
          have hbr : b < wr.heap.size := by have := hB.size; omega
          have hbr2 : b < w2.heap.size := by have := hB2.size; omega
          have d1 := ((bcell hal).1 _ _ hbr2).trans (((bcell hB2).1 _ _ hbr).trans e1)
          have d2 : (w2.alloc (.cells #[.slice ua (cols W.toNat p).length uc] 50)).cell? ⟨w2.heap.size, 0, none⟩ = some (.slice ua (cols W.toNat p).length uc) := by simp [go_sem]
          have hz3 : (w2.alloc (.cells #[.slice ua (cols W.toNat p).length uc] 50)).heap.size = w2.heap.size + 1 := by simp
          clear hu hB2 hB ho hal hsu HNO HOK2 HSU hbr
          go_wp2
          clear e1 e2
          generalize hW3 : w2.alloc (.cells #[.slice ua (cols W.toNat p).length uc] 50) = w3 at *
          generalize hf : w2.heap.size = f at *
          have HRE : Hid (∀ W', (Below w3.drew.heap.size w3.drew W' ∧ W'.cell? ⟨f, 0, none⟩ = some (.slice ua (cols W.toNat p).length uc) ∧ W'.cell? ⟨b, o + k * 2, none⟩ = some (.int .i64 ((C : Int)))) → Calls Try.prog 39 #[.agg #[.slice ua (cols W.toNat p).length uc], (.int .i64 ((C : Int)))] W' (FreshIB W' (runE W.toNat p C) true)) :=
            fun W' h => c_sRunEngine W.toNat _ p C W' (RdS.kept (w := w3.drew) hru h.1) hwb.1 hwb.2 hp1 hp7 hC60
          have hk0 : Below w3.drew.heap.size w3.drew w3.drew ∧ w3.drew.cell? ⟨f, 0, none⟩ = some (.slice ua (cols W.toNat p).length uc) ∧ w3.drew.cell? ⟨b, o + k * 2, none⟩ = some (.int .i64 ((C : Int))) := ⟨Below.refl _ _, d2, d1⟩
          have hod : w3.drew.ownsRow w.heap.size 3 1 u6 L.length (L.map (Value.int .i64)) := ho3
          have hBd : Below w.heap.size w w3.drew := hBw3.drew
          have hz4 : f < w3.drew.heap.size := by show f < w3.heap.size; omega
          have hz5 : b < w3.drew.heap.size := by show b < w3.heap.size; omega
          clear hru d1 d2 hz3 ho3 hBw3 hW3
          go_region_held3 (fun wx => Below w3.drew.heap.size w3.drew wx ∧ wx.cell? ⟨f, 0, none⟩ = some (.slice ua (cols W.toNat p).length uc) ∧ wx.cell? ⟨b, o + k * 2, none⟩ = some (.int .i64 ((C : Int)))) (first | assumption | exact hk0 | exact keepTw hz4 hz5 (by assumption) (by assumption))
            ((go_at_call 39; refine (HRE.out _ (by assumption)).mono ?_; rintro e w4 ⟨r, rfl, hr, hB4⟩))
          rename_i hS
          have ho4 := ownsRow_kept_below hod hB4
          have hr4 := RdN_ints (owns_RdI hr)
          have HB := hidd (bthen hBd hB4)
          have hBs : w.heap.size ≤ w4.heap.size := HB.out.size
          rw [HVL.out] at hr4
          obtain ⟨V, hV⟩ : ∃ V, runE W.toNat p C = V := ⟨_, rfl⟩
          have hVl : V.length = C := by rw [← hV]; exact HVL.out
          rw [hV] at hr4 HS2
          clear hr hB4 hod hBd HRE hV hS hk0
          go_wp2_with (at_builtin; refine appN 32 3 Try.underlying32 infoInt rfl (by decide) (by decide) rfl _ _ rfl w.heap.size _ _ _ rfl ho4 _ C _ rfl hr4 (one_ints V) (by omega) hBs ?_)
          intro v' w5 ho5 hg5 _
          have HO : Hid (OwnI w5 w.heap.size v' (rnV W (pl.take (k + 1))) ∧ (∀ i, i < k + 1 → suB (pl.getD i noG).2 W = true) ∧ Below w.heap.size w w5) := ⟨by rw [HS2.out]; exact OwnI_app' rfl hVl.symm ho5, HOK3.out, HB.out.grown hg5 hBs (fun j hj => (ho4.lt j hj).1)⟩
          clear ho5 hg5 ho4 hr4
          go_wp2
          go_roundw
          case rel => exact ⟨k + 1, by omega, by go_num, HO.out⟩
          case measure => simp [intOf]; omega
        | false =>
          obtain ⟨E1, E2⟩ := HNO.out hsu
          go_wp2_with fail
          refine HSU.out.mono ?_
          intro e w2 hsr
          unfold SuR at hsr
          rw [if_neg (by rw [hsu]; decide)] at hsr
          obtain ⟨rfl, hB2⟩ := hsr
          have hal : Below w2.heap.size w2 (w2.alloc (.cells #[.slice none 0 0] 50)) := (Below.refl _ _).alloc (Nat.le_refl _) _
          have hBw3 := bthen (bthen hB hB2) hal
          have hbr : b < wr.heap.size := by have := hB.size; omega
          have hbr2 : b < w2.heap.size := by have := hB2.size; omega
          have d1 := ((bcell hal).1 _ _ hbr2).trans (((bcell hB2).1 _ _ hbr).trans e1)
          have d2 : (w2.alloc (.cells #[.slice none 0 0] 50)).cell? ⟨w2.heap.size, 0, none⟩ = some (.slice none 0 0) := by simp [go_sem]
          have hz3 : (w2.alloc (.cells #[.slice none 0 0] 50)).heap.size = w2.heap.size + 1 := by simp
          clear hB2 hB ho hal HOK2 HSU hbr
          go_wp2
          clear e1 e2
          generalize hW3 : w2.alloc (.cells #[.slice none 0 0] 50) = w3 at *
          generalize hf : w2.heap.size = f at *
          have HRE : Hid (∀ W', Calls Try.prog 39 #[.agg #[.slice none 0 0], (.int .i64 ((C : Int)))] W' fun e w' => (∃ a, e = .returned (.tuple #[.slice a 0 0, .bool false])) ∧ Below W'.heap.size W' w') := fun W' => c_sRunEngine0 _ W'
          have hk0 : Below w3.drew.heap.size w3.drew w3.drew ∧ w3.drew.cell? ⟨f, 0, none⟩ = some (.slice none 0 0) ∧ w3.drew.cell? ⟨b, o + k * 2, none⟩ = some (.int .i64 ((C : Int))) := ⟨Below.refl _ _, d2, d1⟩
          have hBd : Below w.heap.size w w3.drew := hBw3.drew
          have hz4 : f < w3.drew.heap.size := by show f < w3.heap.size; omega
          have hz5 : b < w3.drew.heap.size := by show b < w3.heap.size; omega
          clear d1 d2 hz3 hBw3 hW3
          go_region_held3 (fun wx => Below w3.drew.heap.size w3.drew wx ∧ wx.cell? ⟨f, 0, none⟩ = some (.slice none 0 0) ∧ wx.cell? ⟨b, o + k * 2, none⟩ = some (.int .i64 ((C : Int)))) (first | assumption | exact hk0 | exact keepTw hz4 hz5 (by assumption) (by assumption))
            ((go_at_call 39; refine (HRE.out _).mono ?_; rintro e w4 ⟨⟨r, rfl⟩, hB4⟩))
          have HF : Hid (FreshIB w (rnL pl W) (rnB pl W) (.returned (.tuple #[.slice (some ⟨w4.heap.size, 0, none⟩) 0 0, .bool false])) (w4.alloc (.cells #[] 3))) :=
            ⟨_, by rw [E1], by rw [E2]; exact ownsRow_mono (madeP0 w4) (bthen hBd hB4).size, (bthen hBd hB4).alloc (bthen hBd hB4).size _⟩
          clear hBd hB4 E1 E2 hk0
          go_wp2
          go_ret2
          exact HF.out
      · have E := rn_yes HPB.out (fun i hi => HOK.out i (by omega))
        have HF : Hid (FreshIB w (rnL pl W) (rnB pl W) (.returned (.tuple #[u6, .bool true])) wr) := by
          rw [List.take_of_length_le (by omega)] at ho
          exact ⟨_, by rw [E.1], by rw [E.2]; exact ho, hB⟩
        clear ho hB ha E
        go_wp2
        go_ret2
        exact HF.out
end Go.Proofs.Ythjehjdcpfefcaa
