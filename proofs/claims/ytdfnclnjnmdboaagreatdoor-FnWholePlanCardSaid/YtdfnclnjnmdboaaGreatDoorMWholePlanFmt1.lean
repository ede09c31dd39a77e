/- Lemmas and contracts for WholePlan (Fmt1 Fmt2 Fmt3): plain words on memory, contracts of the functions that the law reaches. No condition but what each states. -/
import Derived.Test.YtdfnclnjnmdboaaGreatDoorMWholePlanFmtP
import Derived.Test.YtdfnclnjnmdboaaGreatDoorMWholePlanItoa
import Derived.Test.YtdfnclnjnmdboaaGreatDoorMWholePlanStrs
import Derived.Test.YtdfnclnjnmdboaaGreatDoorMWholePlanApp
import Derived.Test.YtdfnclnjnmdboaaGreatDoorMWholePlanPoly1
import Derived.Test.YtdfnclnjnmdboaaGreatDoorMWholePlanFill
import Derived.Test.YtdfnclnjnmdboaaGreatDoorMWholePlanDec
import Derived.Test.YtdfnclnjnmdboaaGreatDoorMWholePlanPoly3
import Derived.WalkSpells
namespace Go.Proofs.YtdfnclnjnmdboaaGreatDoor
set_option linter.unusedVariables false
open Go.RowKit

theorem c_JoinB (c : UInt8) (v : Value) {base : Nat} (xs : List ByteArray) (w : World) (h : OwnS w base v xs) (hx : xs.length ≤ 1000) (hl : (Lib.join (xs.map (·.data.toList)) [c]).length ≤ 1099511627776) :
    Calls Tryz.prog 24 #[v, .string ⟨#[c]⟩] w (StrB (Lib.join (xs.map (·.data.toList)) [c]) w) := by
  have hr := owns_RdS h
  obtain ⟨h1, h2⟩ := h
  rcases h2 with ⟨rfl, hn⟩ | ⟨g, cap, cur, rfl, hg, hh, h3, h4, r⟩
  · have hx0 : xs = [] := List.eq_nil_of_length_eq_zero hn
    subst hx0
    refine (Tryz.strings_Join_none none 0 ⟨#[c]⟩ w).mono ?_
    rintro e w' ⟨rfl, rfl⟩
    exact ⟨_, rfl, rfl, Below.refl _ _⟩
  · have hlt : g < w.heap.size := by
      by_cases hlt : g < w.heap.size
      · exact hlt
      · rw [Array.getElem?_eq_none (by omega)] at hh; cases hh
    refine (Tryz.strings_Join g 0 cap xs ⟨#[c]⟩ w ?_ hlt (by omega) h3 (by show (Lib.join (xs.map (·.data.toList)) [c]).length ≤ _; omega)).mono ?_
    · intro j x hj
      have hjl : j < xs.length := by
        by_cases hq : j < xs.length
        · exact hq
        · rw [List.getElem?_eq_none (by omega)] at hj; cases hj
      rcases hr.op with ⟨a, c', e, rfl⟩ | ⟨b, o, c', e, hb, hcell⟩
      · simp at hjl
      · simp only [Value.slice.injEq, Option.some.injEq, Addr.mk.injEq] at e
        obtain ⟨⟨rfl, rfl, _⟩, _, _⟩ := e
        rw [hcell j hjl]
        congr 2
        simp only [List.getD, hj, Option.getD_some]
    · rintro e w' ⟨rfl, hB⟩
      exact ⟨_, rfl, IsS.mk _, hB⟩
def ioS (n : Int) : ByteArray := ⟨(Lib.itoa n).toArray⟩
theorem ioS_map (p : List Int) : (p.map ioS).map (·.data.toList) = p.map Lib.itoa := by
  rw [List.map_map]
  apply List.map_congr_left
  intro n _
  simp [ioS]
theorem ioS_join (p : List Int) : Lib.join ((p.map ioS).map (·.data.toList)) [32] = nmL p := by rw [ioS_map]; rfl
end Go.Proofs.YtdfnclnjnmdboaaGreatDoor

namespace Go.Proofs.YtdfnclnjnmdboaaGreatDoor
set_option linter.unusedVariables false
open Go.RowKit

theorem RdI_formF {w : World} {v : Value} {xs : List Int} (h : RdI w v xs) : ∃ a c, v = .slice a xs.length c := by
  obtain ⟨a, c, e, _⟩ := h
  exact ⟨a, c, by rw [e, List.length_map]⟩
theorem poly_nm {p : List Int} (h : polyB p = true) : (nmL p).length ≤ 126 := by have := fpL_len p; rwa [fpL_yes h] at this
set_option maxRecDepth 20000 in
set_option maxHeartbeats 800000 in
theorem c_joinNumbers (v : Value) (p : List Int) (w : World) (htab : TabW w) (ha : RdI w v p) (hp : polyB p = true) :
    Calls Tryz.prog 56 #[v] w (StrB (nmL p) w) := by
  have hp7 := (polyB_iff hp).2.1
  have HM := hidd (polyB_mem hp)
  have HNL := hidd (poly_nm hp)
  obtain ⟨a, cap, rfl⟩ := RdI_formF ha
  clear hp
  go_enter Tryz.func56, Tryz.ntmps56
  go_wp2_with (at_make; refine mkfull 47 9 Tryz.underlying47 infoStr rfl (by decide) rfl _ _ rfl p.length rfl rfl rfl rfl (by omega) ?_; intro w1 ho1 hB1 hz1)
  rw [← fillS_zero (p.map ioS) p.length] at ho1
  have HPL : Hid ((p.map ioS).length = p.length) := by show _ = _; simp
  go_loopw [11] (fun i wr => ∃ j : Nat, j ≤ p.length ∧ i = .int .i64 j ∧ wr.ownsRow w.heap.size 9 1 (.slice (some ⟨w.heap.size, 0, none⟩) p.length p.length) p.length ((fillS (p.map ioS) p.length j).map Value.string) ∧ Below w.heap.size w wr) (fun i _ => p.length - (intOf i).toNat)
  case atStart => exact ⟨0, by omega, rfl, ho1, hB1⟩
  case round =>
    obtain ⟨j, hj, rfl, ho, hB⟩ := hrel
    clear ho1 hB1 hz1
    by_cases hlt : j < p.length
    · obtain ⟨b, o, rfl, hb, e0⟩ := RdI_cell ha hB hlt
      have hx := HM.out (p.getD j 0) (by simp [List.getD, hlt])
      have HS : Hid (∀ u : World, u.ownsRow w.heap.size 9 1 (.slice (some ⟨w.heap.size, 0, none⟩) p.length p.length) p.length ((fillS (p.map ioS) p.length j).map Value.string) → (u.setCell ⟨w.heap.size, j, none⟩ (.string (ioS (p.getD j 0)))).ownsRow w.heap.size 9 1 (.slice (some ⟨w.heap.size, 0, none⟩) p.length p.length) p.length ((fillS (p.map ioS) p.length (j + 1)).map Value.string)) := fun u h => by
        have := (h.stored j (.string (ioS (p.getD j 0)))).1
        have e : (p.map ioS).getD j noS = ioS (p.getD j 0) := by simp [List.getD, hlt]
        rw [← e, fillS_set _ (by rw [HPL.out]; exact hlt) hlt, e] at this
        exact this
      have HLF : Hid (j < ((fillS (p.map ioS) p.length j).map Value.string).length) := by show _ < _; rw [List.length_map, fillS_len _ (by rw [HPL.out]; omega) (by omega)]; exact hlt
      generalize p.getD j 0 = x at e0 hx HS
      have HIO : Hid (∀ W, Below w.heap.size w W → Calls Tryz.prog 22 #[(.int .i64 (x))] W (StrB (Lib.itoa x) W)) := fun W h => c_Itoa x W (htab.below h) (by omega) (by omega)
      go_wp2_with fail
      refine (HIO.out _ (by first | exact hB | exact hB.drew)).mono ?_
      rintro e w3 ⟨Y, rfl, hY, hB3⟩
      obtain rfl : Y = ioS x := IsS.inj hY (IsS.mk _)
      have q1 := ownsRow_kept_below ho hB3
      obtain ⟨y, e2⟩ : ∃ y, w3.cell? ⟨w.heap.size, j, none⟩ = some y := ⟨_, by rw [q1.cellAt j (by omega)]; exact List.getElem?_eq_getElem HLF.out⟩
      have e3 := q1.frozenAt j
      have HN : Hid (_ ∧ Below w.heap.size w (w3.setCell ⟨w.heap.size, j, none⟩ (.string (ioS x)))) := ⟨HS.out w3 q1, (bthen hB hB3).setCell (p := ⟨w.heap.size, j, none⟩) (Nat.le_refl _) _⟩
      clear q1 hB3 ho hB hY
      go_wp2
      go_roundw
      case rel => exact ⟨j + 1, by omega, by go_num, HN.out⟩
      case measure => simp [intOf]; omega
    · obtain rfl : j = p.length := by omega
      have ho9 : OwnS wr w.heap.size (.slice (some ⟨w.heap.size, 0, none⟩) p.length p.length) (p.map ioS) := by
        have e := fillS_end (p.map ioS)
        rw [HPL.out] at e
        rw [e] at ho
        unfold OwnS
        rw [HPL.out]
        exact ho
      have hc := c_JoinB 32 _ (p.map ioS) wr ho9 (by rw [HPL.out]; omega) (by rw [ioS_join]; have := HNL.out; omega)
      rw [ioS_join] at hc
      have HC := hidd hc
      have HB := hidd hB
      clear ho ho9 hB hc ha
      go_wp2_with fail
      refine HC.out.mono ?_
      rintro e w3 ⟨Y, rfl, hY, hB3⟩
      have HF : Hid (StrB (nmL p) w (.returned (.string Y)) w3) := ⟨_, rfl, hY, bthen HB.out hB3⟩
      clear hY hB3
      go_wp2
      go_ret
      exact HF.out
set_option maxRecDepth 20000 in
theorem c_FormatPoly (v : Value) (p : List Int) (w : World) (htab : TabW w) (ha : RdI w v p) (hx : p.length ≤ 1099511627776) :
    Calls Tryz.prog 23 #[v] w (StrB (fpL p) w) := by
  have hpv := c_impl_PolyValid v p w ha hx
  cases hp : polyB p
  · have E : Hid (fpL p = []) := if_neg (by rw [hp]; decide)
    rw [hp] at hpv
    rw [E.out]
    clear hp ha
    go_enter Tryz.func23, Tryz.ntmps23
    go_wp2_with fail
    refine hpv.mono ?_
    rintro e w1 ⟨rfl, hB⟩
    go_wp2
    go_ret
    exact ⟨_, rfl, rfl, hB⟩
  · rw [fpL_yes hp]
    have HJ : Hid (∀ W, Below w.heap.size w W → Calls Tryz.prog 56 #[v] W (StrB (nmL p) W)) := fun W h => c_joinNumbers v p W (htab.below h) (ha.kept h) hp
    rw [hp] at hpv
    clear hp ha
    go_enter Tryz.func23, Tryz.ntmps23
    go_wp2_with fail
    refine hpv.mono ?_
    rintro e w1 ⟨rfl, hB⟩
    go_wp2_with fail
    refine (HJ.out _ hB).mono ?_
    rintro e w2 ⟨Y, rfl, hY, hB2⟩
    have HF : Hid (StrB (nmL p) w (.returned (.string Y)) w2) := ⟨_, rfl, hY, bthen hB hB2⟩
    clear hY hB2 hB hpv
    go_wp2
    go_ret
    exact HF.out
theorem nmL_take_succ {p : List Int} {j : Nat} (h : j < p.length) : nmL (p.take (j + 1)) = (if 0 < j then nmL (p.take j) ++ [32] else []) ++ Lib.itoa (p.getD j 0) := by
  have e : p.take (j + 1) = p.take j ++ [p.getD j 0] := by rw [List.take_add_one]; congr 1; simp [List.getD, h]
  by_cases h0 : 0 < j
  · rw [if_pos h0, e, nmL_snoc _ _ (by intro q; have h2 : (p.take j).length = 0 := (by rw [q]; rfl); rw [List.length_take] at h2; omega), List.append_assoc]; rfl
  · obtain rfl : j = 0 := by omega
    rw [if_neg h0, e, List.take_zero, List.nil_append, nmL_one]; rfl
theorem itoa_small {x : Int} (h : -100000 ≤ x ∧ x ≤ 100000) : (Lib.itoa x).length ≤ 17 := itoa_len (by omega) (by omega)
set_option maxRecDepth 20000 in
set_option maxHeartbeats 800000 in
theorem c_l2Text (v : Value) (p : List Int) (w : World) (ha : RdI w v p) (hp : polyB p = true) :
    Calls Tryz.prog 65 #[v] w (StrB (nmL p) w) := by
  have hp7 := (polyB_iff hp).2.1
  have HM := hidd (polyB_mem hp)
  obtain ⟨a, cap, rfl⟩ := RdI_formF ha
  clear hp
  go_enter Tryz.func65, Tryz.ntmps65
  go_wp2
  go_loopw [3, 4] (fun o i wr => ∃ (j : Nat) (O : ByteArray), j ≤ p.length ∧ i = .int .i64 j ∧ o = .string O ∧ IsS O (nmL (p.take j)) ∧ O.size ≤ j * 18 ∧ Below w.heap.size w wr) (fun _ i _ => p.length - (intOf i).toNat)
  case atStart => exact ⟨0, ⟨#[]⟩, by omega, rfl, rfl, rfl, by show 0 ≤ _; omega, Below.refl _ _⟩
  case round =>
    obtain ⟨j, O, hj, rfl, rfl, hO, hs, hB⟩ := hrel
    by_cases hlt : j < p.length
    · obtain ⟨b, o, rfl, hb, e0⟩ := RdI_cell ha hB hlt
      have hx := HM.out (p.getD j 0) (by simp [List.getD, hlt])
      have HT := hidd (nmL_take_succ hlt)
      have HO := hidd hO
      generalize p.getD j 0 = x at e0 hx HT
      have HIO : Hid (∀ W, Calls Tryz.prog 26 #[(.int .i64 (x))] W (StrB (Lib.itoa x) W)) := fun W => c_l9Dec x W (by omega) (by omega)
      have hil := itoa_small hx
      have i1 : (0 : Int) ≤ (j : Int) := by omega
      have i2 : (j : Int) < (p.length : Int) := by omega
      clear hO ha
      by_cases h0 : 0 < j
      · have h0' : (0 : Int) < (j : Int) := by omega
        go_wp2_with fail
        refine (HIO.out _).mono ?_
        rintro e w3 ⟨Y, rfl, hY, hB3⟩
        have hys := hY.size
        have HF : Hid (IsS (O ++ ⟨#[32]⟩ ++ Y) (nmL (p.take (j + 1))) ∧ (O ++ ⟨#[32]⟩ ++ Y).size ≤ (j + 1) * 18 ∧ Below w.heap.size w w3) := by
          refine ⟨?_, ?_, bthen hB hB3⟩
          · rw [HT.out, if_pos h0]; exact (HO.out.app (IsS.mk [32])).app hY
          · rw [ByteArray.size_append, ByteArray.size_append, show (ByteArray.mk #[32]).size = 1 from rfl]; omega
        clear hY hB3 hB
        go_wp2
        go_roundw
        case rel => exact ⟨j + 1, _, by omega, by go_num, rfl, HF.out⟩
        case measure => simp [intOf]; omega
      · have h0' : ¬ (0 : Int) < (j : Int) := by omega
        have hO0 : O = ⟨#[]⟩ := IsS.inj HO.out (by have : j = 0 := (by omega); subst this; rfl)
        subst hO0
        go_wp2_with fail
        refine (HIO.out _).mono ?_
        rintro e w3 ⟨Y, rfl, hY, hB3⟩
        have hys := hY.size
        have HF : Hid (IsS (⟨#[]⟩ ++ Y) (nmL (p.take (j + 1))) ∧ (⟨#[]⟩ ++ Y).size ≤ (j + 1) * 18 ∧ Below w.heap.size w w3) := by
          refine ⟨?_, ?_, bthen hB hB3⟩
          · rw [HT.out, if_neg h0]; exact (IsS.mk []).app hY
          · rw [ByteArray.size_append, show (ByteArray.mk #[]).size = 0 from rfl]; omega
        clear hY hB3 hB
        go_wp2
        go_roundw
        case rel => exact ⟨j + 1, _, by omega, by go_num, rfl, HF.out⟩
        case measure => simp [intOf]; omega
    · have HF : Hid (StrB (nmL p) w (.returned (.string O)) wr) := ⟨_, rfl, by rw [List.take_of_length_le (by omega)] at hO; exact hO, hB⟩
      clear hO hB ha
      go_wp2
      go_ret
      exact HF.out
set_option maxRecDepth 20000 in
theorem c_sFormatPoly (v : Value) (p : List Int) (w : World) (ha : RdI w v p) (hx : p.length ≤ 1099511627776) :
    Calls Tryz.prog 27 #[v] w (StrB (fpL p) w) := by
  have hpv := c_spec_PolyValid v p w ha hx
  cases hp : polyB p
  · have E : Hid (fpL p = []) := if_neg (by rw [hp]; decide)
    rw [hp] at hpv
    rw [E.out]
    clear hp ha
    go_enter Tryz.func27, Tryz.ntmps27
    go_wp2_with fail
    refine hpv.mono ?_
    rintro e w1 ⟨rfl, hB⟩
    go_wp2
    go_ret
    exact ⟨_, rfl, rfl, hB⟩
  · rw [fpL_yes hp]
    have HJ : Hid (∀ W, Below w.heap.size w W → Calls Tryz.prog 65 #[v] W (StrB (nmL p) W)) := fun W h => c_l2Text v p W (ha.kept h) hp
    rw [hp] at hpv
    clear hp ha
    go_enter Tryz.func27, Tryz.ntmps27
    go_wp2_with fail
    refine hpv.mono ?_
    rintro e w1 ⟨rfl, hB⟩
    go_wp2_with fail
    refine (HJ.out _ hB).mono ?_
    rintro e w2 ⟨Y, rfl, hY, hB2⟩
    have HF : Hid (StrB (nmL p) w (.returned (.string Y)) w2) := ⟨_, rfl, hY, bthen hB hB2⟩
    clear hY hB2 hB hpv
    go_wp2
    go_ret
    exact HF.out
end Go.Proofs.YtdfnclnjnmdboaaGreatDoor

namespace Go.Proofs.YtdfnclnjnmdboaaGreatDoor
set_option linter.unusedVariables false
open Go.RowKit

def sgS (s : Seg) : ByteArray := ⟨(sgT s).toArray⟩
theorem sgS_map (pl : List Seg) : (pl.map sgS).map (·.data.toList) = pl.map sgT := by
  rw [List.map_map]
  apply List.map_congr_left
  intro n _
  simp [sgS]
theorem sgS_join (pl : List Seg) : Lib.join ((pl.map sgS).map (·.data.toList)) [47] = plT pl := by rw [sgS_map]; rfl
theorem sgS_of {c : Int} {p : List Int} {Y Z : ByteArray} (hY : IsS Y (Lib.itoa c)) (hZ : IsS Z (nmL p)) : Y ++ ⟨#[58]⟩ ++ Z = sgS (c, p) :=
  IsS.inj ((hY.app (IsS.mk [58])).app hZ) (by unfold IsS sgS sgT; simp)
/-- while a part is written: the box of the segment -/
def SgS (w : World) (f : Nat) (u v : Value) (wx : World) : Prop := Below w.heap.size w wx ∧ f < wx.heap.size ∧ wx.cell? ⟨f, 0, none⟩ = some u ∧ wx.cell? ⟨f, 1, none⟩ = some v
theorem SgS.set {w wx : World} {f g j : Nat} {u v : Value} (h : SgS w f u v wx) (hg : w.heap.size ≤ g) (hf : f ≠ g) (q : Value) : SgS w f u v (wx.setCell ⟨g, j, none⟩ q) := by
  obtain ⟨k0, z1, k1, k2⟩ := h
  refine ⟨k0.setCell (p := ⟨g, j, none⟩) hg _, by simpa [World.setCell] using z1, ?_, ?_⟩
  · rw [World.cell?_setCell_other _ _ _ _ (by simp only [ne_eq, Addr.mk.injEq]; omega)]; exact k1
  · rw [World.cell?_setCell_other _ _ _ _ (by simp only [ne_eq, Addr.mk.injEq]; omega)]; exact k2
theorem SgS.kept {w wa wb : World} {f : Nat} {u v : Value} (h : SgS w f u v wa) (k : Below wa.heap.size wa wb) : SgS w f u v wb := by
  obtain ⟨k0, z1, k1, k2⟩ := h
  have hs := k.size
  obtain ⟨bc, _⟩ := bcell k
  exact ⟨bthen k0 k, by omega, (bc _ _ z1).trans k1, (bc _ _ z1).trans k2⟩
theorem keepP2 {w wa wb : World} {b o1 o2 : Nat} {u v : Value} (hb : b < w.heap.size) (h : Below w.heap.size w wa ∧ wa.cell? ⟨b, o1, none⟩ = some u ∧ wa.cell? ⟨b, o2, none⟩ = some v) (k : Below wa.heap.size wa wb) :
    Below w.heap.size w wb ∧ wb.cell? ⟨b, o1, none⟩ = some u ∧ wb.cell? ⟨b, o2, none⟩ = some v := by
  obtain ⟨h0, h1, h2⟩ := h
  have hs := h0.size
  obtain ⟨bc, _⟩ := bcell k
  exact ⟨bthen h0 k, (bc _ _ (by omega)).trans h1, (bc _ _ (by omega)).trans h2⟩
theorem segG {pl : List Seg} (h : planB pl = true) {k : Nat} (hk : k < pl.length) : segB (pl.getD k noG) = true := by
  have := List.all_eq_true.1 (planB_iff.1 h).2.1 pl[k] (List.getElem_mem hk)
  simpa [List.getD, hk] using this
set_option maxRecDepth 20000 in
set_option maxHeartbeats 1600000 in
theorem c_FormatPlan (v : Value) (pl : List Seg) (w : World) (htab : TabW w) (ha : RdP w v pl) (hx : pl.length ≤ 1099511627776) (hpx : ∀ s ∈ pl, s.2.length ≤ 1099511627776) :
    Calls Tryz.prog 6 #[v] w (StrB (fplL pl) w) := by
  have hpv := c_impl_PlanValid v pl w ha hx hpx
  cases hv : planB pl
  · have E : Hid (fplL pl = []) := if_neg (by rw [hv]; decide)
    rw [hv] at hpv
    rw [E.out]
    clear hv ha hpx hx
    go_enter Tryz.func6, Tryz.ntmps6
    go_wp2_with fail
    refine hpv.mono ?_
    rintro e w1 ⟨rfl, hB1⟩
    clear hpv
    go_wp2
    go_ret
    exact ⟨_, rfl, rfl, hB1⟩
  · have hl := planB_len hv
    have HSG := hidd (fun k (hk : k < pl.length) => segG hv hk)
    have HLN : Hid ((plT pl).length ≤ 8700) := by have h := fplL_len pl; rw [fplL_yes hv] at h; exact h
    rw [fplL_yes hv]
    rw [hv] at hpv
    clear hv hpx hx
    obtain ⟨a, cap, rfl, hcap⟩ := ha.form
    have HPL : Hid ((pl.map sgS).length = pl.length) := by show _ = _; simp
    go_enter Tryz.func6, Tryz.ntmps6
    go_wp2_with fail
    refine hpv.mono ?_
    rintro e w1 ⟨rfl, hB1⟩
    clear hpv
    go_wp2_with (at_make; refine mkfull 47 9 Tryz.underlying47 infoStr rfl (by decide) rfl _ _ rfl pl.length rfl rfl rfl rfl (by omega) ?_; intro w2 ho2 hB2 hz2)
    rw [← fillS_zero (pl.map sgS) pl.length] at ho2
    have hgw : w.heap.size ≤ w1.heap.size := hB1.size
    generalize hg1 : w1.heap.size = g at *
    have hA2 : Below w.heap.size w w2 := hB1.trans (hB2.mono hgw)
    go_loopw [14] (fun i wr => ∃ j : Nat, j ≤ pl.length ∧ i = .int .i64 j ∧ wr.ownsRow g 9 1 (.slice (some ⟨g, 0, none⟩) pl.length pl.length) pl.length ((fillS (pl.map sgS) pl.length j).map Value.string) ∧ Below w.heap.size w wr ∧ g < wr.heap.size) (fun i _ => pl.length - (intOf i).toNat)
    case atStart => exact ⟨0, by omega, rfl, ho2, hA2, hz2⟩
    case round =>
      obtain ⟨j, hj, rfl, ho, hB, hz⟩ := hrel
      clear ho2 hB2 hA2 hz2 hB1
      by_cases hlt : j < pl.length
      · obtain ⟨b, o, pa, pn, pc, rfl, hb, e1, e2, hp, hpc, hpn⟩ := ha.cell hB hlt
        have hsg := segB_iff (HSG.out j hlt)
        have HS : Hid (∀ u : World, u.ownsRow g 9 1 (.slice (some ⟨g, 0, none⟩) pl.length pl.length) pl.length ((fillS (pl.map sgS) pl.length j).map Value.string) → (u.setCell ⟨g, j, none⟩ (.string (sgS (pl.getD j noG)))).ownsRow g 9 1 (.slice (some ⟨g, 0, none⟩) pl.length pl.length) pl.length ((fillS (pl.map sgS) pl.length (j + 1)).map Value.string)) := fun u h => by
          have := (h.stored j (.string (sgS (pl.getD j noG)))).1
          have e : (pl.map sgS).getD j noS = sgS (pl.getD j noG) := by simp [List.getD, hlt]
          rw [← e, fillS_set _ (by rw [HPL.out]; exact hlt) hlt, e] at this
          exact this
        have HLF : Hid (j < ((fillS (pl.map sgS) pl.length j).map Value.string).length) := by show _ < _; rw [List.length_map, fillS_len _ (by rw [HPL.out]; omega) (by omega)]; exact hlt
        obtain ⟨s, hs⟩ : ∃ s, pl.getD j noG = s := ⟨_, rfl⟩
        rw [hs] at e1 hp hsg HS hpn
        obtain ⟨C, p⟩ := s
        obtain ⟨c1, c2, hpb, _⟩ := hsg
        have c1 : 1 ≤ C := c1
        have c2 : C ≤ 60 := c2
        have hpb : polyB p = true := hpb
        have hpn : pn = p.length := hpn
        subst hpn
        have e1 : wr.cell? ⟨b, o + j * 2, none⟩ = some (.int .i64 (C)) := e1
        have hp : RdI w (.slice pa p.length pc) p := hp
        have hnl := poly_nm hpb
        have hil : (Lib.itoa C).length ≤ 17 := itoa_small (by omega)
        have i1 : (0 : Int) ≤ (j : Int) := by omega
        have i2 : (j : Int) < (pl.length : Int) := by omega
        obtain ⟨W0, hW0⟩ : ∃ W0, wr.alloc (.cells #[(.int .i64 (C)), .slice pa p.length pc] 44) = W0 := ⟨_, rfl⟩
        obtain ⟨f, hf⟩ : ∃ f, wr.heap.size = f := ⟨_, rfl⟩
        have hBa : Below wr.heap.size wr W0 := by rw [← hW0]; exact (Below.refl _ _).alloc (Nat.le_refl _) _
        have hod : W0.drew.ownsRow g 9 1 (.slice (some ⟨g, 0, none⟩) pl.length pl.length) pl.length ((fillS (pl.map sgS) pl.length j).map Value.string) := ownsRow_kept_below ho hBa.drew
        have hBw : Below w.heap.size w W0.drew := (bthen hB hBa).drew
        have d0 : W0.drew.cell? ⟨f, 0, none⟩ = some (.int .i64 (C)) := by rw [← hW0, ← hf]; simp [go_sem]
        have d1 : W0.drew.cell? ⟨f, 1, none⟩ = some (.slice pa p.length pc) := by rw [← hW0, ← hf]; simp [go_sem]
        have d2 : f < W0.drew.heap.size := by rw [← hW0, ← hf]; simp [World.drew]
        have hfg : f ≠ g := by omega
        have hk0 : SgS w f (.int .i64 (C)) (.slice pa p.length pc) W0.drew := ⟨hBw, d2, d0, d1⟩
        have HIO : Hid (∀ W, (Below w.heap.size w W ∧ f < W.heap.size ∧ W.cell? ⟨f, 0, none⟩ = some (.int .i64 (C)) ∧ W.cell? ⟨f, 1, none⟩ = some (.slice pa p.length pc)) → Calls Tryz.prog 22 #[(.int .i64 (C))] W (StrB (Lib.itoa C) W)) := fun W h => c_Itoa C W (htab.below h.1) (by omega) (by omega)
        have HFP : Hid (∀ W, (Below w.heap.size w W ∧ f < W.heap.size ∧ W.cell? ⟨f, 0, none⟩ = some (.int .i64 (C)) ∧ W.cell? ⟨f, 1, none⟩ = some (.slice pa p.length pc)) → Calls Tryz.prog 23 #[.slice pa p.length pc] W (StrB (nmL p) W)) := fun W h => by
          have := c_FormatPoly (.slice pa p.length pc) p W (htab.below h.1) (hp.kept h.1) (by have := (polyB_iff hpb).2.1; omega)
          rwa [fpL_yes hpb] at this
        have hjl : j < pl.length * 1 := by omega
        have hg0 : w.heap.size ≤ g := hgw
        clear hs hp hpc ha ho hB hBa hpb
        go_wp2
        clear e1 e2 d0 d1
        go_region_held3 (fun wx => Below w.heap.size w wx ∧ f < wx.heap.size ∧ wx.cell? ⟨f, 0, none⟩ = some (.int .i64 (C)) ∧ wx.cell? ⟨f, 1, none⟩ = some (.slice pa p.length pc)) (first | assumption | exact hk0 | exact SgS.kept (by assumption) (by assumption) | exact SgS.set (by assumption) hg0 hfg _)
          (first | (go_at_call 22; refine (HIO.out _ (by assumption)).mono ?_; rintro e w6 ⟨Y, rfl, hY, hb6⟩; have q1 := ownsRow_kept_below hod hb6; have hys : Y.size ≤ 17 := (by rw [hY.size]; exact hil); have g5 : (9223372036854775807 < Y.size + 1) = False := eq_false (by omega)) | (go_at_call 23; refine (HFP.out _ (by assumption)).mono ?_; rintro e w7 ⟨Z, rfl, hZ, hb7⟩; have q2 := ownsRow_kept_below q1 hb7; have hzs : Z.size ≤ 126 := (by rw [hZ.size]; exact hnl); have g6 : (9223372036854775807 < Y.size + 1 + Z.size) = False := eq_false (by omega); obtain ⟨y, e3⟩ : ∃ y, w7.cell? ⟨g, j, none⟩ = some y := ⟨_, by rw [q2.cellAt j hjl]; exact List.getElem?_eq_getElem HLF.out⟩; have e4 := q2.frozenAt j))
        rename_i hS
        have hYZ : Y ++ ⟨#[58]⟩ ++ Z = sgS (C, p) := sgS_of hY hZ
        rw [hYZ] at hS
        have hzz : g < w7.heap.size := (q2.lt g rfl).2
        have HN : Hid (_ ∧ Below w.heap.size w (w7.setCell ⟨g, j, none⟩ (.string (sgS (C, p)))) ∧ g < (w7.setCell ⟨g, j, none⟩ (.string (sgS (C, p)))).heap.size) := ⟨HS.out w7 q2, hS.1, by simpa [World.setCell] using hzz⟩
        have HYZ := hidd hYZ
        clear hS hk0 q1 q2 e3 e4 hb6 hb7 hY hZ hod hBw g5 g6 hYZ
        go_wp2
        rw [HYZ.out]
        go_roundw
        case rel => exact ⟨j + 1, by omega, by go_num, HN.out⟩
        case measure => simp [intOf]; omega
      · obtain rfl : j = pl.length := by omega
        have ho9 : OwnS wr g (.slice (some ⟨g, 0, none⟩) pl.length pl.length) (pl.map sgS) := by
          have e := fillS_end (pl.map sgS)
          rw [HPL.out] at e
          rw [e] at ho
          unfold OwnS
          rw [HPL.out]
          exact ho
        have hc := c_JoinB 47 _ (pl.map sgS) wr ho9 (by rw [HPL.out]; omega) (by rw [sgS_join]; have := HLN.out; omega)
        rw [sgS_join] at hc
        have HC := hidd hc
        have HB := hidd hB
        clear ho ho9 hB hc ha
        go_wp2_with fail
        refine HC.out.mono ?_
        rintro e w3 ⟨Y, rfl, hY, hB3⟩
        have HF : Hid (StrB (plT pl) w (.returned (.string Y)) w3) := ⟨_, rfl, hY, bthen HB.out hB3⟩
        clear hY hB3
        go_wp2
        go_ret
        exact HF.out
theorem plT_take_succ {pl : List Seg} {j : Nat} (h : j < pl.length) : plT (pl.take (j + 1)) = (if 0 < j then plT (pl.take j) ++ [47] else []) ++ sgT (pl.getD j noG) := by
  have e := take_succG pl j h
  by_cases h0 : 0 < j
  · rw [if_pos h0, e, plT_snoc _ _ (by intro q; have h2 : (pl.take j).length = 0 := (by rw [q]; rfl); rw [List.length_take] at h2; omega), List.append_assoc]; rfl
  · obtain rfl : j = 0 := by omega
    rw [if_neg h0, e, List.take_zero, List.nil_append, plT_one]; rfl
theorem sgT_app {O Y Z : ByteArray} {a : List UInt8} {c : Int} {p : List Int} (hO : IsS O a) (hY : IsS Y (Lib.itoa c)) (hZ : IsS Z (nmL p)) : IsS (O ++ Y ++ ⟨#[58]⟩ ++ Z) (a ++ sgT (c, p)) :=
  (((hO.app hY).app (IsS.mk [58])).app hZ).cast (by unfold sgT; simp)
set_option maxRecDepth 20000 in
set_option maxHeartbeats 1600000 in
theorem c_sFormatPlan (v : Value) (pl : List Seg) (w : World) (ha : RdP w v pl) (hx : pl.length ≤ 1099511627776) (hpx : ∀ s ∈ pl, s.2.length ≤ 1099511627776) :
    Calls Tryz.prog 7 #[v] w (StrB (fplL pl) w) := by
  have hpv := c_spec_PlanValid v pl w ha hx hpx
  cases hv : planB pl
  · have E : Hid (fplL pl = []) := if_neg (by rw [hv]; decide)
    rw [hv] at hpv
    rw [E.out]
    clear hv ha hpx hx
    go_enter Tryz.func7, Tryz.ntmps7
    go_wp2_with fail
    refine hpv.mono ?_
    rintro e w1 ⟨rfl, hB1⟩
    clear hpv
    go_wp2
    go_ret
    exact ⟨_, rfl, rfl, hB1⟩
  · have hl := planB_len hv
    have HSG := hidd (fun k (hk : k < pl.length) => segG hv hk)
    rw [fplL_yes hv]
    rw [hv] at hpv
    clear hv hpx hx
    obtain ⟨a, cap, rfl, hcap⟩ := ha.form
    go_enter Tryz.func7, Tryz.ntmps7
    go_wp2_with fail
    refine hpv.mono ?_
    rintro e w1 ⟨rfl, hB1⟩
    clear hpv
    go_wp2
    go_loopw [3, 4] (fun o i wr => ∃ (j : Nat) (O : ByteArray), j ≤ pl.length ∧ i = .int .i64 j ∧ o = .string O ∧ IsS O (plT (pl.take j)) ∧ O.size ≤ j * 145 ∧ Below w.heap.size w wr) (fun _ i _ => pl.length - (intOf i).toNat)
    case atStart => exact ⟨0, ⟨#[]⟩, by omega, rfl, rfl, rfl, by show 0 ≤ _; omega, hB1⟩
    case round =>
      obtain ⟨j, O, hj, rfl, rfl, hO, hs, hB⟩ := hrel
      clear hB1
      by_cases hlt : j < pl.length
      · obtain ⟨b, o, pa, pn, pc, rfl, hb, e1, e2, hp, hpc, hpn⟩ := ha.cell hB hlt
        have hsg := segB_iff (HSG.out j hlt)
        have HT := hidd (plT_take_succ hlt)
        obtain ⟨s, hss⟩ : ∃ s, pl.getD j noG = s := ⟨_, rfl⟩
        rw [hss] at e1 hp hsg HT hpn
        obtain ⟨C, p⟩ := s
        obtain ⟨c1, c2, hpb, _⟩ := hsg
        have c1 : 1 ≤ C := c1
        have c2 : C ≤ 60 := c2
        have hpb : polyB p = true := hpb
        have hpn : pn = p.length := hpn
        subst hpn
        have e1 : wr.cell? ⟨b, o + j * 2, none⟩ = some (.int .i64 (C)) := e1
        have hp : RdI w (.slice pa p.length pc) p := hp
        have hnl := poly_nm hpb
        have hil : (Lib.itoa C).length ≤ 17 := itoa_small (by omega)
        have i1 : (0 : Int) ≤ (j : Int) := by omega
        have i2 : (j : Int) < (pl.length : Int) := by omega
        have hk0 : Below w.heap.size w wr.drew ∧ wr.drew.cell? ⟨b, o + j * 2, none⟩ = some (.int .i64 (C)) ∧ wr.drew.cell? ⟨b, o + j * 2 + 1, none⟩ = some (.slice pa p.length pc) := ⟨hB.drew, e1, e2⟩
        have HIO : Hid (∀ W, (Below w.heap.size w W ∧ W.cell? ⟨b, o + j * 2, none⟩ = some (.int .i64 (C)) ∧ W.cell? ⟨b, o + j * 2 + 1, none⟩ = some (.slice pa p.length pc)) → Calls Tryz.prog 26 #[(.int .i64 (C))] W (StrB (Lib.itoa C) W)) := fun W h => c_l9Dec C W (by omega) (by omega)
        have HFP : Hid (∀ W, (Below w.heap.size w W ∧ W.cell? ⟨b, o + j * 2, none⟩ = some (.int .i64 (C)) ∧ W.cell? ⟨b, o + j * 2 + 1, none⟩ = some (.slice pa p.length pc)) → Calls Tryz.prog 27 #[.slice pa p.length pc] W (StrB (nmL p) W)) := fun W h => by
          have := c_sFormatPoly (.slice pa p.length pc) p W (hp.kept h.1) (by have := (polyB_iff hpb).2.1; omega)
          rwa [fpL_yes hpb] at this
        have HO := hidd hO
        clear hss hp hpc ha hO hpb
        by_cases h0 : 0 < j
        · have h0' : (0 : Int) < (j : Int) := by omega
          go_wp2
          clear e1 e2 hB
          go_region_held3 (fun wx => Below w.heap.size w wx ∧ wx.cell? ⟨b, o + j * 2, none⟩ = some (.int .i64 (C)) ∧ wx.cell? ⟨b, o + j * 2 + 1, none⟩ = some (.slice pa p.length pc)) (first | assumption | exact hk0 | exact keepP2 hb (by assumption) (by assumption))
            (first | (go_at_call 26; refine (HIO.out _ (by assumption)).mono ?_; rintro e w6 ⟨Y, rfl, hY, hb6⟩; have hys : Y.size ≤ 17 := (by rw [hY.size]; exact hil); have g5 : (9223372036854775807 < O.size + 1 + Y.size) = False := eq_false (by omega); have g7 : (9223372036854775807 < O.size + 1 + Y.size + 1) = False := eq_false (by omega)) | (go_at_call 27; refine (HFP.out _ (by assumption)).mono ?_; rintro e w7 ⟨Z, rfl, hZ, hb7⟩; have hzs : Z.size ≤ 126 := (by rw [hZ.size]; exact hnl); have g6 : (9223372036854775807 < O.size + 1 + Y.size + 1 + Z.size) = False := eq_false (by omega)))
          rename_i hS
          have HF : Hid (IsS (O ++ ⟨#[47]⟩ ++ Y ++ ⟨#[58]⟩ ++ Z) (plT (pl.take (j + 1))) ∧ (O ++ ⟨#[47]⟩ ++ Y ++ ⟨#[58]⟩ ++ Z).size ≤ (j + 1) * 145 ∧ Below w.heap.size w w7) := by
            refine ⟨?_, ?_, hS.1⟩
            · rw [HT.out, if_pos h0]; exact sgT_app (HO.out.app (IsS.mk [47])) hY hZ
            · simp only [ByteArray.size_append, show (ByteArray.mk #[47]).size = 1 from rfl, show (ByteArray.mk #[58]).size = 1 from rfl]; omega
          clear hS hk0 hY hZ hb6 hb7 hys hzs g5 g6 g7
          go_wp2
          go_roundw
          case rel => exact ⟨j + 1, _, by omega, by go_num, rfl, HF.out⟩
          case measure => simp [intOf]; omega
        · have h0' : ¬ (0 : Int) < (j : Int) := by omega
          go_wp2
          clear e1 e2 hB
          go_region_held3 (fun wx => Below w.heap.size w wx ∧ wx.cell? ⟨b, o + j * 2, none⟩ = some (.int .i64 (C)) ∧ wx.cell? ⟨b, o + j * 2 + 1, none⟩ = some (.slice pa p.length pc)) (first | assumption | exact hk0 | exact keepP2 hb (by assumption) (by assumption))
            (first | (go_at_call 26; refine (HIO.out _ (by assumption)).mono ?_; rintro e w6 ⟨Y, rfl, hY, hb6⟩; have hys : Y.size ≤ 17 := (by rw [hY.size]; exact hil); have g5 : (9223372036854775807 < O.size + Y.size) = False := eq_false (by omega); have g7 : (9223372036854775807 < O.size + Y.size + 1) = False := eq_false (by omega)) | (go_at_call 27; refine (HFP.out _ (by assumption)).mono ?_; rintro e w7 ⟨Z, rfl, hZ, hb7⟩; have hzs : Z.size ≤ 126 := (by rw [hZ.size]; exact hnl); have g6 : (9223372036854775807 < O.size + Y.size + 1 + Z.size) = False := eq_false (by omega)))
          rename_i hS
          have HF : Hid (IsS (O ++ Y ++ ⟨#[58]⟩ ++ Z) (plT (pl.take (j + 1))) ∧ (O ++ Y ++ ⟨#[58]⟩ ++ Z).size ≤ (j + 1) * 145 ∧ Below w.heap.size w w7) := by
            refine ⟨?_, ?_, hS.1⟩
            · rw [HT.out, if_neg h0]; exact sgT_app ((show IsS O [] from HO.out.cast (by have : j = 0 := (by omega); subst this; rfl))) hY hZ
            · simp only [ByteArray.size_append, show (ByteArray.mk #[58]).size = 1 from rfl]; omega
          clear hS hk0 hY hZ hb6 hb7 hys hzs g5 g6 g7
          go_wp2
          go_roundw
          case rel => exact ⟨j + 1, _, by omega, by go_num, rfl, HF.out⟩
          case measure => simp [intOf]; omega
      · have HF : Hid (StrB (plT pl) w (.returned (.string O)) wr) := ⟨_, rfl, by rw [List.take_of_length_le (by omega)] at hO; exact hO, hB⟩
        clear hO hB ha
        go_wp2
        go_ret
        exact HF.out
end Go.Proofs.YtdfnclnjnmdboaaGreatDoor
