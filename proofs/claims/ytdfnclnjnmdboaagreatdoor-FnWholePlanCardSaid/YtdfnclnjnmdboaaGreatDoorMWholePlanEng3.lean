/- Lemmas and contracts for WholePlan (Eng3 Eng4 Eng5 Eng6 Eng7 Eng8): plain words on memory, contracts of the functions that the law reaches. No condition but what each states. -/
import Derived.Test.YtdfnclnjnmdboaaGreatDoorMWholePlanEng1
import Derived.Test.YtdfnclnjnmdboaaGreatDoorMWholePlanMstr
import Derived.Test.YtdfnclnjnmdboaaGreatDoorMWholePlanAppN
import Derived.Test.YtdfnclnjnmdboaaGreatDoorMWholePlanPoly7
import Derived.WalkSpells
import Derived.Test.YtdfnclnjnmdboaaGreatDoorMWholePlanTab
namespace Go.Proofs.YtdfnclnjnmdboaaGreatDoor
set_option linter.unusedVariables false
open Go.RowKit

theorem one_strs (xs : List ByteArray) : ∀ y ∈ xs.map Value.string, y.oneCell' = true := by
  intro y hy; obtain ⟨z, _, rfl⟩ := List.mem_map.1 hy; rfl
theorem RdN_strs {w : World} {u : Value} {xs : List ByteArray} (h : RdS w u xs) : RdN w 1 u xs.length (xs.map Value.string) := by
  have := RdN_of_RdL h
  rwa [List.length_map] at this
set_option maxRecDepth 20000 in
theorem c_cloneS (v : Value) (xs : List ByteArray) (w : World) (ha : RdS w v xs) (hx : xs.length ≤ 1099511627776) :
    Calls Tryz.prog 147 #[v] w (FreshS w xs) := by
  have ha0 := ha
  obtain ⟨a, cap, rfl, ha1⟩ := ha0
  simp only [List.length_map] at ha ⊢
  cases a with
  | none =>
    have hx0 : xs = [] := by
      rcases ha1 with h | ⟨b, off, e, _⟩
      · simpa using h
      · cases e
    subst hx0
    have hq : ∀ W, (binOp .eql 47 (.slice none 0 cap) (.slice none 0 0)).run Tryz.prog W = .ok (.bool true) W := fun W => Lib.run_eql_slice_nil W _ _ none _ _ _ _ Tryz.underlying47
    clear ha1 ha
    go_enter Tryz.func147, Tryz.ntmps147
    go_wp2
    go_ret
    exact ⟨_, rfl, OwnS_nil _ _, Below.refl _ _⟩
  | some b =>
    have hB0 : Below w.heap.size w (w.alloc (.cells #[] 9)) := (Below.refl _ _).alloc (Nat.le_refl _) _
    have ho0 := OwnS_made w w.heap.size (Nat.le_refl _)
    have har : RdL (w.alloc (.cells #[] 9)) (.slice (some b) xs.length cap) (xs.map Value.string) := ha.kept hB0
    have hq : ∀ W, (binOp .eql 47 (.slice (some b) xs.length cap) (.slice none 0 0)).run Tryz.prog W = .ok (.bool false) W := fun W => Lib.run_eql_slice_nil W _ _ (some b) _ _ _ _ Tryz.underlying47
    clear ha1 ha
    go_enter Tryz.func147, Tryz.ntmps147
    go_wp2_with (at_builtin; refine sprR 47 9 Tryz.underlying47 infoStr rfl (by decide) rfl _ _ rfl w.heap.size _ _ _ rfl ho0 b xs.length cap _ rfl har ?c1 ?c2 ?c3 ?_)
    case c1 => exact one_strs xs
    case c2 => omega
    case c3 => simp
    intro v' w' ho hg hin
    have HF : Hid (FreshS w xs (.returned v') w') := ⟨_, rfl, by simpa [OwnS] using ho, hB0.grown hg (by simp) (fun j hj => by cases hj; exact Nat.le_refl _)⟩
    clear ho hg hin hB0 ho0 har
    go_wp2
    go_ret
    exact HF.out
/-- the numbers of an engine after i of its columns have turned -/
def midE (vs : List Int) (i : Nat) : List Int := (trnI vs).take i ++ vs.drop i
theorem midE_len (vs : List Int) (i : Nat) (h : i ≤ vs.length) : (midE vs i).length = vs.length := by simp [midE, trnI_len]; omega
theorem midE_zero (vs : List Int) : midE vs 0 = vs := by simp [midE]
theorem midE_end (vs : List Int) {i : Nat} (h : vs.length ≤ i + 1) : midE vs i = trnI vs := by
  apply ext_getD
  · by_cases hi : i ≤ vs.length
    · rw [midE_len _ _ hi, trnI_len]
    · simp [midE, trnI_len]; omega
  · intro k hk
    unfold midE
    by_cases hki : k < i
    · by_cases hkv : k < vs.length
      · have : k < ((trnI vs).take i).length := by simp [trnI_len]; omega
        simp only [List.getD, List.getElem?_append_left this]
        rw [List.getElem?_take_of_lt hki]
      · simp [midE, trnI_len] at hk; omega
    · have hk2 : k < vs.length := by simp [midE, trnI_len] at hk; omega
      have e : k = i := by omega
      subst e
      have h2 : ((trnI vs).take k).length = k := by simp [trnI_len]; omega
      rw [trnI_getD]
      have h3 : vs.getD (k + 1) 0 = 0 := by simp [List.getD, show vs.length ≤ k + 1 by omega]
      rw [h3]
      simp only [List.getD]
      rw [List.getElem?_append_right (by omega), h2]
      simp
theorem midE_set (k : Nat) (vs : List Int) (i : Nat) (h : i < vs.length) : ((cols k (midE vs i)).map Value.string).set i (.string (colS k (vs.getD i 0 + vs.getD (i + 1) 0))) = (cols k (midE vs (i + 1))).map Value.string := by
  have h1 : ((trnI vs).take i).length = i := by simp [trnI_len]; omega
  have h2 : (trnI vs).take (i + 1) = (trnI vs).take i ++ [vs.getD i 0 + vs.getD (i + 1) 0] := by
    rw [List.take_add_one, ← trnI_getD]
    congr 1
    have : i < (trnI vs).length := by rw [trnI_len]; exact h
    simp [List.getD, this]
  have h3 : vs.drop i = vs.getD i 0 :: vs.drop (i + 1) := by
    rw [List.drop_eq_getElem_cons h]; simp [List.getD, h]
  have e1 : (cols k (midE vs i)).map Value.string = (cols k ((trnI vs).take i)).map Value.string ++ .string (colS k (vs.getD i 0)) :: (cols k (vs.drop (i + 1))).map Value.string := by
    unfold midE cols
    rw [h3, List.map_append, List.map_append, List.map_cons, List.map_cons]
  have e2 : (cols k (midE vs (i + 1))).map Value.string = (cols k ((trnI vs).take i)).map Value.string ++ .string (colS k (vs.getD i 0 + vs.getD (i + 1) 0)) :: (cols k (vs.drop (i + 1))).map Value.string := by
    unfold midE cols
    rw [h2, List.append_assoc, List.map_append, List.map_append]
    rfl
  have h4 : ((cols k ((trnI vs).take i)).map Value.string).length = i := by rw [List.length_map, cols_len, h1]
  rw [e1, e2, List.set_append_right _ _ (by rw [h4]; exact Nat.le_refl _), h4, Nat.sub_self, List.set_cons_zero]
theorem keepY {w wa wb : World} {b o o' : Nat} {v0 v1 : Value} (e0 : w.cell? ⟨b, o, none⟩ = some v0) (e1 : w.cell? ⟨b, o', none⟩ = some v1) (hb : b < w.heap.size) (h : Below w.heap.size w wa ∧ wa.cell? ⟨b, o, none⟩ = some v0 ∧ wa.cell? ⟨b, o', none⟩ = some v1) (k : Below wa.heap.size wa wb) :
    Below w.heap.size w wb ∧ wb.cell? ⟨b, o, none⟩ = some v0 ∧ wb.cell? ⟨b, o', none⟩ = some v1 :=
  keepC e0 e1 hb (bthen h.1 k)
theorem keepZ {w wa : World} {b o o' g j : Nat} {v0 v1 u : Value} (e0 : w.cell? ⟨b, o, none⟩ = some v0) (e1 : w.cell? ⟨b, o', none⟩ = some v1) (hb : b < w.heap.size) (hg : w.heap.size ≤ g) (h : Below w.heap.size w wa ∧ wa.cell? ⟨b, o, none⟩ = some v0 ∧ wa.cell? ⟨b, o', none⟩ = some v1) :
    Below w.heap.size w (wa.setCell ⟨g, j, none⟩ u) ∧ (wa.setCell ⟨g, j, none⟩ u).cell? ⟨b, o, none⟩ = some v0 ∧ (wa.setCell ⟨g, j, none⟩ u).cell? ⟨b, o', none⟩ = some v1 :=
  keepC e0 e1 hb (h.1.setCell (p := ⟨g, j, none⟩) hg _)
theorem setE {w : World} {base g n rc k i : Nat} {vs : List Int} (h : w.ownsRow base 9 1 (.slice (some ⟨g, 0, none⟩) n rc) n ((cols k (midE vs i)).map Value.string)) (hi : i < vs.length) :
    (w.setCell ⟨g, i, none⟩ (.string (colS k (vs.getD i 0 + vs.getD (i + 1) 0)))).ownsRow base 9 1 (.slice (some ⟨g, 0, none⟩) n rc) n ((cols k (midE vs (i + 1))).map Value.string) := by
  have := (h.stored i (.string (colS k (vs.getD i 0 + vs.getD (i + 1) 0)))).1
  rwa [midE_set k vs i hi] at this
theorem RdS_form {w : World} {v : Value} {xs : List ByteArray} (h : RdS w v xs) : ∃ a cap, v = .slice a xs.length cap := by
  obtain ⟨a, cap, e, _⟩ := h
  exact ⟨a, cap, by rw [e]; simp⟩
theorem OwnS_form {w : World} {base : Nat} {v : Value} {xs : List ByteArray} (h : OwnS w base v xs) (hl : 1 ≤ xs.length) : ∃ g cap, v = .slice (some ⟨g, 0, none⟩) xs.length cap ∧ base ≤ g ∧ g < w.heap.size ∧ xs.length ≤ cap := by
  have h0 := h
  obtain ⟨_, ⟨rfl, hn⟩ | ⟨g, cap, cur, rfl, hg, hh, h3, r⟩⟩ := h
  · omega
  · exact ⟨g, cap, rfl, hg, (h0.lt g rfl).2, h3⟩
set_option maxRecDepth 20000 in
set_option maxHeartbeats 1600000 in
theorem c_turnedOnce (k : Nat) (v : Value) (vs : List Int) (w : World) (ha : RdS w v (cols k vs)) (h1 : 1 ≤ k) (h2 : k ≤ 12) (hv : 1 ≤ vs.length) (hl : vs.length ≤ 7) :
    Calls Tryz.prog 118 #[v] w (FreshS w (cols k (trnI vs))) := by
  have hcl := c_cloneS v _ w ha (by rw [cols_len]; omega)
  obtain ⟨a, cap, rfl⟩ := RdS_form ha
  have HA : Hid (∀ (x y : Int) W, Calls Tryz.prog 148 #[.string (colS k x), .string (colS k y)] W fun e w' => e = .returned (.tuple #[.string (colS k (x + y)), .bool true]) ∧ Below W.heap.size W w') := fun x y W => c_AddColumns k x y W h1 h2
  rw [cols_len] at hcl ha ⊢
  go_enter Tryz.func118, Tryz.ntmps118
  go_wp2_with fail
  refine hcl.mono ?_
  rintro e w1 ⟨r, rfl, ho, hB1⟩
  obtain ⟨g, rc, rfl, hg, hg1, hrc⟩ := OwnS_form ho (by rw [cols_len]; exact hv)
  unfold OwnS at ho
  rw [cols_len] at ho hrc ⊢
  clear hcl
  go_wp2
  go_loopw [4] (fun i wr => ∃ j : Nat, j ≤ vs.length ∧ i = .int .i64 j ∧ wr.ownsRow w.heap.size 9 1 (.slice (some ⟨g, 0, none⟩) vs.length rc) vs.length ((cols k (midE vs j)).map Value.string) ∧ Below w.heap.size w wr) (fun i _ => vs.length - (intOf i).toNat)
  case atStart => exact ⟨0, by omega, rfl, by rw [midE_zero]; exact ho, hB1⟩
  case round =>
    obtain ⟨j, hj, rfl, ho', hB⟩ := hrel
    clear ho hB1
    by_cases hlt : j + 1 < vs.length
    · obtain ⟨b, o, rfl, hb, e0⟩ := RdS_cell ha (Below.refl _ _) (k := j) (by rw [cols_len]; omega)
      obtain ⟨b', o', e9, hb', e1⟩ := RdS_cell ha (Below.refl _ _) (k := j + 1) (by rw [cols_len]; omega)
      simp only [Option.some.injEq, Addr.mk.injEq] at e9
      obtain ⟨rfl, rfl, _⟩ := e9
      rw [cols_getD k vs j (by omega)] at e0
      rw [cols_getD k vs (j + 1) hlt] at e1
      have HS := hidd (fun (W : World) (h : W.ownsRow w.heap.size 9 1 (.slice (some ⟨g, 0, none⟩) vs.length rc) vs.length ((cols k (midE vs j)).map Value.string)) => setE h (by omega))
      have HAC := hidd (HA.out (vs.getD j 0) (vs.getD (j + 1) 0))
      obtain ⟨X, hX⟩ : ∃ X, colS k (vs.getD j 0) = X := ⟨_, rfl⟩
      obtain ⟨Y, hY⟩ : ∃ Y, colS k (vs.getD (j + 1) 0) = Y := ⟨_, rfl⟩
      obtain ⟨Z, hZ⟩ : ∃ Z, colS k (vs.getD j 0 + vs.getD (j + 1) 0) = Z := ⟨_, rfl⟩
      rw [hX, hY, hZ] at HAC
      rw [hX] at e0
      rw [hY] at e1
      rw [hZ] at HS
      have i0 : (0 : Int) ≤ (j : Int) := by omega
      have i1 : (j : Int) < (vs.length : Int) := by omega
      have i2 : (0 : Int) ≤ (j : Int) + 1 := by omega
      have i3 : (j : Int) + 1 < (vs.length : Int) := by omega
      have i4 : ((j : Int) + 1).toNat = j + 1 := by omega
      have i5 : IntKind.i64.wrap ((j : Int) + 1) = (j : Int) + 1 := IntWalk.i64_in _ (by omega)
      have hBd : Below w.heap.size w wr.drew := hB.drew
      have hod : wr.drew.ownsRow w.heap.size 9 1 (.slice (some ⟨g, 0, none⟩) vs.length rc) vs.length ((cols k (midE vs j)).map Value.string) := ho'
      have hk0 := keepC e0 e1 hb hBd
      have HL : Hid (j < ((cols k (midE vs j)).map Value.string).length) := by show _ < _; rw [List.length_map, cols_len, midE_len _ _ (by omega)]; omega
      have hjl : j < vs.length * 1 := by omega
      clear hX hY hZ ho' hB ha
      go_wp2
      go_region_held3 (fun wx => Below w.heap.size w wx ∧ wx.cell? ⟨b, o + j, none⟩ = some (.string X) ∧ wx.cell? ⟨b, o + (j + 1), none⟩ = some (.string Y)) (first | assumption | exact hk0 | exact keepY e0 e1 hb (by assumption) (by assumption) | exact keepZ e0 e1 hb hg (by assumption))
        ((go_at_call 148; refine (HAC.out _).mono ?_; rintro e w6 ⟨rfl, hb6⟩; have q1 := ownsRow_kept_below hod hb6; obtain ⟨y, e2⟩ : ∃ y, w6.cell? ⟨g, j, none⟩ = some y := ⟨_, by rw [q1.cellAt j hjl]; exact List.getElem?_eq_getElem HL.out⟩; have e3 := q1.frozenAt j))
      rename_i hS
      have HN := hidd (HS.out _ q1)
      have HB := hidd hS.1
      clear hS hk0 e2 e3 hBd q1 hb6 hod
      go_wp2
      go_roundw
      case rel => exact ⟨j + 1, by omega, by go_num, HN.out, HB.out⟩
      case measure => simp [intOf]; omega
    · have HF : Hid (FreshS w (cols k (trnI vs)) (.returned (.slice (some ⟨g, 0, none⟩) vs.length rc)) wr) := by
        refine ⟨_, rfl, ?_, hB⟩
        rw [midE_end vs (by omega)] at ho'
        unfold OwnS
        rw [cols_len, trnI_len]
        exact ho'
      have hlt' : ¬ ((j : Int) + 1 < (vs.length : Int)) := by omega
      have i5 : IntKind.i64.wrap ((j : Int) + 1) = (j : Int) + 1 := IntWalk.i64_in _ (by omega)
      clear ho' hB ha
      go_wp2
      go_ret
      exact HF.out
end Go.Proofs.YtdfnclnjnmdboaaGreatDoor

namespace Go.Proofs.YtdfnclnjnmdboaaGreatDoor
set_option linter.unusedVariables false
open Go.RowKit

/-- an engine is returned; nothing old has turned -/
def FreshE (w : World) (xs : List ByteArray) (e : Ending) (w' : World) : Prop := ∃ v, e = .returned (.agg #[v]) ∧ OwnS w' w.heap.size v xs ∧ Below w.heap.size w w'
def FreshEB (w : World) (xs : List ByteArray) (b : Bool) (e : Ending) (w' : World) : Prop := ∃ v, e = .returned (.tuple #[.agg #[v], .bool b]) ∧ OwnS w' w.heap.size v xs ∧ Below w.heap.size w w'
theorem leaveE {w W : World} {u : Value} {xs : List ByteArray} (ho : OwnS W (w.heap.size + 2) u xs) (hB : Below w.heap.size w W) (y : Value) :
    OwnS (W.setCell ⟨w.heap.size + 1, 0, none⟩ y) w.heap.size u xs ∧ Below w.heap.size w (W.setCell ⟨w.heap.size + 1, 0, none⟩ y) :=
  ⟨ownsRow_monoS (ownsRow_kept_new ho (grownBy_setCell W (w.heap.size + 1) 0 y) (fun j hj => by cases hj; omega)) (by omega), hB.setCell (p := ⟨w.heap.size + 1, 0, none⟩) (by simp) _⟩
/-- the columns of an engine, in a world above -/
theorem col_cells {w w1 : World} {a : Option Addr} {k cap : Nat} {vs : List Int} (ha : RdS w (.slice a vs.length cap) (cols k vs)) (hB : Below w.heap.size w w1) {j : Nat} (hj : j < vs.length) :
    ∃ b o, a = some ⟨b, o, none⟩ ∧ b < w.heap.size ∧ w1.cell? ⟨b, o + j, none⟩ = some (.string (colS k (vs.getD j 0))) := by
  obtain ⟨b, o, e, hb, hc⟩ := RdS_cell ha hB (k := j) (by rw [cols_len]; exact hj)
  rw [cols_getD k vs j hj] at hc
  exact ⟨b, o, e, hb, hc⟩

set_option maxRecDepth 20000 in
set_option maxHeartbeats 1600000 in
theorem c_impl_EngineValid (k : Nat) (v : Value) (vs : List Int) (w : World) (ha : RdS w v (cols k vs)) (h1 : 1 ≤ k) (h2 : k ≤ 12) (hv : 1 ≤ vs.length) (hl : vs.length ≤ 7) :
    Calls Tryz.prog 116 #[.agg #[v]] w fun e w' => e = .returned (.bool true) ∧ Below w.heap.size w w' := by
  have HAL : Hid (∀ (x y : Int) W, Calls Tryz.prog 145 #[.string (colS k x), .string (colS k y)] W fun e w' => e = .returned (.bool true) ∧ W = w') := fun x y W => c_alikeC k x y W h1 h2
  obtain ⟨a, cap, rfl⟩ := RdS_form ha
  rw [cols_len] at ha ⊢
  have hB0 : Below w.heap.size w (w.alloc (.cells #[.slice a vs.length cap] 73)) := (Below.refl _ _).alloc (Nat.le_refl _) _
  have e9 : (w.alloc (.cells #[.slice a vs.length cap] 73)).cell? ⟨w.heap.size, 0, none⟩ = some (.slice a vs.length cap) := by simp [go_sem]
  obtain ⟨b, o, rfl, hb, e0⟩ := col_cells ha hB0 (j := 0) (by omega)
  rw [Nat.add_zero] at e0
  have HC := hidd (fun j (hj : j < vs.length) => col_cells ha hB0 (j := j) hj)
  have g0 : ((vs.length : Int) < 1) = False := by simp; omega
  have g1 : ((7 : Int) < vs.length) = False := by simp; omega
  have g2 : (0 : Int) < vs.length := by omega
  clear ha
  go_enter Tryz.func116, Tryz.ntmps116
  go_wp2
  generalize hW : w.alloc (.cells #[.slice (some ⟨b, o, none⟩) vs.length cap] 73) = w1 at *
  generalize hf : w.heap.size = f at *
  go_loopw [18] (fun i wr => ∃ j : Nat, j ≤ vs.length ∧ i = .int .i64 j ∧ wr = w1) (fun i _ => vs.length - (intOf i).toNat)
  case atStart => exact ⟨0, by omega, rfl, rfl⟩
  case round =>
    obtain ⟨j, hj, rfl, rfl⟩ := hrel
    by_cases hlt : j < vs.length
    · obtain ⟨b', o', e8, hb', ej⟩ := HC.out j hlt
      simp only [Option.some.injEq, Addr.mk.injEq] at e8
      obtain ⟨rfl, rfl, _⟩ := e8
      have HAC := hidd (HAL.out (vs.getD 0 0) (vs.getD j 0) wr)
      generalize colS k (vs.getD 0 0) = X at *
      generalize colS k (vs.getD j 0) = Y at *
      go_wp2_with fail
      refine HAC.out.mono ?_
      rintro e w6 ⟨rfl, rfl⟩
      go_wp2
      go_roundw
      case rel => exact ⟨j + 1, by omega, by go_num, trivial⟩
      case measure => simp [intOf]; omega
    · go_wp2
      go_ret
      exact ⟨rfl, by rw [hf]; exact hB0⟩

set_option maxRecDepth 20000 in
set_option maxHeartbeats 1600000 in
theorem c_TurnWhole (k : Nat) (v : Value) (vs : List Int) (w : World) (ha : RdS w v (cols k vs)) (h1 : 1 ≤ k) (h2 : k ≤ 12) (hv : 1 ≤ vs.length) (hl : vs.length ≤ 7) :
    Calls Tryz.prog 90 #[.agg #[v]] w (FreshEB w (cols k (trnI vs)) true) := by
  have hB0 : Below w.heap.size w ((w.alloc (.cells #[v] 73)).alloc (.cells #[.slice none 0 0] 73)) := ((Below.refl _ _).alloc (Nat.le_refl _) _).alloc (by simp) _
  have HEV := hidd (c_impl_EngineValid k v vs _ (ha.kept hB0) h1 h2 hv hl)
  have HTO : Hid (∀ W, Below w.heap.size w W → Calls Tryz.prog 118 #[v] W (FreshS W (cols k (trnI vs)))) := fun W hB => c_turnedOnce k v vs W (ha.kept hB) h1 h2 hv hl
  obtain ⟨a, cap, rfl⟩ := RdS_form ha
  rw [cols_len] at *
  clear ha
  go_enter Tryz.func90, Tryz.ntmps90
  go_wp2_with fail
  refine HEV.out.mono ?_
  rintro e w1 ⟨rfl, hB1⟩
  have c0 : w1.cell? ⟨w.heap.size, 0, none⟩ = some (.slice a vs.length cap) := by rw [(bcell hB1).1 _ _ (by simp; omega)]; simp [go_sem]
  have hA1 := bthen hB0 hB1
  have hz1 : w.heap.size + 2 ≤ w1.heap.size := by have := hB1.size; simp at this; omega
  have c1 : w1.cell? ⟨w.heap.size + 1, 0, none⟩ = some (.slice none 0 0) := by rw [(bcell hB1).1 _ _ (by simp)]; simp [go_sem]
  have f1 : w1.frozen? ⟨w.heap.size + 1, 0, none⟩ = false := by rw [(bcell hB1).2 _ _ (by simp)]; simp [go_sem]
  clear hB1 hB0
  go_wp2_with fail
  refine (HTO.out w1 hA1).mono ?_
  rintro e w2 ⟨u, rfl, hu, hB2⟩
  obtain ⟨bc, bf⟩ := bcell hB2
  have c2 : w2.cell? ⟨w.heap.size + 1, 0, none⟩ = some (.slice none 0 0) := by rw [bc _ _ (by omega)]; exact c1
  have f2 : w2.frozen? ⟨w.heap.size + 1, 0, none⟩ = false := by rw [bf _ _ (by omega)]; exact f1
  obtain ⟨ua, uc, rfl⟩ := RdS_form (owns_RdS hu)
  have HF := hidd (leaveE (ownsRow_monoS hu hz1) (bthen hA1 hB2) (.slice ua (cols k (trnI vs)).length uc))
  have c3 : (w2.setCell ⟨w.heap.size + 1, 0, none⟩ (.slice ua (cols k (trnI vs)).length uc)).cell? ⟨w.heap.size + 1, 0, none⟩ = some (.slice ua (cols k (trnI vs)).length uc) := World.cell?_setCell_same _ _ _ c2
  clear hu hB2 hA1 bc bf c0 c1 f1
  go_wp2
  refine bodyPost_ret (v := .tuple #[.agg #[.slice ua (cols k (trnI vs)).length uc], .bool true]) (by simp [results, Tryz.results90, go_sem, c3]) rfl ⟨_, rfl, HF.out.1, HF.out.2⟩
end Go.Proofs.YtdfnclnjnmdboaaGreatDoor

namespace Go.Proofs.YtdfnclnjnmdboaaGreatDoor
set_option linter.unusedVariables false
open Go.RowKit

theorem madeE (w : World) (x y : Obj) : (((w.alloc x).alloc y).alloc (.cells #[] 9)).ownsRow (w.heap.size + 2) 9 1 (.slice (some ⟨w.heap.size + 1 + 1, 0, none⟩) 0 0) 0 [] := by
  have := OwnS_made ((w.alloc x).alloc y) (w.heap.size + 2) (by simp)
  simpa using this
/-- while an engine turns: its own box, that of the result, that of the new engine, two columns -/
def TurS (w : World) (c3 b o1 o2 : Nat) (v r x y : Value) (wx : World) : Prop :=
  Below w.heap.size w wx ∧ c3 < wx.heap.size ∧ w.heap.size + 2 ≤ wx.heap.size ∧ wx.cell? ⟨w.heap.size, 0, none⟩ = some v ∧ wx.cell? ⟨c3, 0, none⟩ = some r ∧ wx.cell? ⟨b, o1, none⟩ = some x ∧ wx.cell? ⟨b, o2, none⟩ = some y
theorem TurS.set {w wx : World} {c3 b o1 o2 g j : Nat} {v r x y : Value} (h : TurS w c3 b o1 o2 v r x y wx) (hb : b < w.heap.size) (hg : w.heap.size + 2 ≤ g) (h3 : c3 ≠ g) (u : Value) : TurS w c3 b o1 o2 v r x y (wx.setCell ⟨g, j, none⟩ u) := by
  obtain ⟨k0, z1, z2, k1, k2, k3, k4⟩ := h
  refine ⟨k0.setCell (p := ⟨g, j, none⟩) (by show w.heap.size ≤ g; omega) _, by simpa [World.setCell] using z1, by simpa [World.setCell] using z2, ?_, ?_, ?_, ?_⟩
  · rw [World.cell?_setCell_other _ _ _ _ (by simp only [ne_eq, Addr.mk.injEq]; omega)]; exact k1
  · rw [World.cell?_setCell_other _ _ _ _ (by simp only [ne_eq, Addr.mk.injEq]; omega)]; exact k2
  · rw [World.cell?_setCell_other _ _ _ _ (by simp only [ne_eq, Addr.mk.injEq]; omega)]; exact k3
  · rw [World.cell?_setCell_other _ _ _ _ (by simp only [ne_eq, Addr.mk.injEq]; omega)]; exact k4
theorem TurS.kept {w wa wb : World} {c3 b o1 o2 : Nat} {v r x y : Value} (h : TurS w c3 b o1 o2 v r x y wa) (hb : b < w.heap.size) (k : Below wa.heap.size wa wb) : TurS w c3 b o1 o2 v r x y wb := by
  obtain ⟨k0, z1, z2, k1, k2, k3, k4⟩ := h
  have hs := k.size
  have hs0 := k0.size
  obtain ⟨bc, _⟩ := bcell k
  exact ⟨bthen k0 k, by omega, by omega, (bc _ _ (by omega)).trans k1, (bc _ _ z1).trans k2, (bc _ _ (by omega)).trans k3, (bc _ _ (by omega)).trans k4⟩
end Go.Proofs.YtdfnclnjnmdboaaGreatDoor

namespace Go.Proofs.YtdfnclnjnmdboaaGreatDoor
set_option linter.unusedVariables false
open Go.RowKit

end Go.Proofs.YtdfnclnjnmdboaaGreatDoor

namespace Go.Proofs.YtdfnclnjnmdboaaGreatDoor
set_option linter.unusedVariables false
open Go.RowKit

/-- u lies in none of the blocks f and row -/
def ApE (u : Value) (f : Nat) (row : Option Nat) : Prop := ∀ b o n c, u = .slice (some ⟨b, o, none⟩) n c → b ≠ f ∧ row ≠ some b
theorem RdS_grown {w w' : World} {u : Value} {xs : List ByteArray} {row : Option Nat} (h : RdS w u xs) (hg : w.grownBy w' row) (ha : ∀ b o n c, u = .slice (some ⟨b, o, none⟩) n c → row ≠ some b) : RdS w' u xs := by
  obtain ⟨a, cap, rfl, h⟩ := h
  refine ⟨a, cap, rfl, ?_⟩
  rcases h with h | ⟨b, off, rfl, hlt, h⟩
  · exact .inl h
  · have hb := hg.block b hlt (fun e => ha b off _ _ rfl e.symm)
    refine .inr ⟨b, off, rfl, Nat.lt_of_lt_of_le hlt hg.size, fun i hi => ?_⟩
    rw [World.cell?_of_block (a := ⟨b, off + i, none⟩) hb]
    exact h i hi
theorem ApE_own {w : World} {base f : Nat} {u : Value} {xs : List ByteArray} {row : Option Nat} (h : OwnS w base u xs) (hf : f < base) (hr : ∀ j, row = some j → j < base) : ApE u f row := by
  intro b o n c e
  subst e
  obtain ⟨_, ⟨e, _⟩ | ⟨g, cap, cur, e, hg, _⟩⟩ := h
  · cases e
  · simp only [Value.slice.injEq, Option.some.injEq, Addr.mk.injEq] at e
    obtain ⟨⟨rfl, _, _⟩, _⟩ := e
    exact ⟨by omega, fun e => by have := hr _ e; omega⟩
theorem ApE_old {w : World} {f : Nat} {u : Value} {xs : List ByteArray} {row : Option Nat} (h : RdS w u xs) (hx : 1 ≤ xs.length) (hf : w.heap.size ≤ f) (hr : ∀ j, row = some j → w.heap.size ≤ j) : ApE u f row := by
  intro b o n c e
  subst e
  rcases h.op with ⟨a, cap, e, e2⟩ | ⟨b', off, cap, e, hlt, _⟩
  · rw [e2] at hx; simp at hx
  · simp only [Value.slice.injEq, Option.some.injEq, Addr.mk.injEq] at e
    obtain ⟨⟨rfl, _, _⟩, _⟩ := e
    exact ⟨by omega, fun e => by have := hr _ e; omega⟩
/-- results, of which j are written -/
def midR (k : Nat) (vs : List Int) (c j : Nat) : List Int := runE k vs j ++ List.replicate (c - j) 0
theorem midR_len (k : Nat) (vs : List Int) {c j : Nat} (h : j ≤ c) : (midR k vs c j).length = c := by simp [midR, runE_len]; omega
theorem midR_zero (k : Nat) (vs : List Int) (c : Nat) : (midR k vs c 0).map (Value.int .i64) = List.replicate c (.int .i64 0) := by simp [midR, runE]
theorem midR_end (k : Nat) (vs : List Int) (c : Nat) : midR k vs c c = runE k vs c := by simp [midR]
theorem midR_set (k : Nat) (vs : List Int) {c j : Nat} (h : j < c) : ((midR k vs c j).map (Value.int .i64)).set j (.int .i64 (sg k ((trnN j vs).getD 0 0))) = (midR k vs c (j + 1)).map (Value.int .i64) := by
  have h4 : ((runE k vs j).map (Value.int .i64)).length = j := by rw [List.length_map, runE_len]
  obtain ⟨m, hm⟩ : ∃ m, c - j = m + 1 := ⟨c - j - 1, by omega⟩
  unfold midR
  rw [hm, show c - (j + 1) = m by omega, runE_succ, List.replicate_succ, List.append_assoc, List.map_append, List.map_append, List.set_append_right _ _ (by rw [h4]; exact Nat.le_refl _), h4, Nat.sub_self]
  rfl
theorem setR {w : World} {base g rc k c j : Nat} {vs : List Int} (h : w.ownsRow base 3 1 (.slice (some ⟨g, 0, none⟩) c rc) c ((midR k vs c j).map (Value.int .i64))) (hj : j < c) :
    (w.setCell ⟨g, j, none⟩ (.int .i64 (sg k ((trnN j vs).getD 0 0)))).ownsRow base 3 1 (.slice (some ⟨g, 0, none⟩) c rc) c ((midR k vs c (j + 1)).map (Value.int .i64)) := by
  have := (h.stored j (.int .i64 (sg k ((trnN j vs).getD 0 0)))).1
  rwa [midR_set k vs hj] at this
theorem made1E (w : World) (x : Obj) : OwnI ((w.alloc x).alloc (.cells #[] 3)) (w.heap.size + 1) (.slice (some ⟨w.heap.size + 1, 0, none⟩) 0 0) [] := by
  have := World.ownsRow_made (w.alloc x) (e := 3) (size := 1) (base := w.heap.size + 1) #[] 0 (by simp) (by decide) rfl
  simpa [OwnI] using this
end Go.Proofs.YtdfnclnjnmdboaaGreatDoor

namespace Go.Proofs.YtdfnclnjnmdboaaGreatDoor
set_option linter.unusedVariables false
open Go.RowKit

set_option maxRecDepth 20000 in
set_option maxHeartbeats 1600000 in
theorem c_resultsOf (k : Nat) (v : Value) (vs : List Int) (c : Nat) (w : World) (ha : RdS w v (cols k vs)) (h1 : 1 ≤ k) (h2 : k ≤ 12) (hv : 1 ≤ vs.length) (hl : vs.length ≤ 7) (hc : c ≤ 60) :
    Calls Tryz.prog 89 #[.agg #[v], (.int .i64 ((c : Int))), .func (.func 90) #[] #[]] w (FreshIB w (runE k vs c) true) := by
  have hB0 : Below w.heap.size w (w.alloc (.cells #[v] 73)) := (Below.refl _ _).alloc (Nat.le_refl _) _
  have HEV := hidd (c_impl_EngineValid k v vs _ (ha.kept hB0) h1 h2 hv hl)
  have HTO : Hid (∀ (j : Nat) u W, RdS W u (cols k (trnN j vs)) → Calls Tryz.prog 90 #[.agg #[u]] W (FreshEB W (cols k (trnN (j + 1) vs)) true)) := fun j u W h => by
    rw [trnN_succ]
    exact c_TurnWhole k u _ W h h1 h2 (by rw [trnN_len]; exact hv) (by rw [trnN_len]; exact hl)
  have HSG : Hid (∀ (x : Int) W, Calls Tryz.prog 117 #[.string (colS k x)] W fun e w' => e = .returned (.int .i64 (sg k x)) ∧ W = w') := fun x W => c_signed k x W h1 h2
  have HLN : Hid (∀ j, (cols k (trnN j vs)).length = vs.length) := fun j => by rw [cols_len, trnN_len]
  have HC0 : Hid (∀ j a uc W, RdS W (.slice a vs.length uc) (cols k (trnN j vs)) → ∃ b o, a = some ⟨b, o, none⟩ ∧ b < W.heap.size ∧ W.cell? ⟨b, o, none⟩ = some (.string (colS k ((trnN j vs).getD 0 0)))) := fun j a uc W h => by
    have h' : RdS W (.slice a (trnN j vs).length uc) (cols k (trnN j vs)) := by rw [trnN_len]; exact h
    obtain ⟨b, o, e, hb, hc⟩ := col_cells h' (Below.refl _ _) (j := 0) (by rw [trnN_len]; omega)
    exact ⟨b, o, e, hb, hc⟩
  have HAP := hidd (fun g (hg : w.heap.size ≤ g) => ApE_old (f := w.heap.size) (row := some g) ha (by rw [cols_len]; exact hv) (Nat.le_refl _) (fun j hj => by cases hj; omega))
  obtain ⟨a, cap, rfl⟩ := RdS_form ha
  have hr0 := ha.kept hB0
  rw [cols_len] at hr0 hB0 HEV HAP ⊢
  have g3 : ((c : Int) < 0) = False := by simp
  have g4 : ((60 : Int) < (c : Int)) = False := by simp; omega
  clear ha
  go_enter Tryz.func89, Tryz.ntmps89
  go_wp2_with fail
  refine HEV.out.mono ?_
  rintro e w1 ⟨rfl, hB1⟩
  have hz0 : (w.alloc (.cells #[.slice a vs.length cap] 73)).heap.size = w.heap.size + 1 := by simp
  have c0 : w1.cell? ⟨w.heap.size, 0, none⟩ = some (.slice a vs.length cap) := by rw [(bcell hB1).1 _ _ (by rw [hz0]; omega)]; simp [go_sem]
  have f0 : w1.frozen? ⟨w.heap.size, 0, none⟩ = false := by rw [(bcell hB1).2 _ _ (by rw [hz0]; omega)]; simp [go_sem]
  have hA1 := bthen hB0 hB1
  have hr1 : RdS w1 (.slice a vs.length cap) (cols k (trnN 0 vs)) := hr0.kept hB1
  have hz1 : w.heap.size + 1 ≤ w1.heap.size := by have := hB1.size; rw [hz0] at this; exact this
  clear hB1 hB0 hr0 hz0 HEV
  go_wp2_with (at_make; refine mkfull 32 3 Tryz.underlying32 infoInt rfl (by decide) rfl _ _ rfl c rfl rfl rfl rfl (by omega) ?_; intro w2 ho2 hB2 hz2)
  rw [← midR_zero k vs c] at ho2
  obtain ⟨bc, bf⟩ := bcell hB2
  have d0 := (bc _ _ (show w.heap.size < w1.heap.size by omega)).trans c0
  have d1 := (bf _ _ (show w.heap.size < w1.heap.size by omega)).trans f0
  have hA2 := bthen hA1 hB2
  have hr2 := hr1.kept hB2
  have hap := HAP.out w1.heap.size (by omega)
  generalize hg1 : w1.heap.size = g at *
  clear bc bf c0 f0 hA1 hr1 hB2
  go_loopw [25] (fun i wr => ∃ (j : Nat) (ua : Option Addr) (uc : Nat), j ≤ c ∧ i = .int .i64 j ∧ wr.ownsRow g 3 1 (.slice (some ⟨g, 0, none⟩) c c) c ((midR k vs c j).map (Value.int .i64)) ∧ RdS wr (.slice ua vs.length uc) (cols k (trnN j vs)) ∧ ApE (.slice ua vs.length uc) w.heap.size (some g) ∧ wr.cell? ⟨w.heap.size, 0, none⟩ = some (.slice ua vs.length uc) ∧ wr.frozen? ⟨w.heap.size, 0, none⟩ = false ∧ Below w.heap.size w wr ∧ g < wr.heap.size) (fun i _ => c - (intOf i).toNat)
  case atStart => exact ⟨0, _, _, by omega, rfl, ho2, hr2, hap, d0, d1, hA2, hz2⟩
  case round =>
    obtain ⟨j, ua, uc, hj, rfl, ho, hr, hp, q0, q1, hB, hz⟩ := hrel
    clear ho2 hr2 hap d0 d1 hA2 hz2
    by_cases hlt : j < c
    · obtain ⟨b, o, rfl, hb, e0⟩ := HC0.out j ua uc wr hr
      have HS := hidd (HSG.out ((trnN j vs).getD 0 0))
      have hlt' : (j : Int) < (c : Int) := by omega
      have g1 : (0 : Int) < (vs.length : Int) := by omega
      have HRS := hidd (setR ho hlt)
      have HHR := hidd hr
      have e2 : ∃ y, wr.cell? ⟨g, j, none⟩ = some y := ⟨_, by rw [ho.cellAt j (by omega)]; exact List.getElem?_eq_getElem (by rw [List.length_map, midR_len k vs hj]; exact hlt)⟩
      obtain ⟨y, e2⟩ := e2
      have e3 := ho.frozenAt j
      obtain ⟨X, hX⟩ : ∃ X, colS k ((trnN j vs).getD 0 0) = X := ⟨_, rfl⟩
      obtain ⟨Y, hY⟩ : ∃ Y, sg k ((trnN j vs).getD 0 0) = Y := ⟨_, rfl⟩
      rw [hX] at e0 HS
      rw [hY] at HS HRS
      have hG := grownBy_setCell wr g j (.int .i64 Y)
      have hr5 := RdS_grown HHR.out hG (fun b o n c e => (hp b o n c e).2)
      have HT := hidd (HTO.out j _ _ hr5)
      have hfg : w.heap.size < g := by omega
      have hB5 := hB.setCell (p := ⟨g, j, none⟩) (by show w.heap.size ≤ g; omega) (.int .i64 Y)
      have hq2 : (wr.setCell ⟨g, j, none⟩ (.int .i64 Y)).cell? ⟨w.heap.size, 0, none⟩ = some (.slice (some ⟨b, o, none⟩) vs.length uc) := by
        rw [World.cell?_setCell_other _ _ _ _ (by simp only [ne_eq, Addr.mk.injEq]; omega)]; exact q0
      have hq3 : (wr.setCell ⟨g, j, none⟩ (.int .i64 Y)).frozen? ⟨w.heap.size, 0, none⟩ = false := by rw [World.frozen?_setCell]; exact q1
      have hz5 : g < (wr.setCell ⟨g, j, none⟩ (.int .i64 Y)).heap.size := by simpa [World.setCell] using hz
      have HK : Hid (Below w.heap.size w (wr.setCell ⟨g, j, none⟩ (.int .i64 Y)) ∧ (wr.setCell ⟨g, j, none⟩ (.int .i64 Y)).cell? ⟨w.heap.size, 0, none⟩ = some (.slice (some ⟨b, o, none⟩) vs.length uc) ∧ (wr.setCell ⟨g, j, none⟩ (.int .i64 Y)).frozen? ⟨w.heap.size, 0, none⟩ = false ∧ g < (wr.setCell ⟨g, j, none⟩ (.int .i64 Y)).heap.size) := ⟨hB5, hq2, hq3, hz5⟩
      clear hX hY hr ho hG hr5 hB5 hq2 hq3 hz5 hB hp
      go_wp2_with fail
      refine (HS.out wr).mono ?_
      rintro e w' ⟨rfl, rfl⟩
      go_wp2_with fail
      obtain ⟨hB5, q2, q3, hz5⟩ := HK.out
      have ho6 := HRS.out
      clear HK HRS q0 q1 e0 e2 e3
      refine HT.out.mono ?_
      rintro e w6 ⟨u, rfl, hu, hB6⟩
      obtain ⟨xa, xc, rfl⟩ := RdS_form (owns_RdS hu)
      rw [HLN.out] at hu ⊢
      obtain ⟨bc, bf⟩ := bcell hB6
      have s0 := (bc _ _ (show w.heap.size < _ by omega)).trans q2
      have s1 := (bf _ _ (show w.heap.size < _ by omega)).trans q3
      have hz6 : g < w6.heap.size := Nat.lt_of_lt_of_le hz5 hB6.size
      have HB : Hid ((w6.setCell ⟨w.heap.size, 0, none⟩ (.slice xa vs.length xc)).ownsRow g 3 1 (.slice (some ⟨g, 0, none⟩) c c) c ((midR k vs c (j + 1)).map (Value.int .i64)) ∧ RdS (w6.setCell ⟨w.heap.size, 0, none⟩ (.slice xa vs.length xc)) (.slice xa vs.length xc) (cols k (trnN (j + 1) vs)) ∧ ApE (.slice xa vs.length xc) w.heap.size (some g) ∧ (w6.setCell ⟨w.heap.size, 0, none⟩ (.slice xa vs.length xc)).cell? ⟨w.heap.size, 0, none⟩ = some (.slice xa vs.length xc) ∧ (w6.setCell ⟨w.heap.size, 0, none⟩ (.slice xa vs.length xc)).frozen? ⟨w.heap.size, 0, none⟩ = false ∧ Below w.heap.size w (w6.setCell ⟨w.heap.size, 0, none⟩ (.slice xa vs.length xc)) ∧ g < (w6.setCell ⟨w.heap.size, 0, none⟩ (.slice xa vs.length xc)).heap.size) := by
        have hg := grownBy_setCell w6 w.heap.size 0 (.slice xa vs.length xc)
        refine ⟨ownsRow_kept_new (ownsRow_kept_below ho6 hB6) hg (fun q hq => by cases hq; omega), owns_RdS (ownsRow_kept_new hu hg (fun q hq => by cases hq; omega)), ?_, World.cell?_setCell_same _ _ _ s0, by rw [World.frozen?_setCell]; exact s1, (bthen hB5 hB6).setCell (p := ⟨w.heap.size, 0, none⟩) (Nat.le_refl _) _, by simpa [World.setCell] using hz6⟩
        exact ApE_own hu (by omega) (fun q hq => by cases hq; exact hz5)
      clear hu hB5 hB6 bc bf ho6 q2 q3 hz5 hz6
      go_wp2
      go_roundw
      case rel => exact ⟨j + 1, _, _, by omega, by go_num, HB.out⟩
      case measure => simp [intOf]; omega
    · obtain rfl : j = c := by omega
      have HF : Hid (OwnI wr w.heap.size (.slice (some ⟨g, 0, none⟩) j j) (runE k vs j) ∧ Below w.heap.size w wr) := by
        rw [midR_end] at ho
        have ho7 : OwnI wr g (.slice (some ⟨g, 0, none⟩) j j) (runE k vs j) := by unfold OwnI; rw [runE_len]; exact ho
        exact ⟨ownsRow_mono ho7 (by omega), hB⟩
      clear ho hB hr hp
      go_wp2
      go_ret2
      exact ⟨_, rfl, HF.out.1, HF.out.2⟩
set_option maxRecDepth 20000 in
theorem c_RunEngine (k : Nat) (v : Value) (vs : List Int) (c : Nat) (w : World) (ha : RdS w v (cols k vs)) (h1 : 1 ≤ k) (h2 : k ≤ 12) (hv : 1 ≤ vs.length) (hl : vs.length ≤ 7) (hc : c ≤ 60) :
    Calls Tryz.prog 46 #[.agg #[v], (.int .i64 ((c : Int)))] w (FreshIB w (runE k vs c) true) := by
  have hB0 : Below w.heap.size w (w.alloc (.cells #[v] 73)) := (Below.refl _ _).alloc (Nat.le_refl _) _
  have HR := hidd (c_resultsOf k v vs c _ (ha.kept hB0) h1 h2 hv hl hc)
  obtain ⟨a, cap, rfl⟩ := RdS_form ha
  clear ha
  go_enter Tryz.func46, Tryz.ntmps46
  go_wp2_with fail
  refine HR.out.mono ?_
  rintro e w1 ⟨u, rfl, hu, hB1⟩
  have HF : Hid (OwnI w1 w.heap.size u (runE k vs c) ∧ Below w.heap.size w w1) := ⟨ownsRow_mono hu (by simp), bthen hB0 hB1⟩
  clear hu hB1 hB0
  go_wp2
  go_ret2
  exact ⟨_, rfl, HF.out.1, HF.out.2⟩
end Go.Proofs.YtdfnclnjnmdboaaGreatDoor
