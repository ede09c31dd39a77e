/- Contracts: the laws' helpers on []int: equal, marked, held, copied. -/
import Derived.Test.YtdfnclnjnmdboaaDoorApp
import Derived.Deep.Light
import Derived.Deep.QuietTactic
import Derived.BigQuiet
import Derived.WalkSmall
import Derived.WalkLawsBesides
namespace Go.Proofs.YtdfnclnjnmdboaaDoor
set_option linter.unusedVariables false
open Go.RowKit

theorem take_eq_step {xs ys : List Int} {k : Nat} (h1 : k < xs.length) (h2 : k < ys.length) (h : xs.take k = ys.take k) (e : xs.getD k 0 = ys.getD k 0) : xs.take (k + 1) = ys.take (k + 1) := by
  rw [List.take_add_one, List.take_add_one, h]
  simp [List.getD, h1, h2] at e
  simp [h1, h2, e]

abbrev OwnI (w : World) (base : Nat) (v : Value) (xs : List Int) : Prop := w.ownsRow base 3 1 v xs.length (xs.map (Value.int .i64))
set_option maxRecDepth 20000 in
theorem c_eqIntS (va vb : Value) (xs ys : List Int) (w : World) (ha : RdI w va xs) (hb : RdI w vb ys) (hx : xs.length ≤ 9223372036854775807) (hy : ys.length ≤ 9223372036854775807) :
    Calls Tryd.prog 47 #[va, vb] w fun e w' => e = .returned (.bool (decide (xs = ys))) ∧ Below w.heap.size w w' := by
  by_cases hl : xs.length = ys.length
  · have ha0 := ha.op
    have hb0 := hb.op
    clear ha hb
    rcases ha0 with ⟨a, cap, rfl, rfl⟩ | ⟨b1, o1, c1, rfl, hb1, h1⟩
    · have hy0 : ys = [] := List.eq_nil_of_length_eq_zero (by simpa using hl.symm)
      subst hy0
      have : ∃ a c, vb = .slice a 0 c := by rcases hb0 with ⟨a, c, e, _⟩ | ⟨b, o, c, e, _⟩ <;> exact ⟨_, _, e⟩
      obtain ⟨a', c', rfl⟩ := this
      clear hb0 hl
      go_enter Tryd.func47, Tryd.ntmps47
      go_wp2
      refine wp_loop_rounds 1 ?_
      rw [rounds_succ]
      go_wp2
      go_ret
      exact ⟨by simp, Below.refl _ _⟩
    · rcases hb0 with ⟨a, cap, rfl, rfl⟩ | ⟨b2, o2, c2, rfl, hb2, h2⟩
      · have hx0 : xs = [] := List.eq_nil_of_length_eq_zero (by simpa using hl)
        subst hx0
        clear h1 hl
        go_enter Tryd.func47, Tryd.ntmps47
        go_wp2
        refine wp_loop_rounds 1 ?_
        rw [rounds_succ]
        go_wp2
        go_ret
        exact ⟨by simp, Below.refl _ _⟩
      · rw [← hl]
        have hl' : Hid (xs.length = ys.length) := hl
        clear hl
        go_enter Tryd.func47, Tryd.ntmps47
        go_wp2
        go_loopw [5] (fun i wr => ∃ k : Nat, k ≤ xs.length ∧ i = .int .i64 k ∧ xs.take k = ys.take k ∧ Below w.heap.size w wr) (fun i _ => xs.length - (intOf i).toNat)
        case atStart => exact ⟨0, by omega, rfl, by simp, Below.refl _ _⟩
        case round =>
          obtain ⟨k, hk, rfl, ht, hB⟩ := hrel
          have ht' : Hid (xs.take k = ys.take k) := ht
          clear ht
          by_cases hlt : k < xs.length
          · have e1 : wr.cell? ⟨b1, o1 + k, none⟩ = some (.int .i64 (xs.getD k 0)) := by rw [(bcell hB).1 _ _ hb1]; exact h1 k hlt
            have e2 : wr.cell? ⟨b2, o2 + k, none⟩ = some (.int .i64 (ys.getD k 0)) := by rw [(bcell hB).1 _ _ hb2]; exact h2 k (by rw [← hl'.out]; exact hlt)
            obtain ⟨x, hxk⟩ : ∃ x, xs.getD k 0 = x := ⟨_, rfl⟩
            obtain ⟨y, hyk⟩ : ∃ y, ys.getD k 0 = y := ⟨_, rfl⟩
            rw [hxk] at e1
            rw [hyk] at e2
            have hxk' : Hid (xs.getD k 0 = x) := hxk
            have hyk' : Hid (ys.getD k 0 = y) := hyk
            clear hxk hyk h1 h2
            have i1 : (0 : Int) ≤ (k : Int) := by omega
            have i2 : (k : Int) < (xs.length : Int) := by omega
            by_cases hxy : x = y
            · subst hxy
              go_wp2
              go_quiet (fail)
              go_wp2
              go_roundw
              case rel => exact ⟨k + 1, by omega, by go_num, take_eq_step hlt (by rw [← hl'.out]; exact hlt) ht'.out (by rw [hxk'.out, hyk'.out]), below_drewN hB _⟩
              case measure => simp [intOf]; omega
            · have hxy' : (x != y) = true := by simpa using hxy
              have hne : Hid (¬ xs = ys) := fun e => hxy (by rw [← hxk'.out, ← hyk'.out, e])
              go_wp2
              go_quiet (fail)
              go_wp2
              go_ret
              exact ⟨ret_bool (decide_eq_false hne.out).symm, below_drewN hB _⟩
          · have hkl : k = xs.length := by omega
            have hee : Hid (xs = ys) := by
              have h := ht'.out
              rw [hkl, List.take_length] at h
              rw [hl'.out, List.take_length] at h
              exact h
            clear hkl
            go_wp2
            go_ret
            exact ⟨ret_bool (decide_eq_true hee.out).symm, hB⟩
  · obtain ⟨a1, c1, rfl, _⟩ := ha
    obtain ⟨a2, c2, rfl, _⟩ := hb
    simp only [List.length_map]
    have hne : Hid (¬ xs = ys) := fun e => hl (by rw [e])
    have hl' : ((xs.length : Int) != (ys.length : Int)) = true := by simp; omega
    go_enter Tryd.func47, Tryd.ntmps47
    go_wp2
    go_ret
    exact ⟨ret_bool (decide_eq_false hne.out).symm, Below.refl _ _⟩

def marks (c : Int) (n : Nat) : List Int := (List.range n).map fun (i : Nat) => c + i
def mkS (c : Int) (k : Nat) (xs : List Int) : List Int := marks c k ++ xs.drop k
theorem marks_len (c : Int) (n : Nat) : (marks c n).length = n := by simp [marks]
theorem mkS_len (c : Int) (k : Nat) (xs : List Int) (h : k ≤ xs.length) : (mkS c k xs).length = xs.length := by simp [mkS, marks_len]; omega
theorem mkS_end (c : Int) (xs : List Int) : mkS c xs.length xs = marks c xs.length := by simp [mkS]
theorem mkS_set (c : Int) (k : Nat) (xs : List Int) (h : k < xs.length) : (mkS c k xs).set k (c + k) = mkS c (k + 1) xs := by
  unfold mkS
  rw [List.set_append_right _ _ (by rw [marks_len]; omega), marks_len, Nat.sub_self]
  have : xs.drop k = xs[k] :: xs.drop (k + 1) := List.drop_eq_getElem_cons h
  rw [this, List.set_cons_zero]
  simp [marks, List.range_succ]
theorem mkS_map_set (c : Int) (k : Nat) (xs : List Int) (h : k < xs.length) : ((mkS c k xs).map (Value.int .i64)).set k (.int .i64 (c + k)) = (mkS c (k + 1) xs).map (Value.int .i64) := by
  rw [← mkS_set c k xs h, List.map_set]

set_option maxRecDepth 20000 in
theorem c_markIntS (v : Value) (base ty : Nat) (xs : List Int) (c : Int) (w : World) (h : w.ownsRow base ty 1 v xs.length (xs.map (Value.int .i64))) (hx : xs.length ≤ 1099511627776) (hc : 0 ≤ c) (hc' : c ≤ 1099511627776) :
    Calls Tryd.prog 30 #[v, (.int .i64 (c))] w fun e w' => e = .returned (.int .i64 (c + xs.length)) ∧ w'.ownsRow base ty 1 v xs.length ((marks c xs.length).map (Value.int .i64)) ∧ w.grownBy w' v.ownBlock := by
  have h0 := h
  obtain ⟨_, h | ⟨g, cap, cur, rfl, hg, hh, h3, h4, h5, h6⟩⟩ := h
  · obtain ⟨rfl, hn⟩ := h
    have hx0 : xs = [] := List.eq_nil_of_length_eq_zero hn
    subst hx0
    clear hn
    go_enter Tryd.func30, Tryd.ntmps30
    go_wp2
    refine wp_loop_rounds 1 ?_
    rw [rounds_succ]
    go_wp2
    go_ret
    exact ⟨by simp, h0, World.grownBy.refl _ _⟩
  · clear hh h5 h6
    have hlt : g < w.heap.size := (h0.lt g rfl).2
    go_enter Tryd.func30, Tryd.ntmps30
    go_wp2
    go_loopw [1, 5] (fun q i wr => ∃ k : Nat, k ≤ xs.length ∧ i = .int .i64 k ∧ q = .int .i64 (c + k) ∧ wr.ownsRow base ty 1 (.slice (some ⟨g, 0, none⟩) xs.length cap) xs.length ((mkS c k xs).map (Value.int .i64)) ∧ w.grownBy wr (some g)) (fun _ i _ => xs.length - (intOf i).toNat)
    case atStart => exact ⟨0, by omega, rfl, by simp, by simpa [mkS, marks] using h0, World.grownBy.refl _ _⟩
    case round =>
      obtain ⟨k, hk, rfl, rfl, ho, hgr⟩ := hrel
      by_cases hlt : k < xs.length
      · have e1 : ∃ x, wr.cell? ⟨g, k, none⟩ = some x := by
          rw [ho.cellAt k (by omega)]
          exact ⟨_, List.getElem?_eq_getElem (by simp [mkS_len c k xs hk]; omega)⟩
        obtain ⟨x, e1⟩ := e1
        have e2 := ho.frozenAt k
        have ho2 := ho.stored k ((.int .i64 (c + k)))
        rw [mkS_map_set c k xs hlt] at ho2
        have hgr2 := grownBy_trans hgr (grownBy_setCell wr g k ((.int .i64 (c + k))))
        have HO : Hid (_ ∧ _) := ⟨ho2.1, hgr2⟩
        clear ho ho2 hgr hgr2 h0
        go_wp2
        go_roundw
        case rel => exact ⟨k + 1, by omega, by go_num, by rw [show c + ((k + 1 : Nat) : Int) = c + k + 1 by omega], HO.out.1, HO.out.2⟩
        case measure => simp [intOf]; omega
      · have hkl : xs.length = k := by omega
        have HO : Hid (wr.ownsRow base ty 1 (.slice (some ⟨g, 0, none⟩) xs.length cap) xs.length ((marks c xs.length).map (Value.int .i64)) ∧ w.grownBy wr (some g) ∧ xs.length = k) := ⟨by rw [← mkS_end, hkl]; rw [hkl] at ho; exact ho, hgr, hkl⟩
        clear ho hgr h0 hkl
        go_wp2
        go_ret
        exact ⟨by rw [HO.out.2.2]; rfl, HO.out.1, HO.out.2.1⟩

theorem marks_getD (c : Int) (n k : Nat) (h : k < n) : (marks c n).getD k 0 = c + k := by simp [marks, List.getD, h]

set_option maxRecDepth 20000 in
theorem c_heldIntS (v : Value) (c : Int) (n : Nat) (w : World) (ha : RdI w v (marks c n)) (hx : n ≤ 1099511627776) (hc : 0 ≤ c) (hc' : c ≤ 1099511627776) :
    Calls Tryd.prog 31 #[v, (.int .i64 (c))] w fun e w' => e = .returned (.int .i64 (c + n)) ∧ Below w.heap.size w w' := by
  rcases ha.op with ⟨a, cap, rfl, hm⟩ | ⟨b1, o1, c1, rfl, hb1, h1⟩
  · have hn : n = 0 := by have := marks_len c n; rw [hm] at this; simpa using this.symm
    subst hn
    clear hm
    go_enter Tryd.func31, Tryd.ntmps31
    go_wp2
    refine wp_loop_rounds 1 ?_
    rw [rounds_succ]
    go_wp2
    go_ret
    exact ⟨by simp, Below.refl _ _⟩
  · have h2 : ∀ i, i < n → w.cell? ⟨b1, o1 + i, none⟩ = some (.int .i64 (c + i)) := fun i hi => by rw [h1 i (by rw [marks_len]; exact hi), marks_getD c n i hi]
    clear h1 ha
    rw [marks_len]
    go_enter Tryd.func31, Tryd.ntmps31
    go_wp2
    go_loopw [1, 5] (fun q i wr => ∃ k : Nat, k ≤ n ∧ i = .int .i64 k ∧ q = .int .i64 (c + k) ∧ Below w.heap.size w wr) (fun _ i _ => n - (intOf i).toNat)
    case atStart => exact ⟨0, by omega, rfl, by simp, Below.refl _ _⟩
    case round =>
      obtain ⟨k, hk, rfl, rfl, hB⟩ := hrel
      by_cases hlt : k < n
      · have e1 : wr.cell? ⟨b1, o1 + k, none⟩ = some (.int .i64 (c + k)) := by rw [(bcell hB).1 _ _ hb1]; exact h2 k hlt
        clear h2
        go_wp2
        go_roundw
        case rel => exact ⟨k + 1, by omega, by go_num, by rw [show c + ((k + 1 : Nat) : Int) = c + k + 1 by omega], hB⟩
        case measure => simp [intOf]; omega
      · have HO : Hid (n = k) := by show n = k; omega
        go_wp2
        go_ret
        exact ⟨by rw [HO.out]; rfl, hB⟩

/-- both read as one list: true -/
theorem c_eqIntS_t (va vb : Value) (xs : List Int) (w : World) (ha : RdI w va xs) (hb : RdI w vb xs) (hx : xs.length ≤ 1099511627776) :
    Calls Tryd.prog 47 #[va, vb] w fun e w' => e = .returned (.bool true) ∧ Below w.heap.size w w' :=
  (c_eqIntS va vb xs xs w ha hb (by omega) (by omega)).mono fun _ _ ⟨h1, h2⟩ => ⟨by rw [h1]; simp, h2⟩
/-- marked: the row's block alone is written, from base on -/
theorem c_markIntS_b (v : Value) (base ty : Nat) (xs : List Int) (c : Int) (w : World) (h : w.ownsRow base ty 1 v xs.length (xs.map (Value.int .i64))) (hx : xs.length ≤ 1099511627776) (hc : 0 ≤ c) (hc' : c ≤ 1099511627776) (hb : base ≤ w.heap.size) :
    Calls Tryd.prog 30 #[v, (.int .i64 (c))] w fun e w' => e = .returned (.int .i64 (c + xs.length)) ∧ w'.ownsRow base ty 1 v xs.length ((marks c xs.length).map (Value.int .i64)) ∧ Below base w w' :=
  (c_markIntS v base ty xs c w h hx hc hc').mono fun e w' ⟨h1, h2, h3⟩ => ⟨h1, h2, below_grown h3 hb (fun k hk => (h.lt k hk).1)⟩
theorem marks_RdI {w : World} {base ty : Nat} {v : Value} {n : Nat} {c : Int} (h : w.ownsRow base ty 1 v n ((marks c n).map (Value.int .i64))) : RdI w v (marks c n) := owns_RdI h
theorem k_mark_ints (v : Value) (base : Nat) (xs : List Int) (c : Int) (w : World) (h : OwnI w base v xs) (hx : xs.length ≤ 1099511627776) (hc : 0 ≤ c) (hc' : c ≤ 1099511627776) (hb : base ≤ w.heap.size) :
    Calls Tryd.prog 30 #[v, (.int .i64 (c))] w fun e w' => e = .returned (.int .i64 (c + xs.length)) ∧ OwnI w' base v (marks c xs.length) ∧ Below base w w' ∧ w.grownBy w' v.ownBlock :=
  (c_markIntS v base 3 xs c w h hx hc hc').mono fun _ _ ⟨h1, h2, h3⟩ => ⟨h1, by unfold OwnI; rw [marks_len]; exact h2, below_grown h3 hb (fun k hk => (h.lt k hk).1), h3⟩
theorem k_held_ints (v : Value) (base : Nat) (c : Int) (n : Nat) (w : World) (ha : OwnI w base v (marks c n)) (hx : n ≤ 1099511627776) (hc : 0 ≤ c) (hc' : c ≤ 1099511627776) :
    Calls Tryd.prog 31 #[v, (.int .i64 (c))] w fun e w' => e = .returned (.int .i64 (c + n)) ∧ Below w.heap.size w w' := c_heldIntS v c n w (owns_RdI ha) hx hc hc'
theorem k_eq_ints (va vb : Value) (ba bb : Nat) (xs : List Int) (w : World) (ha : OwnI w ba va xs) (hb : OwnI w bb vb xs) (hx : xs.length ≤ 1099511627776) :
    Calls Tryd.prog 47 #[va, vb] w fun e w' => e = .returned (.bool true) ∧ Below w.heap.size w w' := c_eqIntS_t va vb xs w (owns_RdI ha) (owns_RdI hb) hx
set_option maxRecDepth 20000 in
/-- toIntS: a copy in new memory -/
theorem k_to_ints (v : Value) (xs : List Int) (w : World) (ha : RdI w v xs) (hx : xs.length ≤ 1099511627776) :
    Calls Tryd.prog 39 #[v] w fun e w' => ∃ v', e = .returned v' ∧ OwnI w' w.heap.size v' xs ∧ Below w.heap.size w w' := by
  have ha0 := ha.op
  obtain ⟨a, cap, rfl, _⟩ := ha
  rw [List.length_map] at ha0 ⊢
  go_enter Tryd.func39, Tryd.ntmps39
  go_wp2_with (at_make; refine mkfull 34 3 Tryd.underlying34 infoInt rfl (by decide) rfl _ _ rfl xs.length rfl rfl rfl rfl (by omega) ?_; intro w1 ho1 hB1 hz1)
  go_loopw [4] (fun i wr => ∃ k : Nat, k ≤ xs.length ∧ i = .int .i64 k ∧ wr.ownsRow w.heap.size 3 1 (.slice (some ⟨w.heap.size, 0, none⟩) xs.length xs.length) xs.length (fill (fun i => (.int .i64 (xs.getD i 0))) (.int .i64 (0)) k xs.length) ∧ Below w.heap.size w wr) (fun i _ => xs.length - (intOf i).toNat)
  case atStart => exact ⟨0, by omega, rfl, by rw [fill_zero]; exact ho1, hB1⟩
  case round =>
    obtain ⟨k, hk, rfl, ho, hB⟩ := hrel
    by_cases hlt : k < xs.length
    · rcases ha0 with ⟨a', cap', e1, rfl⟩ | ⟨b1, o1, c1, e0, hb1, h1⟩
      · simp at hlt
      · simp only [Value.slice.injEq] at e0
        obtain ⟨rfl, _, rfl⟩ := e0
        have e1 : wr.cell? ⟨b1, o1 + k, none⟩ = some (.int .i64 (xs.getD k 0)) := by rw [(bcell hB).1 _ _ hb1]; exact h1 k hlt
        obtain ⟨⟨x, e2⟩, e3, ho2⟩ := fill_step ho hlt
        obtain ⟨y, hy⟩ : ∃ y, xs.getD k 0 = y := ⟨_, rfl⟩
        rw [hy] at e1
        have HO : Hid (_ ∧ _ ∧ _) := ⟨ho2, hB.setCell (p := ⟨w.heap.size, k, none⟩) (Nat.le_refl _) (.int .i64 (xs.getD k 0)), hy⟩
        clear ho ho2 hB ho1 hB1 h1 hy
        go_wp2
        go_roundw
        case rel => exact ⟨k + 1, by omega, by go_num, by have h := HO.out.1; rw [HO.out.2.2] at h; exact h, by have h := HO.out.2.1; rw [HO.out.2.2] at h; exact h⟩
        case measure => simp [intOf]; omega
    · have HO : Hid (OwnI wr w.heap.size (.slice (some ⟨w.heap.size, 0, none⟩) xs.length xs.length) xs ∧ Below w.heap.size w wr) := by
        have : k = xs.length := by omega
        subst this
        rw [fill_end] at ho
        refine ⟨?_, hB⟩
        have e : (List.range xs.length).map (fun i => (.int .i64 (xs.getD i 0))) = xs.map (Value.int .i64) := by
          apply List.ext_getElem
          · simp
          · intro i h1 h2; simp at h1; simp [List.getD, h1]
        rw [e] at ho
        exact ho
      clear ho hB ho1 hB1 ha0
      go_wp2
      go_ret
      exact ⟨_, rfl, HO.out.1, HO.out.2⟩
end Go.Proofs.YtdfnclnjnmdboaaDoor
