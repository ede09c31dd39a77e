/- Contracts: DealTable and Interleave, program and reference. -/
import Derived.Test.YtjlehpoicplmpaaMark
import Derived.Test.YtjlehpoicplmpaaApp2
namespace Go.Proofs.Ytjlehpoicplmpaa
set_option linter.unusedVariables false
open Go.RowKit

/-- the first k elements: those at even places, at odd ones -/
def evn (xs : List Int) : Nat → List Int
  | 0 => []
  | k + 1 => if (k : Int) % 2 = 0 then evn xs k ++ [xs.getD k 0] else evn xs k
def odn (xs : List Int) : Nat → List Int
  | 0 => []
  | k + 1 => if (k : Int) % 2 = 0 then odn xs k else odn xs k ++ [xs.getD k 0]
theorem evn_len (xs : List Int) (k : Nat) : (evn xs k).length ≤ k := by
  induction k with
  | zero => simp [evn]
  | succ k ih => unfold evn; split <;> (try simp) <;> omega
theorem odn_len (xs : List Int) (k : Nat) : (odn xs k).length ≤ k := by
  induction k with
  | zero => simp [odn]
  | succ k ih => unfold odn; split <;> (try simp) <;> omega
def dealA (xs : List Int) : List Int := if xs.length ≤ 60 then evn xs xs.length else []
def dealB (xs : List Int) : List Int := if xs.length ≤ 60 then odn xs xs.length else []

def DealR (w : World) (xs : List Int) (e : Ending) (w' : World) : Prop :=
  ∃ v0 v1, e = .returned (.tuple #[v0, v1]) ∧ OwnI w' w.heap.size v0 (dealA xs) ∧ OwnI w' w.heap.size v1 (dealB xs) ∧ (v1.ownBlock = none ∨ v1.ownBlock ≠ v0.ownBlock) ∧ Below w.heap.size w w'

/-- the loop's relation -/
def DealS (w : World) (xs : List Int) (k : Nat) (va vb : Value) (wr : World) : Prop :=
  OwnI wr w.heap.size va (evn xs k) ∧ OwnI wr w.heap.size vb (odn xs k) ∧ (vb.ownBlock = none ∨ vb.ownBlock ≠ va.ownBlock) ∧ Below w.heap.size w wr

theorem OwnI_snoc {w : World} {base : Nat} {v : Value} {n : Nat} {xs : List Int} {y : Int} (hn : n = xs.length) (h : w.ownsRow base 3 1 v (n + 1) (xs.map (Value.int .i64) ++ [.int .i64 y])) : OwnI w base v (xs ++ [y]) := by
  subst hn; unfold OwnI; simpa using h

theorem deal_a {w wr w1 : World} {xs : List Int} {k : Nat} {va vb v' : Value} {y : Int} (h : DealS w xs k va vb wr) (hy : xs.getD k 0 = y) (he : (k : Int) % 2 = 0)
    (ho : w1.ownsRow w.heap.size 3 1 v' ((evn xs k).length + 1) ((evn xs k).map (Value.int .i64) ++ [.int .i64 y])) (hg : wr.grownBy w1 va.ownBlock) (hi : InOld wr va v') : DealS w xs (k + 1) v' vb w1 := by
  obtain ⟨h1, h2, h3, h4⟩ := h
  obtain ⟨h5, h6⟩ := apart_app h2 h3 hi hg
  have e1 : evn xs (k + 1) = evn xs k ++ [y] := by rw [evn, if_pos he, hy]
  have e2 : odn xs (k + 1) = odn xs k := by rw [odn, if_pos he]
  exact ⟨by rw [e1]; exact OwnI_snoc rfl ho, by rw [e2]; exact h5, h6, h4.grown hg h4.size (fun j hj => (h1.lt j hj).1)⟩
theorem deal_b {w wr w1 : World} {xs : List Int} {k : Nat} {va vb v' : Value} {y : Int} (h : DealS w xs k va vb wr) (hy : xs.getD k 0 = y) (he : ¬ (k : Int) % 2 = 0)
    (ho : w1.ownsRow w.heap.size 3 1 v' ((odn xs k).length + 1) ((odn xs k).map (Value.int .i64) ++ [.int .i64 y])) (hg : wr.grownBy w1 vb.ownBlock) (hi : InOld wr vb v') : DealS w xs (k + 1) va v' w1 := by
  obtain ⟨h1, h2, h3, h4⟩ := h
  obtain ⟨h5, h6⟩ := apart_app h1 (apart_comm h3) hi hg
  have e1 : odn xs (k + 1) = odn xs k ++ [y] := by rw [odn, if_neg he, hy]
  have e2 : evn xs (k + 1) = evn xs k := by rw [evn, if_neg he]
  exact ⟨by rw [e2]; exact h5, by rw [e1]; exact OwnI_snoc rfl ho, apart_comm h6, h4.grown hg h4.size (fun j hj => (h2.lt j hj).1)⟩
theorem DealS.done {w wr : World} {xs : List Int} {va vb : Value} (h : DealS w xs xs.length va vb wr) (hl : xs.length ≤ 60) : DealR w xs (.returned (.tuple #[va, vb])) wr :=
  ⟨va, vb, rfl, by unfold dealA; rw [if_pos hl]; exact h.1, by unfold dealB; rw [if_pos hl]; exact h.2.1, h.2.2.1, h.2.2.2⟩

theorem c_impl_DealTable (v : Value) (xs : List Int) (w : World) (ha : RdI w v xs) (hx : xs.length ≤ 1099511627776) : Calls Try.prog 21 #[v] w (DealR w xs) := by
  have ha0 := ha.op
  obtain ⟨a, cap, rfl, _⟩ := ha
  rw [List.length_map] at ha0 ⊢
  by_cases hl : xs.length ≤ 60
  · go_enter Try.func21, Try.ntmps21
    go_wp2
    go_loopw [4, 5, 13] (fun va vb i wr => ∃ k : Nat, k ≤ xs.length ∧ i = .int .i64 k ∧ DealS w xs k va vb wr) (fun _ _ i _ => xs.length - (intOf i).toNat)
    case atStart => exact ⟨0, by omega, rfl, World.ownsRow_nil _ _ _ _, World.ownsRow_nil _ _ _ _, .inl rfl, Below.refl _ _⟩
    case round =>
      obtain ⟨k, hk, rfl, hS⟩ := hrel
      by_cases hlt : k < xs.length
      · rcases ha0 with ⟨a', cap', e1, rfl⟩ | ⟨b1, o1, c1, e0, hb1, h1⟩
        · simp at hlt
        · simp only [Value.slice.injEq] at e0
          obtain ⟨rfl, _, rfl⟩ := e0
          have e1 : wr.cell? ⟨b1, o1 + k, none⟩ = some (.int .i64 (xs.getD k 0)) := by rw [(bcell hS.2.2.2).1 _ _ hb1]; exact h1 k hlt
          obtain ⟨y, hy⟩ : ∃ y, xs.getD k 0 = y := ⟨_, rfl⟩
          rw [hy] at e1
          have HY : Hid (xs.getD k 0 = y) := hy
          have l1 := evn_len xs k
          have l2 := odn_len xs k
          have hBs := hS.2.2.2.size
          have ho1 := hS.1
          have ho2 := hS.2.1
          clear h1 hy
          by_cases hp : (k : Int) % 2 = 0
          · go_wp2_with (at_builtin; refine app1at 22 3 Try.underlying22 infoInt rfl (by decide) rfl _ _ rfl w.heap.size _ _ _ rfl ho1 rfl rfl ?c1 ?c2 ?_)
            case c1 => omega
            case c2 => exact hBs
            intro v' w1 ho3 hg1 hi1
            have HO : Hid (DealS w xs (k + 1) v' u5 w1) := deal_a hS HY.out hp ho3 hg1 hi1
            clear ho1 ho2 ho3 hg1 hi1 hS
            go_wp2
            go_roundw
            case rel => exact ⟨k + 1, by omega, by go_num, HO.out⟩
            case measure => simp [intOf]; omega
          · have hp' : ((k : Int) % 2 == 0) = false := by simpa using hp
            go_wp2_with (at_builtin; refine app1at 22 3 Try.underlying22 infoInt rfl (by decide) rfl _ _ rfl w.heap.size _ _ _ rfl ho2 rfl rfl ?c1 ?c2 ?_)
            case c1 => omega
            case c2 => exact hBs
            intro v' w1 ho3 hg1 hi1
            have HO : Hid (DealS w xs (k + 1) u4 v' w1) := deal_b hS HY.out hp ho3 hg1 hi1
            clear ho1 ho2 ho3 hg1 hi1 hS
            go_wp2
            go_roundw
            case rel => exact ⟨k + 1, by omega, by go_num, HO.out⟩
            case measure => simp [intOf]; omega
      · have HO : Hid (DealR w xs (.returned (.tuple #[u4, u5])) wr) := by
          have : k = xs.length := by omega
          subst this
          exact hS.done hl
        clear hS ha0
        go_wp2
        go_ret2
        exact HO.out
  · have HO : Hid (DealR w xs (.returned (.tuple #[.slice none 0 0, .slice none 0 0])) w) :=
      ⟨_, _, rfl, by unfold dealA; rw [if_neg hl]; exact World.ownsRow_nil _ _ _ _, by unfold dealB; rw [if_neg hl]; exact World.ownsRow_nil _ _ _ _, .inl rfl, Below.refl _ _⟩
    clear ha0
    go_enter Try.func21, Try.ntmps21
    go_wp2
    go_ret2
    exact HO.out

theorem c_spec_DealTable (v : Value) (xs : List Int) (w : World) (ha : RdI w v xs) (hx : xs.length ≤ 1099511627776) : Calls Try.prog 19 #[v] w (DealR w xs) := by
  have ha0 := ha.op
  obtain ⟨a, cap, rfl, _⟩ := ha
  rw [List.length_map] at ha0 ⊢
  have HI : Hid (DealS w xs 0 (.slice (some ⟨w.heap.size, 0, none⟩) 0 0) (.slice (some ⟨w.heap.size + 1, 0, none⟩) 0 0) ((w.alloc (.cells #[] 3)).alloc (.cells #[] 3))) := by
    refine ⟨(World.ownsRow_made w #[] 0 (Nat.le_refl _) (by decide) rfl).alloc _, ?_, .inr (by simp [Value.ownBlock]), ((Below.refl _ _).alloc (Nat.le_refl _) _).alloc (by simp) _⟩
    have := World.ownsRow_made (w.alloc (.cells #[] 3)) (base := w.heap.size) (e := 3) (size := 1) #[] 0 (by simp) (by decide) rfl
    have h2 : ((w.alloc (.cells #[] 3)).alloc (.cells #[] 3)).ownsRow w.heap.size 3 1 (.slice (some ⟨w.heap.size + 1, 0, none⟩) 0 0) 0 [] := by simpa using this
    exact h2
  by_cases hl : xs.length ≤ 60
  · go_enter Try.func19, Try.ntmps19
    go_wp2
    go_loopw [4, 5, 6] (fun va vb i wr => ∃ k : Nat, k ≤ xs.length ∧ i = .int .i64 k ∧ DealS w xs k va vb wr) (fun _ _ i _ => xs.length - (intOf i).toNat)
    case atStart => exact ⟨0, by omega, rfl, HI.out⟩
    case round =>
      obtain ⟨k, hk, rfl, hS⟩ := hrel
      by_cases hlt : k < xs.length
      · rcases ha0 with ⟨a', cap', e1, rfl⟩ | ⟨b1, o1, c1, e0, hb1, h1⟩
        · simp at hlt
        · simp only [Value.slice.injEq] at e0
          obtain ⟨rfl, _, rfl⟩ := e0
          have e1 : wr.cell? ⟨b1, o1 + k, none⟩ = some (.int .i64 (xs.getD k 0)) := by rw [(bcell hS.2.2.2).1 _ _ hb1]; exact h1 k hlt
          obtain ⟨y, hy⟩ : ∃ y, xs.getD k 0 = y := ⟨_, rfl⟩
          rw [hy] at e1
          have HY : Hid (xs.getD k 0 = y) := hy
          have l1 := evn_len xs k
          have l2 := odn_len xs k
          have hBs := hS.2.2.2.size
          have ho1 := hS.1
          have ho2 := hS.2.1
          clear h1 hy
          by_cases hp : (k : Int) % 2 = 0
          · go_wp2_with (at_builtin; refine app1at 22 3 Try.underlying22 infoInt rfl (by decide) rfl _ _ rfl w.heap.size _ _ _ rfl ho1 rfl rfl ?c1 ?c2 ?_)
            case c1 => omega
            case c2 => exact hBs
            intro v' w1 ho3 hg1 hi1
            have HO : Hid (DealS w xs (k + 1) v' u5 w1) := deal_a hS HY.out hp ho3 hg1 hi1
            clear ho1 ho2 ho3 hg1 hi1 hS
            go_wp2
            go_roundw
            case rel => exact ⟨k + 1, by omega, by go_num, HO.out⟩
            case measure => simp [intOf]; omega
          · have hp' : ((k : Int) % 2 == 0) = false := by simpa using hp
            go_wp2_with (at_builtin; refine app1at 22 3 Try.underlying22 infoInt rfl (by decide) rfl _ _ rfl w.heap.size _ _ _ rfl ho2 rfl rfl ?c1 ?c2 ?_)
            case c1 => omega
            case c2 => exact hBs
            intro v' w1 ho3 hg1 hi1
            have HO : Hid (DealS w xs (k + 1) u4 v' w1) := deal_b hS HY.out hp ho3 hg1 hi1
            clear ho1 ho2 ho3 hg1 hi1 hS
            go_wp2
            go_roundw
            case rel => exact ⟨k + 1, by omega, by go_num, HO.out⟩
            case measure => simp [intOf]; omega
      · have HO : Hid (DealR w xs (.returned (.tuple #[u4, u5])) wr) := by
          have : k = xs.length := by omega
          subst this
          exact hS.done hl
        clear hS ha0
        go_wp2
        go_ret2
        exact HO.out
  · have HO : Hid (DealR w xs (.returned (.tuple #[.slice (some ⟨w.heap.size, 0, none⟩) 0 0, .slice (some ⟨w.heap.size + 1, 0, none⟩) 0 0])) ((w.alloc (.cells #[] 3)).alloc (.cells #[] 3))) :=
      ⟨_, _, rfl, by unfold dealA; rw [if_neg hl]; exact HI.out.1, by unfold dealB; rw [if_neg hl]; exact HI.out.2.1, HI.out.2.2.1, HI.out.2.2.2⟩
    clear ha0
    go_enter Try.func19, Try.ntmps19
    go_wp2
    refine wp_loop_rounds 1 ?_
    rw [rounds_succ]
    go_wp2
    go_ret2
    exact HO.out

/-- interleaved: the first k of a, with b's between them -/
def itl (xs ys : List Int) : Nat → List Int
  | 0 => []
  | k + 1 => if k < ys.length then itl xs ys k ++ [xs.getD k 0] ++ [ys.getD k 0] else itl xs ys k ++ [xs.getD k 0]
theorem itl_len (xs ys : List Int) (k : Nat) : (itl xs ys k).length ≤ 2 * k := by
  induction k with
  | zero => simp [itl]
  | succ k ih => unfold itl; split <;> simp <;> omega
def itB (xs ys : List Int) : Bool := decide ((xs.length = ys.length ∨ xs.length = ys.length + 1) ∧ xs.length + ys.length ≤ 60)
def itR (xs ys : List Int) : List Int := if itB xs ys = true then itl xs ys xs.length else []
/-- a fresh slice of ints and a bool are returned -/
def FreshIB (w : World) (xs : List Int) (b : Bool) (e : Ending) (w' : World) : Prop :=
  ∃ v, e = .returned (.tuple #[v, .bool b]) ∧ OwnI w' w.heap.size v xs ∧ Below w.heap.size w w'
def ItS (w : World) (xs : List Int) (v : Value) (wr : World) : Prop := OwnI wr w.heap.size v xs ∧ Below w.heap.size w wr
theorem its_step {w wr w1 : World} {xs : List Int} {v v' : Value} {y : Int} (h : ItS w xs v wr) (ho : w1.ownsRow w.heap.size 3 1 v' (xs.length + 1) (xs.map (Value.int .i64) ++ [.int .i64 y])) (hg : wr.grownBy w1 v.ownBlock) : ItS w (xs ++ [y]) v' w1 :=
  ⟨OwnI_snoc rfl ho, h.2.grown hg h.2.size (fun j hj => (h.1.lt j hj).1)⟩

theorem c_impl_Interleave (va vb : Value) (xs ys : List Int) (w : World) (ha : RdI w va xs) (hb : RdI w vb ys) (hx : xs.length ≤ 1099511627776) (hy : ys.length ≤ 1099511627776) :
    Calls Try.prog 26 #[va, vb] w (FreshIB w (itR xs ys) (itB xs ys)) := by
  have ha0 := ha.op
  have hb0 := hb.op
  obtain ⟨a1, c1, rfl, _⟩ := ha
  obtain ⟨a2, c2, rfl, _⟩ := hb
  rw [List.length_map] at ha0 ⊢
  rw [List.length_map] at hb0 ⊢
  by_cases hI : itB xs ys = true
  · have hI' : (xs.length = ys.length ∨ xs.length = ys.length + 1) ∧ xs.length + ys.length ≤ 60 := by simpa [itB] using hI
    have E : Hid (itR xs ys = itl xs ys xs.length ∧ itB xs ys = true) := ⟨if_pos hI, hI⟩
    obtain ⟨hl1, hl2⟩ := hI'
    have ht : ((xs.length : Int) != (ys.length : Int)) = false ∨ (((xs.length : Int) != (ys.length : Int)) = true ∧ ((xs.length : Int) != (ys.length : Int) + 1) = false) := by
      rcases hl1 with h | h
      · left; simp [h]
      · right; constructor
        · simp; omega
        · simp; omega
    clear hI
    rcases ht with ht | ⟨ht, ht2⟩
    all_goals
      go_enter Try.func26, Try.ntmps26
      go_wp2_with (at_make; refine mkcap 22 3 Try.underlying22 infoInt (by decide) rfl _ _ rfl (xs.length + ys.length) rfl rfl rfl (by omega) ?_; intro w1 ho1 hB1 hz1)
      go_loopw [6, 38] (fun v i wr => ∃ k : Nat, k ≤ xs.length ∧ i = .int .i64 k ∧ ItS w (itl xs ys k) v wr) (fun _ i _ => xs.length - (intOf i).toNat)
      case atStart => exact ⟨0, by omega, rfl, ho1, hB1⟩
      case round =>
        obtain ⟨k, hk, rfl, hS⟩ := hrel
        by_cases hlt : k < xs.length
        · have e1 : ∃ b1 o1, a1 = some ⟨b1, o1, none⟩ ∧ wr.cell? ⟨b1, o1 + k, none⟩ = some (.int .i64 (xs.getD k 0)) := by
            rcases ha0 with ⟨a', cap', e1, rfl⟩ | ⟨b1, o1, c1, e0, hb1, h1⟩
            · simp at hlt
            · simp only [Value.slice.injEq] at e0
              exact ⟨b1, o1, e0.1, by rw [(bcell hS.2).1 _ _ hb1]; exact h1 k hlt⟩
          obtain ⟨b1, o1, rfl, e1⟩ := e1
          obtain ⟨x, hx1⟩ : ∃ x, xs.getD k 0 = x := ⟨_, rfl⟩
          rw [hx1] at e1
          have HX : Hid (xs.getD k 0 = x) := hx1
          have l1 := itl_len xs ys k
          have hBs := hS.2.size
          have ho1 := hS.1
          clear hx1
          by_cases hp : k < ys.length
          · have e2 : ∃ b2 o2, a2 = some ⟨b2, o2, none⟩ ∧ b2 < w.heap.size ∧ w.cell? ⟨b2, o2 + k, none⟩ = some (.int .i64 (ys.getD k 0)) := by
              rcases hb0 with ⟨a', cap', e1, rfl⟩ | ⟨b1, o1, c1, e0, hb1, h1⟩
              · simp at hp
              · simp only [Value.slice.injEq] at e0
                exact ⟨b1, o1, e0.1, hb1, h1 k hp⟩
            obtain ⟨b2, o2, rfl, hb2, e2⟩ := e2
            obtain ⟨y, hy1⟩ : ∃ y, ys.getD k 0 = y := ⟨_, rfl⟩
            rw [hy1] at e2
            have HY : Hid (ys.getD k 0 = y) := hy1
            clear hy1
            clear ha0 hb0
            go_wp2_with (at_builtin; refine app1 22 3 Try.underlying22 infoInt rfl (by decide) rfl _ _ rfl w.heap.size _ _ _ rfl ho1 rfl rfl ?c1 ?c2 ?_)
            case c1 => omega
            case c2 => exact hBs
            intro v' w1 ho3 hg1
            have HO := its_step hS ho3 hg1
            have l2 : (itl xs ys k ++ [x]).length ≤ 2 * k + 1 := by simp; omega
            have hBs2 := HO.2.size
            have ho2 := HO.1
            have e3 : w1.cell? ⟨b2, o2 + k, none⟩ = some (.int .i64 (y)) := by rw [(bcell HO.2).1 _ _ hb2]; exact e2
            clear ho3 hg1 ho1 e2
            go_wp2_with (at_builtin; refine app1 22 3 Try.underlying22 infoInt rfl (by decide) rfl _ _ rfl w.heap.size _ _ _ rfl ho2 rfl rfl ?c3 ?c4 ?_)
            case c3 => omega
            case c4 => exact hBs2
            intro v'' w2 ho4 hg2
            have HO2 : Hid (ItS w (itl xs ys (k + 1)) v'' w2) := by
              have h := its_step HO (by simpa using ho4) hg2
              show ItS w _ _ _
              rw [itl, if_pos hp, HX.out, HY.out]
              exact h
            clear ho4 hg2 ho2 HO hS
            go_wp2
            go_roundw
            case rel => exact ⟨k + 1, by omega, by go_num, HO2.out⟩
            case measure => simp [intOf]; omega
          · clear ha0 hb0
            go_wp2_with (at_builtin; refine app1 22 3 Try.underlying22 infoInt rfl (by decide) rfl _ _ rfl w.heap.size _ _ _ rfl ho1 rfl rfl ?c1 ?c2 ?_)
            case c1 => omega
            case c2 => exact hBs
            intro v' w1 ho3 hg1
            have HO2 : Hid (ItS w (itl xs ys (k + 1)) v' w1) := by
              have h := its_step hS ho3 hg1
              show ItS w _ _ _
              rw [itl, if_neg hp, HX.out]
              exact h
            clear ho3 hg1 ho1 hS
            go_wp2
            go_roundw
            case rel => exact ⟨k + 1, by omega, by go_num, HO2.out⟩
            case measure => simp [intOf]; omega
        · have HO : Hid (FreshIB w (itR xs ys) (itB xs ys) (.returned (.tuple #[u6, .bool true])) wr) := by
            have : k = xs.length := by omega
            subst this
            exact ⟨_, by rw [E.out.2], by rw [E.out.1]; exact hS.1, hS.2⟩
          clear hS ha0 hb0
          go_wp2
          go_ret2
          exact HO.out
  · have E : Hid (itR xs ys = [] ∧ itB xs ys = false) := ⟨if_neg hI, by simpa using hI⟩
    have hI' : ¬ ((xs.length = ys.length ∨ xs.length = ys.length + 1) ∧ xs.length + ys.length ≤ 60) := by simpa [itB] using hI
    have ht : (((xs.length : Int) != (ys.length : Int)) = false ∧ (60 : Int) < (xs.length : Int) + (ys.length : Int)) ∨ (((xs.length : Int) != (ys.length : Int)) = true ∧ ((xs.length : Int) != (ys.length : Int) + 1) = false ∧ (60 : Int) < (xs.length : Int) + (ys.length : Int)) ∨ (((xs.length : Int) != (ys.length : Int)) = true ∧ ((xs.length : Int) != (ys.length : Int) + 1) = true) := by
      by_cases h1 : xs.length = ys.length
      · left; exact ⟨by simp [h1], by omega⟩
      · by_cases h2 : xs.length = ys.length + 1
        · right; left; exact ⟨by simp; omega, by simp; omega, by omega⟩
        · right; right; exact ⟨by simp; omega, by simp; omega⟩
    clear hI hI' ha0 hb0
    have ht : (((xs.length : Int) != (ys.length : Int)) = false ∧ decide ((60 : Int) < (xs.length : Int) + (ys.length : Int)) = true) ∨ (((xs.length : Int) != (ys.length : Int)) = true ∧ ((xs.length : Int) != (ys.length : Int) + 1) = false ∧ decide ((60 : Int) < (xs.length : Int) + (ys.length : Int)) = true) ∨ (((xs.length : Int) != (ys.length : Int)) = true ∧ ((xs.length : Int) != (ys.length : Int) + 1) = true) := by
      simpa using ht
    rcases ht with ⟨ht, ht2⟩ | ⟨ht, ht2, ht3⟩ | ⟨ht, ht2⟩
    all_goals
      go_enter Try.func26, Try.ntmps26
      go_wp2
      go_ret2
      exact ⟨_, by rw [E.out.2]; rfl, by rw [E.out.1]; exact World.ownsRow_nil _ _ _ _, Below.refl _ _⟩

theorem c_spec_Interleave (va vb : Value) (xs ys : List Int) (w : World) (ha : RdI w va xs) (hb : RdI w vb ys) (hx : xs.length ≤ 1099511627776) (hy : ys.length ≤ 1099511627776) :
    Calls Try.prog 25 #[va, vb] w (FreshIB w (itR xs ys) (itB xs ys)) := by
  have ha0 := ha.op
  have hb0 := hb.op
  obtain ⟨a1, c1, rfl, _⟩ := ha
  obtain ⟨a2, c2, rfl, _⟩ := hb
  rw [List.length_map] at ha0 ⊢
  rw [List.length_map] at hb0 ⊢
  have HI : Hid (ItS w [] (.slice (some ⟨w.heap.size, 0, none⟩) 0 0) (w.alloc (.cells #[] 3))) := ⟨World.ownsRow_made w #[] 0 (Nat.le_refl _) (by decide) rfl, (Below.refl _ _).alloc (Nat.le_refl _) _⟩
  by_cases hI : itB xs ys = true
  · have hI' : (xs.length = ys.length ∨ xs.length = ys.length + 1) ∧ xs.length + ys.length ≤ 60 := by simpa [itB] using hI
    have E : Hid (itR xs ys = itl xs ys xs.length ∧ itB xs ys = true) := ⟨if_pos hI, hI⟩
    obtain ⟨hl1, hl2⟩ := hI'
    have ht : ((xs.length : Int) != (ys.length : Int)) = false ∨ (((xs.length : Int) != (ys.length : Int)) = true ∧ ((xs.length : Int) != (ys.length : Int) + 1) = false) := by
      rcases hl1 with h | h
      · left; simp [h]
      · right; constructor
        · simp; omega
        · simp; omega
    clear hI
    rcases ht with ht | ⟨ht, ht2⟩
    all_goals
      go_enter Try.func25, Try.ntmps25
      go_wp2
      go_loopw [6, 7] (fun v i wr => ∃ k : Nat, k ≤ xs.length ∧ i = .int .i64 k ∧ ItS w (itl xs ys k) v wr) (fun _ i _ => xs.length - (intOf i).toNat)
      case atStart => exact ⟨0, by omega, rfl, HI.out⟩
      case round =>
        obtain ⟨k, hk, rfl, hS⟩ := hrel
        by_cases hlt : k < xs.length
        · have e1 : ∃ b1 o1, a1 = some ⟨b1, o1, none⟩ ∧ wr.cell? ⟨b1, o1 + k, none⟩ = some (.int .i64 (xs.getD k 0)) := by
            rcases ha0 with ⟨a', cap', e1, rfl⟩ | ⟨b1, o1, c1, e0, hb1, h1⟩
            · simp at hlt
            · simp only [Value.slice.injEq] at e0
              exact ⟨b1, o1, e0.1, by rw [(bcell hS.2).1 _ _ hb1]; exact h1 k hlt⟩
          obtain ⟨b1, o1, rfl, e1⟩ := e1
          obtain ⟨x, hx1⟩ : ∃ x, xs.getD k 0 = x := ⟨_, rfl⟩
          rw [hx1] at e1
          have HX : Hid (xs.getD k 0 = x) := hx1
          have l1 := itl_len xs ys k
          have hBs := hS.2.size
          have ho1 := hS.1
          clear hx1
          by_cases hp : k < ys.length
          · have e2 : ∃ b2 o2, a2 = some ⟨b2, o2, none⟩ ∧ b2 < w.heap.size ∧ w.cell? ⟨b2, o2 + k, none⟩ = some (.int .i64 (ys.getD k 0)) := by
              rcases hb0 with ⟨a', cap', e1, rfl⟩ | ⟨b1, o1, c1, e0, hb1, h1⟩
              · simp at hp
              · simp only [Value.slice.injEq] at e0
                exact ⟨b1, o1, e0.1, hb1, h1 k hp⟩
            obtain ⟨b2, o2, rfl, hb2, e2⟩ := e2
            obtain ⟨y, hy1⟩ : ∃ y, ys.getD k 0 = y := ⟨_, rfl⟩
            rw [hy1] at e2
            have HY : Hid (ys.getD k 0 = y) := hy1
            clear hy1
            clear ha0 hb0
            go_wp2_with (at_builtin; refine app1 22 3 Try.underlying22 infoInt rfl (by decide) rfl _ _ rfl w.heap.size _ _ _ rfl ho1 rfl rfl ?c1 ?c2 ?_)
            case c1 => omega
            case c2 => exact hBs
            intro v' w1 ho3 hg1
            have HO := its_step hS ho3 hg1
            have l2 : (itl xs ys k ++ [x]).length ≤ 2 * k + 1 := by simp; omega
            have hBs2 := HO.2.size
            have ho2 := HO.1
            have e3 : w1.cell? ⟨b2, o2 + k, none⟩ = some (.int .i64 (y)) := by rw [(bcell HO.2).1 _ _ hb2]; exact e2
            clear ho3 hg1 ho1 e2
            go_wp2_with (at_builtin; refine app1 22 3 Try.underlying22 infoInt rfl (by decide) rfl _ _ rfl w.heap.size _ _ _ rfl ho2 rfl rfl ?c3 ?c4 ?_)
            case c3 => omega
            case c4 => exact hBs2
            intro v'' w2 ho4 hg2
            have HO2 : Hid (ItS w (itl xs ys (k + 1)) v'' w2) := by
              have h := its_step HO (by simpa using ho4) hg2
              show ItS w _ _ _
              rw [itl, if_pos hp, HX.out, HY.out]
              exact h
            clear ho4 hg2 ho2 HO hS
            go_wp2
            go_roundw
            case rel => exact ⟨k + 1, by omega, by go_num, HO2.out⟩
            case measure => simp [intOf]; omega
          · clear ha0 hb0
            go_wp2_with (at_builtin; refine app1 22 3 Try.underlying22 infoInt rfl (by decide) rfl _ _ rfl w.heap.size _ _ _ rfl ho1 rfl rfl ?c1 ?c2 ?_)
            case c1 => omega
            case c2 => exact hBs
            intro v' w1 ho3 hg1
            have HO2 : Hid (ItS w (itl xs ys (k + 1)) v' w1) := by
              have h := its_step hS ho3 hg1
              show ItS w _ _ _
              rw [itl, if_neg hp, HX.out]
              exact h
            clear ho3 hg1 ho1 hS
            go_wp2
            go_roundw
            case rel => exact ⟨k + 1, by omega, by go_num, HO2.out⟩
            case measure => simp [intOf]; omega
        · have HO : Hid (FreshIB w (itR xs ys) (itB xs ys) (.returned (.tuple #[u6, .bool true])) wr) := by
            have : k = xs.length := by omega
            subst this
            exact ⟨_, by rw [E.out.2], by rw [E.out.1]; exact hS.1, hS.2⟩
          clear hS ha0 hb0
          go_wp2
          go_ret2
          exact HO.out
  · have E : Hid (itR xs ys = [] ∧ itB xs ys = false) := ⟨if_neg hI, by simpa using hI⟩
    have hI' : ¬ ((xs.length = ys.length ∨ xs.length = ys.length + 1) ∧ xs.length + ys.length ≤ 60) := by simpa [itB] using hI
    have ht : (((xs.length : Int) != (ys.length : Int)) = false ∧ (60 : Int) < (xs.length : Int) + (ys.length : Int)) ∨ (((xs.length : Int) != (ys.length : Int)) = true ∧ ((xs.length : Int) != (ys.length : Int) + 1) = false ∧ (60 : Int) < (xs.length : Int) + (ys.length : Int)) ∨ (((xs.length : Int) != (ys.length : Int)) = true ∧ ((xs.length : Int) != (ys.length : Int) + 1) = true) := by
      by_cases h1 : xs.length = ys.length
      · left; exact ⟨by simp [h1], by omega⟩
      · by_cases h2 : xs.length = ys.length + 1
        · right; left; exact ⟨by simp; omega, by simp; omega, by omega⟩
        · right; right; exact ⟨by simp; omega, by simp; omega⟩
    clear hI hI' ha0 hb0
    have ht : (((xs.length : Int) != (ys.length : Int)) = false ∧ decide ((60 : Int) < (xs.length : Int) + (ys.length : Int)) = true) ∨ (((xs.length : Int) != (ys.length : Int)) = true ∧ ((xs.length : Int) != (ys.length : Int) + 1) = false ∧ decide ((60 : Int) < (xs.length : Int) + (ys.length : Int)) = true) ∨ (((xs.length : Int) != (ys.length : Int)) = true ∧ ((xs.length : Int) != (ys.length : Int) + 1) = true) := by
      simpa using ht
    rcases ht with ⟨ht, ht2⟩ | ⟨ht, ht2, ht3⟩ | ⟨ht, ht2⟩
    all_goals
      go_enter Try.func25, Try.ntmps25
      go_wp2
      go_ret2
      exact ⟨_, by rw [E.out.2]; rfl, by rw [E.out.1]; exact HI.out.1, HI.out.2⟩
end Go.Proofs.Ytjlehpoicplmpaa
