/- Contracts: plans are valid; program and reference. -/
import Derived.Test.YtdfnclnjnmdboaaDoorPlan1
namespace Go.Proofs.YtdfnclnjnmdboaaDoor
set_option linter.unusedVariables false
open Go.RowKit

def cntB (s : Seg) : Bool := inB s.1 1 60
def totG : List Seg → Int
  | [] => 0
  | s :: l => s.1 + totG l
def lenF (pl : List Seg) : Int := if pl.all cntB = true then totG pl else -1
/-- a segment may stand in a plan -/
def polyS (s : Seg) : Bool := polyB s.2 && tabB (vals s.2 s.1.toNat)
def segB (s : Seg) : Bool := cntB s && polyS s
def planB (pl : List Seg) : Bool := decide (1 ≤ pl.length) && pl.all segB && decide (totG pl ≤ 60)
theorem tot_append : ∀ a b : List Seg, totG (a ++ b) = totG a + totG b
  | [], b => by simp [totG]
  | s :: a, b => by simp only [List.cons_append, totG, tot_append a b]; omega
theorem take_succG (pl : List Seg) (k : Nat) (h : k < pl.length) : pl.take (k + 1) = pl.take k ++ [pl.getD k noG] := by
  rw [List.take_add_one]; simp [List.getD, h]
theorem tot_take_succ (pl : List Seg) (k : Nat) (h : k < pl.length) : totG (pl.take (k + 1)) = totG (pl.take k) + (pl.getD k noG).1 := by
  rw [take_succG pl k h, tot_append]; simp [totG]
theorem all_take_succG (f : Seg → Bool) (pl : List Seg) (k : Nat) (h : k < pl.length) : (pl.take (k + 1)).all f = ((pl.take k).all f && f (pl.getD k noG)) := by
  rw [take_succG pl k h, List.all_append]; simp
theorem all_getG {f : Seg → Bool} {pl : List Seg} (h : pl.all f = true) {k : Nat} (hk : k < pl.length) : f (pl.getD k noG) = true :=
  List.all_eq_true.1 h _ (by simp [List.getD, hk])
theorem all_noG {f : Seg → Bool} {pl : List Seg} {k : Nat} (hk : k < pl.length) (h : f (pl.getD k noG) = false) : pl.all f = false := by
  cases e : pl.all f
  · rfl
  · rw [all_getG e hk] at h; cases h
theorem cntB_iff {s : Seg} : cntB s = true ↔ 1 ≤ s.1 ∧ s.1 ≤ 60 := inB_iff
theorem tot_bd : ∀ pl : List Seg, pl.all cntB = true → (pl.length : Int) ≤ totG pl ∧ totG pl ≤ pl.length * 60
  | [], _ => by simp [totG]
  | s :: l, h => by
    simp only [List.all_cons, Bool.and_eq_true] at h
    have h1 := tot_bd l h.2
    have h2 := cntB_iff.1 h.1
    simp only [totG, List.length_cons]
    omega

set_option maxRecDepth 20000 in
theorem c_l5Length (v : Value) (pl : List Seg) (w : World) (ha : RdP w v pl) (hx : pl.length ≤ 60) :
    Calls Tryd.prog 34 #[v] w fun e w' => e = .returned (.int .i64 (lenF pl)) ∧ Below w.heap.size w w' := by
  obtain ⟨a, cap, rfl, hcap⟩ := ha.form
  go_enter Tryd.func34, Tryd.ntmps34
  go_wp2
  go_loopw [3, 4] (fun n i wr => ∃ k : Nat, k ≤ pl.length ∧ i = .int .i64 k ∧ n = .int .i64 (totG (pl.take k)) ∧ (pl.take k).all cntB = true ∧ Below w.heap.size w wr) (fun _ i _ => pl.length - (intOf i).toNat)
  case atStart => exact ⟨0, by omega, rfl, rfl, rfl, Below.refl _ _⟩
  case round =>
    obtain ⟨k, hk, rfl, rfl, hA, hB⟩ := hrel
    have hT := tot_bd _ hA
    rw [List.length_take] at hT
    have HA := hidd hA
    clear hA
    by_cases hlt : k < pl.length
    · obtain ⟨b, o, pa, pn, pc, rfl, hb, e1, e2, hp, hpc, hpn⟩ := ha.cell hB hlt
      have HTS := hidd (tot_take_succ pl k hlt)
      have HAS := hidd (all_take_succG cntB pl k hlt)
      have HNo : Hid (cntB (pl.getD k noG) = false → lenF pl = -1) := fun h => if_neg (by rw [all_noG hlt h]; decide)
      obtain ⟨s, hs⟩ : ∃ s, pl.getD k noG = s := ⟨_, rfl⟩
      rw [hs] at e1 HTS HAS HNo
      obtain ⟨t, ht⟩ : ∃ t, totG (pl.take k) = t := ⟨_, rfl⟩
      rw [ht] at hT HTS ⊢
      obtain ⟨c, hc⟩ : ∃ c, s.1 = c := ⟨_, rfl⟩
      rw [hc] at e1 HTS
      obtain ⟨t1, t2⟩ := hT
      have i1 : (0 : Int) ≤ (k : Int) := by omega
      have i2 : (k : Int) < (pl.length : Int) := by omega
      clear hp hpc hpn ha hs ht
      cases hi : inB c 1 60
      · have HE : Hid (lenF pl = -1) := HNo.out (by unfold cntB; rw [hc]; exact hi)
        clear hc
        go_wp2_with (go_at_call 33; refine (c_l1In _ _ _ _).mono ?_; rw [hi]; rintro e w' ⟨rfl, rfl⟩)
        go_ret
        exact ⟨ret_int HE.out.symm, hB⟩
      · have HE : Hid ((pl.take (k + 1)).all cntB = true) := by show _ = _; rw [HAS.out, HA.out]; unfold cntB; rw [hc, hi]; rfl
        obtain ⟨c1, c2⟩ := inB_iff.1 hi
        clear hc
        go_wp2_with (go_at_call 33; refine (c_l1In _ _ _ _).mono ?_; rw [hi]; rintro e w' ⟨rfl, rfl⟩)
        go_roundw
        case rel => exact ⟨k + 1, by omega, by go_num, by rw [HTS.out], HE.out, hB⟩
        case measure => simp [intOf]; omega
    · have HE : Hid (lenF pl = totG (pl.take k)) := by
        have h := HA.out
        show _ = _
        rw [List.take_of_length_le (by omega)] at h ⊢
        exact if_pos h
      clear ha
      go_wp2
      go_ret
      exact ⟨ret_int HE.out.symm, hB⟩

set_option maxRecDepth 20000 in
set_option maxHeartbeats 400000 in
theorem c_segmentValid (c : Int) (pv : Value) (p : List Int) (w : World) (ha : RdI w pv p) (hx : p.length ≤ 1099511627776) :
    Calls Tryd.prog 40 #[.agg #[.int .i64 c, pv]] w fun e w' => e = .returned (.bool (segB (c, p))) ∧ Below w.heap.size w w' := by
  have hB0 : Below w.heap.size w (w.alloc (.cells #[.int .i64 c, pv] 39)) := (Below.refl _ _).alloc (Nat.le_refl _) _
  have ha0 := ha.kept hB0
  clear ha
  by_cases hc : 1 ≤ c ∧ c ≤ 60
  · obtain ⟨c1, c2⟩ := hc
    obtain ⟨C, rfl⟩ : ∃ C : Nat, c = C := ⟨c.toNat, by omega⟩
    have E : Hid (segB ((C : Int), p) = (polyB p && tabB (vals p C))) := by
      show _ = _
      unfold segB cntB polyS; rw [inB_t c1 c2]; rfl
    cases hp : polyB p
    · have HE : Hid (segB ((C : Int), p) = false) := by show _ = _; rw [E.out, hp]; rfl
      have HC := hidd (c_ValuesOf_no pv p C _ ha0 hx hp)
      clear hp ha0
      go_enter Tryd.func40, Tryd.ntmps40
      go_wp2_with fail
      refine HC.out.mono ?_
      rintro e w1 ⟨u, rfl, ho, hB1⟩
      have HB := hidd (bthen hB0 hB1)
      clear ho hB1 hB0
      go_wp2
      go_ret
      exact ⟨ret_bool HE.out.symm, HB.out⟩
    · have HE : Hid (segB ((C : Int), p) = tabB (vals p C)) := by show _ = _; rw [E.out, hp]; rfl
      have HC := hidd (c_ValuesOf pv p C _ ha0 hp (by omega))
      have hvl := vals_len p C
      obtain ⟨V, hV⟩ : ∃ V, vals p C = V := ⟨_, rfl⟩
      rw [hV] at HC HE hvl
      have HVL := hidd hvl
      clear hp ha0 hV hvl
      go_enter Tryd.func40, Tryd.ntmps40
      go_wp2_with fail
      refine HC.out.mono ?_
      rintro e w1 ⟨u, rfl, ho, hB1⟩
      have HT := hidd (c_impl_TableValid u V _ (owns_RdI ho) (by rw [HVL.out]; omega))
      have HB := hidd (bthen hB0 hB1)
      clear ho hB1 hB0
      go_wp2_with fail
      refine HT.out.mono ?_
      rintro e w2 ⟨rfl, hB2⟩
      have HB2 := hidd (bthen HB.out hB2)
      clear hB2
      go_wp2
      go_ret
      exact ⟨ret_bool HE.out.symm, HB2.out⟩
  · have HE : Hid (segB (c, p) = false) := by
      show _ = _
      unfold segB cntB; rw [inB_f hc]; rfl
    have hd : c < 1 ∨ (1 ≤ c ∧ 60 < c) := by omega
    clear hc ha0
    rcases hd with h | ⟨h, h2⟩
    all_goals
      go_enter Tryd.func40, Tryd.ntmps40
      go_wp2
      go_ret
      exact ⟨ret_bool HE.out.symm, hB0⟩
end Go.Proofs.YtdfnclnjnmdboaaDoor
