/- Lemmas and contracts for WholePlan (Plan1 Plan2 Plan3): plain words on memory, contracts of the functions that the law reaches. No condition but what each states. -/
import Derived.Test.YtdfnclnjnmdboaaGreatDoorMWholePlanPoly7
namespace Go.Proofs.YtdfnclnjnmdboaaGreatDoor
set_option linter.unusedVariables false
open Go.RowKit

/-- a segment: its count and its polynomial -/
abbrev Seg := Int × List Int
/-- a segment in memory: its count and its polynomial's slice -/
abbrev RSeg := Int × Value
def noR : RSeg := (0, .slice none 0 0)
def noG : Seg := (0, [])
def segCells : List RSeg → List Value
  | [] => []
  | s :: rs => .int .i64 s.1 :: s.2 :: segCells rs
theorem segCells_len : ∀ rs : List RSeg, (segCells rs).length = rs.length * 2
  | [] => rfl
  | s :: rs => by simp [segCells, segCells_len rs]; omega
theorem segCells_append : ∀ rs ss : List RSeg, segCells (rs ++ ss) = segCells rs ++ segCells ss
  | [], ss => rfl
  | s :: rs, ss => by simp [segCells, segCells_append rs ss]
theorem segCells_get : ∀ (rs : List RSeg) (k : Nat), k < rs.length → (segCells rs)[k * 2]? = some (.int .i64 (rs.getD k noR).1) ∧ (segCells rs)[k * 2 + 1]? = some (rs.getD k noR).2
  | [], k, h => by simp at h
  | s :: rs, 0, h => by simp [segCells]
  | s :: rs, k + 1, h => by
    have := segCells_get rs k (by simpa using h)
    rw [show (k + 1) * 2 = k * 2 + 1 + 1 by omega, show k * 2 + 1 + 1 + 1 = (k * 2 + 1) + 1 + 1 by omega]
    simpa [segCells] using this
theorem segCells_take : ∀ (rs : List RSeg) (k : Nat), segCells (rs.take k) = (segCells rs).take (k * 2)
  | [], k => by simp [segCells]
  | s :: rs, 0 => by simp [segCells]
  | s :: rs, k + 1 => by
    rw [show (k + 1) * 2 = k * 2 + 1 + 1 by omega]
    simp [segCells, segCells_take rs k]
theorem segCells_drop : ∀ (rs : List RSeg) (k : Nat), segCells (rs.drop k) = (segCells rs).drop (k * 2)
  | [], k => by simp [segCells]
  | s :: rs, 0 => by simp [segCells]
  | s :: rs, k + 1 => by
    rw [show (k + 1) * 2 = k * 2 + 1 + 1 by omega]
    simp [segCells, segCells_drop rs k]

/-- v reads as the segments rs -/
def RdR (w : World) (v : Value) (rs : List RSeg) : Prop :=
  ∃ a cap, v = .slice a rs.length cap ∧ rs.length ≤ cap ∧ (rs = [] ∨ ∃ b off, a = some ⟨b, off, none⟩ ∧ b < w.heap.size ∧ ∀ i, i < rs.length * 2 → w.cell? ⟨b, off + i, none⟩ = (segCells rs)[i]?)
theorem RdR.kept {w w' : World} {v : Value} {rs : List RSeg} (h : RdR w v rs) (hb : Below w.heap.size w w') : RdR w' v rs := by
  obtain ⟨a, cap, rfl, hc, h⟩ := h
  refine ⟨a, cap, rfl, hc, ?_⟩
  rcases h with h | ⟨b, off, rfl, hlt, h⟩
  · exact .inl h
  · exact .inr ⟨b, off, rfl, by have := hb.size; omega, fun i hi => by rw [(bcell hb).1 _ _ hlt]; exact h i hi⟩
/-- the polynomials of segments in memory read as a plan's -/
def Polys (w : World) (rs : List RSeg) (pl : List Seg) : Prop :=
  rs.length = pl.length ∧ ∀ k, k < rs.length → (rs.getD k noR).1 = (pl.getD k noG).1 ∧ RdI w (rs.getD k noR).2 (pl.getD k noG).2 ∧ CapOk (rs.getD k noR).2
theorem Polys.kept {w w' : World} {rs : List RSeg} {pl : List Seg} (h : Polys w rs pl) (hb : Below w.heap.size w w') : Polys w' rs pl :=
  ⟨h.1, fun k hk => ⟨(h.2 k hk).1, (h.2 k hk).2.1.kept hb, (h.2 k hk).2.2⟩⟩
/-- v reads as a plan -/
def RdP (w : World) (v : Value) (pl : List Seg) : Prop := ∃ rs, RdR w v rs ∧ Polys w rs pl
theorem RdP.kept {w w' : World} {v : Value} {pl : List Seg} (h : RdP w v pl) (hb : Below w.heap.size w w') : RdP w' v pl :=
  let ⟨rs, h1, h2⟩ := h; ⟨rs, h1.kept hb, h2.kept hb⟩
theorem RdP.form {w : World} {v : Value} {pl : List Seg} (h : RdP w v pl) : ∃ a cap, v = .slice a pl.length cap ∧ pl.length ≤ cap := by
  obtain ⟨rs, ⟨a, cap, rfl, hc, _⟩, h2, _⟩ := h
  exact ⟨a, cap, by rw [h2], by omega⟩
/-- the cells of segment k, in a later world -/
theorem RdP.cell {w wr : World} {a : Option Addr} {n cap : Nat} {pl : List Seg} (h : RdP w (.slice a n cap) pl) (hB : Below w.heap.size w wr) {k : Nat} (hk : k < pl.length) :
    ∃ b o pa pn pc, a = some ⟨b, o, none⟩ ∧ b < w.heap.size ∧ wr.cell? ⟨b, o + k * 2, none⟩ = some (.int .i64 (pl.getD k noG).1) ∧ wr.cell? ⟨b, o + k * 2 + 1, none⟩ = some (.slice pa pn pc) ∧ RdI w (.slice pa pn pc) (pl.getD k noG).2 ∧ pn ≤ pc ∧ pn = (pl.getD k noG).2.length := by
  obtain ⟨rs, ⟨a', cap', e, hc, h1⟩, h2, h3⟩ := h
  simp only [Value.slice.injEq] at e
  obtain ⟨rfl, rfl, rfl⟩ := e
  rcases h1 with rfl | ⟨b, off, rfl, hlt, h1⟩
  · rw [← h2] at hk; simp at hk
  · obtain ⟨p1, p2, p3⟩ := h3 k (by omega)
    obtain ⟨g1, g2⟩ := segCells_get rs k (by omega)
    have p2' := p2
    obtain ⟨pa, pc, e, _⟩ := p2'
    rw [List.length_map] at e
    refine ⟨b, off, pa, (pl.getD k noG).2.length, pc, rfl, hlt, ?_, ?_, ?_, ?_, rfl⟩
    · rw [(bcell hB).1 _ _ hlt, h1 _ (by omega), g1, p1]
    · rw [show off + k * 2 + 1 = off + (k * 2 + 1) from rfl, (bcell hB).1 _ _ hlt, h1 _ (by omega), g2, e]
    · rw [← e]; exact p2
    · exact p3 _ _ _ e
end Go.Proofs.YtdfnclnjnmdboaaGreatDoor

namespace Go.Proofs.YtdfnclnjnmdboaaGreatDoor
set_option linter.unusedVariables false
open Go.RowKit

def cntB (s : Seg) : Bool := inB s.1 1 60
def totG : List Seg → Int
  | [] => 0
  | s :: l => s.1 + totG l
def lenF (pl : List Seg) : Int := if pl.all cntB = true then totG pl else -1
/-- a segment may stand in a plan -/
def polyS (s : Seg) : Bool := polyB s.2 && tabB (vals s.2 s.1.toNat)
def segB (s : Seg) : Bool := cntB s && polyS s
def planB (pl : List Seg) : Bool := decide (1 ≤ pl.length) && pl.all segB && decide (totG pl ≤ 60)
theorem tot_append : ∀ a b : List Seg, totG (a ++ b) = totG a + totG b
  | [], b => by simp [totG]
  | s :: a, b => by simp only [List.cons_append, totG, tot_append a b]; omega
theorem take_succG (pl : List Seg) (k : Nat) (h : k < pl.length) : pl.take (k + 1) = pl.take k ++ [pl.getD k noG] := by
  rw [List.take_add_one]; simp [List.getD, h]
theorem tot_take_succ (pl : List Seg) (k : Nat) (h : k < pl.length) : totG (pl.take (k + 1)) = totG (pl.take k) + (pl.getD k noG).1 := by
  rw [take_succG pl k h, tot_append]; simp [totG]
theorem all_take_succG (f : Seg → Bool) (pl : List Seg) (k : Nat) (h : k < pl.length) : (pl.take (k + 1)).all f = ((pl.take k).all f && f (pl.getD k noG)) := by
  rw [take_succG pl k h, List.all_append]; simp
theorem all_getG {f : Seg → Bool} {pl : List Seg} (h : pl.all f = true) {k : Nat} (hk : k < pl.length) : f (pl.getD k noG) = true :=
  List.all_eq_true.1 h _ (by simp [List.getD, hk])
theorem all_noG {f : Seg → Bool} {pl : List Seg} {k : Nat} (hk : k < pl.length) (h : f (pl.getD k noG) = false) : pl.all f = false := by
  cases e : pl.all f
  · rfl
  · rw [all_getG e hk] at h; cases h
theorem cntB_iff {s : Seg} : cntB s = true ↔ 1 ≤ s.1 ∧ s.1 ≤ 60 := inB_iff
theorem tot_bd : ∀ pl : List Seg, pl.all cntB = true → (pl.length : Int) ≤ totG pl ∧ totG pl ≤ pl.length * 60
  | [], _ => by simp [totG]
  | s :: l, h => by
    simp only [List.all_cons, Bool.and_eq_true] at h
    have h1 := tot_bd l h.2
    have h2 := cntB_iff.1 h.1
    simp only [totG, List.length_cons]
    omega

set_option maxRecDepth 20000 in
theorem c_l5Length (v : Value) (pl : List Seg) (w : World) (ha : RdP w v pl) (hx : pl.length ≤ 60) :
    Calls Tryz.prog 61 #[v] w fun e w' => e = .returned (.int .i64 (lenF pl)) ∧ Below w.heap.size w w' := by
  obtain ⟨a, cap, rfl, hcap⟩ := ha.form
  go_enter Tryz.func61, Tryz.ntmps61
  go_wp2
  go_loopw [3, 4] (fun n i wr => ∃ k : Nat, k ≤ pl.length ∧ i = .int .i64 k ∧ n = .int .i64 (totG (pl.take k)) ∧ (pl.take k).all cntB = true ∧ Below w.heap.size w wr) (fun _ i _ => pl.length - (intOf i).toNat)
  case atStart => exact ⟨0, by omega, rfl, rfl, rfl, Below.refl _ _⟩
  case round =>
    obtain ⟨k, hk, rfl, rfl, hA, hB⟩ := hrel
    have hT := tot_bd _ hA
    rw [List.length_take] at hT
    have HA := hidd hA
    clear hA
    by_cases hlt : k < pl.length
    · obtain ⟨b, o, pa, pn, pc, rfl, hb, e1, e2, hp, hpc, hpn⟩ := ha.cell hB hlt
      have HTS := hidd (tot_take_succ pl k hlt)
      have HAS := hidd (all_take_succG cntB pl k hlt)
      have HNo : Hid (cntB (pl.getD k noG) = false → lenF pl = -1) := fun h => if_neg (by rw [all_noG hlt h]; decide)
      obtain ⟨s, hs⟩ : ∃ s, pl.getD k noG = s := ⟨_, rfl⟩
      rw [hs] at e1 HTS HAS HNo
      obtain ⟨t, ht⟩ : ∃ t, totG (pl.take k) = t := ⟨_, rfl⟩
      rw [ht] at hT HTS ⊢
      obtain ⟨c, hc⟩ : ∃ c, s.1 = c := ⟨_, rfl⟩
      rw [hc] at e1 HTS
      obtain ⟨t1, t2⟩ := hT
      have i1 : (0 : Int) ≤ (k : Int) := by omega
      have i2 : (k : Int) < (pl.length : Int) := by omega
      clear hp hpc hpn ha hs ht
      cases hi : inB c 1 60
      · have HE : Hid (lenF pl = -1) := HNo.out (by unfold cntB; rw [hc]; exact hi)
        clear hc
        go_wp2_with (go_at_call 60; refine (c_l1In _ _ _ _).mono ?_; rw [hi]; rintro e w' ⟨rfl, rfl⟩)
        go_ret
        exact ⟨ret_int HE.out.symm, hB⟩
      · have HE : Hid ((pl.take (k + 1)).all cntB = true) := by show _ = _; rw [HAS.out, HA.out]; unfold cntB; rw [hc, hi]; rfl
        obtain ⟨c1, c2⟩ := inB_iff.1 hi
        clear hc
        go_wp2_with (go_at_call 60; refine (c_l1In _ _ _ _).mono ?_; rw [hi]; rintro e w' ⟨rfl, rfl⟩)
        go_roundw
        case rel => exact ⟨k + 1, by omega, by go_num, by rw [HTS.out], HE.out, hB⟩
        case measure => simp [intOf]; omega
    · have HE : Hid (lenF pl = totG (pl.take k)) := by
        have h := HA.out
        show _ = _
        rw [List.take_of_length_le (by omega)] at h ⊢
        exact if_pos h
      clear ha
      go_wp2
      go_ret
      exact ⟨ret_int HE.out.symm, hB⟩

set_option maxRecDepth 20000 in
set_option maxHeartbeats 400000 in
theorem c_segmentValid (c : Int) (pv : Value) (p : List Int) (w : World) (ha : RdI w pv p) (hx : p.length ≤ 1099511627776) :
    Calls Tryz.prog 28 #[.agg #[.int .i64 c, pv]] w fun e w' => e = .returned (.bool (segB (c, p))) ∧ Below w.heap.size w w' := by
  have hB0 : Below w.heap.size w (w.alloc (.cells #[.int .i64 c, pv] 44)) := (Below.refl _ _).alloc (Nat.le_refl _) _
  have ha0 := ha.kept hB0
  clear ha
  by_cases hc : 1 ≤ c ∧ c ≤ 60
  · obtain ⟨c1, c2⟩ := hc
    obtain ⟨C, rfl⟩ : ∃ C : Nat, c = C := ⟨c.toNat, by omega⟩
    have E : Hid (segB ((C : Int), p) = (polyB p && tabB (vals p C))) := by
      show _ = _
      unfold segB cntB polyS; rw [inB_t c1 c2]; rfl
    cases hp : polyB p
    · have HE : Hid (segB ((C : Int), p) = false) := by show _ = _; rw [E.out, hp]; rfl
      have HC := hidd (c_ValuesOf_no pv p C _ ha0 hx hp)
      clear hp ha0
      go_enter Tryz.func28, Tryz.ntmps28
      go_wp2_with fail
      refine HC.out.mono ?_
      rintro e w1 ⟨u, rfl, ho, hB1⟩
      have HB := hidd (bthen hB0 hB1)
      clear ho hB1 hB0
      go_wp2
      go_ret
      exact ⟨ret_bool HE.out.symm, HB.out⟩
    · have HE : Hid (segB ((C : Int), p) = tabB (vals p C)) := by show _ = _; rw [E.out, hp]; rfl
      have HC := hidd (c_ValuesOf pv p C _ ha0 hp (by omega))
      have hvl := vals_len p C
      obtain ⟨V, hV⟩ : ∃ V, vals p C = V := ⟨_, rfl⟩
      rw [hV] at HC HE hvl
      have HVL := hidd hvl
      clear hp ha0 hV hvl
      go_enter Tryz.func28, Tryz.ntmps28
      go_wp2_with fail
      refine HC.out.mono ?_
      rintro e w1 ⟨u, rfl, ho, hB1⟩
      have HT := hidd (c_impl_TableValid u V _ (owns_RdI ho) (by rw [HVL.out]; omega))
      have HB := hidd (bthen hB0 hB1)
      clear ho hB1 hB0
      go_wp2_with fail
      refine HT.out.mono ?_
      rintro e w2 ⟨rfl, hB2⟩
      have HB2 := hidd (bthen HB.out hB2)
      clear hB2
      go_wp2
      go_ret
      exact ⟨ret_bool HE.out.symm, HB2.out⟩
  · have HE : Hid (segB (c, p) = false) := by
      show _ = _
      unfold segB cntB; rw [inB_f hc]; rfl
    have hd : c < 1 ∨ (1 ≤ c ∧ 60 < c) := by omega
    clear hc ha0
    rcases hd with h | ⟨h, h2⟩
    all_goals
      go_enter Tryz.func28, Tryz.ntmps28
      go_wp2
      go_ret
      exact ⟨ret_bool HE.out.symm, hB0⟩
end Go.Proofs.YtdfnclnjnmdboaaGreatDoor

namespace Go.Proofs.YtdfnclnjnmdboaaGreatDoor
set_option linter.unusedVariables false
open Go.RowKit

theorem segB_iff {s : Seg} (h : segB s = true) : 1 ≤ s.1 ∧ s.1 ≤ 60 ∧ polyB s.2 = true ∧ tabB (vals s.2 s.1.toNat) = true := by
  unfold segB polyS at h
  simp only [Bool.and_eq_true] at h
  obtain ⟨h1, h2, h3⟩ := h
  have := cntB_iff.1 h1
  exact ⟨this.1, this.2, h2, h3⟩
theorem planB_iff {pl : List Seg} : planB pl = true ↔ 1 ≤ pl.length ∧ pl.all segB = true ∧ totG pl ≤ 60 := by
  unfold planB; simp only [Bool.and_eq_true, decide_eq_true_eq]; exact ⟨fun ⟨⟨a, b⟩, c⟩ => ⟨a, b, c⟩, fun ⟨a, b, c⟩ => ⟨⟨a, b⟩, c⟩⟩
theorem segB_cnt : ∀ pl : List Seg, pl.all segB = true → pl.all cntB = true
  | [], _ => rfl
  | s :: l, h => by
    simp only [List.all_cons, Bool.and_eq_true] at h ⊢
    refine ⟨?_, segB_cnt l h.2⟩
    unfold segB at h
    simp only [Bool.and_eq_true] at h
    exact h.1.1
theorem planB_len {pl : List Seg} (h : planB pl = true) : pl.length ≤ 60 := by
  obtain ⟨_, h2, h3⟩ := planB_iff.1 h
  have := (tot_bd pl (segB_cnt pl h2)).1
  omega
theorem tot_take_le {pl : List Seg} (h : pl.all cntB = true) (k : Nat) : totG (pl.take k) ≤ totG pl := by
  have e : totG pl = totG (pl.take k) + totG (pl.drop k) := by rw [← tot_append, List.take_append_drop]
  have h2 : (pl.drop k).all cntB = true := List.all_eq_true.2 fun x hx => List.all_eq_true.1 h x (List.mem_of_mem_drop hx)
  have := (tot_bd _ h2).1
  omega
theorem planB_no_seg {pl : List Seg} {k : Nat} (hk : k < pl.length) (h : segB (pl.getD k noG) = false) : planB pl = false := by
  cases e : planB pl
  · rfl
  · rw [all_getG (planB_iff.1 e).2.1 hk] at h; cases h
theorem planB_no_tot {pl : List Seg} {k : Nat} (h : 60 < totG (pl.take k)) : planB pl = false := by
  cases e : planB pl
  · rfl
  · obtain ⟨_, h2, h3⟩ := planB_iff.1 e
    have := tot_take_le (segB_cnt pl h2) k
    omega

set_option maxRecDepth 20000 in
set_option maxHeartbeats 400000 in
theorem c_impl_PlanValid (v : Value) (pl : List Seg) (w : World) (ha : RdP w v pl) (hx : pl.length ≤ 1099511627776) (hpx : ∀ s ∈ pl, s.2.length ≤ 1099511627776) :
    Calls Tryz.prog 8 #[v] w fun e w' => e = .returned (.bool (planB pl)) ∧ Below w.heap.size w w' := by
  obtain ⟨a, cap, rfl, hcap⟩ := ha.form
  have HPX := hidd hpx
  clear hpx
  go_enter Tryz.func8, Tryz.ntmps8
  go_wp2
  go_loopw [3, 8] (fun n i wr => ∃ k : Nat, k ≤ pl.length ∧ i = .int .i64 k ∧ n = .int .i64 (totG (pl.take k)) ∧ totG (pl.take k) ≤ 60 ∧ (pl.take k).all segB = true ∧ Below w.heap.size w wr) (fun _ i _ => pl.length - (intOf i).toNat)
  case atStart => exact ⟨0, by omega, rfl, rfl, by simp [totG], rfl, Below.refl _ _⟩
  case round =>
    obtain ⟨k, hk, rfl, rfl, ht60, hA, hB⟩ := hrel
    have ht0 := (tot_bd _ (segB_cnt _ hA)).1
    rw [List.length_take] at ht0
    have HA := hidd hA
    clear hA
    by_cases hlt : k < pl.length
    · obtain ⟨b, o, pa, pn, pc, rfl, hb, e1, e2, hp, hpc, hpn⟩ := ha.cell hB hlt
      have HTS := hidd (tot_take_succ pl k hlt)
      have HAS := hidd (all_take_succG segB pl k hlt)
      have HNo : Hid (segB (pl.getD k noG) = false → planB pl = false) := fun h => planB_no_seg hlt h
      have HNt : Hid (60 < totG (pl.take (k + 1)) → planB pl = false) := fun h => planB_no_tot h
      have hpl := HPX.out (pl.getD k noG) (by simp [List.getD, hlt])
      obtain ⟨s, hs⟩ : ∃ s, pl.getD k noG = s := ⟨_, rfl⟩
      rw [hs] at e1 HTS HAS HNo hp hpl
      obtain ⟨t, ht⟩ : ∃ t, totG (pl.take k) = t := ⟨_, rfl⟩
      rw [ht] at ht0 ht60 HTS ⊢
      obtain ⟨c, p⟩ := s
      have hbs := hB.size
      have hpw : RdI (wr.alloc (.cells #[.int .i64 c, .slice pa pn pc] 44)) (.slice pa pn pc) p := hp.kept (hB.alloc (Nat.le_trans (Nat.le_refl _) hB.size) _)
      have HSV := hidd (c_segmentValid c (.slice pa pn pc) p (wr.alloc (.cells #[.int .i64 c, .slice pa pn pc] 44)) hpw hpl)
      have i1 : (0 : Int) ≤ (k : Int) := by omega
      have i2 : (k : Int) < (pl.length : Int) := by omega
      clear hp hpc hpn ha hs ht hpw hpl
      cases hi : segB (c, p)
      · have HE : Hid (planB pl = false) := HNo.out hi
        go_wp2_with fail
        refine HSV.out.mono ?_
        rw [hi]
        rintro e w2 ⟨rfl, hB2⟩
        have HB := hidd (bthen (hB.alloc hB.size _) hB2)
        clear hB hB2
        go_wp2
        go_ret
        exact ⟨ret_bool HE.out.symm, HB.out⟩
      · obtain ⟨c1, c2, _, _⟩ := segB_iff hi
        go_wp2_with fail
        refine HSV.out.mono ?_
        rw [hi]
        rintro e w2 ⟨rfl, hB2⟩
        have e5 : w2.cell? ⟨wr.heap.size, 0, none⟩ = some (.int .i64 c) := by rw [hB2.cell (p := ⟨wr.heap.size, 0, none⟩) (by simp)]; simp [go_sem]
        have HB := hidd (bthen (hB.alloc hB.size _) hB2)
        clear hB hB2
        have c1' : 1 ≤ c := c1
        have c2' : c ≤ 60 := c2
        by_cases h60 : 60 < t + c
        · have HE : Hid (planB pl = false) := HNt.out (by rw [HTS.out]; exact h60)
          go_wp2
          go_ret
          exact ⟨ret_bool HE.out.symm, HB.out⟩
        · have HE : Hid ((pl.take (k + 1)).all segB = true) := by show _ = _; rw [HAS.out, HA.out, hi]; rfl
          go_wp2
          go_roundw
          case rel => exact ⟨k + 1, by omega, by go_num, by rw [HTS.out], by rw [HTS.out]; show t + c ≤ 60; omega, HE.out, HB.out⟩
          case measure => simp [intOf]; omega
    · have HE : Hid (planB pl = decide (1 ≤ (pl.length : Int))) := by
        have h := HA.out
        show _ = _
        rw [List.take_of_length_le (by omega)] at h ht60
        unfold planB
        rw [h, decide_eq_true ht60, Bool.and_true, Bool.and_true]
        congr 1
        rw [eq_iff_iff]
        omega
      clear ha ht60 ht0
      by_cases h1 : (1 : Int) ≤ (pl.length : Int)
      · have HE2 : Hid (planB pl = true) := by show _ = _; rw [HE.out, decide_eq_true h1]
        go_wp2
        go_ret
        exact ⟨ret_bool HE2.out.symm, hB⟩
      · have HE2 : Hid (planB pl = false) := by show _ = _; rw [HE.out, decide_eq_false h1]
        have h1' : pl.length = 0 := by omega
        go_wp2
        go_ret
        exact ⟨ret_bool HE2.out.symm, hB⟩

set_option maxRecDepth 20000 in
theorem c_spec_PolyValid_q (v : Value) (p : List Int) (w : World) (ha : RdI w v p) (hx : p.length ≤ 1099511627776) :
    Calls Tryz.prog 62 #[v] w fun e w' => e = .returned (.bool (polyB p)) ∧ w = w' := by
  have ha0 := ha
  obtain ⟨a, cap, rfl, ha1⟩ := ha0
  clear ha1
  simp only [List.length_map] at ha ⊢
  go_enter Tryz.func62, Tryz.ntmps62
  go_wp2
  go_loop [3] (fun i => ∃ k : Nat, k ≤ p.length ∧ i = .int .i64 k ∧ allIn (p.take k) 100000 = true) (fun i => p.length - (intOf i).toNat)
  case atStart => exact ⟨0, by omega, rfl, rfl⟩
  case round =>
    obtain ⟨k, hk, rfl, hA⟩ := hrel
    have HA : Hid (allIn (p.take k) 100000 = true) := hA
    clear hA
    by_cases hlt : k < p.length
    · obtain ⟨b1, o1, rfl, hb1, e1⟩ := RdI_cell ha (Below.refl _ _) hlt
      obtain ⟨x, hx1⟩ : ∃ x, p.getD k 0 = x := ⟨_, rfl⟩
      rw [hx1] at e1
      cases hi : inB x (-100000) 100000
      · have HO : Hid (polyB p = false) := by
          have h : allIn p 100000 = false := allIn_not hlt (by rw [hx1]; exact hi)
          show _ = _
          unfold polyB; rw [h, Bool.and_false]
        clear hx1 ha
        go_wp2_with (first | (go_at_call 60; refine (c_l1In _ _ _ _).mono ?_; rintro e w' ⟨rfl, rfl⟩))
        go_ret
        exact ⟨ret_bool HO.out.symm, rfl⟩
      · have HO : Hid (allIn (p.take (k + 1)) 100000 = true) := by show _ = _; rw [allIn_take p _ k hlt, HA.out, hx1, hi]; rfl
        clear hx1 ha
        go_wp2_with (first | (go_at_call 60; refine (c_l1In _ _ _ _).mono ?_; rintro e w' ⟨rfl, rfl⟩))
        go_round
        case rel => exact ⟨k + 1, by omega, by go_num, HO.out⟩
        case measure => simp [intOf]; omega
    · have HO : Hid (polyB p = inB p.length 1 7) := by
        have h := HA.out
        rw [List.take_of_length_le (by omega)] at h
        show _ = _
        unfold polyB; rw [h, Bool.and_true]
      clear ha
      go_wp2_with (first | (go_at_call 60; refine (c_l1In _ _ _ _).mono ?_; rintro e w' ⟨rfl, rfl⟩))
      go_ret
      exact ⟨ret_bool HO.out.symm, rfl⟩

theorem keep2b {w wa wb : World} {b o o' : Nat} {v0 v1 : Value} (hb : b < w.heap.size) (h : Below w.heap.size w wa ∧ wa.cell? ⟨b, o, none⟩ = some v0 ∧ wa.cell? ⟨b, o', none⟩ = some v1) (k : Below wa.heap.size wa wb) :
    Below w.heap.size w wb ∧ wb.cell? ⟨b, o, none⟩ = some v0 ∧ wb.cell? ⟨b, o', none⟩ = some v1 := by
  obtain ⟨h0, h1, h2⟩ := h
  have hs := h0.size
  obtain ⟨hc, _⟩ := bcell k
  exact ⟨bthen h0 k, by rw [hc _ _ (by omega)]; exact h1, by rw [hc _ _ (by omega)]; exact h2⟩
set_option maxRecDepth 20000 in
set_option maxHeartbeats 800000 in
theorem c_spec_PlanValid (v : Value) (pl : List Seg) (w : World) (ha : RdP w v pl) (hx : pl.length ≤ 1099511627776) (hpx : ∀ s ∈ pl, s.2.length ≤ 1099511627776) :
    Calls Tryz.prog 25 #[v] w fun e w' => e = .returned (.bool (planB pl)) ∧ Below w.heap.size w w' := by
  obtain ⟨a, cap, rfl, hcap⟩ := ha.form
  have HPX := hidd hpx
  clear hpx
  by_cases h60 : 60 < pl.length
  · have HE : Hid (planB pl = false) := by
      show _ = _
      cases e : planB pl
      · rfl
      · have := planB_len e; omega
    clear ha
    go_enter Tryz.func25, Tryz.ntmps25
    go_wp2
    go_ret
    exact ⟨ret_bool HE.out.symm, Below.refl _ _⟩
  · have hx60 : pl.length ≤ 60 := by omega
    have HL := hidd (c_l5Length _ pl w ha hx60)
    cases hin : inB (lenF pl) 1 60
    · have HE : Hid (planB pl = false) := by
        show _ = _
        cases e : planB pl
        · rfl
        · obtain ⟨h1, h2, h3⟩ := planB_iff.1 e
          have hc := segB_cnt pl h2
          have hb := tot_bd pl hc
          unfold lenF at hin
          rw [if_pos hc, inB_t (by omega) h3] at hin
          cases hin
      obtain ⟨N, hN⟩ : ∃ N, lenF pl = N := ⟨_, rfl⟩
      rw [hN] at HL hin
      clear hN ha
      go_enter Tryz.func25, Tryz.ntmps25
      go_wp2_with fail
      refine HL.out.mono ?_
      rintro e w1 ⟨rfl, hB1⟩
      go_wp2_with (go_at_call 60; refine (c_l1In _ _ _ _).mono ?_; rw [hin]; rintro e w' ⟨rfl, rfl⟩)
      go_ret
      exact ⟨ret_bool HE.out.symm, hB1⟩
    · have HCT : Hid (pl.all cntB = true ∧ totG pl ≤ 60 ∧ 1 ≤ pl.length) := by
        show _ ∧ _
        unfold lenF at hin
        by_cases hc : pl.all cntB = true
        · rw [if_pos hc] at hin
          have hb := tot_bd pl hc
          have := inB_iff.1 hin
          refine ⟨hc, this.2, ?_⟩
          cases pl with
          | nil => simp [totG] at this
          | cons s l => simp
        · rw [if_neg hc] at hin; simp [inB] at hin
      obtain ⟨N, hN⟩ : ∃ N, lenF pl = N := ⟨_, rfl⟩
      rw [hN] at HL hin
      clear hN
      go_enter Tryz.func25, Tryz.ntmps25
      go_wp2_with fail
      refine HL.out.mono ?_
      rintro e w1 ⟨rfl, hB1⟩
      go_wp2_with (go_at_call 60; refine (c_l1In _ _ _ _).mono ?_; rw [hin]; rintro e w' ⟨rfl, rfl⟩)
      clear hin
      go_loopw [3] (fun i wr => ∃ k : Nat, k ≤ pl.length ∧ i = .int .i64 k ∧ (pl.take k).all segB = true ∧ Below w.heap.size w wr) (fun i _ => pl.length - (intOf i).toNat)
      case atStart => exact ⟨0, by omega, rfl, rfl, hB1⟩
      case round =>
        obtain ⟨k, hk, rfl, hA, hB⟩ := hrel
        have HA := hidd hA
        clear hA hB1
        by_cases hlt : k < pl.length
        · obtain ⟨b, o, pa, pn, pc, rfl, hb, e1, e2, hp, hpc, hpn⟩ := ha.cell hB hlt
          have HAS := hidd (all_take_succG segB pl k hlt)
          have HNo : Hid (segB (pl.getD k noG) = false → planB pl = false) := fun h => planB_no_seg hlt h
          have hpl := HPX.out (pl.getD k noG) (by simp [List.getD, hlt])
          have hcnt := cntB_iff.1 (all_getG HCT.out.1 hlt)
          obtain ⟨s, hs⟩ : ∃ s, pl.getD k noG = s := ⟨_, rfl⟩
          rw [hs] at e1 HAS HNo hp hpl hcnt
          obtain ⟨c, p⟩ := s
          obtain ⟨c1, c2⟩ := hcnt
          obtain ⟨C, rfl⟩ : ∃ C : Nat, c = C := ⟨c.toNat, by have : 1 ≤ c := c1; omega⟩
          have hC60 : C ≤ 60 := by have : (C : Int) ≤ 60 := c2; omega
          have i1 : (0 : Int) ≤ (k : Int) := by omega
          have i2 : (k : Int) < (pl.length : Int) := by omega
          have E : Hid (segB ((C : Int), p) = (polyB p && tabB (vals p C))) := by
            show _ = _
            unfold segB polyS; rw [cntB_iff.2 ⟨c1, c2⟩]; rfl
          have hk0 : Below w.heap.size w wr.drew ∧ wr.drew.cell? ⟨b, o + k * 2, none⟩ = some (.int .i64 ((C : Int))) ∧ wr.drew.cell? ⟨b, o + k * 2 + 1, none⟩ = some (.slice pa pn pc) := ⟨hB.drew, e1, e2⟩
          have HPV : Hid (∀ W, (Below w.heap.size w W ∧ W.cell? ⟨b, o + k * 2, none⟩ = some (.int .i64 ((C : Int))) ∧ W.cell? ⟨b, o + k * 2 + 1, none⟩ = some (.slice pa pn pc)) → Calls Tryz.prog 62 #[.slice pa pn pc] W fun e w' => e = .returned (.bool (polyB p)) ∧ Below W.heap.size W w') :=
            fun W h => c_spec_PolyValid _ p W (hp.kept h.1) hpl
          have HLV : Hid (polyB p = true → ∀ W, (Below w.heap.size w W ∧ W.cell? ⟨b, o + k * 2, none⟩ = some (.int .i64 ((C : Int))) ∧ W.cell? ⟨b, o + k * 2 + 1, none⟩ = some (.slice pa pn pc)) → Calls Tryz.prog 64 #[.slice pa pn pc, (.int .i64 (0)), (.int .i64 (1)), (.int .i64 ((C : Int)))] W (FreshI W (vals p C))) :=
            fun hv W h => c_l2Values _ p 0 C W (hp.kept h.1) (polyB_ok hv) (by omega)
          have HVL := hidd (vals_len p C)
          have hpk := hidd hp
          have hpl' := hidd hpl
          clear hs hp hpc hpn hpl ha
          cases hpv : polyB p
          · have HE : Hid (planB pl = false) := HNo.out (by rw [E.out, hpv]; rfl)
            have HPQ : Hid (∀ (W : World) n, Below w.heap.size w (W.drewN n) → Calls Tryz.prog 62 #[.slice pa pn pc] (W.drewN n) fun e w' => e = .returned (.bool false) ∧ W.drewN n = w') := fun W n h => by
              have := c_spec_PolyValid_q _ p _ (hpk.out.kept h) hpl'.out
              rwa [hpv] at this
            go_wp2
            go_quiet ((go_at_call 62; exact quiet_l (HPQ.out _ _ (below_drewN hB _))))
            go_wp2
            go_ret
            exact ⟨ret_bool HE.out.symm, below_drewN hB _⟩
          · have HLV2 := hidd (HLV.out hpv)
            obtain ⟨V, hV⟩ : ∃ V, vals p C = V := ⟨_, rfl⟩
            have HE : Hid (segB ((C : Int), p) = tabB V) := by show _ = _; rw [E.out, hpv, hV]; rfl
            rw [hV] at HLV2 HVL
            rw [hpv] at HPV
            have HTV : Hid (∀ u W B, OwnI W B u V → Calls Tryz.prog 63 #[u] W fun e w' => e = .returned (.bool (tabB V)) ∧ Below W.heap.size W w') :=
              fun u W B h => c_spec_TableValid u V W (owns_RdI h) (by rw [HVL.out]; omega)
            clear hV HLV hpv E
            cases hi : tabB V
            · have HE2 : Hid (planB pl = false) := HNo.out (by rw [HE.out, hi])
              rw [hi] at HTV
              go_wp2
              go_region_held3 (fun wx => Below w.heap.size w wx ∧ wx.cell? ⟨b, o + k * 2, none⟩ = some (.int .i64 ((C : Int))) ∧ wx.cell? ⟨b, o + k * 2 + 1, none⟩ = some (.slice pa pn pc)) (first | assumption | exact hk0 | exact keep2b hb (by assumption) (by assumption))
                (first | (go_at_call 62; refine (HPV.out _ (by assumption)).mono ?_; rintro e w2 ⟨rfl, hb2⟩) | (go_at_call 64; refine (HLV2.out _ (by assumption)).mono ?_; rintro e w3 ⟨u, rfl, ho, hb3⟩) | (go_at_call 63; refine (HTV.out _ _ _ (by assumption)).mono ?_; rintro e w4 ⟨rfl, hb4⟩))
              rename_i hS
              have HB := hidd hS.1
              clear hS
              go_wp2
              go_ret
              exact ⟨ret_bool HE2.out.symm, HB.out⟩
            · have HE2 : Hid ((pl.take (k + 1)).all segB = true) := by show _ = _; rw [HAS.out, HA.out, HE.out, hi]; rfl
              rw [hi] at HTV
              go_wp2
              go_region_held3 (fun wx => Below w.heap.size w wx ∧ wx.cell? ⟨b, o + k * 2, none⟩ = some (.int .i64 ((C : Int))) ∧ wx.cell? ⟨b, o + k * 2 + 1, none⟩ = some (.slice pa pn pc)) (first | assumption | exact hk0 | exact keep2b hb (by assumption) (by assumption))
                (first | (go_at_call 62; refine (HPV.out _ (by assumption)).mono ?_; rintro e w2 ⟨rfl, hb2⟩) | (go_at_call 64; refine (HLV2.out _ (by assumption)).mono ?_; rintro e w3 ⟨u, rfl, ho, hb3⟩) | (go_at_call 63; refine (HTV.out _ _ _ (by assumption)).mono ?_; rintro e w4 ⟨rfl, hb4⟩))
              rename_i hS
              have HB := hidd hS.1
              clear hS hk0
              go_wp2
              go_roundw
              case rel => exact ⟨k + 1, by omega, by go_num, HE2.out, HB.out⟩
              case measure => simp [intOf]; omega
        · have HE : Hid (planB pl = true) := by
            have h := HA.out
            rw [List.take_of_length_le (by omega)] at h
            exact planB_iff.2 ⟨HCT.out.2.2, h, HCT.out.2.1⟩
          clear ha
          go_wp2
          go_ret
          exact ⟨ret_bool HE.out.symm, hB⟩
end Go.Proofs.YtdfnclnjnmdboaaGreatDoor
