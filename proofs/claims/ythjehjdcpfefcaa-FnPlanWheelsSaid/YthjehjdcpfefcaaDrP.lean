/- Contracts: drawn plans, sometimes none. -/
import Derived.Test.YthjehjdcpfefcaaDrT
namespace Go.Proofs.Ythjehjdcpfefcaa
set_option linter.unusedVariables false
open Go.RowKit

theorem PolysO.keptNew {w w' : World} {base : Nat} {rs : List RSeg} {pl : List Seg} {row : Option Nat} (h : PolysO w base rs pl) (hg : w.grownBy w' row) (hr : ∀ k, row = some k → k < base) : PolysO w' base rs pl :=
  ⟨h.1, fun k hk => ⟨(h.2 k hk).1, ownsRow_kept_new (h.2 k hk).2 hg hr⟩⟩
theorem OwP.keptNew {w w' : World} {base : Nat} {v : Value} {pl : List Seg} {row : Option Nat} (h : OwP w base v pl) (hg : w.grownBy w' row) (hr : ∀ k, row = some k → k < base) : OwP w' base v pl :=
  let ⟨rs, h1, h2, h3⟩ := h; ⟨rs, ownsRow_kept_new h1 hg hr, h2.keptNew hg hr, h3⟩
theorem segCells_set1 : ∀ (rs : List RSeg) (k : Nat) (c : Int), k < rs.length → segCells (rs.set k (c, (rs.getD k noR).2)) = (segCells rs).set (k * 2) (.int .i64 c)
  | [], k, c, h => by simp at h
  | s :: rs, 0, c, h => by simp [segCells]
  | s :: rs, k + 1, c, h => by
    have := segCells_set1 rs k c (by simpa using h)
    rw [show (k + 1) * 2 = k * 2 + 1 + 1 by omega]
    simp only [List.set_cons_succ, segCells, List.getD_cons_succ]
    rw [this]
theorem segCells_set2 : ∀ (rs : List RSeg) (k : Nat) (v : Value), k < rs.length → segCells (rs.set k ((rs.getD k noR).1, v)) = (segCells rs).set (k * 2 + 1) v
  | [], k, c, h => by simp at h
  | s :: rs, 0, c, h => by simp [segCells]
  | s :: rs, k + 1, c, h => by
    have := segCells_set2 rs k c (by simpa using h)
    rw [show (k + 1) * 2 + 1 = k * 2 + 1 + 1 + 1 by omega]
    simp only [List.set_cons_succ, segCells, List.getD_cons_succ]
    rw [this]
theorem getD_setR (rs : List RSeg) (k i : Nat) (s : RSeg) (h : k < rs.length) : (rs.set k s).getD i noR = if i = k then s else rs.getD i noR := by
  by_cases e : i = k
  · subst e; simp [List.getD, h]
  · simp [List.getD, e, List.getElem?_set_ne (Ne.symm e)]
theorem getD_setG (rs : List Seg) (k i : Nat) (s : Seg) (h : k < rs.length) : (rs.set k s).getD i noG = if i = k then s else rs.getD i noG := by
  by_cases e : i = k
  · subst e; simp [List.getD, h]
  · simp [List.getD, e, List.getElem?_set_ne (Ne.symm e)]
/-- a segment is set -/
theorem OwP_set {w w' : World} {base gg cap k : Nat} {rs : List RSeg} {pl : List Seg} {c : Int} {p : List Int} {pv : Value} (h1 : w.ownsRow base 47 2 (.slice (some ⟨gg, 0, none⟩) rs.length cap) rs.length (segCells rs))
    (h2 : PolysO w base rs pl) (h3 : ApartR (rs.set k (c, pv))) (hk : k < rs.length) (hp : OwnI w base pv p) (hg : w.grownBy w' (some gg))
    (ho : w'.ownsRow base 47 2 (.slice (some ⟨gg, 0, none⟩) rs.length cap) rs.length (segCells (rs.set k (c, pv)))) : OwP w' base (.slice (some ⟨gg, 0, none⟩) rs.length cap) (pl.set k (c, p)) := by
  have hl := h2.1
  refine ⟨rs.set k (c, pv), by rw [List.length_set]; exact ho, ⟨by simp [hl], fun i hi => ?_⟩, h3⟩
  rw [List.length_set] at hi
  rw [getD_setR _ _ _ _ hk, getD_setG _ _ _ _ (by omega)]
  have hg' : w.grownBy w' (Value.slice (some ⟨gg, 0, none⟩) rs.length cap).ownBlock := hg
  by_cases e : i = k
  · rw [if_pos e, if_pos e]
    exact ⟨rfl, World.ownsRow.kept hp hg' (seg_apart hp h1)⟩
  · rw [if_neg e, if_neg e]
    exact (h2.grown h1 hg').2 i hi
theorem ApartR.set {rs : List RSeg} (h : ApartR rs) {k : Nat} {c : Int} {pv : Value} (hk : k < rs.length) (hp : ∀ i, i < rs.length → i ≠ k → (pv.ownBlock = none ∨ pv.ownBlock ≠ (rs.getD i noR).2.ownBlock)) : ApartR (rs.set k (c, pv)) := by
  intro i j hi hj hne
  rw [List.length_set] at hi hj
  rw [getD_setR _ _ _ _ hk, getD_setR _ _ _ _ hk]
  by_cases e : i = k
  · rw [if_pos e, if_neg (by omega)]
    exact hp j hj (by omega)
  · rw [if_neg e]
    by_cases e2 : j = k
    · rw [if_pos e2]
      exact apart_comm (hp i hi e)
    · rw [if_neg e2]; exact h i j hi hj hne
/-- bounds of drawn plans -/
def PlD (pl : List Seg) : Prop := pl.length ≤ 62 ∧ ∀ s ∈ pl, s.2.length ≤ 7
theorem PlD.set {pl : List Seg} (h : PlD pl) (k : Nat) {s : Seg} (hs : s.2.length ≤ 7) : PlD (pl.set k s) :=
  ⟨by rw [List.length_set]; exact h.1, fun x hx => by
    rcases List.mem_or_eq_of_mem_set hx with hx | rfl
    · exact h.2 x hx
    · exact hs⟩
def DrawPl (w0 : World) (g P : Nat) (Q : List Seg → Prop) (e : Ending) (w' : World) : Prop :=
  ∃ v pl, e = .returned v ∧ OwP w' w0.heap.size v pl ∧ PlD pl ∧ Q pl ∧ IsRdB w' g P ∧ w0.grownBy w' (some g)
/-- a written plan of one segment -/
theorem litP (w : World) (base : Nat) (hb : base ≤ w.heap.size) (c : Int) (xs : List Int) (n : Nat) (hn : xs.length = n) (hx : n ≤ 1000) :
    OwP ((w.alloc (.cells (xs.map (Value.int .i64)).toArray 3)).alloc (.cells #[.int .i64 c, .slice (some ⟨w.heap.size, 0, none⟩) n n] 47)) base (.slice (some ⟨w.heap.size + 1, 0, none⟩) 1 1) [(c, xs)] := by
  have hp := litI w xs n hn hx
  refine ⟨[(c, .slice (some ⟨w.heap.size, 0, none⟩) n n)], ?_, ⟨rfl, fun k hk => ?_⟩, fun i j hi hj hne => by simp at hi hj; omega⟩
  · have := heap_alloc_new (w.alloc (.cells (xs.map (Value.int .i64)).toArray 3)) (.cells #[.int .i64 c, .slice (some ⟨w.heap.size, 0, none⟩) n n] 47)
    refine ⟨rfl, .inr ⟨w.heap.size + 1, 1, #[.int .i64 c, .slice (some ⟨w.heap.size, 0, none⟩) n n], rfl, by omega, ?_, Nat.le_refl _, by decide, rfl, rfl⟩⟩
    simpa using this
  · obtain rfl : k = 0 := by simp at hk; omega
    exact ⟨rfl, ownsRow_mono (World.ownsRow.alloc hp _) hb⟩

theorem gr_ne {xs : List Int} {d : Int} (h : grB xs d = true) : 1 ≤ (grL xs d).length := by
  unfold grL
  rw [if_pos h]
  unfold grB at h
  rw [Bool.and_eq_true] at h
  obtain ⟨hs, h1⟩ := smallB_iff.1 h.1
  have hd := inB_iff.1 h.2
  exact (planB_iff.1 (gr_plan hd.1 hd.2 hs h1).1).1
theorem below_grownS {w w' : World} {g : Nat} (h : Below w.heap.size w w') : w.grownBy w' (some g) := ⟨h.os, h.tape, h.output, h.size, fun i hi _ => h.block i hi⟩
set_option maxRecDepth 20000 in
set_option maxHeartbeats 800000 in
theorem c_l5Plan (g P : Nat) (w : World) (h : IsRdB w g P) (hp : P ≤ 900000) :
    Calls Try.prog 35 #[.pointer (some ⟨g, 0, none⟩)] w (DrawPl w g (P + 40) fun pl => 1 ≤ pl.length ∧ pl.length ≤ 61) := by
  have hgw := h.lt
  have HGW : Hid (∀ k, (some g : Option Nat) = some k → k < w.heap.size) := fun k hk => by cases hk; exact hgw
  go_enter Try.func35, Try.ntmps35
  go_wp2_with fail
  refine (c_l5Table g P w h hp).mono ?_
  rintro e w1 ⟨v1, xs, rfl, ho1, ⟨hx1, hx2⟩, hr1, hg1⟩
  clear h
  go_wp2_with fail
  refine (d_pick g _ _ _ hr1 (by omega)).mono ?_
  rintro e w2 ⟨d, rfl, ⟨hd0, hd1⟩, hr2, hg2⟩
  have ho2 := ownsRow_kept_new ho1 hg2 HGW.out
  have hG2 := grownBy_trans hg1 hg2
  have HC := hidd (c_spec_GreedyPlan v1 xs d w2 (owns_RdI ho2) (owns_CapOk ho2) (by omega))
  have hgl := grL_len xs d
  have hgm := grL_mem xs d
  have HNE : Hid (grB xs d = true → 1 ≤ (grL xs d).length) := gr_ne
  have hs2 := hG2.size
  obtain ⟨pl, hpl⟩ : ∃ pl, grL xs d = pl := ⟨_, rfl⟩
  rw [hpl] at hgl hgm HC HNE
  have HGM := hidd hgm
  clear ho1 ho2 hr1 hg1 hg2 hd1 hpl hgm
  cases hb : grB xs d
  · rw [hb] at HC
    clear hb
    go_wp2_with fail
    refine HC.out.mono ?_
    rintro e w3 ⟨u, rfl, ho3, hB3⟩
    have hr3 := hr2.kept hB3
    have hG3 := grownBy_trans hG2 (below_grownS (g := g) hB3)
    have hs3 : w.heap.size ≤ w3.heap.size := hG3.size
    have HF : Hid (DrawPl w g (P + 40) (fun pl => 1 ≤ pl.length ∧ pl.length ≤ 61) (.returned (.slice (some ⟨w3.heap.size + 1, 0, none⟩) 1 1)) ((w3.alloc (.cells #[.int .i64 1, .int .i64 2] 3)).alloc (.cells #[.int .i64 3, .slice (some ⟨w3.heap.size, 0, none⟩) 2 2] 47))) :=
      ⟨_, [(3, [1, 2])], rfl, litP w3 w.heap.size hs3 3 [1, 2] 2 rfl (by decide), ⟨by simp, fun s hs => by simp at hs; rw [hs]; simp⟩, by simp, ((hr3.alloc _).alloc _).mono (by omega), grown_alloc (grown_alloc hG3 _) _⟩
    clear ho3 hB3 hr3 hG3 hr2 hG2 HC
    go_wp2
    go_ret
    exact HF.out
  · have hne := HNE.out hb
    rw [hb] at HC
    clear hb
    go_wp2_with fail
    refine HC.out.mono ?_
    rintro e w3 ⟨u, rfl, ho3, hB3⟩
    have hr3 := hr2.kept hB3
    have hG3 := grownBy_trans hG2 (below_grownS (g := g) hB3)
    have ho3' := ho3.mono hs2
    clear hr2 hG2 hB3 ho3 HC
    go_wp2_with fail
    refine (d_pick g _ _ _ hr3 (by omega)).mono ?_
    rintro e w4 ⟨x, rfl, ⟨hx0, hx1'⟩, hr4, hg4⟩
    have ho4 := ho3'.keptNew hg4 HGW.out
    have hG4 := grownBy_trans hG3 hg4
    clear hr3 hG3 hg4 ho3' hx1'
    by_cases hx : x = 0
    · subst hx
      obtain ⟨ua, uc, rfl, huc⟩ := ho4.form
      go_wp2_with fail
      refine (d_pick g _ _ _ hr4 (by omega)).mono ?_
      rintro e w5 ⟨i, rfl, ⟨hi0, hi1⟩, hr5, hg5⟩
      have ho5 := ho4.keptNew hg5 HGW.out
      have hG5 := grownBy_trans hG4 hg5
      have hib : i ≤ 62 := by omega
      clear hr4 hG4 hg5 ho4 hi1
      go_wp2_with fail
      refine (d_pick g _ _ _ hr5 (by omega)).mono ?_
      rintro e w6 ⟨t, rfl, ⟨ht0, ht1⟩, hr6, hg6⟩
      have ho6 := ho5.keptNew hg6 HGW.out
      have hG6 := grownBy_trans hG5 hg6
      have htb : t ≤ 2 := by omega
      have hs6 := hG6.size
      have HS := hidd (c_spec_SplitSegment _ pl i (1 + t) w6 ho6.rd (by omega) (fun s hs => by have := HGM.out s hs; omega) (by omega) (by omega))
      have HSL := hidd (spL_len pl i (1 + t))
      have HSM := hidd (spL_mem i (1 + t) HGM.out)
      have HSN : Hid (spB pl i (1 + t) = true → 1 ≤ (spL pl i (1 + t)).length) := fun hb => by
        show 1 ≤ (spL pl i (1 + t)).length
        unfold spL
        rw [if_pos hb, spE_len (spB_iff hb).2.2.1]; omega
      obtain ⟨pl2, hpl2⟩ : ∃ pl2, spL pl i (1 + t) = pl2 := ⟨_, rfl⟩
      rw [hpl2] at HS HSL HSM HSN
      clear hr5 hG5 hg6 ho5 ht1 hpl2
      cases hb2 : spB pl i (1 + t)
      · rw [hb2] at HS
        clear hb2
        go_wp2_with fail
        refine HS.out.mono ?_
        rintro e w7 ⟨u7, rfl, ho7, hB7⟩
        have HF : Hid (DrawPl w g (P + 40) (fun pl => 1 ≤ pl.length ∧ pl.length ≤ 61) (.returned (.slice ua pl.length uc)) w7) :=
          ⟨_, pl, rfl, ho6.kept hB7, ⟨by omega, HGM.out⟩, ⟨hne, by omega⟩, (hr6.kept hB7).mono (by omega), grownBy_trans hG6 (below_grownS hB7)⟩
        clear ho7 hB7 hr6 hG6 ho6 HS
        go_wp2
        go_ret
        exact HF.out
      · have hn2 := HSN.out hb2
        rw [hb2] at HS
        clear hb2
        go_wp2_with fail
        refine HS.out.mono ?_
        rintro e w7 ⟨u7, rfl, ho7, hB7⟩
        have HF : Hid (DrawPl w g (P + 40) (fun pl => 1 ≤ pl.length ∧ pl.length ≤ 61) (.returned u7) w7) :=
          ⟨_, pl2, rfl, ho7.mono hs6, ⟨by have := HSL.out; omega, HSM.out⟩, ⟨hn2, by have := HSL.out; omega⟩, (hr6.kept hB7).mono (by omega), grownBy_trans hG6 (below_grownS hB7)⟩
        clear ho7 hB7 hr6 hG6 ho6 HS
        go_wp2
        go_ret
        exact HF.out
    · have hx' : (x == 0) = false := beq_eq_false_iff_ne.2 hx
      have HF : Hid (DrawPl w g (P + 40) (fun pl => 1 ≤ pl.length ∧ pl.length ≤ 61) (.returned u) w4) :=
        ⟨_, pl, rfl, ho4, ⟨by omega, HGM.out⟩, ⟨hne, by omega⟩, hr4.mono (by omega), hG4⟩
      clear ho4 hr4 hG4 hx
      go_wp2
      go_ret
      exact HF.out
end Go.Proofs.Ythjehjdcpfefcaa
