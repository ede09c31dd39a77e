/- Contracts: drawn plans, sometimes none; the drawn arguments of the functions on plans. -/
import Derived.Test.YthjehjdcpfefcaaDrP
namespace Go.Proofs.Ythjehjdcpfefcaa
set_option linter.unusedVariables false
open Go.RowKit

theorem OwP.rowForm {w : World} {base : Nat} {v : Value} {pl : List Seg} (h : OwP w base v pl) (hl : 1 ≤ pl.length) :
    ∃ gg cap rs, v = .slice (some ⟨gg, 0, none⟩) pl.length cap ∧ base ≤ gg ∧ rs.length = pl.length ∧ w.ownsRow base 47 2 (.slice (some ⟨gg, 0, none⟩) rs.length cap) rs.length (segCells rs) ∧ PolysO w base rs pl ∧ ApartR rs := by
  obtain ⟨rs, h1, h2, h3⟩ := h
  have h1' := h1
  obtain ⟨_, ⟨_, h0⟩ | ⟨gg, cap, cur, rfl, hb, _⟩⟩ := h1'
  · have := h2.1; omega
  · exact ⟨gg, cap, rs, by rw [h2.1], hb, h2.1, h1, h2, h3⟩
theorem nilOfOwn {w : World} {base : Nat} {v : Value} {p : List Int} (h : OwnI w base v p) : ∃ a n c, v = .slice a n c ∧ OwnI w base (.slice a 0 c) [] ∧ (Value.slice a 0 c).ownBlock = v.ownBlock := by
  unfold OwnI at h ⊢
  obtain ⟨_, ⟨rfl, _⟩ | ⟨g, cap, cur, rfl, r1, r2, r3, r4, r5, r6⟩⟩ := h
  · exact ⟨none, 0, 0, rfl, World.ownsRow_nil _ _ _ _, rfl⟩
  · exact ⟨_, _, _, rfl, ⟨rfl, .inr ⟨g, cap, cur, rfl, r1, r2, Nat.zero_le _, r4, r5, by simp⟩⟩, rfl⟩

set_option maxRecDepth 20000 in
set_option maxHeartbeats 1600000 in
theorem c_l5Bad (g P : Nat) (v : Value) (pl : List Seg) (w0 w : World) (h : IsRdB w g P) (hp : P ≤ 900000) (ho : OwP w w0.heap.size v pl) (hd : PlD pl) (hl : 1 ≤ pl.length) (hG : w0.grownBy w (some g)) (hg : g < w0.heap.size) :
    Calls Try.prog 34 #[.pointer (some ⟨g, 0, none⟩), v] w (DrawPl w0 g (P + 3) fun _ => True) := by
  have HGW : Hid (∀ k, (some g : Option Nat) = some k → k < w0.heap.size) := fun k hk => by cases hk; exact hg
  have HD := hidd hd
  have hpl62 := hd.1
  obtain ⟨a, cap, rfl, hcap⟩ := ho.form
  clear hd
  go_enter Try.func34, Try.ntmps34
  go_wp2_with fail
  refine (d_pick g P _ w h (by omega)).mono ?_
  rintro e w1 ⟨kk, rfl, ⟨hk0, hk1⟩, hr1, hg1⟩
  replace ho := ho.keptNew hg1 HGW.out
  replace hG := grownBy_trans hG hg1
  obtain ⟨k, rfl⟩ : ∃ k : Nat, kk = k := ⟨kk.toNat, by omega⟩
  have hk : k < pl.length := by omega
  clear hg1 h hk1
  go_wp2_with fail
  refine (d_pick g (P + 1) _ w1 hr1 (by omega)).mono ?_
  rintro e w2 ⟨x, rfl, ⟨hx0, hx1⟩, hr2, hg2⟩
  replace ho := ho.keptNew hg2 HGW.out
  replace hG := grownBy_trans hG hg2
  clear hg2 hr1 hx1
  have i1 : (0 : Int) ≤ (k : Int) := by omega
  have i2 : (k : Int) < (pl.length : Int) := by omega
  by_cases h0 : x = 0
  · subst h0
    go_wp2_with fail
    have hd := d_numlit g (P + 1 + 1) [0, -1, 61, 50, 9223372036854775807] w2 hr2 (by omega) (by decide) (by decide)
    refine hd.mono ?_
    rintro e w3 ⟨z, rfl, _, hr3, hg3⟩
    replace ho := ho.keptNew hg3 HGW.out
    replace hG := grownBy_trans hG hg3
    clear hd hg3 hr2
    obtain ⟨gg, cap', rs, hv, hgb, hrl, h1, h2, h3⟩ := ho.rowForm hl
    simp only [Value.slice.injEq, true_and] at hv
    obtain ⟨rfl, rfl⟩ := hv
    have hkr : k < rs.length := by omega
    have e1 : ∃ u, w3.cell? ⟨gg, k * 2, none⟩ = some u := by
      rw [h1.cellAt (k * 2) (by omega)]
      exact ⟨_, (segCells_get rs k hkr).1⟩
    obtain ⟨u, e1⟩ := e1
    have e2 := h1.frozenAt (k * 2)
    have h4 := (h1.stored (k * 2) (.int .i64 z)).1
    rw [← segCells_set1 rs k z hkr] at h4
    have hpk := h2.2 k hkr
    have HO : Hid (OwP (w3.setCell ⟨gg, k * 2, none⟩ (.int .i64 z)) w0.heap.size (.slice (some ⟨gg, 0, none⟩) rs.length cap) (pl.set k (z, (pl.getD k noG).2))) :=
      OwP_set h1 h2 (h3.set hkr (fun i hi hne => h3 k i hkr hi (Ne.symm hne))) hkr hpk.2 (grownBy_setCell _ _ _ _) h4
    rw [← hrl] at hcap i2 ⊢
    have HF : Hid (DrawPl w0 g (P + 3) (fun _ => True) (.returned (.slice (some ⟨gg, 0, none⟩) rs.length cap)) (w3.setCell ⟨gg, k * 2, none⟩ (.int .i64 z))) :=
      ⟨_, _, rfl, HO.out, HD.out.set k (HD.out.2 (pl.getD k noG) (by simp [List.getD, hk])), trivial, hr3.below ((Below.refl _ _).setCell (p := ⟨gg, k * 2, none⟩) (by show g + 1 ≤ gg; omega) _), grown_new hG (grownBy_setCell w3 gg _ _) (fun j hj => by cases hj; exact hgb)⟩
    clear ho h1 h2 h3 h4 hpk hG hr3 hrl
    go_wp2
    go_ret
    exact HF.out
  · have e0 : (x == 0) = false := beq_eq_false_iff_ne.2 h0
    by_cases h1 : x = 1
    · subst h1
      obtain ⟨gg, cap', rs, hv, hgb, hrl, h1, h2, h3⟩ := ho.rowForm hl
      simp only [Value.slice.injEq, true_and] at hv
      obtain ⟨rfl, rfl⟩ := hv
      have hkr : k < rs.length := by omega
      have hpk := h2.2 k hkr
      obtain ⟨pa, pn, pc, hpv, hnil, hblk⟩ := nilOfOwn hpk.2
      have hcp := owns_CapOk hpk.2
      rw [hpv] at hcp
      have hcp' := hcp _ _ _ rfl
      have e1 : w2.cell? ⟨gg, k * 2 + 1, none⟩ = some (.slice pa pn pc) := by
        rw [h1.cellAt (k * 2 + 1) (by omega), (segCells_get rs k hkr).2, hpv]
      have e2 := h1.frozenAt (k * 2 + 1)
      have h4 := (h1.stored (k * 2 + 1) (.slice pa 0 pc)).1
      rw [← segCells_set2 rs k (.slice pa 0 pc) hkr] at h4
      have hpc1 := hpk.1
      have HO : Hid (OwP (w2.setCell ⟨gg, k * 2 + 1, none⟩ (.slice pa 0 pc)) w0.heap.size (.slice (some ⟨gg, 0, none⟩) rs.length cap) (pl.set k ((rs.getD k noR).1, []))) := by
        refine OwP_set h1 h2 (h3.set hkr (fun i hi hne => ?_)) hkr hnil (grownBy_setCell _ _ _ _) h4
        rw [hblk]; exact h3 k i hkr hi (Ne.symm hne)
      rw [← hrl] at hcap i2 ⊢
      have HF : Hid (DrawPl w0 g (P + 3) (fun _ => True) (.returned (.slice (some ⟨gg, 0, none⟩) rs.length cap)) (w2.setCell ⟨gg, k * 2 + 1, none⟩ (.slice pa 0 pc))) :=
        ⟨_, _, rfl, HO.out, HD.out.set k (by simp), trivial, (hr2.below ((Below.refl _ _).setCell (p := ⟨gg, k * 2 + 1, none⟩) (by show g + 1 ≤ gg; omega) _)).mono (by omega), grown_new hG (grownBy_setCell w2 gg _ _) (fun j hj => by cases hj; exact hgb)⟩
      clear ho h1 h2 h3 h4 hpk hG hr2 hrl hpv hnil hblk hcp hpc1
      go_wp2
      go_ret
      exact HF.out
    · have e1 : (x == 1) = false := beq_eq_false_iff_ne.2 h1
      by_cases h2 : x = 2
      · subst h2
        have HO : Hid (OwP w2 w0.heap.size (.slice a 0 cap) []) := by
          obtain ⟨gg, cap', rs, hv, hgb, hrl, q1, q2, q3⟩ := ho.rowForm hl
          simp only [Value.slice.injEq, true_and] at hv
          obtain ⟨rfl, rfl⟩ := hv
          obtain ⟨_, ⟨_, h0⟩ | ⟨b', cap', cur, hv, r1, r2, r3, r4, r5, r6⟩⟩ := q1
          · omega
          · simp only [Value.slice.injEq, Option.some.injEq, Addr.mk.injEq] at hv
            obtain ⟨⟨rfl, _, _⟩, _, rfl⟩ := hv
            exact ⟨[], ⟨rfl, .inr ⟨gg, cap, cur, rfl, r1, r2, Nat.zero_le _, r4, r5, by simp [segCells]⟩⟩, ⟨rfl, fun k hk => by simp at hk⟩, ApartR.nil⟩
        have HF : Hid (DrawPl w0 g (P + 3) (fun _ => True) (.returned (.slice a 0 cap)) w2) := ⟨_, [], rfl, HO.out, ⟨by simp, fun s hs => by cases hs⟩, trivial, hr2.mono (by omega), hG⟩
        clear ho hr2 hG h0 h1
        go_wp2
        go_ret
        exact HF.out
      · have e2 : (x == 2) = false := beq_eq_false_iff_ne.2 h2
        by_cases h3 : x = 3
        · subst h3
          obtain ⟨gg, cap', rs, hv, hgb, hrl, q1, q2, q3⟩ := ho.rowForm hl
          simp only [Value.slice.injEq, true_and] at hv
          obtain ⟨rfl, rfl⟩ := hv
          have hkr : k < rs.length := by omega
          have hlit := litI w2 [0, 0, 0, 0, 0, 0, 100000] 7 rfl (by decide)
          have hB : Below w2.heap.size w2 (w2.alloc (.cells #[.int .i64 0, .int .i64 0, .int .i64 0, .int .i64 0, .int .i64 0, .int .i64 0, .int .i64 100000] 3)) := (Below.refl _ _).alloc (Nat.le_refl _) _
          have hs2 := hG.size
          have q1b := ownsRow_kept_below q1 hB
          have q2b := q2.kept hB
          have hlt := q2.lt
          have f1 : ∃ u, (w2.alloc (.cells #[.int .i64 0, .int .i64 0, .int .i64 0, .int .i64 0, .int .i64 0, .int .i64 0, .int .i64 100000] 3)).cell? ⟨gg, k * 2 + 1, none⟩ = some u := by
            rw [q1b.cellAt (k * 2 + 1) (by omega)]
            exact ⟨_, (segCells_get rs k hkr).2⟩
          obtain ⟨u, f1⟩ := f1
          have f2 := q1b.frozenAt (k * 2 + 1)
          have q4 := (q1b.stored (k * 2 + 1) (.slice (some ⟨w2.heap.size, 0, none⟩) 7 7)).1
          rw [← segCells_set2 rs k (.slice (some ⟨w2.heap.size, 0, none⟩) 7 7) hkr] at q4
          have HO : Hid (OwP ((w2.alloc (.cells #[.int .i64 0, .int .i64 0, .int .i64 0, .int .i64 0, .int .i64 0, .int .i64 0, .int .i64 100000] 3)).setCell ⟨gg, k * 2 + 1, none⟩ (.slice (some ⟨w2.heap.size, 0, none⟩) 7 7)) w0.heap.size (.slice (some ⟨gg, 0, none⟩) rs.length cap) (pl.set k ((rs.getD k noR).1, [0, 0, 0, 0, 0, 0, 100000]))) := by
            refine OwP_set q1b q2b (q3.set hkr (fun i hi hne => .inr ?_)) hkr (ownsRow_mono hlit hs2) (grownBy_setCell _ _ _ _) q4
            intro e
            have : w2.heap.size < w2.heap.size := hlt i hi _ e.symm
            omega
          rw [← hrl] at hcap i2 ⊢
          have HF : Hid (DrawPl w0 g (P + 3) (fun _ => True) (.returned (.slice (some ⟨gg, 0, none⟩) rs.length cap)) ((w2.alloc (.cells #[.int .i64 0, .int .i64 0, .int .i64 0, .int .i64 0, .int .i64 0, .int .i64 0, .int .i64 100000] 3)).setCell ⟨gg, k * 2 + 1, none⟩ (.slice (some ⟨w2.heap.size, 0, none⟩) 7 7))) :=
            ⟨_, _, rfl, HO.out, HD.out.set k (by simp), trivial, ((hr2.alloc _).below ((Below.refl _ _).setCell (p := ⟨gg, k * 2 + 1, none⟩) (by show g + 1 ≤ gg; omega) _)).mono (by omega), grown_new (grown_alloc hG _) (grownBy_setCell _ gg _ _) (fun j hj => by cases hj; exact hgb)⟩
          clear ho q1 q2 q3 q4 q1b q2b hlt hlit hB hG hr2 hrl h0 h1 h2
          go_wp2
          go_ret
          exact HF.out
        · have e3 : (x == 3) = false := beq_eq_false_iff_ne.2 h3
          have HF : Hid (DrawPl w0 g (P + 3) (fun _ => True) (.returned (.slice a pl.length cap)) w2) := ⟨_, pl, rfl, ho, HD.out, trivial, hr2.mono (by omega), hG⟩
          clear ho hr2 hG h0 h1 h2 h3
          go_wp2
          go_ret
          exact HF.out

def DrawnP (w : World) (e : Ending) (w' : World) : Prop := ∃ v pl, e = .returned v ∧ OwP w' w.heap.size v pl ∧ PlD pl ∧ Below w.heap.size w w'
end Go.Proofs.Ythjehjdcpfefcaa
