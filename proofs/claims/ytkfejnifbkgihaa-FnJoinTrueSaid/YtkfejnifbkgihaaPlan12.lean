/- Contracts: a segment of a plan is split, in the program. -/
import Derived.Test.YtkfejnifbkgihaaPlan11
import Derived.Test.YtkfejnifbkgihaaDrB
namespace Go.Proofs.Ytkfejnifbkgihaa
set_option linter.unusedVariables false
open Go.RowKit

theorem take_set_last (pl : List Seg) (I : Nat) (s : Seg) (h : I < pl.length) : (pl.take (I + 1)).set I s = pl.take I ++ [s] := by
  rw [take_succG pl I h, List.set_append_right _ _ (by rw [List.length_take]; omega), List.length_take, Nat.min_eq_left (by omega), Nat.sub_self]
  rfl
set_option maxRecDepth 20000 in
set_option maxHeartbeats 1600000 in
theorem c_impl_SplitSegment (v : Value) (pl : List Seg) (i t : Int) (w : World) (ha : RdP w v pl) (hx : pl.length ≤ 1099511627776) (hpx : ∀ s ∈ pl, s.2.length ≤ 1099511627776) (hi1 : i ≤ 9223372036854775807) (hi0 : -9223372036854775808 ≤ i) :
    Calls Try.prog 33 #[v, (.int .i64 (i)), (.int .i64 (t))] w (FreshPB w (spL pl i t) (spB pl i t)) := by
  have HPV := hidd (c_impl_PlanValid v pl w ha hx hpx)
  obtain ⟨a, cap, rfl, hcap⟩ := ha.form
  have HA := hidd ha
  by_cases hall : planB pl = true ∧ inB i 0 ((pl.length : Int) - 1) = true
  · obtain ⟨hv, hin⟩ := hall
    have hl60 := planB_len hv
    obtain ⟨i1, i2⟩ := inB_iff.1 hin
    obtain ⟨I, rfl⟩ : ∃ I : Nat, i = I := ⟨i.toNat, by omega⟩
    have hI : I < pl.length := by omega
    have hseg := segB_iff (all_getG (planB_iff.1 hv).2.1 hI)
    have hsb : spB pl (I : Int) t = (inB t 1 ((pl.getD I noG).1 - 1) && shB (pl.getD I noG).2 t.toNat) := by unfold spB; rw [hv, hin]; simp
    have HSE : Hid (∀ T : Nat, spE pl I T = pl.take I ++ [((T : Int), (pl.getD I noG).2), ((pl.getD I noG).1 - T, shf (pl.getD I noG).2 T)] ++ pl.drop (I + 1)) := fun T => rfl
    rw [hv] at HPV
    obtain ⟨s, hs⟩ : ∃ s, pl.getD I noG = s := ⟨_, rfl⟩
    rw [hs] at hseg hsb HSE
    obtain ⟨c, p⟩ := s
    have HS := hidd hs
    obtain ⟨c1, c2, hpv, _⟩ := hseg
    have c1 : 1 ≤ c := c1
    have c2 : c ≤ 60 := c2
    have hpv : polyB p = true := hpv
    have hp7 := (polyB_iff hpv).2.1
    have hsb : spB pl (I : Int) t = (inB t 1 (c - 1) && shB p t.toNat) := hsb
    have j1 : (0 : Int) ≤ (I : Int) := by omega
    have j0 : decide ((I : Int) < 0) = false := decide_eq_false (by omega)
    have j2 : (I : Int) < (pl.length : Int) := by omega
    have j3 : decide (pl.length ≤ I) = false := decide_eq_false (by omega)
    have hb0 := ha
    clear hs hin
    by_cases hat : inB t 1 (c - 1) = true
    · obtain ⟨t1, t2⟩ := inB_iff.1 hat
      obtain ⟨T, rfl⟩ : ∃ T : Nat, t = T := ⟨t.toNat, by omega⟩
      rw [Int.toNat_natCast] at hsb
      have hT : T ≤ 59 := by omega
      have HSH : Hid (∀ u W, RdI W u p → CapOk u → Calls Try.prog 68 #[u, (.int .i64 ((T : Int)))] W (FreshIB W (shL p T) (shB p T))) := fun u W h hc => c_impl_ShiftPoly u p T W h hc (by omega) (by omega)
      have j4 : ¬ (T : Int) < 1 := by omega
      have j5 : ¬ c - 1 < (T : Int) := by omega
      cases hsh : shB p T
      · have E : Hid (spB pl (I : Int) (T : Int) = false ∧ spL pl (I : Int) (T : Int) = []) := by
          have h : spB pl (I : Int) (T : Int) = false := by rw [hsb, hsh, Bool.and_false]
          exact ⟨h, if_neg (by rw [h]; decide)⟩
        rw [hsh] at HSH
        clear hsb hat
        go_enter Try.func33, Try.ntmps33
        go_wp2_with fail
        refine HPV.out.mono ?_
        rintro e w1 ⟨rfl, hB1⟩
        obtain ⟨b, o, pa, pn, pc, rfl, hb, e1, e2, hp, hpc, hpn⟩ := ha.cell hB1 hI
        rw [HS.out] at e1 hp
        have HS1 := hidd (HSH.out _ _ (hp.kept hB1) (CapOk_of hpc))
        clear hp hpc hpn ha hb0
        go_wp2_with fail
        refine HS1.out.mono ?_
        rintro e w2 ⟨q, rfl, hq, hB2⟩
        have HF : Hid (FreshPB w (spL pl (I : Int) (T : Int)) (spB pl (I : Int) (T : Int)) (.returned (.tuple #[.slice none 0 0, .bool false])) w2) := by
          rw [E.out.1, E.out.2]; exact ⟨_, rfl, OwP.nil _ _, bthen hB1 hB2⟩
        clear hq hB1 hB2
        go_wp2
        go_ret2
        exact HF.out
      · have E : Hid (spB pl (I : Int) (T : Int) = true ∧ spL pl (I : Int) (T : Int) = spE pl I T) := by
          have h : spB pl (I : Int) (T : Int) = true := by rw [hsb, hat, hsh]; rfl
          exact ⟨h, if_pos h⟩
        have HSL : Hid (shL p T = shf p T) := if_pos hsh
        rw [hsh, HSL.out] at HSH
        obtain ⟨P2, hP2⟩ : ∃ P2, shf p T = P2 := ⟨_, rfl⟩
        rw [hP2] at HSH
        have HP2 := hidd hP2
        have HC1 : Hid (∀ W, RdP W (.slice a pl.length cap) pl → Calls Try.prog 56 #[.slice a (I + 1) cap] W (FreshP W (pl.take (I + 1)))) :=
          fun W h => c_copySegments _ (pl.take (I + 1)) W (RdP_take h rfl (by omega)) (by simp; omega) (fun s hs => hpx s (List.mem_of_mem_take hs))
        obtain ⟨A2, g3, g4⟩ := slP_from a pl.length cap (I + 1) (by omega) hcap
        have ec : ((I + 1 : Nat) : Int) = (I : Int) + 1 := by push_cast; rfl
        rw [ec] at g3
        have HC2 : Hid (∀ W, RdP W (.slice a pl.length cap) pl → Calls Try.prog 56 #[.slice A2 (pl.length - (I + 1)) (cap - (I + 1))] W (FreshP W (pl.drop (I + 1)))) :=
          fun W ⟨rs, q1, q2⟩ => c_copySegments _ (pl.drop (I + 1)) W ⟨_, g4 W rs q2.1 q1, q2.drop (I + 1)⟩ (by simp; omega) (fun s hs => hpx s (List.mem_of_mem_drop hs))
        have hIc : I + 1 ≤ cap := by omega
        clear hsb hat g4 ec hpx hP2
        go_enter Try.func33, Try.ntmps33
        go_wp2_with fail
        refine HPV.out.mono ?_
        rintro e w1 ⟨rfl, hB1⟩
        obtain ⟨b, o, pa, pn, pc, rfl, hb, e1, e2, hp, hpc, hpn⟩ := ha.cell hB1 hI
        rw [HS.out] at e1 hp
        have HS1 := hidd (HSH.out _ _ (hp.kept hB1) (CapOk_of hpc))
        clear hpc hpn ha hb0
        go_wp2_with fail
        refine HS1.out.mono ?_
        rintro e w2 ⟨q, rfl, hq, hB2⟩
        obtain ⟨qa, qc, rfl⟩ := RdI_form (owns_RdI hq)
        have HQ := hidd hq
        have HB2 := hidd (bthen hB1 hB2)
        have HR2 := hidd (HA.out.kept HB2.out)
        have hs1 : w.heap.size ≤ w1.heap.size := hB1.size
        clear hq hB1 hB2 e1 e2 hp
        go_wp2_with fail
        refine (HC1.out _ HR2.out).mono ?_
        rintro e w3 ⟨u3, rfl, ho3, hB3⟩
        have hl3 : (pl.take (I + 1)).length = I + 1 := by simp; omega
        obtain ⟨gg, cap3, rs, hv3, hgb, hrl, h1, h2, h3⟩ := ho3.rowForm (by omega)
        subst hv3
        have hrl1 : rs.length = I + 1 := by omega
        have hkr : I < rs.length := by omega
        have hk1 : ∃ y, w3.cell? ⟨gg, I * 2, none⟩ = some y := by
          rw [h1.cellAt (I * 2) (by omega)]
          exact ⟨_, (segCells_get rs I hkr).1⟩
        obtain ⟨y, k1⟩ := hk1
        have k2 := h1.frozenAt (I * 2)
        have h4 := (h1.stored (I * 2) (.int .i64 (T : Int))).1
        rw [← segCells_set1 rs I (T : Int) hkr] at h4
        have hpk := h2.2 I hkr
        have hOS := OwP_set h1 h2 (h3.set (c := (T : Int)) (pv := (rs.getD I noR).2) hkr (fun i hi hne => h3 I i hkr hi (Ne.symm hne))) hkr hpk.2 (grownBy_setCell w3 gg (I * 2) (.int .i64 (T : Int))) h4
        rw [take_set_last pl I _ hI] at hOS
        have hpG : ((pl.take (I + 1)).getD I noG).2 = p := by rw [getD_takeG _ _ _ (by omega), HS.out]
        rw [hpG] at hOS
        have hB3s : Below w.heap.size w (w3.setCell ⟨gg, I * 2, none⟩ (.int .i64 (T : Int))) := (bthen HB2.out hB3).setCell (p := ⟨gg, I * 2, none⟩) (by have := hgb; have := HB2.out.size; show w.heap.size ≤ gg; omega) _
        have hQ3 : OwnI (w3.setCell ⟨gg, I * 2, none⟩ (.int .i64 (T : Int))) w1.heap.size (.slice qa P2.length qc) P2 := World.ownsRow.kept (ownsRow_kept_below HQ.out hB3) (grownBy_setCell w3 gg (I * 2) _) (by
          have := seg_apart (ownsRow_kept_below HQ.out hB3) h1
          exact this)
        have hge2 : w2.heap.size ≤ gg := hgb
        have hl3r : (pl.take (I + 1)).length = rs.length := by rw [hrl1, hl3]
        rw [hl3r]
        have i3 : (I : Int) < (rs.length : Int) := by omega
        rw [hrl1] at h1 hOS i3 ⊢
        have HOS := hidd hOS
        have HB3s := hidd hB3s
        have HQ3 := hidd hQ3
        have HW2 : Hid (w.heap.size ≤ w2.heap.size) := HB2.out.size
        have HB3 := hidd hB3
        have hR3 := HA.out.kept HB3s.out
        obtain ⟨b', o', pa', pn', pc', he, hb', f1, _, _, _, _⟩ := HA.out.cell HB3s.out hI
        simp only [Option.some.injEq, Addr.mk.injEq] at he
        obtain ⟨rfl, rfl, _⟩ := he
        rw [HS.out] at f1
        clear h2 h3 h4 hpk hOS hB3s hQ3 hB3 hpG hl3 hl3r hrl h1
        obtain ⟨rs2, q1, q2, q3⟩ := HOS.out
        have hr2 : rs2.length = I + 1 := by have := q2.1; simp at this; omega
        have HQ2 := hidd q2
        have HQ3' := hidd q3
        have hbase : w.heap.size ≤ w2.heap.size := HW2.out
        have hs32 : w2.heap.size ≤ w3.heap.size := HB3.out.size
        have q1m := ownsRow_mono q1 hbase
        have HAP : Hid (∀ k, k < rs2.length → (rs2.getD k noR).2.ownBlock = none ∨ (rs2.getD k noR).2.ownBlock ≠ (Value.slice qa P2.length qc).ownBlock) := fun k hk => old_apart (q2.2 k hk).2 HQ.out (Nat.le_refl _)
        have hRN : RdN ((w3.setCell ⟨gg, I * 2, none⟩ (.int .i64 (T : Int))).alloc (.cells #[.int .i64 (c - (T : Int)), .slice qa P2.length qc] 31)) 2 (.slice (some ⟨w3.heap.size, 0, none⟩) 1 1) 1 [.int .i64 (c - (T : Int)), .slice qa P2.length qc] := by
          have := RdN_seg (w3.setCell ⟨gg, I * 2, none⟩ (.int .i64 (T : Int))) (c - (T : Int)) (.slice qa P2.length qc)
          have e : (w3.setCell ⟨gg, I * 2, none⟩ (.int .i64 (T : Int))).heap.size = w3.heap.size := by simp [World.setCell]
          rwa [e] at this
        have hsz : (w3.setCell ⟨gg, I * 2, none⟩ (.int .i64 (T : Int))).heap.size = w3.heap.size := by simp [World.setCell]
        have hzz : w.heap.size ≤ ((w3.setCell ⟨gg, I * 2, none⟩ (.int .i64 (T : Int))).alloc (.cells #[.int .i64 (c - (T : Int)), .slice qa P2.length qc] 31)).heap.size := by simp [World.setCell]; omega
        have HZ := hidd hsz
        rw [hr2] at q1m
        have q1a := q1m.alloc (.cells #[.int .i64 (c - (T : Int)), .slice qa P2.length qc] 31)
        clear q2 q3 hsz q1
        go_wp2_with (at_builtin; refine appN 23 31 Try.underlying23 infoSeg rfl (by decide) (by decide) rfl _ _ rfl w.heap.size _ _ _ rfl q1a _ _ _ rfl hRN (one_seg _ qa _ qc) ?c1 hzz ?_)
        case c1 => omega
        intro v5 w5 ho5 hg5 _
        have hal : Below (w3.setCell ⟨gg, I * 2, none⟩ (.int .i64 (T : Int))).heap.size (w3.setCell ⟨gg, I * 2, none⟩ (.int .i64 (T : Int))) ((w3.setCell ⟨gg, I * 2, none⟩ (.int .i64 (T : Int))).alloc (.cells #[.int .i64 (c - (T : Int)), .slice qa P2.length qc] 31)) := (Below.refl _ _).alloc (Nat.le_refl _) _
        have ho5' : w5.ownsRow w.heap.size 31 2 v5 (rs2.length + 1) (segCells rs2 ++ [.int .i64 (c - (T : Int)), .slice qa P2.length qc]) := by rw [hr2]; exact ho5
        have q1a' : ((w3.setCell ⟨gg, I * 2, none⟩ (.int .i64 (T : Int))).alloc (.cells #[.int .i64 (c - (T : Int)), .slice qa P2.length qc] 31)).ownsRow w.heap.size 31 2 (.slice (some ⟨gg, 0, none⟩) (I + 1) cap3) rs2.length (segCells rs2) := by rw [hr2]; exact q1a
        have hq2' : PolysO (w3.setCell ⟨gg, I * 2, none⟩ (.int .i64 (T : Int))) w.heap.size rs2 (pl.take I ++ [((T : Int), p)]) := ⟨HQ2.out.1, fun k hk => ⟨(HQ2.out.2 k hk).1, ownsRow_mono (HQ2.out.2 k hk).2 hbase⟩⟩
        have HO5 := hidd (OwP_snocA q1a' (PolysO.kept hq2' hal) HQ3'.out HAP.out (ownsRow_mono (ownsRow_kept_below HQ3.out hal) hs1) ho5' hg5)
        have HB5 : Hid (Below w.heap.size w w5) := (bthen HB3s.out hal).grown hg5 hzz (fun j hj => (q1a.lt j hj).1)
        have HC5 := hidd (HC2.out _ (HA.out.kept HB5.out))
        have hr5 := HO5.out.1
        have hs5 : w.heap.size ≤ w5.heap.size := HB5.out.size
        clear ho5 ho5' hg5 q1a q1a' q1m hal hq2' hRN hzz f1 k1 k2
        go_wp2_with fail
        refine HC5.out.mono ?_
        rintro e w6 ⟨u6, rfl, ho6, hB6⟩
        obtain ⟨ss, z1, z2, z3⟩ := ho6
        have hsl6 : ss.length ≤ 60 := by have := z2.1; simp at this; omega
        have hr6 := ownsRow_kept_below hr5 hB6
        have HT := hidd z2
        have HT3 := hidd z3
        have HN := hidd (segCells_mem ss z2.polys.slices)
        have HP6 := hidd (PolysO.kept HO5.out.2.1 hB6)
        have HRN := hidd (RdN_of_RdR (owns_RdR z1))
        have HB6 := hidd (bthen HB5.out hB6)
        have hs6 : w.heap.size ≤ w6.heap.size := HB6.out.size
        have hrl6 : (rs2 ++ [(c - (T : Int), Value.slice qa P2.length qc)]).length ≤ 62 := by simp; omega
        clear z1 z2 z3 hB6 hr5
        go_wp2_with (at_builtin; refine appN 23 31 Try.underlying23 infoSeg rfl (by decide) (by decide) rfl _ _ rfl w.heap.size _ _ _ rfl hr6 _ _ _ rfl HRN.out HN.out ?c3 ?c4 ?_)
        case c3 => omega
        case c4 => exact hs6
        intro v7 w7 ho7 hg7 _
        have HF : Hid (FreshPB w (spL pl (I : Int) (T : Int)) (spB pl (I : Int) (T : Int)) (.returned (.tuple #[v7, .bool true])) w7) := by
          rw [E.out.1, E.out.2, HSE.out T]
          have h := OwP_app (wr := w5) hr6 HP6.out HO5.out.2.2 HO5.out.2.1.lt HT.out HT3.out hs5 (by rw [List.length_append, hr2]; exact ho7) hg7
          rw [← HP2.out] at h
          refine ⟨_, rfl, ?_, HB6.out.grown hg7 hs6 (fun j hj => (hr6.lt j hj).1)⟩
          simpa [List.append_assoc] using h
        clear ho7 hg7 hr6
        go_wp2
        go_ret2
        exact HF.out
    · have E : Hid (spB pl (I : Int) t = false ∧ spL pl (I : Int) t = []) := by
        have h : spB pl (I : Int) t = false := by rw [hsb]; simp [hat]
        exact ⟨h, if_neg (by rw [h]; decide)⟩
      have hdis : t < 1 ∨ (1 ≤ t ∧ c - 1 < t) := by
        rcases Int.lt_or_le t 1 with h | h
        · exact .inl h
        · refine .inr ⟨h, ?_⟩
          rcases Int.lt_or_le (c - 1) t with h2 | h2
          · exact h2
          · exact absurd (inB_iff.2 ⟨h, h2⟩) hat
      clear hsb hat hpx
      rcases hdis with ht | ⟨ht, ht2⟩
      all_goals
        go_enter Try.func33, Try.ntmps33
        go_wp2_with fail
        refine HPV.out.mono ?_
        rintro e w1 ⟨rfl, hB1⟩
        obtain ⟨b, o, pa, pn, pc, rfl, hb, e1, e2, hp, hpc, hpn⟩ := ha.cell hB1 hI
        rw [HS.out] at e1
        have HF : Hid (FreshPB w (spL pl (I : Int) t) (spB pl (I : Int) t) (.returned (.tuple #[.slice none 0 0, .bool false])) w1) := by
          rw [E.out.1, E.out.2]; exact ⟨_, rfl, OwP.nil _ _, hB1⟩
        clear hp hpc hpn ha hb0 hB1
        go_wp2
        go_ret2
        exact HF.out
  · have E : Hid (spB pl i t = false ∧ spL pl i t = []) := by
      have h : spB pl i t = false := by
        cases e : spB pl i t
        · rfl
        · unfold spB at e
          simp only [Bool.and_eq_true] at e
          exact absurd ⟨e.1.1.1, e.1.1.2⟩ hall
      exact ⟨h, if_neg (by rw [h]; decide)⟩
    have hdis : planB pl = false ∨ (planB pl = true ∧ i < 0) ∨ (planB pl = true ∧ 0 ≤ i ∧ (pl.length : Int) ≤ i) := by
      cases a : planB pl
      · exact .inl rfl
      · by_cases c : i < 0
        · exact .inr (.inl ⟨rfl, c⟩)
        · refine .inr (.inr ⟨rfl, by omega, ?_⟩)
          rcases Int.lt_or_le i (pl.length : Int) with h | h
          · exact absurd ⟨a, inB_iff.2 ⟨by omega, by omega⟩⟩ hall
          · exact h
    clear hall ha HA
    rcases hdis with hv | ⟨hv, hin⟩ | ⟨hv, hin, hin2⟩
    all_goals
      rw [hv] at HPV
      clear hv
      go_enter Try.func33, Try.ntmps33
      go_wp2_with fail
      refine HPV.out.mono ?_
      rintro e w1 ⟨rfl, hB1⟩
      have HF : Hid (FreshPB w (spL pl i t) (spB pl i t) (.returned (.tuple #[.slice none 0 0, .bool false])) w1) := by
        rw [E.out.1, E.out.2]; exact ⟨_, rfl, OwP.nil _ _, hB1⟩
      clear hB1
      go_wp2
      go_ret2
      exact HF.out
end Go.Proofs.Ytkfejnifbkgihaa
