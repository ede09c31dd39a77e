/- Contracts: two segments of a plan are joined; program and reference. -/
import Derived.Test.YtkfejnifbkgihaaPlan9
import Derived.Test.YtkfejnifbkgihaaPvP
namespace Go.Proofs.Ytkfejnifbkgihaa
set_option linter.unusedVariables false
open Go.RowKit

/-- the values of two neighbouring segments -/
def jnP (pl : List Seg) (i : Nat) : List Seg := (pl.take (i + 2)).drop i
def jnB (pl : List Seg) (i d : Int) : Bool := planB pl && inB d 0 6 && inB i 0 ((pl.length : Int) - 2) && runB (plV (jnP pl i.toNat)) d
def jnE (pl : List Seg) (i : Nat) : List Seg := pl.take i ++ [((pl.getD i noG).1 + (pl.getD (i + 1) noG).1, ip (plV (jnP pl i)))] ++ pl.drop (i + 2)
def jnL (pl : List Seg) (i d : Int) : List Seg := if jnB pl i d = true then jnE pl i.toNat else []
theorem jnP_eq {pl : List Seg} {i : Nat} (h : i + 1 < pl.length) : jnP pl i = [pl.getD i noG, pl.getD (i + 1) noG] := by
  unfold jnP
  have e : (pl.take (i + 2)).drop i = (pl.drop i).take 2 := by rw [List.drop_take]; congr 1; omega
  rw [e, drop_consG pl i (by omega), drop_consG pl (i + 1) h]
  rfl
theorem jnP_all {f : Seg → Bool} {pl : List Seg} {i : Nat} (h : pl.all f = true) : (jnP pl i).all f = true :=
  List.all_eq_true.2 fun x hx => List.all_eq_true.1 h x (List.mem_of_mem_take (List.mem_of_mem_drop hx))
theorem jnP_plan {pl : List Seg} {i : Nat} (h : planB pl = true) (hi : i + 1 < pl.length) : planB (jnP pl i) = true := by
  obtain ⟨h1, h2, h3⟩ := planB_iff.1 h
  refine planB_iff.2 ⟨by rw [jnP_eq hi]; simp, jnP_all h2, ?_⟩
  have hc := segB_cnt pl h2
  have e : tot pl = tot (pl.take i) + (tot (jnP pl i) + tot (pl.drop (i + 2))) := by
    rw [← tot_append, ← tot_append]
    congr 1
    have e2 : jnP pl i ++ pl.drop (i + 2) = pl.drop i := by
      rw [jnP_eq hi, drop_consG pl i (by omega), drop_consG pl (i + 1) hi]; rfl
    rw [e2, List.take_append_drop]
  have a := (tot_bd (pl.take i) (List.all_eq_true.2 fun x hx => List.all_eq_true.1 hc x (List.mem_of_mem_take hx))).1
  have b := (tot_bd (pl.drop (i + 2)) (List.all_eq_true.2 fun x hx => List.all_eq_true.1 hc x (List.mem_of_mem_drop hx))).1
  omega
theorem jnP_len {pl : List Seg} {i : Nat} (h : pl.all cntB = true) (hi : i + 1 < pl.length) : ((plV (jnP pl i)).length : Int) = (pl.getD i noG).1 + (pl.getD (i + 1) noG).1 := by
  rw [plV_len _ (jnP_all h), jnP_eq hi]
  simp [tot]
theorem jn_no {pl : List Seg} {i d : Int} (h : jnB pl i d = false) : jnL pl i d = [] := if_neg (by rw [h]; decide)
theorem Polys_lit1 {w : World} {c : Int} {v : Value} {p : List Int} (h : RdI w v p) (k : CapOk v) : Polys w [(c, v)] [(c, p)] :=
  ⟨rfl, fun i hi => by
    obtain rfl : i = 0 := by simp at hi; omega
    exact ⟨rfl, h, k⟩⟩
theorem RdR_lit1 (W : World) (c : Int) (v : Value) (t : TypeId) : RdR (W.alloc (.cells #[.int .i64 c, v] t)) (.slice (some ⟨W.heap.size, 0, none⟩) 1 1) [(c, v)] := by
  refine ⟨_, 1, rfl, Nat.le_refl _, .inr ⟨W.heap.size, 0, rfl, by simp, fun i hi => ?_⟩⟩
  match i, hi with
  | 0, _ => simp [go_sem, segCells]
  | 1, _ => simp [go_sem, segCells]
set_option maxRecDepth 20000 in
set_option maxHeartbeats 1600000 in
theorem c_l5RawJoinSegments (v : Value) (pl : List Seg) (i d : Int) (w : World) (ha : RdP w v pl) (hx : pl.length ≤ 1099511627776) (hpx : ∀ s ∈ pl, s.2.length ≤ 1099511627776) (hi1 : i ≤ 9223372036854775807) (hi0 : -9223372036854775808 ≤ i) :
    Calls Try.prog 51 #[v, (.int .i64 (i)), (.int .i64 (d))] w (RetPB w (jnL pl i d) (jnB pl i d)) := by
  have HO := hidd (c_l9OwnListSegment v pl w ha hx hpx)
  have HPV : Hid (∀ u W, RdP W u pl → Calls Try.prog 42 #[u] W fun e w' => e = .returned (.bool (planB pl)) ∧ Below W.heap.size W w') := fun u W h => c_spec_PlanValid u pl W h hx hpx
  clear ha hpx
  by_cases hall : planB pl = true ∧ inB d 0 6 = true ∧ inB i 0 ((pl.length : Int) - 2) = true
  · obtain ⟨hv, hd6, hin⟩ := hall
    have hl60 := planB_len hv
    obtain ⟨i1, i2⟩ := inB_iff.1 hin
    obtain ⟨I, rfl⟩ : ∃ I : Nat, i = I := ⟨i.toNat, by omega⟩
    have hI : I + 1 < pl.length := by omega
    have hjb : jnB pl (I : Int) d = runB (plV (jnP pl I)) d := by unfold jnB; rw [hv, hd6, hin, Int.toNat_natCast]; rfl
    have hcb := segB_cnt pl (planB_iff.1 hv).2.1
    have hjp := jnP_plan hv hI
    have HJO := hidd (valOk_of (planB_iff.1 hjp).2.1)
    have hjt := (tabB_iff (plV_tab hjp)).2.1
    have HJL : Hid ((jnP pl I).length = 2) := by show _ = _; rw [jnP_eq hI]; rfl
    have HJE : Hid (jnE pl I = pl.take I ++ [((pl.getD I noG).1 + (pl.getD (I + 1) noG).1, ip (plV (jnP pl I)))] ++ pl.drop (I + 2)) := rfl
    have c1 := cntB_iff.1 (all_getG hcb (show I < pl.length by omega))
    have c2 := cntB_iff.1 (all_getG hcb hI)
    obtain ⟨p1, hp1⟩ : ∃ c, (pl.getD I noG).1 = c := ⟨_, rfl⟩
    obtain ⟨p2, hp2⟩ : ∃ c, (pl.getD (I + 1) noG).1 = c := ⟨_, rfl⟩
    rw [hp1] at c1 HJE
    rw [hp2] at c2 HJE
    have HP1 := hidd hp1
    have HP2 := hidd hp2
    obtain ⟨V, hV⟩ : ∃ V, plV (jnP pl I) = V := ⟨_, rfl⟩
    rw [hV] at hjb HJE hjt
    have HVV := hidd hV
    rw [hv] at HPV
    have j1 : (0 : Int) ≤ (I : Int) := by omega
    have j2 : (I : Int) < (pl.length : Int) := by omega
    have j3 : (I : Int) + 1 < (pl.length : Int) := by omega
    have j4 : (0 : Int) ≤ (I : Int) + 1 := by omega
    have g4 : ((I : Int) + 1).toNat = I + 1 := by omega
    clear hcb hjp hp1 hp2 hV hv hi0 hi1
    have hrb : runB V d = false ∨ runB V d = true := by cases runB V d <;> simp
    rcases hrb with hrb | hrb
    · have E : Hid (jnB pl (I : Int) d = false ∧ jnL pl (I : Int) d = []) := ⟨by rw [hjb, hrb], jn_no (by rw [hjb, hrb])⟩
      clear hjb
      go_enter Try.func51, Try.ntmps51
      go_wp2_with fail
      refine HO.out.mono ?_
      rintro e w1 ⟨u, rfl, ho, hB1⟩
      have HP := hidd (HPV.out _ _ ho.rd)
      obtain ⟨ua, ucap, rfl, huc⟩ := ho.form
      have HR := hidd ho.rd
      clear ho
      go_wp2_with fail
      refine HP.out.mono ?_
      rintro e w2 ⟨rfl, hB2⟩
      obtain ⟨A, g1, g2⟩ := slP_lh ua pl.length ucap I (I + 2) (by omega) (by omega) huc
      have e2 : ((I + 2 : Nat) : Int) = (I : Int) + 2 := by push_cast; rfl
      have e3 : I + 2 - I = 2 := by omega
      rw [e2, e3] at g1
      rw [e3] at g2
      have HLV : Hid (Calls Try.prog 43 #[.slice A 2 (ucap - I)] w2 (FreshI w2 V)) := by
        obtain ⟨rs, q1, q2⟩ := HR.out.kept hB2
        have := c_l5Values _ (jnP pl I) w2 ⟨_, g2 w2 rs q2.1 q1, (q2.take (I + 2)).drop I⟩ (by rw [HJL.out]; omega) HJO.out
        rwa [HVV.out] at this
      have HB := hidd (bthen hB1 hB2)
      clear g2 hB1 hB2 e2 e3
      go_wp2_with (first | (go_at_call 82; refine (c_l4Degree _ _).mono ?_; rw [hd6]; rintro e w' ⟨rfl, rfl⟩) | (go_at_call 75; refine (c_l1In _ _ _ _).mono ?_; rw [hin]; rintro e w' ⟨rfl, rfl⟩))
      refine HLV.out.mono ?_
      rintro e w3 ⟨vv, rfl, hvv, hB3⟩
      have HRU := hidd (c_l5Run vv V d w3 (owns_RdI hvv) (owns_CapOk hvv) (by omega))
      have HB3 := hidd (bthen HB.out hB3)
      rw [hrb] at HRU
      clear hvv hB3 g1
      go_wp2_with fail
      refine HRU.out.mono ?_
      rintro e w4 ⟨q, rfl, hq, hB4⟩
      have HF : Hid (RetPB w (jnL pl (I : Int) d) (jnB pl (I : Int) d) (.returned (.tuple #[.slice (some ⟨w4.heap.size, 0, none⟩) 0 0, .bool false])) (w4.alloc (.cells #[] 31))) := by
        rw [E.out.1]; exact emptyP w w4 _ _ E.out.2 (bthen HB3.out hB4)
      clear hq hB4
      go_wp2
      go_ret2
      exact HF.out
    · have E : Hid (jnB pl (I : Int) d = true ∧ jnL pl (I : Int) d = jnE pl I) := by
        have h : jnB pl (I : Int) d = true := by rw [hjb, hrb]
        exact ⟨h, if_pos h⟩
      have HRL : Hid (runL V d = ip V) := runL_t hrb
      have hip7 := (polyB_iff (runB_iff hrb).2.2.2).2.1
      clear hjb
      go_enter Try.func51, Try.ntmps51
      go_wp2_with fail
      refine HO.out.mono ?_
      rintro e w1 ⟨u, rfl, ho, hB1⟩
      have HP := hidd (HPV.out _ _ ho.rd)
      obtain ⟨ua, ucap, rfl, huc⟩ := ho.form
      have HR := hidd ho.rd
      clear ho
      go_wp2_with fail
      refine HP.out.mono ?_
      rintro e w2 ⟨rfl, hB2⟩
      obtain ⟨A, g1, g2⟩ := slP_lh ua pl.length ucap I (I + 2) (by omega) (by omega) huc
      have e2 : ((I + 2 : Nat) : Int) = (I : Int) + 2 := by push_cast; rfl
      have e3 : I + 2 - I = 2 := by omega
      rw [e2, e3] at g1
      rw [e3] at g2
      have HLV : Hid (Calls Try.prog 43 #[.slice A 2 (ucap - I)] w2 (FreshI w2 V)) := by
        obtain ⟨rs, q1, q2⟩ := HR.out.kept hB2
        have := c_l5Values _ (jnP pl I) w2 ⟨_, g2 w2 rs q2.1 q1, (q2.take (I + 2)).drop I⟩ (by rw [HJL.out]; omega) HJO.out
        rwa [HVV.out] at this
      have HB := hidd (bthen hB1 hB2)
      have HR2 := hidd (HR.out.kept hB2)
      clear g2 hB1 hB2 e2 e3
      go_wp2_with (first | (go_at_call 82; refine (c_l4Degree _ _).mono ?_; rw [hd6]; rintro e w' ⟨rfl, rfl⟩) | (go_at_call 75; refine (c_l1In _ _ _ _).mono ?_; rw [hin]; rintro e w' ⟨rfl, rfl⟩))
      refine HLV.out.mono ?_
      rintro e w3 ⟨vv, rfl, hvv, hB3⟩
      have HRU := hidd (c_l5Run vv V d w3 (owns_RdI hvv) (owns_CapOk hvv) (by omega))
      have HB3 := hidd (bthen HB.out hB3)
      have HR3 := hidd (HR2.out.kept hB3)
      rw [hrb, HRL.out] at HRU
      clear hvv hB3 g1
      go_wp2_with fail
      refine HRU.out.mono ?_
      rintro e w4 ⟨q, rfl, hq, hB4⟩
      obtain ⟨qa, qc, rfl, hqc⟩ := RdI_cap (owns_RdI hq) (owns_CapOk hq)
      have HQ := hidd (owns_RdI hq)
      have HB4 := hidd (bthen HB3.out hB4)
      have hR4 := HR3.out.kept hB4
      obtain ⟨b, o, pa1, pn1, pc1, rfl, hb, e1, f1, _, _, _⟩ := hR4.cell (Below.refl _ _) (show I < pl.length by omega)
      obtain ⟨_, _, pa2, pn2, pc2, he, _, e2, f2, _, _, _⟩ := hR4.cell (Below.refl _ _) hI
      simp only [Option.some.injEq, Addr.mk.injEq] at he
      obtain ⟨rfl, rfl, _⟩ := he
      rw [HP1.out] at e1
      rw [HP2.out] at e2
      obtain ⟨rs, hrr, hpp⟩ := hR4
      have hrl := hpp.1
      have g5 : IntKind.i64.wrap ((I : Int) + 1) = (I : Int) + 1 := IntWalk.i64_in _ (by omega)
      have g6 : IntKind.i64.wrap (p1 + p2) = p1 + p2 := IntWalk.i64_in _ (by omega)
      have hal : Below w4.heap.size w4 (w4.alloc (.cells #[.int .i64 (p1 + p2), .slice qa (ip V).length qc] 31)).drew := ((Below.refl _ _).alloc (Nat.le_refl _) _).drew
      have hk0 : Below w4.heap.size w4 w4.drew ∧ w4.drew.cell? ⟨b, o + I * 2, none⟩ = some (.int .i64 p1) ∧ w4.drew.cell? ⟨b, o + (I + 1) * 2, none⟩ = some (.int .i64 p2) := ⟨(Below.refl _ _).drew, e1, e2⟩
      have hk1 := keep2b hb (⟨Below.refl _ _, e1, e2⟩ : Below w4.heap.size w4 w4 ∧ w4.cell? ⟨b, o + I * 2, none⟩ = some (.int .i64 p1) ∧ w4.cell? ⟨b, o + (I + 1) * 2, none⟩ = some (.int .i64 p2)) hal
      have HED : Hid (Calls Try.prog 84 #[.slice (some ⟨b, o, none⟩) pl.length ucap, (.int .i64 ((I : Int))), (.int .i64 (2)), .slice (some ⟨w4.heap.size, 0, none⟩) 1 1] (w4.alloc (.cells #[.int .i64 (p1 + p2), .slice qa (ip V).length qc] 31)).drew
          (EditR (w4.alloc (.cells #[.int .i64 (p1 + p2), .slice qa (ip V).length qc] 31)).drew (rs.take I ++ [(p1 + p2, .slice qa (ip V).length qc)] ++ rs.drop (I + 2)))) := by
        refine c_l5Edit _ _ rs [(p1 + p2, .slice qa (ip V).length qc)] I 2 _ (hrr.kept hal) (RdR_lit1 w4 _ _ _) (by omega) (by omega) (by simp) (segCells_mem rs hpp.slices) ?_
        exact segCells_mem _ (Polys_lit1 (c := p1 + p2) HQ.out (CapOk_of hqc)).slices
      have HPO := hidd hpp
      have HAL := hidd hal
      clear hrr hpp hq hB4 f1 f2 hrl hip7 e1 e2 hal
      go_wp2
      go_region_held3 (fun wx => Below w4.heap.size w4 wx ∧ wx.cell? ⟨b, o + I * 2, none⟩ = some (.int .i64 p1) ∧ wx.cell? ⟨b, o + (I + 1) * 2, none⟩ = some (.int .i64 p2)) (first | assumption | exact hk0 | exact hk1 | exact keep2b hb hk1 (by assumption))
        ((go_at_call 84; refine HED.out.mono ?_; rintro e w6 ⟨vv6, rfl, ho6, hB6⟩))
      have HF : Hid (RetPB w (jnL pl (I : Int) d) (jnB pl (I : Int) d) (.returned (.tuple #[vv6, .bool true])) w6) := by
        rw [E.out.1, E.out.2, HJE.out]
        have hb6 := bthen HAL.out hB6
        exact ⟨_, rfl, ⟨_, owns_RdR ho6, (((HPO.out.take I).app (Polys_lit1 (c := p1 + p2) HQ.out (CapOk_of hqc))).app (HPO.out.drop (I + 2))).kept hb6⟩, bthen HB4.out hb6⟩
      clear ho6 hB6 hk0 hk1 g5 g6
      go_wp2
      go_ret2
      exact HF.out
  · have E : Hid (jnB pl i d = false ∧ jnL pl i d = []) := by
      have h : jnB pl i d = false := by
        cases e : jnB pl i d
        · rfl
        · unfold jnB at e
          simp only [Bool.and_eq_true] at e
          exact absurd ⟨e.1.1.1, e.1.1.2, e.1.2⟩ hall
      exact ⟨h, jn_no h⟩
    have hdis : planB pl = false ∨ (planB pl = true ∧ inB d 0 6 = false) ∨ (planB pl = true ∧ inB d 0 6 = true ∧ inB i 0 ((pl.length : Int) - 2) = false) := by
      cases a : planB pl
      · exact .inl rfl
      · cases b : inB d 0 6
        · exact .inr (.inl ⟨rfl, rfl⟩)
        · cases c : inB i 0 ((pl.length : Int) - 2)
          · exact .inr (.inr ⟨rfl, rfl, rfl⟩)
          · exact absurd ⟨a, b, c⟩ hall
    clear hall
    rcases hdis with hv | ⟨hv, hd6⟩ | ⟨hv, hd6, hin⟩
    all_goals
      have HX := hidd (fun h : planB pl = true => planB_len h)
      rw [hv] at HPV HX
      go_enter Try.func51, Try.ntmps51
      go_wp2_with fail
      refine HO.out.mono ?_
      rintro e w1 ⟨u, rfl, ho, hB1⟩
      have HP := hidd (HPV.out _ _ ho.rd)
      obtain ⟨ua, ucap, rfl, huc⟩ := ho.form
      clear ho
      go_wp2_with fail
      refine HP.out.mono ?_
      rintro e w2 ⟨rfl, hB2⟩
      have HF : Hid (RetPB w (jnL pl i d) (jnB pl i d) (.returned (.tuple #[.slice (some ⟨w2.heap.size, 0, none⟩) 0 0, .bool false])) (w2.alloc (.cells #[] 31))) := by
        rw [E.out.1]; exact emptyP w w2 _ _ E.out.2 (bthen hB1 hB2)
      clear hB1 hB2
      go_wp2_with (first | (go_at_call 82; refine (c_l4Degree _ _).mono ?_; rw [hd6]; rintro e w' ⟨rfl, rfl⟩) | (go_at_call 75; refine (c_l1In _ _ _ _).mono ?_; rw [hin]; rintro e w' ⟨rfl, rfl⟩))
      go_ret2
      exact HF.out
end Go.Proofs.Ytkfejnifbkgihaa
