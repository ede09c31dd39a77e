/- Contracts: the lines of a page, in the program. -/
import Derived.Test.YtdgnhplaakjlgaaGreatDoorPg4
namespace Go.Proofs.YtdgnhplaakjlgaaGreatDoor
set_option linter.unusedVariables false
open Go.RowKit

theorem c_Join (v : Value) {base : Nat} (xs : List ByteArray) (w : World) (h : OwnS w base v xs) (hx : xs.length ≤ 1000) (hl : (Lib.join (xs.map (·.data.toList)) [32]).length ≤ 1099511627776) :
    Calls Tryz.prog 36 #[v, .string ⟨#[32]⟩] w (StrB (Lib.join (xs.map (·.data.toList)) [32]) w) := by
  have hr := owns_RdS h
  obtain ⟨h1, h2⟩ := h
  rcases h2 with ⟨rfl, hn⟩ | ⟨g, cap, cur, rfl, hg, hh, h3, h4, r⟩
  · have hx0 : xs = [] := List.eq_nil_of_length_eq_zero hn
    subst hx0
    refine (Tryz.strings_Join_none none 0 ⟨#[32]⟩ w).mono ?_
    rintro e w' ⟨rfl, rfl⟩
    exact ⟨_, rfl, rfl, Below.refl _ _⟩
  · have hlt : g < w.heap.size := by
      by_cases hlt : g < w.heap.size
      · exact hlt
      · rw [Array.getElem?_eq_none (by omega)] at hh; cases hh
    refine (Tryz.strings_Join g 0 cap xs ⟨#[32]⟩ w ?_ hlt (by omega) h3 (by show (Lib.join (xs.map (·.data.toList)) [32]).length ≤ _; omega)).mono ?_
    · intro j x hj
      have hjl : j < xs.length := by
        by_cases hq : j < xs.length
        · exact hq
        · rw [List.getElem?_eq_none (by omega)] at hj; cases hj
      rcases hr.op with ⟨a, c, e, rfl⟩ | ⟨b, o, c, e, hb, hcell⟩
      · simp at hjl
      · simp only [Value.slice.injEq, Option.some.injEq, Addr.mk.injEq] at e
        obtain ⟨⟨rfl, rfl, _⟩, _, _⟩ := e
        rw [hcell j hjl]
        congr 2
        simp only [List.getD, hj, Option.getD_some]
    · rintro e w' ⟨rfl, hB⟩
      exact ⟨_, rfl, IsS.mk _, hB⟩
def cellS (xs : List Int) (wd f r c : Nat) : List ByteArray := (List.range c).map fun i => ⟨(entT xs wd (f + i * r)).toArray⟩
theorem cellS_len (xs : List Int) (wd f r c : Nat) : (cellS xs wd f r c).length = c := by simp [cellS]
theorem cellS_succ (xs : List Int) (wd f r c : Nat) : cellS xs wd f r (c + 1) = cellS xs wd f r c ++ [⟨(entT xs wd (f + c * r)).toArray⟩] := by
  unfold cellS; rw [List.range_succ, List.map_append]; rfl
theorem cellS_text (xs : List Int) (wd f r c : Nat) : Lib.join ((cellS xs wd f r c).map (·.data.toList)) [32] = cellJ xs wd f r c := by
  unfold cellJ cellsT cellS
  rw [List.map_map]
  congr 1
theorem place_lt {k j R A : Nat} (hk : k < R) : k + j * R < R * A ↔ j < A := by
  constructor
  · intro h
    by_cases hj : j < A
    · exact hj
    · have := Nat.mul_le_mul_right R (show A ≤ j by omega)
      rw [Nat.mul_comm R A] at h
      omega
  · intro h
    have := Nat.mul_le_mul_right R (show j + 1 ≤ A by omega)
    rw [Nat.add_mul] at this
    rw [Nat.mul_comm R A]
    omega
theorem ent_of {x : Int} {C : Nat} {T Y : ByteArray} (hT : IsS T (Lib.itoa x)) (hY : IsS Y (List.replicate (C - (Lib.itoa x).length) 32)) : Y ++ T = ⟨(entL x C).toArray⟩ :=
  IsS.inj (hY.app hT) (IsS.mk _)

set_option maxRecDepth 20000 in
set_option maxHeartbeats 3200000 in
theorem c_impl_PageLines (r a c : Int) (b : Option Addr) (cap : Nat) (xs : List Int) (p : Int) (w : World) (htab : TabW w) (ha : RdI w (.slice b xs.length cap) xs) (hx : xs.length ≤ 1099511627776) (hcap : xs.length ≤ cap) (hcap2 : cap ≤ 9223372036854775807) :
    Calls Tryz.prog 9 #[(.agg #[.int .i64 r, .int .i64 a, .int .i64 c]), .slice b xs.length cap, (.int .i64 (p))] w (FreshSB w (plinS r a c xs p) (plinB r a c xs p)) := by
  by_cases hv : pgB r a c xs p = true
  · have E : plinS r a c xs p = pgeF xs c.toNat (p * (r * a)).toNat r.toNat a.toNat ∧ plinB r a c xs p = pgeB xs c.toNat (p * (r * a)).toNat r.toNat a.toNat := ⟨if_pos hv, by unfold plinB; rw [hv]; rfl⟩
    rw [E.1, E.2]
    clear E
    obtain ⟨hl, ht, p0, p1⟩ := pgB_iff hv
    obtain ⟨t1, t2, t3⟩ := tabB_iff ht
    have T3 : Hid (allIn xs 1000000000 = true) := t3
    obtain ⟨l1, l2, l3, l4, l5, l6, l7, l8⟩ := lay_mul hl
    have q0 : 0 ≤ p * (r * a) := Int.mul_nonneg p0 (by omega)
    obtain ⟨s, hs⟩ : ∃ s : Nat, (p * (r * a)).toNat = s := ⟨_, rfl⟩
    have hs2 : s < xs.length := by omega
    have HV : Hid (pgB r a c xs p = true) := hv
    obtain ⟨R, rfl⟩ : ∃ R : Nat, r = R := ⟨r.toNat, by omega⟩
    obtain ⟨A, rfl⟩ : ∃ A : Nat, a = A := ⟨a.toNat, by omega⟩
    obtain ⟨C, rfl⟩ : ∃ C : Nat, c = C := ⟨c.toNat, by omega⟩
    rw [hs, Int.toNat_natCast, Int.toNat_natCast, Int.toNat_natCast]
    obtain ⟨B, hb⟩ : ∃ B, pgeB xs C s R A = B := ⟨_, rfl⟩
    obtain ⟨F, hf⟩ : ∃ F, pgeF xs C s R A = F := ⟨_, rfl⟩
    obtain ⟨n, hn⟩ : ∃ n, pgN xs.length s R = n := ⟨_, rfl⟩
    have HE : Hid (pgOk xs C s R A n = B ∧ (if B = true then pgLn xs C s R A n else []) = F ∧ pgN xs.length s R = n) := by
      refine ⟨?_, ?_, hn⟩
      · rw [← hn]; exact hb
      · rw [← hn, ← hb]; exact hf
    rw [hb, hf]
    obtain ⟨M, hM⟩ : ∃ M : Nat, R * A = M := ⟨_, rfl⟩
    have HM : Hid (R * A = M) := hM
    have hRM : R ≤ M := by rw [← hM]; exact Nat.le_mul_of_pos_right _ (by omega)
    have hM2 : ((R : Int) * (A : Int)).toNat = M := by rw [← hM]; rw [← Int.natCast_mul, Int.toNat_natCast]
    have HS : Hid ((p * ((R : Int) * (A : Int))).toNat = s ∧ ((R : Int) * (A : Int)).toNat = M) := ⟨hs, hM2⟩
    clear hv ht t3 q0 p1 l7 l8 hs hM hM2 hb hf
    go_enter Tryz.func9, Tryz.ntmps9
    go_wp2_with fail
    refine (c_pageExists _ _ _ _ xs _ _ (ha.kept ((Below.refl _ _).alloc (Nat.le_refl _) _)) hx).mono ?_
    rw [HV.out]
    rintro e w1 ⟨rfl, hB1⟩
    obtain ⟨_, k0, k1, k2⟩ := keep3_0 hB1
    replace k0 : w1.cell? ⟨w.heap.size, 0, none⟩ = some (.int .i64 ((R : Int))) := k0
    replace k1 : w1.cell? ⟨w.heap.size, 1, none⟩ = some (.int .i64 ((A : Int))) := k1
    replace k2 : w1.cell? ⟨w.heap.size, 2, none⟩ = some (.int .i64 ((C : Int))) := k2
    have hA := balloc hB1
    have hz1 : w.heap.size < w1.heap.size := by have := hB1.size; simp at this; omega
    clear hB1
    go_wp2_with fail
    refine (c_entriesOfPage _ _ _ _ cap xs _ w _ ha hcap hcap2 HV.out).mono ?_
    rw [HS.out.1, HS.out.2]
    rintro e w2 ⟨⟨v3, rfl, hr3⟩, hB2⟩
    replace hA := bthen hA hB2
    have hc2 := (bcell hB2).1
    replace k0 : w2.cell? ⟨w.heap.size, 0, none⟩ = some (.int .i64 ((R : Int))) := by rw [hc2 _ _ hz1]; exact k0
    replace k1 : w2.cell? ⟨w.heap.size, 1, none⟩ = some (.int .i64 ((A : Int))) := by rw [hc2 _ _ hz1]; exact k1
    replace k2 : w2.cell? ⟨w.heap.size, 2, none⟩ = some (.int .i64 ((C : Int))) := by rw [hc2 _ _ hz1]; exact k2
    replace hz1 : w.heap.size < w2.heap.size := by have := hB2.size; omega
    clear hc2 hB2
    obtain ⟨Y, hY⟩ : ∃ Y, pgE xs s M = Y := ⟨_, rfl⟩
    have hYl : Y.length = min M (xs.length - s) := by rw [← hY]; simp [pgE]
    have hYg : ∀ k, k < Y.length → Y.getD k 0 = xs.getD (s + k) 0 := by
      intro k hk
      rw [hYl] at hk
      rw [← hY]
      unfold pgE
      have h1 : k < M := by omega
      have h2 : s + k < xs.length := by omega
      simp [List.getD, h1, h2]
    rw [hY] at hr3
    clear hY
    have hnY : (n : Int) = min (R : Int) (Y.length : Int) := by rw [← hn]; unfold pgN; omega
    have HY : Hid (Y.length = min M (xs.length - s) ∧ (∀ k, k < Y.length → Y.getD k 0 = xs.getD (s + k) 0) ∧ (n : Int) = min (R : Int) (Y.length : Int)) := ⟨hYl, hYg, hnY⟩
    have hY60 : Y.length ≤ 60 := by omega
    have hmin : min (R : Int) (Y.length : Int) = (n : Int) := hnY.symm
    clear hYl hYg hn hnY
    have hr4 := hr3
    obtain ⟨b3, cap3, rfl, hr5⟩ := hr4
    clear hr5 ha
    simp only [List.length_map] at hr3 ⊢
    have htab2 := htab.below hA
    go_wp2_with (first | (at_make; refine mkcap 25 9 Tryz.underlying25 infoStr (by decide) rfl _ _ rfl R rfl rfl rfl (by omega) ?_; intro w3 ho3 hB3 hz3; have hc3 := (bcell hB3).1; have k0' : w3.cell? ⟨w.heap.size, 0, none⟩ = some (.int .i64 ((R : Int))) := (by rw [hc3 _ _ hz1]; exact k0); have k1' : w3.cell? ⟨w.heap.size, 1, none⟩ = some (.int .i64 ((A : Int))) := (by rw [hc3 _ _ hz1]; exact k1); have k2' : w3.cell? ⟨w.heap.size, 2, none⟩ = some (.int .i64 ((C : Int))) := (by rw [hc3 _ _ hz1]; exact k2); clear hc3))
    go_loopw [9, 31] (fun o i wr => ∃ k : Nat, k ≤ n ∧ i = .int .i64 k ∧ OwnS wr w2.heap.size o (pgLn xs C s R A k) ∧ pgOk xs C s R A k = true ∧ Below w2.heap.size w2 wr) (fun _ i _ => n - (intOf i).toNat)
    case atStart => exact ⟨0, by omega, rfl, ho3, rfl, hB3⟩
    case round =>
      obtain ⟨k, hk, rfl, ho, hOk, hB⟩ := hrel
      have HO : Hid (pgOk xs C s R A k = true) := hOk
      clear hOk k0' k1' k2' ho3
      by_cases hlt : k < n
      · obtain ⟨hkR, hks⟩ : k < R ∧ s + k < xs.length := by have h := hlt; rw [← HE.out.2.2] at h; exact pgN_lt h
        obtain ⟨c, hc⟩ : ∃ c, nCol xs.length (s + k) R A = c := ⟨_, rfl⟩
        have hcA : c ≤ A := by rw [← hc]; exact nCol_le _ _ _ _
        have HC : Hid (nCol xs.length (s + k) R A = c) := hc
        have c0 : wr.cell? ⟨w.heap.size, 0, none⟩ = some (.int .i64 ((R : Int))) := by rw [(bcell hB).1 _ _ hz1]; exact k0
        have c2 : wr.cell? ⟨w.heap.size, 2, none⟩ = some (.int .i64 ((C : Int))) := by rw [(bcell hB).1 _ _ hz1]; exact k2
        have hzr : w.heap.size < wr.heap.size := by have := hB.size; omega
        have htabr := htab2.below hB
        have hAr := bthen hA hB
        clear k0 k1 k2 hc htab2 htab
        go_wp2
        obtain ⟨W, hW⟩ : ∃ W : World, W = wr := ⟨_, rfl⟩
        subst hW
        go_loopw [11, 12] (fun o i wi => ∃ j t : Nat, j ≤ c ∧ t = k + j * R ∧ i = .int .i64 t ∧ OwnS wi W.heap.size o (cellS xs C (s + k) R j) ∧ cellB xs C (s + k) R j = true ∧ Below W.heap.size W wi) (fun _ i _ => 1000 - (intOf i).toNat)
        case atStart => exact ⟨0, k, by omega, by simp, rfl, OwnS_nil _ _, rfl, Below.refl _ _⟩
        case round =>
          obtain ⟨j, t, hj, ht, rfl, hoi, hOj, hBi⟩ := hrel
          have HT : Hid (t = k + j * R) := ht
          have HJ : Hid (cellB xs C (s + k) R j = true) := hOj
          have d0 : wr.cell? ⟨w.heap.size, 0, none⟩ = some (.int .i64 ((R : Int))) := by rw [(bcell hBi).1 _ _ hzr]; exact c0
          have d2 : wr.cell? ⟨w.heap.size, 2, none⟩ = some (.int .i64 ((C : Int))) := by rw [(bcell hBi).1 _ _ hzr]; exact c2
          have htabi := htabr.below hBi
          have hAi := bthen hAr hBi
          clear ht hOj c0 c2
          by_cases hin : t < Y.length
          · have hjA : j < A := by
              refine (place_lt hkR).1 ?_
              have h1 := HY.out.1
              rw [← HT.out, HM.out]
              omega
            have hjc : j < c := by
              rw [← HC.out]
              refine nCol_lt hjA ?_
              have h1 := HY.out.1
              have h2 := HT.out
              omega
            obtain ⟨b1, o1, rfl, hb1, e1⟩ := RdI_cell hr3 hAi hin
            rw [HY.out.2.1 t hin] at e1
            have hxb := getD_bd T3.out (s + t)
            obtain ⟨x, hx1⟩ : ∃ x, xs.getD (s + t) 0 = x := ⟨_, rfl⟩
            rw [hx1] at e1 hxb
            obtain ⟨x1, x2⟩ := hxb
            have HX : Hid (xs.getD (s + k + j * R) 0 = x) := by show _ = _; rw [show s + k + j * R = s + t by have := HT.out; omega]; exact hx1
            clear hx1 hr3
            go_wp2_with fail
            refine (c_Itoa x _ htabi (by omega) (by omega)).mono ?_
            rintro e w5 ⟨T, rfl, hT, hB5⟩
            have hlx := itoa_len (n := x) (by omega) (by omega)
            have HTs : Hid (T.size = (Lib.itoa x).length) := hT.size
            have hTl : T.size ≤ 17 := by rw [HTs.out]; exact hlx
            have hzi : w.heap.size < wr.heap.size := by have := hBi.size; omega
            replace d0 : w5.cell? ⟨w.heap.size, 0, none⟩ = some (.int .i64 ((R : Int))) := by rw [(bcell hB5).1 _ _ hzi]; exact d0
            replace d2 : w5.cell? ⟨w.heap.size, 2, none⟩ = some (.int .i64 ((C : Int))) := by rw [(bcell hB5).1 _ _ hzi]; exact d2
            replace hoi := ownsRow_kept_below hoi hB5
            replace hBi := bthen hBi hB5
            have hz5 : w.heap.size < w5.heap.size := by have := hB5.size; omega
            clear hB5 htabi hAi htabr e1 hlx
            cases he : entB x C
            · have hlt5 : (C : Int) < (T.size : Int) := by
                unfold entB at he
                have h1 := of_decide_eq_false he
                have h2 := HTs.out
                omega
              have HB : Hid (B = false ∧ F = [] ∧ Below w.heap.size w w5) := by
                have h0 : lnB xs C (s + k) R A = false := by
                  unfold lnB
                  refine cellB_false (i := j) ?_ (by rw [HC.out]; exact hjc)
                  unfold entK
                  rw [HX.out]
                  exact he
                have h1 : B = false := by rw [← HE.out.1]; exact pgOk_false h0 hlt
                exact ⟨h1, by rw [← HE.out.2.1, h1]; rfl, bthen hAr hBi⟩
              clear he hT hoi hBi ho hB
              go_wp2
              go_ret2
              exact ⟨_, by rw [HB.out.1]; rfl, by rw [HB.out.2.1]; exact OwnS_nil _ _, HB.out.2.2⟩
            · have hle : T.size ≤ C := by
                unfold entB at he
                have h1 := of_decide_eq_true he
                have h2 := HTs.out
                omega
              have hnlt : ¬ (C : Int) < (T.size : Int) := by omega
              have hC12 : (C : Int) ≤ 12 := l6
              have HN : Hid (((C : Int) - (T.size : Int)).toNat = C - (Lib.itoa x).length) := by show _ = _; have h2 := HTs.out; omega
              have HK : Hid (cellB xs C (s + k) R (j + 1) = true ∧ cellS xs C (s + k) R (j + 1) = cellS xs C (s + k) R j ++ [⟨(entL x C).toArray⟩]) := by
                refine ⟨?_, ?_⟩
                · rw [cellB_succ, HJ.out]
                  unfold entK
                  rw [HX.out]
                  exact he
                · rw [cellS_succ]
                  unfold entT
                  rw [HX.out]
              have hlen := cellS_len xs C (s + k) R j
              generalize cellS xs C (s + k) R j = L at hoi HK hlen
              have HT5 : Hid (IsS T (Lib.itoa x)) := hT
              have HL : Hid (L.length = j) := hlen
              have hL6 : L.length ≤ 6 := by omega
              clear he hT hlen
              go_wp2_with fail
              refine (c_RepeatSp _ _ (by omega) (by omega)).mono ?_
              rintro e w6 ⟨Z, rfl, hZ, hB6⟩
              rw [HN.out] at hZ
              have hZs : Z.size ≤ 12 := by rw [hZ.size, List.length_replicate]; omega
              have HE2 : Hid (Z ++ T = ⟨(entL x C).toArray⟩) := ent_of HT5.out hZ
              replace d0 : w6.cell? ⟨w.heap.size, 0, none⟩ = some (.int .i64 ((R : Int))) := by rw [(bcell hB6).1 _ _ hz5]; exact d0
              replace hoi := ownsRow_kept_below hoi hB6
              replace hBi := bthen hBi hB6
              have hBs := hBi.size
              unfold OwnS at hoi
              clear hZ hB6 d2
              go_wp2_with (first | (at_builtin; refine app1 25 9 Tryz.underlying25 infoStr rfl (by decide) rfl _ _ rfl W.heap.size _ _ _ rfl hoi rfl rfl ?c1 ?c2 ?_))
              case c1 => omega
              case c2 => exact hBs
              intro v' w7 ho7 hg7
              have hBW := hBi.grown hg7 hBs (fun i hi => (hoi.lt i hi).1)
              have d7 : w7.cell? ⟨w.heap.size, 0, none⟩ = some (.int .i64 ((R : Int))) := by
                rw [(bcell hBW).1 _ _ hzr, ← (bcell hBi).1 _ _ hzr]; exact d0
              have HO7 : Hid (OwnS w7 W.heap.size v' (cellS xs C (s + k) R (j + 1)) ∧ Below W.heap.size W w7) := ⟨by rw [HK.out.2, ← HE2.out]; exact OwnS_snoc rfl ho7, hBW⟩
              clear hoi ho7 hg7 hBi d0 hBW
              go_wp2
              go_roundw
              case rel => exact ⟨j + 1, t + R, by omega, by rw [HT.out, Nat.add_mul]; omega, by go_num, HO7.out.1, HK.out.1, HO7.out.2⟩
              case measure => simp [intOf]; omega
          · have HJC : Hid (nCol xs.length (s + k) R A = j) := by
              refine nCol_eq (by rw [HC.out]; exact hj) ?_
              have h1 := HY.out.1
              have h2 := HT.out
              by_cases h3 : xs.length ≤ s + t
              · right; omega
              · left
                by_cases h4 : j < A
                · have := (place_lt (R := R) hkR).2 h4
                  rw [← HT.out, HM.out] at this
                  omega
                · omega
            have HB2 : Hid (lnB xs C (s + k) R A = true ∧ lnL xs C (s + k) R A = cellJ xs C (s + k) R j) := ⟨by unfold lnB; rw [HJC.out]; exact HJ.out, by unfold lnL; rw [HJC.out]⟩
            have HK : Hid (pgOk xs C s R A (k + 1) = true ∧ pgLn xs C s R A (k + 1) = pgLn xs C s R A k ++ [lnS xs C (s + k) R A]) := by
              refine ⟨?_, pgLn_succ _ _ _ _ _ _⟩
              rw [pgOk_succ, HO.out, HB2.out.1]; rfl
            have hjl := cellJ_len HJ.out
            have hjm : j * (C + 1) ≤ 6 * 13 := Nat.mul_le_mul (by omega) (by omega)
            have hcj := c_Join _ _ wr hoi (by rw [cellS_len]; omega) (by rw [cellS_text]; omega)
            rw [cellS_text] at hcj
            have hlen := pgLn_len xs C s R A k
            replace ho := ownsRow_kept_below ho hBi
            replace hB := bthen hB hBi
            generalize pgLn xs C s R A k = L at ho HK hlen
            clear hjl hjm hoi htabi htabr hAi hBi d0 d2 hr3
            go_wp2_with fail
            refine hcj.mono ?_
            rintro e w5 ⟨Q, rfl, hQ, hB5⟩
            have HQ : Hid (Q = lnS xs C (s + k) R A) := IsS.inj hQ (by unfold lnS; rw [HB2.out.2]; exact IsS.mk _)
            replace ho := ownsRow_kept_below ho hB5
            replace hB := bthen hB hB5
            have hBs : w2.heap.size ≤ w5.heap.size := hB.size
            have HL : Hid (L.length = k) := hlen
            have hL20 : L.length ≤ 20 := by omega
            unfold OwnS at ho
            clear hQ hB5 hcj hlen
            go_wp2_with (first | (at_builtin; refine app1 25 9 Tryz.underlying25 infoStr rfl (by decide) rfl _ _ rfl w2.heap.size _ _ _ rfl ho rfl rfl ?c1 ?c2 ?_))
            case c1 => omega
            case c2 => exact hBs
            intro v' w6 ho6 hg6
            have HO6 : Hid (OwnS w6 w2.heap.size v' (pgLn xs C s R A (k + 1)) ∧ Below w2.heap.size w2 w6) := ⟨by rw [HK.out.2, ← HQ.out]; exact OwnS_snoc rfl ho6, hB.grown hg6 hBs (fun i hi => (ho.lt i hi).1)⟩
            clear ho ho6 hg6 hB
            go_wp2
            go_roundw
            case rel => exact ⟨k + 1, by omega, by go_num, HO6.out.1, HK.out.1, HO6.out.2⟩
            case measure => simp [intOf]; omega
      · have hkn : Hid (k = n) := by show k = n; omega
        have HB : Hid (B = true ∧ OwnS wr w.heap.size u9 F ∧ Below w.heap.size w wr) := by
          have h1 : B = true := by rw [← HE.out.1, ← hkn.out]; exact HO.out
          refine ⟨h1, ?_, bthen hA hB⟩
          rw [← HE.out.2.1, if_pos h1, ← hkn.out]
          exact ownsRow_monoS ho (by omega)
        clear hB ho hr3
        go_wp2
        go_ret2
        exact ⟨_, by rw [HB.out.1]; rfl, HB.out.2.1, HB.out.2.2⟩
  · have E : Hid (plinS r a c xs p = [] ∧ plinB r a c xs p = false) := by
      replace hv : pgB r a c xs p = false := by simpa using hv
      exact ⟨by unfold plinS; rw [hv]; rfl, by unfold plinB; rw [hv]; rfl⟩
    rw [E.out.1, E.out.2]
    have HV : Hid (pgB r a c xs p = false) := by show _ = _; simpa using hv
    clear hv
    go_enter Tryz.func9, Tryz.ntmps9
    go_wp2_with fail
    refine (c_pageExists _ _ _ _ xs _ _ (ha.kept ((Below.refl _ _).alloc (Nat.le_refl _) _)) hx).mono ?_
    rw [HV.out]
    rintro e w1 ⟨rfl, hB1⟩
    have hA := balloc hB1
    clear hB1
    go_wp2
    go_ret2
    exact ⟨_, rfl, OwnS_nil _ _, hA⟩
end Go.Proofs.YtdgnhplaakjlgaaGreatDoor
