/- Contracts: the sums of a page's columns, program and reference. -/
import Derived.Test.YtihgbebdadpjaaaPsum
import Derived.Test.YtihgbebdadpjaaaRErr
namespace Go.Proofs.Ytihgbebdadpjaaa
set_option linter.unusedVariables false
open Go.RowKit

def pl (r a c : Int) (xs : List Int) (p : Int) : List Int := if pgB r a c xs p = true then psL xs (p * (r * a)).toNat r.toNat a.toNat else []
/-- a row's element is set -/
theorem OwnI_setAt {w : World} {base e g cap m j : Nat} {L : List Int} (ho : w.ownsRow base e 1 (.slice (some ⟨g, 0, none⟩) m cap) m (L.map (Value.int .i64))) (hl : L.length = m) (hj : j < m) (y : Int) :
    w.cell? ⟨g, j, none⟩ = some (.int .i64 (L.getD j 0)) ∧ w.frozen? ⟨g, j, none⟩ = false ∧ (w.setCell ⟨g, j, none⟩ (.int .i64 y)).ownsRow base e 1 (.slice (some ⟨g, 0, none⟩) m cap) m ((L.set j y).map (Value.int .i64)) := by
  refine ⟨?_, ho.frozenAt j, ?_⟩
  · rw [ho.cellAt j (by omega)]
    simp [List.getD, hl, hj]
  · have := (ho.stored j (.int .i64 y)).1
    rwa [List.map_set]

set_option maxHeartbeats 400000 in
theorem c_impl_PageSums (r a c : Int) (b : Option Addr) (cap : Nat) (xs : List Int) (p : Int) (w : World) (ha : RdI w (.slice b xs.length cap) xs) (hx : xs.length ≤ 1099511627776) (hcap : xs.length ≤ cap) (hcap2 : cap ≤ 9223372036854775807) :
    Calls Try.prog 14 #[(.agg #[.int .i64 r, .int .i64 a, .int .i64 c]), .slice b xs.length cap, (.int .i64 (p))] w (FreshI w (pl r a c xs p)) := by
  by_cases hv : pgB r a c xs p = true
  · have E : Hid (pl r a c xs p = psL xs (p * (r * a)).toNat r.toNat a.toNat) := if_pos hv
    obtain ⟨hl, ht, p0, p1⟩ := pgB_iff hv
    obtain ⟨t1, t2, t3⟩ := tabB_iff ht
    have T3 : Hid (allIn xs 1000000000 = true) := t3
    obtain ⟨l1, l2, l3, l4, l5, l6, l7, l8⟩ := lay_mul hl
    have q0 : 0 ≤ p * (r * a) := Int.mul_nonneg p0 (by omega)
    obtain ⟨s, hs⟩ : ∃ s : Nat, (p * (r * a)).toNat = s := ⟨_, rfl⟩
    have hs2 : s < xs.length := by omega
    have HV : Hid (pgB r a c xs p = true) := hv
    obtain ⟨R, rfl⟩ : ∃ R : Nat, r = R := ⟨r.toNat, by omega⟩
    obtain ⟨A, rfl⟩ : ∃ A : Nat, a = A := ⟨a.toNat, by omega⟩
    rw [hs] at E
    rw [Int.toNat_natCast, Int.toNat_natCast] at E
    obtain ⟨M, hM⟩ : ∃ M : Nat, R * A = M := ⟨_, rfl⟩
    have HM : Hid (R * A = M) := hM
    have hM2 : ((R : Int) * (A : Int)).toNat = M := by rw [← hM]; rw [← Int.natCast_mul, Int.toNat_natCast]
    have HS : Hid ((p * ((R : Int) * (A : Int))).toNat = s ∧ ((R : Int) * (A : Int)).toNat = M) := ⟨hs, hM2⟩
    have m1 : 1 ≤ M := by omega
    clear hv ht t3 q0 p1 l7 l8 hs hM hM2
    go_enter Try.func14, Try.ntmps14
    go_wp2_with fail
    refine (c_pageExists _ _ _ _ xs _ _ (ha.kept ((Below.refl _ _).alloc (Nat.le_refl _) _)) hx).mono ?_
    rw [HV.out]
    rintro e w1 ⟨rfl, hB1⟩
    obtain ⟨_, k0, k1, k2⟩ := keep3_0 hB1
    replace k0 : w1.cell? ⟨w.heap.size, 0, none⟩ = some (.int .i64 ((R : Int))) := k0
    replace k1 : w1.cell? ⟨w.heap.size, 1, none⟩ = some (.int .i64 ((A : Int))) := k1
    replace k2 : w1.cell? ⟨w.heap.size, 2, none⟩ = some (.int .i64 (c)) := k2
    have hA := balloc hB1
    have hz1 : w.heap.size < w1.heap.size := by have := hB1.size; simp at this; omega
    clear hB1
    go_wp2_with (first | (at_make; refine mkfull 30 3 Try.underlying30 infoInt rfl (by decide) rfl _ _ rfl A rfl rfl rfl rfl (by omega) ?_; intro w2 ho2 hB2 hz2; have hc2 := (bcell hB2).1; have k0' : w2.cell? ⟨w.heap.size, 0, none⟩ = some (.int .i64 ((R : Int))) := (by rw [hc2 _ _ hz1]; exact k0); have k1' : w2.cell? ⟨w.heap.size, 1, none⟩ = some (.int .i64 ((A : Int))) := (by rw [hc2 _ _ hz1]; exact k1); have k2' : w2.cell? ⟨w.heap.size, 2, none⟩ = some (.int .i64 (c)) := (by rw [hc2 _ _ hz1]; exact k2); clear hc2))
    refine (c_entriesOfPage _ _ _ _ cap xs _ w _ ha hcap hcap2 HV.out).mono ?_
    rw [HS.out.1, HS.out.2]
    rintro e w3 ⟨⟨v3, rfl, hr3⟩, hB3⟩
    have ho3 := ownsRow_kept_below ho2 hB3
    have hB23 : Below w1.heap.size w1 w3 := bthen hB2 hB3
    have hz3 : w1.heap.size < w3.heap.size := by have := hB3.size; omega
    clear k0' k1' k2' ho2 hB2 hB3 ha
    obtain ⟨Y, hY⟩ : ∃ Y, pgE xs s M = Y := ⟨_, rfl⟩
    have hYl : Y.length = min M (xs.length - s) := by rw [← hY]; simp [pgE]
    have hYg : ∀ k, k < Y.length → Y.getD k 0 = xs.getD (s + k) 0 := by
      intro k hk
      rw [hYl] at hk
      rw [← hY]
      unfold pgE
      have h1 : k < M := by omega
      have h2 : s + k < xs.length := by omega
      simp [List.getD, h1, h2]
    rw [hY] at hr3
    clear hY
    have HY : Hid ((Y.length = M ∨ Y.length = xs.length - s) ∧ Y.length ≤ M ∧ ∀ k, k < Y.length → Y.getD k 0 = xs.getD (s + k) 0) := ⟨by omega, by omega, hYg⟩
    have hY60 : Y.length ≤ 60 := by omega
    clear hYl hYg
    have hr4 := hr3
    obtain ⟨b3, cap3, rfl, hr5⟩ := hr4
    clear hr5
    simp only [List.length_map] at hr3 ⊢
    rw [show List.replicate A (.int .i64 (0)) = (psR xs s R A 0).map (Value.int .i64) from by rw [psR_zero]; simp] at ho3
    go_wp2
    go_loopw [23] (fun i wr => ∃ k : Nat, k ≤ Y.length ∧ i = .int .i64 k ∧ wr.ownsRow w1.heap.size 3 1 (.slice (some ⟨w1.heap.size, 0, none⟩) A A) A ((psR xs s R A k).map (Value.int .i64)) ∧ Below w1.heap.size w1 wr) (fun i _ => Y.length - (intOf i).toNat)
    case atStart => exact ⟨0, by omega, rfl, ho3, hB23⟩
    case round =>
      obtain ⟨k, hk, rfl, ho, hB⟩ := hrel
      by_cases hlt : k < Y.length
      · obtain ⟨b1, o1, rfl, hb1, e1⟩ := RdI_cell hr3 (bthen hA hB) hlt
        have hc0 : wr.cell? ⟨w.heap.size, 0, none⟩ = some (.int .i64 ((R : Int))) := by rw [(bcell hB).1 _ _ hz1]; exact k0
        have hkM : k < R * A := by rw [HM.out]; have := HY.out.2.1; omega
        obtain ⟨j1, j2⟩ := psR_at (xs := xs) (s := s) (show 0 < R by omega) hkM
        have j3 := psR_set (xs := xs) (s := s) (show 0 < R by omega) hkM
        rw [HY.out.2.2 k hlt] at e1
        obtain ⟨x, hx1⟩ : ∃ x, xs.getD (s + k) 0 = x := ⟨_, rfl⟩
        have hxb := getD_bd T3.out (s + k)
        have hyb := csum_bd T3.out (s + k / R * R) (k % R)
        have hkR : k % R < R := Nat.mod_lt _ (by omega)
        rw [hx1] at e1 j3 hxb
        obtain ⟨y, hy1⟩ : ∃ y, csum xs (s + k / R * R) (k % R) = y := ⟨_, rfl⟩
        rw [hy1] at j2 j3 hyb
        obtain ⟨q1, q2, q3⟩ := OwnI_setAt ho (psR_len xs s R A k) j1 (y + x)
        rw [j2] at q1
        rw [j3] at q3
        have hq := hB.setCell (p := ⟨w1.heap.size, k / R, none⟩) (Nat.le_refl _) (.int .i64 (y + x))
        have HO : Hid (_ ∧ _) := ⟨q3, hq⟩
        have hdiv : (k : Int) / (R : Int) = ((k / R : Nat) : Int) := by simp
        have hr0 : ((R : Int) = 0) = False := eq_false (by omega)
        obtain ⟨j, hj⟩ : ∃ j, k / R = j := ⟨_, rfl⟩
        rw [hj] at q1 q2 q3 hq HO hdiv j1
        clear hx1 hy1 q3 hq j2 j3 ho hB hr3 hj k0 k1 k2
        have x1 : -1000000000 ≤ x := hxb.1
        have x2 : x ≤ 1000000000 := hxb.2
        have y1 : -20000000000 ≤ y := by omega
        have y2 : y ≤ 20000000000 := by omega
        clear hxb hyb
        go_wp2
        go_roundw
        case rel => exact ⟨k + 1, by omega, by go_num, HO.out.1, HO.out.2⟩
        case measure => simp [intOf]; omega
      · have HO : Hid (OwnI wr w.heap.size (.slice (some ⟨w1.heap.size, 0, none⟩) A A) (pl R A c xs p) ∧ Below w.heap.size w wr) := by
          have : k = Y.length := by omega
          subst this
          rw [psR_end (by rw [HM.out]; exact HY.out.1)] at ho
          refine ⟨?_, bthen hA hB⟩
          rw [E.out]
          have h := ownsRow_mono ho hA.size
          unfold OwnI
          simpa [psL] using h
        clear ho hB hr3
        go_wp2
        go_ret
        exact ⟨_, rfl, HO.out.1, HO.out.2⟩
  · have E : Hid (pl r a c xs p = []) := if_neg hv
    replace hv : pgB r a c xs p = false := by simpa using hv
    go_enter Try.func14, Try.ntmps14
    go_wp2_with fail
    refine (c_pageExists _ _ _ _ xs _ _ (ha.kept ((Below.refl _ _).alloc (Nat.le_refl _) _)) hx).mono ?_
    rw [hv]
    rintro e w1 ⟨rfl, hB1⟩
    go_wp2
    go_ret
    exact ⟨_, rfl, by rw [E.out]; exact World.ownsRow_nil _ _ _ _, balloc hB1⟩

theorem own_cap {w : World} {base : Nat} {v : Value} {xs : List Int} (h : OwnI w base v xs) : ∃ b cap, v = .slice b xs.length cap ∧ xs.length ≤ cap ∧ cap ≤ 9223372036854775807 := by
  obtain ⟨h1, h2⟩ := h
  rcases h2 with ⟨rfl, e⟩ | ⟨g, cap, cur, rfl, hg, hh, h3, h4, r⟩
  · exact ⟨none, 0, by rw [e], by omega, by omega⟩
  · exact ⟨_, cap, rfl, h3, by simp only [maxLen] at h4; omega⟩
theorem k_impl_PageSums (r a c : Int) (v : Value) (xs : List Int) (p : Int) (w : World) {base : Nat} (ho : OwnI w base v xs) (hx : xs.length ≤ 1099511627776) :
    Calls Try.prog 14 #[(.agg #[.int .i64 r, .int .i64 a, .int .i64 c]), v, (.int .i64 (p))] w (FreshI w (pl r a c xs p)) := by
  have hr := owns_RdI ho
  obtain ⟨b, cap, rfl, h1, h2⟩ := own_cap ho
  exact c_impl_PageSums r a c b cap xs p w hr hx h1 h2
theorem pl_len (r a c : Int) (xs : List Int) (p : Int) : (pl r a c xs p).length ≤ 60 := by
  unfold pl; split
  · rename_i h
    obtain ⟨l1, l2, l3, l4, _⟩ := lay_mul (pgB_iff h).1
    simp [psL]; omega
  · simp
theorem psL_len (xs : List Int) (s r a : Nat) : (psL xs s r a).length = a := by simp [psL]
theorem psL_succ (xs : List Int) (s r i : Nat) : psL xs s r (i + 1) = psL xs s r i ++ [csum xs (s + i * r) r] := by
  unfold psL; rw [List.range_succ, List.map_append]; rfl
set_option maxHeartbeats 400000 in
theorem c_spec_PageSums (r a c : Int) (v : Value) (xs : List Int) (p : Int) (w : World) (ha : RdI w v xs) (hx : xs.length ≤ 1099511627776) :
    Calls Try.prog 16 #[(.agg #[.int .i64 r, .int .i64 a, .int .i64 c]), v, (.int .i64 (p))] w (FreshI w (pl r a c xs p)) := by
  have ha0 := ha
  obtain ⟨b, cap, rfl, ha1⟩ := ha0
  clear ha1
  simp only [List.length_map] at ha ⊢
  by_cases hv : pgB r a c xs p = true
  · have E : Hid (pl r a c xs p = psL xs (p * (r * a)).toNat r.toNat a.toNat) := if_pos hv
    obtain ⟨hl, ht, p0, p1⟩ := pgB_iff hv
    obtain ⟨t1, t2, t3⟩ := tabB_iff ht
    have T3 : Hid (allIn xs 1000000000 = true) := t3
    obtain ⟨l1, l2, l3, l4, l5, l6, l7, l8⟩ := lay_mul hl
    have q0 : 0 ≤ p * (r * a) := Int.mul_nonneg p0 (by omega)
    obtain ⟨s, hs⟩ : ∃ s : Nat, (p * (r * a)).toNat = s := ⟨_, rfl⟩
    have hs2 : s < xs.length := by omega
    obtain ⟨R, rfl⟩ : ∃ R : Nat, r = R := ⟨r.toNat, by omega⟩
    obtain ⟨A, rfl⟩ : ∃ A : Nat, a = A := ⟨a.toNat, by omega⟩
    rw [hs] at E
    rw [Int.toNat_natCast, Int.toNat_natCast] at E
    have m0 : 0 ≤ p * (R : Int) := Int.mul_nonneg p0 (by omega)
    have m1 : p * (R : Int) * (A : Int) = (s : Int) := by rw [Int.mul_assoc]; omega
    have m2 : p * (R : Int) * 1 ≤ p * (R : Int) * (A : Int) := Int.mul_le_mul (Int.le_refl _) l3 (by omega) m0
    have m3 : p * (R : Int) ≤ 60 := by omega
    have hin : inB p 0 (pnF R A c xs.length - 1) = true := by
      have h := hv
      unfold pgB at h
      rw [Bool.and_eq_true, Bool.and_eq_true] at h
      exact h.2.2
    have hpn : -1 ≤ pnF R A c xs.length ∧ pnF R A c xs.length ≤ 100 := by
      have e : pnF R A c xs.length = ((xs.length : Int) + (R : Int) * A - 1) / ((R : Int) * A) := if_pos ⟨hl, by omega, by omega⟩
      have h1 := Int.ediv_nonneg (show (0 : Int) ≤ (xs.length : Int) + (R : Int) * A - 1 by omega) (show (0 : Int) ≤ (R : Int) * A by omega)
      have h2 : ((xs.length : Int) + (R : Int) * A - 1) / ((R : Int) * A) < 61 := Int.ediv_lt_of_lt_mul (by omega) (by omega)
      omega
    obtain ⟨pn, hp⟩ : ∃ pn, pnF R A c xs.length = pn := ⟨_, rfl⟩
    have HP : Hid (pnF R A c xs.length = pn) := hp
    rw [hp] at hin hpn
    obtain ⟨n1, n2⟩ := hpn
    clear hv t3 q0 p1 l7 l8 hs hp
    have hs0 : ((w.alloc (.cells #[(.int .i64 ((R : Int))), (.int .i64 ((A : Int))), (.int .i64 (c))] 29)).alloc (.cells #[] 3)).ownsRow (w.heap.size + 1) 3 1 (.slice (some ⟨w.heap.size + 1, 0, none⟩) 0 0) 0 [] := by
      have h := World.ownsRow_made (base := w.heap.size + 1) (e := 3) (size := 1) (w.alloc (.cells #[(.int .i64 ((R : Int))), (.int .i64 ((A : Int))), (.int .i64 (c))] 29)) #[] 0 (by simp) (by decide) rfl
      have e : (w.alloc (.cells #[(.int .i64 ((R : Int))), (.int .i64 ((A : Int))), (.int .i64 (c))] 29)).heap.size = w.heap.size + 1 := by simp
      rw [e] at h
      exact h
    go_enter Try.func16, Try.ntmps16
    go_wp2_with fail
    refine (c_spec_LayoutValid _ _ _ _).mono ?_
    rw [hl]
    rintro e w1 ⟨rfl, hB1⟩
    have ho1 := ownsRow_kept_below hs0 hB1
    have hA1 : Below w.heap.size w w1 := balloc (balloc hB1)
    have hz1 : w.heap.size < w1.heap.size := by have := hB1.size; simp at this; omega
    have k0 : w1.cell? ⟨w.heap.size, 0, none⟩ = some (.int .i64 ((R : Int))) := by rw [(bcell hB1).1 _ _ (by simp; omega)]; simp [go_sem]
    have k1 : w1.cell? ⟨w.heap.size, 1, none⟩ = some (.int .i64 ((A : Int))) := by rw [(bcell hB1).1 _ _ (by simp; omega)]; simp [go_sem]
    have k2 : w1.cell? ⟨w.heap.size, 2, none⟩ = some (.int .i64 (c)) := by rw [(bcell hB1).1 _ _ (by simp; omega)]; simp [go_sem]
    clear hB1 hs0
    go_wp2_with fail
    refine (c_spec_TableValid _ xs _ (ha.kept hA1) hx).mono ?_
    rw [ht]
    rintro e w2 ⟨rfl, hB2⟩
    have ho2 := ownsRow_kept_below ho1 hB2
    have hz2 : w.heap.size < w2.heap.size := by have := hB2.size; omega
    have kc := (bcell hB2).1
    have k0' : w2.cell? ⟨w.heap.size, 0, none⟩ = some (.int .i64 ((R : Int))) := by rw [kc _ _ hz1]; exact k0
    have k1' : w2.cell? ⟨w.heap.size, 1, none⟩ = some (.int .i64 ((A : Int))) := by rw [kc _ _ hz1]; exact k1
    have k2' : w2.cell? ⟨w.heap.size, 2, none⟩ = some (.int .i64 (c)) := by rw [kc _ _ hz1]; exact k2
    have hA2 := bthen hA1 hB2
    clear k0 k1 k2 kc ho1 hB2 hA1
    go_wp2_with fail
    refine (c_spec_PagesNeeded _ _ _ _ _).mono ?_
    rw [HP.out]
    rintro e w3 ⟨rfl, hB3⟩
    have ho3 := ownsRow_kept_below ho2 hB3
    have hz3 : w.heap.size < w3.heap.size := by have := hB3.size; omega
    have kc := (bcell hB3).1
    have k0 : w3.cell? ⟨w.heap.size, 0, none⟩ = some (.int .i64 ((R : Int))) := by rw [kc _ _ hz2]; exact k0'
    have k1 : w3.cell? ⟨w.heap.size, 1, none⟩ = some (.int .i64 ((A : Int))) := by rw [kc _ _ hz2]; exact k1'
    have k2 : w3.cell? ⟨w.heap.size, 2, none⟩ = some (.int .i64 (c)) := by rw [kc _ _ hz2]; exact k2'
    have hA3 := bthen hA2 hB3
    clear k0' k1' k2' kc ho2 hB3 hA2
    go_wp2_with (go_at_call 37; refine (c_l1In _ _ _ _).mono ?_; rintro e w' ⟨rfl, rfl⟩)
    go_loopw [7, 8] (fun v i wr => ∃ q : Nat, q ≤ A ∧ i = .int .i64 q ∧ OwnI wr (w.heap.size + 1) v (psL xs s R q) ∧ Below (w.heap.size + 1) w3 wr) (fun _ i _ => A - (intOf i).toNat)
    case atStart => exact ⟨0, by omega, rfl, ho3, Below.refl _ _⟩
    case round =>
      obtain ⟨q, hq, rfl, ho, hB⟩ := hrel
      have hBA : Below w.heap.size w wr := hA3.trans (hB.mono (by omega))
      have c0 : wr.cell? ⟨w.heap.size, 0, none⟩ = some (.int .i64 ((R : Int))) := by rw [hB.cell (p := ⟨w.heap.size, 0, none⟩) (Nat.lt_succ_self _)]; exact k0
      have c1 : wr.cell? ⟨w.heap.size, 1, none⟩ = some (.int .i64 ((A : Int))) := by rw [hB.cell (p := ⟨w.heap.size, 1, none⟩) (Nat.lt_succ_self _)]; exact k1
      have hzr : w.heap.size < wr.heap.size := by have := hB.size; omega
      by_cases hlt : q < A
      · obtain ⟨z, hz⟩ : ∃ z : Nat, q * R = z := ⟨_, rfl⟩
        have hz1 : (q : Int) * (R : Int) = (z : Int) := by rw [← hz]; simp
        have hz2 : z ≤ 6 * 20 := by rw [← hz]; exact Nat.mul_le_mul (by omega) (by omega)
        have hsn := psL_succ xs s R q
        rw [hz] at hsn
        have HSN : Hid (psL xs s R (q + 1) = psL xs s R q ++ [csum xs (s + z) R]) := hsn
        clear hsn hz
        go_wp2
        obtain ⟨W, hW⟩ : ∃ W : World, W = wr := ⟨_, rfl⟩
        subst hW
        go_loopw [9, 10] (fun n i wi => ∃ k : Nat, k ≤ R ∧ i = .int .i64 k ∧ n = .int .i64 (csum xs (s + z) k) ∧ Below W.heap.size W wi) (fun _ i _ => R - (intOf i).toNat)
        case atStart => exact ⟨0, by omega, rfl, rfl, Below.refl _ _⟩
        case round =>
          obtain ⟨k, hk, rfl, rfl, hBi⟩ := hrel
          have d0 : wr.cell? ⟨w.heap.size, 0, none⟩ = some (.int .i64 ((R : Int))) := by rw [(bcell hBi).1 _ _ hzr]; exact c0
          have d1 : wr.cell? ⟨w.heap.size, 1, none⟩ = some (.int .i64 ((A : Int))) := by rw [(bcell hBi).1 _ _ hzr]; exact c1
          have hbd := csum_bd T3.out (s + z) k
          by_cases hk2 : k < R
          · have HC : Hid (csum xs (s + z) (k + 1) = csum xs (s + z) k + xs.getD (s + z + k) 0) := rfl
            obtain ⟨y, hy⟩ : ∃ y, csum xs (s + z) k = y := ⟨_, rfl⟩
            rw [hy] at hbd HC
            have y1 : -20000000000 ≤ y := by omega
            have y2 : y ≤ 20000000000 := by omega
            rw [hy]
            clear hbd
            by_cases hin2 : s + z + k < xs.length
            · obtain ⟨b1, o1, rfl, hb1, e1⟩ := RdI_cell ha (bthen hBA hBi) hin2
              have hxb := getD_bd T3.out (s + z + k)
              obtain ⟨x, hx1⟩ : ∃ x, xs.getD (s + z + k) 0 = x := ⟨_, rfl⟩
              rw [hx1] at e1 hxb HC
              obtain ⟨x1, x2⟩ := hxb
              clear hx1 hy c0 c1 k0 k1 k2 ha
              go_wp2
              go_roundw
              case rel => exact ⟨k + 1, by omega, by go_num, ret_int' HC.out.symm, hBi⟩
              case measure => simp [intOf]; omega
            · rw [getD_out (by omega)] at HC
              clear hy c0 c1 k0 k1 k2 ha
              go_wp2
              go_roundw
              case rel => exact ⟨k + 1, by omega, by go_num, ret_int' (by rw [HC.out]; omega), hBi⟩
              case measure => simp [intOf]; omega
          · have hkR : k = R := by omega
            subst hkR
            have ho2 := ownsRow_kept_below ho hBi
            obtain ⟨y, hy⟩ : ∃ y, csum xs (s + z) k = y := ⟨_, rfl⟩
            rw [hy] at HSN hbd ⊢
            have hBs : w.heap.size + 1 ≤ wr.heap.size := by have := hBi.size; omega
            have hBw : Below (w.heap.size + 1) w3 wr := hB.trans (hBi.mono (by have := hB.size; omega))
            have hlen : (psL xs s k q).length ≤ 60 := by rw [psL_len]; omega
            obtain ⟨L, hL⟩ : ∃ L, psL xs s k q = L := ⟨_, rfl⟩
            unfold OwnI at ho2
            rw [hL] at ho2 hlen HSN
            clear hL hy c0 c1 k0 k1 k2 ha ho hB hBi hBA hbd
            go_wp2_with (first | (at_builtin; refine app1 30 3 Try.underlying30 infoInt rfl (by decide) rfl _ _ rfl (w.heap.size + 1) _ _ _ rfl ho2 rfl rfl ?c1 ?c2 ?_))
            case c1 => omega
            case c2 => exact hBs
            intro v' wn ho3 hg1
            have HO : Hid (OwnI wn (w.heap.size + 1) v' (psL xs s k (q + 1)) ∧ Below (w.heap.size + 1) w3 wn) :=
              ⟨by rw [HSN.out]; exact OwnI_snoc' rfl ho3, hBw.grown hg1 hBs (fun j hj => (ho2.lt j hj).1)⟩
            clear ho2 ho3 hg1 hBw
            go_wp2
            go_roundw
            case rel => exact ⟨q + 1, by omega, by go_num, HO.out.1, HO.out.2⟩
            case measure => simp [intOf]; omega
      · have HO : Hid (OwnI wr w.heap.size u7 (pl R A c xs p) ∧ Below w.heap.size w wr) := by
          have : q = A := by omega
          subst this
          exact ⟨by rw [E.out]; exact ownsRow_mono ho (by omega), hBA⟩
        clear ho hB hBA ha k0 k1 k2
        go_wp2
        go_ret
        exact ⟨_, rfl, HO.out.1, HO.out.2⟩
  · have E : Hid (pl r a c xs p = []) := if_neg hv
    replace hv : pgB r a c xs p = false := by simpa using hv
    have hs0 : ((w.alloc (.cells #[(.int .i64 (r)), (.int .i64 (a)), (.int .i64 (c))] 29)).alloc (.cells #[] 3)).ownsRow w.heap.size 3 1 (.slice (some ⟨w.heap.size + 1, 0, none⟩) 0 0) 0 [] := by
      have h := World.ownsRow_made (base := w.heap.size) (e := 3) (size := 1) (w.alloc (.cells #[(.int .i64 (r)), (.int .i64 (a)), (.int .i64 (c))] 29)) #[] 0 (by simp) (by decide) rfl
      have e : (w.alloc (.cells #[(.int .i64 (r)), (.int .i64 (a)), (.int .i64 (c))] 29)).heap.size = w.heap.size + 1 := by simp
      rw [e] at h
      exact h
    cases hl : layB r a c
    · go_enter Try.func16, Try.ntmps16
      go_wp2_with fail
      refine (c_spec_LayoutValid _ _ _ _).mono ?_
      rw [hl]
      rintro e w1 ⟨rfl, hB1⟩
      go_wp2
      go_ret
      exact ⟨_, rfl, by rw [E.out]; exact ownsRow_kept_below hs0 hB1, balloc (balloc hB1)⟩
    · cases ht : tabB xs
      · go_enter Try.func16, Try.ntmps16
        go_wp2_with fail
        refine (c_spec_LayoutValid _ _ _ _).mono ?_
        rw [hl]
        rintro e w1 ⟨rfl, hB1⟩
        have ho1 := ownsRow_kept_below hs0 hB1
        have hA1 : Below w.heap.size w w1 := balloc (balloc hB1)
        clear hB1
        go_wp2_with fail
        refine (c_spec_TableValid _ xs _ (ha.kept hA1) hx).mono ?_
        rw [ht]
        rintro e w2 ⟨rfl, hB2⟩
        go_wp2
        go_ret
        exact ⟨_, rfl, by rw [E.out]; exact ownsRow_kept_below ho1 hB2, bthen hA1 hB2⟩
      · have hin : inB p 0 (pnF r a c xs.length - 1) = false := by
          unfold pgB at hv
          rw [hl, ht] at hv
          simpa using hv
        obtain ⟨t1, t2, t3⟩ := tabB_iff ht
        obtain ⟨l1, l2, l3, l4, l5, l6, l7, l8⟩ := lay_mul hl
        have hpn : -1 ≤ pnF r a c xs.length ∧ pnF r a c xs.length ≤ 100 := by
          have e : pnF r a c xs.length = ((xs.length : Int) + r * a - 1) / (r * a) := if_pos ⟨hl, by omega, by omega⟩
          have h1 := Int.ediv_nonneg (show (0 : Int) ≤ (xs.length : Int) + r * a - 1 by omega) (show (0 : Int) ≤ r * a by omega)
          have h2 : ((xs.length : Int) + r * a - 1) / (r * a) < 61 := Int.ediv_lt_of_lt_mul (by omega) (by omega)
          omega
        obtain ⟨pn, hp⟩ : ∃ pn, pnF r a c xs.length = pn := ⟨_, rfl⟩
        have HP : Hid (pnF r a c xs.length = pn) := hp
        rw [hp] at hin hpn
        obtain ⟨n1, n2⟩ := hpn
        clear hp l7 l8 t3
        go_enter Try.func16, Try.ntmps16
        go_wp2_with fail
        refine (c_spec_LayoutValid _ _ _ _).mono ?_
        rw [hl]
        rintro e w1 ⟨rfl, hB1⟩
        have ho1 := ownsRow_kept_below hs0 hB1
        have hA1 : Below w.heap.size w w1 := balloc (balloc hB1)
        have hz1 : w.heap.size < w1.heap.size := by have := hB1.size; simp at this; omega
        have k0 : w1.cell? ⟨w.heap.size, 0, none⟩ = some (.int .i64 (r)) := by rw [(bcell hB1).1 _ _ (by simp; omega)]; simp [go_sem]
        have k1 : w1.cell? ⟨w.heap.size, 1, none⟩ = some (.int .i64 (a)) := by rw [(bcell hB1).1 _ _ (by simp; omega)]; simp [go_sem]
        have k2 : w1.cell? ⟨w.heap.size, 2, none⟩ = some (.int .i64 (c)) := by rw [(bcell hB1).1 _ _ (by simp; omega)]; simp [go_sem]
        clear hB1 hs0
        go_wp2_with fail
        refine (c_spec_TableValid _ xs _ (ha.kept hA1) hx).mono ?_
        rw [ht]
        rintro e w2 ⟨rfl, hB2⟩
        have ho2 := ownsRow_kept_below ho1 hB2
        have hz2 : w.heap.size < w2.heap.size := by have := hB2.size; omega
        have kc := (bcell hB2).1
        have k0' : w2.cell? ⟨w.heap.size, 0, none⟩ = some (.int .i64 (r)) := by rw [kc _ _ hz1]; exact k0
        have k1' : w2.cell? ⟨w.heap.size, 1, none⟩ = some (.int .i64 (a)) := by rw [kc _ _ hz1]; exact k1
        have k2' : w2.cell? ⟨w.heap.size, 2, none⟩ = some (.int .i64 (c)) := by rw [kc _ _ hz1]; exact k2
        have hA2 := bthen hA1 hB2
        clear k0 k1 k2 kc ho1 hB2 hA1
        go_wp2_with fail
        refine (c_spec_PagesNeeded _ _ _ _ _).mono ?_
        rw [HP.out]
        rintro e w3 ⟨rfl, hB3⟩
        have ho3 := ownsRow_kept_below ho2 hB3
        have hA3 := bthen hA2 hB3
        clear k0' k1' k2' ho2 hB3 hA2
        go_wp2_with (go_at_call 37; refine (c_l1In _ _ _ _).mono ?_; rintro e w' ⟨rfl, rfl⟩)
        go_ret
        exact ⟨_, rfl, by rw [E.out]; exact ho3, hA3⟩
end Go.Proofs.Ytihgbebdadpjaaa
