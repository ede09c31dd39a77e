/- Lemmas and contracts for PrintRead (Pt1): plain words on memory, contracts of the functions that the law reaches. No condition but what each states. -/
import Derived.Test.YtgjaajfpdajleaaGreatDoorMPrintReadPg2P
import Derived.Test.YtgjaajfpdajleaaGreatDoorMPrintReadPg4
namespace Go.Proofs.YtgjaajfpdajleaaGreatDoor
set_option linter.unusedVariables false
open Go.RowKit

set_option maxRecDepth 20000 in
set_option maxHeartbeats 3200000 in
theorem c_spec_PrintTable (r a c : Int) (v : Value) (xs : List Int) (w : World) (ha : RdI w v xs) (hx : xs.length ≤ 1099511627776) :
    Calls Tryz.prog 41 #[(.agg #[.int .i64 r, .int .i64 a, .int .i64 c]), v] w (StrBB (ptF r a c xs) (ptB r a c xs) w) := by
  have ha0 := ha
  obtain ⟨b, cap, rfl, ha1⟩ := ha0
  clear ha1
  simp only [List.length_map] at ha ⊢
  by_cases hv : ptV r a c xs = true
  · have hlt : layB r a c = true ∧ tabB xs = true := by have h := hv; unfold ptV at h; rwa [Bool.and_eq_true] at h
    obtain ⟨hl, ht⟩ := hlt
    obtain ⟨t1, t2, t3⟩ := tabB_iff ht
    obtain ⟨l1, l2, l3, l4, l5, l6, l7, l8⟩ := lay_mul hl
    obtain ⟨hpn, hn60⟩ := ptN_bd hv
    obtain ⟨R, rfl⟩ : ∃ R : Nat, r = R := ⟨r.toNat, by omega⟩
    obtain ⟨A, rfl⟩ : ∃ A : Nat, a = A := ⟨a.toNat, by omega⟩
    obtain ⟨C, rfl⟩ : ∃ C : Nat, c = C := ⟨c.toNat, by omega⟩
    have HC : Hid (∀ (q : Nat) (W : World), q < ptN R A C xs → Below w.heap.size w W → Calls Tryz.prog 69 #[(.agg #[.int .i64 (R : Int), .int .i64 (A : Int), .int .i64 (C : Int)]), .slice b xs.length cap, (.int .i64 ((q : Int)))] W (FreshSB W (plinS R A C xs (q : Int)) (plinB R A C xs (q : Int)))) := by
      intro q W hq hB
      have hp := ptV_page hv hq
      obtain ⟨_, _, p0, p1⟩ := pgB_iff hp
      obtain ⟨e1, e2⟩ := plin_eq hp
      rw [e1, e2]
      have e3 : (q : Int) * ((R : Int) * (A : Int)) = ((q * (R * A) : Nat) : Int) := by simp
      have m0 : 0 ≤ (q : Int) * (R : Int) := Int.mul_nonneg p0 (by omega)
      have m2 : (q : Int) * (R : Int) * 1 ≤ (q : Int) * (R : Int) * (A : Int) := Int.mul_le_mul (Int.le_refl _) l3 (by omega) m0
      have m3 : (q : Int) * (R : Int) * (A : Int) = ((q * (R * A) : Nat) : Int) := by rw [Int.mul_assoc, e3]
      exact c_l6Page R A C q (q * (R * A)) _ xs W (ha.kept hB) t2 t3 hl p0 (by omega) m3 (by omega)
    obtain ⟨n, hn⟩ : ∃ n, ptN (R : Int) (A : Int) (C : Int) xs = n := ⟨_, rfl⟩
    obtain ⟨B, hb⟩ : ∃ B, ptB (R : Int) (A : Int) (C : Int) xs = B := ⟨_, rfl⟩
    obtain ⟨F, hf⟩ : ∃ F, ptF (R : Int) (A : Int) (C : Int) xs = F := ⟨_, rfl⟩
    have HE : Hid (ptOk R A C xs n = B ∧ (if B = true then ptT R A C xs n else []) = F) := by
      refine ⟨?_, ?_⟩
      · rw [← hb, ← hn]; unfold ptB; rw [hv]; rfl
      · rw [← hf, ← hb, ← hn]; rfl
    rw [hn] at HC hpn hn60
    rw [hb, hf]
    have HP : Hid (pnF (R : Int) (A : Int) (C : Int) xs.length = (n : Int)) := hpn
    clear hv t3 l7 l8 hpn hn hb hf
    go_enter Tryz.func41, Tryz.ntmps41
    go_wp2_with fail
    refine (c_spec_LayoutValid _ _ _ _).mono ?_
    rw [hl]
    rintro e w1 ⟨rfl, hB1⟩
    have hA1 : Below w.heap.size w w1 := balloc hB1
    have hz1 : w.heap.size < w1.heap.size := by have := hB1.size; simp at this; omega
    have k0 : w1.cell? ⟨w.heap.size, 0, none⟩ = some (.int .i64 ((R : Int))) := by rw [(bcell hB1).1 _ _ (by simp)]; simp [go_sem]
    have k1 : w1.cell? ⟨w.heap.size, 1, none⟩ = some (.int .i64 ((A : Int))) := by rw [(bcell hB1).1 _ _ (by simp)]; simp [go_sem]
    have k2 : w1.cell? ⟨w.heap.size, 2, none⟩ = some (.int .i64 ((C : Int))) := by rw [(bcell hB1).1 _ _ (by simp)]; simp [go_sem]
    clear hB1
    go_wp2_with fail
    refine (c_spec_TableValid _ xs _ (ha.kept hA1) hx).mono ?_
    rw [ht]
    rintro e w2 ⟨rfl, hB2⟩
    have hz2 : w.heap.size < w2.heap.size := by have := hB2.size; omega
    have kc := (bcell hB2).1
    have k0' : w2.cell? ⟨w.heap.size, 0, none⟩ = some (.int .i64 ((R : Int))) := by rw [kc _ _ hz1]; exact k0
    have k1' : w2.cell? ⟨w.heap.size, 1, none⟩ = some (.int .i64 ((A : Int))) := by rw [kc _ _ hz1]; exact k1
    have k2' : w2.cell? ⟨w.heap.size, 2, none⟩ = some (.int .i64 ((C : Int))) := by rw [kc _ _ hz1]; exact k2
    have hA2 := bthen hA1 hB2
    clear k0 k1 k2 kc hB2 hA1
    go_wp2
    go_loopw [6, 7] (fun o i wr => ∃ (q : Nat) (O : ByteArray), q ≤ n ∧ i = .int .i64 q ∧ o = .string O ∧ O.size ≤ q * 1600 ∧ IsS O (ptT R A C xs q) ∧ ptOk R A C xs q = true ∧ Below w2.heap.size w2 wr) (fun _ i _ => n - (intOf i).toNat)
    case atStart => exact ⟨0, ⟨#[]⟩, by omega, rfl, rfl, by show 0 ≤ _; omega, rfl, rfl, Below.refl _ _⟩
    case round =>
      obtain ⟨q, O, hq, rfl, rfl, hOs, hO, hOk, hB⟩ := hrel
      have HO : Hid (IsS O (ptT R A C xs q) ∧ ptOk R A C xs q = true) := ⟨hO, hOk⟩
      have kc := (bcell hB).1
      have k0 : wr.cell? ⟨w.heap.size, 0, none⟩ = some (.int .i64 ((R : Int))) := by rw [kc _ _ hz2]; exact k0'
      have k1 : wr.cell? ⟨w.heap.size, 1, none⟩ = some (.int .i64 ((A : Int))) := by rw [kc _ _ hz2]; exact k1'
      have k2 : wr.cell? ⟨w.heap.size, 2, none⟩ = some (.int .i64 ((C : Int))) := by rw [kc _ _ hz2]; exact k2'
      have hzr : w.heap.size < wr.heap.size := by have := hB.size; omega
      clear hO hOk kc k0' k1' k2'
      go_wp2_with fail
      refine (c_spec_PagesNeeded _ _ _ _ _).mono ?_
      rw [HP.out]
      rintro e w3 ⟨rfl, hB3⟩
      have kc := (bcell hB3).1
      replace k0 : w3.cell? ⟨w.heap.size, 0, none⟩ = some (.int .i64 ((R : Int))) := by rw [kc _ _ hzr]; exact k0
      replace k1 : w3.cell? ⟨w.heap.size, 1, none⟩ = some (.int .i64 ((A : Int))) := by rw [kc _ _ hzr]; exact k1
      replace k2 : w3.cell? ⟨w.heap.size, 2, none⟩ = some (.int .i64 ((C : Int))) := by rw [kc _ _ hzr]; exact k2
      replace hB := bthen hB hB3
      have hA3 := bthen hA2 hB
      clear kc hB3
      by_cases hlt : q < n
      · have hc := HC.out q w3 hlt hA3
        obtain ⟨hs1, hs2⟩ := plinS_small R A C xs (q : Int)
        have HT : Hid (ptT R A C xs (q + 1) = (ptT R A C xs q ++ (if 0 < q then [10] else [])) ++ linT (plinS R A C xs (q : Int))) := by show _ = _; rw [ptT_succ, List.append_assoc]
        have hq60 : q ≤ 60 := by omega
        cases hpb : plinB R A C xs (q : Int)
        · rw [hpb] at hc
          have HB : Hid (B = false ∧ F = []) := by
            have h1 : B = false := by rw [← HE.out.1]; exact ptOk_false hpb hlt
            exact ⟨h1, by rw [← HE.out.2, h1]; rfl⟩
          clear hpb hs2 hs1
          go_wp2_with fail
          refine hc.mono ?_
          rintro e w4 ⟨u, rfl, ho, hB4⟩
          have hF := bthen hA3 hB4
          clear ho hc hB4
          go_wp2
          go_ret2
          exact ⟨_, by rw [HB.out.1]; rfl, by rw [HB.out.2]; rfl, hF⟩
        · rw [hpb] at hc
          have HK : Hid (ptOk R A C xs (q + 1) = true) := by show _ = _; rw [ptOk_succ, HO.out.2, hpb]; rfl
          generalize plinS R A C xs (q : Int) = L at hc hs1 hs2 HT
          clear hpb
          go_wp2_with fail
          refine hc.mono ?_
          rintro e w4 ⟨u, rfl, ho, hB4⟩
          have hr := owns_RdS ho
          have hr0 := hr
          obtain ⟨b1, cap1, rfl, hr1⟩ := hr0
          replace hB := bthen hB hB4
          simp only [List.length_map] at hr ⊢
          have HS : Hid (∀ y ∈ L, y.size ≤ 78) := hs2
          clear ho hc hB4 hr1 hs2 k0 k1 k2 hA3
          obtain ⟨T1, hT1⟩ : ∃ T1, ptT R A C xs q ++ (if 0 < q then [10] else []) = T1 := ⟨_, rfl⟩
          have HT1 : Hid (ptT R A C xs q ++ (if 0 < q then [10] else []) = T1) := hT1
          clear hT1
          have hd : ((0 : Int) < (q : Int) ∧ 0 < q) ∨ (¬ (0 : Int) < (q : Int) ∧ ¬ 0 < q) := by omega
          rcases hd with ⟨g1, g2⟩ | ⟨g1, g2⟩
          all_goals
            have G2 := Lib.hid g2
            clear g2
            go_wp2
            go_loopw [6, 10] (fun o i wi => ∃ (j : Nat) (Q : ByteArray), j ≤ L.length ∧ i = .int .i64 j ∧ o = .string Q ∧ Q.size ≤ q * 1600 + 1 + j * 79 ∧ IsS Q (T1 ++ linT (L.take j)) ∧ Below w4.heap.size w4 wi) (fun _ i _ => L.length - (intOf i).toNat)
            case atStart =>
              refine ⟨0, _, by omega, rfl, rfl, ?_, ?_, Below.refl _ _⟩
              · first | (rw [ByteArray.size_append, show (ByteArray.mk #[10]).size = 1 from rfl]; omega) | omega
              · rw [← HT1.out]
                first
                  | (rw [if_pos G2.out]; exact (((HO.out.1.app (IsS.mk [10]))).cast (by simp [linT_nil])))
                  | (rw [if_neg G2.out]; exact HO.out.1.cast (by simp [linT_nil]))
            case round =>
              obtain ⟨j, Q, hj, rfl, rfl, hQs, hQ, hBi⟩ := hrel
              have HQ : Hid (IsS Q (T1 ++ linT (L.take j))) := hQ
              clear hQ
              by_cases hjl : j < L.length
              · obtain ⟨b2, o2, rfl, hb2, e1⟩ := RdS_cell hr hBi hjl
                obtain ⟨y, hy⟩ : ∃ y, L.getD j noS = y := ⟨_, rfl⟩
                have hys : y.size ≤ 78 := by rw [← hy]; exact HS.out _ (by simp [List.getD, hjl])
                have HL : Hid (linT (L.take (j + 1)) = linT (L.take j) ++ (y.data.toList ++ [10])) := by show _ = _; rw [linT_take L j hjl, hy]
                rw [hy] at e1
                clear hy hr
                go_wp2
                go_roundw
                case rel => exact ⟨j + 1, _, by omega, by go_num, rfl, by rw [ByteArray.size_append, ByteArray.size_append, show (ByteArray.mk #[10]).size = 1 from rfl]; omega, by rw [HL.out, ← List.append_assoc, ← List.append_assoc]; exact (HQ.out.app (IsS.self y)).app (IsS.mk [10]), hBi⟩
                case measure => simp [intOf]; omega
              · have HF : Hid (IsS Q (ptT R A C xs (q + 1)) ∧ Below w2.heap.size w2 wr) := by
                  have h := HQ.out
                  rw [List.take_of_length_le (by omega)] at h
                  exact ⟨by rw [HT.out, HT1.out]; exact h, bthen hB hBi⟩
                clear hBi hB hr
                go_wp2
                go_roundw
                case rel => exact ⟨q + 1, _, by omega, by go_num, rfl, by omega, HF.out.1, HK.out, HF.out.2⟩
                case measure => simp [intOf]; omega
      · have hqn : Hid (q = n) := by show q = n; omega
        have HB : Hid (B = true ∧ F = ptT R A C xs q) := by
          have h1 : B = true := by rw [← HE.out.1, ← hqn.out]; exact HO.out.2
          exact ⟨h1, by rw [← HE.out.2, if_pos h1, hqn.out]⟩
        clear hB k0 k1 k2
        go_wp2
        go_ret2
        exact ⟨_, by rw [HB.out.1]; rfl, by rw [HB.out.2]; exact HO.out.1, hA3⟩
  · have hv' : ptV r a c xs = false := by simpa using hv
    have E : ptF r a c xs = [] ∧ ptB r a c xs = false := by
      have h1 : ptB r a c xs = false := by unfold ptB; rw [hv']; rfl
      exact ⟨by unfold ptF; rw [h1]; rfl, h1⟩
    rw [E.1, E.2]
    clear E hv
    cases hl : layB r a c
    · clear hv'
      go_enter Tryz.func41, Tryz.ntmps41
      go_wp2_with fail
      refine (c_spec_LayoutValid _ _ _ _).mono ?_
      rw [hl]
      rintro e w1 ⟨rfl, hB1⟩
      have hA := balloc hB1
      clear hB1
      go_wp2
      go_ret2
      exact ⟨_, rfl, rfl, hA⟩
    · have ht : tabB xs = false := by unfold ptV at hv'; rw [hl] at hv'; simpa using hv'
      clear hv'
      go_enter Tryz.func41, Tryz.ntmps41
      go_wp2_with fail
      refine (c_spec_LayoutValid _ _ _ _).mono ?_
      rw [hl]
      rintro e w1 ⟨rfl, hB1⟩
      have hA1 := balloc hB1
      clear hB1
      go_wp2_with fail
      refine (c_spec_TableValid _ xs _ (ha.kept hA1) hx).mono ?_
      rw [ht]
      rintro e w2 ⟨rfl, hB2⟩
      have hA := bthen hA1 hB2
      clear hB2
      go_wp2
      go_ret2
      exact ⟨_, rfl, rfl, hA⟩
end Go.Proofs.YtgjaajfpdajleaaGreatDoor
