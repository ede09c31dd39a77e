/- Contracts: the lines of a page, in the reference. -/
import Derived.Test.YtdgnhplaakjlgaaGreatDoorPg2
import Derived.Test.YtdgnhplaakjlgaaGreatDoorRows1
namespace Go.Proofs.YtdgnhplaakjlgaaGreatDoor
set_option linter.unusedVariables false
open Go.RowKit

theorem made0 (w : World) (x : Obj) : ((w.alloc x).alloc (.cells #[] 9)).ownsRow (w.heap.size + 1) 9 1 (.slice (some ⟨w.heap.size + 1, 0, none⟩) 0 0) 0 [] := by
  have h := World.ownsRow_made (base := w.heap.size + 1) (e := 9) (size := 1) (w.alloc x) #[] 0 (by simp) (by decide) rfl
  have e : (w.alloc x).heap.size = w.heap.size + 1 := by simp
  rw [e] at h
  exact h
theorem pgN_lt {n s r k : Nat} (h : k < pgN n s r) : k < r ∧ s + k < n := by unfold pgN at h; omega
theorem pgN_ge {n s r k : Nat} (h : k ≤ pgN n s r) (h2 : ¬ (k < r ∧ s + k < n)) : k = pgN n s r := by unfold pgN at h ⊢; omega

set_option maxRecDepth 20000 in
set_option maxHeartbeats 1600000 in
theorem c_l6Page (R A C : Nat) (p : Int) (s : Nat) (v : Value) (xs : List Int) (w : World) (ha : RdI w v xs) (hx : xs.length ≤ 60) (hin : allIn xs 1000000000 = true) (hl : layB R A C = true) (p0 : 0 ≤ p) (p1 : p * (R : Int) ≤ 100) (hs : p * (R : Int) * (A : Int) = (s : Int)) (hs1 : s ≤ 100) :
    Calls Tryz.prog 56 #[(.agg #[.int .i64 (R : Int), .int .i64 (A : Int), .int .i64 (C : Int)]), v, (.int .i64 (p))] w (FreshSB w (pgeF xs C s R A) (pgeB xs C s R A)) := by
  have ha0 := ha
  obtain ⟨b, cap, rfl, ha1⟩ := ha0
  clear ha1
  simp only [List.length_map] at ha ⊢
  obtain ⟨l1, l2, l3, l4, l5, l6, l7, l8⟩ := lay_mul hl
  have HC : Hid (∀ (q : Nat) (W : World), q < R → Below w.heap.size w W → Calls Tryz.prog 77 #[(.agg #[.int .i64 (R : Int), .int .i64 (A : Int), .int .i64 (C : Int)]), .slice b xs.length cap, (.int .i64 (p)), (.int .i64 ((q : Int)))] W (StrBB (if lnB xs C (s + q) R A = true then lnL xs C (s + q) R A else []) (lnB xs C (s + q) R A) W)) :=
    fun q W hq hB => c_l6Line R A C p q s _ xs W (ha.kept hB) hx hin hl p0 p1 hs hs1 hq
  obtain ⟨B, hb⟩ : ∃ B, pgeB xs C s R A = B := ⟨_, rfl⟩
  obtain ⟨F, hf⟩ : ∃ F, pgeF xs C s R A = F := ⟨_, rfl⟩
  obtain ⟨n, hn⟩ : ∃ n, pgN xs.length s R = n := ⟨_, rfl⟩
  have HE : Hid (pgOk xs C s R A n = B ∧ (if B = true then pgLn xs C s R A n else []) = F ∧ pgN xs.length s R = n) := by
    refine ⟨?_, ?_, hn⟩
    · rw [← hn]; exact hb
    · rw [← hn, ← hb]; exact hf
  rw [hb, hf]
  have m0 : 0 ≤ p * (R : Int) := Int.mul_nonneg p0 (by omega)
  have hs0 := made0 w (.cells #[(.int .i64 ((R : Int))), (.int .i64 ((A : Int))), (.int .i64 ((C : Int)))] 24)
  clear hb hf hn hin hl l7 l8
  go_enter Tryz.func56, Tryz.ntmps56
  go_wp2
  go_loopw [8, 9] (fun o i wr => ∃ k : Nat, k ≤ n ∧ i = .int .i64 k ∧ OwnS wr (w.heap.size + 1) o (pgLn xs C s R A k) ∧ pgOk xs C s R A k = true ∧ Below (w.heap.size + 1) (w.alloc (.cells #[(.int .i64 ((R : Int))), (.int .i64 ((A : Int))), (.int .i64 ((C : Int)))] 24)) wr) (fun _ i _ => n - (intOf i).toNat)
  case atStart => exact ⟨0, by omega, rfl, hs0, rfl, (Below.refl _ _).alloc (by simp) _⟩
  case round =>
    obtain ⟨k, hk, rfl, ho, hOk, hB⟩ := hrel
    have HO : Hid (pgOk xs C s R A k = true) := hOk
    clear hOk
    have hBA : Below w.heap.size w wr := ((Below.refl _ _).alloc (Nat.le_refl _) _).trans (hB.mono (by omega))
    have c0 : wr.cell? ⟨w.heap.size, 0, none⟩ = some (.int .i64 ((R : Int))) := by rw [hB.cell (p := ⟨w.heap.size, 0, none⟩) (Nat.lt_succ_self _)]; simp [go_sem]
    have c1 : wr.cell? ⟨w.heap.size, 1, none⟩ = some (.int .i64 ((A : Int))) := by rw [hB.cell (p := ⟨w.heap.size, 1, none⟩) (Nat.lt_succ_self _)]; simp [go_sem]
    have c2 : wr.cell? ⟨w.heap.size, 2, none⟩ = some (.int .i64 ((C : Int))) := by rw [hB.cell (p := ⟨w.heap.size, 2, none⟩) (Nat.lt_succ_self _)]; simp [go_sem]
    have hzr : w.heap.size < wr.heap.size := by have := hB.size; simp at this; omega
    by_cases hlt : k < R ∧ s + k < xs.length
    · obtain ⟨h1, h2⟩ := hlt
      have hkn : k < n := by rw [← HE.out.2.2]; unfold pgN; omega
      have hc := HC.out k wr h1 hBA
      cases he : lnB xs C (s + k) R A
      · rw [he] at hc
        have HB : Hid (B = false ∧ F = []) := by
          have h1 : B = false := by rw [← HE.out.1]; exact pgOk_false he hkn
          exact ⟨h1, by rw [← HE.out.2.1, h1]; rfl⟩
        clear he
        go_wp2_with fail
        refine hc.mono ?_
        rintro e w2 ⟨Y, rfl, _, hB2⟩
        have hF := bthen hBA hB2
        clear ho c0 c1 c2 hc
        go_wp2
        go_ret2
        exact ⟨_, by rw [HB.out.1]; rfl, by rw [HB.out.2]; exact OwnS_made _ _ (by have := hF.size; omega), hF.alloc (by have := hF.size; omega) _⟩
      · rw [he] at hc
        have HK : Hid (pgOk xs C s R A (k + 1) = true ∧ pgLn xs C s R A (k + 1) = pgLn xs C s R A k ++ [lnS xs C (s + k) R A]) := by
          refine ⟨?_, pgLn_succ _ _ _ _ _ _⟩
          rw [pgOk_succ, HO.out, he]; rfl
        have hlen := pgLn_len xs C s R A k
        generalize pgLn xs C s R A k = L at ho HK hlen
        clear he
        go_wp2_with fail
        refine hc.mono ?_
        rintro e w2 ⟨Y, rfl, hY, hB2⟩
        have hYe : Y = lnS xs C (s + k) R A := hY.inj (IsS.mk _)
        replace ho := ownsRow_kept_below ho hB2
        replace hB := hB.trans (hB2.mono (by omega))
        have hBs : w.heap.size + 1 ≤ w2.heap.size := by have := hB2.size; omega
        have HY : Hid (Y = lnS xs C (s + k) R A) := hYe
        unfold OwnS at ho
        clear hYe hY hc c0 c1 c2 hBA hB2
        go_wp2_with (first | (at_builtin; refine app1 25 9 Tryz.underlying25 infoStr rfl (by decide) rfl _ _ rfl (w.heap.size + 1) _ _ _ rfl ho rfl rfl ?c1 ?c2 ?_))
        case c1 => omega
        case c2 => exact hBs
        intro v' w3 ho3 hg3
        have HO : Hid (OwnS w3 (w.heap.size + 1) v' (pgLn xs C s R A (k + 1)) ∧ Below (w.heap.size + 1) (w.alloc (.cells #[(.int .i64 ((R : Int))), (.int .i64 ((A : Int))), (.int .i64 ((C : Int)))] 24)) w3) :=
          ⟨by rw [HK.out.2, ← HY.out]; exact OwnS_snoc hlen.symm ho3, hB.grown hg3 hBs (fun j hj => (ho.lt j hj).1)⟩
        clear ho ho3 hg3 hB
        go_wp2
        go_roundw
        case rel => exact ⟨k + 1, by omega, by go_num, HO.out.1, HK.out.1, HO.out.2⟩
        case measure => simp [intOf]; omega
    · have hkn : Hid (k = n) := by
        show _ = _
        rw [← HE.out.2.2]
        exact pgN_ge (by rw [HE.out.2.2]; exact hk) hlt
      have HB : Hid (B = true ∧ OwnS wr w.heap.size u8 F ∧ Below w.heap.size w wr) := by
        have h1 : B = true := by rw [← HE.out.1, ← hkn.out]; exact HO.out
        refine ⟨h1, ?_, hBA⟩
        rw [← HE.out.2.1, if_pos h1, ← hkn.out]
        exact ownsRow_monoS ho (by omega)
      have hd : R ≤ k ∨ (k < R ∧ xs.length ≤ s + k) := by omega
      clear hB ho hBA hlt
      rcases hd with h1 | ⟨h1, h2⟩
      all_goals
        go_wp2
        go_ret2
        exact ⟨_, by rw [HB.out.1]; rfl, HB.out.2.1, HB.out.2.2⟩
end Go.Proofs.YtdgnhplaakjlgaaGreatDoor
