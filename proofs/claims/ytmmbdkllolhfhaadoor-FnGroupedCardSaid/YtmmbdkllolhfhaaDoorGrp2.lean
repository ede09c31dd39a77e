/- Contracts: a number with its digits in groups, in the program. -/
import Derived.Test.YtmmbdkllolhfhaaDoorGrp
namespace Go.Proofs.YtmmbdkllolhfhaaDoor
set_option linter.unusedVariables false
open Go.RowKit

/-- the builder at block b (of the call's own since block B) holds the bytes l -/
def Bl (B b : Nat) (l : List UInt8) (w : World) : Prop := Lib.IsBuilder 52 5 B b (Lib.byteCells l) w
theorem Bl.byte {B b : Nat} {l : List UInt8} {w : World} (h : Bl B b l w) (c : UInt8) (hl : l.length ≤ 1099511627776) (hB : B ≤ w.heap.size) :
    Calls Tryd.prog 31 #[.pointer (some ⟨b, 0, none⟩), .int .u8 (c.toNat : Int)] w fun e w' => e = .returned .nilIface ∧ Bl B b (l ++ [c]) w' ∧ Below B w w' := by
  refine (c_WriteByte B b (Lib.byteCells l) (c.toNat : Int) w h (by rw [Lib.byteCells_length]; omega) hB).mono ?_
  rintro e w' ⟨h1, h2, h3⟩
  exact ⟨h1, .inr (by rw [← byteCells_snoc]; exact h2), h3⟩
theorem Bl.done {B b : Nat} {l : List UInt8} {w : World} (h : Bl B b l w) (hB : B ≤ w.heap.size) :
    Calls Tryd.prog 33 #[.pointer (some ⟨b, 0, none⟩)] w fun e w' => ∃ Y, e = .returned (.string Y) ∧ IsS Y l ∧ Below B w w' :=
  (Tryd.Builder_String_any B b l w h hB).mono fun e w' ⟨h1, h2⟩ => ⟨_, h1, IsS.mk l, h2⟩
theorem Bl.fresh (w : World) : Bl w.heap.size w.heap.size [] (w.alloc (.cells #[.pointer none, .slice none 0 0] 52)) := Lib.fresh_isBuilder _ _ w

set_option maxHeartbeats 1600000 in
theorem c_impl_GroupDigits (n : Int) (w : World) (htab : TabW w) :
    Calls Tryd.prog 21 #[(.int .i64 (n))] w (StrB (grpF n) w) := by
  cases hin : inB n (-1000000000) 1000000000
  · have HR : Hid (grpF n = []) := by show _ = _; unfold grpF; rw [hin]; rfl
    go_enter Tryd.func21, Tryd.ntmps21
    go_wp2_with (go_at_call 46; refine (c_within _ _ _ (by omega) (by omega)).mono ?_; rw [hin]; rintro e w' ⟨rfl, rfl⟩)
    go_ret
    exact ⟨_, rfl, by rw [HR.out]; rfl, Below.refl _ _⟩
  · obtain ⟨h1, h2⟩ := inB_iff.1 hin
    obtain ⟨m, hm⟩ : ∃ m : Nat, (if n < 0 then -n else n) = m := ⟨(if n < 0 then -n else n).toNat, by split <;> omega⟩
    have hm9 : m ≤ 1000000000 := by split at hm <;> omega
    have hl := dec_len m (by omega)
    have hgl := grpN_len (n := m) (by omega)
    have hc := c_Itoa (m : Int) w htab (by omega) (by omega)
    rw [itoa_nat] at hc
    have HG : Hid (grpN m = grpK (Lib.decDigits m) (Lib.decDigits m).length) := rfl
    have HR : Hid (grpF n = (if n < 0 then [45] else []) ++ grpN m) := by
      show _ = _; unfold grpF; rw [hin, if_pos rfl]
      by_cases hn : n < 0
      · rw [if_pos hn, if_pos hn, ← show (-n).toNat = m by rw [if_pos hn] at hm; omega]; rfl
      · rw [if_neg hn, if_neg hn, ← show n.toNat = m by rw [if_neg hn] at hm; omega]; rfl
    generalize Lib.decDigits m = t at hc hl HG
    by_cases hn : n < 0
    · obtain rfl : n = -(m : Int) := by rw [if_pos hn] at hm; omega
      have hmx : max (-(m : Int)) (m : Int) = m := by omega
      clear hm h1 h2
      go_enter Tryd.func21, Tryd.ntmps21
      go_wp2_with (go_at_call 46; refine (c_within _ _ _ (by omega) (by omega)).mono ?_; rw [hin]; rintro e w' ⟨rfl, rfl⟩)
      refine hc.mono ?_
      rintro e w1 ⟨T, rfl, hT, hB1⟩
      have hTs := hT.size
      have HTs : Hid (T.size = t.length) := hTs
      have hTl : T.size ≤ 16 := by omega
      have hfr := Bl.fresh w1
      have hBf : Below w1.heap.size w1 (w1.alloc (.cells #[.pointer none, .slice none 0 0] 52)) := (Below.refl _ _).alloc (Nat.le_refl _) _
      clear hTs hc hmx hin
      go_wp2_with fail
      refine (hfr.byte 45 (by simp) (by simp)).mono ?_
      rintro e w2 ⟨rfl, hbl, hBw⟩
      have hB2 := hBf.trans hBw
      have hbl0 : Bl w1.heap.size w1.heap.size ([45] ++ grpK t 0) w2 := hbl
      clear hfr hBf hBw hbl
      go_wp2
      go_loopw [5, 19] (fun c i wr => ∃ k : Nat, k ≤ T.size ∧ i = .int .i64 k ∧ Bl w1.heap.size w1.heap.size ([45] ++ grpK t k) wr ∧ Below w1.heap.size w1 wr) (fun _ i _ => T.size - (intOf i).toNat)
      case atStart => exact ⟨0, Nat.zero_le _, rfl, hbl0, hB2⟩
      case round =>
        obtain ⟨k, hk, rfl, hbl, hB⟩ := hrel
        clear hbl0 hB2
        have hgk := grpK_len t k
        by_cases hlt : k < T.size
        · have hkt : k < t.length := by rw [← HTs.out]; exact hlt
          have hat : T[k] = t[k] := hT.at_ hlt hkt
          obtain ⟨c, hc⟩ : ∃ c, T[k] = c := ⟨_, rfl⟩
          have hx : (t.drop k).take 1 = [c] := by rw [take1 hkt, ← hat, hc]
          have hcn : (T[k].toNat : Int) = (c.toNat : Int) := by rw [hc]
          have hBs := hB.size
          clear hat hc
          by_cases h3 : 0 < k ∧ (t.length - k) % 3 = 0
          · have g1 : (0 : Int) < (k : Int) := by omega
            have g2 : (((T.size : Int) - (k : Int)) % 3 == 0) = true := beq_iff_eq.2 (by have := HTs.out; omega)
            have hG : grpK t (k + 1) = grpK t k ++ ([32] ++ [c]) := by rw [grpK, if_pos h3, hx]
            clear h3 hx
            go_wp2_with fail
            refine (hbl.byte 32 (by simp; omega) hBs).mono ?_
            rintro e w3 ⟨rfl, hbl3, hB3⟩
            have hB4 := hB.trans hB3
            have hBs4 := hB4.size
            clear hbl hB hB3
            go_wp2_with fail
            refine (hbl3.byte c (by simp; omega) hBs4).mono ?_
            rintro e w5 ⟨rfl, hbl5, hB5⟩
            have HO : Hid (Bl w1.heap.size w1.heap.size ([45] ++ grpK t (k + 1)) w5 ∧ Below w1.heap.size w1 w5) := ⟨by rw [hG]; simpa using hbl5, hB4.trans hB5⟩
            clear hbl3 hB4 hbl5 hB5 hG hcn
            go_wp2
            go_roundw
            case rel => exact ⟨k + 1, by omega, by go_num, HO.out.1, HO.out.2⟩
            case measure => simp [intOf]; omega
          · have hG : grpK t (k + 1) = grpK t k ++ [c] := by rw [grpK, if_neg h3, hx]; rfl
            by_cases hk0 : 0 < k
            · have g1 : (0 : Int) < (k : Int) := by omega
              have g2 : (((T.size : Int) - (k : Int)) % 3 == 0) = false := beq_eq_false_iff_ne.2 (by have := HTs.out; omega)
              clear h3 hx
              go_wp2_with fail
              refine (hbl.byte c (by simp; omega) hBs).mono ?_
              rintro e w5 ⟨rfl, hbl5, hB5⟩
              have HO : Hid (Bl w1.heap.size w1.heap.size ([45] ++ grpK t (k + 1)) w5 ∧ Below w1.heap.size w1 w5) := ⟨by rw [hG]; simpa using hbl5, hB.trans hB5⟩
              clear hbl hB hbl5 hB5 hG hcn
              go_wp2
              go_roundw
              case rel => exact ⟨k + 1, by omega, by go_num, HO.out.1, HO.out.2⟩
              case measure => simp [intOf]; omega
            · have g1 : ¬ (0 : Int) < (k : Int) := by omega
              clear h3 hx
              go_wp2_with fail
              refine (hbl.byte c (by simp; omega) hBs).mono ?_
              rintro e w5 ⟨rfl, hbl5, hB5⟩
              have HO : Hid (Bl w1.heap.size w1.heap.size ([45] ++ grpK t (k + 1)) w5 ∧ Below w1.heap.size w1 w5) := ⟨by rw [hG]; simpa using hbl5, hB.trans hB5⟩
              clear hbl hB hbl5 hB5 hG hcn
              go_wp2
              go_roundw
              case rel => exact ⟨k + 1, by omega, by go_num, HO.out.1, HO.out.2⟩
              case measure => simp [intOf]; omega
        · have hbl' : Bl w1.heap.size w1.heap.size ([45] ++ grpK t t.length) wr := by rwa [show k = t.length by have := HTs.out; omega] at hbl
          have hBs := hB.size
          have hB6 := bthen hB1 hB
          clear hbl hB hgk
          go_wp2_with fail
          refine (hbl'.done hBs).mono ?_
          rintro e w7 ⟨Y, rfl, hY, hB7⟩
          have hB8 : Below w.heap.size w w7 := hB6.trans (hB7.mono hB1.size)
          go_wp2
          go_ret
          exact ⟨Y, rfl, by rw [HR.out, HG.out]; exact hY.cast (by first | rfl | (rw [if_pos hn]) | (rw [if_neg hn])), hB8⟩
    · obtain rfl : n = (m : Int) := by rw [if_neg hn] at hm; omega
      have hmx : max (m : Int) (-(m : Int)) = m := by omega
      clear hm h1 h2
      go_enter Tryd.func21, Tryd.ntmps21
      go_wp2_with (go_at_call 46; refine (c_within _ _ _ (by omega) (by omega)).mono ?_; rw [hin]; rintro e w' ⟨rfl, rfl⟩)
      refine hc.mono ?_
      rintro e w1 ⟨T, rfl, hT, hB1⟩
      have hTs := hT.size
      have HTs : Hid (T.size = t.length) := hTs
      have hTl : T.size ≤ 16 := by omega
      have hfr := Bl.fresh w1
      have hBf : Below w1.heap.size w1 (w1.alloc (.cells #[.pointer none, .slice none 0 0] 52)) := (Below.refl _ _).alloc (Nat.le_refl _) _
      clear hTs hc hmx hin
      go_wp2
      have hB2 := hBf
      have hbl0 : Bl w1.heap.size w1.heap.size ([] ++ grpK t 0) (w1.alloc (.cells #[.pointer none, .slice none 0 0] 52)) := hfr
      clear hfr hBf
      go_loopw [5, 19] (fun c i wr => ∃ k : Nat, k ≤ T.size ∧ i = .int .i64 k ∧ Bl w1.heap.size w1.heap.size ([] ++ grpK t k) wr ∧ Below w1.heap.size w1 wr) (fun _ i _ => T.size - (intOf i).toNat)
      case atStart => exact ⟨0, Nat.zero_le _, rfl, hbl0, hB2⟩
      case round =>
        obtain ⟨k, hk, rfl, hbl, hB⟩ := hrel
        clear hbl0 hB2
        have hgk := grpK_len t k
        by_cases hlt : k < T.size
        · have hkt : k < t.length := by rw [← HTs.out]; exact hlt
          have hat : T[k] = t[k] := hT.at_ hlt hkt
          obtain ⟨c, hc⟩ : ∃ c, T[k] = c := ⟨_, rfl⟩
          have hx : (t.drop k).take 1 = [c] := by rw [take1 hkt, ← hat, hc]
          have hcn : (T[k].toNat : Int) = (c.toNat : Int) := by rw [hc]
          have hBs := hB.size
          clear hat hc
          by_cases h3 : 0 < k ∧ (t.length - k) % 3 = 0
          · have g1 : (0 : Int) < (k : Int) := by omega
            have g2 : (((T.size : Int) - (k : Int)) % 3 == 0) = true := beq_iff_eq.2 (by have := HTs.out; omega)
            have hG : grpK t (k + 1) = grpK t k ++ ([32] ++ [c]) := by rw [grpK, if_pos h3, hx]
            clear h3 hx
            go_wp2_with fail
            refine (hbl.byte 32 (by simp; omega) hBs).mono ?_
            rintro e w3 ⟨rfl, hbl3, hB3⟩
            have hB4 := hB.trans hB3
            have hBs4 := hB4.size
            clear hbl hB hB3
            go_wp2_with fail
            refine (hbl3.byte c (by simp; omega) hBs4).mono ?_
            rintro e w5 ⟨rfl, hbl5, hB5⟩
            have HO : Hid (Bl w1.heap.size w1.heap.size ([] ++ grpK t (k + 1)) w5 ∧ Below w1.heap.size w1 w5) := ⟨by rw [hG]; simpa using hbl5, hB4.trans hB5⟩
            clear hbl3 hB4 hbl5 hB5 hG hcn
            go_wp2
            go_roundw
            case rel => exact ⟨k + 1, by omega, by go_num, HO.out.1, HO.out.2⟩
            case measure => simp [intOf]; omega
          · have hG : grpK t (k + 1) = grpK t k ++ [c] := by rw [grpK, if_neg h3, hx]; rfl
            by_cases hk0 : 0 < k
            · have g1 : (0 : Int) < (k : Int) := by omega
              have g2 : (((T.size : Int) - (k : Int)) % 3 == 0) = false := beq_eq_false_iff_ne.2 (by have := HTs.out; omega)
              clear h3 hx
              go_wp2_with fail
              refine (hbl.byte c (by simp; omega) hBs).mono ?_
              rintro e w5 ⟨rfl, hbl5, hB5⟩
              have HO : Hid (Bl w1.heap.size w1.heap.size ([] ++ grpK t (k + 1)) w5 ∧ Below w1.heap.size w1 w5) := ⟨by rw [hG]; simpa using hbl5, hB.trans hB5⟩
              clear hbl hB hbl5 hB5 hG hcn
              go_wp2
              go_roundw
              case rel => exact ⟨k + 1, by omega, by go_num, HO.out.1, HO.out.2⟩
              case measure => simp [intOf]; omega
            · have g1 : ¬ (0 : Int) < (k : Int) := by omega
              clear h3 hx
              go_wp2_with fail
              refine (hbl.byte c (by simp; omega) hBs).mono ?_
              rintro e w5 ⟨rfl, hbl5, hB5⟩
              have HO : Hid (Bl w1.heap.size w1.heap.size ([] ++ grpK t (k + 1)) w5 ∧ Below w1.heap.size w1 w5) := ⟨by rw [hG]; simpa using hbl5, hB.trans hB5⟩
              clear hbl hB hbl5 hB5 hG hcn
              go_wp2
              go_roundw
              case rel => exact ⟨k + 1, by omega, by go_num, HO.out.1, HO.out.2⟩
              case measure => simp [intOf]; omega
        · have hbl' : Bl w1.heap.size w1.heap.size ([] ++ grpK t t.length) wr := by rwa [show k = t.length by have := HTs.out; omega] at hbl
          have hBs := hB.size
          have hB6 := bthen hB1 hB
          clear hbl hB hgk
          go_wp2_with fail
          refine (hbl'.done hBs).mono ?_
          rintro e w7 ⟨Y, rfl, hY, hB7⟩
          have hB8 : Below w.heap.size w w7 := hB6.trans (hB7.mono hB1.size)
          go_wp2
          go_ret
          exact ⟨Y, rfl, by rw [HR.out, HG.out]; exact hY.cast (by first | rfl | (rw [if_pos hn]) | (rw [if_neg hn])), hB8⟩
end Go.Proofs.YtmmbdkllolhfhaaDoor
