/- Contracts: a number is parsed from its digits in groups, program and reference. -/
import Derived.Test.YtmmbdkllolhfhaaDoorPgrP
import Derived.Test.YtmmbdkllolhfhaaDoorNumF
import Derived.Test.YtmmbdkllolhfhaaDoorGrp2
namespace Go.Proofs.YtmmbdkllolhfhaaDoor
set_option linter.unusedVariables false
open Go.RowKit

/-- the library's limit of short searches is some number -/
def MaxW (w : World) : Prop := ∃ m, w.cell? ⟨1, 0, none⟩ = some (.int .i64 m)
theorem MaxW.below {w w' : World} (h : MaxW w) (hb : Below w.heap.size w w') : MaxW w' := by
  obtain ⟨m, h⟩ := h
  have hlt := Lib.lt_of_cell h
  exact ⟨m, by rw [(bcell hb).1 _ _ hlt]; exact h⟩
def PgRet (l : List UInt8) (w : World) (e : Ending) (w' : World) : Prop := e = .returned (.tuple #[.int .i64 ((pgP l).getD 0), .bool (pgP l).isSome]) ∧ Below w.heap.size w w'
theorem pgRet_none {l : List UInt8} {w w' : World} (h : pgP l = none) (hB : Below w.heap.size w w') : PgRet l w (.returned (.tuple #[.int .i64 0, .bool false])) w' := by
  unfold PgRet; rw [h]; exact ⟨rfl, hB⟩
theorem pgRet_some {l : List UInt8} {n : Int} {w w' : World} (h : pgP l = some n) (hB : Below w.heap.size w w') : PgRet l w (.returned (.tuple #[.int .i64 n, .bool true])) w' := by
  unfold PgRet; rw [h]; exact ⟨rfl, hB⟩

set_option maxRecDepth 20000 in
set_option maxHeartbeats 1600000 in
theorem c_impl_ParseGrouped (s : ByteArray) (l : List UInt8) (hs : IsS s l) (w : World) (htab : TabW w) (herr : ErrW w) (hmax : MaxW w) (hsz : s.size ≤ 1048576) :
    Calls Tryd.prog 19 #[.string s] w (PgRet l w) := by
  obtain ⟨m, hm⟩ := hmax
  have hrep : Calls Tryd.prog 43 #[.string s, .string ⟨#[32]⟩, .string ⟨#[]⟩] w (StrB (nosp l) w) := by
    refine (Tryd.strings_ReplaceAll s ⟨#[32]⟩ ⟨#[]⟩ m w (by omega) hm (by decide) (by rw [show (ByteArray.mk #[]).size = 0 from rfl]; omega)).mono ?_
    rintro e w' ⟨h1, h2⟩
    refine ⟨_, h1, ?_, h2⟩
    rw [show s.data.toList = l from hs]
    exact (IsS.mk _).cast (replace_sp l)
  have hls := hs.size
  have hlen := nosp_len l
  have HS : Hid (IsS s l) := hs
  clear hm hs
  have hnl : (nosp l).length ≤ 1048576 := by omega
  clear hlen hls
  go_enter Tryd.func19, Tryd.ntmps19
  go_wp2_with fail
  refine hrep.mono ?_
  rintro e w1 ⟨Y, rfl, hY, hB1⟩
  have hYs : Y.size ≤ 9223372036854775807 := by rw [hY.size]; omega
  have hc := c_parseNumber Y _ hY w1 (htab.below hB1) (herr.below hB1) hYs
  have htab1 := htab.below hB1
  clear hrep htab herr hY
  cases hn : numP (nosp l) with
  | none =>
    have HN := Lib.hid (pgP_none hn)
    have hc' : Calls Tryd.prog 42 #[.string Y] w1 fun e w' => e = .returned (.tuple #[.int .i64 0, .bool false]) ∧ Below w1.heap.size w1 w' := by
      unfold NumRet at hc; rw [hn] at hc; exact hc
    clear hc hn
    go_wp2_with fail
    refine hc'.mono ?_
    rintro e w2 ⟨rfl, hB2⟩
    have hA := bthen hB1 hB2
    clear hc' hB1 hB2
    go_wp2
    go_ret2
    exact pgRet_none HN.out hA
  | some n =>
    have hc' : Calls Tryd.prog 42 #[.string Y] w1 fun e w' => e = .returned (.tuple #[.int .i64 n, .bool true]) ∧ Below w1.heap.size w1 w' := by
      unfold NumRet at hc; rw [hn] at hc; exact hc
    have HM := Lib.hid hn
    obtain ⟨n1, n2⟩ := numP_bd hn
    clear hc hn
    go_wp2_with fail
    refine hc'.mono ?_
    rintro e w2 ⟨rfl, hB2⟩
    have hA := bthen hB1 hB2
    have htab2 := htab1.below hB2
    clear hc' hB1 hB2 htab1
    go_wp2_with fail
    refine (c_impl_GroupDigits n _ htab2).mono ?_
    rintro e w3 ⟨Z, rfl, hZ, hB3⟩
    replace hA := bthen hA hB3
    clear hB3 htab2
    by_cases hq : grpF n = l
    · have HN := Lib.hid (pgP_good HM.out hq)
      rw [hq] at hZ
      obtain rfl : Z = s := hZ.inj HS.out
      clear hq hZ
      go_wp2
      go_ret2
      exact pgRet_some HN.out hA
    · have HN := Lib.hid (pgP_bad HM.out hq)
      have hne : Z ≠ s := by
        intro e
        apply hq
        rw [e] at hZ
        exact hZ.symm.trans HS.out
      have hbe := str_bne hne
      clear hq hZ hne
      go_wp2
      go_ret2
      exact pgRet_none HN.out hA

set_option maxRecDepth 20000 in
set_option maxHeartbeats 1600000 in
theorem c_spec_ParseGrouped (s : ByteArray) (l : List UInt8) (hs : IsS s l) (w : World) (hsz : s.size ≤ 1048576) :
    Calls Tryd.prog 18 #[.string s] w (PgRet l w) := by
  have HS : Hid (IsS s l) := hs
  have HSZ : Hid (s.size = l.length) := hs.size
  clear hs
  go_enter Tryd.func18, Tryd.ntmps18
  go_wp2
  go_loop [4, 5] (fun o i => ∃ (k : Nat) (O : ByteArray), k ≤ s.size ∧ i = .int .i64 k ∧ o = .string O ∧ O.size ≤ k ∧ IsS O (nosp (l.take k))) (fun _ i => s.size - (intOf i).toNat)
  case atStart => exact ⟨0, ⟨#[]⟩, by omega, rfl, rfl, by show 0 ≤ 0; omega, rfl⟩
  case round =>
    obtain ⟨k, O, hk, rfl, rfl, hOs, hO⟩ := hrel
    have HO := Lib.hid hO
    clear hO
    by_cases hlt : k < s.size
    · have hltl : k < l.length := by rw [← HSZ.out]; exact hlt
      have hat : s[k] = l[k] := HS.out.at_ hlt hltl
      have ht := nosp_take hltl
      obtain ⟨c, hc⟩ : ∃ c, s[k] = c := ⟨_, rfl⟩
      have hcn : (s[k].toNat : Int) = (c.toNat : Int) := by rw [hc]
      have HX : Hid (IsS (s.extract k (k + 1)) [c]) := by
        have h := HS.out.ext k (k + 1)
        rw [show k + 1 - k = 1 by omega] at h
        refine h.cast ?_
        rw [List.drop_eq_getElem_cons hltl, ← hat, hc]
        rfl
      have hj1 : (k : Int) + 1 ≤ (s.size : Int) := by omega
      have hj2 : (k : Int) ≤ (k : Int) + 1 := by omega
      by_cases h32 : c = 32
      · have HT : Hid (nosp (l.take (k + 1)) = nosp (l.take k)) := by show _ = _; rw [ht, ← hat, hc, if_pos h32, List.append_nil]
        have e1 : ((c.toNat : Int) != 32) = false := by rw [h32]; rfl
        clear ht hat hc h32
        go_wp2
        go_round
        case rel => exact ⟨k + 1, O, by omega, by go_num, rfl, by omega, by rw [HT.out]; exact HO.out⟩
        case measure => simp [intOf]; omega
      · have HT : Hid (nosp (l.take (k + 1)) = nosp (l.take k) ++ [c]) := by show _ = _; rw [ht, ← hat, hc, if_neg h32]
        have e1 : ((c.toNat : Int) != 32) = true := by
          rw [bne_iff_ne]
          intro e
          apply h32
          apply UInt8.toNat_inj.1
          exact Int.ofNat.inj e
        clear ht hat hc h32
        go_wp2
        go_round
        case rel => exact ⟨k + 1, _, by omega, by go_num, rfl, by rw [ByteArray.size_append, ByteArray.size_extract]; omega, by rw [HT.out]; exact HO.out.app HX.out⟩
        case measure => simp [intOf]; omega
    · have hOl : IsS O (nosp l) := by
        have h := HO.out
        rwa [List.take_of_length_le (by rw [← HSZ.out]; omega)] at h
      have hc := c_l9Num O _ hOl w (by omega)
      clear hOl
      cases hn : numP (nosp l) with
      | none =>
        have HN := Lib.hid (pgP_none hn)
        have hc' : Calls Tryd.prog 41 #[.string O] w fun e w' => e = .returned (.tuple #[.int .i64 0, .bool false]) ∧ Below w.heap.size w w' := by
          unfold NumRet at hc; rw [hn] at hc; exact hc
        clear hc hn
        go_wp2_with fail
        refine hc'.mono ?_
        rintro e w2 ⟨rfl, hB2⟩
        clear hc'
        go_wp2
        go_ret2
        exact pgRet_none HN.out hB2
      | some n =>
        have hc' : Calls Tryd.prog 41 #[.string O] w fun e w' => e = .returned (.tuple #[.int .i64 n, .bool true]) ∧ Below w.heap.size w w' := by
          unfold NumRet at hc; rw [hn] at hc; exact hc
        have HM := Lib.hid hn
        have hne0 : s.toList = [] → False := by
          intro e
          have h1 := HM.out
          have h2 : l = [] := by rw [← show s.data.toList = l from HS.out, ← ByteArray.toList_eq]; exact e
          rw [h2] at h1
          cases h1
        have e1 : (s.toList = []) = False := eq_false hne0
        have e2 : s.toList.isEmpty = false := by
          cases hq : s.toList with
          | nil => exact absurd hq hne0
          | cons a b => rfl
        clear hc hn hne0
        go_wp2_with fail
        refine hc'.mono ?_
        rintro e w2 ⟨rfl, hB2⟩
        clear hc'
        go_wp2_with fail
        refine (c_spec_GroupDigits n _).mono ?_
        rintro e w3 ⟨Z, rfl, hZ, hB3⟩
        have hA := bthen hB2 hB3
        clear hB3 hB2
        by_cases hq : grpF n = l
        · have HN := Lib.hid (pgP_good HM.out hq)
          rw [hq] at hZ
          obtain rfl : Z = s := hZ.inj HS.out
          clear hq hZ
          go_wp2
          go_ret2
          exact pgRet_some HN.out hA
        · have HN := Lib.hid (pgP_bad HM.out hq)
          have hne : Z ≠ s := by
            intro e
            apply hq
            rw [e] at hZ
            exact hZ.symm.trans HS.out
          have hbe := str_bne hne
          clear hq hZ hne
          go_wp2
          go_ret2
          exact pgRet_none HN.out hA
end Go.Proofs.YtmmbdkllolhfhaaDoor
