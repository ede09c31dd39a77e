/- Contracts: the number that a canonical decimal text spells, program and reference. -/
import Derived.Test.YtdgnhplaakjlgaaGreatDoorNumPl
import Derived.Test.YtdgnhplaakjlgaaGreatDoorItoa
import Derived.Test.YtdgnhplaakjlgaaGreatDoorShort2
import Derived.Shelf.Vars
import Derived.Stop.LaidErr
import Derived.Lib.AtoiErrMem
namespace Go.Proofs.YtdgnhplaakjlgaaGreatDoor
set_option linter.unusedVariables false
open Go.RowKit

/-- the library's variable for a bad number holds an error -/
def ErrW (w : World) : Prop := ∃ tp p, w.cell? ⟨4, 0, none⟩ = some (.iface tp p)
theorem ErrW.below {w w' : World} (h : ErrW w) (hb : Below w.heap.size w w') : ErrW w' := by
  obtain ⟨tp, p, h⟩ := h
  have hlt := Lib.lt_of_cell h
  exact ⟨tp, p, by rw [(bcell hb).1 _ _ hlt]; exact h⟩
def NumRet (l : List UInt8) (w : World) (e : Ending) (w' : World) : Prop := e = .returned (.tuple #[.int .i64 ((numP l).getD 0), .bool (numP l).isSome]) ∧ Below w.heap.size w w'
theorem numRet_none {l : List UInt8} {w w' : World} (h : numP l = none) (hB : Below w.heap.size w w') : NumRet l w (.returned (.tuple #[.int .i64 0, .bool false])) w' := by
  unfold NumRet; rw [h]; exact ⟨rfl, hB⟩
theorem numRet_some {l : List UInt8} {n : Int} {w w' : World} (h : numP l = some n) (hB : Below w.heap.size w w') : NumRet l w (.returned (.tuple #[.int .i64 n, .bool true])) w' := by
  unfold NumRet; rw [h]; exact ⟨rfl, hB⟩
theorem trimP (l : List UInt8) : Lib.trimPrefix l [45] = strip l := by
  unfold Lib.trimPrefix Lib.hasPrefix strip
  cases l with
  | nil => simp
  | cons c l =>
    by_cases h : c = 45
    · simp [h, List.isPrefixOf]
    · have h' : ¬ (45 : UInt8) = c := fun e => h e.symm
      simp [h, h', List.isPrefixOf]

set_option maxRecDepth 20000 in
set_option maxHeartbeats 1600000 in
theorem c_parseNumber (s : ByteArray) (l : List UInt8) (hs : IsS s l) (w : World) (htab : TabW w) (herr : ErrW w) (hsz : s.size ≤ 9223372036854775807) :
    Calls Tryz.prog 78 #[.string s] w (NumRet l w) := by
  have hls := hs.size
  obtain ⟨hst1, hst2⟩ := strip_len l
  obtain ⟨Z, hZ⟩ : ∃ Z : ByteArray, Z = ⟨(Lib.trimPrefix s.data.toList [45]).toArray⟩ := ⟨_, rfl⟩
  have hZs : Z.size = (strip l).length := by
    rw [hZ, ← trimP, ← show s.data.toList = l from hs]
    exact (IsS.mk _).size
  have hct : ∀ W, Calls Tryz.prog 91 #[.string s, .string ⟨#[45]⟩] W fun e w' => e = .returned (.string Z) ∧ w' = W := by
    intro W; rw [hZ]; exact Tryz.strings_TrimPrefix s ⟨#[45]⟩ W
  by_cases h17 : 17 < (strip l).length
  · have HN : Hid (numP l = none) := by show _ = _; unfold numP; rw [if_neg (by omega)]
    have g1 : (17 : Int) < (Z.size : Int) := by omega
    clear hZ hst1 hst2 hZs hs hls
    go_enter Tryz.func78, Tryz.ntmps78
    go_wp2_with fail
    refine (hct _).mono ?_
    rintro e w' ⟨rfl, rfl⟩
    go_wp2
    go_ret2
    exact numRet_none HN.out (Below.refl _ _)
  · have g1 : ¬ (17 : Int) < (Z.size : Int) := by omega
    have hs18 : s.size ≤ 18 := by omega
    have hle : (strip l).length ≤ 17 := by omega
    have HS : Hid (IsS s l) := hs
    clear hZ hst1 hst2 hZs h17
    cases ha : Lib.atoi l with
    | none =>
      have HN : Hid (numP l = none) := by show _ = _; unfold numP; rw [if_pos hle, ha]; rfl
      obtain ⟨tp, p, hev⟩ := herr
      have hc : Calls Tryz.prog 92 #[.string s] w fun e w' => ∃ N, e = .returned (.tuple #[.int .i64 0, .iface 144 (.pointer (some ⟨N, 0, none⟩))]) ∧ Below w.heap.size w w' :=
        (Tryz.strconv_Atoi_err s hs18 (by rw [show s.data.toList = l from hs]; exact ha) _ w hev (.inr ⟨tp, p, rfl⟩)).mono fun e w' ⟨N, h1, _, _, h2⟩ => ⟨N, h1, h2⟩
      clear ha hs hls hle htab hev
      go_enter Tryz.func78, Tryz.ntmps78
      go_wp2_with fail
      refine (hct _).mono ?_
      rintro e w' ⟨rfl, rfl⟩
      go_wp2_with fail
      refine hc.mono ?_
      rintro e w1 ⟨N, rfl, hB⟩
      go_wp2
      go_ret2
      exact numRet_none HN.out hB
    | some n =>
      have hbd := Lib.atoi_bound ha (by omega)
      obtain ⟨n1, n2⟩ := hbd
      have hc : Calls Tryz.prog 92 #[.string s] w fun e w' => e = .returned (.tuple #[.int .i64 n, .nilIface]) ∧ Below w.heap.size w w' :=
        (Tryz.strconv_Atoi s n hs18 (by rw [show s.data.toList = l from hs]; exact ha) w).mono fun e w' ⟨h1, t, h2⟩ => ⟨h1, by rw [h2]; exact Lib.bytesWorld_below _ _ _⟩
      by_cases hq : Lib.itoa n = l
      · have HN : Hid (numP l = some n) := by show _ = _; unfold numP; rw [if_pos hle, ha]; simp [hq]
        have HQ : Hid (Lib.itoa n = l) := hq
        clear ha hs hls hle hq
        go_enter Tryz.func78, Tryz.ntmps78
        go_wp2_with fail
        refine (hct _).mono ?_
        rintro e w' ⟨rfl, rfl⟩
        go_wp2_with fail
        refine hc.mono ?_
        rintro e w1 ⟨rfl, hB⟩
        go_wp2_with fail
        refine (c_Itoa n _ (htab.below hB) (by omega) (by omega)).mono ?_
        rintro e w2 ⟨Y, rfl, hY, hB2⟩
        rw [HQ.out] at hY
        obtain rfl : Y = s := hY.inj HS.out
        have hA := bthen hB hB2
        clear hY hB hB2 hc hct
        go_wp2
        go_ret2
        exact numRet_some HN.out hA
      · have HN : Hid (numP l = none) := by show _ = _; unfold numP; rw [if_pos hle, ha]; simp [hq]
        have HQ : Hid (Lib.itoa n ≠ l) := hq
        clear ha hs hls hle hq
        go_enter Tryz.func78, Tryz.ntmps78
        go_wp2_with fail
        refine (hct _).mono ?_
        rintro e w' ⟨rfl, rfl⟩
        go_wp2_with fail
        refine hc.mono ?_
        rintro e w1 ⟨rfl, hB⟩
        go_wp2_with fail
        refine (c_Itoa n _ (htab.below hB) (by omega) (by omega)).mono ?_
        rintro e w2 ⟨Y, rfl, hY, hB2⟩
        have hne : Y ≠ s := by
          intro e
          apply HQ.out
          rw [e] at hY
          exact hY.symm.trans HS.out
        have hbe := str_bne hne
        have hA := bthen hB hB2
        clear hY hB hB2 hc hct hne
        go_wp2
        go_ret2
        exact numRet_none HN.out hA

theorem head_at {T : ByteArray} {Tl : List UInt8} (h : IsS T Tl) (h0 : 0 < T.size) : Tl.head? = some T[0] := by
  have hl : 0 < Tl.length := by rw [← h.size]; exact h0
  rw [h.at_ h0 hl]
  cases Tl with
  | nil => simp at hl
  | cons a l => rfl
/-- the ways of the reference at the digits T behind a sign (neg) -/
theorem num_ways {T : ByteArray} {Tl l : List UInt8} {neg : Bool} {f : Nat → Int} (hT : IsS T Tl) (hN : numP l = if okDig Tl neg = true then (Lib.decFrom 0 Tl).map f else none) :
    (T.size = 0 ∧ Hid (numP l = none)) ∨ (0 < T.size ∧ (17 : Int) < (T.size : Int) ∧ Hid (numP l = none)) ∨
    (∃ k0 : 0 < T.size, ¬ (17 : Int) < (T.size : Int) ∧ ((T[0].toNat : Int) == 48) = true ∧ ((1 : Int) < (T.size : Int) ∨ (¬ (1 : Int) < (T.size : Int) ∧ neg = true)) ∧ Hid (numP l = none)) ∨
    (∃ k0 : 0 < T.size, ¬ (17 : Int) < (T.size : Int) ∧ (((T[0].toNat : Int) == 48) = false ∨ (((T[0].toNat : Int) == 48) = true ∧ ¬ (1 : Int) < (T.size : Int) ∧ neg = false)) ∧ Hid (numP l = (Lib.decFrom 0 Tl).map f)) := by
  have hs := hT.size
  by_cases h0 : T.size = 0
  · refine .inl ⟨h0, ?_⟩
    have : Tl = [] := List.eq_nil_of_length_eq_zero (by omega)
    show _ = _
    rw [hN, this]
    rfl
  · have k0 : 0 < T.size := by omega
    have hne : Tl ≠ [] := by intro e; rw [e, List.length_nil] at hs; omega
    have hh := head_at hT k0
    have hbt : ((T[0].toNat : Int) == 48) = decide (Tl.head? = some 48) := by
      rw [hh]
      rw [Bool.eq_iff_iff]
      simp only [beq_iff_eq, decide_eq_true_eq, Option.some.injEq]
      constructor
      · intro h; apply UInt8.toNat_inj.1; exact Int.ofNat.inj h
      · intro h; rw [h]; rfl
    by_cases h17 : 17 < T.size
    · refine .inr (.inl ⟨k0, by omega, ?_⟩)
      show _ = _
      rw [hN, if_neg]
      unfold okDig
      rw [decide_eq_false (show ¬ Tl.length ≤ 17 by omega)]
      simp
    · by_cases hz : Tl.head? = some 48
      · by_cases h1 : 1 < T.size ∨ neg = true
        · refine .inr (.inr (.inl ⟨k0, by omega, by rw [hbt, decide_eq_true hz], ?_, ?_⟩))
          · by_cases h2 : 1 < T.size
            · exact .inl (by omega)
            · exact .inr ⟨by omega, h1.resolve_left h2⟩
          · show _ = _
            rw [hN, if_neg]
            unfold okDig
            rw [decide_eq_true hz]
            rcases h1 with h1 | h1
            · rw [decide_eq_true (show 1 < Tl.length by omega)]; simp
            · rw [h1]; simp
        · have hneg : neg = false := by cases neg with
            | false => rfl
            | true => exact absurd (.inr rfl) h1
          have h2 : ¬ 1 < T.size := fun q => h1 (.inl q)
          refine .inr (.inr (.inr ⟨k0, by omega, .inr ⟨by rw [hbt, decide_eq_true hz], by omega, hneg⟩, ?_⟩))
          show _ = _
          rw [hN, if_pos]
          unfold okDig
          rw [decide_eq_true hne, decide_eq_true (show Tl.length ≤ 17 by omega), decide_eq_false (show ¬ 1 < Tl.length by omega), hneg]
          simp
      · refine .inr (.inr (.inr ⟨k0, by omega, .inl (by rw [hbt, decide_eq_false hz]), ?_⟩))
        show _ = _
        rw [hN, if_pos]
        unfold okDig
        rw [decide_eq_true hne, decide_eq_true (show Tl.length ≤ 17 by omega), decide_eq_false hz]
        simp

set_option maxRecDepth 20000 in
set_option maxHeartbeats 3200000 in
theorem c_l9Num_plain (T : ByteArray) (Tl l : List UInt8) (hT : IsS T Tl) (hl : Tl = l) (h45 : Tl.head? ≠ some 45) (w : World) (hsz : T.size ≤ 9223372036854775807) :
    Calls Tryz.prog 58 #[.string T] w (NumRet l w) := by
  have hN : numP l = if okDig Tl false = true then (Lib.decFrom 0 Tl).map (fun (m : Nat) => (m : Int)) else none := by rw [← hl]; exact numP_plain h45
  have h45' : ∀ k0 : 0 < T.size, ((T[0].toNat : Int) == 45) = false := by
    intro k0
    rw [beq_eq_false_iff_ne]
    intro e
    apply h45
    rw [head_at hT k0]
    congr 1
    apply UInt8.toNat_inj.1
    show T[0].toNat = 45
    omega
  have H45 := Lib.hid h45'
  clear h45 h45' hl
  have HT : Hid (IsS T Tl) := hT
  rcases num_ways hT hN with ⟨k0, HN⟩ | ⟨k0, k1, HN⟩ | ⟨k0, k1, k2, k3, HN⟩ | ⟨k0, k1, k2, HK⟩
  · have e0 : ((T.size : Int) == 0) = true := beq_iff_eq.2 (by omega)
    have z1 : ¬ (0 : Int) < (T.size : Int) := by omega
    clear k0 hN hT
    go_enter Tryz.func58, Tryz.ntmps58
    go_wp2
    go_ret2
    exact numRet_none HN.out (Below.refl _ _)
  · have e0 : ((T.size : Int) == 0) = false := beq_eq_false_iff_ne.2 (by omega)
    have z1 : (0 : Int) < (T.size : Int) := by omega
    have z2 := H45.out k0
    clear hN hT
    go_enter Tryz.func58, Tryz.ntmps58
    go_wp2
    go_ret2
    exact numRet_none HN.out (Below.refl _ _)
  · have e0 : ((T.size : Int) == 0) = false := beq_eq_false_iff_ne.2 (by omega)
    have hT17 : T.size ≤ 17 := by omega
    have z1 : (0 : Int) < (T.size : Int) := by omega
    have z2 := H45.out k0
    clear hN hT
    rcases k3 with k3 | ⟨k3, k4⟩
    · go_enter Tryz.func58, Tryz.ntmps58
      go_wp2
      go_ret2
      exact numRet_none HN.out (Below.refl _ _)
    · exact absurd k4 (by decide)
  · have e0 : ((T.size : Int) == 0) = false := beq_eq_false_iff_ne.2 (by omega)
    have hT17 : T.size ≤ 17 := by omega
    have z1 : (0 : Int) < (T.size : Int) := by omega
    have z2 := H45.out k0
    clear hN hT
    rcases k2 with k2 | ⟨k2, k3, k4⟩
    · go_enter Tryz.func58, Tryz.ntmps58
      go_wp2
      go_loop [5, 6] (fun n i => ∃ k m : Nat, k ≤ T.size ∧ i = .int .i64 k ∧ n = .int .i64 m ∧ Lib.decFrom 0 (Tl.take k) = some m) (fun _ i => T.size - (intOf i).toNat)
      case atStart => exact ⟨0, 0, by omega, rfl, rfl, rfl⟩
      case round =>
        obtain ⟨k, m, hk, rfl, rfl, hd⟩ := hrel
        have hm := Lib.decFrom_take_lt hd (by omega)
        have HD : Hid (Lib.decFrom 0 (Tl.take k) = some m) := hd
        clear hd
        by_cases hlt : k < T.size
        · have hltl : k < Tl.length := by rw [← HT.out.size]; exact hlt
          have hat : T[k] = Tl[k] := HT.out.at_ hlt hltl
          by_cases hb : 48 ≤ T[k].toNat ∧ T[k].toNat ≤ 57
          · obtain ⟨b1, b2⟩ := hb
            have hv : Lib.digitVal Tl[k] = some (T[k].toNat - 48) := by unfold Lib.digitVal; rw [← hat, if_pos ⟨b1, b2⟩]
            have HX : Hid (Lib.decFrom 0 (Tl.take (k + 1)) = some (m * 10 + (T[k].toNat - 48))) := Lib.decFrom_take Tl k 0 m Tl[k] _ HD.out (List.getElem?_eq_getElem hltl) hv
            have c1 : 48 ≤ (T[k].toNat : Int) := by omega
            have c2 : (T[k].toNat : Int) ≤ 57 := by omega
            have HC : Hid (((m * 10 + (T[k].toNat - 48) : Nat) : Int) = (m : Int) * 10 + ((T[k].toNat : Int) - 48)) := by show _ = _; omega
            clear hat hv b1 b2 hltl
            go_wp2
            go_round
            case rel => exact ⟨k + 1, m * 10 + (T[k].toNat - 48), by omega, by go_num, by rw [HC.out], HX.out⟩
            case measure => simp [intOf]; omega
          · have HF : Hid (numP l = none) := by
              show _ = _
              rw [HK.out]
              cases hdn : Lib.decFrom 0 Tl with
              | none => rfl
              | some q =>
                exfalso
                obtain ⟨d, hd⟩ := Lib.digit_of_decFrom Tl 0 q hdn k _ (List.getElem?_eq_getElem hltl)
                obtain ⟨_, _, h1, h2, _⟩ := digitVal_some hd
                rw [← hat] at h1 h2
                exact hb ⟨h1, h2⟩
            have hb2 : (T[k].toNat : Int) < 48 ∨ 48 ≤ (T[k].toNat : Int) ∧ 57 < (T[k].toNat : Int) := by omega
            clear hat hb hltl
            rcases hb2 with hb2 | ⟨hb2, hb3⟩
            all_goals
              go_wp2
              go_ret2
              exact numRet_none HF.out (Below.refl _ _)
        · have HF : Hid (numP l = some ((m : Int))) := by
            have h := HD.out
            rw [List.take_of_length_le (by rw [← HT.out.size]; omega)] at h
            show _ = _
            rw [HK.out, h]
            rfl
          go_wp2
          go_ret2
          exact numRet_some HF.out (Below.refl _ _)
    · clear k4
      go_enter Tryz.func58, Tryz.ntmps58
      go_wp2
      go_loop [5, 6] (fun n i => ∃ k m : Nat, k ≤ T.size ∧ i = .int .i64 k ∧ n = .int .i64 m ∧ Lib.decFrom 0 (Tl.take k) = some m) (fun _ i => T.size - (intOf i).toNat)
      case atStart => exact ⟨0, 0, by omega, rfl, rfl, rfl⟩
      case round =>
        obtain ⟨k, m, hk, rfl, rfl, hd⟩ := hrel
        have hm := Lib.decFrom_take_lt hd (by omega)
        have HD : Hid (Lib.decFrom 0 (Tl.take k) = some m) := hd
        clear hd
        by_cases hlt : k < T.size
        · have hltl : k < Tl.length := by rw [← HT.out.size]; exact hlt
          have hat : T[k] = Tl[k] := HT.out.at_ hlt hltl
          by_cases hb : 48 ≤ T[k].toNat ∧ T[k].toNat ≤ 57
          · obtain ⟨b1, b2⟩ := hb
            have hv : Lib.digitVal Tl[k] = some (T[k].toNat - 48) := by unfold Lib.digitVal; rw [← hat, if_pos ⟨b1, b2⟩]
            have HX : Hid (Lib.decFrom 0 (Tl.take (k + 1)) = some (m * 10 + (T[k].toNat - 48))) := Lib.decFrom_take Tl k 0 m Tl[k] _ HD.out (List.getElem?_eq_getElem hltl) hv
            have c1 : 48 ≤ (T[k].toNat : Int) := by omega
            have c2 : (T[k].toNat : Int) ≤ 57 := by omega
            have HC : Hid (((m * 10 + (T[k].toNat - 48) : Nat) : Int) = (m : Int) * 10 + ((T[k].toNat : Int) - 48)) := by show _ = _; omega
            clear hat hv b1 b2 hltl
            go_wp2
            go_round
            case rel => exact ⟨k + 1, m * 10 + (T[k].toNat - 48), by omega, by go_num, by rw [HC.out], HX.out⟩
            case measure => simp [intOf]; omega
          · have HF : Hid (numP l = none) := by
              show _ = _
              rw [HK.out]
              cases hdn : Lib.decFrom 0 Tl with
              | none => rfl
              | some q =>
                exfalso
                obtain ⟨d, hd⟩ := Lib.digit_of_decFrom Tl 0 q hdn k _ (List.getElem?_eq_getElem hltl)
                obtain ⟨_, _, h1, h2, _⟩ := digitVal_some hd
                rw [← hat] at h1 h2
                exact hb ⟨h1, h2⟩
            have hb2 : (T[k].toNat : Int) < 48 ∨ 48 ≤ (T[k].toNat : Int) ∧ 57 < (T[k].toNat : Int) := by omega
            clear hat hb hltl
            rcases hb2 with hb2 | ⟨hb2, hb3⟩
            all_goals
              go_wp2
              go_ret2
              exact numRet_none HF.out (Below.refl _ _)
        · have HF : Hid (numP l = some ((m : Int))) := by
            have h := HD.out
            rw [List.take_of_length_le (by rw [← HT.out.size]; omega)] at h
            show _ = _
            rw [HK.out, h]
            rfl
          go_wp2
          go_ret2
          exact numRet_some HF.out (Below.refl _ _)
set_option maxRecDepth 20000 in
set_option maxHeartbeats 3200000 in
theorem c_l9Num_minus (s : ByteArray) (Tl l : List UInt8) (hs : IsS s l) (hl : l = 45 :: Tl) (w : World) (hsz : s.size ≤ 9223372036854775807) :
    Calls Tryz.prog 58 #[.string s] w (NumRet l w) := by
  have hN : numP l = if okDig Tl true = true then (Lib.decFrom 0 Tl).map (fun (m : Nat) => -(m : Int)) else none := by rw [hl]; exact numP_minus Tl
  have hss := hs.size
  rw [hl, List.length_cons] at hss
  have y0 : 0 < s.size := by omega
  have y1 : (0 : Int) < (s.size : Int) := by omega
  have y2 : ((s[0].toNat : Int) == 45) = true := by
    have h := head_at hs y0
    rw [hl] at h
    simp only [List.head?_cons, Option.some.injEq] at h
    rw [← h]; rfl
  obtain ⟨T, g3, hTs, hT⟩ := slice_fromT s 1 (by omega)
  rw [show ((1 : Nat) : Int) = 1 from rfl] at g3
  rw [show s.data.toList = l from hs, hl] at hT
  replace hT : IsS T Tl := hT
  clear hl hs hss
  have HT : Hid (IsS T Tl) := hT
  rcases num_ways hT hN with ⟨k0, HN⟩ | ⟨k0, k1, HN⟩ | ⟨k0, k1, k2, k3, HN⟩ | ⟨k0, k1, k2, HK⟩
  · have e0 : ((T.size : Int) == 0) = true := beq_iff_eq.2 (by omega)
    skip
    clear k0 hN hT
    go_enter Tryz.func58, Tryz.ntmps58
    go_wp2
    go_ret2
    exact numRet_none HN.out (Below.refl _ _)
  · have e0 : ((T.size : Int) == 0) = false := beq_eq_false_iff_ne.2 (by omega)
    skip
    clear hN hT
    go_enter Tryz.func58, Tryz.ntmps58
    go_wp2
    go_ret2
    exact numRet_none HN.out (Below.refl _ _)
  · have e0 : ((T.size : Int) == 0) = false := beq_eq_false_iff_ne.2 (by omega)
    have hT17 : T.size ≤ 17 := by omega
    skip
    clear hN hT
    rcases k3 with k3 | ⟨k3, k4⟩
    · go_enter Tryz.func58, Tryz.ntmps58
      go_wp2
      go_ret2
      exact numRet_none HN.out (Below.refl _ _)
    · clear k4
      go_enter Tryz.func58, Tryz.ntmps58
      go_wp2
      go_ret2
      exact numRet_none HN.out (Below.refl _ _)
  · have e0 : ((T.size : Int) == 0) = false := beq_eq_false_iff_ne.2 (by omega)
    have hT17 : T.size ≤ 17 := by omega
    skip
    clear hN hT
    rcases k2 with k2 | ⟨k2, k3, k4⟩
    · go_enter Tryz.func58, Tryz.ntmps58
      go_wp2
      go_loop [5, 6] (fun n i => ∃ k m : Nat, k ≤ T.size ∧ i = .int .i64 k ∧ n = .int .i64 m ∧ Lib.decFrom 0 (Tl.take k) = some m) (fun _ i => T.size - (intOf i).toNat)
      case atStart => exact ⟨0, 0, by omega, rfl, rfl, rfl⟩
      case round =>
        obtain ⟨k, m, hk, rfl, rfl, hd⟩ := hrel
        have hm := Lib.decFrom_take_lt hd (by omega)
        have HD : Hid (Lib.decFrom 0 (Tl.take k) = some m) := hd
        clear hd
        by_cases hlt : k < T.size
        · have hltl : k < Tl.length := by rw [← HT.out.size]; exact hlt
          have hat : T[k] = Tl[k] := HT.out.at_ hlt hltl
          by_cases hb : 48 ≤ T[k].toNat ∧ T[k].toNat ≤ 57
          · obtain ⟨b1, b2⟩ := hb
            have hv : Lib.digitVal Tl[k] = some (T[k].toNat - 48) := by unfold Lib.digitVal; rw [← hat, if_pos ⟨b1, b2⟩]
            have HX : Hid (Lib.decFrom 0 (Tl.take (k + 1)) = some (m * 10 + (T[k].toNat - 48))) := Lib.decFrom_take Tl k 0 m Tl[k] _ HD.out (List.getElem?_eq_getElem hltl) hv
            have c1 : 48 ≤ (T[k].toNat : Int) := by omega
            have c2 : (T[k].toNat : Int) ≤ 57 := by omega
            have HC : Hid (((m * 10 + (T[k].toNat - 48) : Nat) : Int) = (m : Int) * 10 + ((T[k].toNat : Int) - 48)) := by show _ = _; omega
            clear hat hv b1 b2 hltl
            go_wp2
            go_round
            case rel => exact ⟨k + 1, m * 10 + (T[k].toNat - 48), by omega, by go_num, by rw [HC.out], HX.out⟩
            case measure => simp [intOf]; omega
          · have HF : Hid (numP l = none) := by
              show _ = _
              rw [HK.out]
              cases hdn : Lib.decFrom 0 Tl with
              | none => rfl
              | some q =>
                exfalso
                obtain ⟨d, hd⟩ := Lib.digit_of_decFrom Tl 0 q hdn k _ (List.getElem?_eq_getElem hltl)
                obtain ⟨_, _, h1, h2, _⟩ := digitVal_some hd
                rw [← hat] at h1 h2
                exact hb ⟨h1, h2⟩
            have hb2 : (T[k].toNat : Int) < 48 ∨ 48 ≤ (T[k].toNat : Int) ∧ 57 < (T[k].toNat : Int) := by omega
            clear hat hb hltl
            rcases hb2 with hb2 | ⟨hb2, hb3⟩
            all_goals
              go_wp2
              go_ret2
              exact numRet_none HF.out (Below.refl _ _)
        · have HF : Hid (numP l = some (-(m : Int))) := by
            have h := HD.out
            rw [List.take_of_length_le (by rw [← HT.out.size]; omega)] at h
            show _ = _
            rw [HK.out, h]
            rfl
          go_wp2
          go_ret2
          exact numRet_some HF.out (Below.refl _ _)
    · exact absurd k4 (by decide)
theorem c_l9Num (s : ByteArray) (l : List UInt8) (hs : IsS s l) (w : World) (hsz : s.size ≤ 9223372036854775807) :
    Calls Tryz.prog 58 #[.string s] w (NumRet l w) := by
  by_cases h : l.head? = some 45
  · cases l with
    | nil => cases h
    | cons c Tl =>
      simp only [List.head?_cons, Option.some.injEq] at h
      exact c_l9Num_minus s Tl _ hs (by rw [h]) w hsz
  · exact c_l9Num_plain s l l hs rfl h w hsz
end Go.Proofs.YtdgnhplaakjlgaaGreatDoor
