/- Lemmas and contracts for ReadPage (Rp3 Rp4 Rp5): plain words on memory, contracts of the functions that the law reaches. No condition but what each states. -/
import Derived.Test.YtdgnhplaakjlgaaGreatDoorRp2
import Derived.Test.YtdgnhplaakjlgaaGreatDoorSlEq
import Derived.Test.YtdgnhplaakjlgaaGreatDoorPg5
namespace Go.Proofs.YtdgnhplaakjlgaaGreatDoor
set_option linter.unusedVariables false
open Go.RowKit

def rowK (L : List UInt8) (C k : Nat) : List Int := (List.range k).map fun i => cellV L C i
theorem rowK_succ (L : List UInt8) (C k : Nat) : rowK L C (k + 1) = rowK L C k ++ [cellV L C k] := by
  unfold rowK; rw [List.range_succ, List.map_append]; rfl
theorem rowK_len (L : List UInt8) (C k : Nat) : (rowK L C k).length = k := by simp [rowK]
def rowF (L : List UInt8) (C : Nat) : List Int := if rowB L C = true then rowV L C else []
theorem row_bad {L : List UInt8} {C k : Nat} (hk : k < rowM L C) (h : cellNum L C k = none) : rowB L C = false := by
  unfold rowB
  rw [Bool.and_eq_false_iff]
  right
  rw [List.all_eq_false]
  exact ⟨k, List.mem_range.2 hk, by rw [h]; simp⟩

set_option maxRecDepth 20000 in
set_option maxHeartbeats 1600000 in
theorem c_readLine (R A C : Nat) (y : ByteArray) (w : World) (htab : TabW w) (herr : ErrW w) (hsz : y.size ≤ 1048576) (hl : layB R A C = true) :
    Calls Tryz.prog 57 #[(.agg #[.int .i64 (R : Int), .int .i64 (A : Int), .int .i64 (C : Int)]), .string y] w (FreshIB w (rowF y.data.toList C) (rowB y.data.toList C)) := by
  obtain ⟨l1, l2, l3, l4, l5, l6, l7, l8⟩ := lay_mul hl
  have hr0 : ((C : Int) + 1 = 0) = False := eq_false (by omega)
  have hdm := Nat.div_add_mod (y.size + 1) (C + 1)
  have hsd := size_data y
  have hM : rowM y.data.toList C = (y.size + 1) / (C + 1) := by unfold rowM; rw [hsd]
  have hmod : ((y.size : Int) + 1) % ((C : Int) + 1) = (((y.size + 1) % (C + 1) : Nat) : Int) := by simp
  have hmod0 := Nat.zero_le ((y.size + 1) % (C + 1))
  obtain ⟨ρ, hρ⟩ : ∃ ρ, (y.size + 1) % (C + 1) = ρ := ⟨_, rfl⟩
  rw [hρ] at hdm hmod hmod0
  clear hl l7 l8
  by_cases h0 : ρ = 0
  · subst h0
    obtain ⟨m, hm⟩ : ∃ m, (y.size + 1) / (C + 1) = m := ⟨_, rfl⟩
    rw [hm] at hM hdm
    have hdm : m * (C + 1) = y.size + 1 := by rw [Nat.mul_comm]; exact hdm
    have e0 : (((y.size : Int) + 1) % ((C : Int) + 1) != 0) = false := by rw [hmod]; rfl
    obtain ⟨B, hb⟩ : ∃ B, rowB y.data.toList C = B := ⟨_, rfl⟩
    obtain ⟨F, hf⟩ : ∃ F, rowF y.data.toList C = F := ⟨_, rfl⟩
    have HE : Hid (rowB y.data.toList C = B ∧ rowF y.data.toList C = F ∧ rowM y.data.toList C = m ∧ (y.size + 1) % (C + 1) = 0) := ⟨hb, hf, hM, hρ⟩
    rw [hb, hf]
    have HDM := Lib.hid hdm
    have HD : Hid (y.data.toList.length = y.size) := hsd
    clear hb hf hM hρ hmod hmod0 hdm hm hsd
    go_enter Tryz.func57, Tryz.ntmps57
    go_wp2
    go_loopw [6, 7] (fun o i wr => ∃ k t : Nat, k ≤ m ∧ Hid (k * (C + 1) = t) ∧ t ≤ 1048577 ∧ i = .int .i64 t ∧ OwnI wr (w.heap.size + 1) o (rowK y.data.toList C k) ∧ Hid ((List.range k).all (fun i => (cellNum y.data.toList C i).isSome) = true) ∧ Below (w.heap.size + 1) (w.alloc (.cells #[(.int .i64 ((R : Int))), (.int .i64 ((A : Int))), (.int .i64 ((C : Int)))] 24)) wr) (fun _ i _ => 2000000 - (intOf i).toNat)
    case atStart => exact ⟨0, 0, by omega, Nat.zero_mul _, by omega, rfl, OwnI_nil _ _, rfl, Below.refl _ _⟩
    case round =>
      obtain ⟨k, t, hk, HT, ht, rfl, ho, HK, hB⟩ := hrel
      have hBA : Below w.heap.size w wr := ((Below.refl _ _).alloc (Nat.le_refl _) _).trans (hB.mono (by omega))
      have c2 : wr.cell? ⟨w.heap.size, 2, none⟩ = some (.int .i64 ((C : Int))) := by rw [hB.cell (p := ⟨w.heap.size, 2, none⟩) (Nat.lt_succ_self _)]; simp [go_sem]
      have hzr : w.heap.size < wr.heap.size := by have := hB.size; simp at this; omega
      by_cases hkm : k < m
      · have hfit : t + C + 1 ≤ y.size + 1 := by
          have h1 := Nat.mul_le_mul_right (C + 1) (show k + 1 ≤ m by omega)
          rw [Nat.add_mul] at h1
          have h2 := HT.out
          have h3 := HDM.out
          omega
        have hlt : t < y.size := by omega
        have i4 : (t : Int) + (C : Int) ≤ (y.size : Int) := by omega
        have i5 : (t : Int) ≤ (t : Int) + (C : Int) := by omega
        have i7 : ((t : Int) + (C : Int)).toNat = t + C := by omega
        have hT0 : IsS (y.extract t (t + C)) ((y.data.toList.drop t).take C) := by
          have h := (IsS.self y).ext t (t + C)
          rwa [show t + C - t = C by omega] at h
        obtain ⟨T0, hT0e⟩ : ∃ T0, y.extract t (t + C) = T0 := ⟨_, rfl⟩
        have hT0s : T0.size ≤ 12 := by rw [← hT0e, ByteArray.size_extract]; omega
        have hct := fun W => c_TrimLeft T0 W
        rw [hT0e] at hT0
        have hnum : cellNum y.data.toList C k = numP (Lib.trimLeftB T0.data.toList 32) := by
          unfold cellNum; rw [HT.out, show T0.data.toList = _ from hT0]
        clear hT0
        go_wp2_with fail
        refine (hct _).mono ?_
        rintro e w' ⟨U, rfl, hU, rfl⟩
        have hUs : U.size ≤ 12 := by
          rw [hU.size]
          have : (Lib.trimLeftB T0.data.toList 32).length ≤ T0.data.toList.length := by unfold Lib.trimLeftB; exact (List.dropWhile_sublist _).length_le
          rw [size_data] at this
          omega
        have hp := c_parseNumber U _ hU wr (htab.below hBA) (herr.below hBA) (by omega)
        unfold NumRet at hp
        rw [← hnum] at hp
        clear hct hT0e hU i4 i5 i7 hnum hBA
        cases hn : cellNum y.data.toList C k with
        | none =>
          have HB : Hid (B = false ∧ F = []) := by
            have h1 : B = false := by rw [← HE.out.1]; exact row_bad (by rw [HE.out.2.2.1]; exact hkm) hn
            refine ⟨h1, ?_⟩
            rw [← HE.out.2.1]; unfold rowF; rw [HE.out.1, h1]; rfl
          rw [hn] at hp
          replace hp : Calls Tryz.prog 78 #[.string U] wr fun e w' => e = .returned (.tuple #[.int .i64 0, .bool false]) ∧ Below wr.heap.size wr w' := hp
          clear hn
          go_wp2_with fail
          refine hp.mono ?_
          rintro e w5 ⟨rfl, hB5⟩
          have hF : Below w.heap.size w w5 := ((Below.refl _ _).alloc (Nat.le_refl _) _).trans ((hB.trans (hB5.mono (by omega))).mono (by omega))
          clear hp hB5 ho hB c2
          go_wp2
          go_ret2
          exact ⟨_, by rw [HB.out.1]; rfl, by rw [HB.out.2]; exact OwnI_nil _ _, hF⟩
        | some n =>
          have HK2 : Hid ((List.range (k + 1)).all (fun i => (cellNum y.data.toList C i).isSome) = true) := by
            show _ = _
            rw [List.range_succ, List.all_append, HK.out]
            simp [hn]
          have hR := rowK_succ y.data.toList C k
          have hcv : cellV y.data.toList C k = n := by unfold cellV; rw [hn]; rfl
          rw [hcv] at hR
          rw [hn] at hp
          replace hp : Calls Tryz.prog 78 #[.string U] wr fun e w' => e = .returned (.tuple #[.int .i64 n, .bool true]) ∧ Below wr.heap.size wr w' := hp
          have hlen := rowK_len y.data.toList C k
          obtain ⟨L, hL⟩ : ∃ L, rowK y.data.toList C k = L := ⟨_, rfl⟩
          rw [hL] at hR hlen ho
          have HR := Lib.hid hR
          have hm9 : m ≤ 1048577 := by
            have h1 := Nat.mul_le_mul_left m (show 1 ≤ C + 1 by omega)
            have h3 := HDM.out
            omega
          have HL : Hid (L.length = k) := hlen
          have hLl : L.length ≤ 1048577 := by omega
          clear hn hcv hR hL hlen
          go_wp2_with fail
          refine hp.mono ?_
          rintro e w5 ⟨rfl, hB5⟩
          replace ho := ownsRow_kept_below ho hB5
          replace hB := hB.trans (hB5.mono (by omega))
          have hBs : w.heap.size + 1 ≤ w5.heap.size := by have := hB.size; simp at this; omega
          have c3 : w5.cell? ⟨w.heap.size, 2, none⟩ = some (.int .i64 ((C : Int))) := by rw [(bcell hB5).1 _ _ hzr]; exact c2
          unfold OwnI at ho
          clear hp hB5 c2
          go_wp2_with (first | (at_builtin; refine app1 28 3 Tryz.underlying28 infoInt rfl (by decide) rfl _ _ rfl (w.heap.size + 1) _ _ _ rfl ho rfl rfl ?c1 ?c2 ?_))
          case c1 => omega
          case c2 => exact hBs
          intro v' w6 ho6 hg6
          have hB6 := hB.grown hg6 hBs (fun j hj => (ho.lt j hj).1)
          have d2 : w6.cell? ⟨w.heap.size, 2, none⟩ = some (.int .i64 ((C : Int))) := by rw [hB6.cell (p := ⟨w.heap.size, 2, none⟩) (Nat.lt_succ_self _)]; simp [go_sem]
          have HO : Hid (OwnI w6 (w.heap.size + 1) v' (rowK y.data.toList C (k + 1)) ∧ Below (w.heap.size + 1) (w.alloc (.cells #[(.int .i64 ((R : Int))), (.int .i64 ((A : Int))), (.int .i64 ((C : Int)))] 24)) w6) := ⟨by rw [HR.out]; exact OwnI_snoc' rfl ho6, hB6⟩
          clear ho ho6 hg6 hB hB6 c3
          go_wp2
          go_roundw
          case rel => exact ⟨k + 1, t + (C + 1), by omega, by have := HT.out; show _ = _; rw [Nat.add_mul]; omega, by omega, by go_num, HO.out.1, HK2, HO.out.2⟩
          case measure => simp [intOf]; omega
      · have hlt : ¬ t < y.size := by
          have h2 := HT.out
          have h3 := HDM.out
          have h4 : k = m := by omega
          rw [h4] at h2
          omega
        have HB : Hid (B = true ∧ OwnI wr w.heap.size u6 F ∧ Below w.heap.size w wr) := by
          have h4 : k = m := by omega
          have h1 : B = true := by
            rw [← HE.out.1]
            unfold rowB
            rw [HD.out, HE.out.2.2.2, HE.out.2.2.1, ← h4, HK.out]
            rfl
          refine ⟨h1, ?_, hBA⟩
          have hF : F = rowK y.data.toList C k := by
            rw [← HE.out.2.1]; unfold rowF; rw [HE.out.1, h1, if_pos rfl]; unfold rowV rowK; rw [HE.out.2.2.1, h4]
          rw [hF]
          exact ownsRow_mono ho (by omega)
        clear ho hB c2 hBA
        go_wp2
        go_ret2
        exact ⟨_, by rw [HB.out.1]; rfl, HB.out.2.1, HB.out.2.2⟩
  · have hb : rowB y.data.toList C = false := by
      unfold rowB; rw [hsd, hρ, decide_eq_false h0]; rfl
    have hf : rowF y.data.toList C = [] := by unfold rowF; rw [hb]; rfl
    have e0 : (((y.size : Int) + 1) % ((C : Int) + 1) != 0) = true := by rw [hmod, bne_iff_ne]; omega
    rw [hb, hf]
    clear hb hf hM hmod hmod0 hρ h0 hdm hsd
    go_enter Tryz.func57, Tryz.ntmps57
    go_wp2
    go_ret2
    exact ⟨_, rfl, OwnI_nil _ _, (Below.refl _ _).alloc (Nat.le_refl _) _⟩
end Go.Proofs.YtdgnhplaakjlgaaGreatDoor

namespace Go.Proofs.YtdgnhplaakjlgaaGreatDoor
set_option linter.unusedVariables false
open Go.RowKit

theorem infoSl : (Tryz.prog.info? 28).map (fun i => (i.zero, i.size, i.bytes)) = some (some (.slice none 0 0), 1, 24) := by kernel_rfl
def noV : Value := .slice none 0 0
/-- the rows read so far, and what is not yet set -/
def rowsV (vs : List Value) (n : Nat) : List Value := vs ++ List.replicate (n - vs.length) noV
theorem rowsV_nil (n : Nat) : rowsV [] n = List.replicate n noV := by simp [rowsV]
theorem rowsV_set (vs : List Value) (n : Nat) (u : Value) (h : vs.length < n) : (rowsV vs n).set vs.length u = rowsV (vs ++ [u]) n := by
  unfold rowsV
  rw [List.set_append_right _ _ (Nat.le_refl _), Nat.sub_self]
  obtain ⟨m, hm⟩ : ∃ m, n - vs.length = m + 1 := ⟨n - vs.length - 1, by omega⟩
  rw [hm, List.replicate_succ, List.set_cons_zero, List.length_append, List.length_singleton, show n - (vs.length + 1) = m by omega]
  simp
theorem rowsV_len (vs : List Value) (n : Nat) (h : vs.length ≤ n) : (rowsV vs n).length = n := by simp [rowsV]; omega
theorem rowsV_end (vs : List Value) : rowsV vs vs.length = vs := by simp [rowsV]
def rdY (C A : Nat) (y : ByteArray) : Bool := rowB y.data.toList C && decide (rowM y.data.toList C ≤ A)
def rdA (ys : List ByteArray) (C A k : Nat) : Bool := (ys.take k).all (rdY C A)
theorem rdA_succ {ys : List ByteArray} {C A k : Nat} (h : k < ys.length) : rdA ys C A (k + 1) = (rdA ys C A k && rdY C A (ys.getD k noS)) := by
  unfold rdA
  rw [List.take_succ_eq_append_getElem h, List.all_append]
  simp [List.getD, h]
theorem rdA_bad {ys : List ByteArray} {C R A k : Nat} (h : k < ys.length) (hb : rdY C A (ys.getD k noS) = false) : rdB ys C R A = false := by
  unfold rdB
  rw [Bool.and_eq_false_iff]
  right
  rw [List.all_eq_false]
  refine ⟨ys[k], List.getElem_mem h, ?_⟩
  have e : ys.getD k noS = ys[k] := by simp [List.getD, h]
  rw [e] at hb
  unfold rdY at hb
  rw [hb]; simp
theorem rdA_end {ys : List ByteArray} {C R A : Nat} (h : rdA ys C A ys.length = true) (hR : ys.length ≤ R) : rdB ys C R A = true := by
  unfold rdA at h
  rw [List.take_length] at h
  unfold rdB
  rw [decide_eq_true hR, Bool.true_and]
  exact h
def RowAt (W : World) (u : Value) (L : List Int) : Prop := ∃ b o c, u = .slice (some ⟨b, o, none⟩) L.length c ∧ b < W.heap.size ∧ ∀ j, j < L.length → W.cell? ⟨b, o + j, none⟩ = some (.int .i64 (L.getD j 0))
theorem RowAt.of {W : World} {u : Value} {L : List Int} (h : RdI W u L) (h0 : 0 < L.length) : RowAt W u L := by
  rcases h.op with ⟨a, c, _, rfl⟩ | ⟨b, o, c, e, hb, hc⟩
  · simp at h0
  · exact ⟨b, o, c, e, hb, hc⟩
theorem rowV_len (L : List UInt8) (C : Nat) : (rowV L C).length = rowM L C := by simp [rowV]
theorem rowV_get {L : List UInt8} {C j : Nat} (h : j < rowM L C) : (rowV L C).getD j 0 = cellV L C j := by simp [rowV, List.getD, h]
theorem rowM_pos {L : List UInt8} {C : Nat} (h : rowB L C = true) : 0 < rowM L C := by
  unfold rowB at h
  rw [Bool.and_eq_true] at h
  have h1 := of_decide_eq_true h.1
  have h2 := Nat.div_add_mod (L.length + 1) (C + 1)
  unfold rowM
  rcases Nat.eq_zero_or_pos ((L.length + 1) / (C + 1)) with h3 | h3
  · rw [h3, h1] at h2; simp at h2
  · exact h3
def rlF (ys : List ByteArray) (C R A : Nat) : List Int := if rdB ys C R A = true then celV ys C A else []

set_option maxRecDepth 20000 in
set_option maxHeartbeats 3200000 in
theorem c_readLines (R A C : Nat) (v : Value) (ys : List ByteArray) (w : World) (htab : TabW w) (herr : ErrW w) (ha : RdS w v ys) (hx : ys.length ≤ 1048576) (hs : ∀ y ∈ ys, y.size ≤ 1048576) (hl : layB R A C = true) :
    Calls Tryz.prog 26 #[(.agg #[.int .i64 (R : Int), .int .i64 (A : Int), .int .i64 (C : Int)]), v] w (FreshIB w (rlF ys C R A) (rdB ys C R A)) := by
  have ha0 := ha
  obtain ⟨b, cap, rfl, ha1⟩ := ha0
  clear ha1
  simp only [List.length_map] at ha ⊢
  obtain ⟨l1, l2, l3, l4, l5, l6, l7, l8⟩ := lay_mul hl
  have HS : Hid (∀ y ∈ ys, y.size ≤ 1048576) := hs
  clear hs
  by_cases hR : ys.length ≤ R
  · obtain ⟨n, hn⟩ : ∃ n, ys.length = n := ⟨_, rfl⟩
    have HC : Hid (∀ (y : ByteArray) (W : World), y ∈ ys → Below w.heap.size w W → Calls Tryz.prog 57 #[(.agg #[.int .i64 (R : Int), .int .i64 (A : Int), .int .i64 (C : Int)]), .string y] W (FreshIB W (rowF y.data.toList C) (rowB y.data.toList C))) :=
      fun y W hy hB => c_readLine R A C y W (htab.below hB) (herr.below hB) (HS.out y hy) hl
    have HN := Lib.hid hn
    obtain ⟨B, hb⟩ : ∃ B, rdB ys C R A = B := ⟨_, rfl⟩
    obtain ⟨F, hf⟩ : ∃ F, rlF ys C R A = F := ⟨_, rfl⟩
    have HE : Hid (rdB ys C R A = B ∧ rlF ys C R A = F) := ⟨hb, hf⟩
    have HCL : Hid (∀ a, a ≤ 6 → (celV ys C a).length ≤ 6 * 1048576) := fun a h => Nat.le_trans (celV_len ys C a) (Nat.mul_le_mul h hx)
    rw [hb, hf]
    rw [hn] at ha hR hx ⊢
    have HRB : Hid (∀ k, n ≤ k → rdA ys C A k = true → rdB ys C R A = true) := by
      intro k hk h
      have h2 : rdA ys C A ys.length = true := by
        unfold rdA at h ⊢
        rw [List.take_of_length_le (by rw [HN.out]; exact hk)] at h
        rwa [List.take_length]
      exact rdA_end h2 (by rw [HN.out]; exact hR)
    clear hl l7 l8 hn hb hf htab herr
    go_enter Tryz.func26, Tryz.ntmps26
    go_wp2_with (at_make; refine mkfull 81 28 Tryz.underlying81 infoSl rfl (by decide) rfl _ _ rfl n rfl rfl rfl rfl (by omega) ?_; intro w2 ho2 hB2 hz2)
    have ho2' : w2.ownsRow (w.heap.size + 1) 28 1 (.slice (some ⟨w.heap.size + 1, 0, none⟩) n n) n (rowsV [] n) := by
      rw [rowsV_nil]; unfold noV; simpa using ho2
    have hB2' : Below (w.heap.size + 1) (w.alloc (.cells #[(.int .i64 ((R : Int))), (.int .i64 ((A : Int))), (.int .i64 ((C : Int)))] 24)) w2 := by simpa using hB2
    have hg2 : w.heap.size + 1 < w2.heap.size := by simpa using hz2
    clear ho2 hB2 hz2
    go_wp2
    go_loopw [25] (fun i wr => ∃ (k : Nat) (vs : List Value), k ≤ n ∧ i = .int .i64 k ∧ Hid (vs.length = k) ∧ wr.ownsRow (w.heap.size + 1) 28 1 (.slice (some ⟨w.heap.size + 1, 0, none⟩) n n) n (rowsV vs n) ∧ Hid (∀ i, i < k → OwnI wr (w.heap.size + 2) (vs.getD i noV) (rowF (ys.getD i noS).data.toList C)) ∧ Hid (rdA ys C A k = true) ∧ Below (w.heap.size + 1) (w.alloc (.cells #[(.int .i64 ((R : Int))), (.int .i64 ((A : Int))), (.int .i64 ((C : Int)))] 24)) wr ∧ w.heap.size + 1 < wr.heap.size) (fun i _ => n - (intOf i).toNat)
    case atStart => exact ⟨0, [], by omega, rfl, rfl, ho2', fun i hi => by omega, rfl, hB2', hg2⟩
    case round =>
      obtain ⟨k, vs, hk, rfl, HL, ho, HV, HK, hB, hgr⟩ := hrel
      have hBA : Below w.heap.size w wr := ((Below.refl _ _).alloc (Nat.le_refl _) _).trans (hB.mono (by omega))
      have c0 : wr.cell? ⟨w.heap.size, 0, none⟩ = some (.int .i64 ((R : Int))) := by rw [hB.cell (p := ⟨w.heap.size, 0, none⟩) (Nat.lt_succ_self _)]; simp [go_sem]
      have c1 : wr.cell? ⟨w.heap.size, 1, none⟩ = some (.int .i64 ((A : Int))) := by rw [hB.cell (p := ⟨w.heap.size, 1, none⟩) (Nat.lt_succ_self _)]; simp [go_sem]
      have c2 : wr.cell? ⟨w.heap.size, 2, none⟩ = some (.int .i64 ((C : Int))) := by rw [hB.cell (p := ⟨w.heap.size, 2, none⟩) (Nat.lt_succ_self _)]; simp [go_sem]
      clear ho2' hB2' hg2
      by_cases hlt : k < n
      · have hkl : k < ys.length := by rw [HN.out]; exact hlt
        obtain ⟨b1, o1, rfl, hb1, e1⟩ := RdS_cell ha hBA hkl
        have hmem : ys.getD k noS ∈ ys := by simp [List.getD, hkl]
        have hc := HC.out _ wr hmem hBA
        have hrs := rdA_succ (C := C) (A := A) hkl
        obtain ⟨y, hy⟩ : ∃ y, ys.getD k noS = y := ⟨_, rfl⟩
        rw [hy] at e1 hc hrs
        have HY := Lib.hid hy
        have HRS := Lib.hid hrs
        clear hy hmem hrs ha
        cases hrb : rowB y.data.toList C
        · have HB : Hid (B = false ∧ F = []) := by
            have h1 : rdB ys C R A = false := rdA_bad hkl (by rw [HY.out]; unfold rdY; rw [hrb]; rfl)
            exact ⟨by rw [← HE.out.1, h1], by rw [← HE.out.2]; unfold rlF; rw [h1]; rfl⟩
          rw [hrb] at hc
          clear hrb
          go_wp2_with fail
          refine hc.mono ?_
          rintro e w5 ⟨u, rfl, ho5, hB5⟩
          have hF := bthen hBA hB5
          clear hc ho5 hB5 ho hB
          go_wp2
          go_ret2
          exact ⟨_, by rw [HB.out.1]; rfl, by rw [HB.out.2]; exact OwnI_nil _ _, hF⟩
        · rw [hrb] at hc
          have hrf : rowF y.data.toList C = rowV y.data.toList C := by unfold rowF; rw [hrb]; rfl
          rw [hrf] at hc
          have HVL := Lib.hid (rowV_len y.data.toList C)
          have HRB2 := Lib.hid hrb
          clear hrb
          go_wp2_with fail
          refine hc.mono ?_
          rintro e w5 ⟨u, rfl, ho5, hB5⟩
          have hr5 := owns_RdI ho5
          obtain ⟨b5, cap5, rfl, _⟩ := hr5
          simp only [List.length_map] at ho5 ⊢
          have hgr5 : w.heap.size + 1 < w5.heap.size := by have := hB5.size; omega
          have ho6 := ownsRow_kept_below ho hB5
          have hB6 := hB.trans (hB5.mono (by omega))
          have hBA6 := bthen hBA hB5
          have d1 : w5.cell? ⟨w.heap.size, 1, none⟩ = some (.int .i64 ((A : Int))) := by rw [(bcell hB5).1 _ _ (by omega)]; exact c1
          clear hc c0 c1 c2
          by_cases hm : rowM y.data.toList C ≤ A
          · have hm1 : ¬ (A : Int) < ((rowV y.data.toList C).length : Int) := by have := HVL.out; omega
            have HK2 : Hid (rdA ys C A (k + 1) = true) := by
              show _ = _
              rw [HRS.out, HK.out]
              unfold rdY
              rw [HRB2.out, decide_eq_true hm]
              rfl
            have hvk : vs.length < n := by rw [HL.out]; exact hlt
            have e6 : ∃ x, w5.cell? ⟨w.heap.size + 1, k, none⟩ = some x := by
              rw [ho6.cellAt k (by omega)]
              exact ⟨_, List.getElem?_eq_getElem (by rw [rowsV_len _ _ (by omega)]; omega)⟩
            obtain ⟨x6, e6⟩ := e6
            have f6 := ho6.frozenAt k
            have hst := (ho6.stored k (.slice b5 (rowV y.data.toList C).length cap5)).1
            have hset := rowsV_set vs n (.slice b5 (rowV y.data.toList C).length cap5) hvk
            rw [HL.out] at hset
            rw [hset] at hst
            have hgw := grownBy_setCell w5 (w.heap.size + 1) k (.slice b5 (rowV y.data.toList C).length cap5)
            have hkeep : ∀ (u : Value) (L : List Int), OwnI w5 (w.heap.size + 2) u L → OwnI (w5.setCell ⟨w.heap.size + 1, k, none⟩ (.slice b5 (rowV y.data.toList C).length cap5)) (w.heap.size + 2) u L :=
              fun u L h => ownsRow_kept_new h hgw (fun j hj => by cases hj; omega)
            have HV2 : Hid (∀ i, i < k + 1 → OwnI (w5.setCell ⟨w.heap.size + 1, k, none⟩ (.slice b5 (rowV y.data.toList C).length cap5)) (w.heap.size + 2) ((vs ++ [Value.slice b5 (rowV y.data.toList C).length cap5]).getD i noV) (rowF (ys.getD i noS).data.toList C)) := by
              intro i hi
              by_cases hik : i < k
              · have h1 := HV.out i hik
                have h2 : (vs ++ [Value.slice b5 (rowV y.data.toList C).length cap5]).getD i noV = vs.getD i noV := by
                  simp only [List.getD]
                  rw [List.getElem?_append_left (by rw [HL.out]; exact hik)]
                rw [h2]
                exact hkeep _ _ (ownsRow_kept_below h1 hB5)
              · obtain rfl : i = k := by omega
                have h2 : (vs ++ [Value.slice b5 (rowV y.data.toList C).length cap5]).getD i noV = .slice b5 (rowV y.data.toList C).length cap5 := by
                  simp only [List.getD]
                  rw [List.getElem?_append_right (by rw [HL.out]; exact Nat.le_refl _), HL.out, Nat.sub_self]
                  rfl
                rw [h2, HY.out, hrf]
                exact hkeep _ _ (ownsRow_mono ho5 (by omega))
            have HL2 : Hid ((vs ++ [Value.slice b5 (rowV y.data.toList C).length cap5]).length = k + 1) := by show _ = _; rw [List.length_append, HL.out]; rfl
            have HO : Hid (_ ∧ Below (w.heap.size + 1) (w.alloc (.cells #[(.int .i64 ((R : Int))), (.int .i64 ((A : Int))), (.int .i64 ((C : Int)))] 24)) (w5.setCell ⟨w.heap.size + 1, k, none⟩ (.slice b5 (rowV y.data.toList C).length cap5)) ∧ w.heap.size + 1 < (w5.setCell ⟨w.heap.size + 1, k, none⟩ (.slice b5 (rowV y.data.toList C).length cap5)).heap.size) :=
              ⟨hst, hB6.setCell (p := ⟨w.heap.size + 1, k, none⟩) (Nat.le_refl _) _, by simpa [World.setCell] using hgr5⟩
            clear ho ho5 ho6 hst hset hgw hkeep hB hB5 hB6 hBA hBA6 hrf HV
            go_wp2
            go_roundw
            case rel => exact ⟨k + 1, vs ++ [Value.slice b5 (rowV y.data.toList C).length cap5], by omega, by go_num, HL2, HO.out.1, HV2, HK2, HO.out.2.1, HO.out.2.2⟩
            case measure => simp [intOf]; omega
          · have hm1 : (A : Int) < ((rowV y.data.toList C).length : Int) := by have := HVL.out; omega
            have HB : Hid (B = false ∧ F = []) := by
              have h1 : rdB ys C R A = false := rdA_bad hkl (by rw [HY.out]; unfold rdY; rw [decide_eq_false hm]; simp)
              exact ⟨by rw [← HE.out.1, h1], by rw [← HE.out.2]; unfold rlF; rw [h1]; rfl⟩
            clear ho ho5 ho6 hB hB5 hB6 hBA hrf HV
            go_wp2
            go_ret2
            exact ⟨_, by rw [HB.out.1]; rfl, by rw [HB.out.2]; exact OwnI_nil _ _, hBA6⟩
      · have hkn : k = n := by omega
        have hrd := HRB.out k (by omega) HK.out
        have HB : Hid (B = true ∧ F = celV ys C A) := by
          refine ⟨by rw [← HE.out.1, hrd], ?_⟩
          rw [← HE.out.2]; unfold rlF; rw [hrd]; rfl
        have HRY : Hid (∀ i, i < n → rowB (ys.getD i noS).data.toList C = true) := by
          intro i hi
          have h2 := hrd
          unfold rdB at h2
          rw [Bool.and_eq_true] at h2
          have hi2 : i < ys.length := by rw [HN.out]; exact hi
          have e : ys.getD i noS = ys[i] := by simp [List.getD, hi2]
          have h3 := List.all_eq_true.1 h2.2 ys[i] (List.getElem_mem hi2)
          rw [Bool.and_eq_true] at h3
          rw [e]; exact h3.1
        have HRow : Hid (∀ i, i < n → ∃ u, wr.cell? ⟨w.heap.size + 1, i, none⟩ = some u ∧ RowAt wr u (rowV (ys.getD i noS).data.toList C)) := by
          intro i hi
          have h1 := HV.out i (by omega)
          have hrb := HRY.out i hi
          have hrf : rowF (ys.getD i noS).data.toList C = rowV (ys.getD i noS).data.toList C := by unfold rowF; rw [hrb]; rfl
          rw [hrf] at h1
          refine ⟨vs.getD i noV, ?_, RowAt.of (owns_RdI h1) (by rw [rowV_len]; exact rowM_pos hrb)⟩
          rw [ho.cellAt i (by omega)]
          have : rowsV vs n = vs := by rw [← hkn, ← HL.out]; exact rowsV_end vs
          rw [this, List.getElem?_eq_getElem (by rw [HL.out]; omega)]
          simp [List.getD, show i < vs.length by rw [HL.out]; omega]
        clear HV HK HL ho hkn hrd hB ha c0 c2 HRB
        obtain ⟨W, hW⟩ : ∃ W : World, W = wr := ⟨_, rfl⟩
        subst hW
        go_wp2
        go_loopw [11, 52] (fun o i wi => ∃ k : Nat, k ≤ A ∧ i = .int .i64 k ∧ OwnI wi W.heap.size o (celV ys C k) ∧ Below W.heap.size W wi) (fun _ i _ => A - (intOf i).toNat)
        case atStart => exact ⟨0, by omega, rfl, OwnI_nil _ _, Below.refl _ _⟩
        case round =>
          obtain ⟨col, hcol, rfl, hoc, hBc⟩ := hrel
          by_cases hca : col < A
          · go_wp2
            go_loopw [11, 57] (fun o i wi => ∃ q : Nat, q ≤ n ∧ i = .int .i64 q ∧ OwnI wi W.heap.size o (celV ys C col ++ colV (ys.take q) C col) ∧ Below W.heap.size W wi) (fun _ i _ => n - (intOf i).toNat)
            case atStart => exact ⟨0, by omega, rfl, by simpa [colV] using hoc, hBc⟩
            case round =>
              obtain ⟨q, hq, rfl, hoi, hBi⟩ := hrel
              clear hoc hBc
              by_cases hqn : q < n
              · obtain ⟨u, hu, bu, ou, cu, rfl, hbu, hcu⟩ := HRow.out q hqn
                have hul := Lib.lt_of_cell hu
                have d0 : wr.cell? ⟨w.heap.size + 1, q, none⟩ = some (.slice (some ⟨bu, ou, none⟩) (rowV (ys.getD q noS).data.toList C).length cu) := by rw [(bcell hBi).1 _ _ hul]; exact hu
                have hrb := HRY.out q hqn
                have hct := colV_take (C := C) (i := col) (show q < ys.length by rw [HN.out]; exact hqn)
                have hhc := hasC_row (C := C) (i := col) hrb
                have hvl := rowV_len (ys.getD q noS).data.toList C
                rw [hhc] at hct
                by_cases hcm : col < rowM (ys.getD q noS).data.toList C
                · rw [decide_eq_true hcm, if_pos rfl] at hct
                  have d1 : wr.cell? ⟨bu, ou + col, none⟩ = some (.int .i64 (cellV (ys.getD q noS).data.toList C col)) := by rw [(bcell hBi).1 _ _ hbu, hcu col (by omega), rowV_get hcm]
                  have g1 : (col : Int) < ((rowV (ys.getD q noS).data.toList C).length : Int) := by omega
                  obtain ⟨x, hx1⟩ : ∃ x, cellV (ys.getD q noS).data.toList C col = x := ⟨_, rfl⟩
                  obtain ⟨ml, hml⟩ : ∃ ml, (rowV (ys.getD q noS).data.toList C).length = ml := ⟨_, rfl⟩
                  rw [hx1] at d1 hct
                  rw [hml] at d0 g1
                  have hLl : (celV ys C col ++ colV (ys.take q) C col).length ≤ 7 * 1048576 := by
                    rw [List.length_append]
                    have h1 := HCL.out col (by omega)
                    have h2 := colV_len (ys.take q) C col
                    rw [List.length_take] at h2
                    omega
                  obtain ⟨L, hL⟩ : ∃ L, celV ys C col ++ colV (ys.take q) C col = L := ⟨_, rfl⟩
                  have HT : Hid (celV ys C col ++ colV (ys.take (q + 1)) C col = L ++ [x]) := by show _ = _; rw [hct, ← List.append_assoc, hL]
                  unfold OwnI at hoi
                  rw [hL] at hoi hLl
                  have hBs := hBi.size
                  clear hct hhc hvl hL hx1 hml hu hul hcu hrb
                  go_wp2_with (first | (at_builtin; refine app1 28 3 Tryz.underlying28 infoInt rfl (by decide) rfl _ _ rfl W.heap.size _ _ _ rfl hoi rfl rfl ?c1 ?c2 ?_))
                  case c1 => omega
                  case c2 => exact hBs
                  intro v' wn ho6 hg6
                  have HO : Hid (OwnI wn W.heap.size v' (celV ys C col ++ colV (ys.take (q + 1)) C col) ∧ Below W.heap.size W wn) :=
                    ⟨by rw [HT.out]; exact OwnI_snoc' rfl ho6, hBi.grown hg6 hBs (fun j hj => (hoi.lt j hj).1)⟩
                  clear hoi ho6 hg6 hBi d0 d1
                  go_wp2
                  go_roundw
                  case rel => exact ⟨q + 1, by omega, by go_num, HO.out.1, HO.out.2⟩
                  case measure => simp [intOf]; omega
                · rw [decide_eq_false hcm, if_neg (by decide), List.append_nil] at hct
                  have g1 : ¬ (col : Int) < ((rowV (ys.getD q noS).data.toList C).length : Int) := by omega
                  obtain ⟨ml, hml⟩ : ∃ ml, (rowV (ys.getD q noS).data.toList C).length = ml := ⟨_, rfl⟩
                  rw [hml] at d0 g1
                  have HO : Hid (OwnI wr W.heap.size u11 (celV ys C col ++ colV (ys.take (q + 1)) C col) ∧ Below W.heap.size W wr) := ⟨by rw [hct]; exact hoi, hBi⟩
                  clear hct hhc hvl hml hu hul hcu hrb hoi hBi
                  go_wp2
                  go_roundw
                  case rel => exact ⟨q + 1, by omega, by go_num, HO.out.1, HO.out.2⟩
                  case measure => simp [intOf]; omega
              · have HO : Hid (OwnI wr W.heap.size u11 (celV ys C (col + 1)) ∧ Below W.heap.size W wr) := by
                  rw [celV_succ]
                  rw [List.take_of_length_le (by rw [HN.out]; omega)] at hoi
                  exact ⟨hoi, hBi⟩
                clear hoi hBi
                go_wp2
                go_roundw
                case rel => exact ⟨col + 1, by omega, by go_num, HO.out.1, HO.out.2⟩
                case measure => simp [intOf]; omega
          · have HO : Hid (OwnI wr w.heap.size u11 F ∧ Below w.heap.size w wr) := by
              have hcA : col = A := by omega
              rw [HB.out.2, ← hcA]
              exact ⟨ownsRow_mono hoc hBA.size, bthen hBA hBc⟩
            clear hoc hBc
            go_wp2
            go_ret2
            exact ⟨_, by rw [HB.out.1]; rfl, HO.out.1, HO.out.2⟩
  · have h0 : rdB ys C R A = false := by unfold rdB; rw [decide_eq_false hR]; rfl
    have hf : rlF ys C R A = [] := by unfold rlF; rw [h0]; rfl
    have g1 : (R : Int) < (ys.length : Int) := by omega
    rw [h0, hf]
    clear h0 hf hl
    go_enter Tryz.func26, Tryz.ntmps26
    go_wp2
    go_ret2
    exact ⟨_, rfl, OwnI_nil _ _, (Below.refl _ _).alloc (Nat.le_refl _) _⟩
end Go.Proofs.YtdgnhplaakjlgaaGreatDoor

namespace Go.Proofs.YtdgnhplaakjlgaaGreatDoor
set_option linter.unusedVariables false
open Go.RowKit

theorem k_impl_PageLines2 (r a c : Int) (v : Value) (xs : List Int) (p : Int) (w : World) (htab : TabW w) {base : Nat} (ho : OwnI w base v xs) (hx : xs.length ≤ 1099511627776) :
    Calls Tryz.prog 9 #[(.agg #[.int .i64 r, .int .i64 a, .int .i64 c]), v, (.int .i64 (p))] w (FreshSB w (plinS r a c xs p) (plinB r a c xs p)) := by
  have hr := owns_RdI ho
  obtain ⟨b, cap, rfl, h1, h2⟩ := own_cap ho
  exact c_impl_PageLines r a c b cap xs p w htab hr hx h1 h2

set_option maxRecDepth 20000 in
set_option maxHeartbeats 1600000 in
theorem c_impl_ReadPage (r a c : Int) (v : Value) (ys : List ByteArray) (w : World) (htab : TabW w) (herr : ErrW w) (ha : RdS w v ys) (hx : ys.length ≤ 1048576) (hs : ∀ y ∈ ys, y.size ≤ 1048576) :
    Calls Tryz.prog 6 #[(.agg #[.int .i64 r, .int .i64 a, .int .i64 c]), v] w (FreshIB w (rpV r a c ys) (rpB r a c ys)) := by
  have ha0 := ha
  obtain ⟨b, cap, rfl, ha1⟩ := ha0
  clear ha1
  simp only [List.length_map] at ha ⊢
  have hNo : ∀ h : rpB r a c ys = false, rpV r a c ys = [] := fun h => by unfold rpV; rw [h]; rfl
  cases hl : layB r a c
  · have h0 := rp_no (r := r) (a := a) (c := c) (ys := ys) (fun q => by rw [hl] at q; cases q.1)
    rw [hNo h0, h0]
    clear h0 hNo hs htab herr
    go_enter Tryz.func6, Tryz.ntmps6
    go_wp2_with fail
    refine (c_impl_LayoutValid _ _ _ _).mono ?_
    rw [hl]
    rintro e w1 ⟨rfl, hB1⟩
    have hA := balloc hB1
    clear hB1
    go_wp2
    go_ret2
    exact ⟨_, rfl, OwnI_nil _ _, hA⟩
  · obtain ⟨R, A, C, rfl, rfl, rfl⟩ := lay_nat hl
    obtain ⟨l1, l2, l3, l4, l5, l6, l7, l8⟩ := lay_mul hl
    have HC : Hid (∀ W, Below w.heap.size w W → Calls Tryz.prog 26 #[(.agg #[.int .i64 (R : Int), .int .i64 (A : Int), .int .i64 (C : Int)]), .slice b ys.length cap] W (FreshIB W (rlF ys C R A) (rdB ys C R A))) :=
      fun W hB => c_readLines R A C _ ys W (htab.below hB) (herr.below hB) (ha.kept hB) hx hs hl
    cases hrd : rdB ys C R A
    · have h0 := rp_no (r := R) (a := A) (c := C) (ys := ys) (fun q => by
        have := q.2
        rw [Int.toNat_natCast, Int.toNat_natCast, Int.toNat_natCast, hrd] at this
        cases this)
      rw [hNo h0, h0]
      rw [hrd] at HC
      clear h0 hNo hs htab herr hrd
      go_enter Tryz.func6, Tryz.ntmps6
      go_wp2_with fail
      refine (c_impl_LayoutValid _ _ _ _).mono ?_
      rw [hl]
      rintro e w1 ⟨rfl, hB1⟩
      have hA1 : Below w.heap.size w w1 := balloc hB1
      have k0 : w1.cell? ⟨w.heap.size, 0, none⟩ = some (.int .i64 ((R : Int))) := by rw [(bcell hB1).1 _ _ (by simp)]; simp [go_sem]
      have k1 : w1.cell? ⟨w.heap.size, 1, none⟩ = some (.int .i64 ((A : Int))) := by rw [(bcell hB1).1 _ _ (by simp)]; simp [go_sem]
      have k2 : w1.cell? ⟨w.heap.size, 2, none⟩ = some (.int .i64 ((C : Int))) := by rw [(bcell hB1).1 _ _ (by simp)]; simp [go_sem]
      clear hB1
      go_wp2_with fail
      refine (HC.out _ hA1).mono ?_
      rintro e w2 ⟨u, rfl, ho2, hB2⟩
      have hA2 := bthen hA1 hB2
      clear ho2 hB2 hA1 k0 k1 k2
      go_wp2
      go_ret2
      exact ⟨_, rfl, OwnI_nil _ _, hA2⟩
    · have hXe : rpX (A : Int) (C : Int) ys = celV ys C A := by unfold rpX; rw [Int.toNat_natCast, Int.toNat_natCast]
      have hrl : rlF ys C R A = celV ys C A := by unfold rlF; rw [hrd]; rfl
      have hcl : (celV ys C A).length ≤ 6 * 1048576 := Nat.le_trans (celV_len ys C A) (Nat.mul_le_mul (by omega) hx)
      rw [hrd, hrl] at HC
      obtain ⟨X, hX⟩ : ∃ X, celV ys C A = X := ⟨_, rfl⟩
      rw [hX] at hXe hcl HC
      obtain ⟨P, hP⟩ : ∃ P, plinS (R : Int) (A : Int) (C : Int) X 0 = P := ⟨_, rfl⟩
      obtain ⟨Bp, hBp⟩ : ∃ Bp, plinB (R : Int) (A : Int) (C : Int) X 0 = Bp := ⟨_, rfl⟩
      have hPl : P.length ≤ 20 := by rw [← hP]; exact (plinS_small _ _ _ _ _).1
      have HP : Hid (∀ W u, Below w.heap.size w W → OwnI W w.heap.size u X → Calls Tryz.prog 9 #[(.agg #[.int .i64 (R : Int), .int .i64 (A : Int), .int .i64 (C : Int)]), u, (.int .i64 (0))] W (FreshSB W P Bp)) := by
        intro W u hB hu
        rw [← hP, ← hBp]
        exact k_impl_PageLines2 R A C u X 0 W (htab.below hB) hu (by omega)
      have HPN : Hid (Bp = true → (pnF (R : Int) (A : Int) (C : Int) X.length = 1 ↔ (X.length : Int) ≤ (R : Int) * A)) := by
        intro h
        rw [← hBp] at h
        exact rp_pn h
      obtain ⟨B, hb⟩ : ∃ B, rpB (R : Int) (A : Int) (C : Int) ys = B := ⟨_, rfl⟩
      obtain ⟨F, hf⟩ : ∃ F, rpV (R : Int) (A : Int) (C : Int) ys = F := ⟨_, rfl⟩
      have HE : Hid (B = (Bp && (decide (P = ys) && decide ((X.length : Int) ≤ (R : Int) * A))) ∧ (if B = true then X else []) = F) := by
        refine ⟨?_, ?_⟩
        · rw [← hb]; unfold rpB; rw [hXe, hP, hBp]
        · rw [← hf, ← hb, ← hXe]; rfl
      rw [hb, hf]
      obtain ⟨pn, hpn⟩ : ∃ pn, pnF (R : Int) (A : Int) (C : Int) X.length = pn := ⟨_, rfl⟩
      have HPF := Lib.hid hpn
      clear hNo hs hX hP hBp hb hf hXe hrl hrd htab herr hpn
      go_enter Tryz.func6, Tryz.ntmps6
      go_wp2_with fail
      refine (c_impl_LayoutValid _ _ _ _).mono ?_
      rw [hl]
      rintro e w1 ⟨rfl, hB1⟩
      have hA1 : Below w.heap.size w w1 := balloc hB1
      have hz1 : w.heap.size < w1.heap.size := by have := hB1.size; simp at this; omega
      have k0 : w1.cell? ⟨w.heap.size, 0, none⟩ = some (.int .i64 ((R : Int))) := by rw [(bcell hB1).1 _ _ (by simp)]; simp [go_sem]
      have k1 : w1.cell? ⟨w.heap.size, 1, none⟩ = some (.int .i64 ((A : Int))) := by rw [(bcell hB1).1 _ _ (by simp)]; simp [go_sem]
      have k2 : w1.cell? ⟨w.heap.size, 2, none⟩ = some (.int .i64 ((C : Int))) := by rw [(bcell hB1).1 _ _ (by simp)]; simp [go_sem]
      clear hB1
      go_wp2_with fail
      refine (HC.out _ hA1).mono ?_
      rintro e w2 ⟨u, rfl, ho2, hB2⟩
      have kc := (bcell hB2).1
      replace k0 : w2.cell? ⟨w.heap.size, 0, none⟩ = some (.int .i64 ((R : Int))) := by rw [kc _ _ hz1]; exact k0
      replace k1 : w2.cell? ⟨w.heap.size, 1, none⟩ = some (.int .i64 ((A : Int))) := by rw [kc _ _ hz1]; exact k1
      replace k2 : w2.cell? ⟨w.heap.size, 2, none⟩ = some (.int .i64 ((C : Int))) := by rw [kc _ _ hz1]; exact k2
      have hz2 : w.heap.size < w2.heap.size := by have := hB2.size; omega
      have hA2 := bthen hA1 hB2
      have ho2' := ownsRow_mono ho2 hA1.size
      have hr0 := owns_RdI ho2
      obtain ⟨b2, cap2, rfl, hr1⟩ := hr0
      simp only [List.length_map] at ho2' ⊢
      clear kc hB2 ho2 hr1 hA1
      have hp := HP.out w2 _ hA2 ho2'
      cases hBp2 : Bp
      · have HB : Hid (B = false ∧ F = []) := by
          have h1 : B = false := by rw [HE.out.1, hBp2]; rfl
          exact ⟨h1, by rw [← HE.out.2, h1]; rfl⟩
        subst hBp2
        go_wp2_with fail
        refine hp.mono ?_
        rintro e w3 ⟨u3, rfl, ho3, hB3⟩
        have hA3 := bthen hA2 hB3
        clear ho3 hB3 hA2 ho2' k0 k1 k2 hp
        go_wp2
        go_ret2
        exact ⟨_, by rw [HB.out.1]; rfl, by rw [HB.out.2]; exact OwnI_nil _ _, hA3⟩
      · subst hBp2
        go_wp2_with fail
        refine hp.mono ?_
        rintro e w3 ⟨u3, rfl, ho3, hB3⟩
        have hA3 := bthen hA2 hB3
        have hc := c_slEqual u3 _ P ys w3 (owns_RdS ho3) (ha.kept hA3) (by omega) (by omega)
        have ho4 := ownsRow_kept_below ho2' hB3
        have kc := (bcell hB3).1
        replace k0 : w3.cell? ⟨w.heap.size, 0, none⟩ = some (.int .i64 ((R : Int))) := by rw [kc _ _ hz2]; exact k0
        replace k1 : w3.cell? ⟨w.heap.size, 1, none⟩ = some (.int .i64 ((A : Int))) := by rw [kc _ _ hz2]; exact k1
        replace k2 : w3.cell? ⟨w.heap.size, 2, none⟩ = some (.int .i64 ((C : Int))) := by rw [kc _ _ hz2]; exact k2
        have hz3 : w.heap.size < w3.heap.size := by have := hB3.size; omega
        clear ho3 hB3 hA2 ho2' ha hp kc
        by_cases hq : P = ys
        · have HB : Hid (B = decide ((X.length : Int) ≤ (R : Int) * A)) := by
            show _ = _
            rw [HE.out.1, decide_eq_true hq]; rfl
          rw [decide_eq_true hq] at hc
          clear hq
          go_wp2_with fail
          refine hc.mono ?_
          rintro e w4 ⟨rfl, hB4⟩
          have kc := (bcell hB4).1
          replace k0 : w4.cell? ⟨w.heap.size, 0, none⟩ = some (.int .i64 ((R : Int))) := by rw [kc _ _ hz3]; exact k0
          replace k1 : w4.cell? ⟨w.heap.size, 1, none⟩ = some (.int .i64 ((A : Int))) := by rw [kc _ _ hz3]; exact k1
          replace k2 : w4.cell? ⟨w.heap.size, 2, none⟩ = some (.int .i64 ((C : Int))) := by rw [kc _ _ hz3]; exact k2
          replace ho4 := ownsRow_kept_below ho4 hB4
          replace hA3 := bthen hA3 hB4
          clear kc hB4 hc
          go_wp2_with fail
          refine (c_impl_PagesNeeded _ _ _ _ _).mono ?_
          rw [HPF.out]
          rintro e w5 ⟨rfl, hB5⟩
          have HO : Hid (OwnI w5 w.heap.size (.slice b2 X.length cap2) X ∧ Below w.heap.size w w5) := ⟨ownsRow_kept_below ho4 hB5, bthen hA3 hB5⟩
          clear ho4 hB5 hA3 k0 k1 k2
          have hpi := HPN.out (by trivial)
          rw [HPF.out] at hpi
          by_cases hp1 : pn = 1
          · have HB2 : Hid (B = true ∧ F = X) := by
              have h1 : B = true := by rw [HB.out]; exact decide_eq_true (hpi.1 hp1)
              exact ⟨h1, by rw [← HE.out.2, if_pos h1]⟩
            have e1 : (pn != 1) = false := by rw [hp1]; rfl
            clear hp1 hpi
            go_wp2
            go_ret2
            exact ⟨_, by rw [HB2.out.1]; rfl, by rw [HB2.out.2]; exact HO.out.1, HO.out.2⟩
          · have HB2 : Hid (B = false ∧ F = []) := by
              have h1 : B = false := by rw [HB.out]; exact decide_eq_false (fun q => hp1 (hpi.2 q))
              exact ⟨h1, by rw [← HE.out.2, h1]; rfl⟩
            have e1 : (pn != 1) = true := by rw [bne_iff_ne]; exact hp1
            clear hp1 hpi
            go_wp2
            go_ret2
            exact ⟨_, by rw [HB2.out.1]; rfl, by rw [HB2.out.2]; exact OwnI_nil _ _, HO.out.2⟩
        · have HB : Hid (B = false ∧ F = []) := by
            have h1 : B = false := by rw [HE.out.1, decide_eq_false hq]; rfl
            exact ⟨h1, by rw [← HE.out.2, h1]; rfl⟩
          rw [decide_eq_false hq] at hc
          clear hq
          go_wp2_with fail
          refine hc.mono ?_
          rintro e w4 ⟨rfl, hB4⟩
          have hA4 := bthen hA3 hB4
          clear hc ho4 hB4 hA3 k0 k1 k2
          go_wp2
          go_ret2
          exact ⟨_, by rw [HB.out.1]; rfl, by rw [HB.out.2]; exact OwnI_nil _ _, hA4⟩
end Go.Proofs.YtdgnhplaakjlgaaGreatDoor
