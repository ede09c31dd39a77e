/- Lemmas and contracts for PrintRead (Mstr): plain words on memory, contracts of the functions that the law reaches. No condition but what each states. -/
import Derived.Test.YtgjaajfpdajleaaGreatDoorMPrintReadStrs
import Derived.Lib.ItoaNum
import Derived.Deep.RegionHeld3
namespace Go.Proofs.YtgjaajfpdajleaaGreatDoor
set_option linter.unusedVariables false
open Go.RowKit

def mt (k : Int) : ByteArray := if k ≤ 0 then ⟨#[109, 48]⟩ else ⟨#[109]⟩ ++ ⟨(Lib.decDigits k.toNat).toArray⟩

def byteOf (x : Int) : UInt8 := UInt8.ofNat x.toNat
/-- string([]byte{x}), the slice just laid -/
theorem conv1 (W : World) (x : Int) (h0 : 0 ≤ x) (h1 : x ≤ 255) :
    (convert 32 9 (.slice (some ⟨W.heap.size, 0, none⟩) 1 1)).run Tryz.prog (W.alloc (.cells #[.int .u8 x] 5)) = .ok (.string ⟨#[byteOf x]⟩) (W.alloc (.cells #[.int .u8 x] 5)) := by
  have e : ((UInt8.ofNat x.toNat).toNat : Int) = x := by rw [UInt8.toNat_ofNat']; omega
  exact run_convert_bytes_back (P := Tryz.prog) (W.alloc (.cells #[.int .u8 x] 5)) 32 9 5 ⟨W.heap.size, 0, none⟩ 1 [UInt8.ofNat x.toNat] Tryz.underlying32 Tryz.underlying5 Tryz.underlying9 (by
    intro j hj
    match j, hj with
    | 0, _ => simp only [List.getElem_cons_zero, e]; simp [Addr.add, go_sem])
theorem dec_step {m n : Nat} {L : List UInt8} (h0 : 0 < m) (h : Lib.decDigits m ++ L = Lib.decDigits n) :
    (m / 10 = 0 ∧ UInt8.ofNat (48 + m % 10) :: L = Lib.decDigits n ∨ 0 < m / 10 ∧ Lib.decDigits (m / 10) ++ UInt8.ofNat (48 + m % 10) :: L = Lib.decDigits n) := by
  rw [← h]
  by_cases hm : m < 10
  · left
    refine ⟨by omega, ?_⟩
    rw [Lib.decDigits, dif_pos hm, show m % 10 = m by omega]
    rfl
  · right
    refine ⟨by omega, ?_⟩
    conv => rhs; rw [Lib.decDigits, dif_neg hm]
    simp

set_option maxHeartbeats 400000 in
theorem c_markText (k : Int) (w : World) (h1 : k ≤ 1099511627776) :
    Calls Tryz.prog 72 #[(.int .i64 (k))] w fun e w' => e = .returned (.string (mt k)) ∧ Below w.heap.size w w' := by
  by_cases hk : k ≤ 0
  · have HR : Hid (mt k = ⟨#[109, 48]⟩) := by show mt k = _; unfold mt; rw [if_pos hk]
    go_enter Tryz.func72, Tryz.ntmps72
    go_wp2
    go_ret
    exact ⟨by rw [HR.out]; rfl, Below.refl _ _⟩
  · obtain ⟨n, rfl⟩ : ∃ n : Nat, k = n := ⟨k.toNat, by omega⟩
    go_enter Tryz.func72, Tryz.ntmps72
    go_wp2
    go_loopw [0, 3] (fun k o wr => ∃ (m : Nat) (O : ByteArray), m ≤ n ∧ k = .int .i64 m ∧ o = .string O ∧ O.size + m ≤ n + 1 ∧ (m = 0 ∧ O.data.toList = Lib.decDigits n ∨ 0 < m ∧ Lib.decDigits m ++ O.data.toList = Lib.decDigits n) ∧ Below w.heap.size w wr) (fun k _ _ => (intOf k).toNat)
    case atStart => exact ⟨n, ByteArray.empty, Nat.le_refl _, rfl, rfl, by simp, .inr ⟨by omega, by simp⟩, Below.refl _ _⟩
    case round =>
      obtain ⟨m, O, hm, rfl, rfl, hs, hd, hB⟩ := hrel
      by_cases hlt : 0 < m
      · have hc := conv1 wr (48 + (m : Int) % 10) (by omega) (by omega)
        have HD : Hid _ := dec_step hlt (hd.resolve_left (fun h => by omega) |>.2)
        have HN : Hid (byteOf (48 + (m : Int) % 10) = UInt8.ofNat (48 + m % 10)) := by show UInt8.ofNat _ = _; congr 1
        clear hd
        go_wp2
        go_roundw
        case rel =>
          refine ⟨m / 10, ⟨#[byteOf (48 + (m : Int) % 10)]⟩ ++ O, by omega, by go_num, rfl, by rw [ByteArray.size_append, show (ByteArray.mk #[byteOf (48 + (m : Int) % 10)]).size = 1 from rfl]; omega, ?_, hB.alloc hB.size _⟩
          rw [HN.out, ByteArray.data_append]
          simpa using HD.out
        case measure => simp [intOf]; omega
      · have hm0 : m = 0 := by omega
        subst hm0
        have HR : Hid (mt (n : Int) = ⟨#[109]⟩ ++ O) := by
          show mt (n : Int) = _
          unfold mt
          rw [if_neg (by omega)]
          rcases hd with ⟨_, h⟩ | ⟨h, _⟩
          · congr 1
            apply ByteArray.ext
            rw [Int.toNat_natCast, ← h]
          · omega
        clear hd
        go_wp2
        go_ret
        exact ⟨by rw [HR.out]; rfl, hB⟩

def tx (c : Int) (n : Nat) : List ByteArray := (List.range n).map fun (i : Nat) => mt (c + i)
theorem tx_len (c : Int) (n : Nat) : (tx c n).length = n := by simp [tx]
theorem tx_getD (c : Int) (n k : Nat) (h : k < n) : (tx c n).getD k noS = mt (c + k) := by simp [tx, List.getD, h]
def txS (c : Int) (k : Nat) (xs : List ByteArray) : List ByteArray := tx c k ++ xs.drop k
theorem txS_len (c : Int) (k : Nat) (xs : List ByteArray) (h : k ≤ xs.length) : (txS c k xs).length = xs.length := by simp [txS, tx_len]; omega
theorem txS_end (c : Int) (xs : List ByteArray) : txS c xs.length xs = tx c xs.length := by simp [txS]
theorem txS_map_set (c : Int) (k : Nat) (xs : List ByteArray) (h : k < xs.length) : ((txS c k xs).map Value.string).set k (.string (mt (c + k))) = (txS c (k + 1) xs).map Value.string := by
  rw [← List.map_set]
  congr 1
  unfold txS
  rw [List.set_append_right _ _ (by rw [tx_len]; omega), tx_len, Nat.sub_self]
  have : xs.drop k = xs[k] :: xs.drop (k + 1) := List.drop_eq_getElem_cons h
  rw [this, List.set_cons_zero]
  simp [tx, List.range_succ]

theorem keep1 {w1 wa wb : World} {b o : Nat} {v0 : Value} (hb : b < w1.heap.size) (h : Below w1.heap.size w1 wa ∧ wa.cell? ⟨b, o, none⟩ = some v0) (k : Below wa.heap.size wa wb) :
    Below w1.heap.size w1 wb ∧ wb.cell? ⟨b, o, none⟩ = some v0 := by
  obtain ⟨h0, h1⟩ := h
  have hs := h0.size
  obtain ⟨hc, _⟩ := bcell k
  exact ⟨bthen h0 k, by rw [hc _ _ (by omega)]; exact h1⟩
set_option maxHeartbeats 400000 in
theorem c_markStringS (v : Value) (base : Nat) (xs : List ByteArray) (c : Int) (w : World) (h : OwnS w base v xs) (hx : xs.length ≤ 1048576) (hc : 0 ≤ c) (hc' : c ≤ 1048576) (hb : base ≤ w.heap.size) :
    Calls Tryz.prog 29 #[v, (.int .i64 (c))] w fun e w' => e = .returned (.int .i64 (c + xs.length)) ∧ OwnS w' base v (tx c xs.length) ∧ Below base w w' ∧ w.grownBy w' v.ownBlock := by
  have h0 := h
  unfold OwnS at h0 ⊢
  obtain ⟨_, h | ⟨g, cap, cur, rfl, hg, hh, h3, h4, h5, h6⟩⟩ := h
  · obtain ⟨rfl, hn⟩ := h
    have hx0 : xs = [] := List.eq_nil_of_length_eq_zero hn
    subst hx0
    clear hn
    go_enter Tryz.func29, Tryz.ntmps29
    go_wp2
    refine wp_loop_rounds 1 ?_
    rw [rounds_succ]
    go_wp2
    go_ret
    exact ⟨by simp, h0, Below.refl _ _, World.grownBy.refl _ _⟩
  · clear hh h5 h6
    have hlt : g < w.heap.size := (h0.lt g rfl).2
    go_enter Tryz.func29, Tryz.ntmps29
    go_wp2
    go_loopw [1, 5] (fun q i wr => ∃ k : Nat, k ≤ xs.length ∧ i = .int .i64 k ∧ q = .int .i64 (c + k) ∧ wr.ownsRow base 9 1 (.slice (some ⟨g, 0, none⟩) xs.length cap) xs.length ((txS c k xs).map Value.string) ∧ w.grownBy wr (some g)) (fun _ i _ => xs.length - (intOf i).toNat)
    case atStart => exact ⟨0, by omega, rfl, by simp, by simpa [txS, tx] using h0, World.grownBy.refl _ _⟩
    case round =>
      obtain ⟨k, hk, rfl, rfl, ho, hgr⟩ := hrel
      by_cases hlt : k < xs.length
      · go_wp2_with fail
        refine (c_markText _ _ (by omega)).mono ?_
        rintro e w1 ⟨rfl, hB⟩
        replace ho := ownsRow_kept_below ho hB
        replace hgr := grownBy_trans hgr (show wr.grownBy w1 (some g) from ⟨hB.os, hB.tape, hB.output, hB.size, fun i hi _ => hB.block i hi⟩)
        have e1 : ∃ x, w1.cell? ⟨g, k, none⟩ = some x := by
          rw [ho.cellAt k (by omega)]
          exact ⟨_, List.getElem?_eq_getElem (by simp [txS_len c k xs hk]; omega)⟩
        obtain ⟨x, e1⟩ := e1
        have e2 := ho.frozenAt k
        have ho2 := ho.stored k (.string (mt (c + k)))
        rw [txS_map_set c k xs hlt] at ho2
        have hgr2 := grownBy_trans hgr (grownBy_setCell w1 g k (.string (mt (c + k))))
        have HO : Hid (_ ∧ _) := ⟨ho2.1, hgr2⟩
        clear ho ho2 hgr hgr2 h0 hB
        go_wp2
        go_roundw
        case rel => exact ⟨k + 1, by omega, by go_num, by rw [show c + ((k + 1 : Nat) : Int) = c + k + 1 by omega], HO.out.1, HO.out.2⟩
        case measure => simp [intOf]; omega
      · have hkl : xs.length = k := by omega
        have HO : Hid (wr.ownsRow base 9 1 (.slice (some ⟨g, 0, none⟩) xs.length cap) xs.length ((tx c xs.length).map Value.string) ∧ w.grownBy wr (some g) ∧ xs.length = k ∧ base ≤ g) := ⟨by rw [← txS_end, hkl]; rw [hkl] at ho; exact ho, hgr, hkl, hg⟩
        clear ho hgr h0 hkl
        go_wp2
        go_ret
        exact ⟨by rw [HO.out.2.2.1]; rfl, by rw [tx_len]; exact HO.out.1, below_grown HO.out.2.1 hb (fun k hk => by cases hk; exact HO.out.2.2.2), HO.out.2.1⟩

theorem k_mark_strs (v : Value) (base : Nat) (xs : List ByteArray) (c : Int) (w : World) (h : OwnS w base v xs) (hx : xs.length ≤ 1048576) (hc : 0 ≤ c) (hc' : c ≤ 1048576) (hb : base ≤ w.heap.size) :
    Calls Tryz.prog 29 #[v, (.int .i64 (c))] w fun e w' => e = .returned (.int .i64 (c + xs.length)) ∧ OwnS w' base v (tx c xs.length) ∧ Below base w w' ∧ w.grownBy w' v.ownBlock := c_markStringS v base xs c w h hx hc hc' hb
end Go.Proofs.YtgjaajfpdajleaaGreatDoor
