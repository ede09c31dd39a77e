/- Contracts: a page exists, the sums of its columns; program and reference. -/
import Derived.Test.YtdgnhplaakjlgaaGreatDoorRTab
import Derived.Test.YtdgnhplaakjlgaaGreatDoorLay2
import Derived.Deep.RegionHeld3
namespace Go.Proofs.YtdgnhplaakjlgaaGreatDoor
set_option linter.unusedVariables false
open Go.RowKit

def pgB (r a c : Int) (xs : List Int) (p : Int) : Bool := layB r a c && (tabB xs && inB p 0 (pnF r a c xs.length - 1))
theorem c_pageExists (r a c : Int) (v : Value) (xs : List Int) (p : Int) (w : World) (ha : RdI w v xs) (hx : xs.length ≤ 1099511627776) :
    Calls Tryz.prog 32 #[(.agg #[.int .i64 r, .int .i64 a, .int .i64 c]), v, (.int .i64 (p))] w fun e w' => e = .returned (.bool (pgB r a c xs p)) ∧ Below w.heap.size w w' := by
  have ha0 := ha
  obtain ⟨b, cap, rfl, ha1⟩ := ha0
  clear ha1
  simp only [List.length_map] at ha ⊢
  cases hl : layB r a c
  · have E : Hid (pgB r a c xs p = false) := by show _ = _; unfold pgB; rw [hl]; rfl
    go_enter Tryz.func32, Tryz.ntmps32
    go_wp2_with fail
    refine (c_impl_LayoutValid _ _ _ _).mono ?_
    rintro e w1 ⟨rfl, hB1⟩
    rw [hl]
    go_wp2
    go_ret
    exact ⟨ret_bool E.out.symm, balloc hB1⟩
  · cases ht : tabB xs
    · have E : Hid (pgB r a c xs p = false) := by show _ = _; unfold pgB; rw [hl, ht]; rfl
      go_enter Tryz.func32, Tryz.ntmps32
      go_wp2_with fail
      refine (c_impl_LayoutValid _ _ _ _).mono ?_
      rintro e w1 ⟨rfl, hB1⟩
      have hA := balloc hB1
      rw [hl]
      clear hB1
      go_wp2_with fail
      refine (c_impl_TableValid _ xs _ (ha.kept hA) hx).mono ?_
      rintro e w2 ⟨rfl, hB2⟩
      rw [ht]
      go_wp2
      go_ret
      exact ⟨ret_bool E.out.symm, bthen hA hB2⟩
    · have hd : (p < 0 ∧ inB p 0 (pnF r a c xs.length - 1) = false) ∨ (0 ≤ p ∧ pnF r a c xs.length ≤ p ∧ inB p 0 (pnF r a c xs.length - 1) = false) ∨ (0 ≤ p ∧ p < pnF r a c xs.length ∧ inB p 0 (pnF r a c xs.length - 1) = true) := by
        by_cases h1 : p < 0
        · exact .inl ⟨h1, inB_f (by omega)⟩
        · by_cases h2 : p < pnF r a c xs.length
          · exact .inr (.inr ⟨by omega, h2, inB_t (by omega) (by omega)⟩)
          · exact .inr (.inl ⟨by omega, by omega, inB_f (by omega)⟩)
      have E : Hid (pgB r a c xs p = inB p 0 (pnF r a c xs.length - 1)) := by show _ = _; unfold pgB; rw [hl, ht]; rfl
      obtain ⟨m, hm⟩ : ∃ m, pnF r a c xs.length = m := ⟨_, rfl⟩
      have HM : Hid (pnF r a c xs.length = m) := hm
      rw [hm] at hd E
      clear hm
      rcases hd with ⟨h1, h3⟩ | ⟨h1, h2, h3⟩ | ⟨h1, h2, h3⟩
      · rw [h3] at E
        clear h3
        go_enter Tryz.func32, Tryz.ntmps32
        go_wp2_with fail
        refine (c_impl_LayoutValid _ _ _ _).mono ?_
        rintro e w1 ⟨rfl, hB1⟩
        have hA := balloc hB1
        rw [hl]
        clear hB1
        go_wp2_with fail
        refine (c_impl_TableValid _ xs _ (ha.kept hA) hx).mono ?_
        rintro e w2 ⟨rfl, hB2⟩
        rw [ht]
        replace hA := bthen hA hB2
        clear hB2
        go_wp2
        go_ret
        exact ⟨ret_bool E.out.symm, hA⟩
      · rw [h3] at E
        clear h3
        go_enter Tryz.func32, Tryz.ntmps32
        go_wp2_with fail
        refine (c_impl_LayoutValid _ _ _ _).mono ?_
        rintro e w1 ⟨rfl, hB1⟩
        have hA := balloc hB1
        rw [hl]
        have hz1 : w.heap.size < w1.heap.size := by have := hB1.size; simp at this; omega
        go_wp2_with fail
        refine (c_impl_TableValid _ xs _ (ha.kept hA) hx).mono ?_
        rintro e w2 ⟨rfl, hB2⟩
        rw [ht]
        have hz2 : w.heap.size < w2.heap.size := by have := hB2.size; omega
        obtain ⟨_, k0, k1, k2⟩ := keep3_1 hB1 hB2
        replace k0 : w2.cell? ⟨w.heap.size, 0, none⟩ = some (.int .i64 (r)) := k0
        replace k1 : w2.cell? ⟨w.heap.size, 1, none⟩ = some (.int .i64 (a)) := k1
        replace k2 : w2.cell? ⟨w.heap.size, 2, none⟩ = some (.int .i64 (c)) := k2
        replace hA := bthen hA hB2
        clear hB2 hB1 ha
        go_wp2_with (go_at_call 11; refine (c_impl_PagesNeeded _ _ _ _ _).mono ?_; rw [HM.out]; rintro e w3 ⟨rfl, hB3⟩)
        go_ret
        exact ⟨ret_bool (by first | exact E.out.symm | (rw [E.out]; first | exact decide_eq_false (by omega) | exact decide_eq_true (by omega))), bthen hA hB3⟩
      · rw [h3] at E
        clear h3
        go_enter Tryz.func32, Tryz.ntmps32
        go_wp2_with fail
        refine (c_impl_LayoutValid _ _ _ _).mono ?_
        rintro e w1 ⟨rfl, hB1⟩
        have hA := balloc hB1
        rw [hl]
        have hz1 : w.heap.size < w1.heap.size := by have := hB1.size; simp at this; omega
        go_wp2_with fail
        refine (c_impl_TableValid _ xs _ (ha.kept hA) hx).mono ?_
        rintro e w2 ⟨rfl, hB2⟩
        rw [ht]
        have hz2 : w.heap.size < w2.heap.size := by have := hB2.size; omega
        obtain ⟨_, k0, k1, k2⟩ := keep3_1 hB1 hB2
        replace k0 : w2.cell? ⟨w.heap.size, 0, none⟩ = some (.int .i64 (r)) := k0
        replace k1 : w2.cell? ⟨w.heap.size, 1, none⟩ = some (.int .i64 (a)) := k1
        replace k2 : w2.cell? ⟨w.heap.size, 2, none⟩ = some (.int .i64 (c)) := k2
        replace hA := bthen hA hB2
        clear hB2 hB1 ha
        go_wp2_with (go_at_call 11; refine (c_impl_PagesNeeded _ _ _ _ _).mono ?_; rw [HM.out]; rintro e w3 ⟨rfl, hB3⟩)
        go_ret
        exact ⟨ret_bool (by first | exact E.out.symm | (rw [E.out]; first | exact decide_eq_false (by omega) | exact decide_eq_true (by omega))), bthen hA hB3⟩
theorem pgB_iff {r a c : Int} {xs : List Int} {p : Int} (h : pgB r a c xs p = true) : layB r a c = true ∧ tabB xs = true ∧ 0 ≤ p ∧ p * (r * a) < xs.length := by
  unfold pgB at h
  rw [Bool.and_eq_true, Bool.and_eq_true] at h
  obtain ⟨h1, h2, h3⟩ := h
  have h4 := inB_iff.1 h3
  obtain ⟨t1, t2, _⟩ := tabB_iff h2
  obtain ⟨_, _, _, _, _, _, l7, l8⟩ := lay_mul h1
  have e : pnF r a c xs.length = (xs.length + r * a - 1) / (r * a) := if_pos ⟨h1, by omega, by omega⟩
  refine ⟨h1, h2, h4.1, ?_⟩
  have h5 : p + 1 ≤ (xs.length + r * a - 1) / (r * a) := by rw [← e]; omega
  have h6 : (p + 1) * (r * a) ≤ xs.length + r * a - 1 := (Int.le_ediv_iff_mul_le (by omega)).1 h5
  rw [Int.add_mul] at h6
  omega
theorem RdI.sub {w : World} {b : Option Addr} {cap cap' : Nat} {xs : List Int} (h : RdI w (.slice b xs.length cap) xs) {s k : Nat} (hk : s + k ≤ xs.length) (hk0 : 0 < k) :
    RdI w (.slice (b.map (fun x => x.add s)) k cap') ((xs.drop s).take k) := by
  rcases h.op with ⟨a', c', e1, rfl⟩ | ⟨b1, o1, c1, e0, hb1, h1⟩
  · simp at hk; omega
  · simp only [Value.slice.injEq] at e0
    obtain ⟨rfl, _, rfl⟩ := e0
    have hl : (((xs.drop s).take k).map (Value.int .i64)).length = k := by simp; omega
    refine ⟨some ⟨b1, o1 + s, none⟩, cap', by rw [hl]; simp [Addr.add], .inr ⟨b1, o1 + s, rfl, hb1, fun i hi => ?_⟩⟩
    rw [hl] at hi
    have := h1 (s + i) (by omega)
    rw [show o1 + s + i = o1 + (s + i) from by omega, this]
    have hlt : s + i < xs.length := by omega
    simp [List.getD, hi, hlt]
/-- the entries of a page -/
def pgE (xs : List Int) (start m : Nat) : List Int := (xs.drop start).take m
theorem c_entriesOfPage (r a c : Int) (b : Option Addr) (cap : Nat) (xs : List Int) (p : Int) (w0 w : World) (ha : RdI w0 (.slice b xs.length cap) xs) (hcap : xs.length ≤ cap) (hcap2 : cap ≤ 9223372036854775807) (hv : pgB r a c xs p = true) :
    Calls Tryz.prog 33 #[(.agg #[.int .i64 r, .int .i64 a, .int .i64 c]), .slice b xs.length cap, (.int .i64 (p))] w fun e w' => (∃ v', e = .returned v' ∧ RdI w0 v' (pgE xs (p * (r * a)).toNat (r * a).toNat)) ∧ Below w.heap.size w w' := by
  obtain ⟨hl, ht, p0, p1⟩ := pgB_iff hv
  obtain ⟨t1, t2, _⟩ := tabB_iff ht
  obtain ⟨l1, l2, l3, l4, l5, l6, l7, l8⟩ := lay_mul hl
  have q0 : 0 ≤ p * (r * a) := Int.mul_nonneg p0 (by omega)
  obtain ⟨s, hs⟩ : ∃ s : Nat, p * (r * a) = s := ⟨(p * (r * a)).toNat, by omega⟩
  have HS : Hid (p * (r * a) = s) := hs
  rw [hs] at p1 q0
  obtain ⟨m, hm⟩ : ∃ m : Nat, r * a = m := ⟨(r * a).toNat, by omega⟩
  have HM : Hid (r * a = m) := hm
  have pm0 : 0 ≤ p * (m : Int) := by rw [← hm, hs]; omega
  have pm1 : p * (m : Int) < xs.length := by rw [← hm, hs]; omega
  have PM : Hid (p * (m : Int) = s) := by show _ = _; rw [← hm, hs]
  have m0 : 1 ≤ (m : Int) := by omega
  have m1 : (m : Int) ≤ 120 := by omega
  clear hs hm ht hv
  go_enter Tryz.func33, Tryz.ntmps33
  go_wp2_with fail
  refine (c_places _ _ _ _ hl).mono ?_
  rw [HM.out]
  rintro e w1 ⟨rfl, hB1⟩
  obtain ⟨_, k0, k1, k2⟩ := keep3_0 hB1
  replace k0 : w1.cell? ⟨w.heap.size, 0, none⟩ = some (.int .i64 (r)) := k0
  replace k1 : w1.cell? ⟨w.heap.size, 1, none⟩ = some (.int .i64 (a)) := k1
  replace k2 : w1.cell? ⟨w.heap.size, 2, none⟩ = some (.int .i64 (c)) := k2
  go_wp2_with fail
  rw [PM.out]
  refine (c_places _ _ _ _ hl).mono ?_
  rw [HM.out]
  rintro e w2 ⟨rfl, hB2⟩
  clear pm0 pm1 k0 k1 k2
  have hA := bthen (balloc hB1) hB2
  go_wp2_with fail
  all_goals
    go_ret
    rw [HS.out, HM.out, Int.toNat_natCast, Int.toNat_natCast]
    refine ⟨⟨_, rfl, ?_⟩, hA⟩
    unfold pgE
    first
      | (have e : (xs.drop s).take m = (xs.drop s).take (xs.length - s) := by rw [List.take_of_length_le (by simp; omega), List.take_of_length_le (by simp)]
         rw [e]; exact ha.sub (k := xs.length - s) (by omega) (by omega))
      | (have e : ((s : Int) + (m : Int)).toNat - s = m := by omega
         have h9 := ha.sub (s := s) (k := m) (cap' := cap - s) (by omega) (by omega)
         show RdI w0 (Value.slice (Option.map (fun x => x.add s) b) (((s : Int) + (m : Int)).toNat - s) (cap - s)) _
         rw [e]
         exact h9)

/-- the sum of m entries from f on -/
def csum (xs : List Int) (f : Nat) : Nat → Int
  | 0 => 0
  | m + 1 => csum xs f m + xs.getD (f + m) 0
theorem getD_out {xs : List Int} {k : Nat} (h : xs.length ≤ k) : xs.getD k 0 = 0 := by
  simp [List.getD, List.getElem?_eq_none h]
theorem csum_more (xs : List Int) (f k : Nat) (h : xs.length ≤ f + k) (d : Nat) : csum xs f (k + d) = csum xs f k := by
  induction d with
  | zero => rfl
  | succ d ih => rw [← Nat.add_assoc, csum, ih, getD_out (by omega)]; simp
theorem csum_end {xs : List Int} {f k n : Nat} (h : xs.length ≤ f + k) (hk : k ≤ n) : csum xs f n = csum xs f k := by
  have := csum_more xs f k h (n - k)
  rwa [show k + (n - k) = n from by omega] at this
theorem getD_bd {xs : List Int} (h : allIn xs 1000000000 = true) (k : Nat) : -1000000000 ≤ xs.getD k 0 ∧ xs.getD k 0 ≤ 1000000000 := by
  by_cases hk : k < xs.length
  · exact allIn_get h hk
  · rw [getD_out (by omega)]; omega
theorem csum_bd {xs : List Int} (h : allIn xs 1000000000 = true) (f m : Nat) : -(1000000000 * (m : Int)) ≤ csum xs f m ∧ csum xs f m ≤ 1000000000 * (m : Int) := by
  induction m with
  | zero => simp [csum]
  | succ m ih =>
    have h2 := getD_bd h (f + m)
    rw [csum]
    omega
/-- the sums of a page's columns after k entries -/
def psR (xs : List Int) (s r a k : Nat) : List Int := (List.range a).map fun col => csum xs (s + col * r) (min r (k - col * r))
def psL (xs : List Int) (s r a : Nat) : List Int := (List.range a).map fun col => csum xs (s + col * r) r
theorem psR_len (xs : List Int) (s r a k : Nat) : (psR xs s r a k).length = a := by simp [psR]
theorem psR_zero (xs : List Int) (s r a : Nat) : psR xs s r a 0 = List.replicate a 0 := by
  unfold psR
  apply List.ext_getElem
  · simp
  · intro i h1 h2; simp [csum]
theorem psR_at {xs : List Int} {s r a k : Nat} (hr : 0 < r) (hk : k < r * a) : k / r < a ∧ (psR xs s r a k).getD (k / r) 0 = csum xs (s + k / r * r) (k % r) := by
  have h1 : k / r < a := (Nat.div_lt_iff_lt_mul hr).2 (by rw [Nat.mul_comm]; exact hk)
  have h2 := Nat.div_add_mod k r
  have h3 := Nat.mod_lt k hr
  rw [Nat.mul_comm] at h2
  refine ⟨h1, ?_⟩
  simp only [psR, List.getD, List.getElem?_map, List.getElem?_range h1, Option.map_some, Option.getD_some]
  rw [show min r (k - k / r * r) = k % r from by omega]
theorem psR_set {xs : List Int} {s r a k : Nat} (hr : 0 < r) (hk : k < r * a) : (psR xs s r a k).set (k / r) (csum xs (s + k / r * r) (k % r) + xs.getD (s + k) 0) = psR xs s r a (k + 1) := by
  have h2 := Nat.div_add_mod k r
  have h3 := Nat.mod_lt k hr
  rw [Nat.mul_comm] at h2
  apply List.ext_getElem
  · simp [psR]
  · intro i h4 h5
    simp only [psR, List.length_map, List.length_range] at h5
    simp only [psR, List.getElem_set, List.getElem_map, List.getElem_range]
    split
    · rename_i e
      subst e
      rw [show min r (k + 1 - k / r * r) = k % r + 1 from by omega, csum, show s + k / r * r + k % r = s + k from by omega]
    · rename_i e
      congr 1
      rcases Nat.lt_or_gt_of_ne e with h | h
      · have := Nat.mul_le_mul_right r (show k / r + 1 ≤ i by omega)
        rw [Nat.add_mul] at this
        omega
      · have := Nat.mul_le_mul_right r (show i + 1 ≤ k / r by omega)
        rw [Nat.add_mul] at this
        omega
theorem psR_end {xs : List Int} {s r a m : Nat} (h : m = r * a ∨ m = xs.length - s) : psR xs s r a m = psL xs s r a := by
  unfold psR psL
  apply List.map_congr_left
  intro col hc
  have hc := List.mem_range.1 hc
  rcases h with rfl | rfl
  · have := Nat.mul_le_mul_right r (show col + 1 ≤ a by omega)
    rw [Nat.add_mul, Nat.mul_comm a r] at this
    rw [show min r (r * a - col * r) = r from by omega]
  · rcases Nat.le_total r (xs.length - s - col * r) with h | h
    · rw [Nat.min_eq_left h]
    · rw [Nat.min_eq_right h]
      exact (csum_end (by omega) h).symm
end Go.Proofs.YtdgnhplaakjlgaaGreatDoor
