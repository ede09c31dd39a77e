/- Contracts of the layout functions: a layout's validity, its places, the pages that are needed, a place's index: program and reference compute the same integer functions. -/
import Derived.Test.YtjlehpoicplmpaaSl
import Derived.WalkKit
import Derived.ProofKit
import Derived.Deep.RegionHeld3
import Derived.Deep.Light
import Derived.Deep.QuietTactic
import Derived.BigQuiet
import Derived.WalkSmall
namespace Go.Proofs.Ytjlehpoicplmpaa
set_option linter.unusedVariables false
open Go.RowKit



theorem keep3 {w1 wa wb : World} {b : Nat} {v0 v1 v2 : Value} (hb : b < w1.heap.size) (h : Below w1.heap.size w1 wa ∧ wa.cell? ⟨b, 0, none⟩ = some v0 ∧ wa.cell? ⟨b, 1, none⟩ = some v1 ∧ wa.cell? ⟨b, 2, none⟩ = some v2) (k : Below wa.heap.size wa wb) :
    Below w1.heap.size w1 wb ∧ wb.cell? ⟨b, 0, none⟩ = some v0 ∧ wb.cell? ⟨b, 1, none⟩ = some v1 ∧ wb.cell? ⟨b, 2, none⟩ = some v2 := by
  obtain ⟨h0, h1, h2, h3⟩ := h
  have hs := h0.size
  obtain ⟨hc, _⟩ := bcell k
  exact ⟨bthen h0 k, by rw [hc _ _ (by omega)]; exact h1, by rw [hc _ _ (by omega)]; exact h2, by rw [hc _ _ (by omega)]; exact h3⟩
theorem keep3_0 {w w1 : World} {v0 v1 v2 : Value} {t : TypeId} (hb : Below (w.alloc (.cells #[v0, v1, v2] t)).heap.size (w.alloc (.cells #[v0, v1, v2] t)) w1) :
    Below w1.heap.size w1 w1.drew ∧ w1.drew.cell? ⟨w.heap.size, 0, none⟩ = some v0 ∧ w1.drew.cell? ⟨w.heap.size, 1, none⟩ = some v1 ∧ w1.drew.cell? ⟨w.heap.size, 2, none⟩ = some v2 := by
  obtain ⟨hc, _⟩ := bcell hb
  refine ⟨(Below.refl _ _).drew, ?_, ?_, ?_⟩ <;> (show w1.cell? _ = _; rw [hc _ _ (by simp)]; simp [go_sem])

theorem keep3_1 {w w1 w2 : World} {v0 v1 v2 : Value} {t : TypeId} (hb : Below (w.alloc (.cells #[v0, v1, v2] t)).heap.size (w.alloc (.cells #[v0, v1, v2] t)) w1) (hb2 : Below w1.heap.size w1 w2) :
    Below w2.heap.size w2 w2.drew ∧ w2.drew.cell? ⟨w.heap.size, 0, none⟩ = some v0 ∧ w2.drew.cell? ⟨w.heap.size, 1, none⟩ = some v1 ∧ w2.drew.cell? ⟨w.heap.size, 2, none⟩ = some v2 :=
  keep3_0 (hb.trans (hb2.mono hb.size))

def layB (r a c : Int) : Bool := decide (1 ≤ r ∧ r ≤ 20 ∧ 1 ≤ a ∧ a ≤ 6 ∧ 1 ≤ c ∧ c ≤ 12)

def inB (n a b : Int) : Bool := decide (a ≤ n ∧ n ≤ b)
theorem inB_t {n a b : Int} (h1 : a ≤ n) (h2 : n ≤ b) : inB n a b = true := decide_eq_true ⟨h1, h2⟩
theorem inB_f {n a b : Int} (h : ¬ (a ≤ n ∧ n ≤ b)) : inB n a b = false := decide_eq_false h
theorem inB_iff {n a b : Int} : inB n a b = true ↔ a ≤ n ∧ n ≤ b := decide_eq_true_iff
theorem c_l1In (n a b : Int) (w : World) :
    Calls Try.prog 74 #[(.int .i64 (n)), (.int .i64 (a)), (.int .i64 (b))] w fun e w' => e = .returned (.bool (inB n a b)) ∧ w = w' := by
  go_enter Try.func74, Try.ntmps74
  go_wp2
  all_goals (go_ret; refine ⟨ret_bool ?_, rfl⟩; go_light; unfold inB; simp; try omega)

theorem c_impl_LayoutValid (r a c : Int) (w : World) :
    Calls Try.prog 71 #[(.agg #[.int .i64 r, .int .i64 a, .int .i64 c])] w fun e w' => e = .returned (.bool (layB r a c)) ∧ Below w.heap.size w w' := by
  go_enter Try.func71, Try.ntmps71
  go_wp2
  all_goals (go_ret; refine ⟨ret_bool ?_, (Below.refl _ _).alloc (Nat.le_refl _) _⟩; go_light; unfold layB; rw [Bool.eq_iff_iff]; simp; try omega)

theorem c_spec_LayoutValid (r a c : Int) (w : World) :
    Calls Try.prog 73 #[(.agg #[.int .i64 r, .int .i64 a, .int .i64 c])] w fun e w' => e = .returned (.bool (layB r a c)) ∧ Below w.heap.size w w' := by
  go_enter Try.func73, Try.ntmps73
  go_wp2_with (go_at_call 74; refine (c_l1In _ _ _ _).mono ?_; rintro e w' ⟨rfl, rfl⟩)
  all_goals (go_ret; refine ⟨ret_bool ?_, (Below.refl _ _).alloc (Nat.le_refl _) _⟩; go_light; unfold layB; rw [Bool.eq_iff_iff]; simp_all [inB]; try omega)

theorem c_places (r a c : Int) (w : World) (hv : layB r a c = true) :
    Calls Try.prog 72 #[(.agg #[.int .i64 r, .int .i64 a, .int .i64 c])] w fun e w' => e = .returned (.int .i64 ((r * a))) ∧ Below w.heap.size w w' := by
  have h : 1 ≤ r ∧ r ≤ 20 ∧ 1 ≤ a ∧ a ≤ 6 := by unfold layB at hv; simp at hv; omega
  obtain ⟨h1, h2, h3, h4⟩ := h
  have h5 : 0 ≤ r * a := Int.mul_nonneg (by omega) (by omega)
  have h6 : r * a ≤ 120 := Int.mul_le_mul h2 h4 (by omega) (by omega)
  go_enter Try.func72, Try.ntmps72
  go_wp2
  go_ret
  exact ⟨rfl, (Below.refl _ _).alloc (Nat.le_refl _) _⟩

theorem c_countValid (n : Int) (w : World) :
    Calls Try.prog 76 #[(.int .i64 (n))] w fun e w' => e = .returned (.bool (inB n 0 60)) ∧ w = w' := by
  go_enter Try.func76, Try.ntmps76
  go_wp2
  all_goals (go_ret; refine ⟨ret_bool ?_, rfl⟩; go_light; unfold inB; simp; try omega)

theorem c_toLayout (r a c : Int) (w : World) :
    Calls Try.prog 44 #[(.agg #[.int .i64 r, .int .i64 a, .int .i64 c])] w fun e w' => e = .returned (.agg #[.int .i64 r, .int .i64 a, .int .i64 c]) ∧ Below w.heap.size w w' := by
  go_enter Try.func44, Try.ntmps44
  go_wp2
  exact bodyPost_ret (v := (.agg #[.int .i64 r, .int .i64 a, .int .i64 c])) (by simp [results, Try.results44, go_sem]) rfl ⟨rfl, (((Below.refl _ _).alloc (Nat.le_refl _) _).alloc (by simp) _).alloc (by simp; omega) _⟩

def pnF (r a c n : Int) : Int := if layB r a c = true ∧ 0 ≤ n ∧ n ≤ 60 then (n + r * a - 1) / (r * a) else -1
theorem lay_mul {r a c : Int} (hv : layB r a c = true) : 1 ≤ r ∧ r ≤ 20 ∧ 1 ≤ a ∧ a ≤ 6 ∧ 1 ≤ c ∧ c ≤ 12 ∧ 1 ≤ r * a ∧ r * a ≤ 120 := by
  have h : 1 ≤ r ∧ r ≤ 20 ∧ 1 ≤ a ∧ a ≤ 6 ∧ 1 ≤ c ∧ c ≤ 12 := by unfold layB at hv; simpa using hv
  obtain ⟨h1, h2, h3, h4, h5, h6⟩ := h
  have h7 : 1 * 1 ≤ r * a := Int.mul_le_mul h1 h3 (by omega) (by omega)
  have h8 : r * a ≤ 20 * 6 := Int.mul_le_mul h2 h4 (by omega) (by omega)
  omega

theorem c_spec_PagesNeeded (r a c n : Int) (w : World) :
    Calls Try.prog 80 #[(.agg #[.int .i64 r, .int .i64 a, .int .i64 c]), (.int .i64 (n))] w fun e w' => e = .returned (.int .i64 ((pnF r a c n))) ∧ Below w.heap.size w w' := by
  by_cases h : layB r a c = true ∧ 0 ≤ n ∧ n ≤ 60
  · have e : pnF r a c n = (n + r * a - 1) / (r * a) := if_pos h
    obtain ⟨hv, hn, hm⟩ := h
    have hi := inB_t hn hm
    obtain ⟨h1, h2, h3, h4, h5, h6, h7, h8⟩ := lay_mul hv
    go_enter Try.func80, Try.ntmps80
    go_wp2_with (first | (go_at_call 74; refine (c_l1In _ _ _ _).mono ?_; rintro e w' ⟨rfl, rfl⟩) | (go_at_call 73; refine (c_spec_LayoutValid _ _ _ _).mono ?_; rintro e w1 ⟨rfl, hb⟩; obtain ⟨hc, hf⟩ := bcell hb))
    go_ret
    exact ⟨ret_int e.symm, balloc hb⟩
  · have e : pnF r a c n = -1 := if_neg h
    by_cases hv : layB r a c = true
    · have hn : inB n 0 60 = false := inB_f (fun q => h ⟨hv, q⟩)
      clear h
      go_enter Try.func80, Try.ntmps80
      go_wp2_with (first | (go_at_call 74; refine (c_l1In _ _ _ _).mono ?_; rintro e w' ⟨rfl, rfl⟩) | (go_at_call 73; refine (c_spec_LayoutValid _ _ _ _).mono ?_; rintro e w1 ⟨rfl, hb⟩; obtain ⟨hc, hf⟩ := bcell hb))
      go_ret
      exact ⟨ret_int e.symm, balloc hb⟩
    · have hv' : layB r a c = false := by simpa using hv
      clear h hv
      go_enter Try.func80, Try.ntmps80
      go_wp2_with (first | (go_at_call 74; refine (c_l1In _ _ _ _).mono ?_; rintro e w' ⟨rfl, rfl⟩) | (go_at_call 73; refine (c_spec_LayoutValid _ _ _ _).mono ?_; rintro e w1 ⟨rfl, hb⟩; obtain ⟨hc, hf⟩ := bcell hb))
      go_ret
      exact ⟨ret_int e.symm, balloc hb⟩

theorem c_impl_PagesNeeded (r a c n : Int) (w : World) :
    Calls Try.prog 40 #[(.agg #[.int .i64 r, .int .i64 a, .int .i64 c]), (.int .i64 (n))] w fun e w' => e = .returned (.int .i64 ((pnF r a c n))) ∧ Below w.heap.size w w' := by
  by_cases h : layB r a c = true ∧ 0 ≤ n ∧ n ≤ 60
  · have e : pnF r a c n = (n + r * a - 1) / (r * a) := if_pos h
    obtain ⟨hv, hn, hm⟩ := h
    have hi := inB_t hn hm
    obtain ⟨h1, h2, h3, h4, h5, h6, h7, h8⟩ := lay_mul hv
    go_enter Try.func40, Try.ntmps40
    go_wp2_with (first | (go_at_call 72; refine (c_places _ _ _ _ hv).mono ?_; rintro e w2 ⟨rfl, hb2⟩; obtain ⟨hc2, hf2⟩ := bcell hb2) | (go_at_call 76; refine (c_countValid _ _).mono ?_; rintro e w' ⟨rfl, rfl⟩) | (go_at_call 71; refine (c_impl_LayoutValid _ _ _ _).mono ?_; rintro e w1 ⟨rfl, hb⟩; obtain ⟨hc, hf⟩ := bcell hb))
    have hz : w.heap.size < w1.heap.size := by have := hb.size; simp at this; omega
    have hk0 := keep3_0 hb
    have hr0 : (r * a = 0) = False := by simp; omega
    have hw1 : IntKind.i64.wrap (n + r * a) = n + r * a := IntWalk.i64_in _ (by omega)
    have hw2 : IntKind.i64.wrap (n + r * a - 1) = n + r * a - 1 := IntWalk.i64_in _ (by omega)
    have hw3 : IntKind.i64.wrap ((n + r * a - 1).tdiv (r * a)) = (n + r * a - 1) / (r * a) := IntWalk.i64_quo _ _ (by omega)
    go_region_held3 (fun wx => Below w1.heap.size w1 wx ∧ wx.cell? ⟨w.heap.size, 0, none⟩ = some (.int .i64 (r)) ∧ wx.cell? ⟨w.heap.size, 1, none⟩ = some (.int .i64 (a)) ∧ wx.cell? ⟨w.heap.size, 2, none⟩ = some (.int .i64 (c))) (first | assumption | exact hk0 | exact keep3 hz (by assumption) (by assumption))
      (first | (go_at_call 72; refine (c_places _ _ _ _ hv).mono ?_; rintro e w2 ⟨rfl, hb2⟩))
    clear hw1 hw2 hw3 hr0
    rename_i hS
    go_wp2
    go_ret
    exact ⟨ret_int e.symm, bthen (balloc hb) hS.1⟩
  · have e : pnF r a c n = -1 := if_neg h
    by_cases hv : layB r a c = true
    · have hn : inB n 0 60 = false := inB_f (fun q => h ⟨hv, q⟩)
      clear h
      go_enter Try.func40, Try.ntmps40
      go_wp2_with (first | (go_at_call 76; refine (c_countValid _ _).mono ?_; rintro e w' ⟨rfl, rfl⟩) | (go_at_call 71; refine (c_impl_LayoutValid _ _ _ _).mono ?_; rintro e w1 ⟨rfl, hb⟩; obtain ⟨hc, hf⟩ := bcell hb))
      go_ret
      exact ⟨ret_int e.symm, balloc hb⟩
    · have hv' : layB r a c = false := by simpa using hv
      clear h hv
      go_enter Try.func40, Try.ntmps40
      go_wp2_with (first | (go_at_call 76; refine (c_countValid _ _).mono ?_; rintro e w' ⟨rfl, rfl⟩) | (go_at_call 71; refine (c_impl_LayoutValid _ _ _ _).mono ?_; rintro e w1 ⟨rfl, hb⟩; obtain ⟨hc, hf⟩ := bcell hb))
      go_ret
      exact ⟨ret_int e.symm, balloc hb⟩

def plB (r a c i : Int) : Bool := layB r a c && decide (0 ≤ i ∧ i < 60)
def plP (r a c i : Int) : Int := if plB r a c i = true then i / (r * a) else 0
def plR (r a c i : Int) : Int := if plB r a c i = true then (i % (r * a)) % r else 0
def plC (r a c i : Int) : Int := if plB r a c i = true then (i % (r * a)) / r else 0

theorem c_impl_PlaceOf (r a c i : Int) (w : World) :
    Calls Try.prog 37 #[(.agg #[.int .i64 r, .int .i64 a, .int .i64 c]), (.int .i64 (i))] w fun e w' => e = .returned (.tuple #[(.int .i64 (plP r a c i)), (.int .i64 (plR r a c i)), (.int .i64 (plC r a c i)), .bool (plB r a c i)]) ∧ Below w.heap.size w w' := by
  by_cases h : layB r a c = true ∧ 0 ≤ i ∧ i < 60
  · obtain ⟨hv, hn, hm⟩ := h
    have E : Hid (plB r a c i = true ∧ plP r a c i = i / (r * a) ∧ plR r a c i = (i % (r * a)) % r ∧ plC r a c i = (i % (r * a)) / r) := by
      have e0 : plB r a c i = true := by unfold plB; simp [hv]; omega
      exact ⟨e0, if_pos e0, if_pos e0, if_pos e0⟩
    obtain ⟨h1, h2, h3, h4, h5, h6, h7, h8⟩ := lay_mul hv
    have hp1 : 0 ≤ i % (r * a) := Int.emod_nonneg _ (by omega)
    have hp2 : i % (r * a) < r * a := Int.emod_lt_of_pos _ (by omega)
    go_enter Try.func37, Try.ntmps37
    go_wp2_with (first | (go_at_call 72; refine (c_places _ _ _ _ hv).mono ?_; rintro e w2 ⟨rfl, hb2⟩; obtain ⟨hc2, hf2⟩ := bcell hb2) | (go_at_call 71; refine (c_impl_LayoutValid _ _ _ _).mono ?_; rintro e w1 ⟨rfl, hb⟩; obtain ⟨hc, hf⟩ := bcell hb))
    have hz : w.heap.size < w1.heap.size := by have := hb.size; simp at this; omega
    have hz2 : w.heap.size < w2.heap.size := by have := hb2.size; omega
    have hk0 := keep3_1 hb hb2
    have hr0 : (r * a = 0) = False := by simp; omega
    have hr1 : (r = 0) = False := by simp; omega
    have hw3 : IntKind.i64.wrap (i.tdiv (r * a)) = i / (r * a) := IntWalk.i64_quo _ _ (by omega)
    have hw4 : IntKind.i64.wrap ((i % (r * a)).tdiv r) = (i % (r * a)) / r := IntWalk.i64_quo _ _ (by omega)
    have hw5 : (i % (r * a)).tmod r = (i % (r * a)) % r := IntWalk.rem_in _ _ hp1
    go_region_held3 (fun wx => Below w2.heap.size w2 wx ∧ wx.cell? ⟨w.heap.size, 0, none⟩ = some (.int .i64 (r)) ∧ wx.cell? ⟨w.heap.size, 1, none⟩ = some (.int .i64 (a)) ∧ wx.cell? ⟨w.heap.size, 2, none⟩ = some (.int .i64 (c))) (first | assumption | exact hk0 | exact keep3 hz2 (by assumption) (by assumption))
      (first | (go_at_call 72; refine (c_places _ _ _ _ hv).mono ?_; rintro e w3 ⟨rfl, hb3⟩))
    clear hw3 hw4 hw5 hr0 hr1
    rename_i hS
    go_wp2
    refine bodyPost_ret (v := .tuple #[(.int .i64 (i / (r * a))), (.int .i64 (i % r)), (.int .i64 (i % (r * a) / r)), .bool true]) (by simp [results, Try.results37, go_sem]) rfl ⟨?_, bthen (bthen (balloc hb) hb2) hS.1⟩
    obtain ⟨e0, e1, e2, e3⟩ := E.out
    rw [e0, e1, e2, e3]; simp
  · have E : Hid (plB r a c i = false ∧ plP r a c i = 0 ∧ plR r a c i = 0 ∧ plC r a c i = 0) := by
      have e0 : plB r a c i = false := by unfold plB; simpa using h
      exact ⟨e0, if_neg (by simp [e0]), if_neg (by simp [e0]), if_neg (by simp [e0])⟩
    have hd : layB r a c = false ∨ (layB r a c = true ∧ i < 0) ∨ (layB r a c = true ∧ 0 ≤ i ∧ 60 ≤ i) := by
      cases hl : layB r a c
      · exact .inl rfl
      · refine .inr ?_
        by_cases hi : i < 0
        · exact .inl ⟨rfl, hi⟩
        · exact .inr ⟨rfl, by omega, Int.not_lt.1 (fun q => h ⟨hl, by omega, q⟩)⟩
    clear h
    rcases hd with hl | ⟨hl, hi⟩ | ⟨hl, hi, hj⟩
    all_goals
      go_enter Try.func37, Try.ntmps37
      go_wp2_with (first | (go_at_call 71; refine (c_impl_LayoutValid _ _ _ _).mono ?_; rintro e w1 ⟨rfl, hb⟩; obtain ⟨hc, hf⟩ := bcell hb))
      refine bodyPost_ret (v := .tuple #[(.int .i64 (0)), (.int .i64 (0)), (.int .i64 (0)), .bool false]) (by simp [results, Try.results37, go_sem]) rfl ⟨?_, balloc hb⟩
      obtain ⟨e0, e1, e2, e3⟩ := E.out
      rw [e0, e1, e2, e3]

theorem c_spec_PlaceOf (r a c i : Int) (w : World) :
    Calls Try.prog 39 #[(.agg #[.int .i64 r, .int .i64 a, .int .i64 c]), (.int .i64 (i))] w fun e w' => e = .returned (.tuple #[(.int .i64 (plP r a c i)), (.int .i64 (plR r a c i)), (.int .i64 (plC r a c i)), .bool (plB r a c i)]) ∧ Below w.heap.size w w' := by
  by_cases h : layB r a c = true ∧ 0 ≤ i ∧ i < 60
  · obtain ⟨hv, hn, hm⟩ := h
    have E : Hid (plB r a c i = true ∧ plP r a c i = i / (r * a) ∧ plR r a c i = (i % (r * a)) % r ∧ plC r a c i = (i % (r * a)) / r) := by
      have e0 : plB r a c i = true := by unfold plB; simp [hv]; omega
      exact ⟨e0, if_pos e0, if_pos e0, if_pos e0⟩
    obtain ⟨h1, h2, h3, h4, h5, h6, h7, h8⟩ := lay_mul hv
    have hp1 : 0 ≤ i % (r * a) := Int.emod_nonneg _ (by omega)
    have hp2 : i % (r * a) < r * a := Int.emod_lt_of_pos _ (by omega)
    have hm' : inB i 0 59 = true := inB_t hn (by omega)
    go_enter Try.func39, Try.ntmps39
    go_wp2_with (first | (go_at_call 74; refine (c_l1In _ _ _ _).mono ?_; rintro e w' ⟨rfl, rfl⟩) | (go_at_call 73; refine (c_spec_LayoutValid _ _ _ _).mono ?_; rintro e w1 ⟨rfl, hb⟩; obtain ⟨hc, hf⟩ := bcell hb))
    have hr0 : (r * a = 0) = False := by simp; omega
    have hr1 : (r = 0) = False := by simp; omega
    have hw1 : IntKind.i64.wrap (r * a) = r * a := IntWalk.i64_in _ (by omega)
    have hw3 : IntKind.i64.wrap (i.tdiv (r * a)) = i / (r * a) := IntWalk.i64_quo _ _ (by omega)
    have hw4 : IntKind.i64.wrap ((i % (r * a)).tdiv r) = (i % (r * a)) / r := IntWalk.i64_quo _ _ (by omega)
    have hw5 : (i % (r * a)).tmod r = (i % (r * a)) % r := IntWalk.rem_in _ _ hp1
    go_quiet (fail)
    clear hw1 hw3 hw4 hw5 hr0 hr1
    go_wp2
    refine bodyPost_ret (v := .tuple #[(.int .i64 (i / (r * a))), (.int .i64 (i % r)), (.int .i64 (i % (r * a) / r)), .bool true]) (by simp [results, Try.results39, go_sem]) rfl ⟨?_, below_drewN (balloc hb) _⟩
    obtain ⟨e0, e1, e2, e3⟩ := E.out
    rw [e0, e1, e2, e3]; simp
  · have E : Hid (plB r a c i = false ∧ plP r a c i = 0 ∧ plR r a c i = 0 ∧ plC r a c i = 0) := by
      have e0 : plB r a c i = false := by unfold plB; simpa using h
      exact ⟨e0, if_neg (by simp [e0]), if_neg (by simp [e0]), if_neg (by simp [e0])⟩
    have hd : layB r a c = false ∨ (layB r a c = true ∧ inB i 0 59 = false) := by
      cases hl : layB r a c
      · exact .inl rfl
      · exact .inr ⟨rfl, inB_f (fun q => h ⟨hl, q.1, by omega⟩)⟩
    clear h
    rcases hd with hl | ⟨hl, hi⟩
    all_goals
      go_enter Try.func39, Try.ntmps39
      go_wp2_with (first | (go_at_call 74; refine (c_l1In _ _ _ _).mono ?_; rintro e w' ⟨rfl, rfl⟩) | (go_at_call 73; refine (c_spec_LayoutValid _ _ _ _).mono ?_; rintro e w1 ⟨rfl, hb⟩; obtain ⟨hc, hf⟩ := bcell hb))
      refine bodyPost_ret (v := .tuple #[(.int .i64 (0)), (.int .i64 (0)), (.int .i64 (0)), .bool false]) (by simp [results, Try.results39, go_sem]) rfl ⟨?_, balloc hb⟩
      obtain ⟨e0, e1, e2, e3⟩ := E.out
      rw [e0, e1, e2, e3]
end Go.Proofs.Ytjlehpoicplmpaa
