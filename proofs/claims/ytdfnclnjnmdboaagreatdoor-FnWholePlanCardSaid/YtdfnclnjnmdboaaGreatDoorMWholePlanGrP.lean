/- Lemmas and contracts for WholePlan (GrP): plain words on memory, contracts of the functions that the law reaches. No condition but what each states. -/
import Derived.Test.YtdfnclnjnmdboaaGreatDoorMWholePlanPlan4
namespace Go.Proofs.YtdfnclnjnmdboaaGreatDoor
set_option linter.unusedVariables false
open Go.RowKit

/-- small numbers, at most sixty -/
def smP (l : List Int) : Prop := (∀ x ∈ l, -1500 ≤ x ∧ x ≤ 1500) ∧ l.length ≤ 60
theorem smP.take {l : List Int} (h : smP l) (m : Nat) : smP (l.take m) := ⟨fun x hx => h.1 x (List.mem_of_mem_take hx), by have := h.2; simp; omega⟩
theorem smP.drop {l : List Int} (h : smP l) (m : Nat) : smP (l.drop m) := ⟨fun x hx => h.1 x (List.mem_of_mem_drop hx), by have := h.2; simp; omega⟩
theorem smP.tab {l : List Int} (h : smP l) (h1 : 1 ≤ l.length) : tabB l = true := by
  unfold tabB
  rw [inB_t (by omega) (by have := h.2; omega), allIn_of (fun x hx => by have := h.1 x hx; omega)]; rfl
def smallB (l : List Int) : Bool := tabB l && allIn l 1500
theorem smallB_iff {l : List Int} : smallB l = true ↔ smP l ∧ 1 ≤ l.length := by
  unfold smallB smP
  rw [Bool.and_eq_true]
  constructor
  · rintro ⟨h1, h2⟩
    obtain ⟨a, b, c⟩ := tabB_iff h1
    exact ⟨⟨allIn_mem h2, b⟩, a⟩
  · rintro ⟨h1, h2⟩
    exact ⟨smP.tab h1 h2, allIn_of h1.1⟩
theorem int_small {l : List Int} (h : smP l) (h1 : 1 ≤ l.length) (h6 : ld l ≤ 6) : intB l = true := by
  unfold intB
  rw [h.tab h1, decide_eq_true h6]
  have hl := ip_len h1 h6
  have hb := ipN_bd l
  have : iplN l ≤ 7 := by unfold iplN; omega
  rw [polyB_of (by omega) (by omega) (ip_small h1 h6 h.1)]; rfl
theorem run_small {l : List Int} {d : Int} (h : smP l) (h1 : 1 ≤ l.length) (hd : d ≤ 6) : runB l d = decide (ld l ≤ d) := by
  unfold runB
  rw [h.tab h1]
  by_cases hle : ld l ≤ d
  · rw [decide_eq_true hle, int_small h h1 (by omega)]; rfl
  · rw [decide_eq_false hle]; rfl
/-- how many numbers from the first one on have a polynomial of at most a degree -/
def lgF (l : List Int) (d : Int) : Nat → Nat → Nat
  | 0, n => n
  | f + 1, n => if runB (l.take (n + 1)) d = true then lgF l d f (n + 1) else n
def lg (l : List Int) (d : Int) : Nat := lgF l d l.length 0
theorem lgF_prop (l : List Int) (d : Int) : ∀ f n, n + f = l.length → n ≤ lgF l d f n ∧ lgF l d f n ≤ l.length ∧ (lgF l d f n = l.length ∨ runB (l.take (lgF l d f n + 1)) d = false) ∧ ∀ m, n < m → m ≤ lgF l d f n → runB (l.take m) d = true
  | 0, n, h => by
    unfold lgF
    exact ⟨by omega, by omega, .inl (by omega), fun m h1 h2 => by omega⟩
  | f + 1, n, h => by
    unfold lgF
    by_cases hr : runB (l.take (n + 1)) d = true
    · rw [if_pos hr]
      obtain ⟨a, b, c, e⟩ := lgF_prop l d f (n + 1) (by omega)
      refine ⟨by omega, b, c, fun m h1 h2 => ?_⟩
      by_cases hm : m = n + 1
      · subst hm; exact hr
      · exact e m (by omega) h2
    · rw [if_neg hr]
      exact ⟨by omega, by omega, .inr (by simpa using hr), fun m h1 h2 => by omega⟩
theorem lg_le (l : List Int) (d : Int) : lg l d ≤ l.length := (lgF_prop l d l.length 0 (by omega)).2.1
theorem lg_run {l : List Int} {d : Int} {m : Nat} (h1 : 1 ≤ m) (h : m ≤ lg l d) : runB (l.take m) d = true := (lgF_prop l d l.length 0 (by omega)).2.2.2 m (by omega) h
theorem lg_pos {l : List Int} {d : Int} (h : smP l) (h1 : 1 ≤ l.length) (h0 : 0 ≤ d) (h6 : d ≤ 6) : 1 ≤ lg l d := by
  obtain ⟨_, _, hc, _⟩ := lgF_prop l d l.length 0 (by omega)
  unfold lg
  rcases hc with hc | hc
  · omega
  · rcases Nat.eq_zero_or_pos (lgF l d l.length 0) with h2 | h2
    · rw [h2] at hc
      have hl : (l.take (0 + 1)).length = 1 := by simp; omega
      rw [run_small (h.take _) (by omega) h6] at hc
      have := ld_lt (l := l.take (0 + 1)) (by omega)
      rw [hl] at this
      simp at hc
      simp at this
      omega
    · exact h2
theorem lg_max {l : List Int} {d : Int} {m : Nat} (h : smP l) (hd : d ≤ 6) (h1 : 1 ≤ m) (h2 : m ≤ l.length) (hr : runB (l.take m) d = true) : m ≤ lg l d := by
  obtain ⟨_, _, hc, _⟩ := lgF_prop l d l.length 0 (by omega)
  rcases Nat.lt_or_ge (lg l d) m with hlt | hge
  · exfalso
    unfold lg at hlt
    rcases hc with hc | hc
    · omega
    · rw [run_small (h.take _) (by simp; omega) hd] at hc hr
      have ht : ld ((l.take m).take (lgF l d l.length 0 + 1)) ≤ ld (l.take m) := ld_take _
      rw [List.take_take, Nat.min_eq_left (by omega)] at ht
      simp at hc hr
      omega
  · exact hge
/-- the plan by longest runs -/
def grF (d : Int) : Nat → List Int → List Seg
  | 0, _ => []
  | f + 1, l => if l = [] then [] else (((max (lg l d) 1 : Nat) : Int), runL (l.take (max (lg l d) 1)) d) :: grF d f (l.drop (max (lg l d) 1))
def gr (l : List Int) (d : Int) : List Seg := grF d l.length l
theorem grF_fuel (d : Int) : ∀ f g l, l.length ≤ f → l.length ≤ g → grF d f l = grF d g l
  | 0, g, l, h, _ => by
    have : l = [] := List.eq_nil_of_length_eq_zero (by omega)
    subst this
    cases g <;> simp [grF]
  | f + 1, 0, l, _, h => by
    have : l = [] := List.eq_nil_of_length_eq_zero (by omega)
    subst this
    simp [grF]
  | f + 1, g + 1, l, h1, h2 => by
    unfold grF
    by_cases hl : l = []
    · rw [if_pos hl, if_pos hl]
    · rw [if_neg hl, if_neg hl, grF_fuel d f g _ (by simp; omega) (by simp; omega)]
theorem gr_nil (d : Int) : gr [] d = [] := rfl
theorem gr_cons {l : List Int} {d : Int} (h : l ≠ []) (h1 : 1 ≤ lg l d) : gr l d = ((lg l d : Int), runL (l.take (lg l d)) d) :: gr (l.drop (lg l d)) d := by
  have hm : max (lg l d) 1 = lg l d := by omega
  unfold gr
  have hl : 0 < l.length := List.length_pos_iff.2 h
  obtain ⟨f, hf⟩ : ∃ f, l.length = f + 1 := ⟨l.length - 1, by omega⟩
  rw [hf, grF, if_neg h, hm, grF_fuel d f _ _ (by simp; omega) (Nat.le_refl _)]
theorem runL_t {l : List Int} {d : Int} (h : runB l d = true) : runL l d = ip l := if_pos h
theorem runB_iff {l : List Int} {d : Int} (h : runB l d = true) : tabB l = true ∧ ld l ≤ d ∧ ld l ≤ 6 ∧ polyB (ip l) = true := by
  unfold runB intB at h
  simp only [Bool.and_eq_true, decide_eq_true_eq] at h
  exact ⟨h.1.1, h.1.2, h.2.1.2, h.2.2⟩
/-- a run is a segment -/
theorem run_seg {l : List Int} {d : Int} (h : runB l d = true) : segB ((l.length : Int), ip l) = true ∧ vals (ip l) l.length = l := by
  obtain ⟨h1, h2, h3, h4⟩ := runB_iff h
  obtain ⟨a, b, c⟩ := tabB_iff h1
  have hv := ip_vals (l := l) (by omega) h3
  refine ⟨?_, hv⟩
  unfold segB polyS cntB
  simp only [Int.toNat_natCast, hv]
  rw [inB_t (by omega) (by omega), h4, h1]; rfl
theorem gr_facts (d : Int) (h0 : 0 ≤ d) (h6 : d ≤ 6) : ∀ n l, l.length ≤ n → smP l → plV (gr l d) = l ∧ (gr l d).all segB = true ∧ totG (gr l d) = l.length
  | n, [], _, _ => by rw [gr_nil]; exact ⟨rfl, rfl, rfl⟩
  | 0, a :: l, h, _ => by simp at h
  | n + 1, a :: l, h, hs => by
    have h1 : 1 ≤ (a :: l).length := by simp
    have hp := lg_pos (d := d) hs h1 h0 h6
    have hle := lg_le (a :: l) d
    rw [gr_cons (by simp) hp]
    obtain ⟨m, hm⟩ : ∃ m, lg (a :: l) d = m := ⟨_, rfl⟩
    have hr : runB ((a :: l).take m) d = true := by rw [← hm]; exact lg_run hp (Nat.le_refl _)
    rw [hm] at hp hle ⊢
    obtain ⟨q1, q2⟩ := run_seg hr
    have hl : ((a :: l).take m).length = m := by simp only [List.length_take]; omega
    rw [hl] at q1 q2
    obtain ⟨r1, r2, r3⟩ := gr_facts d h0 h6 n ((a :: l).drop m) (by simp only [List.length_drop]; simp at h ⊢; omega) (hs.drop m)
    rw [runL_t hr]
    refine ⟨?_, ?_, ?_⟩
    · simp only [plV, Int.toNat_natCast]
      rw [q2, r1, List.take_append_drop]
    · rw [List.all_cons, q1, r2]; rfl
    · simp only [totG]
      rw [r3, List.length_drop]; omega
theorem gr_plan {l : List Int} {d : Int} (h0 : 0 ≤ d) (h6 : d ≤ 6) (hs : smP l) (h1 : 1 ≤ l.length) : planB (gr l d) = true ∧ plV (gr l d) = l := by
  obtain ⟨a, b, c⟩ := gr_facts d h0 h6 l.length l (Nat.le_refl _) hs
  refine ⟨planB_iff.2 ⟨?_, b, by rw [c]; have := hs.2; omega⟩, a⟩
  cases hg : gr l d with
  | nil => rw [hg] at a; simp [plV] at a; rw [a] at h1; simp at h1
  | cons s t => simp
end Go.Proofs.YtdfnclnjnmdboaaGreatDoor
