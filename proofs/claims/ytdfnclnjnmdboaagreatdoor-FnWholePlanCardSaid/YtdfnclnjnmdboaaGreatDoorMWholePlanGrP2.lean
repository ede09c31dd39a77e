/- Lemmas and contracts for WholePlan (GrP2 CpP WpP): plain words on memory, contracts of the functions that the law reaches. No condition but what each states. -/
import Derived.Test.YtdfnclnjnmdboaaGreatDoorMWholePlanGrP
import Derived.Test.YtdfnclnjnmdboaaGreatDoorMWholePlanPlan6
namespace Go.Proofs.YtdfnclnjnmdboaaGreatDoor
set_option linter.unusedVariables false
open Go.RowKit

theorem degM_le {d : Int} (h0 : -1 ≤ d) : ∀ pl : List Seg, (∀ s ∈ pl, degP s.2 ≤ d) → degM pl ≤ d
  | [], _ => by simpa [degM] using h0
  | s :: l, h => by
    have h1 := h s (by simp)
    have h2 := degM_le h0 l (fun x hx => h x (by simp [hx]))
    simp only [degM]; omega
theorem runL_deg {l : List Int} {d : Int} (h1 : 1 ≤ l.length) (hr : runB l d = true) : degP (runL l d) ≤ d := by
  rw [runL_t hr]
  obtain ⟨_, a, b, _⟩ := runB_iff hr
  exact degP_ip h1 b a
theorem gr_deg (d : Int) (h0 : 0 ≤ d) (h6 : d ≤ 6) : ∀ n l, l.length ≤ n → smP l → ∀ s ∈ gr l d, degP s.2 ≤ d
  | n, [], _, _, s, h => by rw [gr_nil] at h; cases h
  | 0, a :: l, h, _, _, _ => by simp at h
  | n + 1, a :: l, h, hs, s, hm => by
    have h1 : 1 ≤ (a :: l).length := by simp
    have hp := lg_pos (d := d) hs h1 h0 h6
    rw [gr_cons (by simp) hp] at hm
    have hr := lg_run (l := a :: l) (d := d) hp (Nat.le_refl _)
    rcases List.mem_cons.1 hm with rfl | hm
    · exact runL_deg (by simp; omega) hr
    · exact gr_deg d h0 h6 n _ (by simp at h ⊢; omega) (hs.drop _) s hm
/-- the k-th segment of the plan by longest runs -/
theorem gr_step {xs : List Int} {d : Int} {pl : List Seg} {k F : Nat} (hs : smP xs) (h0 : 0 ≤ d) (h6 : d ≤ 6) (h : pl.drop k = gr (xs.drop F) d) (hk : k < pl.length) :
    F < xs.length ∧ 1 ≤ lg (xs.drop F) d ∧ F + lg (xs.drop F) d ≤ xs.length ∧ runB ((xs.drop F).take (lg (xs.drop F) d)) d = true ∧ pl.getD k noG = ((lg (xs.drop F) d : Int), ip ((xs.drop F).take (lg (xs.drop F) d))) ∧ pl.drop (k + 1) = gr (xs.drop (F + lg (xs.drop F) d)) d := by
  have hne : xs.drop F ≠ [] := by
    intro e
    rw [e, gr_nil] at h
    have := congrArg List.length h
    simp at this; omega
  have hF : F < xs.length := by
    rcases Nat.lt_or_ge F xs.length with h | h
    · exact h
    · exact absurd (List.drop_eq_nil_of_le h) hne
  have hp := lg_pos (d := d) (hs.drop F) (by simp; omega) h0 h6
  have hle := lg_le (xs.drop F) d
  rw [List.length_drop] at hle
  have hr := lg_run (l := xs.drop F) (d := d) hp (Nat.le_refl _)
  rw [gr_cons hne hp, runL_t hr] at h
  have hd : pl.drop k = pl.getD k noG :: pl.drop (k + 1) := by rw [List.drop_eq_getElem_cons hk]; simp [List.getD, hk]
  rw [hd] at h
  simp only [List.cons.injEq] at h
  exact ⟨hF, hp, by omega, hr, h.1, by rw [h.2, List.drop_drop]⟩
theorem gr_done {xs : List Int} {d : Int} {pl : List Seg} {k F : Nat} (h : pl.drop k = gr (xs.drop F) d) (hk : pl.length ≤ k) (hp : F < xs.length → 1 ≤ lg (xs.drop F) d) : xs.length ≤ F := by
  rcases Nat.lt_or_ge F xs.length with hF | hF
  · exfalso
    rw [List.drop_eq_nil_of_le hk, gr_cons (by intro e; have := congrArg List.length e; simp at this; omega) (hp hF)] at h
    cases h
  · exact hF
end Go.Proofs.YtdfnclnjnmdboaaGreatDoor

namespace Go.Proofs.YtdfnclnjnmdboaaGreatDoor
set_option linter.unusedVariables false
open Go.RowKit

/-- a plan of runs for a table -/
def RunPl (d : Int) : List Int → List Seg → Prop
  | l, [] => l = []
  | l, s :: t => ∃ c : Nat, 1 ≤ c ∧ c ≤ lg l d ∧ s = ((c : Int), ip (l.take c)) ∧ RunPl d (l.drop c) t
/-- what a plan costs -/
def cost (a b : Int) : List Seg → Int
  | [] => 0
  | s :: t => a + b * (s.2.length : Int) + cost a b t
theorem cost_append (a b : Int) : ∀ x y : List Seg, cost a b (x ++ y) = cost a b x + cost a b y
  | [], y => by simp [cost]
  | s :: t, y => by simp [cost, cost_append a b t y]; omega
theorem RunPl_facts (d : Int) (h0 : 0 ≤ d) (h6 : d ≤ 6) : ∀ (pl : List Seg) (l : List Int), smP l → RunPl d l pl → plV pl = l ∧ pl.all segB = true ∧ totG pl = l.length ∧ ∀ s ∈ pl, degP s.2 ≤ d
  | [], l, _, h => by
    have h : l = [] := h
    subst h
    exact ⟨rfl, rfl, rfl, fun s hs => by cases hs⟩
  | s :: t, l, hs, h => by
    obtain ⟨c, h1, h2, rfl, h3⟩ := h
    have hle := lg_le l d
    have hr := lg_run (l := l) (d := d) h1 h2
    obtain ⟨q1, q2⟩ := run_seg hr
    have hl : (l.take c).length = c := by simp only [List.length_take]; omega
    rw [hl] at q1 q2
    obtain ⟨r1, r2, r3, r4⟩ := RunPl_facts d h0 h6 t (l.drop c) (hs.drop c) h3
    refine ⟨?_, ?_, ?_, fun s hs => ?_⟩
    · simp only [plV, Int.toNat_natCast]
      rw [q2, r1, List.take_append_drop]
    · rw [List.all_cons, q1, r2]; rfl
    · simp only [totG]
      rw [r3, List.length_drop]; omega
    · rcases List.mem_cons.1 hs with rfl | hs
      · have := runL_deg (l := l.take c) (d := d) (by omega) hr
        rwa [runL_t hr] at this
      · exact r4 s hs
theorem RunPl_plan {d : Int} (h0 : 0 ≤ d) (h6 : d ≤ 6) {pl : List Seg} {l : List Int} (hs : smP l) (h1 : 1 ≤ l.length) (h : RunPl d l pl) : planB pl = true ∧ plV pl = l ∧ degM pl ≤ d := by
  obtain ⟨a, b, c, e⟩ := RunPl_facts d h0 h6 pl l hs h
  refine ⟨planB_iff.2 ⟨?_, b, by rw [c]; have := hs.2; omega⟩, a, degM_le (by omega) pl e⟩
  cases pl with
  | nil => have h : l = [] := h
           rw [h] at h1; simp at h1
  | cons s t => simp
theorem gr_RunPl (d : Int) (h0 : 0 ≤ d) (h6 : d ≤ 6) : ∀ n l, l.length ≤ n → smP l → RunPl d l (gr l d)
  | n, [], _, _ => by rw [gr_nil]; rfl
  | 0, x :: l, h, _ => by simp at h
  | n + 1, x :: l, h, hs => by
    have hp := lg_pos (d := d) hs (by simp) h0 h6
    rw [gr_cons (by simp) hp]
    have hr := lg_run (l := x :: l) (d := d) hp (Nat.le_refl _)
    exact ⟨_, hp, Nat.le_refl _, by rw [runL_t hr], gr_RunPl d h0 h6 n _ (by simp at h ⊢; omega) (hs.drop _)⟩

/-- the least of m numbers -/
def mn (g : Nat → Int) : Nat → Int
  | 0 => 1099511627776
  | m + 1 => min (mn g m) (g (m + 1))
theorem mn_congr {g h : Nat → Int} : ∀ m, (∀ c, 1 ≤ c → c ≤ m → g c = h c) → mn g m = mn h m
  | 0, _ => rfl
  | m + 1, e => by rw [mn, mn, mn_congr m (fun c h1 h2 => e c h1 (by omega)), e (m + 1) (by omega) (Nat.le_refl _)]
theorem mn_le (g : Nat → Int) : ∀ m c, 1 ≤ c → c ≤ m → mn g m ≤ g c
  | 0, c, h1, h2 => by omega
  | m + 1, c, h1, h2 => by
    rw [mn]
    rcases Nat.lt_or_ge m c with h | h
    · have : c = m + 1 := by omega
      subst this; omega
    · have := mn_le g m c h1 h; omega
theorem mn_max (g : Nat → Int) : ∀ m, mn g m ≤ 1099511627776
  | 0 => by simp [mn]
  | m + 1 => by have := mn_max g m; rw [mn]; omega
theorem mn_at (g : Nat → Int) : ∀ m, 1 ≤ m → (∀ c, 1 ≤ c → c ≤ m → g c ≤ 1099511627776) → ∃ c, 1 ≤ c ∧ c ≤ m ∧ g c = mn g m
  | 0, h, _ => by omega
  | 1, _, hb => ⟨1, by omega, by omega, by have := hb 1 (by omega) (by omega); show g 1 = min (1099511627776 : Int) (g 1); omega⟩
  | m + 2, _, hb => by
    obtain ⟨c, h1, h2, h3⟩ := mn_at g (m + 1) (by omega) (fun c h1 h2 => hb c h1 (by omega))
    have e : mn g (m + 2) = min (mn g (m + 1)) (g (m + 2)) := rfl
    rw [e]
    by_cases h : mn g (m + 1) ≤ g (m + 2)
    · exact ⟨c, h1, by omega, by rw [h3]; omega⟩
    · exact ⟨m + 2, by omega, by omega, by omega⟩
/-- the greatest place of a number among m -/
def lst (g : Nat → Int) (v : Int) : Nat → Nat
  | 0 => 0
  | m + 1 => if g (m + 1) = v then m + 1 else lst g v m
theorem lst_le (g : Nat → Int) (v : Int) : ∀ m, lst g v m ≤ m
  | 0 => by simp [lst]
  | m + 1 => by
    rw [lst]
    split
    · omega
    · have := lst_le g v m; omega
theorem lst_at (g : Nat → Int) (v : Int) : ∀ m, (∃ c, 1 ≤ c ∧ c ≤ m ∧ g c = v) → 1 ≤ lst g v m ∧ g (lst g v m) = v
  | 0, ⟨c, h1, h2, _⟩ => by omega
  | m + 1, ⟨c, h1, h2, h3⟩ => by
    rw [lst]
    split
    · rename_i h; exact ⟨by omega, h⟩
    · rename_i h
      refine lst_at g v m ⟨c, h1, ?_, h3⟩
      rcases Nat.lt_or_ge m c with h5 | h5
      · have : c = m + 1 := by omega
        subst this; exact absurd h3 h
      · exact h5
theorem lst_after (g : Nat → Int) (v : Int) : ∀ m c, lst g v m < c → c ≤ m → g c ≠ v
  | 0, c, h1, h2 => by omega
  | m + 1, c, h1, h2 => by
    rw [lst] at h1
    split at h1
    · omega
    · rename_i h
      rcases Nat.lt_or_ge m c with h5 | h5
      · have : c = m + 1 := by omega
        subst this; exact h
      · exact lst_after g v m c h1 h5
theorem lst_is (g : Nat → Int) (v : Int) (m c : Nat) (h1 : 1 ≤ c) (h2 : c ≤ m) (h3 : g c = v) (h4 : ∀ e, c < e → e ≤ m → g e ≠ v) : lst g v m = c := by
  have hle := lst_le g v m
  obtain ⟨q1, q2⟩ := lst_at g v m ⟨c, h1, h2, h3⟩
  rcases Nat.lt_trichotomy (lst g v m) c with h | h | h
  · exact absurd h3 (lst_after g v m c h h2)
  · exact h
  · exact absurd q2 (h4 _ h hle)

/-- the cost of one run -/
def cst (d a b : Int) (l : List Int) (c : Nat) : Int := a + b * ((runL (l.take c) d).length : Int)
/-- the least cost of a table -/
def bsF (d a b : Int) : Nat → List Int → Int
  | 0, _ => 0
  | f + 1, l => if l = [] then 0 else mn (fun c => cst d a b l c + bsF d a b f (l.drop c)) (lg l d)
def bs (d a b : Int) (l : List Int) : Int := bsF d a b l.length l
theorem bsF_fuel (d a b : Int) : ∀ f g l, l.length ≤ f → l.length ≤ g → bsF d a b f l = bsF d a b g l
  | 0, g, l, h, _ => by
    have : l = [] := List.eq_nil_of_length_eq_zero (by omega)
    subst this
    cases g <;> simp [bsF]
  | f + 1, 0, l, _, h => by
    have : l = [] := List.eq_nil_of_length_eq_zero (by omega)
    subst this
    simp [bsF]
  | f + 1, g + 1, l, h1, h2 => by
    unfold bsF
    by_cases hl : l = []
    · rw [if_pos hl, if_pos hl]
    · rw [if_neg hl, if_neg hl]
      refine mn_congr _ (fun c hc _ => ?_)
      show _ + _ = _ + _
      rw [bsF_fuel d a b f g _ (by simp; omega) (by simp; omega)]
theorem bs_nil (d a b : Int) : bs d a b [] = 0 := rfl
/-- the cost with a first run of c -/
def gC (d a b : Int) (l : List Int) (c : Nat) : Int := cst d a b l c + bs d a b (l.drop c)
theorem bs_cons (d a b : Int) {l : List Int} (h : l ≠ []) : bs d a b l = mn (gC d a b l) (lg l d) := by
  have hl : 0 < l.length := List.length_pos_iff.2 h
  obtain ⟨f, hf⟩ : ∃ f, l.length = f + 1 := ⟨l.length - 1, by omega⟩
  unfold bs
  rw [hf, bsF, if_neg h]
  refine mn_congr _ (fun c hc _ => ?_)
  show _ + _ = _ + _
  rw [bsF_fuel d a b f _ _ (by simp; omega) (Nat.le_refl _)]; rfl
theorem cst_bd {d a b : Int} (ha : 0 ≤ a ∧ a ≤ 1000) (hb : 0 ≤ b ∧ b ≤ 1000) (l : List Int) (c : Nat) : 0 ≤ cst d a b l c ∧ cst d a b l c ≤ 8000 := by
  have h := runL_len (l.take c) d
  unfold cst
  obtain ⟨n, hn⟩ : ∃ n, (runL (l.take c) d).length = n := ⟨_, rfl⟩
  rw [hn] at h ⊢
  have h1 : 0 ≤ b * (n : Int) := Int.mul_nonneg hb.1 (by omega)
  have h2 : b * (n : Int) ≤ 1000 * 7 := Int.mul_le_mul hb.2 (by omega) (by omega) (by omega)
  omega
theorem bs_bd {d a b : Int} (h0 : 0 ≤ d) (h6 : d ≤ 6) (ha : 0 ≤ a ∧ a ≤ 1000) (hb : 0 ≤ b ∧ b ≤ 1000) : ∀ n l, l.length ≤ n → smP l → 0 ≤ bs d a b l ∧ bs d a b l ≤ 8000 * l.length
  | n, [], _, _ => by rw [bs_nil]; simp
  | 0, x :: l, h, _ => by simp at h
  | n + 1, x :: l, h, hs => by
    have hp := lg_pos (d := d) hs (by simp) h0 h6
    have hle := lg_le (x :: l) d
    have hin : ∀ c, 1 ≤ c → c ≤ lg (x :: l) d → 0 ≤ gC d a b (x :: l) c ∧ gC d a b (x :: l) c ≤ 8000 * ((x :: l).length : Int) := by
      intro c h1 h2
      have r := bs_bd h0 h6 ha hb n ((x :: l).drop c) (by simp at h ⊢; omega) (hs.drop c)
      have q := cst_bd (d := d) ha hb (x :: l) c
      unfold gC
      simp only [List.length_drop] at r
      omega
    rw [bs_cons d a b (by simp)]
    have hl60 := hs.2
    obtain ⟨c, h1, h2, h3⟩ := mn_at (gC d a b (x :: l)) (lg (x :: l) d) hp (fun c h1 h2 => by have := (hin c h1 h2).2; omega)
    rw [← h3]
    exact hin c h1 h2
theorem gC_bd {d a b : Int} (h0 : 0 ≤ d) (h6 : d ≤ 6) (ha : 0 ≤ a ∧ a ≤ 1000) (hb : 0 ≤ b ∧ b ≤ 1000) {l : List Int} (hs : smP l) (c : Nat) : 0 ≤ gC d a b l c ∧ gC d a b l c ≤ 488000 := by
  have r := bs_bd h0 h6 ha hb _ (l.drop c) (Nat.le_refl _) (hs.drop c)
  have q := cst_bd (d := d) ha hb l c
  have := (hs.drop c).2
  unfold gC
  omega
/-- the longest first run of a cheapest plan -/
def ch (d a b : Int) (l : List Int) : Nat := lst (gC d a b l) (bs d a b l) (lg l d)
theorem ch_facts {d a b : Int} (h0 : 0 ≤ d) (h6 : d ≤ 6) (ha : 0 ≤ a ∧ a ≤ 1000) (hb : 0 ≤ b ∧ b ≤ 1000) {l : List Int} (hs : smP l) (h1 : 1 ≤ l.length) : 1 ≤ ch d a b l ∧ ch d a b l ≤ lg l d ∧ gC d a b l (ch d a b l) = bs d a b l := by
  have hne : l ≠ [] := by intro e; rw [e] at h1; simp at h1
  have hp := lg_pos (d := d) hs h1 h0 h6
  obtain ⟨c, q1, q2, q3⟩ := mn_at (gC d a b l) (lg l d) hp (fun c _ _ => by have := gC_bd (d := d) h0 h6 ha hb hs c; omega)
  rw [← bs_cons d a b hne] at q3
  obtain ⟨r1, r2⟩ := lst_at (gC d a b l) (bs d a b l) (lg l d) ⟨c, q1, q2, q3⟩
  exact ⟨r1, lst_le _ _ _, r2⟩
/-- the cheapest plan -/
def cpF (d a b : Int) : Nat → List Int → List Seg
  | 0, _ => []
  | f + 1, l => if l = [] then [] else (((max (ch d a b l) 1 : Nat) : Int), runL (l.take (max (ch d a b l) 1)) d) :: cpF d a b f (l.drop (max (ch d a b l) 1))
def cp (d a b : Int) (l : List Int) : List Seg := cpF d a b l.length l
theorem cpF_fuel (d a b : Int) : ∀ f g l, l.length ≤ f → l.length ≤ g → cpF d a b f l = cpF d a b g l
  | 0, g, l, h, _ => by
    have : l = [] := List.eq_nil_of_length_eq_zero (by omega)
    subst this
    cases g <;> simp [cpF]
  | f + 1, 0, l, _, h => by
    have : l = [] := List.eq_nil_of_length_eq_zero (by omega)
    subst this
    simp [cpF]
  | f + 1, g + 1, l, h1, h2 => by
    unfold cpF
    by_cases hl : l = []
    · rw [if_pos hl, if_pos hl]
    · rw [if_neg hl, if_neg hl, cpF_fuel d a b f g _ (by simp; omega) (by simp; omega)]
theorem cp_nil (d a b : Int) : cp d a b [] = [] := rfl
theorem cp_cons {d a b : Int} {l : List Int} (h : l ≠ []) (h1 : 1 ≤ ch d a b l) : cp d a b l = ((ch d a b l : Int), runL (l.take (ch d a b l)) d) :: cp d a b (l.drop (ch d a b l)) := by
  have hm : max (ch d a b l) 1 = ch d a b l := by omega
  unfold cp
  have hl : 0 < l.length := List.length_pos_iff.2 h
  obtain ⟨f, hf⟩ : ∃ f, l.length = f + 1 := ⟨l.length - 1, by omega⟩
  rw [hf, cpF, if_neg h, hm, cpF_fuel d a b f _ _ (by simp; omega) (Nat.le_refl _)]
theorem cp_facts {d a b : Int} (h0 : 0 ≤ d) (h6 : d ≤ 6) (ha : 0 ≤ a ∧ a ≤ 1000) (hb : 0 ≤ b ∧ b ≤ 1000) : ∀ n l, l.length ≤ n → smP l → RunPl d l (cp d a b l) ∧ cost a b (cp d a b l) = bs d a b l
  | n, [], _, _ => by rw [cp_nil]; exact ⟨rfl, rfl⟩
  | 0, x :: l, h, _ => by simp at h
  | n + 1, x :: l, h, hs => by
    obtain ⟨q1, q2, q3⟩ := ch_facts (d := d) (a := a) (b := b) h0 h6 ha hb hs (by simp)
    have hr := lg_run (l := x :: l) (d := d) q1 q2
    obtain ⟨r1, r2⟩ := cp_facts h0 h6 ha hb n ((x :: l).drop (ch d a b (x :: l))) (by simp at h ⊢; omega) (hs.drop _)
    rw [cp_cons (by simp) q1]
    refine ⟨⟨_, q1, q2, by rw [runL_t hr], r1⟩, ?_⟩
    rw [cost, r2]
    exact q3
/-- no plan of runs is cheaper -/
theorem cost_least {d a b : Int} : ∀ (pl : List Seg) (l : List Int), RunPl d l pl → bs d a b l ≤ cost a b pl
  | [], l, h => by
    have h : l = [] := h
    subst h; simp [bs_nil, cost]
  | s :: t, l, h => by
    obtain ⟨c, h1, h2, rfl, h3⟩ := h
    have hr := lg_run (l := l) (d := d) h1 h2
    have hne : l ≠ [] := by
      intro e; have := lg_le l d; rw [e] at this; simp at this; rw [e] at h2; omega
    have r := cost_least t (l.drop c) h3 (a := a) (b := b)
    have q := mn_le (gC d a b l) (lg l d) c h1 h2
    rw [bs_cons d a b hne]
    refine Int.le_trans q ?_
    show _ ≤ a + b * ((ip (l.take c)).length : Int) + cost a b t
    unfold gC cst
    rw [runL_t hr]
    omega
theorem cp_len (d a b : Int) : ∀ f l, (cpF d a b f l).length ≤ l.length
  | 0, l => by simp [cpF]
  | f + 1, l => by
    unfold cpF
    split
    · simp
    · rename_i h
      have := cp_len d a b f (l.drop (max (ch d a b l) 1))
      have hl : 0 < l.length := List.length_pos_iff.2 h
      simp at this ⊢
      omega
theorem cp_mem (d a b : Int) : ∀ f l, ∀ s ∈ cpF d a b f l, s.2.length ≤ 7
  | 0, _, s, h => by simp [cpF] at h
  | f + 1, l, s, h => by
    unfold cpF at h
    split at h
    · cases h
    · rcases List.mem_cons.1 h with rfl | h
      · exact runL_len _ _
      · exact cp_mem d a b f _ s h
/-- whether there is a cheapest plan, and which -/
def cpB (l : List Int) (d a b : Int) : Bool := smallB l && inB d 0 6 && (inB a 0 1000 && inB b 0 1000)
def cpL (l : List Int) (d a b : Int) : List Seg := if cpB l d a b = true then cp d a b l else []
theorem cpL_len (l : List Int) (d a b : Int) : (cpL l d a b).length ≤ 60 := by
  unfold cpL
  split
  · rename_i h
    unfold cpB at h
    rw [Bool.and_eq_true, Bool.and_eq_true, smallB_iff] at h
    have := cp_len d a b l.length l
    have h2 := h.1.1.1.2
    unfold cp; omega
  · simp
theorem cpL_mem (l : List Int) (d a b : Int) : ∀ s ∈ cpL l d a b, s.2.length ≤ 7 := by
  unfold cpL
  split
  · exact cp_mem d a b _ l
  · intro s h; cases h
end Go.Proofs.YtdfnclnjnmdboaaGreatDoor

namespace Go.Proofs.YtdfnclnjnmdboaaGreatDoor
set_option linter.unusedVariables false
open Go.RowKit

theorem runB_sub {l : List Int} {d : Int} {a m : Nat} (h : smP l) (hd : d ≤ 6) (hr : runB l d = true) (h1 : 1 ≤ ((l.drop a).take m).length) : runB ((l.drop a).take m) d = true := by
  have hs : smP ((l.drop a).take m) := (h.drop a).take m
  rw [run_small hs h1 hd]
  have h2 := (runB_iff hr).2.1
  have h3 := ld_sub (l := l) a m
  exact decide_eq_true (by omega)
/-- longest runs need as few segments as any plan of runs, from any later place on -/
theorem gr_least {d : Int} (h0 : 0 ≤ d) (h6 : d ≤ 6) : ∀ (pl : List Seg) (l : List Int), smP l → RunPl d l pl → ∀ i, (gr (l.drop i) d).length ≤ pl.length
  | [], l, _, h, i => by
    have h : l = [] := h
    subst h
    rw [List.drop_nil, gr_nil]; exact Nat.le_refl _
  | s :: t, l, hs, h, i => by
    obtain ⟨c, h1, h2, _, h3⟩ := h
    have hle := lg_le l d
    have ih := gr_least h0 h6 t (l.drop c) (hs.drop c) h3
    by_cases hi : c ≤ i
    · have := ih (i - c)
      rw [List.drop_drop, show c + (i - c) = i by omega] at this
      simp only [List.length_cons]; omega
    · have hne : l.drop i ≠ [] := by
        intro e
        have := congrArg List.length e
        simp at this; omega
      have hsd := hs.drop i
      have hp := lg_pos (d := d) hsd (by simp; omega) h0 h6
      have hm : c - i ≤ lg (l.drop i) d := by
        refine lg_max hsd h6 (by omega) (by simp; omega) ?_
        have hr := lg_run (l := l) (d := d) h1 h2
        have e : (l.drop i).take (c - i) = ((l.take c).drop i).take (c - i) := by
          rw [List.drop_take, List.take_take, Nat.min_self]
        rw [e]
        exact runB_sub (hs.take c) h6 hr (by simp; omega)
      rw [gr_cons hne hp]
      have := ih (lg (l.drop i) d - (c - i))
      rw [List.drop_drop, show c + (lg (l.drop i) d - (c - i)) = i + lg (l.drop i) d by omega] at this
      rw [List.drop_drop]
      simp only [List.length_cons]; omega
theorem cost_one : ∀ pl : List Seg, cost 1 0 pl = (pl.length : Int)
  | [] => rfl
  | s :: t => by simp [cost, cost_one t]; omega
theorem cheap_len {d : Int} (h0 : 0 ≤ d) (h6 : d ≤ 6) {l : List Int} (hs : smP l) : (cp d 1 0 l).length = (gr l d).length := by
  obtain ⟨h1, h2⟩ := cp_facts h0 h6 (a := 1) (b := 0) (by decide) (by decide) l.length l (Nat.le_refl _) hs
  have h3 := gr_least h0 h6 _ l hs h1 0
  rw [List.drop_zero] at h3
  have h4 := cost_least (a := 1) (b := 0) _ l (gr_RunPl d h0 h6 l.length l (Nat.le_refl _) hs)
  rw [← h2, cost_one, cost_one] at h4
  omega
end Go.Proofs.YtdfnclnjnmdboaaGreatDoor
