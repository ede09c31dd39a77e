/- Lemmas and contracts for WholePlan (FmtP): plain words on memory, contracts of the functions that the law reaches. No condition but what each states. -/
import Derived.Test.YtdfnclnjnmdboaaGreatDoorMWholePlanNumPl
import Derived.Test.YtdfnclnjnmdboaaGreatDoorMWholePlanPlan1
import Derived.Lib.Join
namespace Go.Proofs.YtdfnclnjnmdboaaGreatDoor
set_option linter.unusedVariables false
open Go.RowKit

theorem joinC_one (c : UInt8) (x : List UInt8) : Lib.join [x] [c] = x := Lib.join_one x [c]
theorem joinC_cons (c : UInt8) (x y : List UInt8) (l : List (List UInt8)) : Lib.join (x :: y :: l) [c] = x ++ c :: Lib.join (y :: l) [c] := by
  unfold Lib.join
  simp [List.intercalate, List.intersperse_cons_cons]
theorem joinC_snoc (c : UInt8) (l : List (List UInt8)) (x : List UInt8) (h : l ≠ []) : Lib.join (l ++ [x]) [c] = Lib.join l [c] ++ c :: x := by
  induction l with
  | nil => exact absurd rfl h
  | cons y l ih =>
    cases l with
    | nil => rw [List.cons_append, List.nil_append, joinC_cons, joinC_one, joinC_one]
    | cons z l =>
      have h1 := ih (by simp)
      rw [List.cons_append]
      rw [List.cons_append, joinC_cons, joinC_cons, ← List.cons_append, h1, List.append_assoc, List.cons_append]
theorem cut_join (c : UInt8) (l : List (List UInt8)) (hne : l ≠ []) (h : ∀ x ∈ l, c ∉ x) : cutP c (Lib.join l [c]) = l := by
  induction l with
  | nil => exact absurd rfl hne
  | cons y l ih =>
    cases l with
    | nil => rw [joinC_one, cutP_end _ _ (h y (by simp))]
    | cons z l => rw [joinC_cons, cutP_hit _ _ _ (h y (by simp)), ih (by simp) (fun x hx => h x (by simp [hx]))]
theorem cutP_cons_ne (c b : UInt8) (l : List UInt8) (h : b ≠ c) : ∃ x r, cutP c l = x :: r ∧ cutP c (b :: l) = (b :: x) :: r := by
  cases e : cutP c l with
  | nil => exact absurd e (cutP_ne c l)
  | cons x r => exact ⟨x, r, rfl, by rw [cutP, if_neg h, e]⟩
theorem join_cut (c : UInt8) (l : List UInt8) : Lib.join (cutP c l) [c] = l := by
  induction l with
  | nil => exact joinC_one c []
  | cons b l ih =>
    by_cases h : b = c
    · rw [cutP, if_pos h]
      cases e : cutP c l with
      | nil => exact absurd e (cutP_ne c l)
      | cons x r => rw [joinC_cons, ← e, ih, h]; rfl
    · obtain ⟨x, r, e1, e2⟩ := cutP_cons_ne c b l h
      rw [e2]
      rw [e1] at ih
      cases r with
      | nil => rw [joinC_one] at ih ⊢; rw [ih]
      | cons y r => rw [joinC_cons] at ih ⊢; rw [List.cons_append, ih]
theorem cutP_no (c : UInt8) (l : List UInt8) : ∀ x ∈ cutP c l, c ∉ x := by
  induction l with
  | nil => intro x hx; simp [cutP] at hx; subst hx; simp
  | cons b l ih =>
    by_cases h : b = c
    · rw [cutP, if_pos h]
      intro x hx
      rcases List.mem_cons.1 hx with rfl | hx
      · simp
      · exact ih x hx
    · obtain ⟨y, r, e1, e2⟩ := cutP_cons_ne c b l h
      rw [e2]
      rw [e1] at ih
      intro x hx
      rcases List.mem_cons.1 hx with rfl | hx
      · simp only [List.mem_cons, not_or]
        exact ⟨fun q => h q.symm, ih y (by simp)⟩
      · exact ih x (by simp [hx])
theorem itoa_no (c : UInt8) (h1 : c.toNat < 48 ∨ 57 < c.toNat) (h2 : c ≠ 45) (n : Int) : c ∉ Lib.itoa n := by
  have hd : ∀ k, c ∉ Lib.decDigits k := by
    intro k hk
    have h := decFrom_dec k
    obtain ⟨j, hj, hjc⟩ := List.mem_iff_getElem.1 hk
    obtain ⟨d, hd⟩ := Lib.digit_of_decFrom _ 0 k h j c (by rw [List.getElem?_eq_getElem hj, hjc])
    obtain ⟨_, _, h1, _⟩ := digitVal_some hd
    omega
  by_cases h : n < 0
  · rw [itoa_neg h]
    intro e
    rcases List.mem_cons.1 e with e | e
    · exact h2 e
    · exact hd _ e
  · obtain ⟨k, rfl⟩ : ∃ k : Nat, n = k := ⟨n.toNat, by omega⟩
    rw [itoa_nat]; exact hd k
theorem index_first {c : UInt8} {x r : List UInt8} (h : c ∉ x) : Lib.index (x ++ c :: r) [c] = (x.length : Int) := by
  induction x with
  | nil => rw [List.nil_append, index_cons, if_pos rfl]; rfl
  | cons b x ih =>
    simp only [List.mem_cons, not_or] at h
    have h1 := ih h.2
    rw [List.cons_append, index_cons, if_neg (fun e => h.1 e.symm), h1, if_neg (by omega)]
    simp

/-- the text of numbers -/
def nmL (p : List Int) : List UInt8 := Lib.join (p.map Lib.itoa) [32]
def fpL (p : List Int) : List UInt8 := if polyB p = true then nmL p else []
/-- .. of a segment, of a plan -/
def sgT (s : Seg) : List UInt8 := Lib.itoa s.1 ++ 58 :: nmL s.2
def plT (pl : List Seg) : List UInt8 := Lib.join (pl.map sgT) [47]
def fplL (pl : List Seg) : List UInt8 := if planB pl = true then plT pl else []
theorem nmL_snoc (p : List Int) (n : Int) (h : p ≠ []) : nmL (p ++ [n]) = nmL p ++ 32 :: Lib.itoa n := by
  unfold nmL; rw [List.map_append]; exact joinC_snoc 32 _ _ (by simpa using h)
theorem nmL_one (n : Int) : nmL [n] = Lib.itoa n := joinC_one 32 _
theorem plT_snoc (pl : List Seg) (s : Seg) (h : pl ≠ []) : plT (pl ++ [s]) = plT pl ++ 47 :: sgT s := by
  unfold plT; rw [List.map_append]; exact joinC_snoc 47 _ _ (by simpa using h)
theorem plT_one (s : Seg) : plT [s] = sgT s := joinC_one 47 _
theorem nmL_no (c : UInt8) (h1 : c.toNat < 48 ∨ 57 < c.toNat) (h2 : c ≠ 45) (h3 : c ≠ 32) : ∀ p : List Int, c ∉ nmL p := by
  intro p
  unfold nmL
  induction p with
  | nil => simp [Lib.join_nil]
  | cons n p ih =>
    cases p with
    | nil => rw [List.map_cons, List.map_nil, joinC_one]; exact itoa_no c h1 h2 n
    | cons m p =>
      rw [List.map_cons, List.map_cons, joinC_cons]
      rw [List.map_cons] at ih
      intro e
      rcases List.mem_append.1 e with e | e
      · exact itoa_no c h1 h2 n e
      · rcases List.mem_cons.1 e with e | e
        · exact h3 e
        · exact ih e
theorem sgT_no (s : Seg) : (47 : UInt8) ∉ sgT s := by
  unfold sgT
  intro e
  rcases List.mem_append.1 e with e | e
  · exact itoa_no 47 (by decide) (by decide) _ e
  · rcases List.mem_cons.1 e with e | e
    · exact absurd e (by decide)
    · exact nmL_no 47 (by decide) (by decide) (by decide) _ e
theorem nmL_len : ∀ p : List Int, (∀ n ∈ p, -1000000000000000 ≤ n ∧ n ≤ 1000000000000000) → (nmL p).length ≤ p.length * 18
  | [], _ => by simp [nmL, Lib.join_nil]
  | [n], h => by
    rw [nmL_one]
    obtain ⟨a, b⟩ := h n (by simp)
    have := itoa_len a b
    simp; omega
  | n :: m :: p, h => by
    have ih := nmL_len (m :: p) (fun x hx => h x (by simp at hx ⊢; right; exact hx))
    obtain ⟨a, b⟩ := h n (by simp)
    have h1 := itoa_len a b
    have e : nmL (n :: m :: p) = Lib.itoa n ++ 32 :: nmL (m :: p) := joinC_cons 32 _ _ _
    rw [e]
    simp at ih ⊢
    omega
theorem polyB_mem {p : List Int} (h : polyB p = true) : ∀ n ∈ p, -100000 ≤ n ∧ n ≤ 100000 := by
  unfold polyB allIn at h
  rw [Bool.and_eq_true] at h
  intro n hn
  exact inB_iff.1 (List.all_eq_true.1 h.2 n hn)
theorem polyB_len {p : List Int} (h : polyB p = true) : 1 ≤ p.length ∧ p.length ≤ 7 := by
  unfold polyB at h
  rw [Bool.and_eq_true, inB_iff] at h
  omega
theorem fpL_len (p : List Int) : (fpL p).length ≤ 126 := by
  unfold fpL
  split
  · rename_i h
    have h1 := nmL_len p (fun n hn => by have := polyB_mem h n hn; omega)
    have h2 := polyB_len h
    omega
  · simp
theorem sgT_len {s : Seg} (h : segB s = true) : (sgT s).length ≤ 144 := by
  obtain ⟨h1, h2, h3, _⟩ := segB_iff h
  have e : fpL s.2 = nmL s.2 := if_pos h3
  have h4 := fpL_len s.2
  have h5 := itoa_len (n := s.1) (by omega) (by omega)
  unfold sgT
  rw [e] at h4
  simp; omega
theorem plT_len : ∀ pl : List Seg, pl.all segB = true → (plT pl).length ≤ pl.length * 145
  | [], _ => by simp [plT, Lib.join_nil]
  | [s], h => by
    rw [plT_one]
    simp only [List.all_cons, Bool.and_eq_true] at h
    have := sgT_len h.1
    simp; omega
  | s :: u :: pl, h => by
    simp only [List.all_cons, Bool.and_eq_true] at h
    have ih := plT_len (u :: pl) (by simp [h.2.1, h.2.2])
    have h1 := sgT_len h.1
    have e : plT (s :: u :: pl) = sgT s ++ 47 :: plT (u :: pl) := joinC_cons 47 _ _ _
    rw [e]
    simp at ih ⊢
    omega
theorem fplL_len (pl : List Seg) : (fplL pl).length ≤ 8700 := by
  unfold fplL
  split
  · rename_i h
    have h1 := plT_len pl (planB_iff.1 h).2.1
    have h2 := planB_len h
    omega
  · simp
theorem fpL_yes {p : List Int} (h : polyB p = true) : fpL p = nmL p := if_pos h
theorem fplL_yes {pl : List Seg} (h : planB pl = true) : fplL pl = plT pl := if_pos h
theorem itoa_ne (n : Int) : Lib.itoa n ≠ [] := by
  by_cases h : n < 0
  · rw [itoa_neg h]; simp
  · obtain ⟨k, rfl⟩ : ∃ k : Nat, n = k := ⟨n.toNat, by omega⟩
    rw [itoa_nat]; exact dec_ne k
theorem sgT_ne (s : Seg) : sgT s ≠ [] := by unfold sgT; simp
theorem plT_ne {pl : List Seg} (h : 1 ≤ pl.length) : plT pl ≠ [] := by
  match pl, h with
  | [s], _ => rw [plT_one]; exact sgT_ne s
  | s :: u :: pl, _ =>
    have e : plT (s :: u :: pl) = sgT s ++ 47 :: plT (u :: pl) := joinC_cons 47 _ _ _
    rw [e]; simp
theorem nmL_ne {p : List Int} (h : 1 ≤ p.length) : nmL p ≠ [] := by
  match p, h with
  | [n], _ => rw [nmL_one]; exact itoa_ne n
  | n :: m :: p, _ =>
    have e : nmL (n :: m :: p) = Lib.itoa n ++ 32 :: nmL (m :: p) := joinC_cons 32 _ _ _
    rw [e]; simp
theorem fplL_ne (pl : List Seg) : fplL pl ≠ [] ↔ planB pl = true := by
  unfold fplL
  by_cases h : planB pl = true
  · rw [if_pos h]; exact ⟨fun _ => h, fun _ => plT_ne (planB_iff.1 h).1⟩
  · rw [if_neg h]; exact ⟨fun q => absurd rfl q, fun q => absurd q h⟩

/-! ### reading -/
def allNum : List (List UInt8) → Option (List Int)
  | [] => some []
  | x :: r => match numP x, allNum r with
    | some n, some l => some (n :: l)
    | _, _ => none
theorem allNum_eq : ∀ (xs : List (List UInt8)) (p : List Int), allNum xs = some p → xs = p.map Lib.itoa
  | [], p, h => by simp [allNum] at h; subst h; rfl
  | x :: r, p, h => by
    unfold allNum at h
    cases h1 : numP x with
    | none => rw [h1] at h; simp at h
    | some n =>
      cases h2 : allNum r with
      | none => rw [h1, h2] at h; simp at h
      | some l =>
        rw [h1, h2] at h
        simp at h
        subst h
        rw [List.map_cons, ← allNum_eq r l h2, (numP_iff h1).1]
theorem allNum_map : ∀ p : List Int, (∀ n ∈ p, -1000000000000000 ≤ n ∧ n ≤ 1000000000000000) → allNum (p.map Lib.itoa) = some p
  | [], _ => rfl
  | n :: p, h => by
    obtain ⟨a, b⟩ := h n (by simp)
    rw [List.map_cons, allNum, numP_small a b, allNum_map p (fun x hx => h x (by simp [hx]))]
theorem allNum_none {xs : List (List UInt8)} {k : Nat} (h : k < xs.length) (hn : numP xs[k] = none) : allNum xs = none := by
  induction xs generalizing k with
  | nil => simp at h
  | cons x r ih =>
    cases k with
    | zero => simp at hn; rw [allNum, hn]
    | succ k =>
      simp at hn h
      rw [allNum, ih h hn]
      cases numP x <;> rfl
theorem allNum_some {xs : List (List UInt8)} (h : ∀ k (hk : k < xs.length), (numP xs[k]).isSome = true) : allNum xs = some (xs.map fun x => (numP x).getD 0) := by
  induction xs with
  | nil => rfl
  | cons x r ih =>
    have h0 := h 0 (by simp)
    have h1 := ih (fun k hk => by have := h (k + 1) (by simpa using hk); simpa using this)
    simp at h0
    obtain ⟨n, hn⟩ := Option.isSome_iff_exists.1 h0
    rw [allNum, h1, hn, List.map_cons, hn]
    rfl
/-- a polynomial is read -/
def ppP (t : List UInt8) : Option (List Int) := (allNum (cutP 32 t)).bind fun p => if polyB p = true then some p else none
theorem ppP_iff {t : List UInt8} {p : List Int} : ppP t = some p ↔ polyB p = true ∧ nmL p = t := by
  unfold ppP
  constructor
  · intro h
    cases h1 : allNum (cutP 32 t) with
    | none => rw [h1] at h; simp at h
    | some q =>
      rw [h1] at h
      simp only [Option.bind_some] at h
      split at h
      · rename_i hq
        simp at h
        subst h
        refine ⟨hq, ?_⟩
        unfold nmL
        rw [← allNum_eq _ _ h1, join_cut]
      · simp at h
  · intro ⟨h1, h2⟩
    have h3 : cutP 32 t = p.map Lib.itoa := by
      rw [← h2]
      unfold nmL
      exact cut_join 32 _ (by have := (polyB_len h1).1; intro e; rw [List.map_eq_nil_iff] at e; rw [e] at this; simp at this) (fun x hx => by
        obtain ⟨n, _, rfl⟩ := List.mem_map.1 hx
        exact itoa_no 32 (by decide) (by decide) n)
    rw [h3, allNum_map p (fun n hn => by have := polyB_mem h1 n hn; omega)]
    simp [h1]
/-- the numbers that the reference reads -/
def spO (t : List UInt8) : List Int := ((cutP 32 t).take 8).map fun x => (numP x).getD 0
theorem spO_yes {t : List UInt8} {p : List Int} (h : ppP t = some p) : spO t = p ∧ fpL p = t := by
  obtain ⟨h1, h2⟩ := ppP_iff.1 h
  refine ⟨?_, by rw [fpL_yes h1, h2]⟩
  have h3 : cutP 32 t = p.map Lib.itoa := by
    rw [← h2]
    unfold nmL
    exact cut_join 32 _ (by have := (polyB_len h1).1; intro e; rw [List.map_eq_nil_iff] at e; rw [e] at this; simp at this) (fun x hx => by
      obtain ⟨n, _, rfl⟩ := List.mem_map.1 hx
      exact itoa_no 32 (by decide) (by decide) n)
  unfold spO
  rw [h3, List.take_of_length_le (by have := (polyB_len h1).2; simp; omega), List.map_map]
  apply List.ext_getElem
  · simp
  · intro i a b
    simp only [List.getElem_map, Function.comp]
    have := polyB_mem h1 p[i] (List.getElem_mem b)
    rw [numP_small (by omega) (by omega)]
    rfl
theorem numP_nil : numP [] = none := by
  cases h : numP [] with
  | none => rfl
  | some n => exact absurd (numP_iff h).1 (itoa_ne n)
theorem ppP_nil : ppP [] = none := by
  unfold ppP
  show (allNum [[]]).bind _ = none
  rw [allNum, numP_nil]
  rfl
theorem spO_no {t : List UInt8} (h : ppP t = none) : fpL (spO t) ≠ t := by
  intro e
  by_cases hp : polyB (spO t) = true
  · rw [fpL_yes hp] at e
    rw [ppP_iff.2 ⟨hp, e⟩] at h
    cases h
  · have e2 : fpL (spO t) = [] := if_neg hp
    rw [e2] at e
    subst e
    apply hp
    have : spO [] = [0] := by
      unfold spO
      show ([[]] : List (List UInt8)).map _ = _
      rw [List.map_cons, numP_nil]
      rfl
    rw [this]
    decide
/-- a segment is read -/
def segP (x : List UInt8) : Option Seg := if Lib.index x [58] = -1 then none else
  match numP (x.take (Lib.index x [58]).toNat), ppP (x.drop ((Lib.index x [58]).toNat + 1)) with
    | some c, some p => some (c, p)
    | _, _ => none
theorem segP_eq {x : List UInt8} {s : Seg} (h : segP x = some s) : sgT s = x ∧ polyB s.2 = true := by
  unfold segP at h
  rcases index_lo 58 x with h1 | ⟨i, h1⟩
  · rw [if_pos h1] at h; cases h
  · rw [if_neg (by omega), h1, Int.toNat_natCast] at h
    obtain ⟨g1, g2, g3⟩ := index_split h1
    cases h2 : numP (x.take i) with
    | none => rw [h2] at h; simp at h
    | some c =>
      cases h3 : ppP (x.drop (i + 1)) with
      | none => rw [h2, h3] at h; simp at h
      | some p =>
        rw [h2, h3] at h
        simp at h
        subst h
        obtain ⟨h4, h5⟩ := ppP_iff.1 h3
        refine ⟨?_, h4⟩
        unfold sgT
        rw [(numP_iff h2).1, h5, ← g2]
theorem index_sgT (s : Seg) : Lib.index (sgT s) [58] = ((Lib.itoa s.1).length : Int) := index_first (itoa_no 58 (by decide) (by decide) _)
theorem segP_sgT {s : Seg} (h : segB s = true) : segP (sgT s) = some s := by
  obtain ⟨h1, h2, h3, _⟩ := segB_iff h
  unfold segP
  rw [index_sgT, if_neg (by omega), Int.toNat_natCast]
  have e1 : (sgT s).take (Lib.itoa s.1).length = Lib.itoa s.1 := by unfold sgT; exact List.take_left
  have e2 : (sgT s).drop ((Lib.itoa s.1).length + 1) = nmL s.2 := by
    unfold sgT
    rw [← List.drop_drop, List.drop_left]
    rfl
  rw [e1, e2, numP_small (by omega) (by omega), ppP_iff.2 ⟨h3, rfl⟩]
def allSeg : List (List UInt8) → Option (List Seg)
  | [] => some []
  | x :: r => match segP x, allSeg r with
    | some s, some l => some (s :: l)
    | _, _ => none
theorem allSeg_eq : ∀ (xs : List (List UInt8)) (pl : List Seg), allSeg xs = some pl → xs = pl.map sgT
  | [], pl, h => by simp [allSeg] at h; subst h; rfl
  | x :: r, pl, h => by
    unfold allSeg at h
    cases h1 : segP x with
    | none => rw [h1] at h; simp at h
    | some s =>
      cases h2 : allSeg r with
      | none => rw [h1, h2] at h; simp at h
      | some l =>
        rw [h1, h2] at h
        simp at h
        subst h
        rw [List.map_cons, ← allSeg_eq r l h2, (segP_eq h1).1]
theorem allSeg_map : ∀ pl : List Seg, pl.all segB = true → allSeg (pl.map sgT) = some pl
  | [], _ => rfl
  | s :: pl, h => by
    simp only [List.all_cons, Bool.and_eq_true] at h
    rw [List.map_cons, allSeg, segP_sgT h.1, allSeg_map pl h.2]
theorem allSeg_snoc (xs : List (List UInt8)) (x : List UInt8) : allSeg (xs ++ [x]) = match allSeg xs, segP x with
    | some l, some s => some (l ++ [s])
    | _, _ => none := by
  induction xs with
  | nil => simp only [List.nil_append, allSeg]; cases segP x <;> rfl
  | cons y r ih =>
    rw [List.cons_append, allSeg, ih, allSeg]
    cases segP y <;> cases allSeg r <;> cases segP x <;> rfl
theorem allSeg_none (xs r : List (List UInt8)) (h : allSeg xs = none) : allSeg (xs ++ r) = none := by
  induction xs with
  | nil => simp [allSeg] at h
  | cons y q ih =>
    rw [List.cons_append, allSeg]
    rw [allSeg] at h
    cases h1 : segP y with
    | none => rfl
    | some s =>
      cases h2 : allSeg q with
      | none => rw [ih h2]
      | some l => rw [h1, h2] at h; simp at h
/-- a plan is read -/
def planP (t : List UInt8) : Option (List Seg) := (allSeg (cutP 47 t)).bind fun pl => if planB pl = true then some pl else none
theorem cut_plT {pl : List Seg} (h : 1 ≤ pl.length) : cutP 47 (plT pl) = pl.map sgT := by
  unfold plT
  exact cut_join 47 _ (by intro e; rw [List.map_eq_nil_iff] at e; rw [e] at h; simp at h) (fun x hx => by
    obtain ⟨s, _, rfl⟩ := List.mem_map.1 hx
    exact sgT_no s)
theorem planP_iff {t : List UInt8} {pl : List Seg} : planP t = some pl ↔ planB pl = true ∧ plT pl = t := by
  unfold planP
  constructor
  · intro h
    cases h1 : allSeg (cutP 47 t) with
    | none => rw [h1] at h; simp at h
    | some q =>
      rw [h1] at h
      simp only [Option.bind_some] at h
      split at h
      · rename_i hq
        simp at h
        subst h
        refine ⟨hq, ?_⟩
        unfold plT
        rw [← allSeg_eq _ _ h1, join_cut]
      · simp at h
  · intro ⟨h1, h2⟩
    rw [← h2, cut_plT (planB_iff.1 h1).1, allSeg_map pl (planB_iff.1 h1).2.1]
    simp [h1]
/-- the segments that the reference reads: those of the first 61 parts -/
def segO (x : List UInt8) : Seg := ((numP (x.take (Lib.index x [58]).toNat)).getD 0, (ppP (x.drop ((Lib.index x [58]).toNat + 1))).getD [])
def has58 (x : List UInt8) : Bool := decide (Lib.index x [58] ≠ -1)
def plPt (t : List UInt8) : List (List UInt8) := (cutP 47 t).take 61
def plO (t : List UInt8) : List Seg := (plPt t).map segO
theorem segO_of {x : List UInt8} {s : Seg} (h : segP x = some s) : segO x = s ∧ has58 x = true := by
  unfold segP at h
  by_cases h1 : Lib.index x [58] = -1
  · rw [if_pos h1] at h; cases h
  · rw [if_neg h1] at h
    refine ⟨?_, decide_eq_true h1⟩
    unfold segO
    cases h2 : numP (x.take (Lib.index x [58]).toNat) with
    | none => rw [h2] at h; simp at h
    | some c =>
      cases h3 : ppP (x.drop ((Lib.index x [58]).toNat + 1)) with
      | none => rw [h2, h3] at h; simp at h
      | some p =>
        rw [h2, h3] at h
        simp at h
        subst h
        rfl
theorem plO_yes {t : List UInt8} {pl : List Seg} (h : planP t = some pl) : (plPt t).all has58 = true ∧ plO t = pl ∧ fplL pl = t := by
  obtain ⟨h1, h2⟩ := planP_iff.1 h
  have h3 : plPt t = pl.map sgT := by
    unfold plPt
    rw [← h2, cut_plT (planB_iff.1 h1).1, List.take_of_length_le (by have := planB_len h1; simp; omega)]
  refine ⟨?_, ?_, by rw [fplL_yes h1, h2]⟩
  · rw [h3, List.all_eq_true]
    intro x hx
    obtain ⟨s, hs, rfl⟩ := List.mem_map.1 hx
    exact (segO_of (segP_sgT (List.all_eq_true.1 (planB_iff.1 h1).2.1 s hs))).2
  · unfold plO
    rw [h3, List.map_map]
    apply List.ext_getElem
    · simp
    · intro i a b
      simp only [List.getElem_map, Function.comp]
      exact (segO_of (segP_sgT (List.all_eq_true.1 (planB_iff.1 h1).2.1 _ (List.getElem_mem b)))).1
theorem has58_nil : has58 [] = false := by decide
theorem plPt_nil : plPt [] = [[]] := rfl
theorem plO_no {t : List UInt8} (h : planP t = none) (h58 : (plPt t).all has58 = true) : fplL (plO t) ≠ t := by
  intro e
  by_cases hp : planB (plO t) = true
  · rw [fplL_yes hp] at e
    rw [planP_iff.2 ⟨hp, e⟩] at h
    cases h
  · have e2 : fplL (plO t) = [] := if_neg hp
    rw [e2] at e
    subst e
    rw [plPt_nil] at h58
    simp [has58_nil] at h58
theorem plO_no58 {t : List UInt8} (h58 : (plPt t).all has58 = false) : planP t = none := by
  cases h : planP t with
  | none => rfl
  | some pl => rw [(plO_yes h).1] at h58; cases h58
end Go.Proofs.YtdfnclnjnmdboaaGreatDoor
