/- Lemmas and contracts for PrintRead (SpP SpP2 SpP3): plain words on memory, contracts of the functions that the law reaches. No condition but what each states. -/
import Derived.Test.YtgjaajfpdajleaaGreatDoorMPrintReadRpP
import Derived.Test.YtgjaajfpdajleaaGreatDoorMPrintReadPgrP
import Derived.Lib.Split
import Derived.Lib.CountLaws
namespace Go.Proofs.YtgjaajfpdajleaaGreatDoor
set_option linter.unusedVariables false
open Go.RowKit

/-- a text cut at every byte c -/
def cutP (c : UInt8) : List UInt8 → List (List UInt8)
  | [] => [[]]
  | b :: l => if b = c then [] :: cutP c l else match cutP c l with
    | [] => [[b]]
    | h :: t => (b :: h) :: t
theorem cutP_ne (c : UInt8) (l : List UInt8) : cutP c l ≠ [] := by
  cases l with
  | nil => simp [cutP]
  | cons b l =>
    unfold cutP
    split
    · simp
    · split <;> simp
theorem cutP_hit (c : UInt8) (x r : List UInt8) (h : c ∉ x) : cutP c (x ++ c :: r) = x :: cutP c r := by
  induction x with
  | nil => simp [cutP]
  | cons b x ih =>
    simp only [List.mem_cons, not_or] at h
    rw [List.cons_append, cutP, if_neg (fun e => h.1 e.symm), ih h.2]
theorem cutP_end (c : UInt8) (x : List UInt8) (h : c ∉ x) : cutP c x = [x] := by
  induction x with
  | nil => rfl
  | cons b x ih =>
    simp only [List.mem_cons, not_or] at h
    rw [cutP, if_neg (fun e => h.1 e.symm), ih h.2]
def bytS (l : List UInt8) : ByteArray := ⟨l.toArray⟩
theorem bytS_data (l : List UInt8) : (bytS l).data.toList = l := by simp [bytS]
theorem bytS_of (s : ByteArray) : bytS s.data.toList = s := by
  have : IsS s s.data.toList := rfl
  exact this.eq.symm
def cutS (c : UInt8) (l : List UInt8) : List ByteArray := (cutP c l).map bytS

/-! ### the text of pages -/
def txP : List (List ByteArray) → List UInt8
  | [] => []
  | [P] => linT P
  | P :: Q :: l => linT P ++ 10 :: txP (Q :: l)
theorem txP_snoc (l : List (List ByteArray)) (P : List ByteArray) (h : l ≠ []) : txP (l ++ [P]) = txP l ++ ([10] ++ linT P) := by
  induction l with
  | nil => exact absurd rfl h
  | cons Q l ih =>
    cases l with
    | nil => simp [txP]
    | cons R l =>
      have := ih (by simp)
      rw [List.cons_append, List.cons_append, txP, ← List.cons_append, this, txP]
      simp
theorem tbT_tx (f : Nat → List ByteArray) (q : Nat) : tbT f q = txP ((List.range q).map f) := by
  induction q with
  | zero => rfl
  | succ q ih =>
    rw [tbT_succ, ih, List.range_succ, List.map_append]
    by_cases h : 0 < q
    · rw [if_pos h]
      have hne : (List.range q).map f ≠ [] := by
        intro e
        have := congrArg List.length e
        simp at this
        omega
      simp only [List.map_cons, List.map_nil]
      rw [txP_snoc _ _ hne]
    · obtain rfl : q = 0 := by omega
      simp [txP]
/-- a line of a page: not empty, without a line's end -/
def LnOk (y : ByteArray) : Prop := y.data.toList ≠ [] ∧ (10 : UInt8) ∉ y.data.toList
theorem cut_lines (L : List ByteArray) (r : List UInt8) (h : ∀ y ∈ L, LnOk y) : cutP 10 (linT L ++ r) = L.map (·.data.toList) ++ cutP 10 r := by
  induction L with
  | nil => rfl
  | cons y L ih =>
    have h1 := ih (fun z hz => h z (by simp [hz]))
    have e : linT (y :: L) ++ r = y.data.toList ++ 10 :: (linT L ++ r) := by unfold linT; simp
    rw [e, cutP_hit _ _ _ (h y (by simp)).2, h1]
    rfl
theorem cut_pages (l : List (List ByteArray)) (hne : l ≠ []) (h : ∀ P ∈ l, ∀ y ∈ P, LnOk y) : cutP 10 (txP l) = (l.map fun P => P.map (·.data.toList) ++ [[]]).flatten := by
  induction l with
  | nil => exact absurd rfl hne
  | cons P l ih =>
    cases l with
    | nil =>
      have := cut_lines P [] (h P (by simp))
      rw [List.append_nil] at this
      simp [txP, this, cutP]
    | cons Q l =>
      have h1 := ih (by simp) (fun R hR => h R (by simp [hR]))
      have h2 := cut_lines P (10 :: txP (Q :: l)) (h P (by simp))
      rw [txP, h2, List.map_cons, List.flatten_cons, ← h1]
      have : cutP 10 (10 :: txP (Q :: l)) = [] :: cutP 10 (txP (Q :: l)) := by simp [cutP]
      rw [this]
      simp

/-! ### the reference's reading: lines are gathered up to an empty one -/
def stP (C a : Nat) : List ByteArray → List Int → List ByteArray → List Int × List ByteArray
  | [], v, g => (v, g)
  | y :: l, v, g => if y.size = 0 then stP C a l (v ++ celV g C a) [] else stP C a l v (g ++ [y])
theorem stP_lines (C a : Nat) (L r : List ByteArray) (h : ∀ y ∈ L, LnOk y) (v : List Int) (g : List ByteArray) : stP C a (L ++ r) v g = stP C a r v (g ++ L) := by
  induction L generalizing g with
  | nil => simp
  | cons y L ih =>
    have hy : y.size ≠ 0 := by
      intro e
      apply (h y (by simp)).1
      exact List.eq_nil_of_length_eq_zero (by rw [size_data]; exact e)
    rw [List.cons_append, stP, if_neg hy, ih (fun z hz => h z (by simp [hz]))]
    simp
theorem stP_pages (C a : Nat) (l : List (List ByteArray)) (h : ∀ P ∈ l, ∀ y ∈ P, LnOk y) (v : List Int) : stP C a ((l.map fun P => P ++ [bytS []]).flatten) v [] = (v ++ (l.map fun P => celV P C a).flatten, []) := by
  induction l generalizing v with
  | nil => simp [stP]
  | cons P l ih =>
    rw [List.map_cons, List.flatten_cons, List.append_assoc, stP_lines _ _ _ _ (h P (by simp)), List.cons_append, List.nil_append, List.nil_append, stP, if_pos (by rfl), ih (fun Q hQ => h Q (by simp [hQ])), List.map_cons, List.flatten_cons, List.append_assoc]
theorem cutS_pages (l : List (List ByteArray)) (hne : l ≠ []) (h : ∀ P ∈ l, ∀ y ∈ P, LnOk y) : cutS 10 (txP l) = (l.map fun P => P ++ [bytS []]).flatten := by
  unfold cutS
  rw [cut_pages l hne h, List.map_flatten, List.map_map]
  congr 1
  apply List.map_congr_left
  intro P _
  simp only [Function.comp, List.map_append, List.map_map, List.map_cons, List.map_nil]
  congr 1
  rw [show (bytS ∘ fun x : ByteArray => x.data.toList) = id from funext fun x => bytS_of x]
  simp
/-- a printed table is gathered again -/
theorem st_table (C a : Nat) (f : Nat → List ByteArray) (q : Nat) (hq : 0 < q) (h : ∀ i, i < q → ∀ y ∈ f i, LnOk y) : (stP C a (cutS 10 (tbT f q)) [] []).1 = ((List.range q).map fun i => celV (f i) C a).flatten := by
  have hP : ∀ P ∈ (List.range q).map f, ∀ y ∈ P, LnOk y := by
    intro P hP
    obtain ⟨i, hi, rfl⟩ := List.mem_map.1 hP
    exact h i (List.mem_range.1 hi)
  have hne : (List.range q).map f ≠ [] := by
    intro e
    have := congrArg List.length e
    simp at this
    omega
  rw [tbT_tx, cutS_pages _ hne hP, stP_pages C a _ hP [], List.nil_append, List.map_map]
  rfl
end Go.Proofs.YtgjaajfpdajleaaGreatDoor

namespace Go.Proofs.YtgjaajfpdajleaaGreatDoor
set_option linter.unusedVariables false
open Go.RowKit

theorem itoa_no10 (n : Int) : (10 : UInt8) ∉ Lib.itoa n := by
  have hd : ∀ k, (10 : UInt8) ∉ Lib.decDigits k := by
    intro k hk
    have h := decFrom_dec k
    obtain ⟨j, hj, hjc⟩ := List.mem_iff_getElem.1 hk
    obtain ⟨d, hd⟩ := Lib.digit_of_decFrom _ 0 k h j 10 (by rw [List.getElem?_eq_getElem hj, hjc])
    obtain ⟨_, _, h1, _⟩ := digitVal_some hd
    exact absurd h1 (by decide)
  by_cases h : n < 0
  · rw [itoa_neg h]
    intro e
    rcases List.mem_cons.1 e with e | e
    · exact absurd e (by decide)
    · exact hd _ e
  · obtain ⟨k, rfl⟩ : ∃ k : Nat, n = k := ⟨n.toNat, by omega⟩
    rw [itoa_nat]; exact hd k
theorem ent_no10 (n : Int) (wd : Nat) : (10 : UInt8) ∉ entL n wd := by
  unfold entL
  intro e
  rcases List.mem_append.1 e with e | e
  · exact absurd (List.eq_of_mem_replicate e) (by decide)
  · exact itoa_no10 n e
theorem cellJ_no10 (xs : List Int) (wd f r k : Nat) : (10 : UInt8) ∉ cellJ xs wd f r k := by
  induction k with
  | zero => simp [cellJ_zero]
  | succ k ih =>
    by_cases h0 : 0 < k
    · rw [cellJ_succ _ _ _ _ _ h0]
      intro e
      rcases List.mem_append.1 e with e | e
      · exact ih e
      · rcases List.mem_append.1 e with e | e
        · exact absurd (List.mem_singleton.1 e) (by decide)
        · exact ent_no10 _ _ e
    · obtain rfl : k = 0 := by omega
      rw [cellJ_one]
      exact ent_no10 _ _
theorem page_lnok {xs : List Int} {C s R A : Nat} (hin : allIn xs 1000000000 = true) (h : pgeB xs C s R A = true) (hA : 0 < A) (hC : 0 < C) : ∀ y ∈ pgeF xs C s R A, LnOk y := by
  have hF : pgeF xs C s R A = pgLn xs C s R A (pgN xs.length s R) := if_pos h
  rw [hF]
  intro y hy
  unfold pgLn at hy
  obtain ⟨q, hq, rfl⟩ := List.mem_map.1 hy
  have hq := List.mem_range.1 hq
  obtain ⟨hq1, hq2⟩ := pgN_lt' hq
  unfold pgeB pgOk at h
  have hb : lnB xs C (s + q) R A = true := List.all_eq_true.1 h q (List.mem_range.2 hq)
  have e : (lnS xs C (s + q) R A).data.toList = lnL xs C (s + q) R A := by unfold lnS; simp
  obtain ⟨g1, g2, _⟩ := line_facts hin hb hq2 hA
  unfold LnOk
  rw [e]
  refine ⟨?_, cellJ_no10 _ _ _ _ _⟩
  intro e2
  rw [e2] at g1
  have := Nat.mul_le_mul g2 (show 2 ≤ C + 1 by omega)
  simp at g1
  omega
/-- the pages of a printed table -/
theorem tab_pages {R A C : Nat} {xs : List Int} (h : ptB R A C xs = true) : ∀ i, i < ptN R A C xs → pgeB xs C (i * (R * A)) R A = true ∧ i * (R * A) < xs.length ∧ plinS R A C xs (i : Int) = pgeF xs C (i * (R * A)) R A := by
  intro i hi
  unfold ptB at h
  rw [Bool.and_eq_true] at h
  obtain ⟨hv, ho⟩ := h
  have hp := ptV_page hv hi
  obtain ⟨e1, e2⟩ := plin_eq hp
  unfold ptOk at ho
  have hb := List.all_eq_true.1 ho i (List.mem_range.2 hi)
  rw [e2] at hb
  obtain ⟨_, _, _, p1⟩ := pgB_iff hp
  refine ⟨hb, ?_, e1⟩
  have : (i : Int) * ((R : Int) * (A : Int)) = ((i * (R * A) : Nat) : Int) := by simp
  omega
theorem ptV_parts {r a c : Int} {xs : List Int} (h : ptB r a c xs = true) : layB r a c = true ∧ tabB xs = true := by
  unfold ptB ptV at h
  rw [Bool.and_eq_true, Bool.and_eq_true] at h
  exact h.1
theorem ptN_cover {R A C : Nat} {xs : List Int} (h : ptV R A C xs = true) : 0 < ptN R A C xs ∧ xs.length ≤ ptN R A C xs * (R * A) := by
  have hn := ptN_bd h
  unfold ptV at h
  rw [Bool.and_eq_true] at h
  obtain ⟨hl, ht⟩ := h
  obtain ⟨t1, t2, _⟩ := tabB_iff ht
  obtain ⟨l1, l2, l3, l4, l5, l6, l7, l8⟩ := lay_mul hl
  have e : pnF R A C xs.length = ((xs.length : Int) + (R : Int) * A - 1) / ((R : Int) * A) := if_pos ⟨hl, by omega, by omega⟩
  have e2 : (R : Int) * (A : Int) = ((R * A : Nat) : Int) := by simp
  rw [hn.1, e2] at e
  rw [e2] at l7
  generalize R * A = M at *
  generalize ptN (R : Int) (A : Int) (C : Int) xs = n at *
  have h1 : 1 ≤ (n : Int) := by rw [e]; exact (Int.le_ediv_iff_mul_le (by omega)).2 (by omega)
  have h2 : ((xs.length : Int) + M - 1) < ((n : Int) + 1) * M := by
    have := Int.lt_ediv_add_one_mul_self ((xs.length : Int) + M - 1) (show (0 : Int) < M by omega)
    rwa [← e] at this
  rw [Int.add_mul] at h2
  have e3 : (n : Int) * (M : Int) = ((n * M : Nat) : Int) := by simp
  omega
theorem take_pages (xs : List Int) (M : Nat) : ∀ n, ((List.range n).map fun i => pgE xs (i * M) M).flatten = xs.take (n * M) := by
  intro n
  induction n with
  | zero => simp
  | succ n ih =>
    rw [List.range_succ, List.map_append, List.flatten_append, ih, Nat.add_mul, Nat.one_mul, List.take_add]
    simp [pgE]
theorem tab_vals {R A C : Nat} {xs : List Int} (h : ptB R A C xs = true) : ((List.range (ptN R A C xs)).map fun (i : Nat) => celV (plinS R A C xs (i : Int)) C A).flatten = xs := by
  obtain ⟨hl, ht⟩ := ptV_parts h
  obtain ⟨t1, t2, t3⟩ := tabB_iff ht
  obtain ⟨l1, l2, l3, l4, l5, l6, l7, l8⟩ := lay_mul hl
  have hv : ptV R A C xs = true := by unfold ptV; rw [hl, ht]; rfl
  have hc := ptN_cover hv
  have e : ((List.range (ptN R A C xs)).map fun (i : Nat) => celV (plinS R A C xs (i : Int)) C A) = (List.range (ptN R A C xs)).map fun i => pgE xs (i * (R * A)) (R * A) := by
    apply List.map_congr_left
    intro i hi
    obtain ⟨h1, h2, h3⟩ := tab_pages h i (List.mem_range.1 hi)
    rw [h3]
    exact page_vals t3 h1 h2 (by omega)
  rw [e, take_pages, List.take_of_length_le hc.2]
theorem tab_lnok {R A C : Nat} {xs : List Int} (h : ptB R A C xs = true) : ∀ i, i < ptN R A C xs → ∀ y ∈ plinS R A C xs (i : Int), LnOk y := by
  intro i hi
  obtain ⟨hl, ht⟩ := ptV_parts h
  obtain ⟨t1, t2, t3⟩ := tabB_iff ht
  obtain ⟨l1, l2, l3, l4, l5, l6, l7, l8⟩ := lay_mul hl
  obtain ⟨h1, h2, h3⟩ := tab_pages h i hi
  rw [h3]
  exact page_lnok t3 h1 (by omega) (by omega)
/-- the reference's reading gives a printed table -/
theorem st_print {R A C : Nat} {xs : List Int} (h : ptB R A C xs = true) : (stP C A (cutS 10 (ptT R A C xs (ptN R A C xs))) [] []).1 = xs := by
  have hv : ptV R A C xs = true := by have := ptV_parts h; unfold ptV; rw [this.1, this.2]; rfl
  have hc := ptN_cover hv
  unfold ptT
  rw [st_table C A _ _ hc.1 (tab_lnok h)]
  exact tab_vals h

/-! ### cutting at a word: one byte, two bytes -/
theorem index_split {c : UInt8} {s : List UInt8} {i : Nat} (h : Lib.index s [c] = i) : i < s.length ∧ s = s.take i ++ c :: s.drop (i + 1) ∧ c ∉ s.take i := by
  induction s generalizing i with
  | nil => rw [index_nil] at h; omega
  | cons b s ih =>
    rw [index_cons] at h
    by_cases e : b = c
    · rw [if_pos e] at h
      obtain rfl : i = 0 := by omega
      subst e
      simp
    · rw [if_neg e] at h
      rcases index_lo c s with h1 | ⟨j, h1⟩
      · rw [if_pos h1] at h; omega
      · rw [if_neg (by omega), h1] at h
        obtain rfl : i = j + 1 := by omega
        obtain ⟨g1, g2, g3⟩ := ih h1
        refine ⟨by simp; omega, ?_, ?_⟩
        · rw [List.take_succ_cons, List.drop_succ_cons, List.cons_append, ← g2]
        · rw [List.take_succ_cons]
          simp only [List.mem_cons, not_or]
          exact ⟨fun q => e q.symm, g3⟩
theorem index_none {c : UInt8} {s : List UInt8} (h : Lib.index s [c] = -1) : c ∉ s := by
  induction s with
  | nil => simp
  | cons b s ih =>
    rw [index_cons] at h
    by_cases e : b = c
    · rw [if_pos e] at h; omega
    · rw [if_neg e] at h
      rcases index_lo c s with h1 | ⟨j, h1⟩
      · simp only [List.mem_cons, not_or]; exact ⟨fun q => e q.symm, ih h1⟩
      · rw [if_neg (by omega), h1] at h; omega
theorem splitK_one (c : UInt8) : ∀ (k : Nat) (s : List UInt8), Lib.count s [c] = k → Lib.splitK [c] 0 k s = cutP c s := by
  intro k
  induction k with
  | zero =>
    intro s h
    have hn : c ∉ s := by
      rcases index_lo c s with h1 | ⟨i, h1⟩
      · exact index_none h1
      · have := Lib.count_hit (sub := [c]) (by simp) h1; omega
    rw [cutP_end c s hn]
    rfl
  | succ k ih =>
    intro s h
    rcases index_lo c s with h1 | ⟨i, h1⟩
    · rw [Lib.count_miss h1] at h; omega
    · have h2 := Lib.count_hit (sub := [c]) (by simp) h1
      obtain ⟨g1, g2, g3⟩ := index_split h1
      have h3 : Lib.splitK [c] 0 (k + 1) s = s.take (i + 0) :: Lib.splitK [c] 0 k (s.drop (i + [c].length)) := by
        rw [Lib.splitK, h1]
        rw [if_neg (by simp)]
        rfl
      rw [h3, Nat.add_zero, ih _ (by rw [h] at h2; omega)]
      conv => rhs; rw [g2]
      rw [cutP_hit c _ _ g3]
      rfl
theorem split_one (c : UInt8) (s : List UInt8) : Lib.split s [c] = cutP c s := splitK_one c _ s rfl
/-- no two line's ends beside each other, and none at the end -/
def NN : List UInt8 → Prop
  | [] => True
  | [b] => b ≠ 10
  | b :: c :: l => (b = 10 → c ≠ 10) ∧ NN (c :: l)
theorem index2_cons (b : UInt8) (l : List UInt8) : Lib.index (b :: l) [10, 10] = if b = 10 ∧ l.head? = some 10 then 0 else if Lib.index l [10, 10] = -1 then -1 else Lib.index l [10, 10] + 1 := by
  rw [Lib.index]
  have e : ([10, 10] : List UInt8).isPrefixOf (b :: l) = decide (b = 10 ∧ l.head? = some 10) := by
    rw [Bool.eq_iff_iff, decide_eq_true_eq]
    cases l with
    | nil => simp [List.isPrefixOf]
    | cons c l =>
      simp only [List.isPrefixOf, Bool.and_eq_true, beq_iff_eq, Bool.and_true, List.head?_cons, Option.some.injEq]
      exact ⟨fun h => ⟨h.1.symm, h.2.symm⟩, fun h => ⟨h.1.symm, h.2.symm⟩⟩
  rw [e]
  by_cases h : b = 10 ∧ l.head? = some 10
  · rw [if_pos h, if_pos (decide_eq_true h)]
  · rw [if_neg h, if_neg (by rw [decide_eq_false h]; simp)]
    simp only [beq_iff_eq]
theorem index2_hit : ∀ (P r : List UInt8), NN P → Lib.index (P ++ 10 :: 10 :: r) [10, 10] = (P.length : Int) := by
  intro P
  induction P with
  | nil => intro r _; rw [List.nil_append, index2_cons, if_pos ⟨rfl, rfl⟩]; rfl
  | cons b P ih =>
    intro r h
    cases P with
    | nil =>
      have hb : b ≠ 10 := h
      have := ih r trivial
      rw [List.cons_append, index2_cons, if_neg (fun q => hb q.1), this]
      simp
    | cons c P =>
      obtain ⟨h1, h2⟩ := h
      have := ih r h2
      rw [List.cons_append, index2_cons, if_neg (fun q => by
        have h3 := q.2
        rw [List.cons_append, List.head?_cons, Option.some.injEq] at h3
        exact h1 q.1 h3), this]
      rw [if_neg (by simp; omega)]
      simp
theorem index2_miss : ∀ (P : List UInt8), NN P → Lib.index P [10, 10] = -1 := by
  intro P
  induction P with
  | nil => intro _; rfl
  | cons b P ih =>
    intro h
    cases P with
    | nil => rw [index2_cons, if_neg (fun q => by cases q.2)]; rfl
    | cons c P =>
      obtain ⟨h1, h2⟩ := h
      rw [index2_cons, if_neg (fun q => by
        have h3 := q.2
        rw [List.head?_cons, Option.some.injEq] at h3
        exact h1 q.1 h3), ih h2]
      rfl
/-- texts with an empty line between them -/
def tx2 : List (List UInt8) → List UInt8
  | [] => []
  | [p] => p
  | p :: q :: l => p ++ 10 :: 10 :: tx2 (q :: l)
theorem split_two (l : List (List UInt8)) (hne : l ≠ []) (h : ∀ p ∈ l, NN p) : Lib.split (tx2 l) [10, 10] = l := by
  unfold Lib.split
  have : ∀ k, Lib.count (tx2 l) [10, 10] = k → Lib.splitK [10, 10] 0 k (tx2 l) = l := by
    induction l with
    | nil => exact absurd rfl hne
    | cons p l ih =>
      cases l with
      | nil =>
        intro k hk
        have h1 := index2_miss p (h p (by simp))
        cases k with
        | zero => rfl
        | succ k => rw [tx2, Lib.splitK, h1]; rfl
      | cons q l =>
        intro k hk
        have h1 := index2_hit p (tx2 (q :: l)) (h p (by simp))
        have h2 := Lib.count_hit (sub := [10, 10]) (by simp) h1
        have h3 : (p ++ 10 :: 10 :: tx2 (q :: l)).drop (p.length + [(10 : UInt8), 10].length) = tx2 (q :: l) := by
          rw [List.drop_append]
          simp
        rw [h3] at h2
        rw [tx2] at hk ⊢
        obtain ⟨k, rfl⟩ : ∃ k', k = k' + 1 := ⟨k - 1, by omega⟩
        have h4 := ih (by simp) (fun r hr => h r (by simp [hr])) k (by omega)
        rw [Lib.splitK, h1, if_neg (by simp)]
        rw [show ((p.length : Int)).toNat = p.length by simp, h3, h4, Nat.add_zero, List.take_left]
  exact this _ rfl
def jnL (P : List ByteArray) : List UInt8 := Lib.join (P.map (·.data.toList)) [10]
theorem jn_cons (y z : ByteArray) (P : List ByteArray) : jnL (y :: z :: P) = y.data.toList ++ 10 :: jnL (z :: P) := by
  unfold jnL Lib.join
  simp [List.intercalate, List.intersperse_cons_cons]
theorem jn_one (y : ByteArray) : jnL [y] = y.data.toList := by
  unfold jnL Lib.join
  simp [List.intercalate]
theorem linT_jn (P : List ByteArray) (h : P ≠ []) : linT P = jnL P ++ [10] := by
  induction P with
  | nil => exact absurd rfl h
  | cons y P ih =>
    cases P with
    | nil => rw [jn_one]; simp [linT]
    | cons z P =>
      rw [jn_cons, List.append_assoc, List.cons_append, ← ih (by simp)]
      simp [linT]
theorem cut_jn (P : List ByteArray) (hne : P ≠ []) (h : ∀ y ∈ P, LnOk y) : cutP 10 (jnL P) = P.map (·.data.toList) := by
  induction P with
  | nil => exact absurd rfl hne
  | cons y P ih =>
    cases P with
    | nil => rw [jn_one, cutP_end _ _ (h y (by simp)).2]; rfl
    | cons z P =>
      rw [jn_cons, cutP_hit _ _ _ (h y (by simp)).2, ih (by simp) (fun q hq => h q (by simp [hq]))]
      rfl
theorem NN_plain {l : List UInt8} (h : (10 : UInt8) ∉ l) : NN l := by
  induction l with
  | nil => trivial
  | cons b l ih =>
    simp only [List.mem_cons, not_or] at h
    cases l with
    | nil => exact fun e => h.1 e.symm
    | cons c l => exact ⟨fun e => absurd e.symm h.1, ih h.2⟩
theorem NN_app {l r : List UInt8} (h : (10 : UInt8) ∉ l) (hr : NN r) (h0 : r ≠ []) (h1 : r.head? ≠ some 10) : NN (l ++ 10 :: r) := by
  induction l with
  | nil =>
    cases r with
    | nil => exact absurd rfl h0
    | cons c r =>
      refine ⟨fun _ e => h1 (by rw [e]; rfl), hr⟩
  | cons b l ih =>
    simp only [List.mem_cons, not_or] at h
    have := ih h.2
    cases l with
    | nil => exact ⟨fun e => absurd e.symm h.1, this⟩
    | cons c l => exact ⟨fun e => absurd e.symm h.1, this⟩
theorem jn_NN (P : List ByteArray) (hne : P ≠ []) (h : ∀ y ∈ P, LnOk y) : NN (jnL P) ∧ jnL P ≠ [] ∧ (jnL P).head? ≠ some 10 := by
  have hd : ∀ y : ByteArray, LnOk y → ∀ r, (y.data.toList ++ r) ≠ [] ∧ (y.data.toList ++ r).head? ≠ some 10 := by
    intro y hy r
    cases hl : y.data.toList with
    | nil => exact absurd hl hy.1
    | cons b l =>
      have := hy.2
      rw [hl] at this
      simp only [List.mem_cons, not_or] at this
      refine ⟨by simp, ?_⟩
      intro e
      simp only [List.cons_append, List.head?_cons, Option.some.injEq] at e
      exact this.1 e.symm
  induction P with
  | nil => exact absurd rfl hne
  | cons y P ih =>
    have hy := h y (by simp)
    cases P with
    | nil =>
      rw [jn_one]
      have := hd y hy []
      rw [List.append_nil] at this
      exact ⟨NN_plain hy.2, this⟩
    | cons z P =>
      rw [jn_cons]
      obtain ⟨g1, g2, g3⟩ := ih (by simp) (fun q hq => h q (by simp [hq]))
      exact ⟨NN_app hy.2 g1 g2 g3, hd y hy _⟩
theorem txP_tx2 (l : List (List ByteArray)) (hne : l ≠ []) (h : ∀ P ∈ l, P ≠ []) : txP l = tx2 (l.map jnL) ++ [10] := by
  induction l with
  | nil => exact absurd rfl hne
  | cons P l ih =>
    cases l with
    | nil => rw [txP, linT_jn P (h P (by simp))]; rfl
    | cons Q l =>
      have := ih (by simp) (fun q hq => h q (by simp [hq]))
      rw [txP, this, linT_jn P (h P (by simp))]
      simp [tx2]
end Go.Proofs.YtgjaajfpdajleaaGreatDoor

namespace Go.Proofs.YtgjaajfpdajleaaGreatDoor
set_option linter.unusedVariables false
open Go.RowKit

/-- the program's reading: page by page -/
def imP (C R A : Nat) : List (List UInt8) → List Int → Option (List Int)
  | [], v => some v
  | p :: l, v => if rdB (cutS 10 p) C R A = true then imP C R A l (v ++ celV (cutS 10 p) C A) else none
def imG (t : List UInt8) : List (List UInt8) := Lib.split (Lib.trimSuffix t [10]) [10, 10]
theorem trim_last (t : List UInt8) : Lib.trimSuffix (t ++ [10]) [10] = t := by
  unfold Lib.trimSuffix Lib.hasSuffix
  have : ([10] : List UInt8).isSuffixOf (t ++ [10]) = true := by
    rw [List.isSuffixOf_iff_suffix]
    exact ⟨t, rfl⟩
  rw [if_pos this]
  simp
theorem imP_pages {C R A : Nat} (l : List (List ByteArray)) (h : ∀ P ∈ l, P ≠ [] ∧ (∀ y ∈ P, LnOk y) ∧ rdB P C R A = true) (v : List Int) : imP C R A (l.map jnL) v = some (v ++ (l.map fun P => celV P C A).flatten) := by
  induction l generalizing v with
  | nil => simp [imP]
  | cons P l ih =>
    obtain ⟨h1, h2, h3⟩ := h P (by simp)
    have hc : cutS 10 (jnL P) = P := by
      unfold cutS
      rw [cut_jn P h1 h2, List.map_map, show (bytS ∘ fun x : ByteArray => x.data.toList) = id from funext fun x => bytS_of x]
      simp
    rw [List.map_cons, imP, hc, if_pos h3, ih (fun Q hQ => h Q (by simp [hQ]))]
    simp
theorem im_print {R A C : Nat} {xs : List Int} (h : ptB R A C xs = true) : imP C R A (imG (ptT R A C xs (ptN R A C xs))) [] = some xs := by
  have hv : ptV R A C xs = true := by have := ptV_parts h; unfold ptV; rw [this.1, this.2]; rfl
  have hc := ptN_cover hv
  obtain ⟨hl, ht⟩ := ptV_parts h
  obtain ⟨t1, t2, t3⟩ := tabB_iff ht
  obtain ⟨l1, l2, l3, l4, l5, l6, l7, l8⟩ := lay_mul hl
  have hP : ∀ P ∈ (List.range (ptN R A C xs)).map (fun (i : Nat) => plinS R A C xs (i : Int)), P ≠ [] ∧ (∀ y ∈ P, LnOk y) ∧ rdB P C R A = true := by
    intro P hP
    obtain ⟨i, hi, rfl⟩ := List.mem_map.1 hP
    have hi := List.mem_range.1 hi
    obtain ⟨g1, g2, g3⟩ := tab_pages h i hi
    have := page_rd t3 g1 g2 (show 0 < A by omega) (show 0 < R by omega)
    refine ⟨?_, tab_lnok h i hi, by rw [g3]; exact this.1⟩
    rw [g3]
    intro e
    have h2 := this.2
    rw [e] at h2
    simp at h2
  have hne : (List.range (ptN R A C xs)).map (fun (i : Nat) => plinS R A C xs (i : Int)) ≠ [] := by
    intro e
    have := congrArg List.length e
    simp at this
    omega
  have hne2 : ((List.range (ptN R A C xs)).map (fun (i : Nat) => plinS R A C xs (i : Int))).map jnL ≠ [] := by
    intro e
    exact hne (List.map_eq_nil_iff.1 e)
  have hT : ptT R A C xs (ptN R A C xs) = tx2 (((List.range (ptN R A C xs)).map (fun (i : Nat) => plinS R A C xs (i : Int))).map jnL) ++ [10] := by
    unfold ptT
    rw [tbT_tx, txP_tx2 _ hne (fun P q => (hP P q).1)]
  unfold imG
  rw [hT, trim_last, split_two _ hne2 (by
    intro p hp
    obtain ⟨P, hPm, rfl⟩ := List.mem_map.1 hp
    exact (jn_NN P (hP P hPm).1 (hP P hPm).2.1).1), imP_pages _ hP [], List.nil_append, List.map_map]
  congr 1
  exact tab_vals h

/-! ### how long a printed table is -/
theorem celV_count (ys : List ByteArray) (C : Nat) (h : ∀ y ∈ ys, rowB y.data.toList C = true) : ∀ a, (celV ys C a).length = (ys.map fun y => min a (rowM y.data.toList C)).sum := by
  intro a
  induction a with
  | zero =>
    have : ∀ l : List ByteArray, (l.map fun y => min 0 (rowM y.data.toList C)).sum = 0 := by
      intro l
      induction l with
      | nil => rfl
      | cons y l ih => rw [List.map_cons, List.sum_cons, ih, Nat.zero_min]
    rw [this]
    rfl
  | succ a ih =>
    rw [celV_succ, List.length_append, ih]
    clear ih
    induction ys with
    | nil => rfl
    | cons y ys ih2 =>
      have h1 := ih2 (fun z hz => h z (by simp [hz]))
      have h2 := hasC_row (C := C) (i := a) (h y (by simp))
      have h3 : (colV (y :: ys) C a).length = (if a < rowM y.data.toList C then 1 else 0) + (colV ys C a).length := by
        unfold colV
        rw [List.filter_cons, h2]
        by_cases q : a < rowM y.data.toList C
        · rw [if_pos (decide_eq_true q), if_pos q]; simp; omega
        · rw [if_neg (by rw [decide_eq_false q]; simp), if_neg q]; simp
      simp only [List.map_cons, List.sum_cons]
      rw [h3]
      split <;> omega
theorem linT_count (ys : List ByteArray) (C : Nat) (h : ∀ y ∈ ys, rowB y.data.toList C = true) : (linT ys).length = (ys.map fun y => rowM y.data.toList C).sum * (C + 1) := by
  induction ys with
  | nil => simp [linT]
  | cons y ys ih =>
    have h1 := ih (fun z hz => h z (by simp [hz]))
    have h2 := h y (by simp)
    unfold rowB at h2
    rw [Bool.and_eq_true] at h2
    have h3 := of_decide_eq_true h2.1
    have h4 := Nat.div_add_mod (y.data.toList.length + 1) (C + 1)
    rw [h3] at h4
    unfold linT at h1 ⊢
    rw [List.map_cons, List.flatten_cons, List.length_append, h1, List.map_cons, List.sum_cons, Nat.add_mul]
    unfold rowM
    rw [Nat.mul_comm] at h4
    simp only [List.length_append, List.length_cons, List.length_nil]
    omega
theorem lin_cel {ys : List ByteArray} {C R A : Nat} (h : rdB ys C R A = true) : (linT ys).length = (celV ys C A).length * (C + 1) := by
  unfold rdB at h
  rw [Bool.and_eq_true] at h
  have h1 : ∀ y ∈ ys, rowB y.data.toList C = true ∧ rowM y.data.toList C ≤ A := by
    intro y hy
    have := List.all_eq_true.1 h.2 y hy
    rw [Bool.and_eq_true] at this
    exact ⟨this.1, of_decide_eq_true this.2⟩
  rw [linT_count ys C (fun y hy => (h1 y hy).1), celV_count ys C (fun y hy => (h1 y hy).1)]
  congr 2
  apply List.map_congr_left
  intro y hy
  exact (Nat.min_eq_right (h1 y hy).2).symm
theorem pt_len {R A C : Nat} {xs : List Int} (h : ptB R A C xs = true) : (ptT R A C xs (ptN R A C xs)).length ≤ 2000 := by
  obtain ⟨hl, ht⟩ := ptV_parts h
  obtain ⟨t1, t2, t3⟩ := tabB_iff ht
  obtain ⟨l1, l2, l3, l4, l5, l6, l7, l8⟩ := lay_mul hl
  have hv : ptV R A C xs = true := by unfold ptV; rw [hl, ht]; rfl
  have hn := ptN_bd hv
  have hs : ∀ q, q ≤ ptN R A C xs → (ptT R A C xs q).length ≤ (((List.range q).map fun (i : Nat) => celV (plinS R A C xs (i : Int)) C A).flatten).length * (C + 1) + q := by
    intro q
    induction q with
    | zero => intro _; simp [ptT, tbT]
    | succ q ih =>
      intro hq
      have h1 := ih (by omega)
      obtain ⟨g1, g2, g3⟩ := tab_pages h q (by omega)
      have h2 := lin_cel (page_rd t3 g1 g2 (show 0 < A by omega) (show 0 < R by omega)).1
      rw [← g3] at h2
      rw [ptT_succ, List.length_append, List.length_append, h2, List.range_succ, List.map_append, List.flatten_append, List.length_append, Nat.add_mul]
      have h5 : (if 0 < q then [(10 : UInt8)] else []).length ≤ 1 := by split <;> simp
      simp only [List.map_cons, List.map_nil, List.flatten_cons, List.flatten_nil, List.append_nil]
      omega
  have h1 := hs _ (Nat.le_refl _)
  rw [tab_vals h] at h1
  have h2 : xs.length * (C + 1) ≤ 60 * 13 := Nat.mul_le_mul (by omega) (by omega)
  omega

/-! ### the table of a text -/
def rdtX (a c : Int) (t : List UInt8) : List Int := (stP c.toNat a.toNat (cutS 10 t) [] []).1
def rdtB (r a c : Int) (t : List UInt8) : Bool := ptB r a c (rdtX a c t) && decide (ptF r a c (rdtX a c t) = t)
def rdtV (r a c : Int) (t : List UInt8) : List Int := if rdtB r a c t = true then rdtX a c t else []
theorem rt_iff {r a c : Int} {t : List UInt8} : rdtB r a c t = true ↔ ptB r a c (rdtX a c t) = true ∧ ptF r a c (rdtX a c t) = t := by
  unfold rdtB; rw [Bool.and_eq_true, decide_eq_true_eq]
theorem ptF_of {r a c : Int} {xs : List Int} (h : ptB r a c xs = true) : ptF r a c xs = ptT r a c xs (ptN r a c xs) := if_pos h
/-- a table that prints as t is the one that is read from t, in both ways -/
theorem rt_of {r a c : Int} {xs : List Int} {t : List UInt8} (h : ptB r a c xs = true) (ht : ptF r a c xs = t) :
    rdtB r a c t = true ∧ rdtX a c t = xs ∧ t.length ≤ 2000 ∧ imP c.toNat r.toNat a.toNat (imG t) [] = some xs := by
  obtain ⟨R, A, C, rfl, rfl, rfl⟩ := lay_nat (ptV_parts h).1
  rw [ptF_of h] at ht
  have h1 := st_print h
  have h2 := im_print h
  have h3 := pt_len h
  rw [ht] at h1 h2 h3
  have hX : rdtX A C t = xs := by unfold rdtX; simpa using h1
  refine ⟨?_, hX, h3, by simpa using h2⟩
  rw [rt_iff, hX, ptF_of h]
  exact ⟨h, ht⟩
theorem rt_no_len {r a c : Int} {t : List UInt8} (h : 2000 < t.length) : rdtB r a c t = false := by
  cases hb : rdtB r a c t
  · rfl
  · have h1 := rt_iff.1 hb
    have := (rt_of h1.1 h1.2).2.2.1
    omega
theorem rt_no_lay {r a c : Int} {t : List UInt8} (h : layB r a c = false) : rdtB r a c t = false := by
  cases hb : rdtB r a c t
  · rfl
  · have h1 := (ptV_parts (rt_iff.1 hb).1).1
    rw [h] at h1; cases h1
/-- the program's reading -/
theorem rt_none {r a c : Int} {t : List UInt8} (h : imP c.toNat r.toNat a.toNat (imG t) [] = none) : rdtB r a c t = false := by
  cases hb : rdtB r a c t
  · rfl
  · have h1 := rt_iff.1 hb
    have := (rt_of h1.1 h1.2).2.2.2
    rw [h] at this; cases this
theorem rt_some {r a c : Int} {t : List UInt8} {v : List Int} (h : imP c.toNat r.toNat a.toNat (imG t) [] = some v) : rdtB r a c t = (ptB r a c v && decide (ptF r a c v = t)) ∧ (rdtB r a c t = true → rdtX a c t = v) := by
  have h2 : rdtB r a c t = true → rdtX a c t = v := by
    intro hb
    have h1 := rt_iff.1 hb
    have := (rt_of h1.1 h1.2).2.2.2
    rw [h] at this
    exact (Option.some.inj this).symm
  refine ⟨?_, h2⟩
  rw [Bool.eq_iff_iff]
  constructor
  · intro hb
    have h1 := rt_iff.1 hb
    rw [h2 hb] at h1
    rw [Bool.and_eq_true, decide_eq_true_eq]
    exact h1
  · intro hb
    rw [Bool.and_eq_true, decide_eq_true_eq] at hb
    exact (rt_of hb.1 hb.2).1
end Go.Proofs.YtgjaajfpdajleaaGreatDoor
