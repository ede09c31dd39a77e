/- Lemmas and contracts for WholeSheet (WsP): plain words on memory, contracts of the functions that the law reaches. No condition but what each states. -/
import Derived.Test.YtdgnhplaakjlgaaGreatDoorMWholeSheetRpP
import Derived.Test.YtdgnhplaakjlgaaGreatDoorMWholeSheetStereo2
import Derived.Test.YtdgnhplaakjlgaaGreatDoorMWholeSheetRnd2
namespace Go.Proofs.YtdgnhplaakjlgaaGreatDoor
set_option linter.unusedVariables false
open Go.RowKit

/-- a rounded number lies within the same bounds -/
theorem rndF_in {n p way : Int} (hp : 1 ≤ p) (hn : -1000000000 ≤ n) (hm : n ≤ 1000000000) : -1000000000 ≤ rndF n p way ∧ rndF n p way ≤ 1000000000 := by
  obtain ⟨f1, f2, f3, f4, f5⟩ := div_facts hp hn hm
  unfold rndF
  generalize n / p = q at *
  generalize n % p = r at *
  have key : q + 1 ≤ 1000000000 ∨ r = 0 := by
    by_cases h : q + 1 ≤ 1000000000
    · exact .inl h
    · right
      obtain rfl : q = 1000000000 := by omega
      omega
  split
  · omega
  · rename_i h1
    have h2 : q + 1 ≤ 1000000000 := by
      rcases key with h | h
      · exact h
      · exfalso; apply h1; right; omega
    split
    · omega
    · split <;> omega
theorem rtL_tab {xs : List Int} {d way : Int} (h : rtB xs d way = true) : tabB (rtL xs d way) = true := by
  obtain ⟨h1, h2⟩ := rtB_iff h
  obtain ⟨t1, t2, t3⟩ := tabB_iff h1
  obtain ⟨d0, d6, _, _⟩ := wayB_iff h2
  have E : rtL xs d way = xs.map (fun n => rnd n d way) := if_pos h
  unfold tabB
  rw [E, List.length_map, inB_t (by omega) (by omega), Bool.true_and]
  unfold allIn at t3 ⊢
  rw [List.all_eq_true] at t3 ⊢
  intro y hy
  obtain ⟨x, hx, rfl⟩ := List.mem_map.1 hy
  have hb := t3 x hx
  obtain ⟨k, hk, hkx⟩ := List.mem_iff_getElem.1 hx
  have hg : xs.getD k 0 = x := by simp [List.getD, hk, hkx]
  obtain ⟨g1, g2, g3, g4⟩ := rnd_entry h hk
  rw [hg] at g1 g2 g4
  obtain ⟨hp1, _⟩ := ten6 (show d.toNat ≤ 6 by omega)
  obtain ⟨r1, r2⟩ := rndF_in (way := way) hp1 g1 g2
  rw [← g4] at r1 r2
  first
    | exact decide_eq_true ⟨r1, r2⟩
    | exact inB_t r1 r2
    | (simp; omega)
/-- a number of a table has eleven signs at most -/
theorem dec_len10 (n : Nat) (h : n ≤ 1000000000) : (Lib.decDigits n).length ≤ 10 := by
  rw [Lib.decDigits_length]
  by_cases h1 : n < 10
  · rw [Lib.nDigits_small h1]; omega
  · have hp : ∀ k n, ¬ n < 10 → (Lib.nDigits n ≤ k ∨ 10 ^ k ≤ n) := fun k => by
      induction k with
      | zero => intro n _; right; simp; omega
      | succ k ih =>
        intro n h1
        by_cases h3 : n / 10 < 10
        · by_cases h4 : k = 0
          · right; subst h4; simp; omega
          · left; rw [Lib.nDigits_big h1, Lib.nDigits_small h3]; omega
        · rcases ih (n / 10) h3 with h4 | h4
          · left; rw [Lib.nDigits_big h1]; omega
          · right; rw [Nat.pow_succ]; omega
    rcases hp 10 n h1 with h2 | h2
    · exact h2
    · omega
theorem itoa_len11 {n : Int} (h0 : -1000000000 ≤ n) (h1 : n ≤ 1000000000) : (Lib.itoa n).length ≤ 11 := by
  by_cases h : n < 0
  · rw [itoa_neg h]; have := dec_len10 (-n).toNat (by omega); simp; omega
  · obtain ⟨k, rfl⟩ : ∃ k : Nat, n = k := ⟨n.toNat, by omega⟩
    rw [itoa_nat]; have := dec_len10 k (by omega); omega
/-- so each page of a table prints in eleven columns -/
theorem pge_11 {xs : List Int} (h : allIn xs 1000000000 = true) (s r a : Nat) : pgeB xs 11 s r a = true := by
  unfold pgeB pgOk lnB cellB
  simp only [List.all_eq_true, List.mem_range]
  intro i _ j _
  unfold entK entB
  exact decide_eq_true (itoa_len11 (getD_bd h _).1 (getD_bd h _).2)
theorem plin_11 {R A : Nat} {xs : List Int} {q : Nat} (hl : layB R A 11 = true) (ht : tabB xs = true) (hq : q < ptN R A 11 xs) : plinB R A 11 xs (q : Int) = true := by
  have hv : ptV R A 11 xs = true := by unfold ptV; rw [hl, ht]; rfl
  have hp := ptV_page hv hq
  have := (plin_eq (C := 11) hp).2
  rw [show ((11 : Nat) : Int) = 11 from rfl] at this
  rw [this]
  exact pge_11 (tabB_iff ht).2.2 _ _ _
/-- a byte of a number -/
theorem itoa_ok (n : Int) : ∀ c ∈ Lib.itoa n, okB c = true ∧ c ≠ 32 := by
  have hd : ∀ k, ∀ c ∈ Lib.decDigits k, okB c = true ∧ c ≠ 32 := by
    intro k c hk
    have h := decFrom_dec k
    obtain ⟨j, hj, hjc⟩ := List.mem_iff_getElem.1 hk
    obtain ⟨d, hd⟩ := Lib.digit_of_decFrom _ 0 k h j c (by rw [List.getElem?_eq_getElem hj, hjc])
    obtain ⟨_, _, h1, h2, _⟩ := digitVal_some hd
    refine ⟨?_, ?_⟩
    · unfold okB; exact decide_eq_true ⟨by omega, by omega⟩
    · rintro rfl; exact absurd h1 (by decide)
  by_cases h : n < 0
  · rw [itoa_neg h]
    intro c hc
    rcases List.mem_cons.1 hc with rfl | hc
    · exact ⟨by decide, by decide⟩
    · exact hd _ c hc
  · obtain ⟨k, rfl⟩ : ∃ k : Nat, n = k := ⟨n.toNat, by omega⟩
    rw [itoa_nat]; exact hd k
theorem itoa_ne0 (n : Int) : Lib.itoa n ≠ [] := by
  by_cases h : n < 0
  · rw [itoa_neg h]; simp
  · obtain ⟨k, rfl⟩ : ∃ k : Nat, n = k := ⟨n.toNat, by omega⟩
    rw [itoa_nat]; exact dec_ne k
theorem last_app {l m : List UInt8} (h : m ≠ []) : (l ++ m).getLast? = m.getLast? := by
  rw [List.getLast?_append, List.getLast?_eq_some_getLast h]; rfl
theorem entL_ok (n : Int) (wd : Nat) : (∀ c ∈ entL n wd, okB c = true) ∧ (entL n wd).getLast? ≠ some 32 := by
  unfold entL
  refine ⟨fun c hc => ?_, fun e => ?_⟩
  · rcases List.mem_append.1 hc with hc | hc
    · rw [List.eq_of_mem_replicate hc]; decide
    · exact (itoa_ok n c hc).1
  · rw [last_app (itoa_ne0 n)] at e
    exact (itoa_ok n 32 (List.mem_of_getLast? e)).2 rfl
theorem entL_ne (n : Int) (wd : Nat) : entL n wd ≠ [] := by
  unfold entL
  intro e
  exact itoa_ne0 n (List.append_eq_nil_iff.1 e).2
theorem cellJ_ok (xs : List Int) (wd f r : Nat) : ∀ i, (∀ c ∈ cellJ xs wd f r i, okB c = true) ∧ (cellJ xs wd f r i).getLast? ≠ some 32 := by
  intro i
  induction i with
  | zero => rw [cellJ_zero]; simp
  | succ i ih =>
    have he := entL_ok (xs.getD (f + i * r) 0) wd
    by_cases h0 : i = 0
    · subst h0
      rw [cellJ_one]
      exact he
    · rw [cellJ_succ _ _ _ _ _ (by omega)]
      refine ⟨fun c hc => ?_, ?_⟩
      · rcases List.mem_append.1 hc with hc | hc
        · exact ih.1 c hc
        · rcases List.mem_append.1 hc with hc | hc
          · rw [List.mem_singleton.1 hc]; decide
          · exact he.1 c hc
      · show (cellJ xs wd f r i ++ ([32] ++ entL (xs.getD (f + i * r) 0) wd)).getLast? ≠ some 32
        rw [← List.append_assoc, last_app (entL_ne _ _)]
        exact he.2
theorem endsB_no {x : ByteArray} (h : x.data.toList.getLast? ≠ some 32) : endsB x = false := by
  cases hb : endsB x
  · rfl
  · exfalso
    unfold endsB Lib.hasSuffix at hb
    rw [List.isSuffixOf_iff_suffix] at hb
    obtain ⟨l, hl⟩ := hb
    apply h
    rw [← hl]
    simp
/-- the lines of a page can be plated -/
theorem lines_page (r a c : Int) (xs : List Int) (p : Int) : linesB (plinS r a c xs p) = true := by
  obtain ⟨h1, h2⟩ := plinS_small r a c xs p
  have h3 : ∀ y ∈ plinS r a c xs p, ∃ wd f r' k, y.data.toList = cellJ xs wd f r' k := by
    intro y hy
    unfold plinS at hy
    split at hy
    · unfold pgeF at hy
      split at hy
      · unfold pgLn at hy
        obtain ⟨i, _, rfl⟩ := List.mem_map.1 hy
        exact ⟨_, _, _, _, by unfold lnS lnL; rfl⟩
      · cases hy
    · cases hy
  unfold linesB
  rw [Bool.and_eq_true]
  refine ⟨decide_eq_true (by omega), ?_⟩
  rw [List.all_eq_true]
  intro y hy
  obtain ⟨wd, f, r', k, he⟩ := h3 y hy
  obtain ⟨g1, g2⟩ := cellJ_ok xs wd f r' k
  have h4 := h2 y hy
  unfold lvB
  rw [he, endsB_no (by rw [he]; exact g2)]
  simp only [Bool.not_false, Bool.and_true, Bool.and_eq_true, decide_eq_true_eq, List.all_eq_true]
  exact ⟨by omega, g1⟩
theorem plate_small {xs : List ByteArray} {m : Nat} (h : ∀ s ∈ xs, s.size ≤ m) : ∀ y ∈ plateF xs, y.size ≤ m := by
  intro y hy
  unfold plateF at hy
  split at hy
  · obtain ⟨s, hs, rfl⟩ := List.mem_map.1 hy
    rw [mirS_size (lng_ge hs)]
    exact lng_bd h
  · cases hy
/-- the error of an entry of the sheet is within the bound -/
theorem sheet_err {xs : List Int} {n : Nat} {way : Int} {k : Nat} (h : rtB xs n way = true) (hk : k < xs.length) (hn : n ≤ 6) :
    ∃ y m t p b : Int, xs.getD k 0 = y ∧ (rtL xs n way).getD k 0 = m ∧ ten n = p ∧ errR xs n way = b ∧ m * p = t ∧ -1000000000 ≤ y ∧ y ≤ 1000000000 ∧ -1000000000 ≤ m ∧ m ≤ 1000000000 ∧ 1 ≤ p ∧ p ≤ 1000000 ∧ -2000000000000000 ≤ t ∧ t ≤ 2000000000000000 ∧ 0 ≤ b ∧ b ≤ 2001000000 ∧ t - y ≤ b ∧ -(t - y) ≤ b := by
  obtain ⟨r1, r2, r3, r4⟩ := rnd_entry h hk
  obtain ⟨q1, q2⟩ := rtB_iff h
  obtain ⟨_, _, w0, w2⟩ := wayB_iff q2
  obtain ⟨_, _, q5⟩ := tabB_iff q1
  obtain ⟨hp1, hp6⟩ := ten6 hn
  have hE : rtL xs n way = xs.map (fun x => rnd x n way) := if_pos h
  have hL : (rtL xs n way).getD k 0 = rnd (xs.getD k 0) n way := by rw [hE]; simp [List.getD, hk]
  have hb : errR xs n way = errS xs (ten n) way xs.length := by unfold errR; rw [if_pos h, Int.toNat_natCast]
  obtain ⟨b1, b2⟩ := errS_bd (way := way) q5 (Nat.le_refl _) hn w0 w2
  obtain ⟨g1, g2⟩ := errS_ge xs (ten n) way hk
  rw [Int.toNat_natCast] at r4
  obtain ⟨m1, m2⟩ := rndF_in (way := way) hp1 r1 r2
  unfold errD at g1 g2
  obtain ⟨p', m', t, dd, HP, HM, ht, _, _, _, _, _, t1, t2, _⟩ := rnd_bounds (way := way) r1 r2 hn w0 w2
  have HP' := HP.out
  subst HP'
  have HM' := HM.out
  subst HM'
  rw [← r4] at g1 g2 m1 m2 ht
  refine ⟨_, _, _, _, _, rfl, hL, rfl, hb, rfl, r1, r2, m1, m2, hp1, hp6, ?_, ?_, b1, b2, g1, g2⟩
  · rw [ht]; omega
  · rw [ht]; omega
/-- a page that is printed, plated and read -/
theorem sheet_page {R A : Nat} {xs : List Int} {q : Nat} (hl : layB R A 11 = true) (ht : tabB xs = true) (hq : q < ptN R A 11 xs) :
    plinB R A 11 xs (q : Int) = true ∧ rsB (plateF (plinS R A 11 xs (q : Int))) = true ∧ rsF (plateF (plinS R A 11 xs (q : Int))) = plinS R A 11 xs (q : Int) ∧
      rpB R A 11 (plinS R A 11 xs (q : Int)) = true ∧ rpV R A 11 (plinS R A 11 xs (q : Int)) = pgE xs (q * (R * A)) (R * A) ∧ xs.take ((q + 1) * (R * A)) = xs.take (q * (R * A)) ++ pgE xs (q * (R * A)) (R * A) := by
  have h1 := plin_11 hl ht hq
  have h2 := lines_page R A 11 xs (q : Int)
  obtain ⟨h3, h4⟩ := page_read h1
  have e3 : ((q : Int) * ((R : Int) * (A : Int))).toNat = q * (R * A) := by rw [← Int.natCast_mul, ← Int.natCast_mul, Int.toNat_natCast]
  have e4 : ((R : Int) * (A : Int)).toNat = R * A := by rw [← Int.natCast_mul, Int.toNat_natCast]
  rw [e3, e4] at h4
  refine ⟨h1, rsB_plate h2, rsF_plate h2, h3, ?_, ?_⟩
  · unfold rpV; rw [h3, if_pos rfl, h4]
  · rw [Nat.add_mul, Nat.one_mul, List.take_add]
    rfl
/-- the pages hold the whole table -/
theorem sheet_all {R A : Nat} {xs : List Int} (hl : layB R A 11 = true) (ht : tabB xs = true) : xs.take (ptN R A 11 xs * (R * A)) = xs := by
  apply List.take_of_length_le
  have hv : ptV R A 11 xs = true := by unfold ptV; rw [hl, ht]; rfl
  obtain ⟨h1, h2⟩ := ptN_bd hv
  obtain ⟨t1, t2, _⟩ := tabB_iff ht
  obtain ⟨l1, l2, l3, l4, l5, l6, l7, l8⟩ := lay_mul hl
  have e : pnF R A 11 xs.length = ((xs.length : Int) + (R : Int) * A - 1) / ((R : Int) * A) := if_pos ⟨hl, by omega, by omega⟩
  rw [e] at h1
  have h5 := Int.emod_lt_of_pos ((xs.length : Int) + (R : Int) * A - 1) (show (0 : Int) < (R : Int) * A by omega)
  have h6 := (Int.emod_def ((xs.length : Int) + (R : Int) * A - 1) ((R : Int) * A))
  rw [h1] at h6
  have e4 : ((ptN R A 11 xs * (R * A) : Nat) : Int) = (R : Int) * (A : Int) * (ptN R A 11 xs : Int) := by
    rw [Int.natCast_mul, Int.natCast_mul, Int.mul_comm]
  generalize (R : Int) * (A : Int) * (ptN R A 11 xs : Int) = Z at *
  generalize ((xs.length : Int) + (R : Int) * A - 1) % ((R : Int) * A) = Y at *
  generalize (R : Int) * (A : Int) = M at *
  omega
end Go.Proofs.YtdgnhplaakjlgaaGreatDoor
