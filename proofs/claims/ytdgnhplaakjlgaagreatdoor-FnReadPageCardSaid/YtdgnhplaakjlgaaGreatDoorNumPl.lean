/- Plain facts: the number that a canonical decimal text of at most 17 digits spells. No condition; no program in sight. -/
import Derived.Test.YtdgnhplaakjlgaaGreatDoorDec
import Derived.Lib.AtoiErr
import Derived.Lib.AtoiBound
namespace Go.Proofs.YtdgnhplaakjlgaaGreatDoor
set_option linter.unusedVariables false
open Go.RowKit

theorem digitVal_dig (d : Nat) (h : d < 10) : Lib.digitVal (UInt8.ofNat (48 + d)) = some d := by
  have e : (UInt8.ofNat (48 + d)).toNat = 48 + d := by rw [UInt8.toNat_ofNat']; omega
  unfold Lib.digitVal
  rw [e, if_pos (by omega)]
  congr 1; omega
theorem digitVal_some {b : UInt8} {d : Nat} (h : Lib.digitVal b = some d) : d < 10 ∧ b = UInt8.ofNat (48 + d) ∧ 48 ≤ b.toNat ∧ b.toNat ≤ 57 ∧ d = b.toNat - 48 := by
  unfold Lib.digitVal at h
  split at h
  · rename_i hb
    simp only [Option.some.injEq] at h
    refine ⟨by omega, ?_, hb.1, hb.2, h.symm⟩
    apply UInt8.toNat_inj.1
    rw [UInt8.toNat_ofNat']
    omega
  · cases h
theorem decFrom_app (l r : List UInt8) (acc : Nat) : Lib.decFrom acc (l ++ r) = (Lib.decFrom acc l).bind fun m => Lib.decFrom m r := by
  induction l generalizing acc with
  | nil => rfl
  | cons a l ih =>
    simp only [List.cons_append, Lib.decFrom]
    cases Lib.digitVal a with
    | none => rfl
    | some d => exact ih _
theorem decFrom_dec (n : Nat) : Lib.decFrom 0 (Lib.decDigits n) = some n := by
  induction n using Nat.strongRecOn with
  | _ n ih =>
    rw [Lib.decDigits]
    by_cases h : n < 10
    · rw [dif_pos h]
      simp only [Lib.decFrom, digitVal_dig n h]
      congr 1; omega
    · rw [dif_neg h, decFrom_app, ih (n / 10) (by omega)]
      show Lib.decFrom (n / 10) [UInt8.ofNat (48 + n % 10)] = some n
      simp only [Lib.decFrom, digitVal_dig (n % 10) (by omega)]
      congr 1; omega
theorem dec_ne (n : Nat) : Lib.decDigits n ≠ [] := by
  rw [Lib.decDigits]; split <;> simp
theorem dec_head (n : Nat) (h : 0 < n) : (Lib.decDigits n).head? ≠ some 48 := by
  induction n using Nat.strongRecOn with
  | _ n ih =>
    rw [Lib.decDigits]
    by_cases h1 : n < 10
    · rw [dif_pos h1]
      intro e
      simp only [List.head?_cons, Option.some.injEq] at e
      have := congrArg UInt8.toNat e
      rw [UInt8.toNat_ofNat'] at this
      simp at this
      omega
    · rw [dif_neg h1]
      have h2 := ih (n / 10) (by omega) (by omega)
      have h3 := dec_ne (n / 10)
      cases hd : Lib.decDigits (n / 10) with
      | nil => exact absurd hd h3
      | cons a l => rw [hd] at h2; simpa using h2
/-- digits without a zero ahead are the digits of their number -/
theorem dec_of_from : ∀ (k : Nat) (l : List UInt8) (n : Nat), l.length = k → l ≠ [] → (l.head? = some 48 → l.length = 1) → Lib.decFrom 0 l = some n → Lib.decDigits n = l := by
  intro k
  induction k with
  | zero => intro l n hk hne _ _; exact absurd (List.eq_nil_of_length_eq_zero hk) hne
  | succ k ih =>
    intro l n hk hne hz h
    obtain ⟨t, b, rfl⟩ : ∃ t b, l = t ++ [b] := ⟨l.dropLast, l.getLast hne, (List.dropLast_concat_getLast hne).symm⟩
    rw [decFrom_app] at h
    cases hm : Lib.decFrom 0 t with
    | none => rw [hm] at h; cases h
    | some m =>
      rw [hm] at h
      simp only [Option.bind_some, Lib.decFrom] at h
      cases hd : Lib.digitVal b with
      | none => rw [hd] at h; cases h
      | some d =>
        rw [hd] at h
        simp only [Option.some.injEq] at h
        obtain ⟨d1, d2, _⟩ := digitVal_some hd
        by_cases ht : t = []
        · subst ht
          simp only [Lib.decFrom, Option.some.injEq] at hm
          subst hm
          rw [show n = d by omega, Lib.decDigits, dif_pos d1, d2]
          rfl
        · have htl : (t ++ [b]).length ≠ 1 := by
            intro e; apply ht
            rw [List.length_append] at e
            exact List.eq_nil_of_length_eq_zero (by simpa using e)
          have hh : t.head? ≠ some 48 := by
            intro e
            apply htl
            apply hz
            cases t with
            | nil => exact absurd rfl ht
            | cons a t => simpa using e
          have h1 := ih t m (by simp at hk; omega) ht (fun e => absurd e hh) hm
          have hm0 : 0 < m := by
            rcases Nat.eq_zero_or_pos m with e | e
            · exfalso; apply hh
              rw [← h1, e, Lib.decDigits, dif_pos (by omega)]
              rfl
            · exact e
          rw [Lib.decDigits, dif_neg (by omega), show n / 10 = m by omega, show n % 10 = d by omega, h1, ← d2]
/-- the digits of a text: behind its sign -/
def strip (l : List UInt8) : List UInt8 := if l.head? = some 45 then l.drop 1 else l
/-- the number that a canonical text of at most 17 digits spells -/
def numP (l : List UInt8) : Option Int := if (strip l).length ≤ 17 then (Lib.atoi l).bind fun n => if Lib.itoa n = l then some n else none else none
theorem numP_iff {l : List UInt8} {n : Int} (h : numP l = some n) : Lib.itoa n = l ∧ (strip l).length ≤ 17 := by
  unfold numP at h
  split at h
  · rename_i h1
    cases ha : Lib.atoi l with
    | none => rw [ha] at h; cases h
    | some m =>
      rw [ha] at h
      simp only [Option.bind_some] at h
      split at h
      · rename_i h2
        simp only [Option.some.injEq] at h
        subst h
        exact ⟨h2, h1⟩
      · cases h
  · cases h
theorem dec_dig0 {n : Nat} {b : UInt8} {r : List UInt8} (h : Lib.decDigits n = b :: r) : b ≠ 45 ∧ b ≠ 43 ∧ 48 ≤ b.toNat ∧ b.toNat ≤ 57 := by
  have h1 := decFrom_dec n
  rw [h] at h1
  simp only [Lib.decFrom] at h1
  cases hd : Lib.digitVal b with
  | none => rw [hd] at h1; cases h1
  | some d =>
    obtain ⟨_, _, h2, h3, _⟩ := digitVal_some hd
    refine ⟨?_, ?_, h2, h3⟩
    · rintro rfl; exact absurd h2 (by decide)
    · rintro rfl; exact absurd h2 (by decide)
theorem atoi_itoa (n : Int) : Lib.atoi (Lib.itoa n) = some n := by
  by_cases h : n < 0
  · rw [itoa_neg h]
    unfold Lib.atoi Lib.decNat
    have := dec_ne (-n).toNat
    have e : (Lib.decDigits (-n).toNat).isEmpty = false := by simpa using this
    simp only [e, decFrom_dec, beq_self_eq_true, if_true, Bool.false_eq_true, if_false, Option.map_some, Option.some.injEq]
    omega
  · obtain ⟨k, rfl⟩ : ∃ k : Nat, n = k := ⟨n.toNat, by omega⟩
    rw [itoa_nat]
    cases hd : Lib.decDigits k with
    | nil => exact absurd hd (dec_ne k)
    | cons b r =>
      obtain ⟨h1, h2, _⟩ := dec_dig0 hd
      unfold Lib.atoi Lib.decNat
      have e1 : (b == 45) = false := by simpa using h1
      have e2 : (b == 43) = false := by simpa using h2
      simp only [e1, e2, Bool.false_eq_true, if_false]
      rw [if_neg (by simp), ← hd, decFrom_dec]
      simp
theorem strip_itoa_nat (k : Nat) : strip (Lib.itoa (k : Int)) = Lib.decDigits k := by
  rw [itoa_nat]
  unfold strip
  cases hd : Lib.decDigits k with
  | nil => exact absurd hd (dec_ne k)
  | cons b r =>
    obtain ⟨h1, _⟩ := dec_dig0 hd
    rw [if_neg]
    simpa using h1
theorem strip_itoa_neg {n : Int} (h : n < 0) : strip (Lib.itoa n) = Lib.decDigits (-n).toNat := by
  rw [itoa_neg h]; unfold strip; simp
theorem numP_itoa {n : Int} (h : (strip (Lib.itoa n)).length ≤ 17) : numP (Lib.itoa n) = some n := by
  unfold numP
  rw [if_pos h, atoi_itoa]
  simp
theorem numP_small {n : Int} (h0 : -1000000000000000 ≤ n) (h1 : n ≤ 1000000000000000) : numP (Lib.itoa n) = some n := by
  apply numP_itoa
  by_cases h : n < 0
  · rw [strip_itoa_neg h]; have := dec_len (-n).toNat (by omega); omega
  · obtain ⟨k, rfl⟩ : ∃ k : Nat, n = k := ⟨n.toNat, by omega⟩
    rw [strip_itoa_nat]; have := dec_len k (by omega); omega
theorem strip_len (l : List UInt8) : l.length ≤ (strip l).length + 1 ∧ (strip l).length ≤ l.length := by
  unfold strip; split <;> simp; omega
theorem numP_bd {l : List UInt8} {n : Int} (h : numP l = some n) : -1000000000000000000 < n ∧ n < 1000000000000000000 := by
  obtain ⟨h1, h2⟩ := numP_iff h
  have h3 := strip_len l
  refine Lib.atoi_bound (l := l) ?_ (by omega)
  rw [← h1]; exact atoi_itoa n
/-- the reference's way: digits s behind a sign (neg), at least one, no zero ahead but alone -/
def okDig (s : List UInt8) (neg : Bool) : Bool := decide (s ≠ []) && decide (s.length ≤ 17) && !(decide (s.head? = some 48) && (decide (1 < s.length) || neg))
theorem numP_plain {s : List UInt8} (hs : s.head? ≠ some 45) : numP s = if okDig s false = true then (Lib.decFrom 0 s).map (fun (m : Nat) => (m : Int)) else none := by
  have hst : strip s = s := by unfold strip; rw [if_neg hs]
  by_cases hok : okDig s false = true
  · rw [if_pos hok]
    unfold okDig at hok
    simp only [Bool.and_eq_true, decide_eq_true_eq, Bool.not_eq_true', Bool.and_eq_false_iff, decide_eq_false_iff_not, Bool.or_eq_false_iff] at hok
    obtain ⟨⟨h1, h2⟩, h3⟩ := hok
    cases hd : Lib.decFrom 0 s with
    | none =>
      cases hn : numP s with
      | none => rfl
      | some n =>
        obtain ⟨e, _⟩ := numP_iff hn
        by_cases h : n < 0
        · rw [itoa_neg h] at e
          rw [← e] at hs
          exact absurd rfl hs
        · obtain ⟨k, rfl⟩ : ∃ k : Nat, n = k := ⟨n.toNat, by omega⟩
          rw [itoa_nat] at e
          rw [← e, decFrom_dec] at hd
          cases hd
    | some m =>
      have e : Lib.decDigits m = s := dec_of_from _ s m rfl h1 (fun q => by rcases h3 with h3 | h3; exact absurd q h3; have := h3.1; have := List.length_pos_iff.2 h1; omega) hd
      have e2 : Lib.itoa (m : Int) = s := by rw [itoa_nat, e]
      rw [← e2] at hst h2 ⊢
      rw [numP_itoa (by rw [hst]; exact h2)]
      rfl
  · rw [if_neg hok]
    cases hn : numP s with
    | none => rfl
    | some n =>
      exfalso; apply hok
      obtain ⟨e, hl⟩ := numP_iff hn
      rw [hst] at hl
      by_cases h : n < 0
      · rw [itoa_neg h] at e
        rw [← e] at hs
        exact absurd rfl hs
      · obtain ⟨k, rfl⟩ : ∃ k : Nat, n = k := ⟨n.toNat, by omega⟩
        rw [itoa_nat] at e
        subst e
        unfold okDig
        simp only [Bool.and_eq_true, decide_eq_true_eq, Bool.not_eq_true', Bool.and_eq_false_iff, decide_eq_false_iff_not, Bool.or_eq_false_iff]
        refine ⟨⟨dec_ne k, hl⟩, ?_⟩
        rcases Nat.eq_zero_or_pos k with h0 | h0
        · right; subst h0; rw [Lib.decDigits, dif_pos (by omega)]; simp
        · left; exact dec_head k h0
theorem numP_minus (s : List UInt8) : numP (45 :: s) = if okDig s true = true then (Lib.decFrom 0 s).map (fun (m : Nat) => -(m : Int)) else none := by
  have hst : strip (45 :: s) = s := by unfold strip; simp
  by_cases hok : okDig s true = true
  · rw [if_pos hok]
    unfold okDig at hok
    simp only [Bool.and_eq_true, decide_eq_true_eq, Bool.not_eq_true', Bool.and_eq_false_iff, decide_eq_false_iff_not, Bool.or_eq_false_iff] at hok
    obtain ⟨⟨h1, h2⟩, h3⟩ := hok
    have h3 : s.head? ≠ some 48 := by rcases h3 with h3 | h3; exact h3; cases h3.2
    cases hd : Lib.decFrom 0 s with
    | none =>
      cases hn : numP (45 :: s) with
      | none => rfl
      | some n =>
        obtain ⟨e, _⟩ := numP_iff hn
        by_cases h : n < 0
        · rw [itoa_neg h] at e
          simp only [List.cons.injEq, true_and] at e
          rw [← e, decFrom_dec] at hd
          cases hd
        · obtain ⟨k, rfl⟩ : ∃ k : Nat, n = k := ⟨n.toNat, by omega⟩
          rw [itoa_nat] at e
          exact absurd rfl (dec_dig0 e).1
    | some m =>
      have e : Lib.decDigits m = s := dec_of_from _ s m rfl h1 (fun q => absurd q h3) hd
      have hm : 0 < m := by
        rcases Nat.eq_zero_or_pos m with h0 | h0
        · exfalso; apply h3; rw [← e, h0, Lib.decDigits, dif_pos (by omega)]; rfl
        · exact h0
      have e2 : Lib.itoa (-(m : Int)) = 45 :: s := by rw [itoa_neg (by omega), ← e]; congr 2; omega
      rw [← e2] at hst ⊢
      rw [numP_itoa (by rw [hst]; exact h2)]
      rfl
  · rw [if_neg hok]
    cases hn : numP (45 :: s) with
    | none => rfl
    | some n =>
      exfalso; apply hok
      obtain ⟨e, hl⟩ := numP_iff hn
      rw [hst] at hl
      by_cases h : n < 0
      · rw [itoa_neg h] at e
        simp only [List.cons.injEq, true_and] at e
        subst e
        unfold okDig
        simp only [Bool.and_eq_true, decide_eq_true_eq, Bool.not_eq_true', Bool.and_eq_false_iff, decide_eq_false_iff_not, Bool.or_eq_false_iff]
        exact ⟨⟨dec_ne _, hl⟩, .inl (dec_head _ (by omega))⟩
      · obtain ⟨k, rfl⟩ : ∃ k : Nat, n = k := ⟨n.toNat, by omega⟩
        rw [itoa_nat] at e
        exact absurd rfl (dec_dig0 e).1
end Go.Proofs.YtdgnhplaakjlgaaGreatDoor
