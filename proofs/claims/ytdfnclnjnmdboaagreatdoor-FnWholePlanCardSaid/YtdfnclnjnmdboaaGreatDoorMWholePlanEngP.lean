/- Lemmas and contracts for WholePlan (EngP): plain words on memory, contracts of the functions that the law reaches. No condition but what each states. -/
import Derived.Test.YtdfnclnjnmdboaaGreatDoorMWholePlanLay
import Derived.Test.YtdfnclnjnmdboaaGreatDoorPolyP
import Derived.Test.YtdfnclnjnmdboaaGreatDoorMWholePlanCols
namespace Go.Proofs.YtdfnclnjnmdboaaGreatDoor
set_option linter.unusedVariables false
open Go.RowKit

/-- the last k digits of a number -/
def shw : Nat → Nat → List UInt8
  | 0, _ => []
  | k + 1, v => shw k (v / 10) ++ [UInt8.ofNat (48 + v % 10)]
theorem shw_len : ∀ (k v : Nat), (shw k v).length = k
  | 0, _ => rfl
  | k + 1, v => by simp [shw, shw_len k (v / 10)]
theorem dgB_dig (m : Nat) : dgB (UInt8.ofNat (48 + m % 10)) = true := by
  unfold dgB
  rw [UInt8.toNat_ofNat']
  exact decide_eq_true (by omega)
theorem shw_dig : ∀ (k v : Nat), (shw k v).all dgB = true
  | 0, _ => rfl
  | k + 1, v => by rw [shw, List.all_append, shw_dig k (v / 10), List.all_cons, dgB_dig]; rfl
/-- what digits show -/
def cv (l : List UInt8) : Int := l.foldl (fun n b => n * 10 + ((b.toNat : Int) - 48)) 0
theorem cv_snoc (l : List UInt8) (b : UInt8) : cv (l ++ [b]) = cv l * 10 + ((b.toNat : Int) - 48) := by simp [cv]
theorem cv_shw : ∀ (k v : Nat), cv (shw k v) = ((v % 10 ^ k : Nat) : Int)
  | 0, v => by simp [shw, cv, Nat.mod_one]
  | k + 1, v => by
    rw [shw, cv_snoc, cv_shw k (v / 10), UInt8.toNat_ofNat']
    have h1 : v % 10 ^ (k + 1) = v % 10 + 10 * (v / 10 % 10 ^ k) := by
      rw [show 10 ^ (k + 1) = 10 * 10 ^ k by rw [Nat.pow_succ, Nat.mul_comm]]; exact Nat.mod_mul
    have h2 : (48 + v % 10) % 2 ^ 8 = 48 + v % 10 := by omega
    rw [h1, h2]
    push_cast
    omega
theorem cv_take_succ (l : List UInt8) (k : Nat) (h : k < l.length) : cv (l.take (k + 1)) = cv (l.take k) * 10 + ((l[k].toNat : Int) - 48) := by
  rw [List.take_succ_eq_append_getElem h, cv_snoc]
theorem cv_bd : ∀ (k : Nat) (l : List UInt8), l.length = k → l.all dgB = true → 0 ≤ cv l ∧ cv l < ten k
  | 0, l, h, _ => by
    have : l = [] := List.eq_nil_of_length_eq_zero h
    subst this
    simp [cv, ten]
  | k + 1, l, h, hd => by
    have hl : k < l.length := by omega
    have e : l = l.take k ++ [l[k]] := by rw [← List.take_succ_eq_append_getElem hl, List.take_of_length_le (by omega)]
    have h1 := cv_bd k (l.take k) (by simp; omega) (List.all_eq_true.2 fun x hx => List.all_eq_true.1 hd x (List.mem_of_mem_take hx))
    have h2 : dgB l[k] = true := List.all_eq_true.1 hd _ (List.getElem_mem hl)
    unfold dgB at h2
    have h3 := of_decide_eq_true h2
    rw [e, cv_snoc, ten_succ]
    omega
theorem ten_nat (W : Nat) : ten W = ((10 ^ W : Nat) : Int) := by unfold ten; push_cast; rfl
/-- the column of width W that stands for v -/
def colL (W : Nat) (v : Int) : List UInt8 := shw W (v % ten W).toNat
def colS (W : Nat) (v : Int) : ByteArray := ⟨(colL W v).toArray⟩
theorem colL_len (W : Nat) (v : Int) : (colL W v).length = W := shw_len _ _
theorem colS_size (W : Nat) (v : Int) : (colS W v).size = W := by
  show (colL W v).toArray.size = W
  simp [colL_len]
theorem colS_list (W : Nat) (v : Int) : (colS W v).data.toList = colL W v := rfl
theorem mod_bds (W : Nat) (v : Int) : 0 ≤ v % ten W ∧ v % ten W < ten W := by
  have := ten_pos W
  exact ⟨Int.emod_nonneg _ (by omega), Int.emod_lt_of_pos _ (by omega)⟩
theorem cv_colL (W : Nat) (v : Int) : cv (colL W v) = v % ten W := by
  have h := mod_bds W v
  unfold colL
  rw [cv_shw]
  have h2 : (v % ten W).toNat < 10 ^ W := by have := ten_nat W; omega
  rw [Nat.mod_eq_of_lt h2]
  omega
theorem colB_colS {W : Nat} (v : Int) (h1 : 1 ≤ W) (h2 : W ≤ 12) : colB (colS W v) = true := by
  unfold colB
  rw [colS_size, inB_t (by omega) (by omega), colS_list]
  simpa [colL] using shw_dig W (v % ten W).toNat
theorem colL_mod (W : Nat) {a b : Int} (h : a % ten W = b % ten W) : colL W a = colL W b := by unfold colL; rw [h]
theorem colS_mod (W : Nat) {a b : Int} (h : a % ten W = b % ten W) : colS W a = colS W b := by unfold colS; rw [colL_mod W h]
theorem shw_small {W m : Nat} (h : (m : Int) < ten W) : shw W m = colL W (m : Int) := by
  unfold colL
  rw [Int.emod_eq_of_lt (by omega) h, Int.toNat_natCast]
theorem colS_add (W : Nat) (a b : Int) : colS W (a % ten W + b % ten W) = colS W (a + b) := colS_mod W (by rw [← Int.add_emod])
theorem colS_emod (W : Nat) (a : Int) : colS W (a % ten W) = colS W a := colS_mod W (Int.emod_emod_of_dvd _ (Int.dvd_refl _))
/-- the number that the column of v stands for -/
def sg (W : Nat) (v : Int) : Int := if ten W / 2 ≤ v % ten W then v % ten W - ten W else v % ten W
def fitB (n : Int) (W : Nat) : Bool := decide (-(ten W / 2) ≤ n ∧ n < ten W / 2)
theorem fitB_iff {n : Int} {W : Nat} : fitB n W = true ↔ -(ten W / 2) ≤ n ∧ n < ten W / 2 := decide_eq_true_iff
theorem ten_even {W : Nat} (h : 1 ≤ W) : ten W = 2 * (ten W / 2) ∧ 5 ≤ ten W / 2 := by
  obtain ⟨k, rfl⟩ : ∃ k, W = k + 1 := ⟨W - 1, by omega⟩
  have h1 := ten_pos k
  rw [ten_succ]; omega
theorem sg_bd {W : Nat} (v : Int) (h : 1 ≤ W) : -(ten W / 2) ≤ sg W v ∧ sg W v < ten W / 2 := by
  have h1 := mod_bds W v
  have h2 := ten_even h
  unfold sg; split <;> omega
theorem sg_mod (W : Nat) (v : Int) : sg W v % ten W = v % ten W := by
  unfold sg
  split
  · rw [Int.sub_emod, Int.emod_self, Int.sub_zero, Int.emod_emod_of_dvd _ (Int.dvd_refl _), Int.emod_emod_of_dvd _ (Int.dvd_refl _)]
  · exact Int.emod_emod_of_dvd _ (Int.dvd_refl _)
theorem sg_fit {W : Nat} {v : Int} (h : 1 ≤ W) : sg W v = v ↔ fitB v W = true := by
  rw [fitB_iff]
  constructor
  · intro e
    have := sg_bd (W := W) v h
    omega
  · intro ⟨h1, h2⟩
    have h3 := ten_even h
    unfold sg
    by_cases hv : 0 ≤ v
    · rw [Int.emod_eq_of_lt hv (by omega), if_neg (by omega)]
    · have : v % ten W = v + ten W := by
        rw [← Int.add_emod_right, Int.emod_eq_of_lt (by omega) (by omega)]
      rw [this, if_pos (by omega)]; omega
theorem fit_mono {v : Int} {a b : Nat} (h : a ≤ b) (hf : fitB v a = true) : fitB v b = true := by
  rw [fitB_iff] at hf ⊢
  have := ten_mono h
  omega
/-- the least width for a number, from k on -/
def wfN (n : Int) : Nat → Nat → Nat
  | 0, _ => 0
  | f + 1, k => if fitB n k = true then k else wfN n f (k + 1)
def wfF (n : Int) : Nat := wfN n 12 1
theorem wfN_iff (n : Int) : ∀ (f k W : Nat), 1 ≤ k → k ≤ W → W < k + f → ((wfN n f k > 0 ∧ wfN n f k ≤ W) ↔ fitB n W = true)
  | 0, k, W, h1, h2, h3 => by omega
  | f + 1, k, W, h1, h2, h3 => by
    unfold wfN
    by_cases h : fitB n k = true
    · rw [if_pos h]
      exact ⟨fun _ => fit_mono h2 h, fun _ => ⟨by omega, h2⟩⟩
    · rw [if_neg h]
      by_cases e : k = W
      · subst e
        constructor
        · intro ⟨a, b⟩
          exfalso
          have : ∀ (f j : Nat), wfN n f j = 0 ∨ j ≤ wfN n f j := by
            intro f
            induction f with
            | zero => intro j; left; rfl
            | succ f ih =>
              intro j
              unfold wfN
              split
              · right; omega
              · rcases ih (j + 1) with h | h
                · left; exact h
                · right; omega
          rcases this f (k + 1) with q | q <;> omega
        · intro q; exact absurd q h
      · exact wfN_iff n f (k + 1) W (by omega) (by omega) (by omega)
theorem wfF_iff (n : Int) {W : Nat} (h1 : 1 ≤ W) (h2 : W ≤ 12) : (wfF n > 0 ∧ wfF n ≤ W) ↔ fitB n W = true := wfN_iff n 12 1 W (Nat.le_refl _) h1 (by omega)

/-- a turn of an engine -/
def trnI (vs : List Int) : List Int := (List.range vs.length).map fun i => vs.getD i 0 + vs.getD (i + 1) 0
theorem trnI_len (vs : List Int) : (trnI vs).length = vs.length := by simp [trnI]
theorem trnI_getD (vs : List Int) (i : Nat) : (trnI vs).getD i 0 = vs.getD i 0 + vs.getD (i + 1) 0 := by
  by_cases h : i < vs.length
  · simp [trnI, List.getD, h]
  · simp [trnI, List.getD, Nat.le_of_not_lt h, show vs.length ≤ i + 1 by omega]
def trnN : Nat → List Int → List Int
  | 0, vs => vs
  | n + 1, vs => trnN n (trnI vs)
theorem trnN_len : ∀ (n : Nat) (vs : List Int), (trnN n vs).length = vs.length
  | 0, _ => rfl
  | n + 1, vs => by rw [trnN, trnN_len n, trnI_len]
theorem trnN_succ : ∀ (n : Nat) (vs : List Int), trnN (n + 1) vs = trnI (trnN n vs)
  | 0, _ => rfl
  | n + 1, vs => by rw [trnN, trnN_succ n (trnI vs)]; rfl
theorem evalP_drop_succ (p : List Int) (k n : Nat) : evalP (p.drop k) (n + 1) = evalP (p.drop k) n + evalP (p.drop (k + 1)) n := by
  rw [evalP_tail, List.tail_drop]
theorem trn_shf (p : List Int) (n : Nat) : trnI (shf p n) = shf p (n + 1) := by
  apply ext_getD
  · rw [trnI_len, shf_len, shf_len]
  · intro k hk
    rw [trnI_len, shf_len] at hk
    rw [trnI_getD, shf_getD _ _ _ hk, shf_getD _ _ _ hk, evalP_drop_succ]
    congr 1
    by_cases h : k + 1 < p.length
    · rw [shf_getD _ _ _ h]
    · have e1 : (shf p n).getD (k + 1) 0 = 0 := by
        have : (shf p n).length ≤ k + 1 := by rw [shf_len]; omega
        simp [List.getD, this]
      have e2 : p.drop (k + 1) = [] := List.drop_eq_nil_of_le (by omega)
      rw [e1, e2, evalP_nil]
theorem shf_zero (p : List Int) : shf p 0 = p := by
  apply ext_getD
  · rw [shf_len]
  · intro k hk
    rw [shf_len] at hk
    rw [shf_getD _ _ _ hk, evalP_drop0]
theorem trnN_poly : ∀ (n : Nat) (p : List Int), trnN n p = shf p n
  | 0, p => (shf_zero p).symm
  | n + 1, p => by rw [trnN_succ, trnN_poly n p, trn_shf]
theorem trnN_first {p : List Int} (n : Nat) : (trnN n p).getD 0 0 = evalP p n := by
  rw [trnN_poly]
  by_cases h : 0 < p.length
  · rw [shf_getD _ _ _ h, List.drop_zero]
  · have : p = [] := List.eq_nil_of_length_eq_zero (by omega)
    subst this
    rfl
/-- the columns of an engine -/
def cols (W : Nat) (vs : List Int) : List ByteArray := vs.map (colS W)
theorem cols_len (W : Nat) (vs : List Int) : (cols W vs).length = vs.length := by simp [cols]
theorem cols_getD (W : Nat) (vs : List Int) (i : Nat) (h : i < vs.length) : (cols W vs).getD i noS = colS W (vs.getD i 0) := by simp [cols, List.getD, h]
/-- the results of an engine -/
def runE (W : Nat) (vs : List Int) (c : Nat) : List Int := (List.range c).map fun n => sg W ((trnN n vs).getD 0 0)
theorem runE_len (W : Nat) (vs : List Int) (c : Nat) : (runE W vs c).length = c := by simp [runE]
theorem runE_succ (W : Nat) (vs : List Int) (c : Nat) : runE W vs (c + 1) = runE W vs c ++ [sg W ((trnN c vs).getD 0 0)] := by
  unfold runE; rw [List.range_succ, List.map_append]; rfl
theorem runE_getD (W : Nat) (vs : List Int) (c i : Nat) (h : i < c) : (runE W vs c).getD i 0 = sg W ((trnN i vs).getD 0 0) := by simp [runE, List.getD, h]
theorem runE_poly (W : Nat) (p : List Int) (c : Nat) : runE W p c = (vals p c).map (sg W) := by
  unfold runE vals valsF
  rw [List.map_map]
  apply List.map_congr_left
  intro i _
  show sg W _ = sg W (evalP p (0 + i))
  rw [trnN_first, Nat.zero_add]

/-- the wheels in which two columns differ, up to the wheel k -/
def dif (x y : List UInt8) : Nat → Nat
  | 0 => 0
  | k + 1 => dif x y k + if x.getD k 0 = y.getD k 0 then 0 else 1
theorem dif_le (x y : List UInt8) : ∀ k, dif x y k ≤ k
  | 0 => Nat.le_refl _
  | k + 1 => by have := dif_le x y k; unfold dif; split <;> omega
theorem dif_self (x : List UInt8) : ∀ k, dif x x k = 0
  | 0 => rfl
  | k + 1 => by rw [dif, dif_self x k, if_pos rfl]
/-- .. two engines, up to the column k -/
def difE (xs ys : List ByteArray) : Nat → Nat
  | 0 => 0
  | k + 1 => difE xs ys k + dif (xs.getD k noS).data.toList (ys.getD k noS).data.toList (xs.getD k noS).size
theorem difE_le {xs ys : List ByteArray} (h : ∀ s ∈ xs, s.size ≤ 12) : ∀ k, difE xs ys k ≤ k * 12
  | 0 => Nat.le_refl _
  | k + 1 => by
    have h1 := difE_le (ys := ys) h k
    have h2 := dif_le (xs.getD k noS).data.toList (ys.getD k noS).data.toList (xs.getD k noS).size
    have h3 : (xs.getD k noS).size ≤ 12 := by
      by_cases hk : k < xs.length
      · exact h _ (by simp [List.getD, hk])
      · have : xs.getD k noS = noS := by simp [List.getD, Nat.le_of_not_lt hk]
        rw [this]; decide
    unfold difE; omega
theorem difE_self (xs : List ByteArray) : ∀ k, difE xs xs k = 0
  | 0 => rfl
  | k + 1 => by rw [difE, difE_self xs k, dif_self]
end Go.Proofs.YtdfnclnjnmdboaaGreatDoor
