/- Plain facts on polynomials given by their differences: binomial coefficients, values, differences of neighbours, the least degree, the polynomial of a list, a polynomial at another argument. No program in sight. -/
namespace Go.Proofs.YtdfnclnjnmdboaaGreatDoor
set_option linter.unusedVariables false

/-- binomial coefficients -/
def bino : Nat → Nat → Int
  | _, 0 => 1
  | 0, _ + 1 => 0
  | n + 1, k + 1 => bino n k + bino n (k + 1)
theorem bino_zero (n : Nat) : bino n 0 = 1 := by cases n <;> rfl
theorem bino_nz (k : Nat) : bino 0 (k + 1) = 0 := rfl
theorem bino_succ (n k : Nat) : bino (n + 1) (k + 1) = bino n k + bino n (k + 1) := rfl
theorem bino_nonneg : ∀ n k, 0 ≤ bino n k
  | n, 0 => by rw [bino_zero]; decide
  | 0, k + 1 => by rw [bino_nz]; decide
  | n + 1, k + 1 => by have h1 := bino_nonneg n k; have h2 := bino_nonneg n (k + 1); rw [bino_succ]; omega
theorem bino_step : ∀ n k : Nat, bino n (k + 1) * ((k : Int) + 1) = bino n k * ((n : Int) - k)
  | 0, 0 => rfl
  | 0, k + 1 => by rw [bino_nz, bino_nz, Int.zero_mul, Int.zero_mul]
  | n + 1, 0 => by
    have h := bino_step n 0
    rw [bino_zero] at h
    rw [bino_succ, bino_zero, bino_zero]
    have h' : bino n 1 = n := by simpa using h
    show (1 + bino n 1) * _ = _
    rw [h']
    push_cast
    omega
  | n + 1, k + 1 => by
    have h1 := bino_step n (k + 1)
    have h0 := bino_step n k
    rw [bino_succ, bino_succ n k]
    generalize bino n (k + 1 + 1) = c at *
    generalize bino n (k + 1) = b at *
    generalize bino n k = a at *
    have e1 : (b + c) * (((k + 1 : Nat) : Int) + 1) = b * ((k + 1 : Nat) : Int) + b + c * (((k + 1 : Nat) : Int) + 1) := by
      rw [Int.add_mul, Int.mul_add b, Int.mul_one]
    have e2 : (a + b) * (((n + 1 : Nat) : Int) - ((k + 1 : Nat) : Int)) = a * ((n : Int) - k) + b * ((n : Int) - ((k + 1 : Nat) : Int)) + b := by
      have : ((n + 1 : Nat) : Int) - ((k + 1 : Nat) : Int) = (n : Int) - k := by push_cast; omega
      rw [this, Int.add_mul]
      have : (n : Int) - k = ((n : Int) - ((k + 1 : Nat) : Int)) + 1 := by push_cast; omega
      rw [show b * ((n : Int) - k) = b * ((n : Int) - ((k + 1 : Nat) : Int)) + b by rw [this, Int.mul_add, Int.mul_one]]
      omega
    rw [e1, e2, h1, ← h0]
    have : ((k + 1 : Nat) : Int) = (k : Int) + 1 := by push_cast; rfl
    rw [this]
    omega
theorem pow_mono_left {a b : Int} (ha : 0 ≤ a) (h : a ≤ b) : ∀ k : Nat, 0 ≤ a ^ k ∧ a ^ k ≤ b ^ k
  | 0 => by simp
  | k + 1 => by
    obtain ⟨h1, h2⟩ := pow_mono_left ha h k
    rw [Int.pow_succ, Int.pow_succ]
    exact ⟨Int.mul_nonneg h1 ha, Int.mul_le_mul h2 h ha (by omega)⟩
theorem pow_mono_right {a : Int} (ha : 1 ≤ a) {k m : Nat} (h : k ≤ m) : a ^ k ≤ a ^ m := by
  induction m with
  | zero => have : k = 0 := by omega
            subst this; exact Int.le_refl _
  | succ m ih =>
    by_cases e : k = m + 1
    · subst e; exact Int.le_refl _
    · have h1 := ih (by omega)
      have h0 := (pow_mono_left (a := a) (by omega) (Int.le_refl _) m).1
      have h2 : a ^ m * 1 ≤ a ^ m * a := Int.mul_le_mul_of_nonneg_left ha h0
      rw [Int.pow_succ]; omega
theorem bino_le : ∀ n k : Nat, bino n k ≤ ((n : Int) + 1) ^ k
  | n, 0 => by rw [bino_zero]; simp
  | 0, k + 1 => by rw [bino_nz]; exact (pow_mono_left (by decide) (Int.le_refl _) _).1
  | n + 1, k + 1 => by
    have h1 := bino_le n k
    have h2 := bino_le n (k + 1)
    rw [bino_succ]
    have e0 : ((n : Int) + 1) ^ k * ((n : Int) + 2) ≤ ((n : Int) + 2) ^ k * ((n : Int) + 2) := by
      apply Int.mul_le_mul_of_nonneg_right _ (by omega)
      exact (pow_mono_left (by omega) (by omega) k).2
    have e1 : ((n : Int) + 1) ^ k * ((n : Int) + 2) = ((n : Int) + 1) ^ k + ((n : Int) + 1) ^ (k + 1) := by
      rw [Int.pow_succ, show (n : Int) + 2 = 1 + ((n : Int) + 1) by omega, Int.mul_add, Int.mul_one]
    have e2 : (((n + 1 : Nat) : Int) + 1) ^ (k + 1) = ((n : Int) + 2) ^ k * ((n : Int) + 2) := by
      rw [Int.pow_succ]; push_cast; rfl
    omega
theorem bino_bd {n k : Nat} (hn : n ≤ 100) (hk : k ≤ 6) : 0 ≤ bino n k ∧ bino n k ≤ 1061520150601 := by
  refine ⟨bino_nonneg n k, ?_⟩
  have h := bino_le n k
  have h1 : ((n : Int) + 1) ^ k ≤ (101 : Int) ^ k := (pow_mono_left (by omega) (by omega) k).2
  have h2 : (101 : Int) ^ k ≤ 101 ^ 6 := pow_mono_right (by omega) hk
  have h3 : (101 : Int) ^ 6 = 1061520150601 := by decide
  omega

/-- the value of the columns p, from the column k on -/
def ev : List Int → Nat → Nat → Int
  | [], _, _ => 0
  | c :: p, n, k => c * bino n k + ev p n (k + 1)
def evalP (p : List Int) (n : Nat) : Int := ev p n 0
theorem ev_nil (n k : Nat) : ev [] n k = 0 := rfl
theorem ev_cons (c : Int) (p : List Int) (n k : Nat) : ev (c :: p) n k = c * bino n k + ev p n (k + 1) := rfl
theorem ev_succ : ∀ (p : List Int) (n k : Nat), ev p (n + 1) (k + 1) = ev p n k + ev p n (k + 1)
  | [], _, _ => rfl
  | c :: p, n, k => by
    rw [ev_cons, ev_cons, ev_cons, ev_succ p n (k + 1), bino_succ, Int.mul_add]; omega
theorem ev_zero : ∀ (p : List Int) (k : Nat), ev p 0 (k + 1) = 0
  | [], _ => rfl
  | c :: p, k => by rw [ev_cons, ev_zero p (k + 1), bino_nz]; simp
theorem evalP_nil (n : Nat) : evalP [] n = 0 := rfl
theorem evalP_zero (c : Int) (p : List Int) : evalP (c :: p) 0 = c := by unfold evalP; rw [ev_cons, ev_zero, bino_zero]; omega
theorem evalP_succ (c : Int) (p : List Int) (n : Nat) : evalP (c :: p) (n + 1) = evalP (c :: p) n + evalP p n := by
  unfold evalP
  rw [ev_cons, ev_cons, ev_succ p n 0, bino_zero, bino_zero]; omega
theorem evalP_tail (p : List Int) (n : Nat) : evalP p (n + 1) = evalP p n + evalP p.tail n := by
  cases p with
  | nil => rfl
  | cons c p => exact evalP_succ c p n
theorem ev_append : ∀ (p q : List Int) (n k : Nat), ev (p ++ q) n k = ev p n k + ev q n (k + p.length)
  | [], q, n, k => by simp [ev_nil]
  | c :: p, q, n, k => by
    rw [List.cons_append, ev_cons, ev_cons, ev_append p q n (k + 1), List.length_cons, show k + 1 + p.length = k + (p.length + 1) by omega]; omega
theorem ev_take_succ (p : List Int) (n k : Nat) (hk : k < p.length) : evalP (p.take (k + 1)) n = evalP (p.take k) n + p.getD k 0 * bino n k := by
  unfold evalP
  rw [List.take_succ_eq_append_getElem hk, ev_append, ev_cons, ev_nil]
  simp [List.getD, hk, Nat.min_eq_left (Nat.le_of_lt hk)]
theorem ev_zeros : ∀ (p : List Int) (n k : Nat), (∀ x ∈ p, x = 0) → ev p n k = 0
  | [], _, _, _ => rfl
  | c :: p, n, k, h => by rw [ev_cons, ev_zeros p n (k + 1) (fun x hx => h x (by simp [hx])), h c (by simp)]; simp
theorem ev_bd : ∀ (p : List Int) (n k : Nat), n ≤ 100 → k + p.length ≤ 7 → (∀ x ∈ p, -100000 ≤ x ∧ x ≤ 100000) → -((p.length : Int) * 106152015060100000) ≤ ev p n k ∧ ev p n k ≤ (p.length : Int) * 106152015060100000
  | [], _, _, _, _, _ => by simp [ev_nil]
  | c :: p, n, k, hn, hk, h => by
    simp only [List.length_cons] at hk
    have h1 := ev_bd p n (k + 1) hn (by omega) (fun x hx => h x (by simp [hx]))
    obtain ⟨c1, c2⟩ := h c (by simp)
    obtain ⟨b1, b2⟩ := bino_bd (k := k) hn (by omega)
    rw [ev_cons]
    have m1 : c * bino n k ≤ 100000 * bino n k := Int.mul_le_mul_of_nonneg_right c2 b1
    have m2 : -100000 * bino n k ≤ c * bino n k := Int.mul_le_mul_of_nonneg_right c1 b1
    have e : (((c :: p).length : Nat) : Int) = (p.length : Int) + 1 := by simp
    rw [e, Int.add_mul]
    omega
theorem evalP_bd {p : List Int} {n : Nat} (hn : n ≤ 100) (hp : p.length ≤ 7) (h : ∀ x ∈ p, -100000 ≤ x ∧ x ≤ 100000) : -743064105420700000 ≤ evalP p n ∧ evalP p n ≤ 743064105420700000 := by
  have h1 := ev_bd p n 0 hn (by omega) h
  unfold evalP
  have h2 : (p.length : Int) * 106152015060100000 ≤ 7 * 106152015060100000 := Int.mul_le_mul_of_nonneg_right (by omega) (by decide)
  omega

/-- the values of a polynomial, from an argument on -/
def valsF (p : List Int) (f : Nat) (c : Nat) : List Int := (List.range c).map fun i => evalP p (f + i)
def vals (p : List Int) (c : Nat) : List Int := valsF p 0 c
theorem valsF_len (p : List Int) (f c : Nat) : (valsF p f c).length = c := by simp [valsF]
theorem vals_len (p : List Int) (c : Nat) : (vals p c).length = c := valsF_len p 0 c
theorem valsF_getD (p : List Int) (f c i : Nat) (h : i < c) : (valsF p f c).getD i 0 = evalP p (f + i) := by simp [valsF, List.getD, h]
theorem vals_getD (p : List Int) (c i : Nat) (h : i < c) : (vals p c).getD i 0 = evalP p i := by unfold vals; rw [valsF_getD p 0 c i h, Nat.zero_add]
theorem valsF_succ (p : List Int) (f c : Nat) : valsF p f (c + 1) = valsF p f c ++ [evalP p (f + c)] := by unfold valsF; rw [List.range_succ, List.map_append]; rfl
theorem valsF_add (p : List Int) (f a b : Nat) : valsF p f (a + b) = valsF p f a ++ valsF p (f + a) b := by
  unfold valsF
  rw [List.range_add, List.map_append, List.map_map]
  congr 1
  apply List.map_congr_left
  intro i _
  show evalP p (f + (a + i)) = _
  rw [Nat.add_assoc]
theorem valsF_take (p : List Int) (f c m : Nat) (h : m ≤ c) : (valsF p f c).take m = valsF p f m := by
  rw [show c = m + (c - m) by omega, valsF_add, List.take_left' (valsF_len p f m)]

/-- the differences of neighbours -/
def nxt (l : List Int) : List Int := (List.range (l.length - 1)).map fun i => l.getD (i + 1) 0 - l.getD i 0
theorem nxt_len (l : List Int) : (nxt l).length = l.length - 1 := by simp [nxt]
theorem nxt_getD (l : List Int) (i : Nat) (h : i + 1 < l.length) : (nxt l).getD i 0 = l.getD (i + 1) 0 - l.getD i 0 := by
  unfold nxt
  have : i < l.length - 1 := by omega
  simp [List.getD, this]
theorem ext_getD {a b : List Int} (hl : a.length = b.length) (h : ∀ i, i < a.length → a.getD i 0 = b.getD i 0) : a = b := by
  apply List.ext_getElem hl
  intro i h1 h2
  have := h i h1
  simpa [List.getD, h1, h2] using this
theorem getD_take (l : List Int) (m i : Nat) (h : i < m) : (l.take m).getD i 0 = l.getD i 0 := by
  simp [List.getD, h]
theorem getD_drop (l : List Int) (m i : Nat) : (l.drop m).getD i 0 = l.getD (m + i) 0 := by
  simp [List.getD, List.getElem?_drop]
theorem nxt_take (l : List Int) (m : Nat) : nxt (l.take m) = (nxt l).take (m - 1) := by
  apply ext_getD
  · simp [nxt_len]; omega
  · intro i h
    rw [nxt_len] at h
    simp at h
    rw [nxt_getD _ _ (by simp; omega), getD_take _ _ _ (by omega), getD_take _ _ _ (by omega), getD_take _ _ _ (by omega), nxt_getD _ _ (by omega)]
theorem nxt_drop (l : List Int) (m : Nat) : nxt (l.drop m) = (nxt l).drop m := by
  apply ext_getD
  · simp [nxt_len]; omega
  · intro i h
    rw [nxt_len] at h
    simp at h
    rw [nxt_getD _ _ (by simp; omega), getD_drop, getD_drop, getD_drop, nxt_getD _ _ (by omega)]
    rw [Nat.add_assoc]
theorem nxt_vals (p : List Int) (f c : Nat) : nxt (valsF p f c) = valsF p.tail f (c - 1) := by
  apply ext_getD
  · rw [nxt_len, valsF_len, valsF_len]
  · intro i h
    rw [nxt_len, valsF_len] at h
    rw [nxt_getD _ _ (by rw [valsF_len]; omega), valsF_getD _ _ _ _ (by omega), valsF_getD _ _ _ _ (by omega), valsF_getD _ _ _ _ h, ← Nat.add_assoc, evalP_tail]
    omega

/-- the first entries of a list and of its differences -/
def fdN : Nat → List Int → List Int
  | 0, _ => []
  | n + 1, l => l.getD 0 0 :: fdN n (nxt l)
def fd (l : List Int) : List Int := fdN l.length l
theorem fdN_len : ∀ (n : Nat) (l : List Int), (fdN n l).length = n
  | 0, _ => rfl
  | n + 1, l => by rw [fdN, List.length_cons, fdN_len n]
theorem fd_len (l : List Int) : (fd l).length = l.length := fdN_len _ _
theorem fd_nil : fd [] = [] := rfl
theorem fd_step {l : List Int} (h : 0 < l.length) : fd l = l.getD 0 0 :: fd (nxt l) := by
  unfold fd
  rw [nxt_len]
  obtain ⟨m, hm⟩ : ∃ m, l.length = m + 1 := ⟨l.length - 1, by omega⟩
  rw [hm]; rfl
theorem fdN_take : ∀ (n : Nat) (l : List Int) (m : Nat), n ≤ m → fdN n (l.take m) = fdN n l
  | 0, _, _, _ => rfl
  | n + 1, l, m, h => by
    rw [fdN, fdN, nxt_take, fdN_take n (nxt l) (m - 1) (by omega), getD_take _ _ _ (by omega)]
theorem fdN_take' : ∀ (n m : Nat) (l : List Int), m ≤ n → (fdN n l).take m = fdN m l
  | n, 0, l, _ => by simp [fdN]
  | 0, m + 1, l, h => by omega
  | n + 1, m + 1, l, h => by rw [fdN, fdN, List.take_succ_cons, fdN_take' n m _ (by omega)]
theorem fd_take (l : List Int) (m : Nat) (h : m ≤ l.length) : fd (l.take m) = (fd l).take m := by
  unfold fd
  rw [List.length_take, Nat.min_eq_left h, fdN_take m l m (Nat.le_refl _), fdN_take' _ _ _ h]
/-- the rows of differences -/
def nxtN : Nat → List Int → List Int
  | 0, l => l
  | n + 1, l => nxtN n (nxt l)
theorem nxtN_len : ∀ (n : Nat) (l : List Int), (nxtN n l).length = l.length - n
  | 0, l => rfl
  | n + 1, l => by rw [nxtN, nxtN_len n, nxt_len]; omega
theorem nxtN_succ : ∀ (n : Nat) (l : List Int), nxtN (n + 1) l = nxt (nxtN n l)
  | 0, l => rfl
  | n + 1, l => by rw [nxtN, nxtN_succ n (nxt l)]; rfl
theorem nxtN_nil (n : Nat) : nxtN n [] = [] := List.eq_nil_of_length_eq_zero (by rw [nxtN_len]; simp)
theorem nxtN_take : ∀ (n : Nat) (l : List Int) (m : Nat), nxtN n (l.take m) = (nxtN n l).take (m - n)
  | 0, l, m => rfl
  | n + 1, l, m => by rw [nxtN, nxtN, nxt_take, nxtN_take n]; congr 1; omega
theorem nxtN_drop : ∀ (n : Nat) (l : List Int) (m : Nat), nxtN n (l.drop m) = (nxtN n l).drop m
  | 0, l, m => rfl
  | n + 1, l, m => by rw [nxtN, nxtN, nxt_drop, nxtN_drop n]
theorem nxtN_vals : ∀ (n : Nat) (p : List Int) (f c : Nat), nxtN n (valsF p f c) = valsF (p.drop n) f (c - n)
  | 0, p, f, c => by rw [List.drop_zero]; rfl
  | n + 1, p, f, c => by rw [nxtN, nxt_vals, nxtN_vals n]; congr 1; simp; omega
theorem fd_drop : ∀ (n : Nat) (l : List Int), (fd l).drop n = fd (nxtN n l)
  | 0, l => rfl
  | n + 1, l => by
    by_cases h : 0 < l.length
    · rw [fd_step h, List.drop_succ_cons, fd_drop n]; rfl
    · have : l = [] := List.eq_nil_of_length_eq_zero (by omega)
      subst this
      rw [nxtN_nil]; simp [fd_nil]
theorem fd_getD (l : List Int) (k : Nat) (h : k < l.length) : (fd l).getD k 0 = (nxtN k l).getD 0 0 := by
  have h1 : (fd l).getD k 0 = ((fd l).drop k).getD 0 0 := by rw [getD_drop]; rfl
  rw [h1, fd_drop, fd_step (by rw [nxtN_len]; omega)]; rfl
/-- Newton: the first differences give back the list -/
theorem newton : ∀ (n : Nat) (l : List Int), n < l.length → evalP (fd l) n = l.getD n 0
  | 0, l, h => by rw [fd_step h, evalP_zero]
  | n + 1, l, h => by
    have h1 := newton n l (by omega)
    have h2 := newton n (nxt l) (by rw [nxt_len]; omega)
    rw [fd_step (by omega)] at h1 ⊢
    rw [evalP_succ, h1, h2, nxt_getD _ _ h]; omega
def allZ (l : List Int) : Bool := l.all fun x => x == 0
theorem allZ_iff {l : List Int} : allZ l = true ↔ ∀ x ∈ l, x = 0 := by simp [allZ]
theorem allZ_getD {l : List Int} (h : allZ l = true) (i : Nat) : l.getD i 0 = 0 := by
  by_cases hi : i < l.length
  · have := allZ_iff.1 h (l.getD i 0) (by simp [List.getD, hi])
    exact this
  · simp [List.getD, Nat.le_of_not_lt hi]
theorem allZ_nxt {l : List Int} (h : allZ l = true) : allZ (nxt l) = true := by
  rw [allZ_iff]
  intro x hx
  unfold nxt at hx
  obtain ⟨i, _, rfl⟩ := List.mem_map.1 hx
  rw [allZ_getD h, allZ_getD h]; rfl
theorem allZ_nxtN : ∀ (n : Nat) {l : List Int}, allZ l = true → allZ (nxtN n l) = true
  | 0, _, h => h
  | n + 1, _, h => allZ_nxtN n (allZ_nxt h)
theorem allZ_fdN : ∀ (n : Nat) (l : List Int), allZ l = true → allZ (fdN n l) = true
  | 0, _, _ => rfl
  | n + 1, l, h => by
    have h1 := allZ_fdN n _ (allZ_nxt h)
    rw [allZ_iff] at h1 ⊢
    intro x hx
    rw [fdN] at hx
    rcases List.mem_cons.1 hx with rfl | hx
    · exact allZ_getD h 0
    · exact h1 x hx
theorem allZ_fd {l : List Int} (h : allZ l = true) : allZ (fd l) = true := allZ_fdN _ _ h
theorem allZ_take {l : List Int} (h : allZ l = true) (m : Nat) : allZ (l.take m) = true := allZ_iff.2 fun x hx => allZ_iff.1 h x (List.mem_of_mem_take hx)
theorem allZ_drop {l : List Int} (h : allZ l = true) (m : Nat) : allZ (l.drop m) = true := allZ_iff.2 fun x hx => allZ_iff.1 h x (List.mem_of_mem_drop hx)

/-- the least degree: the number of the first row of zeros, less 1; at most 7 -/
def ldN : Nat → Int → List Int → Int
  | 0, k, _ => k
  | f + 1, k, l => if allZ l = true then k else ldN f (k + 1) (nxt l)
def ld (l : List Int) : Int := ldN 8 (-1) l
theorem ldN_bd : ∀ (f : Nat) (k : Int) (l : List Int), k ≤ ldN f k l ∧ ldN f k l ≤ k + f
  | 0, k, l => by simp [ldN]
  | f + 1, k, l => by
    unfold ldN
    split
    · omega
    · have := ldN_bd f (k + 1) (nxt l); omega
theorem ld_bd (l : List Int) : -1 ≤ ld l ∧ ld l ≤ 7 := by have := ldN_bd 8 (-1) l; unfold ld; omega
theorem ldN_le : ∀ (f : Nat) (k : Int) (l : List Int) (j : Nat), j < f → (ldN f k l ≤ k + j ↔ allZ (nxtN j l) = true)
  | 0, _, _, _, h => by omega
  | f + 1, k, l, j, h => by
    unfold ldN
    by_cases hz : allZ l = true
    · rw [if_pos hz]
      exact ⟨fun _ => allZ_nxtN j hz, fun _ => by omega⟩
    · rw [if_neg hz]
      cases j with
      | zero =>
        have := ldN_bd f (k + 1) (nxt l)
        constructor
        · intro h2; omega
        · intro h2; exact absurd h2 hz
      | succ j =>
        have := ldN_le f (k + 1) (nxt l) j (by omega)
        rw [show k + ((j + 1 : Nat) : Int) = k + 1 + (j : Int) by push_cast; omega]
        exact this
theorem ld_le {l : List Int} {d : Int} (h0 : -1 ≤ d) (h6 : d ≤ 6) : ld l ≤ d ↔ allZ (nxtN (d + 1).toNat l) = true := by
  have h := ldN_le 8 (-1) l (d + 1).toNat (by omega)
  unfold ld
  rw [← h]
  constructor <;> intro <;> omega
theorem ld_sub {l : List Int} (a m : Nat) : ld ((l.drop a).take m) ≤ ld l := by
  have hb := ld_bd l
  have hb2 := ld_bd ((l.drop a).take m)
  by_cases h7 : ld l = 7
  · omega
  · rw [ld_le (by omega) (by omega), nxtN_take, nxtN_drop]
    exact allZ_take (allZ_drop ((ld_le (by omega) (by omega)).1 (Int.le_refl _)) _) _
theorem ld_take {l : List Int} (m : Nat) : ld (l.take m) ≤ ld l := by have := ld_sub (l := l) 0 m; rwa [List.drop_zero] at this
theorem ld_drop {l : List Int} (a : Nat) : ld (l.drop a) ≤ ld l := by
  have := ld_sub (l := l) a l.length
  rwa [List.take_of_length_le (by simp)] at this

/-- the polynomial of a list -/
def iplN (l : List Int) : Nat := (max (ld l + 1) 1).toNat
def ip (l : List Int) : List Int := fd (l.take (iplN l))
theorem ipN_bd (l : List Int) : 1 ≤ iplN l ∧ iplN l ≤ 8 := by have := ld_bd l; unfold iplN; omega
/-- a list's rows are zeros from its end on, so its least degree is less than its length -/
theorem ld_lt {l : List Int} (h : l.length ≤ 7) : ld l < l.length := by
  have h1 : ld l ≤ (l.length : Int) - 1 := by
    rw [ld_le (by omega) (by omega)]
    have : nxtN ((l.length : Int) - 1 + 1).toNat l = [] := List.eq_nil_of_length_eq_zero (by rw [nxtN_len]; omega)
    rw [this]; rfl
  omega
theorem ipN_le {l : List Int} (h : 1 ≤ l.length) (h6 : ld l ≤ 6) : iplN l ≤ l.length := by
  by_cases h7 : l.length ≤ 7
  · have := ld_lt h7; unfold iplN; omega
  · unfold iplN; omega
theorem ip_len {l : List Int} (h : 1 ≤ l.length) (h6 : ld l ≤ 6) : (ip l).length = iplN l := by
  unfold ip; rw [fd_len, List.length_take, Nat.min_eq_left (ipN_le h h6)]
theorem ip_eval {l : List Int} (h : 1 ≤ l.length) (h6 : ld l ≤ 6) {n : Nat} (hn : n < l.length) : evalP (ip l) n = l.getD n 0 := by
  have hle := ipN_le h h6
  have hz : allZ (nxtN (iplN l) l) = true := by
    have hb := ld_bd l
    have h1 := (ld_le (l := l) hb.1 h6).1 (Int.le_refl _)
    by_cases hm : ld l = -1
    · rw [hm] at h1
      exact allZ_nxtN _ h1
    · have : iplN l = (ld l + 1).toNat := by unfold iplN; omega
      rw [this]; exact h1
  rw [← newton n l hn]
  have e : fd l = ip l ++ fd (nxtN (iplN l) l) := by
    rw [← fd_drop, ip, fd_take _ _ hle, List.take_append_drop]
  rw [e]
  unfold evalP
  rw [ev_append, ev_zeros _ _ _ (allZ_iff.1 (allZ_fd hz))]
  omega
theorem ip_vals {l : List Int} (h : 1 ≤ l.length) (h6 : ld l ≤ 6) : vals (ip l) l.length = l := by
  apply ext_getD
  · rw [vals_len]
  · intro i hi
    rw [vals_len] at hi
    rw [vals_getD _ _ _ hi, ip_eval h h6 hi]
/-- bounds of the differences -/
theorem nxtN_bd (M : Int) (hM : 0 ≤ M) : ∀ (n : Nat) (l : List Int), (∀ i, -M ≤ l.getD i 0 ∧ l.getD i 0 ≤ M) → ∀ i, -(M * 2 ^ n) ≤ (nxtN n l).getD i 0 ∧ (nxtN n l).getD i 0 ≤ M * 2 ^ n
  | 0, l, h, i => by simpa [nxtN] using h i
  | n + 1, l, h, i => by
    have h1 := nxtN_bd M hM n l h
    rw [nxtN_succ]
    have e : M * 2 ^ (n + 1) = M * 2 ^ n + M * 2 ^ n := by rw [Int.pow_succ, ← Int.mul_assoc]; omega
    by_cases hi : i + 1 < (nxtN n l).length
    · rw [nxt_getD _ _ hi]
      have a := h1 i; have b := h1 (i + 1)
      omega
    · have : (nxt (nxtN n l)).getD i 0 = 0 := by simp [List.getD, nxt_len, show (nxtN n l).length - 1 ≤ i by omega]
      rw [this]
      have a := h1 i
      omega
theorem ip_small {l : List Int} (h : 1 ≤ l.length) (h6 : ld l ≤ 6) (hs : ∀ x ∈ l, -1500 ≤ x ∧ x ≤ 1500) : ∀ x ∈ ip l, -100000 ≤ x ∧ x ≤ 100000 := by
  have hg : ∀ i, -1500 ≤ l.getD i 0 ∧ l.getD i 0 ≤ 1500 := fun i => by
    by_cases hi : i < l.length
    · exact hs _ (by simp [List.getD, hi])
    · simp [List.getD, Nat.le_of_not_lt hi]
  intro x hx
  have hle := ipN_le h h6
  have hi7 : iplN l ≤ 7 := by unfold iplN; omega
  unfold ip at hx
  rw [fd_take _ _ hle] at hx
  obtain ⟨k, hk, rfl⟩ := List.getElem_of_mem hx
  rw [List.length_take, fd_len] at hk
  rw [List.getElem_take]
  have e : (fd l)[k]'(by rw [fd_len]; omega) = (fd l).getD k 0 := by simp [List.getD, fd_len, show k < l.length by omega]
  rw [e, fd_getD _ _ (by omega)]
  have := nxtN_bd 1500 (by decide) k l hg 0
  have h2 : (2 : Int) ^ k ≤ 2 ^ 6 := pow_mono_right (by omega) (by omega)
  have h3 : (2 : Int) ^ 6 = 64 := by decide
  omega
/-- the values of a polynomial have its columns -/
theorem fd_vals (p : List Int) (f c : Nat) (k : Nat) (h : k < c) : (fd (valsF p f c)).getD k 0 = evalP (p.drop k) f := by
  rw [fd_getD _ _ (by rw [valsF_len]; exact h), nxtN_vals, valsF_getD _ _ _ _ (by omega)]; rfl
theorem evalP_drop0 (p : List Int) (k : Nat) : evalP (p.drop k) 0 = p.getD k 0 := by
  by_cases h : k < p.length
  · rw [List.drop_eq_getElem_cons h, evalP_zero]; simp [List.getD, h]
  · rw [List.drop_eq_nil_of_le (by omega)]; simp [List.getD, Nat.le_of_not_lt h, evalP_nil]
theorem ld_vals {p : List Int} {f c : Nat} (hp : p.length ≤ 7) : ld (valsF p f c) ≤ (p.length : Int) - 1 := by
  rw [ld_le (by omega) (by omega), nxtN_vals, allZ_iff]
  intro x hx
  rw [List.drop_eq_nil_of_le (by omega)] at hx
  unfold valsF at hx
  obtain ⟨i, _, rfl⟩ := List.mem_map.1 hx
  rfl
theorem ip_of_vals {p : List Int} {c : Nat} (hc : 1 ≤ c) (hp1 : p.length ≤ 7) (h : ∀ x ∈ p, -100000 ≤ x ∧ x ≤ 100000) : ∀ x ∈ ip (vals p c), -100000 ≤ x ∧ x ≤ 100000 := by
  have h6 : ld (vals p c) ≤ 6 := by have := ld_vals (f := 0) (c := c) hp1; unfold vals; omega
  have hle := ipN_le (l := vals p c) (by rw [vals_len]; exact hc) h6
  intro x hx
  unfold ip at hx
  rw [fd_take _ _ hle] at hx
  obtain ⟨k, hk, rfl⟩ := List.getElem_of_mem hx
  rw [List.length_take, fd_len, vals_len] at hk
  rw [List.getElem_take]
  have e : (fd (vals p c))[k]'(by rw [fd_len, vals_len]; omega) = (fd (vals p c)).getD k 0 := by simp [List.getD, fd_len, vals_len, show k < c by omega]
  rw [e]
  unfold vals
  rw [fd_vals _ _ _ _ (by omega), evalP_drop0]
  by_cases hkp : k < p.length
  · exact h _ (by simp [List.getD, hkp])
  · simp [List.getD, Nat.le_of_not_lt hkp]
/-- the polynomial at another argument -/
def shf (p : List Int) (n : Nat) : List Int := (List.range p.length).map fun k => evalP (p.drop k) n
theorem shf_len (p : List Int) (n : Nat) : (shf p n).length = p.length := by simp [shf]
theorem shf_getD (p : List Int) (n k : Nat) (h : k < p.length) : (shf p n).getD k 0 = evalP (p.drop k) n := by simp [shf, List.getD, h]
theorem shf_fd (p : List Int) (n : Nat) : fd (valsF p n p.length) = shf p n := by
  apply ext_getD
  · rw [fd_len, valsF_len, shf_len]
  · intro k hk
    rw [fd_len, valsF_len] at hk
    rw [fd_vals _ _ _ _ hk, shf_getD _ _ _ hk]
theorem shf_cons (c : Int) (p : List Int) (n : Nat) : shf (c :: p) n = evalP (c :: p) n :: shf p n := by
  unfold shf
  rw [List.length_cons, List.range_succ_eq_map, List.map_cons, List.map_map]
  rfl
theorem shf_eval : ∀ (m : Nat) (p : List Int) (n : Nat), evalP (shf p n) m = evalP p (n + m)
  | 0, [], n => rfl
  | 0, c :: p, n => by rw [shf_cons, evalP_zero]; rfl
  | m + 1, [], n => rfl
  | m + 1, c :: p, n => by
    have h1 := shf_eval m (c :: p) n
    have h2 := shf_eval m p n
    rw [shf_cons] at h1 ⊢
    rw [evalP_succ, h1, h2, ← Nat.add_assoc, evalP_succ]
theorem shf_vals (p : List Int) (n c : Nat) : vals (shf p n) c = valsF p n c := by
  apply ext_getD
  · rw [vals_len, valsF_len]
  · intro i hi
    rw [vals_len] at hi
    rw [vals_getD _ _ _ hi, shf_eval, valsF_getD _ _ _ _ hi]
end Go.Proofs.YtdfnclnjnmdboaaGreatDoor
