/- Lemmas and contracts for ParsePlanX (Poly3 Poly4 Poly5 Poly6): plain words on memory, contracts of the functions that the law reaches. No condition but what each states. -/
import Derived.Test.YtdfnclnjnmdboaaDoorPoly2
import Derived.Test.YtdfnclnjnmdboaaDoorApp2
namespace Go.Proofs.YtdfnclnjnmdboaaDoor
set_option linter.unusedVariables false
open Go.RowKit

theorem allIn_zero (xs : List Int) : allIn xs 0 = allZ xs := by
  unfold allIn allZ
  congr 1
  funext n
  rw [Bool.eq_iff_iff, inB_iff, beq_iff_eq]
  omega
theorem allZ_take_succ (xs : List Int) (k : Nat) (hk : k < xs.length) : allZ (xs.take (k + 1)) = (allZ (xs.take k) && (xs.getD k 0 == 0)) := by
  rw [← allIn_zero, ← allIn_zero, allIn_take xs 0 k hk]
  congr 1
  rw [Bool.eq_iff_iff, inB_iff, beq_iff_eq]
  omega
/-- a slice lies apart from a row that may grow -/
def AptV (r row : Value) : Prop := ∀ a n c, row = .slice (some a) n c → r.ownBlock ≠ some a.block
theorem RdL_grownO {w w' : World} {r v : Value} {xs : List Value} (h : RdL w v xs) (hg : w.grownBy w' r.ownBlock) (hne : AptV r v) : RdL w' v xs := by
  obtain ⟨a, cap, rfl, h⟩ := h
  refine ⟨a, cap, rfl, ?_⟩
  rcases h with h | ⟨b, off, rfl, hlt, h⟩
  · exact .inl h
  · refine .inr ⟨b, off, rfl, by have := hg.size; omega, fun i hi => ?_⟩
    have hb : w'.heap[b]? = w.heap[b]? := hg.block b hlt (fun e => hne _ _ _ rfl e.symm)
    rw [World.cell?_of_block (w := w) (a := ⟨b, off + i, none⟩) hb]
    exact h i hi
theorem AptV_new {w w' : World} {b0 e1 e2 n m : Nat} {r u : Value} {x1 x2 : List Value} (h : w.ownsRow b0 e1 1 r n x1) (hu : w'.ownsRow w.heap.size e2 1 u m x2) : AptV r u := by
  intro a n' c e hr
  have h1 := (h.lt _ hr).2
  have h2 : u.ownBlock = some a.block := by rw [e]; rfl
  have h3 := (hu.lt _ h2).1
  omega
theorem AptV_old {w w' : World} {e1 n : Nat} {r v : Value} {x1 xs : List Value} (h : w'.ownsRow w.heap.size e1 1 r n x1) (hv : ∀ a m c, v = .slice (some a) m c → a.block < w.heap.size) : AptV r v := by
  intro a m c e hr
  have h1 := (h.lt _ hr).1
  have h2 := hv a m c e
  omega
def AltV (w : World) (v : Value) : Prop := ∀ a m c, v = .slice (some a) m c → a.block < w.heap.size
def lenOf : Value → Nat
  | .slice _ n _ => n
  | _ => 0
theorem fd_take_succ (xs : List Int) (k : Nat) (h : k < xs.length) : (fd xs).take (k + 1) = (fd xs).take k ++ [(nxtN k xs).getD 0 0] := by
  rw [take_snoc_getD _ _ (by rw [fd_len]; exact h), fd_getD _ _ h]

end Go.Proofs.YtdfnclnjnmdboaaDoor

namespace Go.Proofs.YtdfnclnjnmdboaaDoor
set_option linter.unusedVariables false
open Go.RowKit

set_option maxRecDepth 20000 in
theorem c_checked_t (v : Value) (p : List Int) (w : World) (ha : RdI w v p) (hp : polyB p = true) :
    Calls Tryd.prog 58 #[v] w fun e w' => e = .returned (.tuple #[v, .bool true]) ∧ Below w.heap.size w w' := by
  have hl := (polyB_iff hp).2.1
  go_enter Tryd.func58, Tryd.ntmps58
  go_wp2_with fail
  refine (c_impl_PolyValid v p _ ha (by omega)).mono ?_
  rw [hp]
  rintro e w1 ⟨rfl, hB⟩
  go_wp2
  go_ret2
  exact ⟨rfl, hB⟩
set_option maxRecDepth 20000 in
theorem c_checked_f (v : Value) (p : List Int) (w : World) (ha : RdI w v p) (hx : p.length ≤ 1099511627776) (hp : polyB p = false) :
    Calls Tryd.prog 58 #[v] w fun e w' => e = .returned (.tuple #[.slice none 0 0, .bool false]) ∧ Below w.heap.size w w' := by
  go_enter Tryd.func58, Tryd.ntmps58
  go_wp2_with fail
  refine (c_impl_PolyValid v p _ ha hx).mono ?_
  rw [hp]
  rintro e w1 ⟨rfl, hB⟩
  go_wp2
  go_ret2
  exact ⟨rfl, hB⟩
/-- first differences that are a polynomial, or nothing -/
def resL (p : List Int) : List Int := if polyB p = true then p else []
/-- the least degree, -2 if the numbers are no table -/
def ldF (xs : List Int) : Int := if tabB xs = true then ld xs else -2
theorem tabB_bd {xs : List Int} (h : tabB xs = true) : ∀ k, k ≤ 7 → bdI (nxtN k xs) := by
  intro k hk i
  obtain ⟨_, _, h3⟩ := tabB_iff h
  have hg : ∀ i, -1000000000 ≤ xs.getD i 0 ∧ xs.getD i 0 ≤ 1000000000 := fun i => by
    by_cases hi : i < xs.length
    · exact allIn_get h3 hi
    · simp [List.getD, Nat.le_of_not_lt hi]
  have h1 := nxtN_bd 1000000000 (by decide) k xs hg i
  have h2 : (2 : Int) ^ k ≤ 2 ^ 7 := pow_mono_right (by omega) hk
  have h3 : (2 : Int) ^ 7 = 128 := by decide
  omega
theorem ldN_z {f : Nat} {k : Int} {l : List Int} (h : allZ l = true) : ldN (f + 1) k l = k := if_pos h
theorem ldN_n {f : Nat} {k : Int} {l : List Int} (h : allZ l = false) : ldN (f + 1) k l = ldN f (k + 1) (nxt l) := if_neg (by rw [h]; decide)

/-- the polynomial with a table -/
def intB (xs : List Int) : Bool := tabB xs && decide (ld xs ≤ 6) && polyB (ip xs)
def intL (xs : List Int) : List Int := if intB xs = true then ip xs else []
theorem ipN_max {xs : List Int} : max (ld xs) 0 = ((iplN xs - 1 : Nat) : Int) := by have := ld_bd xs; unfold iplN; omega
theorem ipN_max1 {xs : List Int} : max (ld xs + 1) 1 = ((iplN xs : Nat) : Int) := by have := ld_bd xs; unfold iplN; omega
theorem take_bd {xs : List Int} (h : tabB xs = true) (m : Nat) (hm : m ≤ 7) : ∀ k, bdI (nxtN k (xs.take m)) := by
  intro k i
  by_cases hk : k ≤ 7
  · rw [nxtN_take]
    by_cases hi : i < m - k
    · rw [getD_take _ _ _ hi]; exact tabB_bd h k hk i
    · have : ((nxtN k xs).take (m - k)).getD i 0 = 0 := by simp [List.getD, List.getElem?_take, hi]
      rw [this]; simp
  · have : nxtN k (xs.take m) = [] := List.eq_nil_of_length_eq_zero (by rw [nxtN_len, List.length_take]; omega)
    rw [this]; simp
theorem RdI_take {w : World} {a : Option Addr} {n cap k : Nat} {xs : List Int} (h : RdI w (.slice a n cap) xs) (hk : k ≤ xs.length) : RdI w (.slice a k cap) (xs.take k) := by
  have hn : n = xs.length := by
    obtain ⟨a2, c2, e, _⟩ := h
    simp only [Value.slice.injEq, List.length_map] at e
    exact e.2.1
  subst hn
  obtain ⟨a2, c2, e, h⟩ := h
  simp only [Value.slice.injEq, List.length_map, true_and] at e
  obtain ⟨rfl, rfl⟩ := e
  refine ⟨a, cap, by simp [Nat.min_eq_left hk], ?_⟩
  rcases h with h | ⟨b, off, rfl, hlt, h⟩
  · exact .inl (by rw [List.map_eq_nil_iff] at h ⊢; rw [h]; simp)
  · refine .inr ⟨b, off, rfl, hlt, fun i hi => ?_⟩
    have hi' : i < k ∧ i < xs.length := by simp at hi; omega
    rw [h i (by simpa using hi'.2)]
    simp [hi'.1]

end Go.Proofs.YtdfnclnjnmdboaaDoor

namespace Go.Proofs.YtdfnclnjnmdboaaDoor
set_option linter.unusedVariables false
open Go.RowKit

theorem intB_no {xs : List Int} (h : ¬ (tabB xs = true ∧ ld xs ≤ 6)) : intB xs = false ∧ intL xs = [] := by
  have h : intB xs = false := by
    cases e : intB xs
    · rfl
    · unfold intB at e
      simp only [Bool.and_eq_true, decide_eq_true_eq] at e
      exact absurd e.1 h
  exact ⟨h, if_neg (by rw [h]; decide)⟩
/-- a run of a degree -/
def runB (xs : List Int) (d : Int) : Bool := tabB xs && decide (ld xs ≤ d) && intB xs
def runL (xs : List Int) (d : Int) : List Int := if runB xs d = true then ip xs else []
theorem runB_int {xs : List Int} {d : Int} (h : ldF xs ≤ d) : runB xs d = intB xs ∧ runL xs d = intL xs := by
  have e : runB xs d = intB xs := by
    unfold runB
    by_cases hv : tabB xs = true
    · unfold ldF at h
      rw [if_pos hv] at h
      rw [hv, decide_eq_true h]; rfl
    · have : intB xs = false := by unfold intB; simp [hv]
      rw [this, Bool.and_false]
  exact ⟨e, by unfold runL intL; rw [e]⟩
theorem runB_no {xs : List Int} {d : Int} (h : ldF xs = -2 ∨ d < ldF xs) : runB xs d = false ∧ runL xs d = [] := by
  have e : runB xs d = false := by
    unfold runB
    by_cases hv : tabB xs = true
    · unfold ldF at h
      rw [if_pos hv] at h
      have := ld_bd xs
      rw [decide_eq_false (by omega)]; simp
    · simp [hv]
  exact ⟨e, by unfold runL; rw [e]; rfl⟩

end Go.Proofs.YtdfnclnjnmdboaaDoor

namespace Go.Proofs.YtdfnclnjnmdboaaDoor
set_option linter.unusedVariables false
open Go.RowKit

theorem hidd {p : Prop} (h : p) : Hid p := h
theorem sizeInt (w : World) : (sizeOf (Tryd.prog.elem 34)).run Tryd.prog w = .ok 1 w := by kernel_rfl
theorem addr_mul (a : Addr) (k : Nat) : a.add (k * 1) = a.add k := by rw [Nat.mul_one]
theorem RdL_sub {w : World} {a : Option Addr} {n cap l h : Nat} {xs : List Value} (hr : RdL w (.slice a n cap) xs) (hl : l ≤ h) (hh : h ≤ n) (hc : n ≤ cap) :
    RdL w (sliced a l h cap 1) ((xs.take h).drop l) := by
  obtain ⟨a2, c2, e, hr⟩ := hr
  simp only [Value.slice.injEq] at e
  obtain ⟨rfl, rfl, rfl⟩ := e
  refine ⟨if cap = l then a else a.map (·.add (l * 1)), cap - l, ?_, ?_⟩
  · unfold sliced; simp; omega
  · by_cases hlh : l = h
    · left; subst hlh; simp
    · right
      rcases hr with hr | ⟨b, off, rfl, hlt, hr⟩
      · rw [hr] at hh; simp at hh; omega
      · refine ⟨b, off + l, ?_, hlt, fun i hi => ?_⟩
        · rw [if_neg (by omega), Option.map_some, addr_mul, addr_add]
        · simp at hi
          rw [Nat.add_assoc, hr (l + i) (by omega)]
          simp [show l + i < h by omega]
theorem RdI_sub {w : World} {a : Option Addr} {n cap l h : Nat} {xs : List Int} (hr : RdI w (.slice a n cap) xs) (hl : l ≤ h) (hh : h ≤ xs.length) (hc : xs.length ≤ cap) :
    RdI w (sliced a l h cap 1) ((xs.take h).drop l) := by
  have hn : n = xs.length := by
    obtain ⟨a2, c2, e, _⟩ := hr
    simp only [Value.slice.injEq, List.length_map] at e
    exact e.2.1
  subst hn
  unfold RdI
  rw [List.map_drop, List.map_take]
  exact RdL_sub hr hl hh hc
set_option maxRecDepth 20000 in
/-- s[k:], under a name -/
theorem sl_from (a : Option Addr) (n cap k : Nat) (hk : k ≤ n) (hc : n ≤ cap) : ∃ A, (∀ W, (Instr.slice 34 (.slice a n cap) (some (.int .i64 (k : Int))) none none).run Tryd.prog W = .ok (.slice A (n - k) (cap - k)) W) ∧
    (∀ W xs, xs.length = n → RdI W (.slice a n cap) xs → RdI W (.slice A (n - k) (cap - k)) (xs.drop k)) := by
  refine ⟨if cap = k then a else a.map (·.add (k * 1)), fun W => ?_, ?_⟩
  · rw [run_slice_l W 34 a n cap Tryd.underlying34 .i64 (k : Int) (by omega) (by omega), sizeInt]
    rfl
  · rintro W xs rfl h
    have := RdI_sub h hk (Nat.le_refl _) hc
    rwa [List.take_length] at this
set_option maxRecDepth 20000 in
theorem sl_lh (a : Option Addr) (n cap l h : Nat) (hl : l ≤ h) (hh : h ≤ n) (hc : n ≤ cap) : ∃ A, (∀ W, (Instr.slice 34 (.slice a n cap) (some (.int .i64 (l : Int))) (some (.int .i64 (h : Int))) none).run Tryd.prog W = .ok (.slice A (h - l) (cap - l)) W) ∧
    (∀ W xs, xs.length = n → RdI W (.slice a n cap) xs → RdI W (.slice A (h - l) (cap - l)) ((xs.take h).drop l)) := by
  refine ⟨if cap = l then a else a.map (·.add (l * 1)), fun W => ?_, ?_⟩
  · rw [run_slice_lh W 34 a n cap Tryd.underlying34 .i64 .i64 (l : Int) (h : Int) (by omega) (by omega) (by omega), sizeInt]
    rfl
  · rintro W xs rfl h
    exact RdI_sub h hl hh hc
theorem CapOk_of {a : Option Addr} {n c : Nat} (h : n ≤ c) : CapOk (.slice a n c) := fun _ _ _ e => by cases e; exact h
theorem owns_CapOk {w : World} {base e n : Nat} {v : Value} {xs : List Value} (h : w.ownsRow base e 1 v n xs) : CapOk v := by
  rcases h.2 with ⟨rfl, _⟩ | ⟨g, cap, cur, rfl, _, _, h3, _⟩
  · exact CapOk_of (Nat.le_refl _)
  · exact CapOk_of h3

/-- the polynomial at another argument, if it is one -/
def shB (p : List Int) (n : Nat) : Bool := polyB p && polyB (shf p n)
def shfL (p : List Int) (n : Nat) : List Int := if shB p n = true then shf p n else []
theorem shf_fill (p : List Int) (n : Nat) : (List.range p.length).map (fun k => (.int .i64 (evalP (p.drop k) n))) = (shf p n).map (Value.int .i64) := by
  unfold shf; rw [List.map_map]; rfl
theorem shf_res (p : List Int) (n : Nat) (hv : polyB p = true) : shB p n = polyB (shf p n) ∧ shfL p n = resL (shf p n) := by
  have h : shB p n = polyB (shf p n) := by unfold shB; rw [hv]; rfl
  exact ⟨h, by unfold shfL resL; rw [h]⟩
theorem vals_bd {p : List Int} (h : evalOk p) (f c : Nat) (hn : f + c ≤ 101) : ∀ k, bdI (nxtN k (valsF p f c)) := by
  intro k i
  rw [nxtN_vals]
  by_cases hi : i < c - k
  · rw [valsF_getD _ _ _ _ hi]
    have := (h.drop k).bd (n := f + i) (by omega)
    omega
  · have : (valsF (p.drop k) f (c - k)).getD i 0 = 0 := by simp [List.getD, valsF_len, Nat.le_of_not_lt hi]
    rw [this]; simp
/-- the values from 0 on, of a valid polynomial -/
theorem vals_fill (p : List Int) (c : Nat) : (List.range c).map (fun k => (.int .i64 (evalP p k))) = (vals p c).map (Value.int .i64) := by
  unfold vals valsF; rw [List.map_map]; congr 1; funext i; simp
set_option maxRecDepth 20000 in
theorem c_ValuesOf (v : Value) (p : List Int) (c : Nat) (w : World) (ha : RdI w v p) (hp : polyB p = true) (hc : c ≤ 60) :
    Calls Tryd.prog 60 #[v, (.int .i64 (0)), (.int .i64 ((c : Int)))] w (FreshIB w (vals p c) true) := by
  have hok := polyB_ok hp
  have hp7 := hok.1
  have hpv := c_impl_PolyValid v p w ha (by omega)
  rw [hp] at hpv
  have hw : inB 0 (-200) 200 = true := by decide
  have hvl := vals_len p c
  clear hp
  go_enter Tryd.func60, Tryd.ntmps60
  go_wp2_with fail
  refine hpv.mono ?_
  rintro e w1 ⟨rfl, hB1⟩
  have ha1 := ha.kept hB1
  clear hpv ha
  go_wp2_with (first | (go_at_call 75; refine (c_within _ _ _ (by omega) (by omega)).mono ?_; rw [hw]; rintro e w' ⟨rfl, rfl⟩) | (at_make; refine mkfull 34 3 Tryd.underlying34 infoInt rfl (by decide) rfl _ _ rfl c rfl rfl rfl rfl (by omega) ?_; intro w2 ho2 hB2 hz2))
  clear hw
  go_loopw [35] (fun i wr => ∃ k : Nat, k ≤ c ∧ i = .int .i64 k ∧ wr.ownsRow w1.heap.size 3 1 (.slice (some ⟨w1.heap.size, 0, none⟩) c c) c (fill (fun i => (.int .i64 (evalP p i))) (.int .i64 (0)) k c) ∧ Below w1.heap.size w1 wr) (fun i _ => c - (intOf i).toNat)
  case atStart => exact ⟨0, by omega, rfl, by rw [fill_zero]; exact ho2, hB2⟩
  case round =>
    obtain ⟨k, hk, rfl, ho, hB⟩ := hrel
    clear ho2 hB2 hz2
    by_cases hlt : k < c
    · obtain ⟨⟨x, e2⟩, e3, ho3⟩ := fill_step ho hlt
      have HO : Hid (_ ∧ _) := ⟨ho3, hB.setCell (p := ⟨w1.heap.size, k, none⟩) (Nat.le_refl _) (.int .i64 (evalP p k))⟩
      have HC := hidd (c_valueAt v p k wr (ha1.kept hB) hok (by omega))
      have i1 : (0 : Int) ≤ (k : Int) := by omega
      clear ho3 ho hB
      go_wp2_with fail
      refine HC.out.mono ?_
      rintro e w' ⟨rfl, hw'⟩
      subst hw'
      go_wp2
      go_roundw
      case rel => exact ⟨k + 1, by omega, by go_num, HO.out.1, HO.out.2⟩
      case measure => simp [intOf]; omega
    · have HF : Hid (FreshIB w (vals p c) true (.returned (.tuple #[.slice (some ⟨w1.heap.size, 0, none⟩) c c, .bool true])) wr) := by
        have : k = c := by omega
        subst this
        rw [fill_end, vals_fill] at ho
        refine ⟨_, rfl, ?_, bthen hB1 hB⟩
        unfold OwnI
        rw [hvl]
        exact ownsRow_mono ho hB1.size
      clear ho hB ha1 hB1
      go_wp2
      go_ret2
      exact HF.out
set_option maxRecDepth 20000 in
theorem c_ValuesOf_no (v : Value) (p : List Int) (c : Int) (w : World) (ha : RdI w v p) (hx : p.length ≤ 1099511627776) (hp : polyB p = false) :
    Calls Tryd.prog 60 #[v, (.int .i64 (0)), (.int .i64 (c))] w (FreshIB w [] false) := by
  have hpv := c_impl_PolyValid v p w ha hx
  rw [hp] at hpv
  clear hp ha hx
  go_enter Tryd.func60, Tryd.ntmps60
  go_wp2_with fail
  refine hpv.mono ?_
  rintro e w1 ⟨rfl, hB1⟩
  have HF : Hid (FreshIB w [] false (.returned (.tuple #[.slice none 0 0, .bool false])) w1) := ⟨_, rfl, World.ownsRow_nil _ _ _ _, hB1⟩
  clear hpv hB1
  go_wp2
  go_ret2
  exact HF.out
end Go.Proofs.YtdfnclnjnmdboaaDoor
