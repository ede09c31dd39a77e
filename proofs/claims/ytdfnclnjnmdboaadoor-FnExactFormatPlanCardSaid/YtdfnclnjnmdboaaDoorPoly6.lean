/- Contracts: polynomials at another argument, values, degrees; program and reference; slices of slices of ints. -/
import Derived.Test.YtdfnclnjnmdboaaDoorPoly5
namespace Go.Proofs.YtdfnclnjnmdboaaDoor
set_option linter.unusedVariables false
open Go.RowKit

theorem hidd {p : Prop} (h : p) : Hid p := h
theorem sizeInt (w : World) : (sizeOf (Tryd.prog.elem 34)).run Tryd.prog w = .ok 1 w := by kernel_rfl
theorem addr_mul (a : Addr) (k : Nat) : a.add (k * 1) = a.add k := by rw [Nat.mul_one]
theorem RdL_sub {w : World} {a : Option Addr} {n cap l h : Nat} {xs : List Value} (hr : RdL w (.slice a n cap) xs) (hl : l ≤ h) (hh : h ≤ n) (hc : n ≤ cap) :
    RdL w (sliced a l h cap 1) ((xs.take h).drop l) := by
  obtain ⟨a2, c2, e, hr⟩ := hr
  simp only [Value.slice.injEq] at e
  obtain ⟨rfl, rfl, rfl⟩ := e
  refine ⟨if cap = l then a else a.map (·.add (l * 1)), cap - l, ?_, ?_⟩
  · unfold sliced; simp; omega
  · by_cases hlh : l = h
    · left; subst hlh; simp
    · right
      rcases hr with hr | ⟨b, off, rfl, hlt, hr⟩
      · rw [hr] at hh; simp at hh; omega
      · refine ⟨b, off + l, ?_, hlt, fun i hi => ?_⟩
        · rw [if_neg (by omega), Option.map_some, addr_mul, addr_add]
        · simp at hi
          rw [Nat.add_assoc, hr (l + i) (by omega)]
          simp [show l + i < h by omega]
theorem RdI_sub {w : World} {a : Option Addr} {n cap l h : Nat} {xs : List Int} (hr : RdI w (.slice a n cap) xs) (hl : l ≤ h) (hh : h ≤ xs.length) (hc : xs.length ≤ cap) :
    RdI w (sliced a l h cap 1) ((xs.take h).drop l) := by
  have hn : n = xs.length := by
    obtain ⟨a2, c2, e, _⟩ := hr
    simp only [Value.slice.injEq, List.length_map] at e
    exact e.2.1
  subst hn
  unfold RdI
  rw [List.map_drop, List.map_take]
  exact RdL_sub hr hl hh hc
set_option maxRecDepth 20000 in
/-- s[k:], under a name -/
theorem sl_from (a : Option Addr) (n cap k : Nat) (hk : k ≤ n) (hc : n ≤ cap) : ∃ A, (∀ W, (Instr.slice 34 (.slice a n cap) (some (.int .i64 (k : Int))) none none).run Tryd.prog W = .ok (.slice A (n - k) (cap - k)) W) ∧
    (∀ W xs, xs.length = n → RdI W (.slice a n cap) xs → RdI W (.slice A (n - k) (cap - k)) (xs.drop k)) := by
  refine ⟨if cap = k then a else a.map (·.add (k * 1)), fun W => ?_, ?_⟩
  · rw [run_slice_l W 34 a n cap Tryd.underlying34 .i64 (k : Int) (by omega) (by omega), sizeInt]
    rfl
  · rintro W xs rfl h
    have := RdI_sub h hk (Nat.le_refl _) hc
    rwa [List.take_length] at this
set_option maxRecDepth 20000 in
theorem sl_lh (a : Option Addr) (n cap l h : Nat) (hl : l ≤ h) (hh : h ≤ n) (hc : n ≤ cap) : ∃ A, (∀ W, (Instr.slice 34 (.slice a n cap) (some (.int .i64 (l : Int))) (some (.int .i64 (h : Int))) none).run Tryd.prog W = .ok (.slice A (h - l) (cap - l)) W) ∧
    (∀ W xs, xs.length = n → RdI W (.slice a n cap) xs → RdI W (.slice A (h - l) (cap - l)) ((xs.take h).drop l)) := by
  refine ⟨if cap = l then a else a.map (·.add (l * 1)), fun W => ?_, ?_⟩
  · rw [run_slice_lh W 34 a n cap Tryd.underlying34 .i64 .i64 (l : Int) (h : Int) (by omega) (by omega) (by omega), sizeInt]
    rfl
  · rintro W xs rfl h
    exact RdI_sub h hl hh hc
theorem CapOk_of {a : Option Addr} {n c : Nat} (h : n ≤ c) : CapOk (.slice a n c) := fun _ _ _ e => by cases e; exact h
theorem owns_CapOk {w : World} {base e n : Nat} {v : Value} {xs : List Value} (h : w.ownsRow base e 1 v n xs) : CapOk v := by
  rcases h.2 with ⟨rfl, _⟩ | ⟨g, cap, cur, rfl, _, _, h3, _⟩
  · exact CapOk_of (Nat.le_refl _)
  · exact CapOk_of h3

/-- the polynomial at another argument, if it is one -/
def shB (p : List Int) (n : Nat) : Bool := polyB p && polyB (shf p n)
def shfL (p : List Int) (n : Nat) : List Int := if shB p n = true then shf p n else []
theorem shf_fill (p : List Int) (n : Nat) : (List.range p.length).map (fun k => (.int .i64 (evalP (p.drop k) n))) = (shf p n).map (Value.int .i64) := by
  unfold shf; rw [List.map_map]; rfl
theorem shf_res (p : List Int) (n : Nat) (hv : polyB p = true) : shB p n = polyB (shf p n) ∧ shfL p n = resL (shf p n) := by
  have h : shB p n = polyB (shf p n) := by unfold shB; rw [hv]; rfl
  exact ⟨h, by unfold shfL resL; rw [h]⟩
theorem vals_bd {p : List Int} (h : evalOk p) (f c : Nat) (hn : f + c ≤ 101) : ∀ k, bdI (nxtN k (valsF p f c)) := by
  intro k i
  rw [nxtN_vals]
  by_cases hi : i < c - k
  · rw [valsF_getD _ _ _ _ hi]
    have := (h.drop k).bd (n := f + i) (by omega)
    omega
  · have : (valsF (p.drop k) f (c - k)).getD i 0 = 0 := by simp [List.getD, valsF_len, Nat.le_of_not_lt hi]
    rw [this]; simp
/-- the values from 0 on, of a valid polynomial -/
theorem vals_fill (p : List Int) (c : Nat) : (List.range c).map (fun k => (.int .i64 (evalP p k))) = (vals p c).map (Value.int .i64) := by
  unfold vals valsF; rw [List.map_map]; congr 1; funext i; simp
set_option maxRecDepth 20000 in
theorem c_ValuesOf (v : Value) (p : List Int) (c : Nat) (w : World) (ha : RdI w v p) (hp : polyB p = true) (hc : c ≤ 60) :
    Calls Tryd.prog 60 #[v, (.int .i64 (0)), (.int .i64 ((c : Int)))] w (FreshIB w (vals p c) true) := by
  have hok := polyB_ok hp
  have hp7 := hok.1
  have hpv := c_impl_PolyValid v p w ha (by omega)
  rw [hp] at hpv
  have hw : inB 0 (-200) 200 = true := by decide
  have hvl := vals_len p c
  clear hp
  go_enter Tryd.func60, Tryd.ntmps60
  go_wp2_with fail
  refine hpv.mono ?_
  rintro e w1 ⟨rfl, hB1⟩
  have ha1 := ha.kept hB1
  clear hpv ha
  go_wp2_with (first | (go_at_call 75; refine (c_within _ _ _ (by omega) (by omega)).mono ?_; rw [hw]; rintro e w' ⟨rfl, rfl⟩) | (at_make; refine mkfull 34 3 Tryd.underlying34 infoInt rfl (by decide) rfl _ _ rfl c rfl rfl rfl rfl (by omega) ?_; intro w2 ho2 hB2 hz2))
  clear hw
  go_loopw [35] (fun i wr => ∃ k : Nat, k ≤ c ∧ i = .int .i64 k ∧ wr.ownsRow w1.heap.size 3 1 (.slice (some ⟨w1.heap.size, 0, none⟩) c c) c (fill (fun i => (.int .i64 (evalP p i))) (.int .i64 (0)) k c) ∧ Below w1.heap.size w1 wr) (fun i _ => c - (intOf i).toNat)
  case atStart => exact ⟨0, by omega, rfl, by rw [fill_zero]; exact ho2, hB2⟩
  case round =>
    obtain ⟨k, hk, rfl, ho, hB⟩ := hrel
    clear ho2 hB2 hz2
    by_cases hlt : k < c
    · obtain ⟨⟨x, e2⟩, e3, ho3⟩ := fill_step ho hlt
      have HO : Hid (_ ∧ _) := ⟨ho3, hB.setCell (p := ⟨w1.heap.size, k, none⟩) (Nat.le_refl _) (.int .i64 (evalP p k))⟩
      have HC := hidd (c_valueAt v p k wr (ha1.kept hB) hok (by omega))
      have i1 : (0 : Int) ≤ (k : Int) := by omega
      clear ho3 ho hB
      go_wp2_with fail
      refine HC.out.mono ?_
      rintro e w' ⟨rfl, hw'⟩
      subst hw'
      go_wp2
      go_roundw
      case rel => exact ⟨k + 1, by omega, by go_num, HO.out.1, HO.out.2⟩
      case measure => simp [intOf]; omega
    · have HF : Hid (FreshIB w (vals p c) true (.returned (.tuple #[.slice (some ⟨w1.heap.size, 0, none⟩) c c, .bool true])) wr) := by
        have : k = c := by omega
        subst this
        rw [fill_end, vals_fill] at ho
        refine ⟨_, rfl, ?_, bthen hB1 hB⟩
        unfold OwnI
        rw [hvl]
        exact ownsRow_mono ho hB1.size
      clear ho hB ha1 hB1
      go_wp2
      go_ret2
      exact HF.out
set_option maxRecDepth 20000 in
theorem c_ValuesOf_no (v : Value) (p : List Int) (c : Int) (w : World) (ha : RdI w v p) (hx : p.length ≤ 1099511627776) (hp : polyB p = false) :
    Calls Tryd.prog 60 #[v, (.int .i64 (0)), (.int .i64 (c))] w (FreshIB w [] false) := by
  have hpv := c_impl_PolyValid v p w ha hx
  rw [hp] at hpv
  clear hp ha hx
  go_enter Tryd.func60, Tryd.ntmps60
  go_wp2_with fail
  refine hpv.mono ?_
  rintro e w1 ⟨rfl, hB1⟩
  have HF : Hid (FreshIB w [] false (.returned (.tuple #[.slice none 0 0, .bool false])) w1) := ⟨_, rfl, World.ownsRow_nil _ _ _ _, hB1⟩
  clear hpv hB1
  go_wp2
  go_ret2
  exact HF.out
end Go.Proofs.YtdfnclnjnmdboaaDoor
