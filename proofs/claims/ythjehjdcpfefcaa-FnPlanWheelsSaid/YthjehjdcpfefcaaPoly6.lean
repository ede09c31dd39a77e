/- Contracts: polynomials at another argument, values, degrees; program and reference; slices of slices of ints. -/
import Derived.Test.YthjehjdcpfefcaaPoly5
namespace Go.Proofs.Ythjehjdcpfefcaa
set_option linter.unusedVariables false
open Go.RowKit

theorem hidd {p : Prop} (h : p) : Hid p := h
theorem sizeInt (w : World) : (sizeOf (Try.prog.elem 32)).run Try.prog w = .ok 1 w := by kernel_rfl
theorem addr_mul (a : Addr) (k : Nat) : a.add (k * 1) = a.add k := by rw [Nat.mul_one]
theorem RdL_sub {w : World} {a : Option Addr} {n cap l h : Nat} {xs : List Value} (hr : RdL w (.slice a n cap) xs) (hl : l ≤ h) (hh : h ≤ n) (hc : n ≤ cap) :
    RdL w (sliced a l h cap 1) ((xs.take h).drop l) := by
  obtain ⟨a2, c2, e, hr⟩ := hr
  simp only [Value.slice.injEq] at e
  obtain ⟨rfl, rfl, rfl⟩ := e
  refine ⟨if cap = l then a else a.map (·.add (l * 1)), cap - l, ?_, ?_⟩
  · unfold sliced; simp; omega
  · by_cases hlh : l = h
    · left; subst hlh; simp
    · right
      rcases hr with hr | ⟨b, off, rfl, hlt, hr⟩
      · rw [hr] at hh; simp at hh; omega
      · refine ⟨b, off + l, ?_, hlt, fun i hi => ?_⟩
        · rw [if_neg (by omega), Option.map_some, addr_mul, addr_add]
        · simp at hi
          rw [Nat.add_assoc, hr (l + i) (by omega)]
          simp [show l + i < h by omega]
theorem RdI_sub {w : World} {a : Option Addr} {n cap l h : Nat} {xs : List Int} (hr : RdI w (.slice a n cap) xs) (hl : l ≤ h) (hh : h ≤ xs.length) (hc : xs.length ≤ cap) :
    RdI w (sliced a l h cap 1) ((xs.take h).drop l) := by
  have hn : n = xs.length := by
    obtain ⟨a2, c2, e, _⟩ := hr
    simp only [Value.slice.injEq, List.length_map] at e
    exact e.2.1
  subst hn
  unfold RdI
  rw [List.map_drop, List.map_take]
  exact RdL_sub hr hl hh hc
set_option maxRecDepth 20000 in
/-- s[k:], under a name -/
theorem sl_from (a : Option Addr) (n cap k : Nat) (hk : k ≤ n) (hc : n ≤ cap) : ∃ A, (∀ W, (Instr.slice 32 (.slice a n cap) (some (.int .i64 (k : Int))) none none).run Try.prog W = .ok (.slice A (n - k) (cap - k)) W) ∧
    (∀ W xs, xs.length = n → RdI W (.slice a n cap) xs → RdI W (.slice A (n - k) (cap - k)) (xs.drop k)) := by
  refine ⟨if cap = k then a else a.map (·.add (k * 1)), fun W => ?_, ?_⟩
  · rw [run_slice_l W 32 a n cap Try.underlying32 .i64 (k : Int) (by omega) (by omega), sizeInt]
    rfl
  · rintro W xs rfl h
    have := RdI_sub h hk (Nat.le_refl _) hc
    rwa [List.take_length] at this
set_option maxRecDepth 20000 in
theorem sl_lh (a : Option Addr) (n cap l h : Nat) (hl : l ≤ h) (hh : h ≤ n) (hc : n ≤ cap) : ∃ A, (∀ W, (Instr.slice 32 (.slice a n cap) (some (.int .i64 (l : Int))) (some (.int .i64 (h : Int))) none).run Try.prog W = .ok (.slice A (h - l) (cap - l)) W) ∧
    (∀ W xs, xs.length = n → RdI W (.slice a n cap) xs → RdI W (.slice A (h - l) (cap - l)) ((xs.take h).drop l)) := by
  refine ⟨if cap = l then a else a.map (·.add (l * 1)), fun W => ?_, ?_⟩
  · rw [run_slice_lh W 32 a n cap Try.underlying32 .i64 .i64 (l : Int) (h : Int) (by omega) (by omega) (by omega), sizeInt]
    rfl
  · rintro W xs rfl h
    exact RdI_sub h hl hh hc
theorem CapOk_of {a : Option Addr} {n c : Nat} (h : n ≤ c) : CapOk (.slice a n c) := fun _ _ _ e => by cases e; exact h
theorem owns_CapOk {w : World} {base e n : Nat} {v : Value} {xs : List Value} (h : w.ownsRow base e 1 v n xs) : CapOk v := by
  rcases h.2 with ⟨rfl, _⟩ | ⟨g, cap, cur, rfl, _, _, h3, _⟩
  · exact CapOk_of (Nat.le_refl _)
  · exact CapOk_of h3

/-- the polynomial at another argument, if it is one -/
def shB (p : List Int) (n : Nat) : Bool := polyB p && polyB (shf p n)
def shfL (p : List Int) (n : Nat) : List Int := if shB p n = true then shf p n else []
theorem shf_fill (p : List Int) (n : Nat) : (List.range p.length).map (fun k => (.int .i64 (evalP (p.drop k) n))) = (shf p n).map (Value.int .i64) := by
  unfold shf; rw [List.map_map]; rfl
set_option maxRecDepth 20000 in
theorem c_impl_ShiftPoly (v : Value) (p : List Int) (n : Nat) (w : World) (ha : RdI w v p) (hcap : CapOk v) (hx : p.length ≤ 1099511627776) (hn : n ≤ 90) :
    Calls Try.prog 42 #[v, (.int .i64 ((n : Int)))] w (FreshIB w (shfL p n) (shB p n)) := by
  have hpv := c_impl_PolyValid v p w ha hx
  have ha0 := ha
  obtain ⟨a, cap, rfl, ha1⟩ := ha0
  clear ha1
  simp only [List.length_map] at ha hpv hcap ⊢
  have hcc : p.length ≤ cap := hcap _ _ _ rfl
  cases hv : polyB p
  · have E : Hid (shB p n = false ∧ shfL p n = []) := by
      have h : shB p n = false := by unfold shB; rw [hv]; rfl
      exact ⟨h, if_neg (by rw [h]; decide)⟩
    rw [hv] at hpv
    clear hv ha hcap hx hcc
    go_enter Try.func42, Try.ntmps42
    go_wp2_with fail
    refine hpv.mono ?_
    rintro e w1 ⟨rfl, hB1⟩
    have HF : Hid (FreshIB w (shfL p n) (shB p n) (.returned (.tuple #[.slice none 0 0, .bool false])) w1) :=
      ⟨_, by rw [E.out.1], by rw [E.out.2]; exact World.ownsRow_nil _ _ _ _, hB1⟩
    clear hpv hB1
    go_wp2
    go_ret2
    exact HF.out
  · have E : Hid (shB p n = polyB (shf p n) ∧ shfL p n = resL (shf p n)) := by
      have h : shB p n = polyB (shf p n) := by unfold shB; rw [hv]; rfl
      exact ⟨h, by unfold shfL resL; rw [h]⟩
    have hok := polyB_ok hv
    have hp7 := hok.1
    rw [hv] at hpv
    have hw : inB (n : Int) (-200) 200 = true := inB_t (by omega) (by omega)
    have hsl := shf_len p n
    clear hv hcap hx
    go_enter Try.func42, Try.ntmps42
    go_wp2_with fail
    refine hpv.mono ?_
    rintro e w1 ⟨rfl, hB1⟩
    have ha1 := ha.kept hB1
    clear hpv
    go_wp2_with (first | (go_at_call 59; refine (c_within _ _ _ (by omega) (by omega)).mono ?_; rw [hw]; rintro e w' ⟨rfl, rfl⟩) | (at_make; refine mkfull 32 3 Try.underlying32 infoInt rfl (by decide) rfl _ _ rfl p.length rfl rfl rfl rfl (by omega) ?_; intro w2 ho2 hB2 hz2))
    clear hw
    go_loopw [21] (fun i wr => ∃ k : Nat, k ≤ p.length ∧ i = .int .i64 k ∧ wr.ownsRow w1.heap.size 3 1 (.slice (some ⟨w1.heap.size, 0, none⟩) p.length p.length) p.length (fill (fun i => (.int .i64 (evalP (p.drop i) n))) (.int .i64 (0)) k p.length) ∧ Below w1.heap.size w1 wr) (fun i _ => p.length - (intOf i).toNat)
    case atStart => exact ⟨0, by omega, rfl, by rw [fill_zero]; exact ho2, hB2⟩
    case round =>
      obtain ⟨k, hk, rfl, ho, hB⟩ := hrel
      clear ho2 hB2 hz2
      by_cases hlt : k < p.length
      · obtain ⟨A, g1, g2⟩ := sl_from a p.length cap k hk hcc
        have hpd : RdI wr (.slice A (p.length - k) (cap - k)) (p.drop k) := g2 wr p rfl (ha1.kept hB)
        obtain ⟨⟨x, e2⟩, e3, ho3⟩ := fill_step ho hlt
        have HO : Hid (_ ∧ _) := ⟨ho3, hB.setCell (p := ⟨w1.heap.size, k, none⟩) (Nat.le_refl _) (.int .i64 (evalP (p.drop k) n))⟩
        have HC : Hid (Calls Try.prog 72 #[.slice A (p.length - k) (cap - k), (.int .i64 ((n : Int)))] wr fun e w' => e = .returned (.int .i64 (evalP (p.drop k) n)) ∧ wr = w') := c_valueAt _ (p.drop k) n wr hpd (hok.drop k) (by omega)
        have i1 : (0 : Int) ≤ (k : Int) := by omega
        clear g2 hpd ho3 ho hB
        go_wp2_with fail
        refine HC.out.mono ?_
        rintro e w' ⟨rfl, hw'⟩
        subst hw'
        clear g1
        go_wp2
        go_roundw
        case rel => exact ⟨k + 1, by omega, by go_num, HO.out.1, HO.out.2⟩
        case measure => simp [intOf]; omega
      · have HO : Hid (OwnI wr w1.heap.size (.slice (some ⟨w1.heap.size, 0, none⟩) p.length p.length) (shf p n) ∧ Below w.heap.size w wr ∧ w.heap.size ≤ w1.heap.size) := by
          have : k = p.length := by omega
          subst this
          rw [fill_end, shf_fill, ← hsl] at ho
          have hs2 := hsl.symm
          refine ⟨?_, bthen hB1 hB, hB1.size⟩
          rw [hsl] at ho
          unfold OwnI
          rw [hsl]
          exact ho
        have HS : Hid _ := hsl
        have hrd : RdI wr (.slice (some ⟨w1.heap.size, 0, none⟩) p.length p.length) (shf p n) := owns_RdI HO.out.1
        clear ho hB ha ha1 hB1 hsl hcc
        obtain ⟨q, hq⟩ : ∃ q, shf p n = q := ⟨_, rfl⟩
        rw [hq] at HO E hrd HS
        cases hpb : polyB q
        · have HC := hidd (c_checked_f _ q wr hrd (by rw [HS.out]; omega) hpb)
          have HR : Hid (shB p n = false ∧ shfL p n = []) := ⟨by rw [E.out.1, hpb], by rw [E.out.2]; exact if_neg (by rw [hpb]; decide)⟩
          clear hpb hrd hq
          go_wp2_with fail
          refine HC.out.mono ?_
          rintro e w3 ⟨rfl, hB3⟩
          have HF : Hid (FreshIB w (shfL p n) (shB p n) (.returned (.tuple #[.slice none 0 0, .bool false])) w3) :=
            ⟨_, by rw [HR.out.1], by rw [HR.out.2]; exact World.ownsRow_nil _ _ _ _, bthen HO.out.2.1 hB3⟩
          clear hB3
          go_wp2
          go_ret2
          exact HF.out
        · have HC := hidd (c_checked_t _ q wr hrd hpb)
          have HR : Hid (shB p n = true ∧ shfL p n = q) := ⟨by rw [E.out.1, hpb], by rw [E.out.2]; exact if_pos hpb⟩
          clear hpb hrd hq
          go_wp2_with fail
          refine HC.out.mono ?_
          rintro e w3 ⟨rfl, hB3⟩
          have HF : Hid (FreshIB w (shfL p n) (shB p n) (.returned (.tuple #[.slice (some ⟨w1.heap.size, 0, none⟩) p.length p.length, .bool true])) w3) :=
            ⟨_, by rw [HR.out.1], by rw [HR.out.2]; exact ownsRow_mono (ownsRow_kept_below HO.out.1 hB3) HO.out.2.2, bthen HO.out.2.1 hB3⟩
          clear hB3
          go_wp2
          go_ret2
          exact HF.out

theorem shf_res (p : List Int) (n : Nat) (hv : polyB p = true) : shB p n = polyB (shf p n) ∧ shfL p n = resL (shf p n) := by
  have h : shB p n = polyB (shf p n) := by unfold shB; rw [hv]; rfl
  exact ⟨h, by unfold shfL resL; rw [h]⟩
theorem vals_bd {p : List Int} (h : evalOk p) (f c : Nat) (hn : f + c ≤ 101) : ∀ k, bdI (nxtN k (valsF p f c)) := by
  intro k i
  rw [nxtN_vals]
  by_cases hi : i < c - k
  · rw [valsF_getD _ _ _ _ hi]
    have := (h.drop k).bd (n := f + i) (by omega)
    omega
  · have : (valsF (p.drop k) f (c - k)).getD i 0 = 0 := by simp [List.getD, valsF_len, Nat.le_of_not_lt hi]
    rw [this]; simp
set_option maxRecDepth 20000 in
theorem c_spec_ShiftPoly (v : Value) (p : List Int) (n : Nat) (w : World) (ha : RdI w v p) (hx : p.length ≤ 1099511627776) (hn : n ≤ 90) :
    Calls Try.prog 50 #[v, (.int .i64 ((n : Int)))] w (FreshIB w (shfL p n) (shB p n)) := by
  have hpv := c_spec_PolyValid v p w ha hx
  have ha0 := ha
  obtain ⟨a, cap, rfl, ha1⟩ := ha0
  clear ha1
  simp only [List.length_map] at ha hpv ⊢
  cases hv : polyB p
  · have E : Hid (shB p n = false ∧ shfL p n = []) := by
      have h : shB p n = false := by unfold shB; rw [hv]; rfl
      exact ⟨h, if_neg (by rw [h]; decide)⟩
    rw [hv] at hpv
    clear hv ha hx
    go_enter Try.func50, Try.ntmps50
    go_wp2_with fail
    refine hpv.mono ?_
    rintro e w1 ⟨rfl, hB1⟩
    have HF : Hid (FreshIB w (shfL p n) (shB p n) (.returned (.tuple #[.slice (some ⟨w1.heap.size, 0, none⟩) 0 0, .bool false])) (w1.alloc (.cells #[] 3))) :=
      ⟨_, by rw [E.out.1], by rw [E.out.2]; exact ownsRow_mono (madeP0 w1) hB1.size, bthen hB1 ((Below.refl _ _).alloc (Nat.le_refl _) _)⟩
    clear hpv hB1
    go_wp2
    go_ret2
    exact HF.out
  · have E : Hid _ := shf_res p n hv
    have hok := polyB_ok hv
    have hp7 := hok.1
    rw [hv] at hpv
    have hw : inB (n : Int) (-200) 200 = true := inB_t (by omega) (by omega)
    have hfd := shf_fd p n
    have hbd := vals_bd hok n p.length (by omega)
    have hvl := valsF_len p n p.length
    clear hv hx
    go_enter Try.func50, Try.ntmps50
    go_wp2_with fail
    refine hpv.mono ?_
    rintro e w1 ⟨rfl, hB1⟩
    have HC := hidd (c_l2Values _ p n p.length w1 (ha.kept hB1) hok (by omega))
    have HC2 : Hid (∀ u W, RdI W u (valsF p n p.length) → Calls Try.prog 80 #[u] W (FreshIB W (shfL p n) (shB p n))) := by
      show ∀ u W, _
      intro u W h
      have := c_l2Result u _ W h (by omega) hbd
      rw [hfd] at this
      rw [E.out.1, E.out.2]
      exact this
    clear hpv hfd hbd hvl ha
    go_wp2_with (first | (go_at_call 79; refine (c_l2Argument _ _).mono ?_; rw [hw]; rintro e w' ⟨rfl, rfl⟩))
    refine HC.out.mono ?_
    rintro e w2 ⟨u, rfl, ho2, hB2⟩
    have HC3 := hidd (HC2.out _ _ (owns_RdI ho2))
    clear ho2
    go_wp2_with fail
    refine HC3.out.mono ?_
    rintro e w3 ⟨u3, rfl, ho3, hB3⟩
    have HF : Hid (FreshIB w (shfL p n) (shB p n) (.returned (.tuple #[u3, .bool (shB p n)])) w3) :=
      ⟨_, rfl, ownsRow_mono ho3 (Nat.le_trans hB1.size hB2.size), bthen (bthen hB1 hB2) hB3⟩
    clear ho3 hB1 hB2 hB3
    go_wp2
    go_ret2
    exact HF.out

/-- the values from 0 on, of a valid polynomial -/
theorem vals_fill (p : List Int) (c : Nat) : (List.range c).map (fun k => (.int .i64 (evalP p k))) = (vals p c).map (Value.int .i64) := by
  unfold vals valsF; rw [List.map_map]; congr 1; funext i; simp
set_option maxRecDepth 20000 in
theorem c_ValuesOf (v : Value) (p : List Int) (c : Nat) (w : World) (ha : RdI w v p) (hp : polyB p = true) (hc : c ≤ 60) :
    Calls Try.prog 40 #[v, (.int .i64 (0)), (.int .i64 ((c : Int)))] w (FreshIB w (vals p c) true) := by
  have hok := polyB_ok hp
  have hp7 := hok.1
  have hpv := c_impl_PolyValid v p w ha (by omega)
  rw [hp] at hpv
  have hw : inB 0 (-200) 200 = true := by decide
  have hvl := vals_len p c
  clear hp
  go_enter Try.func40, Try.ntmps40
  go_wp2_with fail
  refine hpv.mono ?_
  rintro e w1 ⟨rfl, hB1⟩
  have ha1 := ha.kept hB1
  clear hpv ha
  go_wp2_with (first | (go_at_call 59; refine (c_within _ _ _ (by omega) (by omega)).mono ?_; rw [hw]; rintro e w' ⟨rfl, rfl⟩) | (at_make; refine mkfull 32 3 Try.underlying32 infoInt rfl (by decide) rfl _ _ rfl c rfl rfl rfl rfl (by omega) ?_; intro w2 ho2 hB2 hz2))
  clear hw
  go_loopw [35] (fun i wr => ∃ k : Nat, k ≤ c ∧ i = .int .i64 k ∧ wr.ownsRow w1.heap.size 3 1 (.slice (some ⟨w1.heap.size, 0, none⟩) c c) c (fill (fun i => (.int .i64 (evalP p i))) (.int .i64 (0)) k c) ∧ Below w1.heap.size w1 wr) (fun i _ => c - (intOf i).toNat)
  case atStart => exact ⟨0, by omega, rfl, by rw [fill_zero]; exact ho2, hB2⟩
  case round =>
    obtain ⟨k, hk, rfl, ho, hB⟩ := hrel
    clear ho2 hB2 hz2
    by_cases hlt : k < c
    · obtain ⟨⟨x, e2⟩, e3, ho3⟩ := fill_step ho hlt
      have HO : Hid (_ ∧ _) := ⟨ho3, hB.setCell (p := ⟨w1.heap.size, k, none⟩) (Nat.le_refl _) (.int .i64 (evalP p k))⟩
      have HC := hidd (c_valueAt v p k wr (ha1.kept hB) hok (by omega))
      have i1 : (0 : Int) ≤ (k : Int) := by omega
      clear ho3 ho hB
      go_wp2_with fail
      refine HC.out.mono ?_
      rintro e w' ⟨rfl, hw'⟩
      subst hw'
      go_wp2
      go_roundw
      case rel => exact ⟨k + 1, by omega, by go_num, HO.out.1, HO.out.2⟩
      case measure => simp [intOf]; omega
    · have HF : Hid (FreshIB w (vals p c) true (.returned (.tuple #[.slice (some ⟨w1.heap.size, 0, none⟩) c c, .bool true])) wr) := by
        have : k = c := by omega
        subst this
        rw [fill_end, vals_fill] at ho
        refine ⟨_, rfl, ?_, bthen hB1 hB⟩
        unfold OwnI
        rw [hvl]
        exact ownsRow_mono ho hB1.size
      clear ho hB ha1 hB1
      go_wp2
      go_ret2
      exact HF.out
set_option maxRecDepth 20000 in
theorem c_ValuesOf_no (v : Value) (p : List Int) (c : Int) (w : World) (ha : RdI w v p) (hx : p.length ≤ 1099511627776) (hp : polyB p = false) :
    Calls Try.prog 40 #[v, (.int .i64 (0)), (.int .i64 (c))] w (FreshIB w [] false) := by
  have hpv := c_impl_PolyValid v p w ha hx
  rw [hp] at hpv
  clear hp ha hx
  go_enter Try.func40, Try.ntmps40
  go_wp2_with fail
  refine hpv.mono ?_
  rintro e w1 ⟨rfl, hB1⟩
  have HF : Hid (FreshIB w [] false (.returned (.tuple #[.slice none 0 0, .bool false])) w1) := ⟨_, rfl, World.ownsRow_nil _ _ _ _, hB1⟩
  clear hpv hB1
  go_wp2
  go_ret2
  exact HF.out
end Go.Proofs.Ythjehjdcpfefcaa
