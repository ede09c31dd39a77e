/- Contracts: the values of a plan; program and reference. -/
import Derived.Test.YthjehjdcpfefcaaPlan3
import Derived.Test.YthjehjdcpfefcaaAppN
namespace Go.Proofs.Ythjehjdcpfefcaa
set_option linter.unusedVariables false
open Go.RowKit

/-- the values of a plan -/
def plV : List Seg → List Int
  | [] => []
  | s :: l => vals s.2 s.1.toNat ++ plV l
theorem plV_append : ∀ a b : List Seg, plV (a ++ b) = plV a ++ plV b
  | [], _ => rfl
  | s :: a, b => by simp [plV, plV_append a b]
theorem plV_take_succ (pl : List Seg) (k : Nat) (h : k < pl.length) : plV (pl.take (k + 1)) = plV (pl.take k) ++ vals (pl.getD k noG).2 (pl.getD k noG).1.toNat := by
  rw [take_succG pl k h, plV_append]; simp [plV]
theorem plV_len : ∀ pl : List Seg, pl.all cntB = true → ((plV pl).length : Int) = totG pl
  | [], _ => rfl
  | s :: l, h => by
    simp only [List.all_cons, Bool.and_eq_true] at h
    have h1 := plV_len l h.2
    have h2 := cntB_iff.1 h.1
    simp only [plV, totG, List.length_append, vals_len]
    omega
/-- segments that can be evaluated -/
def valOk (pl : List Seg) : Prop := ∀ s ∈ pl, 1 ≤ s.1 ∧ s.1 ≤ 60 ∧ polyB s.2 = true
theorem valOk_of {pl : List Seg} (h : pl.all segB = true) : valOk pl := fun s hs => by
  have := segB_iff (List.all_eq_true.1 h s hs)
  exact ⟨this.1, this.2.1, this.2.2.1⟩
theorem valOk.get {pl : List Seg} (h : valOk pl) {k : Nat} (hk : k < pl.length) : 1 ≤ (pl.getD k noG).1 ∧ (pl.getD k noG).1 ≤ 60 ∧ polyB (pl.getD k noG).2 = true := h _ (by simp [List.getD, hk])
theorem valOk.take_len {pl : List Seg} (h : valOk pl) (k : Nat) : (plV (pl.take k)).length ≤ k * 60 := by
  have hc : (pl.take k).all cntB = true := List.all_eq_true.2 fun s hs => by
    have := h s (List.mem_of_mem_take hs)
    exact cntB_iff.2 ⟨this.1, this.2.1⟩
  have h1 := plV_len _ hc
  have h2 := (tot_bd _ hc).2
  have h3 : (pl.take k).length ≤ k := List.length_take_le _ _
  omega
theorem OwnI_app' {w : World} {base : Nat} {v : Value} {n m : Nat} {xs ys : List Int} (hn : n = xs.length) (hm : m = ys.length) (h : w.ownsRow base 3 1 v (n + m) (xs.map (Value.int .i64) ++ ys.map (Value.int .i64))) : OwnI w base v (xs ++ ys) := by
  subst hn hm; unfold OwnI; simpa using h
theorem RdN_ints {w : World} {u : Value} {xs : List Int} (h : RdI w u xs) : RdN w 1 u xs.length (xs.map (Value.int .i64)) := by
  have := RdN_of_RdL h
  rwa [List.length_map] at this

theorem keepG {w wa wb : World} {b o o' : Nat} {v0 v1 : Value} {r : Option Nat} (hb : b < w.heap.size) (h : Below w.heap.size w wa ∧ wa.cell? ⟨b, o, none⟩ = some v0 ∧ wa.cell? ⟨b, o', none⟩ = some v1) (k : wa.grownBy wb r) (hr : ∀ j, r = some j → w.heap.size ≤ j) :
    Below w.heap.size w wb ∧ wb.cell? ⟨b, o, none⟩ = some v0 ∧ wb.cell? ⟨b, o', none⟩ = some v1 := by
  obtain ⟨h0, h1, h2⟩ := h
  have hs := h0.size
  have h3 : wb.heap[b]? = wa.heap[b]? := k.block b (by omega) (fun e => by have := hr b e.symm; omega)
  refine ⟨h0.grown k hs hr, ?_, ?_⟩
  · rw [World.cell?_of_block (w := wa) (a := ⟨b, o, none⟩) h3]; exact h1
  · rw [World.cell?_of_block (w := wa) (a := ⟨b, o', none⟩) h3]; exact h2
/-- the table of a plan, if it is one -/
def pvL (pl : List Seg) : List Int := if planB pl = true then plV pl else []
set_option maxRecDepth 20000 in
set_option maxHeartbeats 800000 in
theorem c_impl_PlanValues (v : Value) (pl : List Seg) (w : World) (ha : RdP w v pl) (hx : pl.length ≤ 1099511627776) (hpx : ∀ s ∈ pl, s.2.length ≤ 1099511627776) :
    Calls Try.prog 15 #[v] w (FreshIB w (pvL pl) (planB pl)) := by
  have hpv := c_impl_PlanValid v pl w ha hx hpx
  cases hv : planB pl
  · have E : Hid (pvL pl = []) := if_neg (by rw [hv]; decide)
    rw [hv] at hpv
    clear hv ha hpx hx
    go_enter Try.func15, Try.ntmps15
    go_wp2_with fail
    refine hpv.mono ?_
    rintro e w1 ⟨rfl, hB1⟩
    have HF : Hid (FreshIB w (pvL pl) false (.returned (.tuple #[.slice none 0 0, .bool false])) w1) :=
      ⟨_, rfl, by rw [E.out]; exact World.ownsRow_nil _ _ _ _, hB1⟩
    clear hpv hB1
    go_wp2
    go_ret2
    exact HF.out
  · have E : Hid (pvL pl = plV pl) := if_pos hv
    have HV := hidd (valOk_of (planB_iff.1 hv).2.1)
    have hl := planB_len hv
    rw [hv] at hpv
    clear hv hpx hx
    obtain ⟨a, cap, rfl, hcap⟩ := ha.form
    go_enter Try.func15, Try.ntmps15
    go_wp2_with fail
    refine hpv.mono ?_
    rintro e w1 ⟨rfl, hB1⟩
    clear hpv
    have ho0 : w1.ownsRow w.heap.size 3 1 (.slice none 0 0) 0 [] := World.ownsRow_nil _ _ _ _
    go_wp2
    go_loopw [4, 14] (fun r i wr => ∃ k : Nat, k ≤ pl.length ∧ i = .int .i64 k ∧ OwnI wr w.heap.size r (plV (pl.take k)) ∧ Below w.heap.size w wr) (fun _ i _ => pl.length - (intOf i).toNat)
    case atStart => exact ⟨0, by omega, rfl, ho0, hB1⟩
    case round =>
      obtain ⟨k, hk, rfl, ho, hB⟩ := hrel
      clear ho0 hB1
      by_cases hlt : k < pl.length
      · obtain ⟨b, o, pa, pn, pc, rfl, hb, e1, e2, hp, hpc, hpn⟩ := ha.cell hB hlt
        obtain ⟨c1, c2, hpv⟩ := HV.out.get hlt
        have HS := hidd (plV_take_succ pl k hlt)
        have hlen := HV.out.take_len k
        obtain ⟨s, hs⟩ : ∃ s, pl.getD k noG = s := ⟨_, rfl⟩
        rw [hs] at e1 HS hp c1 c2 hpv
        obtain ⟨c, p⟩ := s
        obtain ⟨C, rfl⟩ : ∃ C : Nat, c = C := ⟨c.toNat, by have : 1 ≤ c := c1; omega⟩
        have hC60 : C ≤ 60 := by have : (C : Int) ≤ 60 := c2; omega
        obtain ⟨L, hL⟩ : ∃ L, plV (pl.take k) = L := ⟨_, rfl⟩
        rw [hL] at ho hlen
        have HS2 : Hid (plV (pl.take (k + 1)) = L ++ vals p C) := by show _ = _; rw [HS.out, hL]; rfl
        have HVL := hidd (vals_len p C)
        have i1 : (0 : Int) ≤ (k : Int) := by omega
        have i2 : (k : Int) < (pl.length : Int) := by omega
        have hBa : Below w.heap.size w (wr.alloc (.cells #[(.int .i64 ((C : Int))), .slice pa pn pc] 47)) := hB.alloc hB.size _
        have HVO := hidd (c_ValuesOf (.slice pa pn pc) p C _ (hp.kept hBa) hpv hC60)
        have hoa := ho.alloc (.cells #[(.int .i64 ((C : Int))), .slice pa pn pc] 47)
        obtain ⟨V, hV⟩ : ∃ V, vals p C = V := ⟨_, rfl⟩
        rw [hV] at HS2 HVL HVO
        have hVs : V.length ≤ 60 := by have := HVL.out; omega
        clear hs hL HS hp hpc hpn hpv c1 c2 ha hV hB ho
        go_wp2_with fail
        refine HVO.out.mono ?_
        rintro e w2 ⟨u, rfl, hu, hB2⟩
        have ho2 := ownsRow_kept_below hoa hB2
        have hu2 := RdN_ints (owns_RdI hu)
        have HB := hidd (bthen hBa hB2)
        have hBs : w.heap.size ≤ w2.heap.size := HB.out.size
        clear hoa hu hB2 hBa HVO
        go_wp2_with (at_builtin; refine appN 32 3 Try.underlying32 infoInt rfl (by decide) (by decide) rfl _ _ rfl w.heap.size _ _ _ rfl ho2 _ _ _ rfl hu2 (one_ints V) (by omega) hBs ?_)
        intro v' w3 ho3 hg3 _
        have HO : Hid (OwnI w3 w.heap.size v' (plV (pl.take (k + 1))) ∧ Below w.heap.size w w3) := ⟨by rw [HS2.out]; exact OwnI_app' rfl rfl ho3, HB.out.grown hg3 hBs (fun j hj => (ho2.lt j hj).1)⟩
        clear ho3 hg3 ho2 hu2
        go_wp2
        go_roundw
        case rel => exact ⟨k + 1, by omega, by go_num, HO.out.1, HO.out.2⟩
        case measure => simp [intOf]; omega
      · have HF : Hid (FreshIB w (pvL pl) true (.returned (.tuple #[u4, .bool true])) wr) := by
          rw [List.take_of_length_le (by omega)] at ho
          exact ⟨_, rfl, by rw [E.out]; exact ho, hB⟩
        clear ho hB ha
        go_wp2
        go_ret2
        exact HF.out

/-- the number of entries of a plan -/
def plN (pl : List Seg) : Int := if planB pl = true then totG pl else -1
def degM : List Seg → Int
  | [] => -1
  | s :: l => max (degP s.2) (degM l)
/-- the greatest degree of a plan -/
def pdF (pl : List Seg) : Int := if planB pl = true then degM pl else -2
theorem degM_append : ∀ a b : List Seg, degM (a ++ b) = max (degM a) (degM b)
  | [], b => by
    have : ∀ l : List Seg, -1 ≤ degM l := fun l => by
      induction l with
      | nil => simp [degM]
      | cons s l ih => simp only [degM]; omega
    have := this b
    simp [degM]; omega
  | s :: a, b => by simp only [List.cons_append, degM, degM_append a b]; omega
theorem degM_take_succ (pl : List Seg) (k : Nat) (h : k < pl.length) : degM (pl.take (k + 1)) = max (degM (pl.take k)) (degP (pl.getD k noG).2) := by
  rw [take_succG pl k h, degM_append]
  have : ∀ l : List Seg, -1 ≤ degM l := fun l => by
    induction l with
    | nil => simp [degM]
    | cons s l ih => simp only [degM]; omega
  have := this (pl.take k)
  simp only [degM]; omega
end Go.Proofs.Ythjehjdcpfefcaa
