/- Contracts: the values of a plan; program and reference. -/
import Derived.Test.YtkfejnifbkgihaaPlan3
import Derived.Test.YtkfejnifbkgihaaAppN
namespace Go.Proofs.Ytkfejnifbkgihaa
set_option linter.unusedVariables false
open Go.RowKit

/-- the values of a plan -/
def plV : List Seg → List Int
  | [] => []
  | s :: l => vals s.2 s.1.toNat ++ plV l
theorem plV_append : ∀ a b : List Seg, plV (a ++ b) = plV a ++ plV b
  | [], _ => rfl
  | s :: a, b => by simp [plV, plV_append a b]
theorem plV_take_succ (pl : List Seg) (k : Nat) (h : k < pl.length) : plV (pl.take (k + 1)) = plV (pl.take k) ++ vals (pl.getD k noG).2 (pl.getD k noG).1.toNat := by
  rw [take_succG pl k h, plV_append]; simp [plV]
theorem plV_len : ∀ pl : List Seg, pl.all cntB = true → ((plV pl).length : Int) = tot pl
  | [], _ => rfl
  | s :: l, h => by
    simp only [List.all_cons, Bool.and_eq_true] at h
    have h1 := plV_len l h.2
    have h2 := cntB_iff.1 h.1
    simp only [plV, tot, List.length_append, vals_len]
    omega
/-- segments that can be evaluated -/
def valOk (pl : List Seg) : Prop := ∀ s ∈ pl, 1 ≤ s.1 ∧ s.1 ≤ 60 ∧ polyB s.2 = true
theorem valOk_of {pl : List Seg} (h : pl.all segB = true) : valOk pl := fun s hs => by
  have := segB_iff (List.all_eq_true.1 h s hs)
  exact ⟨this.1, this.2.1, this.2.2.1⟩
theorem valOk.get {pl : List Seg} (h : valOk pl) {k : Nat} (hk : k < pl.length) : 1 ≤ (pl.getD k noG).1 ∧ (pl.getD k noG).1 ≤ 60 ∧ polyB (pl.getD k noG).2 = true := h _ (by simp [List.getD, hk])
theorem valOk.take_len {pl : List Seg} (h : valOk pl) (k : Nat) : (plV (pl.take k)).length ≤ k * 60 := by
  have hc : (pl.take k).all cntB = true := List.all_eq_true.2 fun s hs => by
    have := h s (List.mem_of_mem_take hs)
    exact cntB_iff.2 ⟨this.1, this.2.1⟩
  have h1 := plV_len _ hc
  have h2 := (tot_bd _ hc).2
  have h3 : (pl.take k).length ≤ k := List.length_take_le _ _
  omega
theorem OwnI_app' {w : World} {base : Nat} {v : Value} {n m : Nat} {xs ys : List Int} (hn : n = xs.length) (hm : m = ys.length) (h : w.ownsRow base 3 1 v (n + m) (xs.map (Value.int .i64) ++ ys.map (Value.int .i64))) : OwnI w base v (xs ++ ys) := by
  subst hn hm; unfold OwnI; simpa using h
theorem RdN_ints {w : World} {u : Value} {xs : List Int} (h : RdI w u xs) : RdN w 1 u xs.length (xs.map (Value.int .i64)) := by
  have := RdN_of_RdL h
  rwa [List.length_map] at this

theorem keepG {w wa wb : World} {b o o' : Nat} {v0 v1 : Value} {r : Option Nat} (hb : b < w.heap.size) (h : Below w.heap.size w wa ∧ wa.cell? ⟨b, o, none⟩ = some v0 ∧ wa.cell? ⟨b, o', none⟩ = some v1) (k : wa.grownBy wb r) (hr : ∀ j, r = some j → w.heap.size ≤ j) :
    Below w.heap.size w wb ∧ wb.cell? ⟨b, o, none⟩ = some v0 ∧ wb.cell? ⟨b, o', none⟩ = some v1 := by
  obtain ⟨h0, h1, h2⟩ := h
  have hs := h0.size
  have h3 : wb.heap[b]? = wa.heap[b]? := k.block b (by omega) (fun e => by have := hr b e.symm; omega)
  refine ⟨h0.grown k hs hr, ?_, ?_⟩
  · rw [World.cell?_of_block (w := wa) (a := ⟨b, o, none⟩) h3]; exact h1
  · rw [World.cell?_of_block (w := wa) (a := ⟨b, o', none⟩) h3]; exact h2
set_option maxRecDepth 20000 in
set_option maxHeartbeats 800000 in
theorem c_l5Values (v : Value) (pl : List Seg) (w : World) (ha : RdP w v pl) (hx : pl.length ≤ 3000) (hv : valOk pl) :
    Calls Try.prog 43 #[v] w (FreshI w (plV pl)) := by
  obtain ⟨a, cap, rfl, hcap⟩ := ha.form
  have HV := hidd hv
  have ho0 := made0 w
  have hB0 : Below w.heap.size w (w.alloc (.cells #[] 3)) := (Below.refl _ _).alloc (Nat.le_refl _) _
  clear hv
  go_enter Try.func43, Try.ntmps43
  go_wp2
  go_loopw [3, 4] (fun r i wr => ∃ k : Nat, k ≤ pl.length ∧ i = .int .i64 k ∧ OwnI wr w.heap.size r (plV (pl.take k)) ∧ Below w.heap.size w wr) (fun _ i _ => pl.length - (intOf i).toNat)
  case atStart => exact ⟨0, by omega, rfl, ho0, hB0⟩
  case round =>
    obtain ⟨k, hk, rfl, ho, hB⟩ := hrel
    clear ho0 hB0
    by_cases hlt : k < pl.length
    · obtain ⟨b, o, pa, pn, pc, rfl, hb, e1, e2, hp, hpc, hpn⟩ := ha.cell hB hlt
      obtain ⟨c1, c2, hpv⟩ := HV.out.get hlt
      have HS := hidd (plV_take_succ pl k hlt)
      have hlen := HV.out.take_len k
      obtain ⟨s, hs⟩ : ∃ s, pl.getD k noG = s := ⟨_, rfl⟩
      rw [hs] at e1 HS hp c1 c2 hpv
      obtain ⟨c, p⟩ := s
      obtain ⟨C, rfl⟩ : ∃ C : Nat, c = C := ⟨c.toNat, by have : 1 ≤ c := c1; omega⟩
      have hC60 : C ≤ 60 := by have : (C : Int) ≤ 60 := c2; omega
      obtain ⟨L, hL⟩ : ∃ L, plV (pl.take k) = L := ⟨_, rfl⟩
      rw [hL] at ho hlen
      have HS2 : Hid (plV (pl.take (k + 1)) = L ++ vals p C) := by show _ = _; rw [HS.out, hL]; rfl
      have HVL := hidd (vals_len p C)
      have i1 : (0 : Int) ≤ (k : Int) := by omega
      have i2 : (k : Int) < (pl.length : Int) := by omega
      have hk0 : Below w.heap.size w wr.drew ∧ wr.drew.cell? ⟨b, o + k * 2, none⟩ = some (.int .i64 ((C : Int))) ∧ wr.drew.cell? ⟨b, o + k * 2 + 1, none⟩ = some (.slice pa pn pc) := ⟨hB.drew, e1, e2⟩
      have HLV : Hid (∀ W, (Below w.heap.size w W ∧ W.cell? ⟨b, o + k * 2, none⟩ = some (.int .i64 ((C : Int))) ∧ W.cell? ⟨b, o + k * 2 + 1, none⟩ = some (.slice pa pn pc)) → Calls Try.prog 79 #[.slice pa pn pc, (.int .i64 (0)), (.int .i64 (1)), (.int .i64 ((C : Int)))] W (FreshI W (vals p C))) :=
        fun W h => c_l2Values _ p 0 C W (hp.kept h.1) (polyB_ok hpv) (by omega)
      obtain ⟨V, hV⟩ : ∃ V, vals p C = V := ⟨_, rfl⟩
      rw [hV] at HS2 HVL HLV
      clear hs hL HS hp hpc hpn hpv c1 c2 ha hV
      have hod : wr.drew.ownsRow w.heap.size 3 1 u3 L.length (L.map (Value.int .i64)) := ho
      have hBs : w.heap.size ≤ wr.drew.heap.size := hB.size
      have hVs : V.length ≤ 60 := by have := HVL.out; omega
      have HBd := hidd hB.drew
      go_wp2
      go_region_held3 (fun wx => Below w.heap.size w wx ∧ wx.cell? ⟨b, o + k * 2, none⟩ = some (.int .i64 ((C : Int))) ∧ wx.cell? ⟨b, o + k * 2 + 1, none⟩ = some (.slice pa pn pc)) (first | assumption | exact hk0 | exact keep2b hb (by assumption) (by assumption) | exact keepG hb (by assumption) (by assumption) (fun j hj => (hod.lt j hj).1))
        (first | (refine sguard _ _ _ rfl ?_; refine sappN 25 3 Try.underlying25 infoInt rfl (by decide) (by decide) rfl _ _ rfl w.heap.size _ _ _ rfl ho2 _ _ _ rfl hu2 (one_ints V) (by omega) hBs2 ?_; intro v' w3 ho3 hg3 _) | (go_at_call 79; refine (HLV.out _ (by assumption)).mono ?_; rintro e wy ⟨u, rfl, hu, hby⟩; have ho2 := ownsRow_kept_below hod hby; have hu2 := RdN_ints (owns_RdI hu); have hBs2 := Nat.le_trans hBs hby.size))
      rename_i hS
      have HO : Hid (OwnI w3 w.heap.size v' (plV (pl.take (k + 1))) ∧ Below w.heap.size w w3) := ⟨by rw [HS2.out]; exact OwnI_app' rfl rfl ho3, hS.1⟩
      clear ho3 hg3 hS hk0 ho hod hB ho2 hu2 hu hby
      go_wp2
      go_roundw
      case rel => exact ⟨k + 1, by omega, by go_num, HO.out.1, HO.out.2⟩
      case measure => simp [intOf]; omega
    · have HO : Hid (OwnI wr w.heap.size u3 (plV pl) ∧ Below w.heap.size w wr) := by
        rw [List.take_of_length_le (by omega)] at ho
        exact ⟨ho, hB⟩
      clear ho hB ha
      go_wp2
      go_ret
      exact ⟨_, rfl, HO.out.1, HO.out.2⟩

/-- the table of a plan, if it is one -/
def pvL (pl : List Seg) : List Int := if planB pl = true then plV pl else []
theorem c_spec_PlanValues (v : Value) (pl : List Seg) (w : World) (ha : RdP w v pl) (hx : pl.length ≤ 1099511627776) (hpx : ∀ s ∈ pl, s.2.length ≤ 1099511627776) :
    Calls Try.prog 11 #[v] w (FreshIB w (pvL pl) (planB pl)) := by
  have hpv := c_spec_PlanValid v pl w ha hx hpx
  cases hv : planB pl
  · have E : Hid (pvL pl = []) := if_neg (by rw [hv]; decide)
    rw [hv] at hpv
    clear hv ha hpx hx
    go_enter Try.func11, Try.ntmps11
    go_wp2_with fail
    refine hpv.mono ?_
    rintro e w1 ⟨rfl, hB1⟩
    have HF : Hid (FreshIB w (pvL pl) false (.returned (.tuple #[.slice (some ⟨w1.heap.size, 0, none⟩) 0 0, .bool false])) (w1.alloc (.cells #[] 3))) :=
      ⟨_, rfl, by rw [E.out]; exact ownsRow_mono (made0 w1) hB1.size, bthen hB1 ((Below.refl _ _).alloc (Nat.le_refl _) _)⟩
    clear hpv hB1
    go_wp2
    go_ret2
    exact HF.out
  · have E : Hid (pvL pl = plV pl) := if_pos hv
    have hvo := valOk_of (planB_iff.1 hv).2.1
    have hl := planB_len hv
    rw [hv] at hpv
    have HC : Hid (∀ W, RdP W v pl → Calls Try.prog 43 #[v] W (FreshI W (plV pl))) := fun W h => c_l5Values v pl W h (by omega) hvo
    clear hv hpx hx hvo
    go_enter Try.func11, Try.ntmps11
    go_wp2_with fail
    refine hpv.mono ?_
    rintro e w1 ⟨rfl, hB1⟩
    have ha1 := ha.kept hB1
    clear hpv ha
    go_wp2_with fail
    refine (HC.out _ ha1).mono ?_
    rintro e w2 ⟨u, rfl, ho, hB2⟩
    have HF : Hid (FreshIB w (pvL pl) true (.returned (.tuple #[u, .bool true])) w2) := ⟨_, rfl, by rw [E.out]; exact ownsRow_mono ho hB1.size, bthen hB1 hB2⟩
    clear ho hB1 hB2 ha1
    go_wp2
    go_ret2
    exact HF.out

set_option maxRecDepth 20000 in
set_option maxHeartbeats 800000 in
theorem c_impl_PlanValues (v : Value) (pl : List Seg) (w : World) (ha : RdP w v pl) (hx : pl.length ≤ 1099511627776) (hpx : ∀ s ∈ pl, s.2.length ≤ 1099511627776) :
    Calls Try.prog 10 #[v] w (FreshIB w (pvL pl) (planB pl)) := by
  have hpv := c_impl_PlanValid v pl w ha hx hpx
  cases hv : planB pl
  · have E : Hid (pvL pl = []) := if_neg (by rw [hv]; decide)
    rw [hv] at hpv
    clear hv ha hpx hx
    go_enter Try.func10, Try.ntmps10
    go_wp2_with fail
    refine hpv.mono ?_
    rintro e w1 ⟨rfl, hB1⟩
    have HF : Hid (FreshIB w (pvL pl) false (.returned (.tuple #[.slice none 0 0, .bool false])) w1) :=
      ⟨_, rfl, by rw [E.out]; exact World.ownsRow_nil _ _ _ _, hB1⟩
    clear hpv hB1
    go_wp2
    go_ret2
    exact HF.out
  · have E : Hid (pvL pl = plV pl) := if_pos hv
    have HV := hidd (valOk_of (planB_iff.1 hv).2.1)
    have hl := planB_len hv
    rw [hv] at hpv
    clear hv hpx hx
    obtain ⟨a, cap, rfl, hcap⟩ := ha.form
    go_enter Try.func10, Try.ntmps10
    go_wp2_with fail
    refine hpv.mono ?_
    rintro e w1 ⟨rfl, hB1⟩
    clear hpv
    have ho0 : w1.ownsRow w.heap.size 3 1 (.slice none 0 0) 0 [] := World.ownsRow_nil _ _ _ _
    go_wp2
    go_loopw [4, 14] (fun r i wr => ∃ k : Nat, k ≤ pl.length ∧ i = .int .i64 k ∧ OwnI wr w.heap.size r (plV (pl.take k)) ∧ Below w.heap.size w wr) (fun _ i _ => pl.length - (intOf i).toNat)
    case atStart => exact ⟨0, by omega, rfl, ho0, hB1⟩
    case round =>
      obtain ⟨k, hk, rfl, ho, hB⟩ := hrel
      clear ho0 hB1
      by_cases hlt : k < pl.length
      · obtain ⟨b, o, pa, pn, pc, rfl, hb, e1, e2, hp, hpc, hpn⟩ := ha.cell hB hlt
        obtain ⟨c1, c2, hpv⟩ := HV.out.get hlt
        have HS := hidd (plV_take_succ pl k hlt)
        have hlen := HV.out.take_len k
        obtain ⟨s, hs⟩ : ∃ s, pl.getD k noG = s := ⟨_, rfl⟩
        rw [hs] at e1 HS hp c1 c2 hpv
        obtain ⟨c, p⟩ := s
        obtain ⟨C, rfl⟩ : ∃ C : Nat, c = C := ⟨c.toNat, by have : 1 ≤ c := c1; omega⟩
        have hC60 : C ≤ 60 := by have : (C : Int) ≤ 60 := c2; omega
        obtain ⟨L, hL⟩ : ∃ L, plV (pl.take k) = L := ⟨_, rfl⟩
        rw [hL] at ho hlen
        have HS2 : Hid (plV (pl.take (k + 1)) = L ++ vals p C) := by show _ = _; rw [HS.out, hL]; rfl
        have HVL := hidd (vals_len p C)
        have i1 : (0 : Int) ≤ (k : Int) := by omega
        have i2 : (k : Int) < (pl.length : Int) := by omega
        have hBa : Below w.heap.size w (wr.alloc (.cells #[(.int .i64 ((C : Int))), .slice pa pn pc] 31)) := hB.alloc hB.size _
        have HVO := hidd (c_ValuesOf (.slice pa pn pc) p C _ (hp.kept hBa) hpv hC60)
        have hoa := ho.alloc (.cells #[(.int .i64 ((C : Int))), .slice pa pn pc] 31)
        obtain ⟨V, hV⟩ : ∃ V, vals p C = V := ⟨_, rfl⟩
        rw [hV] at HS2 HVL HVO
        have hVs : V.length ≤ 60 := by have := HVL.out; omega
        clear hs hL HS hp hpc hpn hpv c1 c2 ha hV hB ho
        go_wp2_with fail
        refine HVO.out.mono ?_
        rintro e w2 ⟨u, rfl, hu, hB2⟩
        have ho2 := ownsRow_kept_below hoa hB2
        have hu2 := RdN_ints (owns_RdI hu)
        have HB := hidd (bthen hBa hB2)
        have hBs : w.heap.size ≤ w2.heap.size := HB.out.size
        clear hoa hu hB2 hBa HVO
        go_wp2_with (at_builtin; refine appN 25 3 Try.underlying25 infoInt rfl (by decide) (by decide) rfl _ _ rfl w.heap.size _ _ _ rfl ho2 _ _ _ rfl hu2 (one_ints V) (by omega) hBs ?_)
        intro v' w3 ho3 hg3 _
        have HO : Hid (OwnI w3 w.heap.size v' (plV (pl.take (k + 1))) ∧ Below w.heap.size w w3) := ⟨by rw [HS2.out]; exact OwnI_app' rfl rfl ho3, HB.out.grown hg3 hBs (fun j hj => (ho2.lt j hj).1)⟩
        clear ho3 hg3 ho2 hu2
        go_wp2
        go_roundw
        case rel => exact ⟨k + 1, by omega, by go_num, HO.out.1, HO.out.2⟩
        case measure => simp [intOf]; omega
      · have HF : Hid (FreshIB w (pvL pl) true (.returned (.tuple #[u4, .bool true])) wr) := by
          rw [List.take_of_length_le (by omega)] at ho
          exact ⟨_, rfl, by rw [E.out]; exact ho, hB⟩
        clear ho hB ha
        go_wp2
        go_ret2
        exact HF.out

/-- the number of entries of a plan -/
def plN (pl : List Seg) : Int := if planB pl = true then tot pl else -1
def degM : List Seg → Int
  | [] => -1
  | s :: l => max (degP s.2) (degM l)
/-- the greatest degree of a plan -/
def pdF (pl : List Seg) : Int := if planB pl = true then degM pl else -2
theorem degM_append : ∀ a b : List Seg, degM (a ++ b) = max (degM a) (degM b)
  | [], b => by
    have : ∀ l : List Seg, -1 ≤ degM l := fun l => by
      induction l with
      | nil => simp [degM]
      | cons s l ih => simp only [degM]; omega
    have := this b
    simp [degM]; omega
  | s :: a, b => by simp only [List.cons_append, degM, degM_append a b]; omega
theorem degM_take_succ (pl : List Seg) (k : Nat) (h : k < pl.length) : degM (pl.take (k + 1)) = max (degM (pl.take k)) (degP (pl.getD k noG).2) := by
  rw [take_succG pl k h, degM_append]
  have : ∀ l : List Seg, -1 ≤ degM l := fun l => by
    induction l with
    | nil => simp [degM]
    | cons s l ih => simp only [degM]; omega
  have := this (pl.take k)
  simp only [degM]; omega
theorem c_PlanLength (v : Value) (pl : List Seg) (w : World) (ha : RdP w v pl) (hx : pl.length ≤ 1099511627776) (hpx : ∀ s ∈ pl, s.2.length ≤ 1099511627776) (hv : planB pl = true) :
    Calls Try.prog 16 #[v] w fun e w' => e = .returned (.int .i64 (tot pl)) ∧ Below w.heap.size w w' := by
  have hpv := c_impl_PlanValid v pl w ha hx hpx
  rw [hv] at hpv
  obtain ⟨p1, p2, p3⟩ := planB_iff.1 hv
  have hc := segB_cnt pl p2
  have hl := planB_len hv
  have HTL : Hid (∀ k, tot (pl.take k) ≤ 60 ∧ 0 ≤ tot (pl.take k)) := fun k => by
    have h1 := tot_take_le hc k
    have h2 := (tot_bd (pl.take k) (List.all_eq_true.2 fun x hx => List.all_eq_true.1 hc x (List.mem_of_mem_take hx))).1
    omega
  have HCT := hidd hc
  obtain ⟨a, cap, rfl, hcap⟩ := ha.form
  clear hv hpx hx p1 p2 p3 hc
  go_enter Try.func16, Try.ntmps16
  go_wp2_with fail
  refine hpv.mono ?_
  rintro e w1 ⟨rfl, hB1⟩
  clear hpv
  go_wp2
  go_loopw [3, 11] (fun r i wr => ∃ k : Nat, k ≤ pl.length ∧ i = .int .i64 k ∧ r = .int .i64 (tot (pl.take k)) ∧ Below w.heap.size w wr) (fun _ i _ => pl.length - (intOf i).toNat)
  case atStart => exact ⟨0, by omega, rfl, rfl, hB1⟩
  case round =>
    obtain ⟨k, hk, rfl, rfl, hB⟩ := hrel
    clear hB1
    obtain ⟨t1, t2⟩ := HTL.out k
    by_cases hlt : k < pl.length
    · obtain ⟨b, o, pa, pn, pc, rfl, hb, e1, e2, hp, hpc, hpn⟩ := ha.cell hB hlt
      have hcn := cntB_iff.1 (all_getG HCT.out hlt)
      have HS := hidd (tot_take_succ pl k hlt)
      obtain ⟨s, hs⟩ : ∃ s, pl.getD k noG = s := ⟨_, rfl⟩
      rw [hs] at e1 HS hcn
      obtain ⟨c, p⟩ := s
      obtain ⟨t, ht⟩ : ∃ t, tot (pl.take k) = t := ⟨_, rfl⟩
      rw [ht] at t1 t2 HS ⊢
      obtain ⟨c1, c2⟩ := hcn
      have c1' : 1 ≤ c := c1
      have c2' : c ≤ 60 := c2
      have i1 : (0 : Int) ≤ (k : Int) := by omega
      have i2 : (k : Int) < (pl.length : Int) := by omega
      have hBs := hB.size
      clear hs ht hp hpc hpn ha
      go_wp2
      go_roundw
      case rel => exact ⟨k + 1, by omega, by go_num, by rw [HS.out], hB.alloc hB.size _⟩
      case measure => simp [intOf]; omega
    · have HE : Hid (tot (pl.take k) = tot pl) := by show _ = _; rw [List.take_of_length_le (by omega)]
      clear ha
      go_wp2
      go_ret
      exact ⟨ret_int HE.out, hB⟩
set_option maxHeartbeats 400000 in
theorem c_PlanDegree (v : Value) (pl : List Seg) (w : World) (ha : RdP w v pl) (hx : pl.length ≤ 1099511627776) (hpx : ∀ s ∈ pl, s.2.length ≤ 1099511627776) (hv : planB pl = true) :
    Calls Try.prog 17 #[v] w fun e w' => e = .returned (.int .i64 (degM pl)) ∧ Below w.heap.size w w' := by
  have hpv := c_impl_PlanValid v pl w ha hx hpx
  rw [hv] at hpv
  have hl := planB_len hv
  have HPX := hidd hpx
  obtain ⟨a, cap, rfl, hcap⟩ := ha.form
  clear hv hpx hx
  go_enter Try.func17, Try.ntmps17
  go_wp2_with fail
  refine hpv.mono ?_
  rintro e w1 ⟨rfl, hB1⟩
  clear hpv
  go_wp2
  go_loopw [3, 11] (fun r i wr => ∃ k : Nat, k ≤ pl.length ∧ i = .int .i64 k ∧ r = .int .i64 (degM (pl.take k)) ∧ Below w.heap.size w wr) (fun _ i _ => pl.length - (intOf i).toNat)
  case atStart => exact ⟨0, by omega, rfl, rfl, hB1⟩
  case round =>
    obtain ⟨k, hk, rfl, rfl, hB⟩ := hrel
    clear hB1
    by_cases hlt : k < pl.length
    · obtain ⟨b, o, pa, pn, pc, rfl, hb, e1, e2, hp, hpc, hpn⟩ := ha.cell hB hlt
      have HS := hidd (degM_take_succ pl k hlt)
      have hpl := HPX.out (pl.getD k noG) (by simp [List.getD, hlt])
      obtain ⟨s, hs⟩ : ∃ s, pl.getD k noG = s := ⟨_, rfl⟩
      rw [hs] at e1 HS hp hpl
      obtain ⟨c, p⟩ := s
      obtain ⟨t, ht⟩ : ∃ t, degM (pl.take k) = t := ⟨_, rfl⟩
      rw [ht] at HS ⊢
      have i1 : (0 : Int) ≤ (k : Int) := by omega
      have i2 : (k : Int) < (pl.length : Int) := by omega
      have hBa : Below w.heap.size w (wr.alloc (.cells #[.int .i64 c, .slice pa pn pc] 31)) := hB.alloc hB.size _
      have HD := hidd (c_DegreeOf (.slice pa pn pc) p _ (hp.kept hBa) (CapOk_of hpc) hpl)
      obtain ⟨d, hd⟩ : ∃ d, degP p = d := ⟨_, rfl⟩
      have HS2 : Hid (degM (pl.take (k + 1)) = max t d) := by show _ = _; rw [HS.out, ← hd]
      rw [hd] at HD
      obtain ⟨m, hm⟩ : ∃ m, max t d = m := ⟨_, rfl⟩
      have HM := hidd hm
      clear hs ht hp hpc hpn ha hB hpl hd HS hm
      go_wp2_with fail
      refine HD.out.mono ?_
      rintro e w2 ⟨rfl, hB2⟩
      have HB := hidd (bthen hBa hB2)
      clear hB2 hBa HD
      go_wp2
      all_goals
        go_roundw
        case rel => exact ⟨k + 1, by omega, by go_num, by rw [HS2.out]; first | rfl | (congr 1; omega), HB.out⟩
        case measure => simp [intOf]; omega
    · have HE : Hid (degM (pl.take k) = degM pl) := by show _ = _; rw [List.take_of_length_le (by omega)]
      clear ha
      go_wp2
      go_ret
      exact ⟨ret_int HE.out, hB⟩
end Go.Proofs.Ytkfejnifbkgihaa
