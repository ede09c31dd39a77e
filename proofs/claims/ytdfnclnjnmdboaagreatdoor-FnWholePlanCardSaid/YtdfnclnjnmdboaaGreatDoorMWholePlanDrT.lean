/- Lemmas and contracts for WholePlan (DrT DrP): plain words on memory, contracts of the functions that the law reaches. No condition but what each states. -/
import Derived.Test.YtdfnclnjnmdboaaGreatDoorMWholePlanPlan6
import Derived.Test.YtdfnclnjnmdboaaGreatDoorMWholePlanEnt
namespace Go.Proofs.YtdfnclnjnmdboaaGreatDoor
set_option linter.unusedVariables false
open Go.RowKit

theorem litI (w : World) (xs : List Int) (n : Nat) (hn : xs.length = n) (hx : n ≤ 1000) : OwnI (w.alloc (.cells (xs.map (Value.int .i64)).toArray 3)) w.heap.size (.slice (some ⟨w.heap.size, 0, none⟩) n n) xs := by
  subst hn
  exact ⟨by simp, .inr ⟨w.heap.size, xs.length, (xs.map (Value.int .i64)).toArray, rfl, Nat.le_refl _, heap_alloc_new w _, Nat.le_refl _, by simp only [maxLen]; omega, by simp, by simp [List.take_of_length_le]⟩⟩
theorem made1I (w : World) (x : Int) : OwnI (w.alloc (.cells #[.int .i64 x] 3)) w.heap.size (.slice (some ⟨w.heap.size, 0, none⟩) 1 1) [x] := litI w [x] 1 rfl (by decide)
theorem apart_new {w : World} {b e s n : Nat} {v : Value} {xs : List Value} (h : w.ownsRow b e s v n xs) (k c : Nat) : v.ownBlock = none ∨ v.ownBlock ≠ (Value.slice (some ⟨w.heap.size, 0, none⟩) k c).ownBlock := by
  cases hv : v.ownBlock with
  | none => exact .inl rfl
  | some j =>
    refine .inr (fun e => ?_)
    have := (h.lt j hv).2
    simp [Value.ownBlock] at e
    omega
theorem grown_alloc {w0 w : World} {g : Nat} (h : w0.grownBy w (some g)) (o : Obj) : w0.grownBy (w.alloc o) (some g) := grownBy_trans h (World.grownBy_alloc _ _ _)
/-- small numbers, as the drawn ones are -/
def smallC (p : List Int) : Prop := ∀ x ∈ p, -100 ≤ x ∧ x ≤ 100
theorem smallC.ok {p : List Int} (h : smallC p) (hl : p.length ≤ 7) : evalOk p := ⟨hl, fun x hx => by have := h x hx; omega⟩

set_option maxRecDepth 20000 in
set_option maxHeartbeats 1600000 in
theorem c_l5Table (g P : Nat) (w : World) (h : IsRdB w g P) (hp : P ≤ 900000) :
    Calls Tryz.prog 73 #[.pointer (some ⟨g, 0, none⟩)] w (DrawRow w g (P + 30) fun xs => 1 ≤ xs.length ∧ xs.length ≤ 30) := by
  have hgw := h.lt
  have hgw2 : ∀ k, (some g : Option Nat) = some k → k < w.heap.size := fun k hk => by cases hk; exact hgw
  have HGW := hidd hgw2
  have hs0 := madeP0 w
  go_enter Tryz.func73, Tryz.ntmps73
  go_wp2_with fail
  refine (d_pick g P _ _ (h.alloc _) (by omega)).mono ?_
  rintro e w1 ⟨n, rfl, ⟨hn0, hn1⟩, hr1, hg1⟩
  have ho1 := ownsRow_kept_new hs0 hg1 hgw2
  have hG1 := grownBy_trans (World.grownBy_alloc w _ (some g)) hg1
  obtain ⟨N, rfl⟩ : ∃ N : Nat, n = N := ⟨n.toNat, by omega⟩
  have hN2 : N ≤ 2 := by omega
  clear hg1 hs0 hn1 hgw2 h
  go_wp2
  go_loopw [3, 4, 5, 6] (fun v i _ _ wr => ∃ (j : Nat) (L : List Int), j ≤ N + 1 ∧ i = .int .i64 ((N : Int) + 1 - j) ∧ j ≤ L.length ∧ L.length ≤ 7 * j ∧ OwnI wr w.heap.size v L ∧ IsRdB wr g (P + 1 + 6 * j) ∧ w.grownBy wr (some g)) (fun _ i _ _ _ => (intOf i).toNat)
  case atStart => exact ⟨0, [], by omega, by go_num, Nat.zero_le _, Nat.le_refl _, ho1, hr1, hG1⟩
  case round =>
    obtain ⟨j, L, hj, rfl, hL1, hL2, ho, hr, hG⟩ := hrel
    clear ho1 hr1 hG1
    by_cases hlt : j < N + 1
    · obtain ⟨m, hm⟩ : ∃ m : Nat, N + 1 - j = m + 1 := ⟨N - j, by omega⟩
      have hmi : (N : Int) + 1 - j = (m : Int) + 1 := by omega
      rw [hmi]
      have hj2 : j ≤ 2 := by omega
      go_wp2_with fail
      refine (d_pick g _ _ _ hr (by omega)).mono ?_
      rintro e w2 ⟨x, rfl, ⟨hx0, hx1⟩, hr2, hg2⟩
      have ho2 := ownsRow_kept_new ho hg2 HGW.out
      have hG2 := grownBy_trans hG hg2
      have hx79 : x ≤ 79 := by omega
      clear hg2 ho hr hG hx1
      go_wp2_with fail
      have hs2 := hG2.size
      have hp3 := made1I w2 (x - 40)
      have ho3 := ho2.alloc (.cells #[.int .i64 (x - 40)] 3)
      have hG3 := grown_alloc hG2 (.cells #[.int .i64 (x - 40)] 3)
      refine (d_pick g _ _ _ (hr2.alloc _) (by omega)).mono ?_
      rintro e w4 ⟨kk, rfl, ⟨hk0, hk1⟩, hr4, hg4⟩
      have ho4 := ownsRow_kept_new ho3 hg4 HGW.out
      have hp4 := ownsRow_kept_new (ownsRow_mono hp3 hs2) hg4 HGW.out
      have hG4 := grownBy_trans hG3 hg4
      obtain ⟨K, rfl⟩ : ∃ K : Nat, kk = K := ⟨kk.toNat, by omega⟩
      have hK3 : K ≤ 3 := by omega
      have hp4' : OwnI w4 w.heap.size (.slice (some ⟨w2.heap.size, 0, none⟩) 1 1) [x - 40] := hp4
      have hc4 : smallC [x - 40] := fun y hy => by simp at hy; omega
      have hap : u3.ownBlock = none ∨ u3.ownBlock ≠ (Value.slice (some ⟨w2.heap.size, 0, none⟩) 1 1).ownBlock := apart_new ho2 1 1
      clear hg4 ho3 hp3 hp4 hG3 hG2 ho2 hr2 hk1
      go_wp2
      obtain ⟨wo, hwo⟩ : ∃ wo : World, wo = wr := ⟨_, rfl⟩
      clear hwo
      go_loopw [5, 6] (fun pv i wr => ∃ (q : Nat) (pq : List Int), q ≤ K ∧ i = .int .i64 ((K : Int) - q) ∧ pq.length = 1 + q ∧ smallC pq ∧ OwnI wr w.heap.size pv pq ∧ OwnI wr w.heap.size u3 L ∧ (u3.ownBlock = none ∨ u3.ownBlock ≠ pv.ownBlock) ∧ IsRdB wr g (P + 1 + 6 * j + 2 + q) ∧ w.grownBy wr (some g)) (fun _ i _ => (intOf i).toNat)
      case atStart => exact ⟨0, [x - 40], by omega, by go_num, rfl, hc4, hp4', ho4, hap, hr4, hG4⟩
      case round =>
        obtain ⟨q, pq, hq, rfl, hpl, hpc, hpo, ho, hap, hr, hG⟩ := hrel
        clear hc4 hp4' ho4 hr4 hG4
        have HPC := hidd hpc
        clear hpc
        by_cases hlq : q < K
        · obtain ⟨m2, hm2⟩ : ∃ m : Nat, K - q = m + 1 := ⟨K - q - 1, by omega⟩
          have hmi2 : (K : Int) - q = (m2 : Int) + 1 := by omega
          rw [hmi2]
          go_wp2_with fail
          refine (d_pick g _ _ _ hr (by omega)).mono ?_
          rintro e w5 ⟨y, rfl, ⟨hy0, hy1⟩, hr5, hg5⟩
          have ho5 := ownsRow_kept_new ho hg5 HGW.out
          have hp5 := ownsRow_kept_new hpo hg5 HGW.out
          have hG5 := grownBy_trans hG hg5
          have hs5 := hG5.size
          have hy23 : y ≤ 23 := by omega
          have hplen : pq.length ≤ 7 := by omega
          clear hg5 ho hpo hr hG hy1
          go_wp2_with (at_builtin; refine app1at 32 3 Tryz.underlying32 infoInt rfl (by decide) rfl _ _ rfl w.heap.size _ _ _ rfl hp5 rfl rfl ?c1 ?c2 ?_)
          case c1 => omega
          case c2 => exact hs5
          intro v' w6 ho6 hg6 hin6
          have hpo6 : OwnI w6 w.heap.size v' (pq ++ [y - 12]) := OwnI_snoc' hpl.symm ho6
          have hL6 := apart_app ho5 hap hin6 hg6
          have HO : Hid (OwnI w6 w.heap.size v' (pq ++ [y - 12]) ∧ OwnI w6 w.heap.size u3 L ∧ (u3.ownBlock = none ∨ u3.ownBlock ≠ v'.ownBlock) ∧ IsRdB w6 g (P + 1 + 6 * j + 2 + (q + 1)) ∧ w.grownBy w6 (some g)) :=
            ⟨hpo6, hL6.1, hL6.2, (hr5.below (below_grown hg6 (by omega) (fun jj hj => by have := (hp5.lt jj hj).1; omega))).mono (by omega), grown_new hG5 hg6 (fun jj hj => (hp5.lt jj hj).1)⟩
          have HC : Hid (smallC (pq ++ [y - 12])) := fun z hz => by
            rcases List.mem_append.1 hz with hz | hz
            · exact HPC.out z hz
            · simp at hz; omega
          have HL : Hid ((pq ++ [y - 12]).length = 1 + (q + 1)) := by show _ = _; simp; omega
          clear ho6 hg6 hin6 hpo6 hL6 ho5 hp5 hr5 hG5
          go_wp2
          go_roundw
          case rel => exact ⟨q + 1, pq ++ [y - 12], by omega, by go_num, HL.out, HC.out, HO.out.1, HO.out.2.1, HO.out.2.2.1, HO.out.2.2.2.1, HO.out.2.2.2.2⟩
          case measure => simp [intOf] <;> omega
        · have hqK : (K : Int) - q = 0 := by omega
          rw [hqK]
          have hplen : pq.length ≤ 4 := by omega
          have hok := HPC.out.ok (by omega)
          go_wp2_with fail
          refine (d_pick g _ _ _ hr (by omega)).mono ?_
          rintro e w5 ⟨y, rfl, ⟨hy0, hy1⟩, hr5, hg5⟩
          have ho5 := ownsRow_kept_new ho hg5 HGW.out
          have hp5 := ownsRow_kept_new hpo hg5 HGW.out
          have hG5 := grownBy_trans hG hg5
          obtain ⟨Y, rfl⟩ : ∃ Y : Nat, y = Y := ⟨y.toNat, by omega⟩
          have hY6 : Y ≤ 6 := by omega
          have HLV : Hid (Calls Tryz.prog 64 #[u5, (.int .i64 (0)), (.int .i64 (1)), .int .i64 (1 + (Y : Int))] w5 (FreshI w5 (vals pq (Y + 1)))) := by
            have := c_l2Values u5 pq 0 (Y + 1) w5 (owns_RdI hp5) hok (by omega)
            have e : (((Y + 1 : Nat)) : Int) = 1 + (Y : Int) := by push_cast; omega
            rw [e] at this
            exact this
          have HVL := hidd (vals_len pq (Y + 1))
          obtain ⟨V, hV⟩ : ∃ V, vals pq (Y + 1) = V := ⟨_, rfl⟩
          rw [hV] at HLV HVL
          have hap2 := hap
          clear hg5 ho hpo hr hG hy1 hV hok hap hp5
          go_wp2_with fail
          refine HLV.out.mono ?_
          rintro e w6 ⟨u, rfl, hu, hB6⟩
          have ho6 := ownsRow_kept_below ho5 hB6
          have hr6 := hr5.kept hB6
          have hG6 : w.grownBy w6 (some g) := grownBy_trans hG5 ⟨hB6.os, hB6.tape, hB6.output, hB6.size, fun i hi _ => hB6.block i hi⟩
          have hs6 := hG6.size
          have hVl : V.length ≤ 7 := by have := HVL.out; omega
          have hLl : L.length ≤ 30 := by omega
          have hu6 := RdN_ints (owns_RdI hu)
          clear hB6 hu ho5 hr5 hG5
          go_wp2_with (at_builtin; refine appN 32 3 Tryz.underlying32 infoInt rfl (by decide) (by decide) rfl _ _ rfl w.heap.size _ _ _ rfl ho6 _ _ _ rfl hu6 (one_ints V) ?c1 ?c2 ?_)
          case c1 => omega
          case c2 => exact hs6
          intro v7 w7 ho7 hg7 _
          have HO : Hid (OwnI w7 w.heap.size v7 (L ++ V) ∧ IsRdB w7 g (P + 1 + 6 * (j + 1)) ∧ w.grownBy w7 (some g)) :=
            ⟨OwnI_app' rfl rfl ho7, (hr6.below (below_grown hg7 (by omega) (fun jj hj => by have := (ho6.lt jj hj).1; omega))).mono (by omega), grown_new hG6 hg7 (fun jj hj => (ho6.lt jj hj).1)⟩
          have HL : Hid (j + 1 ≤ (L ++ V).length ∧ (L ++ V).length ≤ 7 * (j + 1)) := by
            have := HVL.out
            refine ⟨?_, ?_⟩ <;> simp <;> omega
          clear ho7 hg7 ho6 hu6 hr6 hG6
          go_wp2
          go_roundw
          case rel => exact ⟨j + 1, L ++ V, by omega, by go_num, HL.out.1, HL.out.2, HO.out.1, HO.out.2.1, HO.out.2.2⟩
          case measure => simp [intOf] <;> omega
    · have HO : Hid (OwnI wr w.heap.size u3 L ∧ IsRdB wr g (P + 19) ∧ w.grownBy wr (some g) ∧ 1 ≤ L.length ∧ L.length ≤ 21) := ⟨ho, hr.mono (by omega), hG, by omega, by omega⟩
      have hjN : (N : Int) + 1 - j = 0 := by omega
      rw [hjN]
      have hLn : 1 ≤ L.length := by omega
      have hLn2 : L.length ≤ 30 := by omega
      have hr' := hr.mono (show P + 1 + 6 * j ≤ P + 19 by omega)
      clear HO hr hL1 hL2
      go_wp2_with fail
      refine (d_pick g _ _ _ hr' (by omega)).mono ?_
      rintro e w2 ⟨x, rfl, ⟨hx0, hx1⟩, hr2, hg2⟩
      have ho2 := ownsRow_kept_new ho hg2 HGW.out
      have hG2 := grownBy_trans hG hg2
      clear hg2 ho hr' hG hx1
      by_cases hx : x = 0
      · subst hx
        obtain ⟨b, cap, rfl, hb⟩ : ∃ b cap, u3 = .slice (some ⟨b, 0, none⟩) L.length cap ∧ w.heap.size ≤ b := by
          have ho0 := ho2
          obtain ⟨_, ⟨_, h0⟩ | ⟨b, cap, cur, rfl, hb, _⟩⟩ := ho0
          · omega
          · exact ⟨b, cap, rfl, hb⟩
        go_wp2_with fail
        refine (d_pick g _ _ _ hr2 (by omega)).mono ?_
        rintro e w3 ⟨kk, rfl, ⟨hk0, hk1⟩, hr3, hg3⟩
        have ho3 := ownsRow_kept_new ho2 hg3 HGW.out
        have hG3 := grownBy_trans hG2 hg3
        obtain ⟨k, rfl⟩ : ∃ k : Nat, kk = k := ⟨kk.toNat, by omega⟩
        have hk : k < L.length := by omega
        clear hg3 ho2 hr2 hG2 hk1
        go_wp2_with fail
        refine (d_pick g _ _ _ hr3 (by omega)).mono ?_
        rintro e w4 ⟨z, rfl, _, hr4, hg4⟩
        have ho4 := ownsRow_kept_new ho3 hg4 HGW.out
        have hG4 := grownBy_trans hG3 hg4
        clear hg4 ho3 hr3 hG3
        have e1 : ∃ u, w4.cell? ⟨b, k, none⟩ = some u := by
          rw [ho4.cellAt k (by omega)]
          exact ⟨_, List.getElem?_eq_getElem (by simp; omega)⟩
        obtain ⟨u, e1⟩ := e1
        have e2 := ho4.frozenAt k
        have ho5 := (ho4.stored k (.int .i64 z)).1
        rw [← List.map_set] at ho5
        have HF : Hid (DrawRow w g (P + 30) (fun xs => 1 ≤ xs.length ∧ xs.length ≤ 30) (.returned (.slice (some ⟨b, 0, none⟩) L.length cap)) (w4.setCell ⟨b, k, none⟩ (.int .i64 z))) := by
          refine ⟨_, L.set k z, rfl, ?_, ?_, (hr4.below ((Below.refl _ _).setCell (p := ⟨b, k, none⟩) (by show g + 1 ≤ b; omega) _)).mono (by omega), grown_new hG4 (grownBy_setCell w4 b k _) (fun j hj => by cases hj; exact hb)⟩
          · unfold OwnI; rw [List.length_set]; exact ho5
          · show 1 ≤ (L.set k z).length ∧ (L.set k z).length ≤ 30
            rw [List.length_set]; exact ⟨hLn, hLn2⟩
        clear ho4 ho5 hr4 hG4
        go_wp2
        go_ret
        exact HF.out
      · have hx' : (x == 0) = false := beq_eq_false_iff_ne.2 hx
        have HF : Hid (DrawRow w g (P + 30) (fun xs => 1 ≤ xs.length ∧ xs.length ≤ 30) (.returned u3) w2) :=
          ⟨_, L, rfl, ho2, ⟨hLn, hLn2⟩, hr2.mono (by omega), hG2⟩
        clear ho2 hr2 hG2 hx
        go_wp2
        go_ret
        exact HF.out
end Go.Proofs.YtdfnclnjnmdboaaGreatDoor

namespace Go.Proofs.YtdfnclnjnmdboaaGreatDoor
set_option linter.unusedVariables false
open Go.RowKit

theorem PolysO.keptNew {w w' : World} {base : Nat} {rs : List RSeg} {pl : List Seg} {row : Option Nat} (h : PolysO w base rs pl) (hg : w.grownBy w' row) (hr : ∀ k, row = some k → k < base) : PolysO w' base rs pl :=
  ⟨h.1, fun k hk => ⟨(h.2 k hk).1, ownsRow_kept_new (h.2 k hk).2 hg hr⟩⟩
theorem OwP.keptNew {w w' : World} {base : Nat} {v : Value} {pl : List Seg} {row : Option Nat} (h : OwP w base v pl) (hg : w.grownBy w' row) (hr : ∀ k, row = some k → k < base) : OwP w' base v pl :=
  let ⟨rs, h1, h2, h3⟩ := h; ⟨rs, ownsRow_kept_new h1 hg hr, h2.keptNew hg hr, h3⟩
theorem segCells_set1 : ∀ (rs : List RSeg) (k : Nat) (c : Int), k < rs.length → segCells (rs.set k (c, (rs.getD k noR).2)) = (segCells rs).set (k * 2) (.int .i64 c)
  | [], k, c, h => by simp at h
  | s :: rs, 0, c, h => by simp [segCells]
  | s :: rs, k + 1, c, h => by
    have := segCells_set1 rs k c (by simpa using h)
    rw [show (k + 1) * 2 = k * 2 + 1 + 1 by omega]
    simp only [List.set_cons_succ, segCells, List.getD_cons_succ]
    rw [this]
theorem segCells_set2 : ∀ (rs : List RSeg) (k : Nat) (v : Value), k < rs.length → segCells (rs.set k ((rs.getD k noR).1, v)) = (segCells rs).set (k * 2 + 1) v
  | [], k, c, h => by simp at h
  | s :: rs, 0, c, h => by simp [segCells]
  | s :: rs, k + 1, c, h => by
    have := segCells_set2 rs k c (by simpa using h)
    rw [show (k + 1) * 2 + 1 = k * 2 + 1 + 1 + 1 by omega]
    simp only [List.set_cons_succ, segCells, List.getD_cons_succ]
    rw [this]
theorem getD_setR (rs : List RSeg) (k i : Nat) (s : RSeg) (h : k < rs.length) : (rs.set k s).getD i noR = if i = k then s else rs.getD i noR := by
  by_cases e : i = k
  · subst e; simp [List.getD, h]
  · simp [List.getD, e, List.getElem?_set_ne (Ne.symm e)]
theorem getD_setG (rs : List Seg) (k i : Nat) (s : Seg) (h : k < rs.length) : (rs.set k s).getD i noG = if i = k then s else rs.getD i noG := by
  by_cases e : i = k
  · subst e; simp [List.getD, h]
  · simp [List.getD, e, List.getElem?_set_ne (Ne.symm e)]
/-- a segment is set -/
theorem OwP_set {w w' : World} {base gg cap k : Nat} {rs : List RSeg} {pl : List Seg} {c : Int} {p : List Int} {pv : Value} (h1 : w.ownsRow base 44 2 (.slice (some ⟨gg, 0, none⟩) rs.length cap) rs.length (segCells rs))
    (h2 : PolysO w base rs pl) (h3 : ApartR (rs.set k (c, pv))) (hk : k < rs.length) (hp : OwnI w base pv p) (hg : w.grownBy w' (some gg))
    (ho : w'.ownsRow base 44 2 (.slice (some ⟨gg, 0, none⟩) rs.length cap) rs.length (segCells (rs.set k (c, pv)))) : OwP w' base (.slice (some ⟨gg, 0, none⟩) rs.length cap) (pl.set k (c, p)) := by
  have hl := h2.1
  refine ⟨rs.set k (c, pv), by rw [List.length_set]; exact ho, ⟨by simp [hl], fun i hi => ?_⟩, h3⟩
  rw [List.length_set] at hi
  rw [getD_setR _ _ _ _ hk, getD_setG _ _ _ _ (by omega)]
  have hg' : w.grownBy w' (Value.slice (some ⟨gg, 0, none⟩) rs.length cap).ownBlock := hg
  by_cases e : i = k
  · rw [if_pos e, if_pos e]
    exact ⟨rfl, World.ownsRow.kept hp hg' (seg_apart hp h1)⟩
  · rw [if_neg e, if_neg e]
    exact (h2.grown h1 hg').2 i hi
theorem ApartR.set {rs : List RSeg} (h : ApartR rs) {k : Nat} {c : Int} {pv : Value} (hk : k < rs.length) (hp : ∀ i, i < rs.length → i ≠ k → (pv.ownBlock = none ∨ pv.ownBlock ≠ (rs.getD i noR).2.ownBlock)) : ApartR (rs.set k (c, pv)) := by
  intro i j hi hj hne
  rw [List.length_set] at hi hj
  rw [getD_setR _ _ _ _ hk, getD_setR _ _ _ _ hk]
  by_cases e : i = k
  · rw [if_pos e, if_neg (by omega)]
    exact hp j hj (by omega)
  · rw [if_neg e]
    by_cases e2 : j = k
    · rw [if_pos e2]
      exact apart_comm (hp i hi e)
    · rw [if_neg e2]; exact h i j hi hj hne
/-- bounds of drawn plans -/
def PlD (pl : List Seg) : Prop := pl.length ≤ 62 ∧ ∀ s ∈ pl, s.2.length ≤ 7
theorem PlD.set {pl : List Seg} (h : PlD pl) (k : Nat) {s : Seg} (hs : s.2.length ≤ 7) : PlD (pl.set k s) :=
  ⟨by rw [List.length_set]; exact h.1, fun x hx => by
    rcases List.mem_or_eq_of_mem_set hx with hx | rfl
    · exact h.2 x hx
    · exact hs⟩
def DrawPl (w0 : World) (g P : Nat) (Q : List Seg → Prop) (e : Ending) (w' : World) : Prop :=
  ∃ v pl, e = .returned v ∧ OwP w' w0.heap.size v pl ∧ PlD pl ∧ Q pl ∧ IsRdB w' g P ∧ w0.grownBy w' (some g)
/-- a written plan of one segment -/
theorem litP (w : World) (base : Nat) (hb : base ≤ w.heap.size) (c : Int) (xs : List Int) (n : Nat) (hn : xs.length = n) (hx : n ≤ 1000) :
    OwP ((w.alloc (.cells (xs.map (Value.int .i64)).toArray 3)).alloc (.cells #[.int .i64 c, .slice (some ⟨w.heap.size, 0, none⟩) n n] 44)) base (.slice (some ⟨w.heap.size + 1, 0, none⟩) 1 1) [(c, xs)] := by
  have hp := litI w xs n hn hx
  refine ⟨[(c, .slice (some ⟨w.heap.size, 0, none⟩) n n)], ?_, ⟨rfl, fun k hk => ?_⟩, fun i j hi hj hne => by simp at hi hj; omega⟩
  · have := heap_alloc_new (w.alloc (.cells (xs.map (Value.int .i64)).toArray 3)) (.cells #[.int .i64 c, .slice (some ⟨w.heap.size, 0, none⟩) n n] 44)
    refine ⟨rfl, .inr ⟨w.heap.size + 1, 1, #[.int .i64 c, .slice (some ⟨w.heap.size, 0, none⟩) n n], rfl, by omega, ?_, Nat.le_refl _, by decide, rfl, rfl⟩⟩
    simpa using this
  · obtain rfl : k = 0 := by simp at hk; omega
    exact ⟨rfl, ownsRow_mono (World.ownsRow.alloc hp _) hb⟩

theorem gr_ne {xs : List Int} {d : Int} (h : grB xs d = true) : 1 ≤ (grL xs d).length := by
  unfold grL
  rw [if_pos h]
  unfold grB at h
  rw [Bool.and_eq_true] at h
  obtain ⟨hs, h1⟩ := smallB_iff.1 h.1
  have hd := inB_iff.1 h.2
  exact (planB_iff.1 (gr_plan hd.1 hd.2 hs h1).1).1
theorem below_grownS {w w' : World} {g : Nat} (h : Below w.heap.size w w') : w.grownBy w' (some g) := ⟨h.os, h.tape, h.output, h.size, fun i hi _ => h.block i hi⟩
set_option maxRecDepth 20000 in
set_option maxHeartbeats 800000 in
theorem c_l5Plan (g P : Nat) (w : World) (h : IsRdB w g P) (hp : P ≤ 900000) :
    Calls Tryz.prog 34 #[.pointer (some ⟨g, 0, none⟩)] w (DrawPl w g (P + 40) fun pl => 1 ≤ pl.length ∧ pl.length ≤ 61) := by
  have hgw := h.lt
  have HGW : Hid (∀ k, (some g : Option Nat) = some k → k < w.heap.size) := fun k hk => by cases hk; exact hgw
  go_enter Tryz.func34, Tryz.ntmps34
  go_wp2_with fail
  refine (c_l5Table g P w h hp).mono ?_
  rintro e w1 ⟨v1, xs, rfl, ho1, ⟨hx1, hx2⟩, hr1, hg1⟩
  clear h
  go_wp2_with fail
  refine (d_pick g _ _ _ hr1 (by omega)).mono ?_
  rintro e w2 ⟨d, rfl, ⟨hd0, hd1⟩, hr2, hg2⟩
  have ho2 := ownsRow_kept_new ho1 hg2 HGW.out
  have hG2 := grownBy_trans hg1 hg2
  have HC := hidd (c_spec_GreedyPlan v1 xs d w2 (owns_RdI ho2) (owns_CapOk ho2) (by omega))
  have hgl := grL_len xs d
  have hgm := grL_mem xs d
  have HNE : Hid (grB xs d = true → 1 ≤ (grL xs d).length) := gr_ne
  have hs2 := hG2.size
  obtain ⟨pl, hpl⟩ : ∃ pl, grL xs d = pl := ⟨_, rfl⟩
  rw [hpl] at hgl hgm HC HNE
  have HGM := hidd hgm
  clear ho1 ho2 hr1 hg1 hg2 hd1 hpl hgm
  cases hb : grB xs d
  · rw [hb] at HC
    clear hb
    go_wp2_with fail
    refine HC.out.mono ?_
    rintro e w3 ⟨u, rfl, ho3, hB3⟩
    have hr3 := hr2.kept hB3
    have hG3 := grownBy_trans hG2 (below_grownS (g := g) hB3)
    have hs3 : w.heap.size ≤ w3.heap.size := hG3.size
    have HF : Hid (DrawPl w g (P + 40) (fun pl => 1 ≤ pl.length ∧ pl.length ≤ 61) (.returned (.slice (some ⟨w3.heap.size + 1, 0, none⟩) 1 1)) ((w3.alloc (.cells #[.int .i64 1, .int .i64 2] 3)).alloc (.cells #[.int .i64 3, .slice (some ⟨w3.heap.size, 0, none⟩) 2 2] 44))) :=
      ⟨_, [(3, [1, 2])], rfl, litP w3 w.heap.size hs3 3 [1, 2] 2 rfl (by decide), ⟨by simp, fun s hs => by simp at hs; rw [hs]; simp⟩, by simp, ((hr3.alloc _).alloc _).mono (by omega), grown_alloc (grown_alloc hG3 _) _⟩
    clear ho3 hB3 hr3 hG3 hr2 hG2 HC
    go_wp2
    go_ret
    exact HF.out
  · have hne := HNE.out hb
    rw [hb] at HC
    clear hb
    go_wp2_with fail
    refine HC.out.mono ?_
    rintro e w3 ⟨u, rfl, ho3, hB3⟩
    have hr3 := hr2.kept hB3
    have hG3 := grownBy_trans hG2 (below_grownS (g := g) hB3)
    have ho3' := ho3.mono hs2
    clear hr2 hG2 hB3 ho3 HC
    go_wp2_with fail
    refine (d_pick g _ _ _ hr3 (by omega)).mono ?_
    rintro e w4 ⟨x, rfl, ⟨hx0, hx1'⟩, hr4, hg4⟩
    have ho4 := ho3'.keptNew hg4 HGW.out
    have hG4 := grownBy_trans hG3 hg4
    clear hr3 hG3 hg4 ho3' hx1'
    by_cases hx : x = 0
    · subst hx
      obtain ⟨ua, uc, rfl, huc⟩ := ho4.form
      go_wp2_with fail
      refine (d_pick g _ _ _ hr4 (by omega)).mono ?_
      rintro e w5 ⟨i, rfl, ⟨hi0, hi1⟩, hr5, hg5⟩
      have ho5 := ho4.keptNew hg5 HGW.out
      have hG5 := grownBy_trans hG4 hg5
      have hib : i ≤ 62 := by omega
      clear hr4 hG4 hg5 ho4 hi1
      go_wp2_with fail
      refine (d_pick g _ _ _ hr5 (by omega)).mono ?_
      rintro e w6 ⟨t, rfl, ⟨ht0, ht1⟩, hr6, hg6⟩
      have ho6 := ho5.keptNew hg6 HGW.out
      have hG6 := grownBy_trans hG5 hg6
      have htb : t ≤ 2 := by omega
      have hs6 := hG6.size
      have HS := hidd (c_spec_SplitSegment _ pl i (1 + t) w6 ho6.rd (by omega) (fun s hs => by have := HGM.out s hs; omega) (by omega) (by omega))
      have HSL := hidd (spL_len pl i (1 + t))
      have HSM := hidd (spL_mem i (1 + t) HGM.out)
      have HSN : Hid (spB pl i (1 + t) = true → 1 ≤ (spL pl i (1 + t)).length) := fun hb => by
        show 1 ≤ (spL pl i (1 + t)).length
        unfold spL
        rw [if_pos hb, spE_len (spB_iff hb).2.2.1]; omega
      obtain ⟨pl2, hpl2⟩ : ∃ pl2, spL pl i (1 + t) = pl2 := ⟨_, rfl⟩
      rw [hpl2] at HS HSL HSM HSN
      clear hr5 hG5 hg6 ho5 ht1 hpl2
      cases hb2 : spB pl i (1 + t)
      · rw [hb2] at HS
        clear hb2
        go_wp2_with fail
        refine HS.out.mono ?_
        rintro e w7 ⟨u7, rfl, ho7, hB7⟩
        have HF : Hid (DrawPl w g (P + 40) (fun pl => 1 ≤ pl.length ∧ pl.length ≤ 61) (.returned (.slice ua pl.length uc)) w7) :=
          ⟨_, pl, rfl, ho6.kept hB7, ⟨by omega, HGM.out⟩, ⟨hne, by omega⟩, (hr6.kept hB7).mono (by omega), grownBy_trans hG6 (below_grownS hB7)⟩
        clear ho7 hB7 hr6 hG6 ho6 HS
        go_wp2
        go_ret
        exact HF.out
      · have hn2 := HSN.out hb2
        rw [hb2] at HS
        clear hb2
        go_wp2_with fail
        refine HS.out.mono ?_
        rintro e w7 ⟨u7, rfl, ho7, hB7⟩
        have HF : Hid (DrawPl w g (P + 40) (fun pl => 1 ≤ pl.length ∧ pl.length ≤ 61) (.returned u7) w7) :=
          ⟨_, pl2, rfl, ho7.mono hs6, ⟨by have := HSL.out; omega, HSM.out⟩, ⟨hn2, by have := HSL.out; omega⟩, (hr6.kept hB7).mono (by omega), grownBy_trans hG6 (below_grownS hB7)⟩
        clear ho7 hB7 hr6 hG6 ho6 HS
        go_wp2
        go_ret
        exact HF.out
    · have hx' : (x == 0) = false := beq_eq_false_iff_ne.2 hx
      have HF : Hid (DrawPl w g (P + 40) (fun pl => 1 ≤ pl.length ∧ pl.length ≤ 61) (.returned u) w4) :=
        ⟨_, pl, rfl, ho4, ⟨by omega, HGM.out⟩, ⟨hne, by omega⟩, hr4.mono (by omega), hG4⟩
      clear ho4 hr4 hG4 hx
      go_wp2
      go_ret
      exact HF.out
end Go.Proofs.YtdfnclnjnmdboaaGreatDoor
