/- Lemmas and contracts for WholePlan (Plan10 Plan11): plain words on memory, contracts of the functions that the law reaches. No condition but what each states. -/
import Derived.Test.YtdfnclnjnmdboaaGreatDoorMWholePlanPlan9
import Derived.Test.YtdfnclnjnmdboaaGreatDoorMWholePlanPvP
namespace Go.Proofs.YtdfnclnjnmdboaaGreatDoor
set_option linter.unusedVariables false
open Go.RowKit

/-- the values of two neighbouring segments -/
def jnP (pl : List Seg) (i : Nat) : List Seg := (pl.take (i + 2)).drop i
def jnB (pl : List Seg) (i d : Int) : Bool := planB pl && inB d 0 6 && inB i 0 ((pl.length : Int) - 2) && runB (plV (jnP pl i.toNat)) d
def jnE (pl : List Seg) (i : Nat) : List Seg := pl.take i ++ [((pl.getD i noG).1 + (pl.getD (i + 1) noG).1, ip (plV (jnP pl i)))] ++ pl.drop (i + 2)
def jnPL (pl : List Seg) (i d : Int) : List Seg := if jnB pl i d = true then jnE pl i.toNat else []
theorem jnP_eq {pl : List Seg} {i : Nat} (h : i + 1 < pl.length) : jnP pl i = [pl.getD i noG, pl.getD (i + 1) noG] := by
  unfold jnP
  have e : (pl.take (i + 2)).drop i = (pl.drop i).take 2 := by rw [List.drop_take]; congr 1; omega
  rw [e, drop_consG pl i (by omega), drop_consG pl (i + 1) h]
  rfl
theorem jnP_all {f : Seg → Bool} {pl : List Seg} {i : Nat} (h : pl.all f = true) : (jnP pl i).all f = true :=
  List.all_eq_true.2 fun x hx => List.all_eq_true.1 h x (List.mem_of_mem_take (List.mem_of_mem_drop hx))
theorem jnP_plan {pl : List Seg} {i : Nat} (h : planB pl = true) (hi : i + 1 < pl.length) : planB (jnP pl i) = true := by
  obtain ⟨h1, h2, h3⟩ := planB_iff.1 h
  refine planB_iff.2 ⟨by rw [jnP_eq hi]; simp, jnP_all h2, ?_⟩
  have hc := segB_cnt pl h2
  have e : totG pl = totG (pl.take i) + (totG (jnP pl i) + totG (pl.drop (i + 2))) := by
    rw [← tot_append, ← tot_append]
    congr 1
    have e2 : jnP pl i ++ pl.drop (i + 2) = pl.drop i := by
      rw [jnP_eq hi, drop_consG pl i (by omega), drop_consG pl (i + 1) hi]; rfl
    rw [e2, List.take_append_drop]
  have a := (tot_bd (pl.take i) (List.all_eq_true.2 fun x hx => List.all_eq_true.1 hc x (List.mem_of_mem_take hx))).1
  have b := (tot_bd (pl.drop (i + 2)) (List.all_eq_true.2 fun x hx => List.all_eq_true.1 hc x (List.mem_of_mem_drop hx))).1
  omega
theorem jnP_len {pl : List Seg} {i : Nat} (h : pl.all cntB = true) (hi : i + 1 < pl.length) : ((plV (jnP pl i)).length : Int) = (pl.getD i noG).1 + (pl.getD (i + 1) noG).1 := by
  rw [plV_len _ (jnP_all h), jnP_eq hi]
  simp [totG]
theorem jn_no {pl : List Seg} {i d : Int} (h : jnB pl i d = false) : jnPL pl i d = [] := if_neg (by rw [h]; decide)
theorem Polys_lit1 {w : World} {c : Int} {v : Value} {p : List Int} (h : RdI w v p) (k : CapOk v) : Polys w [(c, v)] [(c, p)] :=
  ⟨rfl, fun i hi => by
    obtain rfl : i = 0 := by simp at hi; omega
    exact ⟨rfl, h, k⟩⟩
theorem RdR_lit1 (W : World) (c : Int) (v : Value) (t : TypeId) : RdR (W.alloc (.cells #[.int .i64 c, v] t)) (.slice (some ⟨W.heap.size, 0, none⟩) 1 1) [(c, v)] := by
  refine ⟨_, 1, rfl, Nat.le_refl _, .inr ⟨W.heap.size, 0, rfl, by simp, fun i hi => ?_⟩⟩
  match i, hi with
  | 0, _ => simp [go_sem, segCells]
  | 1, _ => simp [go_sem, segCells]
end Go.Proofs.YtdfnclnjnmdboaaGreatDoor

namespace Go.Proofs.YtdfnclnjnmdboaaGreatDoor
set_option linter.unusedVariables false
open Go.RowKit

theorem jnL_len (pl : List Seg) (i d : Int) : (jnPL pl i d).length ≤ pl.length + 1 := by
  unfold jnPL
  split
  · unfold jnE; simp; omega
  · simp
theorem jnB_iff {pl : List Seg} {i d : Int} (h : jnB pl i d = true) : planB pl = true ∧ inB d 0 6 = true ∧ 0 ≤ i ∧ i.toNat + 1 < pl.length ∧ runB (plV (jnP pl i.toNat)) d = true := by
  unfold jnB at h
  simp only [Bool.and_eq_true] at h
  obtain ⟨⟨⟨h1, h2⟩, h3⟩, h4⟩ := h
  have := inB_iff.1 h3
  exact ⟨h1, h2, this.1, by omega, h4⟩
theorem jnL_mem {pl : List Seg} {M : Nat} (i d : Int) (hM : 7 ≤ M) (h : ∀ s ∈ pl, s.2.length ≤ M) : ∀ s ∈ jnPL pl i d, s.2.length ≤ M := by
  unfold jnPL
  split
  · rename_i hb
    have hr := (polyB_iff (runB_iff (jnB_iff hb).2.2.2.2).2.2.2).2.1
    intro s hs
    unfold jnE at hs
    simp only [List.append_assoc, List.mem_append, List.mem_cons, List.not_mem_nil, or_false] at hs
    rcases hs with hs | rfl | hs
    · exact h s (List.mem_of_mem_take hs)
    · show (ip _).length ≤ M; omega
    · exact h s (List.mem_of_mem_drop hs)
  · intro s hs; cases hs
theorem PolysO.grown' {w w' : World} {base b2 : Nat} {v : Value} {n : Nat} {xs : List Value} {rs : List RSeg} {pl : List Seg} (h : PolysO w base rs pl) (ho : w.ownsRow b2 44 2 v n xs) (hg : w.grownBy w' v.ownBlock) : PolysO w' base rs pl :=
  ⟨h.1, fun k hk => ⟨(h.2 k hk).1, (h.2 k hk).2.kept hg (seg_apart (h.2 k hk).2 ho)⟩⟩
/-- the segments of another plan of the call's own are appended -/
theorem OwP_app {wr w2 w3 : World} {base : Nat} {v v' : Value} {rs ss : List RSeg} {pl ql : List Seg}
    (h1 : w2.ownsRow base 44 2 v rs.length (segCells rs)) (h2 : PolysO w2 base rs pl) (h3 : ApartR rs) (hlt : ∀ k, k < rs.length → ∀ j, (rs.getD k noR).2.ownBlock = some j → j < wr.heap.size)
    (k2 : PolysO w2 wr.heap.size ss ql) (k3 : ApartR ss) (hb : base ≤ wr.heap.size)
    (ho : w3.ownsRow base 44 2 v' (rs.length + ss.length) (segCells rs ++ segCells ss)) (hg : w2.grownBy w3 v.ownBlock) : OwP w3 base v' (pl ++ ql) := by
  have hq := h2.grown h1 hg
  have hk := k2.grown' h1 hg
  refine ⟨rs ++ ss, by rw [List.length_append, segCells_append]; exact ho, ⟨by simp [h2.1, k2.1], fun k hkl => ?_⟩, fun i j hi hj hne => ?_⟩
  · rw [getD_appR, getD_appG]
    by_cases hl : k < rs.length
    · rw [if_pos hl, if_pos (by rw [← h2.1]; exact hl)]; exact hq.2 k hl
    · rw [if_neg hl, if_neg (by rw [← h2.1]; exact hl), ← h2.1]
      have := hk.2 (k - rs.length) (by simp at hkl; omega)
      exact ⟨this.1, ownsRow_mono this.2 hb⟩
  · simp at hi hj
    have cross : ∀ a b, a < rs.length → b < ss.length → (rs.getD a noR).2.ownBlock = none ∨ (rs.getD a noR).2.ownBlock ≠ (ss.getD b noR).2.ownBlock := by
      intro a b ha hb2
      cases hv : (rs.getD a noR).2.ownBlock with
      | none => exact .inl rfl
      | some g =>
        refine .inr (fun e => ?_)
        have x := hlt a ha g hv
        have y := ((k2.2 b hb2).2.lt g e.symm).1
        omega
    rw [getD_appR, getD_appR]
    by_cases hil : i < rs.length
    · rw [if_pos hil]
      by_cases hjl : j < rs.length
      · rw [if_pos hjl]; exact h3 i j hil hjl hne
      · rw [if_neg hjl]; exact cross i _ hil (by omega)
    · rw [if_neg hil]
      by_cases hjl : j < rs.length
      · rw [if_pos hjl]; exact apart_comm (cross j _ hjl (by omega))
      · rw [if_neg hjl]; exact k3 _ _ (by omega) (by omega) (by omega)
/-- one segment more, whose polynomial lies apart -/
theorem OwP_snocA {w2 w3 : World} {base : Nat} {v v' pv : Value} {rs : List RSeg} {pl : List Seg} {c : Int} {p : List Int}
    (h1 : w2.ownsRow base 44 2 v rs.length (segCells rs)) (h2 : PolysO w2 base rs pl) (h3 : ApartR rs) (hap : ∀ k, k < rs.length → (rs.getD k noR).2.ownBlock = none ∨ (rs.getD k noR).2.ownBlock ≠ pv.ownBlock)
    (hp : OwnI w2 base pv p)
    (ho : w3.ownsRow base 44 2 v' (rs.length + 1) (segCells rs ++ [.int .i64 c, pv])) (hg : w2.grownBy w3 v.ownBlock) :
    w3.ownsRow base 44 2 v' (rs ++ [(c, pv)]).length (segCells (rs ++ [(c, pv)])) ∧ PolysO w3 base (rs ++ [(c, pv)]) (pl ++ [(c, p)]) ∧ ApartR (rs ++ [(c, pv)]) := by
  have hq := h2.grown h1 hg
  have hp3 : OwnI w3 base pv p := World.ownsRow.kept hp hg (seg_apart hp h1)
  have hl := h2.1
  refine ⟨?_, ⟨by simp [hl], fun k hk => ?_⟩, fun i j hi hj hne => ?_⟩
  · rw [List.length_append, segCells_append]
    exact ho
  · simp at hk
    rw [getD_snocR, getD_snocG]
    by_cases hkl : k < rs.length
    · rw [if_pos hkl, if_pos (by omega)]; exact hq.2 k hkl
    · rw [if_neg hkl, if_pos (by omega), if_neg (by omega), if_pos (by omega)]
      exact ⟨rfl, hp3⟩
  · simp at hi hj
    rw [getD_snocR, getD_snocR]
    by_cases hil : i < rs.length
    · rw [if_pos hil]
      by_cases hjl : j < rs.length
      · rw [if_pos hjl]; exact h3 i j hil hjl hne
      · rw [if_neg hjl, if_pos (by omega)]; exact hap i hil
    · rw [if_neg hil, if_pos (by omega), if_pos (show j < rs.length by omega)]
      exact apart_comm (hap j (by omega))
theorem old_apart {w w' : World} {b1 b2 e1 e2 s1 s2 n1 n2 : Nat} {v1 v2 : Value} {x1 x2 : List Value} (h1 : w'.ownsRow b1 e1 s1 v1 n1 x1) (h2 : w.ownsRow b2 e2 s2 v2 n2 x2) (hb : w.heap.size ≤ b1) : v1.ownBlock = none ∨ v1.ownBlock ≠ v2.ownBlock := by
  cases hv : v1.ownBlock with
  | none => exact .inl rfl
  | some j =>
    refine .inr (fun e => ?_)
    have h3 := (h1.lt j hv).1
    have h4 := (h2.lt j e.symm).2
    omega
theorem RdP_take {w : World} {a : Option Addr} {n cap : Nat} {pl : List Seg} (h : RdP w (.slice a n cap) pl) (hn : n = pl.length) {k : Nat} (hk : k ≤ n) : RdP w (.slice a k cap) (pl.take k) := by
  subst hn
  obtain ⟨rs, h1, h2⟩ := h
  exact ⟨rs.take k, RdR_to h2.1 h1 hk, h2.take k⟩
end Go.Proofs.YtdfnclnjnmdboaaGreatDoor
