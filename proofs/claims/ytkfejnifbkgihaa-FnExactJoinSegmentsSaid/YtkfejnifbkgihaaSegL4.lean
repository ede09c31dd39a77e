/- Contracts: the laws' marks in plans. -/
import Derived.Test.YtkfejnifbkgihaaSegL3
import Derived.Test.YtkfejnifbkgihaaDrP
namespace Go.Proofs.Ytkfejnifbkgihaa
set_option linter.unusedVariables false
open Go.RowKit

/-- a plan marked from c on -/
def mkPl : Int → List Seg → List Seg
  | _, [] => []
  | c, s :: t => (c, marks (c + 1) s.2.length) :: mkPl (c + 1 + s.2.length) t
theorem mkPl_len : ∀ (c : Int) (a : List Seg), (mkPl c a).length = a.length
  | c, [] => rfl
  | c, s :: t => by simp [mkPl, mkPl_len _ t]
theorem mkPl_append : ∀ (c : Int) (a b : List Seg), mkPl c (a ++ b) = mkPl c a ++ mkPl (c + cntM a) b
  | c, [], b => by simp [mkPl, cntM]
  | c, s :: t, b => by
    simp only [List.cons_append, mkPl, mkPl_append _ t b, cntM]
    rw [show c + 1 + (s.2.length : Int) + (cntM t : Int) = c + ((1 + s.2.length + cntM t : Nat) : Int) by omega]
theorem mkPl_getD (c : Int) (pl : List Seg) (k : Nat) (h : k < pl.length) : (mkPl c pl).getD k noG = (c + (cntM (pl.take k) : Int), marks (c + (cntM (pl.take k) : Int) + 1) (pl.getD k noG).2.length) := by
  have e : pl = pl.take k ++ (pl.getD k noG :: pl.drop (k + 1)) := by
    conv => lhs; rw [← List.take_append_drop k pl]
    rw [List.drop_eq_getElem_cons h]; simp [List.getD, h]
  have hl : (mkPl c (pl.take k)).length = k := by rw [mkPl_len]; simp; omega
  have e2 : mkPl c pl = mkPl c (pl.take k) ++ ((c + (cntM (pl.take k) : Int), marks (c + (cntM (pl.take k) : Int) + 1) (pl.getD k noG).2.length) :: mkPl (c + (cntM (pl.take k) : Int) + 1 + (pl.getD k noG).2.length) (pl.drop (k + 1))) := by
    conv => lhs; rw [e, mkPl_append]
    rfl
  rw [e2]
  simp only [List.getD]
  rw [List.getElem?_append_right (by omega), hl, Nat.sub_self]
  rfl
/-- marked up to segment k -/
def mkAt (c : Int) (k : Nat) (pl : List Seg) : List Seg := mkPl c (pl.take k) ++ pl.drop k
theorem mkAt_len (c : Int) (k : Nat) (pl : List Seg) : (mkAt c k pl).length = pl.length := by
  unfold mkAt; rw [List.length_append, mkPl_len]; simp; omega
theorem mkAt_getD (c : Int) (k : Nat) (pl : List Seg) (h : k < pl.length) : (mkAt c k pl).getD k noG = pl.getD k noG := by
  have hl : (mkPl c (pl.take k)).length = k := by rw [mkPl_len]; simp; omega
  unfold mkAt
  simp only [List.getD]
  rw [List.getElem?_append_right (by omega), hl, Nat.sub_self]
  simp
theorem mkAt_set (c : Int) (k : Nat) (pl : List Seg) (h : k < pl.length) : (mkAt c k pl).set k (c + (cntM (pl.take k) : Int), marks (c + (cntM (pl.take k) : Int) + 1) (pl.getD k noG).2.length) = mkAt c (k + 1) pl := by
  have hl : (mkPl c (pl.take k)).length = k := by rw [mkPl_len]; simp; omega
  unfold mkAt
  rw [List.set_append_right _ _ (by omega), hl, Nat.sub_self, take_succG pl k h, mkPl_append, List.drop_eq_getElem_cons h, List.set_cons_zero]
  simp [mkPl]
theorem mkAt_end (c : Int) (pl : List Seg) : mkAt c pl.length pl = mkPl c pl := by simp [mkAt]

/-- blocks from hi on stay as they are -/
def Abv (hi : Nat) (w w' : World) : Prop := w.heap.size ≤ w'.heap.size ∧ ∀ b, hi ≤ b → b < w.heap.size → w'.heap[b]? = w.heap[b]?
theorem Abv.refl (hi : Nat) (w : World) : Abv hi w w := ⟨Nat.le_refl _, fun _ _ _ => rfl⟩
theorem Abv.trans {hi : Nat} {a b c : World} (h : Abv hi a b) (k : Abv hi b c) : Abv hi a c :=
  ⟨Nat.le_trans h.1 k.1, fun i h1 h2 => (k.2 i h1 (Nat.lt_of_lt_of_le h2 h.1)).trans (h.2 i h1 h2)⟩
theorem Abv.grown {hi : Nat} {w w' : World} {row : Option Nat} (h : w.grownBy w' row) (hr : ∀ k, row = some k → k < hi) : Abv hi w w' :=
  ⟨h.size, fun b h1 h2 => h.block b h2 (fun e => by have := hr b e.symm; omega)⟩
theorem Abv.row {hi : Nat} {w w' : World} (h : Abv hi w w') {base e s n : Nat} {v : Value} {xs : List Value} (hb : hi ≤ base) (ho : w.ownsRow base e s v n xs) : w'.ownsRow base e s v n xs := by
  have hlt := ho.lt
  obtain ⟨h1, h2⟩ := ho
  refine ⟨h1, ?_⟩
  rcases h2 with h2 | ⟨g, cap, cur, rfl, hg, hh, h3⟩
  · exact .inl h2
  · exact .inr ⟨g, cap, cur, rfl, hg, by rw [h.2 g (by omega) (hlt g rfl).2]; exact hh, h3⟩
theorem OwP.above {hi : Nat} {w w' : World} (h : Abv hi w w') {base : Nat} {v : Value} {pl : List Seg} (hb : hi ≤ base) (ho : OwP w base v pl) : OwP w' base v pl :=
  let ⟨rs, h1, h2, h3⟩ := ho; ⟨rs, h.row hb h1, ⟨h2.1, fun k hk => ⟨(h2.2 k hk).1, h.row hb (h2.2 k hk).2⟩⟩, h3⟩
/-- a plan of the call's own, in blocks below hi -/
def OwPH (w : World) (base hi : Nat) (v : Value) (pl : List Seg) : Prop :=
  ∃ rs, w.ownsRow base 31 2 v rs.length (segCells rs) ∧ PolysO w base rs pl ∧ ApartR rs ∧ (∀ j, v.ownBlock = some j → j < hi) ∧ ∀ k, k < rs.length → ∀ j, (rs.getD k noR).2.ownBlock = some j → j < hi
theorem OwP.upto {w : World} {base : Nat} {v : Value} {pl : List Seg} (h : OwP w base v pl) : OwPH w base w.heap.size v pl :=
  let ⟨rs, h1, h2, h3⟩ := h; ⟨rs, h1, h2, h3, fun j hj => (h1.lt j hj).2, h2.lt⟩
theorem OwPH.kept {w w' : World} {base hi : Nat} {v : Value} {pl : List Seg} (h : OwPH w base hi v pl) (hb : Below w.heap.size w w') : OwPH w' base hi v pl :=
  let ⟨rs, h1, h2, h3, h4, h5⟩ := h; ⟨rs, ownsRow_kept_below h1 hb, h2.kept hb, h3, h4, h5⟩
theorem OwPH.own {w : World} {base hi : Nat} {v : Value} {pl : List Seg} (h : OwPH w base hi v pl) : OwP w base v pl :=
  let ⟨rs, h1, h2, h3, _⟩ := h; ⟨rs, h1, h2, h3⟩
/-- segment k is marked -/
theorem OwPH_mark {w w' : World} {base hi gg cap k : Nat} {rs : List RSeg} {pl : List Seg} {c : Int} {p : List Int} {pv : Value} (h1 : w.ownsRow base 31 2 (.slice (some ⟨gg, 0, none⟩) rs.length cap) rs.length (segCells rs))
    (h2 : PolysO w base rs pl) (h3 : ApartR rs) (hb1 : gg < hi) (hb2 : ∀ k, k < rs.length → ∀ j, (rs.getD k noR).2.ownBlock = some j → j < hi) (hk : k < rs.length) (hpv : (rs.getD k noR).2 = pv)
    (hg : (w.setCell ⟨gg, k * 2, none⟩ (.int .i64 c)).grownBy w' pv.ownBlock) (hp : OwnI w' base pv p) : OwPH w' base hi (.slice (some ⟨gg, 0, none⟩) rs.length cap) (pl.set k (c, p)) := by
  subst hpv
  have hl := h2.1
  have hs : w.grownBy (w.setCell ⟨gg, k * 2, none⟩ (.int .i64 c)) (some gg) := grownBy_setCell w gg _ _
  have q1 := (h1.stored (k * 2) (.int .i64 c)).1
  rw [← segCells_set1 rs k c hk] at q1
  have hp0 : OwnI (w.setCell ⟨gg, k * 2, none⟩ (.int .i64 c)) base (rs.getD k noR).2 _ := World.ownsRow.kept (h2.2 k hk).2 (show w.grownBy _ (Value.slice (some ⟨gg, 0, none⟩) rs.length cap).ownBlock from hs) (seg_apart (h2.2 k hk).2 h1)
  refine ⟨rs.set k (c, (rs.getD k noR).2), ?_, ⟨by simp [hl], fun i hi => ?_⟩, ?_, fun j hj => by simp [Value.ownBlock] at hj; omega, fun i hi j hj => ?_⟩
  · rw [List.length_set]
    exact World.ownsRow.kept q1 hg (apart_comm (seg_apart hp0 q1))
  · rw [List.length_set] at hi
    rw [getD_setR _ _ _ _ hk, getD_setG _ _ _ _ (by omega)]
    by_cases e : i = k
    · rw [if_pos e, if_pos e]
      exact ⟨rfl, hp⟩
    · rw [if_neg e, if_neg e]
      have a := (h2.grown h1 (show w.grownBy _ (Value.slice (some ⟨gg, 0, none⟩) rs.length cap).ownBlock from hs)).2 i hi
      exact ⟨a.1, World.ownsRow.kept a.2 hg (h3 i k hi hk e)⟩
  · exact h3.set hk (fun i hi hne => h3 k i hk hi (Ne.symm hne))
  · rw [List.length_set] at hi
    rw [getD_setR _ _ _ _ hk] at hj
    by_cases e : i = k
    · rw [if_pos e] at hj; exact hb2 k hk j hj
    · rw [if_neg e] at hj; exact hb2 i hi j hj

set_option maxRecDepth 20000 in
set_option maxHeartbeats 1600000 in
theorem c_markSegmentS (v : Value) (base hi : Nat) (pl : List Seg) (c : Int) (w : World) (ha : OwPH w base hi v pl) (hb : base ≤ w.heap.size) (hx : cntM pl ≤ 2000000) (hc : 0 ≤ c) (hc' : c ≤ 1) :
    Calls Try.prog 24 #[v, (.int .i64 (c))] w fun e w' => e = .returned (.int .i64 (c + cntM pl)) ∧ OwP w' base v (mkPl c pl) ∧ Below base w w' ∧ Abv hi w w' := by
  have hlen := cntM_len pl
  have HMEM := hidd (cntM_mem pl)
  have HTK := hidd (cntM_take pl)
  obtain ⟨a, cap, rfl, hcap⟩ := ha.own.form
  rcases Nat.eq_zero_or_pos pl.length with h0 | h0
  · have hnil : pl = [] := List.eq_nil_of_length_eq_zero h0
    subst hnil
    have HO : Hid (OwP w base (.slice a 0 cap) [] ∧ Below base w w ∧ Abv hi w w) := ⟨ha.own, Below.refl _ _, Abv.refl _ _⟩
    clear ha hb h0 HMEM HTK
    go_enter Try.func24, Try.ntmps24
    go_wp2
    refine wp_loop_rounds 1 ?_
    rw [rounds_succ]
    go_wp2
    go_ret
    exact ⟨by simp [cntM], HO.out.1, HO.out.2.1, HO.out.2.2⟩
  · obtain ⟨g, rfl⟩ : ∃ g, a = some ⟨g, 0, none⟩ := by
      obtain ⟨rs, h1, h2, _⟩ := ha
      rcases h1.2 with ⟨e, h⟩ | ⟨g, cap', cur, e, _⟩
      · have := h2.1; omega
      · simp only [Value.slice.injEq] at e
        exact ⟨g, e.1⟩
    have hat0 : OwPH w base hi (.slice (some ⟨g, 0, none⟩) pl.length cap) (mkAt c 0 pl) := by
      simpa [mkAt, mkPl] using ha
    have HA0 := hidd hat0
    have HB := hidd hb
    clear ha hat0 hb h0
    go_enter Try.func24, Try.ntmps24
    go_wp2
    go_loopw [1, 5] (fun q i wr => ∃ k T : Nat, k ≤ pl.length ∧ i = .int .i64 k ∧ q = .int .i64 (c + (T : Int)) ∧ Hid (cntM (pl.take k) = T) ∧ Hid (OwPH wr base hi (.slice (some ⟨g, 0, none⟩) pl.length cap) (mkAt c k pl) ∧ Below base w wr ∧ Abv hi w wr)) (fun _ i _ => pl.length - (intOf i).toNat)
    case atStart => exact ⟨0, 0, by omega, rfl, by simp, (show cntM (pl.take 0) = 0 by simp [cntM]), ⟨HA0.out, Below.refl _ _, Abv.refl _ _⟩⟩
    case round =>
      obtain ⟨k, T, hk, rfl, rfl, HT, HH⟩ := hrel
      have htk := HTK.out k
      by_cases hlt : k < pl.length
      · obtain ⟨⟨rs, h1, h2, h3, h4, h5⟩, hB, hA⟩ := HH.out
        have hrl : rs.length = pl.length := by rw [h2.1, mkAt_len]
        have h1p : wr.ownsRow base 31 2 (.slice (some ⟨g, 0, none⟩) pl.length cap) pl.length (segCells rs) := by rw [hrl] at h1; exact h1
        have h1r : wr.ownsRow base 31 2 (.slice (some ⟨g, 0, none⟩) rs.length cap) rs.length (segCells rs) := by rw [hrl]; exact h1p
        have hgl : g < hi := h4 g rfl
        have hgw : g < wr.heap.size := (h1.lt g rfl).2
        have hgb : base ≤ g := (h1.lt g rfl).1
        obtain ⟨pv, hpv⟩ : ∃ pv, (rs.getD k noR).2 = pv := ⟨_, rfl⟩
        have hk2 := h2.2 k (by omega)
        rw [mkAt_getD c k pl hlt, hpv] at hk2
        have HSET := hidd (mkAt_set c k pl hlt)
        have HSUC := hidd (cntM_succ pl k hlt)
        have hm := HMEM.out (pl.getD k noG) (by simp [List.getD, hlt])
        have htk2 := HTK.out (k + 1)
        obtain ⟨s, hs⟩ : ∃ s, pl.getD k noG = s := ⟨_, rfl⟩
        rw [hs] at HSET HSUC hm hk2
        obtain ⟨c0, p⟩ := s
        have hT := HT.out
        have hsc : cntM (pl.take (k + 1)) = T + (1 + p.length) := by rw [← hT]; exact HSUC.out
        rw [hsc] at htk2
        rw [hT] at HSET htk
        have hSC := hidd hsc
        have hp : OwnI wr base pv p := hk2.2
        obtain ⟨g1, g2⟩ := segCells_get rs k (by omega)
        rw [hpv] at g2
        have e1 : wr.cell? ⟨g, k * 2, none⟩ = some (.int .i64 (rs.getD k noR).1) := by rw [h1p.cellAt (k * 2) (by omega)]; exact g1
        have e2 : wr.cell? ⟨g, k * 2 + 1, none⟩ = some pv := by rw [h1p.cellAt (k * 2 + 1) (by omega)]; exact g2
        have e3 := h1p.frozenAt (k * 2)
        obtain ⟨y, hy⟩ : ∃ y, (rs.getD k noR).1 = y := ⟨_, rfl⟩
        rw [hy] at e1
        obtain ⟨W1, hW1⟩ : ∃ W1, wr.setCell ⟨g, k * 2, none⟩ (.int .i64 (c + (T : Int))) = W1 := ⟨_, rfl⟩
        have hsg : wr.grownBy (wr.setCell ⟨g, k * 2, none⟩ (.int .i64 (c + (T : Int)))) (some g) := grownBy_setCell wr g _ _
        have hp1 : OwnI (wr.setCell ⟨g, k * 2, none⟩ (.int .i64 (c + (T : Int)))) base pv p := World.ownsRow.kept hp (show wr.grownBy _ (Value.slice (some ⟨g, 0, none⟩) rs.length cap).ownBlock from hsg) (seg_apart hp h1r)
        have hsz := hB.size
        have HCL := hidd (c_markIntS pv base 3 p (c + (T : Int) + 1) _ hp1 (by simp at hm; omega) (by omega) (by omega))
        have HN : Hid (∀ w', (wr.setCell ⟨g, k * 2, none⟩ (.int .i64 (c + (T : Int)))).grownBy w' pv.ownBlock → OwnI w' base pv (marks (c + (T : Int) + 1) p.length) →
            OwPH w' base hi (.slice (some ⟨g, 0, none⟩) pl.length cap) (mkAt c (k + 1) pl) ∧ Below base w w' ∧ Abv hi w w') := by
          intro w' hg' ho'
          have q := OwPH_mark h1r h2 h3 hgl h5 (by omega) hpv hg' ho'
          rw [hrl, HSET.out] at q
          refine ⟨q, ?_, ?_⟩
          · exact (hB.setCell (p := ⟨g, k * 2, none⟩) hgb _).grown hg' (by have := HB.out; simp [World.setCell]; omega) (fun j hj => (hp.lt j hj).1)
          · exact (hA.trans (Abv.grown hsg (fun j hj => by cases hj; exact hgl))).trans (Abv.grown hg' (fun j hj => h5 k (by omega) j (by rw [hpv]; exact hj)))
        have i1 : (0 : Int) ≤ (k : Int) := by omega
        have i2 : (k : Int) < (pl.length : Int) := by omega
        obtain ⟨pa, pc, rfl⟩ := RdI_form (owns_RdI hp)
        clear h1 h1p h1r h2 h3 h4 h5 hB hA hp hk2 hpv hp1 hsg hrl g1 g2 hs HSET HSUC hT hsc hW1 HH hy
        go_wp2_with fail
        refine HCL.out.mono ?_
        rintro e w2 ⟨rfl, ho2, hg2⟩
        have HO := hidd (HN.out w2 hg2 (by unfold OwnI; rw [marks_len]; exact ho2))
        clear ho2 hg2
        go_wp2
        go_roundw
        case rel => exact ⟨k + 1, T + (1 + p.length), by omega, by go_num, by simp only [Value.int.injEq, true_and]; omega, hSC, HO⟩
        case measure => simp [intOf]; omega
      · have hkl : k = pl.length := by omega
        have HO : Hid (c + (T : Int) = c + cntM pl ∧ OwP wr base (.slice (some ⟨g, 0, none⟩) pl.length cap) (mkPl c pl) ∧ Below base w wr ∧ Abv hi w wr) := by
          obtain ⟨q1, q2, q3⟩ := HH.out
          rw [hkl, mkAt_end] at q1
          exact ⟨by rw [← HT.out, hkl, List.take_length], q1.own, q2, q3⟩
        clear HH hkl
        go_wp2
        go_ret
        exact ⟨ret_int HO.out.1, HO.out.2.1, HO.out.2.2.1, HO.out.2.2.2⟩
end Go.Proofs.Ytkfejnifbkgihaa
