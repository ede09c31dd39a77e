/- Contracts: segments are copied, in the program. -/
import Derived.Test.YthjehjdcpfefcaaPlan7
import Derived.Test.YthjehjdcpfefcaaDrP
namespace Go.Proofs.Ythjehjdcpfefcaa
set_option linter.unusedVariables false
open Go.RowKit

theorem madeSegs (n : Nat) : (madeCells #[.int .i64 0, .slice none 0 0] (n * 2)).toList = segCells (List.replicate n noR) := by
  apply List.ext_getElem?
  intro i
  by_cases hi : i < n * 2
  · have hk : i / 2 < (List.replicate n noR).length := by simp; omega
    obtain ⟨g1, g2⟩ := segCells_get (List.replicate n noR) (i / 2) hk
    have hr : (List.replicate n noR).getD (i / 2) noR = noR := by
      simp only [List.getD, List.getElem?_replicate]
      split <;> rfl
    rw [hr] at g1 g2
    have hm : (madeCells #[.int .i64 0, .slice none 0 0] (n * 2)).toList[i]? = some (#[Value.int .i64 0, .slice none 0 0][i % 2]!) := by simp [madeCells, hi]
    rw [hm]
    by_cases h2 : i % 2 = 0
    · have e : i = i / 2 * 2 := by omega
      rw [h2, e, g1]; rfl
    · have e : i = i / 2 * 2 + 1 := by omega
      have h3 : i % 2 = 1 := by omega
      rw [h3, e, g2]; rfl
  · rw [List.getElem?_eq_none (by simp [size_madeCells]; omega), List.getElem?_eq_none (by rw [segCells_len]; simp; omega)]
/-- make([]Segment, n): a new row of n empty segments -/
theorem mkfullS {P : Program} {ops : Array Oper} {rest : List Oper} {o : Oper} {a : Act} {Q : Exit → Act → World → Prop} {w : World} (t e : TypeId) {bytes : Nat}
    (ht : P.underlying t = some (.slice e)) (hi : (P.info? e).map (fun i => (i.zero, i.size, i.bytes)) = some (some (.agg #[.int .i64 0, .slice none 0 0]), 2, bytes)) (hby : bytes ≤ 64)
    (hgd : o.guard = none) (l c : Operand) (ho : o.op = Op.makeSlice t l c) {kl kc : IntKind} {L C : Int} (n : Nat) (hl : a.eval l = .int kl L) (hc : a.eval c = .int kc C) (hL : L = (n : Int)) (hC : C = (n : Int)) (hn : n ≤ 1099511627776)
    (h : ∀ w', w'.ownsRow w.heap.size e 2 (.slice (some ⟨w.heap.size, 0, none⟩) n n) n (segCells (List.replicate n noR)) → Below w.heap.size w w' → w.heap.size < w'.heap.size → wpList P ops Q rest (a.put o.dst (.slice (some ⟨w.heap.size, 0, none⟩) n n)) w') : wpList P ops Q (o :: rest) a w := by
  obtain ⟨i0, hi0, hz0, hz1, hz2⟩ := info_parts hi
  have hb : i0.bytes * n ≤ 64 * n := Nat.mul_le_mul_right _ (by omega)
  refine wpList_make_full w hgd l c t ho w.heap.size e i0 (.agg #[.int .i64 0, .slice none 0 0]) 2 ht hi0 hz0 hz1 kl kc L C n hl hc hL hC (by omega) (by simp only [maxLen]; omega) (Nat.le_refl _) ?_
  intro w' h1 h2
  have e2 : (Value.agg #[.int .i64 0, .slice none 0 0]).cells = #[.int .i64 0, .slice none 0 0] := rfl
  rw [e2, madeSegs] at h1
  exact h w' h1 (below_grown h2 (Nat.le_refl _) (fun k hk => by cases hk)) ((h1.lt w.heap.size rfl).2)
theorem segCells_fill (rs : List RSeg) (m : Nat) (c : Int) (pv : Value) : ((segCells (rs ++ List.replicate (m + 1) noR)).set (rs.length * 2) (.int .i64 c)).set (rs.length * 2 + 1) pv = segCells (rs ++ [(c, pv)] ++ List.replicate m noR) := by
  rw [segCells_append, segCells_append, segCells_append, List.replicate_succ]
  rw [List.set_append_right _ _ (by rw [segCells_len]; exact Nat.le_refl _), segCells_len, Nat.sub_self]
  rw [List.set_append_right _ _ (by rw [segCells_len]; omega), segCells_len, Nat.add_sub_cancel_left]
  simp [segCells, List.append_assoc]
/-- k segments of n are copied -/
def CopR (w : World) (base gg n : Nat) (rs : List RSeg) (pl : List Seg) : Prop :=
  rs.length ≤ n ∧ w.ownsRow base 47 2 (.slice (some ⟨gg, 0, none⟩) n n) n (segCells (rs ++ List.replicate (n - rs.length) noR)) ∧ PolysO w base rs pl ∧ ApartR rs
theorem keepB {w wa wb : World} {f : Nat} {v0 v1 : Value} (h : Below w.heap.size w wa ∧ f < wa.heap.size ∧ wa.cell? ⟨f, 0, none⟩ = some v0 ∧ wa.cell? ⟨f, 1, none⟩ = some v1) (k : Below wa.heap.size wa wb) :
    Below w.heap.size w wb ∧ f < wb.heap.size ∧ wb.cell? ⟨f, 0, none⟩ = some v0 ∧ wb.cell? ⟨f, 1, none⟩ = some v1 := by
  obtain ⟨h0, hf, h1, h2⟩ := h
  have hs := k.size
  obtain ⟨hc, _⟩ := bcell k
  exact ⟨bthen h0 k, by omega, by rw [hc _ _ hf]; exact h1, by rw [hc _ _ hf]; exact h2⟩
theorem keepSt {w wa : World} {f gg o1 o2 : Nat} {v0 v1 u1 u2 : Value} (hfg : f ≠ gg) (hg : w.heap.size ≤ gg) (h : Below w.heap.size w wa ∧ f < wa.heap.size ∧ wa.cell? ⟨f, 0, none⟩ = some v0 ∧ wa.cell? ⟨f, 1, none⟩ = some v1) :
    Below w.heap.size w ((wa.setCell ⟨gg, o1, none⟩ u1).setCell ⟨gg, o2, none⟩ u2) ∧ f < ((wa.setCell ⟨gg, o1, none⟩ u1).setCell ⟨gg, o2, none⟩ u2).heap.size ∧ ((wa.setCell ⟨gg, o1, none⟩ u1).setCell ⟨gg, o2, none⟩ u2).cell? ⟨f, 0, none⟩ = some v0 ∧ ((wa.setCell ⟨gg, o1, none⟩ u1).setCell ⟨gg, o2, none⟩ u2).cell? ⟨f, 1, none⟩ = some v1 := by
  obtain ⟨h0, hf, h1, h2⟩ := h
  refine ⟨(h0.setCell (p := ⟨gg, o1, none⟩) hg _).setCell (p := ⟨gg, o2, none⟩) hg _, by simpa [World.setCell] using hf, ?_, ?_⟩
  · rw [World.cell?_setCell_other _ _ _ _ (by simp only [ne_eq, Addr.mk.injEq]; omega), World.cell?_setCell_other _ _ _ _ (by simp only [ne_eq, Addr.mk.injEq]; omega)]; exact h1
  · rw [World.cell?_setCell_other _ _ _ _ (by simp only [ne_eq, Addr.mk.injEq]; omega), World.cell?_setCell_other _ _ _ _ (by simp only [ne_eq, Addr.mk.injEq]; omega)]; exact h2
theorem CopR.step {w0 w1 w2 : World} {base gg n : Nat} {rs : List RSeg} {pl : List Seg} {c : Int} {p : List Int} {pv : Value} (h : CopR w1 base gg n rs pl) (hk : rs.length < n) (hgb : base ≤ gg) (hlt : ∀ k, k < rs.length → ∀ j, (rs.getD k noR).2.ownBlock = some j → j < w0.heap.size) (hb : base ≤ w0.heap.size)
    (hp : OwnI w1 w0.heap.size pv p) (hw2 : w2 = (w1.setCell ⟨gg, rs.length * 2, none⟩ (.int .i64 c)).setCell ⟨gg, rs.length * 2 + 1, none⟩ pv) : CopR w2 base gg n (rs ++ [(c, pv)]) (pl ++ [(c, p)]) := by
  obtain ⟨h1, h2, h3, h4⟩ := h
  obtain ⟨m, hm⟩ : ∃ m, n - rs.length = m + 1 := ⟨n - rs.length - 1, by omega⟩
  have hm2 : n - (rs ++ [(c, pv)]).length = m := by simp; omega
  rw [hm] at h2
  have q1 := (h2.stored (rs.length * 2) (.int .i64 c)).1
  have q2 := (q1.stored (rs.length * 2 + 1) pv).1
  rw [segCells_fill] at q2
  have hg : w1.grownBy w2 (some gg) := by
    rw [hw2]
    exact grownBy_trans (grownBy_setCell w1 gg _ _) (grownBy_setCell _ gg _ _)
  have hg' : w1.grownBy w2 (Value.slice (some ⟨gg, 0, none⟩) n n).ownBlock := hg
  have hq := h3.grown h2 hg'
  have hp2 : OwnI w2 w0.heap.size pv p := World.ownsRow.kept hp hg' (seg_apart hp h2)
  have hl := h3.1
  refine ⟨by simp; omega, by rw [hm2, hw2]; exact q2, ⟨by simp [hl], fun k hk => ?_⟩, fun i j hi hj hne => ?_⟩
  · simp at hk
    rw [getD_snocR, getD_snocG]
    by_cases hkl : k < rs.length
    · rw [if_pos hkl, if_pos (by omega)]; exact hq.2 k hkl
    · rw [if_neg hkl, if_pos (by omega), if_neg (by omega), if_pos (by omega)]
      exact ⟨rfl, ownsRow_mono hp2 hb⟩
  · simp at hi hj
    rw [getD_snocR, getD_snocR]
    by_cases hil : i < rs.length
    · by_cases hjl : j < rs.length
      · rw [if_pos hil, if_pos hjl]; exact h4 i j hil hjl hne
      · rw [if_pos hil, if_neg hjl, if_pos (by omega)]
        cases hv : (rs.getD i noR).2.ownBlock with
        | none => exact .inl rfl
        | some g =>
          refine .inr (fun e => ?_)
          have a := hlt i hil g hv
          have b := (hp2.lt g e.symm).1
          omega
    · rw [if_neg hil, if_pos (by omega), if_pos (show j < rs.length by omega)]
      show pv.ownBlock = none ∨ pv.ownBlock ≠ _
      cases hv : pv.ownBlock with
      | none => exact .inl rfl
      | some g =>
        refine .inr (fun e => ?_)
        have a := hlt j (by omega) g e.symm
        have b := (hp2.lt g hv).1
        omega

set_option maxRecDepth 20000 in
set_option maxHeartbeats 1600000 in
theorem c_copySegments (v : Value) (pl : List Seg) (w : World) (ha : RdP w v pl) (hx : pl.length ≤ 1000) (hpx : ∀ s ∈ pl, s.2.length ≤ 1099511627776) :
    Calls Try.prog 43 #[v] w (FreshP w pl) := by
  have HPX := hidd hpx
  obtain ⟨a, cap, rfl, hcap⟩ := ha.form
  clear hpx
  go_enter Try.func43, Try.ntmps43
  go_wp2_with (at_make; refine mkfullS 25 47 Try.underlying25 infoSeg (by decide) rfl _ _ rfl pl.length rfl rfl rfl rfl (by omega) ?_; intro w2 ho2 hB2 hz2)
  have hc2 : CopR w2 w.heap.size w.heap.size pl.length [] [] := ⟨Nat.zero_le _, by simpa using ho2, ⟨rfl, fun k hk => by simp at hk⟩, ApartR.nil⟩
  clear ho2
  go_loopw [11] (fun i wr => ∃ (k : Nat) (rs : List RSeg), k ≤ pl.length ∧ i = .int .i64 k ∧ rs.length = k ∧ CopR wr w.heap.size w.heap.size pl.length rs (pl.take k) ∧ w.heap.size < wr.heap.size ∧ Below w.heap.size w wr) (fun i _ => pl.length - (intOf i).toNat)
  case atStart => exact ⟨0, [], by omega, rfl, rfl, hc2, hz2, hB2⟩
  case round =>
    obtain ⟨k, rs, hk, rfl, hrk, hC, hgs, hB⟩ := hrel
    clear hc2 hB2 hz2
    by_cases hlt : k < pl.length
    · obtain ⟨b, o, pa, pn, pc, rfl, hb, e1, e2, hp, hpc, hpn⟩ := ha.cell hB hlt
      have hpl := HPX.out (pl.getD k noG) (by simp [List.getD, hlt])
      have HTS := hidd (take_succG pl k hlt)
      obtain ⟨s, hs⟩ : ∃ s, pl.getD k noG = s := ⟨_, rfl⟩
      rw [hs] at e1 HTS hp hpl
      obtain ⟨c, p⟩ := s
      have e1 : wr.cell? ⟨b, o + k * 2, none⟩ = some (.int .i64 c) := e1
      have hpl : p.length ≤ 1099511627776 := hpl
      have i1 : (0 : Int) ≤ (k : Int) := by omega
      have i2 : (k : Int) < (pl.length : Int) := by omega
      have hal : Below wr.heap.size wr (wr.alloc (.cells #[.int .i64 c, .slice pa pn pc] 47)) := (Below.refl _ _).alloc (Nat.le_refl _) _
      have hBa : Below w.heap.size w (wr.alloc (.cells #[.int .i64 c, .slice pa pn pc] 47)) := bthen hB hal
      obtain ⟨hC1, hC2, hC3, hC4⟩ := hC
      have HLT := hidd hC3.lt
      have k0 : (wr.alloc (.cells #[.int .i64 c, .slice pa pn pc] 47)).cell? ⟨wr.heap.size, 0, none⟩ = some (.int .i64 c) := by simp [go_sem]
      have k1 : (wr.alloc (.cells #[.int .i64 c, .slice pa pn pc] 47)).cell? ⟨wr.heap.size, 1, none⟩ = some (.slice pa pn pc) := by simp [go_sem]
      have hf : wr.heap.size < (wr.alloc (.cells #[.int .i64 c, .slice pa pn pc] 47)).heap.size := by simp
      have hCa := ownsRow_kept_below hC2 hal
      have hC3a := hC3.kept hal
      have hws := hB.size
      clear hs hpn hC2 hC3 ha
      go_wp2
      clear e1 e2
      generalize hW5 : wr.alloc (.cells #[.int .i64 c, .slice pa pn pc] 47) = w5 at *
      generalize hfs : wr.heap.size = f at *
      have hk0 : Below w.heap.size w w5.drew ∧ f < w5.drew.heap.size ∧ w5.drew.cell? ⟨f, 0, none⟩ = some (.int .i64 c) ∧ w5.drew.cell? ⟨f, 1, none⟩ = some (.slice pa pn pc) := ⟨hBa.drew, hf, k0, k1⟩
      have hCd : w5.drew.ownsRow w.heap.size 47 2 (.slice (some ⟨w.heap.size, 0, none⟩) pl.length pl.length) pl.length (segCells (rs ++ List.replicate (pl.length - rs.length) noR)) := hCa
      have HC3d : Hid (PolysO w5.drew w.heap.size rs (pl.take k)) := hC3a
      have HC4 := hidd hC4
      have hpd : RdI w5.drew (.slice pa pn pc) p := hp.kept hBa.drew
      have HCL := hidd (c_clone _ p w5.drew hpd hpl)
      have hfg : f ≠ w.heap.size := by omega
      have hkr : k * 2 < pl.length * 2 := by omega
      have HBa := hidd hBa
      have hk2 : k * 2 + 1 < pl.length * 2 := by omega
      have hf5 : w.heap.size ≤ w5.drew.heap.size := HBa.out.size
      clear k0 k1 hCa hC3a hpd hp hW5 hC4 hal
      go_wp2
      go_region_held3 (fun wx => Below w.heap.size w wx ∧ f < wx.heap.size ∧ wx.cell? ⟨f, 0, none⟩ = some (.int .i64 c) ∧ wx.cell? ⟨f, 1, none⟩ = some (.slice pa pn pc)) (first | assumption | exact hk0 | exact keepB (by assumption) (by assumption) | exact keepSt hfg (Nat.le_refl _) (by assumption))
        ((go_at_call 77; refine HCL.out.mono ?_; rintro e w6 ⟨u, rfl, hu, hb6⟩; obtain ⟨ua, uc, rfl⟩ := RdI_form (owns_RdI hu); have q1 := ownsRow_kept_below hCd hb6; have q2 := HC3d.out.kept hb6; obtain ⟨y1, z1⟩ : ∃ y, w6.cell? ⟨w.heap.size, k * 2, none⟩ = some y := ⟨_, by rw [q1.cellAt (k * 2) hkr]; exact List.getElem?_eq_getElem (by rw [segCells_len]; simp; omega)⟩; obtain ⟨y2, z2⟩ : ∃ y, w6.cell? ⟨w.heap.size, k * 2 + 1, none⟩ = some y := ⟨_, by rw [q1.cellAt (k * 2 + 1) hk2]; exact List.getElem?_eq_getElem (by rw [segCells_len]; simp; omega)⟩; have z3 := q1.frozenAt (k * 2); have z4 := q1.frozenAt (k * 2 + 1)))
      rename_i hS
      have HO : Hid (CopR ((w6.setCell ⟨w.heap.size, k * 2, none⟩ (.int .i64 c)).setCell ⟨w.heap.size, k * 2 + 1, none⟩ (.slice ua p.length uc)) w.heap.size w.heap.size pl.length (rs ++ [(c, .slice ua p.length uc)]) (pl.take (k + 1))) := by
        rw [HTS.out]
        refine CopR.step (w0 := w5.drew) (w1 := w6) ⟨hC1, q1, q2, HC4.out⟩ (by omega) (Nat.le_refl _) (fun i hi j hj => Nat.lt_trans (HLT.out i hi j hj) hf) hf5 hu ?_
        rw [hrk]
      have HB := hidd hS.1
      have hgs' := Nat.lt_of_lt_of_le hgs (Nat.le_trans (Nat.le_of_lt hf) hb6.size)
      have hgs2 : w.heap.size < ((w6.setCell ⟨w.heap.size, k * 2, none⟩ (.int .i64 c)).setCell ⟨w.heap.size, k * 2 + 1, none⟩ (.slice ua p.length uc)).heap.size := by simpa [World.setCell] using hgs'
      have hrl : (rs ++ [(c, Value.slice ua p.length uc)]).length = k + 1 := by simp [hrk]
      have HRL := hidd hrl
      clear hS hk0 hCd q1 q2 z1 z2 z3 z4 hu hb6 hrl hgs'
      go_wp2
      go_roundw
      case rel => exact ⟨k + 1, _, by omega, by go_num, HRL.out, HO.out, hgs2, HB.out⟩
      case measure => simp [intOf]; omega
    · have HF : Hid (FreshP w pl (.returned (.slice (some ⟨w.heap.size, 0, none⟩) pl.length pl.length)) wr) := by
        obtain ⟨q1, q2, q3, q4⟩ := hC
        rw [List.take_of_length_le (by omega)] at q3
        have hrl : rs.length = pl.length := q3.1
        rw [hrl, Nat.sub_self, List.replicate_zero, List.append_nil] at q2
        exact ⟨_, rfl, ⟨rs, by rw [hrl]; exact q2, q3, q4⟩, hB⟩
      clear hC hB ha
      go_wp2
      go_ret
      exact HF.out
end Go.Proofs.Ythjehjdcpfefcaa
