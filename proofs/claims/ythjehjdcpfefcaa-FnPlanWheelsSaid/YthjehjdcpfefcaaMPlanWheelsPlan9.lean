/- Lemmas and contracts for PlanWheels (Plan9 Plan10 Plan11 Plan12): plain words on memory, contracts of the functions that the law reaches. No condition but what each states. -/
import Derived.Test.YthjehjdcpfefcaaPlan7
import Derived.Test.YthjehjdcpfefcaaDrP
import Derived.Test.YthjehjdcpfefcaaPvP
import Derived.Test.YthjehjdcpfefcaaDrB
namespace Go.Proofs.Ythjehjdcpfefcaa
set_option linter.unusedVariables false
open Go.RowKit

theorem madeSegs (n : Nat) : (madeCells #[.int .i64 0, .slice none 0 0] (n * 2)).toList = segCells (List.replicate n noR) := by
  apply List.ext_getElem?
  intro i
  by_cases hi : i < n * 2
  · have hk : i / 2 < (List.replicate n noR).length := by simp; omega
    obtain ⟨g1, g2⟩ := segCells_get (List.replicate n noR) (i / 2) hk
    have hr : (List.replicate n noR).getD (i / 2) noR = noR := by
      simp only [List.getD, List.getElem?_replicate]
      split <;> rfl
    rw [hr] at g1 g2
    have hm : (madeCells #[.int .i64 0, .slice none 0 0] (n * 2)).toList[i]? = some (#[Value.int .i64 0, .slice none 0 0][i % 2]!) := by simp [madeCells, hi]
    rw [hm]
    by_cases h2 : i % 2 = 0
    · have e : i = i / 2 * 2 := by omega
      rw [h2, e, g1]; rfl
    · have e : i = i / 2 * 2 + 1 := by omega
      have h3 : i % 2 = 1 := by omega
      rw [h3, e, g2]; rfl
  · rw [List.getElem?_eq_none (by simp [size_madeCells]; omega), List.getElem?_eq_none (by rw [segCells_len]; simp; omega)]
/-- make([]Segment, n): a new row of n empty segments -/
theorem mkfullS {P : Program} {ops : Array Oper} {rest : List Oper} {o : Oper} {a : Act} {Q : Exit → Act → World → Prop} {w : World} (t e : TypeId) {bytes : Nat}
    (ht : P.underlying t = some (.slice e)) (hi : (P.info? e).map (fun i => (i.zero, i.size, i.bytes)) = some (some (.agg #[.int .i64 0, .slice none 0 0]), 2, bytes)) (hby : bytes ≤ 64)
    (hgd : o.guard = none) (l c : Operand) (ho : o.op = Op.makeSlice t l c) {kl kc : IntKind} {L C : Int} (n : Nat) (hl : a.eval l = .int kl L) (hc : a.eval c = .int kc C) (hL : L = (n : Int)) (hC : C = (n : Int)) (hn : n ≤ 1099511627776)
    (h : ∀ w', w'.ownsRow w.heap.size e 2 (.slice (some ⟨w.heap.size, 0, none⟩) n n) n (segCells (List.replicate n noR)) → Below w.heap.size w w' → w.heap.size < w'.heap.size → wpList P ops Q rest (a.put o.dst (.slice (some ⟨w.heap.size, 0, none⟩) n n)) w') : wpList P ops Q (o :: rest) a w := by
  obtain ⟨i0, hi0, hz0, hz1, hz2⟩ := info_parts hi
  have hb : i0.bytes * n ≤ 64 * n := Nat.mul_le_mul_right _ (by omega)
  refine wpList_make_full w hgd l c t ho w.heap.size e i0 (.agg #[.int .i64 0, .slice none 0 0]) 2 ht hi0 hz0 hz1 kl kc L C n hl hc hL hC (by omega) (by simp only [maxLen]; omega) (Nat.le_refl _) ?_
  intro w' h1 h2
  have e2 : (Value.agg #[.int .i64 0, .slice none 0 0]).cells = #[.int .i64 0, .slice none 0 0] := rfl
  rw [e2, madeSegs] at h1
  exact h w' h1 (below_grown h2 (Nat.le_refl _) (fun k hk => by cases hk)) ((h1.lt w.heap.size rfl).2)
theorem segCells_fill (rs : List RSeg) (m : Nat) (c : Int) (pv : Value) : ((segCells (rs ++ List.replicate (m + 1) noR)).set (rs.length * 2) (.int .i64 c)).set (rs.length * 2 + 1) pv = segCells (rs ++ [(c, pv)] ++ List.replicate m noR) := by
  rw [segCells_append, segCells_append, segCells_append, List.replicate_succ]
  rw [List.set_append_right _ _ (by rw [segCells_len]; exact Nat.le_refl _), segCells_len, Nat.sub_self]
  rw [List.set_append_right _ _ (by rw [segCells_len]; omega), segCells_len, Nat.add_sub_cancel_left]
  simp [segCells, List.append_assoc]
/-- k segments of n are copied -/
def CopR (w : World) (base gg n : Nat) (rs : List RSeg) (pl : List Seg) : Prop :=
  rs.length ≤ n ∧ w.ownsRow base 47 2 (.slice (some ⟨gg, 0, none⟩) n n) n (segCells (rs ++ List.replicate (n - rs.length) noR)) ∧ PolysO w base rs pl ∧ ApartR rs
theorem keepB {w wa wb : World} {f : Nat} {v0 v1 : Value} (h : Below w.heap.size w wa ∧ f < wa.heap.size ∧ wa.cell? ⟨f, 0, none⟩ = some v0 ∧ wa.cell? ⟨f, 1, none⟩ = some v1) (k : Below wa.heap.size wa wb) :
    Below w.heap.size w wb ∧ f < wb.heap.size ∧ wb.cell? ⟨f, 0, none⟩ = some v0 ∧ wb.cell? ⟨f, 1, none⟩ = some v1 := by
  obtain ⟨h0, hf, h1, h2⟩ := h
  have hs := k.size
  obtain ⟨hc, _⟩ := bcell k
  exact ⟨bthen h0 k, by omega, by rw [hc _ _ hf]; exact h1, by rw [hc _ _ hf]; exact h2⟩
theorem keepSt {w wa : World} {f gg o1 o2 : Nat} {v0 v1 u1 u2 : Value} (hfg : f ≠ gg) (hg : w.heap.size ≤ gg) (h : Below w.heap.size w wa ∧ f < wa.heap.size ∧ wa.cell? ⟨f, 0, none⟩ = some v0 ∧ wa.cell? ⟨f, 1, none⟩ = some v1) :
    Below w.heap.size w ((wa.setCell ⟨gg, o1, none⟩ u1).setCell ⟨gg, o2, none⟩ u2) ∧ f < ((wa.setCell ⟨gg, o1, none⟩ u1).setCell ⟨gg, o2, none⟩ u2).heap.size ∧ ((wa.setCell ⟨gg, o1, none⟩ u1).setCell ⟨gg, o2, none⟩ u2).cell? ⟨f, 0, none⟩ = some v0 ∧ ((wa.setCell ⟨gg, o1, none⟩ u1).setCell ⟨gg, o2, none⟩ u2).cell? ⟨f, 1, none⟩ = some v1 := by
  obtain ⟨h0, hf, h1, h2⟩ := h
  refine ⟨(h0.setCell (p := ⟨gg, o1, none⟩) hg _).setCell (p := ⟨gg, o2, none⟩) hg _, by simpa [World.setCell] using hf, ?_, ?_⟩
  · rw [World.cell?_setCell_other _ _ _ _ (by simp only [ne_eq, Addr.mk.injEq]; omega), World.cell?_setCell_other _ _ _ _ (by simp only [ne_eq, Addr.mk.injEq]; omega)]; exact h1
  · rw [World.cell?_setCell_other _ _ _ _ (by simp only [ne_eq, Addr.mk.injEq]; omega), World.cell?_setCell_other _ _ _ _ (by simp only [ne_eq, Addr.mk.injEq]; omega)]; exact h2
theorem CopR.step {w0 w1 w2 : World} {base gg n : Nat} {rs : List RSeg} {pl : List Seg} {c : Int} {p : List Int} {pv : Value} (h : CopR w1 base gg n rs pl) (hk : rs.length < n) (hgb : base ≤ gg) (hlt : ∀ k, k < rs.length → ∀ j, (rs.getD k noR).2.ownBlock = some j → j < w0.heap.size) (hb : base ≤ w0.heap.size)
    (hp : OwnI w1 w0.heap.size pv p) (hw2 : w2 = (w1.setCell ⟨gg, rs.length * 2, none⟩ (.int .i64 c)).setCell ⟨gg, rs.length * 2 + 1, none⟩ pv) : CopR w2 base gg n (rs ++ [(c, pv)]) (pl ++ [(c, p)]) := by
  obtain ⟨h1, h2, h3, h4⟩ := h
  obtain ⟨m, hm⟩ : ∃ m, n - rs.length = m + 1 := ⟨n - rs.length - 1, by omega⟩
  have hm2 : n - (rs ++ [(c, pv)]).length = m := by simp; omega
  rw [hm] at h2
  have q1 := (h2.stored (rs.length * 2) (.int .i64 c)).1
  have q2 := (q1.stored (rs.length * 2 + 1) pv).1
  rw [segCells_fill] at q2
  have hg : w1.grownBy w2 (some gg) := by
    rw [hw2]
    exact grownBy_trans (grownBy_setCell w1 gg _ _) (grownBy_setCell _ gg _ _)
  have hg' : w1.grownBy w2 (Value.slice (some ⟨gg, 0, none⟩) n n).ownBlock := hg
  have hq := h3.grown h2 hg'
  have hp2 : OwnI w2 w0.heap.size pv p := World.ownsRow.kept hp hg' (seg_apart hp h2)
  have hl := h3.1
  refine ⟨by simp; omega, by rw [hm2, hw2]; exact q2, ⟨by simp [hl], fun k hk => ?_⟩, fun i j hi hj hne => ?_⟩
  · simp at hk
    rw [getD_snocR, getD_snocG]
    by_cases hkl : k < rs.length
    · rw [if_pos hkl, if_pos (by omega)]; exact hq.2 k hkl
    · rw [if_neg hkl, if_pos (by omega), if_neg (by omega), if_pos (by omega)]
      exact ⟨rfl, ownsRow_mono hp2 hb⟩
  · simp at hi hj
    rw [getD_snocR, getD_snocR]
    by_cases hil : i < rs.length
    · by_cases hjl : j < rs.length
      · rw [if_pos hil, if_pos hjl]; exact h4 i j hil hjl hne
      · rw [if_pos hil, if_neg hjl, if_pos (by omega)]
        cases hv : (rs.getD i noR).2.ownBlock with
        | none => exact .inl rfl
        | some g =>
          refine .inr (fun e => ?_)
          have a := hlt i hil g hv
          have b := (hp2.lt g e.symm).1
          omega
    · rw [if_neg hil, if_pos (by omega), if_pos (show j < rs.length by omega)]
      show pv.ownBlock = none ∨ pv.ownBlock ≠ _
      cases hv : pv.ownBlock with
      | none => exact .inl rfl
      | some g =>
        refine .inr (fun e => ?_)
        have a := hlt j (by omega) g e.symm
        have b := (hp2.lt g hv).1
        omega

set_option maxRecDepth 20000 in
set_option maxHeartbeats 1600000 in
theorem c_copySegments (v : Value) (pl : List Seg) (w : World) (ha : RdP w v pl) (hx : pl.length ≤ 1000) (hpx : ∀ s ∈ pl, s.2.length ≤ 1099511627776) :
    Calls Try.prog 43 #[v] w (FreshP w pl) := by
  have HPX := hidd hpx
  obtain ⟨a, cap, rfl, hcap⟩ := ha.form
  clear hpx
  go_enter Try.func43, Try.ntmps43
  go_wp2_with (at_make; refine mkfullS 25 47 Try.underlying25 infoSeg (by decide) rfl _ _ rfl pl.length rfl rfl rfl rfl (by omega) ?_; intro w2 ho2 hB2 hz2)
  have hc2 : CopR w2 w.heap.size w.heap.size pl.length [] [] := ⟨Nat.zero_le _, by simpa using ho2, ⟨rfl, fun k hk => by simp at hk⟩, ApartR.nil⟩
  clear ho2
  go_loopw [11] (fun i wr => ∃ (k : Nat) (rs : List RSeg), k ≤ pl.length ∧ i = .int .i64 k ∧ rs.length = k ∧ CopR wr w.heap.size w.heap.size pl.length rs (pl.take k) ∧ w.heap.size < wr.heap.size ∧ Below w.heap.size w wr) (fun i _ => pl.length - (intOf i).toNat)
  case atStart => exact ⟨0, [], by omega, rfl, rfl, hc2, hz2, hB2⟩
  case round =>
    obtain ⟨k, rs, hk, rfl, hrk, hC, hgs, hB⟩ := hrel
    clear hc2 hB2 hz2
    by_cases hlt : k < pl.length
    · obtain ⟨b, o, pa, pn, pc, rfl, hb, e1, e2, hp, hpc, hpn⟩ := ha.cell hB hlt
      have hpl := HPX.out (pl.getD k noG) (by simp [List.getD, hlt])
      have HTS := hidd (take_succG pl k hlt)
      obtain ⟨s, hs⟩ : ∃ s, pl.getD k noG = s := ⟨_, rfl⟩
      rw [hs] at e1 HTS hp hpl
      obtain ⟨c, p⟩ := s
      have e1 : wr.cell? ⟨b, o + k * 2, none⟩ = some (.int .i64 c) := e1
      have hpl : p.length ≤ 1099511627776 := hpl
      have i1 : (0 : Int) ≤ (k : Int) := by omega
      have i2 : (k : Int) < (pl.length : Int) := by omega
      have hal : Below wr.heap.size wr (wr.alloc (.cells #[.int .i64 c, .slice pa pn pc] 47)) := (Below.refl _ _).alloc (Nat.le_refl _) _
      have hBa : Below w.heap.size w (wr.alloc (.cells #[.int .i64 c, .slice pa pn pc] 47)) := bthen hB hal
      obtain ⟨hC1, hC2, hC3, hC4⟩ := hC
      have HLT := hidd hC3.lt
      have k0 : (wr.alloc (.cells #[.int .i64 c, .slice pa pn pc] 47)).cell? ⟨wr.heap.size, 0, none⟩ = some (.int .i64 c) := by simp [go_sem]
      have k1 : (wr.alloc (.cells #[.int .i64 c, .slice pa pn pc] 47)).cell? ⟨wr.heap.size, 1, none⟩ = some (.slice pa pn pc) := by simp [go_sem]
      have hf : wr.heap.size < (wr.alloc (.cells #[.int .i64 c, .slice pa pn pc] 47)).heap.size := by simp
      have hCa := ownsRow_kept_below hC2 hal
      have hC3a := hC3.kept hal
      have hws := hB.size
      clear hs hpn hC2 hC3 ha
      go_wp2
      clear e1 e2
      generalize hW5 : wr.alloc (.cells #[.int .i64 c, .slice pa pn pc] 47) = w5 at *
      generalize hfs : wr.heap.size = f at *
      have hk0 : Below w.heap.size w w5.drew ∧ f < w5.drew.heap.size ∧ w5.drew.cell? ⟨f, 0, none⟩ = some (.int .i64 c) ∧ w5.drew.cell? ⟨f, 1, none⟩ = some (.slice pa pn pc) := ⟨hBa.drew, hf, k0, k1⟩
      have hCd : w5.drew.ownsRow w.heap.size 47 2 (.slice (some ⟨w.heap.size, 0, none⟩) pl.length pl.length) pl.length (segCells (rs ++ List.replicate (pl.length - rs.length) noR)) := hCa
      have HC3d : Hid (PolysO w5.drew w.heap.size rs (pl.take k)) := hC3a
      have HC4 := hidd hC4
      have hpd : RdI w5.drew (.slice pa pn pc) p := hp.kept hBa.drew
      have HCL := hidd (c_clone _ p w5.drew hpd hpl)
      have hfg : f ≠ w.heap.size := by omega
      have hkr : k * 2 < pl.length * 2 := by omega
      have HBa := hidd hBa
      have hk2 : k * 2 + 1 < pl.length * 2 := by omega
      have hf5 : w.heap.size ≤ w5.drew.heap.size := HBa.out.size
      clear k0 k1 hCa hC3a hpd hp hW5 hC4 hal
      go_wp2
      go_region_held3 (fun wx => Below w.heap.size w wx ∧ f < wx.heap.size ∧ wx.cell? ⟨f, 0, none⟩ = some (.int .i64 c) ∧ wx.cell? ⟨f, 1, none⟩ = some (.slice pa pn pc)) (first | assumption | exact hk0 | exact keepB (by assumption) (by assumption) | exact keepSt hfg (Nat.le_refl _) (by assumption))
        ((go_at_call 77; refine HCL.out.mono ?_; rintro e w6 ⟨u, rfl, hu, hb6⟩; obtain ⟨ua, uc, rfl⟩ := RdI_form (owns_RdI hu); have q1 := ownsRow_kept_below hCd hb6; have q2 := HC3d.out.kept hb6; obtain ⟨y1, z1⟩ : ∃ y, w6.cell? ⟨w.heap.size, k * 2, none⟩ = some y := ⟨_, by rw [q1.cellAt (k * 2) hkr]; exact List.getElem?_eq_getElem (by rw [segCells_len]; simp; omega)⟩; obtain ⟨y2, z2⟩ : ∃ y, w6.cell? ⟨w.heap.size, k * 2 + 1, none⟩ = some y := ⟨_, by rw [q1.cellAt (k * 2 + 1) hk2]; exact List.getElem?_eq_getElem (by rw [segCells_len]; simp; omega)⟩; have z3 := q1.frozenAt (k * 2); have z4 := q1.frozenAt (k * 2 + 1)))
      rename_i hS
      have HO : Hid (CopR ((w6.setCell ⟨w.heap.size, k * 2, none⟩ (.int .i64 c)).setCell ⟨w.heap.size, k * 2 + 1, none⟩ (.slice ua p.length uc)) w.heap.size w.heap.size pl.length (rs ++ [(c, .slice ua p.length uc)]) (pl.take (k + 1))) := by
        rw [HTS.out]
        refine CopR.step (w0 := w5.drew) (w1 := w6) ⟨hC1, q1, q2, HC4.out⟩ (by omega) (Nat.le_refl _) (fun i hi j hj => Nat.lt_trans (HLT.out i hi j hj) hf) hf5 hu ?_
        rw [hrk]
      have HB := hidd hS.1
      have hgs' := Nat.lt_of_lt_of_le hgs (Nat.le_trans (Nat.le_of_lt hf) hb6.size)
      have hgs2 : w.heap.size < ((w6.setCell ⟨w.heap.size, k * 2, none⟩ (.int .i64 c)).setCell ⟨w.heap.size, k * 2 + 1, none⟩ (.slice ua p.length uc)).heap.size := by simpa [World.setCell] using hgs'
      have hrl : (rs ++ [(c, Value.slice ua p.length uc)]).length = k + 1 := by simp [hrk]
      have HRL := hidd hrl
      clear hS hk0 hCd q1 q2 z1 z2 z3 z4 hu hb6 hrl hgs'
      go_wp2
      go_roundw
      case rel => exact ⟨k + 1, _, by omega, by go_num, HRL.out, HO.out, hgs2, HB.out⟩
      case measure => simp [intOf]; omega
    · have HF : Hid (FreshP w pl (.returned (.slice (some ⟨w.heap.size, 0, none⟩) pl.length pl.length)) wr) := by
        obtain ⟨q1, q2, q3, q4⟩ := hC
        rw [List.take_of_length_le (by omega)] at q3
        have hrl : rs.length = pl.length := q3.1
        rw [hrl, Nat.sub_self, List.replicate_zero, List.append_nil] at q2
        exact ⟨_, rfl, ⟨rs, by rw [hrl]; exact q2, q3, q4⟩, hB⟩
      clear hC hB ha
      go_wp2
      go_ret
      exact HF.out
end Go.Proofs.Ythjehjdcpfefcaa

namespace Go.Proofs.Ythjehjdcpfefcaa
set_option linter.unusedVariables false
open Go.RowKit

/-- the values of two neighbouring segments -/
def jnP (pl : List Seg) (i : Nat) : List Seg := (pl.take (i + 2)).drop i
def jnB (pl : List Seg) (i d : Int) : Bool := planB pl && inB d 0 6 && inB i 0 ((pl.length : Int) - 2) && runB (plV (jnP pl i.toNat)) d
def jnE (pl : List Seg) (i : Nat) : List Seg := pl.take i ++ [((pl.getD i noG).1 + (pl.getD (i + 1) noG).1, ip (plV (jnP pl i)))] ++ pl.drop (i + 2)
def jnPL (pl : List Seg) (i d : Int) : List Seg := if jnB pl i d = true then jnE pl i.toNat else []
theorem jnP_eq {pl : List Seg} {i : Nat} (h : i + 1 < pl.length) : jnP pl i = [pl.getD i noG, pl.getD (i + 1) noG] := by
  unfold jnP
  have e : (pl.take (i + 2)).drop i = (pl.drop i).take 2 := by rw [List.drop_take]; congr 1; omega
  rw [e, drop_consG pl i (by omega), drop_consG pl (i + 1) h]
  rfl
theorem jnP_all {f : Seg → Bool} {pl : List Seg} {i : Nat} (h : pl.all f = true) : (jnP pl i).all f = true :=
  List.all_eq_true.2 fun x hx => List.all_eq_true.1 h x (List.mem_of_mem_take (List.mem_of_mem_drop hx))
theorem jnP_plan {pl : List Seg} {i : Nat} (h : planB pl = true) (hi : i + 1 < pl.length) : planB (jnP pl i) = true := by
  obtain ⟨h1, h2, h3⟩ := planB_iff.1 h
  refine planB_iff.2 ⟨by rw [jnP_eq hi]; simp, jnP_all h2, ?_⟩
  have hc := segB_cnt pl h2
  have e : totG pl = totG (pl.take i) + (totG (jnP pl i) + totG (pl.drop (i + 2))) := by
    rw [← tot_append, ← tot_append]
    congr 1
    have e2 : jnP pl i ++ pl.drop (i + 2) = pl.drop i := by
      rw [jnP_eq hi, drop_consG pl i (by omega), drop_consG pl (i + 1) hi]; rfl
    rw [e2, List.take_append_drop]
  have a := (tot_bd (pl.take i) (List.all_eq_true.2 fun x hx => List.all_eq_true.1 hc x (List.mem_of_mem_take hx))).1
  have b := (tot_bd (pl.drop (i + 2)) (List.all_eq_true.2 fun x hx => List.all_eq_true.1 hc x (List.mem_of_mem_drop hx))).1
  omega
theorem jnP_len {pl : List Seg} {i : Nat} (h : pl.all cntB = true) (hi : i + 1 < pl.length) : ((plV (jnP pl i)).length : Int) = (pl.getD i noG).1 + (pl.getD (i + 1) noG).1 := by
  rw [plV_len _ (jnP_all h), jnP_eq hi]
  simp [totG]
theorem jn_no {pl : List Seg} {i d : Int} (h : jnB pl i d = false) : jnPL pl i d = [] := if_neg (by rw [h]; decide)
theorem Polys_lit1 {w : World} {c : Int} {v : Value} {p : List Int} (h : RdI w v p) (k : CapOk v) : Polys w [(c, v)] [(c, p)] :=
  ⟨rfl, fun i hi => by
    obtain rfl : i = 0 := by simp at hi; omega
    exact ⟨rfl, h, k⟩⟩
theorem RdR_lit1 (W : World) (c : Int) (v : Value) (t : TypeId) : RdR (W.alloc (.cells #[.int .i64 c, v] t)) (.slice (some ⟨W.heap.size, 0, none⟩) 1 1) [(c, v)] := by
  refine ⟨_, 1, rfl, Nat.le_refl _, .inr ⟨W.heap.size, 0, rfl, by simp, fun i hi => ?_⟩⟩
  match i, hi with
  | 0, _ => simp [go_sem, segCells]
  | 1, _ => simp [go_sem, segCells]
end Go.Proofs.Ythjehjdcpfefcaa

namespace Go.Proofs.Ythjehjdcpfefcaa
set_option linter.unusedVariables false
open Go.RowKit

theorem jnL_len (pl : List Seg) (i d : Int) : (jnPL pl i d).length ≤ pl.length + 1 := by
  unfold jnPL
  split
  · unfold jnE; simp; omega
  · simp
theorem jnB_iff {pl : List Seg} {i d : Int} (h : jnB pl i d = true) : planB pl = true ∧ inB d 0 6 = true ∧ 0 ≤ i ∧ i.toNat + 1 < pl.length ∧ runB (plV (jnP pl i.toNat)) d = true := by
  unfold jnB at h
  simp only [Bool.and_eq_true] at h
  obtain ⟨⟨⟨h1, h2⟩, h3⟩, h4⟩ := h
  have := inB_iff.1 h3
  exact ⟨h1, h2, this.1, by omega, h4⟩
theorem jnL_mem {pl : List Seg} {M : Nat} (i d : Int) (hM : 7 ≤ M) (h : ∀ s ∈ pl, s.2.length ≤ M) : ∀ s ∈ jnPL pl i d, s.2.length ≤ M := by
  unfold jnPL
  split
  · rename_i hb
    have hr := (polyB_iff (runB_iff (jnB_iff hb).2.2.2.2).2.2.2).2.1
    intro s hs
    unfold jnE at hs
    simp only [List.append_assoc, List.mem_append, List.mem_cons, List.not_mem_nil, or_false] at hs
    rcases hs with hs | rfl | hs
    · exact h s (List.mem_of_mem_take hs)
    · show (ip _).length ≤ M; omega
    · exact h s (List.mem_of_mem_drop hs)
  · intro s hs; cases hs
theorem PolysO.grown' {w w' : World} {base b2 : Nat} {v : Value} {n : Nat} {xs : List Value} {rs : List RSeg} {pl : List Seg} (h : PolysO w base rs pl) (ho : w.ownsRow b2 47 2 v n xs) (hg : w.grownBy w' v.ownBlock) : PolysO w' base rs pl :=
  ⟨h.1, fun k hk => ⟨(h.2 k hk).1, (h.2 k hk).2.kept hg (seg_apart (h.2 k hk).2 ho)⟩⟩
/-- the segments of another plan of the call's own are appended -/
theorem OwP_app {wr w2 w3 : World} {base : Nat} {v v' : Value} {rs ss : List RSeg} {pl ql : List Seg}
    (h1 : w2.ownsRow base 47 2 v rs.length (segCells rs)) (h2 : PolysO w2 base rs pl) (h3 : ApartR rs) (hlt : ∀ k, k < rs.length → ∀ j, (rs.getD k noR).2.ownBlock = some j → j < wr.heap.size)
    (k2 : PolysO w2 wr.heap.size ss ql) (k3 : ApartR ss) (hb : base ≤ wr.heap.size)
    (ho : w3.ownsRow base 47 2 v' (rs.length + ss.length) (segCells rs ++ segCells ss)) (hg : w2.grownBy w3 v.ownBlock) : OwP w3 base v' (pl ++ ql) := by
  have hq := h2.grown h1 hg
  have hk := k2.grown' h1 hg
  refine ⟨rs ++ ss, by rw [List.length_append, segCells_append]; exact ho, ⟨by simp [h2.1, k2.1], fun k hkl => ?_⟩, fun i j hi hj hne => ?_⟩
  · rw [getD_appR, getD_appG]
    by_cases hl : k < rs.length
    · rw [if_pos hl, if_pos (by rw [← h2.1]; exact hl)]; exact hq.2 k hl
    · rw [if_neg hl, if_neg (by rw [← h2.1]; exact hl), ← h2.1]
      have := hk.2 (k - rs.length) (by simp at hkl; omega)
      exact ⟨this.1, ownsRow_mono this.2 hb⟩
  · simp at hi hj
    have cross : ∀ a b, a < rs.length → b < ss.length → (rs.getD a noR).2.ownBlock = none ∨ (rs.getD a noR).2.ownBlock ≠ (ss.getD b noR).2.ownBlock := by
      intro a b ha hb2
      cases hv : (rs.getD a noR).2.ownBlock with
      | none => exact .inl rfl
      | some g =>
        refine .inr (fun e => ?_)
        have x := hlt a ha g hv
        have y := ((k2.2 b hb2).2.lt g e.symm).1
        omega
    rw [getD_appR, getD_appR]
    by_cases hil : i < rs.length
    · rw [if_pos hil]
      by_cases hjl : j < rs.length
      · rw [if_pos hjl]; exact h3 i j hil hjl hne
      · rw [if_neg hjl]; exact cross i _ hil (by omega)
    · rw [if_neg hil]
      by_cases hjl : j < rs.length
      · rw [if_pos hjl]; exact apart_comm (cross j _ hjl (by omega))
      · rw [if_neg hjl]; exact k3 _ _ (by omega) (by omega) (by omega)
/-- one segment more, whose polynomial lies apart -/
theorem OwP_snocA {w2 w3 : World} {base : Nat} {v v' pv : Value} {rs : List RSeg} {pl : List Seg} {c : Int} {p : List Int}
    (h1 : w2.ownsRow base 47 2 v rs.length (segCells rs)) (h2 : PolysO w2 base rs pl) (h3 : ApartR rs) (hap : ∀ k, k < rs.length → (rs.getD k noR).2.ownBlock = none ∨ (rs.getD k noR).2.ownBlock ≠ pv.ownBlock)
    (hp : OwnI w2 base pv p)
    (ho : w3.ownsRow base 47 2 v' (rs.length + 1) (segCells rs ++ [.int .i64 c, pv])) (hg : w2.grownBy w3 v.ownBlock) :
    w3.ownsRow base 47 2 v' (rs ++ [(c, pv)]).length (segCells (rs ++ [(c, pv)])) ∧ PolysO w3 base (rs ++ [(c, pv)]) (pl ++ [(c, p)]) ∧ ApartR (rs ++ [(c, pv)]) := by
  have hq := h2.grown h1 hg
  have hp3 : OwnI w3 base pv p := World.ownsRow.kept hp hg (seg_apart hp h1)
  have hl := h2.1
  refine ⟨?_, ⟨by simp [hl], fun k hk => ?_⟩, fun i j hi hj hne => ?_⟩
  · rw [List.length_append, segCells_append]
    exact ho
  · simp at hk
    rw [getD_snocR, getD_snocG]
    by_cases hkl : k < rs.length
    · rw [if_pos hkl, if_pos (by omega)]; exact hq.2 k hkl
    · rw [if_neg hkl, if_pos (by omega), if_neg (by omega), if_pos (by omega)]
      exact ⟨rfl, hp3⟩
  · simp at hi hj
    rw [getD_snocR, getD_snocR]
    by_cases hil : i < rs.length
    · rw [if_pos hil]
      by_cases hjl : j < rs.length
      · rw [if_pos hjl]; exact h3 i j hil hjl hne
      · rw [if_neg hjl, if_pos (by omega)]; exact hap i hil
    · rw [if_neg hil, if_pos (by omega), if_pos (show j < rs.length by omega)]
      exact apart_comm (hap j (by omega))
theorem old_apart {w w' : World} {b1 b2 e1 e2 s1 s2 n1 n2 : Nat} {v1 v2 : Value} {x1 x2 : List Value} (h1 : w'.ownsRow b1 e1 s1 v1 n1 x1) (h2 : w.ownsRow b2 e2 s2 v2 n2 x2) (hb : w.heap.size ≤ b1) : v1.ownBlock = none ∨ v1.ownBlock ≠ v2.ownBlock := by
  cases hv : v1.ownBlock with
  | none => exact .inl rfl
  | some j =>
    refine .inr (fun e => ?_)
    have h3 := (h1.lt j hv).1
    have h4 := (h2.lt j e.symm).2
    omega
theorem RdP_take {w : World} {a : Option Addr} {n cap : Nat} {pl : List Seg} (h : RdP w (.slice a n cap) pl) (hn : n = pl.length) {k : Nat} (hk : k ≤ n) : RdP w (.slice a k cap) (pl.take k) := by
  subst hn
  obtain ⟨rs, h1, h2⟩ := h
  exact ⟨rs.take k, RdR_to h2.1 h1 hk, h2.take k⟩
end Go.Proofs.Ythjehjdcpfefcaa

namespace Go.Proofs.Ythjehjdcpfefcaa
set_option linter.unusedVariables false
open Go.RowKit

theorem take_set_last (pl : List Seg) (I : Nat) (s : Seg) (h : I < pl.length) : (pl.take (I + 1)).set I s = pl.take I ++ [s] := by
  rw [take_succG pl I h, List.set_append_right _ _ (by rw [List.length_take]; omega), List.length_take, Nat.min_eq_left (by omega), Nat.sub_self]
  rfl
set_option maxRecDepth 20000 in
set_option maxHeartbeats 1600000 in
theorem c_impl_SplitSegment (v : Value) (pl : List Seg) (i t : Int) (w : World) (ha : RdP w v pl) (hx : pl.length ≤ 1099511627776) (hpx : ∀ s ∈ pl, s.2.length ≤ 1099511627776) (hi1 : i ≤ 9223372036854775807) (hi0 : -9223372036854775808 ≤ i) :
    Calls Try.prog 18 #[v, (.int .i64 (i)), (.int .i64 (t))] w (FreshPB w (spL pl i t) (spB pl i t)) := by
  have HPV := hidd (c_impl_PlanValid v pl w ha hx hpx)
  obtain ⟨a, cap, rfl, hcap⟩ := ha.form
  have HA := hidd ha
  by_cases hall : planB pl = true ∧ inB i 0 ((pl.length : Int) - 1) = true
  · obtain ⟨hv, hin⟩ := hall
    have hl60 := planB_len hv
    obtain ⟨i1, i2⟩ := inB_iff.1 hin
    obtain ⟨I, rfl⟩ : ∃ I : Nat, i = I := ⟨i.toNat, by omega⟩
    have hI : I < pl.length := by omega
    have hseg := segB_iff (all_getG (planB_iff.1 hv).2.1 hI)
    have hsb : spB pl (I : Int) t = (inB t 1 ((pl.getD I noG).1 - 1) && shB (pl.getD I noG).2 t.toNat) := by unfold spB; rw [hv, hin]; simp
    have HSE : Hid (∀ T : Nat, spE pl I T = pl.take I ++ [((T : Int), (pl.getD I noG).2), ((pl.getD I noG).1 - T, shf (pl.getD I noG).2 T)] ++ pl.drop (I + 1)) := fun T => rfl
    rw [hv] at HPV
    obtain ⟨s, hs⟩ : ∃ s, pl.getD I noG = s := ⟨_, rfl⟩
    rw [hs] at hseg hsb HSE
    obtain ⟨c, p⟩ := s
    have HS := hidd hs
    obtain ⟨c1, c2, hpv, _⟩ := hseg
    have c1 : 1 ≤ c := c1
    have c2 : c ≤ 60 := c2
    have hpv : polyB p = true := hpv
    have hp7 := (polyB_iff hpv).2.1
    have hsb : spB pl (I : Int) t = (inB t 1 (c - 1) && shB p t.toNat) := hsb
    have j1 : (0 : Int) ≤ (I : Int) := by omega
    have j0 : decide ((I : Int) < 0) = false := decide_eq_false (by omega)
    have j2 : (I : Int) < (pl.length : Int) := by omega
    have j3 : decide (pl.length ≤ I) = false := decide_eq_false (by omega)
    have hb0 := ha
    clear hs hin
    by_cases hat : inB t 1 (c - 1) = true
    · obtain ⟨t1, t2⟩ := inB_iff.1 hat
      obtain ⟨T, rfl⟩ : ∃ T : Nat, t = T := ⟨t.toNat, by omega⟩
      rw [Int.toNat_natCast] at hsb
      have hT : T ≤ 59 := by omega
      have HSH : Hid (∀ u W, RdI W u p → CapOk u → Calls Try.prog 42 #[u, (.int .i64 ((T : Int)))] W (FreshIB W (shfL p T) (shB p T))) := fun u W h hc => c_impl_ShiftPoly u p T W h hc (by omega) (by omega)
      have j4 : ¬ (T : Int) < 1 := by omega
      have j5 : ¬ c - 1 < (T : Int) := by omega
      cases hsh : shB p T
      · have E : Hid (spB pl (I : Int) (T : Int) = false ∧ spL pl (I : Int) (T : Int) = []) := by
          have h : spB pl (I : Int) (T : Int) = false := by rw [hsb, hsh, Bool.and_false]
          exact ⟨h, if_neg (by rw [h]; decide)⟩
        rw [hsh] at HSH
        clear hsb hat
        go_enter Try.func18, Try.ntmps18
        go_wp2_with fail
        refine HPV.out.mono ?_
        rintro e w1 ⟨rfl, hB1⟩
        obtain ⟨b, o, pa, pn, pc, rfl, hb, e1, e2, hp, hpc, hpn⟩ := ha.cell hB1 hI
        rw [HS.out] at e1 hp
        have HS1 := hidd (HSH.out _ _ (hp.kept hB1) (CapOk_of hpc))
        clear hp hpc hpn ha hb0
        go_wp2_with fail
        refine HS1.out.mono ?_
        rintro e w2 ⟨q, rfl, hq, hB2⟩
        have HF : Hid (FreshPB w (spL pl (I : Int) (T : Int)) (spB pl (I : Int) (T : Int)) (.returned (.tuple #[.slice none 0 0, .bool false])) w2) := by
          rw [E.out.1, E.out.2]; exact ⟨_, rfl, OwP.nil _ _, bthen hB1 hB2⟩
        clear hq hB1 hB2
        go_wp2
        go_ret2
        exact HF.out
      · have E : Hid (spB pl (I : Int) (T : Int) = true ∧ spL pl (I : Int) (T : Int) = spE pl I T) := by
          have h : spB pl (I : Int) (T : Int) = true := by rw [hsb, hat, hsh]; rfl
          exact ⟨h, if_pos h⟩
        have HSL : Hid (shfL p T = shf p T) := if_pos hsh
        rw [hsh, HSL.out] at HSH
        obtain ⟨P2, hP2⟩ : ∃ P2, shf p T = P2 := ⟨_, rfl⟩
        rw [hP2] at HSH
        have HP2 := hidd hP2
        have HC1 : Hid (∀ W, RdP W (.slice a pl.length cap) pl → Calls Try.prog 43 #[.slice a (I + 1) cap] W (FreshP W (pl.take (I + 1)))) :=
          fun W h => c_copySegments _ (pl.take (I + 1)) W (RdP_take h rfl (by omega)) (by simp; omega) (fun s hs => hpx s (List.mem_of_mem_take hs))
        obtain ⟨A2, g3, g4⟩ := slP_from a pl.length cap (I + 1) (by omega) hcap
        have ec : ((I + 1 : Nat) : Int) = (I : Int) + 1 := by push_cast; rfl
        rw [ec] at g3
        have HC2 : Hid (∀ W, RdP W (.slice a pl.length cap) pl → Calls Try.prog 43 #[.slice A2 (pl.length - (I + 1)) (cap - (I + 1))] W (FreshP W (pl.drop (I + 1)))) :=
          fun W ⟨rs, q1, q2⟩ => c_copySegments _ (pl.drop (I + 1)) W ⟨_, g4 W rs q2.1 q1, q2.drop (I + 1)⟩ (by simp; omega) (fun s hs => hpx s (List.mem_of_mem_drop hs))
        have hIc : I + 1 ≤ cap := by omega
        clear hsb hat g4 ec hpx hP2
        go_enter Try.func18, Try.ntmps18
        go_wp2_with fail
        refine HPV.out.mono ?_
        rintro e w1 ⟨rfl, hB1⟩
        obtain ⟨b, o, pa, pn, pc, rfl, hb, e1, e2, hp, hpc, hpn⟩ := ha.cell hB1 hI
        rw [HS.out] at e1 hp
        have HS1 := hidd (HSH.out _ _ (hp.kept hB1) (CapOk_of hpc))
        clear hpc hpn ha hb0
        go_wp2_with fail
        refine HS1.out.mono ?_
        rintro e w2 ⟨q, rfl, hq, hB2⟩
        obtain ⟨qa, qc, rfl⟩ := RdI_form (owns_RdI hq)
        have HQ := hidd hq
        have HB2 := hidd (bthen hB1 hB2)
        have HR2 := hidd (HA.out.kept HB2.out)
        have hs1 : w.heap.size ≤ w1.heap.size := hB1.size
        clear hq hB1 hB2 e1 e2 hp
        go_wp2_with fail
        refine (HC1.out _ HR2.out).mono ?_
        rintro e w3 ⟨u3, rfl, ho3, hB3⟩
        have hl3 : (pl.take (I + 1)).length = I + 1 := by simp; omega
        obtain ⟨gg, cap3, rs, hv3, hgb, hrl, h1, h2, h3⟩ := ho3.rowForm (by omega)
        subst hv3
        have hrl1 : rs.length = I + 1 := by omega
        have hkr : I < rs.length := by omega
        have hk1 : ∃ y, w3.cell? ⟨gg, I * 2, none⟩ = some y := by
          rw [h1.cellAt (I * 2) (by omega)]
          exact ⟨_, (segCells_get rs I hkr).1⟩
        obtain ⟨y, k1⟩ := hk1
        have k2 := h1.frozenAt (I * 2)
        have h4 := (h1.stored (I * 2) (.int .i64 (T : Int))).1
        rw [← segCells_set1 rs I (T : Int) hkr] at h4
        have hpk := h2.2 I hkr
        have hOS := OwP_set h1 h2 (h3.set (c := (T : Int)) (pv := (rs.getD I noR).2) hkr (fun i hi hne => h3 I i hkr hi (Ne.symm hne))) hkr hpk.2 (grownBy_setCell w3 gg (I * 2) (.int .i64 (T : Int))) h4
        rw [take_set_last pl I _ hI] at hOS
        have hpG : ((pl.take (I + 1)).getD I noG).2 = p := by rw [getD_takeG _ _ _ (by omega), HS.out]
        rw [hpG] at hOS
        have hB3s : Below w.heap.size w (w3.setCell ⟨gg, I * 2, none⟩ (.int .i64 (T : Int))) := (bthen HB2.out hB3).setCell (p := ⟨gg, I * 2, none⟩) (by have := hgb; have := HB2.out.size; show w.heap.size ≤ gg; omega) _
        have hQ3 : OwnI (w3.setCell ⟨gg, I * 2, none⟩ (.int .i64 (T : Int))) w1.heap.size (.slice qa P2.length qc) P2 := World.ownsRow.kept (ownsRow_kept_below HQ.out hB3) (grownBy_setCell w3 gg (I * 2) _) (by
          have := seg_apart (ownsRow_kept_below HQ.out hB3) h1
          exact this)
        have hge2 : w2.heap.size ≤ gg := hgb
        have hl3r : (pl.take (I + 1)).length = rs.length := by rw [hrl1, hl3]
        rw [hl3r]
        have i3 : (I : Int) < (rs.length : Int) := by omega
        rw [hrl1] at h1 hOS i3 ⊢
        have HOS := hidd hOS
        have HB3s := hidd hB3s
        have HQ3 := hidd hQ3
        have HW2 : Hid (w.heap.size ≤ w2.heap.size) := HB2.out.size
        have HB3 := hidd hB3
        have hR3 := HA.out.kept HB3s.out
        obtain ⟨b', o', pa', pn', pc', he, hb', f1, _, _, _, _⟩ := HA.out.cell HB3s.out hI
        simp only [Option.some.injEq, Addr.mk.injEq] at he
        obtain ⟨rfl, rfl, _⟩ := he
        rw [HS.out] at f1
        clear h2 h3 h4 hpk hOS hB3s hQ3 hB3 hpG hl3 hl3r hrl h1
        obtain ⟨rs2, q1, q2, q3⟩ := HOS.out
        have hr2 : rs2.length = I + 1 := by have := q2.1; simp at this; omega
        have HQ2 := hidd q2
        have HQ3' := hidd q3
        have hbase : w.heap.size ≤ w2.heap.size := HW2.out
        have hs32 : w2.heap.size ≤ w3.heap.size := HB3.out.size
        have q1m := ownsRow_mono q1 hbase
        have HAP : Hid (∀ k, k < rs2.length → (rs2.getD k noR).2.ownBlock = none ∨ (rs2.getD k noR).2.ownBlock ≠ (Value.slice qa P2.length qc).ownBlock) := fun k hk => old_apart (q2.2 k hk).2 HQ.out (Nat.le_refl _)
        have hRN : RdN ((w3.setCell ⟨gg, I * 2, none⟩ (.int .i64 (T : Int))).alloc (.cells #[.int .i64 (c - (T : Int)), .slice qa P2.length qc] 47)) 2 (.slice (some ⟨w3.heap.size, 0, none⟩) 1 1) 1 [.int .i64 (c - (T : Int)), .slice qa P2.length qc] := by
          have := RdN_seg (w3.setCell ⟨gg, I * 2, none⟩ (.int .i64 (T : Int))) (c - (T : Int)) (.slice qa P2.length qc)
          have e : (w3.setCell ⟨gg, I * 2, none⟩ (.int .i64 (T : Int))).heap.size = w3.heap.size := by simp [World.setCell]
          rwa [e] at this
        have hsz : (w3.setCell ⟨gg, I * 2, none⟩ (.int .i64 (T : Int))).heap.size = w3.heap.size := by simp [World.setCell]
        have hzz : w.heap.size ≤ ((w3.setCell ⟨gg, I * 2, none⟩ (.int .i64 (T : Int))).alloc (.cells #[.int .i64 (c - (T : Int)), .slice qa P2.length qc] 47)).heap.size := by simp [World.setCell]; omega
        have HZ := hidd hsz
        rw [hr2] at q1m
        have q1a := q1m.alloc (.cells #[.int .i64 (c - (T : Int)), .slice qa P2.length qc] 47)
        clear q2 q3 hsz q1
        go_wp2_with (at_builtin; refine appN 25 47 Try.underlying25 infoSeg rfl (by decide) (by decide) rfl _ _ rfl w.heap.size _ _ _ rfl q1a _ _ _ rfl hRN (one_seg _ qa _ qc) ?c1 hzz ?_)
        case c1 => omega
        intro v5 w5 ho5 hg5 _
        have hal : Below (w3.setCell ⟨gg, I * 2, none⟩ (.int .i64 (T : Int))).heap.size (w3.setCell ⟨gg, I * 2, none⟩ (.int .i64 (T : Int))) ((w3.setCell ⟨gg, I * 2, none⟩ (.int .i64 (T : Int))).alloc (.cells #[.int .i64 (c - (T : Int)), .slice qa P2.length qc] 47)) := (Below.refl _ _).alloc (Nat.le_refl _) _
        have ho5' : w5.ownsRow w.heap.size 47 2 v5 (rs2.length + 1) (segCells rs2 ++ [.int .i64 (c - (T : Int)), .slice qa P2.length qc]) := by rw [hr2]; exact ho5
        have q1a' : ((w3.setCell ⟨gg, I * 2, none⟩ (.int .i64 (T : Int))).alloc (.cells #[.int .i64 (c - (T : Int)), .slice qa P2.length qc] 47)).ownsRow w.heap.size 47 2 (.slice (some ⟨gg, 0, none⟩) (I + 1) cap3) rs2.length (segCells rs2) := by rw [hr2]; exact q1a
        have hq2' : PolysO (w3.setCell ⟨gg, I * 2, none⟩ (.int .i64 (T : Int))) w.heap.size rs2 (pl.take I ++ [((T : Int), p)]) := ⟨HQ2.out.1, fun k hk => ⟨(HQ2.out.2 k hk).1, ownsRow_mono (HQ2.out.2 k hk).2 hbase⟩⟩
        have HO5 := hidd (OwP_snocA q1a' (PolysO.kept hq2' hal) HQ3'.out HAP.out (ownsRow_mono (ownsRow_kept_below HQ3.out hal) hs1) ho5' hg5)
        have HB5 : Hid (Below w.heap.size w w5) := (bthen HB3s.out hal).grown hg5 hzz (fun j hj => (q1a.lt j hj).1)
        have HC5 := hidd (HC2.out _ (HA.out.kept HB5.out))
        have hr5 := HO5.out.1
        have hs5 : w.heap.size ≤ w5.heap.size := HB5.out.size
        clear ho5 ho5' hg5 q1a q1a' q1m hal hq2' hRN hzz f1 k1 k2
        go_wp2_with fail
        refine HC5.out.mono ?_
        rintro e w6 ⟨u6, rfl, ho6, hB6⟩
        obtain ⟨ss, z1, z2, z3⟩ := ho6
        have hsl6 : ss.length ≤ 60 := by have := z2.1; simp at this; omega
        have hr6 := ownsRow_kept_below hr5 hB6
        have HT := hidd z2
        have HT3 := hidd z3
        have HN := hidd (segCells_mem ss z2.polys.slices)
        have HP6 := hidd (PolysO.kept HO5.out.2.1 hB6)
        have HRN := hidd (RdN_of_RdR (owns_RdR z1))
        have HB6 := hidd (bthen HB5.out hB6)
        have hs6 : w.heap.size ≤ w6.heap.size := HB6.out.size
        have hrl6 : (rs2 ++ [(c - (T : Int), Value.slice qa P2.length qc)]).length ≤ 62 := by simp; omega
        clear z1 z2 z3 hB6 hr5
        go_wp2_with (at_builtin; refine appN 25 47 Try.underlying25 infoSeg rfl (by decide) (by decide) rfl _ _ rfl w.heap.size _ _ _ rfl hr6 _ _ _ rfl HRN.out HN.out ?c3 ?c4 ?_)
        case c3 => omega
        case c4 => exact hs6
        intro v7 w7 ho7 hg7 _
        have HF : Hid (FreshPB w (spL pl (I : Int) (T : Int)) (spB pl (I : Int) (T : Int)) (.returned (.tuple #[v7, .bool true])) w7) := by
          rw [E.out.1, E.out.2, HSE.out T]
          have h := OwP_app (wr := w5) hr6 HP6.out HO5.out.2.2 HO5.out.2.1.lt HT.out HT3.out hs5 (by rw [List.length_append, hr2]; exact ho7) hg7
          rw [← HP2.out] at h
          refine ⟨_, rfl, ?_, HB6.out.grown hg7 hs6 (fun j hj => (hr6.lt j hj).1)⟩
          simpa [List.append_assoc] using h
        clear ho7 hg7 hr6
        go_wp2
        go_ret2
        exact HF.out
    · have E : Hid (spB pl (I : Int) t = false ∧ spL pl (I : Int) t = []) := by
        have h : spB pl (I : Int) t = false := by rw [hsb]; simp [hat]
        exact ⟨h, if_neg (by rw [h]; decide)⟩
      have hdis : t < 1 ∨ (1 ≤ t ∧ c - 1 < t) := by
        rcases Int.lt_or_le t 1 with h | h
        · exact .inl h
        · refine .inr ⟨h, ?_⟩
          rcases Int.lt_or_le (c - 1) t with h2 | h2
          · exact h2
          · exact absurd (inB_iff.2 ⟨h, h2⟩) hat
      clear hsb hat hpx
      rcases hdis with ht | ⟨ht, ht2⟩
      all_goals
        go_enter Try.func18, Try.ntmps18
        go_wp2_with fail
        refine HPV.out.mono ?_
        rintro e w1 ⟨rfl, hB1⟩
        obtain ⟨b, o, pa, pn, pc, rfl, hb, e1, e2, hp, hpc, hpn⟩ := ha.cell hB1 hI
        rw [HS.out] at e1
        have HF : Hid (FreshPB w (spL pl (I : Int) t) (spB pl (I : Int) t) (.returned (.tuple #[.slice none 0 0, .bool false])) w1) := by
          rw [E.out.1, E.out.2]; exact ⟨_, rfl, OwP.nil _ _, hB1⟩
        clear hp hpc hpn ha hb0 hB1
        go_wp2
        go_ret2
        exact HF.out
  · have E : Hid (spB pl i t = false ∧ spL pl i t = []) := by
      have h : spB pl i t = false := by
        cases e : spB pl i t
        · rfl
        · unfold spB at e
          simp only [Bool.and_eq_true] at e
          exact absurd ⟨e.1.1.1, e.1.1.2⟩ hall
      exact ⟨h, if_neg (by rw [h]; decide)⟩
    have hdis : planB pl = false ∨ (planB pl = true ∧ i < 0) ∨ (planB pl = true ∧ 0 ≤ i ∧ (pl.length : Int) ≤ i) := by
      cases a : planB pl
      · exact .inl rfl
      · by_cases c : i < 0
        · exact .inr (.inl ⟨rfl, c⟩)
        · refine .inr (.inr ⟨rfl, by omega, ?_⟩)
          rcases Int.lt_or_le i (pl.length : Int) with h | h
          · exact absurd ⟨a, inB_iff.2 ⟨by omega, by omega⟩⟩ hall
          · exact h
    clear hall ha HA
    rcases hdis with hv | ⟨hv, hin⟩ | ⟨hv, hin, hin2⟩
    all_goals
      rw [hv] at HPV
      clear hv
      go_enter Try.func18, Try.ntmps18
      go_wp2_with fail
      refine HPV.out.mono ?_
      rintro e w1 ⟨rfl, hB1⟩
      have HF : Hid (FreshPB w (spL pl i t) (spB pl i t) (.returned (.tuple #[.slice none 0 0, .bool false])) w1) := by
        rw [E.out.1, E.out.2]; exact ⟨_, rfl, OwP.nil _ _, hB1⟩
      clear hB1
      go_wp2
      go_ret2
      exact HF.out
end Go.Proofs.Ythjehjdcpfefcaa
