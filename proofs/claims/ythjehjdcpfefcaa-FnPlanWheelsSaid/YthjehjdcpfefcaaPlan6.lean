/- Contracts: small tables, longest runs, the plan by longest runs, in the reference. -/
import Derived.Test.YthjehjdcpfefcaaPlan5
import Derived.Test.YthjehjdcpfefcaaGrP
namespace Go.Proofs.Ythjehjdcpfefcaa
set_option linter.unusedVariables false
open Go.RowKit

theorem smallB_no {xs : List Int} {k : Nat} (hk : k < xs.length) (h : inB (xs.getD k 0) (-1500) 1500 = false) : smallB xs = false := by
  unfold smallB
  rw [show allIn xs 1500 = false from allIn_not hk h, Bool.and_false]
set_option maxRecDepth 20000 in
theorem c_l5Small (v : Value) (xs : List Int) (w : World) (ha : RdI w v xs) (hx : xs.length ≤ 1099511627776) :
    Calls Try.prog 104 #[v] w fun e w' => e = .returned (.bool (smallB xs)) ∧ Below w.heap.size w w' := by
  have ha0 := ha
  obtain ⟨a, cap, rfl, ha1⟩ := ha0
  clear ha1
  simp only [List.length_map] at ha ⊢
  go_enter Try.func104, Try.ntmps104
  go_wp2
  go_loopw [3] (fun i wr => ∃ k : Nat, k ≤ xs.length ∧ i = .int .i64 k ∧ allIn (xs.take k) 1500 = true ∧ Below w.heap.size w wr) (fun i _ => xs.length - (intOf i).toNat)
  case atStart => exact ⟨0, by omega, rfl, rfl, Below.refl _ _⟩
  case round =>
    obtain ⟨k, hk, rfl, hA, hB⟩ := hrel
    have HA := hidd hA
    clear hA
    by_cases hlt : k < xs.length
    · obtain ⟨b1, o1, rfl, hb1, e1⟩ := RdI_cell ha hB hlt
      have HNo : Hid (inB (xs.getD k 0) (-1500) 1500 = false → smallB xs = false) := fun h => smallB_no hlt h
      have HT := hidd (allIn_take xs 1500 k hlt)
      obtain ⟨x, hx1⟩ : ∃ x, xs.getD k 0 = x := ⟨_, rfl⟩
      rw [hx1] at e1 HNo HT
      clear hx1 ha
      cases hi : inB x (-1500) 1500
      · have HO : Hid (smallB xs = false) := HNo.out hi
        go_wp2_with (first | (go_at_call 45; refine (c_l1In _ _ _ _).mono ?_; rw [hi]; rintro e w' ⟨rfl, rfl⟩))
        go_ret
        exact ⟨ret_bool HO.out.symm, hB⟩
      · have HO : Hid (allIn (xs.take (k + 1)) 1500 = true) := by show _ = _; rw [HT.out, HA.out, hi]; rfl
        go_wp2_with (first | (go_at_call 45; refine (c_l1In _ _ _ _).mono ?_; rw [hi]; rintro e w' ⟨rfl, rfl⟩))
        go_roundw
        case rel => exact ⟨k + 1, by omega, by go_num, HO.out, hB⟩
        case measure => simp [intOf]; omega
    · have HO : Hid (smallB xs = tabB xs) := by
        have h := HA.out
        rw [List.take_of_length_le (by omega)] at h
        show _ = _
        unfold smallB; rw [h, Bool.and_true]
      have HC := hidd (c_spec_TableValid _ xs wr (ha.kept hB) hx)
      clear ha
      go_wp2_with fail
      refine HC.out.mono ?_
      rintro e w2 ⟨rfl, hB2⟩
      go_wp2
      go_ret
      exact ⟨ret_bool HO.out.symm, bthen hB hB2⟩
theorem lgF_t {l : List Int} {d : Int} {f n : Nat} (h : runB (l.take (n + 1)) d = true) : lgF l d (f + 1) n = lgF l d f (n + 1) := if_pos h
theorem lgF_f {l : List Int} {d : Int} {f n : Nat} (h : runB (l.take (n + 1)) d = false) : lgF l d (f + 1) n = n := if_neg (by rw [h]; decide)
set_option maxRecDepth 20000 in
theorem c_l5Longest (v : Value) (xs : List Int) (d : Int) (w : World) (ha : RdI w v xs) (hcap : CapOk v) (hx : xs.length ≤ 1099511627776) :
    Calls Try.prog 106 #[v, (.int .i64 (d))] w fun e w' => e = .returned (.int .i64 (lg xs d)) ∧ Below w.heap.size w w' := by
  have ha0 := ha
  obtain ⟨a, cap, rfl, ha1⟩ := ha0
  clear ha1
  simp only [List.length_map] at ha hcap ⊢
  have hcc : xs.length ≤ cap := hcap _ _ _ rfl
  clear hcap
  go_enter Try.func106, Try.ntmps106
  go_wp2
  go_loopw [5] (fun i wr => ∃ k : Nat, k ≤ xs.length ∧ i = .int .i64 k ∧ Hid (lg xs d = lgF xs d (xs.length - k) k) ∧ Below w.heap.size w wr) (fun i _ => xs.length - (intOf i).toNat)
  case atStart => exact ⟨0, by omega, rfl, rfl, Below.refl _ _⟩
  case round =>
    obtain ⟨k, hk, rfl, HL, hB⟩ := hrel
    by_cases hlt : k < xs.length
    · have HC := hidd (c_l5Run _ (xs.take (k + 1)) d wr (RdI_take (ha.kept hB) (k := k + 1) (by omega)) (CapOk_of (by omega)) (by simp; omega))
      have h8 : xs.length - k = (xs.length - (k + 1)) + 1 := by omega
      have hL := HL.out
      rw [h8] at hL
      have hkc : k + 1 ≤ cap := by omega
      clear h8 ha
      cases hr : runB (xs.take (k + 1)) d
      · have HE : Hid (lg xs d = k) := by show _ = _; rw [hL, lgF_f hr]
        rw [hr] at HC
        clear hL hr HL
        go_wp2_with fail
        refine HC.out.mono ?_
        rintro e w2 ⟨u, rfl, ho, hB2⟩
        have HB := hidd (bthen hB hB2)
        clear ho hB2 hB
        go_wp2
        go_ret
        exact ⟨ret_int (by rw [HE.out]), HB.out⟩
      · have HE : Hid (lg xs d = lgF xs d (xs.length - (k + 1)) (k + 1)) := by show _ = _; rw [hL, lgF_t hr]
        rw [hr] at HC
        clear hL hr HL
        go_wp2_with fail
        refine HC.out.mono ?_
        rintro e w2 ⟨u, rfl, ho, hB2⟩
        have HB := hidd (bthen hB hB2)
        clear ho hB2 hB
        go_wp2
        go_roundw
        case rel => exact ⟨k + 1, by omega, by go_num, HE.out, HB.out⟩
        case measure => simp [intOf]; omega
    · have HE : Hid (lg xs d = k) := by
        have : xs.length - k = 0 := by omega
        have h := HL.out
        rw [this] at h
        exact h
      clear ha HL
      go_wp2
      go_ret
      exact ⟨ret_int (by rw [HE.out]), hB⟩

/-- the plan by longest runs, if numbers and degree allow one -/
def grB (l : List Int) (d : Int) : Bool := smallB l && inB d 0 6
def grL (l : List Int) (d : Int) : List Seg := if grB l d = true then gr l d else []
theorem runL_len (l : List Int) (d : Int) : (runL l d).length ≤ 7 := by
  unfold runL
  split
  · rename_i h
    exact (polyB_iff (runB_iff h).2.2.2).2.1
  · simp
theorem gr_mem (d : Int) : ∀ f l, ∀ s ∈ grF d f l, s.2.length ≤ 7
  | 0, _, s, h => by simp [grF] at h
  | f + 1, l, s, h => by
    unfold grF at h
    split at h
    · cases h
    · rcases List.mem_cons.1 h with rfl | h
      · exact runL_len _ _
      · exact gr_mem d f _ s h
theorem gr_len (d : Int) : ∀ f l, (grF d f l).length ≤ l.length
  | 0, l => by simp [grF]
  | f + 1, l => by
    unfold grF
    split
    · simp
    · rename_i h
      have := gr_len d f (l.drop (max (lg l d) 1))
      have hl : 0 < l.length := List.length_pos_iff.2 h
      simp at this ⊢
      omega
theorem grL_len (l : List Int) (d : Int) : (grL l d).length ≤ 60 := by
  unfold grL
  split
  · rename_i h
    unfold grB at h
    rw [Bool.and_eq_true, smallB_iff] at h
    have := gr_len d l.length l
    have h2 := h.1.1.2
    unfold gr; omega
  · simp
theorem grL_mem (l : List Int) (d : Int) : ∀ s ∈ grL l d, s.2.length ≤ 7 := by
  unfold grL
  split
  · exact gr_mem d _ l
  · intro s h; cases h
theorem RdI_form {w : World} {v : Value} {xs : List Int} (h : RdI w v xs) : ∃ a c, v = .slice a xs.length c := by
  obtain ⟨a, c, e, _⟩ := h
  exact ⟨a, c, by rw [e, List.length_map]⟩

set_option maxRecDepth 20000 in
set_option maxHeartbeats 800000 in
theorem c_l5RawGreedyPlan (v : Value) (xs : List Int) (d : Int) (w : World) (ha : RdI w v xs) (hcap : CapOk v) (hx : xs.length ≤ 1099511627776) :
    Calls Try.prog 91 #[v, (.int .i64 (d))] w (FreshPB w (grL xs d) (grB xs d)) := by
  have hB0 : Below w.heap.size w (w.alloc (.cells #[] 47)) := (Below.refl _ _).alloc (Nat.le_refl _) _
  have ho0 := OwP.made w w.heap.size (Nat.le_refl _)
  have hsm := c_l5Small v xs (w.alloc (.cells #[] 47)) (ha.kept hB0) hx
  cases hv : grB xs d
  · have E : Hid (grL xs d = []) := if_neg (by rw [hv]; decide)
    have hd : smallB xs = false ∨ (smallB xs = true ∧ inB d 0 6 = false) := by
      unfold grB at hv
      cases h1 : smallB xs
      · exact .inl rfl
      · exact .inr ⟨rfl, by simpa [h1] using hv⟩
    clear hv ha hcap hx
    rcases hd with h | ⟨h, h2⟩
    all_goals
      rw [h] at hsm
      clear h
      go_enter Try.func91, Try.ntmps91
      go_wp2_with fail
      refine hsm.mono ?_
      rintro e w1 ⟨rfl, hB1⟩
      have HF : Hid (FreshPB w (grL xs d) false (.returned (.tuple #[.slice (some ⟨w.heap.size, 0, none⟩) 0 0, .bool false])) w1) :=
        ⟨_, rfl, by rw [E.out]; exact ho0.kept hB1, bthen hB0 hB1⟩
      clear ho0 hB0 hsm hB1
      go_wp2_with (go_at_call 105; refine (c_l4Degree _ _).mono ?_; rw [h2]; rintro e w' ⟨rfl, rfl⟩)
      go_ret2
      exact HF.out
  · have E : Hid (grL xs d = gr xs d) := if_pos hv
    have hv' := hv
    unfold grB at hv'
    rw [Bool.and_eq_true] at hv'
    obtain ⟨hv1, hv2⟩ := hv'
    rw [hv1] at hsm
    obtain ⟨hsp, h1⟩ := smallB_iff.1 hv1
    have hd6 := inB_iff.1 hv2
    have HX := hidd ha
    have HSP := hidd hsp
    have HD : Hid (0 ≤ d ∧ d ≤ 6) := hd6
    clear hv hv1 ha hd6 h1 hsp
    go_enter Try.func91, Try.ntmps91
    go_wp2_with fail
    refine hsm.mono ?_
    rintro e w1 ⟨rfl, hB1⟩
    have hx1 := HX.out
    have ho1 := ho0.kept hB1
    have hB1' := bthen hB0 hB1
    clear ho0 hB0 hB1 hsm HX
    go_wp2_with (go_at_call 105; refine (c_l4Degree _ _).mono ?_; rw [hv2]; rintro e w' ⟨rfl, rfl⟩)
    clear hv2
    go_loopw [0, 6, 7, 8, 9] (fun s r _ _ _ wr => ∃ (ys : List Int) (pl : List Seg), Hid (gr xs d = pl ++ gr ys d) ∧ Hid (smP ys) ∧ RdI w s ys ∧ CapOk s ∧ OwP wr w.heap.size r pl ∧ pl.length + ys.length ≤ 60 ∧ Below w.heap.size w wr) (fun s _ _ _ _ _ => lenOf s)
    case atStart => exact ⟨xs, [], rfl, HSP.out, hx1, hcap, ho1, by have := HSP.out.2; simp; omega, hB1'⟩
    case round =>
      obtain ⟨ys, pl, HG, HS, hy, hc, ho, hpl, hB⟩ := hrel
      clear ho1 hB1' hx1
      obtain ⟨a, cap, rfl⟩ := RdI_form hy
      have hcc : ys.length ≤ cap := hc _ _ _ rfl
      clear hc
      by_cases hlt : 0 < ys.length
      · have hp := lg_pos HS.out (by omega) HD.out.1 HD.out.2
        have hle := lg_le ys d
        have HLG := hidd (c_l5Longest _ ys d wr (hy.kept hB) (CapOk_of hcc) (by omega))
        have HGC := hidd (gr_cons (l := ys) (d := d) (by intro e; rw [e] at hlt; simp at hlt) hp)
        obtain ⟨m, hm⟩ : ∃ m, lg ys d = m := ⟨_, rfl⟩
        rw [hm] at hp hle HLG HGC
        have hmc : m ≤ cap := by omega
        obtain ⟨A, g1, g2⟩ := sl_from a ys.length cap m hle hcc
        have HRT := hidd (fun W (h : RdI W (.slice a ys.length cap) ys) => c_l5Run _ (ys.take m) d W (RdI_take h (k := m) hle) (CapOk_of hmc) (by simp; omega))
        have HG2 := hidd (g2 w ys rfl hy)
        have HY := hidd (hy.kept hB)
        obtain ⟨rs, q1, q2, q3⟩ := ho
        have hrl : rs.length ≤ 60 := by have := q2.1; omega
        have HQ2 := hidd q2
        have HQ3 := hidd q3
        have HBs : Hid (Below w.heap.size w wr) := hB
        have hym : (ys.drop m).length = ys.length - m := by simp
        have HYM := hidd hym
        clear g2 hy q2 q3 hm hB hym
        go_wp2_with fail
        refine HLG.out.mono ?_
        rintro e w2 ⟨rfl, hB2⟩
        have HY2 := hidd (HY.out.kept hB2)
        have q1b := ownsRow_kept_below q1 hB2
        have HB2 := hidd hB2
        have HQ22 := hidd (HQ2.out.kept hB2)
        clear q1 hB2 HLG
        go_wp2_with fail
        refine (HRT.out _ HY2.out).mono ?_
        rintro e w3 ⟨u, rfl, hu, hB3⟩
        obtain ⟨ua, uc, rfl⟩ := RdI_form (owns_RdI hu)
        have q1c := ownsRow_kept_below q1b hB3
        have HY3 := hidd (HY2.out.kept hB3)
        have HQ23 := hidd (HQ22.out.kept hB3)
        have HU := hidd hu
        have HBt := hidd (bthen (bthen HBs.out HB2.out) hB3)
        have hs3 : w.heap.size ≤ w3.heap.size := HBt.out.size
        have hs2 : wr.heap.size ≤ w2.heap.size := HB2.out.size
        have hsz : w.heap.size ≤ wr.heap.size := HBs.out.size
        have HS32 := hidd hB3.size
        clear q1b hB3 hu
        go_wp2_with (at_builtin; refine appN 25 47 Try.underlying25 infoSeg rfl (by decide) (by decide) rfl _ _ rfl w.heap.size _ _ _ rfl (q1c.alloc _) _ _ _ rfl (RdN_seg w3 (m : Int) (.slice ua _ uc)) (one_seg (m : Int) ua _ uc) ?c1 ?c2 ?_)
        case c1 => omega
        case c2 => simp; omega
        intro v' w4 ho4 hg4 _
        have hal : Below w3.heap.size w3 (w3.alloc (.cells #[(.int .i64 ((m : Int))), .slice ua (runL (ys.take m) d).length uc] 47)) := (Below.refl _ _).alloc (Nat.le_refl _) _
        have HO : Hid (OwP w4 w.heap.size v' (pl ++ [((m : Int), runL (ys.take m) d)]) ∧ Below w.heap.size w w4) := by
          refine ⟨OwP_snoc (wr := w2) (q1c.alloc _) (HQ23.out.kept hal) HQ3.out (fun k hk j hj => Nat.lt_of_lt_of_le (HQ2.out.lt k hk j hj) hs2) (ownsRow_kept_below HU.out hal) (Nat.le_trans hsz hs2) ho4 hg4, ?_⟩
          exact (HBt.out.alloc hs3 _).grown hg4 (by simp; omega) (fun j hj => (q1c.lt j hj).1)
        have HG' : Hid (gr xs d = (pl ++ [((m : Int), runL (ys.take m) d)]) ++ gr (ys.drop m) d) := by
          show _ = _
          rw [HG.out, HGC.out, List.append_assoc]; rfl
        have HY' : Hid (RdI w (.slice A (ys.length - m) (cap - m)) (ys.drop m)) := HG2.out
        have HS' := hidd (HS.out.drop m)
        have HL' : Hid ((pl ++ [((m : Int), runL (ys.take m) d)]).length + (ys.drop m).length ≤ 60) := by
          show _ ≤ _
          rw [HYM.out]; simp; omega
        clear ho4 hg4 q1c hal
        go_wp2
        go_roundw
        case rel => exact ⟨ys.drop m, _, HG'.out, HS'.out, HY'.out, CapOk_of (by omega), HO.out.1, HL'.out, HO.out.2⟩
        case measure => simp [lenOf]; omega
      · have HF : Hid (FreshPB w (grL xs d) true (.returned (.tuple #[u6, .bool true])) wr) := by
          have hy0 : ys = [] := List.eq_nil_of_length_eq_zero (by omega)
          subst hy0
          have := HG.out
          rw [gr_nil, List.append_nil] at this
          exact ⟨_, rfl, by rw [E.out, this]; exact ho, hB⟩
        have h0 : ys.length = 0 := by omega
        clear ho hB hy
        go_wp2
        go_ret2
        exact HF.out

set_option maxRecDepth 20000 in
theorem c_spec_GreedyPlan (v : Value) (xs : List Int) (d : Int) (w : World) (ha : RdI w v xs) (hcap : CapOk v) (hx : xs.length ≤ 1099511627776) :
    Calls Try.prog 63 #[v, (.int .i64 (d))] w (FreshPB w (grL xs d) (grB xs d)) := by
  have HR := hidd (c_l5RawGreedyPlan v xs d w ha hcap hx)
  have hl := grL_len xs d
  have hm := grL_mem xs d
  have HC : Hid (∀ u W, RdP W u (grL xs d) → Calls Try.prog 92 #[u] W (FreshP W (grL xs d))) := fun u W h => c_l9OwnListSegment u _ W h (by omega) (fun s hs => by have := hm s hs; omega)
  clear ha hcap hx hl hm
  go_enter Try.func63, Try.ntmps63
  go_wp2_with fail
  refine HR.out.mono ?_
  rintro e w1 ⟨u, rfl, ho, hB1⟩
  have HC1 := hidd (HC.out _ _ ho.rd)
  clear ho
  go_wp2_with fail
  refine HC1.out.mono ?_
  rintro e w2 ⟨u2, rfl, ho2, hB2⟩
  have HF : Hid (FreshPB w (grL xs d) (grB xs d) (.returned (.tuple #[u2, .bool (grB xs d)])) w2) := ⟨_, rfl, ho2.mono hB1.size, bthen hB1 hB2⟩
  clear ho2 hB1 hB2
  go_wp2
  go_ret2
  exact HF.out
end Go.Proofs.Ythjehjdcpfefcaa
