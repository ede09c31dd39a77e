/- Contracts: two segments of a plan are joined, in the program; the reference's copy of the result. -/
import Derived.Test.YtkfejnifbkgihaaPlan10
namespace Go.Proofs.Ytkfejnifbkgihaa
set_option linter.unusedVariables false
open Go.RowKit

theorem jnL_len (pl : List Seg) (i d : Int) : (jnL pl i d).length ≤ pl.length + 1 := by
  unfold jnL
  split
  · unfold jnE; simp; omega
  · simp
theorem jnB_iff {pl : List Seg} {i d : Int} (h : jnB pl i d = true) : planB pl = true ∧ inB d 0 6 = true ∧ 0 ≤ i ∧ i.toNat + 1 < pl.length ∧ runB (plV (jnP pl i.toNat)) d = true := by
  unfold jnB at h
  simp only [Bool.and_eq_true] at h
  obtain ⟨⟨⟨h1, h2⟩, h3⟩, h4⟩ := h
  have := inB_iff.1 h3
  exact ⟨h1, h2, this.1, by omega, h4⟩
theorem jnL_mem {pl : List Seg} {M : Nat} (i d : Int) (hM : 7 ≤ M) (h : ∀ s ∈ pl, s.2.length ≤ M) : ∀ s ∈ jnL pl i d, s.2.length ≤ M := by
  unfold jnL
  split
  · rename_i hb
    have hr := (polyB_iff (runB_iff (jnB_iff hb).2.2.2.2).2.2.2).2.1
    intro s hs
    unfold jnE at hs
    simp only [List.append_assoc, List.mem_append, List.mem_cons, List.not_mem_nil, or_false] at hs
    rcases hs with hs | rfl | hs
    · exact h s (List.mem_of_mem_take hs)
    · show (ip _).length ≤ M; omega
    · exact h s (List.mem_of_mem_drop hs)
  · intro s hs; cases hs
theorem c_spec_JoinSegments (v : Value) (pl : List Seg) (i d : Int) (w : World) (ha : RdP w v pl) (hx : pl.length ≤ 549755813888) (hpx : ∀ s ∈ pl, s.2.length ≤ 1099511627776) (hi1 : i ≤ 9223372036854775807) (hi0 : -9223372036854775808 ≤ i) :
    Calls Try.prog 20 #[v, (.int .i64 (i)), (.int .i64 (d))] w (FreshPB w (jnL pl i d) (jnB pl i d)) := by
  have HR := hidd (c_l5RawJoinSegments v pl i d w ha (by omega) hpx hi1 hi0)
  have hl := jnL_len pl i d
  have hm := jnL_mem i d (by omega) hpx
  have HC : Hid (∀ u W, RdP W u (jnL pl i d) → Calls Try.prog 52 #[u] W (FreshP W (jnL pl i d))) := fun u W h => c_l9OwnListSegment u _ W h (by omega) hm
  clear ha hx hl hm hpx hi0 hi1
  go_enter Try.func20, Try.ntmps20
  go_wp2_with fail
  refine HR.out.mono ?_
  rintro e w1 ⟨u, rfl, ho, hB1⟩
  have HC1 := hidd (HC.out _ _ ho)
  clear ho
  go_wp2_with fail
  refine HC1.out.mono ?_
  rintro e w2 ⟨u2, rfl, ho2, hB2⟩
  have HF : Hid (FreshPB w (jnL pl i d) (jnB pl i d) (.returned (.tuple #[u2, .bool (jnB pl i d)])) w2) := ⟨_, rfl, ho2.mono hB1.size, bthen hB1 hB2⟩
  clear ho2 hB1 hB2
  go_wp2
  go_ret2
  exact HF.out

theorem PolysO.grown' {w w' : World} {base b2 : Nat} {v : Value} {n : Nat} {xs : List Value} {rs : List RSeg} {pl : List Seg} (h : PolysO w base rs pl) (ho : w.ownsRow b2 31 2 v n xs) (hg : w.grownBy w' v.ownBlock) : PolysO w' base rs pl :=
  ⟨h.1, fun k hk => ⟨(h.2 k hk).1, (h.2 k hk).2.kept hg (seg_apart (h.2 k hk).2 ho)⟩⟩
/-- the segments of another plan of the call's own are appended -/
theorem OwP_app {wr w2 w3 : World} {base : Nat} {v v' : Value} {rs ss : List RSeg} {pl ql : List Seg}
    (h1 : w2.ownsRow base 31 2 v rs.length (segCells rs)) (h2 : PolysO w2 base rs pl) (h3 : ApartR rs) (hlt : ∀ k, k < rs.length → ∀ j, (rs.getD k noR).2.ownBlock = some j → j < wr.heap.size)
    (k2 : PolysO w2 wr.heap.size ss ql) (k3 : ApartR ss) (hb : base ≤ wr.heap.size)
    (ho : w3.ownsRow base 31 2 v' (rs.length + ss.length) (segCells rs ++ segCells ss)) (hg : w2.grownBy w3 v.ownBlock) : OwP w3 base v' (pl ++ ql) := by
  have hq := h2.grown h1 hg
  have hk := k2.grown' h1 hg
  refine ⟨rs ++ ss, by rw [List.length_append, segCells_append]; exact ho, ⟨by simp [h2.1, k2.1], fun k hkl => ?_⟩, fun i j hi hj hne => ?_⟩
  · rw [getD_appR, getD_appG]
    by_cases hl : k < rs.length
    · rw [if_pos hl, if_pos (by rw [← h2.1]; exact hl)]; exact hq.2 k hl
    · rw [if_neg hl, if_neg (by rw [← h2.1]; exact hl), ← h2.1]
      have := hk.2 (k - rs.length) (by simp at hkl; omega)
      exact ⟨this.1, ownsRow_mono this.2 hb⟩
  · simp at hi hj
    have cross : ∀ a b, a < rs.length → b < ss.length → (rs.getD a noR).2.ownBlock = none ∨ (rs.getD a noR).2.ownBlock ≠ (ss.getD b noR).2.ownBlock := by
      intro a b ha hb2
      cases hv : (rs.getD a noR).2.ownBlock with
      | none => exact .inl rfl
      | some g =>
        refine .inr (fun e => ?_)
        have x := hlt a ha g hv
        have y := ((k2.2 b hb2).2.lt g e.symm).1
        omega
    rw [getD_appR, getD_appR]
    by_cases hil : i < rs.length
    · rw [if_pos hil]
      by_cases hjl : j < rs.length
      · rw [if_pos hjl]; exact h3 i j hil hjl hne
      · rw [if_neg hjl]; exact cross i _ hil (by omega)
    · rw [if_neg hil]
      by_cases hjl : j < rs.length
      · rw [if_pos hjl]; exact apart_comm (cross j _ hjl (by omega))
      · rw [if_neg hjl]; exact k3 _ _ (by omega) (by omega) (by omega)
/-- one segment more, whose polynomial lies apart -/
theorem OwP_snocA {w2 w3 : World} {base : Nat} {v v' pv : Value} {rs : List RSeg} {pl : List Seg} {c : Int} {p : List Int}
    (h1 : w2.ownsRow base 31 2 v rs.length (segCells rs)) (h2 : PolysO w2 base rs pl) (h3 : ApartR rs) (hap : ∀ k, k < rs.length → (rs.getD k noR).2.ownBlock = none ∨ (rs.getD k noR).2.ownBlock ≠ pv.ownBlock)
    (hp : OwnI w2 base pv p)
    (ho : w3.ownsRow base 31 2 v' (rs.length + 1) (segCells rs ++ [.int .i64 c, pv])) (hg : w2.grownBy w3 v.ownBlock) :
    w3.ownsRow base 31 2 v' (rs ++ [(c, pv)]).length (segCells (rs ++ [(c, pv)])) ∧ PolysO w3 base (rs ++ [(c, pv)]) (pl ++ [(c, p)]) ∧ ApartR (rs ++ [(c, pv)]) := by
  have hq := h2.grown h1 hg
  have hp3 : OwnI w3 base pv p := World.ownsRow.kept hp hg (seg_apart hp h1)
  have hl := h2.1
  refine ⟨?_, ⟨by simp [hl], fun k hk => ?_⟩, fun i j hi hj hne => ?_⟩
  · rw [List.length_append, segCells_append]
    exact ho
  · simp at hk
    rw [getD_snocR, getD_snocG]
    by_cases hkl : k < rs.length
    · rw [if_pos hkl, if_pos (by omega)]; exact hq.2 k hkl
    · rw [if_neg hkl, if_pos (by omega), if_neg (by omega), if_pos (by omega)]
      exact ⟨rfl, hp3⟩
  · simp at hi hj
    rw [getD_snocR, getD_snocR]
    by_cases hil : i < rs.length
    · rw [if_pos hil]
      by_cases hjl : j < rs.length
      · rw [if_pos hjl]; exact h3 i j hil hjl hne
      · rw [if_neg hjl, if_pos (by omega)]; exact hap i hil
    · rw [if_neg hil, if_pos (by omega), if_pos (show j < rs.length by omega)]
      exact apart_comm (hap j (by omega))
theorem old_apart {w w' : World} {b1 b2 e1 e2 s1 s2 n1 n2 : Nat} {v1 v2 : Value} {x1 x2 : List Value} (h1 : w'.ownsRow b1 e1 s1 v1 n1 x1) (h2 : w.ownsRow b2 e2 s2 v2 n2 x2) (hb : w.heap.size ≤ b1) : v1.ownBlock = none ∨ v1.ownBlock ≠ v2.ownBlock := by
  cases hv : v1.ownBlock with
  | none => exact .inl rfl
  | some j =>
    refine .inr (fun e => ?_)
    have h3 := (h1.lt j hv).1
    have h4 := (h2.lt j e.symm).2
    omega
theorem RdP_take {w : World} {a : Option Addr} {n cap : Nat} {pl : List Seg} (h : RdP w (.slice a n cap) pl) (hn : n = pl.length) {k : Nat} (hk : k ≤ n) : RdP w (.slice a k cap) (pl.take k) := by
  subst hn
  obtain ⟨rs, h1, h2⟩ := h
  exact ⟨rs.take k, RdR_to h2.1 h1 hk, h2.take k⟩
set_option maxRecDepth 20000 in
set_option maxHeartbeats 1600000 in
theorem c_impl_JoinSegments (v : Value) (pl : List Seg) (i d : Int) (w : World) (ha : RdP w v pl) (hx : pl.length ≤ 1099511627776) (hpx : ∀ s ∈ pl, s.2.length ≤ 1099511627776) (hi1 : i ≤ 9223372036854775807) (hi0 : -9223372036854775808 ≤ i) :
    Calls Try.prog 22 #[v, (.int .i64 (i)), (.int .i64 (d))] w (FreshPB w (jnL pl i d) (jnB pl i d)) := by
  have HPV := hidd (c_impl_PlanValid v pl w ha hx hpx)
  obtain ⟨a, cap, rfl, hcap⟩ := ha.form
  have HA := hidd ha
  by_cases hall : planB pl = true ∧ inB d 0 6 = true ∧ inB i 0 ((pl.length : Int) - 2) = true
  · obtain ⟨hv, hd6, hin⟩ := hall
    have hl60 := planB_len hv
    obtain ⟨i1, i2⟩ := inB_iff.1 hin
    obtain ⟨I, rfl⟩ : ∃ I : Nat, i = I := ⟨i.toNat, by omega⟩
    have hI : I + 1 < pl.length := by omega
    have hjb : jnB pl (I : Int) d = runB (plV (jnP pl I)) d := by unfold jnB; rw [hv, hd6, hin, Int.toNat_natCast]; rfl
    have hcb := segB_cnt pl (planB_iff.1 hv).2.1
    have hjp := jnP_plan hv hI
    have hjt := (tabB_iff (plV_tab hjp)).2.1
    have hjl := jnP_len hcb hI
    have HJE : Hid (jnE pl I = pl.take I ++ [((pl.getD I noG).1 + (pl.getD (I + 1) noG).1, ip (plV (jnP pl I)))] ++ pl.drop (I + 2)) := rfl
    rw [← hjl] at HJE
    have hmem : ∀ s ∈ jnP pl I, s.2.length ≤ 1099511627776 := fun s hs => hpx s (List.mem_of_mem_take (List.mem_of_mem_drop hs))
    obtain ⟨A, g1, g2⟩ := slP_lh a pl.length cap I (I + 2) (by omega) (by omega) hcap
    have e2 : ((I + 2 : Nat) : Int) = (I : Int) + 2 := by push_cast; rfl
    have e3 : I + 2 - I = 2 := by omega
    rw [e2, e3] at g1
    rw [e3] at g2
    have hpvl : pvL (jnP pl I) = plV (jnP pl I) := if_pos hjp
    have hj2 : (jnP pl I).length = 2 := by rw [jnP_eq hI]; rfl
    have HLV : Hid (∀ W, RdP W (.slice a pl.length cap) pl → Calls Try.prog 10 #[.slice A 2 (cap - I)] W (FreshIB W (plV (jnP pl I)) true)) := by
      show ∀ W, _
      intro W h
      obtain ⟨rs, q1, q2⟩ := h
      have := c_impl_PlanValues _ (jnP pl I) W ⟨_, g2 W rs q2.1 q1, (q2.take (I + 2)).drop I⟩ (by omega) hmem
      rwa [hpvl, hjp] at this
    obtain ⟨A2, g3, g4⟩ := slP_from a pl.length cap (I + 2) (by omega) hcap
    rw [e2] at g3
    have HC1 : Hid (∀ W, RdP W (.slice a pl.length cap) pl → Calls Try.prog 56 #[.slice a I cap] W (FreshP W (pl.take I))) :=
      fun W h => c_copySegments _ (pl.take I) W (RdP_take h rfl (by omega)) (by simp; omega) (fun s hs => hpx s (List.mem_of_mem_take hs))
    have HC2 : Hid (∀ W, RdP W (.slice a pl.length cap) pl → Calls Try.prog 56 #[.slice A2 (pl.length - (I + 2)) (cap - (I + 2))] W (FreshP W (pl.drop (I + 2)))) :=
      fun W ⟨rs, q1, q2⟩ => c_copySegments _ (pl.drop (I + 2)) W ⟨_, g4 W rs q2.1 q1, q2.drop (I + 2)⟩ (by simp; omega) (fun s hs => hpx s (List.mem_of_mem_drop hs))
    obtain ⟨V, hV⟩ : ∃ V, plV (jnP pl I) = V := ⟨_, rfl⟩
    rw [hV] at hjb HJE hjt HLV
    rw [hv] at HPV
    have j1 : (0 : Int) ≤ (I : Int) := by omega
    have j2 : decide ((I : Int) < 0) = false := decide_eq_false (by omega)
    have j3 : ¬ (pl.length : Int) - 1 ≤ (I : Int) := by omega
    have hIc : I ≤ cap := by omega
    clear hcb hjp hV hv hi0 hi1 hjl hmem g2 g4 hpvl hj2 hpx e2 e3 hin
    have hrb : runB V d = false ∨ runB V d = true := by cases runB V d <;> simp
    have HRU : Hid (∀ u W, RdI W u V → CapOk u → Calls Try.prog 55 #[u, (.int .i64 (d))] W (FreshIB W (runL V d) (runB V d))) := fun u W h hc => c_runOf u V d W h hc (by omega)
    rcases hrb with hrb | hrb
    · have E : Hid (jnB pl (I : Int) d = false ∧ jnL pl (I : Int) d = []) := ⟨by rw [hjb, hrb], jn_no (by rw [hjb, hrb])⟩
      rw [hrb] at HRU
      clear hjb
      go_enter Try.func22, Try.ntmps22
      go_wp2_with fail
      refine HPV.out.mono ?_
      rintro e w1 ⟨rfl, hB1⟩
      have HR1 := hidd (ha.kept hB1)
      clear ha
      go_wp2_with (go_at_call 54; refine (c_degreeValid _ _).mono ?_; rw [hd6]; rintro e w' ⟨rfl, rfl⟩)
      refine (HLV.out _ HR1.out).mono ?_
      rintro e w2 ⟨vv, rfl, hvv, hB2⟩
      have HRV := hidd (HRU.out _ _ (owns_RdI hvv) (owns_CapOk hvv))
      have HB2 := hidd (bthen hB1 hB2)
      clear hvv hB2 hB1 g1
      go_wp2_with fail
      refine HRV.out.mono ?_
      rintro e w3 ⟨q, rfl, hq, hB3⟩
      have HF : Hid (FreshPB w (jnL pl (I : Int) d) (jnB pl (I : Int) d) (.returned (.tuple #[.slice none 0 0, .bool false])) w3) := by
        rw [E.out.1, E.out.2]; exact ⟨_, rfl, OwP.nil _ _, bthen HB2.out hB3⟩
      clear hq hB3
      go_wp2
      go_ret2
      exact HF.out
    · have E : Hid (jnB pl (I : Int) d = true ∧ jnL pl (I : Int) d = jnE pl I) := by
        have h : jnB pl (I : Int) d = true := by rw [hjb, hrb]
        exact ⟨h, if_pos h⟩
      have hrl : runL V d = ip V := runL_t hrb
      rw [hrb, hrl] at HRU
      clear hjb hrl
      go_enter Try.func22, Try.ntmps22
      go_wp2_with fail
      refine HPV.out.mono ?_
      rintro e w1 ⟨rfl, hB1⟩
      have HR1 := hidd (ha.kept hB1)
      clear ha
      go_wp2_with (go_at_call 54; refine (c_degreeValid _ _).mono ?_; rw [hd6]; rintro e w' ⟨rfl, rfl⟩)
      refine (HLV.out _ HR1.out).mono ?_
      rintro e w2 ⟨vv, rfl, hvv, hB2⟩
      have HRV := hidd (HRU.out _ _ (owns_RdI hvv) (owns_CapOk hvv))
      obtain ⟨va, vc, rfl⟩ := RdI_form (owns_RdI hvv)
      have HB2 := hidd (bthen hB1 hB2)
      have HR2 := hidd (HR1.out.kept hB2)
      clear hvv hB2 hB1 g1
      go_wp2_with fail
      refine HRV.out.mono ?_
      rintro e w3 ⟨q, rfl, hq, hB3⟩
      obtain ⟨qa, qc, rfl⟩ := RdI_form (owns_RdI hq)
      have HQ := hidd hq
      have HB3 := hidd (bthen HB2.out hB3)
      have HR3 := hidd (HR2.out.kept hB3)
      clear hq hB3
      go_wp2_with fail
      refine (HC1.out _ HR3.out).mono ?_
      rintro e w4 ⟨u4, rfl, ho4, hB4⟩
      have HB4 := hidd (bthen HB3.out hB4)
      have HR4 := hidd (HR3.out.kept hB4)
      obtain ⟨rs, q1, q2, q3⟩ := ho4
      have hrl : rs.length = I := by have := q2.1; simp at this; omega
      have HQ4 := hidd (ownsRow_kept_below HQ.out hB4)
      have HAP : Hid (∀ k, k < rs.length → (rs.getD k noR).2.ownBlock = none ∨ (rs.getD k noR).2.ownBlock ≠ (Value.slice qa (ip V).length qc).ownBlock) := fun k hk => old_apart (q2.2 k hk).2 HQ.out (Nat.le_refl _)
      have HQ2 := hidd q2
      have HQ3 := hidd q3
      have hs3 : w.heap.size ≤ w3.heap.size := HB3.out.size
      have hs2 : w.heap.size ≤ w2.heap.size := HB2.out.size
      have hs4 : w3.heap.size ≤ w4.heap.size := hB4.size
      have q1' := ownsRow_mono q1 hs3
      clear q1 q2 q3 hB4
      go_wp2_with (at_builtin; refine appN 23 31 Try.underlying23 infoSeg rfl (by decide) (by decide) rfl _ _ rfl w.heap.size _ _ _ rfl (q1'.alloc _) _ _ _ rfl (RdN_seg w4 ((V.length : Nat) : Int) (.slice qa (ip V).length qc)) (one_seg _ qa _ qc) ?c1 ?c2 ?_)
      case c1 => omega
      case c2 => simp; omega
      intro v5 w5 ho5 hg5 _
      have hal : Below w4.heap.size w4 (w4.alloc (.cells #[.int .i64 ((V.length : Nat) : Int), .slice qa (ip V).length qc] 31)) := (Below.refl _ _).alloc (Nat.le_refl _) _
      have hq2' : PolysO w4 w.heap.size rs (pl.take I) := ⟨HQ2.out.1, fun k hk => ⟨(HQ2.out.2 k hk).1, ownsRow_mono (HQ2.out.2 k hk).2 hs3⟩⟩
      have ho5' : w5.ownsRow w.heap.size 31 2 v5 (rs.length + 1) (segCells rs ++ [.int .i64 ((V.length : Nat) : Int), .slice qa (ip V).length qc]) := by rw [hrl]; exact ho5
      have HO5 := hidd (OwP_snocA (q1'.alloc _) (PolysO.kept hq2' hal) HQ3.out HAP.out (ownsRow_mono (ownsRow_kept_below HQ4.out hal) hs2) ho5' hg5)
      have HB5 : Hid (Below w.heap.size w w5) := (HB4.out.alloc (Nat.le_trans hs3 hs4) _).grown hg5 (by simp; omega) (fun j hj => (q1'.lt j hj).1)
      have HC5 := hidd (HC2.out _ (HA.out.kept HB5.out))
      have hr5 := HO5.out.1
      have hs5 : w.heap.size ≤ w5.heap.size := HB5.out.size
      clear ho5 ho5' hg5 q1' hal hq2'
      go_wp2_with fail
      refine HC5.out.mono ?_
      rintro e w6 ⟨u6, rfl, ho6, hB6⟩
      obtain ⟨ss, t1, t2, t3⟩ := ho6
      have hsl : ss.length ≤ 60 := by have := t2.1; simp at this; omega
      have hr6 := ownsRow_kept_below hr5 hB6
      have HT := hidd t2
      have HT3 := hidd t3
      have HN := hidd (segCells_mem ss t2.polys.slices)
      have HP6 := hidd (PolysO.kept HO5.out.2.1 hB6)
      have HRN := hidd (RdN_of_RdR (owns_RdR t1))
      have HB6 := hidd (bthen HB5.out hB6)
      have hs6 : w.heap.size ≤ w6.heap.size := HB6.out.size
      have hrl6 : (rs ++ [(((V.length : Nat) : Int), Value.slice qa (ip V).length qc)]).length ≤ 61 := by simp; omega
      clear t1 t2 t3 hB6 hr5
      go_wp2_with (at_builtin; refine appN 23 31 Try.underlying23 infoSeg rfl (by decide) (by decide) rfl _ _ rfl w.heap.size _ _ _ rfl hr6 _ _ _ rfl HRN.out HN.out ?c3 ?c4 ?_)
      case c3 => omega
      case c4 => exact hs6
      intro v7 w7 ho7 hg7 _
      have HF : Hid (FreshPB w (jnL pl (I : Int) d) (jnB pl (I : Int) d) (.returned (.tuple #[v7, .bool true])) w7) := by
        rw [E.out.1, E.out.2, HJE.out]
        refine ⟨_, rfl, OwP_app (wr := w5) hr6 HP6.out HO5.out.2.2 HO5.out.2.1.lt HT.out HT3.out hs5 (by rw [List.length_append, hrl]; exact ho7) hg7, HB6.out.grown hg7 hs6 (fun j hj => (hr6.lt j hj).1)⟩
      clear ho7 hg7 hr6
      go_wp2
      go_ret2
      exact HF.out
  · have E : Hid (jnB pl i d = false ∧ jnL pl i d = []) := by
      have h : jnB pl i d = false := by
        cases e : jnB pl i d
        · rfl
        · unfold jnB at e
          simp only [Bool.and_eq_true] at e
          exact absurd ⟨e.1.1.1, e.1.1.2, e.1.2⟩ hall
      exact ⟨h, jn_no h⟩
    have hdis : planB pl = false ∨ (planB pl = true ∧ inB d 0 6 = false) ∨ (planB pl = true ∧ inB d 0 6 = true ∧ i < 0) ∨ (planB pl = true ∧ inB d 0 6 = true ∧ 0 ≤ i ∧ (pl.length : Int) - 1 ≤ i) := by
      cases a : planB pl
      · exact .inl rfl
      · cases b : inB d 0 6
        · exact .inr (.inl ⟨rfl, rfl⟩)
        · by_cases c : i < 0
          · exact .inr (.inr (.inl ⟨rfl, rfl, c⟩))
          · refine .inr (.inr (.inr ⟨rfl, rfl, by omega, ?_⟩))
            rcases Int.lt_or_le i ((pl.length : Int) - 1) with h | h
            · exact absurd ⟨a, b, inB_iff.2 ⟨by omega, by omega⟩⟩ hall
            · exact h
    clear hall ha HA
    rcases hdis with hv | ⟨hv, hd6⟩ | ⟨hv, hd6, hin⟩ | ⟨hv, hd6, hin, hin2⟩
    all_goals
      rw [hv] at HPV
      clear hv
      go_enter Try.func22, Try.ntmps22
      go_wp2_with fail
      refine HPV.out.mono ?_
      rintro e w1 ⟨rfl, hB1⟩
      have HF : Hid (FreshPB w (jnL pl i d) (jnB pl i d) (.returned (.tuple #[.slice none 0 0, .bool false])) w1) := by
        rw [E.out.1, E.out.2]; exact ⟨_, rfl, OwP.nil _ _, hB1⟩
      clear hB1
      go_wp2_with (go_at_call 54; refine (c_degreeValid _ _).mono ?_; rw [hd6]; rintro e w' ⟨rfl, rfl⟩)
      go_ret2
      exact HF.out
end Go.Proofs.Ytkfejnifbkgihaa
