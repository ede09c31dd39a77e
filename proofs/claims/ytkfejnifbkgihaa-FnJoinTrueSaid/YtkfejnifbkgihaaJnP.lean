/- Plain facts: joining two segments and splitting one keep a plan's values. No program in sight. -/
import Derived.Test.YtkfejnifbkgihaaPlan11
namespace Go.Proofs.Ytkfejnifbkgihaa
set_option linter.unusedVariables false
open Go.RowKit

theorem all_takeG {f : Seg → Bool} {pl : List Seg} (h : pl.all f = true) (k : Nat) : (pl.take k).all f = true := List.all_eq_true.2 fun x hx => List.all_eq_true.1 h x (List.mem_of_mem_take hx)
theorem all_dropG {f : Seg → Bool} {pl : List Seg} (h : pl.all f = true) (k : Nat) : (pl.drop k).all f = true := List.all_eq_true.2 fun x hx => List.all_eq_true.1 h x (List.mem_of_mem_drop hx)
theorem pl_cut2 {pl : List Seg} {i : Nat} (h : i + 1 < pl.length) : pl = pl.take i ++ (jnP pl i ++ pl.drop (i + 2)) := by
  have e2 : jnP pl i ++ pl.drop (i + 2) = pl.drop i := by
    rw [jnP_eq h, drop_consG pl i (by omega), drop_consG pl (i + 1) h]; rfl
  rw [e2, List.take_append_drop]
theorem pl_cut1 {pl : List Seg} {i : Nat} (h : i < pl.length) : pl = pl.take i ++ ([pl.getD i noG] ++ pl.drop (i + 1)) := by
  have : [pl.getD i noG] ++ pl.drop (i + 1) = pl.drop i := (drop_consG pl i h).symm
  rw [this, List.take_append_drop]
/-- a joined plan has the same values, and one segment less, of at most the degree -/
theorem jnE_facts {pl : List Seg} {i d : Int} (h : jnB pl i d = true) (h0 : -1 ≤ d) : planB (jnE pl i.toNat) = true ∧ plV (jnE pl i.toNat) = plV pl ∧ (jnE pl i.toNat).length + 1 = pl.length ∧
    (jnE pl i.toNat).getD i.toNat noG = ((pl.getD i.toNat noG).1 + (pl.getD (i.toNat + 1) noG).1, ip (plV (jnP pl i.toNat))) ∧ degP (ip (plV (jnP pl i.toNat))) ≤ d := by
  obtain ⟨hp, hd, hi0, hi, hr⟩ := jnB_iff h
  obtain ⟨p1, p2, p3⟩ := planB_iff.1 hp
  have hc := segB_cnt pl p2
  obtain ⟨s1, s2⟩ := run_seg hr
  obtain ⟨r1, r2, r3, r4⟩ := runB_iff hr
  have hl := jnP_len hc hi
  have hcut := pl_cut2 hi
  clear h
  generalize i.toNat = I at *
  have ht : (pl.take I).length = I := by rw [List.length_take]; omega
  have hvl : (1 : Nat) ≤ (plV (jnP pl I)).length := (tabB_iff r1).1
  refine ⟨planB_iff.2 ⟨?_, ?_, ?_⟩, ?_, ?_, ?_, degP_ip hvl r3 r2⟩
  · unfold jnE; simp; omega
  · unfold jnE
    rw [← hl]
    simp only [List.all_append, List.all_cons, List.all_nil, Bool.and_true, Bool.and_eq_true]
    exact ⟨⟨all_takeG p2 I, s1⟩, all_dropG p2 _⟩
  · unfold jnE
    rw [← hl, tot_append, tot_append]
    have e := congrArg tot hcut
    rw [tot_append, tot_append] at e
    have e2 := plV_len _ (jnP_all (i := I) hc)
    simp only [tot]
    omega
  · unfold jnE
    rw [← hl, plV_append, plV_append]
    simp only [plV, Int.toNat_natCast, List.append_nil]
    rw [s2]
    have e := congrArg plV hcut
    rw [plV_append, plV_append] at e
    rw [e, List.append_assoc]
  · unfold jnE; simp; omega
  · unfold jnE
    rw [getD_appG, getD_appG, if_pos (by simp; omega), if_neg (by rw [ht]; omega), ht, Nat.sub_self]
    rfl
theorem vals_split (p : List Int) (T c : Nat) (h : T ≤ c) : vals p T ++ vals (shf p T) (c - T) = vals p c := by
  rw [shf_vals]
  unfold vals
  have := valsF_add p 0 T (c - T)
  rw [show T + (c - T) = c by omega, Nat.zero_add] at this
  exact this.symm
theorem tab_part {a b : List Int} (h : tabB (a ++ b) = true) (ha : 1 ≤ a.length) (hb : 1 ≤ b.length) : tabB a = true ∧ tabB b = true := by
  obtain ⟨h1, h2, h3⟩ := tabB_iff h
  rw [List.length_append] at h1 h2
  have hm := allIn_mem h3
  refine ⟨?_, ?_⟩
  · unfold tabB; rw [inB_t (by omega) (by omega), allIn_of (fun x hx => hm x (by simp [hx]))]; rfl
  · unfold tabB; rw [inB_t (by omega) (by omega), allIn_of (fun x hx => hm x (by simp [hx]))]; rfl
/-- a split plan has the same values and one segment more, and its two parts can be joined again -/
theorem spE_facts {pl : List Seg} {i t : Int} (h : spB pl i t = true) : planB (spE pl i.toNat t.toNat) = true ∧ plV (spE pl i.toNat t.toNat) = plV pl ∧ (spE pl i.toNat t.toNat).length = pl.length + 1 ∧ jnB (spE pl i.toNat t.toNat) i 6 = true := by
  obtain ⟨hp, hi0, hi, ht1, ht2, hsh⟩ := spB_iff h
  obtain ⟨p1, p2, p3⟩ := planB_iff.1 hp
  have hseg := segB_iff (all_getG p2 hi)
  have hcut := pl_cut1 hi
  obtain ⟨I, rfl⟩ : ∃ I : Nat, i = I := ⟨i.toNat, by omega⟩
  obtain ⟨T, rfl⟩ : ∃ T : Nat, t = T := ⟨t.toNat, by omega⟩
  simp only [Int.toNat_natCast] at *
  obtain ⟨s, hs⟩ : ∃ s, pl.getD I noG = s := ⟨_, rfl⟩
  have hE : spE pl I T = pl.take I ++ [((T : Int), s.2), (s.1 - T, shf s.2 T)] ++ pl.drop (I + 1) := by unfold spE; rw [hs]
  rw [hs] at hseg hcut ht2 hsh
  obtain ⟨c, p⟩ := s
  obtain ⟨c1, c2, c3, c4⟩ := hseg
  have c1 : 1 ≤ c := c1
  have c2 : c ≤ 60 := c2
  have c3 : polyB p = true := c3
  have c4 : tabB (vals p c.toNat) = true := c4
  have ht2 : (T : Int) ≤ c - 1 := ht2
  have hE : spE pl I T = pl.take I ++ [((T : Int), p), (c - T, shf p T)] ++ pl.drop (I + 1) := hE
  obtain ⟨C, rfl⟩ : ∃ C : Nat, c = C := ⟨c.toNat, by omega⟩
  rw [Int.toNat_natCast] at c4
  have hTC : T ≤ C := by omega
  have hsub : ((C : Int) - T).toNat = C - T := by omega
  have hvs := vals_split p T C hTC
  have hq : polyB (shf p T) = true := by
    unfold shB at hsh; rw [Bool.and_eq_true] at hsh; exact hsh.2
  have htabs := tab_part (by rw [hvs]; exact c4) (by rw [vals_len]; omega) (by rw [vals_len]; omega)
  have sg1 : segB ((T : Int), p) = true := by
    unfold segB polyS cntB
    simp only [Int.toNat_natCast]
    rw [inB_t (by omega) (by omega), c3, htabs.1]; rfl
  have sg2 : segB ((C : Int) - T, shf p T) = true := by
    unfold segB polyS cntB
    simp only [hsub]
    rw [inB_t (by omega) (by omega), hq, htabs.2]; rfl
  have hti : (pl.take I).length = I := by rw [List.length_take]; omega
  have hlen : (spE pl I T).length = pl.length + 1 := spE_len hi
  have hall : (spE pl I T).all segB = true := by
    rw [hE]
    simp only [List.all_append, List.all_cons, List.all_nil, Bool.and_true, Bool.and_eq_true]
    exact ⟨⟨all_takeG p2 I, sg1, sg2⟩, all_dropG p2 _⟩
  have htot : tot (spE pl I T) = tot pl := by
    rw [hE, tot_append, tot_append]
    have e := congrArg tot hcut
    rw [tot_append, tot_append] at e
    simp only [tot] at e ⊢
    omega
  have hpl : planB (spE pl I T) = true := planB_iff.2 ⟨by omega, hall, by omega⟩
  have hval : plV (spE pl I T) = plV pl := by
    rw [hE, plV_append, plV_append]
    have e := congrArg plV hcut
    rw [plV_append, plV_append] at e
    rw [e]
    simp only [plV, Int.toNat_natCast, hsub, List.append_nil]
    rw [hvs, List.append_assoc]
  refine ⟨hpl, hval, hlen, ?_⟩
  have hj : jnP (spE pl I T) I = [((T : Int), p), ((C : Int) - T, shf p T)] := by
    rw [jnP_eq (by omega), hE]
    rw [getD_appG, if_pos (by simp; omega), getD_appG, if_neg (by rw [hti]; omega), hti, Nat.sub_self]
    rw [getD_appG, if_pos (by simp; omega), getD_appG, if_neg (by rw [hti]; omega), hti, Nat.add_sub_cancel_left]
    rfl
  have hjv : plV (jnP (spE pl I T) I) = vals p C := by
    rw [hj]
    simp only [plV, Int.toNat_natCast, hsub, List.append_nil]
    exact hvs
  have hok : evalOk p := polyB_ok c3
  have hld : ld (vals p C) ≤ 6 := by have := ld_vals (f := 0) (c := C) hok.1; have h7 := hok.1; unfold vals; omega
  have hvl : (1 : Nat) ≤ (vals p C).length := by rw [vals_len]; omega
  have hpi : polyB (ip (vals p C)) = true := by
    have hlp := ip_len hvl hld
    have hb := ipN_bd (vals p C)
    have h7 : ipN (vals p C) ≤ 7 := by unfold ipN; omega
    exact polyB_of (by omega) (by omega) (ip_of_vals (by omega) hok.1 hok.2)
  unfold jnB
  rw [Int.toNat_natCast, hpl, inB_t (show (0 : Int) ≤ 6 by omega) (Int.le_refl _), inB_t (show (0 : Int) ≤ (I : Int) by omega) (by omega), hjv]
  unfold runB intB
  rw [c4, decide_eq_true hld, hpi]; rfl
end Go.Proofs.Ytkfejnifbkgihaa
