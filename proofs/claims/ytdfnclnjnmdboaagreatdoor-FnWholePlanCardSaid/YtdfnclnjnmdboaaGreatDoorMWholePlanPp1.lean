/- Lemmas and contracts for WholePlan (Pp1 Pp2 Pp3): plain words on memory, contracts of the functions that the law reaches. No condition but what each states. -/
import Derived.Test.YtdfnclnjnmdboaaGreatDoorMWholePlanFmt1
import Derived.Test.YtdfnclnjnmdboaaGreatDoorMWholePlanNumF
import Derived.Test.YtdfnclnjnmdboaaGreatDoorMWholePlanMaxW
import Derived.Test.YtdfnclnjnmdboaaGreatDoorMWholePlanRt1
import Derived.RangeFuncRecord
import Derived.Test.YtdfnclnjnmdboaaGreatDoorMWholePlanPlan6
namespace Go.Proofs.YtdfnclnjnmdboaaGreatDoor
set_option linter.unusedVariables false
open Go.RowKit

theorem cutP_memL (c : UInt8) (l : List UInt8) : ∀ x ∈ cutP c l, x.length ≤ l.length := by
  induction l with
  | nil => simp [cutP]
  | cons b l ih =>
    unfold cutP
    split
    · intro x hx
      rcases List.mem_cons.1 hx with rfl | hx
      · simp
      · have := ih x hx; simp; omega
    · split
      · intro x hx
        rcases List.mem_cons.1 hx with rfl | hx
        · simp
        · cases hx
      · rename_i h t e
        rw [e] at ih
        intro x hx
        rcases List.mem_cons.1 hx with rfl | hx
        · have := ih h (by simp); simp; omega
        · have := ih x (by simp [hx]); simp; omega
theorem c_SplitC (c : UInt8) (x : ByteArray) (W : World) (hm : MaxW W) (hx : x.size ≤ 1048576) : Calls Tryz.prog 108 #[.string x, .string ⟨#[c]⟩] W (FreshS W (cutS c x.data.toList)) := by
  obtain ⟨m, hm⟩ := hm
  refine (Tryz.strings_Split x ⟨#[c]⟩ m W (by omega) hm (by show 1 ≤ 1; omega)).mono ?_
  rintro e w' ⟨rfl, rfl⟩
  rw [splitB_cutC]
  have hl : Lib.countB x ⟨#[c]⟩ + 1 = (cutS c x.data.toList).length := by
    rw [← splitB_cutC, Lib.splitB_all _ (by show 1 ≤ 1; omega) 0 _ x rfl]
  have hl2 := cutS_len c x.data.toList
  rw [size_data] at hl2
  rw [hl]
  refine ⟨_, rfl, ?_, (Below.refl _ _).alloc (Nat.le_refl _) _⟩
  refine ⟨by simp, .inr ⟨W.heap.size, _, _, rfl, Nat.le_refl _, World.alloc_heap_new _ _, Nat.le_refl _, by simp only [maxLen]; omega, by simp, by simp; exact List.take_of_length_le (by simp)⟩⟩
theorem RdS_formF {w : World} {v : Value} {xs : List ByteArray} (h : RdS w v xs) : ∃ a cap, v = .slice a xs.length cap := by
  obtain ⟨a, cap, e, _⟩ := h
  exact ⟨a, cap, by rw [e]; simp⟩
theorem cutS_getD (c : UInt8) (l : List UInt8) {k : Nat} (h : k < (cutP c l).length) : (cutS c l).getD k noS = bytS ((cutP c l).getD k []) := by
  unfold cutS
  simp [List.getD, h]
theorem part_size (c : UInt8) (l : List UInt8) {k : Nat} (h : k < (cutP c l).length) : ((cutP c l).getD k []).length ≤ l.length := by
  have : (cutP c l).getD k [] ∈ cutP c l := by simp [List.getD, h]
  exact cutP_memL c l _ this
theorem bytS_size (x : List UInt8) : (bytS x).size = x.length := by rw [← size_data, bytS_data]
set_option maxRecDepth 20000 in
set_option maxHeartbeats 1600000 in
theorem c_splitNumbers (s : ByteArray) (l : List UInt8) (hs : IsS s l) (w : World) (htab : TabW w) (herr : ErrW w) (hmax : MaxW w) (hsz : s.size ≤ 1048576) :
    Calls Tryz.prog 71 #[.string s] w (FreshIB w ((allNum (cutP 32 l)).getD []) (allNum (cutP 32 l)).isSome) := by
  have hls := hs.size
  have hsp := c_SplitC 32 s w hmax hsz
  rw [show s.data.toList = l from hs] at hsp
  have hcl : (cutS 32 l).length = (cutP 32 l).length := by unfold cutS; rw [List.length_map]
  have hlen := cutP_len 32 l
  have HG := hidd (fun k (h : k < (cutP 32 l).length) => cutS_getD 32 l h)
  have HP := hidd (fun k (h : k < (cutP 32 l).length) => part_size 32 l h)
  have HSP := hidd hsp
  obtain ⟨ys, hys⟩ : ∃ ys, cutS 32 l = ys := ⟨_, rfl⟩
  obtain ⟨xs, hxs⟩ : ∃ xs, cutP 32 l = xs := ⟨_, rfl⟩
  rw [hys] at hcl HSP HG
  rw [hxs] at hcl hlen HG HP ⊢
  obtain ⟨V, hV⟩ : ∃ V, xs.map (fun x => (numP x).getD 0) = V := ⟨_, rfl⟩
  have hVl : V.length = xs.length := by rw [← hV]; simp
  have HV : Hid (∀ k, k < xs.length → V.getD k 0 = (numP (xs.getD k [])).getD 0) := fun k hk => by rw [← hV]; simp [List.getD, hk]
  have HALL : Hid ((∀ k, k < xs.length → (numP (xs.getD k [])).isSome = true) → allNum xs = some V) := fun h => by
    rw [← hV]
    exact allNum_some fun k hk => by have := h k hk; simpa [List.getD, hk] using this
  have HNO : Hid (∀ k, k < xs.length → numP (xs.getD k []) = none → allNum xs = none) := fun k hk h => allNum_none hk (by simpa [List.getD, hk] using h)
  clear hys hxs hV hsp hs
  go_enter Tryz.func71, Tryz.ntmps71
  go_wp2_with fail
  refine HSP.out.mono ?_
  rintro e w1 ⟨v, rfl, ho, hB1⟩
  have hr := owns_RdS ho
  obtain ⟨va, vc, rfl⟩ := RdS_formF hr
  rw [hcl] at hr ⊢
  clear ho
  go_wp2_with (at_make; refine mkfull 32 3 Tryz.underlying32 infoInt rfl (by decide) rfl _ _ rfl xs.length rfl rfl rfl rfl (by omega) ?_; intro w2 ho2 hB2 hz2)
  rw [← fill_zero (fun i => (.int .i64 (V.getD i 0)))] at ho2
  have hw1 := hB1.size
  generalize hg : w1.heap.size = g at *
  have hB1' := hidd hB1
  clear hB1
  go_loopw [17] (fun i wr => ∃ k : Nat, k ≤ xs.length ∧ i = .int .i64 k ∧ wr.ownsRow g 3 1 (.slice (some ⟨g, 0, none⟩) xs.length xs.length) xs.length (fill (fun i => (.int .i64 (V.getD i 0))) (.int .i64 (0)) k xs.length) ∧ (∀ i, i < k → (numP (xs.getD i [])).isSome = true) ∧ Below g w1 wr) (fun i _ => xs.length - (intOf i).toNat)
  case atStart => exact ⟨0, by omega, rfl, ho2, fun i hi => by omega, hB2⟩
  case round =>
    obtain ⟨k, hk, rfl, ho, hok, hB⟩ := hrel
    have HOK := hidd hok
    have hB' : Below w1.heap.size w1 wr := by rw [hg]; exact hB
    have hA : Below w.heap.size w wr := bthen hB1'.out hB'
    clear ho2 hB2 hz2 hok
    by_cases hlt : k < xs.length
    · obtain ⟨b, o, rfl, hb, e0⟩ := RdS_cell hr hB' (k := k) (by rw [hcl]; exact hlt)
      rw [HG.out k hlt] at e0
      have hps := HP.out k hlt
      have hvk := HV.out k hlt
      have HNK := hidd (HNO.out k hlt)
      have HOK2 : Hid ((numP (xs.getD k [])).isSome = true → ∀ i, i < k + 1 → (numP (xs.getD i [])).isSome = true) := fun h i hi => by
        by_cases h2 : i < k
        · exact HOK.out i h2
        · obtain rfl : i = k := by omega
          exact h
      obtain ⟨x, hx⟩ : ∃ x, xs.getD k [] = x := ⟨_, rfl⟩
      rw [hx] at e0 hps hvk HNK HOK2
      have hPN := c_parseNumber (bytS x) x (bytS_data x) wr (htab.below hA) (herr.below hA) (by rw [bytS_size]; omega)
      obtain ⟨Y, hY⟩ : ∃ Y, bytS x = Y := ⟨_, rfl⟩
      rw [hY] at e0 hPN
      cases hn : numP x with
      | none =>
        have HF := hidd (HNK.out hn)
        unfold NumRet at hPN
        rw [hn] at hPN
        clear hx hY hvk HOK2 HNK hn ho
        go_wp2_with fail
        refine hPN.mono ?_
        rintro e w3 ⟨rfl, hB3⟩
        have HA := hidd (bthen hA hB3)
        clear hPN hB3 hA hB hB' e0
        go_wp2
        go_ret2
        exact ⟨_, by rw [HF.out]; rfl, by rw [HF.out]; exact World.ownsRow_nil _ _ _ _, HA.out⟩
      | some n =>
        have HOK3 := hidd (HOK2.out (by rw [hn]; rfl))
        unfold NumRet at hPN
        rw [hn] at hPN hvk
        have hvk : V.getD k 0 = n := hvk
        have HPN : Hid (Calls Tryz.prog 31 #[.string Y] wr fun e w' => e = .returned (.tuple #[.int .i64 n, .bool true]) ∧ Below wr.heap.size wr w') := hPN
        clear hx hY HOK2 HNK hn hPN
        go_wp2_with fail
        refine HPN.out.mono ?_
        rintro e w3 ⟨rfl, hB3⟩
        have q1 := ownsRow_kept_below ho hB3
        obtain ⟨⟨y, e2⟩, e3, ho4⟩ := fill_step q1 hlt
        have HB : Hid (Below g w1 (w3.setCell ⟨g, k, none⟩ (.int .i64 (n)))) := (hB.trans (hB3.mono (by have := hB'.size; omega))).setCell (p := ⟨g, k, none⟩) (Nat.le_refl _) _
        have HO4 := hidd ho4
        rw [hvk] at HO4
        clear q1 ho4 hB3 ho hB hB' hA hvk HPN e0
        go_wp2
        go_roundw
        case rel => exact ⟨k + 1, by omega, by go_num, HO4.out, HOK3.out, HB.out⟩
        case measure => simp [intOf]; omega
    · obtain rfl : k = xs.length := by omega
      have HE := hidd (HALL.out HOK.out)
      have HF : Hid (OwnI wr w.heap.size (.slice (some ⟨g, 0, none⟩) xs.length xs.length) V) := by
        rw [fill_end] at ho
        have e : (List.range xs.length).map (fun i => (.int .i64 (V.getD i 0))) = V.map (Value.int .i64) := by
          rw [← hVl]
          apply List.ext_getElem
          · simp
          · intro i h1 h2
            simp at h1
            simp [List.getD, h1]
        rw [e] at ho
        unfold OwnI
        rw [hVl]
        exact ownsRow_mono ho hw1
      have HA := hidd hA
      clear ho hB hB' hA
      go_wp2
      go_ret2
      exact ⟨_, by rw [HE.out]; rfl, by rw [HE.out]; exact HF.out, HA.out⟩
set_option maxRecDepth 20000 in
theorem c_checked (v : Value) (p : List Int) (w : World) (ha : RdI w v p) (hx : p.length ≤ 1099511627776) :
    Calls Tryz.prog 72 #[v] w fun e w' => e = .returned (.tuple #[if polyB p = true then v else .slice none 0 0, .bool (polyB p)]) ∧ Below w.heap.size w w' := by
  have hpv := c_impl_PolyValid v p w ha hx
  cases hp : polyB p
  · rw [hp] at hpv
    clear hp ha
    go_enter Tryz.func72, Tryz.ntmps72
    go_wp2_with fail
    refine hpv.mono ?_
    rintro e w1 ⟨rfl, hB⟩
    go_wp2
    go_ret2
    exact ⟨rfl, hB⟩
  · rw [hp] at hpv
    clear hp ha
    go_enter Tryz.func72, Tryz.ntmps72
    go_wp2_with fail
    refine hpv.mono ?_
    rintro e w1 ⟨rfl, hB⟩
    go_wp2
    go_ret2
    exact ⟨rfl, hB⟩
set_option maxRecDepth 20000 in
theorem c_ParsePoly (s : ByteArray) (l : List UInt8) (hs : IsS s l) (w : World) (htab : TabW w) (herr : ErrW w) (hmax : MaxW w) (hsz : s.size ≤ 1048576) :
    Calls Tryz.prog 32 #[.string s] w (FreshIB w ((ppP l).getD []) (ppP l).isSome) := by
  have hsn := c_splitNumbers s l hs w htab herr hmax hsz
  have hlen := cutP_len 32 l
  have hls := hs.size
  cases hn : allNum (cutP 32 l) with
  | none =>
    have HN : Hid (ppP l = none) := by show _ = _; unfold ppP; rw [hn]; rfl
    rw [hn] at hsn
    clear hn
    go_enter Tryz.func32, Tryz.ntmps32
    go_wp2_with fail
    refine hsn.mono ?_
    rintro e w1 ⟨v, rfl, ho, hB⟩
    clear hsn ho
    go_wp2
    go_ret2
    exact ⟨_, by rw [HN.out]; rfl, by rw [HN.out]; exact World.ownsRow_nil _ _ _ _, hB⟩
  | some p =>
    have hpl : p.length ≤ 1099511627776 := by
      have := congrArg List.length (allNum_eq _ _ hn)
      rw [List.length_map] at this
      omega
    have hN : ppP l = if polyB p = true then some p else none := by unfold ppP; rw [hn]; rfl
    rw [hn] at hsn
    have hck := fun W (v : Value) (h : RdI W v p) => c_checked v p W h hpl
    cases hp : polyB p
    · rw [hp] at hN hck
      have HN : Hid (ppP l = none) := hN
      have HC := hidd hck
      clear hn hp hN hck
      go_enter Tryz.func32, Tryz.ntmps32
      go_wp2_with fail
      refine hsn.mono ?_
      rintro e w1 ⟨v, rfl, ho, hB⟩
      clear hsn
      go_wp2_with fail
      refine (HC.out _ v (owns_RdI ho)).mono ?_
      rintro e w2 ⟨rfl, hB2⟩
      have HB := hidd (bthen hB hB2)
      clear hB2 hB ho
      go_wp2
      go_ret2
      exact ⟨_, by rw [HN.out]; rfl, by rw [HN.out]; exact World.ownsRow_nil _ _ _ _, HB.out⟩
    · rw [hp] at hN hck
      have HN : Hid (ppP l = some p) := hN
      have HC := hidd hck
      clear hn hp hN hck
      go_enter Tryz.func32, Tryz.ntmps32
      go_wp2_with fail
      refine hsn.mono ?_
      rintro e w1 ⟨v, rfl, ho, hB⟩
      clear hsn
      go_wp2_with fail
      refine (HC.out _ v (owns_RdI ho)).mono ?_
      rintro e w2 ⟨rfl, hB2⟩
      have HB : Hid (OwnI w2 w.heap.size v p ∧ Below w.heap.size w w2) := ⟨ownsRow_kept_below ho hB2, bthen hB hB2⟩
      clear hB2 hB ho
      go_wp2
      go_ret2
      exact ⟨_, by rw [HN.out]; rfl, by rw [HN.out]; exact HB.out.1, HB.out.2⟩
end Go.Proofs.YtdfnclnjnmdboaaGreatDoor

namespace Go.Proofs.YtdfnclnjnmdboaaGreatDoor
set_option linter.unusedVariables false
open Go.RowKit

theorem index_no {c : UInt8} {l : List UInt8} (h : c ∉ l) : Lib.index l [c] = -1 := by
  rcases index_lo c l with h1 | ⟨i, h1⟩
  · exact h1
  · obtain ⟨_, h2, _⟩ := index_split h1
    exact absurd (by rw [h2]; simp) h
theorem index_here {c : UInt8} {l : List UInt8} {j : Nat} (hj : j < l.length) (h : c ∉ l.take j) (e : l[j] = c) : Lib.index l [c] = j := by
  have h1 : l = l.take j ++ c :: l.drop (j + 1) := by
    conv => lhs; rw [← List.take_append_drop j l, List.drop_eq_getElem_cons hj, e]
  have h2 := index_first (r := l.drop (j + 1)) h
  rw [← h1, List.length_take, Nat.min_eq_left (by omega)] at h2
  exact h2
theorem not_take_succ {c : UInt8} {l : List UInt8} {j : Nat} (hj : j < l.length) (h : c ∉ l.take j) (e : l[j] ≠ c) : c ∉ l.take (j + 1) := by
  rw [List.take_succ_eq_append_getElem hj]
  intro q
  rcases List.mem_append.1 q with q | q
  · exact h q
  · exact e (List.mem_singleton.1 q).symm
set_option maxRecDepth 20000 in
theorem c_l9Find (s : ByteArray) (c : UInt8) (l : List UInt8) (hs : IsS s l) (w : World) (hsz : s.size ≤ 1048576) :
    Calls Tryz.prog 76 #[.string s, .int .u8 (c.toNat : Int)] w fun e w' => e = .returned (.int .i64 (Lib.index l [c])) ∧ Below w.heap.size w w' := by
  have HS := hidd hs
  have HZ : Hid (s.size = l.length) := hs.size
  clear hs
  go_enter Tryz.func76, Tryz.ntmps76
  go_wp2
  go_loopw [5] (fun i wr => ∃ k : Nat, k ≤ s.size ∧ i = .int .i64 k ∧ Hid (c ∉ l.take k) ∧ Below w.heap.size w wr) (fun i _ => s.size - (intOf i).toNat)
  case atStart => exact ⟨0, by omega, rfl, by show _ ∉ _; simp, Below.refl _ _⟩
  case round =>
    obtain ⟨k, hk, rfl, HC, hB⟩ := hrel
    by_cases hlt : k < s.size
    · have hltl : k < l.length := by rw [← HZ.out]; exact hlt
      have hat : s[k] = l[k] := HS.out.at_ hlt hltl
      have HB := hidd hB
      by_cases hc : l[k] = c
      · have HF : Hid (Lib.index l [c] = k) := index_here hltl HC.out hc
        have e2 : ((s[k].toNat : Int) == (c.toNat : Int)) = true := by rw [hat, hc]; simp
        clear hat hc hB
        go_wp2
        go_ret
        exact ⟨by rw [HF.out]; rfl, HB.out⟩
      · have HC2 := hidd (not_take_succ hltl HC.out hc)
        have e2 : ((s[k].toNat : Int) == (c.toNat : Int)) = false := by
          rw [beq_eq_false_iff_ne]
          intro e
          apply hc
          rw [← hat]
          apply UInt8.toNat_inj.1
          exact Int.ofNat.inj e
        clear hat hc hB
        go_wp2
        go_roundw
        case rel => exact ⟨k + 1, by omega, by go_num, HC2, HB.out⟩
        case measure => simp [intOf]; omega
    · have HF : Hid (Lib.index l [c] = -1) := index_no (by have := HC.out; rw [List.take_of_length_le (by rw [← HZ.out]; omega)] at this; exact this)
      have HB := hidd hB
      clear hB
      go_wp2
      go_ret
      exact ⟨by rw [HF.out]; rfl, HB.out⟩
theorem own_apartP {w : World} {b1 b2 e1 e2 n1 n2 : Nat} {v1 v2 : Value} {x1 x2 : List Value} (h1 : w.ownsRow b1 e1 1 v1 n1 x1) (h2 : w.ownsRow b2 e2 1 v2 n2 x2) (hne : e1 ≠ e2) : v1.ownBlock = none ∨ v1.ownBlock ≠ v2.ownBlock := by
  rcases h1.2 with ⟨rfl, _⟩ | ⟨g, cap, cur, rfl, _, hh, _⟩
  · exact .inl rfl
  · rcases h2.2 with ⟨rfl, _⟩ | ⟨g2, cap2, cur2, rfl, _, hh2, _⟩
    · exact .inr (by simp [Value.ownBlock])
    · refine .inr (fun e => ?_)
      simp only [Value.ownBlock, Option.some.injEq] at e
      rw [e, hh2] at hh
      simp at hh
      exact hne hh.2.symm
theorem spO_len (t : List UInt8) : (spO t).length = min 8 (cutP 32 t).length := by simp [spO]
theorem spO_getD (t : List UInt8) {k : Nat} (h : k < (spO t).length) : (spO t).getD k 0 = (numP ((cutP 32 t).getD k [])).getD 0 := by
  rw [spO_len] at h
  have h1 : k < (cutP 32 t).length := by omega
  have h2 : k < 8 := by omega
  simp [spO, List.getD, h1, h2]
theorem take_snocI (xs : List Int) {k : Nat} (h : k < xs.length) : xs.take (k + 1) = xs.take k ++ [xs.getD k 0] := by
  rw [List.take_add_one]; congr 1; simp [List.getD, h]
set_option maxRecDepth 20000 in
set_option maxHeartbeats 1600000 in
theorem c_sParsePoly (s : ByteArray) (l : List UInt8) (hs : IsS s l) (w : World) (hsz : s.size ≤ 1048576) :
    Calls Tryz.prog 78 #[.string s] w (FreshIB w ((ppP l).getD []) (ppP l).isSome) := by
  have hls := hs.size
  have HS := hidd hs
  have hB0 : Below w.heap.size w (w.alloc (.cells #[] 3)) := (Below.refl _ _).alloc (Nat.le_refl _) _
  have ho0 := madeP0 w
  have HCT := hidd (c_l9Cut s 32 l hs (w.alloc (.cells #[] 3)) hsz)
  have hcl : (cutS 32 l).length = (cutP 32 l).length := by unfold cutS; rw [List.length_map]
  have hlen := cutP_len 32 l
  have hSl := spO_len l
  have HG := hidd (fun k (h : k < (cutP 32 l).length) => cutS_getD 32 l h)
  have HP := hidd (fun k (h : k < (cutP 32 l).length) => part_size 32 l h)
  have HV := hidd (fun k (h : k < (spO l).length) => spO_getD l h)
  have HY : Hid (∀ p, ppP l = some p → spO l = p ∧ fpL p = l) := fun p h => spO_yes h
  have HN : Hid (ppP l = none → fpL (spO l) ≠ l) := spO_no
  obtain ⟨ys, hys⟩ : ∃ ys, cutS 32 l = ys := ⟨_, rfl⟩
  obtain ⟨xs, hxs⟩ : ∃ xs, cutP 32 l = xs := ⟨_, rfl⟩
  obtain ⟨S, hS⟩ : ∃ S, spO l = S := ⟨_, rfl⟩
  rw [hys] at hcl HCT HG
  rw [hxs] at hcl hlen HG HP HV hSl
  rw [hS] at HV HY HN hSl
  clear hys hxs hS hs
  go_enter Tryz.func78, Tryz.ntmps78
  go_wp2_with fail
  refine HCT.out.mono ?_
  rintro e w1 ⟨v, rfl, ho, hB1⟩
  have hr := owns_RdS ho
  obtain ⟨va, vc, rfl⟩ := RdS_formF hr
  rw [hcl] at hr ho ⊢
  have ho1 : OwnI w1 w.heap.size (.slice (some ⟨w.heap.size, 0, none⟩) 0 0) (S.take 0) := ownsRow_kept_below ho0 hB1
  have hA1 := bthen hB0 hB1
  have hoy : OwnS w1 w.heap.size (.slice va xs.length vc) ys := ownsRow_monoS ho (by rw [show (w.alloc (.cells #[] 3)).heap.size = w.heap.size + 1 by simp]; omega)
  clear ho ho0 hB0 hB1 HCT hr
  go_wp2
  go_loopw [4, 6] (fun o i wr => ∃ k : Nat, k ≤ S.length ∧ i = .int .i64 k ∧ OwnI wr w.heap.size o (S.take k) ∧ OwnS wr w.heap.size (.slice va xs.length vc) ys ∧ Below w.heap.size w wr) (fun _ i _ => S.length - (intOf i).toNat)
  case atStart => exact ⟨0, by omega, rfl, ho1, hoy, hA1⟩
  case round =>
    obtain ⟨k, hk, rfl, ho, hoy', hB⟩ := hrel
    clear ho1 hoy hA1
    by_cases hlt : k < S.length
    · have hkx : k < xs.length := by omega
      obtain ⟨b, o, rfl, hb, e0⟩ := RdS_cell (owns_RdS hoy') (Below.refl _ _) (k := k) (by rw [hcl]; exact hkx)
      rw [HG.out k hkx] at e0
      have hps := HP.out k hkx
      have hvk := HV.out k hlt
      have HTK := hidd (take_snocI S hlt)
      obtain ⟨x, hx⟩ : ∃ x, xs.getD k [] = x := ⟨_, rfl⟩
      rw [hx] at e0 hps hvk
      have hPN := c_l9Num (bytS x) x (bytS_data x) wr (by rw [bytS_size]; omega)
      unfold NumRet at hPN
      rw [← hvk] at hPN
      obtain ⟨Y, hY⟩ : ∃ Y, bytS x = Y := ⟨_, rfl⟩
      rw [hY] at e0 hPN
      obtain ⟨y, hy⟩ : ∃ y, S.getD k 0 = y := ⟨_, rfl⟩
      obtain ⟨z, hz⟩ : ∃ z, (numP x).isSome = z := ⟨_, rfl⟩
      rw [hy] at hPN HTK
      rw [hz] at hPN
      have HPN := hidd hPN
      have i0 : (k : Int) < (xs.length : Int) := by omega
      have i1 : (k : Int) ≤ 7 := by omega
      have i2 : (0 : Int) ≤ (k : Int) := by omega
      have htk : (S.take k).length = k := by rw [List.length_take]; omega
      obtain ⟨T, hT⟩ : ∃ T, S.take k = T := ⟨_, rfl⟩
      rw [hT] at ho HTK htk
      clear hx hY hy hz hvk hPN hT
      go_wp2_with fail
      refine HPN.out.mono ?_
      rintro e w3 ⟨rfl, hB3⟩
      have q1 := ownsRow_kept_below ho hB3
      have q2 := ownsRow_kept_below hoy' hB3
      have hB' := bthen hB hB3
      have hBs : w.heap.size ≤ w3.heap.size := hB'.size
      clear hB3 ho hoy' hB HPN e0
      go_wp2_with (at_builtin; refine app1 32 3 Tryz.underlying32 infoInt rfl (by decide) rfl _ _ rfl w.heap.size _ _ _ rfl q1 rfl rfl ?c1 ?c2 ?_)
      case c1 => omega
      case c2 => exact hBs
      intro v' w5 ho5 hg5
      have HO : Hid (OwnI w5 w.heap.size v' (S.take (k + 1)) ∧ OwnS w5 w.heap.size (.slice (some ⟨b, o, none⟩) xs.length vc) ys ∧ Below w.heap.size w w5) :=
        ⟨by rw [HTK.out]; exact OwnI_snoc' htk.symm ho5, q2.kept hg5 (own_apartP q2 q1 (by decide)), hB'.grown hg5 hBs (fun j hj => (q1.lt j hj).1)⟩
      clear q1 q2 hB' ho5 hg5
      go_wp2
      go_roundw
      case rel => exact ⟨k + 1, by omega, by go_num, HO.out⟩
      case measure => simp [intOf]; omega
    · obtain rfl : k = S.length := by omega
      rw [List.take_length] at ho
      have HSP := hidd (c_sFormatPoly u4 S wr (owns_RdI ho) (by omega))
      have HB := hidd hB
      have HO := hidd ho
      clear hoy' ho hB
      have hd : (¬ ((S.length : Int) < (xs.length : Int))) ∨ (((S.length : Int) < (xs.length : Int)) ∧ ¬ ((S.length : Int) ≤ 7)) := by omega
      cases hp : ppP l with
      | some p =>
        obtain ⟨f1, f2⟩ := HY.out p hp
        subst f1
        rw [f2] at HSP
        have HPE := hidd hp
        clear HY HN hp HV hSl
        rcases hd with d1 | ⟨d1, d2⟩
        all_goals
          go_wp2_with fail
          refine HSP.out.mono ?_
          rintro e w3 ⟨Y, rfl, hY, hB3⟩
          obtain rfl : Y = s := IsS.inj hY HS.out
          have hbq := str_beq Y
          have HF : Hid (OwnI w3 w.heap.size u4 S ∧ Below w.heap.size w w3) := ⟨ownsRow_kept_below HO.out hB3, bthen HB.out hB3⟩
          clear hY hB3
          go_wp2
          go_ret2
          exact ⟨_, by rw [HPE.out]; rfl, by rw [HPE.out]; exact HF.out.1, HF.out.2⟩
      | none =>
        have hne := HN.out hp
        have HPE := hidd hp
        clear HY HN hp HV hSl
        rcases hd with d1 | ⟨d1, d2⟩
        all_goals
          go_wp2_with fail
          refine HSP.out.mono ?_
          rintro e w3 ⟨Y, rfl, hY, hB3⟩
          have hYs : Y ≠ s := fun q => hne (by rw [q] at hY; exact hY.symm.trans HS.out)
          have hbq := str_bne hYs
          have HF : Hid (OwnI (w3.alloc (.cells #[] 3)) w.heap.size (.slice (some ⟨w3.heap.size, 0, none⟩) 0 0) [] ∧ Below w.heap.size w (w3.alloc (.cells #[] 3))) := ⟨ownsRow_mono (madeP0 w3) (bthen HB.out hB3).size, (bthen HB.out hB3).alloc (bthen HB.out hB3).size _⟩
          clear hY hB3
          go_wp2
          go_ret2
          exact ⟨_, by rw [HPE.out]; rfl, by rw [HPE.out]; exact HF.out.1, HF.out.2⟩
end Go.Proofs.YtdfnclnjnmdboaaGreatDoor

namespace Go.Proofs.YtdfnclnjnmdboaaGreatDoor
set_option linter.unusedVariables false
open Go.RowKit

theorem own_apartG {w : World} {b1 b2 e1 e2 n1 n2 s1 s2 : Nat} {v1 v2 : Value} {x1 x2 : List Value} (h1 : w.ownsRow b1 e1 s1 v1 n1 x1) (h2 : w.ownsRow b2 e2 s2 v2 n2 x2) (hne : e1 ≠ e2) : v1.ownBlock = none ∨ v1.ownBlock ≠ v2.ownBlock := by
  rcases h1.2 with ⟨rfl, _⟩ | ⟨g, cap, cur, rfl, _, hh, _⟩
  · exact .inl rfl
  · rcases h2.2 with ⟨rfl, _⟩ | ⟨g2, cap2, cur2, rfl, _, hh2, _⟩
    · exact .inr (by simp [Value.ownBlock])
    · refine .inr (fun e => ?_)
      simp only [Value.ownBlock, Option.some.injEq] at e
      rw [e, hh2] at hh
      simp at hh
      exact hne hh.2.symm
theorem plO_len (t : List UInt8) : (plO t).length = min 61 (cutP 47 t).length := by simp [plO, plPt]
theorem plO_getD (t : List UInt8) {k : Nat} (h : k < (plO t).length) : (plO t).getD k noG = segO ((cutP 47 t).getD k []) := by
  rw [plO_len] at h
  have h1 : k < (cutP 47 t).length := by omega
  have h2 : k < 61 := by omega
  simp [plO, plPt, List.getD, h1, h2]
theorem ppP_len (x : List UInt8) : ((ppP x).getD []).length ≤ 7 := by
  cases h : ppP x with
  | none => simp
  | some p => exact (polyB_len (ppP_iff.1 h).1).2
theorem plO_mem (t : List UInt8) : ∀ s ∈ plO t, s.2.length ≤ 7 := by
  intro s hs
  unfold plO at hs
  obtain ⟨x, _, rfl⟩ := List.mem_map.1 hs
  exact ppP_len _
theorem pt_has {t : List UInt8} {k : Nat} (hk : k < (plO t).length) (h : has58 ((cutP 47 t).getD k []) = false) : planP t = none := by
  refine plO_no58 ?_
  rw [plO_len] at hk
  have h1 : k < (cutP 47 t).length := by omega
  rw [List.all_eq_false]
  refine ⟨(cutP 47 t)[k], ?_, by simpa [List.getD, h1] using h⟩
  unfold plPt
  rw [List.mem_take_iff_getElem]
  exact ⟨k, by omega, rfl⟩
theorem pt_all {t : List UInt8} (h : ∀ k, k < (plO t).length → has58 ((cutP 47 t).getD k []) = true) : (plPt t).all has58 = true := by
  rw [List.all_eq_true]
  intro x hx
  unfold plPt at hx
  rw [List.mem_take_iff_getElem] at hx
  obtain ⟨k, hk, rfl⟩ := hx
  have h1 : k < (cutP 47 t).length := by omega
  have := h k (by rw [plO_len]; omega)
  simpa [List.getD, h1] using this
set_option maxRecDepth 20000 in
set_option maxHeartbeats 3200000 in
theorem c_l5RawParsePlan (s : ByteArray) (l : List UInt8) (hs : IsS s l) (w : World) (hsz : s.size ≤ 1048576) :
    Calls Tryz.prog 37 #[.string s] w (FreshPB w ((planP l).getD []) (planP l).isSome) := by
  have hls := hs.size
  have HS := hidd hs
  have hB0 : Below w.heap.size w (w.alloc (.cells #[] 44)) := (Below.refl _ _).alloc (Nat.le_refl _) _
  have ho0 := OwP.made w w.heap.size (Nat.le_refl _)
  have HCT := hidd (c_l9Cut s 47 l hs (w.alloc (.cells #[] 44)) hsz)
  have hcl : (cutS 47 l).length = (cutP 47 l).length := by unfold cutS; rw [List.length_map]
  have hlen := cutP_len 47 l
  have hSl := plO_len l
  have HG := hidd (fun k (h : k < (cutP 47 l).length) => cutS_getD 47 l h)
  have HP := hidd (fun k (h : k < (cutP 47 l).length) => part_size 47 l h)
  have HV := hidd (fun k (h : k < (plO l).length) => plO_getD l h)
  have HMM := hidd (plO_mem l)
  have HNH : Hid (∀ k, k < (plO l).length → has58 ((cutP 47 l).getD k []) = false → planP l = none) := fun k hk h => pt_has hk h
  have HAL : Hid ((∀ k, k < (plO l).length → has58 ((cutP 47 l).getD k []) = true) → (planP l = none → fplL (plO l) ≠ l)) := fun h h2 => plO_no h2 (pt_all h)
  have HY : Hid (∀ pl, planP l = some pl → plO l = pl ∧ fplL pl = l) := fun p h => (plO_yes h).2
  obtain ⟨ys, hys⟩ : ∃ ys, cutS 47 l = ys := ⟨_, rfl⟩
  obtain ⟨xs, hxs⟩ : ∃ xs, cutP 47 l = xs := ⟨_, rfl⟩
  obtain ⟨S, hS⟩ : ∃ S, plO l = S := ⟨_, rfl⟩
  rw [hys] at hcl HCT HG
  rw [hxs] at hcl hlen HG HP HV hSl HNH HAL
  rw [hS] at HV HY HNH HAL hSl HMM
  clear hys hxs hS hs
  go_enter Tryz.func37, Tryz.ntmps37
  go_wp2_with fail
  refine HCT.out.mono ?_
  rintro e w1 ⟨v, rfl, ho, hB1⟩
  have hr := owns_RdS ho
  obtain ⟨va, vc, rfl⟩ := RdS_formF hr
  rw [hcl] at hr ho ⊢
  have ho1 : OwP w1 w.heap.size (.slice (some ⟨w.heap.size, 0, none⟩) 0 0) (S.take 0) := ho0.kept hB1
  have hA1 := bthen hB0 hB1
  have hoy : OwnS w1 w.heap.size (.slice va xs.length vc) ys := ownsRow_monoS ho (by rw [show (w.alloc (.cells #[] 44)).heap.size = w.heap.size + 1 by simp]; omega)
  clear ho ho0 hB0 hB1 HCT hr
  go_wp2
  go_loopw [4, 6] (fun o i wr => ∃ k : Nat, k ≤ S.length ∧ i = .int .i64 k ∧ OwP wr w.heap.size o (S.take k) ∧ OwnS wr w.heap.size (.slice va xs.length vc) ys ∧ Hid (∀ i, i < k → has58 (xs.getD i []) = true) ∧ Below w.heap.size w wr) (fun _ i _ => S.length - (intOf i).toNat)
  case atStart => exact ⟨0, by omega, rfl, ho1, hoy, fun i hi => by omega, hA1⟩
  case round =>
    obtain ⟨k, hk, rfl, ho, hoy', HOK, hB⟩ := hrel
    clear ho1 hoy hA1
    by_cases hlt : k < S.length
    · have hkx : k < xs.length := by omega
      obtain ⟨b, o, rfl, hb, e0⟩ := RdS_cell (owns_RdS hoy') (Below.refl _ _) (k := k) (by rw [hcl]; exact hkx)
      rw [HG.out k hkx] at e0
      have hps := HP.out k hkx
      have hvk := HV.out k hlt
      have HTK := hidd (take_succG S k hlt)
      have HNK := hidd (HNH.out k hlt)
      have HOK2 : Hid (has58 (xs.getD k []) = true → ∀ i, i < k + 1 → has58 (xs.getD i []) = true) := fun h i hi => by
        by_cases h2 : i < k
        · exact HOK.out i h2
        · obtain rfl : i = k := by omega
          exact h
      obtain ⟨x, hx⟩ : ∃ x, xs.getD k [] = x := ⟨_, rfl⟩
      rw [hx] at e0 hps hvk HNK HOK2
      rw [hvk] at HTK
      have HFI := hidd (c_l9Find (bytS x) 58 x (bytS_data x) wr (by rw [bytS_size]; omega))
      have HIX : Hid (IsS (bytS x) x) := bytS_data x
      have hYs := bytS_size x
      obtain ⟨Y, hY⟩ : ∃ Y, bytS x = Y := ⟨_, rfl⟩
      rw [hY] at e0 HFI HIX hYs
      have i0 : (k : Int) < (xs.length : Int) := by omega
      have i1 : (k : Int) ≤ 60 := by omega
      have i2 : (0 : Int) ≤ (k : Int) := by omega
      clear hx hY hvk
      rcases index_lo 58 x with hix | ⟨I, hix⟩
      · have HF := hidd (HNK.out (by unfold has58; rw [hix]; rfl))
        rw [hix] at HFI
        clear hix HOK2 HNK ho
        go_wp2_with fail
        refine HFI.out.mono ?_
        rintro e w3 ⟨rfl, hB3⟩
        have hA := bthen hB hB3
        have HE : Hid (OwP (w3.alloc (.cells #[] 44)) w.heap.size (.slice (some ⟨w3.heap.size, 0, none⟩) 0 0) [] ∧ Below w.heap.size w (w3.alloc (.cells #[] 44))) := ⟨OwP.made w3 w.heap.size hA.size, hA.alloc hA.size _⟩
        clear hB3 hB hA hoy' e0
        go_wp2
        go_ret2
        exact ⟨_, by rw [HF.out]; rfl, by rw [HF.out]; exact HE.out.1, HE.out.2⟩
      · have hIl : I < x.length := (index_split hix).1
        have HOK3 := hidd (HOK2.out (by unfold has58; rw [hix]; exact decide_eq_true (by omega)))
        have hsg : segO x = ((numP (x.take I)).getD 0, (ppP (x.drop (I + 1))).getD []) := by unfold segO; rw [hix]; rfl
        rw [hsg] at HTK
        rw [hix] at HFI
        have hT1 : IsS (Y.extract 0 I) (x.take I) := (HIX.out.ext 0 I).cast (by simp)
        have hT2 : IsS (Y.extract (I + 1) Y.size) (x.drop (I + 1)) := (HIX.out.ext (I + 1) Y.size).cast (by rw [List.take_of_length_le]; rw [List.length_drop]; omega)
        have HNU := hidd (fun W => c_l9Num (Y.extract 0 I) _ hT1 W (by rw [hT1.size, List.length_take]; omega))
        have HPO := hidd (fun W => c_sParsePoly (Y.extract (I + 1) Y.size) _ hT2 W (by rw [hT2.size, List.length_drop]; omega))
        unfold NumRet at HNU
        rw [hYs] at HPO
        obtain ⟨N, hN⟩ : ∃ N, (numP (x.take I)).getD 0 = N := ⟨_, rfl⟩
        obtain ⟨nb, hnb⟩ : ∃ nb, (numP (x.take I)).isSome = nb := ⟨_, rfl⟩
        obtain ⟨p, hp⟩ : ∃ p, (ppP (x.drop (I + 1))).getD [] = p := ⟨_, rfl⟩
        obtain ⟨pb, hpb⟩ : ∃ pb, (ppP (x.drop (I + 1))).isSome = pb := ⟨_, rfl⟩
        rw [hN] at HTK HNU
        rw [hnb] at HNU
        rw [hp] at HTK HPO
        rw [hpb] at HPO
        have j0 : (0 : Int) ≤ (I : Int) := by omega
        have j1 : (I : Int) ≤ (Y.size : Int) := by omega
        have j2 : ¬ ((I : Int) < 0) := by omega
        have j3 : (0 : Int) ≤ (I : Int) + 1 := by omega
        have j4 : (I : Int) + 1 ≤ (Y.size : Int) := by omega
        have j5 : ((I : Int) + 1).toNat = I + 1 := by omega
        have hIb : I ≤ 1048576 := by omega
        clear hix hsg hN hnb hp hpb hT1 hT2 HOK2 HNK hIl
        go_wp2_with fail
        refine HFI.out.mono ?_
        rintro e w3 ⟨rfl, hB3⟩
        have e3 := ((bcell hB3).1 _ _ hb).trans e0
        have hb3 := Nat.lt_of_lt_of_le hb hB3.size
        replace ho := ho.kept hB3
        replace hoy' := ownsRow_kept_below hoy' hB3
        replace hB := bthen hB hB3
        clear hB3 e0 HFI
        go_wp2_with fail
        refine (HNU.out _).mono ?_
        rintro e w4 ⟨rfl, hB4⟩
        have e4 := ((bcell hB4).1 _ _ hb3).trans e3
        replace ho := ho.kept hB4
        replace hoy' := ownsRow_kept_below hoy' hB4
        replace hB := bthen hB hB4
        clear hB4 e3 HNU
        go_wp2_with fail
        refine (HPO.out _).mono ?_
        rintro e w5 ⟨pv, rfl, hu, hB5⟩
        obtain ⟨ua, uc, rfl⟩ := RdI_formF (owns_RdI hu)
        have hsw : w4.heap.size ≤ w5.heap.size := hB5.size
        have hws : w.heap.size ≤ w4.heap.size := hB.size
        obtain ⟨rs, q1, q2, q3⟩ := ho
        have hrl : rs.length ≤ 61 := by have := q2.1; rw [List.length_take] at this; omega
        have HQ2 := hidd (q2.kept hB5)
        have HQ3 := hidd q3
        have HLT := hidd q2.lt
        have q1b := ownsRow_kept_below q1 hB5
        have HU := hidd hu
        have HBt := hidd (bthen hB hB5)
        have HOY := hidd (ownsRow_kept_below hoy' hB5)
        have hs5 : w.heap.size ≤ w5.heap.size := HBt.out.size
        clear q1 q2 q3 hu hB5 hB hoy' e4 HPO hb3
        go_wp2_with (at_builtin; refine appN 23 44 Tryz.underlying23 infoSeg rfl (by decide) (by decide) rfl _ _ rfl w.heap.size _ _ _ rfl (q1b.alloc _) _ _ _ rfl (RdN_seg w5 N (.slice ua _ uc)) (one_seg N ua _ uc) ?c1 ?c2 ?_)
        case c1 => omega
        case c2 => simp; omega
        intro v' w6 ho6 hg6 _
        have hal : Below w5.heap.size w5 (w5.alloc (.cells #[.int .i64 N, .slice ua p.length uc] 44)) := (Below.refl _ _).alloc (Nat.le_refl _) _
        have HO : Hid (OwP w6 w.heap.size v' (S.take (k + 1)) ∧ OwnS w6 w.heap.size (.slice (some ⟨b, o, none⟩) xs.length vc) ys ∧ Below w.heap.size w w6) := by
          refine ⟨?_, ?_, ?_⟩
          · rw [HTK.out]
            exact OwP_snoc (wr := w4) (q1b.alloc _) (HQ2.out.kept hal) HQ3.out HLT.out (ownsRow_kept_below HU.out hal) hws ho6 hg6
          · exact (ownsRow_kept_below HOY.out hal).kept hg6 (own_apartG (ownsRow_kept_below HOY.out hal) (q1b.alloc _) (by decide))
          · exact (HBt.out.alloc hs5 _).grown hg6 (by simp; omega) (fun j hj => (q1b.lt j hj).1)
        clear q1b ho6 hg6 hal
        go_wp2
        go_roundw
        case rel => exact ⟨k + 1, by omega, by go_num, HO.out.1, HO.out.2.1, HOK3, HO.out.2.2⟩
        case measure => simp [intOf]; omega
    · obtain rfl : k = S.length := by omega
      rw [List.take_length] at ho
      have hSx : ∀ s ∈ S, s.2.length ≤ 1099511627776 := fun s hs => by have := HMM.out s hs; omega
      have HSP := hidd (c_sFormatPlan u4 S wr ho.rd (by omega) hSx)
      have HB := hidd hB
      have HO := hidd ho
      have HNN := hidd (HAL.out HOK.out)
      have hd : (¬ ((S.length : Int) < (xs.length : Int))) ∨ (((S.length : Int) < (xs.length : Int)) ∧ ¬ ((S.length : Int) ≤ 60)) := by omega
      clear hoy' ho hB hSx
      cases hp : planP l with
      | some p =>
        obtain ⟨f1, f2⟩ := HY.out p hp
        subst f1
        rw [f2] at HSP
        have HPE := hidd hp
        clear HY HNN hp HV hSl HAL HNH HMM HP HG
        rcases hd with d1 | ⟨d1, d2⟩
        all_goals
          go_wp2_with fail
          refine HSP.out.mono ?_
          rintro e w3 ⟨Y, rfl, hY, hB3⟩
          obtain rfl : Y = s := IsS.inj hY HS.out
          have hbq := str_beq Y
          have HF : Hid (OwP w3 w.heap.size u4 S ∧ Below w.heap.size w w3) := ⟨HO.out.kept hB3, bthen HB.out hB3⟩
          clear hY hB3
          go_wp2
          go_ret2
          exact ⟨_, by rw [HPE.out]; rfl, by rw [HPE.out]; exact HF.out.1, HF.out.2⟩
      | none =>
        have hne := HNN.out hp
        have HPE := hidd hp
        clear HY HNN hp HV hSl HAL HNH HMM HP HG
        rcases hd with d1 | ⟨d1, d2⟩
        all_goals
          go_wp2_with fail
          refine HSP.out.mono ?_
          rintro e w3 ⟨Y, rfl, hY, hB3⟩
          have hYs : Y ≠ s := fun q => hne (by rw [q] at hY; exact hY.symm.trans HS.out)
          have hbq := str_bne hYs
          have hA := bthen HB.out hB3
          have HF : Hid (OwP (w3.alloc (.cells #[] 44)) w.heap.size (.slice (some ⟨w3.heap.size, 0, none⟩) 0 0) [] ∧ Below w.heap.size w (w3.alloc (.cells #[] 44))) := ⟨OwP.made w3 w.heap.size hA.size, hA.alloc hA.size _⟩
          clear hY hB3 hA
          go_wp2
          go_ret2
          exact ⟨_, by rw [HPE.out]; rfl, by rw [HPE.out]; exact HF.out.1, HF.out.2⟩
set_option maxRecDepth 20000 in
theorem c_sParsePlan (s : ByteArray) (l : List UInt8) (hs : IsS s l) (w : World) (hsz : s.size ≤ 1048576) :
    Calls Tryz.prog 12 #[.string s] w (FreshPB w ((planP l).getD []) (planP l).isSome) := by
  have HR := hidd (c_l5RawParsePlan s l hs w hsz)
  have hml : ((planP l).getD []).length ≤ 61 ∧ ∀ s ∈ (planP l).getD [], s.2.length ≤ 7 := by
    cases h : planP l with
    | none => exact ⟨by simp, fun s hs => by cases hs⟩
    | some p =>
      have := (plO_yes h).2.1
      refine ⟨?_, fun s hs => ?_⟩
      · show p.length ≤ 61
        rw [← this, plO_len]; omega
      · rw [← this] at hs
        exact plO_mem l s hs
  obtain ⟨P, hP⟩ : ∃ P, (planP l).getD [] = P := ⟨_, rfl⟩
  obtain ⟨B, hB⟩ : ∃ B, (planP l).isSome = B := ⟨_, rfl⟩
  rw [hP, hB] at HR ⊢
  rw [hP] at hml
  obtain ⟨hm1, hm2⟩ := hml
  clear hP hB hs
  go_enter Tryz.func12, Tryz.ntmps12
  go_wp2_with fail
  refine HR.out.mono ?_
  rintro e w1 ⟨v, rfl, ho, hB1⟩
  have HC := hidd (c_l9OwnListSegment v P w1 ho.rd (by omega) (fun s hs => by have := hm2 s hs; omega))
  have HB := hidd hB1
  clear ho hB1 HR hm2
  go_wp2_with fail
  refine HC.out.mono ?_
  rintro e w2 ⟨u, rfl, ho2, hB2⟩
  have HF : Hid (FreshPB w P B (.returned (.tuple #[u, .bool B])) w2) := ⟨_, rfl, ho2.mono HB.out.size, bthen HB.out hB2⟩
  clear ho2 hB2 HC
  go_wp2
  go_ret2
  exact HF.out
end Go.Proofs.YtdfnclnjnmdboaaGreatDoor
