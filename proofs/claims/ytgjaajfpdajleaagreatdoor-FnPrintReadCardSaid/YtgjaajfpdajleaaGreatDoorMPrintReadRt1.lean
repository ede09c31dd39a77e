/- Lemmas and contracts for PrintRead (Rt1 Rt2): plain words on memory, contracts of the functions that the law reaches. No condition but what each states. -/
import Derived.Test.YtgjaajfpdajleaaGreatDoorMPrintReadSpP
import Derived.Test.YtgjaajfpdajleaaGreatDoorMPrintReadSapp
import Derived.Test.YtgjaajfpdajleaaGreatDoorMPrintReadStrs
import Derived.Test.YtgjaajfpdajleaaGreatDoorMPrintReadRp2
import Derived.Test.YtgjaajfpdajleaaGreatDoorMPrintReadPt1
import Derived.Test.YtgjaajfpdajleaaGreatDoorMPrintReadApp
import Derived.Laws.AppendOwnNone
namespace Go.Proofs.YtgjaajfpdajleaaGreatDoor
set_option linter.unusedVariables false
open Go.RowKit

/-- the pieces D cut off so far: from F on nothing has been cut, and up to i there is no c -/
def CutR (c : UInt8) (l : List UInt8) (D : List (List UInt8)) (F i : Nat) : Prop :=
  (i ≤ l.length ∧ F ≤ i ∧ c ∉ (l.drop F).take (i - F) ∧ cutP c l = D ++ cutP c (l.drop F)) ∨ (i = l.length + 1 ∧ D = cutP c l)
theorem CutR.start (c : UInt8) (l : List UInt8) : CutR c l [] 0 0 := .inl ⟨by omega, Nat.le_refl _, by simp, by simp⟩
theorem CutR.last {c : UInt8} {l : List UInt8} {D : List (List UInt8)} {F : Nat} (h : CutR c l D F l.length) : F ≤ l.length ∧ CutR c l (D ++ [(l.drop F).take (l.length - F)]) (l.length + 1) (l.length + 1) := by
  rcases h with ⟨_, h2, h3, h4⟩ | ⟨h1, _⟩
  · refine ⟨h2, .inr ⟨rfl, ?_⟩⟩
    have e : (l.drop F).take (l.length - F) = l.drop F := List.take_of_length_le (by rw [List.length_drop]; exact Nat.le_refl _)
    rw [e] at h3 ⊢
    rw [h4, cutP_end c _ h3]
  · omega
theorem cut_at {l : List UInt8} {F i : Nat} (hi : i < l.length) (hF : F ≤ i) : l.drop F = (l.drop F).take (i - F) ++ l[i] :: l.drop (i + 1) := by
  conv => lhs; rw [← List.take_append_drop (i - F) (l.drop F)]
  congr 1
  rw [List.drop_drop, show F + (i - F) = i by omega]
  exact List.drop_eq_getElem_cons hi
theorem CutR.hit {c : UInt8} {l : List UInt8} {D : List (List UInt8)} {F i : Nat} (h : CutR c l D F i) (hi : i < l.length) (e : l[i] = c) : F ≤ i ∧ CutR c l (D ++ [(l.drop F).take (i - F)]) (i + 1) (i + 1) := by
  rcases h with ⟨_, h2, h3, h4⟩ | ⟨h1, _⟩
  · refine ⟨h2, .inl ⟨by omega, Nat.le_refl _, by simp, ?_⟩⟩
    have h5 := cut_at hi h2
    rw [e] at h5
    rw [h4, h5, cutP_hit c _ _ h3]
    have h6 : ((l.drop F).take (i - F) ++ c :: l.drop (i + 1)).take (i - F) = (l.drop F).take (i - F) := by rw [← h5]
    rw [h6]
    simp
  · omega
theorem CutR.miss {c : UInt8} {l : List UInt8} {D : List (List UInt8)} {F i : Nat} (h : CutR c l D F i) (hi : i < l.length) (e : l[i] ≠ c) : F ≤ i ∧ CutR c l D F (i + 1) := by
  rcases h with ⟨_, h2, h3, h4⟩ | ⟨h1, _⟩
  · refine ⟨h2, .inl ⟨by omega, by omega, ?_, h4⟩⟩
    rw [show i + 1 - F = (i - F) + 1 by omega, List.take_add_one]
    have : (l.drop F)[i - F]? = some l[i] := by rw [List.getElem?_drop, show F + (i - F) = i by omega, List.getElem?_eq_getElem hi]
    rw [this]
    intro q
    rcases List.mem_append.1 q with q | q
    · exact h3 q
    · simp at q; exact e q.symm
  · omega
theorem CutR.fin {c : UInt8} {l : List UInt8} {D : List (List UInt8)} {F i : Nat} (h : CutR c l D F i) (hi : l.length < i) : D = cutP c l := by
  rcases h with ⟨h1, _⟩ | ⟨_, h2⟩
  · omega
  · exact h2

set_option maxRecDepth 20000 in
set_option maxHeartbeats 1600000 in
theorem c_l9Cut (s : ByteArray) (c : UInt8) (l : List UInt8) (hs : IsS s l) (w : World) (hsz : s.size ≤ 1048576) :
    Calls Tryz.prog 43 #[.string s, .int .u8 (c.toNat : Int)] w (FreshS w (cutS c l)) := by
  have HS : Hid (IsS s l) := hs
  have HZ : Hid (s.size = l.length) := hs.size
  have hs0 := OwnS_made w w.heap.size (Nat.le_refl _)
  clear hs
  go_enter Tryz.func43, Tryz.ntmps43
  go_wp2
  go_loopw [5, 6, 7] (fun o f i wr => ∃ (F k : Nat) (D : List (List UInt8)), k ≤ s.size + 1 ∧ F ≤ s.size + 1 ∧ i = .int .i64 k ∧ f = .int .i64 F ∧ Hid (D.length ≤ k) ∧ OwnS wr w.heap.size o (D.map bytS) ∧ Hid (CutR c l D F k) ∧ Below w.heap.size w wr) (fun _ _ i _ => s.size + 1 - (intOf i).toNat)
  case atStart => exact ⟨0, 0, [], by omega, by omega, rfl, rfl, Nat.zero_le _, hs0, CutR.start c l, (Below.refl _ _).alloc (Nat.le_refl _) _⟩
  case round =>
    obtain ⟨F, k, D, hk, hF, rfl, rfl, HD, ho, HC, hB⟩ := hrel
    by_cases hle : k ≤ s.size
    · have hBs := hB.size
      have hDl : (D.map bytS).length ≤ 1048577 := by rw [List.length_map]; have := HD.out; omega
      by_cases heq : k = s.size
      · have h5 := HC.out
        rw [heq, HZ.out] at h5
        obtain ⟨hFl, h6⟩ := h5.last
        have HT : Hid (bytS ((l.drop F).take (l.length - F)) = s.extract F s.size) := by
          show _ = _
          have h7 := HS.out.ext F s.size
          rw [HZ.out] at h7 ⊢
          exact IsS.inj (IsS.mk _) h7
        have h6' : CutR c l (D ++ [(l.drop F).take (l.length - F)]) (s.size + 1) (s.size + 1) := by rw [HZ.out]; exact h6
        have HC2 := Lib.hid h6'
        have i1 : (F : Int) ≤ (s.size : Int) := by have := HZ.out; omega
        have e1 : ((k : Int) == (s.size : Int)) = true := beq_iff_eq.2 (by omega)
        subst heq
        obtain ⟨L, hL⟩ : ∃ L, D.map bytS = L := ⟨_, rfl⟩
        have HM : Hid ((D ++ [(l.drop F).take (l.length - F)]).map bytS = L ++ [s.extract F s.size]) := by show _ = _; rw [List.map_append, List.map_cons, List.map_nil, HT.out, hL]
        unfold OwnS at ho
        rw [hL] at ho hDl
        clear hL
        clear h5 h6 h6' hFl hs0
        go_wp2_with (first | (at_builtin; refine app1 40 9 Tryz.underlying40 infoStr rfl (by decide) rfl _ _ rfl w.heap.size _ _ _ rfl ho rfl rfl ?c1 ?c2 ?_))
        case c1 => omega
        case c2 => exact hBs
        intro v' w3 ho3 hg3
        have HO : Hid (OwnS w3 w.heap.size v' ((D ++ [(l.drop F).take (l.length - F)]).map bytS) ∧ Below w.heap.size w w3) :=
          ⟨by rw [HM.out]; exact OwnS_snoc rfl ho3, hB.grown hg3 hBs (fun j hj => (ho.lt j hj).1)⟩
        clear ho ho3 hg3 hB
        go_wp2
        go_roundw
        case rel => exact ⟨s.size + 1, s.size + 1, _, by omega, by omega, by go_num, by go_num, by show _ ≤ _; have := HD.out; rw [List.length_append]; simp; exact this, HO.out.1, HC2, HO.out.2⟩
        case measure => simp [intOf] <;> omega
      · have hlt : k < s.size := by omega
        have hltl : k < l.length := by rw [← HZ.out]; exact hlt
        have hat : s[k] = l[k] := HS.out.at_ hlt hltl
        have e1 : ((k : Int) == (s.size : Int)) = false := beq_eq_false_iff_ne.2 (by omega)
        by_cases hc : l[k] = c
        · obtain ⟨hFk, h6⟩ := HC.out.hit hltl hc
          have HT : Hid (bytS ((l.drop F).take (k - F)) = s.extract F k) := IsS.inj (IsS.mk _) (HS.out.ext F k)
          have HC2 := Lib.hid h6
          have i1 : (F : Int) ≤ (k : Int) := by omega
          have i2 : (k : Int) ≤ (s.size : Int) := by omega
          have e2 : ((s[k].toNat : Int) == (c.toNat : Int)) = true := by rw [hat, hc]; simp
          obtain ⟨L, hL⟩ : ∃ L, D.map bytS = L := ⟨_, rfl⟩
          have HM : Hid ((D ++ [(l.drop F).take (k - F)]).map bytS = L ++ [s.extract F k]) := by show _ = _; rw [List.map_append, List.map_cons, List.map_nil, HT.out, hL]
          unfold OwnS at ho
          rw [hL] at ho hDl
          clear hL
          clear h6 hFk hs0 hat hc heq
          go_wp2_with (first | (at_builtin; refine app1 40 9 Tryz.underlying40 infoStr rfl (by decide) rfl _ _ rfl w.heap.size _ _ _ rfl ho rfl rfl ?c1 ?c2 ?_))
          case c1 => omega
          case c2 => exact hBs
          intro v' w3 ho3 hg3
          have HO : Hid (OwnS w3 w.heap.size v' ((D ++ [(l.drop F).take (k - F)]).map bytS) ∧ Below w.heap.size w w3) :=
            ⟨by rw [HM.out]; exact OwnS_snoc rfl ho3, hB.grown hg3 hBs (fun j hj => (ho.lt j hj).1)⟩
          clear ho ho3 hg3 hB
          go_wp2
          go_roundw
          case rel => exact ⟨k + 1, k + 1, _, by omega, by omega, by go_num, by go_num, by show _ ≤ _; have := HD.out; rw [List.length_append]; simp; exact this, HO.out.1, HC2, HO.out.2⟩
          case measure => simp [intOf] <;> omega
        · obtain ⟨hFk, h6⟩ := HC.out.miss hltl hc
          have HC2 := Lib.hid h6
          have e2 : ((s[k].toNat : Int) == (c.toNat : Int)) = false := by
            rw [beq_eq_false_iff_ne]
            intro e
            apply hc
            rw [← hat]
            apply UInt8.toNat_inj.1
            exact Int.ofNat.inj e
          have HO : Hid (OwnS wr w.heap.size u5 (D.map bytS) ∧ Below w.heap.size w wr) := ⟨ho, hB⟩
          clear h6 hFk hs0 hat hc heq ho hB
          go_wp2
          go_roundw
          case rel => exact ⟨F, k + 1, D, by omega, by omega, by go_num, rfl, by show _ ≤ _; have := HD.out; omega, HO.out.1, HC2, HO.out.2⟩
          case measure => simp [intOf] <;> omega
    · have HO : Hid (OwnS wr w.heap.size u5 (cutS c l) ∧ Below w.heap.size w wr) := by
        have h := HC.out.fin (by rw [← HZ.out]; omega)
        refine ⟨?_, hB⟩
        unfold cutS
        rw [← h]
        exact ho
      clear ho hB hs0
      go_wp2
      go_ret
      exact ⟨_, rfl, HO.out.1, HO.out.2⟩
end Go.Proofs.YtgjaajfpdajleaaGreatDoor

namespace Go.Proofs.YtgjaajfpdajleaaGreatDoor
set_option linter.unusedVariables false
open Go.RowKit

/-- append(s, u...): the elements of a row of the call's own, nil or not -/
theorem spr {P : Program} {ops : Array Oper} {rest : List Oper} {o : Oper} {a : Act} {Q : Exit → Act → World → Prop} {w : World} (t e : TypeId) {z : Value} {bytes : Nat}
    (ht : P.underlying t = some (.slice e)) (hi : (P.info? e).map (fun i => (i.zero, i.size, i.bytes)) = some (some z, 1, bytes)) (hz : z.cells.size = 1) (hby : bytes ≤ 64)
    (hgd : o.guard = none) (s x : Operand) (ho : o.op = .call { callee := .builtin .append, args := #[s, x], argTypes := #[t, t] })
    (base : Nat) (v : Value) (n : Nat) (xs : List Value) (hs : a.eval s = v) (hown : w.ownsRow base e 1 v n xs)
    (base2 : Nat) (u : Value) (m : Nat) (news : List Value) (hx : a.eval x = u) (hu : w.ownsRow base2 e 1 u m news) (h1 : ∀ y ∈ news, y.oneCell' = true) (hn : n + m ≤ 2199023255550) (hbase : base ≤ w.heap.size)
    (h : ∀ v' w', w'.ownsRow base e 1 v' (n + m) (xs ++ news) → w.grownBy w' v.ownBlock → InOld w v v' → wpList P ops Q rest (a.put o.dst v') w') : wpList P ops Q (o :: rest) a w := by
  obtain ⟨i0, hi0, hz0, hz1, hz2⟩ := info_parts hi
  have hu0 := hu
  rcases hu.2 with ⟨rfl, rfl⟩ | ⟨g, cap, cur, rfl, hg, hh, hr⟩
  · have hnil : news = [] := List.eq_nil_of_length_eq_zero (by have := hu.1; simpa using this)
    subst hnil
    exact wpList_append_own_none hgd s x t ho base e i0 1 ht hi0 v n xs hs hown hx (h v w (by simpa using hown) (World.grownBy.refl w _) (.inl rfl))
  · refine wpList_append_own_at (P := P) (w := w) hgd s x t ho base e i0 z 1 bytes ht hi0 hz0 hz1 hz2 hz (by decide) v n xs hs hown ⟨g, 0, none⟩ m cap news hx hu0.1 (hu0.cells (g := g) rfl) h1 ?_ ?_ hbase h
    · simp only [maxLen]; omega
    · have : (n + m) * bytes ≤ (n + m) * 64 := Nat.mul_le_mul_left _ hby
      omega
/-- rows of two kinds lie apart -/
theorem own_apart {w : World} {b1 b2 e1 e2 n1 n2 : Nat} {v1 v2 : Value} {x1 x2 : List Value} (h1 : w.ownsRow b1 e1 1 v1 n1 x1) (h2 : w.ownsRow b2 e2 1 v2 n2 x2) (hne : e1 ≠ e2) : v1.ownBlock = none ∨ v1.ownBlock ≠ v2.ownBlock := by
  rcases h1.2 with ⟨rfl, _⟩ | ⟨g, cap, cur, rfl, _, hh, _⟩
  · exact .inl rfl
  · rcases h2.2 with ⟨rfl, _⟩ | ⟨g2, cap2, cur2, rfl, _, hh2, _⟩
    · exact .inr (by simp [Value.ownBlock])
    · refine .inr (fun e => ?_)
      simp only [Value.ownBlock, Option.some.injEq] at e
      rw [e, hh2] at hh
      simp at hh
      exact hne hh.2.symm
theorem new_apart {w w' : World} {b1 b2 e1 e2 n1 n2 : Nat} {v1 v2 : Value} {x1 x2 : List Value} (h1 : w.ownsRow b1 e1 1 v1 n1 x1) (h2 : w'.ownsRow b2 e2 1 v2 n2 x2) (hb : w.heap.size ≤ b2) : v1.ownBlock = none ∨ v1.ownBlock ≠ v2.ownBlock := by
  cases hv : v1.ownBlock with
  | none => exact .inl rfl
  | some j =>
    refine .inr (fun e => ?_)
    have h3 := (h1.lt j hv).2
    have h4 := (h2.lt j e.symm).1
    omega
theorem cutP_len (c : UInt8) (l : List UInt8) : (cutP c l).length ≤ l.length + 1 := by
  induction l with
  | nil => simp [cutP]
  | cons b l ih =>
    unfold cutP
    split
    · simp; exact ih
    · split
      · simp
      · rename_i h t e
        rw [e] at ih
        simp at ih ⊢
        omega
theorem cutP_mem (c : UInt8) (l : List UInt8) : ∀ x ∈ cutP c l, x.length ≤ l.length := by
  induction l with
  | nil => simp [cutP]
  | cons b l ih =>
    unfold cutP
    split
    · intro x hx
      rcases List.mem_cons.1 hx with rfl | hx
      · simp
      · have := ih x hx; simp; omega
    · split
      · intro x hx
        rcases List.mem_cons.1 hx with rfl | hx
        · simp
        · cases hx
      · rename_i h t e
        rw [e] at ih
        intro x hx
        rcases List.mem_cons.1 hx with rfl | hx
        · have := ih h (by simp); simp; omega
        · have := ih x (by simp [hx]); simp; omega
theorem cutS_len (c : UInt8) (l : List UInt8) : (cutS c l).length ≤ l.length + 1 := by unfold cutS; rw [List.length_map]; exact cutP_len c l
theorem cutS_mem (c : UInt8) (l : List UInt8) : ∀ y ∈ cutS c l, y.size ≤ l.length := by
  intro y hy
  unfold cutS at hy
  obtain ⟨x, hx, rfl⟩ := List.mem_map.1 hy
  have := cutP_mem c l x hx
  have e : (bytS x).size = x.length := by simp [bytS, ByteArray.size]
  rw [e]; exact this
theorem made1S (w : World) (o o2 : Obj) : (((w.alloc o).alloc o2).alloc (.cells #[] 9)).ownsRow (w.heap.size + 1) 9 1 (.slice (some ⟨w.heap.size + 1 + 1, 0, none⟩) 0 0) 0 [] := by
  have := OwnS_made ((w.alloc o).alloc o2) (w.heap.size + 1) (by simp)
  simpa using this
/-- the rows of the loop -/
structure RtR (wr : World) (B : Nat) (v p q : Value) (vs : List Int) (pg K : List ByteArray) : Prop where
  own : OwnI wr B v vs
  page : OwnS wr B p pg
  lines : OwnS wr B q K
  apart : q.ownBlock = none ∨ q.ownBlock ≠ p.ownBlock
theorem RtR.kept {wr w' : World} {B : Nat} {v p q : Value} {vs : List Int} {pg K : List ByteArray} (h : RtR wr B v p q vs pg K) (hB : Below wr.heap.size wr w') : RtR w' B v p q vs pg K :=
  ⟨ownsRow_kept_below h.own hB, ownsRow_kept_below h.page hB, ownsRow_kept_below h.lines hB, h.apart⟩
theorem RtR.line {wr w' : World} {B : Nat} {v p p' q : Value} {vs : List Int} {pg K : List ByteArray} {y : ByteArray} {n : Nat} (h : RtR wr B v p q vs pg K) (hn : n = pg.length) (ho : w'.ownsRow B 9 1 p' (n + 1) (pg.map Value.string ++ [.string y])) (hg : wr.grownBy w' p.ownBlock) (hi : InOld wr p p') : RtR w' B v p' q vs (pg ++ [y]) K := by
  obtain ⟨h1, h2⟩ := apart_app h.lines h.apart hi hg
  exact ⟨h.own.kept hg (own_apart h.own h.page (by decide)), OwnS_snoc hn ho, h1, h2⟩
theorem OwnI_app {w : World} {base : Nat} {v : Value} {xs ys : List Int} (h : w.ownsRow base 3 1 v (xs.length + ys.length) (xs.map (Value.int .i64) ++ ys.map (Value.int .i64))) : OwnI w base v (xs ++ ys) := by
  unfold OwnI; simpa using h
theorem RtR.vals {wr w' : World} {B : Nat} {v v' p q : Value} {vs us : List Int} {pg K : List ByteArray} (h : RtR wr B v p q vs pg K) (ho : w'.ownsRow B 3 1 v' (vs.length + us.length) (vs.map (Value.int .i64) ++ us.map (Value.int .i64))) (hg : wr.grownBy w' v.ownBlock) (hBs : B ≤ w'.heap.size) :
    RtR (w'.alloc (.cells #[] 9)) B v' (.slice (some ⟨w'.heap.size, 0, none⟩) 0 0) q (vs ++ us) [] K := by
  have hl : OwnS w' B q K := h.lines.kept hg (own_apart h.lines h.own (by decide))
  refine ⟨(OwnI_app ho).alloc _, OwnS_made _ _ hBs, hl.alloc _, ?_⟩
  cases hv : q.ownBlock with
  | none => exact .inl rfl
  | some j =>
    refine .inr (fun e => ?_)
    have := (hl.lt j hv).2
    simp [Value.ownBlock] at e
    omega
theorem stP_cons (C a : Nat) (y : ByteArray) (l : List ByteArray) (v : List Int) (g : List ByteArray) : stP C a (y :: l) v g = if y.size = 0 then stP C a l (v ++ celV g C a) [] else stP C a l v (g ++ [y]) := rfl
theorem drop_get {K : List ByteArray} {k : Nat} (h : k < K.length) : K.drop k = K.getD k noS :: K.drop (k + 1) := by
  rw [List.drop_eq_getElem_cons h]; simp [List.getD, h]

set_option maxRecDepth 20000 in
set_option maxHeartbeats 3200000 in
theorem c_spec_ReadTable (r a c : Int) (s : ByteArray) (l : List UInt8) (hs : IsS s l) (w : World) (hsz : s.size ≤ 1099511627776) :
    Calls Tryz.prog 10 #[(.agg #[.int .i64 r, .int .i64 a, .int .i64 c]), .string s] w (FreshIB w (rdtV r a c l) (rdtB r a c l)) := by
  have hNo : ∀ h : rdtB r a c l = false, rdtV r a c l = [] := fun h => by unfold rdtV; rw [h]; rfl
  cases hl : layB r a c
  · have h0 := rt_no_lay (t := l) hl
    rw [hNo h0, h0]
    clear h0 hNo
    go_enter Tryz.func10, Tryz.ntmps10
    go_wp2_with fail
    refine (c_spec_LayoutValid _ _ _ _).mono ?_
    rw [hl]
    rintro e w1 ⟨rfl, hB1⟩
    have hF : FreshIB w [] false (.returned (.tuple #[.slice (some ⟨w.heap.size + 1, 0, none⟩) 0 0, .bool false])) w1 :=
      ⟨_, rfl, ownsRow_mono (ownsRow_kept_below ((made0I w (.cells #[(.int .i64 (r)), (.int .i64 (a)), (.int .i64 (c))] 27)).alloc (.cells #[] 9)) hB1) (by omega), bthen ((((Below.refl _ _).alloc (Nat.le_refl _) _).alloc (by simp) _).alloc (by simp; omega) _) hB1⟩
    clear hB1
    go_wp2
    go_ret2
    exact hF
  · by_cases hlen : 2000 < l.length
    · have h0 := rt_no_len (r := r) (a := a) (c := c) hlen
      rw [hNo h0, h0]
      clear h0 hNo
      have g1 : (2000 : Int) < (s.size : Int) := by have := hs.size; omega
      go_enter Tryz.func10, Tryz.ntmps10
      go_wp2_with fail
      refine (c_spec_LayoutValid _ _ _ _).mono ?_
      rw [hl]
      rintro e w1 ⟨rfl, hB1⟩
      have hF : FreshIB w [] false (.returned (.tuple #[.slice (some ⟨w.heap.size + 1, 0, none⟩) 0 0, .bool false])) w1 :=
        ⟨_, rfl, ownsRow_mono (ownsRow_kept_below ((made0I w (.cells #[(.int .i64 (r)), (.int .i64 (a)), (.int .i64 (c))] 27)).alloc (.cells #[] 9)) hB1) (by omega), bthen ((((Below.refl _ _).alloc (Nat.le_refl _) _).alloc (by simp) _).alloc (by simp; omega) _) hB1⟩
      clear hB1
      go_wp2
      go_ret2
      exact hF
    · obtain ⟨R, A, C, rfl, rfl, rfl⟩ := lay_nat hl
      obtain ⟨l1, l2, l3, l4, l5, l6, l7, l8⟩ := lay_mul hl
      have hA6 : A ≤ 6 := by omega
      have hK1 := cutS_len 10 l
      have hK2 := cutS_mem 10 l
      have hX : rdtX (A : Int) (C : Int) l = (stP C A (cutS 10 l) [] []).1 := by unfold rdtX; rw [Int.toNat_natCast, Int.toNat_natCast]
      obtain ⟨K, hK⟩ : ∃ K, cutS 10 l = K := ⟨_, rfl⟩
      rw [hK] at hK1 hK2 hX
      obtain ⟨X, hX0⟩ : ∃ X, rdtX (A : Int) (C : Int) l = X := ⟨_, rfl⟩
      rw [hX0] at hX
      obtain ⟨B, hb⟩ : ∃ B, rdtB (R : Int) (A : Int) (C : Int) l = B := ⟨_, rfl⟩
      obtain ⟨F, hf⟩ : ∃ F, rdtV (R : Int) (A : Int) (C : Int) l = F := ⟨_, rfl⟩
      have HE : Hid (B = (ptB (R : Int) (A : Int) (C : Int) X && decide (ptF (R : Int) (A : Int) (C : Int) X = l)) ∧ (if B = true then X else []) = F) := by
        refine ⟨?_, ?_⟩
        · rw [← hb, ← hX0]; rfl
        · rw [← hf, ← hb, ← hX0]; rfl
      have HX : Hid (X = (stP C A K [] []).1) := hX
      have HK2 : Hid (∀ y ∈ K, y.size ≤ 2000) := fun y hy => Nat.le_trans (hK2 y hy) (by omega)
      have HS : Hid (IsS s l) := hs
      have HZ : Hid (s.size = l.length) := hs.size
      have HCt : Hid (∀ W, Calls Tryz.prog 43 #[.string s, .int .u8 10] W (FreshS W K)) := by
        intro W
        have h := c_l9Cut s 10 l hs W (by rw [hs.size]; omega)
        rw [hK] at h
        exact h
      have HL : Hid (layB (R : Int) (A : Int) (C : Int) = true) := hl
      have HLen : Hid (K.length ≤ 2001) := by show _ ≤ _; omega
      obtain ⟨n, hn⟩ : ∃ n, K.length = n := ⟨_, rfl⟩
      have hn1 : n ≤ 2001 := by have := HLen.out; omega
      have HN : Hid (K.length = n) := hn
      have g1 : ¬ (2000 : Int) < (s.size : Int) := by have := hs.size; omega
      rw [hb, hf]
      clear hNo hK hK1 hK2 hX hX0 hb hf hs l7 l8 hn
      go_enter Tryz.func10, Tryz.ntmps10
      go_wp2_with fail
      refine (c_spec_LayoutValid _ _ _ _).mono ?_
      rw [hl]
      rintro e w1 ⟨rfl, hB1⟩
      have hwA : Below (w.heap.size + 1) (w.alloc (.cells #[(.int .i64 ((R : Int))), (.int .i64 ((A : Int))), (.int .i64 ((C : Int)))] 27)) w1 := by
        have h0 : Below (w.heap.size + 1) (w.alloc (.cells #[(.int .i64 ((R : Int))), (.int .i64 ((A : Int))), (.int .i64 ((C : Int)))] 27)) (((w.alloc (.cells #[(.int .i64 ((R : Int))), (.int .i64 ((A : Int))), (.int .i64 ((C : Int)))] 27)).alloc (.cells #[] 3)).alloc (.cells #[] 9)) :=
          ((Below.refl _ _).alloc (by simp) _).alloc (by simp) _
        exact h0.trans (hB1.mono (by simp))
      have ho1 := ownsRow_kept_below ((made0I w (.cells #[(.int .i64 ((R : Int))), (.int .i64 ((A : Int))), (.int .i64 ((C : Int)))] 27)).alloc (.cells #[] 9)) hB1
      have hp1 := ownsRow_kept_below (made1S w (.cells #[(.int .i64 ((R : Int))), (.int .i64 ((A : Int))), (.int .i64 ((C : Int)))] 27) (.cells #[] 3)) hB1
      have hs1 : w.heap.size + 1 ≤ w1.heap.size := by have := hwA.size; simpa using this
      clear hB1 hl
      go_wp2_with fail
      refine (HCt.out _).mono ?_
      rintro e w5 ⟨q, rfl, ho5, hB5⟩
      have hR5 : RtR w5 (w.heap.size + 1) (.slice (some ⟨w.heap.size + 1, 0, none⟩) 0 0) (.slice (some ⟨w.heap.size + 1 + 1, 0, none⟩) 0 0) q [] [] K :=
        ⟨ownsRow_kept_below ho1 hB5, ownsRow_kept_below hp1 hB5, ownsRow_mono ho5 hs1, apart_comm (new_apart hp1 ho5 (Nat.le_refl _))⟩
      have hw5 := hwA.trans (hB5.mono hs1)
      obtain ⟨b5, cap5, rfl, _⟩ := owns_RdS ho5
      simp only [List.length_map] at hR5 ⊢
      rw [HN.out] at hR5 ⊢
      clear ho1 hp1 ho5 hB5 hwA
      go_wp2
      go_loopw [6, 7, 9] (fun o p i wr => ∃ (k : Nat) (vs : List Int) (pg : List ByteArray), k ≤ n ∧ i = .int .i64 k ∧ Hid (vs.length + 6 * pg.length ≤ 6 * k) ∧ Hid (stP C A (K.drop k) vs pg = stP C A K [] []) ∧ Hid (∀ y ∈ pg, y.size ≤ 2000) ∧ RtR wr (w.heap.size + 1) o p (.slice b5 n cap5) vs pg K ∧ Below (w.heap.size + 1) (w.alloc (.cells #[(.int .i64 ((R : Int))), (.int .i64 ((A : Int))), (.int .i64 ((C : Int)))] 27)) wr) (fun _ _ i _ => n - (intOf i).toNat)
      case atStart => exact ⟨0, [], [], by omega, rfl, by show _ ≤ _; simp, rfl, (show ∀ y ∈ ([] : List ByteArray), y.size ≤ 2000 from fun y hy => by cases hy), hR5, hw5⟩
      case round =>
        obtain ⟨k, vs, pg, hk, rfl, HV, HT, HG, hR, hB⟩ := hrel
        have k0 : wr.cell? ⟨w.heap.size, 0, none⟩ = some (.int .i64 ((R : Int))) := by rw [hB.cell (p := ⟨w.heap.size, 0, none⟩) (Nat.lt_succ_self _)]; simp [go_sem]
        have k1 : wr.cell? ⟨w.heap.size, 1, none⟩ = some (.int .i64 ((A : Int))) := by rw [hB.cell (p := ⟨w.heap.size, 1, none⟩) (Nat.lt_succ_self _)]; simp [go_sem]
        have k2 : wr.cell? ⟨w.heap.size, 2, none⟩ = some (.int .i64 ((C : Int))) := by rw [hB.cell (p := ⟨w.heap.size, 2, none⟩) (Nat.lt_succ_self _)]; simp [go_sem]
        have hsz1 : w.heap.size + 1 ≤ wr.heap.size := by have := hB.size; simpa using this
        clear hR5 hw5
        by_cases hlt : k < n
        · have hkl : k < K.length := by rw [HN.out]; exact hlt
          obtain ⟨b1, o1, rfl, hb1, e1⟩ := RdS_cell (owns_RdS hR.lines) (Below.refl _ _) hkl
          have hmem : K.getD k noS ∈ K := by simp [List.getD, hkl]
          have hys := HK2.out _ hmem
          have hT := HT.out
          rw [drop_get hkl, stP_cons] at hT
          obtain ⟨y, hy⟩ : ∃ y, K.getD k noS = y := ⟨_, rfl⟩
          rw [hy] at e1 hys hT
          clear hmem hy
          by_cases hz : y.size = 0
          · rw [if_pos hz] at hT
            have HT2 := Lib.hid hT
            have hd : y.data = #[] := Array.eq_empty_of_size_eq_zero hz
            obtain rfl : y = ⟨#[]⟩ := ByteArray.ext hd
            have hpl : pg.length ≤ 2001 := by have := HV.out; omega
            have hvl : vs.length ≤ 12006 := by have := HV.out; omega
            obtain ⟨p, hp⟩ : ∃ p, u7 = p := ⟨_, rfl⟩
            have hc : ∀ W, Below wr.heap.size wr W → Calls Tryz.prog 44 #[(.agg #[.int .i64 (R : Int), .int .i64 (A : Int), .int .i64 (C : Int)]), u7] W (FreshI W (celV pg C A)) := fun W hW =>
              c_l6Cells R A C _ pg W (owns_RdS (hR.kept hW).page) (by omega) (fun y hy => Nat.le_trans (HG.out y hy) (by omega)) HL.out
            have hcl : (celV pg C A).length ≤ 6 * pg.length := Nat.le_trans (celV_len pg C A) (Nat.mul_le_mul_right _ hA6)
            obtain ⟨us, hus⟩ : ∃ us, celV pg C A = us := ⟨_, rfl⟩
            rw [hus] at hc hcl hT HT2
            have HV2 : Hid ((vs ++ us).length + 6 * ([] : List ByteArray).length ≤ 6 * (k + 1)) := by
              show _ ≤ _
              have := HV.out
              simp
              omega
            have hul : us.length ≤ 12006 := by omega
            clear hp hus hcl hT hys
            go_wp2_with fail
            refine (hc _ (Below.refl _ _)).mono ?_
            rintro e w6 ⟨u, rfl, ho6, hB6⟩
            have hR6 := hR.kept hB6
            have hoV := hR6.own
            unfold OwnI at hoV
            have hB' := hB.trans (hB6.mono hsz1)
            have hs6 : w.heap.size + 1 ≤ w6.heap.size := by have := hB6.size; omega
            clear hc k0 k1 k2 hB hB6 hR e1
            go_wp2_with (first | (at_builtin; refine spr 24 3 Tryz.underlying24 infoInt rfl (by decide) rfl _ _ rfl (w.heap.size + 1) _ _ _ rfl hoV wr.heap.size _ _ _ rfl ho6 ?c0 ?c1 ?c2 ?_))
            case c0 => intro x hx; obtain ⟨i, _, rfl⟩ := List.mem_map.1 hx; rfl
            case c1 => omega
            case c2 => exact hs6
            intro v' w7 ho7 hg7 _
            have hs7 : w.heap.size + 1 ≤ w7.heap.size := by have := hg7.size; omega
            have HO : Hid (_ ∧ Below (w.heap.size + 1) (w.alloc (.cells #[(.int .i64 ((R : Int))), (.int .i64 ((A : Int))), (.int .i64 ((C : Int)))] 27)) (w7.alloc (.cells #[] 9))) :=
              ⟨hR6.vals ho7 hg7 hs7, (hB'.grown hg7 hs6 (fun j hj => (hoV.lt j hj).1)).alloc hs7 _⟩
            clear hoV ho6 hB' hR6 ho7 hg7
            go_wp2
            go_roundw
            case rel => exact ⟨k + 1, vs ++ us, [], by omega, by go_num, HV2, HT2, (show ∀ y ∈ ([] : List ByteArray), y.size ≤ 2000 from fun y hy => by cases hy), HO.out.1, HO.out.2⟩
            case measure => simp [intOf]; omega
          · rw [if_neg hz] at hT
            have HT2 := Lib.hid hT
            have hne : y ≠ ⟨#[]⟩ := fun e => hz (by rw [e]; rfl)
            have hyl : y.toList ≠ [] := fun e => by rw [ByteArray.toList_eq] at e; have := size_data y; rw [e] at this; simp at this; omega
            have e2 : (y.toList == []) = false := beq_eq_false_iff_ne.2 hyl
            have e2' : y.toList.isEmpty = false := by simpa using hyl
            have hpl : pg.length ≤ 2001 := by have := HV.out; omega
            have HV2 : Hid (vs.length + 6 * (pg ++ [y]).length ≤ 6 * (k + 1)) := by
              show _ ≤ _
              have := HV.out
              simp
              omega
            have HG2 : Hid (∀ z ∈ pg ++ [y], z.size ≤ 2000) := by
              intro z hz'
              rcases List.mem_append.1 hz' with h | h
              · exact HG.out z h
              · rw [List.mem_singleton.1 h]; exact hys
            have hoP := hR.page
            unfold OwnS at hoP
            have hpl2 : (pg.map Value.string).length ≤ 2001 := by rw [List.length_map]; exact hpl
            clear hT hys hz
            go_wp2_with (first | (at_builtin; refine app1at 40 9 Tryz.underlying40 infoStr rfl (by decide) rfl _ _ rfl (w.heap.size + 1) _ _ _ rfl hoP rfl rfl ?c1 ?c2 ?_))
            case c1 => omega
            case c2 => exact hsz1
            intro v' w7 ho7 hg7 hi7
            have HO : Hid (RtR w7 (w.heap.size + 1) u6 v' (.slice (some ⟨b1, o1, none⟩) n cap5) vs (pg ++ [y]) K ∧ Below (w.heap.size + 1) (w.alloc (.cells #[(.int .i64 ((R : Int))), (.int .i64 ((A : Int))), (.int .i64 ((C : Int)))] 27)) w7) :=
              ⟨hR.line rfl ho7 hg7 hi7, hB.grown hg7 hsz1 (fun j hj => (hoP.lt j hj).1)⟩
            clear hoP hB hR ho7 hg7 hi7 e1 k0 k1 k2
            go_wp2
            go_roundw
            case rel => exact ⟨k + 1, vs, pg ++ [y], by omega, by go_num, HV2, HT2, HG2, HO.out.1, HO.out.2⟩
            case measure => simp [intOf]; omega
        · have hXv : X = vs := by
            rw [HX.out, ← HT.out, List.drop_eq_nil_of_le (by rw [HN.out]; omega)]
            rfl
          subst hXv
          have hvl : X.length ≤ 12006 := by have := HV.out; omega
          have hBA : Below w.heap.size w wr := ((Below.refl _ _).alloc (Nat.le_refl _) _).trans (hB.mono (by omega))
          have hoV := ownsRow_mono hR.own (show w.heap.size ≤ w.heap.size + 1 by omega)
          have hc := c_spec_PrintTable (R : Int) (A : Int) (C : Int) _ X wr (owns_RdI hR.own) (by omega)
          obtain ⟨Bp, hBp⟩ : ∃ Bp, ptB (R : Int) (A : Int) (C : Int) X = Bp := ⟨_, rfl⟩
          obtain ⟨Fp, hFp⟩ : ∃ Fp, ptF (R : Int) (A : Int) (C : Int) X = Fp := ⟨_, rfl⟩
          rw [hBp, hFp] at hc
          have HP : Hid (ptB (R : Int) (A : Int) (C : Int) X = Bp ∧ ptF (R : Int) (A : Int) (C : Int) X = Fp) := ⟨hBp, hFp⟩
          clear hBp hFp hR hB HV HG HT
          go_wp2_with fail
          refine hc.mono ?_
          rintro e w6 ⟨Y, rfl, hY, hB6⟩
          have hO : OwnI w6 w.heap.size u6 X ∧ Below w.heap.size w w6 := ⟨ownsRow_kept_below hoV hB6, bthen hBA hB6⟩
          clear hc hoV hBA hB6 k0 k1 k2
          cases Bp
          · have HB : Hid (B = false ∧ F = []) := by
              have h1 : B = false := by rw [HE.out.1, HP.out.1]; rfl
              exact ⟨h1, by rw [← HE.out.2, h1]; rfl⟩
            have HF := Lib.hid hO.2
            clear hO
            go_wp2
            go_ret2
            exact ⟨_, by rw [HB.out.1]; rfl, by rw [HB.out.2]; exact OwnI_made _ _ HF.out.size, HF.out.alloc HF.out.size _⟩
          · by_cases hYs : Y = s
            · have HB : Hid (B = true ∧ F = X) := by
                have h1 : B = true := by
                  rw [HE.out.1, HP.out.1, HP.out.2]
                  rw [hYs] at hY
                  have h2 : Fp = l := hY.symm.trans HS.out
                  rw [decide_eq_true h2]; rfl
                exact ⟨h1, by rw [← HE.out.2, if_pos h1]⟩
              have HO := Lib.hid hO
              subst hYs
              clear hO hY
              go_wp2
              go_ret2
              exact ⟨_, by rw [HB.out.1]; rfl, by rw [HB.out.2]; exact HO.out.1, HO.out.2⟩
            · have HB : Hid (B = false ∧ F = []) := by
                have h1 : B = false := by
                  rw [HE.out.1, HP.out.1, HP.out.2, decide_eq_false (fun h2 => hYs (IsS.inj hY (show IsS s Fp by rw [h2]; exact HS.out)))]; rfl
                exact ⟨h1, by rw [← HE.out.2, h1]; rfl⟩
              have HF := Lib.hid hO.2
              have e3 := str_bne hYs
              clear hO hY
              go_wp2
              go_ret2
              exact ⟨_, by rw [HB.out.1]; rfl, by rw [HB.out.2]; exact OwnI_made _ _ HF.out.size, HF.out.alloc HF.out.size _⟩
end Go.Proofs.YtgjaajfpdajleaaGreatDoor
