/- Lemmas and contracts for PrintRead (Bld2 Pt2): plain words on memory, contracts of the functions that the law reaches. No condition but what each states. -/
import Derived.Test.YtgjaajfpdajleaaGreatDoorMPrintReadGrp
import Derived.Lib.OthersKept
import Derived.Test.YtgjaajfpdajleaaGreatDoorMPrintReadPt1
import Derived.Test.YtgjaajfpdajleaaGreatDoorMPrintReadPg5
namespace Go.Proofs.YtgjaajfpdajleaaGreatDoor
set_option linter.unusedVariables false
open Go.RowKit

theorem own_kind {w : World} {base e : Nat} {v : Value} {n : Nat} {xs : List Value} (h : w.ownsRow base e 1 v n xs) : ∀ g, v.ownBlock = some g → ∃ c fz, w.heap[g]? = some (.cells c e fz) := by
  intro g hg
  obtain ⟨_, h2⟩ := h
  rcases h2 with ⟨rfl, _⟩ | ⟨g', cap, cur, rfl, _, hh, _⟩
  · cases hg
  · simp only [Value.ownBlock, Option.some.injEq] at hg
    subst hg
    exact ⟨_, _, hh⟩
/-- what every writing method calls first -/
theorem c_copyCheckK (B b : Nat) (bs : List Value) (w : World) (h : Lib.IsBuilder 78 5 B b bs w) :
    Calls Tryz.prog 91 #[.pointer (some ⟨b, 0, none⟩)] w fun e w' => e = .returned (.tuple #[]) ∧ (Lib.BuilderAt 78 5 B b (.pointer (some ⟨b, 0, none⟩)) bs w' ∧ Below B w w' ∧ Lib.OthersKept 5 (some b) w w') := by
  rcases h with h | h
  · refine (cc_fresh b w h.cell0 h.shape h.frozen0).mono ?_
    rintro e w' ⟨rfl, rfl⟩
    exact ⟨rfl, h.used _, (Below.refl B w).setCell (p := ⟨b, 0, none⟩) h.1 _, (Lib.OthersKept.refl _ _ _).setCell ⟨b, 0, none⟩ rfl _⟩
  · refine (cc_used b w h.cell0).mono ?_
    rintro e w' ⟨rfl, rfl⟩
    exact ⟨rfl, h, Below.refl B _, Lib.OthersKept.refl _ _ _⟩

set_option maxHeartbeats 2000000 in
set_option maxRecDepth 100000 in
theorem c_WriteByteK (B b : Nat) (bs : List Value) (c : Int) (w : World) (h : Lib.IsBuilder 78 5 B b bs w) (hlen : bs.length + 1 ≤ 140737488355328) (hBw : B ≤ w.heap.size) :
    Calls Tryz.prog 54 #[.pointer (some ⟨b, 0, none⟩), .int .u8 c] w fun e w' => e = .returned .nilIface ∧ (Lib.BuilderAt 78 5 B b (.pointer (some ⟨b, 0, none⟩)) (bs ++ [.int .u8 c]) w' ∧ Below B w w' ∧ Lib.OthersKept 5 (some b) w w') := by
  obtain ⟨i0, hi, hz0, hz1, hz2⟩ := info_parts bbyte
  go_enter Tryz.func54, Tryz.ntmps54
  go_wp2_with (go_at_call 91; refine (c_copyCheckK B b bs _ h).mono ?_)
  rintro e w1 ⟨rfl, h1, hb1, hk1⟩
  obtain ⟨hB, v, hbk, hown, hne⟩ := h1
  have c0 : w1.cell? ⟨b, 0, none⟩ = some (.pointer (some ⟨b, 0, none⟩)) := by rw [Lib.cell_of_heap hbk]; rfl
  have c1 : w1.cell? ⟨b, 1, none⟩ = some v := by rw [Lib.cell_of_heap hbk]; rfl
  go_wp2_with (at_builtin; refine wpList_append_own _ rfl _ _ 32 rfl B 5 i0 (.int .u8 0) 1 1 Tryz.underlying32 hi hz0 hz1 hz2 rfl (by decide) _ _ _ rfl (hown.alloc _) ⟨w1.heap.size, 0, none⟩ 1 1 [.int .u8 c] rfl rfl ?c1 ?c2 ?c3 ?c4 ?c5 ?_)
  case c1 =>
    intro j u hj
    match j, hj with
    | 0, hj => simp at hj; subst hj; simp [Addr.add]
  case c2 => intro u hu; simp at hu; subst hu; rfl
  case c3 => unfold maxLen; omega
  case c4 => omega
  case c5 => have := hb1.size; simp; omega
  intro v' w2 hown' hgrow _
  have hlt : b < w1.heap.size := by
    rcases Nat.lt_or_ge b w1.heap.size with h' | h'
    · exact h'
    · simp [Array.getElem?_eq_none h'] at hbk
  have hb2 : w2.heap[b]? = some (.cells #[.pointer (some ⟨b, 0, none⟩), v] 78 (0, 0)) := by
    rw [hgrow.block b (by simp; omega) (fun e => hne e.symm), Lib.alloc_old w1 _ b hlt]
    exact hbk
  have d0 : w2.cell? ⟨b, 0, none⟩ = some (.pointer (some ⟨b, 0, none⟩)) := by rw [Lib.cell_of_heap hb2]; rfl
  have d1 : w2.cell? ⟨b, 1, none⟩ = some v := by rw [Lib.cell_of_heap hb2]; rfl
  have f1 : w2.frozen? ⟨b, 1, none⟩ = false := Lib.frozen_of_heap hb2 1
  obtain ⟨g, cap, rfl⟩ : ∃ g cap, v' = .slice (some ⟨g, 0, none⟩) (bs.length + 1) cap := by
    rcases hown'.2 with ⟨_, h0⟩ | ⟨g, cap, cur, hv, _⟩
    · omega
    · exact ⟨g, cap, hv⟩
  go_wp2
  go_ret
  refine ⟨rfl, ?_, ?_, ?_⟩
  · exact Lib.BuilderAt.put (T := 78) (e := 5) hB hb2 (bs' := bs ++ [.int .u8 c]) (by simpa using hown') bne
  · exact ((hb1.alloc (by have := hb1.size; omega) _).grown hgrow (by have := hb1.size; simp; omega) (fun k hk => (hown.lt k hk).1)).setCell (p := ⟨b, 1, none⟩) hB _
  · exact ((hk1.alloc _).grown hgrow (own_kind (hown.alloc _))).setCell ⟨b, 1, none⟩ rfl _
set_option maxHeartbeats 2000000 in
set_option maxRecDepth 100000 in
theorem c_WriteStringK (B b : Nat) (bs : List Value) (s : ByteArray) (w : World) (h : Lib.IsBuilder 78 5 B b bs w) (hlen : bs.length + s.size ≤ 140737488355328) (hBw : B ≤ w.heap.size) :
    Calls Tryz.prog 55 #[.pointer (some ⟨b, 0, none⟩), .string s] w fun e w' => e = .returned (.tuple #[.int .i64 s.size, .nilIface]) ∧ (Lib.BuilderAt 78 5 B b (.pointer (some ⟨b, 0, none⟩)) (bs ++ Lib.strCells s) w' ∧ Below B w w' ∧ Lib.OthersKept 5 (some b) w w') := by
  obtain ⟨i0, hi, hz0, hz1, hz2⟩ := info_parts bbyte
  go_enter Tryz.func55, Tryz.ntmps55
  go_wp2_with (go_at_call 91; refine (c_copyCheckK B b bs _ h).mono ?_)
  rintro e w1 ⟨rfl, h1, hb1, hk1⟩
  obtain ⟨hB, v, hbk, hown, hne⟩ := h1
  have c0 : w1.cell? ⟨b, 0, none⟩ = some (.pointer (some ⟨b, 0, none⟩)) := by rw [Lib.cell_of_heap hbk]; rfl
  have c1 : w1.cell? ⟨b, 1, none⟩ = some v := by rw [Lib.cell_of_heap hbk]; rfl
  go_wp2_with (at_builtin; refine Lib.wpList_append_own_string _ rfl _ _ 32 9 rfl B 5 i0 Tryz.underlying32 Tryz.underlying9 hi hz0 hz1 hz2 _ _ _ rfl hown s rfl ?c3 ?c4 ?c5 ?_)
  case c3 => unfold maxLen; omega
  case c4 => omega
  case c5 => have := hb1.size; omega
  intro v' w2 hown' hgrow _
  have hlt : b < w1.heap.size := by
    rcases Nat.lt_or_ge b w1.heap.size with h' | h'
    · exact h'
    · simp [Array.getElem?_eq_none h'] at hbk
  have hb2 : w2.heap[b]? = some (.cells #[.pointer (some ⟨b, 0, none⟩), v] 78 (0, 0)) := by
    rw [hgrow.block b hlt (fun e => hne e.symm)]
    exact hbk
  have d0 : w2.cell? ⟨b, 0, none⟩ = some (.pointer (some ⟨b, 0, none⟩)) := by rw [Lib.cell_of_heap hb2]; rfl
  have d1 : w2.cell? ⟨b, 1, none⟩ = some v := by rw [Lib.cell_of_heap hb2]; rfl
  have f1 : w2.frozen? ⟨b, 1, none⟩ = false := Lib.frozen_of_heap hb2 1
  obtain ⟨ao, n', cap, rfl⟩ : ∃ ao n' cap, v' = .slice ao n' cap := by
    rcases hown'.2 with ⟨hv, _⟩ | ⟨g, cap, cur, hv, _⟩
    · exact ⟨_, _, _, hv⟩
    · exact ⟨_, _, _, hv⟩
  go_wp2
  go_ret2
  refine ⟨rfl, ?_, ?_, ?_⟩
  · exact Lib.BuilderAt.put (T := 78) (e := 5) hB hb2 (bs' := bs ++ Lib.strCells s) (by simpa [Lib.strCells_length] using hown') bne
  · exact (hb1.grown hgrow (by have := hb1.size; omega) (fun k hk => (hown.lt k hk).1)).setCell (p := ⟨b, 1, none⟩) hB _
  · exact (hk1.grown hgrow (own_kind hown)).setCell ⟨b, 1, none⟩ rfl _

/-- a row of another kind stays where a builder is written -/
theorem own_others {w w' : World} {base e T : Nat} {v : Value} {n : Nat} {xs : List Value} {b : Nat} (h : w.ownsRow base T 1 v n xs) (hk : Lib.OthersKept e (some b) w w') (hT : T ≠ e) (hb : v.ownBlock ≠ some b) : w'.ownsRow base T 1 v n xs := by
  obtain ⟨h1, h2⟩ := h
  refine ⟨h1, ?_⟩
  rcases h2 with h2 | ⟨g, cap, cur, hv, hg, hh, r⟩
  · exact .inl h2
  · refine .inr ⟨g, cap, cur, hv, hg, ?_, r⟩
    refine hk g _ hh ?_ ?_
    · intro e1; apply hb; rw [hv]; exact e1
    · intro c fz e1
      simp only [Obj.cells.injEq] at e1
      exact hT e1.2.1
theorem BAt.kept {T e : TypeId} {B b : Nat} {p : Value} {bs : List Value} {w w' : World} (h : Lib.BuilderAt T e B b p bs w) (hb : Below w.heap.size w w') : Lib.BuilderAt T e B b p bs w' := by
  have hlt := h.lt
  obtain ⟨h1, v, h2, h3, h4⟩ := h
  exact ⟨h1, v, by rw [hb.block b hlt]; exact h2, ownsRow_kept_below h3 hb, h4⟩
theorem Bl.kept {B b : Nat} {l : List UInt8} {w w' : World} (h : Bl B b l w) (hb : Below w.heap.size w w') : Bl B b l w' := by
  unfold Bl at h ⊢
  rcases h with h | h
  · exact .inl (BAt.kept h hb)
  · exact .inr (BAt.kept h hb)
theorem Bl.lt {B b : Nat} {l : List UInt8} {w : World} (h : Bl B b l w) : b < w.heap.size := by
  rcases h with h | h
  · exact h.lt
  · exact h.lt
theorem Bl.strK {B b : Nat} {l : List UInt8} {w : World} (h : Bl B b l w) (s : ByteArray) (hl : l.length + s.size ≤ 1099511627776) (hB : B ≤ w.heap.size) :
    Calls Tryz.prog 55 #[.pointer (some ⟨b, 0, none⟩), .string s] w fun e w' => e = .returned (.tuple #[.int .i64 s.size, .nilIface]) ∧ Bl B b (l ++ s.data.toList) w' ∧ Below B w w' ∧ Lib.OthersKept 5 (some b) w w' := by
  refine (c_WriteStringK B b (Lib.byteCells l) s w h (by rw [Lib.byteCells_length]; omega) hB).mono ?_
  rintro e w' ⟨h1, h2, h3⟩
  exact ⟨h1, .inr (by rw [Lib.byteCells_append]; exact h2), h3⟩
theorem Bl.byteK {B b : Nat} {l : List UInt8} {w : World} (h : Bl B b l w) (c : UInt8) (hl : l.length ≤ 1099511627776) (hB : B ≤ w.heap.size) :
    Calls Tryz.prog 54 #[.pointer (some ⟨b, 0, none⟩), .int .u8 (c.toNat : Int)] w fun e w' => e = .returned .nilIface ∧ Bl B b (l ++ [c]) w' ∧ Below B w w' ∧ Lib.OthersKept 5 (some b) w w' := by
  refine (c_WriteByteK B b (Lib.byteCells l) (c.toNat : Int) w h (by rw [Lib.byteCells_length]; omega) hB).mono ?_
  rintro e w' ⟨h1, h2, h3⟩
  exact ⟨h1, .inr (by rw [← byteCells_snoc]; exact h2), h3⟩
end Go.Proofs.YtgjaajfpdajleaaGreatDoor

namespace Go.Proofs.YtgjaajfpdajleaaGreatDoor
set_option linter.unusedVariables false
open Go.RowKit

set_option maxRecDepth 20000 in
set_option maxHeartbeats 3200000 in
theorem c_impl_PrintTable (r a c : Int) (b : Option Addr) (cap : Nat) (xs : List Int) (w : World) (htab : TabW w) (ha : RdI w (.slice b xs.length cap) xs) (hx : xs.length ≤ 1099511627776) (hcap : xs.length ≤ cap) (hcap2 : cap ≤ 9223372036854775807) :
    Calls Tryz.prog 18 #[(.agg #[.int .i64 r, .int .i64 a, .int .i64 c]), .slice b xs.length cap] w (StrBB (ptF r a c xs) (ptB r a c xs) w) := by
  by_cases hv : ptV r a c xs = true
  · have hlt : layB r a c = true ∧ tabB xs = true := by have h := hv; unfold ptV at h; rwa [Bool.and_eq_true] at h
    obtain ⟨hl, ht⟩ := hlt
    obtain ⟨t1, t2, t3⟩ := tabB_iff ht
    obtain ⟨hpn, hn60⟩ := ptN_bd hv
    have HC : Hid (∀ (q : Nat) (W : World), q < ptN r a c xs → Below w.heap.size w W → Calls Tryz.prog 20 #[(.agg #[.int .i64 r, .int .i64 a, .int .i64 c]), .slice b xs.length cap, (.int .i64 ((q : Int)))] W (FreshSB W (plinS r a c xs (q : Int)) (plinB r a c xs (q : Int)))) :=
      fun q W hq hB => c_impl_PageLines r a c b cap xs q W (htab.below hB) (ha.kept hB) hx hcap hcap2
    obtain ⟨n, hn⟩ : ∃ n, ptN r a c xs = n := ⟨_, rfl⟩
    obtain ⟨B, hb⟩ : ∃ B, ptB r a c xs = B := ⟨_, rfl⟩
    obtain ⟨F, hf⟩ : ∃ F, ptF r a c xs = F := ⟨_, rfl⟩
    have HE : Hid (ptOk r a c xs n = B ∧ (if B = true then ptT r a c xs n else []) = F) := by
      refine ⟨?_, ?_⟩
      · rw [← hb, ← hn]; unfold ptB; rw [hv]; rfl
      · rw [← hf, ← hb, ← hn]; rfl
    rw [hn] at HC hpn hn60
    rw [hb, hf]
    have HP : Hid (pnF r a c xs.length = (n : Int)) := hpn
    clear hv t3 hpn hn hb hf htab
    go_enter Tryz.func18, Tryz.ntmps18
    go_wp2_with fail
    refine (c_impl_LayoutValid _ _ _ _).mono ?_
    rw [hl]
    rintro e w1 ⟨rfl, hB1⟩
    have hA1 : Below w.heap.size w w1 := balloc hB1
    have hz1 : w.heap.size < w1.heap.size := by have := hB1.size; simp at this; omega
    have k0 : w1.cell? ⟨w.heap.size, 0, none⟩ = some (.int .i64 (r)) := by rw [(bcell hB1).1 _ _ (by simp)]; simp [go_sem]
    have k1 : w1.cell? ⟨w.heap.size, 1, none⟩ = some (.int .i64 (a)) := by rw [(bcell hB1).1 _ _ (by simp)]; simp [go_sem]
    have k2 : w1.cell? ⟨w.heap.size, 2, none⟩ = some (.int .i64 (c)) := by rw [(bcell hB1).1 _ _ (by simp)]; simp [go_sem]
    clear hB1
    go_wp2_with fail
    refine (c_impl_TableValid _ xs _ (ha.kept hA1) hx).mono ?_
    rw [ht]
    rintro e w2 ⟨rfl, hB2⟩
    have hz2 : w.heap.size < w2.heap.size := by have := hB2.size; omega
    have kc := (bcell hB2).1
    replace k0 : w2.cell? ⟨w.heap.size, 0, none⟩ = some (.int .i64 (r)) := by rw [kc _ _ hz1]; exact k0
    replace k1 : w2.cell? ⟨w.heap.size, 1, none⟩ = some (.int .i64 (a)) := by rw [kc _ _ hz1]; exact k1
    replace k2 : w2.cell? ⟨w.heap.size, 2, none⟩ = some (.int .i64 (c)) := by rw [kc _ _ hz1]; exact k2
    have hA2 := bthen hA1 hB2
    have hfr := Bl.fresh w2
    have hBf : Below w2.heap.size w2 (w2.alloc (.cells #[.pointer none, .slice none 0 0] 78)) := (Below.refl _ _).alloc (Nat.le_refl _) _
    clear kc hB2 hA1
    have kc := (bcell hBf).1
    have k0' : (w2.alloc (.cells #[.pointer none, .slice none 0 0] 78)).cell? ⟨w.heap.size, 0, none⟩ = some (.int .i64 (r)) := by rw [kc _ _ hz2]; exact k0
    have k1' : (w2.alloc (.cells #[.pointer none, .slice none 0 0] 78)).cell? ⟨w.heap.size, 1, none⟩ = some (.int .i64 (a)) := by rw [kc _ _ hz2]; exact k1
    have k2' : (w2.alloc (.cells #[.pointer none, .slice none 0 0] 78)).cell? ⟨w.heap.size, 2, none⟩ = some (.int .i64 (c)) := by rw [kc _ _ hz2]; exact k2
    clear kc
    go_wp2_with fail
    refine (c_impl_PagesNeeded _ _ _ _ _).mono ?_
    rw [HP.out]
    rintro e w3 ⟨rfl, hB3⟩
    have hfr3 := hfr.kept hB3
    have hB23 := bthen hBf hB3
    clear k0' k1' k2' hfr hBf hB3
    go_wp2
    go_loopw [24] (fun i wr => ∃ q : Nat, q ≤ n ∧ i = .int .i64 q ∧ Bl w2.heap.size w2.heap.size (ptT r a c xs q) wr ∧ ptOk r a c xs q = true ∧ Below w2.heap.size w2 wr) (fun i _ => n - (intOf i).toNat)
    case atStart => exact ⟨0, by omega, rfl, hfr3, rfl, hB23⟩
    case round =>
      obtain ⟨q, hq, rfl, hbl, hOk, hB⟩ := hrel
      have HO : Hid (ptOk r a c xs q = true) := hOk
      have kc := (bcell hB).1
      have c0 : wr.cell? ⟨w.heap.size, 0, none⟩ = some (.int .i64 (r)) := by rw [kc _ _ hz2]; exact k0
      have c1 : wr.cell? ⟨w.heap.size, 1, none⟩ = some (.int .i64 (a)) := by rw [kc _ _ hz2]; exact k1
      have c2 : wr.cell? ⟨w.heap.size, 2, none⟩ = some (.int .i64 (c)) := by rw [kc _ _ hz2]; exact k2
      have hAr := bthen hA2 hB
      clear hOk kc k0 k1 k2 hfr3 hB23
      by_cases hlt : q < n
      · have hc := HC.out q wr hlt hAr
        obtain ⟨hs1, hs2⟩ := plinS_small r a c xs (q : Int)
        have hTl := ptT_len r a c xs q
        have HT : Hid (ptT r a c xs (q + 1) = (ptT r a c xs q ++ (if 0 < q then [10] else [])) ++ linT (plinS r a c xs (q : Int))) := by show _ = _; rw [ptT_succ, List.append_assoc]
        have hq60 : q ≤ 60 := by omega
        cases hpb : plinB r a c xs (q : Int)
        · rw [hpb] at hc
          have HB : Hid (B = false ∧ F = []) := by
            have h1 : B = false := by rw [← HE.out.1]; exact ptOk_false hpb hlt
            exact ⟨h1, by rw [← HE.out.2, h1]; rfl⟩
          clear hpb hs2 hs1 hTl
          go_wp2_with fail
          refine hc.mono ?_
          rintro e w4 ⟨u, rfl, ho, hB4⟩
          have hF := bthen hAr hB4
          clear ho hc hB4 hbl hB
          go_wp2
          go_ret2
          exact ⟨⟨#[]⟩, by rw [HB.out.1]; rfl, by rw [HB.out.2]; rfl, hF⟩
        · rw [hpb] at hc
          have HK : Hid (ptOk r a c xs (q + 1) = true) := by show _ = _; rw [ptOk_succ, HO.out, hpb]; rfl
          generalize plinS r a c xs (q : Int) = L at hc hs1 hs2 HT
          clear hpb
          go_wp2_with fail
          refine hc.mono ?_
          rintro e w4 ⟨u, rfl, ho, hB4⟩
          have hr := owns_RdS ho
          have hr0 := hr
          obtain ⟨b1, cap1, rfl, hr1⟩ := hr0
          have hltB := hbl.lt
          replace hbl := hbl.kept hB4
          replace hB := bthen hB hB4
          have HS : Hid (∀ y ∈ L, y.size ≤ 78) := hs2
          have hne : (Value.slice b1 (List.map Value.string L).length cap1).ownBlock ≠ some w2.heap.size := by
            intro e
            have := (ho.lt _ e).1
            omega
          simp only [List.length_map] at hr ho hne ⊢
          have HNE : Hid ((Value.slice b1 L.length cap1).ownBlock ≠ some w2.heap.size ∧ (9 : Nat) ≠ 5) := ⟨hne, by decide⟩
          have hBs : w2.heap.size ≤ w4.heap.size := hB.size
          obtain ⟨T1, hT1⟩ : ∃ T1, ptT r a c xs q ++ (if 0 < q then [10] else []) = T1 := ⟨_, rfl⟩
          have HT1 : Hid (ptT r a c xs q ++ (if 0 < q then [10] else []) = T1) := hT1
          have hT1l : T1.length ≤ 60 * 1581 + 1 := by
            rw [← hT1, List.length_append]
            have h5 : (if 0 < q then [(10 : UInt8)] else []).length ≤ 1 := by split <;> simp
            omega
          obtain ⟨Wb, hWb⟩ : ∃ Wb, wr.heap.size = Wb := ⟨_, rfl⟩
          have HW : Hid (wr.heap.size = Wb) := hWb
          rw [hWb] at ho
          clear hT1 hWb hc hB4 hr1 hs2 c0 c1 c2 hAr hne hr hltB
          have hd : ((0 : Int) < (q : Int) ∧ 0 < q) ∨ (¬ (0 : Int) < (q : Int) ∧ ¬ 0 < q) := by omega
          rcases hd with ⟨g1, g2⟩ | ⟨g1, g2⟩
          · have hbT : Hid (ptT r a c xs q ++ [10] = T1) := by have h := HT1.out; rwa [if_pos g2] at h
            clear g2
            go_wp2_with fail
            refine (hbl.byteK 10 (by omega) hBs).mono ?_
            rintro e w5 ⟨rfl, hbl5, hB5, hk5⟩
            rw [hbT.out] at hbl5
            replace ho := own_others ho hk5 HNE.out.2 HNE.out.1
            replace hB := hB.trans hB5
            clear hbl hB5 hk5 hBs
            go_wp2
            go_loopw [41] (fun i wi => ∃ j : Nat, j ≤ L.length ∧ i = .int .i64 j ∧ wi.ownsRow Wb 9 1 (.slice b1 L.length cap1) L.length (L.map Value.string) ∧ Bl w2.heap.size w2.heap.size (T1 ++ linT (L.take j)) wi ∧ Below w2.heap.size w2 wi) (fun i _ => L.length - (intOf i).toNat)
            case atStart => exact ⟨0, by omega, rfl, ho, by simpa [linT_nil] using hbl5, hB⟩
            case round =>
              obtain ⟨j, hj, rfl, hoi, hbli, hBi⟩ := hrel
              clear ho hbl5 hB
              have hBis : w2.heap.size ≤ wr.heap.size := hBi.size
              by_cases hjl : j < L.length
              · obtain ⟨b2, o2, rfl, hb2, e1⟩ := RdS_cell (owns_RdS hoi) (Below.refl _ _) hjl
                obtain ⟨y, hy⟩ : ∃ y, L.getD j noS = y := ⟨_, rfl⟩
                have hys : y.size ≤ 78 := by rw [← hy]; exact HS.out _ (by simp [List.getD, hjl])
                have HL : Hid (linT (L.take (j + 1)) = linT (L.take j) ++ (y.data.toList ++ [10])) := by show _ = _; rw [linT_take L j hjl, hy]
                have hll : (linT (L.take j)).length ≤ 20 * 79 := by
                  have h1 := linT_len (L := L.take j) (m := 78) (fun z hz => HS.out z (List.mem_of_mem_take hz))
                  have h2 : (L.take j).length * (78 + 1) ≤ 20 * 79 := Nat.mul_le_mul (by rw [List.length_take]; omega) (Nat.le_refl _)
                  omega
                rw [hy] at e1
                clear hy
                go_wp2_with fail
                refine (hbli.strK y (by rw [List.length_append]; omega) hBis).mono ?_
                rintro e w6 ⟨rfl, hbl6, hB6, hk6⟩
                replace hoi := own_others hoi hk6 HNE.out.2 HNE.out.1
                replace hBi := hBi.trans hB6
                have hB6s : w2.heap.size ≤ w6.heap.size := hBi.size
                clear hbli hB6 hk6 e1
                go_wp2_with fail
                refine (hbl6.byteK 10 (by rw [List.length_append, List.length_append, size_data]; omega) hB6s).mono ?_
                rintro e w7 ⟨rfl, hbl7, hB7, hk7⟩
                have HF : Hid (w7.ownsRow Wb 9 1 (.slice (some ⟨b2, o2, none⟩) L.length cap1) L.length (L.map Value.string) ∧ Bl w2.heap.size w2.heap.size (T1 ++ linT (L.take (j + 1))) w7 ∧ Below w2.heap.size w2 w7) := by
                  refine ⟨own_others hoi hk7 HNE.out.2 HNE.out.1, ?_, hBi.trans hB7⟩
                  rw [HL.out, ← List.append_assoc, ← List.append_assoc]
                  exact hbl7
                clear hoi hbl6 hBi hbl7 hB7 hk7
                go_wp2
                go_roundw
                case rel => exact ⟨j + 1, by omega, by go_num, HF.out.1, HF.out.2.1, HF.out.2.2⟩
                case measure => simp [intOf]; omega
              · have HF : Hid (Bl w2.heap.size w2.heap.size (ptT r a c xs (q + 1)) wr ∧ Below w2.heap.size w2 wr) := by
                  have h := hbli
                  rw [List.take_of_length_le (by omega)] at h
                  exact ⟨by rw [HT.out, HT1.out]; exact h, hBi⟩
                clear hbli hBi hoi
                go_wp2
                go_roundw
                case rel => exact ⟨q + 1, by omega, by go_num, HF.out.1, HK.out, HF.out.2⟩
                case measure => simp [intOf]; omega
          · have hbT : Hid (ptT r a c xs q = T1) := by have h := HT1.out; rwa [if_neg g2, List.append_nil] at h
            have hbl5 := hbl
            rw [hbT.out] at hbl5
            clear g2 hbl hBs
            go_wp2
            go_loopw [41] (fun i wi => ∃ j : Nat, j ≤ L.length ∧ i = .int .i64 j ∧ wi.ownsRow Wb 9 1 (.slice b1 L.length cap1) L.length (L.map Value.string) ∧ Bl w2.heap.size w2.heap.size (T1 ++ linT (L.take j)) wi ∧ Below w2.heap.size w2 wi) (fun i _ => L.length - (intOf i).toNat)
            case atStart => exact ⟨0, by omega, rfl, ho, by simpa [linT_nil] using hbl5, hB⟩
            case round =>
              obtain ⟨j, hj, rfl, hoi, hbli, hBi⟩ := hrel
              clear ho hbl5 hB
              have hBis : w2.heap.size ≤ wr.heap.size := hBi.size
              by_cases hjl : j < L.length
              · obtain ⟨b2, o2, rfl, hb2, e1⟩ := RdS_cell (owns_RdS hoi) (Below.refl _ _) hjl
                obtain ⟨y, hy⟩ : ∃ y, L.getD j noS = y := ⟨_, rfl⟩
                have hys : y.size ≤ 78 := by rw [← hy]; exact HS.out _ (by simp [List.getD, hjl])
                have HL : Hid (linT (L.take (j + 1)) = linT (L.take j) ++ (y.data.toList ++ [10])) := by show _ = _; rw [linT_take L j hjl, hy]
                have hll : (linT (L.take j)).length ≤ 20 * 79 := by
                  have h1 := linT_len (L := L.take j) (m := 78) (fun z hz => HS.out z (List.mem_of_mem_take hz))
                  have h2 : (L.take j).length * (78 + 1) ≤ 20 * 79 := Nat.mul_le_mul (by rw [List.length_take]; omega) (Nat.le_refl _)
                  omega
                rw [hy] at e1
                clear hy
                go_wp2_with fail
                refine (hbli.strK y (by rw [List.length_append]; omega) hBis).mono ?_
                rintro e w6 ⟨rfl, hbl6, hB6, hk6⟩
                replace hoi := own_others hoi hk6 HNE.out.2 HNE.out.1
                replace hBi := hBi.trans hB6
                have hB6s : w2.heap.size ≤ w6.heap.size := hBi.size
                clear hbli hB6 hk6 e1
                go_wp2_with fail
                refine (hbl6.byteK 10 (by rw [List.length_append, List.length_append, size_data]; omega) hB6s).mono ?_
                rintro e w7 ⟨rfl, hbl7, hB7, hk7⟩
                have HF : Hid (w7.ownsRow Wb 9 1 (.slice (some ⟨b2, o2, none⟩) L.length cap1) L.length (L.map Value.string) ∧ Bl w2.heap.size w2.heap.size (T1 ++ linT (L.take (j + 1))) w7 ∧ Below w2.heap.size w2 w7) := by
                  refine ⟨own_others hoi hk7 HNE.out.2 HNE.out.1, ?_, hBi.trans hB7⟩
                  rw [HL.out, ← List.append_assoc, ← List.append_assoc]
                  exact hbl7
                clear hoi hbl6 hBi hbl7 hB7 hk7
                go_wp2
                go_roundw
                case rel => exact ⟨j + 1, by omega, by go_num, HF.out.1, HF.out.2.1, HF.out.2.2⟩
                case measure => simp [intOf]; omega
              · have HF : Hid (Bl w2.heap.size w2.heap.size (ptT r a c xs (q + 1)) wr ∧ Below w2.heap.size w2 wr) := by
                  have h := hbli
                  rw [List.take_of_length_le (by omega)] at h
                  exact ⟨by rw [HT.out, HT1.out]; exact h, hBi⟩
                clear hbli hBi hoi
                go_wp2
                go_roundw
                case rel => exact ⟨q + 1, by omega, by go_num, HF.out.1, HK.out, HF.out.2⟩
                case measure => simp [intOf]; omega
      · have hqn : Hid (q = n) := by show q = n; omega
        have HB : Hid (B = true ∧ F = ptT r a c xs q) := by
          have h1 : B = true := by rw [← HE.out.1, ← hqn.out]; exact HO.out
          exact ⟨h1, by rw [← HE.out.2, if_pos h1, hqn.out]⟩
        have hBs := hB.size
        clear c0 c1 c2
        go_wp2_with fail
        refine (hbl.done hBs).mono ?_
        rintro e w4 ⟨Y, rfl, hY, hB4⟩
        have hF : Below w.heap.size w w4 := hAr.trans (hB4.mono hA2.size)
        clear hbl hB hB4
        go_wp2
        go_ret2
        exact ⟨_, by rw [HB.out.1]; rfl, by rw [HB.out.2]; exact hY, hF⟩
  · have hv' : ptV r a c xs = false := by simpa using hv
    have E : ptF r a c xs = [] ∧ ptB r a c xs = false := by
      have h1 : ptB r a c xs = false := by unfold ptB; rw [hv']; rfl
      exact ⟨by unfold ptF; rw [h1]; rfl, h1⟩
    rw [E.1, E.2]
    clear E hv
    cases hl : layB r a c
    · clear hv'
      go_enter Tryz.func18, Tryz.ntmps18
      go_wp2_with fail
      refine (c_impl_LayoutValid _ _ _ _).mono ?_
      rw [hl]
      rintro e w1 ⟨rfl, hB1⟩
      have hA := balloc hB1
      clear hB1
      go_wp2
      go_ret2
      exact ⟨⟨#[]⟩, rfl, rfl, hA⟩
    · have ht : tabB xs = false := by unfold ptV at hv'; rw [hl] at hv'; simpa using hv'
      clear hv'
      go_enter Tryz.func18, Tryz.ntmps18
      go_wp2_with fail
      refine (c_impl_LayoutValid _ _ _ _).mono ?_
      rw [hl]
      rintro e w1 ⟨rfl, hB1⟩
      have hA1 := balloc hB1
      clear hB1
      go_wp2_with fail
      refine (c_impl_TableValid _ xs _ (ha.kept hA1) hx).mono ?_
      rw [ht]
      rintro e w2 ⟨rfl, hB2⟩
      have hA := bthen hA1 hB2
      clear hB2
      go_wp2
      go_ret2
      exact ⟨⟨#[]⟩, rfl, rfl, hA⟩
end Go.Proofs.YtgjaajfpdajleaaGreatDoor
