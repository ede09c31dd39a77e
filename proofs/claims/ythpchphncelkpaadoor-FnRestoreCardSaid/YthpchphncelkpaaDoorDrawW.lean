/- Contracts: drawn lines. -/
import Derived.Test.YthpchphncelkpaaDoorDrawS
import Derived.Test.YthpchphncelkpaaDoorRest
namespace Go.Proofs.YthpchphncelkpaaDoor
set_option linter.unusedVariables false
open Go.RowKit

/-- a row of strings is drawn: the source's block alone is written, the row is new -/
def DrawRowS (w : World) (g P : Nat) (Q : List ByteArray → Prop) (e : Ending) (w' : World) : Prop :=
  ∃ v xs, e = .returned v ∧ OwnS w' w.heap.size v xs ∧ Q xs ∧ IsRdB w' g P ∧ w.grownBy w' (some g)
theorem IsRdB.belowS {w w' : World} {g P : Nat} (h : IsRdB w g P) (hb : Below (g + 1) w w') : IsRdB w' g P := by
  obtain ⟨p, h1, v, cs, h2, h3, h4, h5, h6⟩ := h
  refine ⟨p, h1, v, cs, by rw [hb.block g (by omega)]; exact h2, ?_, h4, h5, h6⟩
  obtain ⟨a, cap, rfl, h7⟩ := h3
  refine ⟨a, cap, rfl, ?_⟩
  rcases h7 with h7 | ⟨b, off, rfl, hlt, h7⟩
  · exact .inl h7
  · rcases h6 with rfl | h6
    · exact .inl rfl
    · have hbg : b < g := h6 _ _ _ rfl
      exact .inr ⟨b, off, rfl, by have := hb.size; omega, fun i hi => by rw [hb.cell (p := ⟨b, off + i, none⟩) (by show b < _; omega)]; exact h7 i hi⟩
theorem size_app (a b : ByteArray) : (a ++ b).size = a.size + b.size := ByteArray.size_append

set_option maxHeartbeats 400000 in
theorem c_l6Words (g P : Nat) (w : World) (h : IsRdB w g P) (hp : P ≤ 900000) :
    Calls Tryd.prog 65 #[.pointer (some ⟨g, 0, none⟩)] w (DrawRowS w g (P + 20) fun xs => xs.length ≤ 6 ∧ ∀ s ∈ xs, s.size ≤ 8) := by
  have hgw := h.lt
  have hs0 := OwnS_made w w.heap.size (Nat.le_refl _)
  go_enter Tryd.func65, Tryd.ntmps65
  go_wp2_with fail
  refine (d_pick g P _ (w.alloc (.cells #[] 9)) (h.alloc _) (by omega)).mono ?_
  rintro e w2 ⟨n, rfl, ⟨hn0, hn1⟩, hr2, hg2⟩
  have ho2 := ownsRow_kept_new hs0 hg2 (fun k hk => by cases hk; exact hgw)
  have hG2 := grownBy_trans (World.grownBy_alloc w _ (some g)) hg2
  obtain ⟨N, rfl⟩ : ∃ N : Nat, n = N := ⟨n.toNat, by omega⟩
  have hgw2 : ∀ k, (some g : Option Nat) = some k → k < w.heap.size := fun k hk => by cases hk; exact hgw
  clear hg2 hs0
  go_wp2
  go_loopw [3, 4] (fun v i wr => ∃ (k : Nat) (L : List ByteArray), k ≤ N ∧ i = .int .i64 ((N : Int) - k) ∧ Hid (L.length = k) ∧ (∀ s ∈ L, s.size ≤ 8) ∧ OwnS wr w.heap.size v L ∧ IsRdB wr g (P + 1 + 2 * k) ∧ w.grownBy wr (some g)) (fun _ i _ => (intOf i).toNat)
  case atStart => exact ⟨0, [], by omega, by go_num, rfl, by simp, ho2, hr2.mono (by omega), hG2⟩
  case round =>
    obtain ⟨k, L, hk, rfl, hL, hsz, ho, hr, hG⟩ := hrel
    clear ho2 hr2 hG2
    by_cases hlt : k < N
    · have hN : N < 6 := by omega
      have hLl : L.length ≤ 6 := by have := hL.out; omega
      have HSZ : Hid _ := hsz
      clear hsz
      go_wp2_with fail
      refine (d_pick g _ _ wr hr (by omega)).mono ?_
      rintro e w3 ⟨x, rfl, ⟨hx0, hx1⟩, hr3, hg3⟩
      have ho3 := ownsRow_kept_new ho hg3 hgw2
      have hG3 := grownBy_trans hG hg3
      clear ho hG hr hg3
      go_wp2_with fail
      refine (c_ManySp 32 x _ (by omega)).mono ?_
      rintro e w' ⟨Y, rfl, hY, rfl⟩
      have hYs : Y.size ≤ 3 := by rw [hY.size, List.length_replicate]; omega
      clear hY
      go_wp2_with fail
      refine (d_strlit g (P + 1 + 2 * k + 1) [⟨#[49, 50]⟩, ⟨#[49, 32, 50]⟩, ⟨#[]⟩, ⟨#[120]⟩, ⟨#[45, 52, 53, 32, 55]⟩, ⟨#[126]⟩] w3 hr3 (by omega) (by decide) (by decide)).mono ?_
      rintro e w4 ⟨z, rfl, hz, hr4, hg4⟩
      have hzs : z.size ≤ 5 := (show ∀ s ∈ ([⟨#[49, 50]⟩, ⟨#[49, 32, 50]⟩, ⟨#[]⟩, ⟨#[120]⟩, ⟨#[45, 52, 53, 32, 55]⟩, ⟨#[126]⟩] : List ByteArray), s.size ≤ 5 by decide) z hz
      have ho4 := ownsRow_kept_new ho3 hg4 hgw2
      have hG4 := grownBy_trans hG3 hg4
      have hs4 := hG4.size
      clear ho3 hG3 hr3 hg4 hz
      go_wp2_with (at_builtin; refine app1 23 9 Tryd.underlying23 infoStr rfl (by decide) rfl _ _ rfl w.heap.size _ _ _ rfl ho4 rfl rfl ?c1 ?c2 ?_)
      case c1 => omega
      case c2 => exact hs4
      intro v' wn ho5 hg5
      have HO : Hid (∃ L' : List ByteArray, Hid (L'.length = k + 1) ∧ (∀ s ∈ L', s.size ≤ 8) ∧ OwnS wn w.heap.size v' L' ∧ IsRdB wn g (P + 1 + 2 * (k + 1)) ∧ w.grownBy wn (some g)) :=
        ⟨L ++ [Y ++ z], by show _ = _; rw [List.length_append, hL.out]; rfl, fun s hs => by
          rcases List.mem_append.1 hs with h9 | h9
          · exact HSZ.out s h9
          · rw [List.mem_singleton] at h9; subst h9; rw [size_app]; omega, OwnS_snoc rfl ho5, (hr4.belowS (below_grown hg5 (by omega) (fun j hj => by have := (ho4.lt j hj).1; omega))).mono (by omega), grown_new hG4 hg5 (fun j hj => (ho4.lt j hj).1)⟩
      clear ho4 ho5 hg5 hr4 hG4
      go_wp2
      obtain ⟨L', q1, q5, q2, q3, q4⟩ := HO.out
      go_roundw
      case rel => exact ⟨k + 1, L', by omega, by go_num, q1, q5, q2, q3, q4⟩
      case measure => simp [intOf]; omega
    · have HO : Hid (OwnS wr w.heap.size u3 L ∧ IsRdB wr g (P + 20) ∧ w.grownBy wr (some g) ∧ L.length ≤ 6 ∧ ∀ s ∈ L, s.size ≤ 8) := ⟨ho, hr.mono (by omega), hG, by have := hL.out; omega, hsz⟩
      clear ho hr hG hL hsz
      go_wp2
      go_ret
      exact ⟨_, L, rfl, HO.out.1, HO.out.2.2.2, HO.out.2.1, HO.out.2.2.1⟩

def DrawTS (w : World) (e : Ending) (w' : World) : Prop :=
  ∃ v xs, e = .returned v ∧ OwnS w' w.heap.size v xs ∧ xs.length ≤ 100 ∧ (∀ s ∈ xs, s.size ≤ 200) ∧ Below w.heap.size w w'

def lenS : Value → Nat
  | .slice _ n _ => n
  | _ => 0
theorem owns_shape {w : World} {base : Nat} {v : Value} {xs : List ByteArray} (h : OwnS w base v xs) : ∃ a c, v = .slice a xs.length c := by
  obtain ⟨a, c, e, _⟩ := owns_RdS h
  exact ⟨a, c, by simpa using e⟩
set_option maxHeartbeats 800000 in
theorem c_DrawLinesValid (v : Value) (cs : List Int) (w : World) (hv : RdL w v (cs.map (Value.int .u8))) (hl : cs.length ≤ 1099511627776) (hb : ∀ n ∈ cs, (Lit.int .u8 n).wf = true) (hcap : CapOk v) :
    Calls Tryd.prog 60 #[v] w (DrawTS w) := by
  have hv0 := hv
  obtain ⟨a, cap, rfl, hv1⟩ := hv0
  clear hv1
  simp only [List.length_map] at hv hcap ⊢
  go_enter Tryd.func60, Tryd.ntmps60
  go_wp2_with fail
  refine (c_l9Open _ cs _ hv hl hb hcap).mono ?_
  rintro e w1 ⟨g, rfl, hr1, hgb, hB1⟩
  clear hb hcap hv
  have hgl := hr1.lt
  have hgw2 : ∀ k, (some g : Option Nat) = some k → k < w1.heap.size := fun k hk => by cases hk; exact hgl
  have hgw3 : ∀ k, (some g : Option Nat) = some k → w.heap.size ≤ k := fun k hk => by cases hk; exact hgb
  have hs1 := hB1.size
  go_wp2_with fail
  refine (c_l6Words g 0 w1 hr1 (by omega)).mono ?_
  rintro e w2 ⟨v2, xs, rfl, ho2, ⟨hx1, hx2⟩, hr2, hg2⟩
  have hs2 := hg2.size
  have hB2 := hB1.grown hg2 hs1 hgw3
  clear hr1 hB1 hg2
  go_wp2_with fail
  refine (d_pick g _ _ w2 hr2 (by omega)).mono ?_
  rintro e w3 ⟨x, rfl, ⟨hx0, hx9⟩, hr3, hg3⟩
  have ho3 := ownsRow_kept_new ho2 hg3 hgw2
  have hB3 := hB2.grown hg3 (by omega) hgw3
  have hs3 := hg3.size
  have hsB : w1.heap.size ≤ w3.heap.size := by omega
  have HX : Hid (∀ s ∈ xs, s.size ≤ 8) := hx2
  clear hr2 ho2 hg3 hB2 hx2
  by_cases h0 : x = 0
  · subst h0
    go_wp2_with fail
    refine (d_strlit g _ [⟨#[97, 9]⟩, ⟨#[127]⟩, ⟨#[97, 32]⟩, ⟨#[31]⟩] w3 hr3 (by omega) (by decide) (by decide)).mono ?_
    rintro e w4 ⟨z, rfl, hz, hr4, hg4⟩
    have hzs : z.size ≤ 5 := (show ∀ s ∈ ([⟨#[97, 9]⟩, ⟨#[127]⟩, ⟨#[97, 32]⟩, ⟨#[31]⟩] : List ByteArray), s.size ≤ 5 by decide) z hz
    have ho4 := ownsRow_kept_new ho3 hg4 hgw2
    have hB4 := hB3.grown hg4 (by omega) hgw3
    have hs4 := hg4.size
    have hsB4 : w1.heap.size ≤ w4.heap.size := by omega
    clear ho3 hB3 hr3 hg4 hz
    go_wp2_with (at_builtin; refine app1 23 9 Tryd.underlying23 infoStr rfl (by decide) rfl _ _ rfl w1.heap.size _ _ _ rfl ho4 rfl rfl ?c1 ?c2 ?_)
    case c1 => omega
    case c2 => exact hsB4
    intro v' wn ho5 hg5
    have HO : Hid (∃ L' : List ByteArray, OwnS wn w.heap.size v' L' ∧ L'.length ≤ 100 ∧ (∀ s ∈ L', s.size ≤ 200) ∧ Below w.heap.size w wn) :=
      ⟨xs ++ [z], ownsRow_monoS (OwnS_snoc rfl ho5) hs1, by rw [List.length_append]; simp; omega, fun s hs => by
        rcases List.mem_append.1 hs with h9 | h9
        · have := HX.out s h9; omega
        · rw [List.mem_singleton] at h9; subst h9; omega, hB4.grown hg5 (by omega) (fun j hj => by have := (ho4.lt j hj).1; omega)⟩
    clear ho4 ho5 hg5 hB4
    go_wp2
    go_ret
    obtain ⟨L', q1, q2, q3, q4⟩ := HO.out
    exact ⟨_, L', rfl, q1, q2, q3, q4⟩
  · have e0 : (x == 0) = false := beq_eq_false_iff_ne.2 h0
    by_cases h1 : x = 1
    · subst h1
      clear h0 e0
      go_wp2_with fail
      refine (d_numlit g _ [100, 101] w3 hr3 (by omega) (by decide) (by decide)).mono ?_
      rintro e w4 ⟨z, rfl, hz, hr4, hg4⟩
      have hzs : 0 ≤ z ∧ z ≤ 101 := by simp at hz; omega
      have ho4 := ownsRow_kept_new ho3 hg4 hgw2
      have hB4 := hB3.grown hg4 (by omega) hgw3
      have hs4 := hg4.size
      have hsB4 : w1.heap.size ≤ w4.heap.size := by omega
      clear ho3 hB3 hr3 hg4 hz
      go_wp2_with fail
      refine (c_ManySp 97 z _ (by omega)).mono ?_
      rintro e w' ⟨Y, rfl, hY, rfl⟩
      have hYs : Y.size ≤ 101 := by rw [hY.size, List.length_replicate]; omega
      clear hY
      go_wp2_with (at_builtin; refine app1 23 9 Tryd.underlying23 infoStr rfl (by decide) rfl _ _ rfl w1.heap.size _ _ _ rfl ho4 rfl rfl ?c1 ?c2 ?_)
      case c1 => omega
      case c2 => exact hsB4
      intro v' wn ho5 hg5
      have HO : Hid (∃ L' : List ByteArray, OwnS wn w.heap.size v' L' ∧ L'.length ≤ 100 ∧ (∀ s ∈ L', s.size ≤ 200) ∧ Below w.heap.size w wn) :=
        ⟨xs ++ [Y], ownsRow_monoS (OwnS_snoc rfl ho5) hs1, by rw [List.length_append]; simp; omega, fun s hs => by
          rcases List.mem_append.1 hs with h9 | h9
          · have := HX.out s h9; omega
          · rw [List.mem_singleton] at h9; subst h9; omega, hB4.grown hg5 (by omega) (fun j hj => by have := (ho4.lt j hj).1; omega)⟩
      clear ho4 ho5 hg5 hB4
      go_wp2
      go_ret
      obtain ⟨L', q1, q2, q3, q4⟩ := HO.out
      exact ⟨_, L', rfl, q1, q2, q3, q4⟩
    · have e1 : (x == 1) = false := beq_eq_false_iff_ne.2 h1
      by_cases h2 : x = 2
      · subst h2
        clear h0 h1 e0 e1
        go_wp2
        go_loopw [4] (fun v wr => ∃ L : List ByteArray, L.length ≤ 41 ∧ (∀ s ∈ L, s.size ≤ 200) ∧ OwnS wr w1.heap.size v L ∧ Below w.heap.size w wr ∧ w1.heap.size ≤ wr.heap.size ∧ ∃ a c, v = .slice a L.length c) (fun v _ => 41 - lenS v)
        case atStart => exact ⟨xs, by omega, fun s hs => by have := HX.out s hs; omega, ho3, hB3, hsB, owns_shape ho3⟩
        case round =>
          obtain ⟨L, hLl, hsz, ho, hB, hs, a4, c4, rfl⟩ := hrel
          have HSZ : Hid _ := hsz
          clear hsz ho3 hB3 hr3
          by_cases hlt : L.length < 41
          · go_wp2_with (at_builtin; refine app1 23 9 Tryd.underlying23 infoStr rfl (by decide) rfl _ _ rfl w1.heap.size _ _ _ rfl ho rfl rfl ?c1 ?c2 ?_)
            case c1 => omega
            case c2 => exact hs
            intro v' wn ho5 hg5
            have HO : Hid (∃ L' : List ByteArray, Hid (L'.length = L.length + 1) ∧ (∀ s ∈ L', s.size ≤ 200) ∧ OwnS wn w1.heap.size v' L' ∧ Below w.heap.size w wn ∧ w1.heap.size ≤ wn.heap.size) :=
              ⟨L ++ [⟨#[97]⟩], by show _ = _; rw [List.length_append]; rfl, fun s hs => by
                rcases List.mem_append.1 hs with h9 | h9
                · exact HSZ.out s h9
                · rw [List.mem_singleton] at h9; subst h9; decide, OwnS_snoc rfl ho5, hB.grown hg5 (by omega) (fun j hj => by have := (ho.lt j hj).1; omega), by have := hg5.size; omega⟩
            clear ho ho5 hg5 hB
            go_wp2
            obtain ⟨L', q1, q5, q2, q3, q4⟩ := HO.out
            have q6 := owns_shape q2
            have q7 := q1.out
            go_roundw
            case rel => exact ⟨L', by omega, q5, q2, q3, q4, q6⟩
            case measure =>
              obtain ⟨a5, c5, rfl⟩ := q6
              show 41 - lenS _ < 41 - lenS _
              simp only [lenS]
              omega
          · have HO : Hid (OwnS wr w.heap.size (.slice a4 L.length c4) L ∧ Below w.heap.size w wr) := ⟨ownsRow_monoS ho hs1, hB⟩
            clear ho hB
            go_wp2
            go_ret
            exact ⟨_, L, rfl, HO.out.1, by omega, HSZ.out, HO.out.2⟩
      · have e2 : (x == 2) = false := beq_eq_false_iff_ne.2 h2
        have HO : Hid (OwnS w3 w.heap.size v2 xs ∧ Below w.heap.size w w3) := ⟨ownsRow_monoS ho3 hs1, hB3⟩
        clear ho3 hB3 hr3 h0 h1 h2
        go_wp2
        go_ret
        exact ⟨_, xs, rfl, HO.out.1, by omega, fun s hs => by have := HX.out s hs; omega, HO.out.2⟩
end Go.Proofs.YthpchphncelkpaaDoor
