/- Contracts: rounded tables, program and reference. -/
import Derived.Test.YtdgnhplaakjlgaaGreatDoorTab
namespace Go.Proofs.YtdgnhplaakjlgaaGreatDoor
set_option linter.unusedVariables false
open Go.RowKit

def FreshIB (w : World) (xs : List Int) (b : Bool) (e : Ending) (w' : World) : Prop :=
  ∃ v, e = .returned (.tuple #[v, .bool b]) ∧ OwnI w' w.heap.size v xs ∧ Below w.heap.size w w'
def rtB (xs : List Int) (d way : Int) : Bool := tabB xs && wayB d way
def rtL (xs : List Int) (d way : Int) : List Int := if rtB xs d way = true then xs.map (fun n => rnd n d way) else []
theorem rtB_iff {xs : List Int} {d way : Int} (h : rtB xs d way = true) : tabB xs = true ∧ wayB d way = true := by unfold rtB at h; rwa [Bool.and_eq_true] at h
theorem wayB_iff {d way : Int} (h : wayB d way = true) : 0 ≤ d ∧ d ≤ 6 ∧ 0 ≤ way ∧ way ≤ 2 := by simpa [wayB] using h
theorem rtL_len (xs : List Int) (d way : Int) : (rtL xs d way).length ≤ 60 := by
  unfold rtL; split
  · rename_i h
    have := tabB_iff (rtB_iff h).1
    simp; omega
  · simp
theorem rnd_entry {xs : List Int} {d way : Int} {k : Nat} (h : rtB xs d way = true) (hk : k < xs.length) : -1000000000 ≤ xs.getD k 0 ∧ xs.getD k 0 ≤ 1000000000 ∧ rndB (xs.getD k 0) d way = true ∧ rnd (xs.getD k 0) d way = rndF (xs.getD k 0) (ten d.toNat) way := by
  obtain ⟨h1, h2⟩ := rtB_iff h
  obtain ⟨_, _, h3⟩ := tabB_iff h1
  have h4 := allIn_get h3 hk
  have h5 : rndB (xs.getD k 0) d way = true := by rw [rndB_eq, inB_t h4.1 h4.2, h2]; rfl
  exact ⟨h4.1, h4.2, h5, if_pos h5⟩
theorem map_getD_end (xs : List Int) (f : Int → Int) : (List.range xs.length).map (fun i => (.int .i64 (f (xs.getD i 0)))) = (xs.map f).map (Value.int .i64) := by
  apply List.ext_getElem
  · simp
  · intro i h1 h2; simp at h1; simp [List.getD, h1]
theorem map_take_succ (xs : List Int) (f : Int → Int) (k : Nat) (hk : k < xs.length) : (xs.take (k + 1)).map f = (xs.take k).map f ++ [f (xs.getD k 0)] := by
  rw [List.take_add_one, List.map_append]
  congr 1
  simp [List.getD, hk]
theorem ownsRow_mono {w : World} {base base' e : Nat} {size : Nat} {v : Value} {n : Nat} {xs : List Value} (h : w.ownsRow base e size v n xs) (hb : base' ≤ base) : w.ownsRow base' e size v n xs := by
  obtain ⟨h1, h2⟩ := h
  refine ⟨h1, ?_⟩
  rcases h2 with h2 | ⟨g, cap, cur, hv, hg, r⟩
  · exact .inl h2
  · exact .inr ⟨g, cap, cur, hv, by omega, r⟩
theorem OwnI_snoc' {w : World} {base : Nat} {v : Value} {n : Nat} {xs : List Int} {y : Int} (hn : n = xs.length) (h : w.ownsRow base 3 1 v (n + 1) (xs.map (Value.int .i64) ++ [.int .i64 y])) : OwnI w base v (xs ++ [y]) := by
  subst hn; unfold OwnI; simpa using h

set_option maxRecDepth 20000 in
theorem c_impl_RoundTable (v : Value) (xs : List Int) (d way : Int) (w : World) (ha : RdI w v xs) (hx : xs.length ≤ 1099511627776) :
    Calls Tryz.prog 13 #[v, (.int .i64 (d)), (.int .i64 (way))] w (FreshIB w (rtL xs d way) (rtB xs d way)) := by
  have ha0 := ha
  obtain ⟨a, cap, rfl, ha1⟩ := ha0
  clear ha1
  simp only [List.length_map] at ha ⊢
  by_cases hv : rtB xs d way = true
  · have E : Hid (rtL xs d way = xs.map (fun n => rnd n d way) ∧ rtB xs d way = true) := ⟨if_pos hv, hv⟩
    obtain ⟨h1, h2⟩ := rtB_iff hv
    obtain ⟨h3, h4, h5⟩ := tabB_iff h1
    have HV : Hid (rtB xs d way = true) := hv
    clear hv
    go_enter Tryz.func13, Tryz.ntmps13
    go_wp2_with fail
    refine (c_impl_TableValid _ xs _ ha hx).mono ?_
    rintro e w1 ⟨rfl, hB1⟩
    go_wp2_with (first | (go_at_call 43; refine (c_roundingValid _ _ _).mono ?_; rintro e w' ⟨rfl, rfl⟩) | (at_make; refine mkfull 28 3 Tryz.underlying28 infoInt rfl (by decide) rfl _ _ rfl xs.length rfl rfl rfl rfl (by omega) ?_; intro w2 ho2 hB2 hz2))
    go_loopw [25] (fun i wr => ∃ k : Nat, k ≤ xs.length ∧ i = .int .i64 k ∧ wr.ownsRow w1.heap.size 3 1 (.slice (some ⟨w1.heap.size, 0, none⟩) xs.length xs.length) xs.length (fill (fun i => (.int .i64 (rnd (xs.getD i 0) d way))) (.int .i64 (0)) k xs.length) ∧ Below w1.heap.size w1 wr) (fun i _ => xs.length - (intOf i).toNat)
    case atStart => exact ⟨0, by omega, rfl, by rw [fill_zero]; exact ho2, hB2⟩
    case round =>
      obtain ⟨k, hk, rfl, ho, hB⟩ := hrel
      by_cases hlt : k < xs.length
      · obtain ⟨b1, o1, rfl, hb1, e1⟩ := RdI_cell ha (bthen hB1 hB) hlt
        obtain ⟨⟨x, e2⟩, e3, ho3⟩ := fill_step ho hlt
        obtain ⟨y, hy⟩ : ∃ y, xs.getD k 0 = y := ⟨_, rfl⟩
        rw [hy] at e1
        simp only [hy] at ho3
        have HO : Hid (_ ∧ _) := ⟨ho3, hB.setCell (p := ⟨w1.heap.size, k, none⟩) (Nat.le_refl _) (.int .i64 (rnd y d way))⟩
        clear ho ho3 hB ho2 hB2 hy ha hB1
        go_wp2_with (first | (go_at_call 44; refine (c_impl_RoundEntry _ _ _ _).mono ?_; rintro e w' ⟨rfl, rfl⟩))
        go_roundw
        case rel => exact ⟨k + 1, by omega, by go_num, HO.out.1, HO.out.2⟩
        case measure => simp [intOf]; omega
      · have HO : Hid (OwnI wr w.heap.size (.slice (some ⟨w1.heap.size, 0, none⟩) xs.length xs.length) (rtL xs d way) ∧ Below w.heap.size w wr) := by
          have : k = xs.length := by omega
          subst this
          rw [fill_end, map_getD_end xs (fun n => rnd n d way)] at ho
          refine ⟨?_, bthen hB1 hB⟩
          rw [E.out.1]
          have h := ownsRow_mono ho hB1.size
          unfold OwnI
          simpa using h
        clear ho hB ha ho2 hB2 hB1
        go_wp2
        go_ret2
        exact ⟨_, by rw [E.out.2]; rfl, HO.out.1, HO.out.2⟩
  · have E : Hid (rtL xs d way = [] ∧ rtB xs d way = false) := ⟨if_neg hv, by simpa using hv⟩
    have hd : tabB xs = false ∨ (tabB xs = true ∧ wayB d way = false) := by
      cases h1 : tabB xs
      · exact .inl rfl
      · exact .inr ⟨rfl, by simpa [rtB, h1] using hv⟩
    clear hv
    rcases hd with h | ⟨h, h2⟩
    all_goals
      go_enter Tryz.func13, Tryz.ntmps13
      go_wp2_with (first | (go_at_call 42; refine (c_impl_TableValid _ xs _ ha hx).mono ?_; rintro e w1 ⟨rfl, hB1⟩) | (go_at_call 43; refine (c_roundingValid _ _ _).mono ?_; rintro e w' ⟨rfl, rfl⟩))
      go_ret2
      exact ⟨_, by rw [E.out.2]; rfl, by rw [E.out.1]; exact World.ownsRow_nil _ _ _ _, hB1⟩

set_option maxRecDepth 20000 in
theorem c_spec_RoundTable (v : Value) (xs : List Int) (d way : Int) (w : World) (ha : RdI w v xs) (hx : xs.length ≤ 1099511627776) :
    Calls Tryz.prog 14 #[v, (.int .i64 (d)), (.int .i64 (way))] w (FreshIB w (rtL xs d way) (rtB xs d way)) := by
  have ha0 := ha
  obtain ⟨a, cap, rfl, ha1⟩ := ha0
  clear ha1
  simp only [List.length_map] at ha ⊢
  have hs0 : (w.alloc (.cells #[] 3)).ownsRow w.heap.size 3 1 (.slice (some ⟨w.heap.size, 0, none⟩) 0 0) 0 [] := World.ownsRow_made w #[] 0 (Nat.le_refl _) (by decide) rfl
  by_cases hv : rtB xs d way = true
  · have E : Hid (rtL xs d way = xs.map (fun n => rnd n d way) ∧ rtB xs d way = true) := ⟨if_pos hv, hv⟩
    obtain ⟨h1, h2⟩ := rtB_iff hv
    obtain ⟨h3, h4, h5⟩ := tabB_iff h1
    obtain ⟨d0, d6, w0, w2⟩ := wayB_iff h2
    obtain ⟨n, rfl⟩ : ∃ n : Nat, d = n := ⟨d.toNat, by omega⟩
    have hn6 : n ≤ 6 := by omega
    have HV : Hid (rtB xs n way = true) := hv
    clear hv
    go_enter Tryz.func14, Tryz.ntmps14
    go_wp2_with fail
    refine (c_spec_TableValid _ xs _ (ha.kept ((Below.refl _ _).alloc (Nat.le_refl _) _)) hx).mono ?_
    rintro e w1 ⟨rfl, hB1⟩
    have ho1 := ownsRow_kept_below hs0 hB1
    have hB1' := balloc hB1
    clear hB1 hs0
    go_wp2_with (first | (go_at_call 46; refine (c_l6Way _ _ _).mono ?_; rintro e w' ⟨rfl, rfl⟩))
    go_loopw [8, 9] (fun v i wr => ∃ k : Nat, k ≤ xs.length ∧ i = .int .i64 k ∧ OwnI wr w.heap.size v ((xs.take k).map (fun m => rnd m n way)) ∧ Below w.heap.size w wr) (fun _ i _ => xs.length - (intOf i).toNat)
    case atStart => exact ⟨0, by omega, rfl, ho1, hB1'⟩
    case round =>
      obtain ⟨k, hk, rfl, ho, hB⟩ := hrel
      by_cases hlt : k < xs.length
      · obtain ⟨b1, o1, rfl, hb1, e1⟩ := RdI_cell ha hB hlt
        obtain ⟨r1, r2, r3, r4⟩ := rnd_entry HV.out hlt
        have hsn := map_take_succ xs (fun m => rnd m n way) k hlt
        obtain ⟨y, hy⟩ : ∃ y, xs.getD k 0 = y := ⟨_, rfl⟩
        rw [hy] at e1 r1 r2 r3 r4 hsn
        rw [Int.toNat_natCast] at r4
        have R4 : Hid (rndF y (ten n) way = rnd y n way) := r4.symm
        have hBs := hB.size
        have hlen : ((xs.take k).map (fun m => rnd m n way)).length ≤ 60 := by simp; omega
        obtain ⟨L, hL⟩ : ∃ L, (xs.take k).map (fun m => rnd m n way) = L := ⟨_, rfl⟩
        rw [hL] at ho hlen hsn
        clear hL
        have HS : Hid ((xs.take (k + 1)).map (fun m => rnd m n way) = L ++ [rnd y n way]) := hsn
        clear hy hsn r3 r4 ha ho1 hB1'
        go_wp2_with (first | (go_at_call 47; refine (c_l6Round _ _ n _ r1 r2 hn6 w0 w2).mono ?_; rw [R4.out]; rintro e w' ⟨rfl, rfl⟩) | (at_builtin; refine app1 28 3 Tryz.underlying28 infoInt rfl (by decide) rfl _ _ rfl w.heap.size _ _ _ rfl ho rfl rfl ?c1 ?c2 ?_))
        case c1 => omega
        case c2 => exact hBs
        intro v' wn ho3 hg1
        have HO : Hid (OwnI wn w.heap.size v' ((xs.take (k + 1)).map (fun m => rnd m n way)) ∧ Below w.heap.size w wn) :=
          ⟨by rw [HS.out]; exact OwnI_snoc' rfl ho3, hB.grown hg1 hBs (fun j hj => (ho.lt j hj).1)⟩
        clear ho ho3 hg1 hB
        go_wp2
        go_roundw
        case rel => exact ⟨k + 1, by omega, by go_num, HO.out.1, HO.out.2⟩
        case measure => simp [intOf]; omega
      · have HO : Hid (OwnI wr w.heap.size u8 (rtL xs n way) ∧ Below w.heap.size w wr) := by
          rw [List.take_of_length_le (by omega)] at ho
          exact ⟨by rw [E.out.1]; exact ho, hB⟩
        clear ho hB ha ho1 hB1'
        go_wp2
        go_ret2
        exact ⟨_, by rw [E.out.2]; rfl, HO.out.1, HO.out.2⟩
  · have E : Hid (rtL xs d way = [] ∧ rtB xs d way = false) := ⟨if_neg hv, by simpa using hv⟩
    have hd : tabB xs = false ∨ (tabB xs = true ∧ wayB d way = false) := by
      cases h1 : tabB xs
      · exact .inl rfl
      · exact .inr ⟨rfl, by simpa [rtB, h1] using hv⟩
    clear hv
    rcases hd with h | ⟨h, h2⟩
    all_goals
      go_enter Tryz.func14, Tryz.ntmps14
      go_wp2_with (first | (go_at_call 45; refine (c_spec_TableValid _ xs _ (ha.kept ((Below.refl _ _).alloc (Nat.le_refl _) _)) hx).mono ?_; rintro e w1 ⟨rfl, hB1⟩) | (go_at_call 46; refine (c_l6Way _ _ _).mono ?_; rintro e w' ⟨rfl, rfl⟩))
      go_ret2
      exact ⟨_, by rw [E.out.2]; rfl, by rw [E.out.1]; exact ownsRow_kept_below hs0 hB1, balloc hB1⟩
end Go.Proofs.YtdgnhplaakjlgaaGreatDoor
