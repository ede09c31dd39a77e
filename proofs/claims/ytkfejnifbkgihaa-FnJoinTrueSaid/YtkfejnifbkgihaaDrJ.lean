/- Contracts: the drawn arguments of splitting and joining segments. -/
import Derived.Test.YtkfejnifbkgihaaDrB
namespace Go.Proofs.Ytkfejnifbkgihaa
set_option linter.unusedVariables false
open Go.RowKit

/-- a plan, a place and a number are drawn -/
def DrawPII (w : World) (lo hi : Int) (e : Ending) (w' : World) : Prop :=
  ∃ v pl, ∃ i t : Int, e = .returned (.tuple #[v, .int .i64 i, .int .i64 t]) ∧ OwP w' w.heap.size v pl ∧ PlD pl ∧ (-9223372036854775808 ≤ i ∧ i ≤ 9223372036854775807) ∧ (lo ≤ t ∧ t ≤ hi) ∧ Below w.heap.size w w'
set_option maxRecDepth 20000 in
set_option maxHeartbeats 800000 in
theorem c_DrawSplitSegment (v : Value) (cs : List Int) (w : World) (hv : RdL w v (cs.map (Value.int .u8))) (hl : cs.length ≤ 1099511627776) (hb : ∀ n ∈ cs, (Lit.int .u8 n).wf = true) (hcap : CapOk v) :
    Calls Try.prog 32 #[v] w (DrawPII w 1 5) := by
  go_enter Try.func32, Try.ntmps32
  go_wp2_with fail
  refine (c_l9Open _ cs _ hv hl hb hcap).mono ?_
  rintro e w1 ⟨g, rfl, hr1, hgb, hB1⟩
  have hgw := hr1.lt
  have HGW : Hid (∀ k, (some g : Option Nat) = some k → k < w1.heap.size) := fun k hk => by cases hk; exact hgw
  clear hb hcap hv
  go_wp2_with fail
  refine (c_l5Plan g 0 w1 hr1 (by omega)).mono ?_
  rintro e w2 ⟨v2, pl, rfl, ho2, hd2, ⟨hl2, hl2'⟩, hr2, hG2⟩
  have HD2 := hidd hd2
  obtain ⟨pa, pc, rfl, hpc⟩ := ho2.form
  clear hr1 hd2
  go_wp2_with fail
  refine (d_pick g _ _ _ hr2 (by omega)).mono ?_
  rintro e w3 ⟨i, rfl, ⟨hi0, hi1⟩, hr3, hg3⟩
  have ho3 := ho2.keptNew hg3 HGW.out
  have hG3 := grownBy_trans hG2 hg3
  have hib : i ≤ 62 := by omega
  clear ho2 hr2 hG2 hg3 hi1
  go_wp2_with fail
  refine (d_pick g _ _ _ hr3 (by omega)).mono ?_
  rintro e w4 ⟨t, rfl, ⟨ht0, ht1⟩, hr4, hg4⟩
  have ho4 := ho3.keptNew hg4 HGW.out
  have hG4 := grownBy_trans hG3 hg4
  have htb : t ≤ 4 := by omega
  clear ho3 hr3 hG3 hg4 ht1
  go_wp2_with fail
  refine (d_pick g _ _ _ hr4 (by omega)).mono ?_
  rintro e w5 ⟨x, rfl, ⟨hx0, hx1⟩, hr5, hg5⟩
  have ho5 := ho4.keptNew hg5 HGW.out
  have hG5 := grownBy_trans hG4 hg5
  clear ho4 hr4 hG4 hg5 hx1
  by_cases hx : x = 0
  · subst hx
    have hdd := d_numlit g _ [-1, 9223372036854775807] w5 hr5 (by omega) (by decide) (by decide)
    go_wp2_with fail
    refine hdd.mono ?_
    rintro e w6 ⟨z, rfl, hz, hr6, hg6⟩
    have ho6 := ho5.keptNew hg6 HGW.out
    have hG6 := grownBy_trans hG5 hg6
    have hzb : -1 ≤ z ∧ z ≤ 9223372036854775807 := by simp at hz; omega
    have HZB := hidd hzb
    clear hdd ho5 hr5 hG5 hg6 hz hzb
    have HBD := hidd (c_l5Bad g _ _ pl w1 w6 hr6 (by omega) ho6 HD2.out hl2 hG6 hgw)
    clear ho6 hr6 hG6
    go_wp2_with fail
    refine HBD.out.mono ?_
    rintro e w7 ⟨v7, pl7, rfl, ho7, hd7, _, hr7, hG7⟩
    have HF : Hid (DrawPII w 1 5 (.returned (.tuple #[v7, .int .i64 z, .int .i64 (1 + t)])) w7) :=
      ⟨_, _, _, _, rfl, ho7.mono hB1.size, hd7, ⟨by have := HZB.out; omega, HZB.out.2⟩, ⟨by omega, by omega⟩, hB1.grown hG7 hB1.size (fun k hk => by cases hk; exact hgb)⟩
    clear ho7 hd7 hr7 hG7 hB1
    go_wp2
    go_ret3
    exact HF.out
  · have hx' : (x == 0) = false := beq_eq_false_iff_ne.2 hx
    have HBD := hidd (c_l5Bad g _ _ pl w1 w5 hr5 (by omega) ho5 HD2.out hl2 hG5 hgw)
    clear ho5 hr5 hG5 hx
    go_wp2_with fail
    refine HBD.out.mono ?_
    rintro e w7 ⟨v7, pl7, rfl, ho7, hd7, _, hr7, hG7⟩
    have HF : Hid (DrawPII w 1 5 (.returned (.tuple #[v7, .int .i64 i, .int .i64 (1 + t)])) w7) :=
      ⟨_, _, _, _, rfl, ho7.mono hB1.size, hd7, ⟨by omega, by omega⟩, ⟨by omega, by omega⟩, hB1.grown hG7 hB1.size (fun k hk => by cases hk; exact hgb)⟩
    clear ho7 hd7 hr7 hG7 hB1
    go_wp2
    go_ret3
    exact HF.out

set_option maxRecDepth 20000 in
set_option maxHeartbeats 1600000 in
theorem c_DrawJoinSegments (v : Value) (cs : List Int) (w : World) (hv : RdL w v (cs.map (Value.int .u8))) (hl : cs.length ≤ 1099511627776) (hb : ∀ n ∈ cs, (Lit.int .u8 n).wf = true) (hcap : CapOk v) :
    Calls Try.prog 35 #[v] w (DrawPII w (-1) 7) := by
  go_enter Try.func35, Try.ntmps35
  go_wp2_with fail
  refine (c_l9Open _ cs _ hv hl hb hcap).mono ?_
  rintro e w1 ⟨g, rfl, hr1, hgb, hB1⟩
  have hgw := hr1.lt
  have HGW : Hid (∀ k, (some g : Option Nat) = some k → k < w1.heap.size) := fun k hk => by cases hk; exact hgw
  clear hb hcap hv
  go_wp2_with fail
  refine (c_l5Plan g 0 w1 hr1 (by omega)).mono ?_
  rintro e w2 ⟨v2, pl, rfl, ho2, hd2, ⟨hl2, hl2'⟩, hr2, hG2⟩
  have HD2 := hidd hd2
  obtain ⟨pa, pc, rfl, hpc⟩ := ho2.form
  clear hr1 hd2
  go_wp2_with fail
  refine (d_pick g _ _ _ hr2 (by omega)).mono ?_
  rintro e w3 ⟨i, rfl, ⟨hi0, hi1⟩, hr3, hg3⟩
  have ho3 := ho2.keptNew hg3 HGW.out
  have hG3 := grownBy_trans hG2 hg3
  have hib : i ≤ 62 := by omega
  clear ho2 hr2 hG2 hg3 hi1
  go_wp2_with fail
  refine (d_pick g _ _ _ hr3 (by omega)).mono ?_
  rintro e w4 ⟨t, rfl, ⟨ht0, ht1⟩, hr4, hg4⟩
  have ho4 := ho3.keptNew hg4 HGW.out
  have hG4 := grownBy_trans hG3 hg4
  have htb : t ≤ 2 := by omega
  have hs4 := hG4.size
  have HS := hidd (c_spec_SplitSegment _ pl i (1 + t) w4 ho4.rd (by omega) (fun s hs => by have := HD2.out.2 s hs; omega) (by omega) (by omega))
  have HSL := hidd (spL_len pl i (1 + t))
  have HSM := hidd (spL_mem i (1 + t) HD2.out.2)
  have HSN : Hid (spB pl i (1 + t) = true → 1 ≤ (spL pl i (1 + t)).length) := fun hb => by
    show 1 ≤ (spL pl i (1 + t)).length
    unfold spL
    rw [if_pos hb, spE_len (spB_iff hb).2.2.1]; omega
  obtain ⟨pl2, hpl2⟩ : ∃ pl2, spL pl i (1 + t) = pl2 := ⟨_, rfl⟩
  rw [hpl2] at HS HSL HSM HSN
  clear ho3 hr3 hG3 hg4 ht1 hpl2
  have hsb : spB pl i (1 + t) = false ∨ spB pl i (1 + t) = true := by cases spB pl i (1 + t) <;> simp
  rcases hsb with hsb | hsb
  · rw [hsb] at HS
    clear hsb
    go_wp2_with fail
    refine HS.out.mono ?_
    rintro e w5 ⟨u5, rfl, ho5', hB5⟩
    have ho5 := ho4.kept hB5
    have hr5 := hr4.kept hB5
    have hG5 := grownBy_trans hG4 (below_grownS (g := g) hB5)
    clear ho4 hr4 hG4 hB5 ho5' HS
    go_wp2_with fail
    refine (d_pick g _ _ _ hr5 (by omega)).mono ?_
    rintro e w7 ⟨x, rfl, ⟨hx0, hx1⟩, hr7, hg7⟩
    have ho7 := ho5.keptNew hg7 HGW.out
    have hG7 := grownBy_trans hG5 hg7
    clear hr5 hG5 hg7 hx1
    by_cases hx : x = 0
    · subst hx
      have hdd := d_numlit g _ [-1, 9223372036854775807] w7 hr7 (by omega) (by decide) (by decide)
      go_wp2_with fail
      refine hdd.mono ?_
      rintro e w8 ⟨z, rfl, hz, hr8, hg8⟩
      have ho8 := ho7.keptNew hg8 HGW.out
      have hG8 := grownBy_trans hG7 hg8
      have hzb : -1 ≤ z ∧ z ≤ 9223372036854775807 := by simp at hz; omega
      have HZB := hidd hzb
      clear hdd ho7 hr7 hG7 hg8 hz hzb
      have HBD := hidd (c_l5Bad g _ _ pl w1 w8 hr8 (by omega) ho8 HD2.out hl2 hG8 hgw)
      clear ho8 hr8 hG8
      go_wp2_with fail
      refine HBD.out.mono ?_
      rintro e w9 ⟨v9, pl9, rfl, ho9, hd9, _, hr9, hG9⟩
      have hdd := d_numlit g _ [3, 6, 2, 1, 7, -1] w9 hr9 (by omega) (by decide) (by decide)
      go_wp2_with fail
      refine hdd.mono ?_
      rintro e w10 ⟨dd, rfl, hq, hr10, hg10⟩
      have hqb : -1 ≤ dd ∧ dd ≤ 7 := by simp at hq; omega
      have HF : Hid (DrawPII w (-1) 7 (.returned (.tuple #[v9, .int .i64 z, .int .i64 dd])) w10) :=
        ⟨_, _, _, _, rfl, (ho9.keptNew hg10 HGW.out).mono hB1.size, hd9, ⟨by have := HZB.out; omega, HZB.out.2⟩, hqb, hB1.grown (grownBy_trans hG9 hg10) hB1.size (fun k hk => by cases hk; exact hgb)⟩
      clear ho9 hd9 hr9 hG9 hB1 hr10 hg10 hdd hq hqb
      go_wp2
      go_ret3
      exact HF.out
    · have hx' : (x == 0) = false := beq_eq_false_iff_ne.2 hx
      have HBD := hidd (c_l5Bad g _ _ pl w1 w7 hr7 (by omega) ho7 HD2.out hl2 hG7 hgw)
      clear ho7 hr7 hG7 hx
      go_wp2_with fail
      refine HBD.out.mono ?_
      rintro e w9 ⟨v9, pl9, rfl, ho9, hd9, _, hr9, hG9⟩
      have hdd := d_numlit g _ [3, 6, 2, 1, 7, -1] w9 hr9 (by omega) (by decide) (by decide)
      go_wp2_with fail
      refine hdd.mono ?_
      rintro e w10 ⟨dd, rfl, hq, hr10, hg10⟩
      have hqb : -1 ≤ dd ∧ dd ≤ 7 := by simp at hq; omega
      have HF : Hid (DrawPII w (-1) 7 (.returned (.tuple #[v9, .int .i64 i, .int .i64 dd])) w10) :=
        ⟨_, _, _, _, rfl, (ho9.keptNew hg10 HGW.out).mono hB1.size, hd9, ⟨by omega, by omega⟩, hqb, hB1.grown (grownBy_trans hG9 hg10) hB1.size (fun k hk => by cases hk; exact hgb)⟩
      clear ho9 hd9 hr9 hG9 hB1 hr10 hg10 hdd hq hqb
      go_wp2
      go_ret3
      exact HF.out
  · have hn2 := HSN.out hsb
    rw [hsb] at HS
    clear hsb
    go_wp2_with fail
    refine HS.out.mono ?_
    rintro e w5 ⟨u5, rfl, ho5', hB5⟩
    have ho5 := ho4.kept hB5
    have ho5n := ho5'.mono hs4
    have hr5 := hr4.kept hB5
    have hG5 := grownBy_trans hG4 (below_grownS (g := g) hB5)
    obtain ⟨qa, qc, rfl, hqc⟩ := ho5n.form
    clear ho4 hr4 hG4 hB5 ho5' HS
    go_wp2_with fail
    refine (d_pick g _ _ _ hr5 (by omega)).mono ?_
    rintro e w6 ⟨y, rfl, ⟨hy0, hy1⟩, hr6, hg6⟩
    have ho6 := ho5.keptNew hg6 HGW.out
    have ho6n := ho5n.keptNew hg6 HGW.out
    have hG6 := grownBy_trans hG5 hg6
    clear ho5 ho5n hr5 hG5 hg6 hy1
    by_cases hy : 0 < y
    · have HD3 : Hid (PlD pl2) := ⟨by have := HSL.out; omega, HSM.out⟩
      go_wp2_with fail
      refine (d_pick g _ _ _ hr6 (by omega)).mono ?_
      rintro e w7 ⟨x, rfl, ⟨hx0, hx1⟩, hr7, hg7⟩
      have ho7 := ho6n.keptNew hg7 HGW.out
      have hG7 := grownBy_trans hG6 hg7
      clear hr6 hG6 hg7 hx1
      by_cases hx : x = 0
      · subst hx
        have hdd := d_numlit g _ [-1, 9223372036854775807] w7 hr7 (by omega) (by decide) (by decide)
        go_wp2_with fail
        refine hdd.mono ?_
        rintro e w8 ⟨z, rfl, hz, hr8, hg8⟩
        have ho8 := ho7.keptNew hg8 HGW.out
        have hG8 := grownBy_trans hG7 hg8
        have hzb : -1 ≤ z ∧ z ≤ 9223372036854775807 := by simp at hz; omega
        have HZB := hidd hzb
        clear hdd ho7 hr7 hG7 hg8 hz hzb
        have HBD := hidd (c_l5Bad g _ _ pl2 w1 w8 hr8 (by omega) ho8 HD3.out hn2 hG8 hgw)
        clear ho8 hr8 hG8
        go_wp2_with fail
        refine HBD.out.mono ?_
        rintro e w9 ⟨v9, pl9, rfl, ho9, hd9, _, hr9, hG9⟩
        have hdd := d_numlit g _ [3, 6, 2, 1, 7, -1] w9 hr9 (by omega) (by decide) (by decide)
        go_wp2_with fail
        refine hdd.mono ?_
        rintro e w10 ⟨dd, rfl, hq, hr10, hg10⟩
        have hqb : -1 ≤ dd ∧ dd ≤ 7 := by simp at hq; omega
        have HF : Hid (DrawPII w (-1) 7 (.returned (.tuple #[v9, .int .i64 z, .int .i64 dd])) w10) :=
          ⟨_, _, _, _, rfl, (ho9.keptNew hg10 HGW.out).mono hB1.size, hd9, ⟨by have := HZB.out; omega, HZB.out.2⟩, hqb, hB1.grown (grownBy_trans hG9 hg10) hB1.size (fun k hk => by cases hk; exact hgb)⟩
        clear ho9 hd9 hr9 hG9 hB1 hr10 hg10 hdd hq hqb
        go_wp2
        go_ret3
        exact HF.out
      · have hx' : (x == 0) = false := beq_eq_false_iff_ne.2 hx
        have HBD := hidd (c_l5Bad g _ _ pl2 w1 w7 hr7 (by omega) ho7 HD3.out hn2 hG7 hgw)
        clear ho7 hr7 hG7 hx
        go_wp2_with fail
        refine HBD.out.mono ?_
        rintro e w9 ⟨v9, pl9, rfl, ho9, hd9, _, hr9, hG9⟩
        have hdd := d_numlit g _ [3, 6, 2, 1, 7, -1] w9 hr9 (by omega) (by decide) (by decide)
        go_wp2_with fail
        refine hdd.mono ?_
        rintro e w10 ⟨dd, rfl, hq, hr10, hg10⟩
        have hqb : -1 ≤ dd ∧ dd ≤ 7 := by simp at hq; omega
        have HF : Hid (DrawPII w (-1) 7 (.returned (.tuple #[v9, .int .i64 i, .int .i64 dd])) w10) :=
          ⟨_, _, _, _, rfl, (ho9.keptNew hg10 HGW.out).mono hB1.size, hd9, ⟨by omega, by omega⟩, hqb, hB1.grown (grownBy_trans hG9 hg10) hB1.size (fun k hk => by cases hk; exact hgb)⟩
        clear ho9 hd9 hr9 hG9 hB1 hr10 hg10 hdd hq hqb
        go_wp2
        go_ret3
        exact HF.out
    · have hn2 := hl2
      have HD3 := HD2
      go_wp2_with fail
      refine (d_pick g _ _ _ hr6 (by omega)).mono ?_
      rintro e w7 ⟨x, rfl, ⟨hx0, hx1⟩, hr7, hg7⟩
      have ho7 := ho6.keptNew hg7 HGW.out
      have hG7 := grownBy_trans hG6 hg7
      clear hr6 hG6 hg7 hx1
      by_cases hx : x = 0
      · subst hx
        have hdd := d_numlit g _ [-1, 9223372036854775807] w7 hr7 (by omega) (by decide) (by decide)
        go_wp2_with fail
        refine hdd.mono ?_
        rintro e w8 ⟨z, rfl, hz, hr8, hg8⟩
        have ho8 := ho7.keptNew hg8 HGW.out
        have hG8 := grownBy_trans hG7 hg8
        have hzb : -1 ≤ z ∧ z ≤ 9223372036854775807 := by simp at hz; omega
        have HZB := hidd hzb
        clear hdd ho7 hr7 hG7 hg8 hz hzb
        have HBD := hidd (c_l5Bad g _ _ pl w1 w8 hr8 (by omega) ho8 HD3.out hn2 hG8 hgw)
        clear ho8 hr8 hG8
        go_wp2_with fail
        refine HBD.out.mono ?_
        rintro e w9 ⟨v9, pl9, rfl, ho9, hd9, _, hr9, hG9⟩
        have hdd := d_numlit g _ [3, 6, 2, 1, 7, -1] w9 hr9 (by omega) (by decide) (by decide)
        go_wp2_with fail
        refine hdd.mono ?_
        rintro e w10 ⟨dd, rfl, hq, hr10, hg10⟩
        have hqb : -1 ≤ dd ∧ dd ≤ 7 := by simp at hq; omega
        have HF : Hid (DrawPII w (-1) 7 (.returned (.tuple #[v9, .int .i64 z, .int .i64 dd])) w10) :=
          ⟨_, _, _, _, rfl, (ho9.keptNew hg10 HGW.out).mono hB1.size, hd9, ⟨by have := HZB.out; omega, HZB.out.2⟩, hqb, hB1.grown (grownBy_trans hG9 hg10) hB1.size (fun k hk => by cases hk; exact hgb)⟩
        clear ho9 hd9 hr9 hG9 hB1 hr10 hg10 hdd hq hqb
        go_wp2
        go_ret3
        exact HF.out
      · have hx' : (x == 0) = false := beq_eq_false_iff_ne.2 hx
        have HBD := hidd (c_l5Bad g _ _ pl w1 w7 hr7 (by omega) ho7 HD3.out hn2 hG7 hgw)
        clear ho7 hr7 hG7 hx
        go_wp2_with fail
        refine HBD.out.mono ?_
        rintro e w9 ⟨v9, pl9, rfl, ho9, hd9, _, hr9, hG9⟩
        have hdd := d_numlit g _ [3, 6, 2, 1, 7, -1] w9 hr9 (by omega) (by decide) (by decide)
        go_wp2_with fail
        refine hdd.mono ?_
        rintro e w10 ⟨dd, rfl, hq, hr10, hg10⟩
        have hqb : -1 ≤ dd ∧ dd ≤ 7 := by simp at hq; omega
        have HF : Hid (DrawPII w (-1) 7 (.returned (.tuple #[v9, .int .i64 i, .int .i64 dd])) w10) :=
          ⟨_, _, _, _, rfl, (ho9.keptNew hg10 HGW.out).mono hB1.size, hd9, ⟨by omega, by omega⟩, hqb, hB1.grown (grownBy_trans hG9 hg10) hB1.size (fun k hk => by cases hk; exact hgb)⟩
        clear ho9 hd9 hr9 hG9 hB1 hr10 hg10 hdd hq hqb
        go_wp2
        go_ret3
        exact HF.out
end Go.Proofs.Ytkfejnifbkgihaa
