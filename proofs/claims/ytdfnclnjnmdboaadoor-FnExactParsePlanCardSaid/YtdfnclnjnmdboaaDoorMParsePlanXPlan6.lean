/- Lemmas and contracts for ParsePlanX (Plan6 Plan7): plain words on memory, contracts of the functions that the law reaches. No condition but what each states. -/
import Derived.Test.YtdfnclnjnmdboaaDoorMParsePlanXPlan4
import Derived.Test.YtdfnclnjnmdboaaDoorMParsePlanXGrP
namespace Go.Proofs.YtdfnclnjnmdboaaDoor
set_option linter.unusedVariables false
open Go.RowKit

theorem smallB_no {xs : List Int} {k : Nat} (hk : k < xs.length) (h : inB (xs.getD k 0) (-1500) 1500 = false) : smallB xs = false := by
  unfold smallB
  rw [show allIn xs 1500 = false from allIn_not hk h, Bool.and_false]
theorem lgF_t {l : List Int} {d : Int} {f n : Nat} (h : runB (l.take (n + 1)) d = true) : lgF l d (f + 1) n = lgF l d f (n + 1) := if_pos h
theorem lgF_f {l : List Int} {d : Int} {f n : Nat} (h : runB (l.take (n + 1)) d = false) : lgF l d (f + 1) n = n := if_neg (by rw [h]; decide)
/-- the plan by longest runs, if numbers and degree allow one -/
def grB (l : List Int) (d : Int) : Bool := smallB l && inB d 0 6
def grL (l : List Int) (d : Int) : List Seg := if grB l d = true then gr l d else []
theorem runL_len (l : List Int) (d : Int) : (runL l d).length ≤ 7 := by
  unfold runL
  split
  · rename_i h
    exact (polyB_iff (runB_iff h).2.2.2).2.1
  · simp
theorem gr_mem (d : Int) : ∀ f l, ∀ s ∈ grF d f l, s.2.length ≤ 7
  | 0, _, s, h => by simp [grF] at h
  | f + 1, l, s, h => by
    unfold grF at h
    split at h
    · cases h
    · rcases List.mem_cons.1 h with rfl | h
      · exact runL_len _ _
      · exact gr_mem d f _ s h
theorem gr_len (d : Int) : ∀ f l, (grF d f l).length ≤ l.length
  | 0, l => by simp [grF]
  | f + 1, l => by
    unfold grF
    split
    · simp
    · rename_i h
      have := gr_len d f (l.drop (max (lg l d) 1))
      have hl : 0 < l.length := List.length_pos_iff.2 h
      simp at this ⊢
      omega
theorem grL_len (l : List Int) (d : Int) : (grL l d).length ≤ 60 := by
  unfold grL
  split
  · rename_i h
    unfold grB at h
    rw [Bool.and_eq_true, smallB_iff] at h
    have := gr_len d l.length l
    have h2 := h.1.1.2
    unfold gr; omega
  · simp
theorem grL_mem (l : List Int) (d : Int) : ∀ s ∈ grL l d, s.2.length ≤ 7 := by
  unfold grL
  split
  · exact gr_mem d _ l
  · intro s h; cases h
theorem RdI_form {w : World} {v : Value} {xs : List Int} (h : RdI w v xs) : ∃ a c, v = .slice a xs.length c := by
  obtain ⟨a, c, e, _⟩ := h
  exact ⟨a, c, by rw [e, List.length_map]⟩

end Go.Proofs.YtdfnclnjnmdboaaDoor

namespace Go.Proofs.YtdfnclnjnmdboaaDoor
set_option linter.unusedVariables false
open Go.RowKit

/-- segments in memory whose polynomials read as a plan's, in a slice of any owner -/
theorem RdN_of_RdR {w : World} {v : Value} {rs : List RSeg} (h : RdR w v rs) : RdN w 2 v rs.length (segCells rs) := by
  obtain ⟨a, cap, rfl, hc, h⟩ := h
  refine ⟨a, cap, rfl, segCells_len rs, ?_⟩
  rcases h with rfl | ⟨b, off, rfl, hlt, h⟩
  · exact .inl rfl
  · exact .inr ⟨b, off, rfl, hlt, h⟩
theorem segCells_mem : ∀ (rs : List RSeg), (∀ k, k < rs.length → ∃ a n c, (rs.getD k noR).2 = .slice a n c) → ∀ y ∈ segCells rs, y.oneCell' = true
  | [], _, y, h => by cases h
  | s :: rs, hs, y, h => by
    simp only [segCells, List.mem_cons] at h
    rcases h with rfl | rfl | h
    · rfl
    · obtain ⟨a, n, c, e⟩ := hs 0 (by simp)
      simp at e
      rw [e]; rfl
    · exact segCells_mem rs (fun k hk => by have := hs (k + 1) (by simpa using hk); simpa using this) y h
theorem Polys.slices {w : World} {rs : List RSeg} {pl : List Seg} (h : Polys w rs pl) : ∀ k, k < rs.length → ∃ a n c, (rs.getD k noR).2 = .slice a n c := fun k hk => by
  obtain ⟨a, c, e, _⟩ := (h.2 k hk).2.1
  exact ⟨_, _, _, e⟩
theorem getD_takeR (rs : List RSeg) (m k : Nat) (h : k < m) : (rs.take m).getD k noR = rs.getD k noR := by simp [List.getD, h]
theorem getD_takeG (rs : List Seg) (m k : Nat) (h : k < m) : (rs.take m).getD k noG = rs.getD k noG := by simp [List.getD, h]
theorem getD_dropR (rs : List RSeg) (m k : Nat) : (rs.drop m).getD k noR = rs.getD (m + k) noR := by simp [List.getD]
theorem getD_dropG (rs : List Seg) (m k : Nat) : (rs.drop m).getD k noG = rs.getD (m + k) noG := by simp [List.getD]
theorem Polys.take {w : World} {rs : List RSeg} {pl : List Seg} (h : Polys w rs pl) (m : Nat) : Polys w (rs.take m) (pl.take m) :=
  ⟨by simp [h.1], fun k hk => by
    have hk' : k < m ∧ k < rs.length := by simp at hk; omega
    rw [getD_takeR _ _ _ hk'.1, getD_takeG _ _ _ hk'.1]; exact h.2 k hk'.2⟩
theorem Polys.drop {w : World} {rs : List RSeg} {pl : List Seg} (h : Polys w rs pl) (m : Nat) : Polys w (rs.drop m) (pl.drop m) :=
  ⟨by simp [h.1], fun k hk => by
    rw [getD_dropR, getD_dropG]; exact h.2 (m + k) (by simp at hk; omega)⟩
theorem getD_appR (a b : List RSeg) (k : Nat) : (a ++ b).getD k noR = if k < a.length then a.getD k noR else b.getD (k - a.length) noR := by
  by_cases h : k < a.length
  · rw [if_pos h]; simp only [List.getD]; rw [List.getElem?_append_left h]
  · rw [if_neg h]; simp only [List.getD]; rw [List.getElem?_append_right (by omega)]
theorem getD_appG (a b : List Seg) (k : Nat) : (a ++ b).getD k noG = if k < a.length then a.getD k noG else b.getD (k - a.length) noG := by
  by_cases h : k < a.length
  · rw [if_pos h]; simp only [List.getD]; rw [List.getElem?_append_left h]
  · rw [if_neg h]; simp only [List.getD]; rw [List.getElem?_append_right (by omega)]
theorem Polys.app {w : World} {rs ss : List RSeg} {pl ql : List Seg} (h : Polys w rs pl) (k : Polys w ss ql) : Polys w (rs ++ ss) (pl ++ ql) :=
  ⟨by simp [h.1, k.1], fun i hi => by
    rw [getD_appR, getD_appG]
    by_cases hl : i < rs.length
    · rw [if_pos hl, if_pos (by rw [← h.1]; exact hl)]; exact h.2 i hl
    · rw [if_neg hl, if_neg (by rw [← h.1]; exact hl), ← h.1]; exact k.2 _ (by simp at hi; omega)⟩
theorem sizeSeg (w : World) : (sizeOf (Tryd.prog.elem 25)).run Tryd.prog w = .ok 2 w := by kernel_rfl
theorem RdR_sub {w : World} {a : Option Addr} {n cap l h : Nat} {rs : List RSeg} (hr : RdR w (.slice a n cap) rs) (hl : l ≤ h) (hh : h ≤ rs.length) (hc : n = rs.length) :
    RdR w (sliced a l h cap 2) ((rs.take h).drop l) := by
  subst hc
  obtain ⟨a2, c2, e, hcap, hr⟩ := hr
  simp only [Value.slice.injEq, true_and] at e
  obtain ⟨rfl, rfl⟩ := e
  refine ⟨if cap = l then a else a.map (·.add (l * 2)), cap - l, ?_, ?_, ?_⟩
  · unfold sliced; simp; omega
  · simp; omega
  · by_cases hlh : l = h
    · left; subst hlh; simp
    · right
      rcases hr with rfl | ⟨b, off, rfl, hlt, hr⟩
      · simp at hh; omega
      · refine ⟨b, off + l * 2, ?_, hlt, fun i hi => ?_⟩
        · rw [if_neg (by omega), Option.map_some, addr_add]
        · simp at hi
          rw [Nat.add_assoc, hr (l * 2 + i) (by omega), segCells_drop, segCells_take, List.getElem?_drop, List.getElem?_take, if_pos (by omega)]
set_option maxRecDepth 20000 in
/-- plan[l:h], under a name -/
theorem slP_lh (a : Option Addr) (n cap l h : Nat) (hl : l ≤ h) (hh : h ≤ n) (hc : n ≤ cap) : ∃ A, (∀ W, (Instr.slice 25 (.slice a n cap) (some (.int .i64 (l : Int))) (some (.int .i64 (h : Int))) none).run Tryd.prog W = .ok (.slice A (h - l) (cap - l)) W) ∧
    (∀ W rs, rs.length = n → RdR W (.slice a n cap) rs → RdR W (.slice A (h - l) (cap - l)) ((rs.take h).drop l)) := by
  refine ⟨if cap = l then a else a.map (·.add (l * 2)), fun W => ?_, ?_⟩
  · rw [run_slice_lh W 25 a n cap Tryd.underlying25 .i64 .i64 (l : Int) (h : Int) (by omega) (by omega) (by omega), sizeSeg]
    rfl
  · rintro W rs rfl hr
    exact RdR_sub hr hl hh rfl
set_option maxRecDepth 20000 in
theorem slP_from (a : Option Addr) (n cap l : Nat) (hl : l ≤ n) (hc : n ≤ cap) : ∃ A, (∀ W, (Instr.slice 25 (.slice a n cap) (some (.int .i64 (l : Int))) none none).run Tryd.prog W = .ok (.slice A (n - l) (cap - l)) W) ∧
    (∀ W rs, rs.length = n → RdR W (.slice a n cap) rs → RdR W (.slice A (n - l) (cap - l)) (rs.drop l)) := by
  refine ⟨if cap = l then a else a.map (·.add (l * 2)), fun W => ?_, ?_⟩
  · rw [run_slice_l W 25 a n cap Tryd.underlying25 .i64 (l : Int) (by omega) (by omega), sizeSeg]
    rfl
  · rintro W rs rfl hr
    have := RdR_sub hr hl (Nat.le_refl _) rfl
    rwa [List.take_length] at this
theorem RdR_to {W : World} {a : Option Addr} {n cap h : Nat} {rs : List RSeg} (hn : rs.length = n) (hr : RdR W (.slice a n cap) rs) (hh : h ≤ n) : RdR W (.slice a h cap) (rs.take h) := by
  subst hn
  have h1 := RdR_sub hr (Nat.zero_le h) hh rfl
  rw [List.drop_zero] at h1
  have e : sliced a 0 h cap 2 = .slice a h cap := by
    unfold sliced
    cases a with
    | none => simp
    | some x => simp [Addr.add]
  rwa [e] at h1

theorem madeS (w : World) : (w.alloc (.cells #[] 39)).ownsRow w.heap.size 39 2 (.slice (some ⟨w.heap.size, 0, none⟩) 0 0) 0 [] := World.ownsRow_made w #[] 0 (Nat.le_refl _) (by decide) rfl
def EditR (w : World) (rs : List RSeg) (e : Ending) (w' : World) : Prop := ∃ v, e = .returned v ∧ w'.ownsRow w.heap.size 39 2 v rs.length (segCells rs) ∧ Below w.heap.size w w'
/-- a plan with a segment split -/
def spB (pl : List Seg) (i at' : Int) : Bool := planB pl && inB i 0 ((pl.length : Int) - 1) && inB at' 1 ((pl.getD i.toNat noG).1 - 1) && shB (pl.getD i.toNat noG).2 at'.toNat
def spE (pl : List Seg) (i t : Nat) : List Seg := pl.take i ++ [((t : Int), (pl.getD i noG).2), ((pl.getD i noG).1 - t, shf (pl.getD i noG).2 t)] ++ pl.drop (i + 1)
def spL (pl : List Seg) (i at' : Int) : List Seg := if spB pl i at' = true then spE pl i.toNat at'.toNat else []
/-- a plan in memory is returned, whoever owns it -/
def RetPB (w : World) (pl : List Seg) (b : Bool) (e : Ending) (w' : World) : Prop := ∃ v, e = .returned (.tuple #[v, .bool b]) ∧ RdP w' v pl ∧ Below w.heap.size w w'
theorem Polys_lit2 {w : World} {c1 c2 : Int} {v1 v2 : Value} {p1 p2 : List Int} (h1 : RdI w v1 p1) (k1 : CapOk v1) (h2 : RdI w v2 p2) (k2 : CapOk v2) : Polys w [(c1, v1), (c2, v2)] [(c1, p1), (c2, p2)] :=
  ⟨rfl, fun k hk => by
    match k, hk with
    | 0, _ => exact ⟨rfl, h1, k1⟩
    | 1, _ => exact ⟨rfl, h2, k2⟩⟩
theorem RdR_lit2 (W : World) (c1 c2 : Int) (v1 v2 : Value) (t : TypeId) : RdR (W.alloc (.cells #[.int .i64 c1, v1, .int .i64 c2, v2] t)) (.slice (some ⟨W.heap.size, 0, none⟩) 2 2) [(c1, v1), (c2, v2)] := by
  refine ⟨_, 2, rfl, Nat.le_refl _, .inr ⟨W.heap.size, 0, rfl, by simp, fun i hi => ?_⟩⟩
  match i, hi with
  | 0, _ => simp [go_sem, segCells]
  | 1, _ => simp [go_sem, segCells]
  | 2, _ => simp [go_sem, segCells]
  | 3, _ => simp [go_sem, segCells]
theorem keep3c {w wa wb : World} {b o f : Nat} {v0 v1 v2 : Value} (hb : b < w.heap.size) (hf : f < w.heap.size) (h : Below w.heap.size w wa ∧ wa.cell? ⟨b, o, none⟩ = some v0 ∧ wa.cell? ⟨f, 0, none⟩ = some v1 ∧ wa.cell? ⟨f, 1, none⟩ = some v2) (k : Below wa.heap.size wa wb) :
    Below w.heap.size w wb ∧ wb.cell? ⟨b, o, none⟩ = some v0 ∧ wb.cell? ⟨f, 0, none⟩ = some v1 ∧ wb.cell? ⟨f, 1, none⟩ = some v2 := by
  obtain ⟨h0, h1, h2, h3⟩ := h
  have hs := h0.size
  obtain ⟨hc, _⟩ := bcell k
  exact ⟨bthen h0 k, by rw [hc _ _ (by omega)]; exact h1, by rw [hc _ _ (by omega)]; exact h2, by rw [hc _ _ (by omega)]; exact h3⟩
theorem emptyP (w w1 : World) (pl : List Seg) (b : Bool) (hl : pl = []) (h : Below w.heap.size w w1) : RetPB w pl b (.returned (.tuple #[.slice (some ⟨w1.heap.size, 0, none⟩) 0 0, .bool b])) (w1.alloc (.cells #[] 39)) :=
  ⟨_, rfl, by rw [hl]; exact (OwP.made w1 w1.heap.size (Nat.le_refl _)).rd, h.alloc h.size _⟩
theorem RdI_cap {w : World} {v : Value} {xs : List Int} (h : RdI w v xs) (hc : CapOk v) : ∃ a c, v = .slice a xs.length c ∧ xs.length ≤ c := by
  obtain ⟨a, c, rfl⟩ := RdI_form h
  exact ⟨a, c, rfl, hc _ _ _ rfl⟩
theorem spE_len {pl : List Seg} {i t : Nat} (h : i < pl.length) : (spE pl i t).length = pl.length + 1 := by
  unfold spE; simp; omega
theorem spE_mem {pl : List Seg} {i t M : Nat} (h : ∀ s ∈ pl, s.2.length ≤ M) (hi : i < pl.length) : ∀ s ∈ spE pl i t, s.2.length ≤ M := by
  intro s hs
  have hm := h (pl.getD i noG) (by simp [List.getD, hi])
  unfold spE at hs
  simp only [List.append_assoc, List.mem_append, List.mem_cons, List.not_mem_nil, or_false] at hs
  rcases hs with hs | (rfl | rfl) | hs
  · exact h s (List.mem_of_mem_take hs)
  · exact hm
  · show (shf _ _).length ≤ M
    rw [shf_len]; exact hm
  · exact h s (List.mem_of_mem_drop hs)
theorem spB_iff {pl : List Seg} {i t : Int} (h : spB pl i t = true) : planB pl = true ∧ 0 ≤ i ∧ i.toNat < pl.length ∧ 1 ≤ t ∧ t ≤ (pl.getD i.toNat noG).1 - 1 ∧ shB (pl.getD i.toNat noG).2 t.toNat = true := by
  unfold spB at h
  simp only [Bool.and_eq_true] at h
  obtain ⟨⟨⟨h1, h2⟩, h3⟩, h4⟩ := h
  have a := inB_iff.1 h2
  have b := inB_iff.1 h3
  exact ⟨h1, a.1, by omega, b.1, b.2, h4⟩
theorem spL_len (pl : List Seg) (i t : Int) : (spL pl i t).length ≤ pl.length + 1 := by
  unfold spL
  split
  · rename_i h
    rw [spE_len (spB_iff h).2.2.1]; omega
  · simp
theorem spL_mem {pl : List Seg} {M : Nat} (i t : Int) (h : ∀ s ∈ pl, s.2.length ≤ M) : ∀ s ∈ spL pl i t, s.2.length ≤ M := by
  unfold spL
  split
  · rename_i hb
    exact spE_mem h (spB_iff hb).2.2.1
  · intro s hs; cases hs
end Go.Proofs.YtdfnclnjnmdboaaDoor
