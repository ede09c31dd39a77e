/- The frame that all proofs of this seat share: a law that returns true and changes nothing that was there before the call leaves its arguments reading as they did. No condition. -/
import Derived.Test.YtdgnhplaakjlgaaGreatDoorHead
import Derived.WalkKit
import Derived.ProofKit
import Derived.OpenShut
import Derived.ShutString
import Derived.Carry
import Derived.Lib.SmallJoins
import Derived.SliceStrings
namespace Go.Proofs.YtdgnhplaakjlgaaGreatDoor
set_option linter.unusedVariables false
open Go.ChangeShapes Go.WideShapes Go.ChangeAt Go.RowKit


theorem trodAll_below {H : Type} {enc : TypeId × Value → H} {P : Program} (hl : laidOutB P = true) {W W' : World} (hb : Below W.heap.size W W') :
    ∀ (ts : List TypeId) (vs : List Value) (ds : List (DataW H)) (ps : List MemPlace), (ts.all fun t => P.readableRec t && decide (t < P.types.size)) = true →
      DataW.TrodAll enc P W 0 (fun _ => true) true ts vs ds ps → (∀ x ∈ ps, x.block < W.heap.size) → DataW.TrodAll enc P W' 0 (fun b => decide (b < W.heap.size)) true ts vs ds ps := by
  intro ts
  induction ts with
  | nil =>
    intro vs ds ps _ h _
    obtain ⟨rfl, rfl, rfl⟩ := trodAll_nil h
    exact trodAll_mk0
  | cons t ts ih =>
    intro vs ds ps ht h hp
    obtain ⟨v, vs', d, ds', p, q, rfl, rfl, rfl, h0, h1⟩ := trodAll_cons h
    simp only [List.all_cons, Bool.and_eq_true, decide_eq_true_eq] at ht
    obtain ⟨⟨h2, h3⟩, h4⟩ := ht
    exact trodAll_cons_mk (Below.trod hl h2 h3 h0 hb (fun x hx => hp x (by simp [hx]))) (ih vs' ds' q h4 h1 (fun x hx => hp x (by simp [hx])))

theorem law_post {H : Type} {enc : TypeId × Value → H} {P : Program} {f : Func} {s : ChangeSpec} {W W' : World} {args : Array Value} {ds gs : List (DataW H)} {before : List MemPlace} {tb : TypeId} {vr : Value}
    (hl : laidOutB P = true) (hW : DataW.Whole enc P f.params.toList s.vars false W args.toList ds gs before) (hvars : s.vars = [])
    (hts : (f.params.toList.all fun t => P.readableRec t && decide (t < P.types.size)) = true)
    (hrt : f.resultTypes = #[tb]) (hbool : P.underlying tb = some .bool)
    (hr : (s.fn H ds).results = [.lit (.bool true)]) (ha : (s.fn H ds).args = ds) (hv : (s.fn H ds).vars = [])
    (hvr : vr = .bool true) (hb : Below W.heap.size W W') : s.post enc P f false true false false W args vr W' := by
  subst hvr
  have hW0 := hW
  obtain ⟨p, q, hA, hV, hps, hz, hn⟩ := hW
  rw [hvars] at hV
  obtain ⟨rfl, rfl⟩ := trodVars_none hV
  have hlt : ∀ x ∈ p, x.block < W.heap.size := fun x hx => hW0.lt x (by rw [hps]; simp [hx])
  refine ⟨ds, [], before, [], p, [], hW0, ?_, ?_, ?_, hb.frame _, fun h => by cases h⟩
  · rw [List.append_nil, hr, hrt]
    exact trodAll_mk1 (shut_bool hbool true)
  · rw [List.append_nil, ha]
    exact trodAll_below hl hb _ _ _ _ hts hA hlt
  · rw [List.append_nil, hv, hvars]
    rfl


/-- v reads as a list of one-cell values (Sl.tpl's RdL is this) -/
def RdL (w : World) (v : Value) (xs : List Value) : Prop :=
  ∃ a cap, v = .slice a xs.length cap ∧ (xs = [] ∨ ∃ b off, a = some ⟨b, off, none⟩ ∧ b < w.heap.size ∧ ∀ i, i < xs.length → w.cell? ⟨b, off + i, none⟩ = xs[i]?)

/-- a slice's length is at most its capacity -/
def CapOk (v : Value) : Prop := ∀ a l c, v = .slice a l c → l ≤ c

theorem addr_add (b off i : Nat) : (⟨b, off, none⟩ : Addr).add i = ⟨b, off + i, none⟩ := by
  by_cases h : i = 0
  · subst h; simp [Addr.add]
  · simp [Addr.add, h]

theorem RdL_of_cells {w : World} {a : Addr} {len cap : Nat} {xs : List Value} (hl : len ≤ xs.length) (h : ∀ i, i < xs.length → w.cell? (a.add i) = xs[i]?) : RdL w (.slice (some a) len cap) (xs.take len) := by
  refine ⟨some a, cap, by simp [Nat.min_eq_left hl], ?_⟩
  by_cases h0 : len = 0
  · exact .inl (by simp [h0])
  · refine .inr ?_
    have hx : 0 < xs.length := by omega
    have h1 := h 0 hx
    obtain ⟨b, off, sp⟩ := a
    have e0 : (⟨b, off, sp⟩ : Addr).add 0 = ⟨b, off, sp⟩ := by simp [Addr.add]
    rw [e0] at h1
    have hc : w.cell? ⟨b, off, sp⟩ ≠ none := by rw [h1]; simp [hx]
    have hsp : sp = none := by
      cases sp with
      | none => rfl
      | some s =>
        exfalso; apply hc
        unfold World.cell?
        split <;> simp
    subst hsp
    refine ⟨b, off, rfl, ?_, fun i hi => ?_⟩
    · by_cases hb : b < w.heap.size
      · exact hb
      · exfalso; apply hc
        unfold World.cell?
        rw [Array.getElem?_eq_none (show w.heap.size ≤ b by omega)]
    · have hi' : i < len ∧ i < xs.length := by simp at hi; omega
      have := h i hi'.2
      rw [addr_add] at this
      rw [this, List.getElem?_take, if_pos hi'.1]

set_option maxRecDepth 100000 in
theorem open_ints {H : Type} {enc : TypeId × Value → H} {W : World} {base : Nat} {v : Value} {d : DataW H} {p : List MemPlace} {r : Reach}
    (hv : Value.okWide Tryz.prog W r base 28 v) (h : DataW.Trod enc Tryz.prog W 0 (fun _ => true) true 28 v d p) :
    ∃ xs : List Int, RdL W v (xs.map (Value.int .i64)) ∧ xs.length ≤ 9223372036854775807 ∧ ∀ n ∈ xs, (Lit.int .i64 n).wf = true := by
  obtain ⟨a0, len, cap, rfl⟩ := okWide_slice Tryz.underlying28 hv
  obtain ⟨fuel, hf⟩ := h
  rcases Go.ChangeShapes.open_ints Tryz.underlying28 Tryz.underlying3 (by kernel_rfl) hf with ⟨hcs, _⟩ | ⟨a, len', cap', zs, hcs, _, hl, hm, hz, _, hcell, hwf⟩
  · have e : Value.slice a0 len cap = .slice none 0 0 := by simpa [Value.cells] using hcs
    rw [e]
    exact ⟨[], ⟨none, 0, rfl, .inl rfl⟩, by simp, by simp⟩
  · have e : Value.slice a0 len cap = .slice (some a) len' cap' := by simpa [Value.cells] using hcs
    rw [e]
    have hz' : zs.length = cap' := by simpa using hz
    have hm' : cap' ≤ 9223372036854775807 := by simpa [maxLen] using hm
    refine ⟨zs.take len', ?_, by simp; omega, fun n hn => hwf n (List.mem_of_mem_take hn)⟩
    rw [List.map_take]
    refine RdL_of_cells (by simp; omega) (fun i hi => ?_)
    have hi' : i < zs.length := by simpa using hi
    rw [hcell i hi']
    simp [List.getD, hi']

set_option maxRecDepth 100000 in
theorem open_strs {H : Type} {enc : TypeId × Value → H} {W : World} {base : Nat} {v : Value} {d : DataW H} {p : List MemPlace} {r : Reach}
    (hv : Value.okWide Tryz.prog W r base 25 v) (h : DataW.Trod enc Tryz.prog W 0 (fun _ => true) true 25 v d p) :
    ∃ xs : List ByteArray, RdL W v (xs.map Value.string) ∧ xs.length ≤ 9223372036854775807 ∧ ∀ s ∈ xs, s.size ≤ 9223372036854775807 := by
  obtain ⟨a0, len, cap, rfl⟩ := okWide_slice Tryz.underlying25 hv
  obtain ⟨fuel, hf⟩ := h
  rcases Go.ChangeShapes.open_strings Tryz.underlying25 Tryz.underlying9 (by kernel_rfl) hf with ⟨hcs, _⟩ | ⟨a, len', cap', zs, hcs, _, hl, hm, hz, _, hcell, hwf⟩
  · have e : Value.slice a0 len cap = .slice none 0 0 := by simpa [Value.cells] using hcs
    rw [e]
    exact ⟨[], ⟨none, 0, rfl, .inl rfl⟩, by simp, by simp⟩
  · have e : Value.slice a0 len cap = .slice (some a) len' cap' := by simpa [Value.cells] using hcs
    rw [e]
    have hz' : zs.length = cap' := by simpa using hz
    have hm' : cap' ≤ 9223372036854775807 := by simpa [maxLen] using hm
    refine ⟨zs.take len', ?_, by simp; omega, fun n hn => by have := hwf n (List.mem_of_mem_take hn); simpa [maxLen] using this⟩
    rw [List.map_take]
    refine RdL_of_cells (by simp; omega) (fun i hi => ?_)
    have hi' : i < zs.length := by simpa using hi
    rw [hcell i hi']
    simp [List.getD, hi']
set_option maxRecDepth 100000 in
theorem open_bytes {H : Type} {enc : TypeId × Value → H} {W : World} {base : Nat} {v : Value} {d : DataW H} {p : List MemPlace} {r : Reach}
    (hv : Value.okWide Tryz.prog W r base 22 v) (h : DataW.Trod enc Tryz.prog W 0 (fun _ => true) true 22 v d p) :
    ∃ xs : List Int, RdL W v (xs.map (Value.int .u8)) ∧ xs.length ≤ 9223372036854775807 ∧ (∀ n ∈ xs, (Lit.int .u8 n).wf = true) ∧ CapOk v := by
  obtain ⟨a0, len, cap, rfl⟩ := okWide_slice Tryz.underlying22 hv
  obtain ⟨fuel, hf⟩ := h
  rcases Go.ChangeShapes.open_ints Tryz.underlying22 Tryz.underlying5 (by kernel_rfl) hf with ⟨hcs, _⟩ | ⟨a, len', cap', zs, hcs, _, hl, hm, hz, _, hcell, hwf⟩
  · have e : Value.slice a0 len cap = .slice none 0 0 := by simpa [Value.cells] using hcs
    rw [e]
    exact ⟨[], ⟨none, 0, rfl, .inl rfl⟩, by simp, by simp, fun a l c e => by cases e; exact Nat.le_refl _⟩
  · have e : Value.slice a0 len cap = .slice (some a) len' cap' := by simpa [Value.cells] using hcs
    rw [e]
    have hz' : zs.length = cap' := by simpa using hz
    have hm' : cap' ≤ 9223372036854775807 := by simpa [maxLen] using hm
    refine ⟨zs.take len', ?_, by simp; omega, fun n hn => hwf n (List.mem_of_mem_take hn), fun a l c e => by cases e; exact hl⟩
    rw [List.map_take]
    refine RdL_of_cells (by simp; omega) (fun i hi => ?_)
    have hi' : i < zs.length := by simpa using hi
    rw [hcell i hi']
    simp [List.getD, hi']
end Go.Proofs.YtdgnhplaakjlgaaGreatDoor
