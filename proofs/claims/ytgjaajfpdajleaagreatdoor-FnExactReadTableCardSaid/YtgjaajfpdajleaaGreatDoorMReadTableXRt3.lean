/- Lemmas and contracts for ReadTableX (Rt3): plain words on memory, contracts of the functions that the law reaches. No condition but what each states. -/
import Derived.Test.YtgjaajfpdajleaaGreatDoorMReadTableXSq3
import Derived.Test.YtgjaajfpdajleaaGreatDoorMReadTableXRt2
import Derived.Test.YtgjaajfpdajleaaGreatDoorMReadTableXRp3
import Derived.Test.YtgjaajfpdajleaaGreatDoorMReadTableXPt2
import Derived.RangeFuncBox
namespace Go.Proofs.YtgjaajfpdajleaaGreatDoor
set_option linter.unusedVariables false
open Go.RowKit Go.Shelf
attribute [local go_sem] Oper.semAt_some

/-! ### the program's reading, piece by piece -/
theorem imP_snoc (C R A : Nat) (l : List (List UInt8)) (p : List UInt8) (v : List Int) : imP C R A (l ++ [p]) v = (imP C R A l v).bind (fun u => if rdB (cutS 10 p) C R A = true then some (u ++ celV (cutS 10 p) C A) else none) := by
  induction l generalizing v with
  | nil => simp [imP]
  | cons q l ih =>
    rw [List.cons_append, imP, imP]
    by_cases h : rdB (cutS 10 q) C R A = true
    · rw [if_pos h, if_pos h, ih]
    · rw [if_neg h, if_neg h]; rfl
theorem imP_none (C R A : Nat) (l r : List (List UInt8)) (v : List Int) (h : imP C R A l v = none) : imP C R A (l ++ r) v = none := by
  induction l generalizing v with
  | nil => simp [imP] at h
  | cons q l ih =>
    rw [List.cons_append, imP]
    rw [imP] at h
    by_cases hb : rdB (cutS 10 q) C R A = true
    · rw [if_pos hb] at h ⊢; exact ih _ h
    · rw [if_neg hb]
def sumP (l : List (List UInt8)) : Nat := (l.map fun p => p.length + 1).sum
theorem sumP_snoc (l : List (List UInt8)) (p : List UInt8) : sumP (l ++ [p]) = sumP l + (p.length + 1) := by simp [sumP]
theorem celV_cut (p : List UInt8) (C A : Nat) (hA : A ≤ 6) : (celV (cutS 10 p) C A).length ≤ 6 * (p.length + 1) :=
  Nat.le_trans (celV_len _ _ _) (Nat.mul_le_mul hA (cutS_len 10 p))
theorem sumP_split (sep : ByteArray) (h1 : 1 ≤ sep.size) : ∀ (k : Nat) (s : ByteArray), sumP ((Lib.splitB sep 0 k s).map (·.data.toList)) ≤ s.size + 1
  | 0, s => by
    have := size_data s
    rw [Lib.splitB_zero]
    simp only [sumP, List.map_cons, List.map_nil, List.sum_cons, List.sum_nil]
    omega
  | k + 1, s => by
    rcases Lib.indexB_cases s sep with hix | ⟨i, hix, hib⟩
    · have := size_data s
      rw [Lib.splitB_miss sep 0 (k + 1) s hix]
      simp only [sumP, List.map_cons, List.map_nil, List.sum_cons, List.sum_nil]
      omega
    · rw [Lib.splitB_hit sep 0 k s i hix]
      have h := sumP_split sep h1 k (s.extract (i + sep.size) s.size)
      rw [ByteArray.size_extract] at h
      have h2 : (s.extract 0 (i + 0)).size = i := by rw [ByteArray.size_extract]; omega
      rw [← size_data] at h2
      simp only [List.map_cons, sumP, List.sum_cons] at h ⊢
      rw [h2]
      omega
theorem sumP_len (l : List (List UInt8)) : l.length ≤ sumP l := by
  induction l with
  | nil => simp [sumP]
  | cons q l ih => simp only [sumP, List.map_cons, List.sum_cons, List.length_cons] at ih ⊢; omega
theorem splitB_cut (x : ByteArray) : Lib.splitB ⟨#[10]⟩ 0 (Lib.countB x ⟨#[10]⟩) x = cutS 10 x.data.toList := by
  have h1 := Lib.splitB_data ⟨#[10]⟩ 0 (Lib.countB x ⟨#[10]⟩) x
  have h2 : Lib.splitK [10] 0 (Lib.count x.data.toList [10]) x.data.toList = cutP 10 x.data.toList := split_one 10 x.data.toList
  unfold cutS
  rw [← h2]
  have h3 : Lib.splitK [10] 0 (Lib.count x.data.toList [10]) x.data.toList = (Lib.splitB ⟨#[10]⟩ 0 (Lib.countB x ⟨#[10]⟩) x).map (·.data.toList) := h1.symm
  rw [h3, List.map_map, show (bytS ∘ fun x : ByteArray => x.data.toList) = id from funext fun x => bytS_of x]
  simp
/-- the pieces of the program's reading -/
theorem pieces_eq (T : ByteArray) (l : List UInt8) (hT : IsS T (Lib.trimSuffix l [10])) : (Lib.splitB ⟨#[10, 10]⟩ 0 (Lib.countB T ⟨#[10, 10]⟩) T).map (·.data.toList) = imG l := by
  rw [Lib.splitB_data]
  unfold imG
  rw [← show T.data.toList = Lib.trimSuffix l [10] from hT]
  rfl
theorem cells_heap {W W' : World} (h : W'.heap = W.heap) (p : Addr) : W'.cell? p = W.cell? p := World.cell?_of_block (by rw [h])

set_option maxRecDepth 20000 in
theorem c_Split10 (x : ByteArray) (W : World) (hm : MaxW W) (hx : x.size ≤ 1048576) : Calls Tryz.prog 49 #[.string x, .string ⟨#[10]⟩] W (FreshS W (cutS 10 x.data.toList)) := by
  obtain ⟨m, hm⟩ := hm
  refine (Tryz.strings_Split x ⟨#[10]⟩ m W (by omega) hm (by decide)).mono ?_
  rintro e w' ⟨rfl, rfl⟩
  rw [splitB_cut]
  have hl : Lib.countB x ⟨#[10]⟩ + 1 = (cutS 10 x.data.toList).length := by
    rw [← splitB_cut, Lib.splitB_all _ (by decide) 0 _ x rfl]
  have hl2 := cutS_len 10 x.data.toList
  rw [size_data] at hl2
  rw [hl]
  refine ⟨_, rfl, ?_, (Below.refl _ _).alloc (Nat.le_refl _) _⟩
  refine ⟨by simp, .inr ⟨W.heap.size, _, _, rfl, Nat.le_refl _, World.alloc_heap_new _ _, Nat.le_refl _, by simp only [maxLen]; omega, by simp, by simp; exact List.take_of_length_le (by simp)⟩⟩
theorem c_readLinesB (R A C : Nat) (v : Value) (ys : List ByteArray) (w : World) (htab : TabW w) (herr : ErrW w) (ha : RdS w v ys) (hs : ∀ y ∈ ys, y.size ≤ 1048576) (hl : layB R A C = true) :
    Calls Tryz.prog 48 #[(.agg #[.int .i64 (R : Int), .int .i64 (A : Int), .int .i64 (C : Int)]), v] w (FreshIB w (rlF ys C R A) (rdB ys C R A)) := by
  by_cases hx : ys.length ≤ 1048576
  · exact c_readLines R A C v ys w htab herr ha hx hs hl
  · obtain ⟨b, cap, rfl, _⟩ := ha
    obtain ⟨l1, l2, l3, l4, l5, l6, l7, l8⟩ := lay_mul hl
    simp only [List.length_map]
    have h0 : rdB ys C R A = false := by unfold rdB; rw [decide_eq_false (by omega)]; rfl
    have hf : rlF ys C R A = [] := by unfold rlF; rw [h0]; rfl
    have g1 : (R : Int) < (ys.length : Int) := by omega
    rw [h0, hf]
    clear h0 hf hl
    go_enter Tryz.func48, Tryz.ntmps48
    go_wp2
    go_ret2
    exact ⟨_, rfl, OwnI_nil _ _, (Below.refl _ _).alloc (Nat.le_refl _) _⟩
theorem rdV_rl {ys : List ByteArray} {C R A : Nat} (h : rdB ys C R A = true) : rlF ys C R A = celV ys C A := by unfold rlF; rw [h]; rfl
end Go.Proofs.YtgjaajfpdajleaaGreatDoor
