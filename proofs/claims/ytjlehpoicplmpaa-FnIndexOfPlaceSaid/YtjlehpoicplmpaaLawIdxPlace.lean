/- FnIndexOfPlace: a place is that of its entry, and the place below it is that of the next one. No condition. -/
import Derived.Test.YtjlehpoicplmpaaDrawL3
import Derived.Test.YtjlehpoicplmpaaLay2
namespace Go.Proofs.Ytjlehpoicplmpaa
set_option linter.unusedVariables false
open Go.ChangeShapes Go.WideShapes Go.ChangeAt Go.RowKit

theorem index_cases (r a c p x y : Int) : ipN r a c p x y = -1 ∨ (0 ≤ ipN r a c p x y ∧ plB r a c (ipN r a c p x y) = true ∧ plP r a c (ipN r a c p x y) = p ∧ plR r a c (ipN r a c p x y) = x ∧ plC r a c (ipN r a c p x y) = y ∧ (ipN r a c p (x + 1) y = -1 ∨ ipN r a c p (x + 1) y = ipN r a c p x y + 1)) := by
  by_cases h : ipB r a c p x y = true ∧ p * (r * a) + y * r + x < 60
  · right
    have e : ipN r a c p x y = p * (r * a) + y * r + x := if_pos h
    obtain ⟨hb, hn⟩ := h
    have hh := hb
    unfold ipB at hh
    simp only [Bool.and_eq_true, decide_eq_true_eq] at hh
    obtain ⟨hv, p1, p2, p3, p4, p5, p6⟩ := hh
    obtain ⟨h1, h2, h3, h4, h5, h6, h7, h8⟩ := lay_mul hv
    have m1 : 0 ≤ p * (r * a) := Int.mul_nonneg p1 (by omega)
    have m2 : 0 ≤ y * r := Int.mul_nonneg p5 (by omega)
    have m3 : y * r ≤ (a - 1) * r := Int.mul_le_mul_of_nonneg_right (by omega) (by omega)
    have m4 : (a - 1) * r = r * a - r := by rw [Int.sub_mul, Int.one_mul, Int.mul_comm]
    have k0 : (p * (r * a) + y * r + x) % (r * a) = y * r + x := by
      have : p * (r * a) + y * r + x = (y * r + x) + (r * a) * p := by rw [Int.mul_comm p]; omega
      rw [this, Int.add_mul_emod_self_left]
      exact Int.emod_eq_of_lt (by omega) (by omega)
    have k1 : (p * (r * a) + y * r + x) / (r * a) = p := by
      have : p * (r * a) + y * r + x = (y * r + x) + (r * a) * p := by rw [Int.mul_comm p]; omega
      rw [this, Int.add_mul_ediv_left _ _ (by omega), Int.ediv_eq_zero_of_lt (by omega) (by omega)]; omega
    have k2 : (y * r + x) % r = x := by
      have : y * r + x = x + r * y := by rw [Int.mul_comm]; omega
      rw [this, Int.add_mul_emod_self_left]; exact Int.emod_eq_of_lt (by omega) (by omega)
    have k3 : (y * r + x) / r = y := by
      have : y * r + x = x + r * y := by rw [Int.mul_comm]; omega
      rw [this, Int.add_mul_ediv_left _ _ (by omega), Int.ediv_eq_zero_of_lt (by omega) (by omega)]; omega
    have hpl : plB r a c (p * (r * a) + y * r + x) = true := by
      unfold plB; simp only [Bool.and_eq_true, decide_eq_true_eq]; exact ⟨hv, by omega, hn⟩
    rw [e]
    refine ⟨by omega, hpl, ?_, ?_, ?_, ?_⟩
    · unfold plP; rw [if_pos hpl, k1]
    · unfold plR; rw [if_pos hpl, k0, k2]
    · unfold plC; rw [if_pos hpl, k0, k3]
    · unfold ipN
      split
      · right; omega
      · exact .inl rfl
  · exact .inl (if_neg h)

set_option maxHeartbeats 1000000 in
theorem walk_FnIndexOfPlace (v : Value) (cs : List Int) {w : World} (hw : RdL w v (cs.map (Value.int .u8)) ∧ cs.length ≤ 9223372036854775807 ∧ (∀ n ∈ cs, (Lit.int .u8 n).wf = true) ∧ CapOk v) :
    Calls Try.prog 7 #[v] w fun e w' => e = .returned (.bool true) ∧ Below w.heap.size w w' := by
  obtain ⟨hR, hlen, hwf, hcap⟩ := hw
  have hR0 := hR
  obtain ⟨a0, cap, rfl, hR1⟩ := hR0
  clear hR1
  simp only [List.length_map] at hR hcap ⊢
  by_cases hbig : 1048576 < cs.length
  · clear hR hcap hwf
    go_enter Try.func7, Try.ntmps7
    go_wp2
    go_ret
    exact ⟨rfl, Below.refl _ _⟩
  · go_enter Try.func7, Try.ntmps7
    go_wp2_with fail
    refine (c_DrawIndexOfPlace _ cs w hR (by omega) hwf hcap).mono ?_
    rintro e w1 ⟨a, b, c, p, x, y, rfl, ⟨x1, x2⟩, hB⟩
    clear hR hwf hcap
    have hca := index_cases a b c p x y
    obtain ⟨n, hn⟩ : ∃ n, ipN a b c p x y = n := ⟨_, rfl⟩
    rw [hn] at hca
    by_cases hx : x = 9223372036854775807
    · subst hx
      -- the row below would not be a number of 64 bits; there is no such place
      have hm : ipN a b c p 9223372036854775807 y = -1 := by
        refine if_neg (fun q => ?_)
        have hh := q.1
        unfold ipB at hh
        simp only [Bool.and_eq_true, decide_eq_true_eq] at hh
        have := lay_mul hh.1
        omega
      have hn1 : n = -1 := by rw [← hn]; exact hm
      subst hn1
      clear hca
      go_wp2_with (first | (go_at_call 37; refine (c_impl_PlaceOf _ _ _ _ _).mono ?_; rintro e wi ⟨rfl, hb⟩; obtain ⟨hc, hf⟩ := bcell hb; have hz : w1.heap.size < wi.heap.size := (by have hq := hb.size; (try simp at hq); omega); have hB : Below w.heap.size w wi := (by first | exact bthen hB hb | exact bthen hB (balloc hb))) | (go_at_call 35; refine (c_impl_IndexOfPlace _ _ _ _ _ _ _).mono ?_; rintro e wi ⟨rfl, hb⟩; obtain ⟨hc, hf⟩ := bcell hb; have hz : w1.heap.size < wi.heap.size := (by have hq := hb.size; (try simp at hq); omega); have hB : Below w.heap.size w wi := (by first | exact bthen hB hb | exact bthen hB (balloc hb))) | (go_at_call 36; refine (c_spec_IndexOfPlace _ _ _ _ _ _ _).mono ?_; rintro e wi ⟨rfl, hb⟩; obtain ⟨hc, hf⟩ := bcell hb; have hz : w1.heap.size < wi.heap.size := (by have hq := hb.size; (try simp at hq); omega); have hB : Below w.heap.size w wi := (by first | exact bthen hB hb | exact bthen hB (balloc hb))))
      go_ret
      first
        | exact ⟨rfl, hB⟩
        | (refine ⟨ret_bool ?_, hB⟩; go_light; simp)
    · rcases hca with hca | ⟨g0, g1, g2, g3, g4, g5⟩
      · subst hca
        go_wp2_with (first | (go_at_call 37; refine (c_impl_PlaceOf _ _ _ _ _).mono ?_; rintro e wi ⟨rfl, hb⟩; obtain ⟨hc, hf⟩ := bcell hb; have hz : w1.heap.size < wi.heap.size := (by have hq := hb.size; (try simp at hq); omega); have hB : Below w.heap.size w wi := (by first | exact bthen hB hb | exact bthen hB (balloc hb))) | (go_at_call 35; refine (c_impl_IndexOfPlace _ _ _ _ _ _ _).mono ?_; rintro e wi ⟨rfl, hb⟩; obtain ⟨hc, hf⟩ := bcell hb; have hz : w1.heap.size < wi.heap.size := (by have hq := hb.size; (try simp at hq); omega); have hB : Below w.heap.size w wi := (by first | exact bthen hB hb | exact bthen hB (balloc hb))) | (go_at_call 36; refine (c_spec_IndexOfPlace _ _ _ _ _ _ _).mono ?_; rintro e wi ⟨rfl, hb⟩; obtain ⟨hc, hf⟩ := bcell hb; have hz : w1.heap.size < wi.heap.size := (by have hq := hb.size; (try simp at hq); omega); have hB : Below w.heap.size w wi := (by first | exact bthen hB hb | exact bthen hB (balloc hb))))
        go_ret
        first
          | exact ⟨rfl, hB⟩
          | (refine ⟨ret_bool ?_, hB⟩; go_light; simp)
      · have gn : n < 60 := by
          have hh := g1
          unfold plB at hh
          simp only [Bool.and_eq_true, decide_eq_true_eq] at hh
          exact hh.2.2
        rcases g5 with g5 | g5
        all_goals
          go_wp2_with (first | (go_at_call 37; refine (c_impl_PlaceOf _ _ _ _ _).mono ?_; rintro e wi ⟨rfl, hb⟩; obtain ⟨hc, hf⟩ := bcell hb; have hz : w1.heap.size < wi.heap.size := (by have hq := hb.size; (try simp at hq); omega); have hB : Below w.heap.size w wi := (by first | exact bthen hB hb | exact bthen hB (balloc hb))) | (go_at_call 35; refine (c_impl_IndexOfPlace _ _ _ _ _ _ _).mono ?_; rintro e wi ⟨rfl, hb⟩; obtain ⟨hc, hf⟩ := bcell hb; have hz : w1.heap.size < wi.heap.size := (by have hq := hb.size; (try simp at hq); omega); have hB : Below w.heap.size w wi := (by first | exact bthen hB hb | exact bthen hB (balloc hb))) | (go_at_call 36; refine (c_spec_IndexOfPlace _ _ _ _ _ _ _).mono ?_; rintro e wi ⟨rfl, hb⟩; obtain ⟨hc, hf⟩ := bcell hb; have hz : w1.heap.size < wi.heap.size := (by have hq := hb.size; (try simp at hq); omega); have hB : Below w.heap.size w wi := (by first | exact bthen hB hb | exact bthen hB (balloc hb))))
          go_ret
          first
            | exact ⟨rfl, hB⟩
            | (refine ⟨ret_bool ?_, hB⟩; go_light; simp)

set_option maxRecDepth 100000 in
theorem lifted_FnIndexOfPlace (os : Os) (started : os.Started) (H : Type) (enc : TypeId × Value → H) :
    ReturnsInHanded {} Try.checked os 7 .any (Rows.fnIndexOfPlaceSpec.pre6 enc Try.prog Try.f7 Rows.fnIndexOfPlaceRow.domain false) (Rows.fnIndexOfPlaceSpec.post enc Try.prog Try.f7 false true false false) := by
  refine returnsInHanded_of_change (C := Try.checked) own started (by kernel_rfl) Try.func7
    (ChangeSpec.witness6 (enc := enc) (C := Try.checked) false ⟨#[], #[.slice none 0 0], []⟩ 8 (by kernel_rfl) (by kernel_rfl) (by kernel_rfl) (by kernel_rfl)) ?_
  intro W base args ds gs before hval0 hW hcnd _
  have hval : ∀ (j : Nat) t v, Try.f7.params[j]? = some t → args[j]? = some v → Value.okWide Try.prog W .any base t v := hval0
  have hW' := hW
  obtain ⟨p, q, hA0, hV, rfl, hfz, hnd⟩ := hW
  have hA : DataW.TrodAll enc Try.prog W 0 (fun _ => true) true Try.f7.params.toList args.toList ds p := hA0
  rw [Try.params7] at hA hval
  obtain ⟨v0, vs0, d0, ds0, p0, q0, hargs, rfl, rfl, h0, r0⟩ := trodAll_cons hA
  obtain ⟨rfl, rfl, rfl⟩ := trodAll_nil r0
  obtain rfl : args = #[v0] := by cases args; simp_all
  obtain ⟨rfl, rfl⟩ := trodVars_none hV
  obtain ⟨l0, w0⟩ := open_bytes (hval 0 39 v0 rfl rfl) h0
  refine (walk_FnIndexOfPlace v0 l0 w0).mono fun e W' ⟨he, hg⟩ => ?_
  subst he
  exact ⟨_, rfl, law_post laidOut hW' rfl (by kernel_rfl) rfl Try.underlying4 rfl rfl rfl rfl hg⟩
theorem factA_FnIndexOfPlace : factsA Try.prog 7 Try.f7 Rows.fnIndexOfPlaceSpec Rows.fnIndexOfPlaceRow = true := by kernel_rfl
theorem fact9_FnIndexOfPlace : (Rows.fnIndexOfPlaceRow.inPlace == Try.prog.inPlace 7) = true := by kernel_rfl
theorem fact10_FnIndexOfPlace : (Rows.fnIndexOfPlaceRow.unfollowed == Try.prog.unfollowed 7) = true := by kernel_rfl
theorem fact11_FnIndexOfPlace : (Rows.fnIndexOfPlaceRow.recurses == Try.prog.recurses 7) = true := by kernel_rfl
theorem fact12_FnIndexOfPlace : (Rows.fnIndexOfPlaceRow.named == Try.prog.varsNamed 7) = true := by kernel_rfl
theorem factB_FnIndexOfPlace : factsB Try.prog 7 Try.f7 Rows.fnIndexOfPlaceSpec Rows.fnIndexOfPlaceRow = true := by kernel_rfl
theorem factN_FnIndexOfPlace : Try.prog.funcNamed Rows.fnIndexOfPlaceRow.func = some 7 := by kernel_rfl
theorem proved_FnIndexOfPlace : Rows.FnIndexOfPlaceSaid :=
  OpenClaim.holds_of_wide 7 Try.f7 rfl rfl rfl rfl rfl rfl rfl ⟨rfl, rfl, rfl, rfl, rfl⟩ rfl rfl rfl rfl rfl factN_FnIndexOfPlace Try.func7 (closed_of factA_FnIndexOfPlace fact9_FnIndexOfPlace fact10_FnIndexOfPlace fact11_FnIndexOfPlace fact12_FnIndexOfPlace factB_FnIndexOfPlace rfl rfl rfl)
    (of_decide_eq_true (by kernel_rfl)) (by unfold Func.isWrapper; first | (rw [if_pos (by decide +kernel)]; kernel_rfl) | (rw [if_neg (by decide +kernel)]; exact ⟨rfl, rfl⟩))
    (fun os started H enc _ => lifted_FnIndexOfPlace os started H enc)
end Go.Proofs.Ytjlehpoicplmpaa
