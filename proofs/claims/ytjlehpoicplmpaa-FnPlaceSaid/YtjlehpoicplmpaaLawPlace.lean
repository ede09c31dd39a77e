/- FnPlace: an entry is found again from its page, its row and its column, and is on the last page that the entries up to it need. No condition. -/
import Derived.Test.YtjlehpoicplmpaaDrawL2
import Derived.Test.YtjlehpoicplmpaaLay2
namespace Go.Proofs.Ytjlehpoicplmpaa
set_option linter.unusedVariables false
open Go.ChangeShapes Go.WideShapes Go.ChangeAt Go.RowKit

theorem place_ok {r a c i : Int} (h : plB r a c i = true) : ipN r a c (plP r a c i) (plR r a c i) (plC r a c i) = i ∧ pnF r a c (i + 1) = plP r a c i + 1 ∧ plR r a c i < r ∧ plC r a c i < a ∧ 0 ≤ plP r a c i ∧ plP r a c i < 60 := by
  have hh := h
  unfold plB at hh
  simp only [Bool.and_eq_true, decide_eq_true_eq] at hh
  obtain ⟨hv, i0, i1⟩ := hh
  obtain ⟨h1, h2, h3, h4, h5, h6, h7, h8⟩ := lay_mul hv
  have e1 : plP r a c i = i / (r * a) := if_pos h
  have e2 : plR r a c i = (i % (r * a)) % r := if_pos h
  have e3 : plC r a c i = (i % (r * a)) / r := if_pos h
  rw [e1, e2, e3]
  have q0 : 0 ≤ i / (r * a) := Int.ediv_nonneg i0 (by omega)
  have q1 : i / (r * a) ≤ i := Int.ediv_le_self _ i0
  have m0 := Int.emod_nonneg i (b := r * a) (by omega)
  have m1 := Int.emod_lt_of_pos i (b := r * a) (by omega)
  have d := Int.mul_ediv_add_emod i (r * a)
  generalize hM : i % (r * a) = M at *
  have n0 := Int.emod_nonneg M (b := r) (by omega)
  have n1 := Int.emod_lt_of_pos M (b := r) (by omega)
  have d2 := Int.mul_ediv_add_emod M r
  have c0 : 0 ≤ M / r := Int.ediv_nonneg m0 (by omega)
  have c1 : M / r < a := Int.ediv_lt_of_lt_mul (by omega) (by rw [Int.mul_comm]; exact m1)
  have hb : ipB r a c (i / (r * a)) (M % r) (M / r) = true := by
    unfold ipB; simp only [Bool.and_eq_true, decide_eq_true_eq]; exact ⟨hv, by omega, by omega, n0, n1, c0, c1⟩
  have hs : i / (r * a) * (r * a) + M / r * r + M % r = i := by
    rw [Int.mul_comm (i / (r * a)), Int.mul_comm (M / r)]; omega
  refine ⟨?_, ?_, n1, c1, q0, by omega⟩
  · unfold ipN; rw [hs, if_pos ⟨hb, i1⟩]
  · unfold pnF
    rw [if_pos ⟨hv, by omega, by omega⟩]
    have : i + 1 + r * a - 1 = i + r * a := by omega
    rw [this, Int.add_ediv_of_dvd_right (Int.dvd_refl _), Int.ediv_self (by omega)]

set_option maxHeartbeats 1000000 in
theorem walk_FnPlace (v : Value) (cs : List Int) {w : World} (hw : RdL w v (cs.map (Value.int .u8)) ∧ cs.length ≤ 9223372036854775807 ∧ (∀ n ∈ cs, (Lit.int .u8 n).wf = true) ∧ CapOk v) :
    Calls Try.prog 8 #[v] w fun e w' => e = .returned (.bool true) ∧ Below w.heap.size w w' := by
  obtain ⟨hR, hlen, hwf, hcap⟩ := hw
  have hR0 := hR
  obtain ⟨a0, cap, rfl, hR1⟩ := hR0
  clear hR1
  simp only [List.length_map] at hR hcap ⊢
  by_cases hbig : 1048576 < cs.length
  · clear hR hcap hwf
    go_enter Try.func8, Try.ntmps8
    go_wp2
    go_ret
    exact ⟨rfl, Below.refl _ _⟩
  · go_enter Try.func8, Try.ntmps8
    go_wp2_with fail
    refine (c_DrawPlaceOf _ cs w hR (by omega) hwf hcap).mono ?_
    rintro e w1 ⟨a, b, c, i, rfl, hB⟩
    clear hR hwf hcap
    by_cases hv : plB a b c i = true
    · obtain ⟨f1, f2, f3, f4, f5, f6⟩ := place_ok hv
      have hi : 0 ≤ i ∧ i < 60 := by
        have hh := hv
        unfold plB at hh
        simp only [Bool.and_eq_true, decide_eq_true_eq] at hh
        exact hh.2
      obtain ⟨i0, i1⟩ := hi
      obtain ⟨pp, e1⟩ : ∃ x, plP a b c i = x := ⟨_, rfl⟩
      obtain ⟨rr, e2⟩ : ∃ x, plR a b c i = x := ⟨_, rfl⟩
      obtain ⟨cc, e3⟩ : ∃ x, plC a b c i = x := ⟨_, rfl⟩
      rw [e1, e2, e3] at f1
      rw [e1] at f2 f5 f6
      rw [e2] at f3
      rw [e3] at f4
      go_wp2_with (first | (go_at_call 37; refine (c_impl_PlaceOf _ _ _ _ _).mono ?_; rintro e wi ⟨rfl, hb⟩; obtain ⟨hc, hf⟩ := bcell hb; have hz : w1.heap.size < wi.heap.size := (by have hq := hb.size; (try simp at hq); omega); have hB : Below w.heap.size w wi := (by first | exact bthen hB hb | exact bthen hB (balloc hb))) | (go_at_call 39; refine (c_spec_PlaceOf _ _ _ _ _).mono ?_; rintro e wi ⟨rfl, hb⟩; obtain ⟨hc, hf⟩ := bcell hb; have hz : w1.heap.size < wi.heap.size := (by have hq := hb.size; (try simp at hq); omega); have hB : Below w.heap.size w wi := (by first | exact bthen hB hb | exact bthen hB (balloc hb))) | (go_at_call 35; refine (c_impl_IndexOfPlace _ _ _ _ _ _ _).mono ?_; rintro e wi ⟨rfl, hb⟩; obtain ⟨hc, hf⟩ := bcell hb; have hz : w1.heap.size < wi.heap.size := (by have hq := hb.size; (try simp at hq); omega); have hB : Below w.heap.size w wi := (by first | exact bthen hB hb | exact bthen hB (balloc hb))) | (go_at_call 40; refine (c_impl_PagesNeeded _ _ _ _ _).mono ?_; rintro e wi ⟨rfl, hb⟩; obtain ⟨hc, hf⟩ := bcell hb; have hz : w1.heap.size < wi.heap.size := (by have hq := hb.size; (try simp at hq); omega); have hB : Below w.heap.size w wi := (by first | exact bthen hB hb | exact bthen hB (balloc hb))))
      go_ret
      first
        | exact ⟨rfl, hB⟩
        | (refine ⟨ret_bool ?_, hB⟩; go_light; simp; omega)
    · have hv' : plB a b c i = false := by simpa using hv
      clear hv
      go_wp2_with (first | (go_at_call 37; refine (c_impl_PlaceOf _ _ _ _ _).mono ?_; rintro e wi ⟨rfl, hb⟩; obtain ⟨hc, hf⟩ := bcell hb; have hz : w1.heap.size < wi.heap.size := (by have hq := hb.size; (try simp at hq); omega); have hB : Below w.heap.size w wi := (by first | exact bthen hB hb | exact bthen hB (balloc hb))) | (go_at_call 39; refine (c_spec_PlaceOf _ _ _ _ _).mono ?_; rintro e wi ⟨rfl, hb⟩; obtain ⟨hc, hf⟩ := bcell hb; have hz : w1.heap.size < wi.heap.size := (by have hq := hb.size; (try simp at hq); omega); have hB : Below w.heap.size w wi := (by first | exact bthen hB hb | exact bthen hB (balloc hb))) | (go_at_call 35; refine (c_impl_IndexOfPlace _ _ _ _ _ _ _).mono ?_; rintro e wi ⟨rfl, hb⟩; obtain ⟨hc, hf⟩ := bcell hb; have hz : w1.heap.size < wi.heap.size := (by have hq := hb.size; (try simp at hq); omega); have hB : Below w.heap.size w wi := (by first | exact bthen hB hb | exact bthen hB (balloc hb))) | (go_at_call 40; refine (c_impl_PagesNeeded _ _ _ _ _).mono ?_; rintro e wi ⟨rfl, hb⟩; obtain ⟨hc, hf⟩ := bcell hb; have hz : w1.heap.size < wi.heap.size := (by have hq := hb.size; (try simp at hq); omega); have hB : Below w.heap.size w wi := (by first | exact bthen hB hb | exact bthen hB (balloc hb))))
      go_ret
      first
        | exact ⟨rfl, hB⟩
        | (refine ⟨ret_bool ?_, hB⟩; go_light; simp)

set_option maxRecDepth 100000 in
theorem lifted_FnPlace (os : Os) (started : os.Started) (H : Type) (enc : TypeId × Value → H) :
    ReturnsInHanded {} Try.checked os 8 .any (Rows.fnPlaceSpec.pre6 enc Try.prog Try.f8 Rows.fnPlaceRow.domain false) (Rows.fnPlaceSpec.post enc Try.prog Try.f8 false true false false) := by
  refine returnsInHanded_of_change (C := Try.checked) own started (by kernel_rfl) Try.func8
    (ChangeSpec.witness6 (enc := enc) (C := Try.checked) false ⟨#[], #[.slice none 0 0], []⟩ 8 (by kernel_rfl) (by kernel_rfl) (by kernel_rfl) (by kernel_rfl)) ?_
  intro W base args ds gs before hval0 hW hcnd _
  have hval : ∀ (j : Nat) t v, Try.f8.params[j]? = some t → args[j]? = some v → Value.okWide Try.prog W .any base t v := hval0
  have hW' := hW
  obtain ⟨p, q, hA0, hV, rfl, hfz, hnd⟩ := hW
  have hA : DataW.TrodAll enc Try.prog W 0 (fun _ => true) true Try.f8.params.toList args.toList ds p := hA0
  rw [Try.params8] at hA hval
  obtain ⟨v0, vs0, d0, ds0, p0, q0, hargs, rfl, rfl, h0, r0⟩ := trodAll_cons hA
  obtain ⟨rfl, rfl, rfl⟩ := trodAll_nil r0
  obtain rfl : args = #[v0] := by cases args; simp_all
  obtain ⟨rfl, rfl⟩ := trodVars_none hV
  obtain ⟨l0, w0⟩ := open_bytes (hval 0 39 v0 rfl rfl) h0
  refine (walk_FnPlace v0 l0 w0).mono fun e W' ⟨he, hg⟩ => ?_
  subst he
  exact ⟨_, rfl, law_post laidOut hW' rfl (by kernel_rfl) rfl Try.underlying4 rfl rfl rfl rfl hg⟩
theorem factA_FnPlace : factsA Try.prog 8 Try.f8 Rows.fnPlaceSpec Rows.fnPlaceRow = true := by kernel_rfl
theorem fact9_FnPlace : (Rows.fnPlaceRow.inPlace == Try.prog.inPlace 8) = true := by kernel_rfl
theorem fact10_FnPlace : (Rows.fnPlaceRow.unfollowed == Try.prog.unfollowed 8) = true := by kernel_rfl
theorem fact11_FnPlace : (Rows.fnPlaceRow.recurses == Try.prog.recurses 8) = true := by kernel_rfl
theorem fact12_FnPlace : (Rows.fnPlaceRow.named == Try.prog.varsNamed 8) = true := by kernel_rfl
theorem factB_FnPlace : factsB Try.prog 8 Try.f8 Rows.fnPlaceSpec Rows.fnPlaceRow = true := by kernel_rfl
theorem factN_FnPlace : Try.prog.funcNamed Rows.fnPlaceRow.func = some 8 := by kernel_rfl
theorem proved_FnPlace : Rows.FnPlaceSaid :=
  OpenClaim.holds_of_wide 8 Try.f8 rfl rfl rfl rfl rfl rfl rfl ⟨rfl, rfl, rfl, rfl, rfl⟩ rfl rfl rfl rfl rfl factN_FnPlace Try.func8 (closed_of factA_FnPlace fact9_FnPlace fact10_FnPlace fact11_FnPlace fact12_FnPlace factB_FnPlace rfl rfl rfl)
    (of_decide_eq_true (by kernel_rfl)) (by unfold Func.isWrapper; first | (rw [if_pos (by decide +kernel)]; kernel_rfl) | (rw [if_neg (by decide +kernel)]; exact ⟨rfl, rfl⟩))
    (fun os started H enc _ => lifted_FnPlace os started H enc)
end Go.Proofs.Ytjlehpoicplmpaa
