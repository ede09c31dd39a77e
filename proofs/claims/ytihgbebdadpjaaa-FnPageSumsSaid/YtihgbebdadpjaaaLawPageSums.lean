/- FnPageSums: each sum is that of the entries in the places of its column. No condition. -/
import Derived.Test.YtihgbebdadpjaaaDrawP
import Derived.Test.YtihgbebdadpjaaaPsum2
import Derived.Test.YtihgbebdadpjaaaDeI
namespace Go.Proofs.Ytihgbebdadpjaaa
set_option linter.unusedVariables false
open Go.ChangeShapes Go.WideShapes Go.ChangeAt Go.RowKit

set_option maxRecDepth 100000 in
theorem c_DrawPageSums (v : Value) (cs : List Int) (w : World) (hv : RdL w v (cs.map (Value.int .u8))) (hl : cs.length ≤ 1099511627776) (hb : ∀ n ∈ cs, (Lit.int .u8 n).wf = true) (hcap : CapOk v) :
    Calls Try.prog 13 #[v] w (DrawLTI w) := by
  have hv0 := hv
  obtain ⟨a, cap, rfl, hv1⟩ := hv0
  clear hv1
  simp only [List.length_map] at hv hcap ⊢
  go_enter Try.func13, Try.ntmps13
  go_wp2_with fail
  refine (c_DrawPageLines _ cs _ (hv.kept ((Below.refl _ _).alloc (Nat.le_refl _) _)) hl hb hcap).mono ?_
  rintro e w1 ⟨a, b, c, v1, xs1, n, rfl, ho1, hx1, hB1⟩
  clear hb hcap hv
  have hR1 : w1.heap[w.heap.size]? = _ := (hB1.block w.heap.size (by simp)).trans (heap_alloc_new w _)
  obtain ⟨r0, r1, r2, rf0, rf1, rf2⟩ := rowFacts hR1
  have HB : Hid (OwnI w1 w.heap.size v1 xs1 ∧ Below w.heap.size w w1 ∧ (∀ k, v1.ownBlock = some k → w.heap.size < k)) := ⟨ownsRow_mono ho1 (by simp), balloc hB1, fun k hk => by have := (ho1.lt k hk).1; simp at this; omega⟩
  clear hB1 hR1 ho1
  go_wp2
  refine bodyPost_ret (v := .tuple #[.agg #[(.int .i64 (a)), (.int .i64 (b)), (.int .i64 (c))], v1, (.int .i64 (n))]) (by simp [results, Try.results13, go_sem, r0, r1, r2]) rfl ⟨a, b, c, v1, xs1, n, rfl, ?_, hx1, ?_⟩
  · exact ownsRow_kept_far (ownsRow_kept_far (ownsRow_kept_far HB.out.1 HB.out.2.2 0 _) HB.out.2.2 1 _) HB.out.2.2 2 _
  · exact ((HB.out.2.1.setCell (p := ⟨w.heap.size, 0, none⟩) (Nat.le_refl _) _).setCell (p := ⟨w.heap.size, 1, none⟩) (Nat.le_refl _) _).setCell (p := ⟨w.heap.size, 2, none⟩) (Nat.le_refl _) _

/-- the box of three numbers at block b -/
def Box (b : Nat) (x y z : Int) (w : World) : Prop := w.cell? ⟨b, 0, none⟩ = some (.int .i64 (x)) ∧ w.cell? ⟨b, 1, none⟩ = some (.int .i64 (y)) ∧ w.cell? ⟨b, 2, none⟩ = some (.int .i64 (z)) ∧ b < w.heap.size
theorem Box.kept {b : Nat} {x y z : Int} {w w' : World} (h : Box b x y z w) (hB : Below w.heap.size w w') : Box b x y z w' := by
  obtain ⟨h0, h1, h2, h3⟩ := h
  exact ⟨by rw [(bcell hB).1 _ _ h3]; exact h0, by rw [(bcell hB).1 _ _ h3]; exact h1, by rw [(bcell hB).1 _ _ h3]; exact h2, by have := hB.size; omega⟩
theorem Box.new (w : World) (x y z : Int) (t : TypeId) : Box w.heap.size x y z (w.alloc (.cells #[(.int .i64 (x)), (.int .i64 (y)), (.int .i64 (z))] t)) := by
  refine ⟨?_, ?_, ?_, by simp⟩ <;> simp [go_sem]
theorem psL_at {xs : List Int} {s r a col : Nat} (h : col < a) : (psL xs s r a).getD col 0 = csum xs (s + col * r) r := by
  simp [psL, List.getD, h]
theorem OwnI_form' {w : World} {base : Nat} {v : Value} {xs : List Int} (h : OwnI w base v xs) : ∃ a c, v = .slice a xs.length c := by
  obtain ⟨a, cap, rfl, _⟩ := owns_RdI h
  exact ⟨a, cap, by rw [List.length_map]⟩
/-- the place's index, and what it means for the sum -/
theorem ip_step {r a c p : Int} {R C K s : Nat} {xs : List Int} (hv : layB r a c = true) (hp0 : 0 ≤ p) (hp : p * (r * a) < xs.length) (hx : xs.length ≤ 60) (hr : r = R) (hs : p * (r * a) = s) (hC : (C : Int) < a) (hK : K < R) :
    (s + C * R + K < xs.length ∧ ipN r a c p K C = ((s + C * R + K : Nat) : Int)) ∨ ((ipN r a c p K C = -1 ∨ (xs.length : Int) ≤ ipN r a c p K C) ∧ xs.getD (s + C * R + K) 0 = 0) := by
  obtain ⟨l1, l2, l3, l4, l5, l6, l7, l8⟩ := lay_mul hv
  have hp6 : p < 60 := by
    have : p * 1 ≤ p * (r * a) := Int.mul_le_mul_of_nonneg_left (by omega) hp0
    omega
  have hb : ipB r a c p K C = true := by unfold ipB; rw [hv]; simp; omega
  have he : p * (r * a) + C * r + K = ((s + C * R + K : Nat) : Int) := by rw [hs, hr]; simp
  by_cases h : s + C * R + K < xs.length
  · left
    refine ⟨h, ?_⟩
    unfold ipN
    rw [if_pos ⟨hb, by rw [he]; omega⟩, he]
  · right
    refine ⟨?_, getD_out (by omega)⟩
    unfold ipN
    split
    · right; rw [he]; omega
    · exact .inl rfl

set_option maxHeartbeats 4000000 in
set_option maxRecDepth 100000 in
theorem walk_FnPageSums (v : Value) (cs : List Int) {w : World} (hw : RdL w v (cs.map (Value.int .u8)) ∧ cs.length ≤ 9223372036854775807 ∧ (∀ n ∈ cs, (Lit.int .u8 n).wf = true) ∧ CapOk v) :
    Calls Try.prog 4 #[v] w fun e w' => e = .returned (.bool true) ∧ Below w.heap.size w w' := by
  obtain ⟨hR, hlen, hwf, hcap⟩ := hw
  have hR0 := hR
  obtain ⟨a, cap, rfl, hR1⟩ := hR0
  clear hR1
  simp only [List.length_map] at hR hcap ⊢
  by_cases hbig : 1048576 < cs.length
  · clear hR hcap hwf
    go_enter Try.func4, Try.ntmps4
    go_wp2
    go_ret
    exact ⟨rfl, Below.refl _ _⟩
  · go_enter Try.func4, Try.ntmps4
    go_wp2_with fail
    refine (c_DrawPageSums _ cs w hR (by omega) hwf hcap).mono ?_
    rintro e w1 ⟨r, a, c, vv, xs, p, rfl, o_v, hx61, hA⟩
    clear hR hwf hcap
    obtain ⟨av, cv, rfl⟩ := OwnI_form' o_v
    have hbx := Box.new w1 r a c 29
    replace o_v := o_v.alloc (.cells #[(.int .i64 (r)), (.int .i64 (a)), (.int .i64 (c))] 29)
    replace hA := hA.alloc hA.size (.cells #[(.int .i64 (r)), (.int .i64 (a)), (.int .i64 (c))] 29)
    go_wp2_with fail
    refine (k_impl_PageSums r a c _ xs p _ o_v (by omega)).mono ?_
    rintro e w2 ⟨vs, rfl, o_s, hB⟩
    replace o_v := ownsRow_kept_below o_v hB
    replace hbx := hbx.kept hB
    replace hA := bthen hA hB
    have hll := pl_len r a c xs p
    obtain ⟨asl, cc, rfl⟩ := OwnI_form' o_s
    clear hB
    obtain ⟨k0, k1, k2, kb⟩ := hbx
    have HB : Hid (Box w1.heap.size r a c w2) := ⟨k0, k1, k2, kb⟩
    go_wp2_with fail
    refine (c_spec_PageSums r a c _ xs p _ (owns_RdI o_v) (by omega)).mono ?_
    rintro e w3 ⟨vw, rfl, o_w, hB⟩
    replace o_v := ownsRow_kept_below o_v hB
    replace o_s := ownsRow_kept_below o_s hB
    replace HB : Hid (Box w1.heap.size r a c w3) := HB.out.kept hB
    replace hA := bthen hA hB
    clear hB k0 k1 k2 kb
    go_wp2_with fail
    refine (k_de_ints _ _ _ _ (pl r a c xs p) _ o_s o_w (by omega)).mono ?_
    rintro e w4 ⟨rfl, hB⟩
    replace o_v := ownsRow_kept_below o_v hB
    replace o_s := ownsRow_kept_below o_s hB
    have hbx := HB.out.kept hB
    replace hA := bthen hA hB
    clear hB HB o_w
    cases hv : pgB r a c xs p
    · have hL : pl r a c xs p = [] := by unfold pl; rw [hv]; rfl
      obtain ⟨k0, k1, k2, kb⟩ := hbx
      have HL : Hid (pl r a c xs p = []) := hL
      have hl0 : (((pl r a c xs p).length : Int) == 0) = true := by rw [hL]; rfl
      clear hL hv
      go_wp2_with fail
      refine (c_spec_PageSums r a c _ xs p _ (owns_RdI o_v) (by omega)).mono ?_
      rintro e w5 ⟨vx, rfl, o_x, hB⟩
      replace o_s := ownsRow_kept_below o_s hB
      replace hA := bthen hA hB
      clear hB k0 k1 k2 kb o_v
      go_wp2_with fail
      refine (k_de_ints _ _ _ _ (pl r a c xs p) _ o_s o_x (by omega)).mono ?_
      rintro e w6 ⟨rfl, hB⟩
      replace hA := bthen hA hB
      clear hB o_s o_x
      go_wp2
      go_ret
      exact ⟨rfl, hA⟩
    · obtain ⟨hlay, htab, hp0, hpl⟩ := pgB_iff hv
      obtain ⟨q3, q4, q5⟩ := tabB_iff htab
      obtain ⟨l1, l2, l3, l4, l5, l6, l7, l8⟩ := lay_mul hlay
      obtain ⟨R, rfl⟩ : ∃ R : Nat, r = R := ⟨r.toNat, by omega⟩
      obtain ⟨A, rfl⟩ : ∃ A : Nat, a = A := ⟨a.toNat, by omega⟩
      obtain ⟨s, hs⟩ : ∃ s : Nat, p * ((R : Int) * (A : Int)) = s := ⟨(p * ((R : Int) * (A : Int))).toNat, by have := Int.mul_nonneg hp0 (show (0 : Int) ≤ (R : Int) * A by omega); omega⟩
      have hL : pl R A c xs p = psL xs s R A := by unfold pl; rw [if_pos hv, hs]; rfl
      have hLl : (pl R A c xs p).length = A := by rw [hL, psL_len]
      rw [hL] at o_s
      rw [psL_len] at o_s
      rw [hLl]
      have HS : Hid (p * ((R : Int) * (A : Int)) = s) := hs
      have hl0 : ((A : Int) == 0) = false := beq_eq_false_iff_ne.2 (by omega)
      clear hv hL hLl hs hll
      go_wp2
      go_loopw [7, 8, 9, 10] (fun col n row k wr => ∃ C : Nat, C ≤ A ∧ col = .int .i64 C ∧ Below w4.heap.size w4 wr) (fun col _ _ _ _ => A - (intOf col).toNat)
      case atStart => exact ⟨0, by omega, rfl, Below.refl _ _⟩
      case round =>
        obtain ⟨C, hC, rfl, hB⟩ := hrel
        by_cases hlt : C < A
        · obtain ⟨wo, rfl⟩ : ∃ wo : World, wo = wr := ⟨_, rfl⟩
          go_wp2
          go_loopw [8, 9, 10] (fun n row k wr => ∃ K : Nat, K ≤ R ∧ row = .int .i64 K ∧ n = .int .i64 (csum xs (s + C * R) K) ∧ Below w4.heap.size w4 wr) (fun _ row _ _ => R - (intOf row).toNat)
          case atStart => exact ⟨0, by omega, rfl, rfl, hB⟩
          case round =>
            obtain ⟨K, hK, rfl, rfl, hB2⟩ := hrel
            obtain ⟨k0, k1, k2, kb⟩ := hbx.kept hB2
            have ovk := ownsRow_kept_below o_v hB2
            by_cases hKl : K < R
            · have hcs : csum xs (s + C * R) (K + 1) = csum xs (s + C * R) K + xs.getD (s + C * R + K) 0 := rfl
              obtain ⟨bd1, bd2⟩ := csum_bd q5 (s + C * R) K
              have HIP : Hid _ := ip_step (C := C) (K := K) hlay hp0 hpl q4 rfl HS.out (by omega) hKl
              have hgd := getD_bd q5 (s + C * R + K)
              generalize csum xs (s + C * R) K = S0 at hcs bd1 bd2 ⊢
              have HCS : Hid _ := hcs
              clear hcs
              go_wp2_with fail
              refine (c_impl_IndexOfPlace R A c p K C _).mono ?_
              rintro e w5 ⟨rfl, hB5⟩
              have hB6 := bthen hB2 hB5
              obtain ⟨hc5, _⟩ := bcell hB5
              obtain ⟨I, hI⟩ : ∃ I, ipN R A c p K C = I := ⟨_, rfl⟩
              have hip := HIP.out
              rw [hI] at hip ⊢
              clear hI HIP
              rcases hip with ⟨hin, hI⟩ | ⟨hout, hz⟩
              · subst hI
                obtain ⟨b1, o1, rfl, hb1, e1⟩ := RdI_cell (owns_RdI ovk) hB5 hin
                obtain ⟨y, hy⟩ : ∃ y, xs.getD (s + C * R + K) 0 = y := ⟨_, rfl⟩
                rw [hy] at e1 hgd HCS
                obtain ⟨y1, y2⟩ := hgd
                obtain ⟨J, hJ⟩ : ∃ J, s + C * R + K = J := ⟨_, rfl⟩
                rw [hJ] at e1 hin ⊢
                have i1 : (0 : Int) ≤ (J : Int) := by omega
                have i2 : (J : Int) < (xs.length : Int) := by omega
                clear hJ hy hc5 ovk k0 k1 k2 kb hB5 o_v o_s
                go_wp2
                go_roundw
                case rel => exact ⟨K + 1, by omega, by go_num, by rw [HCS.out], hB6⟩
                case measure => simp [intOf]; omega
              · rw [hz] at HCS
                have HZ : Hid (csum xs (s + C * R) (K + 1) = S0) := by show _ = _; rw [HCS.out]; omega
                clear hz hc5 ovk k0 k1 k2 kb hB5 o_v o_s
                rcases hout with hI | hI
                · have h1 : I < 0 := by omega
                  clear hI
                  go_wp2
                  go_roundw
                  case rel => exact ⟨K + 1, by omega, by go_num, by rw [HZ.out], hB6⟩
                  case measure => simp [intOf]; omega
                · have h1 : (0 : Int) ≤ I := by omega
                  go_wp2
                  go_roundw
                  case rel => exact ⟨K + 1, by omega, by go_num, by rw [HZ.out], hB6⟩
                  case measure => simp [intOf]; omega
            · obtain rfl : R = K := by omega
              obtain ⟨b1, o1, rfl, hb1, e1⟩ := RdI_cell (owns_RdI (ownsRow_kept_below o_s hB2)) (Below.refl _ _) (show C < (psL xs s R A).length by rw [psL_len]; exact hlt)
              rw [psL_at hlt] at e1
              generalize csum xs (s + C * R) R = S0 at e1 ⊢
              clear ovk o_v o_s
              go_wp2
              go_roundw
              case rel => exact ⟨C + 1, by omega, by go_num, hB2⟩
              case measure => simp [intOf]; omega
        · obtain rfl : A = C := by omega
          obtain ⟨k0, k1, k2, kb⟩ := hbx.kept hB
          have hAA := bthen hA hB
          clear o_v o_s hA hB
          go_wp2
          go_ret
          exact ⟨rfl, hAA⟩

set_option maxRecDepth 100000 in
theorem lifted_FnPageSums (os : Os) (started : os.Started) (H : Type) (enc : TypeId × Value → H) :
    ReturnsInHanded {} Try.checked os 4 .any (Rows.fnPageSumsSpec.pre6 enc Try.prog Try.f4 Rows.fnPageSumsRow.domain false) (Rows.fnPageSumsSpec.post enc Try.prog Try.f4 false true false false) := by
  refine returnsInHanded_of_change (C := Try.checked) own started (by kernel_rfl) Try.func4
    (ChangeSpec.witness6 (enc := enc) (C := Try.checked) false ⟨#[], #[.slice none 0 0], []⟩ 8 (by kernel_rfl) (by kernel_rfl) (by kernel_rfl) (by kernel_rfl)) ?_
  intro W base args ds gs before hval0 hW hcnd _
  have hval : ∀ (j : Nat) t v, Try.f4.params[j]? = some t → args[j]? = some v → Value.okWide Try.prog W .any base t v := hval0
  have hW' := hW
  obtain ⟨p, q, hA0, hV, rfl, hfz, hnd⟩ := hW
  have hA : DataW.TrodAll enc Try.prog W 0 (fun _ => true) true Try.f4.params.toList args.toList ds p := hA0
  rw [Try.params4] at hA hval
  obtain ⟨v0, vs0, d0, ds0, p0, q0, hargs, rfl, rfl, h0, r0⟩ := trodAll_cons hA
  obtain ⟨rfl, rfl, rfl⟩ := trodAll_nil r0
  obtain rfl : args = #[v0] := by cases args; simp_all
  obtain ⟨rfl, rfl⟩ := trodVars_none hV
  obtain ⟨l0, w0⟩ := open_bytes (hval 0 27 v0 rfl rfl) h0
  refine (walk_FnPageSums v0 l0 w0).mono fun e W' ⟨he, hg⟩ => ?_
  subst he
  exact ⟨_, rfl, law_post laidOut hW' rfl (by kernel_rfl) rfl Try.underlying4 rfl rfl rfl rfl hg⟩
theorem factA_FnPageSums : factsA Try.prog 4 Try.f4 Rows.fnPageSumsSpec Rows.fnPageSumsRow = true := by kernel_rfl
theorem fact9_FnPageSums : (Rows.fnPageSumsRow.inPlace == Try.prog.inPlace 4) = true := by kernel_rfl
theorem fact10_FnPageSums : (Rows.fnPageSumsRow.unfollowed == Try.prog.unfollowed 4) = true := by kernel_rfl
theorem fact11_FnPageSums : (Rows.fnPageSumsRow.recurses == Try.prog.recurses 4) = true := by kernel_rfl
theorem fact12_FnPageSums : (Rows.fnPageSumsRow.named == Try.prog.varsNamed 4) = true := by kernel_rfl
theorem factB_FnPageSums : factsB Try.prog 4 Try.f4 Rows.fnPageSumsSpec Rows.fnPageSumsRow = true := by kernel_rfl
theorem factN_FnPageSums : Try.prog.funcNamed Rows.fnPageSumsRow.func = some 4 := by kernel_rfl
theorem proved_FnPageSums : Rows.FnPageSumsSaid :=
  OpenClaim.holds_of_wide 4 Try.f4 rfl rfl rfl rfl rfl rfl rfl ⟨rfl, rfl, rfl, rfl, rfl⟩ rfl rfl rfl rfl rfl factN_FnPageSums Try.func4 (closed_of factA_FnPageSums fact9_FnPageSums fact10_FnPageSums fact11_FnPageSums fact12_FnPageSums factB_FnPageSums rfl rfl rfl)
    (of_decide_eq_true (by kernel_rfl)) (by unfold Func.isWrapper; first | (rw [if_pos (by decide +kernel)]; kernel_rfl) | (rw [if_neg (by decide +kernel)]; exact ⟨rfl, rfl⟩))
    (fun os started H enc _ => lifted_FnPageSums os started H enc)
end Go.Proofs.Ytihgbebdadpjaaa
