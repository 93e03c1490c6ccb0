/-
  RestrictBounds holds for every input: for any policy, spans, vessel, day, ice, chart and list of cells, the call returns true and leaves its arguments as they were. No condition.
-/
import Derived.Test.YtfmhlnfcbbpfeaaRBp0
import Derived.Test.YtfmhlnfcbbpfeaaRBp11
import Derived.Test.YtfmhlnfcbbpfeaaRBp30
namespace Go.Proofs.Ytfmhlnfcbbpfeaa.restrictBounds
open Go.ChangeShapes Go.WideShapes Go.ChangeAt Go.RowKit Sp
set_option linter.unusedVariables false

set_option maxRecDepth 100000 in
theorem lifted (os : Os) (started : os.Started) (H : Type) (enc : TypeId × Value → H) :
    ReturnsInHanded {} Try.checked os 11 .any (Rows.restrictBoundsSpec.pre6 enc Try.prog Try.f11 Rows.restrictBoundsRow.domain false) (Rows.restrictBoundsSpec.post enc Try.prog Try.f11 false true false false) := by
  refine returnsInHanded_of_change_sized (C := Try.checked) own started (by kernel_rfl) Try.func11
    (ChangeSpec.witness6 (enc := enc) (C := Try.checked) false ⟨#[], #[.agg #[.slice none 0 0, .int .i64 0, .int .i64 0, .int .i64 0, .int .i64 0], .slice none 0 0, .agg #[.int .i64 0, .int .i64 0, .bool false], .int .i64 0, .agg #[.int .i64 0, .int .i64 0, .int .i64 0, .int .i64 0], .agg #[.int .i64 0, .int .i64 0, .int .i64 0, .slice none 0 0], .slice none 0 0], []⟩ 8 (by kernel_rfl) (by kernel_rfl) (by kernel_rfl) (by kernel_rfl)) ?_
  intro W base args ds gs before hval0 hW hcnd hsz _
  have hval : ∀ (j : Nat) t v, Try.f11.params[j]? = some t → args[j]? = some v → Value.okWide Try.prog W .any base t v := hval0
  have hW' := hW
  obtain ⟨p, q, hA0, hV, rfl, hfz, hnd⟩ := hW
  have hA : DataW.TrodAll enc Try.prog W 0 (fun _ => true) true Try.f11.params.toList args.toList ds p := hA0
  rw [Try.params11] at hA hval
  obtain ⟨v0, vs0, d0, ds0, p0, q0, hargs, rfl, rfl, h0, r0⟩ := trodAll_cons hA
  obtain ⟨v1, vs1, d1, ds1, p1, q1, rfl, rfl, rfl, h1, r1⟩ := trodAll_cons r0
  obtain ⟨v2, vs2, d2, ds2, p2, q2, rfl, rfl, rfl, h2, r2⟩ := trodAll_cons r1
  obtain ⟨v3, vs3, d3, ds3, p3, q3, rfl, rfl, rfl, h3, r3⟩ := trodAll_cons r2
  obtain ⟨v4, vs4, d4, ds4, p4, q4, rfl, rfl, rfl, h4, r4⟩ := trodAll_cons r3
  obtain ⟨v5, vs5, d5, ds5, p5, q5, rfl, rfl, rfl, h5, r5⟩ := trodAll_cons r4
  obtain ⟨v6, vs6, d6, ds6, p6, q6, rfl, rfl, rfl, h6, r6⟩ := trodAll_cons r5
  obtain ⟨rfl, rfl, rfl⟩ := trodAll_nil r6
  obtain rfl : args = #[v0, v1, v2, v3, v4, v5, v6] := by cases args; simp_all
  obtain ⟨As, cs, po, rfl, hp, hcs⟩ := open_pol (hval 0 25 v0 rfl rfl) h0
  obtain ⟨fu1, hf1⟩ := h1
  obtain ⟨A1, c1, l1, hv1, R1, _, _, _, _⟩ := open_rows (T := Int × Int) (size := 2) Try.underlying61 (by kernel_rfl) (by omega) el_spn hf1
  obtain ⟨a2, b2, g2, rfl⟩ := open_ves (hval 2 33 v2 rfl rfl) h2
  obtain ⟨a3, rfl, rfl, rfl, w3⟩ := open_int Try.underlying3 (hval 3 3 v3 rfl rfl) h3
  obtain ⟨x4, rfl⟩ := open_ice (hval 4 111 v4 rfl rfl) h4
  obtain ⟨ca, cb, cc, A5, k5, l5, rfl, R5, hc5⟩ := open_chart (hval 5 114 v5 rfl rfl) h5
  obtain ⟨fu6, hf6⟩ := h6
  obtain ⟨A6, c6, l6, hv6, R6, _, _, _, _⟩ := open_rows (T := Int) (size := 1) Try.underlying27 (by kernel_rfl) (by omega) el_int hf6
  obtain ⟨B1, n1, k1, e1⟩ := okWide_slice Try.underlying61 (hval 1 61 v1 rfl rfl)
  obtain ⟨B6, n6, k6, e6⟩ := okWide_slice Try.underlying27 (hval 6 27 v6 rfl rfl)
  subst e1 e6
  simp [Value.cells] at hv1 hv6
  obtain ⟨rfl, rfl, rfl⟩ := hv1
  obtain ⟨rfl, rfl, rfl⟩ := hv6
  have R6' : Rd W 1 B6 l6.length (ints l6) := by
    rwa [← flat_ints]
  refine (bounds_all As cs po B1 k1 l1 ⟨a2, b2, g2⟩ a3 x4 ca cb cc A5 k5 l5 B6 k6 l6 W hp hcs R1 R5 hc5 R6').mono fun e W' ⟨he, hb⟩ => ?_
  subst he
  exact ⟨_, rfl, law_post laidOut (by kernel_rfl) rfl Try.underlying4 rfl rfl hW' hb⟩

theorem over : Rows.restrictBoundsRow.holds Try.pinned (OpenSpec.ofChange Rows.restrictBoundsSpec) :=
  OpenClaim.holds_of_wide 11 Try.f11 rfl rfl rfl rfl rfl rfl rfl ⟨rfl, rfl, rfl, rfl, rfl⟩ rfl rfl rfl rfl rfl (by kernel_rfl) Try.func11 (by kernel_rfl)
    (of_decide_eq_true (by kernel_rfl)) (by unfold Func.isWrapper; first | (rw [if_pos (by decide +kernel)]; kernel_rfl) | (rw [if_neg (by decide +kernel)]; exact ⟨rfl, rfl⟩))
    (fun os started H enc _ => lifted os started H enc)

theorem proved : Rows.RestrictBoundsSaid :=
  over
#print axioms proved
end Go.Proofs.Ytfmhlnfcbbpfeaa.restrictBounds
