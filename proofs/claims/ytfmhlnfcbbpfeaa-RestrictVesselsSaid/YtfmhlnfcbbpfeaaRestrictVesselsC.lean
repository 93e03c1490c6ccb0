/-
  RestrictVessels holds for every input: for any policy, history, vessel, days and passages, the call returns true and leaves its arguments as they were. No condition.
-/
import Derived.Test.YtfmhlnfcbbpfeaaRVp0
import Derived.Test.YtfmhlnfcbbpfeaaRVp9
import Derived.Test.YtfmhlnfcbbpfeaaRVp24
namespace Go.Proofs.Ytfmhlnfcbbpfeaa.restrictVessels
open Go.ChangeShapes Go.WideShapes Go.ChangeAt Go.RowKit Sp
set_option linter.unusedVariables false

set_option maxRecDepth 100000 in
theorem lifted (os : Os) (started : os.Started) (H : Type) (enc : TypeId × Value → H) :
    ReturnsInHanded {} Try.checked os 9 .any (Rows.restrictVesselsSpec.pre6 enc Try.prog Try.f9 Rows.restrictVesselsRow.domain false) (Rows.restrictVesselsSpec.post enc Try.prog Try.f9 false true false false) := by
  refine returnsInHanded_of_change_sized (C := Try.checked) own started (by kernel_rfl) Try.func9
    (ChangeSpec.witness6 (enc := enc) (C := Try.checked) false ⟨#[], #[.agg #[.slice none 0 0, .int .i64 0, .int .i64 0, .int .i64 0, .int .i64 0], .slice none 0 0, .agg #[.int .i64 0, .int .i64 0, .bool false], .int .i64 0, .int .i64 0, .slice none 0 0], []⟩ 8 (by kernel_rfl) (by kernel_rfl) (by kernel_rfl) (by kernel_rfl)) ?_
  intro W base args ds gs before hval0 hW hcnd hsz _
  have hval : ∀ (j : Nat) t v, Try.f9.params[j]? = some t → args[j]? = some v → Value.okWide Try.prog W .any base t v := hval0
  have hW' := hW
  obtain ⟨p, q, hA0, hV, rfl, hfz, hnd⟩ := hW
  have hA : DataW.TrodAll enc Try.prog W 0 (fun _ => true) true Try.f9.params.toList args.toList ds p := hA0
  rw [Try.params9] at hA hval
  obtain ⟨v0, vs0, d0, ds0, p0, q0, hargs, rfl, rfl, h0, r0⟩ := trodAll_cons hA
  obtain ⟨v1, vs1, d1, ds1, p1, q1, rfl, rfl, rfl, h1, r1⟩ := trodAll_cons r0
  obtain ⟨v2, vs2, d2, ds2, p2, q2, rfl, rfl, rfl, h2, r2⟩ := trodAll_cons r1
  obtain ⟨v3, vs3, d3, ds3, p3, q3, rfl, rfl, rfl, h3, r3⟩ := trodAll_cons r2
  obtain ⟨v4, vs4, d4, ds4, p4, q4, rfl, rfl, rfl, h4, r4⟩ := trodAll_cons r3
  obtain ⟨v5, vs5, d5, ds5, p5, q5, rfl, rfl, rfl, h5, r5⟩ := trodAll_cons r4
  obtain ⟨rfl, rfl, rfl⟩ := trodAll_nil r5
  obtain rfl : args = #[v0, v1, v2, v3, v4, v5] := by cases args; simp_all
  obtain ⟨As, cs, po, rfl, hp, hcs⟩ := open_pol (hval 0 25 v0 rfl rfl) h0
  obtain ⟨fu1, hf1⟩ := h1
  obtain ⟨A1, c1, l1, hv1, R1, _, _, _, _⟩ := open_rows (T := Int) (size := 1) Try.underlying27 (by kernel_rfl) (by omega) el_int hf1
  obtain ⟨a2, b2, g2, rfl⟩ := open_ves (hval 2 33 v2 rfl rfl) h2
  obtain ⟨a3, rfl, rfl, rfl, w3⟩ := open_int Try.underlying3 (hval 3 3 v3 rfl rfl) h3
  obtain ⟨a4, rfl, rfl, rfl, w4⟩ := open_int Try.underlying3 (hval 4 3 v4 rfl rfl) h4
  obtain ⟨fu5, hf5⟩ := h5
  obtain ⟨A2, c2, l2, hv2, R2, _, _, _, hn2⟩ := open_rows (T := Psg) Try.underlying36 (size := 5) (by kernel_rfl) (by omega) el_psg hf5
  obtain ⟨B1, n1, k1, e1⟩ := okWide_slice Try.underlying27 (hval 1 27 v1 rfl rfl)
  obtain ⟨B2, n2, k2, e2⟩ := okWide_slice Try.underlying36 (hval 5 36 v5 rfl rfl)
  subst e1 e2
  simp [Value.cells] at hv1 hv2
  obtain ⟨rfl, rfl, rfl⟩ := hv1
  obtain ⟨rfl, rfl, rfl⟩ := hv2
  have R1' : Rd W 1 B1 l1.length (ints l1) := by
    rwa [← flat_ints]
  refine (vessels_any As cs po B1 k1 l1 B2 k2 l2 ⟨a2, b2, g2⟩ a3 a4 W hp hcs R1' R2 hn2).mono fun e W' ⟨he, hb⟩ => ?_
  subst he
  exact ⟨_, rfl, law_post laidOut (by kernel_rfl) rfl Try.underlying4 rfl rfl hW' hb⟩

theorem over : Rows.restrictVesselsRow.holds Try.pinned (OpenSpec.ofChange Rows.restrictVesselsSpec) :=
  OpenClaim.holds_of_wide 9 Try.f9 rfl rfl rfl rfl rfl rfl rfl ⟨rfl, rfl, rfl, rfl, rfl⟩ rfl rfl rfl rfl rfl (by kernel_rfl) Try.func9 (by kernel_rfl)
    (of_decide_eq_true (by kernel_rfl)) (by unfold Func.isWrapper; first | (rw [if_pos (by decide +kernel)]; kernel_rfl) | (rw [if_neg (by decide +kernel)]; exact ⟨rfl, rfl⟩))
    (fun os started H enc _ => lifted os started H enc)

theorem proved : Rows.RestrictVesselsSaid :=
  over
#print axioms proved
end Go.Proofs.Ytfmhlnfcbbpfeaa.restrictVessels
