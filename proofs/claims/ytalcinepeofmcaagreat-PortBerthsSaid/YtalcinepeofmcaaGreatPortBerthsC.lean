/-
  PortBerths holds for every input: for any port, visits, places and ship, the call returns true and leaves its arguments as they were. No condition.
-/
import Derived.Test.YtalcinepeofmcaaGreatPBp0
import Derived.Test.YtalcinepeofmcaaGreatPBp4
import Derived.Test.YtalcinepeofmcaaGreatPBp29
namespace Go.Proofs.YtalcinepeofmcaaGreat.portBerths
open Go.ChangeShapes Go.WideShapes Go.ChangeAt Go.RowKit Sp Pt Hu
set_option linter.unusedVariables false

set_option maxRecDepth 100000 in
theorem lifted (os : Os) (started : os.Started) (H : Type) (enc : TypeId × Value → H) :
    ReturnsInHanded {} Tryz.checked os 3 .any (Rows.portBerthsSpec.pre6 enc Tryz.prog Tryz.f3 Rows.portBerthsRow.domain false) (Rows.portBerthsSpec.post enc Tryz.prog Tryz.f3 false true false false) := by
  refine returnsInHanded_of_change_sized (C := Tryz.checked) own started (by kernel_rfl) Tryz.func3
    (ChangeSpec.witness6 (enc := enc) (C := Tryz.checked) false ⟨#[], #[.agg #[.slice none 0 0, .slice none 0 0, .int .i64 0], .slice none 0 0, .slice none 0 0, .agg #[.int .i64 0, .int .i64 0, .int .i64 0, .int .i64 0, .slice none 0 0, .slice none 0 0, .slice none 0 0, .int .i64 0, .int .i64 0, .int .i64 0, .int .i64 0]], []⟩ 8 (by kernel_rfl) (by kernel_rfl) (by kernel_rfl) (by kernel_rfl)) ?_
  intro W base args ds gs before hval0 hW hcnd hsz _
  have hval : ∀ (j : Nat) t v, Tryz.f3.params[j]? = some t → args[j]? = some v → Value.okWide Tryz.prog W .any base t v := hval0
  have hW' := hW
  obtain ⟨p, q, hA0, hV, rfl, hfz, hnd⟩ := hW
  have hA : DataW.TrodAll enc Tryz.prog W 0 (fun _ => true) true Tryz.f3.params.toList args.toList ds p := hA0
  rw [Tryz.params3] at hA hval
  obtain ⟨v0, vs0, d0, ds0, p0, q0, hargs, rfl, rfl, h0, r0⟩ := trodAll_cons hA
  obtain ⟨v1, vs1, d1, ds1, p1, q1, rfl, rfl, rfl, h1, r1⟩ := trodAll_cons r0
  obtain ⟨v2, vs2, d2, ds2, p2, q2, rfl, rfl, rfl, h2, r2⟩ := trodAll_cons r1
  obtain ⟨v3, vs3, d3, ds3, p3, q3, rfl, rfl, rfl, h3, r3⟩ := trodAll_cons r2
  obtain ⟨rfl, rfl, rfl⟩ := trodAll_nil r3
  obtain rfl : args = #[v0, v1, v2, v3] := by cases args; simp_all
  obtain ⟨Ac, cc, Ab, cb, po, rfl, hp⟩ := open_prt (hval 0 25 v0 rfl rfl) h0
  obtain ⟨fu1, hf1⟩ := h1
  obtain ⟨A1, c1, l1, hv1, R1, _, _, _, hn1⟩ := open_rows (T := Vst) (size := 4) Tryz.underlying26 (by kernel_rfl) (by omega) el_vst hf1
  obtain ⟨fu2, hf2⟩ := h2
  obtain ⟨A2, c2, l2, hv2, R2, _, _, _, hn2⟩ := open_rows (T := Plc) (size := 2) Tryz.underlying27 (by kernel_rfl) (by omega) el_plc hf2
  obtain ⟨At, ct, Aw, cw, Ai, ci, s, rfl, S1, S2, S3, z1, z2, z3⟩ := open_shp (hval 3 30 v3 rfl rfl) h3
  obtain ⟨B1, n1, k1, e1⟩ := okWide_slice Tryz.underlying26 (hval 1 26 v1 rfl rfl)
  obtain ⟨B2, n2, k2, e2⟩ := okWide_slice Tryz.underlying27 (hval 2 27 v2 rfl rfl)
  subst e1 e2
  simp [Value.cells] at hv1 hv2
  obtain ⟨rfl, rfl, rfl⟩ := hv1
  obtain ⟨rfl, rfl, rfl⟩ := hv2
  refine (portBerths_any Ac cc Ab cb po B1 k1 l1 B2 k2 l2 At ct Aw cw Ai ci s W hp R1 R2 S1 S2 S3 hn1 hn2 ⟨z1, z2, z3⟩).mono fun e W' ⟨he, hb⟩ => ?_
  subst he
  exact ⟨_, rfl, law_post laidOut (by kernel_rfl) rfl Tryz.underlying4 rfl rfl hW' hb⟩

theorem over : Rows.portBerthsRow.holds Tryz.pinned (OpenSpec.ofChange Rows.portBerthsSpec) :=
  OpenClaim.holds_of_wide 3 Tryz.f3 rfl rfl rfl rfl rfl rfl rfl ⟨rfl, rfl, rfl, rfl, rfl⟩ rfl rfl rfl rfl rfl (by kernel_rfl) Tryz.func3 (by kernel_rfl)
    (of_decide_eq_true (by kernel_rfl)) (by unfold Func.isWrapper; first | (rw [if_pos (by decide +kernel)]; kernel_rfl) | (rw [if_neg (by decide +kernel)]; exact ⟨rfl, rfl⟩))
    (fun os started H enc _ => lifted os started H enc)

theorem proved : Rows.PortBerthsSaid :=
  over
#print axioms proved
end Go.Proofs.YtalcinepeofmcaaGreat.portBerths
