/-
  PortForever holds for every input: for any port, state and plan, the call returns true and leaves its arguments as they were. No condition.
-/
import Derived.Test.YthmldeningpjbaaPFp0
import Derived.Test.YthmldeningpjbaaPFp13
import Derived.Test.YthmldeningpjbaaPFp40
namespace Go.Proofs.Ythmldeningpjbaa.portForever
open Go.ChangeShapes Go.WideShapes Go.ChangeAt Go.RowKit Sp Pt
set_option linter.unusedVariables false

set_option maxRecDepth 100000 in
theorem lifted (os : Os) (started : os.Started) (H : Type) (enc : TypeId × Value → H) :
    ReturnsInHanded {} Try.checked os 6 .any (Rows.portForeverSpec.pre6 enc Try.prog Try.f6 Rows.portForeverRow.domain false) (Rows.portForeverSpec.post enc Try.prog Try.f6 false true false false) := by
  refine returnsInHanded_of_change_sized (C := Try.checked) own started (by kernel_rfl) Try.func6
    (ChangeSpec.witness6 (enc := enc) (C := Try.checked) false ⟨#[], #[.agg #[.slice none 0 0, .slice none 0 0, .int .i64 0], .agg #[.slice none 0 0, .slice none 0 0], .agg #[.int .i64 0, .slice none 0 0, .slice none 0 0]], []⟩ 8 (by kernel_rfl) (by kernel_rfl) (by kernel_rfl) (by kernel_rfl)) ?_
  intro W base args ds gs before hval0 hW hcnd hsz _
  have hval : ∀ (j : Nat) t v, Try.f6.params[j]? = some t → args[j]? = some v → Value.okWide Try.prog W .any base t v := hval0
  have hW' := hW
  obtain ⟨p, q, hA0, hV, rfl, hfz, hnd⟩ := hW
  have hA : DataW.TrodAll enc Try.prog W 0 (fun _ => true) true Try.f6.params.toList args.toList ds p := hA0
  rw [Try.params6] at hA hval
  obtain ⟨v0, vs0, d0, ds0, p0, q0, hargs, rfl, rfl, h0, r0⟩ := trodAll_cons hA
  obtain ⟨v1, vs1, d1, ds1, p1, q1, rfl, rfl, rfl, h1, r1⟩ := trodAll_cons r0
  obtain ⟨v2, vs2, d2, ds2, p2, q2, rfl, rfl, rfl, h2, r2⟩ := trodAll_cons r1
  obtain ⟨rfl, rfl, rfl⟩ := trodAll_nil r2
  obtain rfl : args = #[v0, v1, v2] := by cases args; simp_all
  obtain ⟨Ac, cc, Ab, cb, po, rfl, hp⟩ := open_prt (hval 0 26 v0 rfl rfl) h0
  obtain ⟨Ar, cr, Au, cu, st, rfl, hs⟩ := open_stt (hval 1 42 v1 rfl rfl) h1
  obtain ⟨Al, cl, As, cs, pl, rfl, hl⟩ := open_pln (hval 2 31 v2 rfl rfl) h2
  refine (portForever_any Ac cc Ab cb po Ar cr Au cu st Al cl As cs pl W hp hs hl).mono fun e W' ⟨he, hb⟩ => ?_
  subst he
  exact ⟨_, rfl, law_post laidOut (by kernel_rfl) rfl Try.underlying4 rfl rfl hW' hb⟩

theorem over : Rows.portForeverRow.holds Try.pinned (OpenSpec.ofChange Rows.portForeverSpec) :=
  OpenClaim.holds_of_wide 6 Try.f6 rfl rfl rfl rfl rfl rfl rfl ⟨rfl, rfl, rfl, rfl, rfl⟩ rfl rfl rfl rfl rfl (by kernel_rfl) Try.func6 (by kernel_rfl)
    (of_decide_eq_true (by kernel_rfl)) (by unfold Func.isWrapper; first | (rw [if_pos (by decide +kernel)]; kernel_rfl) | (rw [if_neg (by decide +kernel)]; exact ⟨rfl, rfl⟩))
    (fun os started H enc _ => lifted os started H enc)

theorem proved : Rows.PortForeverSaid :=
  over
#print axioms proved
end Go.Proofs.Ythmldeningpjbaa.portForever
