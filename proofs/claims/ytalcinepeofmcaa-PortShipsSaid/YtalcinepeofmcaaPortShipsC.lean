/-
  PortShips holds for every input: for any numbers of which a ship, a port, a plan and its brash are made, the call returns true and leaves its arguments as they were. No condition.
-/
import Derived.Test.YtalcinepeofmcaaPSp0
import Derived.Test.YtalcinepeofmcaaPSp26
namespace Go.Proofs.Ytalcinepeofmcaa.portShips
open Go.ChangeShapes Go.WideShapes Go.ChangeAt Go.RowKit
set_option linter.unusedVariables false

set_option maxRecDepth 100000 in
theorem lifted (os : Os) (started : os.Started) (H : Type) (enc : TypeId × Value → H) :
    ReturnsInHanded {} Try.checked os 3 .any (Rows.portShipsSpec.pre6 enc Try.prog Try.f3 Rows.portShipsRow.domain false) (Rows.portShipsSpec.post enc Try.prog Try.f3 false true false false) := by
  refine returnsInHanded_of_change_sized (C := Try.checked) own started (by kernel_rfl) Try.func3
    (ChangeSpec.witness6 (enc := enc) (C := Try.checked) false ⟨#[], #[.slice none 0 0, .slice none 0 0, .slice none 0 0, .slice none 0 0], []⟩ 8 (by kernel_rfl) (by kernel_rfl) (by kernel_rfl) (by kernel_rfl)) ?_
  intro W base args ds gs before hval0 hW hcnd hsz _
  have hval : ∀ (j : Nat) t v, Try.f3.params[j]? = some t → args[j]? = some v → Value.okWide Try.prog W .any base t v := hval0
  have hW' := hW
  obtain ⟨p, q, hA0, hV, rfl, hfz, hnd⟩ := hW
  have hA : DataW.TrodAll enc Try.prog W 0 (fun _ => true) true Try.f3.params.toList args.toList ds p := hA0
  rw [Try.params3] at hA hval
  obtain ⟨v0, vs0, d0, ds0, p0, q0, hargs, rfl, rfl, h0, r0⟩ := trodAll_cons hA
  obtain ⟨v1, vs1, d1, ds1, p1, q1, rfl, rfl, rfl, h1, r1⟩ := trodAll_cons r0
  obtain ⟨v2, vs2, d2, ds2, p2, q2, rfl, rfl, rfl, h2, r2⟩ := trodAll_cons r1
  obtain ⟨v3, vs3, d3, ds3, p3, q3, rfl, rfl, rfl, h3, r3⟩ := trodAll_cons r2
  obtain ⟨rfl, rfl, rfl⟩ := trodAll_nil r3
  obtain rfl : args = #[v0, v1, v2, v3] := by cases args; simp_all
  obtain ⟨A0, c0, l0, rfl, R0, B0, hc0, hm0, hs0⟩ := open_intsR Try.underlying22 Try.underlying5 (by kernel_rfl) (hval 0 22 v0 rfl rfl) h0
  obtain ⟨A1, c1, l1, rfl, R1, B1, hc1, hm1, hs1⟩ := open_intsR Try.underlying22 Try.underlying5 (by kernel_rfl) (hval 1 22 v1 rfl rfl) h1
  obtain ⟨A2, c2, l2, rfl, R2, B2, hc2, hm2, hs2⟩ := open_intsR Try.underlying22 Try.underlying5 (by kernel_rfl) (hval 2 22 v2 rfl rfl) h2
  obtain ⟨A3, c3, l3, rfl, R3, B3, hc3, hm3, hs3⟩ := open_intsR Try.underlying22 Try.underlying5 (by kernel_rfl) (hval 3 22 v3 rfl rfl) h3
  have reach0 : l0.length ≤ 9223372036854775800 := by have := reach_of (j := 0) hsz rfl rfl Try.underlying22 (of_decide_eq_true (by kernel_rfl)) hs0; omega
  have reach1 : l1.length ≤ 9223372036854775800 := by have := reach_of (j := 1) hsz rfl rfl Try.underlying22 (of_decide_eq_true (by kernel_rfl)) hs1; omega
  have reach2 : l2.length ≤ 9223372036854775800 := by have := reach_of (j := 2) hsz rfl rfl Try.underlying22 (of_decide_eq_true (by kernel_rfl)) hs2; omega
  have reach3 : l3.length ≤ 9223372036854775800 := by have := reach_of (j := 3) hsz rfl rfl Try.underlying22 (of_decide_eq_true (by kernel_rfl)) hs3; omega
  refine (ships_any A0 c0 l0 A1 c1 l1 A2 c2 l2 A3 c3 l3 W R0 (fun x hx => wf_u8 (B0 x hx)) (reach0) R1 (fun x hx => wf_u8 (B1 x hx)) (reach1) R2 (fun x hx => wf_u8 (B2 x hx)) (reach2) R3 (fun x hx => wf_u8 (B3 x hx)) (reach3)).mono fun e W' ⟨he, hb⟩ => ?_
  subst he
  exact ⟨_, rfl, law_post laidOut (by kernel_rfl) rfl Try.underlying4 rfl rfl hW' hb⟩

theorem over : Rows.portShipsRow.holds Try.pinned (OpenSpec.ofChange Rows.portShipsSpec) :=
  OpenClaim.holds_of_wide 3 Try.f3 rfl rfl rfl rfl rfl rfl rfl ⟨rfl, rfl, rfl, rfl, rfl⟩ rfl rfl rfl rfl rfl (by kernel_rfl) Try.func3 (by kernel_rfl)
    (of_decide_eq_true (by kernel_rfl)) (by unfold Func.isWrapper; first | (rw [if_pos (by decide +kernel)]; kernel_rfl) | (rw [if_neg (by decide +kernel)]; exact ⟨rfl, rfl⟩))
    (fun os started H enc _ => lifted os started H enc)

theorem proved : Rows.PortShipsSaid :=
  over
#print axioms proved
end Go.Proofs.Ytalcinepeofmcaa.portShips
