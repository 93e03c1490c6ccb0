/-
  RestrictSafe holds for every input: for any numbers of which a ship and a cell are made, and any severity, the call returns true and leaves its arguments as they were. No condition but the card's own: the variable hull.strengths is laid as the program's text lays it.
-/
import Derived.Test.YtalcinepeofmcaaDoorRSp0
import Derived.Test.YtalcinepeofmcaaDoorRSp24
import Derived.Test.YtalcinepeofmcaaDoorCards
import Derived.Test.YtalcinepeofmcaaDoorTie
import Derived.LaidMore
import Derived.LaidLaws
import Derived.MakeChecks
import Derived.SevenTiedAt
import Derived.Stop.Joined
namespace Go.Proofs.YtalcinepeofmcaaDoor.restrictSafe
open Go.ChangeShapes Go.WideShapes Go.ChangeAt Go.WideMaps Go.WideElems Go.RowKit
set_option linter.unusedVariables false

abbrev laidV {H : Type} : List (String × DataW H) := [("polynya/hull.strengths", Rows.laid_polynya_hull_strengths)]
theorem gStr : Tryd.prog.globalNamed "polynya/hull.strengths" = some 0 := by kernel_rfl
theorem tStr : (Tryd.prog.globals[0]?).map (·.type) = some 120 := by kernel_rfl
theorem door_met (os : Os) (args : Array Value) : laidMetH Tryd.prog laidV ((World.doorLaid Tryd.prog 400 os).forCall (fun _ _ => 0) ⟨#[], args, []⟩).memory :=
  laidMetH_of_parts3 (fuel := 8) (laidMet_of_run' 8 (by kernel_rfl) (by kernel_rfl)) (by kernel_rfl) (by kernel_rfl)
theorem of_laid {W : World} (h : laidMetH Tryd.prog laidV W) : StrG W := by
  rw [MakeChecks.laidMetH_plain _ _ _ (by kernel_rfl)] at h
  obtain ⟨ps, ⟨g1, t1, cs1, f1, p1, q1, hg1, ht1, hv1, hd1, _, _⟩, _, _⟩ := h
  obtain rfl := Option.some.inj (gStr.symm.trans hg1)
  obtain rfl := Option.some.inj (tStr.symm.trans ht1)
  obtain ⟨xs, m1, rfl, hx1, hlen, hn3, hel⟩ := DataW.trod_array Tryd.underlying120 hd1
  have c3 : Tryd.prog.cellsOf 3 = 1 := by kernel_rfl
  have hlit : ∀ k : Nat, k < 6 → (xs.map (fun x => x.1))[k]? = some (.lit (.int .i64 (strL.getD k 0))) := fun k hk => by
    have e : DataW.agg (xs.map (fun x => x.1)) = (Rows.laid_polynya_hull_strengths : DataW Unit) := (congrArg Prod.fst hx1).symm
    have e2 : xs.map (fun x => x.1) = [.lit (.int .i64 4000), .lit (.int .i64 8000), .lit (.int .i64 14000), .lit (.int .i64 24000), .lit (.int .i64 40000), .lit (.int .i64 90000)] := by
      unfold Rows.laid_polynya_hull_strengths at e
      injection e
    rw [e2]
    match k, hk with
    | 0, _ => rfl
    | 1, _ => rfl
    | 2, _ => rfl
    | 3, _ => rfl
    | 4, _ => rfl
    | 5, _ => rfl
  have hcell : ∀ k : Nat, k < 6 → W.cell? ⟨0, k, none⟩ = some (.int .i64 (strL.getD k 0)) := fun k hk => by
    have hk' := hel k hk
    have hxk := hlit k hk
    rw [List.getElem?_map] at hxk
    rw [c3] at hk'
    obtain ⟨y, hy, hy1⟩ : ∃ y, xs[k]? = some y ∧ y.1 = .lit (.int .i64 (strL.getD k 0)) := by
      cases e : xs[k]? with
      | none => rw [e] at hxk; cases hxk
      | some y => rw [e] at hxk; exact ⟨y, rfl, by injection hxk⟩
    rw [hy] at hk'
    obtain ⟨n, e1, e2, _⟩ := DataW.trod_int Tryd.underlying3 hk'
    have hn : n = strL.getD k 0 := by rw [e2] at hy1; simpa using hy1
    have h0 := World.var?_cell gStr hv1 k
    rw [h0]
    have e3 := congrArg (fun l => l[0]?) e1
    simp at e3
    rw [e3, hn]
  exact ⟨World.block_lt_of_cell? _ _ (hcell 0 (by decide)), hcell⟩
set_option maxRecDepth 100000 in
theorem lifted (os : Os) (started : os.Started) (H : Type) (enc : TypeId × Value → H) :
    ReturnsInHanded {} Tryd.checked os 3 .any (fun w args => (Rows.restrictSafeSpec.pre enc Tryd.prog Tryd.f3 [] false w args ∧ laidMetH Tryd.prog laidV w) ∧ sizedMet enc Tryd.prog Tryd.f3 (OpenSpec.ofChange Rows.restrictSafeSpec) false w args)
      (Rows.restrictSafeSpec.post enc Tryd.prog Tryd.f3 false true false false) := by
  refine returnsInHanded_of_change_and (C := Tryd.checked) (X := fun w _ => laidMetH Tryd.prog laidV w) (fun _ _ _ hh h => h.of_heap hh) own started (by kernel_rfl) Tryd.func3
    (ChangeSpec.witness_shaped (enc := enc) (C := Tryd.checked) (os := os) (X := fun w _ => laidMetH Tryd.prog laidV w) false (World.doorLaid Tryd.prog 400 os) #[.slice none 0 0, .slice none 0 0, .int .u8 0] 8 rfl (World.shaped_of_RefB (by kernel_rfl) (by kernel_rfl)) (by kernel_rfl) (by kernel_rfl) (by kernel_rfl) (door_met os _)) ?_
  intro W base args ds gs before hval0 hW hcnd hsz hL _
  have hval : ∀ (j : Nat) t v, Tryd.f3.params[j]? = some t → args[j]? = some v → Value.okWide Tryd.prog W .any base t v := hval0
  have hW' := hW
  obtain ⟨p, q, hA0, hV, rfl, hfz, hnd⟩ := hW
  have hA : DataW.TrodAll enc Tryd.prog W 0 (fun _ => true) true Tryd.f3.params.toList args.toList ds p := hA0
  rw [Tryd.params3] at hA hval
  obtain ⟨v0, vs0, d0, ds0, p0, q0, hargs, rfl, rfl, h0, r0⟩ := trodAll_cons hA
  obtain ⟨v1, vs1, d1, ds1, p1, q1, rfl, rfl, rfl, h1, r1⟩ := trodAll_cons r0
  obtain ⟨v2, vs2, d2, ds2, p2, q2, rfl, rfl, rfl, h2, r2⟩ := trodAll_cons r1
  obtain ⟨rfl, rfl, rfl⟩ := trodAll_nil r2
  obtain rfl : args = #[v0, v1, v2] := by cases args; simp_all
  obtain ⟨A0, c0, l0, rfl, R0, B0, hc0, hm0, hs0⟩ := open_intsR Tryd.underlying22 Tryd.underlying5 (by kernel_rfl) (hval 0 22 v0 rfl rfl) h0
  obtain ⟨A1, c1, l1, rfl, R1, B1, hc1, hm1, hs1⟩ := open_intsR Tryd.underlying22 Tryd.underlying5 (by kernel_rfl) (hval 1 22 v1 rfl rfl) h1
  obtain ⟨a2, rfl, rfl, rfl, w2⟩ := open_int Tryd.underlying5 (hval 2 5 v2 rfl rfl) h2
  have reach0 : l0.length ≤ 9223372036854775800 := by have := reach_of (j := 0) hsz rfl rfl Tryd.underlying22 (of_decide_eq_true (by kernel_rfl)) hs0; omega
  have reach1 : l1.length ≤ 9223372036854775800 := by have := reach_of (j := 1) hsz rfl rfl Tryd.underlying22 (of_decide_eq_true (by kernel_rfl)) hs1; omega
  refine (safe_any A0 c0 l0 A1 c1 l1 a2 W R0 (fun x hx => wf_u8 (B0 x hx)) reach0 R1 (fun x hx => wf_u8 (B1 x hx)) reach1 (wf_u8 w2) (of_laid hL)).mono fun e W' ⟨he, hb⟩ => ?_
  subst he
  exact ⟨_, rfl, law_post laidOut (by kernel_rfl) rfl Tryd.underlying4 rfl rfl hW' hb⟩

theorem over : Rows.restrictSafeRow.holds Tryd.pinned (OpenSpec.ofChange Rows.restrictSafeSpec) :=
  OpenClaim.holds_of_wide 3 Tryd.f3 rfl rfl rfl rfl rfl rfl rfl ⟨rfl, rfl, rfl, rfl, rfl⟩ rfl rfl rfl rfl rfl (by kernel_rfl) Tryd.func3 (by kernel_rfl)
    (of_decide_eq_true (by kernel_rfl)) (by unfold Func.isWrapper; first | (rw [if_pos (by decide +kernel)]; kernel_rfl) | (rw [if_neg (by decide +kernel)]; exact ⟨rfl, rfl⟩))
    (fun os started H enc _ => lifted os started H enc)

theorem proved : Rows.RestrictSafeCardSaid :=
  Claim7.holds_tied_plain_at .later [] [.data] true (true, "d064dda35b35ad728ad81d36036d85ae7421d07a7eaacfb2b81a79e90985b386") false
    over (fun _ h => by cases h) (by kernel_rfl) (fun _ h => by cases h) restrictSafe_row_tie rfl ⟨rfl, rfl⟩ (by kernel_rfl) rfl
    (fun f fn hf hfn => by
      obtain rfl : f = 3 := Option.some.inj ((show Tryd.prog.funcNamed "polynya/polynyalaw08.RestrictSafe" = some 3 by kernel_rfl).symm.trans hf) |>.symm
      obtain rfl : fn = Tryd.f3 := (Option.some.inj (Tryd.func3.symm.trans hfn)).symm
      exact ⟨by kernel_rfl, fun j t ht => by
        rw [Tryd.params3] at ht
        have hm : t ∈ [22, 22, 5] := by simpa using Array.mem_of_getElem? ht
        have hall : ([22, 22, 5].all fun u => !Tryd.prog.wantsStandIn u) = true := by kernel_rfl
        exact (show Tryd.prog.wantsStandIn t = false by simpa using List.all_eq_true.1 hall t hm)⟩)
    (by kernel_rfl)
#print axioms proved
end Go.Proofs.YtalcinepeofmcaaDoor.restrictSafe
