/- PortClosed: the walk -/
import Derived.Test.YthmldeningpjbaaPCp32
set_option linter.unusedVariables false
set_option linter.unusedSimpArgs false
namespace Go.Proofs.Ythmldeningpjbaa
open Go Go.RowKit Go.Lib Sp Pt
set_option linter.unusedVariables false
set_option linter.unusedSimpArgs false

set_option linter.unusedVariables false
def Pc21V (W0 : World) (tb ib xb : Nat) (ar ls sa sz m0 m1 : Int) : Nat → Value → Prop
  | 0, v => v = .pointer (some ⟨tb, 0, none⟩)
  | 1, v => v = .int .i64 ar
  | 2, v => v = .pointer (some ⟨ib, 0, none⟩)
  | 3, v => v = .int .i64 sa
  | 4, v => v = .int .i64 m0
  | 5, v => v = .pointer (some ⟨tb, 1, none⟩)
  | 6, v => v = .int .i64 ls
  | 7, v => v = .pointer (some ⟨ib, 1, none⟩)
  | 8, v => v = .int .i64 sz
  | 9, v => v = .int .i64 m1
  | 10, v => v = .pointer (some ⟨xb, 0, none⟩)
  | 12, v => v = .pointer (some ⟨xb, 1, none⟩)
  | _, _ => True
def Pc21W (W0 : World) (tb ib xb : Nat) (ar ls sa sz m0 m1 : Int) (l : Nat → Bool) (w : World) : Prop := Keep [xb] W0 w ∧ w.heap[xb]? = some (.cells #[.int .i64 (if l 11 then m0 else ar), .int .i64 (if l 13 then m1 else ls), .int .i64 3, .int .i64 100] 102 (0, 0))
set_option linter.unusedVariables false
def Pc26V (W0 : World) (c : CyC) (co g8 o8 k8 : Nat) (m0 : Int) : Nat → Value → Prop
  | 0, v => v = .agg #[.slice c.As c.q.steps.length c.cs, .int .i64 c.q.hold, .int .i64 c.q.calm, .int .i64 c.q.notice, .int .i64 c.q.grace]
  | 1, v => v = .slice c.Ad c.days.length co
  | 2, v => v = .agg #[.int .i64 c.v.cls, .int .i64 c.v.ton, .bool c.v.esc]
  | 3, v => v = .slice (some ⟨g8, o8, none⟩) 1 k8
  | 4, v => v = .pointer (some ⟨g8, o8, none⟩)
  | 5, v => v = .pointer (some ⟨g8, o8 + 1, none⟩)
  | 6, v => v = .int .i64 m0
  | 7, v => v = .tuple #[.bool true, .int .i64 0]
  | 8, v => v = .tuple #[.bool true, .int .i64 0]
  | 9, v => v = .bool true
  | 10, v => v = .int .i64 0
  | 11, v => v = .bool true
  | 12, v => v = .int .i64 0
  | _, _ => True
def Pc26W (W0 : World) (c : CyC) (co g8 o8 k8 : Nat) (m0 : Int) (l : Nat → Bool) (w : World) : Prop := Below W0.heap.size W0 w
set_option maxRecDepth 100000 in
set_option maxHeartbeats 4000000 in
theorem closed_any (A0 : Option Addr) (c0 : Nat) (l0 : List Int) (A1 : Option Addr) (c1 : Nat) (l1 : List Int) (A2 : Option Addr) (c2 : Nat) (l2 : List Int) (x3 x4 x5 x6 : Int) (w : World)
    (hr0 : Rd w 1 A0 l0.length (byts l0)) (hl0 : Bytes l0) (hm0 : l0.length ≤ 9223372036854775800) (hr1 : Rd w 1 A1 l1.length (byts l1)) (hl1 : Bytes l1) (hm1 : l1.length ≤ 9223372036854775800) (hr2 : Rd w 1 A2 l2.length (byts l2)) (hl2 : Bytes l2) (hm2 : l2.length ≤ 9223372036854775800) (hc2 : l2.length ≤ c2 ∧ c2 ≤ 9223372036854775807)
    (hx3 : 0 ≤ x3 ∧ x3 ≤ 255) (hx4 : 0 ≤ x4 ∧ x4 ≤ 255) (hx5 : 0 ≤ x5 ∧ x5 ≤ 255) (hx6 : 0 ≤ x6 ∧ x6 ≤ 255) :
    Calls Try.prog 11 #[.slice A0 l0.length c0, .slice A1 l1.length c1, .slice A2 l2.length c2, .int .u8 x3, .int .u8 x4, .int .u8 x5, .int .u8 x6] w fun e w' => e = .returned (.bool true) ∧ Below w.heap.size w w' := by
  obtain ⟨iI, hI0, hI1, hI2, hI3⟩ := info_parts info_int
  have HR0 := Lib.hid (And.intro hr0 (And.intro hl0 hm0))
  have HR1 := Lib.hid (And.intro hr1 (And.intro hl1 hm1))
  have HR2 := Lib.hid (And.intro hr2 (And.intro hl2 hm2))
  have HX := Lib.hid (And.intro hx3 (And.intro hx4 (And.intro hx5 hx6)))
  clear hr0 hl0 hm0 hr1 hl1 hm1 hr2 hl2 hm2 hx3 hx4 hx5 hx6
  obtain ⟨L, hL⟩ : ∃ L : Nat, L = if l2.length < 60 then l2.length else 60 := ⟨_, rfl⟩
  have hL60 : L ≤ 60 ∧ L ≤ l2.length := by rw [hL]; split <;> omega
  have hmin1 : (if (60 : Int) < l2.length then (60 : Int) else l2.length) = (L : Int) := by rw [hL]; split <;> split <;> omega
  have hmin2 : (if (l2.length : Int) < 60 then (l2.length : Int) else 60) = (L : Int) := by rw [hL]; split <;> split <;> omega
  have hn2 : A2 = none → l2.length = 0 := fun h => by
    rcases Nat.eq_zero_or_pos l2.length with h0 | h0
    · exact h0
    · obtain ⟨b, off, e, _⟩ := HR2.out.1.2 h0; rw [h] at e; cases e
  have HN := Lib.hid (And.intro hn2 hc2)
  have HL := Lib.hid (And.intro hL hL60)
  clear hL hn2 hc2 hL60
  go_enter Try.func11, Try.ntmps11
  obtain ⟨w1, hw1⟩ : ∃ x : World, x = x := ⟨w, rfl⟩
  clear hw1 w1
  go_upto_region 2 with (first
    | (go_at_call 12; refine (Made9_any A0 c0 l0 w HR0.out.1 HR0.out.2.1 (by have := HR0.out.2.2; omega)).mono ?_; rintro e w1 ⟨Ac, cc, Ab, cb, p, rfl, hp, PB, b1⟩; have H1 := Lib.hid (And.intro hp (And.intro PB b1)); clear hp PB b1)
    | (go_at_call 63; refine (Made_any A1 c1 l1 w1 (HR1.out.1.below H1.out.2.2) HR1.out.2.1 (by have := HR1.out.2.2; omega)).mono ?_; rintro e w2 ⟨As, cs, rfl, PV, b2⟩; have H2 := Lib.hid (And.intro PV b2); clear PV b2))
  obtain ⟨q, hq⟩ : ∃ q, q = madeP l1 := ⟨_, rfl⟩
  have HQ := Lib.hid hq
  rw [← hq] at H2
  simp only [← hq]
  clear hq
  obtain ⟨X2, hX2⟩ : ∃ X, X = (w2.alloc (.cells (prtV Ac cc Ab cb p) 26)).alloc (.cells #[.slice As q.steps.length cs, .int .i64 q.hold, .int .i64 q.calm, .int .i64 q.notice, .int .i64 q.grace] 135) := ⟨_, rfl⟩
  obtain ⟨pb, hpb⟩ : ∃ b, b = w2.heap.size := ⟨_, rfl⟩
  obtain ⟨qb, hqb⟩ : ∃ b, b = w2.heap.size + 1 := ⟨_, rfl⟩
  rw [← hqb, ← hpb]
  have bX2 : Below w2.heap.size w2 X2 := by rw [hX2]; exact ((Below.refl _ _).alloc (Nat.le_refl _) _).alloc (by simp) _
  have hbp : X2.heap[pb]? = some (.cells (prtV Ac cc Ab cb p) 26 (0, 0)) := by rw [hX2, hpb]; exact heap_alloc' (heap_alloc_new _ _) _
  have hbq : X2.heap[qb]? = some (.cells #[.slice As q.steps.length cs, .int .i64 q.hold, .int .i64 q.calm, .int .i64 q.notice, .int .i64 q.grace] 135 (0, 0)) := by
    have e : qb = (w2.alloc (.cells (prtV Ac cc Ab cb p) 26)).heap.size := by rw [World.size_alloc]; exact hqb
    rw [hX2, e]; exact heap_alloc_new _ _
  rw [← hX2]
  have b02 : Below w.heap.size w X2 := (H1.out.2.2.trans (H2.out.2.mono H1.out.2.2.size)).trans (bX2.mono (by have := H1.out.2.2.size; have := H2.out.2.size; omega))
  have PB2 : PrtB X2.heap.size X2 Ac cc Ab cb p := (H1.out.2.1.below (H2.out.2.trans (bX2.mono H2.out.2.size))).mono (by have := H2.out.2.size; have := bX2.size; omega)
  have PV2 : PolV X2 As cs q := H2.out.1.below bX2
  have HB2 := Lib.hid (And.intro hbp (And.intro hbq (And.intro PB2 (And.intro PV2 (And.intro b02 H1.out.1)))))
  clear hbp hbq PB2 PV2 b02 bX2 hX2 hpb hqb H2 H1
  clear w1 w2
  go_upto_region 3 with fail
  go_cut [44, 45, 46] from 40 to 46 (fun v x y wx => X2 = wx ∧ x = .int .i64 L ∧ y = .int .i64 0 ∧ ∃ A3 c3, v = .slice A3 L c3 ∧ Rd X2 1 A3 L (byts (l2.take L)))
  case first =>
    by_cases hA : A2 = none
    · have h1 : l2.length = 0 := HN.out.1 hA
      have e2 : l2 = [] := List.eq_nil_of_length_eq_zero h1
      obtain rfl : L = 0 := by have := HL.out.2.2; omega
      subst hA e2
      go_wp2_with fail
      go_meet
      exact ⟨rfl, rfl, rfl, _, _, rfl, by simp; exact Rd.nil _ _ _⟩
    · obtain ⟨ad, rfl⟩ : ∃ a, A2 = some a := by cases A2 with | none => exact absurd rfl hA | some a => exact ⟨a, rfl⟩
      clear hA
      obtain ⟨L2, hL2⟩ : ∃ L2, L2 = l2.length := ⟨_, rfl⟩
      rw [← hL2] at hmin1 hmin2
      have n0 := HL.out.2
      have n5 := HN.out.2
      rw [← hL2] at n0 n5
      have n1 : (0 : Int) ≤ (L : Int) := by omega
      have n2 : (L : Int) ≤ (c2 : Int) := by omega
      have n3 : (L : Int) ≤ (L2 : Int) := by omega
      have n4 : L ≤ c2 := by omega
      have HL2 := Lib.hid hL2
      rw [← hL2]
      clear hL2 n0 n5
      go_wp2_with fail
      rw [HL2.out]
      go_meet
      refine ⟨rfl, rfl, rfl, some ad, c2, rfl, by have := HL2.out; have := HL.out; simp only [byts, List.length_map, List.length_take]; omega, fun h0 => ?_⟩
      have R2 := HR2.out.1.below HB2.out.2.2.2.2.1
      obtain ⟨b, off, e, z, kk⟩ := R2.2 (by have := HL2.out; have := HL.out; omega)
      refine ⟨b, off, e, z, fun j u hu => kk j u ?_⟩
      rw [show byts (l2.take L) = (byts l2).take L from by simp [byts, List.map_take], List.getElem?_take] at hu
      split at hu
      · exact hu
      · cases hu
  case rest =>
  obtain ⟨rfl, rfl, rfl, A3, c3, rfl, hr3⟩ := hcut
  have HR3 := Lib.hid hr3
  have HL3 : Hid (Bytes (l2.take L) ∧ (l2.take L).length = L) := Lib.hid ⟨fun z hz => HR2.out.2.1 z (List.mem_of_mem_take hz), by rw [List.length_take]; have := HL.out.2; omega⟩
  clear hr3 hmin1 hmin2
  go_wp2_with fail
  go_loopg [17, 46] L (fun g o i wr => ∃ (j : Nat) (Ao : Option Addr) (co : Nat) (ns : List Int) (qs : List Nat), g + j = L ∧ i = .int .i64 j ∧ o = .slice Ao j co ∧ OwnA wr 3 Ao j co (ints ns) qs ∧ DaysOk ns ∧ ns.length = j ∧ (∀ y ∈ qs, X2.heap.size ≤ y) ∧ Keep [] X2 wr)
  case atStart => exact ⟨0, none, 0, [], [], rfl, rfl, rfl, OwnA.nil _ _, (fun y hy => by cases hy), rfl, (fun y hy => by cases hy), Keep.refl _ _⟩
  case round =>
    obtain ⟨j, Ao, co, ns, qs, hj, rfl, rfl, hown, hns, hnl, hqs, hK⟩ := hrel
    have HS := Lib.hid (And.intro hown (And.intro hns (And.intro hqs (And.intro hK hnl))))
    clear hown hns hqs hK hnl
    by_cases hlt : j < L
    · obtain ⟨b6, o6, rfl, z6, k6⟩ := HR3.out.2 (by omega)
      obtain ⟨y, hy⟩ : ∃ y, y = (l2.take L).getD j 0 := ⟨_, rfl⟩
      have hb := HL3.out.1.get j
      rw [← hy] at hb
      have e0 : wr.cell? ⟨b6, o6 + j, none⟩ = some (.int .u8 y) := HS.out.2.2.2.1.cell (by rw [hy]; exact k6 j _ (byts_get (by rw [HL3.out.2]; exact hlt))) (by simp)
      have zb := World.block_lt_of_cell? _ _ e0
      have n1 : (0 : Int) ≤ (j : Int) := by omega
      have n2 : (j : Int) < (L : Int) := by omega
      have w1' : IntKind.i64.wrap y = y := IntWalk.i64_in _ (by omega)
      have w2' : IntKind.i64.wrap (2 * y) = 2 * y := IntWalk.i64_in _ (by omega)
      have hL60 := HL.out.2.1
      clear hy k6 z6
      go_wp2_with (at_builtin
                   refine wpList_append_A rfl (.tmp 50) (.tmp 54) 33 rfl iI _ 8 Try.underlying33 hI0 hI1 hI2 hI3 rfl (A := Ao) (n := j) (c := co) (xs := ints ns) (fp := qs) (by simp [Act.eval]) _ (by simp [Act.eval]) (.int .i64 (2 * y)) (HS.out.1.alloc _) (cell_new_one _ _ _) rfl (by omega) (by omega) ?_
                   intro g1 off1 c1' w5 h1 h2 h3 h4
                   have HQ5 := Lib.hid (And.intro h1 (And.intro h2 h4))
                   clear h1 h2 h3 h4)
      go_roundg (gk - 1)
      case measure => omega
      case rel =>
        obtain ⟨h1, h2, h4⟩ := HQ5.out
        refine ⟨j + 1, some ⟨g1, off1, none⟩, c1', ns ++ [2 * y], [g1], by omega, by go_num, rfl, by simpa [ints] using h1, fun z hz => ?_, by rw [List.length_append, HS.out.2.2.2.2]; rfl, fun z hz => ?_, (HS.out.2.2.2.1.alloc _).trans h4 (fun z hz => .inr (HS.out.2.2.1 z hz))⟩
        · rcases List.mem_append.1 hz with hz | hz
          · exact HS.out.2.1 z hz
          · rw [List.mem_singleton.1 hz]; omega
        · rw [List.mem_singleton.1 hz]
          rcases h2 with h2 | h2
          · exact HS.out.2.2.1 _ h2
          · have := HS.out.2.2.2.1.size; simp at h2; omega
    · obtain rfl : j = L := by omega
      obtain ⟨days, hdays⟩ : ∃ d, d = ns := ⟨_, rfl⟩
      rw [← hdays] at HS
      have hdl : days.length = j := HS.out.2.2.2.2
      have HDL := Lib.hid hdl
      clear hdays ns
      have hx3 := HX.out.1
      have hx4 := HX.out.2.1
      have w1' : IntKind.i64.wrap x3 = x3 := IntWalk.i64_in _ (by omega)
      have w2' : IntKind.i64.wrap x4 = x4 := IntWalk.i64_in _ (by omega)
      have w3' : IntKind.i64.wrap (100 * x4) = 100 * x4 := IntWalk.i64_in _ (by omega)
      obtain ⟨cl, hcl⟩ : ∃ cl, x3.tmod 7 = cl := ⟨_, rfl⟩
      have hcb : 0 ≤ cl ∧ cl ≤ 6 := by rw [← hcl, Int.tmod_eq_emod_of_nonneg (by omega)]; omega
      have w4' : IntKind.i64.wrap cl = cl := IntWalk.i64_in _ (by omega)
      go_upto_region 9 with fail
      obtain ⟨X3, hX3⟩ : ∃ X, X = wr.alloc (.cells #[.int .i64 cl, .int .i64 (100 * x4), .bool false] 138) := ⟨_, rfl⟩
      obtain ⟨c, hc⟩ : ∃ c : CyC, c = ⟨pb, qb, wr.heap.size, Ac, cc, Ab, cb, p, As, cs, q, Ao, days, ⟨cl, 100 * x4, false⟩⟩ := ⟨_, rfl⟩
      have hb2 := HB2.out
      have b23 : Below X2.heap.size X2 X3 := by rw [hX3]; exact (HS.out.2.2.2.1.below (Nat.le_refl _) (by simp)).alloc HS.out.2.2.2.1.size _
      have EY : CyE c X3 := by
        rw [hc]
        refine ⟨(b23.block _ (heap_lt hb2.1)).trans hb2.1, (b23.block _ (heap_lt hb2.2.1)).trans hb2.2.1, ?_, (hb2.2.2.1.below b23).mono b23.size, hb2.2.2.2.1.below b23, ?_⟩
        · rw [hX3]; exact heap_alloc_new _ _
        · rw [hX3]
          have := HS.out.1.alloc (.cells #[.int .i64 cl, .int .i64 (100 * x4), .bool false] 138)
          have := this.rd
          rw [hdl]; exact this
      have b03 : Below w.heap.size w X3 := hb2.2.2.2.2.1.trans (b23.mono hb2.2.2.2.2.1.size)
      have hask : askS c.q c.days c.v = 0 := by
        rw [hc]
        show askS q days ⟨cl, 100 * x4, false⟩ = 0
        refine ask_zero (by rw [HQ.out]; exact made_check' l1) HS.out.2.1 (by have := HL.out.2.1; omega) ?_
        simp [vright, within]; omega
      have hmd : MdP c.p := by rw [hc]; exact hb2.2.2.2.2.2
      have hdl' : c.days.length = j := by rw [hc]; exact hdl
      have hj60 := HL.out.2.1
      have HY := Lib.hid (And.intro EY (And.intro b03 (And.intro hask (And.intro hmd (And.intro hdl' hj60)))))
      obtain ⟨e1, e2, e3, e4, e5, e6, e7, e8, e9, e10, e11, e12, e13, e14, e15, e16⟩ : pb = c.pb ∧ qb = c.qb ∧ wr.heap.size = c.vb ∧ Ac = c.Ac ∧ cc = c.cc ∧ Ab = c.Ab ∧ cb = c.cb ∧ p = c.p ∧ As = c.As ∧ cs = c.cs ∧ q = c.q ∧ Ao = c.Ad ∧ j = c.days.length ∧ cl = c.v.cls ∧ 100 * x4 = c.v.ton ∧ false = c.v.esc := by rw [hc]; exact ⟨rfl, rfl, rfl, rfl, rfl, rfl, rfl, rfl, rfl, rfl, rfl, rfl, hdl.symm, rfl, rfl, rfl⟩
      rw [← hX3, e3]
      clear hX3 b23 EY b03 hask hmd hdl' hj60 hb2 hc hdl HDL w1' w2' w3' w4' hcb e3 e15 e16 hx3 hx4
      clear HS HB2 HQ HR3 HL3 HL HN
      clear hlt hj
      subst e1 e2 e4 e5 e6 e7 e8 e9 e10 e11 e12 e13
      clear e14
      clear HR0 HR1 HR2 hI0 hI1 hI2 hI3 iI
      obtain ⟨q0, q1, q2, q3, q4, zq⟩ := HY.out.1.cq
      obtain ⟨v0, v1, v2, zv⟩ := HY.out.1.cv
      have kw := Windows_any c.As c.cs c.q c.Ad co c.days c.v X3 HY.out.1.PV HY.out.1.HD (by have := HY.out.2.2.2.2.2; omega)
      have HKW := Lib.hid kw
      clear kw
      go_upto_region 10 with (go_at_call 64; refine HKW.out.mono ?_; rintro e w4 ⟨Aw, cw, rfl, hsp, b4⟩; have HW := Lib.hid (And.intro hsp b4); clear hsp b4)
      rw [HY.out.2.2.1]
      obtain ⟨wins, hwins⟩ : ∃ l, l = windowsS c.q c.days c.v := ⟨_, rfl⟩
      rw [← hwins] at HW ⊢
      have HWN := Lib.hid hwins
      clear hwins q0 q1 q2 q3 q4 zq v0 v1 v2 zv HKW
      have hx5 := HX.out.2.2.1
      have hx6 := HX.out.2.2.2
      have w1' : IntKind.i64.wrap x5 = x5 := IntWalk.i64_in _ (by omega)
      have w2' : IntKind.i64.wrap x6 = x6 := IntWalk.i64_in _ (by omega)
      obtain ⟨ar, har⟩ : ∃ r, x5.tmod 60 = r := ⟨_, rfl⟩
      obtain ⟨la, hla⟩ : ∃ r, x6.tmod 20 = r := ⟨_, rfl⟩
      have hab : 0 ≤ ar ∧ ar < 60 := by rw [← har, Int.tmod_eq_emod_of_nonneg (by omega)]; omega
      have hlb : 0 ≤ la ∧ la < 20 := by rw [← hla, Int.tmod_eq_emod_of_nonneg (by omega)]; omega
      have w3' : IntKind.i64.wrap ar = ar := IntWalk.i64_in _ (by omega)
      have w4' : IntKind.i64.wrap la = la := IntWalk.i64_in _ (by omega)
      have w5' : IntKind.i64.wrap (ar + la) = ar + la := IntWalk.i64_in _ (by omega)
      go_upto_region 13 with fail
      obtain ⟨tb, htb⟩ : ∃ b, b = w4.heap.size := ⟨_, rfl⟩
      obtain ⟨X4, hX4⟩ : ∃ X, X = w4.alloc (.cells #[.int .i64 ar, .int .i64 0, .int .i64 3, .int .i64 100] 102) := ⟨_, rfl⟩
      rw [← htb, ← hX4]
      have ht0 : X4.heap[tb]? = some (.cells #[.int .i64 ar, .int .i64 0, .int .i64 3, .int .i64 100] 102 (0, 0)) := by rw [hX4, htb]; exact heap_alloc_new _ _
      have a0 : X4.cell? ⟨tb, 0, none⟩ = some (.int .i64 ar) := (cell_of_heap ht0 0).trans rfl
      have a1 : X4.cell? ⟨tb, 1, none⟩ = some (.int .i64 0) := (cell_of_heap ht0 1).trans rfl
      have za := heap_lt ht0
      go_upto_region 14 with fail
      clear a0 a1 za ht0 hX4 X4 w1' w2' w3' w4' w5' har hla hx5 hx6
      obtain ⟨ls, hls⟩ : ∃ l, l = ar + la := ⟨_, rfl⟩
      rw [← hls]
      obtain ⟨X5, hX5⟩ : ∃ X, X = w4.alloc (.cells #[.int .i64 ar, .int .i64 ls, .int .i64 3, .int .i64 100] 102) := ⟨_, rfl⟩
      rw [← hX5]
      have ht5 : X5.heap[tb]? = some (.cells #[.int .i64 ar, .int .i64 ls, .int .i64 3, .int .i64 100] 102 (0, 0)) := by rw [hX5, htb]; exact heap_alloc_new _ _
      have b35 : Below X3.heap.size X3 X5 := by rw [hX5]; exact HW.out.2.alloc HW.out.2.size _
      have b45 : Below w4.heap.size w4 X5 := by rw [hX5]; exact (Below.refl _ _).alloc (Nat.le_refl _) _
      have EY5 : CyE c X5 := HY.out.1.below b35
      have b05 : Below w.heap.size w X5 := HY.out.2.1.trans (b35.mono HY.out.2.1.size)
      have hw5 : Rd X5 2 Aw wins.length (spcs wins) := HW.out.1.1.below b45
      have hvb : 0 ≤ ar ∧ ar < 60 ∧ ar ≤ ls ∧ ls < 80 := by omega
      have hmd := HY.out.2.2.2.1
      have hask := HY.out.2.2.1
      have H5 := Lib.hid (And.intro EY5 (And.intro b05 (And.intro hw5 (And.intro hmd (And.intro hask (And.intro ht5 (And.intro hvb HY.out.2.2.2.2)))))))
      obtain ⟨q0, q1, q2, zq⟩ := EY5.cp
      have a0 : X5.cell? ⟨tb, 0, none⟩ = some (.int .i64 ar) := (cell_of_heap ht5 0).trans rfl
      have a1 : X5.cell? ⟨tb, 1, none⟩ = some (.int .i64 ls) := (cell_of_heap ht5 1).trans rfl
      have a2 : X5.cell? ⟨tb, 2, none⟩ = some (.int .i64 3) := (cell_of_heap ht5 2).trans rfl
      have a3 : X5.cell? ⟨tb, 3, none⟩ = some (.int .i64 100) := (cell_of_heap ht5 3).trans rfl
      have za := heap_lt ht5
      have kb := EY5.best hmd (x := ⟨ar, ls, 3, 100⟩) hvb.1 hvb.2.2.1 (by show ls ≤ 100; omega) rfl rfl 102 rfl
      have HKB := Lib.hid kb
      clear kb hX5 htb b35 b45 EY5 b05 hw5 hvb hmd hask ht5 hab hlb hls
      clear HW HY
      go_upto_region 15 with (go_at_call 46; refine HKB.out.mono ?_; rintro e w6 ⟨A6, k6, rfl, r6, b6⟩; have HB6 := Lib.hid b6; clear r6 b6)
      clear a0 a1 a2 a3 za q0 q1 q2 zq HKB
      obtain ⟨X7, hX7⟩ : ∃ X, X = w6 := ⟨_, rfl⟩
      have b57 : Below X5.heap.size X5 X7 := by
        rw [hX7]
        exact ((Below.refl _ _).alloc (Nat.le_refl _) _).trans (HB6.out.mono (by simp))
      rw [← hX7]
      have H7 : Hid (CyE c X7 ∧ Below w.heap.size w X7 ∧ Rd X7 2 Aw wins.length (spcs wins) ∧ X7.heap[tb]? = some (.cells #[.int .i64 ar, .int .i64 ls, .int .i64 3, .int .i64 100] 102 (0, 0))) :=
        Lib.hid ⟨H5.out.1.below b57, H5.out.2.1.trans (b57.mono H5.out.2.1.size), H5.out.2.2.1.below b57, (b57.block _ (heap_lt H5.out.2.2.2.2.2.1)).trans H5.out.2.2.2.2.2.1⟩
      have H0 := Lib.hid H5.out.2.2.2
      have hwl : wins.length ≤ 60 := by
        have h1 : wins.length ≤ c.days.length := by
          rw [HWN.out]; unfold windowsS; rw [if_pos H0.out.2.1]; exact winN_length _ _
        have := H0.out.2.2.2.2
        omega
      clear b57 hX7 HB6 H5
      go_wp2_with fail
      go_loopg [100] wins.length (fun g i wr => ∃ k : Nat, g + k = wins.length ∧ i = .int .i64 k ∧ Below X7.heap.size X7 wr)
      case atStart => exact ⟨0, rfl, rfl, Below.refl _ _⟩
      case round =>
        obtain ⟨k, hk, rfl, hbw⟩ := hrel
        have HBW := Lib.hid hbw
        clear hbw
        by_cases hlt : k < wins.length
        · obtain ⟨sa, sz, hsa, hsz, hmem⟩ : ∃ a z : Int, wins[k].1 = a ∧ wins[k].2 = z ∧ (a, z) ∈ wins := ⟨_, _, rfl, rfl, List.getElem_mem hlt⟩
          obtain ⟨gw, ow, rfl, zw, kw⟩ := (H7.out.2.2.1.below HBW.out).2 (by omega)
          have p0 : wr.cell? ⟨gw, ow + k * 2, none⟩ = some (.int .i64 sa) := by rw [← hsa]; exact kw _ _ (spcs_get hlt).1
          have p1 : wr.cell? ⟨gw, ow + k * 2 + 1, none⟩ = some (.int .i64 sz) := by rw [← hsz, Nat.add_assoc]; exact kw _ _ (spcs_get hlt).2
          have n1 : (0 : Int) ≤ (k : Int) := by omega
          have n2 : (k : Int) < (wins.length : Int) := by omega
          have ht8 := (HBW.out.block _ (heap_lt H7.out.2.2.2)).trans H7.out.2.2.2
          have a0 : wr.cell? ⟨tb, 0, none⟩ = some (.int .i64 ar) := (cell_of_heap ht8 0).trans rfl
          have a1 : wr.cell? ⟨tb, 1, none⟩ = some (.int .i64 ls) := (cell_of_heap ht8 1).trans rfl
          have a2 : wr.cell? ⟨tb, 2, none⟩ = some (.int .i64 3) := (cell_of_heap ht8 2).trans rfl
          have a3 : wr.cell? ⟨tb, 3, none⟩ = some (.int .i64 100) := (cell_of_heap ht8 3).trans rfl
          have za := heap_lt ht8
          have HM := Lib.hid (And.intro hmem ht8)
          clear kw zw hsa hsz hmem ht8
          go_upto_region 21 with fail
          obtain ⟨ib, hib⟩ : ∃ b, b = wr.heap.size := ⟨_, rfl⟩
          obtain ⟨xb, hxb⟩ : ∃ b, b = wr.heap.size + 1 := ⟨_, rfl⟩
          obtain ⟨X9, hX9⟩ : ∃ X, X = (wr.alloc (.cells #[.int .i64 sa, .int .i64 sz] 129)).alloc (.cells #[.int .i64 ar, .int .i64 ls, .int .i64 3, .int .i64 100] 102) := ⟨_, rfl⟩
          clear a0 a1 a2 a3 p0 p1
          rw [← hxb, ← hib, ← hX9]
          have b89 : Below wr.heap.size wr X9 := by rw [hX9]; exact ((Below.refl _ _).alloc (Nat.le_refl _) _).alloc (by simp) _
          have hi9 : X9.heap[ib]? = some (.cells #[.int .i64 sa, .int .i64 sz] 129 (0, 0)) := by rw [hX9, hib]; exact heap_alloc' (heap_alloc_new _ _) _
          have hx9 : X9.heap[xb]? = some (.cells #[.int .i64 ar, .int .i64 ls, .int .i64 3, .int .i64 100] 102 (0, 0)) := by
            have e : xb = (wr.alloc (.cells #[.int .i64 sa, .int .i64 sz] 129)).heap.size := by rw [World.size_alloc]; exact hxb
            rw [hX9, e]; exact heap_alloc_new _ _
          have ht9 := (b89.block _ (heap_lt HM.out.2)).trans HM.out.2
          have a0 : X9.cell? ⟨tb, 0, none⟩ = some (.int .i64 ar) := (cell_of_heap ht9 0).trans rfl
          have a1 : X9.cell? ⟨tb, 1, none⟩ = some (.int .i64 ls) := (cell_of_heap ht9 1).trans rfl
          have i0 : X9.cell? ⟨ib, 0, none⟩ = some (.int .i64 sa) := (cell_of_heap hi9 0).trans rfl
          have i1 : X9.cell? ⟨ib, 1, none⟩ = some (.int .i64 sz) := (cell_of_heap hi9 1).trans rfl
          have nt : tb ∉ [xb] := by have := heap_lt HM.out.2; simp; omega
          have ni : ib ∉ [xb] := by simp; omega
          obtain ⟨m0, hm0⟩ : ∃ m, (if ar < sa then sa else ar) = m := ⟨_, rfl⟩
          obtain ⟨m1, hm1⟩ : ∃ m, (if sz < ls then sz else ls) = m := ⟨_, rfl⟩
          have hxw : wr.heap.size ≤ xb := by omega
          have HX9 := Lib.hid (And.intro b89 (And.intro hx9 hxw))
          clear b89 hi9 hx9 ht9 hX9 hib hxb hxw
          refine wp_region_steps (σ := Unit) (by kernel_rfl) (by kernel_rfl) (fun _ jx vx _ => Pc21V X9 tb ib xb ar ls sa sz m0 m1 jx vx) (fun _ ly wx => Pc21W X9 tb ib xb ar ls sa sz m0 m1 ly wx) () ?_ ?_ ?_
          · exact ⟨(Keep.refl _ _).drew, HX9.out.2.1⟩
          · simp only [AllFrom, Nat.zero_add, Nat.reduceAdd]
            refine ⟨?_, ?_, ?_, ?_, ?_, ?_, ?_, ?_, ?_, ?_, ?_, ?_, ?_, ?_, trivial⟩
            · refine step_pure fun sg ly a wr hl hd hW hF => ?_
              have et23 := hF.old 23 (by kernel_rfl)
              simp [Act.eval] at et23
              exact ⟨by simpa [Pc21W, upd] using hW, .pointer (some ⟨tb, 0, none⟩), by go_simp, rfl⟩
            · refine step_pure fun sg ly a wx hl hd hW hF => ?_
              simp [Region.binds] at hd
              have et105 := hF.new 0 105 (by simp [hd]) rfl
              simp [Pc21V, Act.eval] at et105
              have c0 := hW.1.cell a0 nt
              exact ⟨by simpa [Pc21W, upd] using hW, .int .i64 ar, by go_simp, rfl⟩
            · refine step_pure fun sg ly a wr hl hd hW hF => ?_
              have et27 := hF.old 27 (by kernel_rfl)
              simp [Act.eval] at et27
              exact ⟨by simpa [Pc21W, upd] using hW, .pointer (some ⟨ib, 0, none⟩), by go_simp, rfl⟩
            · refine step_pure fun sg ly a wx hl hd hW hF => ?_
              simp [Region.binds] at hd
              have et107 := hF.new 2 107 (by simp [hd]) rfl
              simp [Pc21V, Act.eval] at et107
              have c0 := hW.1.cell i0 ni
              exact ⟨by simpa [Pc21W, upd] using hW, .int .i64 sa, by go_simp, rfl⟩
            · refine step_pure fun sg ly a wr hl hd hW hF => ?_
              simp [Region.binds] at hd
              have et106 := hF.new 1 106 (by simp [hd]) rfl
              simp [Pc21V, Act.eval] at et106
              have et108 := hF.new 3 108 (by simp [hd]) rfl
              simp [Pc21V, Act.eval] at et108
              exact ⟨by simpa [Pc21W, upd] using hW, .int .i64 m0, by go_simp, rfl⟩
            · refine step_pure fun sg ly a wr hl hd hW hF => ?_
              have et23 := hF.old 23 (by kernel_rfl)
              simp [Act.eval] at et23
              exact ⟨by simpa [Pc21W, upd] using hW, .pointer (some ⟨tb, 1, none⟩), by go_simp, rfl⟩
            · refine step_pure fun sg ly a wx hl hd hW hF => ?_
              simp [Region.binds] at hd
              have et110 := hF.new 5 110 (by simp [hd]) rfl
              simp [Pc21V, Act.eval] at et110
              have c0 := hW.1.cell a1 nt
              exact ⟨by simpa [Pc21W, upd] using hW, .int .i64 ls, by go_simp, rfl⟩
            · refine step_pure fun sg ly a wr hl hd hW hF => ?_
              have et27 := hF.old 27 (by kernel_rfl)
              simp [Act.eval] at et27
              exact ⟨by simpa [Pc21W, upd] using hW, .pointer (some ⟨ib, 1, none⟩), by go_simp, rfl⟩
            · refine step_pure fun sg ly a wx hl hd hW hF => ?_
              simp [Region.binds] at hd
              have et112 := hF.new 7 112 (by simp [hd]) rfl
              simp [Pc21V, Act.eval] at et112
              have c0 := hW.1.cell i1 ni
              exact ⟨by simpa [Pc21W, upd] using hW, .int .i64 sz, by go_simp, rfl⟩
            · refine step_pure fun sg ly a wr hl hd hW hF => ?_
              simp [Region.binds] at hd
              have et111 := hF.new 6 111 (by simp [hd]) rfl
              simp [Pc21V, Act.eval] at et111
              have et113 := hF.new 8 113 (by simp [hd]) rfl
              simp [Pc21V, Act.eval] at et113
              exact ⟨by simpa [Pc21W, upd] using hW, .int .i64 m1, by go_simp, rfl⟩
            · refine step_pure fun sg ly a wr hl hd hW hF => ?_
              have et28 := hF.old 28 (by kernel_rfl)
              simp [Act.eval] at et28
              exact ⟨by simpa [Pc21W, upd] using hW, .pointer (some ⟨xb, 0, none⟩), by go_simp, rfl⟩
            · refine step_store rfl fun sg ly a wx hl hd hW hF => ?_
              simp [Region.binds] at hd
              have et115 := hF.new 10 115 (by simp [hd]) rfl
              simp [Pc21V, Act.eval] at et115
              have et109 := hF.new 4 109 (by simp [hd]) rfl
              simp [Pc21V, Act.eval] at et109
              obtain ⟨h0, h1⟩ := hW
              have c0 := cell_of_heap h1 0
              simp only [List.getElem?_toArray, List.getElem?_cons_zero, List.getElem?_cons_succ] at c0
              have f0 := frozen_of_heap h1 0
              have z0 := heap_lt h1
              have h2 := heap_set h1 0 (.int .i64 m0)
              refine ⟨wx.setCell ⟨xb, 0, none⟩ (.int .i64 m0), (), .skip, by go_simp, .inl rfl, ⟨h0.setCell (.inl (by simp)) _, by simpa [upd, hl] using h2⟩, fun _ _ _ h => h⟩
            · refine step_pure fun sg ly a wr hl hd hW hF => ?_
              have et28 := hF.old 28 (by kernel_rfl)
              simp [Act.eval] at et28
              exact ⟨by simpa [Pc21W, upd] using hW, .pointer (some ⟨xb, 1, none⟩), by go_simp, rfl⟩
            · refine step_store rfl fun sg ly a wx hl hd hW hF => ?_
              simp [Region.binds] at hd
              have et116 := hF.new 12 116 (by simp [hd]) rfl
              simp [Pc21V, Act.eval] at et116
              have et114 := hF.new 9 114 (by simp [hd]) rfl
              simp [Pc21V, Act.eval] at et114
              obtain ⟨h0, h1⟩ := hW
              have c0 := cell_of_heap h1 1
              simp only [List.getElem?_toArray, List.getElem?_cons_zero, List.getElem?_cons_succ] at c0
              have f0 := frozen_of_heap h1 1
              have z0 := heap_lt h1
              have h2 := heap_set h1 1 (.int .i64 m1)
              refine ⟨wx.setCell ⟨xb, 1, none⟩ (.int .i64 m1), (), .skip, by go_simp, .inl rfl, ⟨h0.setCell (.inl (by simp)) _, by simpa [upd, hl] using h2⟩, fun _ _ _ h => h⟩
          intro _ af w9 hWW hF
          obtain ⟨ff, hf, rfl⟩ := hF.lit
          have h9 : Keep [xb] X9 w9 ∧ w9.heap[xb]? = some (.cells #[.int .i64 m0, .int .i64 m1, .int .i64 3, .int .i64 100] 102 (0, 0)) := by simpa [Pc21W] using hWW
          clear hf hF hWW a0 a1 i0 i1
          simp only [List.filterMap, List.foldl, List.setIfInBounds_toArray, List.set_cons_succ, List.set_cons_zero]
          have b89 : Below wr.heap.size wr w9 := HX9.out.1.trans (h9.1.below HX9.out.1.size (by simp; exact HX9.out.2.2))
          have b79 : Below X7.heap.size X7 w9 := HBW.out.trans (b89.mono HBW.out.size)
          have E9 : CyE c w9 := H7.out.1.below b79
          have x0 : w9.cell? ⟨xb, 0, none⟩ = some (.int .i64 m0) := (cell_of_heap h9.2 0).trans rfl
          have x1 : w9.cell? ⟨xb, 1, none⟩ = some (.int .i64 m1) := (cell_of_heap h9.2 1).trans rfl
          have x2 : w9.cell? ⟨xb, 2, none⟩ = some (.int .i64 3) := (cell_of_heap h9.2 2).trans rfl
          have x3 : w9.cell? ⟨xb, 3, none⟩ = some (.int .i64 100) := (cell_of_heap h9.2 3).trans rfl
          have zx := heap_lt h9.2
          have HB9 := Lib.hid (And.intro b79 (And.intro E9 h9.2))
          have hmb : m0 = (if ar < sa then sa else ar) ∧ m1 = (if sz < ls then sz else ls) := ⟨hm0.symm, hm1.symm⟩
          have hm2 : ar ≤ m0 ∧ sa ≤ m0 ∧ m1 ≤ ls ∧ m1 ≤ sz := by
            obtain ⟨h1, h2⟩ := hmb
            refine ⟨?_, ?_, ?_, ?_⟩
            · rw [h1]; split <;> omega
            · rw [h1]; split <;> omega
            · rw [h2]; split <;> omega
            · rw [h2]; split <;> omega
          have HMM := Lib.hid hm2
          clear b89 h9 HX9 nt ni hm0 hm1 hmb hm2
          by_cases hgt : m1 < m0
          · clear E9
            go_wp2_with fail
            go_roundg (gk - 1)
            case measure => omega
            case rel => exact ⟨k + 1, by omega, by go_num, b79⟩
          · have hm01 : m0 ≤ m1 := by omega
            have hday := win_day (p := c.q) (days := c.days) (v := c.v) H0.out.2.1 (s := (sa, sz)) (by rw [← HWN.out]; exact HM.out.1) (d := m0) (HMM.out.2.1) (by have := HMM.out.2.2.2; show m0 ≤ sz; omega)
            have HDAY := Lib.hid hday
            have hvb := H0.out.2.2.2.1
            obtain ⟨q0, q1, q2, zq⟩ := E9.cp
            have kb := E9.best H0.out.1 (x := ⟨m0, m1, 3, 100⟩) (by have := HMM.out.1; show 0 ≤ m0; omega) hm01 (by have := HMM.out.2.2.1; show m1 ≤ 100; omega) rfl rfl 102 rfl
            have HKB := Lib.hid kb
            clear kb hday hvb b79 E9
            go_upto_region 24 with (go_at_call 46; refine HKB.out.mono ?_; rintro e w10 ⟨A8, k8, rfl, r8, b10⟩)
            have b9x : Below w9.heap.size w9 w10 := ((Below.refl _ _).alloc (Nat.le_refl _) _).trans (b10.mono (by simp))
            have EX : CyE c w10 := HB9.out.2.1.below b9x
            have hx10 := (b9x.block _ (heap_lt HB9.out.2.2)).trans HB9.out.2.2
            obtain ⟨g8, o8, rfl, z8, k8c⟩ := r8.2 (by omega)
            have s1 : w10.cell? ⟨g8, o8 + 1, none⟩ = some (.int .i64 m0) := k8c 1 _ rfl
            have b7x : Below X7.heap.size X7 w10 := HB9.out.1.trans (b9x.mono HB9.out.1.size)
            have HBX := Lib.hid (And.intro EX (And.intro b7x hx10))
            clear q0 q1 q2 zq x0 x1 x2 x3 zx HKB r8 b10 b9x EX hx10 k8c b7x
            go_wp2_with fail
            obtain ⟨q0, q1, q2, q3, q4, zq⟩ := HBX.out.1.cq
            obtain ⟨v0, v1, v2, zv⟩ := HBX.out.1.cv
            refine wp_region_steps (σ := Unit) (by kernel_rfl) (by kernel_rfl) (fun _ jx vx _ => Pc26V w10 c co g8 o8 k8 m0 jx vx) (fun _ ly wx => Pc26W w10 c co g8 o8 k8 m0 ly wx) () ?_ ?_ ?_
            · exact (Below.refl _ _).drew
            · simp only [AllFrom, Nat.zero_add, Nat.reduceAdd]
              refine ⟨?_, ?_, ?_, ?_, ?_, ?_, ?_, ?_, ?_, ?_, ?_, ?_, ?_, trivial⟩
              · refine step_pure fun sg ly a wx hl hd hW hF => ?_
                have et16 := hF.old 16 (by kernel_rfl)
                simp [Act.eval] at et16
                have c0 := (hW.cell (p := ⟨c.qb, 0, none⟩) zq).trans q0
                have c1 := (hW.cell (p := ⟨c.qb, 1, none⟩) zq).trans q1
                have c2 := (hW.cell (p := ⟨c.qb, 2, none⟩) zq).trans q2
                have c3 := (hW.cell (p := ⟨c.qb, 3, none⟩) zq).trans q3
                have c4 := (hW.cell (p := ⟨c.qb, 4, none⟩) zq).trans q4
                exact ⟨by simpa [Pc26W, upd] using hW, .agg #[.slice c.As c.q.steps.length c.cs, .int .i64 c.q.hold, .int .i64 c.q.calm, .int .i64 c.q.notice, .int .i64 c.q.grace], by go_simp, rfl⟩
              · refine step_pure fun sg ly a wr hl hd hW hF => ?_
                have et17 := hF.old 17 (by kernel_rfl)
                simp [Act.eval] at et17
                exact ⟨by simpa [Pc26W, upd] using hW, .slice c.Ad c.days.length co, by go_simp, rfl⟩
              · refine step_pure fun sg ly a wx hl hd hW hF => ?_
                have et20 := hF.old 20 (by kernel_rfl)
                simp [Act.eval] at et20
                have c0 := (hW.cell (p := ⟨c.vb, 0, none⟩) zv).trans v0
                have c1 := (hW.cell (p := ⟨c.vb, 1, none⟩) zv).trans v1
                have c2 := (hW.cell (p := ⟨c.vb, 2, none⟩) zv).trans v2
                exact ⟨by simpa [Pc26W, upd] using hW, .agg #[.int .i64 c.v.cls, .int .i64 c.v.ton, .bool c.v.esc], by go_simp, rfl⟩
              · refine step_pure fun sg ly a wr hl hd hW hF => ?_
                have et29 := hF.old 29 (by kernel_rfl)
                simp [Act.eval] at et29
                exact ⟨by simpa [Pc26W, upd] using hW, .slice (some ⟨g8, o8, none⟩) 1 k8, by go_simp, rfl⟩
              · refine step_pure fun sg ly a wr hl hd hW hF => ?_
                simp [Region.binds] at hd
                have et145 := hF.new 3 145 (by simp [hd]) rfl
                simp [Pc26V, Act.eval] at et145
                exact ⟨by simpa [Pc26W, upd] using hW, .pointer (some ⟨g8, o8, none⟩), by go_simp, rfl⟩
              · refine step_pure fun sg ly a wr hl hd hW hF => ?_
                simp [Region.binds] at hd
                have et146 := hF.new 4 146 (by simp [hd]) rfl
                simp [Pc26V, Act.eval] at et146
                exact ⟨by simpa [Pc26W, upd] using hW, .pointer (some ⟨g8, o8 + 1, none⟩), by go_simp, rfl⟩
              · refine step_pure fun sg ly a wx hl hd hW hF => ?_
                simp [Region.binds] at hd
                have et147 := hF.new 5 147 (by simp [hd]) rfl
                simp [Pc26V, Act.eval] at et147
                have c0 := (hW.cell (p := ⟨g8, o8 + 1, none⟩) z8).trans s1
                exact ⟨by simpa [Pc26W, upd] using hW, .int .i64 m0, by go_simp, rfl⟩
              · refine step_call fun sg ly a wx hl hd hW hF => ?_
                simp [Region.binds] at hd
                have et142 := hF.new 0 142 (by simp [hd]) rfl
                simp [Pc26V, Act.eval] at et142
                have et143 := hF.new 1 143 (by simp [hd]) rfl
                simp [Pc26V, Act.eval] at et143
                have et144 := hF.new 2 144 (by simp [hd]) rfl
                simp [Pc26V, Act.eval] at et144
                have et148 := hF.new 6 148 (by simp [hd]) rfl
                simp [Pc26V, Act.eval] at et148
                refine ⟨65, #[.agg #[.slice c.As c.q.steps.length c.cs, .int .i64 c.q.hold, .int .i64 c.q.calm, .int .i64 c.q.notice, .int .i64 c.q.grace], .slice c.Ad c.days.length co, .agg #[.int .i64 c.v.cls, .int .i64 c.v.ton, .bool c.v.esc], .int .i64 m0], by go_simp, ?_⟩
                refine (May_any c.As c.cs c.q c.Ad co c.days c.v m0 wx (HBX.out.1.below hW).PV (HBX.out.1.below hW).HD (by have := H0.out.2.2.2.2; omega)).mono ?_
                rintro e w2 ⟨rfl, b2⟩
                rw [HDAY.out.1, HDAY.out.2.1]
                exact ⟨_, sg, rfl, hW.trans (b2.mono hW.size), rfl, fun _ _ _ h => h⟩
              · refine step_pure fun sg ly a wr hl hd hW hF => ?_
                simp [Region.binds] at hd
                have et149 := hF.new 7 149 (by simp [hd]) rfl
                simp [Pc26V, Act.eval] at et149
                exact ⟨by simpa [Pc26W, upd] using hW, .tuple #[.bool true, .int .i64 0], by go_simp, rfl⟩
              · refine step_pure fun sg ly a wr hl hd hW hF => ?_
                simp [Region.binds] at hd
                have et141 := hF.new 8 141 (by simp [hd]) rfl
                simp [Pc26V, Act.eval] at et141
                exact ⟨by simpa [Pc26W, upd] using hW, .bool true, by go_simp, rfl⟩
              · refine step_pure fun sg ly a wr hl hd hW hF => ?_
                simp [Region.binds] at hd
                have et141 := hF.new 8 141 (by simp [hd]) rfl
                simp [Pc26V, Act.eval] at et141
                exact ⟨by simpa [Pc26W, upd] using hW, .int .i64 0, by go_simp, rfl⟩
              · refine step_pure fun sg ly a wr hl hd hW hF => ?_
                simp [Region.binds] at hd
                have et150 := hF.new 9 150 (by simp [hd]) rfl
                simp [Pc26V, Act.eval] at et150
                exact ⟨by simpa [Pc26W, upd] using hW, .bool true, by go_simp, rfl⟩
              · refine step_pure fun sg ly a wr hl hd hW hF => ?_
                simp [Region.binds] at hd
                have et151 := hF.new 10 151 (by simp [hd]) rfl
                simp [Pc26V, Act.eval] at et151
                exact ⟨by simpa [Pc26W, upd] using hW, .int .i64 0, by go_simp, rfl⟩
            intro _ af w11 hWW hF
            have e11 := hF.new 11 32 (by decide) rfl
            have e12 := hF.new 12 33 (by decide) rfl
            obtain ⟨ff, hf, rfl⟩ := hF.lit
            rw [← hf] at e11 e12
            simp only [Pc26V] at e11 e12
            have b11 : Below w10.heap.size w10 w11 := hWW
            clear hf hF hWW
            simp only [List.filterMap, List.foldl, List.setIfInBounds_toArray, List.set_cons_succ, List.set_cons_zero, e11, e12]
            clear e11 e12 q0 q1 q2 q3 q4 zq v0 v1 v2 zv
            have E11 := HBX.out.1.below b11
            have hx11 := (b11.block _ (heap_lt HBX.out.2.2)).trans HBX.out.2.2
            have x0 : w11.cell? ⟨xb, 0, none⟩ = some (.int .i64 m0) := (cell_of_heap hx11 0).trans rfl
            obtain ⟨q0, q1, q2, q3, q4, zq⟩ := E11.cq
            obtain ⟨v0, v1, v2, zv⟩ := E11.cv
            have kf := First_any c.As c.cs c.q c.Ad co c.days c.v m0 w11 E11.PV E11.HD (by have := H0.out.2.2.2.2; omega)
            rw [HDAY.out.2.2.1, HDAY.out.2.2.2] at kf
            have HKF := Lib.hid kf
            have s2 := (b11.cell z8).trans s1
            have HBY := Lib.hid (HBX.out.2.1.trans (b11.mono HBX.out.2.1.size))
            clear kf E11 hx11 s1 b11
            go_upto_region 28 with (go_at_call 66; refine HKF.out.mono ?_; rintro e w12 ⟨rfl, b12⟩)
            have s3 := (b12.cell (World.block_lt_of_cell? _ _ s2)).trans s2
            have HBZ := Lib.hid (HBY.out.trans (b12.mono HBY.out.size))
            clear q0 q1 q2 q3 q4 zq v0 v1 v2 zv x0 s2 b12 HKF
            go_wp2_with fail
            go_roundg (gk - 1)
            case measure => omega
            case rel => exact ⟨k + 1, by omega, by go_num, HBZ.out⟩
        · obtain rfl : k = wins.length := by omega
          go_wp2_with (go_at_call 15; refine (awakeP_any wr).mono ?_; rintro e w9 ⟨rfl, b9⟩)
          go_ret
          exact ⟨rfl, (H7.out.2.1.trans (HBW.out.mono H7.out.2.1.size)).trans (b9.mono (by have := H7.out.2.1.size; have := HBW.out.size; omega))⟩
end Go.Proofs.Ythmldeningpjbaa
