/- PortJoins: the walk -/
import Derived.Test.YthmldeningpjbaaPJp24
import Derived.Test.YthmldeningpjbaaPJp23
import Derived.Laws.StructEq
set_option linter.unusedVariables false
namespace Go.Proofs.Ythmldeningpjbaa
open Go Go.RowKit Sp Pt
set_option linter.unusedVariables false
set_option linter.unusedSimpArgs false

theorem map_neq (m : Mp) (wx : World) : (binOp .neq 59 (.agg #[.int .i64 m.add, .int .i64 m.floor, .int .i64 m.most]) (.agg #[.int .i64 m.add, .int .i64 m.floor, .int .i64 m.most])).run Try.prog wx = .ok (.bool false) wx := by
  have u3 := Try.underlying3
  have a3 := Try.isAgg3
  have z3 := Try.sizeOf3
  have hS : Try.prog.underlying 59 = some (.struct (Try.prog.fieldsOf 59)) := by kernel_rfl
  have hp : Try.prog.stoodInHeld 59 = false := by kernel_rfl
  rw [run_neq_struct, show (10000 : Nat) = 9999 + 1 from rfl, run_equalIn_agg wx 9999 59 _ _ hS hp]
  simp only [Program.fieldsOf, Try.underlying59]
  go_simp
def JoinsTo (a b r : Mp) : Prop := ∀ wx : World, Calls Try.prog 25 #[.agg #[.int .i64 a.add, .int .i64 a.floor, .int .i64 a.most], .agg #[.int .i64 b.add, .int .i64 b.floor, .int .i64 b.most]] wx fun e w' => e = .returned (.tuple #[.agg #[.int .i64 r.add, .int .i64 r.floor, .int .i64 r.most], .int .i64 0]) ∧ Below wx.heap.size wx w'
theorem joinsTo_of {a b : Mp} (ha : mright a = true) (hb : mright b = true) (hr : mright (join1 a b) = true) : JoinsTo a b (join1 a b) := fun wx => by
  have h := Join_any a b wx
  have e : joinE a b = 0 := by unfold joinE; rw [if_neg (by rw [ha, hb]; decide), if_neg (by rw [hr]; decide)]
  have e2 : joinV a b = join1 a b := by unfold joinV; rw [if_pos e]
  rwa [e, e2] at h
theorem joins_ok {a b c jab jbc jx : Mp} (ha : small a) (hb : small b) (hc : small c) (h1 : jab = join1 a b) (h2 : jbc = join1 b c) (h3 : jx = join1 jab c) : JoinsTo a b jab ∧ JoinsTo b c jbc ∧ JoinsTo jab c jx ∧ JoinsTo a jbc jx := by
  obtain ⟨a1, a2, a3⟩ := join_small ha hb
  obtain ⟨b1, b2, b3⟩ := join_small hb hc
  obtain ⟨e1, e2⟩ := join_assoc ha hb hc
  subst h1 h2 h3
  refine ⟨joinsTo_of a1 a2 a3, joinsTo_of a2 b2 b3, joinsTo_of a3 b2 e2, ?_⟩
  rw [e1] at e2 ⊢
  exact joinsTo_of a1 b3 e2

set_option maxRecDepth 100000 in
set_option maxHeartbeats 4000000 in
theorem joins_any (A : Option Addr) (c : Nat) (l : List Int) (br : Int) (w : World) (hr : Rd w 1 A l.length (byts l)) (hl : Bytes l) (hm : l.length ≤ 9223372036854775800) (hb : 0 ≤ br ∧ br ≤ 65535) :
    Calls Try.prog 4 #[.slice A l.length c, .int .u16 br] w fun e w' => e = .returned (.bool true) ∧ Below w.heap.size w w' := by
  have hA : 0 < l.length → ∀ b off, A = some ⟨b, off, none⟩ → b < w.heap.size := fun h0 b off e => by
    obtain ⟨b', o', e', hb, _⟩ := hr.2 h0
    rw [e] at e'
    injection e' with e'
    injection e' with e' _ _
    omega
  have H0 := Lib.hid (And.intro hl (And.intro hm hA))
  clear hl hm hA
  go_enter Try.func4, Try.ntmps4
  go_upto_region 3 with (go_at_call 16; refine (Drawn_any A c l w hr).mono ?_; rintro e w1 ⟨rfl, hd, hb1, hs1⟩; have H1 := Lib.hid (And.intro hd (And.intro hb1 hs1)); clear hd hb1 hs1)
  obtain ⟨nb, hnb⟩ : ∃ b, b = w1.heap.size := ⟨_, rfl⟩
  obtain ⟨ib, hib⟩ : ∃ b, b = w.heap.size + 1 := ⟨_, rfl⟩
  obtain ⟨lb, hlb⟩ : ∃ b, b = w.heap.size := ⟨_, rfl⟩
  rw [← hnb, ← hib, ← hlb]
  obtain ⟨W1, hW1⟩ : ∃ W, W = w1.alloc (.cells #[.func (.func 70) #[] #[.pointer (some ⟨ib, 0, none⟩), .pointer (some ⟨lb, 0, none⟩)]] 38) := ⟨_, rfl⟩
  rw [← hW1]
  have hn1 : W1.heap[nb]? = some (.cells #[.func (.func 70) #[] #[.pointer (some ⟨ib, 0, none⟩), .pointer (some ⟨lb, 0, none⟩)]] 38 (0, 0)) := by rw [hW1, hnb]; exact heap_alloc_new _ _
  have bW1 : Below w.heap.size w W1 := by rw [hW1]; exact H1.out.2.1.alloc H1.out.2.1.size _
  have dW1 : DrawSt W1 ib lb A c l 0 := by rw [hW1, hib, hlb]; exact H1.out.1.keep (S := []) ((Keep.refl _ _).alloc _) (by simp) (by simp) (by simp)
  have hdist : nb ≠ ib ∧ nb ≠ lb ∧ ib ≠ lb ∧ w.heap.size ≤ ib ∧ w.heap.size ≤ lb ∧ w.heap.size ≤ nb := by have := H1.out.2.2; omega
  have some_ : ∀ (k : Nat) (wx : World), DrawSt wx ib lb A c l k → Keep [ib] W1 wx → Calls Try.prog 24 #[.pointer (some ⟨nb, 0, none⟩)] wx fun e w' => ∃ m : Mp, e = .returned (mpV m) ∧ small m ∧ DrawSt w' ib lb A c l (k + 5) ∧ Keep [ib] wx w' := fun k wx hd hk =>
    some_any nb ib lb c k A l wx hd ((hk.block _ (heap_lt hn1) (by simpa using hdist.1)).trans hn1) H0.out.1 (by have := H0.out.2.1; omega) hdist.2.2.1 (fun h0 b off e => by have := H0.out.2.2 h0 b off e; omega) ⟨hdist.1, hdist.2.1⟩
  have HK0 := Lib.hid (And.intro (some_ 0 W1 dW1 (Keep.refl _ _)) (And.intro some_ bW1))
  have HD := Lib.hid hdist
  have ibW := heap_lt dW1.cnt
  clear some_ bW1 dW1 hn1 hdist hW1 hnb hib hlb hr
  go_upto_region 4 with (first
    | (go_at_call 24; have bb := HK2; clear bb; refine HK2.out.1.mono ?_; rintro e w4 ⟨mc, rfl, sc, d4, k4⟩; have HK3 := Lib.hid (And.intro sc (HK2.out.2.trans k4 (fun g hg => .inl hg))); clear sc d4 k4)
    | (go_at_call 24; have bb := HK1; clear bb; refine HK1.out.1.mono ?_; rintro e w3 ⟨mb, rfl, sb, d3, k3⟩; have k13 := HK1.out.2.2.trans k3 (fun g hg => .inl hg); have HS2 := Lib.hid sb; have HK2 := Lib.hid (And.intro (HK0.out.2.1 10 w3 d3 k13) k13); clear sb d3 k3 k13)
    | (go_at_call 24; refine HK0.out.1.mono ?_; rintro e w2 ⟨ma, rfl, sa, d2, k2⟩; have HK1 := Lib.hid (And.intro (HK0.out.2.1 5 w2 d2 k2) (And.intro sa k2)); clear sa d2 k2))
  obtain ⟨ab, hab⟩ : ∃ b, b = w4.heap.size := ⟨_, rfl⟩
  obtain ⟨bb, hbb⟩ : ∃ b, b = w4.heap.size + 1 := ⟨_, rfl⟩
  obtain ⟨cb, hcb⟩ : ∃ b, b = w4.heap.size + 1 + 1 := ⟨_, rfl⟩
  rw [← hcb, ← hbb, ← hab]
  obtain ⟨X5, hX5⟩ : ∃ W, W = ((w4.alloc (.cells #[.int .i64 ma.add, .int .i64 ma.floor, .int .i64 ma.most] 59)).alloc (.cells #[.int .i64 mb.add, .int .i64 mb.floor, .int .i64 mb.most] 59)).alloc (.cells #[.int .i64 mc.add, .int .i64 mc.floor, .int .i64 mc.most] 59) := ⟨_, rfl⟩
  rw [← hX5]
  have ga : X5.heap[ab]? = some (.cells #[.int .i64 ma.add, .int .i64 ma.floor, .int .i64 ma.most] 59 (0, 0)) := by rw [hX5, hab]; exact heap_alloc' (heap_alloc' (heap_alloc_new _ _) _) _
  have gb : X5.heap[bb]? = some (.cells #[.int .i64 mb.add, .int .i64 mb.floor, .int .i64 mb.most] 59 (0, 0)) := by
    rw [hX5, hbb]; refine heap_alloc' ?_ _; have := heap_alloc_new (w4.alloc (.cells #[.int .i64 ma.add, .int .i64 ma.floor, .int .i64 ma.most] 59)) (.cells #[.int .i64 mb.add, .int .i64 mb.floor, .int .i64 mb.most] 59); rwa [World.size_alloc] at this
  have gc : X5.heap[cb]? = some (.cells #[.int .i64 mc.add, .int .i64 mc.floor, .int .i64 mc.most] 59 (0, 0)) := by
    rw [hX5, hcb]; have := heap_alloc_new ((w4.alloc (.cells #[.int .i64 ma.add, .int .i64 ma.floor, .int .i64 ma.most] 59)).alloc (.cells #[.int .i64 mb.add, .int .i64 mb.floor, .int .i64 mb.most] 59)) (.cells #[.int .i64 mc.add, .int .i64 mc.floor, .int .i64 mc.most] 59); rwa [World.size_alloc, World.size_alloc] at this
  have bX5 : Below w.heap.size w X5 := by
    have h := HK0.out.2.2.trans (HK3.out.2.below (B := w.heap.size) HK0.out.2.2.size (by intro x hx; rw [List.mem_singleton.1 hx]; exact HD.out.2.2.2.1))
    rw [hX5]; exact ((h.alloc h.size _).alloc (by have := h.size; simp; omega) _).alloc (by have := h.size; simp; omega) _
  have HGX5 := Lib.hid (And.intro bX5 (And.intro (ga) (And.intro (gb) (gc))))
  clear ga gb gc bX5 hX5 hab hbb hcb ibW
  obtain ⟨jab, hjab⟩ : ∃ m, m = join1 ma mb := ⟨_, rfl⟩
  obtain ⟨jbc, hjbc⟩ : ∃ m, m = join1 mb mc := ⟨_, rfl⟩
  obtain ⟨jx, hjx⟩ : ∃ m, m = join1 jab mc := ⟨_, rfl⟩
  have joinsOk := joins_ok HK1.out.2.1 HS2.out HK3.out.1 hjab hjbc hjx
  obtain ⟨k1, k2, k3, k4⟩ := joinsOk
  have HJ1 := Lib.hid (k1)
  have HJ2 := Lib.hid (k2)
  have HJ3 := Lib.hid (k3)
  have HJ4 := Lib.hid (k4)
  obtain ⟨sma, smb⟩ : small ma ∧ small mb := ⟨HK1.out.2.1, HS2.out⟩
  have HSM := Lib.hid (And.intro sma (And.intro smb hjab))
  clear k1 k2 k3 k4 hjab hjbc hjx sma smb
  have cab0 : X5.cell? ⟨ab, 0, none⟩ = some (.int .i64 ma.add) := (cell_of_heap HGX5.out.2.1 0).trans rfl
  have cab1 : X5.cell? ⟨ab, 1, none⟩ = some (.int .i64 ma.floor) := (cell_of_heap HGX5.out.2.1 1).trans rfl
  have cab2 : X5.cell? ⟨ab, 2, none⟩ = some (.int .i64 ma.most) := (cell_of_heap HGX5.out.2.1 2).trans rfl
  have zab : ab < X5.heap.size := heap_lt (HGX5.out.2.1)
  have cbb0 : X5.cell? ⟨bb, 0, none⟩ = some (.int .i64 mb.add) := (cell_of_heap HGX5.out.2.2.1 0).trans rfl
  have cbb1 : X5.cell? ⟨bb, 1, none⟩ = some (.int .i64 mb.floor) := (cell_of_heap HGX5.out.2.2.1 1).trans rfl
  have cbb2 : X5.cell? ⟨bb, 2, none⟩ = some (.int .i64 mb.most) := (cell_of_heap HGX5.out.2.2.1 2).trans rfl
  have zbb : bb < X5.heap.size := heap_lt (HGX5.out.2.2.1)
  have zcb : cb < X5.heap.size := heap_lt (HGX5.out.2.2.2)
  go_upto_region 5 with (go_at_call 25; refine (HJ1.out _).mono ?_; rintro e w6 ⟨rfl, bw6⟩)
  obtain ⟨jb, hjb⟩ : ∃ b, b = w6.heap.size := ⟨_, rfl⟩
  obtain ⟨X6, hX6⟩ : ∃ W, W = w6.alloc (.cells #[.int .i64 jab.add, .int .i64 jab.floor, .int .i64 jab.most] 59) := ⟨_, rfl⟩
  rw [← hX6, ← hjb]
  have bN : Below X5.heap.size X5 X6 := by rw [hX6]; exact bw6.alloc bw6.size _
  have g0 : X6.heap[ab]? = some (.cells #[.int .i64 ma.add, .int .i64 ma.floor, .int .i64 ma.most] 59 (0, 0)) := (bN.block _ (heap_lt (HGX5.out.2.1))).trans (HGX5.out.2.1)
  have g1 : X6.heap[bb]? = some (.cells #[.int .i64 mb.add, .int .i64 mb.floor, .int .i64 mb.most] 59 (0, 0)) := (bN.block _ (heap_lt (HGX5.out.2.2.1))).trans (HGX5.out.2.2.1)
  have g2 : X6.heap[cb]? = some (.cells #[.int .i64 mc.add, .int .i64 mc.floor, .int .i64 mc.most] 59 (0, 0)) := (bN.block _ (heap_lt (HGX5.out.2.2.2))).trans (HGX5.out.2.2.2)
  have gN : X6.heap[jb]? = some (.cells #[.int .i64 jab.add, .int .i64 jab.floor, .int .i64 jab.most] 59 (0, 0)) := by rw [hX6, hjb]; exact heap_alloc_new _ _
  have HGX6 := Lib.hid (And.intro (HGX5.out.1.trans (bN.mono HGX5.out.1.size)) (And.intro (g0) (And.intro (g1) (And.intro (g2) (gN)))))
  clear g0 g1 g2 gN bN bw6 hX6 hjb cab0 cab1 cab2 zab cbb0 cbb1 cbb2 zbb zcb
  have zab : ab < X6.heap.size := heap_lt (HGX6.out.2.1)
  have cbb0 : X6.cell? ⟨bb, 0, none⟩ = some (.int .i64 mb.add) := (cell_of_heap HGX6.out.2.2.1 0).trans rfl
  have cbb1 : X6.cell? ⟨bb, 1, none⟩ = some (.int .i64 mb.floor) := (cell_of_heap HGX6.out.2.2.1 1).trans rfl
  have cbb2 : X6.cell? ⟨bb, 2, none⟩ = some (.int .i64 mb.most) := (cell_of_heap HGX6.out.2.2.1 2).trans rfl
  have zbb : bb < X6.heap.size := heap_lt (HGX6.out.2.2.1)
  have ccb0 : X6.cell? ⟨cb, 0, none⟩ = some (.int .i64 mc.add) := (cell_of_heap HGX6.out.2.2.2.1 0).trans rfl
  have ccb1 : X6.cell? ⟨cb, 1, none⟩ = some (.int .i64 mc.floor) := (cell_of_heap HGX6.out.2.2.2.1 1).trans rfl
  have ccb2 : X6.cell? ⟨cb, 2, none⟩ = some (.int .i64 mc.most) := (cell_of_heap HGX6.out.2.2.2.1 2).trans rfl
  have zcb : cb < X6.heap.size := heap_lt (HGX6.out.2.2.2.1)
  have zjb : jb < X6.heap.size := heap_lt (HGX6.out.2.2.2.2)
  go_upto_region 6 with (go_at_call 25; refine (HJ2.out _).mono ?_; rintro e w7 ⟨rfl, bw7⟩)
  obtain ⟨kb, hkb⟩ : ∃ b, b = w7.heap.size := ⟨_, rfl⟩
  obtain ⟨X7, hX7⟩ : ∃ W, W = w7.alloc (.cells #[.int .i64 jbc.add, .int .i64 jbc.floor, .int .i64 jbc.most] 59) := ⟨_, rfl⟩
  rw [← hX7, ← hkb]
  have bN : Below X6.heap.size X6 X7 := by rw [hX7]; exact bw7.alloc bw7.size _
  have g0 : X7.heap[ab]? = some (.cells #[.int .i64 ma.add, .int .i64 ma.floor, .int .i64 ma.most] 59 (0, 0)) := (bN.block _ (heap_lt (HGX6.out.2.1))).trans (HGX6.out.2.1)
  have g1 : X7.heap[bb]? = some (.cells #[.int .i64 mb.add, .int .i64 mb.floor, .int .i64 mb.most] 59 (0, 0)) := (bN.block _ (heap_lt (HGX6.out.2.2.1))).trans (HGX6.out.2.2.1)
  have g2 : X7.heap[cb]? = some (.cells #[.int .i64 mc.add, .int .i64 mc.floor, .int .i64 mc.most] 59 (0, 0)) := (bN.block _ (heap_lt (HGX6.out.2.2.2.1))).trans (HGX6.out.2.2.2.1)
  have g3 : X7.heap[jb]? = some (.cells #[.int .i64 jab.add, .int .i64 jab.floor, .int .i64 jab.most] 59 (0, 0)) := (bN.block _ (heap_lt (HGX6.out.2.2.2.2))).trans (HGX6.out.2.2.2.2)
  have gN : X7.heap[kb]? = some (.cells #[.int .i64 jbc.add, .int .i64 jbc.floor, .int .i64 jbc.most] 59 (0, 0)) := by rw [hX7, hkb]; exact heap_alloc_new _ _
  have HGX7 := Lib.hid (And.intro (HGX6.out.1.trans (bN.mono HGX6.out.1.size)) (And.intro (g0) (And.intro (g1) (And.intro (g2) (And.intro (g3) (gN))))))
  clear g0 g1 g2 g3 gN bN bw7 hX7 hkb zab cbb0 cbb1 cbb2 zbb ccb0 ccb1 ccb2 zcb zjb
  have zab : ab < X7.heap.size := heap_lt (HGX7.out.2.1)
  have zbb : bb < X7.heap.size := heap_lt (HGX7.out.2.2.1)
  have ccb0 : X7.cell? ⟨cb, 0, none⟩ = some (.int .i64 mc.add) := (cell_of_heap HGX7.out.2.2.2.1 0).trans rfl
  have ccb1 : X7.cell? ⟨cb, 1, none⟩ = some (.int .i64 mc.floor) := (cell_of_heap HGX7.out.2.2.2.1 1).trans rfl
  have ccb2 : X7.cell? ⟨cb, 2, none⟩ = some (.int .i64 mc.most) := (cell_of_heap HGX7.out.2.2.2.1 2).trans rfl
  have zcb : cb < X7.heap.size := heap_lt (HGX7.out.2.2.2.1)
  have cjb0 : X7.cell? ⟨jb, 0, none⟩ = some (.int .i64 jab.add) := (cell_of_heap HGX7.out.2.2.2.2.1 0).trans rfl
  have cjb1 : X7.cell? ⟨jb, 1, none⟩ = some (.int .i64 jab.floor) := (cell_of_heap HGX7.out.2.2.2.2.1 1).trans rfl
  have cjb2 : X7.cell? ⟨jb, 2, none⟩ = some (.int .i64 jab.most) := (cell_of_heap HGX7.out.2.2.2.2.1 2).trans rfl
  have zjb : jb < X7.heap.size := heap_lt (HGX7.out.2.2.2.2.1)
  have zkb : kb < X7.heap.size := heap_lt (HGX7.out.2.2.2.2.2)
  go_upto_region 9 with (go_at_call 25; refine (HJ3.out _).mono ?_; rintro e w8 ⟨rfl, bw8⟩)
  obtain ⟨xb, hxb⟩ : ∃ b, b = w8.heap.size := ⟨_, rfl⟩
  obtain ⟨X8, hX8⟩ : ∃ W, W = w8.alloc (.cells #[.int .i64 jx.add, .int .i64 jx.floor, .int .i64 jx.most] 59) := ⟨_, rfl⟩
  rw [← hX8, ← hxb]
  have bN : Below X7.heap.size X7 X8 := by rw [hX8]; exact bw8.alloc bw8.size _
  have g0 : X8.heap[ab]? = some (.cells #[.int .i64 ma.add, .int .i64 ma.floor, .int .i64 ma.most] 59 (0, 0)) := (bN.block _ (heap_lt (HGX7.out.2.1))).trans (HGX7.out.2.1)
  have g1 : X8.heap[bb]? = some (.cells #[.int .i64 mb.add, .int .i64 mb.floor, .int .i64 mb.most] 59 (0, 0)) := (bN.block _ (heap_lt (HGX7.out.2.2.1))).trans (HGX7.out.2.2.1)
  have g2 : X8.heap[cb]? = some (.cells #[.int .i64 mc.add, .int .i64 mc.floor, .int .i64 mc.most] 59 (0, 0)) := (bN.block _ (heap_lt (HGX7.out.2.2.2.1))).trans (HGX7.out.2.2.2.1)
  have g3 : X8.heap[jb]? = some (.cells #[.int .i64 jab.add, .int .i64 jab.floor, .int .i64 jab.most] 59 (0, 0)) := (bN.block _ (heap_lt (HGX7.out.2.2.2.2.1))).trans (HGX7.out.2.2.2.2.1)
  have g4 : X8.heap[kb]? = some (.cells #[.int .i64 jbc.add, .int .i64 jbc.floor, .int .i64 jbc.most] 59 (0, 0)) := (bN.block _ (heap_lt (HGX7.out.2.2.2.2.2))).trans (HGX7.out.2.2.2.2.2)
  have gN : X8.heap[xb]? = some (.cells #[.int .i64 jx.add, .int .i64 jx.floor, .int .i64 jx.most] 59 (0, 0)) := by rw [hX8, hxb]; exact heap_alloc_new _ _
  have HGX8 := Lib.hid (And.intro (HGX7.out.1.trans (bN.mono HGX7.out.1.size)) (And.intro (g0) (And.intro (g1) (And.intro (g2) (And.intro (g3) (And.intro (g4) (gN)))))))
  clear g0 g1 g2 g3 g4 gN bN bw8 hX8 hxb zab zbb ccb0 ccb1 ccb2 zcb cjb0 cjb1 cjb2 zjb zkb
  have cab0 : X8.cell? ⟨ab, 0, none⟩ = some (.int .i64 ma.add) := (cell_of_heap HGX8.out.2.1 0).trans rfl
  have cab1 : X8.cell? ⟨ab, 1, none⟩ = some (.int .i64 ma.floor) := (cell_of_heap HGX8.out.2.1 1).trans rfl
  have cab2 : X8.cell? ⟨ab, 2, none⟩ = some (.int .i64 ma.most) := (cell_of_heap HGX8.out.2.1 2).trans rfl
  have zab : ab < X8.heap.size := heap_lt (HGX8.out.2.1)
  have zbb : bb < X8.heap.size := heap_lt (HGX8.out.2.2.1)
  have zcb : cb < X8.heap.size := heap_lt (HGX8.out.2.2.2.1)
  have zjb : jb < X8.heap.size := heap_lt (HGX8.out.2.2.2.2.1)
  have ckb0 : X8.cell? ⟨kb, 0, none⟩ = some (.int .i64 jbc.add) := (cell_of_heap HGX8.out.2.2.2.2.2.1 0).trans rfl
  have ckb1 : X8.cell? ⟨kb, 1, none⟩ = some (.int .i64 jbc.floor) := (cell_of_heap HGX8.out.2.2.2.2.2.1 1).trans rfl
  have ckb2 : X8.cell? ⟨kb, 2, none⟩ = some (.int .i64 jbc.most) := (cell_of_heap HGX8.out.2.2.2.2.2.1 2).trans rfl
  have zkb : kb < X8.heap.size := heap_lt (HGX8.out.2.2.2.2.2.1)
  have zxb : xb < X8.heap.size := heap_lt (HGX8.out.2.2.2.2.2.2)
  go_upto_region 10 with (go_at_call 25; refine (HJ4.out _).mono ?_; rintro e w9 ⟨rfl, bw9⟩)
  obtain ⟨yb, hyb⟩ : ∃ b, b = w9.heap.size := ⟨_, rfl⟩
  obtain ⟨X9, hX9⟩ : ∃ W, W = w9.alloc (.cells #[.int .i64 jx.add, .int .i64 jx.floor, .int .i64 jx.most] 59) := ⟨_, rfl⟩
  rw [← hX9, ← hyb]
  have bN : Below X8.heap.size X8 X9 := by rw [hX9]; exact bw9.alloc bw9.size _
  have g0 : X9.heap[ab]? = some (.cells #[.int .i64 ma.add, .int .i64 ma.floor, .int .i64 ma.most] 59 (0, 0)) := (bN.block _ (heap_lt (HGX8.out.2.1))).trans (HGX8.out.2.1)
  have g1 : X9.heap[bb]? = some (.cells #[.int .i64 mb.add, .int .i64 mb.floor, .int .i64 mb.most] 59 (0, 0)) := (bN.block _ (heap_lt (HGX8.out.2.2.1))).trans (HGX8.out.2.2.1)
  have g2 : X9.heap[cb]? = some (.cells #[.int .i64 mc.add, .int .i64 mc.floor, .int .i64 mc.most] 59 (0, 0)) := (bN.block _ (heap_lt (HGX8.out.2.2.2.1))).trans (HGX8.out.2.2.2.1)
  have g3 : X9.heap[jb]? = some (.cells #[.int .i64 jab.add, .int .i64 jab.floor, .int .i64 jab.most] 59 (0, 0)) := (bN.block _ (heap_lt (HGX8.out.2.2.2.2.1))).trans (HGX8.out.2.2.2.2.1)
  have g4 : X9.heap[kb]? = some (.cells #[.int .i64 jbc.add, .int .i64 jbc.floor, .int .i64 jbc.most] 59 (0, 0)) := (bN.block _ (heap_lt (HGX8.out.2.2.2.2.2.1))).trans (HGX8.out.2.2.2.2.2.1)
  have g5 : X9.heap[xb]? = some (.cells #[.int .i64 jx.add, .int .i64 jx.floor, .int .i64 jx.most] 59 (0, 0)) := (bN.block _ (heap_lt (HGX8.out.2.2.2.2.2.2))).trans (HGX8.out.2.2.2.2.2.2)
  have gN : X9.heap[yb]? = some (.cells #[.int .i64 jx.add, .int .i64 jx.floor, .int .i64 jx.most] 59 (0, 0)) := by rw [hX9, hyb]; exact heap_alloc_new _ _
  have HGX9 := Lib.hid (And.intro (HGX8.out.1.trans (bN.mono HGX8.out.1.size)) (And.intro (g0) (And.intro (g1) (And.intro (g2) (And.intro (g3) (And.intro (g4) (And.intro (g5) (gN))))))))
  clear g0 g1 g2 g3 g4 g5 gN bN bw9 hX9 hyb cab0 cab1 cab2 zab zbb zcb zjb ckb0 ckb1 ckb2 zkb zxb
  have cab0 : X9.cell? ⟨ab, 0, none⟩ = some (.int .i64 ma.add) := (cell_of_heap HGX9.out.2.1 0).trans rfl
  have cab1 : X9.cell? ⟨ab, 1, none⟩ = some (.int .i64 ma.floor) := (cell_of_heap HGX9.out.2.1 1).trans rfl
  have cab2 : X9.cell? ⟨ab, 2, none⟩ = some (.int .i64 ma.most) := (cell_of_heap HGX9.out.2.1 2).trans rfl
  have zab : ab < X9.heap.size := heap_lt (HGX9.out.2.1)
  have cbb0 : X9.cell? ⟨bb, 0, none⟩ = some (.int .i64 mb.add) := (cell_of_heap HGX9.out.2.2.1 0).trans rfl
  have cbb1 : X9.cell? ⟨bb, 1, none⟩ = some (.int .i64 mb.floor) := (cell_of_heap HGX9.out.2.2.1 1).trans rfl
  have cbb2 : X9.cell? ⟨bb, 2, none⟩ = some (.int .i64 mb.most) := (cell_of_heap HGX9.out.2.2.1 2).trans rfl
  have zbb : bb < X9.heap.size := heap_lt (HGX9.out.2.2.1)
  have zcb : cb < X9.heap.size := heap_lt (HGX9.out.2.2.2.1)
  have cjb0 : X9.cell? ⟨jb, 0, none⟩ = some (.int .i64 jab.add) := (cell_of_heap HGX9.out.2.2.2.2.1 0).trans rfl
  have cjb1 : X9.cell? ⟨jb, 1, none⟩ = some (.int .i64 jab.floor) := (cell_of_heap HGX9.out.2.2.2.2.1 1).trans rfl
  have cjb2 : X9.cell? ⟨jb, 2, none⟩ = some (.int .i64 jab.most) := (cell_of_heap HGX9.out.2.2.2.2.1 2).trans rfl
  have zjb : jb < X9.heap.size := heap_lt (HGX9.out.2.2.2.2.1)
  have zkb : kb < X9.heap.size := heap_lt (HGX9.out.2.2.2.2.2.1)
  have cxb0 : X9.cell? ⟨xb, 0, none⟩ = some (.int .i64 jx.add) := (cell_of_heap HGX9.out.2.2.2.2.2.2.1 0).trans rfl
  have cxb1 : X9.cell? ⟨xb, 1, none⟩ = some (.int .i64 jx.floor) := (cell_of_heap HGX9.out.2.2.2.2.2.2.1 1).trans rfl
  have cxb2 : X9.cell? ⟨xb, 2, none⟩ = some (.int .i64 jx.most) := (cell_of_heap HGX9.out.2.2.2.2.2.2.1 2).trans rfl
  have zxb : xb < X9.heap.size := heap_lt (HGX9.out.2.2.2.2.2.2.1)
  have cyb0 : X9.cell? ⟨yb, 0, none⟩ = some (.int .i64 jx.add) := (cell_of_heap HGX9.out.2.2.2.2.2.2.2 0).trans rfl
  have cyb1 : X9.cell? ⟨yb, 1, none⟩ = some (.int .i64 jx.floor) := (cell_of_heap HGX9.out.2.2.2.2.2.2.2 1).trans rfl
  have cyb2 : X9.cell? ⟨yb, 2, none⟩ = some (.int .i64 jx.most) := (cell_of_heap HGX9.out.2.2.2.2.2.2.2 2).trans rfl
  have zyb : yb < X9.heap.size := heap_lt (HGX9.out.2.2.2.2.2.2.2)
  have hneq := map_neq jx
  obtain ⟨n, hn⟩ : ∃ n, n = br % 600 := ⟨_, rfl⟩
  have hnr : 0 ≤ n ∧ n < 600 := by omega
  go_upto_region 13 with fail
  rw [← hn]
  clear hneq cxb0 cxb1 cxb2 cyb0 cyb1 cyb2
  obtain ⟨n1, hn1⟩ : ∃ x, x = applyN ma n := ⟨_, rfl⟩
  obtain ⟨e1, he1⟩ : ∃ x, x = applyE ma n := ⟨_, rfl⟩
  obtain ⟨n2, hn2⟩ : ∃ x, x = applyN jab n := ⟨_, rfl⟩
  obtain ⟨e2, he2⟩ : ∃ x, x = applyE jab n := ⟨_, rfl⟩
  have haj := apply_join HSM.out.1 HSM.out.2.1 hnr.1 hnr.2
  rw [← HSM.out.2.2, ← hn1, ← he1, ← hn2, ← he2] at haj
  have ka : ∀ wx, Calls Try.prog 26 #[.agg #[.int .i64 ma.add, .int .i64 ma.floor, .int .i64 ma.most], .int .i64 n] wx fun e w' => e = .returned (.tuple #[.int .i64 n1, .int .i64 e1]) ∧ Below wx.heap.size wx w' := fun wx => by rw [hn1, he1]; exact Apply_any ma n wx
  have kab : ∀ wx, Calls Try.prog 26 #[.agg #[.int .i64 jab.add, .int .i64 jab.floor, .int .i64 jab.most], .int .i64 n] wx fun e w' => e = .returned (.tuple #[.int .i64 n2, .int .i64 e2]) ∧ Below wx.heap.size wx w' := fun wx => by rw [hn2, he2]; exact Apply_any jab n wx
  have kb := Apply_any mb n1
  have KA := Lib.hid (And.intro ka (And.intro kab kb))
  have KW := Lib.hid (awakeP_any)
  clear ka kab kb hn1 he1 hn2 he2 hn hb hnr
  by_cases h1 : e1 = 0
  · obtain ⟨q1, q2⟩ := haj.2 h1
    subst h1
    obtain ⟨e3, he3⟩ : ∃ x, x = applyE mb n1 := ⟨_, rfl⟩
    obtain ⟨n3, hn3⟩ : ∃ x, x = applyN mb n1 := ⟨_, rfl⟩
    have kb : ∀ wx, Calls Try.prog 26 #[.agg #[.int .i64 mb.add, .int .i64 mb.floor, .int .i64 mb.most], .int .i64 n1] wx fun e w' => e = .returned (.tuple #[.int .i64 n3, .int .i64 e3]) ∧ Below wx.heap.size wx w' := fun wx => by rw [hn3, he3]; exact Apply_any mb n1 wx
    rw [← he3] at q1 q2
    rw [← hn3] at q2
    subst q1
    have KA := Lib.hid (And.intro KA.out.1 (And.intro KA.out.2.1 kb))
    clear haj kb he3 hn3
    by_cases h3 : e3 = 0
    · obtain rfl := q2 h3
      subst h3
      clear q2
      go_wp2_with (first | (go_at_call 15; refine (KW.out _).mono ?_; rintro e w13 ⟨rfl, b13⟩; have HW := Lib.hid (HC.out.trans (b13.mono HC.out.size)); clear b13) | (go_at_call 26; have qq := HB; clear qq; refine (KA.out.2.2 _).mono ?_; rintro e w12 ⟨rfl, b12⟩; have HC := Lib.hid (HB.out.trans (b12.mono HB.out.size)); clear b12) | (go_at_call 26; have qq := HA; clear qq; refine (KA.out.2.1 _).mono ?_; rintro e w11 ⟨rfl, b11'⟩; have b11 := HA.out.trans (b11'.mono HA.out.size); have HB := Lib.hid b11; clear djb0 djb1 djb2 dbb0 dbb1 dbb2 yjb ybb; have gbb := (b11.block _ (heap_lt (HGX9.out.2.2.1))).trans (HGX9.out.2.2.1); have dbb0 : w11.cell? ⟨bb, 0, none⟩ = some (.int .i64 mb.add) := (cell_of_heap gbb 0).trans rfl; have dbb1 : w11.cell? ⟨bb, 1, none⟩ = some (.int .i64 mb.floor) := (cell_of_heap gbb 1).trans rfl; have dbb2 : w11.cell? ⟨bb, 2, none⟩ = some (.int .i64 mb.most) := (cell_of_heap gbb 2).trans rfl; have ybb := heap_lt gbb; clear gbb; clear b11 b11') | (go_at_call 26; refine (KA.out.1 _).mono ?_; rintro e w10 ⟨rfl, b10⟩; have HA := Lib.hid b10; have gbb := (b10.block _ (heap_lt (HGX9.out.2.2.1))).trans (HGX9.out.2.2.1); have dbb0 : w10.cell? ⟨bb, 0, none⟩ = some (.int .i64 mb.add) := (cell_of_heap gbb 0).trans rfl; have dbb1 : w10.cell? ⟨bb, 1, none⟩ = some (.int .i64 mb.floor) := (cell_of_heap gbb 1).trans rfl; have dbb2 : w10.cell? ⟨bb, 2, none⟩ = some (.int .i64 mb.most) := (cell_of_heap gbb 2).trans rfl; have ybb := heap_lt gbb; clear gbb; have gjb := (b10.block _ (heap_lt (HGX9.out.2.2.2.2.1))).trans (HGX9.out.2.2.2.2.1); have djb0 : w10.cell? ⟨jb, 0, none⟩ = some (.int .i64 jab.add) := (cell_of_heap gjb 0).trans rfl; have djb1 : w10.cell? ⟨jb, 1, none⟩ = some (.int .i64 jab.floor) := (cell_of_heap gjb 1).trans rfl; have djb2 : w10.cell? ⟨jb, 2, none⟩ = some (.int .i64 jab.most) := (cell_of_heap gjb 2).trans rfl; have yjb := heap_lt gjb; clear gjb; clear b10))
      go_ret
      exact ⟨rfl, HGX9.out.1.trans (HW.out.mono HGX9.out.1.size)⟩
    · clear q2
      go_wp2_with (first | (go_at_call 15; refine (KW.out _).mono ?_; rintro e w13 ⟨rfl, b13⟩; have HW := Lib.hid (HC.out.trans (b13.mono HC.out.size)); clear b13) | (go_at_call 26; have qq := HB; clear qq; refine (KA.out.2.2 _).mono ?_; rintro e w12 ⟨rfl, b12⟩; have HC := Lib.hid (HB.out.trans (b12.mono HB.out.size)); clear b12) | (go_at_call 26; have qq := HA; clear qq; refine (KA.out.2.1 _).mono ?_; rintro e w11 ⟨rfl, b11'⟩; have b11 := HA.out.trans (b11'.mono HA.out.size); have HB := Lib.hid b11; clear djb0 djb1 djb2 dbb0 dbb1 dbb2 yjb ybb; have gbb := (b11.block _ (heap_lt (HGX9.out.2.2.1))).trans (HGX9.out.2.2.1); have dbb0 : w11.cell? ⟨bb, 0, none⟩ = some (.int .i64 mb.add) := (cell_of_heap gbb 0).trans rfl; have dbb1 : w11.cell? ⟨bb, 1, none⟩ = some (.int .i64 mb.floor) := (cell_of_heap gbb 1).trans rfl; have dbb2 : w11.cell? ⟨bb, 2, none⟩ = some (.int .i64 mb.most) := (cell_of_heap gbb 2).trans rfl; have ybb := heap_lt gbb; clear gbb; clear b11 b11') | (go_at_call 26; refine (KA.out.1 _).mono ?_; rintro e w10 ⟨rfl, b10⟩; have HA := Lib.hid b10; have gbb := (b10.block _ (heap_lt (HGX9.out.2.2.1))).trans (HGX9.out.2.2.1); have dbb0 : w10.cell? ⟨bb, 0, none⟩ = some (.int .i64 mb.add) := (cell_of_heap gbb 0).trans rfl; have dbb1 : w10.cell? ⟨bb, 1, none⟩ = some (.int .i64 mb.floor) := (cell_of_heap gbb 1).trans rfl; have dbb2 : w10.cell? ⟨bb, 2, none⟩ = some (.int .i64 mb.most) := (cell_of_heap gbb 2).trans rfl; have ybb := heap_lt gbb; clear gbb; have gjb := (b10.block _ (heap_lt (HGX9.out.2.2.2.2.1))).trans (HGX9.out.2.2.2.2.1); have djb0 : w10.cell? ⟨jb, 0, none⟩ = some (.int .i64 jab.add) := (cell_of_heap gjb 0).trans rfl; have djb1 : w10.cell? ⟨jb, 1, none⟩ = some (.int .i64 jab.floor) := (cell_of_heap gjb 1).trans rfl; have djb2 : w10.cell? ⟨jb, 2, none⟩ = some (.int .i64 jab.most) := (cell_of_heap gjb 2).trans rfl; have yjb := heap_lt gjb; clear gjb; clear b10))
      go_ret
      exact ⟨rfl, HGX9.out.1.trans (HW.out.mono HGX9.out.1.size)⟩
  · obtain ⟨rfl, rfl⟩ := haj.1 h1
    clear haj h1
    go_wp2_with (first | (go_at_call 15; refine (KW.out _).mono ?_; rintro e w13 ⟨rfl, b13⟩; have HW := Lib.hid (HB.out.trans (b13.mono HB.out.size)); clear b13) | (go_at_call 26; have qq := HA; clear qq; refine (KA.out.2.1 _).mono ?_; rintro e w11 ⟨rfl, b11'⟩; have b11 := HA.out.trans (b11'.mono HA.out.size); have HB := Lib.hid b11; clear djb0 djb1 djb2 dbb0 dbb1 dbb2 yjb ybb; have gbb := (b11.block _ (heap_lt (HGX9.out.2.2.1))).trans (HGX9.out.2.2.1); have dbb0 : w11.cell? ⟨bb, 0, none⟩ = some (.int .i64 mb.add) := (cell_of_heap gbb 0).trans rfl; have dbb1 : w11.cell? ⟨bb, 1, none⟩ = some (.int .i64 mb.floor) := (cell_of_heap gbb 1).trans rfl; have dbb2 : w11.cell? ⟨bb, 2, none⟩ = some (.int .i64 mb.most) := (cell_of_heap gbb 2).trans rfl; have ybb := heap_lt gbb; clear gbb; clear b11 b11') | (go_at_call 26; refine (KA.out.1 _).mono ?_; rintro e w10 ⟨rfl, b10⟩; have HA := Lib.hid b10; have gbb := (b10.block _ (heap_lt (HGX9.out.2.2.1))).trans (HGX9.out.2.2.1); have dbb0 : w10.cell? ⟨bb, 0, none⟩ = some (.int .i64 mb.add) := (cell_of_heap gbb 0).trans rfl; have dbb1 : w10.cell? ⟨bb, 1, none⟩ = some (.int .i64 mb.floor) := (cell_of_heap gbb 1).trans rfl; have dbb2 : w10.cell? ⟨bb, 2, none⟩ = some (.int .i64 mb.most) := (cell_of_heap gbb 2).trans rfl; have ybb := heap_lt gbb; clear gbb; have gjb := (b10.block _ (heap_lt (HGX9.out.2.2.2.2.1))).trans (HGX9.out.2.2.2.2.1); have djb0 : w10.cell? ⟨jb, 0, none⟩ = some (.int .i64 jab.add) := (cell_of_heap gjb 0).trans rfl; have djb1 : w10.cell? ⟨jb, 1, none⟩ = some (.int .i64 jab.floor) := (cell_of_heap gjb 1).trans rfl; have djb2 : w10.cell? ⟨jb, 2, none⟩ = some (.int .i64 jab.most) := (cell_of_heap gjb 2).trans rfl; have yjb := heap_lt gjb; clear gjb; clear b10))
    go_ret
    exact ⟨rfl, HGX9.out.1.trans (HW.out.mono HGX9.out.1.size)⟩
end Go.Proofs.Ythmldeningpjbaa
