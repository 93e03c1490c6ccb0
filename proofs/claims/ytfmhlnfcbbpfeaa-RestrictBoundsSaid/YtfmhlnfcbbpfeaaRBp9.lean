/- slices.AppendSeq, slices.Collect over rules.orders; restrict.Orders -/
import Derived.Test.YtfmhlnfcbbpfeaaRBp8
import Derived.Maps.AppendAt
import Derived.Laws.StructEq
import Derived.Test.YtfmhlnfcbbpfeaaRBp0
import Derived.Test.YtfmhlnfcbbpfeaaRBp6
set_option linter.unusedVariables false
namespace Go.Proofs.Ytfmhlnfcbbpfeaa
open Go Go.RowKit Go.Shelf Go.Proofs Sp
attribute [local go_sem] Oper.semAt_some

def occ (x : Ord) : List Value := [.int .i64 x.iss, .int .i64 x.frm, .int .i64 x.stp]
def occs (l : List Ord) : List Value := l.flatMap occ
theorem occs_snoc (l : List Ord) (x : Ord) : occs (l ++ [x]) = occs l ++ [.int .i64 x.iss, .int .i64 x.frm, .int .i64 x.stp] := by simp [occs, occ]

theorem info_ord : (Try.prog.info? 54).map (fun i => (i.zero, i.size, i.bytes)) = some (some (.agg #[.int .i64 0, .int .i64 0, .int .i64 0]), 3, 24) := by kernel_rfl

/-- what AppendSeq's rounds write -/
def freeT (_ : Nat) (o : Obj) : Prop := ∃ cs t fr, o = .cells cs t fr ∧ (t = 48 ∨ t = 54)
theorem KpF.alloc {free : Nat → Obj → Prop} (W : World) (o : Obj) : KpF free W (W.alloc o) := ⟨by simp, fun _ _ hk _ _ => heap_alloc' hk _⟩
theorem KpF.putObj {free : Nat → Obj → Prop} {W : World} {l : Nat} {o : Obj} (hl : W.heap[l]? = some o) (ho : o.isCells = false) (o' : Obj) : KpF free W (W.putObj l o') :=
  ⟨by simp, fun k ob hk hc _ => (World.putObj_heap_other (fun e => by subst e; rw [hl] at hk; cases hk; rw [ho] at hc; cases hc)).trans hk⟩

theorem KpF.appended {W w1 : World} {n₀ B : Nat} {v v' : Value} {k size : Nat} {xs : List Value} {tmp : Obj} (hv : Boxed W B 48 v) (hrow : W.ownsRow n₀ 54 size v k xs) (hgrow : (W.alloc tmp).grownBy w1 v.ownBlock) : KpF freeT W (w1.setCell ⟨B, 0, none⟩ v') := by
  have hs1 : W.heap.size ≤ w1.heap.size := by have := hgrow.size; simp at this; omega
  refine ⟨by have := (KeepsWalks.setCell w1 ⟨B, 0, none⟩ v').size; omega, fun j o hj hc hf => ?_⟩
  have hjB : j ≠ B := by
    rintro rfl
    rw [show W.heap[j]? = _ from hv] at hj
    cases hj
    exact hf ⟨_, _, _, rfl, .inl rfl⟩
  have hjl := heap_lt hj
  have hjo : some j ≠ v.ownBlock := by
    rcases hrow.2 with ⟨rfl, _⟩ | ⟨g, cap, cur, rfl, _, hgb, _⟩
    · simp [Value.ownBlock]
    · intro e
      obtain rfl : j = g := by simpa [Value.ownBlock] using e
      rw [hgb] at hj
      cases hj
      exact hf ⟨_, _, _, rfl, .inr rfl⟩
  exact (Below.heap_setCell _ _ _ j hjB).trans ((hgrow.block j (by simp; omega) hjo).trans (heap_alloc' hj _))

theorem ownsRow_base_a' {W : World} {base base' : Nat} {e : TypeId} {size : Nat} {v : Value} {k : Nat} {xs : List Value} (h : W.ownsRow base e size v k xs) (hb : base' ≤ base) : W.ownsRow base' e size v k xs := by
  refine ⟨h.1, ?_⟩
  rcases h.2 with hn | ⟨g, cap, cur, hv, hbg, rest⟩
  · exact .inl hn
  · exact .inr ⟨g, cap, cur, hv, Nat.le_trans hb hbg, rest⟩

set_option maxRecDepth 100000 in
set_option maxHeartbeats 4000000 in
theorem appendSeq_any (rb db pb : Nat) (p : Pol) (A : Option Addr) (c : Nat) (days : List Int) (w : World) (hp : PolAt w pb p) (hh : 1 ≤ p.hold ∧ p.hold ≤ 1000) (hca : 1 ≤ p.calm ∧ p.calm ≤ 1000) (hno : 0 ≤ p.notice ∧ p.notice ≤ 900)
    (hrb : w.heap[rb]? = some (.cells #[.pointer (some ⟨pb, 0, none⟩)] 143 (0, 0))) (hdb : w.heap[db]? = some (.cells #[.slice A days.length c] 27 (0, 0))) (hr : Rd w 1 A days.length (ints days)) (hl : days.length ≤ 100000) :
    Calls Try.prog 133 #[.slice none 0 0, .func (.func 134) #[] #[.pointer (some ⟨rb, 0, none⟩), .pointer (some ⟨db, 0, none⟩)]] w
      fun e w' => ∃ v, e = .returned v ∧ w'.ownsRow w.heap.size 54 3 v (ordersS p days).length (occs (ordersS p days)) ∧ Below w.heap.size w w' := by
  obtain ⟨i0, hi, hz0, hz1, hz2⟩ := info_parts info_ord
  refine (callsIn_wide (n := 9)).1 ?_
  refine callsIn_of_wp_marks Try.func133 rfl trivial ?_ rfl
  simp only [Try.ntmps133, List.size_toArray, List.length_cons, List.length_nil, Nat.reduceAdd, Nat.reduceSub, Array.replicate_succ, Array.replicate_zero, List.push_toArray, List.append_toArray, List.nil_append, List.cons_append]
  gi_wp2
  have bO := Boxed.new w 48 (.slice none 0 0)
  have hB0 : Below w.heap.size w (w.alloc (.cells #[.slice none 0 0] 48)) := (Below.refl _ w).alloc (Nat.le_refl _) _
  refine wpIn_rangeFunc_ownH rfl (by omega) (gf := 134) (lb := #[.pointer (some ⟨rb, 0, none⟩), .pointer (some ⟨db, 0, none⟩)]) rfl trivial (enters_of Try.func134 (by kernel_rfl) rfl)
    (orders1_stops freeT rb db pb p A c days (w.alloc (.cells #[.slice none 0 0] 48)) (hp.below hB0) hh hca hno (heap_alloc' hrb _) (heap_alloc' hdb _) (hr.below hB0) hl
      (by rintro k cs _ ⟨_, _, _, e, h⟩; cases e; simp at h) (by rintro cs ⟨_, _, _, e, h⟩; cases e; simp at h) (by rintro cs ⟨_, _, _, e, h⟩; cases e; simp at h) _ (by omega))
    (fun h h' => h.trans h') (fun W l o o' _ hl ho _ => KpF.putObj hl ho o') (Below.refl _ _) (fun _ => rfl)
    (fun pre W => (∃ v, Boxed W w.heap.size 48 v ∧ W.ownsRow w.heap.size 54 3 v pre.length (occs pre) ∧ True) ∧ Below w.heap.size w W)
    (fun _ _ _ => False)
    (OwnFrom.and (Own.from (holdsRow_own w.heap.size w.heap.size 48 54 3 (fun pre : List Ord => pre.length) (fun pre => occs pre) (fun _ _ => True)) _) (ownFrom_below (Nat.le_refl _) (by simp)))
    (fun _ _ _ _ _ hs _ _ => hs)
    ⟨⟨_, bO, World.ownsRow_nil .., trivial⟩, hB0⟩
    (fun x a' W => ∃ Bx, w.heap.size < Bx ∧ W.heap[Bx]? = some (.cells #[.int .i64 x.iss, .int .i64 x.frm, .int .i64 x.stp] 54 (0, 0)) ∧
      a' = { tmps := #[.slice none 0 0, .func (.func 134) #[] #[.pointer (some ⟨rb, 0, none⟩), .pointer (some ⟨db, 0, none⟩)], .pointer (some ⟨w.heap.size, 0, none⟩), undef, .slice none 0 0, .pointer (some ⟨Bx, 0, none⟩), .func (.func 134) #[] #[.pointer (some ⟨rb, 0, none⟩), .pointer (some ⟨db, 0, none⟩)], .agg #[.int .i64 x.iss, .int .i64 x.frm, .int .i64 x.stp], undef, undef, undef, undef, undef], defers := [] })
    (fun x a' s X Y row hs hg hrow => by
      obtain ⟨Bx, h1, h2, h3⟩ := hs
      refine ⟨Bx, h1, (hg.block Bx (heap_lt h2) (fun e => ?_)).trans h2, h3⟩
      obtain ⟨_, o, ho, hc⟩ := hrow Bx e.symm
      rw [h2] at ho; cases ho; cases hc)
    ?assign ?body ?done ?stop
  case assign =>
    rintro l pre x W K ⟨⟨v, hv, hrow, _⟩, hB⟩ hK
    simp only [orc]
    gi_wp2
    exact hK _ _ ((KeepsOthers.alloc _ _).from _) (KpF.alloc _ _) ⟨⟨v, hv.alloc _, hrow.alloc _, trivial⟩, hB.alloc hB.size _⟩ ⟨W.heap.size, hv.lt, heap_alloc_new W _, rfl⟩
  case body =>
    rintro l pre x a' W hlw ⟨r, hr⟩ ⟨⟨v, hv, hrow, _⟩, hB⟩ ⟨Bx, hBx, bX, rfl⟩ hlt
    have hc := hv.cell
    have x0 : W.cell? ⟨Bx, 0, none⟩ = some (.int .i64 x.iss) := (cell_of_heap bX 0).trans rfl
    have x1 : W.cell? ⟨Bx, 1, none⟩ = some (.int .i64 x.frm) := (cell_of_heap bX 1).trans rfl
    have x2 : W.cell? ⟨Bx, 2, none⟩ = some (.int .i64 x.stp) := (cell_of_heap bX 2).trans rfl
    gi_wp2_with (gi_at_builtin; refine wpListIn_append_own _ rfl _ _ 48 rfl w.heap.size 54 i0 _ 3 24 Try.underlying48 hi hz0 hz1 hz2 rfl (by decide) _ _ _ rfl (hrow.alloc _) ⟨W.heap.size, 0, none⟩ 1 1 [.int .i64 x.iss, .int .i64 x.frm, .int .i64 x.stp] rfl rfl (fun j u hj => by rw [show (⟨W.heap.size, 0, none⟩ : Addr).add j = ⟨W.heap.size, j, none⟩ from by simp [Addr.add]; omega, World.cell?_alloc_new]; simpa using hj) (by simp [Value.oneCell']) (by have : maxLen = 9223372036854775807 := rfl; omega) (by omega) (by have := hB.size; simp; omega) ?_; intro v' w1 hown' hgrow _; obtain ⟨g', cap', rfl⟩ := ownsRow_succ hown'; have hKp := KpF.appended (v' := .slice (some ⟨g', 0, none⟩) (pre.length + 1) cap') hv hrow hgrow; obtain ⟨hv1, hv2, hr2, hk2, hb2⟩ := hv.appended (by decide) hrow hB.size (Nat.le_refl _) hown' hgrow; have hc1 := hv1.cell; have hf1 := hv1.frozen)
    exact ⟨hk2.from _, hKp, ⟨_, hv2, by rw [occs_snoc]; simpa using hr2, trivial⟩, hB.trans hb2⟩
  case done =>
    rintro D ys W hD rfl ⟨⟨v, hv, hrow, _⟩, hB⟩ hK
    have hc := hv.cell
    gi_wp2
    refine ⟨by simp, .inl ⟨_, _, rfl, run_takeDeferred hK, ?_⟩⟩
    exact ⟨_, results_tmp rfl _ _ _, v, rfl, ownsRow_putObj hrow _ hK rfl, hB.trans (belowK_b (w := w) (Nat.le_refl _) W D _ _ (by simp at hD; omega) hK rfl rfl)⟩
  case stop =>
    rintro D c pre W _ _ h _
    exact h.elim

theorem collect_any (rb db pb : Nat) (p : Pol) (A : Option Addr) (c : Nat) (days : List Int) (w : World) (hp : PolAt w pb p) (hh : 1 ≤ p.hold ∧ p.hold ≤ 1000) (hca : 1 ≤ p.calm ∧ p.calm ≤ 1000) (hno : 0 ≤ p.notice ∧ p.notice ≤ 900)
    (hrb : w.heap[rb]? = some (.cells #[.pointer (some ⟨pb, 0, none⟩)] 143 (0, 0))) (hdb : w.heap[db]? = some (.cells #[.slice A days.length c] 27 (0, 0))) (hr : Rd w 1 A days.length (ints days)) (hl : days.length ≤ 100000) :
    Calls Try.prog 87 #[.func (.func 134) #[] #[.pointer (some ⟨rb, 0, none⟩), .pointer (some ⟨db, 0, none⟩)]] w
      fun e w' => ∃ v, e = .returned v ∧ w'.ownsRow w.heap.size 54 3 v (ordersS p days).length (occs (ordersS p days)) ∧ Below w.heap.size w w' := by
  have H := appendSeq_any rb db pb p A c days w hp hh hca hno hrb hdb hr hl
  go_enter Try.func87, Try.ntmps87
  go_wp2_with (go_at_call 133; refine H.mono ?_; rintro e w' ⟨v, rfl, h1, h2⟩)
  go_ret
  exact ⟨v, rfl, h1, h2⟩

theorem orders_any (pv : Value) (A : Option Addr) (n c : Nat) (w : World) :
    Calls Try.prog 88 #[.agg #[pv], .slice A n c] w fun e w' => e = .returned (.func (.func 134) #[] #[.pointer (some ⟨w.heap.size, 0, none⟩), .pointer (some ⟨w.heap.size + 1, 0, none⟩)]) ∧
      w' = (w.alloc (.cells #[pv] 143)).alloc (.cells #[.slice A n c] 27) := by
  go_enter Try.func88, Try.ntmps88
  go_wp2_with fail
  go_ret
  exact ⟨rfl, rfl⟩

/-- what Orders leaves -/
def OrdersPost (w : World) (p : Pol) (days : List Int) (e : Ending) (w' : World) : Prop :=
  ∃ v, e = .returned (.tuple #[v, .int .i64 (startS p days)]) ∧ w'.ownsRow w.heap.size 54 3 v (if startS p days = 0 then ordersS p days else []).length (occs (if startS p days = 0 then ordersS p days else [])) ∧ Below w.heap.size w w'

set_option maxRecDepth 100000 in
set_option maxHeartbeats 1000000 in
theorem Orders_any (As : Option Addr) (cs : Nat) (p : Pol) (A : Option Addr) (c : Nat) (days : List Int) (w : World) (hp : PolV w As cs p) (hr : Rd w 1 A days.length (ints days)) (hm : days.length ≤ 9223372036854775807) :
    Calls Try.prog 22 #[.agg #[.slice As p.steps.length cs, .int .i64 p.hold, .int .i64 p.calm, .int .i64 p.notice, .int .i64 p.grace], .slice A days.length c] w (OrdersPost w p days) := by
  obtain ⟨er, her⟩ : ∃ er, er = startS p days := ⟨_, rfl⟩
  have hst : Calls Try.prog 74 #[.agg #[.slice As p.steps.length cs, .int .i64 p.hold, .int .i64 p.calm, .int .i64 p.notice, .int .i64 p.grace], .slice A days.length c]
      (w.alloc (.cells #[.slice As p.steps.length cs, .int .i64 p.hold, .int .i64 p.calm, .int .i64 p.notice, .int .i64 p.grace] 25))
      fun e w1 => ∃ pp, e = .returned (.tuple #[.agg #[.pointer pp], .int .i64 er]) ∧ Below w.heap.size w w1 ∧ (er = 0 → ∃ pb, pp = some ⟨pb, 0, none⟩ ∧ PolAt w1 pb p) := by
    refine (start_any As cs p A c days _ ⟨hp.1, hp.2.1, hp.2.2.below ((Below.refl _ _).alloc (Nat.le_refl _) _)⟩ (hr.below ((Below.refl _ _).alloc (Nat.le_refl _) _)) hm).mono ?_
    rintro e w1 ⟨pp, rfl, hB, h0, _⟩
    exact ⟨pp, by rw [her], ((Below.refl _ _).alloc (Nat.le_refl _) _).trans (hB.mono (by simp)), fun h => h0 (her.symm.trans h)⟩
  have HP := Lib.hid (And.intro her (And.intro hr hst))
  clear her hst
  by_cases h0 : er = 0
  · subst h0
    have hs0 : startS p days = 0 := HP.out.1.symm
    obtain ⟨hck, hl4, _⟩ := start_ok hs0
    have HC := Lib.hid (check_ok hck)
    have hne : ((0 : Int) != 0) = false := rfl
    have HK := Lib.hid hs0
    clear hs0 hck hr
    go_enter Try.func22, Try.ntmps22
    go_wp2_with fail
    refine HP.out.2.2.mono ?_
    rintro e w1 ⟨pp, rfl, hB, h0⟩
    obtain ⟨pb, rfl, hpol⟩ := h0 trivial
    obtain ⟨W, hW⟩ : ∃ W, W = w1.alloc (.cells #[.pointer (some ⟨pb, 0, none⟩)] 143) := ⟨_, rfl⟩
    have bW : Below w.heap.size w W := by rw [hW]; exact hB.alloc hB.size _
    have pW : PolAt W pb p := by rw [hW]; exact hpol.below ((Below.refl _ _).alloc (Nat.le_refl _) _)
    have f8 : W.cell? ⟨w1.heap.size, 0, none⟩ = some (.pointer (some ⟨pb, 0, none⟩)) := by rw [hW]; exact cell_new_one _ _ _
    have HB := Lib.hid (And.intro bW (And.intro pW (HP.out.2.1.below bW)))
    clear hB hpol h0
    go_upto_region 4 with fail
    rw [← hW]
    generalize hs1 : w1.heap.size = s1 at f8 ⊢
    clear bW pW hW hs1
    have bO : ∀ o o', Below W.heap.size W ((W.alloc o).alloc o') := fun o o' => ((Below.refl _ _).alloc (Nat.le_refl _) _).alloc (by simp) _
    have hco : Calls Try.prog 87 #[.func (.func 134) #[] #[.pointer (some ⟨W.heap.size, 0, none⟩), .pointer (some ⟨W.heap.size + 1, 0, none⟩)]] ((W.alloc (.cells #[.pointer (some ⟨pb, 0, none⟩)] 143)).alloc (.cells #[.slice A days.length c] 27))
        fun e w' => ∃ v, e = .returned v ∧ w'.ownsRow w.heap.size 54 3 v (ordersS p days).length (occs (ordersS p days)) ∧ Below w.heap.size w w' := by
      have hdb := heap_alloc_new (W.alloc (.cells #[.pointer (some ⟨pb, 0, none⟩)] 143)) (.cells #[.slice A days.length c] 27)
      rw [World.size_alloc] at hdb
      refine (collect_any W.heap.size (W.heap.size + 1) pb p A c days _ (HB.out.2.1.below (bO _ _)) ⟨HC.out.2.2.1, by have := HC.out.2.2.2.1; omega⟩ ⟨HC.out.2.2.2.2.1, by have := HC.out.2.2.2.2.2.1; omega⟩ ⟨HC.out.2.2.2.2.2.2.1, by have := HC.out.2.2.2.2.2.2.2.1; omega⟩
        (heap_alloc' (heap_alloc_new W _) _) hdb (HB.out.2.2.below (bO _ _)) (by omega)).mono ?_
      rintro e w' ⟨v, rfl, h1, h2⟩
      have hz := HB.out.1.size
      exact ⟨v, rfl, ownsRow_base_a' h1 (by simp; omega), HB.out.1.trans (((bO _ _).mono hz).trans (h2.mono (by simp; omega)))⟩
    have HQ := Lib.hid hco
    clear hco bO
    go_wp2_with (first | (go_at_call 88; refine (orders_any _ _ _ _ _).mono ?_; rintro e w2 ⟨rfl, rfl⟩) | (go_at_call 87; refine HQ.out.mono ?_; rintro e w3 ⟨v, rfl, h1, h2⟩))
    go_ret2
    exact ⟨v, by rw [HK.out]; rfl, by rw [if_pos HK.out]; exact h1, h2⟩
  · have hne : (er != 0) = true := by simp [h0]
    have hs0 : startS p days ≠ 0 := fun h => h0 (HP.out.1.trans h)
    have HK := Lib.hid hs0
    clear hs0 h0 hr
    go_enter Try.func22, Try.ntmps22
    go_wp2_with fail
    refine HP.out.2.2.mono ?_
    rintro e w1 ⟨pp, rfl, hB, _⟩
    have HB := Lib.hid hB
    clear hB
    go_wp2_with fail
    go_ret2
    refine ⟨.slice none 0 0, ?_, ?_, HB.out.alloc HB.out.size _⟩
    · rw [← HP.out.1]; rfl
    · rw [if_neg HK.out]; exact World.ownsRow_nil ..
end Go.Proofs.Ytfmhlnfcbbpfeaa
/- slices.Equal at ints, orders, spans -/
namespace Go.Proofs.Ytfmhlnfcbbpfeaa
open Go Go.RowKit Sp

set_option maxHeartbeats 1000000 in
theorem eqInts_any (A : Option Addr) (c : Nat) (l : List Int) (B : Option Addr) (d : Nat) (m : List Int) (w : World) (hr : Rd w 1 A l.length (ints l)) (hr2 : Rd w 1 B m.length (ints m)) (hm : l.length ≤ 9223372036854775807) (hm2 : m.length ≤ 9223372036854775807) :
    Calls Try.prog 28 #[.slice A l.length c, .slice B m.length d] w fun e w' => e = .returned (.bool (decide (l = m))) ∧ Below w.heap.size w w' := by
  by_cases hlen : l.length = m.length
  · have hle : ((l.length : Int) != (m.length : Int)) = false := by simp; omega
    have hmm : m.length = l.length := hlen.symm
    rw [hmm] at hr2 ⊢
    have HL := Lib.hid hmm
    clear hlen hmm
    go_enter Try.func28, Try.ntmps28
    go_wp2_with fail
    go_loopg [13] (l.length) (fun g i wr => ∃ k : Nat, g + k = l.length ∧ i = .int .i64 k ∧ l.take k = m.take k ∧ Keep [] w wr)
    case atStart => exact ⟨0, rfl, rfl, by simp, Keep.refl _ _⟩
    case round =>
      obtain ⟨k, hk, rfl, hb, hK⟩ := hrel
      have HB := Lib.hid (And.intro hb hK)
      by_cases hlt : k < l.length
      · obtain ⟨b, off, rfl, hbb, hc⟩ := hr.2 (by omega)
        obtain ⟨b2, off2, rfl, hbb2, hc2⟩ := hr2.2 (by omega)
        obtain ⟨x, hx⟩ : ∃ x, x = l.getD k 0 := ⟨_, rfl⟩
        obtain ⟨y, hy⟩ : ∃ y, y = m.getD k 0 := ⟨_, rfl⟩
        have c0 : wr.cell? ⟨b, off + k, none⟩ = some (.int .i64 x) := hK.cell (by rw [hx]; exact hc k _ (ints_get hlt)) (by simp)
        have c1 : wr.cell? ⟨b2, off2 + k, none⟩ = some (.int .i64 y) := hK.cell (by rw [hy]; exact hc2 k _ (ints_get (by have := HL.out; omega))) (by simp)
        have hkI : (0 : Int) ≤ (k : Int) ∧ (k : Int) < (l.length : Int) := by omega
        have hx' : x = l[k] := by rw [hx]; simp [hlt]
        have hy' : y = m[k]'(by have := HL.out; omega) := by rw [hy]; simp [show k < m.length from by have := HL.out; omega]
        have HX := Lib.hid (And.intro hx' hy')
        clear hx hy hx' hy' hb hK hc hc2 hr hr2
        by_cases hxy : x = y
        · subst hxy
          have hne : (x != x) = false := by simp
          go_upto_region 6 with fail
          go_quiet (fail)
          go_wp2_with fail
          go_roundg (gk - 1)
          case measure => omega
          case rel =>
            refine ⟨k + 1, by omega, by go_num, ?_, HB.out.2.drewN _⟩
            rw [List.take_succ_eq_append_getElem hlt, List.take_succ_eq_append_getElem (by have := HL.out; omega : k < m.length), HB.out.1, ← HX.out.1, ← HX.out.2]
        · have hne : (x != y) = true := by simp [hxy]
          go_upto_region 6 with fail
          go_quiet (fail)
          go_wp2_with fail
          go_ret
          refine ⟨?_, below_drewN (HB.out.2.below (Nat.le_refl _) (by simp)) _⟩
          have : decide (l = m) = false := decide_eq_false fun e => by
            apply hxy
            rw [HX.out.1, HX.out.2]
            simp [e]
          rw [this]; rfl
      · obtain rfl : k = l.length := by omega
        clear hK hb
        go_wp2_with fail
        go_ret
        refine ⟨?_, HB.out.2.below (Nat.le_refl _) (by simp)⟩
        have h1 := HB.out.1
        rw [List.take_length, show l.length = m.length from HL.out.symm, List.take_length] at h1
        rw [decide_eq_true h1]; rfl
  · have hle : ((l.length : Int) != (m.length : Int)) = true := by simp; omega
    have HL := Lib.hid hlen
    clear hlen
    go_enter Try.func28, Try.ntmps28
    go_wp2_with fail
    go_ret
    refine ⟨?_, Below.refl _ _⟩
    rw [decide_eq_false (fun e => HL.out (by rw [e]))]; rfl
theorem occs_get {l : List Ord} {k : Nat} (hk : k < l.length) : (occs l)[k*3]? = some (.int .i64 l[k].iss) ∧ (occs l)[k*3+1]? = some (.int .i64 l[k].frm) ∧ (occs l)[k*3+2]? = some (.int .i64 l[k].stp) := by
  induction l generalizing k with
  | nil => simp at hk
  | cons s l ih =>
    cases k with
    | zero => simp [occs, occ]
    | succ k =>
      have h4 : ∀ j, (occs (s :: l))[3 + j]? = (occs l)[j]? := fun j => by
        simp only [occs, List.flatMap_cons, occ]
        rw [List.getElem?_append_right (by simp)]
        simp
      have e : ∀ j, (k+1)*3 + j = 3 + (k*3 + j) := fun j => by omega
      have e0 : (k+1)*3 = 3 + k*3 := by omega
      have hk' : k < l.length := by simpa using hk
      rw [e, e, e0, h4, h4, h4]
      simpa using ih hk'

theorem ord_neq (x y : Ord) (w : World) : (binOp .neq 54 (.agg #[.int .i64 x.iss, .int .i64 x.frm, .int .i64 x.stp]) (.agg #[.int .i64 y.iss, .int .i64 y.frm, .int .i64 y.stp])).run Try.prog w = .ok (.bool (!decide (x = y))) w := by
  have u3 := Try.underlying3
  have a3 := Try.isAgg3
  have z3 := Try.sizeOf3
  have hS : Try.prog.underlying 54 = some (.struct (Try.prog.fieldsOf 54)) := by kernel_rfl
  have hp : Try.prog.stoodInHeld 54 = false := by kernel_rfl
  rw [run_neq_struct, show (10000 : Nat) = 9999 + 1 from rfl, run_equalIn_agg w 9999 54 _ _ hS hp]
  simp only [Program.fieldsOf, Try.underlying54]
  go_simp
  obtain ⟨a, b, c⟩ := x
  obtain ⟨a', b', c'⟩ := y
  by_cases h1 : a = a' <;> by_cases h2 : b = b' <;> by_cases h3 : c = c' <;> simp [h1, h2, h3]

theorem span_neq (x y : Int × Int) (w : World) : (binOp .neq 42 (.agg #[.int .i64 x.1, .int .i64 x.2]) (.agg #[.int .i64 y.1, .int .i64 y.2])).run Try.prog w = .ok (.bool (!decide (x = y))) w := by
  have u3 := Try.underlying3
  have a3 := Try.isAgg3
  have z3 := Try.sizeOf3
  have hS : Try.prog.underlying 42 = some (.struct (Try.prog.fieldsOf 42)) := by kernel_rfl
  have hp : Try.prog.stoodInHeld 42 = false := by kernel_rfl
  rw [run_neq_struct, show (10000 : Nat) = 9999 + 1 from rfl, run_equalIn_agg w 9999 42 _ _ hS hp]
  simp only [Program.fieldsOf, Try.underlying42]
  go_simp
  obtain ⟨a, b⟩ := x
  obtain ⟨a', b'⟩ := y
  by_cases h1 : a = a' <;> by_cases h2 : b = b' <;> simp [h1, h2]

set_option maxHeartbeats 1000000 in
theorem eqOrds_any (A : Option Addr) (c : Nat) (l : List Ord) (B : Option Addr) (d : Nat) (m : List Ord) (w : World) (hr : Rd w 3 A l.length (occs l)) (hr2 : Rd w 3 B m.length (occs m)) (hm : l.length ≤ 9223372036854775807) (hm2 : m.length ≤ 9223372036854775807) :
    Calls Try.prog 46 #[.slice A l.length c, .slice B m.length d] w fun e w' => e = .returned (.bool (decide (l = m))) ∧ Below w.heap.size w w' := by
  by_cases hlen : l.length = m.length
  · have hle : ((l.length : Int) != (m.length : Int)) = false := by simp; omega
    have hmm : m.length = l.length := hlen.symm
    rw [hmm] at hr2 ⊢
    have HL := Lib.hid hmm
    clear hlen hmm
    go_enter Try.func46, Try.ntmps46
    go_wp2_with fail
    go_loopg [13] (l.length) (fun g i wr => ∃ k : Nat, g + k = l.length ∧ i = .int .i64 k ∧ l.take k = m.take k ∧ Keep [] w wr)
    case atStart => exact ⟨0, rfl, rfl, by simp, Keep.refl _ _⟩
    case round =>
      obtain ⟨k, hk, rfl, hb, hK⟩ := hrel
      have HB := Lib.hid (And.intro hb hK)
      by_cases hlt : k < l.length
      · obtain ⟨b, off, rfl, hbb, hc⟩ := hr.2 (by omega)
        obtain ⟨b2, off2, rfl, hbb2, hc2⟩ := hr2.2 (by omega)
        have hlm : k < m.length := by have := HL.out; omega
        obtain ⟨x, hx'⟩ : ∃ x, x = l[k] := ⟨_, rfl⟩
        obtain ⟨y, hy'⟩ : ∃ y, y = m[k] := ⟨_, rfl⟩
        obtain ⟨s0, s1, s2⟩ := occs_get hlt
        obtain ⟨t0, t1, t2⟩ := occs_get hlm
        rw [← hx'] at s0 s1 s2
        rw [← hy'] at t0 t1 t2
        have bk : ∀ o u, w.cell? ⟨b, o, none⟩ = some u → wr.cell? ⟨b, o, none⟩ = some u := fun o u h => hK.cell h (by simp)
        have bk2 : ∀ o u, w.cell? ⟨b2, o, none⟩ = some u → wr.cell? ⟨b2, o, none⟩ = some u := fun o u h => hK.cell h (by simp)
        have c0 := bk (off + k*3) _ (hc _ _ s0)
        have c1 := bk (off + k*3 + 1) _ (hc _ _ s1)
        have c2 := bk (off + k*3 + 2) _ (hc _ _ s2)
        have d0 := bk2 (off2 + k*3) _ (hc2 _ _ t0)
        have d1 := bk2 (off2 + k*3 + 1) _ (hc2 _ _ t1)
        have d2 := bk2 (off2 + k*3 + 2) _ (hc2 _ _ t2)
        clear bk bk2 s0 t0 s1 t1 s2 t2
        have hkI : (0 : Int) ≤ (k : Int) ∧ (k : Int) < (l.length : Int) := by omega
        have HX := Lib.hid (And.intro hx' hy')
        clear hx' hy' hb hK hc hc2 hr hr2
        by_cases hxy : x = y
        · subst hxy
          have hne : ∀ w, (binOp .neq 54 (.agg #[.int .i64 x.iss, .int .i64 x.frm, .int .i64 x.stp]) (.agg #[.int .i64 x.iss, .int .i64 x.frm, .int .i64 x.stp])).run Try.prog w = .ok (.bool false) w := fun w => by rw [ord_neq]; simp
          go_upto_region 6 with fail
          go_quiet (fail)
          go_wp2_with fail
          go_roundg (gk - 1)
          case measure => omega
          case rel =>
            refine ⟨k + 1, by omega, by go_num, ?_, HB.out.2.drewN _⟩
            rw [List.take_succ_eq_append_getElem hlt, List.take_succ_eq_append_getElem (by have := HL.out; omega : k < m.length), HB.out.1, ← HX.out.1, ← HX.out.2]
        · have hne : ∀ w, (binOp .neq 54 (.agg #[.int .i64 x.iss, .int .i64 x.frm, .int .i64 x.stp]) (.agg #[.int .i64 y.iss, .int .i64 y.frm, .int .i64 y.stp])).run Try.prog w = .ok (.bool true) w := fun w => by rw [ord_neq]; simp [hxy]
          go_upto_region 6 with fail
          go_quiet (fail)
          go_wp2_with fail
          go_ret
          refine ⟨?_, below_drewN (HB.out.2.below (Nat.le_refl _) (by simp)) _⟩
          have : decide (l = m) = false := decide_eq_false fun e => by
            apply hxy
            rw [HX.out.1, HX.out.2]
            simp [e]
          rw [this]; rfl
      · obtain rfl : k = l.length := by omega
        clear hK hb
        go_wp2_with fail
        go_ret
        refine ⟨?_, HB.out.2.below (Nat.le_refl _) (by simp)⟩
        have h1 := HB.out.1
        rw [List.take_length, show l.length = m.length from HL.out.symm, List.take_length] at h1
        rw [decide_eq_true h1]; rfl
  · have hle : ((l.length : Int) != (m.length : Int)) = true := by simp; omega
    have HL := Lib.hid hlen
    clear hlen
    go_enter Try.func46, Try.ntmps46
    go_wp2_with fail
    go_ret
    refine ⟨?_, Below.refl _ _⟩
    rw [decide_eq_false (fun e => HL.out (by rw [e]))]; rfl

set_option maxHeartbeats 1000000 in
theorem eqSpans_any (A : Option Addr) (c : Nat) (l : List (Int × Int)) (B : Option Addr) (d : Nat) (m : List (Int × Int)) (w : World) (hr : Rd w 2 A l.length (spcs l)) (hr2 : Rd w 2 B m.length (spcs m)) (hm : l.length ≤ 9223372036854775807) (hm2 : m.length ≤ 9223372036854775807) :
    Calls Try.prog 81 #[.slice A l.length c, .slice B m.length d] w fun e w' => e = .returned (.bool (decide (l = m))) ∧ Below w.heap.size w w' := by
  by_cases hlen : l.length = m.length
  · have hle : ((l.length : Int) != (m.length : Int)) = false := by simp; omega
    have hmm : m.length = l.length := hlen.symm
    rw [hmm] at hr2 ⊢
    have HL := Lib.hid hmm
    clear hlen hmm
    go_enter Try.func81, Try.ntmps81
    go_wp2_with fail
    go_loopg [13] (l.length) (fun g i wr => ∃ k : Nat, g + k = l.length ∧ i = .int .i64 k ∧ l.take k = m.take k ∧ Keep [] w wr)
    case atStart => exact ⟨0, rfl, rfl, by simp, Keep.refl _ _⟩
    case round =>
      obtain ⟨k, hk, rfl, hb, hK⟩ := hrel
      have HB := Lib.hid (And.intro hb hK)
      by_cases hlt : k < l.length
      · obtain ⟨b, off, rfl, hbb, hc⟩ := hr.2 (by omega)
        obtain ⟨b2, off2, rfl, hbb2, hc2⟩ := hr2.2 (by omega)
        have hlm : k < m.length := by have := HL.out; omega
        obtain ⟨x, hx'⟩ : ∃ x, x = l[k] := ⟨_, rfl⟩
        obtain ⟨y, hy'⟩ : ∃ y, y = m[k] := ⟨_, rfl⟩
        obtain ⟨s0, s1⟩ := spcs_get hlt
        obtain ⟨t0, t1⟩ := spcs_get hlm
        rw [← hx'] at s0 s1
        rw [← hy'] at t0 t1
        have bk : ∀ o u, w.cell? ⟨b, o, none⟩ = some u → wr.cell? ⟨b, o, none⟩ = some u := fun o u h => hK.cell h (by simp)
        have bk2 : ∀ o u, w.cell? ⟨b2, o, none⟩ = some u → wr.cell? ⟨b2, o, none⟩ = some u := fun o u h => hK.cell h (by simp)
        have c0 := bk (off + k*2) _ (hc _ _ s0)
        have c1 := bk (off + k*2 + 1) _ (hc _ _ s1)
        have d0 := bk2 (off2 + k*2) _ (hc2 _ _ t0)
        have d1 := bk2 (off2 + k*2 + 1) _ (hc2 _ _ t1)
        clear bk bk2 s0 t0 s1 t1
        have hkI : (0 : Int) ≤ (k : Int) ∧ (k : Int) < (l.length : Int) := by omega
        have HX := Lib.hid (And.intro hx' hy')
        clear hx' hy' hb hK hc hc2 hr hr2
        by_cases hxy : x = y
        · subst hxy
          have hne : ∀ w, (binOp .neq 42 (.agg #[.int .i64 x.1, .int .i64 x.2]) (.agg #[.int .i64 x.1, .int .i64 x.2])).run Try.prog w = .ok (.bool false) w := fun w => by rw [span_neq]; simp
          go_upto_region 6 with fail
          go_quiet (fail)
          go_wp2_with fail
          go_roundg (gk - 1)
          case measure => omega
          case rel =>
            refine ⟨k + 1, by omega, by go_num, ?_, HB.out.2.drewN _⟩
            rw [List.take_succ_eq_append_getElem hlt, List.take_succ_eq_append_getElem (by have := HL.out; omega : k < m.length), HB.out.1, ← HX.out.1, ← HX.out.2]
        · have hne : ∀ w, (binOp .neq 42 (.agg #[.int .i64 x.1, .int .i64 x.2]) (.agg #[.int .i64 y.1, .int .i64 y.2])).run Try.prog w = .ok (.bool true) w := fun w => by rw [span_neq]; simp [hxy]
          go_upto_region 6 with fail
          go_quiet (fail)
          go_wp2_with fail
          go_ret
          refine ⟨?_, below_drewN (HB.out.2.below (Nat.le_refl _) (by simp)) _⟩
          have : decide (l = m) = false := decide_eq_false fun e => by
            apply hxy
            rw [HX.out.1, HX.out.2]
            simp [e]
          rw [this]; rfl
      · obtain rfl : k = l.length := by omega
        clear hK hb
        go_wp2_with fail
        go_ret
        refine ⟨?_, HB.out.2.below (Nat.le_refl _) (by simp)⟩
        have h1 := HB.out.1
        rw [List.take_length, show l.length = m.length from HL.out.symm, List.take_length] at h1
        rw [decide_eq_true h1]; rfl
  · have hle : ((l.length : Int) != (m.length : Int)) = true := by simp; omega
    have HL := Lib.hid hlen
    clear hlen
    go_enter Try.func81, Try.ntmps81
    go_wp2_with fail
    go_ret
    refine ⟨?_, Below.refl _ _⟩
    rw [decide_eq_false (fun e => HL.out (by rw [e]))]; rfl
end Go.Proofs.Ytfmhlnfcbbpfeaa
/- How the arguments of layer 8's laws read: policies, spans, orders, numbers -/
namespace Go.Proofs.Ytfmhlnfcbbpfeaa
open Go Go.ChangeShapes Go.WideShapes Go.ChangeAt Go.RowKit Sp
set_option linter.unusedVariables false

theorem flat_ints (l : List Int) : l.flatMap (fun y => [Value.int .i64 y]) = ints l := by
  induction l with
  | nil => rfl
  | cons x l ih => rw [List.flatMap_cons, ih]; rfl
section
variable {H : Type} {enc : TypeId × Value → H} {w : World}
theorem el_step : ∀ (fuel : Nat) (cs : List Value) (x : DataW H × List MemPlace), DataW.trod enc Try.prog w 0 (fun _ => true) true fuel 74 cs = some x → ∃ y : Stp, cs = stc y ∧ True := by
  intro fuel cs x h
  obtain ⟨h1, h2⟩ := flat_cells 3 74 [some .i64, some .i64, some .i64, some .i64] fuel cs x (by kernel_rfl) h
  obtain ⟨_, e0, a0, rfl, _⟩ := h2 0 _ rfl
  obtain ⟨_, e1, a1, rfl, _⟩ := h2 1 _ rfl
  obtain ⟨_, e2, a2, rfl, _⟩ := h2 2 _ rfl
  obtain ⟨_, e3, a3, rfl, _⟩ := h2 3 _ rfl
  match cs, h1, e0, e1, e2, e3 with
  | [_, _, _, _], _, e0, e1, e2, e3 =>
    simp at e0 e1 e2 e3
    exact ⟨⟨a0, a1, a2, a3⟩, by rw [e0, e1, e2, e3]; rfl, trivial⟩
theorem el_ord : ∀ (fuel : Nat) (cs : List Value) (x : DataW H × List MemPlace), DataW.trod enc Try.prog w 0 (fun _ => true) true fuel 54 cs = some x → ∃ y : Ord, cs = occ y ∧ True := by
  intro fuel cs x h
  obtain ⟨h1, h2⟩ := flat_cells 3 54 [some .i64, some .i64, some .i64] fuel cs x (by kernel_rfl) h
  obtain ⟨_, e0, a0, rfl, _⟩ := h2 0 _ rfl
  obtain ⟨_, e1, a1, rfl, _⟩ := h2 1 _ rfl
  obtain ⟨_, e2, a2, rfl, _⟩ := h2 2 _ rfl
  match cs, h1, e0, e1, e2 with
  | [_, _, _], _, e0, e1, e2 =>
    simp at e0 e1 e2
    exact ⟨⟨a0, a1, a2⟩, by rw [e0, e1, e2]; rfl, trivial⟩
theorem el_int : ∀ (fuel : Nat) (cs : List Value) (x : DataW H × List MemPlace), DataW.trod enc Try.prog w 0 (fun _ => true) true fuel 3 cs = some x → ∃ y : Int, cs = [Value.int .i64 y] ∧ True := by
  intro fuel cs x h
  obtain ⟨n, rfl, _⟩ := DataW.trod_int Try.underlying3 h
  exact ⟨n, rfl, trivial⟩
set_option maxRecDepth 100000 in
theorem open_pol {r : Reach} {b0 : Nat} {v : Value} {d : DataW H} {ps : List MemPlace} (hval : Value.okWide Try.prog w r b0 25 v) (hd : DataW.Trod enc Try.prog w 0 (fun _ => true) true 25 v d ps) :
    ∃ (As : Option Addr) (cs : Nat) (p : Pol), v = .agg #[.slice As p.steps.length cs, .int .i64 p.hold, .int .i64 p.calm, .int .i64 p.notice, .int .i64 p.grace] ∧ PolV w As cs p ∧ (As = none → p.steps.length = 0 ∧ cs = 0) := by
  obtain ⟨cs, rfl, fuel, h⟩ := open_agg Try.underlying25 hval hd
  obtain ⟨xs, m, rfl, _, hlen, hxl, hf⟩ := DataW.trod_struct Try.underlying25 h
  have hc : Try.prog.cellsOf 25 = 5 := by kernel_rfl
  have hi : Try.prog.cellsOf 3 = 1 := by kernel_rfl
  have hs : Try.prog.cellsOf 23 = 1 := by kernel_rfl
  have h4 : Try.prog.cellsOf 74 = 4 := by kernel_rfl
  rw [hc] at hlen
  have get : ∀ i, i < 5 → ∃ y, xs[i]? = some y := fun i h => ⟨_, List.getElem?_eq_getElem (by rw [hxl]; exact h)⟩
  match hcs : cs.toList, hlen with
  | [c0, c1, c2, c3, c4], _ =>
    rw [hcs] at hf
    obtain ⟨y0, e0⟩ := get 0 (by omega)
    obtain ⟨y1, e1⟩ := get 1 (by omega)
    obtain ⟨y2, e2⟩ := get 2 (by omega)
    obtain ⟨y3, e3⟩ := get 3 (by omega)
    obtain ⟨y4, e4⟩ := get 4 (by omega)
    have g0 := (hf 0 _ rfl).trans e0
    have g1 := (hf 1 _ rfl).trans e1
    have g2 := (hf 2 _ rfl).trans e2
    have g3 := (hf 3 _ rfl).trans e3
    have g4 := (hf 4 _ rfl).trans e4
    simp [hs, hi] at g0 g1 g2 g3 g4
    obtain ⟨As, c, l, hv, hr, _, h6, h7, h8⟩ := open_rows Try.underlying23 h4 (by omega) el_step g0
    obtain ⟨n1, k1, _⟩ := DataW.trod_int Try.underlying3 g1
    obtain ⟨n2, k2, _⟩ := DataW.trod_int Try.underlying3 g2
    obtain ⟨n3, k3, _⟩ := DataW.trod_int Try.underlying3 g3
    obtain ⟨n4, k4, _⟩ := DataW.trod_int Try.underlying3 g4
    simp at hv k1 k2 k3 k4
    refine ⟨As, c, ⟨l, n1, n2, n3, n4⟩, ?_, ⟨h6, h7, hr⟩, h8⟩
    rw [hv, k1, k2, k3, k4] at hcs
    exact congrArg Value.agg (Array.ext' hcs)
set_option maxRecDepth 100000 in
theorem open_span {r : Reach} {b0 : Nat} {v : Value} {d : DataW H} {ps : List MemPlace} (hval : Value.okWide Try.prog w r b0 42 v) (hd : DataW.Trod enc Try.prog w 0 (fun _ => true) true 42 v d ps) :
    ∃ lo hi : Int, v = .agg #[.int .i64 lo, .int .i64 hi] ∧ (-9223372036854775808 ≤ lo ∧ lo ≤ 9223372036854775807) ∧ (-9223372036854775808 ≤ hi ∧ hi ≤ 9223372036854775807) := by
  obtain ⟨cs, rfl, fuel, h⟩ := open_agg Try.underlying42 hval hd
  obtain ⟨h1, h2⟩ := flat_cells 3 42 [some .i64, some .i64] fuel _ _ (by kernel_rfl) h
  obtain ⟨_, e0, a0, rfl, w0⟩ := h2 0 _ rfl
  obtain ⟨_, e1, a1, rfl, w1⟩ := h2 1 _ rfl
  match hcs : cs.toList, h1 with
  | [c0, c1], _ =>
    rw [hcs] at e0 e1
    simp at e0 e1
    rw [e0, e1] at hcs
    exact ⟨a0, a1, congrArg Value.agg (Array.ext' hcs), wf_i64 w0, wf_i64 w1⟩
end

end Go.Proofs.Ytfmhlnfcbbpfeaa
/- How the arguments of layer 8's laws read: vessels, passages -/
namespace Go.Proofs.Ytfmhlnfcbbpfeaa
open Go Go.ChangeShapes Go.WideShapes Go.ChangeAt Go.RowKit Sp
set_option linter.unusedVariables false
section
variable {H : Type} {enc : TypeId × Value → H} {w : World}
theorem el_psg : ∀ (fuel : Nat) (cs : List Value) (x : DataW H × List MemPlace), DataW.trod enc Try.prog w 0 (fun _ => true) true fuel 35 cs = some x → ∃ y : Psg, cs = psc y ∧ True := by
  intro fuel cs x h
  obtain ⟨h1, h2⟩ := flat_cells 4 35 [some .i64, some .i64, none, some .i64, some .i64] fuel cs x (by kernel_rfl) h
  obtain ⟨_, e0, a0, rfl, _⟩ := h2 0 _ rfl
  obtain ⟨_, e1, a1, rfl, _⟩ := h2 1 _ rfl
  obtain ⟨_, e2, a2, rfl⟩ := h2 2 _ rfl
  obtain ⟨_, e3, a3, rfl, _⟩ := h2 3 _ rfl
  obtain ⟨_, e4, a4, rfl, _⟩ := h2 4 _ rfl
  match cs, h1, e0, e1, e2, e3, e4 with
  | [_, _, _, _, _], _, e0, e1, e2, e3, e4 =>
    simp at e0 e1 e2 e3 e4
    exact ⟨⟨⟨a0, a1, a2⟩, a3, a4⟩, by rw [e0, e1, e2, e3, e4]; rfl, trivial⟩
set_option maxRecDepth 100000 in
theorem open_ves {r : Reach} {b0 : Nat} {v : Value} {d : DataW H} {ps : List MemPlace} (hval : Value.okWide Try.prog w r b0 33 v) (hd : DataW.Trod enc Try.prog w 0 (fun _ => true) true 33 v d ps) :
    ∃ (a b : Int) (g : Bool), v = .agg #[.int .i64 a, .int .i64 b, .bool g] := by
  obtain ⟨cs, rfl, fuel, h⟩ := open_agg Try.underlying33 hval hd
  obtain ⟨h1, h2⟩ := flat_cells 3 33 [some .i64, some .i64, none] fuel _ _ (by kernel_rfl) h
  obtain ⟨_, e0, a0, rfl, _⟩ := h2 0 _ rfl
  obtain ⟨_, e1, a1, rfl, _⟩ := h2 1 _ rfl
  obtain ⟨_, e2, a2, rfl⟩ := h2 2 _ rfl
  match hcs : cs.toList, h1 with
  | [c0, c1, c2], _ =>
    rw [hcs] at e0 e1 e2
    simp at e0 e1 e2
    rw [e0, e1, e2] at hcs
    exact ⟨a0, a1, a2, congrArg Value.agg (Array.ext' hcs)⟩
end
end Go.Proofs.Ytfmhlnfcbbpfeaa
