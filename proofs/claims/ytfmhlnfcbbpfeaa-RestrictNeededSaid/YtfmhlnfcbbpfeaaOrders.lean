/- slices.AppendSeq, slices.Collect over rules.orders; restrict.Orders -/
import Derived.Test.YtfmhlnfcbbpfeaaSeq
import Derived.Maps.AppendAt
namespace Go.Proofs.Ytfmhlnfcbbpfeaa
open Go Go.RowKit Go.Shelf Go.Proofs Sp
attribute [local go_sem] Oper.semAt_some

def occ (x : Ord) : List Value := [.int .i64 x.iss, .int .i64 x.frm, .int .i64 x.stp]
def occs (l : List Ord) : List Value := l.flatMap occ
theorem occs_snoc (l : List Ord) (x : Ord) : occs (l ++ [x]) = occs l ++ [.int .i64 x.iss, .int .i64 x.frm, .int .i64 x.stp] := by simp [occs, occ]

theorem info_ord : (Try.prog.info? 54).map (fun i => (i.zero, i.size, i.bytes)) = some (some (.agg #[.int .i64 0, .int .i64 0, .int .i64 0]), 3, 24) := by kernel_rfl

/-- what AppendSeq's rounds write -/
def freeT (_ : Nat) (o : Obj) : Prop := ∃ cs t fr, o = .cells cs t fr ∧ (t = 48 ∨ t = 54)
theorem KpF.alloc {free : Nat → Obj → Prop} (W : World) (o : Obj) : KpF free W (W.alloc o) := ⟨by simp, fun _ _ hk _ _ => heap_alloc' hk _⟩
theorem KpF.putObj {free : Nat → Obj → Prop} {W : World} {l : Nat} {o : Obj} (hl : W.heap[l]? = some o) (ho : o.isCells = false) (o' : Obj) : KpF free W (W.putObj l o') :=
  ⟨by simp, fun k ob hk hc _ => (World.putObj_heap_other (fun e => by subst e; rw [hl] at hk; cases hk; rw [ho] at hc; cases hc)).trans hk⟩

theorem KpF.appended {W w1 : World} {n₀ B : Nat} {v v' : Value} {k size : Nat} {xs : List Value} {tmp : Obj} (hv : Boxed W B 48 v) (hrow : W.ownsRow n₀ 54 size v k xs) (hgrow : (W.alloc tmp).grownBy w1 v.ownBlock) : KpF freeT W (w1.setCell ⟨B, 0, none⟩ v') := by
  have hs1 : W.heap.size ≤ w1.heap.size := by have := hgrow.size; simp at this; omega
  refine ⟨by have := (KeepsWalks.setCell w1 ⟨B, 0, none⟩ v').size; omega, fun j o hj hc hf => ?_⟩
  have hjB : j ≠ B := by
    rintro rfl
    rw [show W.heap[j]? = _ from hv] at hj
    cases hj
    exact hf ⟨_, _, _, rfl, .inl rfl⟩
  have hjl := heap_lt hj
  have hjo : some j ≠ v.ownBlock := by
    rcases hrow.2 with ⟨rfl, _⟩ | ⟨g, cap, cur, rfl, _, hgb, _⟩
    · simp [Value.ownBlock]
    · intro e
      obtain rfl : j = g := by simpa [Value.ownBlock] using e
      rw [hgb] at hj
      cases hj
      exact hf ⟨_, _, _, rfl, .inr rfl⟩
  exact (Below.heap_setCell _ _ _ j hjB).trans ((hgrow.block j (by simp; omega) hjo).trans (heap_alloc' hj _))

theorem ownsRow_base_a' {W : World} {base base' : Nat} {e : TypeId} {size : Nat} {v : Value} {k : Nat} {xs : List Value} (h : W.ownsRow base e size v k xs) (hb : base' ≤ base) : W.ownsRow base' e size v k xs := by
  refine ⟨h.1, ?_⟩
  rcases h.2 with hn | ⟨g, cap, cur, hv, hbg, rest⟩
  · exact .inl hn
  · exact .inr ⟨g, cap, cur, hv, Nat.le_trans hb hbg, rest⟩

set_option maxRecDepth 100000 in
set_option maxHeartbeats 4000000 in
theorem appendSeq_any (rb db pb : Nat) (p : Pol) (A : Option Addr) (c : Nat) (days : List Int) (w : World) (hp : PolAt w pb p) (hh : 1 ≤ p.hold ∧ p.hold ≤ 1000) (hca : 1 ≤ p.calm ∧ p.calm ≤ 1000) (hno : 0 ≤ p.notice ∧ p.notice ≤ 900)
    (hrb : w.heap[rb]? = some (.cells #[.pointer (some ⟨pb, 0, none⟩)] 143 (0, 0))) (hdb : w.heap[db]? = some (.cells #[.slice A days.length c] 27 (0, 0))) (hr : Rd w 1 A days.length (ints days)) (hl : days.length ≤ 100000) :
    Calls Try.prog 133 #[.slice none 0 0, .func (.func 134) #[] #[.pointer (some ⟨rb, 0, none⟩), .pointer (some ⟨db, 0, none⟩)]] w
      fun e w' => ∃ v, e = .returned v ∧ w'.ownsRow w.heap.size 54 3 v (ordersS p days).length (occs (ordersS p days)) ∧ Below w.heap.size w w' := by
  obtain ⟨i0, hi, hz0, hz1, hz2⟩ := info_parts info_ord
  refine (callsIn_wide (n := 9)).1 ?_
  refine callsIn_of_wp_marks Try.func133 rfl trivial ?_ rfl
  simp only [Try.ntmps133, List.size_toArray, List.length_cons, List.length_nil, Nat.reduceAdd, Nat.reduceSub, Array.replicate_succ, Array.replicate_zero, List.push_toArray, List.append_toArray, List.nil_append, List.cons_append]
  gi_wp2
  have bO := Boxed.new w 48 (.slice none 0 0)
  have hB0 : Below w.heap.size w (w.alloc (.cells #[.slice none 0 0] 48)) := (Below.refl _ w).alloc (Nat.le_refl _) _
  refine wpIn_rangeFunc_ownH rfl (by omega) (gf := 134) (lb := #[.pointer (some ⟨rb, 0, none⟩), .pointer (some ⟨db, 0, none⟩)]) rfl trivial (enters_of Try.func134 (by kernel_rfl) rfl)
    (orders1_stops freeT rb db pb p A c days (w.alloc (.cells #[.slice none 0 0] 48)) (hp.below hB0) hh hca hno (heap_alloc' hrb _) (heap_alloc' hdb _) (hr.below hB0) hl
      (by rintro k cs _ ⟨_, _, _, e, h⟩; cases e; simp at h) (by rintro cs ⟨_, _, _, e, h⟩; cases e; simp at h) (by rintro cs ⟨_, _, _, e, h⟩; cases e; simp at h) _ (by omega))
    (fun h h' => h.trans h') (fun W l o o' _ hl ho _ => KpF.putObj hl ho o') (Below.refl _ _) (fun _ => rfl)
    (fun pre W => (∃ v, Boxed W w.heap.size 48 v ∧ W.ownsRow w.heap.size 54 3 v pre.length (occs pre) ∧ True) ∧ Below w.heap.size w W)
    (fun _ _ _ => False)
    (OwnFrom.and (Own.from (holdsRow_own w.heap.size w.heap.size 48 54 3 (fun pre : List Ord => pre.length) (fun pre => occs pre) (fun _ _ => True)) _) (ownFrom_below (Nat.le_refl _) (by simp)))
    (fun _ _ _ _ _ hs _ _ => hs)
    ⟨⟨_, bO, World.ownsRow_nil .., trivial⟩, hB0⟩
    (fun x a' W => ∃ Bx, w.heap.size < Bx ∧ W.heap[Bx]? = some (.cells #[.int .i64 x.iss, .int .i64 x.frm, .int .i64 x.stp] 54 (0, 0)) ∧
      a' = { tmps := #[.slice none 0 0, .func (.func 134) #[] #[.pointer (some ⟨rb, 0, none⟩), .pointer (some ⟨db, 0, none⟩)], .pointer (some ⟨w.heap.size, 0, none⟩), undef, .slice none 0 0, .pointer (some ⟨Bx, 0, none⟩), .func (.func 134) #[] #[.pointer (some ⟨rb, 0, none⟩), .pointer (some ⟨db, 0, none⟩)], .agg #[.int .i64 x.iss, .int .i64 x.frm, .int .i64 x.stp], undef, undef, undef, undef, undef], defers := [] })
    (fun x a' s X Y row hs hg hrow => by
      obtain ⟨Bx, h1, h2, h3⟩ := hs
      refine ⟨Bx, h1, (hg.block Bx (heap_lt h2) (fun e => ?_)).trans h2, h3⟩
      obtain ⟨_, o, ho, hc⟩ := hrow Bx e.symm
      rw [h2] at ho; cases ho; cases hc)
    ?assign ?body ?done ?stop
  case assign =>
    rintro l pre x W K ⟨⟨v, hv, hrow, _⟩, hB⟩ hK
    simp only [orc]
    gi_wp2
    exact hK _ _ ((KeepsOthers.alloc _ _).from _) (KpF.alloc _ _) ⟨⟨v, hv.alloc _, hrow.alloc _, trivial⟩, hB.alloc hB.size _⟩ ⟨W.heap.size, hv.lt, heap_alloc_new W _, rfl⟩
  case body =>
    rintro l pre x a' W hlw ⟨r, hr⟩ ⟨⟨v, hv, hrow, _⟩, hB⟩ ⟨Bx, hBx, bX, rfl⟩ hlt
    have hc := hv.cell
    have x0 : W.cell? ⟨Bx, 0, none⟩ = some (.int .i64 x.iss) := (cell_of_heap bX 0).trans rfl
    have x1 : W.cell? ⟨Bx, 1, none⟩ = some (.int .i64 x.frm) := (cell_of_heap bX 1).trans rfl
    have x2 : W.cell? ⟨Bx, 2, none⟩ = some (.int .i64 x.stp) := (cell_of_heap bX 2).trans rfl
    gi_wp2_with (gi_at_builtin; refine wpListIn_append_own _ rfl _ _ 48 rfl w.heap.size 54 i0 _ 3 24 Try.underlying48 hi hz0 hz1 hz2 rfl (by decide) _ _ _ rfl (hrow.alloc _) ⟨W.heap.size, 0, none⟩ 1 1 [.int .i64 x.iss, .int .i64 x.frm, .int .i64 x.stp] rfl rfl (fun j u hj => by rw [show (⟨W.heap.size, 0, none⟩ : Addr).add j = ⟨W.heap.size, j, none⟩ from by simp [Addr.add]; omega, World.cell?_alloc_new]; simpa using hj) (by simp [Value.oneCell']) (by have : maxLen = 9223372036854775807 := rfl; omega) (by omega) (by have := hB.size; simp; omega) ?_; intro v' w1 hown' hgrow _; obtain ⟨g', cap', rfl⟩ := ownsRow_succ hown'; have hKp := KpF.appended (v' := .slice (some ⟨g', 0, none⟩) (pre.length + 1) cap') hv hrow hgrow; obtain ⟨hv1, hv2, hr2, hk2, hb2⟩ := hv.appended (by decide) hrow hB.size (Nat.le_refl _) hown' hgrow; have hc1 := hv1.cell; have hf1 := hv1.frozen)
    exact ⟨hk2.from _, hKp, ⟨_, hv2, by rw [occs_snoc]; simpa using hr2, trivial⟩, hB.trans hb2⟩
  case done =>
    rintro D ys W hD rfl ⟨⟨v, hv, hrow, _⟩, hB⟩ hK
    have hc := hv.cell
    gi_wp2
    refine ⟨by simp, .inl ⟨_, _, rfl, run_takeDeferred hK, ?_⟩⟩
    exact ⟨_, results_tmp rfl _ _ _, v, rfl, ownsRow_putObj hrow _ hK rfl, hB.trans (belowK_b (w := w) (Nat.le_refl _) W D _ _ (by simp at hD; omega) hK rfl rfl)⟩
  case stop =>
    rintro D c pre W _ _ h _
    exact h.elim

theorem collect_any (rb db pb : Nat) (p : Pol) (A : Option Addr) (c : Nat) (days : List Int) (w : World) (hp : PolAt w pb p) (hh : 1 ≤ p.hold ∧ p.hold ≤ 1000) (hca : 1 ≤ p.calm ∧ p.calm ≤ 1000) (hno : 0 ≤ p.notice ∧ p.notice ≤ 900)
    (hrb : w.heap[rb]? = some (.cells #[.pointer (some ⟨pb, 0, none⟩)] 143 (0, 0))) (hdb : w.heap[db]? = some (.cells #[.slice A days.length c] 27 (0, 0))) (hr : Rd w 1 A days.length (ints days)) (hl : days.length ≤ 100000) :
    Calls Try.prog 87 #[.func (.func 134) #[] #[.pointer (some ⟨rb, 0, none⟩), .pointer (some ⟨db, 0, none⟩)]] w
      fun e w' => ∃ v, e = .returned v ∧ w'.ownsRow w.heap.size 54 3 v (ordersS p days).length (occs (ordersS p days)) ∧ Below w.heap.size w w' := by
  have H := appendSeq_any rb db pb p A c days w hp hh hca hno hrb hdb hr hl
  go_enter Try.func87, Try.ntmps87
  go_wp2_with (go_at_call 133; refine H.mono ?_; rintro e w' ⟨v, rfl, h1, h2⟩)
  go_ret
  exact ⟨v, rfl, h1, h2⟩

theorem orders_any (pv : Value) (A : Option Addr) (n c : Nat) (w : World) :
    Calls Try.prog 88 #[.agg #[pv], .slice A n c] w fun e w' => e = .returned (.func (.func 134) #[] #[.pointer (some ⟨w.heap.size, 0, none⟩), .pointer (some ⟨w.heap.size + 1, 0, none⟩)]) ∧
      w' = (w.alloc (.cells #[pv] 143)).alloc (.cells #[.slice A n c] 27) := by
  go_enter Try.func88, Try.ntmps88
  go_wp2_with fail
  go_ret
  exact ⟨rfl, rfl⟩

/-- what Orders leaves -/
def OrdersPost (w : World) (p : Pol) (days : List Int) (e : Ending) (w' : World) : Prop :=
  ∃ v, e = .returned (.tuple #[v, .int .i64 (startS p days)]) ∧ w'.ownsRow w.heap.size 54 3 v (if startS p days = 0 then ordersS p days else []).length (occs (if startS p days = 0 then ordersS p days else [])) ∧ Below w.heap.size w w'

set_option maxRecDepth 100000 in
set_option maxHeartbeats 1000000 in
theorem Orders_any (As : Option Addr) (cs : Nat) (p : Pol) (A : Option Addr) (c : Nat) (days : List Int) (w : World) (hp : PolV w As cs p) (hr : Rd w 1 A days.length (ints days)) (hm : days.length ≤ 9223372036854775807) :
    Calls Try.prog 22 #[.agg #[.slice As p.steps.length cs, .int .i64 p.hold, .int .i64 p.calm, .int .i64 p.notice, .int .i64 p.grace], .slice A days.length c] w (OrdersPost w p days) := by
  obtain ⟨er, her⟩ : ∃ er, er = startS p days := ⟨_, rfl⟩
  have hst : Calls Try.prog 74 #[.agg #[.slice As p.steps.length cs, .int .i64 p.hold, .int .i64 p.calm, .int .i64 p.notice, .int .i64 p.grace], .slice A days.length c]
      (w.alloc (.cells #[.slice As p.steps.length cs, .int .i64 p.hold, .int .i64 p.calm, .int .i64 p.notice, .int .i64 p.grace] 25))
      fun e w1 => ∃ pp, e = .returned (.tuple #[.agg #[.pointer pp], .int .i64 er]) ∧ Below w.heap.size w w1 ∧ (er = 0 → ∃ pb, pp = some ⟨pb, 0, none⟩ ∧ PolAt w1 pb p) := by
    refine (start_any As cs p A c days _ ⟨hp.1, hp.2.1, hp.2.2.below ((Below.refl _ _).alloc (Nat.le_refl _) _)⟩ (hr.below ((Below.refl _ _).alloc (Nat.le_refl _) _)) hm).mono ?_
    rintro e w1 ⟨pp, rfl, hB, h0, _⟩
    exact ⟨pp, by rw [her], ((Below.refl _ _).alloc (Nat.le_refl _) _).trans (hB.mono (by simp)), fun h => h0 (her.symm.trans h)⟩
  have HP := Lib.hid (And.intro her (And.intro hr hst))
  clear her hst
  by_cases h0 : er = 0
  · subst h0
    have hs0 : startS p days = 0 := HP.out.1.symm
    obtain ⟨hck, hl4, _⟩ := start_ok hs0
    have HC := Lib.hid (check_ok hck)
    have hne : ((0 : Int) != 0) = false := rfl
    have HK := Lib.hid hs0
    clear hs0 hck hr
    go_enter Try.func22, Try.ntmps22
    go_wp2_with fail
    refine HP.out.2.2.mono ?_
    rintro e w1 ⟨pp, rfl, hB, h0⟩
    obtain ⟨pb, rfl, hpol⟩ := h0 trivial
    obtain ⟨W, hW⟩ : ∃ W, W = w1.alloc (.cells #[.pointer (some ⟨pb, 0, none⟩)] 143) := ⟨_, rfl⟩
    have bW : Below w.heap.size w W := by rw [hW]; exact hB.alloc hB.size _
    have pW : PolAt W pb p := by rw [hW]; exact hpol.below ((Below.refl _ _).alloc (Nat.le_refl _) _)
    have f8 : W.cell? ⟨w1.heap.size, 0, none⟩ = some (.pointer (some ⟨pb, 0, none⟩)) := by rw [hW]; exact cell_new_one _ _ _
    have HB := Lib.hid (And.intro bW (And.intro pW (HP.out.2.1.below bW)))
    clear hB hpol h0
    go_upto_region 4 with fail
    rw [← hW]
    generalize hs1 : w1.heap.size = s1 at f8 ⊢
    clear bW pW hW hs1
    have bO : ∀ o o', Below W.heap.size W ((W.alloc o).alloc o') := fun o o' => ((Below.refl _ _).alloc (Nat.le_refl _) _).alloc (by simp) _
    have hco : Calls Try.prog 87 #[.func (.func 134) #[] #[.pointer (some ⟨W.heap.size, 0, none⟩), .pointer (some ⟨W.heap.size + 1, 0, none⟩)]] ((W.alloc (.cells #[.pointer (some ⟨pb, 0, none⟩)] 143)).alloc (.cells #[.slice A days.length c] 27))
        fun e w' => ∃ v, e = .returned v ∧ w'.ownsRow w.heap.size 54 3 v (ordersS p days).length (occs (ordersS p days)) ∧ Below w.heap.size w w' := by
      have hdb := heap_alloc_new (W.alloc (.cells #[.pointer (some ⟨pb, 0, none⟩)] 143)) (.cells #[.slice A days.length c] 27)
      rw [World.size_alloc] at hdb
      refine (collect_any W.heap.size (W.heap.size + 1) pb p A c days _ (HB.out.2.1.below (bO _ _)) ⟨HC.out.2.2.1, by have := HC.out.2.2.2.1; omega⟩ ⟨HC.out.2.2.2.2.1, by have := HC.out.2.2.2.2.2.1; omega⟩ ⟨HC.out.2.2.2.2.2.2.1, by have := HC.out.2.2.2.2.2.2.2.1; omega⟩
        (heap_alloc' (heap_alloc_new W _) _) hdb (HB.out.2.2.below (bO _ _)) (by omega)).mono ?_
      rintro e w' ⟨v, rfl, h1, h2⟩
      have hz := HB.out.1.size
      exact ⟨v, rfl, ownsRow_base_a' h1 (by simp; omega), HB.out.1.trans (((bO _ _).mono hz).trans (h2.mono (by simp; omega)))⟩
    have HQ := Lib.hid hco
    clear hco bO
    go_wp2_with (first | (go_at_call 88; refine (orders_any _ _ _ _ _).mono ?_; rintro e w2 ⟨rfl, rfl⟩) | (go_at_call 87; refine HQ.out.mono ?_; rintro e w3 ⟨v, rfl, h1, h2⟩))
    go_ret2
    exact ⟨v, by rw [HK.out]; rfl, by rw [if_pos HK.out]; exact h1, h2⟩
  · have hne : (er != 0) = true := by simp [h0]
    have hs0 : startS p days ≠ 0 := fun h => h0 (HP.out.1.trans h)
    have HK := Lib.hid hs0
    clear hs0 h0 hr
    go_enter Try.func22, Try.ntmps22
    go_wp2_with fail
    refine HP.out.2.2.mono ?_
    rintro e w1 ⟨pp, rfl, hB, _⟩
    have HB := Lib.hid hB
    clear hB
    go_wp2_with fail
    go_ret2
    refine ⟨.slice none 0 0, ?_, ?_, HB.out.alloc HB.out.size _⟩
    · rw [← HP.out.1]; rfl
    · rw [if_neg HK.out]; exact World.ownsRow_nil ..
end Go.Proofs.Ytfmhlnfcbbpfeaa
