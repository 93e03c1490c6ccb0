/- rules.orders: the iterator -/
import Derived.Test.YtalcinepeofmcaaDoorRSp17
import Derived.RangeFuncNested
import Derived.RangeFuncBound
import Derived.RangeFuncCalls
import Derived.RangeFuncLeaves
import Derived.Shelf.Abstract
import Derived.Shelf.RegionOpen
import Derived.OwnWalkIn
import Derived.TacticsInMore
import Derived.LoopNIn
import Derived.LoopIn
import Derived.Sort.CutIn
import Derived.Maps.AppendAt
import Derived.Laws.StructEq
set_option linter.unusedVariables false
set_option linter.unusedSimpArgs false
namespace Go.Proofs.YtalcinepeofmcaaDoor
open Go Go.RowKit Go.Shelf Go.Proofs Sp
attribute [local go_sem] Oper.semAt_some

structure Ord where
  iss : Int
  frm : Int
  stp : Int
deriving DecidableEq, Inhabited

def befN (f : List Int) : Nat → Int
  | 0 => 0
  | k + 1 => f.getD k 0
/-- the orders of the first k days -/
def ordN (f : List Int) (no : Int) : Nat → List Ord
  | 0 => []
  | k + 1 => if f.getD k 0 = befN f k then ordN f no k else ordN f no k ++ [⟨if befN f k < f.getD k 0 then (k : Int) - no else k, k, f.getD k 0⟩]
def ordersS (p : Pol) (days : List Int) : List Ord := ordN (forceS p days) p.notice days.length
theorem ordN_prefix (f : List Int) (no : Int) {j k : Nat} (h : j ≤ k) : ordN f no j <+: ordN f no k := by
  induction k with
  | zero => obtain rfl : j = 0 := by omega
            exact List.prefix_refl _
  | succ k ih =>
    by_cases e : j = k + 1
    · subst e; exact List.prefix_refl _
    · refine (ih (by omega)).trans ?_
      rw [ordN]; split
      · exact List.prefix_refl _
      · exact List.prefix_append _ _
theorem ordN_length (f : List Int) (no : Int) (k : Nat) : (ordN f no k).length ≤ k := by
  induction k with
  | zero => exact Nat.le_refl _
  | succ k ih =>
    rw [ordN]; split
    · omega
    · rw [List.length_append]; simp; omega

def orc (x : Ord) : Value := .agg #[.int .i64 x.iss, .int .i64 x.frm, .int .i64 x.stp]

/-- what a round keeps: whatever cells are not free -/
structure KpF (free : Nat → Obj → Prop) (W W' : World) : Prop where
  size : W.heap.size ≤ W'.heap.size
  same : ∀ (k : Nat) (o : Obj), W.heap[k]? = some o → o.isCells = true → ¬ free k o → W'.heap[k]? = some o
theorem KpF.trans {free : Nat → Obj → Prop} {A B C : World} (h : KpF free A B) (h' : KpF free B C) : KpF free A C :=
  ⟨Nat.le_trans h.size h'.size, fun k o hk hc hf => h'.same k o (h.same k o hk hc hf) hc hf⟩

theorem grown_of_below {w w' : World} (h : Below w.heap.size w w') : w.grownBy w' none := ⟨h.os, h.tape, h.output, h.size, fun k hk _ => h.block k hk⟩

/-- what the iterator reads between two rounds stays -/
structure ItKeep (W w1 wr : World) (rb pb : Nat) : Prop where
  size : w1.heap.size ≤ wr.heap.size
  ints : ∀ g cur, W.heap.size ≤ g → w1.heap[g]? = some (.cells cur 3 (0, 0)) → wr.heap[g]? = some (.cells cur 3 (0, 0))
  rules : ∀ cs, w1.heap[rb]? = some (.cells cs 101 (0, 0)) → wr.heap[rb]? = some (.cells cs 101 (0, 0))
  pol : ∀ cs, w1.heap[pb]? = some (.cells cs 51 (0, 0)) → wr.heap[pb]? = some (.cells cs 51 (0, 0))
theorem ItKeep.refl (W w1 : World) (rb pb : Nat) : ItKeep W w1 w1 rb pb := ⟨Nat.le_refl _, fun _ _ _ h => h, fun _ h => h, fun _ h => h⟩
theorem ItKeep.below {W w1 a b : World} {rb pb : Nat} (h : ItKeep W w1 a rb pb) (hb : Below a.heap.size a b) : ItKeep W w1 b rb pb :=
  ⟨Nat.le_trans h.size hb.size, fun g cur hg h1 => (hb.block g (heap_lt (h.ints g cur hg h1))).trans (h.ints g cur hg h1),
    fun cs h1 => (hb.block rb (heap_lt (h.rules cs h1))).trans (h.rules cs h1), fun cs h1 => (hb.block pb (heap_lt (h.pol cs h1))).trans (h.pol cs h1)⟩
theorem ItKeep.kp {free : Nat → Obj → Prop} {W w1 a b : World} {rb pb : Nat} (h : ItKeep W w1 a rb pb) (hk : KpF free a b)
    (hf1 : ∀ k cs, W.heap.size ≤ k → ¬ free k (.cells cs 3 (0, 0))) (hf2 : ∀ cs, ¬ free rb (.cells cs 101 (0, 0))) (hf3 : ∀ cs, ¬ free pb (.cells cs 51 (0, 0))) : ItKeep W w1 b rb pb :=
  ⟨Nat.le_trans h.size hk.size, fun g cur hg h1 => hk.same g _ (h.ints g cur hg h1) rfl (hf1 _ _ hg), fun cs h1 => hk.same rb _ (h.rules cs h1) rfl (hf2 _), fun cs h1 => hk.same pb _ (h.pol cs h1) rfl (hf3 _)⟩

set_option maxRecDepth 100000 in
set_option maxHeartbeats 4000000 in
theorem orders1_stops (free : Nat → Obj → Prop) (rb db pb : Nat) (p : Pol) (A : Option Addr) (c : Nat) (days : List Int) (w : World) (hp : PolAt w pb p) (hh : 1 ≤ p.hold ∧ p.hold ≤ 1000) (hca : 1 ≤ p.calm ∧ p.calm ≤ 1000) (hno : 0 ≤ p.notice ∧ p.notice ≤ 900)
    (hrb : w.heap[rb]? = some (.cells #[.pointer (some ⟨pb, 0, none⟩)] 101 (0, 0))) (hdb : w.heap[db]? = some (.cells #[.slice A days.length c] 40 (0, 0))) (hr : Rd w 1 A days.length (ints days)) (hl : days.length ≤ 100000)
    (hf1 : ∀ k cs, w.heap.size ≤ k → ¬ free k (.cells cs 3 (0, 0))) (hf2 : ∀ cs, ¬ free rb (.cells cs 101 (0, 0))) (hf3 : ∀ cs, ¬ free pb (.cells cs 51 (0, 0))) (n : Nat) (hn : 1 ≤ n) :
    SeqStopsK Fence.wide n Tryd.prog 84 #[.pointer (some ⟨rb, 0, none⟩), .pointer (some ⟨db, 0, none⟩)] (fun x : Ord => #[orc x]) (KpF free) (fun xs => xs = ordersS p days) (fun pre => pre <+: ordersS p days) days.length w := by
  intro l J Jx W hW hJ hJx hY h0
  have hp := hp.below hW
  have zrb := heap_lt hrb
  have zdb := heap_lt hdb
  have hrb := (hW.block rb zrb).trans hrb
  have hdb := (hW.block db zdb).trans hdb
  have hr := hr.below hW
  have c1 : W.cell? ⟨rb, 0, none⟩ = some (.pointer (some ⟨pb, 0, none⟩)) := (cell_of_heap hrb 0).trans rfl
  have c2 : W.cell? ⟨db, 0, none⟩ = some (.slice A days.length c) := (cell_of_heap hdb 0).trans rfl
  have HP := Lib.hid (And.intro hp (And.intro hrb (And.intro hr (And.intro hJ (And.intro hJx (And.intro hY (And.intro h0 hW)))))))
  clear hp hrb hdb hr hJ hJx hY h0
  refine callsIn_of_wp Tryd.func84 rfl trivial ?_ rfl
  simp only [Tryd.ntmps84, List.size_toArray, List.length_cons, List.length_nil, Nat.reduceAdd, Nat.reduceSub, Array.replicate_succ, Array.replicate_zero, List.push_toArray, List.append_toArray, List.nil_append, List.cons_append]
  gi_wp2_with (refine ⟨trivial, ?_⟩; gi_at_call 58; refine (callsIn_wide.2 (force_new pb p A c days W HP.out.1 hh hca hno HP.out.2.2.1 hl)).mono ?_; rintro e w1 ⟨A1, c1', rfl, i1, b1, n1⟩; have H1 := Lib.hid (And.intro i1 (And.intro b1 n1)); clear i1 b1 n1)
  obtain ⟨F, hF⟩ : ∃ F, F = forceS p days := ⟨_, rfl⟩
  obtain ⟨no, hno'⟩ : ∃ no, no = p.notice := ⟨_, rfl⟩
  have hO : ordersS p days = ordN F no days.length := by rw [hF, hno']; rfl
  have hFl : F.length = days.length := by rw [hF, forceS_length]
  have hJw : J [] w1 := HP.out.2.2.2.1 [] W w1 none HP.out.2.2.2.2.2.2.1 (grown_of_below H1.out.2.1) (fun r e => by cases e)
  have hg1 : w1.heap[rb]? = some (.cells #[.pointer (some ⟨pb, 0, none⟩)] 101 (0, 0)) := (H1.out.2.1.block rb (heap_lt HP.out.2.1)).trans HP.out.2.1
  have hp1 : PolAt w1 pb p := HP.out.1.below H1.out.2.1
  have hnb : 0 ≤ no ∧ no ≤ 900 := by rw [hno']; exact hno
  have HF := Lib.hid (And.intro hF (And.intro hno' (And.intro hO (And.intro hg1 hp1))))
  clear hF hno' hO hg1 hp1 hno hh hca
  gi_loopw [4, 12] (fun bf i wr => ∃ k : Nat, k ≤ days.length ∧ i = .int .i64 k ∧ bf = .int .i64 (befN F k) ∧ J (ordN F no k) wr ∧ ItKeep W w1 wr rb pb)
    (fun _ i _ => days.length - (intOf i).toNat)
  case atStart => exact ⟨0, Nat.zero_le _, rfl, rfl, hJw, ItKeep.refl _ _ _ _⟩
  case round =>
    obtain ⟨k, hk, rfl, rfl, hJk, hI⟩ := hrel
    by_cases hlt : k < days.length
    · obtain ⟨g, off, cur, rfl, hgW, hgc⟩ := H1.out.2.2 (by omega)
      obtain ⟨x, hx⟩ : ∃ x, x = F.getD k 0 := ⟨_, rfl⟩
      obtain ⟨bf, hbf⟩ : ∃ bf, bf = befN F k := ⟨_, rfl⟩
      have c3 : wr.cell? ⟨g, off + k, none⟩ = some (.int .i64 x) := by
        obtain ⟨b', o', e1, _, hcc⟩ := H1.out.1.1.2 (by rw [← HF.out.1]; omega)
        injection e1 with e1
        injection e1 with e1 e2 _
        subst e1 e2
        have h5 := hcc k _ (ints_get (by rw [← HF.out.1]; omega))
        rw [← HF.out.1, ← hx, cell_of_heap hgc] at h5
        rw [cell_of_heap (hI.ints g cur hgW hgc), h5]
      have c4 : wr.cell? ⟨rb, 0, none⟩ = some (.pointer (some ⟨pb, 0, none⟩)) := (cell_of_heap (hI.rules _ HF.out.2.2.2.1) 0).trans rfl
      have z4 : rb < wr.heap.size := heap_lt (hI.rules _ HF.out.2.2.2.1)
      have c5 : wr.cell? ⟨pb, 3, none⟩ = some (.int .i64 no) := by
        obtain ⟨Ap, cp, hh, _⟩ := HF.out.2.2.2.2
        rw [cell_of_heap (hI.pol _ hh), HF.out.2.1]; rfl
      have z5 : pb < wr.heap.size := by
        obtain ⟨Ap, cp, hh, _⟩ := HF.out.2.2.2.2
        exact heap_lt (hI.pol _ hh)
      rw [← hbf]
      have hord : ordN F no (k + 1) = if x = bf then ordN F no k else ordN F no k ++ [⟨if bf < x then (k : Int) - no else k, k, x⟩] := by rw [hx, hbf]; rfl
      have hbk : befN F (k + 1) = x := hx.symm
      have HX := Lib.hid (And.intro hJk (And.intro hI (And.intro hord (And.intro hbk (And.intro hgW hgc)))))
      have hol := ordN_length F no k
      clear hJk hI hord hbk hx hbf hgW hgc
      by_cases hxb : x = bf
      · subst hxb
        have hd1 : (x != x) = false := by simp
        gi_wp2
        refine ⟨fun _ h => (by cases h), ?_⟩
        gi_wp2
        go_roundw
        case rel => exact ⟨k + 1, by omega, by go_num, by rw [HX.out.2.2.2.1], by rw [HX.out.2.2.1]; simp only [if_true]; exact HP.out.2.2.2.1 _ wr _ none HX.out.1 (grown_of_below ((Below.refl _ _).alloc (Nat.le_refl _) _)) (fun r e => by cases e), HX.out.2.1.below ((Below.refl _ _).alloc (Nat.le_refl _) _)⟩
        case measure => simp [intOf]; omega
      · have hd1 : (x != bf) = true := by simp [hxb]
        by_cases hgt : bf < x
        · have hd2 : decide (bf < x) = true := by simp [hgt]
          have hord' : ordN F no (k + 1) = ordN F no k ++ [⟨(k : Int) - no, k, x⟩] := by rw [HX.out.2.2.1, if_neg hxb, if_pos hgt]
          gi_upto_region 6 with fail
          gi_region
          have bX := Lib.hid ((Below.refl wr.heap.size wr).alloc (Nat.le_refl _) (.cells #[.int .i64 ((k : Int) - no), .int .i64 k, .int .i64 x] 97)).drew
          obtain ⟨fn, tmps, assign, body, hy, hR⟩ := HP.out.2.2.2.2.2.1 (ordN F no k) ⟨(k : Int) - no, k, x⟩ (wr.alloc (.cells #[.int .i64 ((k : Int) - no), .int .i64 k, .int .i64 x] 97)).drew (HP.out.2.2.2.1 _ wr _ none HX.out.1 (grown_of_below bX.out) (fun r e => by cases e)) (by omega)
          dsimp only [orc] at hy
          gi_wp2
          refine hR.mono ?_
          rintro e W3 (⟨rfl, hJ3, hk3⟩ | ⟨rfl, hJx3⟩)
          · have HY := Lib.hid (And.intro hJ3 hk3)
            clear hJ3 hk3
            gi_wp2
            go_roundw
            case rel => exact ⟨k + 1, by omega, by go_num, by rw [HX.out.2.2.2.1], by rw [hord']; exact HY.out.1, (HX.out.2.1.below bX.out).kp HY.out.2 (fun k cs hk => hf1 k cs (by have := HP.out.2.2.2.2.2.2.2.size; omega)) hf2 hf3⟩
            case measure => simp [intOf]; omega
          · gi_wp2
            refine bodyPost_ret (results_none rfl _ _ _) rfl ?_
            refine ⟨⟨_, rfl⟩, .inr ⟨_, ?_, hJx3⟩⟩
            rw [← hord', HF.out.2.2.1]; exact ordN_prefix _ _ (by omega)
        · have hd2 : decide (bf < x) = false := by simp [hgt]
          have hord' : ordN F no (k + 1) = ordN F no k ++ [⟨(k : Int), k, x⟩] := by rw [HX.out.2.2.1, if_neg hxb, if_neg hgt]
          have bX := Lib.hid ((Below.refl wr.heap.size wr).alloc (Nat.le_refl _) (.cells #[.int .i64 k, .int .i64 k, .int .i64 x] 97))
          obtain ⟨fn, tmps, assign, body, hy, hR⟩ := HP.out.2.2.2.2.2.1 (ordN F no k) ⟨(k : Int), k, x⟩ (wr.alloc (.cells #[.int .i64 k, .int .i64 k, .int .i64 x] 97)) (HP.out.2.2.2.1 _ wr _ none HX.out.1 (grown_of_below bX.out) (fun r e => by cases e)) (by omega)
          dsimp only [orc] at hy
          gi_wp2
          refine hR.mono ?_
          rintro e W3 (⟨rfl, hJ3, hk3⟩ | ⟨rfl, hJx3⟩)
          · have HY := Lib.hid (And.intro hJ3 hk3)
            clear hJ3 hk3
            gi_wp2
            go_roundw
            case rel => exact ⟨k + 1, by omega, by go_num, by rw [HX.out.2.2.2.1], by rw [hord']; exact HY.out.1, (HX.out.2.1.below bX.out).kp HY.out.2 (fun k cs hk => hf1 k cs (by have := HP.out.2.2.2.2.2.2.2.size; omega)) hf2 hf3⟩
            case measure => simp [intOf]; omega
          · gi_wp2
            refine bodyPost_ret (results_none rfl _ _ _) rfl ?_
            refine ⟨⟨_, rfl⟩, .inr ⟨_, ?_, hJx3⟩⟩
            rw [← hord', HF.out.2.2.1]; exact ordN_prefix _ _ (by omega)
    · obtain rfl : k = days.length := by omega
      gi_wp2
      go_end0
      exact ⟨⟨_, rfl⟩, .inl ⟨_, HF.out.2.2.1.symm, hJk⟩⟩
end Go.Proofs.YtalcinepeofmcaaDoor
/- slices.AppendSeq, slices.Collect over rules.orders; restrict.Orders -/
namespace Go.Proofs.YtalcinepeofmcaaDoor
open Go Go.RowKit Go.Shelf Go.Proofs Sp
attribute [local go_sem] Oper.semAt_some

def occ (x : Ord) : List Value := [.int .i64 x.iss, .int .i64 x.frm, .int .i64 x.stp]
def occs (l : List Ord) : List Value := l.flatMap occ
theorem occs_snoc (l : List Ord) (x : Ord) : occs (l ++ [x]) = occs l ++ [.int .i64 x.iss, .int .i64 x.frm, .int .i64 x.stp] := by simp [occs, occ]

theorem info_ord : (Tryd.prog.info? 97).map (fun i => (i.zero, i.size, i.bytes)) = some (some (.agg #[.int .i64 0, .int .i64 0, .int .i64 0]), 3, 24) := by kernel_rfl

/-- what AppendSeq's rounds write -/
def freeT (_ : Nat) (o : Obj) : Prop := ∃ cs t fr, o = .cells cs t fr ∧ (t = 84 ∨ t = 97)
theorem KpF.alloc {free : Nat → Obj → Prop} (W : World) (o : Obj) : KpF free W (W.alloc o) := ⟨by simp, fun _ _ hk _ _ => heap_alloc' hk _⟩
theorem KpF.putObj {free : Nat → Obj → Prop} {W : World} {l : Nat} {o : Obj} (hl : W.heap[l]? = some o) (ho : o.isCells = false) (o' : Obj) : KpF free W (W.putObj l o') :=
  ⟨by simp, fun k ob hk hc _ => (World.putObj_heap_other (fun e => by subst e; rw [hl] at hk; cases hk; rw [ho] at hc; cases hc)).trans hk⟩

theorem KpF.appended {W w1 : World} {n₀ B : Nat} {v v' : Value} {k size : Nat} {xs : List Value} {tmp : Obj} (hv : Boxed W B 84 v) (hrow : W.ownsRow n₀ 97 size v k xs) (hgrow : (W.alloc tmp).grownBy w1 v.ownBlock) : KpF freeT W (w1.setCell ⟨B, 0, none⟩ v') := by
  have hs1 : W.heap.size ≤ w1.heap.size := by have := hgrow.size; simp at this; omega
  refine ⟨by have := (KeepsWalks.setCell w1 ⟨B, 0, none⟩ v').size; omega, fun j o hj hc hf => ?_⟩
  have hjB : j ≠ B := by
    rintro rfl
    rw [show W.heap[j]? = _ from hv] at hj
    cases hj
    exact hf ⟨_, _, _, rfl, .inl rfl⟩
  have hjl := heap_lt hj
  have hjo : some j ≠ v.ownBlock := by
    rcases hrow.2 with ⟨rfl, _⟩ | ⟨g, cap, cur, rfl, _, hgb, _⟩
    · simp [Value.ownBlock]
    · intro e
      obtain rfl : j = g := by simpa [Value.ownBlock] using e
      rw [hgb] at hj
      cases hj
      exact hf ⟨_, _, _, rfl, .inr rfl⟩
  exact (Below.heap_setCell _ _ _ j hjB).trans ((hgrow.block j (by simp; omega) hjo).trans (heap_alloc' hj _))

theorem ownsRow_base_a' {W : World} {base base' : Nat} {e : TypeId} {size : Nat} {v : Value} {k : Nat} {xs : List Value} (h : W.ownsRow base e size v k xs) (hb : base' ≤ base) : W.ownsRow base' e size v k xs := by
  refine ⟨h.1, ?_⟩
  rcases h.2 with hn | ⟨g, cap, cur, hv, hbg, rest⟩
  · exact .inl hn
  · exact .inr ⟨g, cap, cur, hv, Nat.le_trans hb hbg, rest⟩

set_option maxRecDepth 100000 in
set_option maxHeartbeats 4000000 in
theorem appendSeq_any (rb db pb : Nat) (p : Pol) (A : Option Addr) (c : Nat) (days : List Int) (w : World) (hp : PolAt w pb p) (hh : 1 ≤ p.hold ∧ p.hold ≤ 1000) (hca : 1 ≤ p.calm ∧ p.calm ≤ 1000) (hno : 0 ≤ p.notice ∧ p.notice ≤ 900)
    (hrb : w.heap[rb]? = some (.cells #[.pointer (some ⟨pb, 0, none⟩)] 101 (0, 0))) (hdb : w.heap[db]? = some (.cells #[.slice A days.length c] 40 (0, 0))) (hr : Rd w 1 A days.length (ints days)) (hl : days.length ≤ 100000) :
    Calls Tryd.prog 83 #[.slice none 0 0, .func (.func 84) #[] #[.pointer (some ⟨rb, 0, none⟩), .pointer (some ⟨db, 0, none⟩)]] w
      fun e w' => ∃ v, e = .returned v ∧ w'.ownsRow w.heap.size 97 3 v (ordersS p days).length (occs (ordersS p days)) ∧ Below w.heap.size w w' := by
  obtain ⟨i0, hi, hz0, hz1, hz2⟩ := info_parts info_ord
  refine (callsIn_wide (n := 9)).1 ?_
  refine callsIn_of_wp_marks Tryd.func83 rfl trivial ?_ rfl
  simp only [Tryd.ntmps83, List.size_toArray, List.length_cons, List.length_nil, Nat.reduceAdd, Nat.reduceSub, Array.replicate_succ, Array.replicate_zero, List.push_toArray, List.append_toArray, List.nil_append, List.cons_append]
  gi_wp2
  have bO := Boxed.new w 84 (.slice none 0 0)
  have hB0 : Below w.heap.size w (w.alloc (.cells #[.slice none 0 0] 84)) := (Below.refl _ w).alloc (Nat.le_refl _) _
  refine wpIn_rangeFunc_ownH rfl (by omega) (gf := 84) (lb := #[.pointer (some ⟨rb, 0, none⟩), .pointer (some ⟨db, 0, none⟩)]) rfl trivial (enters_of Tryd.func84 (by kernel_rfl) rfl)
    (orders1_stops freeT rb db pb p A c days (w.alloc (.cells #[.slice none 0 0] 84)) (hp.below hB0) hh hca hno (heap_alloc' hrb _) (heap_alloc' hdb _) (hr.below hB0) hl
      (by rintro k cs _ ⟨_, _, _, e, h⟩; cases e; simp at h) (by rintro cs ⟨_, _, _, e, h⟩; cases e; simp at h) (by rintro cs ⟨_, _, _, e, h⟩; cases e; simp at h) _ (by omega))
    (fun h h' => h.trans h') (fun W l o o' _ hl ho _ => KpF.putObj hl ho o') (Below.refl _ _) (fun _ => rfl)
    (fun pre W => (∃ v, Boxed W w.heap.size 84 v ∧ W.ownsRow w.heap.size 97 3 v pre.length (occs pre) ∧ True) ∧ Below w.heap.size w W)
    (fun _ _ _ => False)
    (OwnFrom.and (Own.from (holdsRow_own w.heap.size w.heap.size 84 97 3 (fun pre : List Ord => pre.length) (fun pre => occs pre) (fun _ _ => True)) _) (ownFrom_below (Nat.le_refl _) (by simp)))
    (fun _ _ _ _ _ hs _ _ => hs)
    ⟨⟨_, bO, World.ownsRow_nil .., trivial⟩, hB0⟩
    (fun x a' W => ∃ Bx, w.heap.size < Bx ∧ W.heap[Bx]? = some (.cells #[.int .i64 x.iss, .int .i64 x.frm, .int .i64 x.stp] 97 (0, 0)) ∧
      a' = { tmps := #[.slice none 0 0, .func (.func 84) #[] #[.pointer (some ⟨rb, 0, none⟩), .pointer (some ⟨db, 0, none⟩)], .pointer (some ⟨w.heap.size, 0, none⟩), undef, .slice none 0 0, .pointer (some ⟨Bx, 0, none⟩), .func (.func 84) #[] #[.pointer (some ⟨rb, 0, none⟩), .pointer (some ⟨db, 0, none⟩)], .agg #[.int .i64 x.iss, .int .i64 x.frm, .int .i64 x.stp], undef, undef, undef, undef, undef], defers := [] })
    (fun x a' s X Y row hs hg hrow => by
      obtain ⟨Bx, h1, h2, h3⟩ := hs
      refine ⟨Bx, h1, (hg.block Bx (heap_lt h2) (fun e => ?_)).trans h2, h3⟩
      obtain ⟨_, o, ho, hc⟩ := hrow Bx e.symm
      rw [h2] at ho; cases ho; cases hc)
    ?assign ?body ?done ?stop
  case assign =>
    rintro l pre x W K ⟨⟨v, hv, hrow, _⟩, hB⟩ hK
    simp only [orc]
    gi_wp2
    exact hK _ _ ((KeepsOthers.alloc _ _).from _) (KpF.alloc _ _) ⟨⟨v, hv.alloc _, hrow.alloc _, trivial⟩, hB.alloc hB.size _⟩ ⟨W.heap.size, hv.lt, heap_alloc_new W _, rfl⟩
  case body =>
    rintro l pre x a' W hlw ⟨r, hr⟩ ⟨⟨v, hv, hrow, _⟩, hB⟩ ⟨Bx, hBx, bX, rfl⟩ hlt
    have hc := hv.cell
    have x0 : W.cell? ⟨Bx, 0, none⟩ = some (.int .i64 x.iss) := (cell_of_heap bX 0).trans rfl
    have x1 : W.cell? ⟨Bx, 1, none⟩ = some (.int .i64 x.frm) := (cell_of_heap bX 1).trans rfl
    have x2 : W.cell? ⟨Bx, 2, none⟩ = some (.int .i64 x.stp) := (cell_of_heap bX 2).trans rfl
    gi_wp2_with (gi_at_builtin; refine wpListIn_append_own _ rfl _ _ 84 rfl w.heap.size 97 i0 _ 3 24 Tryd.underlying84 hi hz0 hz1 hz2 rfl (by decide) _ _ _ rfl (hrow.alloc _) ⟨W.heap.size, 0, none⟩ 1 1 [.int .i64 x.iss, .int .i64 x.frm, .int .i64 x.stp] rfl rfl (fun j u hj => by rw [show (⟨W.heap.size, 0, none⟩ : Addr).add j = ⟨W.heap.size, j, none⟩ from by simp [Addr.add]; omega, World.cell?_alloc_new]; simpa using hj) (by simp [Value.oneCell']) (by have : maxLen = 9223372036854775807 := rfl; omega) (by omega) (by have := hB.size; simp; omega) ?_; intro v' w1 hown' hgrow _; obtain ⟨g', cap', rfl⟩ := ownsRow_succ hown'; have hKp := KpF.appended (v' := .slice (some ⟨g', 0, none⟩) (pre.length + 1) cap') hv hrow hgrow; obtain ⟨hv1, hv2, hr2, hk2, hb2⟩ := hv.appended (by decide) hrow hB.size (Nat.le_refl _) hown' hgrow; have hc1 := hv1.cell; have hf1 := hv1.frozen)
    exact ⟨hk2.from _, hKp, ⟨_, hv2, by rw [occs_snoc]; simpa using hr2, trivial⟩, hB.trans hb2⟩
  case done =>
    rintro D ys W hD rfl ⟨⟨v, hv, hrow, _⟩, hB⟩ hK
    have hc := hv.cell
    gi_wp2
    refine ⟨by simp, .inl ⟨_, _, rfl, run_takeDeferred hK, ?_⟩⟩
    exact ⟨_, results_tmp rfl _ _ _, v, rfl, ownsRow_putObj hrow _ hK rfl, hB.trans (belowK_b (w := w) (Nat.le_refl _) W D _ _ (by simp at hD; omega) hK rfl rfl)⟩
  case stop =>
    rintro D c pre W _ _ h _
    exact h.elim

theorem collect_any (rb db pb : Nat) (p : Pol) (A : Option Addr) (c : Nat) (days : List Int) (w : World) (hp : PolAt w pb p) (hh : 1 ≤ p.hold ∧ p.hold ≤ 1000) (hca : 1 ≤ p.calm ∧ p.calm ≤ 1000) (hno : 0 ≤ p.notice ∧ p.notice ≤ 900)
    (hrb : w.heap[rb]? = some (.cells #[.pointer (some ⟨pb, 0, none⟩)] 101 (0, 0))) (hdb : w.heap[db]? = some (.cells #[.slice A days.length c] 40 (0, 0))) (hr : Rd w 1 A days.length (ints days)) (hl : days.length ≤ 100000) :
    Calls Tryd.prog 59 #[.func (.func 84) #[] #[.pointer (some ⟨rb, 0, none⟩), .pointer (some ⟨db, 0, none⟩)]] w
      fun e w' => ∃ v, e = .returned v ∧ w'.ownsRow w.heap.size 97 3 v (ordersS p days).length (occs (ordersS p days)) ∧ Below w.heap.size w w' := by
  have H := appendSeq_any rb db pb p A c days w hp hh hca hno hrb hdb hr hl
  go_enter Tryd.func59, Tryd.ntmps59
  go_wp2_with (go_at_call 83; refine H.mono ?_; rintro e w' ⟨v, rfl, h1, h2⟩)
  go_ret
  exact ⟨v, rfl, h1, h2⟩

theorem orders_any (pv : Value) (A : Option Addr) (n c : Nat) (w : World) :
    Calls Tryd.prog 60 #[.agg #[pv], .slice A n c] w fun e w' => e = .returned (.func (.func 84) #[] #[.pointer (some ⟨w.heap.size, 0, none⟩), .pointer (some ⟨w.heap.size + 1, 0, none⟩)]) ∧
      w' = (w.alloc (.cells #[pv] 101)).alloc (.cells #[.slice A n c] 40) := by
  go_enter Tryd.func60, Tryd.ntmps60
  go_wp2_with fail
  go_ret
  exact ⟨rfl, rfl⟩

/-- what Orders leaves -/
def OrdersPost (w : World) (p : Pol) (days : List Int) (e : Ending) (w' : World) : Prop :=
  ∃ v, e = .returned (.tuple #[v, .int .i64 (startS p days)]) ∧ w'.ownsRow w.heap.size 97 3 v (if startS p days = 0 then ordersS p days else []).length (occs (if startS p days = 0 then ordersS p days else [])) ∧ Below w.heap.size w w'

set_option maxRecDepth 100000 in
set_option maxHeartbeats 1000000 in
theorem Orders_any (As : Option Addr) (cs : Nat) (p : Pol) (A : Option Addr) (c : Nat) (days : List Int) (w : World) (hp : PolV w As cs p) (hr : Rd w 1 A days.length (ints days)) (hm : days.length ≤ 9223372036854775807) :
    Calls Tryd.prog 32 #[.agg #[.slice As p.steps.length cs, .int .i64 p.hold, .int .i64 p.calm, .int .i64 p.notice, .int .i64 p.grace], .slice A days.length c] w (OrdersPost w p days) := by
  obtain ⟨er, her⟩ : ∃ er, er = startS p days := ⟨_, rfl⟩
  have hst : Calls Tryd.prog 56 #[.agg #[.slice As p.steps.length cs, .int .i64 p.hold, .int .i64 p.calm, .int .i64 p.notice, .int .i64 p.grace], .slice A days.length c]
      (w.alloc (.cells #[.slice As p.steps.length cs, .int .i64 p.hold, .int .i64 p.calm, .int .i64 p.notice, .int .i64 p.grace] 51))
      fun e w1 => ∃ pp, e = .returned (.tuple #[.agg #[.pointer pp], .int .i64 er]) ∧ Below w.heap.size w w1 ∧ (er = 0 → ∃ pb, pp = some ⟨pb, 0, none⟩ ∧ PolAt w1 pb p) := by
    refine (start8_any As cs p A c days _ ⟨hp.1, hp.2.1, hp.2.2.below ((Below.refl _ _).alloc (Nat.le_refl _) _)⟩ (hr.below ((Below.refl _ _).alloc (Nat.le_refl _) _)) hm).mono ?_
    rintro e w1 ⟨pp, rfl, hB, h0, _⟩
    exact ⟨pp, by rw [her], ((Below.refl _ _).alloc (Nat.le_refl _) _).trans (hB.mono (by simp)), fun h => h0 (her.symm.trans h)⟩
  have HP := Lib.hid (And.intro her (And.intro hr hst))
  clear her hst
  by_cases h0 : er = 0
  · subst h0
    have hs0 : startS p days = 0 := HP.out.1.symm
    obtain ⟨hck, hl4, _⟩ := start_ok hs0
    have HC := Lib.hid (check_ok hck)
    have hne : ((0 : Int) != 0) = false := rfl
    have HK := Lib.hid hs0
    clear hs0 hck hr
    go_enter Tryd.func32, Tryd.ntmps32
    go_wp2_with fail
    refine HP.out.2.2.mono ?_
    rintro e w1 ⟨pp, rfl, hB, h0⟩
    obtain ⟨pb, rfl, hpol⟩ := h0 trivial
    obtain ⟨W, hW⟩ : ∃ W, W = w1.alloc (.cells #[.pointer (some ⟨pb, 0, none⟩)] 101) := ⟨_, rfl⟩
    have bW : Below w.heap.size w W := by rw [hW]; exact hB.alloc hB.size _
    have pW : PolAt W pb p := by rw [hW]; exact hpol.below ((Below.refl _ _).alloc (Nat.le_refl _) _)
    have f8 : W.cell? ⟨w1.heap.size, 0, none⟩ = some (.pointer (some ⟨pb, 0, none⟩)) := by rw [hW]; exact cell_new_one _ _ _
    have HB := Lib.hid (And.intro bW (And.intro pW (HP.out.2.1.below bW)))
    clear hB hpol h0
    go_upto_region 4 with fail
    rw [← hW]
    generalize hs1 : w1.heap.size = s1 at f8 ⊢
    clear bW pW hW hs1
    have bO : ∀ o o', Below W.heap.size W ((W.alloc o).alloc o') := fun o o' => ((Below.refl _ _).alloc (Nat.le_refl _) _).alloc (by simp) _
    have hco : Calls Tryd.prog 59 #[.func (.func 84) #[] #[.pointer (some ⟨W.heap.size, 0, none⟩), .pointer (some ⟨W.heap.size + 1, 0, none⟩)]] ((W.alloc (.cells #[.pointer (some ⟨pb, 0, none⟩)] 101)).alloc (.cells #[.slice A days.length c] 40))
        fun e w' => ∃ v, e = .returned v ∧ w'.ownsRow w.heap.size 97 3 v (ordersS p days).length (occs (ordersS p days)) ∧ Below w.heap.size w w' := by
      have hdb := heap_alloc_new (W.alloc (.cells #[.pointer (some ⟨pb, 0, none⟩)] 101)) (.cells #[.slice A days.length c] 40)
      rw [World.size_alloc] at hdb
      refine (collect_any W.heap.size (W.heap.size + 1) pb p A c days _ (HB.out.2.1.below (bO _ _)) ⟨HC.out.2.2.1, by have := HC.out.2.2.2.1; omega⟩ ⟨HC.out.2.2.2.2.1, by have := HC.out.2.2.2.2.2.1; omega⟩ ⟨HC.out.2.2.2.2.2.2.1, by have := HC.out.2.2.2.2.2.2.2.1; omega⟩
        (heap_alloc' (heap_alloc_new W _) _) hdb (HB.out.2.2.below (bO _ _)) (by omega)).mono ?_
      rintro e w' ⟨v, rfl, h1, h2⟩
      have hz := HB.out.1.size
      exact ⟨v, rfl, ownsRow_base_a' h1 (by simp; omega), HB.out.1.trans (((bO _ _).mono hz).trans (h2.mono (by simp; omega)))⟩
    have HQ := Lib.hid hco
    clear hco bO
    go_wp2_with (first | (go_at_call 60; refine (orders_any _ _ _ _ _).mono ?_; rintro e w2 ⟨rfl, rfl⟩) | (go_at_call 59; refine HQ.out.mono ?_; rintro e w3 ⟨v, rfl, h1, h2⟩))
    go_ret2
    exact ⟨v, by rw [HK.out]; rfl, by rw [if_pos HK.out]; exact h1, h2⟩
  · have hne : (er != 0) = true := by simp [h0]
    have hs0 : startS p days ≠ 0 := fun h => h0 (HP.out.1.trans h)
    have HK := Lib.hid hs0
    clear hs0 h0 hr
    go_enter Tryd.func32, Tryd.ntmps32
    go_wp2_with fail
    refine HP.out.2.2.mono ?_
    rintro e w1 ⟨pp, rfl, hB, _⟩
    have HB := Lib.hid hB
    clear hB
    go_wp2_with fail
    go_ret2
    refine ⟨.slice none 0 0, ?_, ?_, HB.out.alloc HB.out.size _⟩
    · rw [← HP.out.1]; rfl
    · rw [if_neg HK.out]; exact World.ownsRow_nil ..
end Go.Proofs.YtalcinepeofmcaaDoor
/- slices.Equal at ints, orders, spans -/
namespace Go.Proofs.YtalcinepeofmcaaDoor
open Go Go.RowKit Sp

set_option maxHeartbeats 1000000 in
theorem eqInts_any (A : Option Addr) (c : Nat) (l : List Int) (B : Option Addr) (d : Nat) (m : List Int) (w : World) (hr : Rd w 1 A l.length (ints l)) (hr2 : Rd w 1 B m.length (ints m)) (hm : l.length ≤ 9223372036854775807) (hm2 : m.length ≤ 9223372036854775807) :
    Calls Tryd.prog 36 #[.slice A l.length c, .slice B m.length d] w fun e w' => e = .returned (.bool (decide (l = m))) ∧ Below w.heap.size w w' := by
  by_cases hlen : l.length = m.length
  · have hle : ((l.length : Int) != (m.length : Int)) = false := by simp; omega
    have hmm : m.length = l.length := hlen.symm
    rw [hmm] at hr2 ⊢
    have HL := Lib.hid hmm
    clear hlen hmm
    go_enter Tryd.func36, Tryd.ntmps36
    go_wp2_with fail
    go_loopg [13] (l.length) (fun g i wr => ∃ k : Nat, g + k = l.length ∧ i = .int .i64 k ∧ l.take k = m.take k ∧ Keep [] w wr)
    case atStart => exact ⟨0, rfl, rfl, by simp, Keep.refl _ _⟩
    case round =>
      obtain ⟨k, hk, rfl, hb, hK⟩ := hrel
      have HB := Lib.hid (And.intro hb hK)
      by_cases hlt : k < l.length
      · obtain ⟨b, off, rfl, hbb, hc⟩ := hr.2 (by omega)
        obtain ⟨b2, off2, rfl, hbb2, hc2⟩ := hr2.2 (by omega)
        obtain ⟨x, hx⟩ : ∃ x, x = l.getD k 0 := ⟨_, rfl⟩
        obtain ⟨y, hy⟩ : ∃ y, y = m.getD k 0 := ⟨_, rfl⟩
        have c0 : wr.cell? ⟨b, off + k, none⟩ = some (.int .i64 x) := hK.cell (by rw [hx]; exact hc k _ (ints_get hlt)) (by simp)
        have c1 : wr.cell? ⟨b2, off2 + k, none⟩ = some (.int .i64 y) := hK.cell (by rw [hy]; exact hc2 k _ (ints_get (by have := HL.out; omega))) (by simp)
        have hkI : (0 : Int) ≤ (k : Int) ∧ (k : Int) < (l.length : Int) := by omega
        have hx' : x = l[k] := by rw [hx]; simp [hlt]
        have hy' : y = m[k]'(by have := HL.out; omega) := by rw [hy]; simp [show k < m.length from by have := HL.out; omega]
        have HX := Lib.hid (And.intro hx' hy')
        clear hx hy hx' hy' hb hK hc hc2 hr hr2
        by_cases hxy : x = y
        · subst hxy
          have hne : (x != x) = false := by simp
          go_upto_region 6 with fail
          go_quiet (fail)
          go_wp2_with fail
          go_roundg (gk - 1)
          case measure => omega
          case rel =>
            refine ⟨k + 1, by omega, by go_num, ?_, HB.out.2.drewN _⟩
            rw [List.take_succ_eq_append_getElem hlt, List.take_succ_eq_append_getElem (by have := HL.out; omega : k < m.length), HB.out.1, ← HX.out.1, ← HX.out.2]
        · have hne : (x != y) = true := by simp [hxy]
          go_upto_region 6 with fail
          go_quiet (fail)
          go_wp2_with fail
          go_ret
          refine ⟨?_, below_drewN (HB.out.2.below (Nat.le_refl _) (by simp)) _⟩
          have : decide (l = m) = false := decide_eq_false fun e => by
            apply hxy
            rw [HX.out.1, HX.out.2]
            simp [e]
          rw [this]; rfl
      · obtain rfl : k = l.length := by omega
        clear hK hb
        go_wp2_with fail
        go_ret
        refine ⟨?_, HB.out.2.below (Nat.le_refl _) (by simp)⟩
        have h1 := HB.out.1
        rw [List.take_length, show l.length = m.length from HL.out.symm, List.take_length] at h1
        rw [decide_eq_true h1]; rfl
  · have hle : ((l.length : Int) != (m.length : Int)) = true := by simp; omega
    have HL := Lib.hid hlen
    clear hlen
    go_enter Tryd.func36, Tryd.ntmps36
    go_wp2_with fail
    go_ret
    refine ⟨?_, Below.refl _ _⟩
    rw [decide_eq_false (fun e => HL.out (by rw [e]))]; rfl
theorem occs_get {l : List Ord} {k : Nat} (hk : k < l.length) : (occs l)[k*3]? = some (.int .i64 l[k].iss) ∧ (occs l)[k*3+1]? = some (.int .i64 l[k].frm) ∧ (occs l)[k*3+2]? = some (.int .i64 l[k].stp) := by
  induction l generalizing k with
  | nil => simp at hk
  | cons s l ih =>
    cases k with
    | zero => simp [occs, occ]
    | succ k =>
      have h4 : ∀ j, (occs (s :: l))[3 + j]? = (occs l)[j]? := fun j => by
        simp only [occs, List.flatMap_cons, occ]
        rw [List.getElem?_append_right (by simp)]
        simp
      have e : ∀ j, (k+1)*3 + j = 3 + (k*3 + j) := fun j => by omega
      have e0 : (k+1)*3 = 3 + k*3 := by omega
      have hk' : k < l.length := by simpa using hk
      rw [e, e, e0, h4, h4, h4]
      simpa using ih hk'

theorem ord_neq (x y : Ord) (w : World) : (binOp .neq 97 (.agg #[.int .i64 x.iss, .int .i64 x.frm, .int .i64 x.stp]) (.agg #[.int .i64 y.iss, .int .i64 y.frm, .int .i64 y.stp])).run Tryd.prog w = .ok (.bool (!decide (x = y))) w := by
  have u3 := Tryd.underlying3
  have a3 := Tryd.isAgg3
  have z3 := Tryd.sizeOf3
  have hS : Tryd.prog.underlying 97 = some (.struct (Tryd.prog.fieldsOf 97)) := by kernel_rfl
  have hp : Tryd.prog.stoodInHeld 97 = false := by kernel_rfl
  rw [run_neq_struct, show (10000 : Nat) = 9999 + 1 from rfl, run_equalIn_agg w 9999 97 _ _ hS hp]
  simp only [Program.fieldsOf, Tryd.underlying97]
  go_simp
  obtain ⟨a, b, c⟩ := x
  obtain ⟨a', b', c'⟩ := y
  by_cases h1 : a = a' <;> by_cases h2 : b = b' <;> by_cases h3 : c = c' <;> simp [h1, h2, h3]

theorem span_neq (x y : Int × Int) (w : World) : (binOp .neq 28 (.agg #[.int .i64 x.1, .int .i64 x.2]) (.agg #[.int .i64 y.1, .int .i64 y.2])).run Tryd.prog w = .ok (.bool (!decide (x = y))) w := by
  have u3 := Tryd.underlying3
  have a3 := Tryd.isAgg3
  have z3 := Tryd.sizeOf3
  have hS : Tryd.prog.underlying 28 = some (.struct (Tryd.prog.fieldsOf 28)) := by kernel_rfl
  have hp : Tryd.prog.stoodInHeld 28 = false := by kernel_rfl
  rw [run_neq_struct, show (10000 : Nat) = 9999 + 1 from rfl, run_equalIn_agg w 9999 28 _ _ hS hp]
  simp only [Program.fieldsOf, Tryd.underlying28]
  go_simp
  obtain ⟨a, b⟩ := x
  obtain ⟨a', b'⟩ := y
  by_cases h1 : a = a' <;> by_cases h2 : b = b' <;> simp [h1, h2]

set_option maxHeartbeats 1000000 in
theorem eqOrds_any (A : Option Addr) (c : Nat) (l : List Ord) (B : Option Addr) (d : Nat) (m : List Ord) (w : World) (hr : Rd w 3 A l.length (occs l)) (hr2 : Rd w 3 B m.length (occs m)) (hm : l.length ≤ 9223372036854775807) (hm2 : m.length ≤ 9223372036854775807) :
    Calls Tryd.prog 37 #[.slice A l.length c, .slice B m.length d] w fun e w' => e = .returned (.bool (decide (l = m))) ∧ Below w.heap.size w w' := by
  by_cases hlen : l.length = m.length
  · have hle : ((l.length : Int) != (m.length : Int)) = false := by simp; omega
    have hmm : m.length = l.length := hlen.symm
    rw [hmm] at hr2 ⊢
    have HL := Lib.hid hmm
    clear hlen hmm
    go_enter Tryd.func37, Tryd.ntmps37
    go_wp2_with fail
    go_loopg [13] (l.length) (fun g i wr => ∃ k : Nat, g + k = l.length ∧ i = .int .i64 k ∧ l.take k = m.take k ∧ Keep [] w wr)
    case atStart => exact ⟨0, rfl, rfl, by simp, Keep.refl _ _⟩
    case round =>
      obtain ⟨k, hk, rfl, hb, hK⟩ := hrel
      have HB := Lib.hid (And.intro hb hK)
      by_cases hlt : k < l.length
      · obtain ⟨b, off, rfl, hbb, hc⟩ := hr.2 (by omega)
        obtain ⟨b2, off2, rfl, hbb2, hc2⟩ := hr2.2 (by omega)
        have hlm : k < m.length := by have := HL.out; omega
        obtain ⟨x, hx'⟩ : ∃ x, x = l[k] := ⟨_, rfl⟩
        obtain ⟨y, hy'⟩ : ∃ y, y = m[k] := ⟨_, rfl⟩
        obtain ⟨s0, s1, s2⟩ := occs_get hlt
        obtain ⟨t0, t1, t2⟩ := occs_get hlm
        rw [← hx'] at s0 s1 s2
        rw [← hy'] at t0 t1 t2
        have bk : ∀ o u, w.cell? ⟨b, o, none⟩ = some u → wr.cell? ⟨b, o, none⟩ = some u := fun o u h => hK.cell h (by simp)
        have bk2 : ∀ o u, w.cell? ⟨b2, o, none⟩ = some u → wr.cell? ⟨b2, o, none⟩ = some u := fun o u h => hK.cell h (by simp)
        have c0 := bk (off + k*3) _ (hc _ _ s0)
        have c1 := bk (off + k*3 + 1) _ (hc _ _ s1)
        have c2 := bk (off + k*3 + 2) _ (hc _ _ s2)
        have d0 := bk2 (off2 + k*3) _ (hc2 _ _ t0)
        have d1 := bk2 (off2 + k*3 + 1) _ (hc2 _ _ t1)
        have d2 := bk2 (off2 + k*3 + 2) _ (hc2 _ _ t2)
        clear bk bk2 s0 t0 s1 t1 s2 t2
        have hkI : (0 : Int) ≤ (k : Int) ∧ (k : Int) < (l.length : Int) := by omega
        have HX := Lib.hid (And.intro hx' hy')
        clear hx' hy' hb hK hc hc2 hr hr2
        by_cases hxy : x = y
        · subst hxy
          have hne : ∀ w, (binOp .neq 97 (.agg #[.int .i64 x.iss, .int .i64 x.frm, .int .i64 x.stp]) (.agg #[.int .i64 x.iss, .int .i64 x.frm, .int .i64 x.stp])).run Tryd.prog w = .ok (.bool false) w := fun w => by rw [ord_neq]; simp
          go_upto_region 6 with fail
          go_quiet (fail)
          go_wp2_with fail
          go_roundg (gk - 1)
          case measure => omega
          case rel =>
            refine ⟨k + 1, by omega, by go_num, ?_, HB.out.2.drewN _⟩
            rw [List.take_succ_eq_append_getElem hlt, List.take_succ_eq_append_getElem (by have := HL.out; omega : k < m.length), HB.out.1, ← HX.out.1, ← HX.out.2]
        · have hne : ∀ w, (binOp .neq 97 (.agg #[.int .i64 x.iss, .int .i64 x.frm, .int .i64 x.stp]) (.agg #[.int .i64 y.iss, .int .i64 y.frm, .int .i64 y.stp])).run Tryd.prog w = .ok (.bool true) w := fun w => by rw [ord_neq]; simp [hxy]
          go_upto_region 6 with fail
          go_quiet (fail)
          go_wp2_with fail
          go_ret
          refine ⟨?_, below_drewN (HB.out.2.below (Nat.le_refl _) (by simp)) _⟩
          have : decide (l = m) = false := decide_eq_false fun e => by
            apply hxy
            rw [HX.out.1, HX.out.2]
            simp [e]
          rw [this]; rfl
      · obtain rfl : k = l.length := by omega
        clear hK hb
        go_wp2_with fail
        go_ret
        refine ⟨?_, HB.out.2.below (Nat.le_refl _) (by simp)⟩
        have h1 := HB.out.1
        rw [List.take_length, show l.length = m.length from HL.out.symm, List.take_length] at h1
        rw [decide_eq_true h1]; rfl
  · have hle : ((l.length : Int) != (m.length : Int)) = true := by simp; omega
    have HL := Lib.hid hlen
    clear hlen
    go_enter Tryd.func37, Tryd.ntmps37
    go_wp2_with fail
    go_ret
    refine ⟨?_, Below.refl _ _⟩
    rw [decide_eq_false (fun e => HL.out (by rw [e]))]; rfl

set_option maxHeartbeats 1000000 in
theorem eqSpans_any (A : Option Addr) (c : Nat) (l : List (Int × Int)) (B : Option Addr) (d : Nat) (m : List (Int × Int)) (w : World) (hr : Rd w 2 A l.length (spcs l)) (hr2 : Rd w 2 B m.length (spcs m)) (hm : l.length ≤ 9223372036854775807) (hm2 : m.length ≤ 9223372036854775807) :
    Calls Tryd.prog 38 #[.slice A l.length c, .slice B m.length d] w fun e w' => e = .returned (.bool (decide (l = m))) ∧ Below w.heap.size w w' := by
  by_cases hlen : l.length = m.length
  · have hle : ((l.length : Int) != (m.length : Int)) = false := by simp; omega
    have hmm : m.length = l.length := hlen.symm
    rw [hmm] at hr2 ⊢
    have HL := Lib.hid hmm
    clear hlen hmm
    go_enter Tryd.func38, Tryd.ntmps38
    go_wp2_with fail
    go_loopg [13] (l.length) (fun g i wr => ∃ k : Nat, g + k = l.length ∧ i = .int .i64 k ∧ l.take k = m.take k ∧ Keep [] w wr)
    case atStart => exact ⟨0, rfl, rfl, by simp, Keep.refl _ _⟩
    case round =>
      obtain ⟨k, hk, rfl, hb, hK⟩ := hrel
      have HB := Lib.hid (And.intro hb hK)
      by_cases hlt : k < l.length
      · obtain ⟨b, off, rfl, hbb, hc⟩ := hr.2 (by omega)
        obtain ⟨b2, off2, rfl, hbb2, hc2⟩ := hr2.2 (by omega)
        have hlm : k < m.length := by have := HL.out; omega
        obtain ⟨x, hx'⟩ : ∃ x, x = l[k] := ⟨_, rfl⟩
        obtain ⟨y, hy'⟩ : ∃ y, y = m[k] := ⟨_, rfl⟩
        obtain ⟨s0, s1⟩ := spcs_get hlt
        obtain ⟨t0, t1⟩ := spcs_get hlm
        rw [← hx'] at s0 s1
        rw [← hy'] at t0 t1
        have bk : ∀ o u, w.cell? ⟨b, o, none⟩ = some u → wr.cell? ⟨b, o, none⟩ = some u := fun o u h => hK.cell h (by simp)
        have bk2 : ∀ o u, w.cell? ⟨b2, o, none⟩ = some u → wr.cell? ⟨b2, o, none⟩ = some u := fun o u h => hK.cell h (by simp)
        have c0 := bk (off + k*2) _ (hc _ _ s0)
        have c1 := bk (off + k*2 + 1) _ (hc _ _ s1)
        have d0 := bk2 (off2 + k*2) _ (hc2 _ _ t0)
        have d1 := bk2 (off2 + k*2 + 1) _ (hc2 _ _ t1)
        clear bk bk2 s0 t0 s1 t1
        have hkI : (0 : Int) ≤ (k : Int) ∧ (k : Int) < (l.length : Int) := by omega
        have HX := Lib.hid (And.intro hx' hy')
        clear hx' hy' hb hK hc hc2 hr hr2
        by_cases hxy : x = y
        · subst hxy
          have hne : ∀ w, (binOp .neq 28 (.agg #[.int .i64 x.1, .int .i64 x.2]) (.agg #[.int .i64 x.1, .int .i64 x.2])).run Tryd.prog w = .ok (.bool false) w := fun w => by rw [span_neq]; simp
          go_upto_region 6 with fail
          go_quiet (fail)
          go_wp2_with fail
          go_roundg (gk - 1)
          case measure => omega
          case rel =>
            refine ⟨k + 1, by omega, by go_num, ?_, HB.out.2.drewN _⟩
            rw [List.take_succ_eq_append_getElem hlt, List.take_succ_eq_append_getElem (by have := HL.out; omega : k < m.length), HB.out.1, ← HX.out.1, ← HX.out.2]
        · have hne : ∀ w, (binOp .neq 28 (.agg #[.int .i64 x.1, .int .i64 x.2]) (.agg #[.int .i64 y.1, .int .i64 y.2])).run Tryd.prog w = .ok (.bool true) w := fun w => by rw [span_neq]; simp [hxy]
          go_upto_region 6 with fail
          go_quiet (fail)
          go_wp2_with fail
          go_ret
          refine ⟨?_, below_drewN (HB.out.2.below (Nat.le_refl _) (by simp)) _⟩
          have : decide (l = m) = false := decide_eq_false fun e => by
            apply hxy
            rw [HX.out.1, HX.out.2]
            simp [e]
          rw [this]; rfl
      · obtain rfl : k = l.length := by omega
        clear hK hb
        go_wp2_with fail
        go_ret
        refine ⟨?_, HB.out.2.below (Nat.le_refl _) (by simp)⟩
        have h1 := HB.out.1
        rw [List.take_length, show l.length = m.length from HL.out.symm, List.take_length] at h1
        rw [decide_eq_true h1]; rfl
  · have hle : ((l.length : Int) != (m.length : Int)) = true := by simp; omega
    have HL := Lib.hid hlen
    clear hlen
    go_enter Tryd.func38, Tryd.ntmps38
    go_wp2_with fail
    go_ret
    refine ⟨?_, Below.refl _ _⟩
    rw [decide_eq_false (fun e => HL.out (by rw [e]))]; rfl
end Go.Proofs.YtalcinepeofmcaaDoor
/- Example, winter, awake -/
namespace Go.Proofs.YtalcinepeofmcaaDoor
open Go Go.RowKit Sp

def exP : Pol := ⟨[⟨0, 0, 0, 0⟩, ⟨1, 2000, 100, 60⟩, ⟨3, 2000, 200, 150⟩], 2, 3, 1, 2⟩
def exD : List Int := [120, 130, 210, 220, 90, 50, 40, 30, 20]

theorem rd_lit (w : World) (size n : Nat) (cs : List Value) (t : TypeId) (h : cs.length = n * size) : Rd (w.alloc (.cells cs.toArray t)) size (some ⟨w.heap.size, 0, none⟩) n cs :=
  ⟨h, fun _ => ⟨_, 0, rfl, by simp, fun j u hu => by rw [Nat.zero_add, World.cell?_alloc_new]; simpa using hu⟩⟩

theorem Example_any (w : World) :
    Calls Tryd.prog 29 #[] w fun e w' => ∃ b, e = .returned (.agg #[.slice (some ⟨b, 0, none⟩) 3 3, .int .i64 2, .int .i64 3, .int .i64 1, .int .i64 2]) ∧ PolV w' (some ⟨b, 0, none⟩) 3 exP ∧ Below w.heap.size w w' := by
  go_enter Tryd.func29, Tryd.ntmps29
  go_wp2_with fail
  have hb : Below w.heap.size w ((w.alloc (.cells #[.slice (some ⟨w.heap.size + 1, 0, none⟩) 3 3, .int .i64 2, .int .i64 3, .int .i64 1, .int .i64 2] 51)).alloc (.cells (stcs exP.steps).toArray 48)) := ((Below.refl _ _).alloc (Nat.le_refl _) _).alloc (by simp) _
  have hr := rd_lit (w.alloc (.cells #[.slice (some ⟨w.heap.size + 1, 0, none⟩) 3 3, .int .i64 2, .int .i64 3, .int .i64 1, .int .i64 2] 51)) 4 3 (stcs exP.steps) 48 rfl
  rw [World.size_alloc] at hr
  have k : ∀ j u, (#[Value.slice (some ⟨w.heap.size + 1, 0, none⟩) 3 3, .int .i64 2, .int .i64 3, .int .i64 1, .int .i64 2] : Array Value)[j]? = some u → ((w.alloc (.cells #[.slice (some ⟨w.heap.size + 1, 0, none⟩) 3 3, .int .i64 2, .int .i64 3, .int .i64 1, .int .i64 2] 51)).alloc (.cells #[.int .i64 0, .int .i64 0, .int .i64 0, .int .i64 0, .int .i64 1, .int .i64 2000, .int .i64 100, .int .i64 60, .int .i64 3, .int .i64 2000, .int .i64 200, .int .i64 150] 48)).cell? ⟨w.heap.size, j, none⟩ = some u := fun j u hu => by
    rw [World.cell?_alloc_lt _ _ _ (by simp), World.cell?_alloc_new]; exact hu
  have k0 := k 0 _ rfl
  have k1 := k 1 _ rfl
  have k2 := k 2 _ rfl
  have k3 := k 3 _ rfl
  have k4 := k 4 _ rfl
  refine bodyPost_ret (v := .agg #[.slice (some ⟨w.heap.size + 1, 0, none⟩) 3 3, .int .i64 2, .int .i64 3, .int .i64 1, .int .i64 2]) (by simp [results, Tryd.results29, go_sem, k0, k1, k2, k3, k4]) rfl ?_
  exact ⟨_, rfl, ⟨by simp [exP], by simp [maxLen], hr⟩, hb⟩

theorem winter_any (w : World) :
    Calls Tryd.prog 30 #[] w fun e w' => ∃ b, e = .returned (.slice (some ⟨b, 0, none⟩) 9 9) ∧ Rd w' 1 (some ⟨b, 0, none⟩) 9 (ints exD) ∧ Below w.heap.size w w' := by
  go_enter Tryd.func30, Tryd.ntmps30
  go_wp2_with fail
  go_ret
  exact ⟨_, rfl, rd_lit w 1 9 (ints exD) 3 rfl, (Below.refl _ _).alloc (Nat.le_refl _) _⟩
end Go.Proofs.YtalcinepeofmcaaDoor
