/- rules.orders: the iterator -/
import Derived.Test.YtfmhlnfcbbpfeaaWindows
import Derived.RangeFuncNested
import Derived.RangeFuncBound
import Derived.RangeFuncCalls
import Derived.RangeFuncLeaves
import Derived.Shelf.Abstract
import Derived.Shelf.RegionOpen
import Derived.OwnWalkIn
import Derived.TacticsInMore
import Derived.LoopNIn
import Derived.LoopIn
import Derived.Sort.CutIn
namespace Go.Proofs.Ytfmhlnfcbbpfeaa
open Go Go.RowKit Go.Shelf Go.Proofs Sp
attribute [local go_sem] Oper.semAt_some

structure Ord where
  iss : Int
  frm : Int
  stp : Int
deriving DecidableEq, Inhabited

def befN (f : List Int) : Nat → Int
  | 0 => 0
  | k + 1 => f.getD k 0
/-- the orders of the first k days -/
def ordN (f : List Int) (no : Int) : Nat → List Ord
  | 0 => []
  | k + 1 => if f.getD k 0 = befN f k then ordN f no k else ordN f no k ++ [⟨if befN f k < f.getD k 0 then (k : Int) - no else k, k, f.getD k 0⟩]
def ordersS (p : Pol) (days : List Int) : List Ord := ordN (forceS p days) p.notice days.length
theorem ordN_prefix (f : List Int) (no : Int) {j k : Nat} (h : j ≤ k) : ordN f no j <+: ordN f no k := by
  induction k with
  | zero => obtain rfl : j = 0 := by omega
            exact List.prefix_refl _
  | succ k ih =>
    by_cases e : j = k + 1
    · subst e; exact List.prefix_refl _
    · refine (ih (by omega)).trans ?_
      rw [ordN]; split
      · exact List.prefix_refl _
      · exact List.prefix_append _ _
theorem ordN_length (f : List Int) (no : Int) (k : Nat) : (ordN f no k).length ≤ k := by
  induction k with
  | zero => exact Nat.le_refl _
  | succ k ih =>
    rw [ordN]; split
    · omega
    · rw [List.length_append]; simp; omega

def orc (x : Ord) : Value := .agg #[.int .i64 x.iss, .int .i64 x.frm, .int .i64 x.stp]

/-- what a round keeps: whatever cells are not free -/
structure KpF (free : Nat → Obj → Prop) (W W' : World) : Prop where
  size : W.heap.size ≤ W'.heap.size
  same : ∀ (k : Nat) (o : Obj), W.heap[k]? = some o → o.isCells = true → ¬ free k o → W'.heap[k]? = some o
theorem KpF.trans {free : Nat → Obj → Prop} {A B C : World} (h : KpF free A B) (h' : KpF free B C) : KpF free A C :=
  ⟨Nat.le_trans h.size h'.size, fun k o hk hc hf => h'.same k o (h.same k o hk hc hf) hc hf⟩

theorem grown_of_below {w w' : World} (h : Below w.heap.size w w') : w.grownBy w' none := ⟨h.os, h.tape, h.output, h.size, fun k hk _ => h.block k hk⟩

/-- what the iterator reads between two rounds stays -/
structure ItKeep (W w1 wr : World) (rb pb : Nat) : Prop where
  size : w1.heap.size ≤ wr.heap.size
  ints : ∀ g cur, W.heap.size ≤ g → w1.heap[g]? = some (.cells cur 3 (0, 0)) → wr.heap[g]? = some (.cells cur 3 (0, 0))
  rules : ∀ cs, w1.heap[rb]? = some (.cells cs 143 (0, 0)) → wr.heap[rb]? = some (.cells cs 143 (0, 0))
  pol : ∀ cs, w1.heap[pb]? = some (.cells cs 25 (0, 0)) → wr.heap[pb]? = some (.cells cs 25 (0, 0))
theorem ItKeep.refl (W w1 : World) (rb pb : Nat) : ItKeep W w1 w1 rb pb := ⟨Nat.le_refl _, fun _ _ _ h => h, fun _ h => h, fun _ h => h⟩
theorem ItKeep.below {W w1 a b : World} {rb pb : Nat} (h : ItKeep W w1 a rb pb) (hb : Below a.heap.size a b) : ItKeep W w1 b rb pb :=
  ⟨Nat.le_trans h.size hb.size, fun g cur hg h1 => (hb.block g (heap_lt (h.ints g cur hg h1))).trans (h.ints g cur hg h1),
    fun cs h1 => (hb.block rb (heap_lt (h.rules cs h1))).trans (h.rules cs h1), fun cs h1 => (hb.block pb (heap_lt (h.pol cs h1))).trans (h.pol cs h1)⟩
theorem ItKeep.kp {free : Nat → Obj → Prop} {W w1 a b : World} {rb pb : Nat} (h : ItKeep W w1 a rb pb) (hk : KpF free a b)
    (hf1 : ∀ k cs, W.heap.size ≤ k → ¬ free k (.cells cs 3 (0, 0))) (hf2 : ∀ cs, ¬ free rb (.cells cs 143 (0, 0))) (hf3 : ∀ cs, ¬ free pb (.cells cs 25 (0, 0))) : ItKeep W w1 b rb pb :=
  ⟨Nat.le_trans h.size hk.size, fun g cur hg h1 => hk.same g _ (h.ints g cur hg h1) rfl (hf1 _ _ hg), fun cs h1 => hk.same rb _ (h.rules cs h1) rfl (hf2 _), fun cs h1 => hk.same pb _ (h.pol cs h1) rfl (hf3 _)⟩

set_option maxRecDepth 100000 in
set_option maxHeartbeats 4000000 in
theorem orders1_stops (free : Nat → Obj → Prop) (rb db pb : Nat) (p : Pol) (A : Option Addr) (c : Nat) (days : List Int) (w : World) (hp : PolAt w pb p) (hh : 1 ≤ p.hold ∧ p.hold ≤ 1000) (hca : 1 ≤ p.calm ∧ p.calm ≤ 1000) (hno : 0 ≤ p.notice ∧ p.notice ≤ 900)
    (hrb : w.heap[rb]? = some (.cells #[.pointer (some ⟨pb, 0, none⟩)] 143 (0, 0))) (hdb : w.heap[db]? = some (.cells #[.slice A days.length c] 27 (0, 0))) (hr : Rd w 1 A days.length (ints days)) (hl : days.length ≤ 100000)
    (hf1 : ∀ k cs, w.heap.size ≤ k → ¬ free k (.cells cs 3 (0, 0))) (hf2 : ∀ cs, ¬ free rb (.cells cs 143 (0, 0))) (hf3 : ∀ cs, ¬ free pb (.cells cs 25 (0, 0))) (n : Nat) (hn : 1 ≤ n) :
    SeqStopsK Fence.wide n Try.prog 134 #[.pointer (some ⟨rb, 0, none⟩), .pointer (some ⟨db, 0, none⟩)] (fun x : Ord => #[orc x]) (KpF free) (fun xs => xs = ordersS p days) (fun pre => pre <+: ordersS p days) days.length w := by
  intro l J Jx W hW hJ hJx hY h0
  have hp := hp.below hW
  have zrb := heap_lt hrb
  have zdb := heap_lt hdb
  have hrb := (hW.block rb zrb).trans hrb
  have hdb := (hW.block db zdb).trans hdb
  have hr := hr.below hW
  have c1 : W.cell? ⟨rb, 0, none⟩ = some (.pointer (some ⟨pb, 0, none⟩)) := (cell_of_heap hrb 0).trans rfl
  have c2 : W.cell? ⟨db, 0, none⟩ = some (.slice A days.length c) := (cell_of_heap hdb 0).trans rfl
  have HP := Lib.hid (And.intro hp (And.intro hrb (And.intro hr (And.intro hJ (And.intro hJx (And.intro hY (And.intro h0 hW)))))))
  clear hp hrb hdb hr hJ hJx hY h0
  refine callsIn_of_wp Try.func134 rfl trivial ?_ rfl
  simp only [Try.ntmps134, List.size_toArray, List.length_cons, List.length_nil, Nat.reduceAdd, Nat.reduceSub, Array.replicate_succ, Array.replicate_zero, List.push_toArray, List.append_toArray, List.nil_append, List.cons_append]
  gi_wp2_with (refine ⟨trivial, ?_⟩; gi_at_call 86; refine (callsIn_wide.2 (force_new pb p A c days W HP.out.1 hh hca hno HP.out.2.2.1 hl)).mono ?_; rintro e w1 ⟨A1, c1', rfl, i1, b1, n1⟩; have H1 := Lib.hid (And.intro i1 (And.intro b1 n1)); clear i1 b1 n1)
  obtain ⟨F, hF⟩ : ∃ F, F = forceS p days := ⟨_, rfl⟩
  obtain ⟨no, hno'⟩ : ∃ no, no = p.notice := ⟨_, rfl⟩
  have hO : ordersS p days = ordN F no days.length := by rw [hF, hno']; rfl
  have hFl : F.length = days.length := by rw [hF, forceS_length]
  have hJw : J [] w1 := HP.out.2.2.2.1 [] W w1 none HP.out.2.2.2.2.2.2.1 (grown_of_below H1.out.2.1) (fun r e => by cases e)
  have hg1 : w1.heap[rb]? = some (.cells #[.pointer (some ⟨pb, 0, none⟩)] 143 (0, 0)) := (H1.out.2.1.block rb (heap_lt HP.out.2.1)).trans HP.out.2.1
  have hp1 : PolAt w1 pb p := HP.out.1.below H1.out.2.1
  have hnb : 0 ≤ no ∧ no ≤ 900 := by rw [hno']; exact hno
  have HF := Lib.hid (And.intro hF (And.intro hno' (And.intro hO (And.intro hg1 hp1))))
  clear hF hno' hO hg1 hp1 hno hh hca
  gi_loopw [4, 12] (fun bf i wr => ∃ k : Nat, k ≤ days.length ∧ i = .int .i64 k ∧ bf = .int .i64 (befN F k) ∧ J (ordN F no k) wr ∧ ItKeep W w1 wr rb pb)
    (fun _ i _ => days.length - (intOf i).toNat)
  case atStart => exact ⟨0, Nat.zero_le _, rfl, rfl, hJw, ItKeep.refl _ _ _ _⟩
  case round =>
    obtain ⟨k, hk, rfl, rfl, hJk, hI⟩ := hrel
    by_cases hlt : k < days.length
    · obtain ⟨g, off, cur, rfl, hgW, hgc⟩ := H1.out.2.2 (by omega)
      obtain ⟨x, hx⟩ : ∃ x, x = F.getD k 0 := ⟨_, rfl⟩
      obtain ⟨bf, hbf⟩ : ∃ bf, bf = befN F k := ⟨_, rfl⟩
      have c3 : wr.cell? ⟨g, off + k, none⟩ = some (.int .i64 x) := by
        obtain ⟨b', o', e1, _, hcc⟩ := H1.out.1.1.2 (by rw [← HF.out.1]; omega)
        injection e1 with e1
        injection e1 with e1 e2 _
        subst e1 e2
        have h5 := hcc k _ (ints_get (by rw [← HF.out.1]; omega))
        rw [← HF.out.1, ← hx, cell_of_heap hgc] at h5
        rw [cell_of_heap (hI.ints g cur hgW hgc), h5]
      have c4 : wr.cell? ⟨rb, 0, none⟩ = some (.pointer (some ⟨pb, 0, none⟩)) := (cell_of_heap (hI.rules _ HF.out.2.2.2.1) 0).trans rfl
      have z4 : rb < wr.heap.size := heap_lt (hI.rules _ HF.out.2.2.2.1)
      have c5 : wr.cell? ⟨pb, 3, none⟩ = some (.int .i64 no) := by
        obtain ⟨Ap, cp, hh, _⟩ := HF.out.2.2.2.2
        rw [cell_of_heap (hI.pol _ hh), HF.out.2.1]; rfl
      have z5 : pb < wr.heap.size := by
        obtain ⟨Ap, cp, hh, _⟩ := HF.out.2.2.2.2
        exact heap_lt (hI.pol _ hh)
      rw [← hbf]
      have hord : ordN F no (k + 1) = if x = bf then ordN F no k else ordN F no k ++ [⟨if bf < x then (k : Int) - no else k, k, x⟩] := by rw [hx, hbf]; rfl
      have hbk : befN F (k + 1) = x := hx.symm
      have HX := Lib.hid (And.intro hJk (And.intro hI (And.intro hord (And.intro hbk (And.intro hgW hgc)))))
      have hol := ordN_length F no k
      clear hJk hI hord hbk hx hbf hgW hgc
      by_cases hxb : x = bf
      · subst hxb
        have hd1 : (x != x) = false := by simp
        gi_wp2
        refine ⟨fun _ h => (by cases h), ?_⟩
        gi_wp2
        go_roundw
        case rel => exact ⟨k + 1, by omega, by go_num, by rw [HX.out.2.2.2.1], by rw [HX.out.2.2.1]; simp only [if_true]; exact HP.out.2.2.2.1 _ wr _ none HX.out.1 (grown_of_below ((Below.refl _ _).alloc (Nat.le_refl _) _)) (fun r e => by cases e), HX.out.2.1.below ((Below.refl _ _).alloc (Nat.le_refl _) _)⟩
        case measure => simp [intOf]; omega
      · have hd1 : (x != bf) = true := by simp [hxb]
        by_cases hgt : bf < x
        · have hd2 : decide (bf < x) = true := by simp [hgt]
          have hord' : ordN F no (k + 1) = ordN F no k ++ [⟨(k : Int) - no, k, x⟩] := by rw [HX.out.2.2.1, if_neg hxb, if_pos hgt]
          gi_upto_region 6 with fail
          gi_region
          have bX := Lib.hid ((Below.refl wr.heap.size wr).alloc (Nat.le_refl _) (.cells #[.int .i64 ((k : Int) - no), .int .i64 k, .int .i64 x] 54)).drew
          obtain ⟨fn, tmps, assign, body, hy, hR⟩ := HP.out.2.2.2.2.2.1 (ordN F no k) ⟨(k : Int) - no, k, x⟩ (wr.alloc (.cells #[.int .i64 ((k : Int) - no), .int .i64 k, .int .i64 x] 54)).drew (HP.out.2.2.2.1 _ wr _ none HX.out.1 (grown_of_below bX.out) (fun r e => by cases e)) (by omega)
          dsimp only [orc] at hy
          gi_wp2
          refine hR.mono ?_
          rintro e W3 (⟨rfl, hJ3, hk3⟩ | ⟨rfl, hJx3⟩)
          · have HY := Lib.hid (And.intro hJ3 hk3)
            clear hJ3 hk3
            gi_wp2
            go_roundw
            case rel => exact ⟨k + 1, by omega, by go_num, by rw [HX.out.2.2.2.1], by rw [hord']; exact HY.out.1, (HX.out.2.1.below bX.out).kp HY.out.2 (fun k cs hk => hf1 k cs (by have := HP.out.2.2.2.2.2.2.2.size; omega)) hf2 hf3⟩
            case measure => simp [intOf]; omega
          · gi_wp2
            refine bodyPost_ret (results_none rfl _ _ _) rfl ?_
            refine ⟨⟨_, rfl⟩, .inr ⟨_, ?_, hJx3⟩⟩
            rw [← hord', HF.out.2.2.1]; exact ordN_prefix _ _ (by omega)
        · have hd2 : decide (bf < x) = false := by simp [hgt]
          have hord' : ordN F no (k + 1) = ordN F no k ++ [⟨(k : Int), k, x⟩] := by rw [HX.out.2.2.1, if_neg hxb, if_neg hgt]
          have bX := Lib.hid ((Below.refl wr.heap.size wr).alloc (Nat.le_refl _) (.cells #[.int .i64 k, .int .i64 k, .int .i64 x] 54))
          obtain ⟨fn, tmps, assign, body, hy, hR⟩ := HP.out.2.2.2.2.2.1 (ordN F no k) ⟨(k : Int), k, x⟩ (wr.alloc (.cells #[.int .i64 k, .int .i64 k, .int .i64 x] 54)) (HP.out.2.2.2.1 _ wr _ none HX.out.1 (grown_of_below bX.out) (fun r e => by cases e)) (by omega)
          dsimp only [orc] at hy
          gi_wp2
          refine hR.mono ?_
          rintro e W3 (⟨rfl, hJ3, hk3⟩ | ⟨rfl, hJx3⟩)
          · have HY := Lib.hid (And.intro hJ3 hk3)
            clear hJ3 hk3
            gi_wp2
            go_roundw
            case rel => exact ⟨k + 1, by omega, by go_num, by rw [HX.out.2.2.2.1], by rw [hord']; exact HY.out.1, (HX.out.2.1.below bX.out).kp HY.out.2 (fun k cs hk => hf1 k cs (by have := HP.out.2.2.2.2.2.2.2.size; omega)) hf2 hf3⟩
            case measure => simp [intOf]; omega
          · gi_wp2
            refine bodyPost_ret (results_none rfl _ _ _) rfl ?_
            refine ⟨⟨_, rfl⟩, .inr ⟨_, ?_, hJx3⟩⟩
            rw [← hord', HF.out.2.2.1]; exact ordN_prefix _ _ (by omega)
    · obtain rfl : k = days.length := by omega
      gi_wp2
      go_end0
      exact ⟨⟨_, rfl⟩, .inl ⟨_, HF.out.2.2.1.symm, hJk⟩⟩
end Go.Proofs.Ytfmhlnfcbbpfeaa
