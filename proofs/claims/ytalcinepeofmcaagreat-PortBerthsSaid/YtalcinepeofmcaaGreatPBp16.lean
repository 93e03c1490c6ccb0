import Derived.Test.YtalcinepeofmcaaGreatPBp9
import Derived.Test.YtalcinepeofmcaaGreatPBp6
import Derived.Test.YtalcinepeofmcaaGreatPBp15
import Derived.RangeFuncNested
import Derived.RangeFuncBound
import Derived.RangeFuncCalls
import Derived.RangeFuncLeaves
import Derived.Shelf.Abstract
import Derived.Shelf.RegionOpen
import Derived.OwnWalkIn
import Derived.TacticsInMore
import Derived.LoopNIn
import Derived.LoopIn
import Derived.Sort.CutIn
set_option linter.unusedVariables false
set_option linter.unusedSimpArgs false
set_option maxRecDepth 100000
set_option maxHeartbeats 40000000
namespace Go.Proofs.YtalcinepeofmcaaGreat
open Go Go.RowKit Go.Shelf Go.Proofs Sp Pt
attribute [local go_sem] Oper.semAt_some
def mapsT (p : Prt) (l : Pln) (c : Int) (h : Nat) : List Mp := (List.range h).flatMap (mapsH p l c)
theorem mapsT_succ (p : Prt) (l : Pln) (c : Int) (h : Nat) : mapsT p l c (h + 1) = mapsT p l c h ++ (swMaps p c h l.swps ++ (caMaps p c h l.calls ++ [⟨(ch p c).frost, (ch p c).frost, NL⟩])) := by
  unfold mapsT;rw [List.range_succ, List.flatMap_append];simp [mapsH_eq]
theorem mapsT_all (p : Prt) (l : Pln) (c : Int) : mapsT p l c l.hours.toNat = mapsS p l c := rfl
theorem mapsT_prefix (p : Prt) (l : Pln) (c : Int) {h H : Nat} (hh : h ≤ H) : mapsT p l c h <+: mapsT p l c H := by
  induction H with
  | zero => obtain rfl : h = 0 := by omega
            exact List.prefix_refl _
  | succ H ih =>
    by_cases e : h = H + 1
    · subst e; exact List.prefix_refl _
    · exact (ih (by omega)).trans (by rw [mapsT_succ]; exact List.prefix_append _ _)
theorem swMaps_snoc (p : Prt) (c h : Int) {l : List Swp} {i : Nat} (hi : i < l.length) : swMaps p c h (l.take (i + 1)) = swMaps p c h (l.take i) ++ (if l[i].hour = h ∧ l[i].channel = c then [⟨-l[i].tugs * (ch p c).clear, 0, NL⟩] else []) := by
  unfold swMaps;rw [List.take_succ_eq_append_getElem hi, List.filter_append, List.map_append];by_cases q : l[i].hour = h ∧ l[i].channel = c
  · rw [if_pos q, List.filter_cons_of_pos (by simp [q.1, q.2])]; rfl
  · rw [if_neg q, List.filter_cons_of_neg (by simpa using q)]; rfl
theorem caMaps_snoc (p : Prt) (c h : Int) {l : List Cal} {i : Nat} (hi : i < l.length) : caMaps p c h (l.take (i + 1)) = caMaps p c h (l.take i) ++ (if l[i].hour = h ∧ (bt p l[i].berth).path.contains c = true then [⟨(ch p c).grow, (ch p c).grow, l[i].most⟩] else []) := by
  unfold caMaps;rw [List.take_succ_eq_append_getElem hi, List.filter_append, List.map_append];by_cases q : l[i].hour = h ∧ (bt p l[i].berth).path.contains c = true
  · rw [if_pos q, List.filter_cons_of_pos (by simp only [Bool.and_eq_true, decide_eq_true_eq]; exact q)]; rfl
  · rw [if_neg q, List.filter_cons_of_neg (by simp only [Bool.and_eq_true, decide_eq_true_eq]; exact q)]; rfl
theorem swMaps_prefix (p : Prt) (c h : Int) (l : List Swp) (i : Nat) : swMaps p c h (l.take i) <+: swMaps p c h l := by
  unfold swMaps;exact ((List.take_prefix i l).filter _).map _
theorem caMaps_prefix (p : Prt) (c h : Int) (l : List Cal) (i : Nat) : caMaps p c h (l.take i) <+: caMaps p c h l := by
  unfold caMaps;exact ((List.take_prefix i l).filter _).map _
theorem prefix_in1 {p : Prt} {l : Pln} {c : Int} {h : Nat} (hh : h < l.hours.toNat) {i : Nat} : mapsT p l c h ++ swMaps p c h (l.swps.take i) <+: mapsS p l c := by
  refine List.IsPrefix.trans ?_ (mapsT_prefix p l c (show h + 1 ≤ l.hours.toNat by omega));rw [mapsT_succ];obtain ⟨r, hr⟩ := swMaps_prefix p c h l.swps i;exact ⟨r ++ (caMaps p c h l.calls ++ [⟨(ch p c).frost, (ch p c).frost, NL⟩]), by rw [← hr]; simp⟩
theorem prefix_in2 {p : Prt} {l : Pln} {c : Int} {h : Nat} (hh : h < l.hours.toNat) {i : Nat} : mapsT p l c h ++ (swMaps p c h l.swps ++ caMaps p c h (l.calls.take i)) <+: mapsS p l c := by
  refine List.IsPrefix.trans ?_ (mapsT_prefix p l c (show h + 1 ≤ l.hours.toNat by omega));rw [mapsT_succ];obtain ⟨r, hr⟩ := caMaps_prefix p c h l.calls i;exact ⟨r ++ [⟨(ch p c).frost, (ch p c).frost, NL⟩], by rw [← hr]; simp⟩
theorem prefix_len {a b : List Mp} (h : a <+: b) : a.length ≤ b.length := h.length_le
structure KpF (free : Nat → Obj → Prop) (W W' : World) : Prop where
  size : W.heap.size ≤ W'.heap.size
  same : ∀ (k : Nat) (o : Obj), W.heap[k]? = some o → o.isCells = true → ¬ free k o → W'.heap[k]? = some o
theorem KpF.trans {free : Nat → Obj → Prop} {A B C : World} (h : KpF free A B) (h' : KpF free B C) : KpF free A C :=
  ⟨Nat.le_trans h.size h'.size, fun k o hk hc hf => h'.same k o (h.same k o hk hc hf) hc hf⟩
theorem grown_of_below {w w' : World} (h : Below w.heap.size w w') : w.grownBy w' none := ⟨h.os, h.tape, h.output, h.size, fun k hk _ => h.block k hk⟩
def freeM (B : Nat) (k : Nat) (o : Obj) : Prop := B ≤ k ∧ ∃ cs fr, o = .cells cs 90 fr
theorem cells_of_cell {w : World} {b o : Nat} {u : Value} (h : w.cell? ⟨b, o, none⟩ = some u) : ∃ cs t fr, w.heap[b]? = some (.cells cs t fr) ∧ cs[o]? = some u := by
  unfold World.cell? at h;cases hb : w.heap[b]? with
  | none => simp [hb] at h
  | some ob =>
    cases ob with
    | cells cs t fr => simp [hb] at h; exact ⟨cs, t, fr, rfl, h⟩
    | _ => simp [hb] at h
structure IK (c : WC) (B kb xb yb : Nat) (ci : Int) (W wr : World) : Prop where
  size : W.heap.size ≤ wr.heap.size
  cell : ∀ (b o : Nat) (u : Value), b < B → W.cell? ⟨b, o, none⟩ = some u → wr.cell? ⟨b, o, none⟩ = some u
  k1 : wr.heap[kb]? = some (.cells #[.pointer (some ⟨c.wb, 0, none⟩)] 127 (0, 0))
  k2 : wr.heap[xb]? = some (.cells #[.int .i64 ci] 3 (0, 0))
  k3 : wr.heap[yb]? = some (.cells #[.int .i64 (ch c.p ci).grow, .int .i64 (ch c.p ci).frost, .int .i64 (ch c.p ci).clear] 99 (0, 0))
section
variable {c : WC} {B kb xb yb : Nat} {ci : Int} {W a b : World}
theorem IK.below (h : IK c B kb xb yb ci W a) (hb : Below a.heap.size a b) : IK c B kb xb yb ci W b :=
  ⟨Nat.le_trans h.size hb.size, fun x o u hx hc => by
    have h1 := h.cell x o u hx hc;exact (hb.cell (p := ⟨x, o, none⟩) (World.block_lt_of_cell? _ _ h1)).trans h1, (hb.block _ (hL_ h.k1)).trans h.k1, (hb.block _ (hL_ h.k2)).trans h.k2, (hb.block _ (hL_ h.k3)).trans h.k3⟩
theorem IK.kp (h : IK c B kb xb yb ci W a) (hk : KpF (freeM B) a b) : IK c B kb xb yb ci W b :=
  ⟨Nat.le_trans h.size hk.size, fun x o u hx hc => by
    have h1 := h.cell x o u hx hc;obtain ⟨cs, t, fr, h2, h3⟩ := cells_of_cell h1;rw [cOH (hk.same x _ h2 rfl (fun hf => by have := hf.1; omega))]; exact h3,
    hk.same _ _ h.k1 rfl (by rintro ⟨_, cs, fr, e⟩; injection e with _ e _; exact absurd e (by decide)),
    hk.same _ _ h.k2 rfl (by rintro ⟨_, cs, fr, e⟩; injection e with _ e _; exact absurd e (by decide)),
    hk.same _ _ h.k3 rfl (by rintro ⟨_, cs, fr, e⟩; injection e with _ e _; exact absurd e (by decide))⟩
end
structure ME (c : WC) (B kb xb yb : Nat) (ci : Int) (W : World) : Prop where
  E : ∃ v u, WcE c W v u
  lt : c.wb < B ∧ c.pb < B ∧ c.lb < B ∧ c.D ≤ B
  ik : IK c B kb xb yb ci W W
  ci0 : 0 ≤ ci ∧ ci < c.p.chs.length
theorem ME.below {c : WC} {B kb xb yb : Nat} {ci : Int} {W W' : World} (h : ME c B kb xb yb ci W) (hb : Below W.heap.size W W') : ME c B kb xb yb ci W' := by
  obtain ⟨⟨v, u, hE⟩, h2, h3, h4⟩ := h;have := h3.below hb;exact ⟨⟨v, u, hE.below hb⟩, h2, ⟨Nat.le_refl _, fun _ _ _ _ h => h, this.k1, this.k2, this.k3⟩, h4⟩
def ItAV (W0 : World) (l0 h m wb pb bk ob nb cb np ck kb xb yb yk : Nat) (ho mo ci gr : Int) (Ak : Option Addr) : Nat → Value → Prop
  | 0, v => v = .pointer (some ⟨yk, 0, none⟩)
  | 1, v => v = .int .i64 ho
  | 2, v => v = .int .i64 h
  | 3, v => v = .bool false
  | 4, v => v = .bool false
  | 19, v => v = .bool false
  | 20, v => v = .bool false
  | 31, v => v = .bool false
  | _, _ => True
def ItAW (W0 : World) (l0 h m wb pb bk ob nb cb np ck kb xb yb yk : Nat) (ho mo ci gr : Int) (Ak : Option Addr) (l : Nat → Bool) (w : World) : Prop := w = W0.drew
def ItBV (W0 : World) (l0 h m wb pb bk ob nb cb np ck kb xb yb yk : Nat) (ho mo ci gr : Int) (Ak : Option Addr) : Nat → Value → Prop
  | 0, v => v = .pointer (some ⟨yk, 0, none⟩)
  | 1, v => v = .int .i64 ho
  | 2, v => v = .int .i64 h
  | 3, v => v = .bool true
  | 4, v => v = .bool true
  | 5, v => v = .pointer (some ⟨wb, 0, none⟩)
  | 6, v => v = .pointer (some ⟨wb, 0, none⟩)
  | 7, v => v = .pointer (some ⟨wb, 0, none⟩)
  | 8, v => v = .pointer (some ⟨pb, 0, none⟩)
  | 9, v => v = .pointer (some ⟨pb, 0, none⟩)
  | 10, v => v = .pointer (some ⟨pb, 1, none⟩)
  | 11, v => v = .slice (some ⟨bk, ob, none⟩) nb cb
  | 12, v => v = .pointer (some ⟨yk, 1, none⟩)
  | 13, v => v = .int .i64 m
  | 14, v => v = .pointer (some ⟨bk, ob + m * 2, none⟩)
  | 15, v => v = .pointer (some ⟨bk, ob + m * 2 + 1, none⟩)
  | 16, v => v = .slice Ak np ck
  | 17, v => v = .int .i64 ci
  | 18, v => v = .bool false
  | 19, v => v = .bool false
  | 20, v => v = .bool false
  | 31, v => v = .bool false
  | _, _ => True
def ItBW (W0 : World) (l0 h m wb pb bk ob nb cb np ck kb xb yb yk : Nat) (ho mo ci gr : Int) (Ak : Option Addr) (l : Nat → Bool) (w : World) : Prop := w = W0.drew
def ItCV (W0 : World) (l0 h m wb pb bk ob nb cb np ck kb xb yb yk : Nat) (ho mo ci gr : Int) (Ak : Option Addr) (Rt Rf : World → Prop) (s : Bool) : Nat → Value → Prop
  | 0, v => v = .pointer (some ⟨yk, 0, none⟩)
  | 1, v => v = .int .i64 ho
  | 2, v => v = .int .i64 h
  | 3, v => v = .bool true
  | 4, v => v = .bool true
  | 5, v => v = .pointer (some ⟨wb, 0, none⟩)
  | 6, v => v = .pointer (some ⟨wb, 0, none⟩)
  | 7, v => v = .pointer (some ⟨wb, 0, none⟩)
  | 8, v => v = .pointer (some ⟨pb, 0, none⟩)
  | 9, v => v = .pointer (some ⟨pb, 0, none⟩)
  | 10, v => v = .pointer (some ⟨pb, 1, none⟩)
  | 11, v => v = .slice (some ⟨bk, ob, none⟩) nb cb
  | 12, v => v = .pointer (some ⟨yk, 1, none⟩)
  | 13, v => v = .int .i64 m
  | 14, v => v = .pointer (some ⟨bk, ob + m * 2, none⟩)
  | 15, v => v = .pointer (some ⟨bk, ob + m * 2 + 1, none⟩)
  | 16, v => v = .slice Ak np ck
  | 17, v => v = .int .i64 ci
  | 18, v => v = .bool true
  | 19, v => v = .bool true
  | 20, v => v = .bool true
  | 21, v => v = .func (.yield l0) #[] #[]
  | 22, v => v = .pointer (some ⟨yb, 0, none⟩)
  | 23, v => v = .int .i64 gr
  | 24, v => v = .pointer (some ⟨yb, 0, none⟩)
  | 25, v => v = .int .i64 gr
  | 26, v => v = .pointer (some ⟨yk, 4, none⟩)
  | 27, v => v = .int .i64 mo
  | 28, v => v = .agg #[.int .i64 gr, .int .i64 gr, .int .i64 mo]
  | 29, v => v = .bool s
  | 30, v => v = .bool (!s)
  | 31, v => v = .bool (!s)
  | _, _ => True
def ItCW (W0 : World) (l0 h m wb pb bk ob nb cb np ck kb xb yb yk : Nat) (ho mo ci gr : Int) (Ak : Option Addr) (Rt Rf : World → Prop) (s : Bool) (l : Nat → Bool) (w : World) : Prop := if l 29 then (s = true ∧ Rt w) ∨ (s = false ∧ Rf w) else w = W0.drew
theorem maps1_stops (c : WC) (B kb xb yb : Nat) (ci : Int) (w : World) (M : ME c B kb xb yb ci w) (hB : B ≤ w.heap.size) (v : Val c.p c.l) (n : Nat) (hn : 1 ≤ n) :
    SeqStopsK Fence.wide n Tryz.prog 97 #[.pointer (some ⟨kb, 0, none⟩), .pointer (some ⟨xb, 0, none⟩), .pointer (some ⟨yb, 0, none⟩)] (fun x : Mp => #[mpV x]) (KpF (freeM B)) (fun xs => xs = mapsS c.p c.l ci) (fun pre => pre <+: mapsS c.p c.l ci) 1000 w := by
  intro l J Jx W hW hJ hJx hY h0;have hM := M.below hW;obtain ⟨⟨v0, u0, hE⟩, hlt, hik, hci⟩ := hM;obtain ⟨H, hH⟩ : ∃ H, H = c.l.hours.toNat := ⟨_, rfl⟩;have hHr : 1 ≤ H ∧ H ≤ 100 := by have := v.h; omega
  have hHi : c.l.hours = (H : Int) := by have := v.h; omega
  have hlen : ∀ pre : List Mp, pre <+: mapsS c.p c.l ci → pre.length < 1000 := fun pre h => by have := prefix_len h; have := mapsS_length v ci; omega
  have f0 : W.cell? ⟨kb, 0, none⟩ = some (.pointer (some ⟨c.wb, 0, none⟩)) := (cOH hik.k1 0).trans rfl;obtain ⟨_, q1, _, _, _, _, q2, _, _, z1, _, z2⟩ := hE.cells;have z0 := hL_ hik.k1;rw [hHi] at q2;have HP := Lib.hid (And.intro hE (And.intro hlt (And.intro hik (And.intro hci (And.intro v (And.intro hlen (And.intro hHi hH)))))));have HY := Lib.hid (And.intro hJ (And.intro hJx (And.intro hY (And.intro h0 hW))));clear hE hlt hik hci v hlen hHi hH hJ hJx hY h0 M hW;refine callsIn_of_wp Tryz.func97 rfl trivial ?_ rfl;simp only [Tryz.ntmps97, List.size_toArray, List.length_cons, List.length_nil, Nat.reduceAdd, Nat.reduceSub, Array.replicate_succ, Array.replicate_zero, List.push_toArray, List.append_toArray, List.nil_append, List.cons_append]
  gi_wp2
  gi_loopw [17] (fun i wr => ∃ h : Nat, h ≤ H ∧ i = .int .i64 h ∧ J (mapsT c.p c.l ci h) wr ∧ IK c B kb xb yb ci W wr) (fun i _ => H - (intOf i).toNat)
  case atStart => exact ⟨0, Nat.zero_le _, rfl, HY.out.2.2.2.1, HP.out.2.2.1⟩
  case round =>
    obtain ⟨h, hh, rfl, hJk, hI⟩ := hrel;by_cases hlt : h < H
    · obtain ⟨L, hL⟩ : ∃ L, L = c.l.swps.length := ⟨_, rfl⟩;have q0 : wr.cell? ⟨kb, 0, none⟩ = some (.pointer (some ⟨c.wb, 0, none⟩)) := (cOH hI.k1 0).trans rfl;obtain ⟨_, p1, _, _, _, _, _, _, p2, _, _, _⟩ := HP.out.1.cells;have q1 := hI.cell _ _ _ HP.out.2.1.1 p1;have q2 := hI.cell _ _ _ HP.out.2.1.2.2.1 p2;rw [← hL] at q2;have z0 := World.block_lt_of_cell? _ _ q0;have z1 := World.block_lt_of_cell? _ _ q1;have z2 := World.block_lt_of_cell? _ _ q2;obtain ⟨w1, rfl⟩ : ∃ w1, w1 = wr := ⟨_, rfl⟩;have H1 := Lib.hid (And.intro hJk (And.intro hI hL));have hL200 : L ≤ 200 := by have := HP.out.2.2.2.2.1.nx; omega
      clear hJk hI hL p1 p2 f0
      gi_wp2
      gi_loopw [28] (fun q wq => ∃ i : Nat, i ≤ L ∧ q = .int .i64 i ∧ J (mapsT c.p c.l ci h ++ swMaps c.p ci h (c.l.swps.take i)) wq ∧ IK c B kb xb yb ci W wq) (fun q _ => L - (intOf q).toNat)
      case atStart => exact ⟨0, Nat.zero_le _, rfl, by simpa [swMaps] using H1.out.1, H1.out.2.1⟩
      case round =>
        obtain ⟨i, hi, rfl, hJi, hI⟩ := hrel;by_cases hil : i < L
        · have hix : i < c.l.swps.length := by have := H1.out.2.2; omega
          obtain ⟨bs, os, eAs, hbs, hcc⟩ := HP.out.1.LB.swps.2 (by omega);obtain ⟨g0, g1, g2⟩ := swcs_get hix;have hsn := swMaps_snoc c.p ci h hix;have hsw := HP.out.2.2.2.2.1.sw _ (List.getElem_mem hix);obtain ⟨x, hx⟩ : ∃ x, x = c.l.swps[i] := ⟨_, rfl⟩;rw [← hx] at g0 g1 g2 hsn hsw;have hbB : bs < B := by have := HP.out.2.1.2.2.2; omega
          have d0 := hI.cell _ _ _ hbB (hcc _ _ g0);have d1 : wr.cell? ⟨bs, os + i * 3 + 1, none⟩ = _ := hI.cell _ _ _ hbB (hcc _ _ g1);have d2 : wr.cell? ⟨bs, os + i * 3 + 2, none⟩ = _ := hI.cell _ _ _ hbB (hcc _ _ g2);have zs := World.block_lt_of_cell? _ _ d0;have x0 : wr.cell? ⟨xb, 0, none⟩ = some (.int .i64 ci) := (cOH hI.k2 0).trans rfl;have zx := World.block_lt_of_cell? _ _ x0;have y2 : wr.cell? ⟨yb, 2, none⟩ = some (.int .i64 (ch c.p ci).clear) := (cOH hI.k3 2).trans rfl;have zy := World.block_lt_of_cell? _ _ y2;have hcl := (HP.out.2.2.2.2.1.chn HP.out.2.2.2.1.1 HP.out.2.2.2.1.2).2.2.2.2;obtain ⟨ho, cn, tg⟩ := x;simp only at g0 g1 g2 hsn hsw d0 d1 d2;have hmul : -4000 ≤ -tg * (ch c.p ci).clear ∧ -tg * (ch c.p ci).clear ≤ 0 := by
            have h3 := Int.mul_le_mul (show tg ≤ 20 by omega) hcl.2 (by omega) (by omega : (0 : Int) ≤ 20);have h4 : 0 ≤ tg * (ch c.p ci).clear := Int.mul_nonneg (by omega) (by omega);rw [Int.neg_mul]; omega
          obtain ⟨cr, hcr⟩ : ∃ cr, cr = (ch c.p ci).clear := ⟨_, rfl⟩;rw [← hcr] at y2 hcl hmul hsn;have H2 := Lib.hid (And.intro hJi (And.intro hI (And.intro hsn hcr)));have htg : 1 ≤ tg ∧ tg ≤ 20 := by omega
          clear hJi hI hsn hcr hsw hcc g0 g1 g2 hx hbs hbB;have bX := Lib.hid ((Below.refl wr.heap.size wr).alloc (Nat.le_refl _) (.cells #[.int .i64 ho, .int .i64 cn, .int .i64 tg] 126));have hJa := HY.out.1 _ wr _ none H2.out.1 (grown_of_below bX.out) (fun r e => by cases e);rw [eAs];by_cases hc1 : ho = h
          · subst hc1;by_cases hc2 : cn = ci
            · subst hc2;have e1 : ((h : Int) == (h : Int)) = true := by simp
              have e2 : (cn == cn) = true := by simp
              have hsn' : swMaps c.p cn h (c.l.swps.take (i + 1)) = swMaps c.p cn h (c.l.swps.take i) ++ [⟨-tg * cr, 0, NL⟩] := by rw [H2.out.2.2.1, if_pos ⟨rfl, rfl⟩]
              obtain ⟨fn, tmps, assign, body, hy, hR⟩ := HY.out.2.2.1 _ ⟨-tg * cr, 0, NL⟩ _ hJa (HP.out.2.2.2.2.2.1 _ (prefix_in1 (by have := HP.out.2.2.2.2.2.2.2; omega)));have HQ := Lib.hid (And.intro hsn' hR);clear hJa hsn' hR;dsimp only [mpV, NL] at hy
              gi_wp2
              refine HQ.out.2.mono ?_;rintro e W3 (⟨rfl, hJ3, hk3⟩ | ⟨rfl, hJx3⟩)
              · have HZ := Lib.hid (And.intro hJ3 hk3);clear hJ3 hk3
                gi_wp2
                go_roundw;case rel => exact ⟨i + 1, by omega, by go_num, by rw [HQ.out.1, ← List.append_assoc]; exact HZ.out.1, (H2.out.2.1.below bX.out).kp HZ.out.2⟩
                case measure => simp [intOf]; omega
              · have HZ := Lib.hid hJx3;clear hJx3
                gi_wp2
                refine bodyPost_ret (results_none rfl _ _ _) rfl ?_;refine ⟨⟨_, rfl⟩, .inr ⟨_, ?_, HZ.out⟩⟩;rw [List.append_assoc, ← HQ.out.1];exact prefix_in1 (by have := HP.out.2.2.2.2.2.2.2; omega)
            · have e1 : ((h : Int) == (h : Int)) = true := by simp
              have e2 : (cn == ci) = false := by simpa using hc2
              have hsn' : swMaps c.p ci h (c.l.swps.take (i + 1)) = swMaps c.p ci h (c.l.swps.take i) := by rw [H2.out.2.2.1, if_neg (fun q => hc2 q.2), List.append_nil]
              have HQ := Lib.hid (And.intro hsn' hJa);clear hJa hsn' hc2
              gi_wp2
              repeat (refine ⟨fun _ h => (by cases h), ?_⟩; gi_wp2)
              go_roundw;case rel => exact ⟨i + 1, by omega, by go_num, by rw [HQ.out.1]; exact HQ.out.2, H2.out.2.1.below bX.out⟩
              case measure => simp [intOf]; omega
          · have e1 : (ho == (h : Int)) = false := by simpa using hc1
            have hsn' : swMaps c.p ci h (c.l.swps.take (i + 1)) = swMaps c.p ci h (c.l.swps.take i) := by rw [H2.out.2.2.1, if_neg (fun q => hc1 q.1), List.append_nil]
            have HQ := Lib.hid (And.intro hsn' hJa);clear hJa hsn' hc1
            gi_wp2
            repeat (refine ⟨fun _ h => (by cases h), ?_⟩; gi_wp2)
            go_roundw;case rel => exact ⟨i + 1, by omega, by go_num, by rw [HQ.out.1]; exact HQ.out.2, H2.out.2.1.below bX.out⟩
            case measure => simp [intOf]; omega
        · obtain rfl : i = L := by omega
          obtain ⟨M, hM⟩ : ∃ M, M = c.l.calls.length := ⟨_, rfl⟩;have hM60 : M ≤ 60 := by have := HP.out.2.2.2.2.1.nx; omega
          have q0 : wr.cell? ⟨kb, 0, none⟩ = some (.pointer (some ⟨c.wb, 0, none⟩)) := (cOH hI.k1 0).trans rfl;obtain ⟨_, p1, _, _, _, _, _, p2, _, _, _, _⟩ := HP.out.1.cells;have q1 := hI.cell _ _ _ HP.out.2.1.1 p1;have q2 := hI.cell _ _ _ HP.out.2.1.2.2.1 p2;rw [← hM] at q2;have z0 := World.block_lt_of_cell? _ _ q0;have z1 := World.block_lt_of_cell? _ _ q1;have z2 := World.block_lt_of_cell? _ _ q2;have hJ2 : J (mapsT c.p c.l ci h ++ swMaps c.p ci h c.l.swps) wr := by rw [H1.out.2.2, List.take_length] at hJi; exact hJi
          obtain ⟨w2, rfl⟩ : ∃ w2, w2 = wr := ⟨_, rfl⟩;have H3 := Lib.hid (And.intro hJ2 (And.intro hI hM));clear hJi hJ2 hI hM p1 p2
          gi_wp2
          gi_loopw [63] (fun q wq => ∃ j : Nat, j ≤ M ∧ q = .int .i64 j ∧ J (mapsT c.p c.l ci h ++ (swMaps c.p ci h c.l.swps ++ caMaps c.p ci h (c.l.calls.take j))) wq ∧ IK c B kb xb yb ci W wq) (fun q _ => M - (intOf q).toNat)
          case atStart => exact ⟨0, Nat.zero_le _, rfl, by simpa [caMaps] using H3.out.1, H3.out.2.1⟩
          case round =>
            obtain ⟨j, hj, rfl, hJj, hI⟩ := hrel;by_cases hjl : j < M
            · have hjx : j < c.l.calls.length := by have := H3.out.2.2; omega
              obtain ⟨bs, os, eAl, hbs, hcc⟩ := HP.out.1.LB.calls.2 (by omega);obtain ⟨g0, g1, g2, g3, g4, g5⟩ := cacs_get hjx;have hsn := caMaps_snoc c.p ci h hjx;have hca := HP.out.2.2.2.2.1.ca _ (List.getElem_mem hjx);obtain ⟨x, hx⟩ : ∃ x, x = c.l.calls[j] := ⟨_, rfl⟩;rw [← hx] at g0 g1 g2 g3 g4 g5 hsn hca;have hbB : bs < B := by have := HP.out.2.1.2.2.2; omega
              have d0 := hI.cell _ _ _ hbB (hcc _ _ g0);have d1 : wr.cell? ⟨bs, os + j * 6 + 1, none⟩ = _ := hI.cell _ _ _ hbB (hcc _ _ g1);have d2 : wr.cell? ⟨bs, os + j * 6 + 2, none⟩ = _ := hI.cell _ _ _ hbB (hcc _ _ g2);have d3 : wr.cell? ⟨bs, os + j * 6 + 3, none⟩ = _ := hI.cell _ _ _ hbB (hcc _ _ g3);have d4 : wr.cell? ⟨bs, os + j * 6 + 4, none⟩ = _ := hI.cell _ _ _ hbB (hcc _ _ g4);have d5 : wr.cell? ⟨bs, os + j * 6 + 5, none⟩ = _ := hI.cell _ _ _ hbB (hcc _ _ g5);have zs := World.block_lt_of_cell? _ _ d0;obtain ⟨ho, be, ou, dr, mo, tg⟩ := x;simp only at g0 g1 g2 g3 g4 g5 hsn hca d0 d1 d2 d3 d4 d5;obtain ⟨m0, m1, mo0, mo1, _⟩ := hca;obtain ⟨m, rfl⟩ := Int.eq_ofNat_of_zero_le m0;have hm : m < c.p.bts.length := by omega
              obtain ⟨W2, hW2⟩ : ∃ W2, W2 = wr.alloc (.cells #[.int .i64 ho, .int .i64 m, .bool ou, .int .i64 dr, .int .i64 mo, .int .i64 tg] 124) := ⟨_, rfl⟩;obtain ⟨yk, hyk⟩ : ∃ yk, yk = wr.heap.size := ⟨_, rfl⟩;have hxh : W2.heap[yk]? = some (.cells #[.int .i64 ho, .int .i64 m, .bool ou, .int .i64 dr, .int .i64 mo, .int .i64 tg] 124 (0, 0)) := by rw [hW2, hyk]; exact heap_alloc_new _ _
              have bX : Below wr.heap.size wr W2 := by rw [hW2]; exact (Below.refl _ _).alloc (Nat.le_refl _) _
              have I2 := hI.below bX;have hJ2 := HY.out.1 _ wr _ none hJj (grown_of_below (bX.drew)) (fun r e => by cases e);obtain ⟨bk, ob, Ak, ck, eAb, hbk, _, y2, y3⟩ := HP.out.1.PB.bts m hm;have hbt : bt c.p (m : Int) = c.p.bts[m] := by simp [bt, hm]
              obtain ⟨pth, hpth⟩ : ∃ q, q = c.p.bts[m].path := ⟨_, rfl⟩;rw [← hpth] at y2 y3;have hbt2 : (bt c.p (m : Int)).path = pth := by rw [hbt, hpth]
              rw [hbt2] at hsn;have hbkB : bk < B := by have := HP.out.2.1.2.2.2; omega
              obtain ⟨p0, _, _, _, _, p5, _, _, _, _, _, _⟩ := HP.out.1.cells;rw [eAb] at p5;have r0 : W2.cell? ⟨kb, 0, none⟩ = some (.pointer (some ⟨c.wb, 0, none⟩)) := (cOH I2.k1 0).trans rfl;have r1 := I2.cell _ _ _ HP.out.2.1.1 p0;have r2 := I2.cell _ _ _ HP.out.2.1.2.1 p5;have r3 : W2.cell? ⟨bk, ob + m * 2 + 1, none⟩ = _ := I2.cell _ _ _ hbkB y2;have r4 : W2.cell? ⟨xb, 0, none⟩ = some (.int .i64 ci) := (cOH I2.k2 0).trans rfl;have r5 : W2.cell? ⟨yb, 0, none⟩ = some (.int .i64 (ch c.p ci).grow) := (cOH I2.k3 0).trans rfl;have r6 : W2.cell? ⟨yk, 0, none⟩ = some (.int .i64 ho) := (cOH hxh 0).trans rfl;have r7 : W2.cell? ⟨yk, 1, none⟩ = some (.int .i64 m) := (cOH hxh 1).trans rfl;have r8 : W2.cell? ⟨yk, 4, none⟩ = some (.int .i64 mo) := (cOH hxh 4).trans rfl;have t0 := World.block_lt_of_cell? _ _ r0;have t1 := World.block_lt_of_cell? _ _ r1;have t2 := World.block_lt_of_cell? _ _ r2;have t3 := World.block_lt_of_cell? _ _ r3;have t4 := World.block_lt_of_cell? _ _ r4;have t5 := World.block_lt_of_cell? _ _ r5;have t6 := World.block_lt_of_cell? _ _ r6;obtain ⟨gr, hgr⟩ : ∃ gr, gr = (ch c.p ci).grow := ⟨_, rfl⟩;rw [← hgr] at r5 hsn;have k1 : (0 : Int) ≤ (m : Int) := by omega
              have k2 : (m : Int) < (c.p.bts.length : Int) := by omega
              have hpl : pth.length ≤ 6 := by
                have hbv := HP.out.2.2.2.2.1.btf _ (List.getElem_mem hm);rw [← hpth] at hbv;have := nodup_range_le hbv.2.1 hbv.2.2;have := HP.out.2.2.2.2.1.nc;omega
              have rp : Rd W2.drew 1 Ak pth.length (ints pth) := by
                refine ⟨y3.1.1, fun h0 => ?_⟩;obtain ⟨b', o', e', hb', hc'⟩ := y3.1.2 h0;refine ⟨b', o', e', ?_, fun q u hu => I2.cell _ _ _ (by have := HP.out.2.1.2.2.2; omega) (hc' q u hu)⟩;have := I2.cell _ _ _ (by have := HP.out.2.1.2.2.2; omega) (hc' 0 _ (iG_ h0));exact World.block_lt_of_cell? _ _ this
              have kC := contI_any Ak ck pth ci W2.drew rp (by omega);obtain ⟨ct, hct⟩ : ∃ ct, ct = pth.contains ci := ⟨_, rfl⟩;rw [← hct] at kC hsn;have H4 := Lib.hid (And.intro hJ2 (And.intro hI (And.intro I2 (And.intro hsn bX))));have HC := Lib.hid kC;clear hJj hI bX I2 hJ2 hsn kC rp eAb hbk hbkB y2 y3 hpth hbt hbt2 hxh hcc g0 g1 g2 g3 g4 g5 hx hbs hbB p0 p5 hgr hct;rw [eAl];by_cases hc1 : ho = h
              · subst hc1;have e1 : ((h : Int) == (h : Int)) = true := by simp
                cases ct
                · have hsn' : caMaps c.p ci h (c.l.calls.take (j + 1)) = caMaps c.p ci h (c.l.calls.take j) := by rw [H4.out.2.2.2.1, if_neg (fun q => by simpa using q.2), List.append_nil]
                  have HQ := Lib.hid hsn';clear hsn'
                  gi_upto_region 11 with fail
                  rw [← hW2, ← hyk];clear hW2 hyk d0 d1 d2 d3 d4 d5 zs;refine wpIn_region_stepsI (σ := Unit) (by kernel_rfl) (by kernel_rfl) (fun _ jx vx _ => ItBV W2 l h m c.wb c.pb bk ob c.p.bts.length c.cb pth.length ck kb xb yb yk (h : Int) mo ci gr Ak jx vx) (fun _ ly wx => ItBW W2 l h m c.wb c.pb bk ob c.p.bts.length c.cb pth.length ck kb xb yb yk (h : Int) mo ci gr Ak ly wx) () ?_ ?_ ?_
                  · exact rfl
                  · simp only [AllFrom, Nat.zero_add, Nat.reduceAdd];refine ⟨?_, ?_, ?_, ?_, ?_, ?_, ?_, ?_, ?_, ?_, ?_, ?_, ?_, ?_, ?_, ?_, ?_, ?_, ?_, ?_, ?_, ?_, ?_, ?_, ?_, ?_, ?_, ?_, ?_, ?_, ?_, ?_, trivial⟩
                    · refine sIP rfl ?_;refine iP_ fun sg ly a wr hl hd hW hF => ?_;have et9 := hF.old 9 (by kernel_rfl);simp [Act.eval] at et9;exact ⟨by simpa [ItBW, upd] using hW, .pointer (some ⟨yk, 0, none⟩), by go_simp, rfl⟩
                    · refine sIP rfl ?_;refine iP_ fun sg ly a wr hl hd hW hF => ?_;simp [Region.binds] at hd;have et67 := hF.new 0 67 (by simp [hd]) rfl;simp [ItBV, Act.eval] at et67;have hW' := hW;unfold ItBW at hW';subst hW';exact ⟨rfl, _, by go_simp, rfl⟩
                    · refine sIP rfl ?_;refine iP_ fun sg ly a wr hl hd hW hF => ?_;have et5 := hF.old 5 (by kernel_rfl);simp [Act.eval] at et5;exact ⟨by simpa [ItBW, upd] using hW, .int .i64 h, by go_simp, rfl⟩
                    · refine sIP rfl ?_;refine iP_ fun sg ly a wr hl hd hW hF => ?_;simp [Region.binds] at hd;have et68 := hF.new 1 68 (by simp [hd]) rfl;simp [ItBV, Act.eval] at et68;have et69 := hF.new 2 69 (by simp [hd]) rfl;simp [ItBV, Act.eval] at et69;exact ⟨by simpa [ItBW, upd] using hW, .bool true, by go_simp, rfl⟩
                    · refine sIP rfl ?_;refine iP_ fun sg ly a wr hl hd hW hF => ?_;simp [Region.binds] at hd;have et70 := hF.new 3 70 (by simp [hd]) rfl;simp [ItBV, Act.eval] at et70;exact ⟨by simpa [ItBW, upd] using hW, .bool true, by go_simp, rfl⟩
                    · refine sIY ?_ ?_;rotate_left
                      · intro sg ly a wr hd hF;simp [Region.binds] at hd;exact wQ_ hF (g := 4) (d := 71) (z := true) (b := true) rfl rfl (by simp [hd]) (fun v hv => hv)
                      refine iP_ fun sg ly a wr hl hd hW hF => ?_;have et1 := hF.old 1 (by kernel_rfl);simp [Act.eval] at et1;have hW' := hW;unfold ItBW at hW';subst hW';exact ⟨rfl, _, by go_simp, rfl⟩
                    · refine sIY ?_ ?_;rotate_left
                      · intro sg ly a wr hd hF;simp [Region.binds] at hd;exact wQ_ hF (g := 4) (d := 71) (z := true) (b := true) rfl rfl (by simp [hd]) (fun v hv => hv)
                      refine iP_ fun sg ly a wr hl hd hW hF => ?_;simp [Region.binds] at hd;have et72 := hF.new 5 72 (by simp [hd]) rfl;simp [ItBV, Act.eval] at et72;exact ⟨by simpa [ItBW, upd] using hW, .pointer (some ⟨c.wb, 0, none⟩), by go_simp, rfl⟩
                    · refine sIY ?_ ?_;rotate_left
                      · intro sg ly a wr hd hF;simp [Region.binds] at hd;exact wQ_ hF (g := 4) (d := 71) (z := true) (b := true) rfl rfl (by simp [hd]) (fun v hv => hv)
                      refine iP_ fun sg ly a wr hl hd hW hF => ?_;simp [Region.binds] at hd;have et73 := hF.new 6 73 (by simp [hd]) rfl;simp [ItBV, Act.eval] at et73;exact ⟨by simpa [ItBW, upd] using hW, .pointer (some ⟨c.wb, 0, none⟩), by go_simp, rfl⟩
                    · refine sIY ?_ ?_;rotate_left
                      · intro sg ly a wr hd hF;simp [Region.binds] at hd;exact wQ_ hF (g := 4) (d := 71) (z := true) (b := true) rfl rfl (by simp [hd]) (fun v hv => hv)
                      refine iP_ fun sg ly a wr hl hd hW hF => ?_;simp [Region.binds] at hd;have et74 := hF.new 7 74 (by simp [hd]) rfl;simp [ItBV, Act.eval] at et74;have hW' := hW;unfold ItBW at hW';subst hW';exact ⟨rfl, _, by go_simp, rfl⟩
                    · refine sIY ?_ ?_;rotate_left
                      · intro sg ly a wr hd hF;simp [Region.binds] at hd;exact wQ_ hF (g := 4) (d := 71) (z := true) (b := true) rfl rfl (by simp [hd]) (fun v hv => hv)
                      refine iP_ fun sg ly a wr hl hd hW hF => ?_;simp [Region.binds] at hd;have et75 := hF.new 8 75 (by simp [hd]) rfl;simp [ItBV, Act.eval] at et75;exact ⟨by simpa [ItBW, upd] using hW, .pointer (some ⟨c.pb, 0, none⟩), by go_simp, rfl⟩
                    · refine sIY ?_ ?_;rotate_left
                      · intro sg ly a wr hd hF;simp [Region.binds] at hd;exact wQ_ hF (g := 4) (d := 71) (z := true) (b := true) rfl rfl (by simp [hd]) (fun v hv => hv)
                      refine iP_ fun sg ly a wr hl hd hW hF => ?_;simp [Region.binds] at hd;have et76 := hF.new 9 76 (by simp [hd]) rfl;simp [ItBV, Act.eval] at et76;exact ⟨by simpa [ItBW, upd] using hW, .pointer (some ⟨c.pb, 1, none⟩), by go_simp, rfl⟩
                    · refine sIY ?_ ?_;rotate_left
                      · intro sg ly a wr hd hF;simp [Region.binds] at hd;exact wQ_ hF (g := 4) (d := 71) (z := true) (b := true) rfl rfl (by simp [hd]) (fun v hv => hv)
                      refine iP_ fun sg ly a wr hl hd hW hF => ?_;simp [Region.binds] at hd;have et77 := hF.new 10 77 (by simp [hd]) rfl;simp [ItBV, Act.eval] at et77;have hW' := hW;unfold ItBW at hW';subst hW';exact ⟨rfl, _, by go_simp, rfl⟩
                    · refine sIY ?_ ?_;rotate_left
                      · intro sg ly a wr hd hF;simp [Region.binds] at hd;exact wQ_ hF (g := 4) (d := 71) (z := true) (b := true) rfl rfl (by simp [hd]) (fun v hv => hv)
                      refine iP_ fun sg ly a wr hl hd hW hF => ?_;have et9 := hF.old 9 (by kernel_rfl);simp [Act.eval] at et9;exact ⟨by simpa [ItBW, upd] using hW, .pointer (some ⟨yk, 1, none⟩), by go_simp, rfl⟩
                    · refine sIY ?_ ?_;rotate_left
                      · intro sg ly a wr hd hF;simp [Region.binds] at hd;exact wQ_ hF (g := 4) (d := 71) (z := true) (b := true) rfl rfl (by simp [hd]) (fun v hv => hv)
                      refine iP_ fun sg ly a wr hl hd hW hF => ?_;simp [Region.binds] at hd;have et79 := hF.new 12 79 (by simp [hd]) rfl;simp [ItBV, Act.eval] at et79;have hW' := hW;unfold ItBW at hW';subst hW';exact ⟨rfl, _, by go_simp, rfl⟩
                    · refine sIY ?_ ?_;rotate_left
                      · intro sg ly a wr hd hF;simp [Region.binds] at hd;exact wQ_ hF (g := 4) (d := 71) (z := true) (b := true) rfl rfl (by simp [hd]) (fun v hv => hv)
                      refine iP_ fun sg ly a wr hl hd hW hF => ?_;simp [Region.binds] at hd;have et78 := hF.new 11 78 (by simp [hd]) rfl;simp [ItBV, Act.eval] at et78;have et80 := hF.new 13 80 (by simp [hd]) rfl;simp [ItBV, Act.eval] at et80;exact ⟨by simpa [ItBW, upd] using hW, .pointer (some ⟨bk, ob + m * 2, none⟩), by go_simp, rfl⟩
                    · refine sIY ?_ ?_;rotate_left
                      · intro sg ly a wr hd hF;simp [Region.binds] at hd;exact wQ_ hF (g := 4) (d := 71) (z := true) (b := true) rfl rfl (by simp [hd]) (fun v hv => hv)
                      refine iP_ fun sg ly a wr hl hd hW hF => ?_;simp [Region.binds] at hd;have et81 := hF.new 14 81 (by simp [hd]) rfl;simp [ItBV, Act.eval] at et81;exact ⟨by simpa [ItBW, upd] using hW, .pointer (some ⟨bk, ob + m * 2 + 1, none⟩), by go_simp, rfl⟩
                    · refine sIY ?_ ?_;rotate_left
                      · intro sg ly a wr hd hF;simp [Region.binds] at hd;exact wQ_ hF (g := 4) (d := 71) (z := true) (b := true) rfl rfl (by simp [hd]) (fun v hv => hv)
                      refine iP_ fun sg ly a wr hl hd hW hF => ?_;simp [Region.binds] at hd;have et82 := hF.new 15 82 (by simp [hd]) rfl;simp [ItBV, Act.eval] at et82;have hW' := hW;unfold ItBW at hW';subst hW';exact ⟨rfl, _, by go_simp, rfl⟩
                    · refine sIY ?_ ?_;rotate_left
                      · intro sg ly a wr hd hF;simp [Region.binds] at hd;exact wQ_ hF (g := 4) (d := 71) (z := true) (b := true) rfl rfl (by simp [hd]) (fun v hv => hv)
                      refine iP_ fun sg ly a wr hl hd hW hF => ?_;have et2 := hF.old 2 (by kernel_rfl);simp [Act.eval] at et2;have hW' := hW;unfold ItBW at hW';subst hW';exact ⟨rfl, _, by go_simp, rfl⟩
                    · refine sIY ?_ ?_;rotate_left
                      · intro sg ly a wr hd hF;simp [Region.binds] at hd;exact wQ_ hF (g := 4) (d := 71) (z := true) (b := true) rfl rfl (by simp [hd]) (fun v hv => hv)
                      refine stepin_call fun sg ly a wr hl hd hW hF => ?_;simp [Region.binds] at hd;have et83 := hF.new 16 83 (by simp [hd]) rfl;simp [ItBV, Act.eval] at et83;have et84 := hF.new 17 84 (by simp [hd]) rfl;simp [ItBV, Act.eval] at et84;have hW' := hW;unfold ItBW at hW';subst hW';refine ⟨93, #[.slice Ak pth.length ck, .int .i64 ci], by go_simp, HC.out.mono ?_⟩;rintro e w2 ⟨rfl, rfl⟩;exact ⟨_, (), rfl, rfl, rfl, fun _ _ _ h => h⟩
                    · refine sIP rfl ?_;refine iP_ fun sg ly a wr hl hd hW hF => ?_;simp [Region.binds] at hd;have et71 := hF.new 4 71 (by simp [hd]) rfl;simp [ItBV, Act.eval] at et71;have et85 := hF.new 18 85 (by simp [hd]) rfl;simp [ItBV, Act.eval] at et85;exact ⟨by simpa [ItBW, upd] using hW, .bool false, by go_simp, rfl⟩
                    · refine sIP rfl ?_;refine iP_ fun sg ly a wr hl hd hW hF => ?_;simp [Region.binds] at hd;have et86 := hF.new 19 86 (by simp [hd]) rfl;simp [ItBV, Act.eval] at et86;exact ⟨by simpa [ItBW, upd] using hW, .bool false, by go_simp, rfl⟩
                    · refine stepI_no ?_ ?_;rotate_left
                      · intro sg ly a wr hd hF;simp [Region.binds] at hd;exact wQ_ hF (g := 20) (d := 87) (z := false) (b := true) rfl rfl (by simp [hd]) (fun v hv => hv)
                      exact fun sg ly a wr hl hW => ⟨by simpa [ItBW, upd] using hW, trivial⟩
                    · refine stepI_no ?_ ?_;rotate_left
                      · intro sg ly a wr hd hF;simp [Region.binds] at hd;exact wQ_ hF (g := 20) (d := 87) (z := false) (b := true) rfl rfl (by simp [hd]) (fun v hv => hv)
                      exact fun sg ly a wr hl hW => ⟨by simpa [ItBW, upd] using hW, trivial⟩
                    · refine stepI_no ?_ ?_;rotate_left
                      · intro sg ly a wr hd hF;simp [Region.binds] at hd;exact wQ_ hF (g := 20) (d := 87) (z := false) (b := true) rfl rfl (by simp [hd]) (fun v hv => hv)
                      exact fun sg ly a wr hl hW => ⟨by simpa [ItBW, upd] using hW, trivial⟩
                    · refine stepI_no ?_ ?_;rotate_left
                      · intro sg ly a wr hd hF;simp [Region.binds] at hd;exact wQ_ hF (g := 20) (d := 87) (z := false) (b := true) rfl rfl (by simp [hd]) (fun v hv => hv)
                      exact fun sg ly a wr hl hW => ⟨by simpa [ItBW, upd] using hW, trivial⟩
                    · refine stepI_no ?_ ?_;rotate_left
                      · intro sg ly a wr hd hF;simp [Region.binds] at hd;exact wQ_ hF (g := 20) (d := 87) (z := false) (b := true) rfl rfl (by simp [hd]) (fun v hv => hv)
                      exact fun sg ly a wr hl hW => ⟨by simpa [ItBW, upd] using hW, trivial⟩
                    · refine stepI_no ?_ ?_;rotate_left
                      · intro sg ly a wr hd hF;simp [Region.binds] at hd;exact wQ_ hF (g := 20) (d := 87) (z := false) (b := true) rfl rfl (by simp [hd]) (fun v hv => hv)
                      exact fun sg ly a wr hl hW => ⟨by simpa [ItBW, upd] using hW, trivial⟩
                    · refine stepI_no ?_ ?_;rotate_left
                      · intro sg ly a wr hd hF;simp [Region.binds] at hd;exact wQ_ hF (g := 20) (d := 87) (z := false) (b := true) rfl rfl (by simp [hd]) (fun v hv => hv)
                      exact fun sg ly a wr hl hW => ⟨by simpa [ItBW, upd] using hW, trivial⟩
                    · refine stepI_no ?_ ?_;rotate_left
                      · intro sg ly a wr hd hF;simp [Region.binds] at hd;exact wQ_ hF (g := 20) (d := 87) (z := false) (b := true) rfl rfl (by simp [hd]) (fun v hv => hv)
                      exact fun sg ly a wr hl hW => ⟨by simpa [ItBW, upd] using hW, trivial⟩
                    · refine stepI_no ?_ ?_;rotate_left
                      · intro sg ly a wr hd hF;simp [Region.binds] at hd;exact wQ_ hF (g := 20) (d := 87) (z := false) (b := true) rfl rfl (by simp [hd]) (fun v hv => hv)
                      exact fun sg ly a wr hl hW => ⟨by simpa [ItBW, upd] using hW, trivial⟩
                    · refine stepI_no ?_ ?_;rotate_left
                      · intro sg ly a wr hd hF;simp [Region.binds] at hd;exact wQ_ hF (g := 20) (d := 87) (z := false) (b := true) rfl rfl (by simp [hd]) (fun v hv => hv)
                      exact fun sg ly a wr hl hW => ⟨by simpa [ItBW, upd] using hW, trivial⟩
                    · refine sIP rfl ?_;refine iP_ fun sg ly a wr hl hd hW hF => ?_;have et87 := hF.new 20 87 (by simp [Region.binds] at hd; simp [hd]) rfl;simp [ItBV, Act.eval] at et87;exact ⟨by simpa [ItBW, upd] using hW, .bool false, by go_simp, rfl⟩
                  intro _ a w5 hWW hF;have e98 := hF.new 31 98 (by decide) rfl;obtain ⟨f5, hf5, rfl⟩ := hF.lit;rw [← hf5] at e98;simp only [ItBV] at e98;obtain rfl : w5 = W2.drew := hWW;clear hf5 hF;simp only [List.filterMap, List.foldl, List.setIfInBounds_toArray, List.set_cons_succ, List.set_cons_zero, e98];clear e98
                  gi_wp2
                  go_roundw;case rel => exact ⟨j + 1, by omega, by go_num, by rw [HQ.out]; exact H4.out.1, H4.out.2.1.below H4.out.2.2.2.2.drew⟩
                  case measure => simp [intOf]; omega
                · have hsn' : caMaps c.p ci h (c.l.calls.take (j + 1)) = caMaps c.p ci h (c.l.calls.take j) ++ [⟨gr, gr, mo⟩] := by rw [H4.out.2.2.2.1, if_pos ⟨rfl, rfl⟩]
                  obtain ⟨fn, tmps, assign, body, hy, hR⟩ := HY.out.2.2.1 _ ⟨gr, gr, mo⟩ _ H4.out.1 (HP.out.2.2.2.2.2.1 _ (prefix_in2 (by have := HP.out.2.2.2.2.2.2.2; omega)));obtain ⟨Rt, hRt⟩ : ∃ Rt : World → Prop, Rt = fun W3 => J ((mapsT c.p c.l ci h ++ (swMaps c.p ci h c.l.swps ++ caMaps c.p ci h (c.l.calls.take j))) ++ [⟨gr, gr, mo⟩]) W3 ∧ KpF (freeM B) W2.drew W3 := ⟨_, rfl⟩;obtain ⟨Rf, hRf⟩ : ∃ Rf : World → Prop, Rf = fun W3 => Jx ((mapsT c.p c.l ci h ++ (swMaps c.p ci h c.l.swps ++ caMaps c.p ci h (c.l.calls.take j))) ++ [⟨gr, gr, mo⟩]) W3 := ⟨_, rfl⟩;have hR2 := hR.mono (R' := fun e W' => (e = .returned (.bool true) ∧ Rt W') ∨ (e = .returned (.bool false) ∧ Rf W')) (fun e W' h => by rw [hRt, hRf]; exact h);have HR := Lib.hid hR2;have HQ := Lib.hid (And.intro hsn' (And.intro hRt hRf));clear hsn' hR hR2 hRt hRf;dsimp only [mpV] at hy
                  gi_upto_region 11 with fail
                  rw [← hW2, ← hyk];clear hW2 hyk d0 d1 d2 d3 d4 d5 zs;refine wpIn_region_stepsI (σ := Bool) (by kernel_rfl) (by kernel_rfl) (fun sg jx vx _ => ItCV W2 l h m c.wb c.pb bk ob c.p.bts.length c.cb pth.length ck kb xb yb yk (h : Int) mo ci gr Ak Rt Rf sg jx vx) (fun sg ly wx => ItCW W2 l h m c.wb c.pb bk ob c.p.bts.length c.cb pth.length ck kb xb yb yk (h : Int) mo ci gr Ak Rt Rf sg ly wx) false ?_ ?_ ?_
                  · exact (by unfold ItCW; rw [if_neg (by simp)])
                  · simp only [AllFrom, Nat.zero_add, Nat.reduceAdd];refine ⟨?_, ?_, ?_, ?_, ?_, ?_, ?_, ?_, ?_, ?_, ?_, ?_, ?_, ?_, ?_, ?_, ?_, ?_, ?_, ?_, ?_, ?_, ?_, ?_, ?_, ?_, ?_, ?_, ?_, ?_, ?_, ?_, trivial⟩
                    · refine sIP rfl ?_;refine iP_ fun sg ly a wr hl hd hW hF => ?_;have et9 := hF.old 9 (by kernel_rfl);simp [Act.eval] at et9;exact ⟨by simpa [ItCW, upd] using hW, .pointer (some ⟨yk, 0, none⟩), by go_simp, rfl⟩
                    · refine sIP rfl ?_;refine iP_ fun sg ly a wr hl hd hW hF => ?_;simp [Region.binds] at hd;have et67 := hF.new 0 67 (by simp [hd]) rfl;simp [ItCV, Act.eval] at et67;have n29_3 := hF.notYet 1 3 hl (by kernel_rfl);have n29_4 := hF.notYet 3 4 n29_3 (by kernel_rfl);have n29_19 := hF.notYet 4 19 n29_4 (by kernel_rfl);have n29_20 := hF.notYet 19 20 n29_19 (by kernel_rfl);have n29 := hF.notYet 20 29 n29_20 (by kernel_rfl);have hW' := hW;unfold ItCW at hW';rw [if_neg (by simp [n29])] at hW';subst hW';exact ⟨by unfold ItCW; rw [if_neg (by simp [upd, n29])], _, by go_simp, rfl⟩
                    · refine sIP rfl ?_;refine iP_ fun sg ly a wr hl hd hW hF => ?_;have et5 := hF.old 5 (by kernel_rfl);simp [Act.eval] at et5;exact ⟨by simpa [ItCW, upd] using hW, .int .i64 h, by go_simp, rfl⟩
                    · refine sIP rfl ?_;refine iP_ fun sg ly a wr hl hd hW hF => ?_;simp [Region.binds] at hd;have et68 := hF.new 1 68 (by simp [hd]) rfl;simp [ItCV, Act.eval] at et68;have et69 := hF.new 2 69 (by simp [hd]) rfl;simp [ItCV, Act.eval] at et69;exact ⟨by simpa [ItCW, upd] using hW, .bool true, by go_simp, rfl⟩
                    · refine sIP rfl ?_;refine iP_ fun sg ly a wr hl hd hW hF => ?_;simp [Region.binds] at hd;have et70 := hF.new 3 70 (by simp [hd]) rfl;simp [ItCV, Act.eval] at et70;exact ⟨by simpa [ItCW, upd] using hW, .bool true, by go_simp, rfl⟩
                    · refine sIY ?_ ?_;rotate_left
                      · intro sg ly a wr hd hF;simp [Region.binds] at hd;exact wQ_ hF (g := 4) (d := 71) (z := true) (b := true) rfl rfl (by simp [hd]) (fun v hv => hv)
                      refine iP_ fun sg ly a wr hl hd hW hF => ?_;have et1 := hF.old 1 (by kernel_rfl);simp [Act.eval] at et1;have n29_6 := hF.notYet 5 6 hl (by kernel_rfl);have n29_7 := hF.notYet 6 7 n29_6 (by kernel_rfl);have n29_8 := hF.notYet 7 8 n29_7 (by kernel_rfl);have n29_9 := hF.notYet 8 9 n29_8 (by kernel_rfl);have n29_10 := hF.notYet 9 10 n29_9 (by kernel_rfl);have n29_11 := hF.notYet 10 11 n29_10 (by kernel_rfl);have n29_14 := hF.notYet 11 14 n29_11 (by kernel_rfl);have n29_15 := hF.notYet 14 15 n29_14 (by kernel_rfl);have n29_16 := hF.notYet 15 16 n29_15 (by kernel_rfl);have n29_18 := hF.notYet 16 18 n29_16 (by kernel_rfl);have n29_20 := hF.notYet 18 20 n29_18 (by kernel_rfl);have n29 := hF.notYet 20 29 n29_20 (by kernel_rfl);have hW' := hW;unfold ItCW at hW';rw [if_neg (by simp [n29])] at hW';subst hW';exact ⟨by unfold ItCW; rw [if_neg (by simp [upd, n29])], _, by go_simp, rfl⟩
                    · refine sIY ?_ ?_;rotate_left
                      · intro sg ly a wr hd hF;simp [Region.binds] at hd;exact wQ_ hF (g := 4) (d := 71) (z := true) (b := true) rfl rfl (by simp [hd]) (fun v hv => hv)
                      refine iP_ fun sg ly a wr hl hd hW hF => ?_;simp [Region.binds] at hd;have et72 := hF.new 5 72 (by simp [hd]) rfl;simp [ItCV, Act.eval] at et72;exact ⟨by simpa [ItCW, upd] using hW, .pointer (some ⟨c.wb, 0, none⟩), by go_simp, rfl⟩
                    · refine sIY ?_ ?_;rotate_left
                      · intro sg ly a wr hd hF;simp [Region.binds] at hd;exact wQ_ hF (g := 4) (d := 71) (z := true) (b := true) rfl rfl (by simp [hd]) (fun v hv => hv)
                      refine iP_ fun sg ly a wr hl hd hW hF => ?_;simp [Region.binds] at hd;have et73 := hF.new 6 73 (by simp [hd]) rfl;simp [ItCV, Act.eval] at et73;exact ⟨by simpa [ItCW, upd] using hW, .pointer (some ⟨c.wb, 0, none⟩), by go_simp, rfl⟩
                    · refine sIY ?_ ?_;rotate_left
                      · intro sg ly a wr hd hF;simp [Region.binds] at hd;exact wQ_ hF (g := 4) (d := 71) (z := true) (b := true) rfl rfl (by simp [hd]) (fun v hv => hv)
                      refine iP_ fun sg ly a wr hl hd hW hF => ?_;simp [Region.binds] at hd;have et74 := hF.new 7 74 (by simp [hd]) rfl;simp [ItCV, Act.eval] at et74;have n29_9 := hF.notYet 8 9 hl (by kernel_rfl);have n29_10 := hF.notYet 9 10 n29_9 (by kernel_rfl);have n29_11 := hF.notYet 10 11 n29_10 (by kernel_rfl);have n29_14 := hF.notYet 11 14 n29_11 (by kernel_rfl);have n29_15 := hF.notYet 14 15 n29_14 (by kernel_rfl);have n29_16 := hF.notYet 15 16 n29_15 (by kernel_rfl);have n29_18 := hF.notYet 16 18 n29_16 (by kernel_rfl);have n29_20 := hF.notYet 18 20 n29_18 (by kernel_rfl);have n29 := hF.notYet 20 29 n29_20 (by kernel_rfl);have hW' := hW;unfold ItCW at hW';rw [if_neg (by simp [n29])] at hW';subst hW';exact ⟨by unfold ItCW; rw [if_neg (by simp [upd, n29])], _, by go_simp, rfl⟩
                    · refine sIY ?_ ?_;rotate_left
                      · intro sg ly a wr hd hF;simp [Region.binds] at hd;exact wQ_ hF (g := 4) (d := 71) (z := true) (b := true) rfl rfl (by simp [hd]) (fun v hv => hv)
                      refine iP_ fun sg ly a wr hl hd hW hF => ?_;simp [Region.binds] at hd;have et75 := hF.new 8 75 (by simp [hd]) rfl;simp [ItCV, Act.eval] at et75;exact ⟨by simpa [ItCW, upd] using hW, .pointer (some ⟨c.pb, 0, none⟩), by go_simp, rfl⟩
                    · refine sIY ?_ ?_;rotate_left
                      · intro sg ly a wr hd hF;simp [Region.binds] at hd;exact wQ_ hF (g := 4) (d := 71) (z := true) (b := true) rfl rfl (by simp [hd]) (fun v hv => hv)
                      refine iP_ fun sg ly a wr hl hd hW hF => ?_;simp [Region.binds] at hd;have et76 := hF.new 9 76 (by simp [hd]) rfl;simp [ItCV, Act.eval] at et76;exact ⟨by simpa [ItCW, upd] using hW, .pointer (some ⟨c.pb, 1, none⟩), by go_simp, rfl⟩
                    · refine sIY ?_ ?_;rotate_left
                      · intro sg ly a wr hd hF;simp [Region.binds] at hd;exact wQ_ hF (g := 4) (d := 71) (z := true) (b := true) rfl rfl (by simp [hd]) (fun v hv => hv)
                      refine iP_ fun sg ly a wr hl hd hW hF => ?_;simp [Region.binds] at hd;have et77 := hF.new 10 77 (by simp [hd]) rfl;simp [ItCV, Act.eval] at et77;have n29_14 := hF.notYet 11 14 hl (by kernel_rfl);have n29_15 := hF.notYet 14 15 n29_14 (by kernel_rfl);have n29_16 := hF.notYet 15 16 n29_15 (by kernel_rfl);have n29_18 := hF.notYet 16 18 n29_16 (by kernel_rfl);have n29_20 := hF.notYet 18 20 n29_18 (by kernel_rfl);have n29 := hF.notYet 20 29 n29_20 (by kernel_rfl);have hW' := hW;unfold ItCW at hW';rw [if_neg (by simp [n29])] at hW';subst hW';exact ⟨by unfold ItCW; rw [if_neg (by simp [upd, n29])], _, by go_simp, rfl⟩
                    · refine sIY ?_ ?_;rotate_left
                      · intro sg ly a wr hd hF;simp [Region.binds] at hd;exact wQ_ hF (g := 4) (d := 71) (z := true) (b := true) rfl rfl (by simp [hd]) (fun v hv => hv)
                      refine iP_ fun sg ly a wr hl hd hW hF => ?_;have et9 := hF.old 9 (by kernel_rfl);simp [Act.eval] at et9;exact ⟨by simpa [ItCW, upd] using hW, .pointer (some ⟨yk, 1, none⟩), by go_simp, rfl⟩
                    · refine sIY ?_ ?_;rotate_left
                      · intro sg ly a wr hd hF;simp [Region.binds] at hd;exact wQ_ hF (g := 4) (d := 71) (z := true) (b := true) rfl rfl (by simp [hd]) (fun v hv => hv)
                      refine iP_ fun sg ly a wr hl hd hW hF => ?_;simp [Region.binds] at hd;have et79 := hF.new 12 79 (by simp [hd]) rfl;simp [ItCV, Act.eval] at et79;have n29_14 := hF.notYet 13 14 hl (by kernel_rfl);have n29_15 := hF.notYet 14 15 n29_14 (by kernel_rfl);have n29_16 := hF.notYet 15 16 n29_15 (by kernel_rfl);have n29_18 := hF.notYet 16 18 n29_16 (by kernel_rfl);have n29_20 := hF.notYet 18 20 n29_18 (by kernel_rfl);have n29 := hF.notYet 20 29 n29_20 (by kernel_rfl);have hW' := hW;unfold ItCW at hW';rw [if_neg (by simp [n29])] at hW';subst hW';exact ⟨by unfold ItCW; rw [if_neg (by simp [upd, n29])], _, by go_simp, rfl⟩
                    · refine sIY ?_ ?_;rotate_left
                      · intro sg ly a wr hd hF;simp [Region.binds] at hd;exact wQ_ hF (g := 4) (d := 71) (z := true) (b := true) rfl rfl (by simp [hd]) (fun v hv => hv)
                      refine iP_ fun sg ly a wr hl hd hW hF => ?_;simp [Region.binds] at hd;have et78 := hF.new 11 78 (by simp [hd]) rfl;simp [ItCV, Act.eval] at et78;have et80 := hF.new 13 80 (by simp [hd]) rfl;simp [ItCV, Act.eval] at et80;exact ⟨by simpa [ItCW, upd] using hW, .pointer (some ⟨bk, ob + m * 2, none⟩), by go_simp, rfl⟩
                    · refine sIY ?_ ?_;rotate_left
                      · intro sg ly a wr hd hF;simp [Region.binds] at hd;exact wQ_ hF (g := 4) (d := 71) (z := true) (b := true) rfl rfl (by simp [hd]) (fun v hv => hv)
                      refine iP_ fun sg ly a wr hl hd hW hF => ?_;simp [Region.binds] at hd;have et81 := hF.new 14 81 (by simp [hd]) rfl;simp [ItCV, Act.eval] at et81;exact ⟨by simpa [ItCW, upd] using hW, .pointer (some ⟨bk, ob + m * 2 + 1, none⟩), by go_simp, rfl⟩
                    · refine sIY ?_ ?_;rotate_left
                      · intro sg ly a wr hd hF;simp [Region.binds] at hd;exact wQ_ hF (g := 4) (d := 71) (z := true) (b := true) rfl rfl (by simp [hd]) (fun v hv => hv)
                      refine iP_ fun sg ly a wr hl hd hW hF => ?_;simp [Region.binds] at hd;have et82 := hF.new 15 82 (by simp [hd]) rfl;simp [ItCV, Act.eval] at et82;have n29_18 := hF.notYet 16 18 hl (by kernel_rfl);have n29_20 := hF.notYet 18 20 n29_18 (by kernel_rfl);have n29 := hF.notYet 20 29 n29_20 (by kernel_rfl);have hW' := hW;unfold ItCW at hW';rw [if_neg (by simp [n29])] at hW';subst hW';exact ⟨by unfold ItCW; rw [if_neg (by simp [upd, n29])], _, by go_simp, rfl⟩
                    · refine sIY ?_ ?_;rotate_left
                      · intro sg ly a wr hd hF;simp [Region.binds] at hd;exact wQ_ hF (g := 4) (d := 71) (z := true) (b := true) rfl rfl (by simp [hd]) (fun v hv => hv)
                      refine iP_ fun sg ly a wr hl hd hW hF => ?_;have et2 := hF.old 2 (by kernel_rfl);simp [Act.eval] at et2;have n29_18 := hF.notYet 17 18 hl (by kernel_rfl);have n29_20 := hF.notYet 18 20 n29_18 (by kernel_rfl);have n29 := hF.notYet 20 29 n29_20 (by kernel_rfl);have hW' := hW;unfold ItCW at hW';rw [if_neg (by simp [n29])] at hW';subst hW';exact ⟨by unfold ItCW; rw [if_neg (by simp [upd, n29])], _, by go_simp, rfl⟩
                    · refine sIY ?_ ?_;rotate_left
                      · intro sg ly a wr hd hF;simp [Region.binds] at hd;exact wQ_ hF (g := 4) (d := 71) (z := true) (b := true) rfl rfl (by simp [hd]) (fun v hv => hv)
                      refine stepin_call fun sg ly a wr hl hd hW hF => ?_;simp [Region.binds] at hd;have et83 := hF.new 16 83 (by simp [hd]) rfl;simp [ItCV, Act.eval] at et83;have et84 := hF.new 17 84 (by simp [hd]) rfl;simp [ItCV, Act.eval] at et84;have n29_20 := hF.notYet 18 20 hl (by kernel_rfl);have n29 := hF.notYet 20 29 n29_20 (by kernel_rfl);have hW' := hW;unfold ItCW at hW';rw [if_neg (by simp [n29])] at hW';subst hW';refine ⟨93, #[.slice Ak pth.length ck, .int .i64 ci], by go_simp, HC.out.mono ?_⟩;rintro e w2 ⟨rfl, rfl⟩;exact ⟨_, sg, rfl, by unfold ItCW; rw [if_neg (by simp [upd, n29])], rfl, fun _ _ _ h => h⟩
                    · refine sIP rfl ?_;refine iP_ fun sg ly a wr hl hd hW hF => ?_;simp [Region.binds] at hd;have et71 := hF.new 4 71 (by simp [hd]) rfl;simp [ItCV, Act.eval] at et71;have et85 := hF.new 18 85 (by simp [hd]) rfl;simp [ItCV, Act.eval] at et85;exact ⟨by simpa [ItCW, upd] using hW, .bool true, by go_simp, rfl⟩
                    · refine sIP rfl ?_;refine iP_ fun sg ly a wr hl hd hW hF => ?_;simp [Region.binds] at hd;have et86 := hF.new 19 86 (by simp [hd]) rfl;simp [ItCV, Act.eval] at et86;exact ⟨by simpa [ItCW, upd] using hW, .bool true, by go_simp, rfl⟩
                    · refine sIY ?_ ?_;rotate_left
                      · intro sg ly a wr hd hF;simp [Region.binds] at hd;exact wQ_ hF (g := 20) (d := 87) (z := true) (b := true) rfl rfl (by simp [hd]) (fun v hv => hv)
                      refine iP_ fun sg ly a wr hl hd hW hF => ?_;have et0 := hF.old 0 (by kernel_rfl);simp [Act.eval] at et0;exact ⟨by simpa [ItCW, upd] using hW, .func (.yield l) #[] #[], by go_simp, rfl⟩
                    · refine sIY ?_ ?_;rotate_left
                      · intro sg ly a wr hd hF;simp [Region.binds] at hd;exact wQ_ hF (g := 20) (d := 87) (z := true) (b := true) rfl rfl (by simp [hd]) (fun v hv => hv)
                      refine iP_ fun sg ly a wr hl hd hW hF => ?_;have et3 := hF.old 3 (by kernel_rfl);simp [Act.eval] at et3;exact ⟨by simpa [ItCW, upd] using hW, .pointer (some ⟨yb, 0, none⟩), by go_simp, rfl⟩
                    · refine sIY ?_ ?_;rotate_left
                      · intro sg ly a wr hd hF;simp [Region.binds] at hd;exact wQ_ hF (g := 20) (d := 87) (z := true) (b := true) rfl rfl (by simp [hd]) (fun v hv => hv)
                      refine iP_ fun sg ly a wr hl hd hW hF => ?_;simp [Region.binds] at hd;have et89 := hF.new 22 89 (by simp [hd]) rfl;simp [ItCV, Act.eval] at et89;have n29_28 := hF.notYet 23 28 hl (by kernel_rfl);have n29 := hF.notYet 28 29 n29_28 (by kernel_rfl);have hW' := hW;unfold ItCW at hW';rw [if_neg (by simp [n29])] at hW';subst hW';exact ⟨by unfold ItCW; rw [if_neg (by simp [upd, n29])], _, by go_simp, rfl⟩
                    · refine sIY ?_ ?_;rotate_left
                      · intro sg ly a wr hd hF;simp [Region.binds] at hd;exact wQ_ hF (g := 20) (d := 87) (z := true) (b := true) rfl rfl (by simp [hd]) (fun v hv => hv)
                      refine iP_ fun sg ly a wr hl hd hW hF => ?_;have et3 := hF.old 3 (by kernel_rfl);simp [Act.eval] at et3;exact ⟨by simpa [ItCW, upd] using hW, .pointer (some ⟨yb, 0, none⟩), by go_simp, rfl⟩
                    · refine sIY ?_ ?_;rotate_left
                      · intro sg ly a wr hd hF;simp [Region.binds] at hd;exact wQ_ hF (g := 20) (d := 87) (z := true) (b := true) rfl rfl (by simp [hd]) (fun v hv => hv)
                      refine iP_ fun sg ly a wr hl hd hW hF => ?_;simp [Region.binds] at hd;have et91 := hF.new 24 91 (by simp [hd]) rfl;simp [ItCV, Act.eval] at et91;have n29_28 := hF.notYet 25 28 hl (by kernel_rfl);have n29 := hF.notYet 28 29 n29_28 (by kernel_rfl);have hW' := hW;unfold ItCW at hW';rw [if_neg (by simp [n29])] at hW';subst hW';exact ⟨by unfold ItCW; rw [if_neg (by simp [upd, n29])], _, by go_simp, rfl⟩
                    · refine sIY ?_ ?_;rotate_left
                      · intro sg ly a wr hd hF;simp [Region.binds] at hd;exact wQ_ hF (g := 20) (d := 87) (z := true) (b := true) rfl rfl (by simp [hd]) (fun v hv => hv)
                      refine iP_ fun sg ly a wr hl hd hW hF => ?_;have et9 := hF.old 9 (by kernel_rfl);simp [Act.eval] at et9;exact ⟨by simpa [ItCW, upd] using hW, .pointer (some ⟨yk, 4, none⟩), by go_simp, rfl⟩
                    · refine sIY ?_ ?_;rotate_left
                      · intro sg ly a wr hd hF;simp [Region.binds] at hd;exact wQ_ hF (g := 20) (d := 87) (z := true) (b := true) rfl rfl (by simp [hd]) (fun v hv => hv)
                      refine iP_ fun sg ly a wr hl hd hW hF => ?_;simp [Region.binds] at hd;have et93 := hF.new 26 93 (by simp [hd]) rfl;simp [ItCV, Act.eval] at et93;have n29_28 := hF.notYet 27 28 hl (by kernel_rfl);have n29 := hF.notYet 28 29 n29_28 (by kernel_rfl);have hW' := hW;unfold ItCW at hW';rw [if_neg (by simp [n29])] at hW';subst hW';exact ⟨by unfold ItCW; rw [if_neg (by simp [upd, n29])], _, by go_simp, rfl⟩
                    · refine sIY ?_ ?_;rotate_left
                      · intro sg ly a wr hd hF;simp [Region.binds] at hd;exact wQ_ hF (g := 20) (d := 87) (z := true) (b := true) rfl rfl (by simp [hd]) (fun v hv => hv)
                      refine iP_ fun sg ly a wr hl hd hW hF => ?_;simp [Region.binds] at hd;have et90 := hF.new 23 90 (by simp [hd]) rfl;simp [ItCV, Act.eval] at et90;have et92 := hF.new 25 92 (by simp [hd]) rfl;simp [ItCV, Act.eval] at et92;have et94 := hF.new 27 94 (by simp [hd]) rfl;simp [ItCV, Act.eval] at et94;exact ⟨by simpa [ItCW, upd] using hW, .agg #[.int .i64 gr, .int .i64 gr, .int .i64 mo], by go_simp, rfl⟩
                    · refine sIY ?_ ?_;rotate_left
                      · intro sg ly a wr hd hF;simp [Region.binds] at hd;exact wQ_ hF (g := 20) (d := 87) (z := true) (b := true) rfl rfl (by simp [hd]) (fun v hv => hv)
                      refine stepin_round fun sg ly a wr hl hd hW hF => ?_;simp [Region.binds] at hd;have et88 := hF.new 21 88 (by simp [hd]) rfl;simp [ItCV, Act.eval] at et88;have et95 := hF.new 28 95 (by simp [hd]) rfl;simp [ItCV, Act.eval] at et95;have hW' := hW;unfold ItCW at hW';rw [if_neg (by simp [hl])] at hW';subst hW';have n30 := hF.notYet 29 30 hl (by kernel_rfl);have n31_30 := hF.notYet 29 30 hl (by kernel_rfl);have n31 := hF.notYet 30 31 n31_30 (by kernel_rfl);refine ⟨l, fn, tmps, assign, body, by go_simp, HR.out.mono ?_⟩;rintro e W3 (⟨rfl, hJ3⟩ | ⟨rfl, hJ3⟩)
                      · refine ⟨_, true, rfl, by unfold ItCW; rw [if_pos (by simp [upd])]; exact .inl ⟨rfl, hJ3⟩, rfl, ?_⟩;intro i u hi h;have i2 : i ≠ 29 := by rintro rfl; rw [hl] at hi; cases hi
                        have i3 : i ≠ 30 := by rintro rfl; rw [n30] at hi; cases hi
                        have i4 : i ≠ 31 := by rintro rfl; rw [n31] at hi; cases hi
                        unfold ItCV at h ⊢;split at h <;> first | exact h | exact absurd rfl i2 | exact absurd rfl i3 | exact absurd rfl i4
                      · refine ⟨_, false, rfl, by unfold ItCW; rw [if_pos (by simp [upd])]; exact .inr ⟨rfl, hJ3⟩, rfl, ?_⟩;intro i u hi h;have i2 : i ≠ 29 := by rintro rfl; rw [hl] at hi; cases hi
                        have i3 : i ≠ 30 := by rintro rfl; rw [n30] at hi; cases hi
                        have i4 : i ≠ 31 := by rintro rfl; rw [n31] at hi; cases hi
                        unfold ItCV at h ⊢;split at h <;> first | exact h | exact absurd rfl i2 | exact absurd rfl i3 | exact absurd rfl i4
                    · refine sIY ?_ ?_;rotate_left
                      · intro sg ly a wr hd hF;simp [Region.binds] at hd;exact wQ_ hF (g := 20) (d := 87) (z := true) (b := true) rfl rfl (by simp [hd]) (fun v hv => hv)
                      refine iP_ fun sg ly a wr hl hd hW hF => ?_;simp [Region.binds] at hd;have et96 := hF.new 29 96 (by simp [hd]) rfl;simp [ItCV, Act.eval] at et96;exact ⟨by simpa [ItCW, upd] using hW, .bool (!sg), by go_simp, rfl⟩
                    · refine sIP rfl ?_;refine iP_ fun sg ly a wr hl hd hW hF => ?_;simp [Region.binds] at hd;have et87 := hF.new 20 87 (by simp [hd]) rfl;simp [ItCV, Act.eval] at et87;have et97 := hF.new 30 97 (by simp [hd]) rfl;simp [ItCV, Act.eval] at et97;exact ⟨by simpa [ItCW, upd] using hW, .bool (!sg), by go_simp, rfl⟩
                  intro sg a w5 hWW hF;have e98 := hF.new 31 98 (by decide) rfl;obtain ⟨f5, hf5, rfl⟩ := hF.lit;rw [← hf5] at e98;simp only [ItCV] at e98;have hw5 : (sg = true ∧ Rt w5) ∨ (sg = false ∧ Rf w5) := by
                    have h5 := hWW;unfold ItCW at h5
                    rwa [if_pos (by simp)] at h5
                  clear hf5 hF hWW;simp only [List.filterMap, List.foldl, List.setIfInBounds_toArray, List.set_cons_succ, List.set_cons_zero, e98];clear e98;rcases hw5 with ⟨rfl, hw⟩ | ⟨rfl, hw⟩
                  · rw [HQ.out.2.1] at hw;have HZ := Lib.hid hw;clear hw
                    gi_wp2
                    go_roundw;case rel => exact ⟨j + 1, by omega, by go_num, by have := HZ.out.1; rw [HQ.out.1]; simpa only [List.append_assoc] using this, (H4.out.2.1.below H4.out.2.2.2.2.drew).kp HZ.out.2⟩
                    case measure => simp [intOf]; omega
                  · rw [HQ.out.2.2] at hw;have HZ := Lib.hid hw;clear hw
                    gi_wp2
                    refine bodyPost_ret (results_none rfl _ _ _) rfl ?_;refine ⟨⟨_, rfl⟩, .inr ⟨_, ?_, HZ.out⟩⟩;rw [List.append_assoc, List.append_assoc, ← HQ.out.1];exact prefix_in2 (by have := HP.out.2.2.2.2.2.2.2; omega)
              · have e1 : (ho == (h : Int)) = false := by simpa using hc1
                have hsn' : caMaps c.p ci h (c.l.calls.take (j + 1)) = caMaps c.p ci h (c.l.calls.take j) := by rw [H4.out.2.2.2.1, if_neg (fun q => hc1 q.1), List.append_nil]
                have HQ := Lib.hid hsn';clear hsn' hc1
                gi_upto_region 11 with fail
                rw [← hW2, ← hyk];clear hW2 hyk d0 d1 d2 d3 d4 d5 zs;refine wpIn_region_stepsI (σ := Unit) (by kernel_rfl) (by kernel_rfl) (fun _ jx vx _ => ItAV W2 l h m c.wb c.pb bk ob c.p.bts.length c.cb pth.length ck kb xb yb yk ho mo ci gr Ak jx vx) (fun _ ly wx => ItAW W2 l h m c.wb c.pb bk ob c.p.bts.length c.cb pth.length ck kb xb yb yk ho mo ci gr Ak ly wx) () ?_ ?_ ?_
                · exact rfl
                · simp only [AllFrom, Nat.zero_add, Nat.reduceAdd];refine ⟨?_, ?_, ?_, ?_, ?_, ?_, ?_, ?_, ?_, ?_, ?_, ?_, ?_, ?_, ?_, ?_, ?_, ?_, ?_, ?_, ?_, ?_, ?_, ?_, ?_, ?_, ?_, ?_, ?_, ?_, ?_, ?_, trivial⟩
                  · refine sIP rfl ?_;refine iP_ fun sg ly a wr hl hd hW hF => ?_;have et9 := hF.old 9 (by kernel_rfl);simp [Act.eval] at et9;exact ⟨by simpa [ItAW, upd] using hW, .pointer (some ⟨yk, 0, none⟩), by go_simp, rfl⟩
                  · refine sIP rfl ?_;refine iP_ fun sg ly a wr hl hd hW hF => ?_;simp [Region.binds] at hd;have et67 := hF.new 0 67 (by simp [hd]) rfl;simp [ItAV, Act.eval] at et67;have hW' := hW;unfold ItAW at hW';subst hW';exact ⟨rfl, _, by go_simp, rfl⟩
                  · refine sIP rfl ?_;refine iP_ fun sg ly a wr hl hd hW hF => ?_;have et5 := hF.old 5 (by kernel_rfl);simp [Act.eval] at et5;exact ⟨by simpa [ItAW, upd] using hW, .int .i64 h, by go_simp, rfl⟩
                  · refine sIP rfl ?_;refine iP_ fun sg ly a wr hl hd hW hF => ?_;simp [Region.binds] at hd;have et68 := hF.new 1 68 (by simp [hd]) rfl;simp [ItAV, Act.eval] at et68;have et69 := hF.new 2 69 (by simp [hd]) rfl;simp [ItAV, Act.eval] at et69;exact ⟨by simpa [ItAW, upd] using hW, .bool false, by go_simp, rfl⟩
                  · refine sIP rfl ?_;refine iP_ fun sg ly a wr hl hd hW hF => ?_;simp [Region.binds] at hd;have et70 := hF.new 3 70 (by simp [hd]) rfl;simp [ItAV, Act.eval] at et70;exact ⟨by simpa [ItAW, upd] using hW, .bool false, by go_simp, rfl⟩
                  · refine stepI_no ?_ ?_;rotate_left
                    · intro sg ly a wr hd hF;simp [Region.binds] at hd;exact wQ_ hF (g := 4) (d := 71) (z := false) (b := true) rfl rfl (by simp [hd]) (fun v hv => hv)
                    exact fun sg ly a wr hl hW => ⟨by simpa [ItAW, upd] using hW, trivial⟩
                  · refine stepI_no ?_ ?_;rotate_left
                    · intro sg ly a wr hd hF;simp [Region.binds] at hd;exact wQ_ hF (g := 4) (d := 71) (z := false) (b := true) rfl rfl (by simp [hd]) (fun v hv => hv)
                    exact fun sg ly a wr hl hW => ⟨by simpa [ItAW, upd] using hW, trivial⟩
                  · refine stepI_no ?_ ?_;rotate_left
                    · intro sg ly a wr hd hF;simp [Region.binds] at hd;exact wQ_ hF (g := 4) (d := 71) (z := false) (b := true) rfl rfl (by simp [hd]) (fun v hv => hv)
                    exact fun sg ly a wr hl hW => ⟨by simpa [ItAW, upd] using hW, trivial⟩
                  · refine stepI_no ?_ ?_;rotate_left
                    · intro sg ly a wr hd hF;simp [Region.binds] at hd;exact wQ_ hF (g := 4) (d := 71) (z := false) (b := true) rfl rfl (by simp [hd]) (fun v hv => hv)
                    exact fun sg ly a wr hl hW => ⟨by simpa [ItAW, upd] using hW, trivial⟩
                  · refine stepI_no ?_ ?_;rotate_left
                    · intro sg ly a wr hd hF;simp [Region.binds] at hd;exact wQ_ hF (g := 4) (d := 71) (z := false) (b := true) rfl rfl (by simp [hd]) (fun v hv => hv)
                    exact fun sg ly a wr hl hW => ⟨by simpa [ItAW, upd] using hW, trivial⟩
                  · refine stepI_no ?_ ?_;rotate_left
                    · intro sg ly a wr hd hF;simp [Region.binds] at hd;exact wQ_ hF (g := 4) (d := 71) (z := false) (b := true) rfl rfl (by simp [hd]) (fun v hv => hv)
                    exact fun sg ly a wr hl hW => ⟨by simpa [ItAW, upd] using hW, trivial⟩
                  · refine stepI_no ?_ ?_;rotate_left
                    · intro sg ly a wr hd hF;simp [Region.binds] at hd;exact wQ_ hF (g := 4) (d := 71) (z := false) (b := true) rfl rfl (by simp [hd]) (fun v hv => hv)
                    exact fun sg ly a wr hl hW => ⟨by simpa [ItAW, upd] using hW, trivial⟩
                  · refine stepI_no ?_ ?_;rotate_left
                    · intro sg ly a wr hd hF;simp [Region.binds] at hd;exact wQ_ hF (g := 4) (d := 71) (z := false) (b := true) rfl rfl (by simp [hd]) (fun v hv => hv)
                    exact fun sg ly a wr hl hW => ⟨by simpa [ItAW, upd] using hW, trivial⟩
                  · refine stepI_no ?_ ?_;rotate_left
                    · intro sg ly a wr hd hF;simp [Region.binds] at hd;exact wQ_ hF (g := 4) (d := 71) (z := false) (b := true) rfl rfl (by simp [hd]) (fun v hv => hv)
                    exact fun sg ly a wr hl hW => ⟨by simpa [ItAW, upd] using hW, trivial⟩
                  · refine stepI_no ?_ ?_;rotate_left
                    · intro sg ly a wr hd hF;simp [Region.binds] at hd;exact wQ_ hF (g := 4) (d := 71) (z := false) (b := true) rfl rfl (by simp [hd]) (fun v hv => hv)
                    exact fun sg ly a wr hl hW => ⟨by simpa [ItAW, upd] using hW, trivial⟩
                  · refine stepI_no ?_ ?_;rotate_left
                    · intro sg ly a wr hd hF;simp [Region.binds] at hd;exact wQ_ hF (g := 4) (d := 71) (z := false) (b := true) rfl rfl (by simp [hd]) (fun v hv => hv)
                    exact fun sg ly a wr hl hW => ⟨by simpa [ItAW, upd] using hW, trivial⟩
                  · refine stepI_no ?_ ?_;rotate_left
                    · intro sg ly a wr hd hF;simp [Region.binds] at hd;exact wQ_ hF (g := 4) (d := 71) (z := false) (b := true) rfl rfl (by simp [hd]) (fun v hv => hv)
                    exact fun sg ly a wr hl hW => ⟨by simpa [ItAW, upd] using hW, trivial⟩
                  · refine stepI_no ?_ ?_;rotate_left
                    · intro sg ly a wr hd hF;simp [Region.binds] at hd;exact wQ_ hF (g := 4) (d := 71) (z := false) (b := true) rfl rfl (by simp [hd]) (fun v hv => hv)
                    exact fun sg ly a wr hl hW => ⟨by simpa [ItAW, upd] using hW, trivial⟩
                  · refine stepI_no ?_ ?_;rotate_left
                    · intro sg ly a wr hd hF;simp [Region.binds] at hd;exact wQ_ hF (g := 4) (d := 71) (z := false) (b := true) rfl rfl (by simp [hd]) (fun v hv => hv)
                    exact fun sg ly a wr hl hW => ⟨by simpa [ItAW, upd] using hW, trivial⟩
                  · refine sIP rfl ?_;refine iP_ fun sg ly a wr hl hd hW hF => ?_;have et71 := hF.new 4 71 (by simp [Region.binds] at hd; simp [hd]) rfl;simp [ItAV, Act.eval] at et71;exact ⟨by simpa [ItAW, upd] using hW, .bool false, by go_simp, rfl⟩
                  · refine sIP rfl ?_;refine iP_ fun sg ly a wr hl hd hW hF => ?_;simp [Region.binds] at hd;have et86 := hF.new 19 86 (by simp [hd]) rfl;simp [ItAV, Act.eval] at et86;exact ⟨by simpa [ItAW, upd] using hW, .bool false, by go_simp, rfl⟩
                  · refine stepI_no ?_ ?_;rotate_left
                    · intro sg ly a wr hd hF;simp [Region.binds] at hd;exact wQ_ hF (g := 20) (d := 87) (z := false) (b := true) rfl rfl (by simp [hd]) (fun v hv => hv)
                    exact fun sg ly a wr hl hW => ⟨by simpa [ItAW, upd] using hW, trivial⟩
                  · refine stepI_no ?_ ?_;rotate_left
                    · intro sg ly a wr hd hF;simp [Region.binds] at hd;exact wQ_ hF (g := 20) (d := 87) (z := false) (b := true) rfl rfl (by simp [hd]) (fun v hv => hv)
                    exact fun sg ly a wr hl hW => ⟨by simpa [ItAW, upd] using hW, trivial⟩
                  · refine stepI_no ?_ ?_;rotate_left
                    · intro sg ly a wr hd hF;simp [Region.binds] at hd;exact wQ_ hF (g := 20) (d := 87) (z := false) (b := true) rfl rfl (by simp [hd]) (fun v hv => hv)
                    exact fun sg ly a wr hl hW => ⟨by simpa [ItAW, upd] using hW, trivial⟩
                  · refine stepI_no ?_ ?_;rotate_left
                    · intro sg ly a wr hd hF;simp [Region.binds] at hd;exact wQ_ hF (g := 20) (d := 87) (z := false) (b := true) rfl rfl (by simp [hd]) (fun v hv => hv)
                    exact fun sg ly a wr hl hW => ⟨by simpa [ItAW, upd] using hW, trivial⟩
                  · refine stepI_no ?_ ?_;rotate_left
                    · intro sg ly a wr hd hF;simp [Region.binds] at hd;exact wQ_ hF (g := 20) (d := 87) (z := false) (b := true) rfl rfl (by simp [hd]) (fun v hv => hv)
                    exact fun sg ly a wr hl hW => ⟨by simpa [ItAW, upd] using hW, trivial⟩
                  · refine stepI_no ?_ ?_;rotate_left
                    · intro sg ly a wr hd hF;simp [Region.binds] at hd;exact wQ_ hF (g := 20) (d := 87) (z := false) (b := true) rfl rfl (by simp [hd]) (fun v hv => hv)
                    exact fun sg ly a wr hl hW => ⟨by simpa [ItAW, upd] using hW, trivial⟩
                  · refine stepI_no ?_ ?_;rotate_left
                    · intro sg ly a wr hd hF;simp [Region.binds] at hd;exact wQ_ hF (g := 20) (d := 87) (z := false) (b := true) rfl rfl (by simp [hd]) (fun v hv => hv)
                    exact fun sg ly a wr hl hW => ⟨by simpa [ItAW, upd] using hW, trivial⟩
                  · refine stepI_no ?_ ?_;rotate_left
                    · intro sg ly a wr hd hF;simp [Region.binds] at hd;exact wQ_ hF (g := 20) (d := 87) (z := false) (b := true) rfl rfl (by simp [hd]) (fun v hv => hv)
                    exact fun sg ly a wr hl hW => ⟨by simpa [ItAW, upd] using hW, trivial⟩
                  · refine stepI_no ?_ ?_;rotate_left
                    · intro sg ly a wr hd hF;simp [Region.binds] at hd;exact wQ_ hF (g := 20) (d := 87) (z := false) (b := true) rfl rfl (by simp [hd]) (fun v hv => hv)
                    exact fun sg ly a wr hl hW => ⟨by simpa [ItAW, upd] using hW, trivial⟩
                  · refine stepI_no ?_ ?_;rotate_left
                    · intro sg ly a wr hd hF;simp [Region.binds] at hd;exact wQ_ hF (g := 20) (d := 87) (z := false) (b := true) rfl rfl (by simp [hd]) (fun v hv => hv)
                    exact fun sg ly a wr hl hW => ⟨by simpa [ItAW, upd] using hW, trivial⟩
                  · refine sIP rfl ?_;refine iP_ fun sg ly a wr hl hd hW hF => ?_;have et87 := hF.new 20 87 (by simp [Region.binds] at hd; simp [hd]) rfl;simp [ItAV, Act.eval] at et87;exact ⟨by simpa [ItAW, upd] using hW, .bool false, by go_simp, rfl⟩
                intro _ a w5 hWW hF;have e98 := hF.new 31 98 (by decide) rfl;obtain ⟨f5, hf5, rfl⟩ := hF.lit;rw [← hf5] at e98;simp only [ItAV] at e98;obtain rfl : w5 = W2.drew := hWW;clear hf5 hF;simp only [List.filterMap, List.foldl, List.setIfInBounds_toArray, List.set_cons_succ, List.set_cons_zero, e98];clear e98
                gi_wp2
                go_roundw;case rel => exact ⟨j + 1, by omega, by go_num, by rw [HQ.out]; exact H4.out.1, H4.out.2.1.below H4.out.2.2.2.2.drew⟩
                case measure => simp [intOf]; omega
            · obtain rfl : j = M := by omega
              have hJ2 : J (mapsT c.p c.l ci h ++ (swMaps c.p ci h c.l.swps ++ caMaps c.p ci h c.l.calls)) wr := by rw [H3.out.2.2, List.take_length] at hJj; exact hJj
              have y1 : wr.cell? ⟨yb, 1, none⟩ = some (.int .i64 (ch c.p ci).frost) := (cOH hI.k3 1).trans rfl;have zy := World.block_lt_of_cell? _ _ y1;obtain ⟨fr, hfr⟩ : ∃ fr, fr = (ch c.p ci).frost := ⟨_, rfl⟩;rw [← hfr] at y1;have hms := mapsT_succ c.p c.l ci h;rw [← hfr] at hms;have hpre : mapsT c.p c.l ci h ++ (swMaps c.p ci h c.l.swps ++ caMaps c.p ci h c.l.calls) <+: mapsS c.p c.l ci := by
                have := prefix_in2 (p := c.p) (l := c.l) (c := ci) (h := h) (i := c.l.calls.length) (by have := HP.out.2.2.2.2.2.2.2; omega)
                rwa [List.take_length] at this
              obtain ⟨fn, tmps, assign, body, hy, hR⟩ := HY.out.2.2.1 _ ⟨fr, fr, NL⟩ _ hJ2 (HP.out.2.2.2.2.2.1 _ hpre);have HQ := Lib.hid (And.intro hms (And.intro hR hI));clear hms hR hI hJj hJ2 hpre hfr;dsimp only [mpV, NL] at hy
              gi_wp2
              refine HQ.out.2.1.mono ?_;rintro e W3 (⟨rfl, hJ3, hk3⟩ | ⟨rfl, hJx3⟩)
              · have HZ := Lib.hid (And.intro hJ3 hk3);clear hJ3 hk3
                gi_wp2
                go_roundw;case rel => exact ⟨h + 1, by omega, by go_num, by rw [HQ.out.1]; have := HZ.out.1; simpa only [List.append_assoc] using this, HQ.out.2.2.kp HZ.out.2⟩
                case measure => simp [intOf]; omega
              · have HZ := Lib.hid hJx3;clear hJx3
                gi_wp2
                refine bodyPost_ret (results_none rfl _ _ _) rfl ?_;refine ⟨⟨_, rfl⟩, .inr ⟨_, ?_, HZ.out⟩⟩;rw [List.append_assoc, List.append_assoc, ← HQ.out.1];exact mapsT_prefix _ _ _ (by have := HP.out.2.2.2.2.2.2.2; omega)
    · obtain rfl : h = H := by omega
      have HZ := Lib.hid hJk;clear hJk
      gi_wp2
      go_end0
      exact ⟨⟨_, rfl⟩, .inl ⟨_, by rw [← mapsT_all, ← HP.out.2.2.2.2.2.2.2], HZ.out⟩⟩
end Go.Proofs.YtalcinepeofmcaaGreat
