/- port.Worn -/
import Derived.Test.YthmldeningpjbaaPOp21
import Derived.Test.YthmldeningpjbaaPOp17
import Derived.Test.YthmldeningpjbaaPOp8
import Derived.Test.YthmldeningpjbaaPOp1
set_option linter.unusedVariables false
set_option linter.unusedSimpArgs false
namespace Go.Proofs.Ythmldeningpjbaa.Pt
open Sp
theorem worn_succ {p : Prt} {l : Pln} {k : Nat} (hk : k < p.chs.length) : wornN (folds p l) (k + 1) = if 0 ≤ rounds (foldS p l k) ∧ ((wornN (folds p l) k).1 < 0 ∨ rounds (foldS p l k) < (wornN (folds p l) k).1) then (rounds (foldS p l k), (k : Int)) else wornN (folds p l) k := by
  have h : (folds p l).getD k default = foldS p l k := by
    rw [List.getD_eq_getElem?_getD, List.getElem?_eq_getElem (by rw [folds_length]; exact hk), Option.getD_some, folds_at hk]
  rw [wornN, h]
def wornV (p : Prt) (l : Pln) : Int := if wornE p l = 0 then (wornR p l).1 else 0
def wornA (p : Prt) (l : Pln) : Int := if wornE p l = 0 then (wornR p l).2 else 0
end Go.Proofs.Ythmldeningpjbaa.Pt
namespace Go.Proofs.Ythmldeningpjbaa
open Go Go.RowKit Sp Pt
set_option linter.unusedVariables false
set_option linter.unusedSimpArgs false

def WornPost (w : World) (p : Prt) (l : Pln) (e : Ending) (w' : World) : Prop := e = .returned (.tuple #[.int .i64 (wornV p l), .int .i64 (wornA p l), .int .i64 (wornE p l)]) ∧ Below w.heap.size w w'
theorem results_tmp3P {fn : Func} {t u v : Tmp} (h : fn.results = #[.tmp t, .tmp u, .tmp v]) (tmps : Array Value) (P : Program) (w : World) :
    (results fn tmps).run P w = .ok (.tuple #[tmps.getD t undef, tmps.getD u undef, tmps.getD v undef]) w := by
  simp [results, h]
theorem worn_no {w w' : World} {p : Prt} {l : Pln} {er : Int} (he : wornE p l = er) (h0 : er ≠ 0) (b : Below w.heap.size w w') : WornPost w p l (.returned (.tuple #[.int .i64 0, .int .i64 0, .int .i64 er])) w' :=
  ⟨by unfold wornV wornA; rw [if_neg (by rw [he]; exact h0), if_neg (by rw [he]; exact h0), he], b⟩

set_option maxRecDepth 100000 in
set_option maxHeartbeats 4000000 in
theorem Worn_any (D : Nat) (Ac : Option Addr) (cc : Nat) (Ab : Option Addr) (cb : Nat) (p : Prt) (Al : Option Addr) (cl : Nat) (As : Option Addr) (cs : Nat) (l : Pln) (w : World)
    (PB : PrtB D w Ac cc Ab cb p) (LB : PlnB D w Al cl As cs l) (hD : D ≤ w.heap.size) :
    Calls Try.prog 17 #[.agg (prtV Ac cc Ab cb p), .agg (plnV Al cl As cs l)] w (WornPost w p l) := by
  obtain ⟨W, hW⟩ : ∃ W, W = (w.alloc (.cells (prtV Ac cc Ab cb p) 26)).alloc (.cells (plnV Al cl As cs l) 31) := ⟨_, rfl⟩
  obtain ⟨pb, hpb⟩ : ∃ b, b = w.heap.size := ⟨_, rfl⟩
  obtain ⟨lb, hlb⟩ : ∃ b, b = w.heap.size + 1 := ⟨_, rfl⟩
  obtain ⟨b1, hp, hl, kck, PB1, LB1⟩ := boxes2 PB LB hD hW hpb hlb
  have hD1 : D ≤ W.heap.size := by have := b1.size; omega
  obtain ⟨er, her⟩ : ∃ er, er = checkL p l := ⟨_, rfl⟩
  rw [← her] at kck
  have c0 : W.cell? ⟨pb, 0, none⟩ = some (.slice Ac p.chs.length cc) := (cell_of_heap hp 0).trans rfl
  have c1 : W.cell? ⟨pb, 1, none⟩ = some (.slice Ab p.bts.length cb) := (cell_of_heap hp 1).trans rfl
  have c2 : W.cell? ⟨pb, 2, none⟩ = some (.int .i64 p.tugs) := (cell_of_heap hp 2).trans rfl
  have c3 : W.cell? ⟨lb, 0, none⟩ = some (.int .i64 l.hours) := (cell_of_heap hl 0).trans rfl
  have c4 : W.cell? ⟨lb, 1, none⟩ = some (.slice Al l.calls.length cl) := (cell_of_heap hl 1).trans rfl
  have c5 : W.cell? ⟨lb, 2, none⟩ = some (.slice As l.swps.length cs) := (cell_of_heap hl 2).trans rfl
  have zp := heap_lt hp
  have zl := heap_lt hl
  have H := Lib.hid (And.intro b1 (And.intro hp (And.intro hl (And.intro PB1 (And.intro LB1 (And.intro her kck))))))
  clear b1 hp hl PB LB PB1 LB1 kck her
  go_enter Try.func17, Try.ntmps17
  go_upto_region 1 with fail
  rw [← hW, ← hlb, ← hpb]
  clear hW hlb hpb
  by_cases h0 : er = 0
  · subst h0
    go_upto_region 4 with (go_at_call 52; refine H.out.2.2.2.2.2.2.mono ?_; rintro e w1 ⟨rfl, b1⟩; have B1 := Lib.hid b1; clear b1)
    have hck : checkL p l = 0 := H.out.2.2.2.2.2.1.symm
    have v := val_of hck
    have bw1 : Below w.heap.size w w1 := H.out.1.trans (B1.out.mono H.out.1.size)
    have hp1 := (B1.out.block _ (heap_lt H.out.2.1)).trans H.out.2.1
    have hl1 := (B1.out.block _ (heap_lt H.out.2.2.1)).trans H.out.2.2.1
    have hD2 : D ≤ w1.heap.size := by have := bw1.size; omega
    have E := wce_new hp1 hl1 (H.out.2.2.2.1.below (B1.out.mono hD1)) (H.out.2.2.2.2.1.below (B1.out.mono hD1)) hD2 w1.heap.size rfl
    obtain ⟨W2, hW2⟩ : ∃ W2, W2 = w1.alloc (.cells #[.pointer (some ⟨pb, 0, none⟩), .pointer (some ⟨lb, 0, none⟩), .slice none 0 0, .slice none 0 0] 149) := ⟨_, rfl⟩
    obtain ⟨wb, hwb⟩ : ∃ b, b = w1.heap.size := ⟨_, rfl⟩
    have bw2 : Below w.heap.size w W2 := by rw [hW2]; exact bw1.alloc bw1.size _
    rw [← hW2, ← hwb] at E
    have hn := v.nc
    have HF := Lib.hid (And.intro bw2 (And.intro E (And.intro v hck)))
    have hzs : W2.heap.size = wb + 1 := by rw [hW2, hwb]; simp
    have hpl : pb < wb ∧ lb < wb := by rw [hwb]; exact ⟨heap_lt hp1, heap_lt hl1⟩
    have hc2 : W2.cell? ⟨pb, 0, none⟩ = some (.slice Ac p.chs.length cc) := by rw [hW2]; exact (cell_of_heap (heap_alloc' hp1 _) 0).trans rfl
    clear c0 c1 c2 c3 c4 c5 zp zl bw1 bw2 E v hck hp1 hl1 B1
    go_upto_region 5 with fail
    rw [← hW2, ← hwb]
    clear hW2 hwb
    have zp3 : pb < W2.heap.size := by omega
    go_wp2_with fail
    go_loopg [9, 10, 24] (p.chs.length) (fun g r9 r10 i wr => ∃ k : Nat, g + k = p.chs.length ∧ i = .int .i64 k ∧ r9 = .int .i64 (wornN (folds p l) k).1 ∧ r10 = .int .i64 (wornN (folds p l) k).2 ∧ Keep [] W2 wr)
    case atStart => exact ⟨0, rfl, rfl, rfl, rfl, Keep.refl _ _⟩
    case round =>
      obtain ⟨k, hk, rfl, rfl, rfl, hK⟩ := hrel
      by_cases hlt : k < p.chs.length
      · have hBw := hK.below (Nat.le_refl W2.heap.size) (by simp)
        have hzr := hK.size
        have kf := fold_any (w := wr) (k := k) ⟨_, _, HF.out.2.1.below hBw⟩ (by simp only; omega) HF.out.2.2.1 hlt
        dsimp only at kf
        obtain ⟨m, hm⟩ : ∃ m, m = foldS p l k := ⟨_, rfl⟩
        have hj := foldS_jm HF.out.2.2.1 (c := (k : Int)) (by omega) (by omega)
        have hS := worn_succ (l := l) hlt
        rw [← hm] at kf hj hS
        have kr := fun wx => rounds_any m wx (by have := hj.add; omega) (by have := hj.flo; omega) (by have h1 := hj.lo; have h2 := hj.hi; simp only [NL] at h2; omega)
        obtain ⟨ro, hro⟩ : ∃ r, r = rounds m := ⟨_, rfl⟩
        obtain ⟨R, hR⟩ : ∃ R, R = wornN (folds p l) k := ⟨_, rfl⟩
        rw [← hro, ← hR] at hS
        simp only [← hro] at kr
        rw [← hR]
        obtain ⟨le, at_⟩ := R
        simp only at hS ⊢
        have HI := Lib.hid (And.intro hK (And.intro kf (And.intro kr hS)))
        clear hK kf hj hS kr hBw hm hro hR
        by_cases a1 : 0 ≤ ro
        · by_cases a2 : le < 0
          · go_wp2_with (first | (go_at_call 68; refine HI.out.2.1.mono ?_; rintro e w4 ⟨rfl, b4⟩; have B4 := Lib.hid b4; clear b4) | (go_at_call 71; refine (HI.out.2.2.1 _).mono ?_; rintro e w5 ⟨rfl, b5⟩; have B5 := Lib.hid b5; clear b5))
            go_roundg (gk - 1)
            case measure => omega
            case rel =>
              obtain ⟨h1, h2, h3, h4⟩ := HI.out
              have k5 := (h1.trans (Keep.of_below (S := []) B4.out) (by simp)).trans (Keep.of_below (S := []) B5.out) (by simp)
              rw [if_pos ⟨by assumption, .inl (by assumption)⟩] at h4
              exact ⟨k + 1, by omega, by go_num, by rw [h4], by rw [h4], k5⟩
          · by_cases a3 : ro < le
            · go_wp2_with (first | (go_at_call 68; refine HI.out.2.1.mono ?_; rintro e w4 ⟨rfl, b4⟩; have B4 := Lib.hid b4; clear b4) | (go_at_call 71; refine (HI.out.2.2.1 _).mono ?_; rintro e w5 ⟨rfl, b5⟩; have B5 := Lib.hid b5; clear b5))
              go_roundg (gk - 1)
              case measure => omega
              case rel =>
                obtain ⟨h1, h2, h3, h4⟩ := HI.out
                have k5 := (h1.trans (Keep.of_below (S := []) B4.out) (by simp)).trans (Keep.of_below (S := []) B5.out) (by simp)
                rw [if_pos ⟨by assumption, .inr (by assumption)⟩] at h4
                exact ⟨k + 1, by omega, by go_num, by rw [h4], by rw [h4], k5⟩
            · go_wp2_with (first | (go_at_call 68; refine HI.out.2.1.mono ?_; rintro e w4 ⟨rfl, b4⟩; have B4 := Lib.hid b4; clear b4) | (go_at_call 71; refine (HI.out.2.2.1 _).mono ?_; rintro e w5 ⟨rfl, b5⟩; have B5 := Lib.hid b5; clear b5))
              go_roundg (gk - 1)
              case measure => omega
              case rel =>
                obtain ⟨h1, h2, h3, h4⟩ := HI.out
                have k5 := (h1.trans (Keep.of_below (S := []) B4.out) (by simp)).trans (Keep.of_below (S := []) B5.out) (by simp)
                rw [if_neg (by omega)] at h4
                exact ⟨k + 1, by omega, by go_num, by rw [h4], by rw [h4], k5⟩
        · go_wp2_with (first | (go_at_call 68; refine HI.out.2.1.mono ?_; rintro e w4 ⟨rfl, b4⟩; have B4 := Lib.hid b4; clear b4) | (go_at_call 71; refine (HI.out.2.2.1 _).mono ?_; rintro e w5 ⟨rfl, b5⟩; have B5 := Lib.hid b5; clear b5))
          go_roundg (gk - 1)
          case measure => omega
          case rel =>
            obtain ⟨h1, h2, h3, h4⟩ := HI.out
            have k5 := (h1.trans (Keep.of_below (S := []) B4.out) (by simp)).trans (Keep.of_below (S := []) B5.out) (by simp)
            rw [if_neg (by omega)] at h4
            exact ⟨k + 1, by omega, by go_num, by rw [h4], by rw [h4], k5⟩
      · obtain rfl : k = p.chs.length := by omega
        have hE : wornE p l = if (wornN (folds p l) p.chs.length).1 < 0 then 4 else 0 := by unfold wornE wornR; rw [if_neg (by rw [HF.out.2.2.2]; decide)]
        obtain ⟨R, hR⟩ : ∃ R, R = wornN (folds p l) p.chs.length := ⟨_, rfl⟩
        have hRR : wornR p l = R := hR.symm
        rw [← hR] at hE ⊢
        obtain ⟨le, at_⟩ := R
        simp only at hE ⊢
        have HL := Lib.hid (And.intro hK (And.intro hE hRR))
        clear hK hE hRR hR
        by_cases hle : le < 0
        · go_wp2_with fail
          refine bodyPost_ret (results_tmp3P rfl _ _ _) rfl ?_
          exact worn_no (by rw [HL.out.2.1, if_pos (by assumption)]) (by decide) (HF.out.1.trans (HL.out.1.below HF.out.1.size (by simp)))
        · go_wp2_with fail
          refine bodyPost_ret (results_tmp3P rfl _ _ _) rfl ?_
          have e0 : wornE p l = 0 := by rw [HL.out.2.1, if_neg (by omega)]
          exact ⟨by unfold wornV wornA; rw [if_pos e0, if_pos e0, e0, HL.out.2.2]; rfl, HF.out.1.trans (HL.out.1.below HF.out.1.size (by simp))⟩
  · have hnb : (er != 0) = true := by simp [h0]
    have HC := Lib.hid h0
    clear h0
    go_wp2_with (go_at_call 52; refine H.out.2.2.2.2.2.2.mono ?_; rintro e w2 ⟨rfl, b2⟩)
    refine bodyPost_ret (results_tmp3P rfl _ _ _) rfl ?_
    refine worn_no ?_ HC.out (H.out.1.trans (b2.mono H.out.1.size))
    unfold wornE
    rw [if_pos (by rw [← H.out.2.2.2.2.2.1]; exact HC.out), H.out.2.2.2.2.2.1]
end Go.Proofs.Ythmldeningpjbaa
/- Plain law: PortOpen. No program is named here. -/
namespace Go.Proofs.Ythmldeningpjbaa
open Sp Pt

/-- maps of small ports and plans -/
structure Gq (m : Mp) : Prop where
  add : -240 ≤ m.add ∧ m.add ≤ 30
  flo : 0 ≤ m.floor ∧ m.floor ≤ 30
  lo : 0 ≤ m.most
  hi : m.most = NL ∨ m.most ≤ 130
structure Jq (k : Nat) (m : Mp) : Prop where
  add : -(240 * (k : Int)) ≤ m.add ∧ m.add ≤ 30 * k
  flo : 0 ≤ m.floor ∧ m.floor ≤ 30 * k
  lo : -1 ≤ m.most
  hi : m.most ≤ NL
  lt : m.most = NL ∨ m.most ≤ 130 + 240 * k
theorem jq_step {k : Nat} {a m : Mp} (ha : Jq k a) (hm : Gq m) (hk : k ≤ 100) : Jq (k + 1) (join1 a m) := by
  obtain ⟨⟨a1, a1'⟩, ⟨a2, a2'⟩, a3, a4, a5⟩ := ha
  obtain ⟨⟨m1, m1'⟩, ⟨m2, m2'⟩, m3, m4⟩ := hm
  have h := joinL_cases a m
  refine ⟨?_, ?_, ?_, ?_, ?_⟩ <;> simp only [join1, NL] at * <;> omega
theorem jq_fold {l : List Mp} (hl : ∀ m ∈ l, Gq m) : ∀ {k : Nat} {a : Mp}, Jq k a → k + l.length ≤ 100 → Jq (k + l.length) (l.foldl join1 a) := by
  induction l with
  | nil => intro k a ha _; exact ha
  | cons m l ih =>
    intro k a ha hk
    simp only [List.length_cons] at hk
    have := ih (fun x hx => hl x (by simp [hx])) (jq_step ha (hl m (by simp)) (by omega)) (by omega)
    rw [List.foldl_cons, List.length_cons, show k + (l.length + 1) = k + 1 + l.length from by omega]
    exact this
theorem mul_lo {a b : Int} (h1 : 1 ≤ a) (h2 : a ≤ 6) (h3 : 1 ≤ b) (h4 : b ≤ 40) : -240 ≤ -a * b ∧ -a * b ≤ 0 := by
  have h5 : a * b ≤ 6 * 40 := Int.mul_le_mul h2 h4 (by omega) (by omega)
  have h6 : 0 ≤ a * b := Int.mul_nonneg (by omega) (by omega)
  rw [Int.neg_mul]
  omega
theorem mapsS_gq {p : Prt} {l : Pln} (hp : MdP p) (hl : MdL p l) {c : Int} (c0 : 0 ≤ c) (c1 : c < p.chs.length) : ∀ m ∈ mapsS p l c, Gq m := by
  have hc := hp.chf _ (ch_mem c0 c1)
  intro m hm
  unfold mapsS at hm
  obtain ⟨h, _, h2⟩ := List.mem_flatMap.1 hm
  unfold mapsH at h2
  rcases List.mem_append.1 h2 with q | q
  · obtain ⟨s, hs, rfl⟩ := List.mem_map.1 q
    have hsw := hl.sw s (List.mem_filter.1 hs).1
    have := mul_lo hsw.2.2.1 hsw.2.2.2.1 hc.2.2.2.2.1 hc.2.2.2.2.2
    exact ⟨by simp only; omega, by simp, by simp [NL], .inl rfl⟩
  rcases List.mem_append.1 q with q | q
  · obtain ⟨x, hx, rfl⟩ := List.mem_map.1 q
    have hca := hl.ca x (List.mem_filter.1 hx).1
    exact ⟨by simp only; omega, by simp only; omega, by simp only; omega, .inr (by simp only; omega)⟩
  · rw [List.mem_singleton.1 q]
    exact ⟨by simp only; omega, by simp only; omega, by simp [NL], .inl rfl⟩
theorem mapsS_len {p : Prt} {l : Pln} (hl : MdL p l) (c : Int) : (mapsS p l c).length ≤ 62 := by
  rw [mapsS_eq]
  have h := mapsF_length p l c l.hours.toNat 0
  have h1 := List.length_filter_le (fun x : Swp => decide (((0 : Nat) : Int) ≤ x.hour) && decide (x.hour < ((0 : Nat) : Int) + (l.hours.toNat : Nat))) l.swps
  have h2 := List.length_filter_le (fun x : Cal => decide (((0 : Nat) : Int) ≤ x.hour) && decide (x.hour < ((0 : Nat) : Int) + (l.hours.toNat : Nat))) l.calls
  have := hl.n1
  have := hl.n2
  have := hl.h
  omega
/-- the map of a channel -/
structure Mq (m : Mp) : Prop where
  add : -14880 ≤ m.add ∧ m.add ≤ 1860
  flo : 0 ≤ m.floor ∧ m.floor ≤ 1860
  lo : -1 ≤ m.most
  lt : m.most = NL ∨ m.most ≤ 15010
theorem foldS_mq {p : Prt} {l : Pln} (hp : MdP p) (hl : MdL p l) {i : Nat} (hi : i < p.chs.length) : Mq (foldS p l i) := by
  have h := jq_fold (mapsS_gq hp hl (c := (i : Int)) (by omega) (by omega)) (k := 0) (a := id1) ⟨by decide, by decide, by decide, by decide, .inl rfl⟩ (by have := mapsS_len hl (i : Int); omega)
  have hlen := mapsS_len hl (i : Int)
  obtain ⟨⟨a, a'⟩, ⟨b, b'⟩, d, e, f⟩ := h
  refine ⟨⟨?_, ?_⟩, ⟨b, ?_⟩, d, ?_⟩ <;> simp only [foldS] at * <;> omega

/-- a map, over and over -/
def itM (m : Mp) : Nat → Int
  | 0 => 0
  | k + 1 => ap m (itM m k)
theorem itM_ge {m : Mp} (h : Mq m) : ∀ k, 0 ≤ itM m k
  | 0 => Int.le_refl 0
  | k + 1 => by have := h.flo.1; simp only [itM, ap]; omega
theorem itM_le {m : Mp} (h : Mq m) : ∀ k : Nat, itM m k ≤ 1860 * k
  | 0 => by simp [itM]
  | k + 1 => by
    have := itM_le h k
    have := itM_ge h k
    have := h.add
    have := h.flo
    simp only [itM, ap]
    omega
theorem itM_up {m : Mp} (h : Mq m) (ha : 0 < m.add) : ∀ k : Nat, itM m (k + 1) = max m.add m.floor + k * m.add
  | 0 => by simp only [itM, ap]; simp
  | k + 1 => by
    have := itM_up h ha k
    have hk : 0 ≤ (k : Int) * m.add := Int.mul_nonneg (by omega) (by omega)
    have e : ((k + 1 : Nat) : Int) * m.add = k * m.add + m.add := by rw [Int.natCast_add, Int.add_mul]; simp
    rw [itM, this, e, ap]
    omega
theorem itM_flat {m : Mp} (h : Mq m) (ha : m.add ≤ 0) : ∀ k : Nat, itM m (k + 1) = m.floor
  | 0 => by have := h.flo.1; simp only [itM, ap]; omega
  | k + 1 => by rw [itM, itM_flat h ha k, ap]; omega
/-- what rounds says -/
theorem rounds_sem {m : Mp} (h : Mq m) : (rounds m = -1 ∧ ∀ k, limOk m (itM m k)) ∨ (∃ r : Nat, rounds m = r ∧ (∀ k, k < r → limOk m (itM m k)) ∧ ¬ limOk m (itM m r)) := by
  have hlt := h.lt
  unfold rounds
  by_cases h1 : m.most = NL ∨ (m.add ≤ 0 ∧ max m.add m.floor ≤ m.most)
  · rw [if_pos h1]
    refine .inl ⟨rfl, fun k => ?_⟩
    rcases h1 with e | ⟨e1, e2⟩
    · exact .inl e
    · right
      cases k with
      | zero => have := h.flo.1; simp only [itM]; omega
      | succ k => rw [itM_flat h e1]; have := h.flo.1; omega
  · have hm : m.most ≠ NL := fun e => h1 (.inl e)
    rw [if_neg h1]
    by_cases h2 : m.most < 0
    · rw [if_pos h2]
      exact .inr ⟨0, rfl, fun k hk => absurd hk (by omega), fun e => by rcases e with e | e; exact hm e; simp only [itM] at e; omega⟩
    · rw [if_neg h2]
      by_cases h3 : m.most < max m.add m.floor
      · rw [if_pos h3]
        refine .inr ⟨1, rfl, fun k hk => ?_, fun e => ?_⟩
        · obtain rfl : k = 0 := by omega
          exact .inr (by simp only [itM]; omega)
        · rcases e with e | e
          · exact hm e
          · simp only [itM, ap] at e; omega
      · rw [if_neg h3]
        have ha : 0 < m.add := by omega
        have hq0 : 0 ≤ m.most - max m.add m.floor := by omega
        have hed : (m.most - max m.add m.floor).tdiv m.add = (m.most - max m.add m.floor) / m.add := Int.tdiv_eq_ediv_of_nonneg hq0
        rw [hed]
        obtain ⟨q, hq⟩ : ∃ q, q = (m.most - max m.add m.floor) / m.add := ⟨_, rfl⟩
        have hqn : 0 ≤ q := by rw [hq]; exact Int.ediv_nonneg hq0 (by omega)
        have d1 := Int.mul_ediv_add_emod (m.most - max m.add m.floor) m.add
        have d2 := Int.emod_lt_of_pos (m.most - max m.add m.floor) ha
        have d3 := Int.emod_nonneg (m.most - max m.add m.floor) (show m.add ≠ 0 by omega)
        rw [← hq] at d1 ⊢
        refine .inr ⟨(2 + q).toNat, by omega, fun k hk => ?_, fun e => ?_⟩
        · right
          cases k with
          | zero => have := h.flo.1; simp only [itM]; omega
          | succ k =>
            rw [itM_up h ha]
            have : (k : Int) * m.add ≤ q * m.add := Int.mul_le_mul_of_nonneg_right (by omega) (by omega)
            rw [Int.mul_comm q] at this
            omega
        · rcases e with e | e
          · exact hm e
          · have e2 : (2 + q).toNat = (q.toNat + 1) + 1 := by omega
            rw [e2, itM_up h ha] at e
            have e3 : ((q.toNat + 1 : Nat) : Int) * m.add = m.add * q + m.add := by rw [show ((q.toNat + 1 : Nat) : Int) = q + 1 from by omega, Int.add_mul, Int.mul_comm q]; omega
            rw [e3] at e
            omega

/-! in turns: berths are as they were -/
theorem outs_par : ∀ (l : List Cal) (s : List Bool) (b : Nat), (∀ c ∈ l, 0 ≤ c.berth ∧ c.berth < s.length) → outsOk l s → b < s.length →
    (outsAft l s).getD b false = if ((l.filter fun c => decide (c.berth = (b : Int))).length) % 2 = 0 then s.getD b false else !s.getD b false
  | [], s, b, _, _, _ => by simp [outsAft]
  | c :: l, s, b, hc, ho, hb => by
    obtain ⟨c0, c1⟩ := hc c (by simp)
    obtain ⟨o1, o2⟩ := ho
    rw [outsAft, outs_par l _ b (fun x hx => by rw [List.length_set]; exact hc x (by simp [hx])) o2 (by rw [List.length_set]; exact hb)]
    by_cases q : c.berth = (b : Int)
    · have e : c.berth.toNat = b := by omega
      have e2 : (s.set c.berth.toNat (!c.out)).getD b false = !c.out := by rw [e]; simp [hb]
      have e3 : s.getD c.berth.toNat false = s.getD b false := by rw [e]
      rw [List.filter_cons_of_pos (by simpa using q), List.length_cons, e2, ← o1, e3]
      by_cases h2 : (l.filter fun c => decide (c.berth = (b : Int))).length % 2 = 0
      · rw [if_pos h2, if_neg (by omega)]
      · rw [if_neg h2, if_pos (by omega)]; simp
    · have e : c.berth.toNat ≠ b := by omega
      rw [List.filter_cons_of_neg (by simpa using q)]
      have e2 : (s.set c.berth.toNat (!c.out)).getD b false = s.getD b false := by simp [e]
      rw [e2]
theorem turns_get {p : Prt} {l : Pln} : ∀ {k : Nat}, turnsN l k = true → ∀ b : Nat, b < k → turnsB l b = true
  | 0, _, b, hb => absurd hb (by omega)
  | k + 1, h, b, hb => by
    rw [turnsN, Bool.and_eq_true] at h
    by_cases e : b = k
    · subst e; exact h.2
    · exact turns_get (p := p) h.1 b (by omega)
theorem turns_back {p : Prt} {l : Pln} (hl : MdL p l) (ht : turns p l = true) : outsAft l.calls (noB p) = noB p := by
  have hlen : (outsAft l.calls (noB p)).length = (noB p).length := outsAft_length _ _
  have hn : (noB p).length = p.bts.length := by simp [noB]
  apply List.ext_getElem?
  intro b
  by_cases hb : b < p.bts.length
  · have h1 := outs_par l.calls (noB p) b (fun c hc => by have := hl.ca c hc; rw [hn]; omega) hl.out (by rw [hn]; exact hb)
    have h2 := turns_get (p := p) ht b hb
    unfold turnsB outsOf at h2
    rw [Bool.and_eq_true, List.length_map, decide_eq_true_eq] at h2
    rw [if_pos h2.2] at h1
    rw [List.getD_eq_getElem?_getD, List.getD_eq_getElem?_getD] at h1
    have e1 : b < (outsAft l.calls (noB p)).length := by omega
    rw [List.getElem?_eq_getElem e1, List.getElem?_eq_getElem (by rw [hn]; exact hb)] at h1 ⊢
    simpa using h1
  · rw [List.getElem?_eq_none (by omega), List.getElem?_eq_none (by omega)]

/-! runs, over and over -/
def apB (p : Prt) (l : Pln) (b : List Int) : List Int := (List.range p.chs.length).map fun (i : Nat) => ap (foldS p l i) (getI b i)
theorem apB_length (p : Prt) (l : Pln) (b : List Int) : (apB p l b).length = p.chs.length := by simp [apB]
theorem apB_get {p : Prt} {l : Pln} {b : List Int} {i : Nat} (hi : i < p.chs.length) : getI (apB p l b) i = ap (foldS p l i) (getI b i) := by
  have h : getI (apB p l b) i = ((apB p l b)[i]?).getD 0 := by simp [getI]
  rw [h, apB, List.getElem?_map, List.getElem?_range hi]; rfl
theorem ext_getI {a b : List Int} (hl : a.length = b.length) (h : ∀ i : Nat, i < a.length → getI a i = getI b i) : a = b := by
  apply List.ext_getElem hl
  intro i h1 h2
  have := h i h1
  unfold getI at this
  simpa [List.getD_eq_getElem?_getD, h1, h2] using this
/-- a run from a state with no berth busy, of a plan that leaves berths as they were -/
theorem run_turn {p : Prt} {l : Pln} (hp : MdP p) (hl : MdL p l) (ht : turns p l = true) {b : List Int} {B : Int} (hB : B ≤ 1000000) (hlen : b.length = p.chs.length) (hb : ∀ x ∈ b, 0 ≤ x ∧ x < B) :
    ((∀ i : Nat, i < p.chs.length → limOk (foldS p l i) (getI b i)) ∧ runE p (st0 p b) l = 0 ∧ runV p (st0 p b) l = st0 p (apB p l b)) ∨
    ((∃ (j : Nat) (x : Cal) (i : Nat), runI p (st0 p b) l = j ∧ l.calls[j]? = some x ∧ i < p.chs.length ∧ (i : Int) ∈ (bt p x.berth).path ∧ ¬ limOk (foldS p l i) (getI b i)) ∧ runE p (st0 p b) l = 8) := by
  have hs := st0_start hp hl hB hlen hb
  have hI : runI p (st0 p b) l = (runR p l (st0 p b)).1 := by unfold runI; rw [if_neg (by rw [hs]; simp)]
  rcases run_st0 hp hl hB hlen hb with ⟨q1, q2, q3, q4, q5, q6⟩ | ⟨q1, x, i, q2, q3, q4, q5⟩
  · refine .inl ⟨fun i hi => (q6 i hi).1, q1, ?_⟩
    have e1 : (runV p (st0 p b) l).brash = apB p l b := ext_getI (by rw [q4.1, apB_length]) fun i hi => by rw [q4.1] at hi; rw [(q6 i hi).2, apB_get hi]
    have e2 : (runV p (st0 p b) l).busy = noB p := q5.trans (turns_back hl ht)
    cases h : runV p (st0 p b) l with
    | mk x y => rw [h] at e1 e2; simp only at e1 e2; rw [e1, e2]; rfl
  · exact .inr ⟨⟨_, x, i, hI, q2, q3, q4, q5⟩, q1⟩
/-- brash of numbers grows slowly -/
def BrN (n : Nat) (b : List Int) (k : Nat) : Prop := b.length = n ∧ ∀ x ∈ b, 0 ≤ x ∧ x < 500 + 1860 * (k : Int)
theorem mem_getI {b : List Int} {x : Int} (h : x ∈ b) : ∃ i : Nat, i < b.length ∧ getI b i = x := by
  obtain ⟨i, hi, rfl⟩ := List.mem_iff_getElem.1 h
  exact ⟨i, hi, by simp [getI, hi]⟩
theorem BrN.step {p : Prt} {l : Pln} (hp : MdP p) (hl : MdL p l) {b : List Int} {k : Nat} (h : BrN p.chs.length b k) : BrN p.chs.length (apB p l b) (k + 1) := by
  refine ⟨apB_length _ _ _, fun x hx => ?_⟩
  obtain ⟨i, hi, rfl⟩ := mem_getI hx
  rw [apB_length] at hi
  rw [apB_get hi]
  have hm := foldS_mq hp hl hi
  have hb := h.2 _ (getI_mem (b := b) (i := i) (by rw [h.1]; exact hi))
  obtain ⟨⟨a1, a2⟩, ⟨f1, f2⟩, _, _⟩ := hm
  simp only [ap]
  omega
theorem stays_mq {p : Prt} {l : Pln} (hp : MdP p) (hl : MdL p l) (hs : staysE p l = 0) {i : Nat} (hi : i < p.chs.length) : turns p l = true ∧ (foldS p l i).most = getI (staysV p l) i ∧ (staysV p l).length = p.chs.length ∧
    ((foldS p l i).most = NL ∨ ((foldS p l i).add ≤ 0 ∧ (foldS p l i).floor ≤ (foldS p l i).most)) := by
  have hc := hl.checkL hp
  have ht : turns p l = true := by
    cases h : turns p l with
    | true => rfl
    | false => unfold staysE at hs; rw [if_neg (by simp [hc]), if_pos h] at hs; cases hs
  have hb : (folds p l).any staysBad = false := by
    cases h : (folds p l).any staysBad with
    | false => rfl
    | true => unfold staysE at hs; rw [if_neg (by simp [hc]), if_neg (by simp [ht]), if_pos h] at hs; cases hs
  have hv : staysV p l = (folds p l).map (·.most) := by unfold staysV; rw [if_pos hs]
  refine ⟨ht, ?_, by rw [hv]; simp [folds], ?_⟩
  · rw [hv]
    unfold getI folds
    simp [hi]
  · have := List.any_eq_false.1 hb (foldS p l i) (List.mem_map.2 ⟨i, List.mem_range.2 hi, rfl⟩)
    unfold staysBad at this
    simp only [Bool.and_eq_true, Bool.or_eq_true, decide_eq_true_eq] at this
    by_cases e : (foldS p l i).most = NL
    · exact .inl e
    · right
      have := fun q => this ⟨e, q⟩
      omega
theorem stays_err {p : Prt} {l : Pln} (hp : MdP p) (hl : MdL p l) : staysE p l = 0 ∨ staysE p l = 9 ∨ (staysE p l = 4 ∧ turns p l = true) := by
  have hc := hl.checkL hp
  unfold staysE
  rw [if_neg (by simp [hc])]
  cases ht : turns p l with
  | false => rw [if_pos rfl]; exact .inr (.inl rfl)
  | true =>
    rw [if_neg (by simp)]
    split
    · exact .inr (.inr ⟨rfl, rfl⟩)
    · exact .inl rfl
/-- what Worn says -/
theorem worn_sem {p : Prt} {l : Pln} : ∀ k : Nat, k ≤ p.chs.length →
    ((wornN (folds p l) k).1 = -1 ∧ (wornN (folds p l) k).2 = 0 ∧ ∀ i : Nat, i < k → rounds (foldS p l i) < 0) ∨
    (∃ r a : Nat, (wornN (folds p l) k).1 = r ∧ (wornN (folds p l) k).2 = a ∧ a < k ∧ rounds (foldS p l a) = r ∧ (∀ i : Nat, i < k → rounds (foldS p l i) < 0 ∨ (r : Int) ≤ rounds (foldS p l i)) ∧ ∀ i : Nat, i < a → rounds (foldS p l i) < 0 ∨ (r : Int) < rounds (foldS p l i))
  | 0, _ => .inl ⟨rfl, rfl, fun i hi => absurd hi (by omega)⟩
  | k + 1, hk => by
    have ih := worn_sem (p := p) (l := l) k (by omega)
    rw [worn_succ (p := p) (l := l) (k := k) (by omega)]
    rcases ih with ⟨h1, h2, h3⟩ | ⟨r, a, h1, h2, h3, h4, h5, h6⟩
    · by_cases q : 0 ≤ rounds (foldS p l k)
      · rw [if_pos ⟨q, .inl (by rw [h1]; decide)⟩]
        refine .inr ⟨(rounds (foldS p l k)).toNat, k, by simp only; omega, rfl, by omega, by omega, fun i hi => ?_, fun i hi => .inl (h3 i hi)⟩
        by_cases e : i = k
        · subst e; right; omega
        · exact .inl (h3 i (by omega))
      · rw [if_neg (fun e => q e.1)]
        refine .inl ⟨h1, h2, fun i hi => ?_⟩
        by_cases e : i = k
        · subst e; omega
        · exact h3 i (by omega)
    · by_cases q : 0 ≤ rounds (foldS p l k) ∧ rounds (foldS p l k) < (r : Int)
      · rw [if_pos ⟨q.1, .inr (by rw [h1]; exact q.2)⟩]
        refine .inr ⟨(rounds (foldS p l k)).toNat, k, by simp only; omega, rfl, by omega, by omega, fun i hi => ?_, fun i hi => ?_⟩
        · by_cases e : i = k
          · subst e; right; omega
          · rcases h5 i (by omega) with e | e
            · exact .inl e
            · right; omega
        · rcases h5 i hi with e | e
          · exact .inl e
          · right; omega
      · rw [if_neg (by rw [h1]; omega)]
        refine .inr ⟨r, a, h1, h2, by omega, h4, fun i hi => ?_, h6⟩
        by_cases e : i = k
        · subst e; omega
        · exact h5 i (by omega)
theorem wornE_of {p : Prt} {l : Pln} (hc : checkL p l = 0) : wornE p l = if (wornR p l).1 < 0 then 4 else 0 := by unfold wornE; rw [if_neg (by simp [hc])]
theorem worn_none {p : Prt} {l : Pln} (hp : MdP p) (hl : MdL p l) (hs : staysE p l = 0) : wornE p l = 4 := by
  rw [wornE_of (hl.checkL hp)]
  rcases worn_sem (p := p) (l := l) p.chs.length (Nat.le_refl _) with ⟨h1, _⟩ | ⟨r, a, _, _, h3, h4, _⟩
  · rw [if_pos (by unfold wornR; rw [h1]; decide)]
  · exfalso
    have h5 := (stays_mq hp hl hs h3).2.2.2
    have hm := foldS_mq hp hl h3
    have : rounds (foldS p l a) = -1 := by
      unfold rounds
      rw [if_pos]
      rcases h5 with e | ⟨e1, e2⟩
      · exact .inl e
      · have := hm.flo.1; exact .inr ⟨e1, by omega⟩
    omega
theorem worn_some {p : Prt} {l : Pln} (hp : MdP p) (hl : MdL p l) (hs : staysE p l = 4) (ht : turns p l = true) : wornE p l = 0 ∧ ∃ r a : Nat, wornV p l = r ∧ wornA p l = a ∧ a < p.chs.length ∧ rounds (foldS p l a) = r ∧ (∀ i : Nat, i < p.chs.length → rounds (foldS p l i) < 0 ∨ (r : Int) ≤ rounds (foldS p l i)) ∧ ∀ i : Nat, i < a → rounds (foldS p l i) < 0 ∨ (r : Int) < rounds (foldS p l i) := by
  have hb : (folds p l).any staysBad = true := by
    cases h : (folds p l).any staysBad with
    | true => rfl
    | false => unfold staysE at hs; rw [if_neg (by simp [hl.checkL hp]), if_neg (by simp [ht]), if_neg (by simp [h])] at hs; cases hs
  obtain ⟨m, hm, hbad⟩ := List.any_eq_true.1 hb
  obtain ⟨i, hi, rfl⟩ := List.mem_map.1 hm
  have hi := List.mem_range.1 hi
  have hmq := foldS_mq hp hl hi
  have hpos : 0 ≤ rounds (foldS p l i) := by
    rcases rounds_sem hmq with ⟨h1, h2⟩ | ⟨r, h1, _⟩
    · exfalso
      unfold staysBad at hbad
      simp only [Bool.and_eq_true, Bool.or_eq_true, decide_eq_true_eq] at hbad
      unfold rounds at h1
      split at h1
      · rename_i h3
        rcases h3 with e | ⟨e1, e2⟩
        · exact hbad.1 e
        · have := hmq.flo; omega
      · split at h1
        · cases h1
        · split at h1
          · cases h1
          · rename_i h3 h4 h5
            have := Int.tdiv_nonneg (a := (foldS p l i).most - max (foldS p l i).add (foldS p l i).floor) (b := (foldS p l i).add) (by omega) (by have := hmq.flo; omega)
            omega
    · omega
  have hE := wornE_of (hl.checkL hp)
  rcases worn_sem (p := p) (l := l) p.chs.length (Nat.le_refl _) with ⟨h1, _, h3⟩ | ⟨r, a, h1, h2, h3, h4, h5, h6⟩
  · have := h3 i hi; omega
  · have hE0 : wornE p l = 0 := by rw [hE]; unfold wornR; rw [h1, if_neg (by omega)]
    exact ⟨hE0, r, a, by unfold wornV wornR; rw [if_pos hE0, h1], by unfold wornA wornR; rw [if_pos hE0, h2], h3, h4, h5, h6⟩
/-- the state of a port that was empty, after k rounds -/
def itB (p : Prt) (l : Pln) (k : Nat) : List Int := (List.range p.chs.length).map fun (i : Nat) => itM (foldS p l i) k
theorem itB_get {p : Prt} {l : Pln} {k i : Nat} (hi : i < p.chs.length) : getI (itB p l k) i = itM (foldS p l i) k := by
  have h : getI (itB p l k) i = ((itB p l k)[i]?).getD 0 := by simp [getI]
  rw [h, itB, List.getElem?_map, List.getElem?_range hi]; rfl
theorem itB_zero (p : Prt) (l : Pln) : itB p l 0 = List.replicate p.chs.length 0 := by
  unfold itB
  apply List.ext_getElem (by simp)
  intro i h1 h2
  simp [itM]
theorem itB_succ (p : Prt) (l : Pln) (k : Nat) : apB p l (itB p l k) = itB p l (k + 1) := ext_getI (by simp [apB, itB]) fun i hi => by
  rw [apB_length] at hi
  rw [apB_get hi, itB_get hi, itB_get hi, itM]
theorem itB_brn {p : Prt} {l : Pln} (hp : MdP p) (hl : MdL p l) (k : Nat) : BrN p.chs.length (itB p l k) k := by
  refine ⟨by simp [itB], fun x hx => ?_⟩
  obtain ⟨i, hi, rfl⟩ := mem_getI hx
  have hi' : i < p.chs.length := by simpa [itB] using hi
  rw [itB_get hi']
  have h := foldS_mq hp hl hi'
  have := itM_ge h k
  have := itM_le h k
  omega
end Go.Proofs.Ythmldeningpjbaa
/- slices.ContainsFunc with closures that only read (printed by wip/tools/anyf.py) -/
namespace Go.Proofs.Ythmldeningpjbaa
open Go Go.RowKit Sp Pt
set_option linter.unusedVariables false

set_option maxHeartbeats 1000000 in
theorem idxOpen1_any (f : Int → Bool) (c0 c1 : Value) (A : Option Addr) (c : Nat) (l : List Int) (w : World) (hr : Rd w 1 A l.length (ints l)) (hm : l.length ≤ 9223372036854775807)
    (hf : ∀ x ∈ l, ∀ n, Calls Try.prog 21 #[.int .i64 x, c0, c1] (w.drewN n) fun e w' => e = .returned (.bool (f x)) ∧ ∃ m, w' = w.drewN m) :
    Calls Try.prog 76 #[.slice A l.length c, .func (.func 21) #[] #[c0, c1]] w fun e w' => ∃ r : Int, e = .returned (.int .i64 r) ∧ decide (0 ≤ r) = l.any f ∧ ∃ m, w' = w.drewN m := by
  go_enter Try.func76, Try.ntmps76
  go_wp2_with fail
  go_loopg [8] (l.length) (fun g i wr => ∃ k : Nat, g + k = l.length ∧ i = .int .i64 k ∧ (l.take k).any f = false ∧ ∃ m, wr = w.drewN m)
  case atStart => exact ⟨0, rfl, rfl, by simp, 0, rfl⟩
  case round =>
    obtain ⟨k, hk, rfl, hb, m, rfl⟩ := hrel
    have HB := Lib.hid hb
    clear hb
    by_cases hlt : k < l.length
    · obtain ⟨b, off, rfl, hbb, hc⟩ := hr.2 (by omega)
      have c0 := hc k _ (ints_get hlt)
      obtain ⟨x, hx⟩ : ∃ x, x = l.getD k 0 := ⟨_, rfl⟩
      rw [← hx] at c0
      have hx' : l[k] = x := by rw [hx]; simp [hlt]
      have H := hf x (by rw [← hx']; exact List.getElem_mem _) m
      obtain ⟨z, hz⟩ : ∃ z, z = f x := ⟨_, rfl⟩
      rw [← hz] at H
      have hs : (l.take (k + 1)).any f = z := by rw [List.take_succ_eq_append_getElem hlt, List.any_append, HB.out, hx', hz]; simp
      have HH := Lib.hid (And.intro H hs)
      clear H hs hz hx' hx hc hr hf
      cases z
      · go_wp2_with (go_at_call 21; refine HH.out.1.mono ?_; rintro e w' ⟨rfl, m', rfl⟩)
        go_roundg (gk - 1)
        case measure => omega
        case rel => exact ⟨k + 1, by omega, by go_num, HH.out.2, m', rfl⟩
      · go_wp2_with (go_at_call 21; refine HH.out.1.mono ?_; rintro e w' ⟨rfl, m', rfl⟩)
        go_ret
        refine ⟨k, rfl, ?_, m', rfl⟩
        have h1 : l.any f = true := by
          obtain ⟨y, hy, hfy⟩ := List.any_eq_true.1 HH.out.2
          exact List.any_eq_true.2 ⟨y, List.mem_of_mem_take hy, hfy⟩
        rw [h1]; simp
    · obtain rfl : k = l.length := by omega
      go_wp2_with fail
      go_ret
      exact ⟨-1, rfl, by have := HB.out; rw [List.take_length] at this; rw [this]; simp, m, rfl⟩

theorem anyOpen1_any (f : Int → Bool) (c0 c1 : Value) (A : Option Addr) (c : Nat) (l : List Int) (w : World) (hr : Rd w 1 A l.length (ints l)) (hm : l.length ≤ 9223372036854775807)
    (hf : ∀ x ∈ l, ∀ n, Calls Try.prog 21 #[.int .i64 x, c0, c1] (w.drewN n) fun e w' => e = .returned (.bool (f x)) ∧ ∃ m, w' = w.drewN m) :
    Calls Try.prog 20 #[.slice A l.length c, .func (.func 21) #[] #[c0, c1]] w fun e w' => e = .returned (.bool (l.any f)) ∧ ∃ m, w' = w.drewN m := by
  have H := idxOpen1_any f c0 c1 A c l w hr hm hf
  clear hf
  go_enter Try.func20, Try.ntmps20
  go_wp2_with (go_at_call 76; refine H.mono ?_; rintro e w' ⟨r, rfl, hd, m, rfl⟩; have HD := Lib.hid hd; clear hd)
  go_ret
  exact ⟨by rw [← HD.out]; rfl, m, rfl⟩

set_option maxHeartbeats 1000000 in
theorem idxOpen2_any (f : Int → Bool) (c0 : Value) (A : Option Addr) (c : Nat) (l : List Int) (w : World) (hr : Rd w 1 A l.length (ints l)) (hm : l.length ≤ 9223372036854775807)
    (hf : ∀ x ∈ l, ∀ n, Calls Try.prog 23 #[.int .i64 x, c0] (w.drewN n) fun e w' => e = .returned (.bool (f x)) ∧ ∃ m, w' = w.drewN m) :
    Calls Try.prog 76 #[.slice A l.length c, .func (.func 23) #[] #[c0]] w fun e w' => ∃ r : Int, e = .returned (.int .i64 r) ∧ decide (0 ≤ r) = l.any f ∧ ∃ m, w' = w.drewN m := by
  go_enter Try.func76, Try.ntmps76
  go_wp2_with fail
  go_loopg [8] (l.length) (fun g i wr => ∃ k : Nat, g + k = l.length ∧ i = .int .i64 k ∧ (l.take k).any f = false ∧ ∃ m, wr = w.drewN m)
  case atStart => exact ⟨0, rfl, rfl, by simp, 0, rfl⟩
  case round =>
    obtain ⟨k, hk, rfl, hb, m, rfl⟩ := hrel
    have HB := Lib.hid hb
    clear hb
    by_cases hlt : k < l.length
    · obtain ⟨b, off, rfl, hbb, hc⟩ := hr.2 (by omega)
      have c0 := hc k _ (ints_get hlt)
      obtain ⟨x, hx⟩ : ∃ x, x = l.getD k 0 := ⟨_, rfl⟩
      rw [← hx] at c0
      have hx' : l[k] = x := by rw [hx]; simp [hlt]
      have H := hf x (by rw [← hx']; exact List.getElem_mem _) m
      obtain ⟨z, hz⟩ : ∃ z, z = f x := ⟨_, rfl⟩
      rw [← hz] at H
      have hs : (l.take (k + 1)).any f = z := by rw [List.take_succ_eq_append_getElem hlt, List.any_append, HB.out, hx', hz]; simp
      have HH := Lib.hid (And.intro H hs)
      clear H hs hz hx' hx hc hr hf
      cases z
      · go_wp2_with (go_at_call 23; refine HH.out.1.mono ?_; rintro e w' ⟨rfl, m', rfl⟩)
        go_roundg (gk - 1)
        case measure => omega
        case rel => exact ⟨k + 1, by omega, by go_num, HH.out.2, m', rfl⟩
      · go_wp2_with (go_at_call 23; refine HH.out.1.mono ?_; rintro e w' ⟨rfl, m', rfl⟩)
        go_ret
        refine ⟨k, rfl, ?_, m', rfl⟩
        have h1 : l.any f = true := by
          obtain ⟨y, hy, hfy⟩ := List.any_eq_true.1 HH.out.2
          exact List.any_eq_true.2 ⟨y, List.mem_of_mem_take hy, hfy⟩
        rw [h1]; simp
    · obtain rfl : k = l.length := by omega
      go_wp2_with fail
      go_ret
      exact ⟨-1, rfl, by have := HB.out; rw [List.take_length] at this; rw [this]; simp, m, rfl⟩

theorem anyOpen2_any (f : Int → Bool) (c0 : Value) (A : Option Addr) (c : Nat) (l : List Int) (w : World) (hr : Rd w 1 A l.length (ints l)) (hm : l.length ≤ 9223372036854775807)
    (hf : ∀ x ∈ l, ∀ n, Calls Try.prog 23 #[.int .i64 x, c0] (w.drewN n) fun e w' => e = .returned (.bool (f x)) ∧ ∃ m, w' = w.drewN m) :
    Calls Try.prog 20 #[.slice A l.length c, .func (.func 23) #[] #[c0]] w fun e w' => e = .returned (.bool (l.any f)) ∧ ∃ m, w' = w.drewN m := by
  have H := idxOpen2_any f c0 A c l w hr hm hf
  clear hf
  go_enter Try.func20, Try.ntmps20
  go_wp2_with (go_at_call 76; refine H.mono ?_; rintro e w' ⟨r, rfl, hd, m, rfl⟩; have HD := Lib.hid hd; clear hd)
  go_ret
  exact ⟨by rw [← HD.out]; rfl, m, rfl⟩
end Go.Proofs.Ythmldeningpjbaa
/- What the functions of layer 9 compute, further: berthings. -/
namespace Go.Proofs.Ythmldeningpjbaa.Pt
open Sp

def vstOk (v : Vst) : Bool := within v.arr 0 1000 && (within v.last v.arr 2000 && (within v.stay 1 100 && within v.dra 10 3000))
def askedE (p : Prt) (l : List Vst) : Int := if checkP p ≠ 0 then checkP p else if 5 < l.length then 2 else if l.all vstOk = false then 1 else 0

/-- compares places, and lists of places -/
def cmp1 (a b : Plc) : Int := if a.berth ≠ b.berth then a.berth - b.berth else a.start - b.start
def cmpPl : List Plc → List Plc → Int
  | [], [] => 0
  | [], _ :: _ => -1
  | _ :: _, [] => 1
  | a :: l, b :: m => if cmp1 a b ≠ 0 then cmp1 a b else cmpPl l m

/-- the search: what has been found, and the places tried -/
structure Bst where
  least : Int
  found : List Plc
  places : List Plc
deriving DecidableEq, Inhabited
def bestLeaf (waiting : Int) (s : Bst) : Bst := if s.least < 0 ∨ waiting < s.least ∨ cmpPl s.places s.found < 0 then ⟨waiting, s.places, s.places⟩ else s
def vs (l : List Vst) (i : Nat) : Vst := l.getD i default
/-- n: how many visits are not placed -/
def seekS (p : Prt) (l : List Vst) : Nat → Int → List Int → List Bool → Bst → Bst
  | 0, waiting, _, _, s => if 0 ≤ s.least ∧ s.least < waiting then s else bestLeaf waiting s
  | n + 1, waiting, free, done, s =>
    if 0 ≤ s.least ∧ s.least < waiting then s else
    (List.range l.length).foldl (fun s i =>
      if done.getD i false then s else
      (List.range p.bts.length).foldl (fun s b =>
        if (p.bts.getD b default).depth < (vs l i).dra ∨ (vs l i).last < max (vs l i).arr (free.getD b 0) then s
        else seekS p l n (waiting + max (vs l i).arr (free.getD b 0) - (vs l i).arr) (free.set b (max (vs l i).arr (free.getD b 0) + (vs l i).stay)) (done.set i true)
          ⟨s.least, s.found, s.places.set i ⟨b, max (vs l i).arr (free.getD b 0)⟩⟩) s) s
def bestS (p : Prt) (l : List Vst) : Bst := seekS p l l.length 0 (List.replicate p.bts.length 0) (List.replicate l.length false) ⟨-1, [], List.replicate l.length ⟨0, 0⟩⟩
def bestE (p : Prt) (l : List Vst) : Int := if askedE p l ≠ 0 then askedE p l else if (bestS p l).least < 0 then 4 else 0
def bestN (p : Prt) (l : List Vst) : Int := if bestE p l = 0 then (bestS p l).least else 0
def bestV (p : Prt) (l : List Vst) : List Plc := if bestE p l = 0 then (bestS p l).found else []
end Go.Proofs.Ythmldeningpjbaa.Pt
