import Derived.Test.YtalcinepeofmcaaGreatPBp17
import Derived.Test.YtalcinepeofmcaaGreatPBp14
import Derived.Laws.EntriesVeiled
set_option linter.unusedVariables false
set_option linter.unusedSimpArgs false
set_option maxRecDepth 100000
set_option maxHeartbeats 40000000
namespace Go.Proofs.YtalcinepeofmcaaGreat.Pt
open Sp
theorem folds_length (p : Prt) (l : Pln) : (folds p l).length = p.chs.length := by simp [folds]
theorem folds_at {p : Prt} {l : Pln} {k : Nat} (hk : k < p.chs.length) : (folds p l)[k]'(by rw [folds_length]; exact hk) = foldS p l k := by simp [folds]
theorem stays_bad {p : Prt} {l : Pln} {k : Nat} (hk : k < p.chs.length) (h : staysBad (foldS p l k) = true) : (folds p l).any staysBad = true :=
  List.any_eq_true.2 ⟨foldS p l k, by rw [← folds_at hk]; exact List.getElem_mem _, h⟩
theorem stays_ok {p : Prt} {l : Pln} (h : ∀ k, k < p.chs.length → staysBad (foldS p l k) = false) : (folds p l).any staysBad = false := by
  cases q : (folds p l).any staysBad with
  | false => rfl
  | true =>
    obtain ⟨m, hm, hb⟩ := List.any_eq_true.1 q;obtain ⟨k, hk, rfl⟩ := List.mem_iff_getElem.1 hm;have hk' : k < p.chs.length := by rw [folds_length] at hk; exact hk
    rw [folds_at hk', h k hk'] at hb; cases hb
theorem folds_most {p : Prt} {l : Pln} {k : Nat} (hk : k < p.chs.length) : ((folds p l).map (·.most)).take (k + 1) = ((folds p l).map (·.most)).take k ++ [(foldS p l k).most] := by
  have h : k < ((folds p l).map (·.most)).length := by rw [List.length_map, folds_length]; exact hk
  rw [List.take_succ_eq_append_getElem h, List.getElem_map, folds_at hk]
end Go.Proofs.YtalcinepeofmcaaGreat.Pt
namespace Go.Proofs.YtalcinepeofmcaaGreat
open Go Go.RowKit Sp Pt
def StaysPost (w : World) (p : Prt) (l : Pln) (e : Ending) (w' : World) : Prop :=
  ∃ A c q, e = .returned (.tuple #[.slice A (staysV p l).length c, .int .i64 (staysE p l)]) ∧ OwnA w' 3 A (staysV p l).length c (ints (staysV p l)) q ∧ (∀ g ∈ q, w.heap.size ≤ g) ∧ Below w.heap.size w w'
theorem stays_no {w w' : World} {p : Prt} {l : Pln} {er : Int} (he : staysE p l = er) (h0 : er ≠ 0) (b : Below w.heap.size w w') : StaysPost w p l (.returned (.tuple #[.slice none 0 0, .int .i64 er])) w' := by
  have e : staysV p l = [] := by unfold staysV; rw [if_neg (by rw [he]; exact h0)]
  exact ⟨none, 0, [], by rw [e, he]; rfl, by rw [e]; exact OwnA.nil _ _, by simp, b⟩
theorem Stays_any (D : Nat) (Ac : Option Addr) (cc : Nat) (Ab : Option Addr) (cb : Nat) (p : Prt) (Al : Option Addr) (cl : Nat) (As : Option Addr) (cs : Nat) (l : Pln) (w : World)
    (PB : PrtB D w Ac cc Ab cb p) (LB : PlnB D w Al cl As cs l) (hD : D ≤ w.heap.size) :
    Calls Tryz.prog 30 #[.agg (prtV Ac cc Ab cb p), .agg (plnV Al cl As cs l)] w (StaysPost w p l) := by
  obtain ⟨i0, hi, hz0, hz1, hz2⟩ := info_parts info_intP;obtain ⟨W, hW⟩ : ∃ W, W = (w.alloc (.cells (prtV Ac cc Ab cb p) 25)).alloc (.cells (plnV Al cl As cs l) 35) := ⟨_, rfl⟩;obtain ⟨pb, hpb⟩ : ∃ b, b = w.heap.size := ⟨_, rfl⟩;obtain ⟨lb, hlb⟩ : ∃ b, b = w.heap.size + 1 := ⟨_, rfl⟩;obtain ⟨b1, hp, hl, kck, PB1, LB1⟩ := boxes2 PB LB hD hW hpb hlb;have hD1 : D ≤ W.heap.size := by have := b1.size; omega
  obtain ⟨er, her⟩ : ∃ er, er = checkL p l := ⟨_, rfl⟩;rw [← her] at kck;have c0 : W.cell? ⟨pb, 0, none⟩ = some (.slice Ac p.chs.length cc) := (cOH hp 0).trans rfl;have c1 : W.cell? ⟨pb, 1, none⟩ = some (.slice Ab p.bts.length cb) := (cOH hp 1).trans rfl;have c2 : W.cell? ⟨pb, 2, none⟩ = some (.int .i64 p.tugs) := (cOH hp 2).trans rfl;have c3 : W.cell? ⟨lb, 0, none⟩ = some (.int .i64 l.hours) := (cOH hl 0).trans rfl;have c4 : W.cell? ⟨lb, 1, none⟩ = some (.slice Al l.calls.length cl) := (cOH hl 1).trans rfl;have c5 : W.cell? ⟨lb, 2, none⟩ = some (.slice As l.swps.length cs) := (cOH hl 2).trans rfl;have zp := hL_ hp;have zl := hL_ hl;have H := Lib.hid (And.intro b1 (And.intro hp (And.intro hl (And.intro PB1 (And.intro LB1 (And.intro her kck))))));clear b1 hp hl PB LB PB1 LB1 kck her
  go_enter Tryz.func30, Tryz.ntmps30
  go_upto_region 1 with fail
  rw [← hW, ← hlb, ← hpb];clear hW hlb hpb;by_cases h0 : er = 0
  · subst h0;go_upto_region 4 with (go_at_call 56; refine H.out.2.2.2.2.2.2.mono ?_; rintro e w1 ⟨rfl, b1⟩; have B1 := Lib.hid b1; clear b1)
    have hck : checkL p l = 0 := H.out.2.2.2.2.2.1.symm;have v := val_of hck;have bw1 : Below w.heap.size w w1 := H.out.1.trans (B1.out.mono H.out.1.size);have hp1 := (B1.out.block _ (hL_ H.out.2.1)).trans H.out.2.1;have hl1 := (B1.out.block _ (hL_ H.out.2.2.1)).trans H.out.2.2.1;have hD2 : D ≤ w1.heap.size := by have := bw1.size; omega
    have E := wce_new hp1 hl1 (H.out.2.2.2.1.below (B1.out.mono hD1)) (H.out.2.2.2.2.1.below (B1.out.mono hD1)) hD2 w1.heap.size rfl;obtain ⟨W2, hW2⟩ : ∃ W2, W2 = w1.alloc (.cells #[.pointer (some ⟨pb, 0, none⟩), .pointer (some ⟨lb, 0, none⟩), .slice none 0 0, .slice none 0 0] 135) := ⟨_, rfl⟩;obtain ⟨wb, hwb⟩ : ∃ b, b = w1.heap.size := ⟨_, rfl⟩;have bw2 : Below w.heap.size w W2 := by rw [hW2]; exact bw1.alloc bw1.size _
    rw [← hW2, ← hwb] at E;have hn := v.nc;have ktu := turns_any ⟨_, _, E⟩ v;simp only at ktu;obtain ⟨tu, htu⟩ : ∃ tu, tu = turns p l := ⟨_, rfl⟩;rw [← htu] at ktu;have HF := Lib.hid (And.intro bw2 (And.intro E (And.intro v (And.intro hck (And.intro ktu htu)))));have hzs : W2.heap.size = wb + 1 := by rw [hW2, hwb]; simp
    have hpl : pb < wb ∧ lb < wb := by rw [hwb]; exact ⟨hL_ hp1, hL_ hl1⟩
    have hc2 : W2.cell? ⟨pb, 0, none⟩ = some (.slice Ac p.chs.length cc) := by rw [hW2]; exact (cOH (hA_ hp1 _) 0).trans rfl
    clear c0 c1 c2 c3 c4 c5 zp zl bw1 bw2 E v hck ktu hp1 hl1 htu B1;cases tu
    · go_upto_region 5 with fail
      rw [← hW2, ← hwb];clear hW2 hwb;go_wp2_with (go_at_call 58; refine HF.out.2.2.2.2.1.mono ?_; rintro e w3 ⟨rfl, b3⟩)
      go_ret2
      refine stays_no ?_ (by decide) (HF.out.1.trans (b3.mono HF.out.1.size));unfold staysE;rw [if_neg (by rw [HF.out.2.2.2.1]; decide), if_pos HF.out.2.2.2.2.2.symm]
    · go_upto_region 5 with fail
      rw [← hW2, ← hwb];clear hW2 hwb;go_upto_region 7 with (go_at_call 58; refine HF.out.2.2.2.2.1.mono ?_; rintro e w3 ⟨rfl, b3⟩; have B3 := Lib.hid b3; clear b3)
      have hc3 := (B3.out.cell (p := ⟨pb, 0, none⟩) (show pb < W2.heap.size by omega)).trans hc2;have zp3 : pb < w3.heap.size := by have := B3.out.size; omega
      have E3 := HF.out.2.1.below B3.out;have hz3 := B3.out.size;have b3 := HF.out.1.trans (B3.out.mono HF.out.1.size);have HG := Lib.hid (And.intro E3 b3);clear E3 hc2 b3;go_wp2_with fail
      go_loopg [8, 25] (p.chs.length) (fun g o i wr => ∃ (k : Nat) (Ao : Option Addr) (co : Nat) (q : List Nat), g + k = p.chs.length ∧ i = .int .i64 k ∧ o = .slice Ao k co ∧ OwnA wr 3 Ao k co (ints (((folds p l).map (·.most)).take k)) q ∧ (∀ g ∈ q, w3.heap.size ≤ g) ∧ Keep [] w3 wr ∧ ∀ j, j < k → staysBad (foldS p l j) = false)
      case atStart => exact ⟨0, none, 0, [], rfl, rfl, rfl, OwnA.nil _ _, by simp, Keep.refl _ _, by omega⟩
      case round =>
        obtain ⟨k, Ao, co, q, hk, rfl, rfl, hown, hq, hK, hgood⟩ := hrel;by_cases hlt : k < p.chs.length
        · have hBw := hK.below (Nat.le_refl w3.heap.size) (by simp);have hzr := hK.size;have kf := fold_any (w := wr) (k := k) ⟨_, _, HG.out.1.below hBw⟩ (by simp only; omega) HF.out.2.2.1 hlt;dsimp only at kf;obtain ⟨m, hm⟩ : ∃ m, m = foldS p l k := ⟨_, rfl⟩;have hj := foldS_jm HF.out.2.2.1 (c := (k : Int)) (by omega) (by omega);rw [← hm] at kf hj;obtain ⟨ad, fl, mo⟩ := m;have HI := Lib.hid (And.intro hown (And.intro hq (And.intro hK (And.intro hgood (And.intro hm kf)))));have hb : staysBad ⟨ad, fl, mo⟩ = (decide (mo ≠ 1000000000) && (decide (0 < ad) || decide (mo < fl))) := rfl;have HB := Lib.hid hb;clear hown hq hK hgood hm kf hBw hj hb;go_upto_region 12 with (go_at_call 57; refine HI.out.2.2.2.2.2.mono ?_; rintro e w4 ⟨rfl, b4⟩; have B4 := Lib.hid b4; clear b4)
          obtain ⟨W5, hW5⟩ : ∃ W5, W5 = w4.alloc (.cells #[.int .i64 ad, .int .i64 fl, .int .i64 mo] 90) := ⟨_, rfl⟩;obtain ⟨mb, hmb⟩ : ∃ b, b = w4.heap.size := ⟨_, rfl⟩;have hh : W5.heap[mb]? = some (.cells #[.int .i64 ad, .int .i64 fl, .int .i64 mo] 90 (0, 0)) := by rw [hW5, hmb]; exact heap_alloc_new _ _
          have c0 : W5.cell? ⟨mb, 0, none⟩ = some (.int .i64 ad) := (cOH hh 0).trans rfl;have c1 : W5.cell? ⟨mb, 1, none⟩ = some (.int .i64 fl) := (cOH hh 1).trans rfl;have c2 : W5.cell? ⟨mb, 2, none⟩ = some (.int .i64 mo) := (cOH hh 2).trans rfl;have zm := hL_ hh;have k5 : Keep [] wr W5 := by rw [hW5]; exact (Keep.of_below B4.out).alloc _
          have H5 := Lib.hid (And.intro (HI.out.1.keepS k5 (by simp)) (And.intro k5 k5.size));rw [← hW5, ← hmb];clear hW5 hmb hh k5;by_cases e1 : mo = 1000000000
          · have e1b : (mo != 1000000000) = false := by simpa using e1
            have HE1 := Lib.hid e1;clear e1
            go_wp2_with (at_builtin
                         refine wpList_append_A rfl (.tmp 46) (.tmp 49) 36 rfl i0 _ 8 Tryz.underlying36 hi hz0 hz1 hz2 rfl (A := Ao) (n := k) (c := co) (xs := ints (((folds p l).map (·.most)).take k)) (fp := q) (by simp [Act.eval]) _ (by simp [Act.eval]) (.int .i64 mo) (H5.out.1.alloc _) (cell_new_one _ _ _) rfl (by omega) (by omega) ?_;intro g off' c' w6 e1 e2 e3 e4;have HQ := Lib.hid (And.intro e1 (And.intro e2 e4));clear e1 e2 e3 e4)
            go_roundg (gk - 1);case measure => omega
            case rel =>
              obtain ⟨h1, h2, h3, h4, h5, h6⟩ := HI.out;obtain ⟨f1, f2, f4⟩ := HQ.out;have hmo : (foldS p l (k : Int)).most = mo := by rw [← h5]
              refine ⟨k + 1, some ⟨g, off', none⟩, c', [g], by omega, by go_num, rfl, by rw [folds_most hlt, hmo]; simpa [ints] using f1, ?_, ((h3.trans H5.out.2.1 (by simp)).alloc _).trans f4 (fun y hy => .inr (h2 y hy)), ?_⟩
              · intro y hy;rw [List.mem_singleton.1 hy];rcases f2 with f2 | f2
                · exact h2 _ f2
                · have := h3.size; have := H5.out.2.1.size; simp at f2; omega
              · intro j hj;by_cases ej : j = k
                · subst ej; rw [← h5, HB.out, HE1.out]; simp
                · exact h4 j (by omega)
          · have e1b : (mo != 1000000000) = true := by simpa using e1
            by_cases e2 : 0 < ad
            · go_wp2_with fail
              go_ret2
              refine stays_no ?_ (by decide) (HG.out.2.trans ((HI.out.2.2.1.trans H5.out.2.1 (by simp)).below HG.out.2.size (by simp)));unfold staysE;rw [if_neg (by rw [HF.out.2.2.2.1]; decide), if_neg (by rw [← HF.out.2.2.2.2.2]; decide), if_pos (stays_bad hlt (by rw [← HI.out.2.2.2.2.1, HB.out]; simp; omega))]
            · by_cases e3 : mo < fl
              · go_wp2_with fail
                go_ret2
                refine stays_no ?_ (by decide) (HG.out.2.trans ((HI.out.2.2.1.trans H5.out.2.1 (by simp)).below HG.out.2.size (by simp)));unfold staysE;rw [if_neg (by rw [HF.out.2.2.2.1]; decide), if_neg (by rw [← HF.out.2.2.2.2.2]; decide), if_pos (stays_bad hlt (by rw [← HI.out.2.2.2.2.1, HB.out]; simp; omega))]
              · go_wp2_with (at_builtin
                             refine wpList_append_A rfl (.tmp 46) (.tmp 49) 36 rfl i0 _ 8 Tryz.underlying36 hi hz0 hz1 hz2 rfl (A := Ao) (n := k) (c := co) (xs := ints (((folds p l).map (·.most)).take k)) (fp := q) (by simp [Act.eval]) _ (by simp [Act.eval]) (.int .i64 mo) (H5.out.1.alloc _) (cell_new_one _ _ _) rfl (by omega) (by omega) ?_;intro g off' c' w6 e1 e2 e3 e4;have HQ := Lib.hid (And.intro e1 (And.intro e2 e4));clear e1 e2 e3 e4)
                go_roundg (gk - 1);case measure => omega
                case rel =>
                  obtain ⟨h1, h2, h3, h4, h5, h6⟩ := HI.out;obtain ⟨f1, f2, f4⟩ := HQ.out;have hmo : (foldS p l (k : Int)).most = mo := by rw [← h5]
                  refine ⟨k + 1, some ⟨g, off', none⟩, c', [g], by omega, by go_num, rfl, by rw [folds_most hlt, hmo]; simpa [ints] using f1, ?_, ((h3.trans H5.out.2.1 (by simp)).alloc _).trans f4 (fun y hy => .inr (h2 y hy)), ?_⟩
                  · intro y hy;rw [List.mem_singleton.1 hy];rcases f2 with f2 | f2
                    · exact h2 _ f2
                    · have := h3.size; have := H5.out.2.1.size; simp at f2; omega
                  · intro j hj;by_cases ej : j = k
                    · subst ej; rw [← h5, HB.out]; simp; omega
                    · exact h4 j (by omega)
        · obtain rfl : k = p.chs.length := by omega
          have HL := Lib.hid (And.intro hown (And.intro hq (And.intro hK hgood)));clear hown hq hK hgood;go_wp2_with fail
          go_ret2
          have e0 : staysE p l = 0 := by
            unfold staysE;rw [if_neg (by rw [HF.out.2.2.2.1]; decide), if_neg (by rw [← HF.out.2.2.2.2.2]; decide), if_neg (by rw [stays_ok HL.out.2.2.2]; decide)]
          have ev : staysV p l = ((folds p l).map (·.most)).take p.chs.length := by
            unfold staysV;rw [if_pos e0, List.take_of_length_le (by rw [List.length_map, folds_length]; omega)]
          have el : (staysV p l).length = p.chs.length := by rw [ev, List.length_take, List.length_map, folds_length]; omega
          have hb := HG.out.2.trans (HL.out.2.2.1.below HG.out.2.size (by simp));exact ⟨Ao, co, q, by rw [el, e0]; rfl, by rw [el, ev]; exact HL.out.1, fun g hg => Nat.le_trans HG.out.2.size (HL.out.2.1 g hg), hb⟩
  · have hnb : (er != 0) = true := by simp [h0]
    have HC := Lib.hid h0;clear h0;go_wp2_with (go_at_call 56; refine H.out.2.2.2.2.2.2.mono ?_; rintro e w2 ⟨rfl, b2⟩)
    go_ret2
    refine stays_no ?_ HC.out (H.out.1.trans (b2.mono H.out.1.size));unfold staysE;rw [if_pos (by rw [← H.out.2.2.2.2.2.1]; exact HC.out), H.out.2.2.2.2.2.1]
end Go.Proofs.YtalcinepeofmcaaGreat
namespace Go.Proofs.YtalcinepeofmcaaGreat.Pt
open Sp
theorem worn_succ {p : Prt} {l : Pln} {k : Nat} (hk : k < p.chs.length) : wornN (folds p l) (k + 1) = if 0 ≤ rounds (foldS p l k) ∧ ((wornN (folds p l) k).1 < 0 ∨ rounds (foldS p l k) < (wornN (folds p l) k).1) then (rounds (foldS p l k), (k : Int)) else wornN (folds p l) k := by
  have h : (folds p l).getD k default = foldS p l k := by
    rw [List.getD_eq_getElem?_getD, List.getElem?_eq_getElem (by rw [folds_length]; exact hk), Option.getD_some, folds_at hk]
  rw [wornN, h]
def wornV (p : Prt) (l : Pln) : Int := if wornE p l = 0 then (wornR p l).1 else 0
def wornA (p : Prt) (l : Pln) : Int := if wornE p l = 0 then (wornR p l).2 else 0
end Go.Proofs.YtalcinepeofmcaaGreat.Pt
namespace Go.Proofs.YtalcinepeofmcaaGreat
open Go Go.RowKit Sp Pt
def WornPost (w : World) (p : Prt) (l : Pln) (e : Ending) (w' : World) : Prop := e = .returned (.tuple #[.int .i64 (wornV p l), .int .i64 (wornA p l), .int .i64 (wornE p l)]) ∧ Below w.heap.size w w'
theorem results_tmp3P {fn : Func} {t u v : Tmp} (h : fn.results = #[.tmp t, .tmp u, .tmp v]) (tmps : Array Value) (P : Program) (w : World) :
    (results fn tmps).run P w = .ok (.tuple #[tmps.getD t undef, tmps.getD u undef, tmps.getD v undef]) w := by
  simp [results, h]
theorem worn_no {w w' : World} {p : Prt} {l : Pln} {er : Int} (he : wornE p l = er) (h0 : er ≠ 0) (b : Below w.heap.size w w') : WornPost w p l (.returned (.tuple #[.int .i64 0, .int .i64 0, .int .i64 er])) w' :=
  ⟨by unfold wornV wornA; rw [if_neg (by rw [he]; exact h0), if_neg (by rw [he]; exact h0), he], b⟩
theorem Worn_any (D : Nat) (Ac : Option Addr) (cc : Nat) (Ab : Option Addr) (cb : Nat) (p : Prt) (Al : Option Addr) (cl : Nat) (As : Option Addr) (cs : Nat) (l : Pln) (w : World)
    (PB : PrtB D w Ac cc Ab cb p) (LB : PlnB D w Al cl As cs l) (hD : D ≤ w.heap.size) :
    Calls Tryz.prog 31 #[.agg (prtV Ac cc Ab cb p), .agg (plnV Al cl As cs l)] w (WornPost w p l) := by
  obtain ⟨W, hW⟩ : ∃ W, W = (w.alloc (.cells (prtV Ac cc Ab cb p) 25)).alloc (.cells (plnV Al cl As cs l) 35) := ⟨_, rfl⟩;obtain ⟨pb, hpb⟩ : ∃ b, b = w.heap.size := ⟨_, rfl⟩;obtain ⟨lb, hlb⟩ : ∃ b, b = w.heap.size + 1 := ⟨_, rfl⟩;obtain ⟨b1, hp, hl, kck, PB1, LB1⟩ := boxes2 PB LB hD hW hpb hlb;have hD1 : D ≤ W.heap.size := by have := b1.size; omega
  obtain ⟨er, her⟩ : ∃ er, er = checkL p l := ⟨_, rfl⟩;rw [← her] at kck;have c0 : W.cell? ⟨pb, 0, none⟩ = some (.slice Ac p.chs.length cc) := (cOH hp 0).trans rfl;have c1 : W.cell? ⟨pb, 1, none⟩ = some (.slice Ab p.bts.length cb) := (cOH hp 1).trans rfl;have c2 : W.cell? ⟨pb, 2, none⟩ = some (.int .i64 p.tugs) := (cOH hp 2).trans rfl;have c3 : W.cell? ⟨lb, 0, none⟩ = some (.int .i64 l.hours) := (cOH hl 0).trans rfl;have c4 : W.cell? ⟨lb, 1, none⟩ = some (.slice Al l.calls.length cl) := (cOH hl 1).trans rfl;have c5 : W.cell? ⟨lb, 2, none⟩ = some (.slice As l.swps.length cs) := (cOH hl 2).trans rfl;have zp := hL_ hp;have zl := hL_ hl;have H := Lib.hid (And.intro b1 (And.intro hp (And.intro hl (And.intro PB1 (And.intro LB1 (And.intro her kck))))));clear b1 hp hl PB LB PB1 LB1 kck her
  go_enter Tryz.func31, Tryz.ntmps31
  go_upto_region 1 with fail
  rw [← hW, ← hlb, ← hpb];clear hW hlb hpb;by_cases h0 : er = 0
  · subst h0;go_upto_region 4 with (go_at_call 56; refine H.out.2.2.2.2.2.2.mono ?_; rintro e w1 ⟨rfl, b1⟩; have B1 := Lib.hid b1; clear b1)
    have hck : checkL p l = 0 := H.out.2.2.2.2.2.1.symm;have v := val_of hck;have bw1 : Below w.heap.size w w1 := H.out.1.trans (B1.out.mono H.out.1.size);have hp1 := (B1.out.block _ (hL_ H.out.2.1)).trans H.out.2.1;have hl1 := (B1.out.block _ (hL_ H.out.2.2.1)).trans H.out.2.2.1;have hD2 : D ≤ w1.heap.size := by have := bw1.size; omega
    have E := wce_new hp1 hl1 (H.out.2.2.2.1.below (B1.out.mono hD1)) (H.out.2.2.2.2.1.below (B1.out.mono hD1)) hD2 w1.heap.size rfl;obtain ⟨W2, hW2⟩ : ∃ W2, W2 = w1.alloc (.cells #[.pointer (some ⟨pb, 0, none⟩), .pointer (some ⟨lb, 0, none⟩), .slice none 0 0, .slice none 0 0] 135) := ⟨_, rfl⟩;obtain ⟨wb, hwb⟩ : ∃ b, b = w1.heap.size := ⟨_, rfl⟩;have bw2 : Below w.heap.size w W2 := by rw [hW2]; exact bw1.alloc bw1.size _
    rw [← hW2, ← hwb] at E;have hn := v.nc;have HF := Lib.hid (And.intro bw2 (And.intro E (And.intro v hck)));have hzs : W2.heap.size = wb + 1 := by rw [hW2, hwb]; simp
    have hpl : pb < wb ∧ lb < wb := by rw [hwb]; exact ⟨hL_ hp1, hL_ hl1⟩
    have hc2 : W2.cell? ⟨pb, 0, none⟩ = some (.slice Ac p.chs.length cc) := by rw [hW2]; exact (cOH (hA_ hp1 _) 0).trans rfl
    clear c0 c1 c2 c3 c4 c5 zp zl bw1 bw2 E v hck hp1 hl1 B1;go_upto_region 5 with fail
    rw [← hW2, ← hwb];clear hW2 hwb;have zp3 : pb < W2.heap.size := by omega
    go_wp2_with fail
    go_loopg [9, 10, 24] (p.chs.length) (fun g r9 r10 i wr => ∃ k : Nat, g + k = p.chs.length ∧ i = .int .i64 k ∧ r9 = .int .i64 (wornN (folds p l) k).1 ∧ r10 = .int .i64 (wornN (folds p l) k).2 ∧ Keep [] W2 wr)
    case atStart => exact ⟨0, rfl, rfl, rfl, rfl, Keep.refl _ _⟩
    case round =>
      obtain ⟨k, hk, rfl, rfl, rfl, hK⟩ := hrel;by_cases hlt : k < p.chs.length
      · have hBw := hK.below (Nat.le_refl W2.heap.size) (by simp);have hzr := hK.size;have kf := fold_any (w := wr) (k := k) ⟨_, _, HF.out.2.1.below hBw⟩ (by simp only; omega) HF.out.2.2.1 hlt;dsimp only at kf;obtain ⟨m, hm⟩ : ∃ m, m = foldS p l k := ⟨_, rfl⟩;have hj := foldS_jm HF.out.2.2.1 (c := (k : Int)) (by omega) (by omega);have hS := worn_succ (l := l) hlt;rw [← hm] at kf hj hS;have kr := fun wx => rounds_any m wx (by have := hj.add; omega) (by have := hj.flo; omega) (by have h1 := hj.lo; have h2 := hj.hi; simp only [NL] at h2; omega);obtain ⟨ro, hro⟩ : ∃ r, r = rounds m := ⟨_, rfl⟩;obtain ⟨R, hR⟩ : ∃ R, R = wornN (folds p l) k := ⟨_, rfl⟩;rw [← hro, ← hR] at hS;simp only [← hro] at kr;rw [← hR];obtain ⟨le, at_⟩ := R;simp only at hS ⊢;have HI := Lib.hid (And.intro hK (And.intro kf (And.intro kr hS)));clear hK kf hj hS kr hBw hm hro hR;by_cases a1 : 0 ≤ ro
        · by_cases a2 : le < 0
          · go_wp2_with (first | (go_at_call 57; refine HI.out.2.1.mono ?_; rintro e w4 ⟨rfl, b4⟩; have B4 := Lib.hid b4; clear b4) | (go_at_call 59; refine (HI.out.2.2.1 _).mono ?_; rintro e w5 ⟨rfl, b5⟩; have B5 := Lib.hid b5; clear b5))
            go_roundg (gk - 1);case measure => omega
            case rel =>
              obtain ⟨h1, h2, h3, h4⟩ := HI.out;have k5 := (h1.trans (Keep.of_below (S := []) B4.out) (by simp)).trans (Keep.of_below (S := []) B5.out) (by simp);rw [if_pos ⟨by assumption, .inl (by assumption)⟩] at h4;exact ⟨k + 1, by omega, by go_num, by rw [h4], by rw [h4], k5⟩
          · by_cases a3 : ro < le
            · go_wp2_with (first | (go_at_call 57; refine HI.out.2.1.mono ?_; rintro e w4 ⟨rfl, b4⟩; have B4 := Lib.hid b4; clear b4) | (go_at_call 59; refine (HI.out.2.2.1 _).mono ?_; rintro e w5 ⟨rfl, b5⟩; have B5 := Lib.hid b5; clear b5))
              go_roundg (gk - 1);case measure => omega
              case rel =>
                obtain ⟨h1, h2, h3, h4⟩ := HI.out;have k5 := (h1.trans (Keep.of_below (S := []) B4.out) (by simp)).trans (Keep.of_below (S := []) B5.out) (by simp);rw [if_pos ⟨by assumption, .inr (by assumption)⟩] at h4;exact ⟨k + 1, by omega, by go_num, by rw [h4], by rw [h4], k5⟩
            · go_wp2_with (first | (go_at_call 57; refine HI.out.2.1.mono ?_; rintro e w4 ⟨rfl, b4⟩; have B4 := Lib.hid b4; clear b4) | (go_at_call 59; refine (HI.out.2.2.1 _).mono ?_; rintro e w5 ⟨rfl, b5⟩; have B5 := Lib.hid b5; clear b5))
              go_roundg (gk - 1);case measure => omega
              case rel =>
                obtain ⟨h1, h2, h3, h4⟩ := HI.out;have k5 := (h1.trans (Keep.of_below (S := []) B4.out) (by simp)).trans (Keep.of_below (S := []) B5.out) (by simp);rw [if_neg (by omega)] at h4;exact ⟨k + 1, by omega, by go_num, by rw [h4], by rw [h4], k5⟩
        · go_wp2_with (first | (go_at_call 57; refine HI.out.2.1.mono ?_; rintro e w4 ⟨rfl, b4⟩; have B4 := Lib.hid b4; clear b4) | (go_at_call 59; refine (HI.out.2.2.1 _).mono ?_; rintro e w5 ⟨rfl, b5⟩; have B5 := Lib.hid b5; clear b5))
          go_roundg (gk - 1);case measure => omega
          case rel =>
            obtain ⟨h1, h2, h3, h4⟩ := HI.out;have k5 := (h1.trans (Keep.of_below (S := []) B4.out) (by simp)).trans (Keep.of_below (S := []) B5.out) (by simp);rw [if_neg (by omega)] at h4;exact ⟨k + 1, by omega, by go_num, by rw [h4], by rw [h4], k5⟩
      · obtain rfl : k = p.chs.length := by omega
        have hE : wornE p l = if (wornN (folds p l) p.chs.length).1 < 0 then 4 else 0 := by unfold wornE wornR; rw [if_neg (by rw [HF.out.2.2.2]; decide)]
        obtain ⟨R, hR⟩ : ∃ R, R = wornN (folds p l) p.chs.length := ⟨_, rfl⟩;have hRR : wornR p l = R := hR.symm;rw [← hR] at hE ⊢;obtain ⟨le, at_⟩ := R;simp only at hE ⊢;have HL := Lib.hid (And.intro hK (And.intro hE hRR));clear hK hE hRR hR;by_cases hle : le < 0
        · go_wp2_with fail
          refine bodyPost_ret (results_tmp3P rfl _ _ _) rfl ?_;exact worn_no (by rw [HL.out.2.1, if_pos (by assumption)]) (by decide) (HF.out.1.trans (HL.out.1.below HF.out.1.size (by simp)))
        · go_wp2_with fail
          refine bodyPost_ret (results_tmp3P rfl _ _ _) rfl ?_;have e0 : wornE p l = 0 := by rw [HL.out.2.1, if_neg (by omega)]
          exact ⟨by unfold wornV wornA; rw [if_pos e0, if_pos e0, e0, HL.out.2.2]; rfl, HF.out.1.trans (HL.out.1.below HF.out.1.size (by simp))⟩
  · have hnb : (er != 0) = true := by simp [h0]
    have HC := Lib.hid h0;clear h0;go_wp2_with (go_at_call 56; refine H.out.2.2.2.2.2.2.mono ?_; rintro e w2 ⟨rfl, b2⟩)
    refine bodyPost_ret (results_tmp3P rfl _ _ _) rfl ?_;refine worn_no ?_ HC.out (H.out.1.trans (b2.mono H.out.1.size));unfold wornE;rw [if_pos (by rw [← H.out.2.2.2.2.2.1]; exact HC.out), H.out.2.2.2.2.2.1]
end Go.Proofs.YtalcinepeofmcaaGreat
namespace Go.Proofs.YtalcinepeofmcaaGreat
open Go Go.RowKit Sp Pt
theorem ne_ty {w : World} {a b : Nat} {cs ds : Array Value} {t u : TypeId} {f f' : Nat × Nat} (h : w.heap[a]? = some (.cells cs t f)) (h' : w.heap[b]? = some (.cells ds u f')) (ht : t ≠ u) : a ≠ b := by
  rintro rfl;rw [h] at h';cases h';exact ht rfl
theorem made_pair (a : Value) (k : Nat) : madeCells #[a, a] k = (List.replicate k a).toArray := by
  apply Array.ext
  · simp [madeCells]
  · intro i h1 h2;simp only [madeCells, Array.getElem_map, Array.getElem_range, List.getElem_toArray, List.getElem_replicate];rcases Nat.mod_two_eq_zero_or_one i with h | h <;> simp [h]
theorem plcs_zero : ∀ n, plcs (List.replicate n ⟨0, 0⟩) = List.replicate (n * 2) (Value.int .i64 0)
  | 0 => rfl
  | n + 1 => by
    have := plcs_zero n;rw [List.replicate_succ, show (n + 1) * 2 = n * 2 + 1 + 1 from by omega, List.replicate_succ, List.replicate_succ, ← this];rfl
abbrev plc0 (n : Nat) : Array Value := (plcs (List.replicate n ⟨0, 0⟩)).toArray
theorem run_make_plcs (n : Nat) (hn : n ≤ 1000) (w : World) :
    (Instr.makeSlice 27 (.int .i64 (n : Int)) (.int .i64 (n : Int))).run Tryz.prog w = .ok (.slice (some ⟨w.heap.size, 0, none⟩) n n) (w.alloc (.cells (plc0 n) 47)) := by
  obtain ⟨i0, hi, hz0, hz1, hz2⟩ := info_parts infoPlc;have := run_makeSlice (P := Tryz.prog) w 27 47 i0 _ Tryz.underlying27 hi hz0 .i64 .i64 (n : Int) (n : Int) (by omega) (by omega) (by rw [hz1]; simp; omega) (by rw [hz2]; omega) (by omega);rw [hz1] at this;simp only [Int.toNat_natCast] at this;rw [this]
  congr 3
  show madeCells #[.int .i64 0, .int .i64 0] (n * 2) = (plcs (List.replicate n ⟨0, 0⟩)).toArray;rw [made_pair, plcs_zero]
structure Sg4 where
  g1 : Nat
  g2 : Nat
  b1 : Nat
  b2 : Nat
def BsV (W0 : World) (pb vb n m cv cb : Nat) (Av Ab : Option Addr) (s : Sg4) : Nat → Value → Prop
  | 0, v => v = .slice Av n cv
  | 1, v => v = .int .i64 n
  | 2, v => v = .slice (some ⟨s.g1, 0, none⟩) n n
  | 3, v => v = .pointer (some ⟨pb, 1, none⟩)
  | 4, v => v = .slice Ab m cb
  | 5, v => v = .int .i64 m
  | 6, v => v = .slice (some ⟨s.g2, 0, none⟩) m m
  | 7, v => v = .pointer (some ⟨s.b1, 0, none⟩)
  | 8, v => v = .pointer (some ⟨s.b2, 0, none⟩)
  | _, _ => True
def BsW (W0 : World) (pb vb n m cv cb : Nat) (Av Ab : Option Addr) (s : Sg4) (l : Nat → Bool) (w : World) : Prop := Keep [] W0 w ∧ (l 2 = true → w.heap[s.g1]? = some (.cells (plc0 n) 47 (0, 0)) ∧ W0.heap.size ≤ s.g1) ∧ (l 6 = true → w.heap[s.g2]? = some (.cells (noughts m) 3 (0, 0)) ∧ W0.heap.size ≤ s.g2) ∧ (l 7 = true → w.heap[s.b1]? = some (.cells #[if l 9 then .slice (some ⟨s.g1, 0, none⟩) n n else .slice none 0 0] 27 (0, 0)) ∧ W0.heap.size ≤ s.b1) ∧ (l 8 = true → w.heap[s.b2]? = some (.cells #[if l 10 then .slice (some ⟨s.g2, 0, none⟩) m m else .slice none 0 0] 36 (0, 0)) ∧ W0.heap.size ≤ s.b2)
theorem best_any (D : Nat) (Ac : Option Addr) (cc : Nat) (Ab : Option Addr) (cb : Nat) (p : Prt) (Av : Option Addr) (cv : Nat) (l : List Vst) (w : World) (PB : PrtB D w Ac cc Ab cb p) (VB : RdB D w 4 Av l.length (vscs l)) (hD : D ≤ w.heap.size) (hok : askedE p l = 0) :
    Calls Tryz.prog 41 #[.agg (prtV Ac cc Ab cb p), .slice Av l.length cv] w fun e w' => ∃ A k, e = .returned (.tuple #[.slice A (bestS p l).found.length k, .int .i64 (bestS p l).least]) ∧ Rd w' 2 A (bestS p l).found.length (plcs (bestS p l).found) ∧ (bestS p l).found.length ≤ 5 ∧ Below w.heap.size w w' ∧ (bestS p l).found.length ≤ k ∧ k ≤ 9223372036854775807 := by
  have hck : checkP p = 0 ∧ l.length ≤ 5 ∧ l.all vstOk = true := by
    unfold askedE at hok;split at hok
    · rename_i h; exact absurd hok h
    · rename_i h
      split at hok
      · cases hok
      · split at hok
        · cases hok
        · rename_i h2 h3; exact ⟨by omega, by omega, by simpa using h3⟩
  have pv := checkP_ok hck.1;have hnb := pv.nb;have hnl := hck.2.1;obtain ⟨iI, hI, hI0, hI1, hI2⟩ := info_parts info_intP;obtain ⟨iB, hB, hB0, hB1, hB2⟩ := info_parts info_boolP;have hvok : ∀ v ∈ l, 0 ≤ v.arr ∧ v.arr ≤ 1000 ∧ v.arr ≤ v.last ∧ v.last ≤ 2000 ∧ 1 ≤ v.stay ∧ v.stay ≤ 100 ∧ 10 ≤ v.dra ∧ v.dra ≤ 3000 := fun v hv => by
    have := List.all_eq_true.1 hck.2.2 v hv;simp only [vstOk, Bool.and_eq_true, Pt.within_iff] at this;omega
  obtain ⟨W, hW⟩ : ∃ W, W = (((w.alloc (.cells (prtV Ac cc Ab cb p) 25)).alloc (.cells #[.slice Av l.length cv] 26)).alloc (.cells #[.int .i64 (-1)] 3)).alloc (.cells #[.slice none 0 0] 27) := ⟨_, rfl⟩;obtain ⟨pb, hpb⟩ : ∃ b, b = w.heap.size := ⟨_, rfl⟩;obtain ⟨vb, hvb⟩ : ∃ b, b = w.heap.size + 1 := ⟨_, rfl⟩;obtain ⟨lb, hlb⟩ : ∃ b, b = w.heap.size + 1 + 1 := ⟨_, rfl⟩;obtain ⟨fb, hfb⟩ : ∃ b, b = w.heap.size + 1 + 1 + 1 := ⟨_, rfl⟩;have b0 : Below w.heap.size w W := by rw [hW]; exact ((((Below.refl _ _).alloc (Nat.le_refl _) _).alloc (by simp) _).alloc (by simp; omega) _).alloc (by simp; omega) _
  have g1 : W.heap[pb]? = some (.cells (prtV Ac cc Ab cb p) 25 (0, 0)) := by rw [hW, hpb]; exact hA_ (hA_ (hA_ (heap_alloc_new _ _) _) _) _
  have g2 : W.heap[vb]? = some (.cells #[.slice Av l.length cv] 26 (0, 0)) := by
    rw [hW, hvb];refine hA_ (hA_ ?_ _) _;have := heap_alloc_new (w.alloc (.cells (prtV Ac cc Ab cb p) 25)) (.cells #[.slice Av l.length cv] 26)
    rwa [World.size_alloc] at this
  have g3 : W.heap[lb]? = some (.cells #[.int .i64 (-1)] 3 (0, 0)) := by
    rw [hW, hlb];refine hA_ ?_ _;have := heap_alloc_new ((w.alloc (.cells (prtV Ac cc Ab cb p) 25)).alloc (.cells #[.slice Av l.length cv] 26)) (.cells #[.int .i64 (-1)] 3)
    rwa [World.size_alloc, World.size_alloc] at this
  have g4 : W.heap[fb]? = some (.cells #[.slice none 0 0] 27 (0, 0)) := by
    rw [hW, hfb];have := heap_alloc_new (((w.alloc (.cells (prtV Ac cc Ab cb p) 25)).alloc (.cells #[.slice Av l.length cv] 26)).alloc (.cells #[.int .i64 (-1)] 3)) (.cells #[.slice none 0 0] 27)
    rwa [World.size_alloc, World.size_alloc, World.size_alloc] at this
  have c0v : W.cell? ⟨vb, 0, none⟩ = some (.slice Av l.length cv) := (cOH g2 0).trans rfl;have c1v : W.cell? ⟨pb, 1, none⟩ = some (.slice Ab p.bts.length cb) := (cOH g1 1).trans rfl;have zv := hL_ g2;have zp := hL_ g1;have H := Lib.hid (And.intro b0 (And.intro g1 (And.intro g2 (And.intro g3 (And.intro g4 (And.intro PB VB))))));have HV := Lib.hid (And.intro pv hvok);have hge : w.heap.size ≤ pb ∧ w.heap.size ≤ vb ∧ w.heap.size ≤ lb ∧ w.heap.size ≤ fb ∧ pb < vb ∧ vb < lb ∧ lb < fb := by omega
  have hfs : fb < W.heap.size := hL_ g4;clear b0 g1 g2 g3 g4 PB VB hok hck pv hvok
  go_enter Tryz.func41, Tryz.ntmps41
  go_upto_region 3 with fail
  rw [← hW, ← hfb, ← hlb, ← hvb, ← hpb];clear hW hfb hlb hvb hpb;refine wRS (σ := Sg4) (by kernel_rfl) (by kernel_rfl) (fun sg jx vx _ => BsV W pb vb l.length p.bts.length cv cb Av Ab sg jx vx) (fun sg ly wx => BsW W pb vb l.length p.bts.length cv cb Av Ab sg ly wx) ⟨0, 0, 0, 0⟩ ?_ ?_ ?_
  · exact ⟨(Keep.refl _ _).drew, (fun h => absurd h (by simp)), (fun h => absurd h (by simp)), (fun h => absurd h (by simp)), (fun h => absurd h (by simp))⟩
  · simp only [AllFrom, Nat.zero_add, Nat.reduceAdd];refine ⟨?_, ?_, ?_, ?_, ?_, ?_, ?_, ?_, ?_, ?_, ?_, trivial⟩
    · refine sP_ fun sg ly a wr hl hd hW hF => ?_;have et3 := hF.old 3 (by kernel_rfl);simp [Act.eval] at et3;have c0 := hW.1.cell c0v (by simp);exact ⟨by simpa [BsW, upd] using hW, .slice Av l.length cv, by go_simp, rfl⟩
    · refine sP_ fun sg ly a wr hl hd hW hF => ?_;simp [Region.binds] at hd;have et12 := hF.new 0 12 (by simp [hd]) rfl;simp [BsV, Act.eval] at et12;exact ⟨by simpa [BsW, upd] using hW, .int .i64 l.length, by go_simp, rfl⟩
    · refine sR_ fun sg ly a wr hl hd hW hF => ?_;simp [Region.binds] at hd;have et13 := hF.new 1 13 (by simp [hd]) rfl;simp [BsV, Act.eval] at et13;have n9 := hF.notYet 2 9 hl (by kernel_rfl);have hmk := run_make_plcs l.length (by omega) wr;refine ⟨_, wr.alloc (.cells (plc0 l.length) 47), { sg with g1 := wr.heap.size }, by go_simp, ⟨hW.1.alloc _, (fun _ => ⟨heap_alloc_new _ _, hW.1.size⟩), (fun h => ⟨hA_ (hW.2.2.1 (by simpa [upd] using h)).1 _, (hW.2.2.1 (by simpa [upd] using h)).2⟩), (fun h => ⟨by simpa [upd, n9] using hA_ (hW.2.2.2.1 (by simpa [upd] using h)).1 _, (hW.2.2.2.1 (by simpa [upd] using h)).2⟩), (fun h => ⟨by simpa [upd] using hA_ (hW.2.2.2.2 (by simpa [upd] using h)).1 _, (hW.2.2.2.2 (by simpa [upd] using h)).2⟩)⟩, rfl, ?_⟩;intro i u hi h;have i2 : i ≠ 2 := by rintro rfl; rw [hl] at hi; cases hi
      unfold BsV at h ⊢;split at h <;> first | exact h | exact absurd rfl i2
    · refine sP_ fun sg ly a wr hl hd hW hF => ?_;have et2 := hF.old 2 (by kernel_rfl);simp [Act.eval] at et2;exact ⟨by simpa [BsW, upd] using hW, .pointer (some ⟨pb, 1, none⟩), by go_simp, rfl⟩
    · refine sP_ fun sg ly a wr hl hd hW hF => ?_;simp [Region.binds] at hd;have et15 := hF.new 3 15 (by simp [hd]) rfl;simp [BsV, Act.eval] at et15;have c0 := hW.1.cell c1v (by simp);exact ⟨by simpa [BsW, upd] using hW, .slice Ab p.bts.length cb, by go_simp, rfl⟩
    · refine sP_ fun sg ly a wr hl hd hW hF => ?_;simp [Region.binds] at hd;have et16 := hF.new 4 16 (by simp [hd]) rfl;simp [BsV, Act.eval] at et16;exact ⟨by simpa [BsW, upd] using hW, .int .i64 p.bts.length, by go_simp, rfl⟩
    · refine sR_ fun sg ly a wr hl hd hW hF => ?_;simp [Region.binds] at hd;have et17 := hF.new 5 17 (by simp [hd]) rfl;simp [BsV, Act.eval] at et17;have n10 := hF.notYet 6 10 hl (by kernel_rfl);have hmk := run_make_ints (P := Tryz.prog) 36 iI Tryz.underlying36 hI hI0 hI1 hI2 p.bts.length (by omega) wr;refine ⟨_, wr.alloc (.cells (noughts p.bts.length) 3), { sg with g2 := wr.heap.size }, by go_simp, ⟨hW.1.alloc _, (fun h => ⟨hA_ (hW.2.1 (by simpa [upd] using h)).1 _, (hW.2.1 (by simpa [upd] using h)).2⟩), (fun _ => ⟨heap_alloc_new _ _, hW.1.size⟩), (fun h => ⟨by simpa [upd] using hA_ (hW.2.2.2.1 (by simpa [upd] using h)).1 _, (hW.2.2.2.1 (by simpa [upd] using h)).2⟩), (fun h => ⟨by simpa [upd, n10] using hA_ (hW.2.2.2.2 (by simpa [upd] using h)).1 _, (hW.2.2.2.2 (by simpa [upd] using h)).2⟩)⟩, rfl, ?_⟩;intro i u hi h;have i2 : i ≠ 6 := by rintro rfl; rw [hl] at hi; cases hi
      unfold BsV at h ⊢;split at h <;> first | exact h | exact absurd rfl i2
    · refine sR_ fun sg ly a wr hl hd hW hF => ?_;have n9 := hF.notYet 7 9 hl (by kernel_rfl);refine ⟨_, wr.alloc (.cells #[.slice none 0 0] 27), { sg with b1 := wr.heap.size }, by go_simp, ⟨hW.1.alloc _, (fun h => ⟨hA_ (hW.2.1 (by simpa [upd] using h)).1 _, (hW.2.1 (by simpa [upd] using h)).2⟩), (fun h => ⟨hA_ (hW.2.2.1 (by simpa [upd] using h)).1 _, (hW.2.2.1 (by simpa [upd] using h)).2⟩), (fun _ => ⟨by rw [if_neg (by simp [upd, n9])]; exact heap_alloc_new _ _, hW.1.size⟩), (fun h => ⟨by simpa [upd] using hA_ (hW.2.2.2.2 (by simpa [upd] using h)).1 _, (hW.2.2.2.2 (by simpa [upd] using h)).2⟩)⟩, rfl, ?_⟩;intro i u hi h;have i2 : i ≠ 7 := by rintro rfl; rw [hl] at hi; cases hi
      unfold BsV at h ⊢;split at h <;> first | exact h | exact absurd rfl i2
    · refine sR_ fun sg ly a wr hl hd hW hF => ?_;have n10 := hF.notYet 8 10 hl (by kernel_rfl);refine ⟨_, wr.alloc (.cells #[.slice none 0 0] 36), { sg with b2 := wr.heap.size }, by go_simp, ⟨hW.1.alloc _, (fun h => ⟨hA_ (hW.2.1 (by simpa [upd] using h)).1 _, (hW.2.1 (by simpa [upd] using h)).2⟩), (fun h => ⟨hA_ (hW.2.2.1 (by simpa [upd] using h)).1 _, (hW.2.2.1 (by simpa [upd] using h)).2⟩), (fun h => ⟨by simpa [upd] using hA_ (hW.2.2.2.1 (by simpa [upd] using h)).1 _, (hW.2.2.2.1 (by simpa [upd] using h)).2⟩), (fun _ => ⟨by rw [if_neg (by simp [upd, n10])]; exact heap_alloc_new _ _, hW.1.size⟩)⟩, rfl, ?_⟩;intro i u hi h;have i2 : i ≠ 8 := by rintro rfl; rw [hl] at hi; cases hi
      unfold BsV at h ⊢;split at h <;> first | exact h | exact absurd rfl i2
    · refine sS_ rfl fun sg ly a wr hl hd hW hF => ?_;simp [Region.binds] at hd;have et8 := hF.new 7 8 (by simp [hd]) rfl;simp [BsV, Act.eval] at et8;have et14 := hF.new 2 14 (by simp [hd]) rfl;simp [BsV, Act.eval] at et14;have y7 : ly 7 = true := by simp [hd]
      obtain ⟨hk, w2, w6, w7, w8⟩ := hW;obtain ⟨hh, hs⟩ := w7 y7;rw [if_neg (by simp [hl])] at hh;have c0 := (cOH hh 0).trans rfl;have f0 := fOH hh 0;have z0 := hL_ hh;refine ⟨wr.setCell ⟨sg.b1, 0, none⟩ (.slice (some ⟨sg.g1, 0, none⟩) l.length l.length), sg, .skip, by go_simp, .inl rfl, ⟨hk.setCell (.inr hs) _, fun h => ⟨hSN (w2 (by simpa [upd] using h)).1 (ne_ty (w2 (by simpa [upd] using h)).1 hh (by decide)) _, (w2 (by simpa [upd] using h)).2⟩, fun h => ⟨hSN (w6 (by simpa [upd] using h)).1 (ne_ty (w6 (by simpa [upd] using h)).1 hh (by decide)) _, (w6 (by simpa [upd] using h)).2⟩, fun _ => ⟨by rw [if_pos (by simp [upd])]; exact hS_ hh 0 _, hs⟩, fun h => ⟨hSN (w8 (by simpa [upd] using h)).1 (ne_ty (w8 (by simpa [upd] using h)).1 hh (by decide)) _, (w8 (by simpa [upd] using h)).2⟩⟩, fun _ _ _ h => h⟩
    · refine sS_ rfl fun sg ly a wr hl hd hW hF => ?_;simp [Region.binds] at hd;have et9 := hF.new 8 9 (by simp [hd]) rfl;simp [BsV, Act.eval] at et9;have et18 := hF.new 6 18 (by simp [hd]) rfl;simp [BsV, Act.eval] at et18;have y8 : ly 8 = true := by simp [hd]
      obtain ⟨hk, w2, w6, w7, w8⟩ := hW;obtain ⟨hh, hs⟩ := w8 y8;rw [if_neg (by simp [hl])] at hh;have c0 := (cOH hh 0).trans rfl;have f0 := fOH hh 0;have z0 := hL_ hh;refine ⟨wr.setCell ⟨sg.b2, 0, none⟩ (.slice (some ⟨sg.g2, 0, none⟩) p.bts.length p.bts.length), sg, .skip, by go_simp, .inl rfl, ⟨hk.setCell (.inr hs) _, fun h => ⟨hSN (w2 (by simpa [upd] using h)).1 (ne_ty (w2 (by simpa [upd] using h)).1 hh (by decide)) _, (w2 (by simpa [upd] using h)).2⟩, fun h => ⟨hSN (w6 (by simpa [upd] using h)).1 (ne_ty (w6 (by simpa [upd] using h)).1 hh (by decide)) _, (w6 (by simpa [upd] using h)).2⟩, fun h => ⟨hSN (w7 (by simpa [upd] using h)).1 (ne_ty (w7 (by simpa [upd] using h)).1 hh (by decide)) _, (w7 (by simpa [upd] using h)).2⟩, fun _ => ⟨by rw [if_pos (by simp [upd])]; exact hS_ hh 0 _, hs⟩⟩, fun _ _ _ h => h⟩
  intro sg a w3 hWW hF;have e8 := hF.new 7 8 (by decide) rfl;have e9 := hF.new 8 9 (by decide) rfl;obtain ⟨f3, hf3, rfl⟩ := hF.lit;rw [← hf3] at e8 e9;simp only [BsV] at e8 e9;obtain ⟨k3, w2, w6, w7, w8⟩ := hWW;obtain ⟨o1, o1'⟩ := w2 (by simp);obtain ⟨o2, o2'⟩ := w6 (by simp);obtain ⟨o3, o3'⟩ := w7 (by simp);obtain ⟨o4, o4'⟩ := w8 (by simp);rw [if_pos (by simp)] at o3 o4;obtain ⟨G1, G2, B1, B2⟩ := sg;simp only at o1 o1' o2 o2' o3 o3' o4 o4' e8 e9;have c3 := k3.cell c0v (by simp);have hk3 := k3.size;have zv3 : vb < w3.heap.size := by omega
  have H3 := Lib.hid (And.intro k3 (And.intro o1 (And.intro o2 (And.intro o3 o4))));have hz3 : G1 < w3.heap.size ∧ G2 < w3.heap.size ∧ B1 < w3.heap.size ∧ B2 < w3.heap.size := ⟨hL_ o1, hL_ o2, hL_ o3, hL_ o4⟩;have hne3 : G1 ≠ G2 ∧ G1 ≠ B1 ∧ G1 ≠ B2 ∧ G2 ≠ B1 ∧ G2 ≠ B2 ∧ B1 ≠ B2 := ⟨ne_ty o1 o2 (by decide), ne_ty o1 o3 (by decide), ne_ty o1 o4 (by decide), ne_ty o2 o3 (by decide), ne_ty o2 o4 (by decide), ne_ty o3 o4 (by decide)⟩;have hmk := run_make_bools (P := Tryz.prog) 37 4 iB Tryz.underlying37 hB hB0 hB1 hB2 l.length (by omega) w3;clear hf3 hF k3 w2 w6 w7 w8 o1 o2 o3 o4 c0v c1v zv zp;simp only [List.filterMap, List.foldl, List.setIfInBounds_toArray, List.set_cons_succ, List.set_cons_zero, e8, e9];clear e8 e9;go_upto_region 6 with fail
  obtain ⟨X0, hX0⟩ : ∃ X, X = ((w3.alloc (.cells (falses l.length) 4)).alloc (.cells #[.slice (some ⟨w3.heap.size, 0, none⟩) l.length l.length] 37)).alloc (.cells #[.nilFunc] 154) := ⟨_, rfl⟩;obtain ⟨gd, hgd⟩ : ∃ b, b = w3.heap.size := ⟨_, rfl⟩;obtain ⟨bd, hbd⟩ : ∃ b, b = w3.heap.size + 1 := ⟨_, rfl⟩;obtain ⟨bs, hbs⟩ : ∃ b, b = w3.heap.size + 1 + 1 := ⟨_, rfl⟩;have kX : Keep [] w3 X0 := by rw [hX0]; exact (((Keep.refl _ _).alloc _).alloc _).alloc _
  have h1 : X0.heap[gd]? = some (.cells (falses l.length) 4 (0, 0)) := by rw [hX0, hgd]; exact hA_ (hA_ (heap_alloc_new _ _) _) _
  have h2 : X0.heap[bd]? = some (.cells #[.slice (some ⟨gd, 0, none⟩) l.length l.length] 37 (0, 0)) := by
    rw [hX0, hbd, hgd];refine hA_ ?_ _;have := heap_alloc_new (w3.alloc (.cells (falses l.length) 4)) (.cells #[.slice (some ⟨w3.heap.size, 0, none⟩) l.length l.length] 37)
    rwa [World.size_alloc] at this
  have h3 : X0.heap[bs]? = some (.cells #[.nilFunc] 154 (0, 0)) := by
    rw [hX0, hbs];have := heap_alloc_new ((w3.alloc (.cells (falses l.length) 4)).alloc (.cells #[.slice (some ⟨w3.heap.size, 0, none⟩) l.length l.length] 37)) (.cells #[.nilFunc] 154)
    rwa [World.size_alloc, World.size_alloc] at this
  rw [← hX0, ← hbs, ← hbd, ← hgd];have s0 := (cOH h3 0).trans rfl;have sf := fOH h3 0;have sz := hL_ h3;have hords : w3.heap.size ≤ gd ∧ gd < bd ∧ bd < bs := by omega
  obtain ⟨X, hX⟩ : ∃ X, X = X0.setCell ⟨bs, 0, none⟩ (.func (.func 68) #[] #[.pointer (some ⟨lb, 0, none⟩), .pointer (some ⟨vb, 0, none⟩), .pointer (some ⟨B1, 0, none⟩), .pointer (some ⟨fb, 0, none⟩), .pointer (some ⟨bd, 0, none⟩), .pointer (some ⟨pb, 0, none⟩), .pointer (some ⟨B2, 0, none⟩), .pointer (some ⟨bs, 0, none⟩)]) := ⟨_, rfl⟩;have HX0 := Lib.hid (And.intro kX (And.intro h1 (And.intro h2 h3)));clear hX0 hgd hbd hbs kX h1 h2 h3 hmk;go_upto_region 7 with fail
  rw [← hX];have kX3 : Keep [] w3 X := by rw [hX]; exact HX0.out.1.setCell (.inr (by simp only; omega)) _
  have kX : Keep [] W X := H3.out.1.trans kX3 (by simp);have N3 : ∀ {x : Nat} {o : Obj}, w3.heap[x]? = some o → X.heap[x]? = some o := fun hx => (kX3.block _ (hL_ hx) (by simp)).trans hx;have N0 : ∀ {x : Nat} {o : Obj}, W.heap[x]? = some o → X.heap[x]? = some o := fun hx => (kX.block _ (hL_ hx) (by simp)).trans hx;have hwW := H.out.1.size;have bX : Below w.heap.size w X := H.out.1.trans (kX.below hwW (by simp));obtain ⟨c, hc⟩ : ∃ c : BC, c = ⟨lb, vb, B1, fb, bd, pb, B2, bs, G1, gd, G2, D, Ac, Ab, Av, cc, cb, cv, p, l⟩ := ⟨_, rfl⟩;have E : BE c X := by
    rw [hc];exact ⟨N0 H.out.2.2.1, N3 H3.out.2.2.2.1, by rw [hX]; exact hSN HX0.out.2.2.1 (by simp only; omega) _, N0 H.out.2.1, N3 H3.out.2.2.2.2, by rw [hX]; exact hS_ HX0.out.2.2.2 0 _, H.out.2.2.2.2.2.1.below (bX.mono hD), H.out.2.2.2.2.2.2.below (bX.mono hD), by have := bX.size; simp only; omega⟩
  have S : BS c X X (List.replicate p.bts.length 0) (List.replicate l.length false) ⟨-1, [], List.replicate l.length ⟨0, 0⟩⟩ := by
    rw [hc];refine ⟨Keep.refl _ _, N0 H.out.2.2.2.1, N3 H3.out.2.1, ?_, ?_, ⟨none, 0, N0 H.out.2.2.2.2.1, ⟨by simp, fun h => absurd h (by simp), by simp, by simp⟩⟩, by simp, by simp, by simp, by simp, ?_, ?_, by simp, by simp only; omega⟩
    · rw [show (bools (List.replicate l.length false)).toArray = falses l.length from by simp [bools, falses], hX];exact hSN HX0.out.2.1 (by simp only; omega) _
    · have := N3 H3.out.2.2.1;rw [show (ints (List.replicate p.bts.length 0)).toArray = noughts p.bts.length from by simp [ints, noughts]];exact this
    · intro x hx; rw [List.eq_of_mem_replicate hx]; omega
    · intro x hx; rw [List.eq_of_mem_replicate hx]; exact ⟨by decide, by decide, by decide, by decide⟩
  have N : BN c := by
    rw [hc];refine ⟨?_, ?_, ?_, ?_, ?_, ?_, ?_, ?_, hnl, HV.out.2, HV.out.1⟩
    · simp only; omega
    all_goals first | (simp; omega) | (intro x hx; simp at hx; rcases hx with rfl | rfl | rfl | rfl | rfl <;> simp only <;> omega)
  have kse : Calls Tryz.prog 68 #[.int .i64 0, .int .i64 0, .pointer (some ⟨lb, 0, none⟩), .pointer (some ⟨vb, 0, none⟩), .pointer (some ⟨B1, 0, none⟩), .pointer (some ⟨fb, 0, none⟩), .pointer (some ⟨bd, 0, none⟩), .pointer (some ⟨pb, 0, none⟩), .pointer (some ⟨B2, 0, none⟩), .pointer (some ⟨bs, 0, none⟩)] X
      fun e w' => e = .returned (.tuple #[]) ∧ BS c X w' (List.replicate p.bts.length 0) (List.replicate l.length false) (bestS p l) := by
    have := seek_any N l.length X _ _ _ 0 0 E S (by rw [hc]; simp) (Int.le_refl _) (by decide);rw [hc] at this ⊢;exact this
  have c7 : X.cell? ⟨bs, 0, none⟩ = some (.func (.func 68) #[] #[.pointer (some ⟨lb, 0, none⟩), .pointer (some ⟨vb, 0, none⟩), .pointer (some ⟨B1, 0, none⟩), .pointer (some ⟨fb, 0, none⟩), .pointer (some ⟨bd, 0, none⟩), .pointer (some ⟨pb, 0, none⟩), .pointer (some ⟨B2, 0, none⟩), .pointer (some ⟨bs, 0, none⟩)]) := by
    have := E.cells.2.2.2.2.2.2;rw [hc] at this;exact this
  have hsX : bs < X.heap.size := World.block_lt_of_cell? _ _ c7;have HS := Lib.hid (And.intro kse (And.intro bX (And.intro hc (And.intro hwW N))));clear kse bX hc E S N kX3 kX hX s0 sf sz c3;go_wp2_with (go_at_call 68; refine HS.out.1.mono ?_; rintro e w4 ⟨rfl, S4⟩; have H4 := Lib.hid S4; clear S4)
  have hlb2 : c.bl = lb := by rw [HS.out.2.2.1]
  have hfb2 : c.bf = fb := by rw [HS.out.2.2.1]
  obtain ⟨Ar, kr, f1, f2⟩ := H4.out.fo;have f0 := H4.out.le;rw [hlb2] at f0;rw [hfb2] at f1;obtain ⟨R, hR⟩ : ∃ R, R = bestS p l := ⟨_, rfl⟩;rw [← hR] at f0 f1 f2;have d1 : w4.cell? ⟨fb, 0, none⟩ = some (.slice Ar R.found.length kr) := (cOH f1 0).trans rfl;have d0 : w4.cell? ⟨lb, 0, none⟩ = some (.int .i64 R.least) := (cOH f0 0).trans rfl;have z1 := hL_ f1;have z0 := hL_ f0;have HR := Lib.hid (And.intro hR f2);clear f0 f1 f2 hR hlb2 hfb2;go_quiet (fail);go_wp2_with fail
  go_ret2
  refine ⟨Ar, kr, ?_, ?_, ?_, ?_, ?_⟩
  · rw [← HR.out.1]; rfl
  · rw [← HR.out.1]; exact (HR.out.2.keep ((Keep.refl _ _).drewN _)).rd
  · exact H4.out.lo
  · exact HS.out.2.1.trans ((H4.out.kp.drewN _).below HS.out.2.1.size (fun x hx => by have := HS.out.2.2.2.2.hD x hx; have h2 := HS.out.2.2.1; rw [h2] at hx; simp at hx; have := HS.out.2.2.2.1; have := H3.out.1.size; omega))
  · rw [← HR.out.1]; exact HR.out.2.2.2
def BestPostC (w : World) (p : Prt) (l : List Vst) (e : Ending) (w' : World) : Prop :=
  ∃ A k, e = .returned (.tuple #[.slice A (bestV p l).length k, .int .i64 (bestN p l), .int .i64 (bestE p l)]) ∧ Rd w' 2 A (bestV p l).length (plcs (bestV p l)) ∧ (bestV p l).length ≤ 5 ∧ Below w.heap.size w w' ∧ (bestV p l).length ≤ k ∧ k ≤ 9223372036854775807
def BestPost (w : World) (p : Prt) (l : List Vst) (e : Ending) (w' : World) : Prop :=
  ∃ A k, e = .returned (.tuple #[.slice A (bestV p l).length k, .int .i64 (bestN p l), .int .i64 (bestE p l)]) ∧ Rd w' 2 A (bestV p l).length (plcs (bestV p l)) ∧ (bestV p l).length ≤ 5 ∧ Below w.heap.size w w'
theorem best_no {w w' : World} {p : Prt} {l : List Vst} {er : Int} (he : bestE p l = er) (h0 : er ≠ 0) (b : Below w.heap.size w w') : BestPostC w p l (.returned (.tuple #[.slice none 0 0, .int .i64 0, .int .i64 er])) w' := by
  have e1 : bestV p l = [] := by unfold bestV; rw [if_neg (by rw [he]; exact h0)]
  have e2 : bestN p l = 0 := by unfold bestN; rw [if_neg (by rw [he]; exact h0)]
  exact ⟨none, 0, by rw [e1, e2, he]; rfl, by rw [e1]; exact ⟨rfl, fun h => absurd h (by simp)⟩, by rw [e1]; simp, b, by rw [e1]; simp, by simp⟩
theorem Best_cap (D : Nat) (Ac : Option Addr) (cc : Nat) (Ab : Option Addr) (cb : Nat) (p : Prt) (Av : Option Addr) (cv : Nat) (l : List Vst) (w : World) (PB : PrtB D w Ac cc Ab cb p) (VB : RdB D w 4 Av l.length (vscs l)) (hD : D ≤ w.heap.size) :
    Calls Tryz.prog 14 #[.agg (prtV Ac cc Ab cb p), .slice Av l.length cv] w (BestPostC w p l) := by
  obtain ⟨W, hW⟩ : ∃ W, W = w.alloc (.cells (prtV Ac cc Ab cb p) 25) := ⟨_, rfl⟩;obtain ⟨pb, hpb⟩ : ∃ b, b = w.heap.size := ⟨_, rfl⟩;have hh : W.heap[pb]? = some (.cells (prtV Ac cc Ab cb p) 25 (0, 0)) := by rw [hW, hpb]; exact heap_alloc_new _ _
  have b0 : Below w.heap.size w W := by rw [hW]; exact (Below.refl _ _).alloc (Nat.le_refl _) _
  have hD1 : D ≤ W.heap.size := by have := b0.size; omega
  have c0 : W.cell? ⟨pb, 0, none⟩ = some (.slice Ac p.chs.length cc) := (cOH hh 0).trans rfl;have c1 : W.cell? ⟨pb, 1, none⟩ = some (.slice Ab p.bts.length cb) := (cOH hh 1).trans rfl;have c2 : W.cell? ⟨pb, 2, none⟩ = some (.int .i64 p.tugs) := (cOH hh 2).trans rfl;have zp := hL_ hh;obtain ⟨er, her⟩ : ∃ er, er = askedE p l := ⟨_, rfl⟩;have PB1 := PB.below (b0.mono hD);have VB1 := VB.below (b0.mono hD);have ka := asked_any D Ac cc Ab cb p Av cv l W PB1 (VB1.rd hD1) hD1;rw [← her] at ka;have H := Lib.hid (And.intro b0 (And.intro her (And.intro ka (And.intro PB1 (And.intro VB1 hh)))));clear hh b0 ka her PB VB PB1 VB1
  go_enter Tryz.func14, Tryz.ntmps14
  go_upto_region 1 with fail
  rw [← hW, ← hpb];clear hW hpb;by_cases h0 : er = 0
  · subst h0;go_upto_region 4 with (go_at_call 40; refine H.out.2.2.1.mono ?_; rintro e w1 ⟨rfl, b1⟩; have B1 := Lib.hid b1; clear b1)
    have hz := B1.out.size;have hh1 := (B1.out.block _ (hL_ H.out.2.2.2.2.2)).trans H.out.2.2.2.2.2;have kb := best_any D Ac cc Ab cb p Av cv l w1 (H.out.2.2.2.1.below (B1.out.mono hD1)) (H.out.2.2.2.2.1.below (B1.out.mono hD1)) (by omega) H.out.2.1.symm;clear c0 c1 c2 zp;have c0 : w1.cell? ⟨pb, 0, none⟩ = some (.slice Ac p.chs.length cc) := (cOH hh1 0).trans rfl;have c1 : w1.cell? ⟨pb, 1, none⟩ = some (.slice Ab p.bts.length cb) := (cOH hh1 1).trans rfl;have c2 : w1.cell? ⟨pb, 2, none⟩ = some (.int .i64 p.tugs) := (cOH hh1 2).trans rfl;have zp := hL_ hh1;obtain ⟨R, hR⟩ : ∃ R, R = bestS p l := ⟨_, rfl⟩;rw [← hR] at kb;have hE : bestE p l = if R.least < 0 then 4 else 0 := by unfold bestE; rw [if_neg (by rw [← H.out.2.1]; decide), hR]
    obtain ⟨le, hle⟩ : ∃ le, le = R.least := ⟨_, rfl⟩;rw [← hle] at kb hE;have HB := Lib.hid (And.intro kb (And.intro hR (And.intro hE (And.intro hle (H.out.1.trans (B1.out.mono H.out.1.size))))));clear kb hR hE hle hh1;by_cases hl : le < 0
    · go_wp2_with (go_at_call 41; refine HB.out.1.mono ?_; rintro e w2 ⟨Ar, kr, rfl, o1, o2, o3, o4⟩; have HC := Lib.hid (And.intro o1 (And.intro o2 (And.intro o3 o4))); clear o1 o2 o3 o4)
      refine bodyPost_ret (results_tmp3P rfl _ _ _) rfl ?_;exact best_no (by rw [HB.out.2.2.1, if_pos (by assumption)]) (by decide) (HB.out.2.2.2.2.trans (HC.out.2.2.1.mono HB.out.2.2.2.2.size))
    · go_wp2_with (go_at_call 41; refine HB.out.1.mono ?_; rintro e w2 ⟨Ar, kr, rfl, o1, o2, o3, o4⟩; have HC := Lib.hid (And.intro o1 (And.intro o2 (And.intro o3 o4))); clear o1 o2 o3 o4)
      refine bodyPost_ret (results_tmp3P rfl _ _ _) rfl ?_;have e0 : bestE p l = 0 := by rw [HB.out.2.2.1, if_neg (by omega)]
      have e1 : bestV p l = R.found := by unfold bestV; rw [if_pos e0, HB.out.2.1]
      have e2 : bestN p l = le := by unfold bestN; rw [if_pos e0, HB.out.2.2.2.1, HB.out.2.1]
      exact ⟨Ar, kr, by rw [e0, e1, e2]; rfl, by rw [e1]; exact HC.out.1, by rw [e1]; exact HC.out.2.1, HB.out.2.2.2.2.trans (HC.out.2.2.1.mono HB.out.2.2.2.2.size), by rw [e1]; exact HC.out.2.2.2⟩
  · have hnb : (er != 0) = true := by simp [h0]
    have HC := Lib.hid h0;clear h0;go_wp2_with (go_at_call 40; refine H.out.2.2.1.mono ?_; rintro e w1 ⟨rfl, b1⟩; have B1 := Lib.hid b1; clear b1)
    refine bodyPost_ret (results_tmp3P rfl _ _ _) rfl ?_;exact best_no (by unfold bestE; rw [if_pos (by rw [← H.out.2.1]; exact HC.out), H.out.2.1]) HC.out (H.out.1.trans (B1.out.mono H.out.1.size))
theorem Best_any (D : Nat) (Ac : Option Addr) (cc : Nat) (Ab : Option Addr) (cb : Nat) (p : Prt) (Av : Option Addr) (cv : Nat) (l : List Vst) (w : World) (PB : PrtB D w Ac cc Ab cb p) (VB : RdB D w 4 Av l.length (vscs l)) (hD : D ≤ w.heap.size) :
    Calls Tryz.prog 14 #[.agg (prtV Ac cc Ab cb p), .slice Av l.length cv] w (BestPost w p l) :=
  (Best_cap D Ac cc Ab cb p Av cv l w PB VB hD).mono fun _ _ ⟨A, k, h1, h2, h3, h4, _⟩ => ⟨A, k, h1, h2, h3, h4⟩
end Go.Proofs.YtalcinepeofmcaaGreat
