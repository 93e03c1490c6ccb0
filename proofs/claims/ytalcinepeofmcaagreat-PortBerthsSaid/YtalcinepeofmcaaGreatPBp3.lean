import Derived.Test.YtalcinepeofmcaaGreatPBp1
import Derived.Test.YtalcinepeofmcaaGreatPBp2
set_option linter.unusedVariables false
set_option linter.unusedSimpArgs false
set_option maxRecDepth 100000
set_option maxHeartbeats 40000000
namespace Go.Proofs.YtalcinepeofmcaaGreat
open Go Go.RowKit Sp Hu
def pnt (p : Pnt) : List Value := [.int .i64 p.x, .int .i64 p.y]
abbrev pnts (l : List Pnt) : List Value := l.flatMap pnt
theorem pnts_get {l : List Pnt} {k : Nat} (hk : k < l.length) : (pnts l)[k * 2]? = some (.int .i64 l[k].x) ∧ (pnts l)[k * 2 + 1]? = some (.int .i64 l[k].y) :=
  ⟨flat_get (f := pnt) (s := 2) (fun _ => rfl) hk (j := 0) (by decide), flat_get (f := pnt) (s := 2) (fun _ => rfl) hk (j := 1) (by decide)⟩
theorem huin_any (n lo hi : Int) (w : World) :
    Calls Tryz.prog 100 #[.int .i64 n, .int .i64 lo, .int .i64 hi] w fun e w' => e = .returned (.bool (within n lo hi)) ∧ w = w' := by
  go_enter Tryz.func100, Tryz.ntmps100
  go_wp2
  all_goals (go_ret; refine ⟨?_, rfl⟩; simp [within]; try omega)
theorem huend_any (A : Option Addr) (c : Nat) (l : List Pnt) (w : World) (hr : Rd w 2 A l.length (pnts l)) (hl : 0 < l.length) (hm : l.length ≤ 1000) :
    Calls Tryz.prog 85 #[.slice A l.length c] w fun e w' => e = .returned (.int .i64 (endX l)) ∧ w = w' := by
  obtain ⟨b, off, rfl, hb, hc⟩ := hr.2 hl;obtain ⟨n, hn⟩ : ∃ n, l.length = n + 1 := ⟨l.length - 1, by omega⟩;have g := hc _ _ (pnts_get (l := l) (k := n) (by omega)).1;have he : endX l = (l[n]'(by omega)).x := by
    unfold endX;rw [List.getLastD_eq_getLast?, List.getLast?_eq_getElem?, show l.length - 1 = n by omega, List.getElem?_eq_getElem (by omega)]; rfl
  rw [he];obtain ⟨v, hv⟩ : ∃ v, v = (l[n]'(by omega)).x := ⟨_, rfl⟩;rw [← hv] at g ⊢;rw [hn];have hw : ((n + 1 : Nat) : Int) - 1 = (n : Int) := by omega
  have hn' : n ≤ 1000 := by omega
  clear hr hc he hv hl hm hn
  go_enter Tryz.func85, Tryz.ntmps85
  go_wp2_with fail
  go_ret;exact ⟨rfl, rfl⟩
structure HvS where
  b1 : Nat
  b2 : Nat
def Hv4V (b off n c k j : Nat) (pa pb : Pnt) (s : HvS) : Nat → Value → Prop
  | 0, v => v = .slice (some ⟨b, off, none⟩) n c
  | 1, v => v = .int .i64 k
  | 2, v => v = .int .i64 j
  | 3, v => v = .pointer (some ⟨b, off + j * 2, none⟩)
  | 4, v => v = .agg #[.int .i64 pa.x, .int .i64 pa.y]
  | 5, v => v = .slice (some ⟨b, off, none⟩) n c
  | 6, v => v = .int .i64 k
  | 7, v => v = .pointer (some ⟨b, off + k * 2, none⟩)
  | 8, v => v = .agg #[.int .i64 pb.x, .int .i64 pb.y]
  | 9, v => v = .pointer (some ⟨s.b1, 0, none⟩)
  | 10, v => v = .pointer (some ⟨s.b2, 0, none⟩)
  | _, _ => True
theorem value_any (A : Option Addr) (c : Nat) (l : List Pnt) (x : Int) (w : World) (hr : Rd w 2 A l.length (pnts l)) (hl : 0 < l.length) (hm : l.length ≤ 1000) (hx : -1000 ≤ x ∧ x ≤ 1000) (hpr : ∀ p ∈ l, 0 ≤ p.x ∧ p.x ≤ 1000 ∧ 0 ≤ p.y ∧ p.y ≤ 100000) :
    Calls Tryz.prog 101 #[.slice A l.length c, .int .i64 x] w fun e w' => e = .returned (.tuple #[.int .i64 (val l x).1, .int .i64 (val l x).2]) ∧ Below w.heap.size w w' := by
  obtain ⟨b, off, rfl, hb, hc⟩ := hr.2 hl;have HC := Lib.hid (And.intro hc hpr);clear hr hc hpr
  go_enter Tryz.func101, Tryz.ntmps101
  go_wp2_with fail
  go_loopg [6] (l.length - 1) (fun g i wr => ∃ k : Nat, g + k = l.length ∧ 1 ≤ k ∧ i = .int .i64 k ∧ val (l.drop (k - 1)) x = val l x ∧ Below w.heap.size w wr)
  case atStart => exact ⟨1, by omega, by omega, rfl, by simp, Below.refl _ _⟩
  case round =>
    obtain ⟨k, hk, hk1, rfl, hv, bb⟩ := hrel;obtain ⟨j, rfl⟩ : ∃ j, k = j + 1 := ⟨k - 1, by omega⟩;rw [Nat.add_sub_cancel] at hv;obtain ⟨k, hkj⟩ : ∃ k, k = j + 1 := ⟨_, rfl⟩;rw [← hkj] at hk hk1 ⊢;have HKJ := Lib.hid hkj;have hj1 : j < k ∧ k ≤ j + 1 := by omega
    clear hkj;have HB := Lib.hid (And.intro bb hv);clear bb hv;by_cases hlt : k < l.length
    · have hjl : j < l.length := by omega
      have gj := pnts_get (l := l) (k := j) hjl;have gk' := pnts_get (l := l) (k := k) hlt;have hbw : b < wr.heap.size := Nat.lt_of_lt_of_le hb HB.out.1.size;have hpa := HC.out.2 _ (List.getElem_mem hjl);have hpb := HC.out.2 _ (List.getElem_mem hlt);have cj0 := (HB.out.1.cell (p := ⟨b, off + j * 2, none⟩) hb).trans (HC.out.1 _ _ gj.1);have cj1 : wr.cell? ⟨b, off + j * 2 + 1, none⟩ = some (.int .i64 l[j].y) := (HB.out.1.cell (p := ⟨b, off + j * 2 + 1, none⟩) hb).trans (by rw [Nat.add_assoc]; exact HC.out.1 _ _ gj.2);have ck0 := (HB.out.1.cell (p := ⟨b, off + k * 2, none⟩) hb).trans (HC.out.1 _ _ gk'.1);have ck1 : wr.cell? ⟨b, off + k * 2 + 1, none⟩ = some (.int .i64 l[k].y) := (HB.out.1.cell (p := ⟨b, off + k * 2 + 1, none⟩) hb).trans (by rw [Nat.add_assoc]; exact HC.out.1 _ _ gk'.2);have hd : l.drop j = l[j] :: l[k] :: l.drop (k + 1) := by
        rw [List.drop_eq_getElem_cons hjl]
        congr 1
        have e := HKJ.out;subst e;rw [List.drop_eq_getElem_cons hlt]
      have hdk : l.drop k = l[k] :: l.drop (k + 1) := List.drop_eq_getElem_cons hlt;obtain ⟨pa, hpae⟩ : ∃ q, q = l[j] := ⟨_, rfl⟩;obtain ⟨pb, hpbe⟩ : ∃ q, q = l[k] := ⟨_, rfl⟩;rw [← hpae] at hpa cj0 cj1 hd;rw [← hpbe] at hpb ck0 ck1 hd hdk;have hvv := HB.out.2;rw [hd, val] at hvv;have HP := Lib.hid (And.intro (And.intro cj0 cj1) (And.intro ck0 ck1));have HV := Lib.hid (And.intro hvv hdk);have zb := hbw;clear hd hdk hvv hpae hpbe gj gk' cj0 cj1 ck0 ck1 hbw hjl;go_wp2_with fail
      refine wRS (σ := HvS) (by kernel_rfl) (by kernel_rfl) (fun sg jx vx _ => Hv4V b off l.length c k j pa pb sg jx vx) (fun sg ly wx => Own wr.heap.size wr [if ly 9 = true then It.blk sg.b1 (.cells (if ly 11 = true then #[.int .i64 pa.x, .int .i64 pa.y] else #[.int .i64 0, .int .i64 0]) 107) else noIt, if ly 10 = true then It.blk sg.b2 (.cells (if ly 12 = true then #[.int .i64 pb.x, .int .i64 pb.y] else #[.int .i64 0, .int .i64 0]) 107) else noIt] wx) ⟨0, 0⟩ ?_ ?_ ?_
      · exact (Own.start wr).blank.blank.drew
      · simp only [AllFrom, Nat.zero_add, Nat.reduceAdd];refine ⟨?_, ?_, ?_, ?_, ?_, ?_, ?_, ?_, ?_, ?_, ?_, ?_, ?_, trivial⟩
        · refine sP_ fun sg ly act wx hl hd hW hF => ?_;have et0 := hF.old 0 (by kernel_rfl);simp [Act.eval] at et0;exact ⟨hW, .slice (some ⟨b, off, none⟩) l.length c, by go_simp, rfl⟩
        · refine sP_ fun sg ly act wx hl hd hW hF => ?_;have et6 := hF.old 6 (by kernel_rfl);simp [Act.eval] at et6;exact ⟨hW, .int .i64 k, by go_simp, rfl⟩
        · refine sP_ fun sg ly act wx hl hd hW hF => ?_;simp [Region.binds] at hd;have et16 := hF.new 1 16 (by simp [hd]) rfl;simp [Hv4V, Act.eval] at et16;have ew : IntKind.i64.wrap ((k : Int) - 1) = (j : Int) := by rw [IntWalk.i64_in _ (by omega)]; omega
          exact ⟨hW, .int .i64 j, by go_simp, rfl⟩
        · refine sP_ fun sg ly act wx hl hd hW hF => ?_;simp [Region.binds] at hd;have et15 := hF.new 0 15 (by simp [hd]) rfl;simp [Hv4V, Act.eval] at et15;have et17 := hF.new 2 17 (by simp [hd]) rfl;simp [Hv4V, Act.eval] at et17;have hjl : (j : Int) < (l.length : Int) := by omega
          exact ⟨hW, .pointer (some ⟨b, off + j * 2, none⟩), by go_simp, rfl⟩
        · refine sP_ fun sg ly act wx hl hd hW hF => ?_;simp [Region.binds] at hd;have et18 := hF.new 3 18 (by simp [hd]) rfl;simp [Hv4V, Act.eval] at et18;have hO := hW;try dsimp only at hO
          have c0 := (hO.bel.cell (p := ⟨b, off + j * 2, none⟩) zb).trans HP.out.1.1;have c1 := (hO.bel.cell (p := ⟨b, off + j * 2 + 1, none⟩) zb).trans HP.out.1.2;have zz := Nat.lt_of_lt_of_le zb hO.bel.size;exact ⟨hW, .agg #[.int .i64 pa.x, .int .i64 pa.y], by go_simp, rfl⟩
        · refine sP_ fun sg ly act wx hl hd hW hF => ?_;have et0 := hF.old 0 (by kernel_rfl);simp [Act.eval] at et0;exact ⟨hW, .slice (some ⟨b, off, none⟩) l.length c, by go_simp, rfl⟩
        · refine sP_ fun sg ly act wx hl hd hW hF => ?_;have et6 := hF.old 6 (by kernel_rfl);simp [Act.eval] at et6;exact ⟨hW, .int .i64 k, by go_simp, rfl⟩
        · refine sP_ fun sg ly act wx hl hd hW hF => ?_;simp [Region.binds] at hd;have et20 := hF.new 5 20 (by simp [hd]) rfl;simp [Hv4V, Act.eval] at et20;have et21 := hF.new 6 21 (by simp [hd]) rfl;simp [Hv4V, Act.eval] at et21;have hkl : (k : Int) < (l.length : Int) := by omega
          exact ⟨hW, .pointer (some ⟨b, off + k * 2, none⟩), by go_simp, rfl⟩
        · refine sP_ fun sg ly act wx hl hd hW hF => ?_;simp [Region.binds] at hd;have et22 := hF.new 7 22 (by simp [hd]) rfl;simp [Hv4V, Act.eval] at et22;have hO := hW;try dsimp only at hO
          have c0 := (hO.bel.cell (p := ⟨b, off + k * 2, none⟩) zb).trans HP.out.2.1;have c1 := (hO.bel.cell (p := ⟨b, off + k * 2 + 1, none⟩) zb).trans HP.out.2.2;have zz := Nat.lt_of_lt_of_le zb hO.bel.size;exact ⟨hW, .agg #[.int .i64 pb.x, .int .i64 pb.y], by go_simp, rfl⟩
        · refine sR_ fun sg ly act wx hl hd hW hF => ?_;have n11 := hF.notYet 9 11 hl (by kernel_rfl);have hO := hW;try dsimp only at hO
          simp only [hl, n11, Bool.false_eq_true, if_false, if_true] at hO;refine ⟨_, wx.alloc (.cells #[.int .i64 0, .int .i64 0] 107), { sg with b1 := wx.heap.size }, by go_simp, ?_, rfl, ?_⟩
          · have hN := hO.newB 0 rfl (.cells #[.int .i64 0, .int .i64 0] 107);simpa [upd, n11] using hN
          · intro i u hi h;have i9 : i ≠ 9 := by rintro rfl; rw [hl] at hi; cases hi
            have i11 : i ≠ 11 := by rintro rfl; rw [n11] at hi; cases hi
            unfold Hv4V at h ⊢;split at h <;> first | exact h | exact absurd rfl i9 | exact absurd rfl i11
        · refine sR_ fun sg ly act wx hl hd hW hF => ?_;have n12 := hF.notYet 10 12 hl (by kernel_rfl);have hO := hW;try dsimp only at hO
          simp only [hl, n12, Bool.false_eq_true, if_false, if_true] at hO;refine ⟨_, wx.alloc (.cells #[.int .i64 0, .int .i64 0] 107), { sg with b2 := wx.heap.size }, by go_simp, ?_, rfl, ?_⟩
          · have hN := hO.newB 1 rfl (.cells #[.int .i64 0, .int .i64 0] 107);simpa [upd, n12] using hN
          · intro i u hi h;have i10 : i ≠ 10 := by rintro rfl; rw [hl] at hi; cases hi
            have i12 : i ≠ 12 := by rintro rfl; rw [n12] at hi; cases hi
            unfold Hv4V at h ⊢;split at h <;> first | exact h | exact absurd rfl i10 | exact absurd rfl i12
        · refine sS_ rfl fun sg ly act wx hl hd hW hF => ?_;simp [Region.binds] at hd;have et7 := hF.new 9 7 (by simp [hd]) rfl;simp [Hv4V, Act.eval] at et7;have et19 := hF.new 4 19 (by simp [hd]) rfl;simp [Hv4V, Act.eval] at et19;have y9 : ly 9 = true := by simp [hd]
          have hO := hW;try dsimp only at hO
          simp only [hl, y9, Bool.false_eq_true, if_false, if_true] at hO;have hh := hO.heap 0 rfl;have clq0 := (cOH hh 0).trans rfl;have flq0 := fOH hh 0;have clq1 := (cOH hh 1).trans rfl;have flq1 := fOH hh 1;have zz := hL_ hh;refine ⟨((wx.setCell ⟨sg.b1, 0, none⟩ (.int .i64 pa.x)).setCell ⟨sg.b1, 1, none⟩ (.int .i64 pa.y)), sg, .skip, by go_simp, .inl rfl, ?_, fun _ _ _ h => h⟩;have hN := hO.set 0 rfl (((Keep.refl _ _).setCell (.inl (by simp)) (.int .i64 pa.x)).setCell (.inl (by simp)) (.int .i64 pa.y)) (hS_ (hS_ (hh) 0 (.int .i64 pa.x)) 1 (.int .i64 pa.y));simpa [upd, y9, hl] using hN
        · refine sS_ rfl fun sg ly act wx hl hd hW hF => ?_;simp [Region.binds] at hd;have et8 := hF.new 10 8 (by simp [hd]) rfl;simp [Hv4V, Act.eval] at et8;have et23 := hF.new 8 23 (by simp [hd]) rfl;simp [Hv4V, Act.eval] at et23;have y10 : ly 10 = true := by simp [hd]
          have hO := hW;try dsimp only at hO
          simp only [hl, y10, Bool.false_eq_true, if_false, if_true] at hO;have hh := hO.heap 1 rfl;have clq0 := (cOH hh 0).trans rfl;have flq0 := fOH hh 0;have clq1 := (cOH hh 1).trans rfl;have flq1 := fOH hh 1;have zz := hL_ hh;refine ⟨((wx.setCell ⟨sg.b2, 0, none⟩ (.int .i64 pb.x)).setCell ⟨sg.b2, 1, none⟩ (.int .i64 pb.y)), sg, .skip, by go_simp, .inl rfl, ?_, fun _ _ _ h => h⟩;have hN := hO.set 1 rfl (((Keep.refl _ _).setCell (.inl (by simp)) (.int .i64 pb.x)).setCell (.inl (by simp)) (.int .i64 pb.y)) (hS_ (hS_ (hh) 0 (.int .i64 pb.x)) 1 (.int .i64 pb.y));simpa [upd, y10, hl] using hN
      intro sg af w8 hWW hF;have e7 := hF.new 9 7 (by decide) rfl;have e8 := hF.new 10 8 (by decide) rfl;obtain ⟨ff, hf, rfl⟩ := hF.lit;obtain ⟨b1, b2⟩ := sg;rw [← hf] at e7 e8;simp only [Hv4V] at e7 e8;have O8 : Own wr.heap.size wr [if (fun j => decide (j < List.length (_ : List Oper))) 9 = true then It.blk (HvS.mk b1 b2).b1 (.cells (if (fun j => decide (j < List.length (_ : List Oper))) 11 = true then #[.int .i64 pa.x, .int .i64 pa.y] else #[.int .i64 0, .int .i64 0]) 107) else noIt, if (fun j => decide (j < List.length (_ : List Oper))) 10 = true then It.blk (HvS.mk b1 b2).b2 (.cells (if (fun j => decide (j < List.length (_ : List Oper))) 12 = true then #[.int .i64 pb.x, .int .i64 pb.y] else #[.int .i64 0, .int .i64 0]) 107) else noIt] w8 := hWW;simp only [List.length_cons, List.length_nil, Nat.reduceAdd, Nat.reduceLT, decide_true, if_true] at O8;have h1 := O8.heap 0 rfl;have h2 := O8.heap 1 rfl;have y0 := (cOH h1 0).trans rfl;have y1 := (cOH h1 1).trans rfl;have x0 := (cOH h2 0).trans rfl;have x1 := (cOH h2 1).trans rfl;have z1 := hL_ h1;have z2 := hL_ h2;have H8 := Lib.hid (HB.out.1.trans (O8.bel.mono HB.out.1.size));clear hWW hF hf O8 h1 h2;simp only [List.filterMap, List.foldl, List.setIfInBounds_toArray, List.set_cons_succ, List.set_cons_zero, e7, e8];clear e7 e8;by_cases hle : x ≤ pb.x
      · have d1 : decide (x ≤ pb.x) = true := decide_eq_true hle;have b1 := mul_bd (A := 100000) (B := 1000) (a := pa.y) (b := pb.x - pa.x) (by omega) (by omega);have b2 := mul_bd (A := 100000) (B := 2000) (a := pb.y - pa.y) (b := x - pa.x) (by omega) (by omega);have e1 := HV.out.1;rw [if_pos hle] at e1;have HE := Lib.hid e1;clear e1;go_wp2_with fail
        go_quiet (fail);go_wp2_with fail
        go_ret2
        exact ⟨by rw [← HE.out]; rfl, below_drewN H8.out _⟩
      · have d1 : decide (x ≤ pb.x) = false := decide_eq_false hle;go_wp2_with fail
        go_roundg (gk - 1);case measure => omega
        case rel => exact ⟨k + 1, by omega, by omega, by go_num, by rw [Nat.add_sub_cancel, HV.out.2, ← HV.out.1, if_neg (by omega)], H8.out⟩
    · obtain ⟨n, hn⟩ : ∃ n, l.length = n + 1 := ⟨l.length - 1, by omega⟩;obtain rfl : j = n := by omega
      have gj := pnts_get (l := l) (k := j) (by omega);have hbw : b < wr.heap.size := Nat.lt_of_lt_of_le hb HB.out.1.size;have cj1 : wr.cell? ⟨b, off + j * 2 + 1, none⟩ = some (.int .i64 (l[j]'(by omega)).y) := (HB.out.1.cell (p := ⟨b, off + j * 2 + 1, none⟩) hb).trans (by rw [Nat.add_assoc]; exact HC.out.1 _ _ gj.2);have hv := HB.out.2;have hd : l.drop j = [l[j]'(by omega)] := by
        rw [List.drop_eq_getElem_cons (by omega)]
        congr 1
        exact List.drop_eq_nil_of_le (by omega)
      rw [hd, val] at hv;obtain ⟨y, hy⟩ : ∃ y, y = (l[j]'(by omega)).y := ⟨_, rfl⟩;rw [← hy] at hv cj1;have hnl : l.length - 1 = j := by omega
      have hlj : (l.length : Int) - 1 = (j : Int) := by omega
      have HV := Lib.hid hv;clear hv hd hy gj;have hlt' : ¬ k < l.length := hlt;go_wp2_with fail
      go_ret2
      exact ⟨by rw [← HV.out]; rfl, HB.out.1⟩
end Go.Proofs.YtalcinepeofmcaaGreat
namespace Go.Proofs.YtalcinepeofmcaaGreat
open Go
section
variable {σ : Type} {P : Program} {ops : List Oper} {Q : Exit → Act → World → Prop} {a0 : Act} {φ : σ → Nat → Value → World → Prop} {W : σ → (Nat → Bool) → World → Prop} {i : Nat} {o : Oper}
theorem wQ_ {φ : Nat → Value → World → Prop} {l : Nat → Bool} {a : Act} {w : World} (hF : FrOk ops a0 φ l a w) {g d : Nat} {b z : Bool} (ho : o.guard = some (g, b)) (hd : (ops[g]?).bind (·.dst) = some d) (hl : l g = true) (hφ : ∀ v, φ g v w → v = .bool z) :
    Region.wanted o (yielded ops.toArray a.tmps) = (z == b) := by
  cases hg : ops[g]? with
  | none => rw [hg] at hd; cases hd
  | some og =>
    rw [hg] at hd;obtain ⟨v, hv, hp⟩ := hF.vals g og d hl hg hd;rw [hφ v hp] at hv;have hd' : og.dst = some d := hd;simp [Region.wanted, ho, yielded, hg, hd', hv]
theorem stepG_yes (h : StepOk P ops Q a0 φ W i o) (hw : ∀ (s : σ) (l : Nat → Bool) (a : Act) (w : World), (∀ e ∈ o.after.toList, Region.binds .any e = true → l e.on = true) → FrOk ops a0 (φ s) l a w → Region.wanted o (yielded ops.toArray a.tmps) = true) : StepOkG P ops Q a0 φ W i o :=
  stepG_guard (fun s l a w hl hd hW hF _ => h s l a w hl hd hW hF) (fun s l a w hl hd hW hF hn => by rw [hw s l a w hd hF] at hn; cases hn)
theorem stepG_no (h : ∀ (s : σ) (l : Nat → Bool) (a : Act) (w : World), l i = false → W s l w → W s (upd l i) w ∧ φ s i undef w) (hw : ∀ (s : σ) (l : Nat → Bool) (a : Act) (w : World), (∀ e ∈ o.after.toList, Region.binds .any e = true → l e.on = true) → FrOk ops a0 (φ s) l a w → Region.wanted o (yielded ops.toArray a.tmps) = false) : StepOkG P ops Q a0 φ W i o :=
  stepG_guard (fun s l a w hl hd hW hF hn => by rw [hw s l a w hd hF] at hn; cases hn) (fun s l a w hl hd hW hF _ => h s l a w hl hW)
end
end Go.Proofs.YtalcinepeofmcaaGreat
namespace Go.Proofs.YtalcinepeofmcaaGreat
open Go Go.RowKit Sp Hu
structure ShC where
  sb : Nat
  At : Option Addr
  ct : Nat
  Aw : Option Addr
  cw : Nat
  Ai : Option Addr
  ci : Nat
  s : Shp
abbrev shpV (At : Option Addr) (ct : Nat) (Aw : Option Addr) (cw : Nat) (Ai : Option Addr) (ci : Nat) (s : Shp) : Array Value := #[.int .i64 s.cls, .int .i64 s.pow, .int .i64 s.dra, .int .i64 s.ton, .slice At s.thr.length ct, .slice Aw s.wat.length cw, .slice Ai s.ice.length ci, .int .i64 s.slow, .int .i64 s.brash, .int .i64 s.ridge, .int .i64 s.press]
structure ShE (c : ShC) (w : World) : Prop where
  hs : w.heap[c.sb]? = some (.cells (shpV c.At c.ct c.Aw c.cw c.Ai c.ci c.s) 30 (0, 0))
  rt : Rd w 2 c.At c.s.thr.length (pnts c.s.thr)
  rw_ : Rd w 2 c.Aw c.s.wat.length (pnts c.s.wat)
  ri : Rd w 2 c.Ai c.s.ice.length (pnts c.s.ice)
structure ShL (s : Shp) : Prop where
  ok : ShOk s
  l1 : s.thr.length ≤ 8
  l2 : s.wat.length ≤ 8
  l3 : s.ice.length ≤ 8
  e1 : endX s.thr ≤ 250
section
variable {c : ShC} {w w' : World}
theorem ShE.below (h : ShE c w) (hb : Below w.heap.size w w') : ShE c w' := ⟨(hb.block _ (hL_ h.hs)).trans h.hs, h.rt.below hb, h.rw_.below hb, h.ri.below hb⟩
theorem ShE.lt (h : ShE c w) : c.sb < w.heap.size := hL_ h.hs
theorem Hu.Crv.pts {l : List Pnt} (h : Crv l) : ∀ p ∈ l, 0 ≤ p.x ∧ p.x ≤ 1000 ∧ 0 ≤ p.y ∧ p.y ≤ 100000 := fun p hp => by have := h.rng p hp; omega
end
theorem thrust_any (c : ShC) (v : Int) (w : World) (E : ShE c w) (L : ShL c.s) (hv : 0 ≤ v ∧ v ≤ 1000) :
    Calls Tryz.prog 86 #[.pointer (some ⟨c.sb, 0, none⟩), .int .i64 v] w fun e w' => e = .returned (.int .i64 (thrS c.s v)) ∧ Below w.heap.size w w' := by
  have c4 := (cOH E.hs 4).trans rfl;have zs := E.lt;obtain ⟨n, hn⟩ : ∃ n, n = (val c.s.thr v).1 := ⟨_, rfl⟩;obtain ⟨d, hd⟩ : ∃ n, n = (val c.s.thr v).2 := ⟨_, rfl⟩;have kv : Calls Tryz.prog 101 #[.slice c.At c.s.thr.length c.ct, .int .i64 v] w fun e w' => e = .returned (.tuple #[.int .i64 n, .int .i64 d]) ∧ Below w.heap.size w w' := by
    rw [hn, hd]; exact value_any c.At c.ct c.s.thr v w E.rt (by have := L.ok.thr.two; omega) (by have := L.l1; omega) (by omega) L.ok.thr.pts
  obtain ⟨d1, d2, n1, n2⟩ := L.ok.thr.at hv.1;rw [← hd] at d1 d2 n2;rw [← hn] at n1 n2;have hq : thrS c.s v = n / d := by unfold thrS; rw [hn, hd]
  have hn6 : n ≤ 8000000 := by omega
  have hqb : 0 ≤ n / d ∧ n / d ≤ n := ⟨Int.ediv_nonneg n1 (by omega), Int.ediv_le_self d n1⟩;have hdz : ¬ (d = 0) := by omega
  have e0 : n.tdiv d = n / d := Int.tdiv_eq_ediv_of_nonneg n1;have hqt : 0 ≤ n.tdiv d ∧ n.tdiv d ≤ n := by rw [e0]; exact hqb
  rw [hq, ← e0];have KV := Lib.hid kv;clear kv hn hd E L hq hqb e0
  go_enter Tryz.func86, Tryz.ntmps86
  go_wp2_with (go_at_call 101; refine KV.out.mono ?_; rintro e w' ⟨rfl, b1⟩; have HB := Lib.hid b1; clear b1 c4 zs)
  go_ret;exact ⟨rfl, HB.out⟩
def Hr2V (rb sb li ci : Nat) (Ai : Option Addr) (tk n d : Int) (s : Unit) : Nat → Value → Prop
  | 0, v => v = .pointer (some ⟨rb, 0, none⟩)
  | 1, v => v = .pointer (some ⟨sb, 0, none⟩)
  | 2, v => v = .pointer (some ⟨sb, 0, none⟩)
  | 3, v => v = .pointer (some ⟨sb, 6, none⟩)
  | 4, v => v = .slice Ai li ci
  | 5, v => v = .pointer (some ⟨rb, 1, none⟩)
  | 6, v => v = .pointer (some ⟨rb, 2, none⟩)
  | 7, v => v = .int .i64 tk
  | 8, v => v = .tuple #[.int .i64 n, .int .i64 d]
  | 9, v => v = .tuple #[.int .i64 n, .int .i64 d]
  | 10, v => v = .int .i64 n
  | 11, v => v = .int .i64 d
  | 12, v => v = .int .i64 n
  | 13, v => v = .int .i64 d
  | _, _ => True
theorem resist_any (c : ShC) (i : Ic) (ch : Bool) (v : Int) (w : World) (E : ShE c w) (L : ShL c.s) (hi : IcOk i) (hv : 0 ≤ v ∧ v ≤ 1000) :
    Calls Tryz.prog 87 #[.agg #[.pointer (some ⟨c.sb, 0, none⟩), .int .i64 i.con, .int .i64 i.thk, .int .i64 i.rid, .int .i64 i.prs, .bool ch], .int .i64 v] w fun e w' => e = .returned (.int .i64 (res c.s i ch v)) ∧ Below w.heap.size w w' := by
  obtain ⟨W, hW⟩ : ∃ W, W = w.alloc (.cells #[.pointer (some ⟨c.sb, 0, none⟩), .int .i64 i.con, .int .i64 i.thk, .int .i64 i.rid, .int .i64 i.prs, .bool ch] 147) := ⟨_, rfl⟩;obtain ⟨rb, hrb⟩ : ∃ b, b = w.heap.size := ⟨_, rfl⟩;have O0 : Own w.heap.size w [.blk rb (.cells #[.pointer (some ⟨c.sb, 0, none⟩), .int .i64 i.con, .int .i64 i.thk, .int .i64 i.rid, .int .i64 i.prs, .bool ch] 147)] W := by
    have h := (Own.start w).alloc (.cells #[.pointer (some ⟨c.sb, 0, none⟩), .int .i64 i.con, .int .i64 i.thk, .int .i64 i.rid, .int .i64 i.prs, .bool ch] 147);rw [hW, hrb]; simpa using h
  obtain ⟨wn, hwn⟩ : ∃ n, n = (val c.s.wat v).1 := ⟨_, rfl⟩;obtain ⟨wd, hwd⟩ : ∃ n, n = (val c.s.wat v).2 := ⟨_, rfl⟩;obtain ⟨n, hn⟩ : ∃ n, n = (val c.s.ice i.thk).1 := ⟨_, rfl⟩;obtain ⟨d, hd⟩ : ∃ n, n = (val c.s.ice i.thk).2 := ⟨_, rfl⟩;have kw : Calls Tryz.prog 101 #[.slice c.Aw c.s.wat.length c.cw, .int .i64 v] W fun e w' => e = .returned (.tuple #[.int .i64 wn, .int .i64 wd]) ∧ Below W.heap.size W w' := by
    rw [hwn, hwd]; exact value_any c.Aw c.cw c.s.wat v W (E.below O0.bel).rw_ (by have := L.ok.wat.two; omega) (by have := L.l2; omega) (by omega) L.ok.wat.pts
  obtain ⟨y1, y2, y3, y4⟩ := L.ok.wat.at hv.1;obtain ⟨t1, t2, t3, t4⟩ := L.ok.ice.at hi.thk.1;rw [← hwd] at y1 y2 y4;rw [← hwn] at y3 y4;rw [← hd] at t1 t2 t4;rw [← hn] at t3 t4;have E1 := E.below O0.bel;have c5 := (cOH E1.hs 5).trans rfl;have zs := E1.lt;have g0 := (cOH (O0.heap 0 rfl) 0).trans rfl;have zr := hL_ (O0.heap 0 rfl);have HH := Lib.hid (And.intro hwn (And.intro hwd (And.intro hn (And.intro hd (And.intro E (And.intro L hi))))));have H0 := Lib.hid (And.intro O0 kw);have a1 := L.ok.slow;have a2 := L.ok.brash;have a3 := L.ok.ridge;have a4 := L.ok.press;obtain ⟨i1, i2, i3, i4⟩ := hi;clear hwn hwd hn hd E L O0 kw E1
  go_enter Tryz.func87, Tryz.ntmps87
  go_upto_region 1 with fail
  rw [← hW, ← hrb];clear hW hrb;go_upto_region 2 with (go_at_call 101; refine H0.out.2.mono ?_; rintro e w1 ⟨rfl, b1⟩; have H1 := Lib.hid b1; clear b1 c5 zs g0 zr)
  have kv : ∀ wx, Below w.heap.size w wx → Calls Tryz.prog 101 #[.slice c.Ai c.s.ice.length c.ci, .int .i64 i.thk] wx fun e w' => e = .returned (.tuple #[.int .i64 n, .int .i64 d]) ∧ Below wx.heap.size wx w' := fun wx hb => by
    rw [HH.out.2.2.1, HH.out.2.2.2.1]; exact value_any c.Ai c.ci c.s.ice i.thk wx (HH.out.2.2.2.2.1.below hb).ri (by have := HH.out.2.2.2.2.2.1.ok.ice.two; omega) (by have := HH.out.2.2.2.2.2.1.l3; omega) (by omega) HH.out.2.2.2.2.2.1.ok.ice.pts
  have HA := Lib.hid (And.intro HH.out.2.2.2.2.1 kv);have O1 := Lib.hid (H0.out.1.below H1.out);clear kv;refine wRS (σ := Unit) (by kernel_rfl) (by kernel_rfl) (fun sg jx vx _ => Hr2V rb c.sb c.s.ice.length c.ci c.Ai i.thk n d sg jx vx) (fun sg ly wx => Own w.heap.size w [It.blk rb (.cells #[.pointer (some ⟨c.sb, 0, none⟩), .int .i64 i.con, .int .i64 i.thk, .int .i64 i.rid, .int .i64 i.prs, .bool ch] 147)] wx) () ?_ ?_ ?_
  · exact O1.out.drew
  · simp only [AllFrom, Nat.zero_add, Nat.reduceAdd];refine ⟨?_, ?_, ?_, ?_, ?_, ?_, ?_, ?_, ?_, ?_, ?_, ?_, ?_, ?_, trivial⟩
    · refine sP_ fun sg ly act wx hl hd hW hF => ?_;have et2 := hF.old 2 (by kernel_rfl);simp [Act.eval] at et2;exact ⟨hW, .pointer (some ⟨rb, 0, none⟩), by go_simp, rfl⟩
    · refine sP_ fun sg ly act wx hl hd hW hF => ?_;simp [Region.binds] at hd;have et23 := hF.new 0 23 (by simp [hd]) rfl;simp [Hr2V, Act.eval] at et23;have hO := hW;try dsimp only at hO
      have hh := hO.heap 0 rfl;have clq0 := (cOH hh 0).trans rfl;have clq1 := (cOH hh 1).trans rfl;have clq2 := (cOH hh 2).trans rfl;have clq3 := (cOH hh 3).trans rfl;have clq4 := (cOH hh 4).trans rfl;have clq5 := (cOH hh 5).trans rfl;have zz := hL_ hh;exact ⟨hW, .pointer (some ⟨c.sb, 0, none⟩), by go_simp, rfl⟩
    · refine sP_ fun sg ly act wx hl hd hW hF => ?_;simp [Region.binds] at hd;have et24 := hF.new 1 24 (by simp [hd]) rfl;simp [Hr2V, Act.eval] at et24;have hO := hW;have zs := (HA.out.1.below hO.bel).lt;exact ⟨hW, .pointer (some ⟨c.sb, 0, none⟩), by go_simp, rfl⟩
    · refine sP_ fun sg ly act wx hl hd hW hF => ?_;simp [Region.binds] at hd;have et25 := hF.new 2 25 (by simp [hd]) rfl;simp [Hr2V, Act.eval] at et25;have hO := hW;have zs := (HA.out.1.below hO.bel).lt;exact ⟨hW, .pointer (some ⟨c.sb, 6, none⟩), by go_simp, rfl⟩
    · refine sP_ fun sg ly act wx hl hd hW hF => ?_;simp [Region.binds] at hd;have et26 := hF.new 3 26 (by simp [hd]) rfl;simp [Hr2V, Act.eval] at et26;have hO := hW;have c6 := (cOH (HA.out.1.below hO.bel).hs 6).trans rfl;have zs := (HA.out.1.below hO.bel).lt;exact ⟨hW, .slice c.Ai c.s.ice.length c.ci, by go_simp, rfl⟩
    · refine sP_ fun sg ly act wx hl hd hW hF => ?_;have et2 := hF.old 2 (by kernel_rfl);simp [Act.eval] at et2;exact ⟨hW, .pointer (some ⟨rb, 1, none⟩), by go_simp, rfl⟩
    · refine sP_ fun sg ly act wx hl hd hW hF => ?_;simp [Region.binds] at hd;have et28 := hF.new 5 28 (by simp [hd]) rfl;simp [Hr2V, Act.eval] at et28;exact ⟨hW, .pointer (some ⟨rb, 2, none⟩), by go_simp, rfl⟩
    · refine sP_ fun sg ly act wx hl hd hW hF => ?_;simp [Region.binds] at hd;have et29 := hF.new 6 29 (by simp [hd]) rfl;simp [Hr2V, Act.eval] at et29;have hO := hW;try dsimp only at hO
      have hh := hO.heap 0 rfl;have clq0 := (cOH hh 0).trans rfl;have clq1 := (cOH hh 1).trans rfl;have clq2 := (cOH hh 2).trans rfl;have clq3 := (cOH hh 3).trans rfl;have clq4 := (cOH hh 4).trans rfl;have clq5 := (cOH hh 5).trans rfl;have zz := hL_ hh;exact ⟨hW, .int .i64 i.thk, by go_simp, rfl⟩
    · refine sC_ fun sg ly act wx hl hd hW hF => ?_;simp [Region.binds] at hd;have et27 := hF.new 4 27 (by simp [hd]) rfl;simp [Hr2V, Act.eval] at et27;have et30 := hF.new 7 30 (by simp [hd]) rfl;simp [Hr2V, Act.eval] at et30;have hO := hW;try dsimp only at hO
      refine ⟨101, #[.slice c.Ai c.s.ice.length c.ci, .int .i64 i.thk], by go_simp, ?_⟩;refine (HA.out.2 wx hO.bel).mono ?_;rintro e w2 ⟨rfl, hb⟩;exact ⟨_, sg, rfl, Own.below hW hb, rfl, fun _ _ _ h => h⟩
    · refine sP_ fun sg ly act wx hl hd hW hF => ?_;simp [Region.binds] at hd;have et31 := hF.new 8 31 (by simp [hd]) rfl;simp [Hr2V, Act.eval] at et31;exact ⟨hW, .tuple #[.int .i64 n, .int .i64 d], by go_simp, rfl⟩
    · refine sP_ fun sg ly act wx hl hd hW hF => ?_;simp [Region.binds] at hd;have et22 := hF.new 9 22 (by simp [hd]) rfl;simp [Hr2V, Act.eval] at et22;exact ⟨hW, .int .i64 n, by go_simp, rfl⟩
    · refine sP_ fun sg ly act wx hl hd hW hF => ?_;simp [Region.binds] at hd;have et22 := hF.new 9 22 (by simp [hd]) rfl;simp [Hr2V, Act.eval] at et22;exact ⟨hW, .int .i64 d, by go_simp, rfl⟩
    · refine sP_ fun sg ly act wx hl hd hW hF => ?_;simp [Region.binds] at hd;have et32 := hF.new 10 32 (by simp [hd]) rfl;simp [Hr2V, Act.eval] at et32;exact ⟨hW, .int .i64 n, by go_simp, rfl⟩
    · refine sP_ fun sg ly act wx hl hd hW hF => ?_;simp [Region.binds] at hd;have et33 := hF.new 11 33 (by simp [hd]) rfl;simp [Hr2V, Act.eval] at et33;exact ⟨hW, .int .i64 d, by go_simp, rfl⟩
  intro sg af w4 hWW hF;have e7 := hF.new 12 7 (by decide) rfl;have e8 := hF.new 13 8 (by decide) rfl;obtain ⟨ff, hf, rfl⟩ := hF.lit;rw [← hf] at e7 e8;simp only [Hr2V] at e7 e8;have O4 : Own w.heap.size w [It.blk rb (.cells #[.pointer (some ⟨c.sb, 0, none⟩), .int .i64 i.con, .int .i64 i.thk, .int .i64 i.rid, .int .i64 i.prs, .bool ch] 147)] w4 := hWW;have H4 := Lib.hid O4;have hrb4 := O4.heap 0 rfl;have g0 := (cOH hrb4 0).trans rfl;have g1 := (cOH hrb4 1).trans rfl;have g2 := (cOH hrb4 2).trans rfl;have g3 := (cOH hrb4 3).trans rfl;have g4 := (cOH hrb4 4).trans rfl;have g5 := (cOH hrb4 5).trans rfl;have zr := hL_ hrb4;clear hWW hF hf O4 hrb4;simp only [List.filterMap, List.foldl, List.setIfInBounds_toArray, List.set_cons_succ, List.set_cons_zero, e7, e8];clear e7 e8;go_wp2_with fail
  go_quiet (fail);clear g0 g1 g2 g3 g4 g5 zr;obtain ⟨w5, hw5⟩ : ∃ q, q = w4.drewN nq := ⟨_, rfl⟩;rw [← hw5];have O5 : Own w.heap.size w [.blk rb (.cells #[.pointer (some ⟨c.sb, 0, none⟩), .int .i64 i.con, .int .i64 i.thk, .int .i64 i.rid, .int .i64 i.prs, .bool ch] 147)] w5 := by rw [hw5]; exact H4.out.below (below_drewN (Below.refl _ _) _)
  have E5 := HH.out.2.2.2.2.1.below O5.bel;have hrb5 := O5.heap 0 rfl;have g0 := (cOH hrb5 0).trans rfl;have g1 := (cOH hrb5 1).trans rfl;have g2 := (cOH hrb5 2).trans rfl;have g3 := (cOH hrb5 3).trans rfl;have g4 := (cOH hrb5 4).trans rfl;have g5 := (cOH hrb5 5).trans rfl;have zr := hL_ hrb5;have s7 := (cOH E5.hs 7).trans rfl;have s8 := (cOH E5.hs 8).trans rfl;have s9 := (cOH E5.hs 9).trans rfl;have s10 := (cOH E5.hs 10).trans rfl;have zs := E5.lt;have H5 := Lib.hid O5;clear hw5 O5 E5 hrb5;cases ch
  · go_wp2_with fail
    have b1 := mul_bd (A := 20) (B := 1000) (a := c.s.slow) (b := v) (by omega) (by omega);have p1 : 0 ≤ c.s.slow * v := Int.mul_nonneg a1.1 hv.1;have b2 := mul_bd (A := 8000000) (B := 21000) (a := n) (b := 1000 + c.s.slow * v) (by omega) (by omega);have p2 : 0 ≤ n * (1000 + c.s.slow * v) := Int.mul_nonneg t3 (by omega);have b3 := mul_bd (A := 168000000000) (B := 100) (a := n * (1000 + c.s.slow * v)) (b := 100) (by omega) (by omega);have p3 : 0 ≤ n * (1000 + c.s.slow * v) * 100 := Int.mul_nonneg p2 (by omega);have b4 := mul_bd (A := 500) (B := 100) (a := c.s.ridge) (b := i.rid) (by omega) (by omega);have p4 : 0 ≤ c.s.ridge * i.rid := Int.mul_nonneg a3.1 (by omega);have b5 := mul_bd (A := 50000) (B := 400) (a := c.s.ridge * i.rid) (b := d) (by omega) (by omega);have p5 : 0 ≤ c.s.ridge * i.rid * d := Int.mul_nonneg p4 (by omega);have b6 := mul_bd (A := 100) (B := 20000000000000) (a := i.con) (b := n * (1000 + c.s.slow * v) * 100 + c.s.ridge * i.rid * d * 100000) (by omega) (by omega);have p6 : 0 ≤ i.con * (n * (1000 + c.s.slow * v) * 100 + c.s.ridge * i.rid * d * 100000) := Int.mul_nonneg i1.1 (by omega);go_quiet (fail);obtain ⟨N, hN⟩ : ∃ y, y = i.con * (n * (1000 + c.s.slow * v) * 100 + c.s.ridge * i.rid * d * 100000) := ⟨_, rfl⟩;have hN0 : 0 ≤ N ∧ N ≤ 2000000000000000 := by omega
    have hNr : N = resN c.s i false v := by rw [hN]; unfold resN; rw [← HH.out.2.2.1, ← HH.out.2.2.2.1]; simp
    rw [← hN];have HN := Lib.hid hNr;clear b1 p1 b2 p2 b3 p3 b4 p4 b5 p5 b6 p6 hN hNr g0 g1 g2 g3 g4 g5 zr s7 s8 s9 s10 zs;obtain ⟨w6, hw6⟩ : ∃ q, q = w5.drewN nq := ⟨_, rfl⟩;rw [← hw6];have O6 := H5.out.below (below_drewN (Below.refl w5.heap.size w5) nq);rw [← hw6] at O6;have E6 := HH.out.2.2.2.2.1.below O6.bel;have hrb6 := O6.heap 0 rfl;have g0 := (cOH hrb6 0).trans rfl;have g4 := (cOH hrb6 4).trans rfl;have zr := hL_ hrb6;have s10 := (cOH E6.hs 10).trans rfl;have zs := E6.lt;have H6 := Lib.hid O6.bel;clear hw6 O6 E6 hrb6;go_upto_region 8 with fail
    obtain ⟨D, hD⟩ : ∃ y, y = d * 10000000 := ⟨_, rfl⟩;rw [← hD];have hDb : 10000000 ≤ D ∧ D ≤ 4000000000 := by omega
    have HD := Lib.hid hD;clear hD;have b1 := mul_bd (A := 8000000) (B := 4000000000) (a := wn) (b := D) (by omega) (by omega);have p1 : 0 ≤ wn * D := Int.mul_nonneg y3 (by omega);have b2 := mul_bd (A := 2000000000000000) (B := 400) (a := N) (b := wd) (by omega) (by omega);have p2 : 0 ≤ N * wd := Int.mul_nonneg hN0.1 (by omega);have b3 := mul_bd (A := 5000) (B := 3) (a := c.s.press) (b := i.prs) (by omega) (by omega);have p3 : 0 ≤ c.s.press * i.prs := Int.mul_nonneg a4.1 (by omega);have b4 := mul_bd (A := 15000) (B := 400) (a := c.s.press * i.prs) (b := wd) (by omega) (by omega);have p4 : 0 ≤ c.s.press * i.prs * wd := Int.mul_nonneg p3 (by omega);have b5 := mul_bd (A := 6000000) (B := 4000000000) (a := c.s.press * i.prs * wd) (b := D) (by omega) (by omega);have p5 : 0 ≤ c.s.press * i.prs * wd * D := Int.mul_nonneg p4 (by omega);go_quiet (fail);obtain ⟨T, hT⟩ : ∃ y, y = wn * D + N * wd + c.s.press * i.prs * wd * D := ⟨_, rfl⟩;have hTb : 0 ≤ T ∧ T ≤ 900000000000000000 := by omega
    have b6 := mul_bd (A := 400) (B := 4000000000) (a := wd) (b := D) (by omega) (by omega);have p6 : 1 ≤ wd * D := Int.mul_pos y1 (by omega);obtain ⟨B, hB⟩ : ∃ y, y = wd * D := ⟨_, rfl⟩;rw [← hB] at b6 p6;have e0 : (T + B - 1).tdiv B = (T + B - 1) / B := Int.tdiv_eq_ediv_of_nonneg (by omega);have hq : 0 ≤ (T + B - 1) / B ∧ (T + B - 1) / B ≤ T + B - 1 := ⟨Int.ediv_nonneg (by omega) (by omega), Int.ediv_le_self B (by omega)⟩;have hqt : 0 ≤ (T + B - 1).tdiv B ∧ (T + B - 1).tdiv B ≤ T + B - 1 := by rw [e0]; exact hq
    have hBz : ¬ (B = 0) := by omega
    have hres : (T + B - 1).tdiv B = res c.s i false v := by rw [e0]; unfold res resA resB resD; rw [← HN.out, ← HH.out.1, ← HH.out.2.1, ← HH.out.2.2.2.1, ← HD.out, ← hB, ← hT]
    have HR := Lib.hid hres;rw [← hT];rw [hB] at b6 p6 hqt hBz;have HB := Lib.hid hB;clear b1 p1 b2 p2 b3 p3 b4 p4 b5 p5 hT hres e0 hq hB;go_wp2_with fail
    go_ret;exact ⟨by rw [← HR.out, HB.out]; rfl, below_drewN H6.out _⟩
  · go_wp2_with fail
    have b1 := mul_bd (A := 20) (B := 1000) (a := c.s.slow) (b := v) (by omega) (by omega);have p1 : 0 ≤ c.s.slow * v := Int.mul_nonneg a1.1 hv.1;have b2 := mul_bd (A := 8000000) (B := 21000) (a := n) (b := 1000 + c.s.slow * v) (by omega) (by omega);have p2 : 0 ≤ n * (1000 + c.s.slow * v) := Int.mul_nonneg t3 (by omega);have b3 := mul_bd (A := 168000000000) (B := 100) (a := n * (1000 + c.s.slow * v)) (b := c.s.brash) (by omega) (by omega);have p3 : 0 ≤ n * (1000 + c.s.slow * v) * c.s.brash := Int.mul_nonneg p2 (by omega);have b6 := mul_bd (A := 100) (B := 20000000000000) (a := i.con) (b := n * (1000 + c.s.slow * v) * c.s.brash) (by omega) (by omega);have p6 : 0 ≤ i.con * (n * (1000 + c.s.slow * v) * c.s.brash) := Int.mul_nonneg i1.1 (by omega);go_quiet (fail);obtain ⟨N, hN⟩ : ∃ y, y = i.con * (n * (1000 + c.s.slow * v) * c.s.brash) := ⟨_, rfl⟩;have hN0 : 0 ≤ N ∧ N ≤ 2000000000000000 := by omega
    have hNr : N = resN c.s i true v := by rw [hN]; unfold resN; rw [← HH.out.2.2.1]; simp
    rw [← hN];have HN := Lib.hid hNr;clear b1 p1 b2 p2 b3 p3 b6 p6 hN hNr g0 g1 g2 g3 g4 g5 zr s7 s8 s9 s10 zs;obtain ⟨w6, hw6⟩ : ∃ q, q = w5.drewN nq := ⟨_, rfl⟩;rw [← hw6];have O6 := H5.out.below (below_drewN (Below.refl w5.heap.size w5) nq);rw [← hw6] at O6;have E6 := HH.out.2.2.2.2.1.below O6.bel;have hrb6 := O6.heap 0 rfl;have g0 := (cOH hrb6 0).trans rfl;have g4 := (cOH hrb6 4).trans rfl;have zr := hL_ hrb6;have s10 := (cOH E6.hs 10).trans rfl;have zs := E6.lt;have H6 := Lib.hid O6.bel;clear hw6 O6 E6 hrb6;go_upto_region 8 with fail
    obtain ⟨D, hD⟩ : ∃ y, y = d * 10000000 := ⟨_, rfl⟩;rw [← hD];have hDb : 10000000 ≤ D ∧ D ≤ 4000000000 := by omega
    have HD := Lib.hid hD;clear hD;have b1 := mul_bd (A := 8000000) (B := 4000000000) (a := wn) (b := D) (by omega) (by omega);have p1 : 0 ≤ wn * D := Int.mul_nonneg y3 (by omega);have b2 := mul_bd (A := 2000000000000000) (B := 400) (a := N) (b := wd) (by omega) (by omega);have p2 : 0 ≤ N * wd := Int.mul_nonneg hN0.1 (by omega);have b3 := mul_bd (A := 5000) (B := 3) (a := c.s.press) (b := i.prs) (by omega) (by omega);have p3 : 0 ≤ c.s.press * i.prs := Int.mul_nonneg a4.1 (by omega);have b4 := mul_bd (A := 15000) (B := 400) (a := c.s.press * i.prs) (b := wd) (by omega) (by omega);have p4 : 0 ≤ c.s.press * i.prs * wd := Int.mul_nonneg p3 (by omega);have b5 := mul_bd (A := 6000000) (B := 4000000000) (a := c.s.press * i.prs * wd) (b := D) (by omega) (by omega);have p5 : 0 ≤ c.s.press * i.prs * wd * D := Int.mul_nonneg p4 (by omega);go_quiet (fail);obtain ⟨T, hT⟩ : ∃ y, y = wn * D + N * wd + c.s.press * i.prs * wd * D := ⟨_, rfl⟩;have hTb : 0 ≤ T ∧ T ≤ 900000000000000000 := by omega
    have b6 := mul_bd (A := 400) (B := 4000000000) (a := wd) (b := D) (by omega) (by omega);have p6 : 1 ≤ wd * D := Int.mul_pos y1 (by omega);obtain ⟨B, hB⟩ : ∃ y, y = wd * D := ⟨_, rfl⟩;rw [← hB] at b6 p6;have e0 : (T + B - 1).tdiv B = (T + B - 1) / B := Int.tdiv_eq_ediv_of_nonneg (by omega);have hq : 0 ≤ (T + B - 1) / B ∧ (T + B - 1) / B ≤ T + B - 1 := ⟨Int.ediv_nonneg (by omega) (by omega), Int.ediv_le_self B (by omega)⟩;have hqt : 0 ≤ (T + B - 1).tdiv B ∧ (T + B - 1).tdiv B ≤ T + B - 1 := by rw [e0]; exact hq
    have hBz : ¬ (B = 0) := by omega
    have hres : (T + B - 1).tdiv B = res c.s i true v := by rw [e0]; unfold res resA resB resD; rw [← HN.out, ← HH.out.1, ← HH.out.2.1, ← HH.out.2.2.2.1, ← HD.out, ← hB, ← hT]
    have HR := Lib.hid hres;rw [← hT];rw [hB] at b6 p6 hqt hBz;have HB := Lib.hid hB;clear b1 p1 b2 p2 b3 p3 b4 p4 b5 p5 hT hres e0 hq hB;go_wp2_with fail
    go_ret;exact ⟨by rw [← HR.out, HB.out]; rfl, below_drewN H6.out _⟩
def HmkV (rb sb lt ct : Nat) (At : Option Addr) (rv : Array Value) (vv en t r : Int) (z : Bool) (s : Unit) : Nat → Value → Prop
  | 0, v => v = .int .i64 vv
  | 1, v => v = .pointer (some ⟨rb, 0, none⟩)
  | 2, v => v = .pointer (some ⟨sb, 0, none⟩)
  | 3, v => v = .pointer (some ⟨sb, 0, none⟩)
  | 4, v => v = .pointer (some ⟨sb, 4, none⟩)
  | 5, v => v = .slice At lt ct
  | 6, v => v = .int .i64 en
  | 7, v => v = .bool true
  | 8, v => v = .bool true
  | 9, v => v = .pointer (some ⟨rb, 0, none⟩)
  | 10, v => v = .pointer (some ⟨sb, 0, none⟩)
  | 11, v => v = .int .i64 vv
  | 12, v => v = .int .i64 t
  | 13, v => v = .agg rv
  | 14, v => v = .int .i64 vv
  | 15, v => v = .int .i64 r
  | 16, v => v = .bool z
  | 17, v => v = .bool z
  | 18, v => v = .bool z
  | _, _ => True
theorem makes_any (c : ShC) (i : Ic) (ch : Bool) (v : Int) (w : World) (E : ShE c w) (L : ShL c.s) (hi : IcOk i) (hv : 0 ≤ v ∧ v ≤ 1000) :
    Calls Tryz.prog 64 #[.agg #[.pointer (some ⟨c.sb, 0, none⟩), .int .i64 i.con, .int .i64 i.thk, .int .i64 i.rid, .int .i64 i.prs, .bool ch], .int .i64 v] w fun e w' => e = .returned (.bool (makes c.s i ch v)) ∧ Below w.heap.size w w' := by
  obtain ⟨W, hW⟩ : ∃ W, W = w.alloc (.cells #[.pointer (some ⟨c.sb, 0, none⟩), .int .i64 i.con, .int .i64 i.thk, .int .i64 i.rid, .int .i64 i.prs, .bool ch] 147) := ⟨_, rfl⟩;obtain ⟨rb, hrb⟩ : ∃ b, b = w.heap.size := ⟨_, rfl⟩;have O0 : Own w.heap.size w [.blk rb (.cells #[.pointer (some ⟨c.sb, 0, none⟩), .int .i64 i.con, .int .i64 i.thk, .int .i64 i.rid, .int .i64 i.prs, .bool ch] 147)] W := by
    have h := (Own.start w).alloc (.cells #[.pointer (some ⟨c.sb, 0, none⟩), .int .i64 i.con, .int .i64 i.thk, .int .i64 i.rid, .int .i64 i.prs, .bool ch] 147);rw [hW, hrb]; simpa using h
  obtain ⟨en, hen⟩ : ∃ y, y = endX c.s.thr := ⟨_, rfl⟩;obtain ⟨t, ht⟩ : ∃ y, y = thrS c.s v := ⟨_, rfl⟩;obtain ⟨r, hr⟩ : ∃ y, y = res c.s i ch v := ⟨_, rfl⟩;obtain ⟨z, hz⟩ : ∃ z, decide (r ≤ t) = z := ⟨_, rfl⟩;have ke : ∀ wx, Below w.heap.size w wx → Calls Tryz.prog 85 #[.slice c.At c.s.thr.length c.ct] wx fun e w' => e = .returned (.int .i64 en) ∧ Below wx.heap.size wx w' := fun wx hb => by
    rw [hen];refine (huend_any c.At c.ct c.s.thr wx (E.below hb).rt (by have := L.ok.thr.two; omega) (by have := L.l1; omega)).mono ?_;rintro e w' ⟨h1, h2⟩;rw [← h2];exact ⟨h1, Below.refl _ _⟩
  have keq : ∀ wx, Below w.heap.size w wx → Calls Tryz.prog 85 #[.slice c.At c.s.thr.length c.ct] wx fun e w' => e = .returned (.int .i64 en) ∧ w' = wx := fun wx hb => by
    rw [hen]; exact (huend_any c.At c.ct c.s.thr wx (E.below hb).rt (by have := L.ok.thr.two; omega) (by have := L.l1; omega)).mono fun e w' h => ⟨h.1, h.2.symm⟩
  have kt : ∀ wx, Below w.heap.size w wx → Calls Tryz.prog 86 #[.pointer (some ⟨c.sb, 0, none⟩), .int .i64 v] wx fun e w' => e = .returned (.int .i64 t) ∧ Below wx.heap.size wx w' := fun wx hb => by
    rw [ht]; exact thrust_any c v wx (E.below hb) L hv
  have kr : ∀ wx, Below w.heap.size w wx → Calls Tryz.prog 87 #[.agg #[.pointer (some ⟨c.sb, 0, none⟩), .int .i64 i.con, .int .i64 i.thk, .int .i64 i.rid, .int .i64 i.prs, .bool ch], .int .i64 v] wx fun e w' => e = .returned (.int .i64 r) ∧ Below wx.heap.size wx w' := fun wx hb => by
    rw [hr]; exact resist_any c i ch v wx (E.below hb) L hi hv
  have HE := Lib.hid (And.intro E (And.intro ke (And.intro kt kr)));have H0 := Lib.hid O0;have HM := Lib.hid (And.intro hen (And.intro ht (And.intro hr keq)));have E1 := E.below O0.bel;have c4 := (cOH E1.hs 4).trans rfl;have zs := E1.lt;have g0 := (cOH (O0.heap 0 rfl) 0).trans rfl;have zr := hL_ (O0.heap 0 rfl);clear hen ht hr ke keq kt kr E L O0 E1
  go_enter Tryz.func64, Tryz.ntmps64
  go_upto_region 1 with fail
  rw [← hW, ← hrb];clear hW hrb;by_cases hle : v ≤ en
  · have HZ := Lib.hid (And.intro hle hz);clear hz c4 zs g0 zr;refine wp_region_stepsG (σ := Unit) (by kernel_rfl) (by kernel_rfl) (fun sg jx vx _ => HmkV rb c.sb c.s.thr.length c.ct c.At #[.pointer (some ⟨c.sb, 0, none⟩), .int .i64 i.con, .int .i64 i.thk, .int .i64 i.rid, .int .i64 i.prs, .bool ch] v en t r z sg jx vx) (fun sg ly wx => Own w.heap.size w [It.blk rb (.cells #[.pointer (some ⟨c.sb, 0, none⟩), .int .i64 i.con, .int .i64 i.thk, .int .i64 i.rid, .int .i64 i.prs, .bool ch] 147)] wx) () ?_ ?_ ?_
    · exact H0.out.drew
    · simp only [AllFrom, Nat.zero_add, Nat.reduceAdd];refine ⟨?_, ?_, ?_, ?_, ?_, ?_, ?_, ?_, ?_, ?_, ?_, ?_, ?_, ?_, ?_, ?_, ?_, ?_, ?_, trivial⟩
      · refine gP_ rfl ?_;refine sP_ fun sg ly act wx hl hd hW hF => ?_;have et1 := hF.old 1 (by kernel_rfl);simp [Act.eval] at et1;exact ⟨hW, .int .i64 v, by go_simp, rfl⟩
      · refine gP_ rfl ?_;refine sP_ fun sg ly act wx hl hd hW hF => ?_;have et2 := hF.old 2 (by kernel_rfl);simp [Act.eval] at et2;exact ⟨hW, .pointer (some ⟨rb, 0, none⟩), by go_simp, rfl⟩
      · refine gP_ rfl ?_;refine sP_ fun sg ly act wx hl hd hW hF => ?_;simp [Region.binds] at hd;have et6 := hF.new 1 6 (by simp [hd]) rfl;simp [HmkV, Act.eval] at et6;have hO := hW;try dsimp only at hO
        have hh := hO.heap 0 rfl;have clq0 := (cOH hh 0).trans rfl;have clq1 := (cOH hh 1).trans rfl;have clq2 := (cOH hh 2).trans rfl;have clq3 := (cOH hh 3).trans rfl;have clq4 := (cOH hh 4).trans rfl;have clq5 := (cOH hh 5).trans rfl;have zz := hL_ hh;exact ⟨hW, .pointer (some ⟨c.sb, 0, none⟩), by go_simp, rfl⟩
      · refine gP_ rfl ?_;refine sP_ fun sg ly act wx hl hd hW hF => ?_;simp [Region.binds] at hd;have et7 := hF.new 2 7 (by simp [hd]) rfl;simp [HmkV, Act.eval] at et7;have hO := hW;have zs := (HE.out.1.below hO.bel).lt;exact ⟨hW, .pointer (some ⟨c.sb, 0, none⟩), by go_simp, rfl⟩
      · refine gP_ rfl ?_;refine sP_ fun sg ly act wx hl hd hW hF => ?_;simp [Region.binds] at hd;have et8 := hF.new 3 8 (by simp [hd]) rfl;simp [HmkV, Act.eval] at et8;have hO := hW;have zs := (HE.out.1.below hO.bel).lt;exact ⟨hW, .pointer (some ⟨c.sb, 4, none⟩), by go_simp, rfl⟩
      · refine gP_ rfl ?_;refine sP_ fun sg ly act wx hl hd hW hF => ?_;simp [Region.binds] at hd;have et9 := hF.new 4 9 (by simp [hd]) rfl;simp [HmkV, Act.eval] at et9;have hO := hW;have zs := (HE.out.1.below hO.bel).lt;have c4 := (cOH (HE.out.1.below hO.bel).hs 4).trans rfl;exact ⟨hW, .slice c.At c.s.thr.length c.ct, by go_simp, rfl⟩
      · refine gP_ rfl ?_;refine sC_ fun sg ly act wx hl hd hW hF => ?_;simp [Region.binds] at hd;have et10 := hF.new 5 10 (by simp [hd]) rfl;simp [HmkV, Act.eval] at et10;have hO := hW;try dsimp only at hO
        refine ⟨85, #[.slice c.At c.s.thr.length c.ct], by go_simp, ?_⟩;refine (HE.out.2.1 wx hO.bel).mono ?_;rintro e w2 ⟨rfl, hb⟩;exact ⟨_, sg, rfl, Own.below hW hb, rfl, fun _ _ _ h => h⟩
      · refine gP_ rfl ?_;refine sP_ fun sg ly act wx hl hd hW hF => ?_;simp [Region.binds] at hd;have et5 := hF.new 0 5 (by simp [hd]) rfl;simp [HmkV, Act.eval] at et5;have et11 := hF.new 6 11 (by simp [hd]) rfl;simp [HmkV, Act.eval] at et11;have hle : v ≤ en := HZ.out.1;exact ⟨hW, .bool true, by go_simp, rfl⟩
      · refine gP_ rfl ?_;refine sP_ fun sg ly act wx hl hd hW hF => ?_;simp [Region.binds] at hd;have et12 := hF.new 7 12 (by simp [hd]) rfl;simp [HmkV, Act.eval] at et12;exact ⟨hW, .bool true, by go_simp, rfl⟩
      · refine stepG_yes ?_ ?_;rotate_left
        · intro sg ly a wr hd hF;simp [Region.binds] at hd;exact wQ_ hF (g := 8) (d := 13) (z := true) (b := true) rfl rfl (by simp [hd]) (fun v hv => hv)
        refine sP_ fun sg ly act wx hl hd hW hF => ?_;have et2 := hF.old 2 (by kernel_rfl);simp [Act.eval] at et2;exact ⟨hW, .pointer (some ⟨rb, 0, none⟩), by go_simp, rfl⟩
      · refine stepG_yes ?_ ?_;rotate_left
        · intro sg ly a wr hd hF;simp [Region.binds] at hd;exact wQ_ hF (g := 8) (d := 13) (z := true) (b := true) rfl rfl (by simp [hd]) (fun v hv => hv)
        refine sP_ fun sg ly act wx hl hd hW hF => ?_;simp [Region.binds] at hd;have et14 := hF.new 9 14 (by simp [hd]) rfl;simp [HmkV, Act.eval] at et14;have hO := hW;try dsimp only at hO
        have hh := hO.heap 0 rfl;have clq0 := (cOH hh 0).trans rfl;have clq1 := (cOH hh 1).trans rfl;have clq2 := (cOH hh 2).trans rfl;have clq3 := (cOH hh 3).trans rfl;have clq4 := (cOH hh 4).trans rfl;have clq5 := (cOH hh 5).trans rfl;have zz := hL_ hh;exact ⟨hW, .pointer (some ⟨c.sb, 0, none⟩), by go_simp, rfl⟩
      · refine stepG_yes ?_ ?_;rotate_left
        · intro sg ly a wr hd hF;simp [Region.binds] at hd;exact wQ_ hF (g := 8) (d := 13) (z := true) (b := true) rfl rfl (by simp [hd]) (fun v hv => hv)
        refine sP_ fun sg ly act wx hl hd hW hF => ?_;have et1 := hF.old 1 (by kernel_rfl);simp [Act.eval] at et1;exact ⟨hW, .int .i64 v, by go_simp, rfl⟩
      · refine stepG_yes ?_ ?_;rotate_left
        · intro sg ly a wr hd hF;simp [Region.binds] at hd;exact wQ_ hF (g := 8) (d := 13) (z := true) (b := true) rfl rfl (by simp [hd]) (fun v hv => hv)
        refine sC_ fun sg ly act wx hl hd hW hF => ?_;simp [Region.binds] at hd;have et15 := hF.new 10 15 (by simp [hd]) rfl;simp [HmkV, Act.eval] at et15;have et16 := hF.new 11 16 (by simp [hd]) rfl;simp [HmkV, Act.eval] at et16;have hO := hW;try dsimp only at hO
        refine ⟨86, #[.pointer (some ⟨c.sb, 0, none⟩), .int .i64 v], by go_simp, ?_⟩;refine (HE.out.2.2.1 wx hO.bel).mono ?_;rintro e w2 ⟨rfl, hb⟩;exact ⟨_, sg, rfl, Own.below hW hb, rfl, fun _ _ _ h => h⟩
      · refine stepG_yes ?_ ?_;rotate_left
        · intro sg ly a wr hd hF;simp [Region.binds] at hd;exact wQ_ hF (g := 8) (d := 13) (z := true) (b := true) rfl rfl (by simp [hd]) (fun v hv => hv)
        refine sP_ fun sg ly act wx hl hd hW hF => ?_;have et2 := hF.old 2 (by kernel_rfl);simp [Act.eval] at et2;have hO := hW;try dsimp only at hO
        have hh := hO.heap 0 rfl;have clq0 := (cOH hh 0).trans rfl;have clq1 := (cOH hh 1).trans rfl;have clq2 := (cOH hh 2).trans rfl;have clq3 := (cOH hh 3).trans rfl;have clq4 := (cOH hh 4).trans rfl;have clq5 := (cOH hh 5).trans rfl;have zz := hL_ hh;exact ⟨hW, .agg #[.pointer (some ⟨c.sb, 0, none⟩), .int .i64 i.con, .int .i64 i.thk, .int .i64 i.rid, .int .i64 i.prs, .bool ch], by go_simp, rfl⟩
      · refine stepG_yes ?_ ?_;rotate_left
        · intro sg ly a wr hd hF;simp [Region.binds] at hd;exact wQ_ hF (g := 8) (d := 13) (z := true) (b := true) rfl rfl (by simp [hd]) (fun v hv => hv)
        refine sP_ fun sg ly act wx hl hd hW hF => ?_;have et1 := hF.old 1 (by kernel_rfl);simp [Act.eval] at et1;exact ⟨hW, .int .i64 v, by go_simp, rfl⟩
      · refine stepG_yes ?_ ?_;rotate_left
        · intro sg ly a wr hd hF;simp [Region.binds] at hd;exact wQ_ hF (g := 8) (d := 13) (z := true) (b := true) rfl rfl (by simp [hd]) (fun v hv => hv)
        refine sC_ fun sg ly act wx hl hd hW hF => ?_;simp [Region.binds] at hd;have et18 := hF.new 13 18 (by simp [hd]) rfl;simp [HmkV, Act.eval] at et18;have et19 := hF.new 14 19 (by simp [hd]) rfl;simp [HmkV, Act.eval] at et19;have hO := hW;try dsimp only at hO
        refine ⟨87, #[.agg #[.pointer (some ⟨c.sb, 0, none⟩), .int .i64 i.con, .int .i64 i.thk, .int .i64 i.rid, .int .i64 i.prs, .bool ch], .int .i64 v], by go_simp, ?_⟩;refine (HE.out.2.2.2 wx hO.bel).mono ?_;rintro e w2 ⟨rfl, hb⟩;exact ⟨_, sg, rfl, Own.below hW hb, rfl, fun _ _ _ h => h⟩
      · refine stepG_yes ?_ ?_;rotate_left
        · intro sg ly a wr hd hF;simp [Region.binds] at hd;exact wQ_ hF (g := 8) (d := 13) (z := true) (b := true) rfl rfl (by simp [hd]) (fun v hv => hv)
        refine sP_ fun sg ly act wx hl hd hW hF => ?_;simp [Region.binds] at hd;have et17 := hF.new 12 17 (by simp [hd]) rfl;simp [HmkV, Act.eval] at et17;have et20 := hF.new 15 20 (by simp [hd]) rfl;simp [HmkV, Act.eval] at et20;have hz := HZ.out.2;exact ⟨hW, .bool z, by go_simp, rfl⟩
      · refine gP_ rfl ?_;refine sP_ fun sg ly act wx hl hd hW hF => ?_;simp [Region.binds] at hd;have et13 := hF.new 8 13 (by simp [hd]) rfl;simp [HmkV, Act.eval] at et13;have et21 := hF.new 16 21 (by simp [hd]) rfl;simp [HmkV, Act.eval] at et21;exact ⟨hW, .bool z, by go_simp, rfl⟩
      · refine gP_ rfl ?_;refine sP_ fun sg ly act wx hl hd hW hF => ?_;simp [Region.binds] at hd;have et22 := hF.new 17 22 (by simp [hd]) rfl;simp [HmkV, Act.eval] at et22;exact ⟨hW, .bool z, by go_simp, rfl⟩
    intro sg af w4 hWW hF;have e4 := hF.new 18 4 (by decide) rfl;obtain ⟨ff, hf, rfl⟩ := hF.lit;rw [← hf] at e4;simp only [HmkV] at e4;have O4 : Own w.heap.size w [It.blk rb (.cells #[.pointer (some ⟨c.sb, 0, none⟩), .int .i64 i.con, .int .i64 i.thk, .int .i64 i.rid, .int .i64 i.prs, .bool ch] 147)] w4 := hWW;have H4 := Lib.hid O4.bel;clear hWW hF hf O4;simp only [List.filterMap, List.foldl, List.setIfInBounds_toArray, List.set_cons_succ, List.set_cons_zero, e4];clear e4;go_wp2_with fail
    go_ret;exact ⟨by unfold Hu.makes; rw [← HM.out.1, ← HM.out.2.1, ← HM.out.2.2.1, decide_eq_true HZ.out.1, HZ.out.2]; rfl, H4.out⟩
  · have d1 : decide (v ≤ en) = false := decide_eq_false hle;have KE := Lib.hid (fun m => HM.out.2.2.2 (W.drewN m) (H0.out.below (below_drewN (Below.refl _ _) m)).bel);go_quiet ((go_at_call 85; with_reducible exact Calls.quiet_of_same (KE.out _)));go_wp2_with fail
    go_ret;exact ⟨by unfold Hu.makes; rw [← HM.out.1, d1]; rfl, below_drewN H0.out.bel _⟩
end Go.Proofs.YtalcinepeofmcaaGreat
