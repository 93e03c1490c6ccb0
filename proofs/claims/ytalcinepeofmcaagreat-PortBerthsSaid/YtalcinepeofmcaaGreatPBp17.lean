import Derived.Test.YtalcinepeofmcaaGreatPBp6
import Derived.Test.YtalcinepeofmcaaGreatPBp16
import Derived.BigQuiet
set_option linter.unusedVariables false
set_option linter.unusedSimpArgs false
set_option maxRecDepth 100000
set_option maxHeartbeats 40000000
namespace Go.Proofs.YtalcinepeofmcaaGreat
open Go Go.RowKit Sp Pt
theorem join_tot (a m : Mp) (b off c : Nat) (w : World) (hb : b < w.heap.size) (h0 : w.cell? ⟨b, off, none⟩ = some (.int .i64 m.add)) (h1 : w.cell? ⟨b, off + 1, none⟩ = some (.int .i64 m.floor)) (h2 : w.cell? ⟨b, off + 2, none⟩ = some (.int .i64 m.most)) :
    Calls Tryz.prog 82 #[mpV a, .slice (some ⟨b, off, none⟩) 1 c] w fun e w' => ∃ y : Mp, e = .returned (mpV y) ∧ Below w.heap.size w w' := by
  go_enter Tryz.func82, Tryz.ntmps82
  go_upto_region 1 with fail
  obtain ⟨W, hW⟩ : ∃ W, W = (w.alloc (.cells #[.int .i64 a.add, .int .i64 a.floor, .int .i64 a.most] 90)).alloc (.cells #[.int .i64 0, .int .i64 0, .int .i64 0] 90) := ⟨_, rfl⟩;have bW : Below w.heap.size w W := by rw [hW]; exact ((Below.refl _ _).alloc (Nat.le_refl _) _).alloc (by simp) _
  have ho : W.heap[w.heap.size]? = some (.cells #[.int .i64 a.add, .int .i64 a.floor, .int .i64 a.most] 90 (0, 0)) := by rw [hW]; exact hA_ (heap_alloc_new _ _) _
  have hr : W.heap[w.heap.size + 1]? = some (.cells #[.int .i64 0, .int .i64 0, .int .i64 0] 90 (0, 0)) := by
    rw [hW];have := heap_alloc_new (w.alloc (.cells #[.int .i64 a.add, .int .i64 a.floor, .int .i64 a.most] 90)) (.cells #[.int .i64 0, .int .i64 0, .int .i64 0] 90)
    rwa [World.size_alloc] at this
  obtain ⟨ob, hob⟩ : ∃ ob, ob = w.heap.size := ⟨_, rfl⟩;rw [← hW, ← hob];rw [← hob] at ho hr;have d0 := (bW.cell (p := ⟨b, off, none⟩) hb).trans h0;have d1 := (bW.cell (p := ⟨b, off + 1, none⟩) hb).trans h1;have d2 := (bW.cell (p := ⟨b, off + 2, none⟩) hb).trans h2;have hbW : b < W.heap.size ∧ b < ob := ⟨by have := bW.size; omega, by omega⟩;have HB := Lib.hid (And.intro bW (And.intro hob hr));clear hW hob bW hr h0 h1 h2 hb;go_wp2_with fail
  go_loopg [10] (1) (fun g i wr => ∃ k : Nat, g + k = 1 ∧ i = .int .i64 k ∧ Keep [ob] W wr ∧ (k = 0 → wr.heap[ob]? = some (.cells #[.int .i64 a.add, .int .i64 a.floor, .int .i64 a.most] 90 (0, 0))) ∧ ∃ y : Mp, wr.heap[ob]? = some (.cells #[.int .i64 y.add, .int .i64 y.floor, .int .i64 y.most] 90 (0, 0)))
  case atStart => exact ⟨0, rfl, rfl, Keep.refl _ _, fun _ => ho, a, ho⟩
  case round =>
    obtain ⟨k, hk, rfl, hK, hh0, y, hh⟩ := hrel;by_cases hk0 : k = 0
    · subst hk0
      replace hh := hh0 rfl
      clear hh0;have e0 := hK.cell d0 (by simp; omega);have e1 := hK.cell d1 (by simp; omega);have e2 := hK.cell d2 (by simp; omega);have f0 := (cOH hh 0).trans rfl;have f1 := (cOH hh 1).trans rfl;have f2 := (cOH hh 2).trans rfl;have hbr : b < wr.heap.size := Nat.lt_of_lt_of_le hbW.1 hK.size;have hor := hL_ hh;have u0 := fOH hh 0;have u1 := fOH hh 1;have u2 := fOH hh 2;have HK := Lib.hid (And.intro hK hh);clear hK hh d0 d1 d2 ho;go_wp2_with fail
      all_goals
        go_roundg (gk - 1);case measure => omega
        case rel =>
          refine ⟨1, by omega, by go_num, (((HK.out.1.setCell (p := ⟨ob, 0, none⟩) (.inl (by simp)) _).setCell (p := ⟨ob, 1, none⟩) (.inl (by simp)) _).setCell (p := ⟨ob, 2, none⟩) (.inl (by simp)) _).alloc _, fun h => absurd h (by decide), ?_⟩;exact ⟨⟨_, _, _⟩, (hA_ (st3_heap' HK.out.2 _ _ _) _)⟩
    · obtain rfl : k = 1 := by omega
      clear hh0;have f0 := (cOH hh 0).trans rfl;have f1 := (cOH hh 1).trans rfl;have f2 := (cOH hh 2).trans rfl;have hR : wr.heap[ob + 1]? = some (.cells #[.int .i64 0, .int .i64 0, .int .i64 0] 90 (0, 0)) := (hK.block _ (hL_ HB.out.2.2) (by simp)).trans HB.out.2.2;have hor := hL_ hh;have u0 := fOH hR 0;have u1 := fOH hR 1;have u2 := fOH hR 2;have g0 := (cOH hR 0).trans rfl;have g1 := (cOH hR 1).trans rfl;have g2 := (cOH hR 2).trans rfl;have hrr := hL_ hR;have HK := Lib.hid (And.intro hK hR);clear hK hh hR d0 d1 d2 ho;go_wp2_with fail
      refine bodyPost_ret (mp_results (r := 4) (m := y) rfl (st3_heap' HK.out.2 _ _ _) _ rfl) rfl ⟨y, rfl, ?_⟩;exact st3_below' (HB.out.1.trans ((HK.out.1.below (B := w.heap.size) HB.out.1.size (by simp; have := HB.out.2.1; omega)))) (by have := HB.out.2.1; omega) _ _ _
theorem join_all (a m : Mp) (b off c : Nat) (w : World) (hb : b < w.heap.size) (h0 : w.cell? ⟨b, off, none⟩ = some (.int .i64 m.add)) (h1 : w.cell? ⟨b, off + 1, none⟩ = some (.int .i64 m.floor)) (h2 : w.cell? ⟨b, off + 2, none⟩ = some (.int .i64 m.most)) :
    Calls Tryz.prog 82 #[mpV a, .slice (some ⟨b, off, none⟩) 1 c] w fun e w' => ∃ y : Mp, (farM a → farM m → y = join1 a m) ∧ e = .returned (mpV y) ∧ Below w.heap.size w w' := by
  by_cases hf : farM a ∧ farM m
  · exact (join_any a m b off c w hb h0 h1 h2 hf.1 hf.2).mono fun e w' h => ⟨_, fun _ _ => rfl, h.1, h.2⟩
  · exact (join_tot a m b off c w hb h0 h1 h2).mono fun e w' ⟨y, h⟩ => ⟨y, fun h1 h2 => absurd ⟨h1, h2⟩ hf, h.1, h.2⟩
end Go.Proofs.YtalcinepeofmcaaGreat
namespace Go.Proofs.YtalcinepeofmcaaGreat
open Go Go.RowKit Go.Shelf Go.Proofs Sp Pt
attribute [local go_sem] Oper.semAt_some
def MqV (W0 : World) (kb xb wb pb bc oc n cc k : Nat) (gr fr cr : Int) (s : Nat) : Nat → Value → Prop
  | 0, v => v = .pointer (some ⟨wb, 0, none⟩)
  | 1, v => v = .pointer (some ⟨wb, 0, none⟩)
  | 2, v => v = .pointer (some ⟨wb, 0, none⟩)
  | 3, v => v = .pointer (some ⟨pb, 0, none⟩)
  | 4, v => v = .pointer (some ⟨pb, 0, none⟩)
  | 5, v => v = .pointer (some ⟨pb, 0, none⟩)
  | 6, v => v = .slice (some ⟨bc, oc, none⟩) n cc
  | 7, v => v = .int .i64 k
  | 8, v => v = .pointer (some ⟨bc, oc + k * 3, none⟩)
  | 9, v => v = .agg #[.int .i64 gr, .int .i64 fr, .int .i64 cr]
  | 10, v => v = .pointer (some ⟨s, 0, none⟩)
  | _, _ => True
def MqW (W0 : World) (kb xb wb pb bc oc n cc k : Nat) (gr fr cr : Int) (s : Nat) (l : Nat → Bool) (w : World) : Prop := Keep [] W0 w ∧ (l 10 = true → w.heap[s]? = some (.cells (if l 11 then #[.int .i64 gr, .int .i64 fr, .int .i64 cr] else #[.int .i64 0, .int .i64 0, .int .i64 0]) 99 (0, 0)) ∧ W0.heap.size ≤ s)
theorem maps_any {c : WC} {w : World} {k : Nat} (hE : ∃ v u, WcE c w v u) (hk : k < c.p.chs.length) (hcn : c.p.chs.length ≤ 1000) :
    Calls Tryz.prog 81 #[.pointer (some ⟨c.wb, 0, none⟩), .int .i64 k] w fun e w' => ∃ kb xb yb, e = .returned (.func (.func 97) #[] #[.pointer (some ⟨kb, 0, none⟩), .pointer (some ⟨xb, 0, none⟩), .pointer (some ⟨yb, 0, none⟩)]) ∧
      w'.heap[kb]? = some (.cells #[.pointer (some ⟨c.wb, 0, none⟩)] 127 (0, 0)) ∧ w'.heap[xb]? = some (.cells #[.int .i64 k] 3 (0, 0)) ∧ w'.heap[yb]? = some (.cells #[.int .i64 (ch c.p k).grow, .int .i64 (ch c.p k).frost, .int .i64 (ch c.p k).clear] 99 (0, 0)) ∧ Below w.heap.size w w' := by
  obtain ⟨v, u, E⟩ := hE;obtain ⟨W, hW⟩ : ∃ W, W = (w.alloc (.cells #[.pointer (some ⟨c.wb, 0, none⟩)] 127)).alloc (.cells #[.int .i64 k] 3) := ⟨_, rfl⟩;obtain ⟨kb, hkb⟩ : ∃ b, b = w.heap.size := ⟨_, rfl⟩;obtain ⟨xb, hxb⟩ : ∃ b, b = w.heap.size + 1 := ⟨_, rfl⟩;have b0 : Below w.heap.size w W := by rw [hW]; exact ((Below.refl _ _).alloc (Nat.le_refl _) _).alloc (by simp) _
  have h1 : W.heap[kb]? = some (.cells #[.pointer (some ⟨c.wb, 0, none⟩)] 127 (0, 0)) := by rw [hW, hkb]; exact hA_ (heap_alloc_new _ _) _
  have h2 : W.heap[xb]? = some (.cells #[.int .i64 k] 3 (0, 0)) := by
    rw [hW, hxb];have := heap_alloc_new (w.alloc (.cells #[.pointer (some ⟨c.wb, 0, none⟩)] 127)) (.cells #[.int .i64 k] 3)
    rwa [World.size_alloc] at this
  have E1 := E.below b0;obtain ⟨bc, oc, eAc, hbc, q4, q5, q6⟩ := chAt E1.PB hk;obtain ⟨q1, _, _, _, q2, _, _, _, _, z1, z2, _⟩ := E1.cells;rw [eAc] at q2;have q0 : W.cell? ⟨kb, 0, none⟩ = some (.pointer (some ⟨c.wb, 0, none⟩)) := (cOH h1 0).trans rfl;have q3 : W.cell? ⟨xb, 0, none⟩ = some (.int .i64 k) := (cOH h2 0).trans rfl;obtain ⟨gr, hgr⟩ : ∃ x, x = (ch c.p k).grow := ⟨_, rfl⟩;obtain ⟨fr, hfr⟩ : ∃ x, x = (ch c.p k).frost := ⟨_, rfl⟩;obtain ⟨cr, hcr⟩ : ∃ x, x = (ch c.p k).clear := ⟨_, rfl⟩;rw [← hgr] at q4;rw [← hfr] at q5;rw [← hcr] at q6;have k1 : (0 : Int) ≤ (k : Int) := by omega
  have k2 : (k : Int) < (c.p.chs.length : Int) := by omega
  have zk := hL_ h1;have zx := hL_ h2;have zc := World.block_lt_of_cell? _ _ q4;have H := Lib.hid (And.intro b0 (And.intro h1 (And.intro h2 (And.intro hgr (And.intro hfr hcr)))));clear b0 h1 h2 E E1 eAc hbc hgr hfr hcr
  go_enter Tryz.func81, Tryz.ntmps81
  go_upto_region 1 with fail
  rw [← hW, ← hxb, ← hkb];clear hW hxb hkb;refine wRS (σ := Nat) (by kernel_rfl) (by kernel_rfl) (fun sg jx vx _ => MqV W kb xb c.wb c.pb bc oc c.p.chs.length c.cc k gr fr cr sg jx vx) (fun sg ly wx => MqW W kb xb c.wb c.pb bc oc c.p.chs.length c.cc k gr fr cr sg ly wx) 0 ?_ ?_ ?_
  · exact ⟨(Keep.refl _ _).drew, fun h => absurd h (by simp)⟩
  · simp only [AllFrom, Nat.zero_add, Nat.reduceAdd];refine ⟨?_, ?_, ?_, ?_, ?_, ?_, ?_, ?_, ?_, ?_, ?_, ?_, trivial⟩
    · refine sP_ fun sg ly a wr hl hd hW hF => ?_;have et2 := hF.old 2 (by kernel_rfl);simp [Act.eval] at et2;have c0 := hW.1.cell q0 (by simp);refine ⟨?_, _, by go_simp, rfl⟩;have hW' := hW;unfold MqW at hW' ⊢;simpa [upd] using hW'
    · refine sP_ fun sg ly a wr hl hd hW hF => ?_;simp [Region.binds] at hd;have et6 := hF.new 0 6 (by simp [hd]) rfl;simp [MqV, Act.eval] at et6;refine ⟨?_, .pointer (some ⟨c.wb, 0, none⟩), by go_simp, rfl⟩;have hW' := hW;unfold MqW at hW' ⊢;simpa [upd] using hW'
    · refine sP_ fun sg ly a wr hl hd hW hF => ?_;simp [Region.binds] at hd;have et7 := hF.new 1 7 (by simp [hd]) rfl;simp [MqV, Act.eval] at et7;refine ⟨?_, .pointer (some ⟨c.wb, 0, none⟩), by go_simp, rfl⟩;have hW' := hW;unfold MqW at hW' ⊢;simpa [upd] using hW'
    · refine sP_ fun sg ly a wr hl hd hW hF => ?_;simp [Region.binds] at hd;have et8 := hF.new 2 8 (by simp [hd]) rfl;simp [MqV, Act.eval] at et8;have c0 := hW.1.cell q1 (by simp);refine ⟨?_, _, by go_simp, rfl⟩;have hW' := hW;unfold MqW at hW' ⊢;simpa [upd] using hW'
    · refine sP_ fun sg ly a wr hl hd hW hF => ?_;simp [Region.binds] at hd;have et9 := hF.new 3 9 (by simp [hd]) rfl;simp [MqV, Act.eval] at et9;refine ⟨?_, .pointer (some ⟨c.pb, 0, none⟩), by go_simp, rfl⟩;have hW' := hW;unfold MqW at hW' ⊢;simpa [upd] using hW'
    · refine sP_ fun sg ly a wr hl hd hW hF => ?_;simp [Region.binds] at hd;have et10 := hF.new 4 10 (by simp [hd]) rfl;simp [MqV, Act.eval] at et10;refine ⟨?_, .pointer (some ⟨c.pb, 0, none⟩), by go_simp, rfl⟩;have hW' := hW;unfold MqW at hW' ⊢;simpa [upd] using hW'
    · refine sP_ fun sg ly a wr hl hd hW hF => ?_;simp [Region.binds] at hd;have et11 := hF.new 5 11 (by simp [hd]) rfl;simp [MqV, Act.eval] at et11;have c0 := hW.1.cell q2 (by simp);refine ⟨?_, _, by go_simp, rfl⟩;have hW' := hW;unfold MqW at hW' ⊢;simpa [upd] using hW'
    · refine sP_ fun sg ly a wr hl hd hW hF => ?_;have et3 := hF.old 3 (by kernel_rfl);simp [Act.eval] at et3;have c0 := hW.1.cell q3 (by simp);refine ⟨?_, _, by go_simp, rfl⟩;have hW' := hW;unfold MqW at hW' ⊢;simpa [upd] using hW'
    · refine sP_ fun sg ly a wr hl hd hW hF => ?_;simp [Region.binds] at hd;have et12 := hF.new 6 12 (by simp [hd]) rfl;simp [MqV, Act.eval] at et12;have et13 := hF.new 7 13 (by simp [hd]) rfl;simp [MqV, Act.eval] at et13;refine ⟨?_, .pointer (some ⟨bc, oc + k * 3, none⟩), by go_simp, rfl⟩;have hW' := hW;unfold MqW at hW' ⊢;simpa [upd] using hW'
    · refine sP_ fun sg ly a wr hl hd hW hF => ?_;simp [Region.binds] at hd;have et14 := hF.new 8 14 (by simp [hd]) rfl;simp [MqV, Act.eval] at et14;have c0 := hW.1.cell q4 (by simp);have c1 := hW.1.cell q5 (by simp);have c2 := hW.1.cell q6 (by simp);refine ⟨?_, _, by go_simp, rfl⟩;have hW' := hW;unfold MqW at hW' ⊢;simpa [upd] using hW'
    · refine sR_ fun sg ly a wr hl hd hW hF => ?_;have n11 := hF.notYet 10 11 hl (by kernel_rfl);refine ⟨_, wr.alloc (.cells #[.int .i64 0, .int .i64 0, .int .i64 0] 99), wr.heap.size, by go_simp, ⟨hW.1.alloc _, fun _ => ⟨by rw [if_neg (by simp [upd, n11])]; exact heap_alloc_new _ _, hW.1.size⟩⟩, rfl, ?_⟩;intro i u hi h;have i2 : i ≠ 10 := by rintro rfl; rw [hl] at hi; cases hi
      unfold MqV at h ⊢;split at h <;> first | exact h | exact absurd rfl i2
    · refine sS_ rfl fun sg ly a wr hl hd hW hF => ?_;simp [Region.binds] at hd;have et5 := hF.new 10 5 (by simp [hd]) rfl;simp [MqV, Act.eval] at et5;have et15 := hF.new 9 15 (by simp [hd]) rfl;simp [MqV, Act.eval] at et15;have y10 : ly 10 = true := by simp [hd]
      obtain ⟨hh, hs⟩ := hW.2 y10;rw [if_neg (by simp [hl])] at hh;have c0 := (cOH hh 0).trans rfl;have c1 := (cOH hh 1).trans rfl;have c2 := (cOH hh 2).trans rfl;have f0 := fOH hh 0;have f1 := fOH hh 1;have f2 := fOH hh 2;refine ⟨((wr.setCell ⟨sg, 0, none⟩ (.int .i64 gr)).setCell ⟨sg, 1, none⟩ (.int .i64 fr)).setCell ⟨sg, 2, none⟩ (.int .i64 cr), sg, .skip, by go_simp, .inl rfl, ⟨((hW.1.setCell (.inr hs) _).setCell (.inr hs) _).setCell (.inr hs) _, fun _ => ⟨by rw [if_pos (by simp [upd])]; exact hS_ (hS_ (hS_ hh 0 _) 1 _) 2 _, hs⟩⟩, fun _ _ _ h => h⟩
  intro sg a w3 hWW hF;have e5 := hF.new 10 5 (by decide) rfl;obtain ⟨f3, hf3, rfl⟩ := hF.lit;rw [← hf3] at e5;simp only [MqV] at e5;obtain ⟨kp, o1⟩ := hWW;obtain ⟨o1, o2⟩ := o1 (by simp);rw [if_pos (by simp)] at o1;have HF := Lib.hid (And.intro kp (And.intro o1 o2));clear hf3 hF kp o1 o2 q0 q1 q2 q3 q4 q5 q6 zk zx zc z1 z2;simp only [List.filterMap, List.foldl, List.setIfInBounds_toArray, List.set_cons_succ, List.set_cons_zero, e5];clear e5;go_wp2_with fail
  go_ret;refine ⟨kb, xb, sg, rfl, (HF.out.1.block _ (hL_ H.out.2.1) (by simp)).trans H.out.2.1, (HF.out.1.block _ (hL_ H.out.2.2.1) (by simp)).trans H.out.2.2.1, ?_, H.out.1.trans (HF.out.1.below H.out.1.size (by simp))⟩;rw [← H.out.2.2.2.1, ← H.out.2.2.2.2.1, ← H.out.2.2.2.2.2];exact HF.out.2.1
theorem own_cells {β : Type} (b : Nat) (f : β → Obj) (hf : ∀ s, (f s).isCells = true) : Go.Own (fun s W => W.heap[b]? = some (f s)) := fun s X Y row hs hg hrow =>
  (hg.block b (hL_ hs) (fun e => by obtain ⟨o, ho, hc⟩ := hrow b e.symm; rw [hs] at ho; cases ho; rw [hf] at hc; cases hc)).trans hs
theorem own_some (b : Nat) (G : List Mp → Mp → Prop) : Go.Own (fun pre W => ∃ a : Mp, W.heap[b]? = some (.cells #[.int .i64 a.add, .int .i64 a.floor, .int .i64 a.most] 90 (0, 0)) ∧ G pre a) := by
  rintro s X Y row ⟨a, ha, hG⟩ hg hrow;exact ⟨a, (hg.block b (hL_ ha) (fun e => by obtain ⟨o, ho, hc⟩ := hrow b e.symm; rw [ha] at ho; cases ho; cases hc)).trans ha, hG⟩
theorem KpF.alloc {free : Nat → Obj → Prop} (W : World) (o : Obj) : KpF free W (W.alloc o) := ⟨by simp, fun _ _ hk _ _ => hA_ hk _⟩
theorem KpF.putObj {free : Nat → Obj → Prop} {W : World} {l : Nat} {o : Obj} (hl : W.heap[l]? = some o) (ho : o.isCells = false) (o' : Obj) : KpF free W (W.putObj l o') :=
  ⟨by simp, fun k ob hk hc _ => (World.putObj_heap_other (fun e => by subst e; rw [hl] at hk; cases hk; rw [ho] at hc; cases hc)).trans hk⟩
theorem KpF.of_below {free : Nat → Obj → Prop} {W W' : World} (h : Below W.heap.size W W') : KpF free W W' := ⟨h.size, fun k o hk _ _ => (h.block k (hL_ hk)).trans hk⟩
abbrev mpA (m : Mp) : Array Value := #[.int .i64 m.add, .int .i64 m.floor, .int .i64 m.most]
theorem jm_far {k : Nat} {m : Mp} (h : Jm k m) (hk : k ≤ 1000) : farM m := by
  obtain ⟨⟨a, a'⟩, ⟨b, b'⟩, d, e, f⟩ := h;simp only [farM, far, NL] at *;omega
theorem gm_far {m : Mp} (h : Gm m) : farM m := by
  obtain ⟨⟨a, a'⟩, ⟨b, b'⟩, d, e⟩ := h;simp only [farM, far, NL] at *;omega
theorem fold_any {c : WC} {w : World} {k : Nat} (hE : ∃ v u, WcE c w v u) (hlt : c.wb < w.heap.size ∧ c.pb < w.heap.size ∧ c.lb < w.heap.size) (v : Val c.p c.l) (hk : k < c.p.chs.length) :
    Calls Tryz.prog 57 #[.pointer (some ⟨c.wb, 0, none⟩), .int .i64 k] w fun e w' => e = .returned (mpV (foldS c.p c.l k)) ∧ Below w.heap.size w w' := by
  obtain ⟨W, hW⟩ : ∃ W, W = (w.alloc (.cells #[.int .i64 0, .int .i64 0, .int .i64 0] 90)).alloc (.cells #[.int .i64 0, .int .i64 0, .int .i64 1000000000] 90) := ⟨_, rfl⟩;obtain ⟨rb, hrb⟩ : ∃ b, b = w.heap.size := ⟨_, rfl⟩;obtain ⟨ob, hob⟩ : ∃ b, b = w.heap.size + 1 := ⟨_, rfl⟩;have b0 : Below w.heap.size w W := by rw [hW]; exact ((Below.refl _ _).alloc (Nat.le_refl _) _).alloc (by simp) _
  have h1 : W.heap[rb]? = some (.cells #[.int .i64 0, .int .i64 0, .int .i64 0] 90 (0, 0)) := by rw [hW, hrb]; exact hA_ (heap_alloc_new _ _) _
  have h2 : W.heap[ob]? = some (.cells (mpA id1) 90 (0, 0)) := by
    rw [hW, hob];have := heap_alloc_new (w.alloc (.cells #[.int .i64 0, .int .i64 0, .int .i64 0] 90)) (.cells (mpA id1) 90)
    rwa [World.size_alloc] at this
  have hD0 : c.D ≤ w.heap.size := by obtain ⟨_, _, E⟩ := hE; exact E.hD
  have hE1 : ∃ v u, WcE c W v u := by obtain ⟨v0, u0, E⟩ := hE; exact ⟨v0, u0, E.below b0⟩
  have hn := v.nc;have km := maps_any hE1 hk (by omega);have H := Lib.hid (And.intro b0 (And.intro h1 (And.intro h2 (And.intro hE1 (And.intro hlt (And.intro v km))))));have hge : w.heap.size ≤ rb ∧ w.heap.size ≤ ob ∧ rb ≠ ob := by omega
  clear b0 h1 h2 hE hE1 v km hlt;refine (callsIn_wide (n := 9)).1 ?_;refine callsIn_of_wp_marks Tryz.func57 rfl trivial ?_ rfl;simp only [Tryz.ntmps57, List.size_toArray, List.length_cons, List.length_nil, Nat.reduceAdd, Nat.reduceSub, Array.replicate_succ, Array.replicate_zero, List.push_toArray, List.append_toArray, List.nil_append, List.cons_append]
  gi_upto_region 2 with fail
  rw [← hW, ← hob, ← hrb];clear hW hob hrb
  gi_wp2_with (refine ⟨trivial, ?_⟩; gi_at_call 81; refine (callsIn_wide.2 H.out.2.2.2.2.2.2).mono ?_; rintro e w1 ⟨kb, xb, yb, rfl, g1, g2, g3, b1⟩; have H1 := Lib.hid (And.intro g1 (And.intro g2 (And.intro g3 b1))); clear g1 g2 g3 b1)
  have hbw : Below w.heap.size w w1 := H.out.1.trans (H1.out.2.2.2.mono H.out.1.size);have hr1 := (H1.out.2.2.2.block _ (hL_ H.out.2.1)).trans H.out.2.1;have ho1 := (H1.out.2.2.2.block _ (hL_ H.out.2.2.1)).trans H.out.2.2.1;have M1 : ME c w.heap.size kb xb yb k w1 := by
    obtain ⟨v0, u0, E⟩ := H.out.2.2.2.1;have E1 := E.below H1.out.2.2.2;refine ⟨⟨v0, u0, E1⟩, ⟨H.out.2.2.2.2.1.1, H.out.2.2.2.2.1.2.1, H.out.2.2.2.2.1.2.2, hD0⟩, ⟨Nat.le_refl _, fun _ _ _ _ h => h, H1.out.1, H1.out.2.1, H1.out.2.2.1⟩, by omega, by omega⟩
  have hz1 := H1.out.2.2.2.size;have hobw : rb < w1.heap.size ∧ ob < w1.heap.size := ⟨hL_ hr1, hL_ ho1⟩;have H2 := Lib.hid (And.intro hbw (And.intro hr1 ho1));have hbs := hbw.size;have hsz : ∀ W : World, Below w.heap.size w W → w.heap.size ≤ W.heap.size := fun W h => h.size;refine wpIn_rangeFunc_ownH rfl (by omega) (gf := 97) (lb := #[.pointer (some ⟨kb, 0, none⟩), .pointer (some ⟨xb, 0, none⟩), .pointer (some ⟨yb, 0, none⟩)]) rfl trivial (enters_of Tryz.func97 (by kernel_rfl) rfl)
    (maps1_stops c w.heap.size kb xb yb k w1 M1 hbs H.out.2.2.2.2.2.1 _ (by omega))
    (fun h h' => h.trans h') (fun W l o o' _ hl ho _ => KpF.putObj hl ho o') (Below.refl _ _) (fun _ => rfl)
    (fun pre W => ((∃ a : Mp, W.heap[ob]? = some (.cells (mpA a) 90 (0, 0)) ∧ ((∀ m ∈ pre, Gm m) → pre.length ≤ 600 → a = pre.foldl join1 id1)) ∧ W.heap[rb]? = some (.cells #[.int .i64 0, .int .i64 0, .int .i64 0] 90 (0, 0))) ∧ Below w.heap.size w W)
    (fun _ _ _ => False)
    (OwnFrom.and (OwnFrom.and (Go.Own.from (own_some ob _) _) (Go.Own.from (own_cells rb (fun _ : List Mp => .cells #[.int .i64 0, .int .i64 0, .int .i64 0] 90 (0, 0)) (fun _ => rfl)) _)) (ownFrom_below (Nat.le_refl _) hbs))
    (fun _ _ _ _ _ hs _ _ => hs)
    ⟨⟨⟨id1, ho1, fun _ _ => rfl⟩, hr1⟩, hbw⟩
    (fun x a' W => ∃ Bx, w.heap.size ≤ Bx ∧ W.heap[Bx]? = some (.cells (mpA x) 90 (0, 0)) ∧
      a' = { tmps := #[.pointer (some ⟨c.wb, 0, none⟩), .int .i64 k, undef, undef, .pointer (some ⟨rb, 0, none⟩), .pointer (some ⟨ob, 0, none⟩), .pointer (some ⟨Bx, 0, none⟩), .agg #[.int .i64 0, .int .i64 0, .int .i64 1000000000], .pointer (some ⟨c.wb, 0, none⟩), .int .i64 k, .func (.func 97) #[] #[.pointer (some ⟨kb, 0, none⟩), .pointer (some ⟨xb, 0, none⟩), .pointer (some ⟨yb, 0, none⟩)], mpV x, undef, undef, undef, undef, undef], defers := [] })
    (fun x a' s X Y row hs hg hrow => by
      obtain ⟨Bx, h1, h2, h3⟩ := hs;refine ⟨Bx, h1, (hg.block Bx (hL_ h2) (fun e => ?_)).trans h2, h3⟩;obtain ⟨_, o, ho, hc⟩ := hrow Bx e.symm;rw [h2] at ho; cases ho; cases hc)
    ?assign ?body ?done ?stop
  case assign =>
    rintro l pre x W K ⟨⟨⟨m0, ho, hG⟩, hr⟩, hB⟩ hK;simp only [mpV]
    gi_wp2
    exact hK _ _ ((KeepsOthers.alloc _ _).from _) (KpF.alloc _ _) ⟨⟨⟨m0, hA_ ho _, hG⟩, hA_ hr _⟩, hB.alloc hB.size _⟩ ⟨W.heap.size, hsz W hB, heap_alloc_new W _, rfl⟩
  case body =>
    rintro l pre x a' W hlw ⟨r, hr'⟩ ⟨⟨⟨m0, ho, hG⟩, hr⟩, hB⟩ ⟨Bx, hBx, bX, rfl⟩ hlt;have o0 := (cOH ho 0).trans rfl;have o1 := (cOH ho 1).trans rfl;have o2 := (cOH ho 2).trans rfl;have x0 := (cOH bX 0).trans rfl;have x1 := (cOH bX 1).trans rfl;have x2 := (cOH bX 2).trans rfl;have zo := hL_ ho;have zx := hL_ bX;have hA := Lib.hid (And.intro ho (And.intro hG (And.intro hr (And.intro hB bX))));have kj := join_all m0 x W.heap.size 0 1 (W.alloc (.cells (mpA x) 90)) (by simp) ((cOH (heap_alloc_new W (.cells (mpA x) 90)) 0).trans rfl) ((cOH (heap_alloc_new W (.cells (mpA x) 90)) 1).trans rfl) ((cOH (heap_alloc_new W (.cells (mpA x) 90)) 2).trans rfl);have HJ := Lib.hid kj;clear ho hG hr hB bX kj
    gi_wp2_with (refine ⟨trivial, ?_⟩; gi_at_call 82; refine (CallsIn.inRound l (callsIn_wide.2 HJ.out)).mono ?_; rintro e w2 ⟨y, hy, rfl, b2⟩; have ho2 := (b2.block ob (by simp; omega)).trans (hA_ hA.out.1 _); have p0 := fOH ho2 0; have p1 := fOH ho2 1; have p2 := fOH ho2 2; have zo2 := hL_ ho2; have c0 := (cOH ho2 0).trans rfl; have c1 := (cOH ho2 1).trans rfl; have c2 := (cOH ho2 2).trans rfl; have HB2 := Lib.hid (And.intro b2 (And.intro ho2 hy)); clear b2 ho2 hy)
    obtain ⟨b2, ho2, hy⟩ := HB2.out;obtain ⟨ho, hG, hr, hB, bX⟩ := hA.out;have bW : Below W.heap.size W w2 := ((Below.refl _ _).alloc (Nat.le_refl _) _).trans (b2.mono (by simp));have hr2 := (bW.block rb (hL_ hr)).trans hr;refine ⟨?_, ?_, ⟨⟨y, st3_heap' ho2 _ _ _, fun h1 h2 => ?_⟩, ?_⟩, ?_⟩
    · exact (((KeepsOthers.mk bW.size fun i o hi _ => (bW.block i (hL_ hi)).trans hi).trans (KeepsOthers.setCell _ _ _)).trans ((KeepsOthers.setCell _ _ _).trans (KeepsOthers.setCell _ _ _))).from _
    · refine ⟨by simpa using bW.size, fun i o hi hc hf => ?_⟩;have hio : i ≠ ob := fun e => hf (by subst e; rw [ho] at hi; cases hi; exact ⟨hge.2.1, _, _, rfl⟩);exact hSN (hSN (hSN ((bW.block i (hL_ hi)).trans hi) (fun e => hio e) _) (fun e => hio e) _) (fun e => hio e) _
    · rw [List.foldl_append];have hpre : ∀ m ∈ pre, Gm m := fun m hm => h1 m (by simp [hm]);have hl : pre.length ≤ 600 := by simp at h2; omega
      have e := hG hpre hl;rw [hy ?_ (gm_far (h1 x (by simp))), e]; rfl;rw [e];exact jm_far (fold_jm hpre id_jm (by omega)) (by omega)
    · exact hSN (hSN (hSN hr2 (by simp; omega) _) (by simp; omega) _) (by simp; omega) _
    · exact (((hB.trans (bW.mono hB.size)).setCell hge.2.1 _).setCell hge.2.1 _).setCell hge.2.1 _
  case done =>
    rintro D ys W hD2 rfl ⟨⟨⟨m0, ho, hG⟩, hr⟩, hB⟩ hK;have e := hG (mapsS_gm H.out.2.2.2.2.2.1 (by omega) (by omega)) (by have := mapsS_length H.out.2.2.2.2.2.1 (k : Int); omega);have o0 := (cOH ho 0).trans rfl;have o1 := (cOH ho 1).trans rfl;have o2 := (cOH ho 2).trans rfl;have r0 := (cOH hr 0).trans rfl;have r1 := (cOH hr 1).trans rfl;have r2 := (cOH hr 2).trans rfl;have p0 := fOH hr 0;have p1 := fOH hr 1;have p2 := fOH hr 2;have zo := hL_ ho;have zr := hL_ hr;have hA := Lib.hid (And.intro ho (And.intro e (And.intro hr (And.intro hB hK))));clear ho hG hr hB hK e
    gi_wp2
    obtain ⟨ho, e, hr, hB, hK⟩ := hA.out;have hrD : D ≠ rb := fun q => by subst q; rw [hr] at hK; cases hK
    have hK2 : ((((W.setCell ⟨rb, 0, none⟩ (.int .i64 m0.add)).setCell ⟨rb, 1, none⟩ (.int .i64 m0.floor)).setCell ⟨rb, 2, none⟩ (.int .i64 m0.most)).heap[D]?) = some (.deferred (some [])) :=
      hSN (hSN (hSN hK (fun q => hrD q) _) (fun q => hrD q) _) (fun q => hrD q) _
    refine ⟨by simp, .inl ⟨_, _, rfl, run_takeDeferred hK2, ?_⟩⟩;refine ⟨_, mp_results (r := 4) rfl (W := _) (b := rb) (m := m0) ((World.putObj_heap_other (fun q => hrD q.symm)).trans (st3_heap' hr _ _ _)) _ rfl, ?_, ?_⟩
    · rw [e]; rfl
    · exact (((hB.setCell hge.1 _).setCell hge.1 _).setCell hge.1 _).trans (belowK_b (w := w) (Nat.le_refl _) _ D _ _ (by omega) hK2 rfl rfl)
  case stop =>
    rintro D c pre W _ _ h _;exact h.elim
end Go.Proofs.YtalcinepeofmcaaGreat
namespace Go.Proofs.YtalcinepeofmcaaGreat
open Go Go.RowKit Sp Pt
theorem wce_new {W : World} {pb lb D : Nat} {Ac Ab Al As : Option Addr} {cc cb cl cs : Nat} {p : Prt} {l : Pln}
    (hp : W.heap[pb]? = some (.cells (prtV Ac cc Ab cb p) 25 (0, 0))) (hl : W.heap[lb]? = some (.cells (plnV Al cl As cs l) 35 (0, 0)))
    (PB : PrtB D W Ac cc Ab cb p) (LB : PlnB D W Al cl As cs l) (hD : D ≤ W.heap.size) (wb : Nat) (hwb : wb = W.heap.size) :
    WcE ⟨wb, pb, lb, 0, 0, 0, 0, D, Ac, Ab, Al, As, cc, cb, cl, cs, p, l⟩ (W.alloc (.cells #[.pointer (some ⟨pb, 0, none⟩), .pointer (some ⟨lb, 0, none⟩), .slice none 0 0, .slice none 0 0] 135)) (.slice none 0 0) (.slice none 0 0) := by
  have b : Below D W (W.alloc (.cells #[.pointer (some ⟨pb, 0, none⟩), .pointer (some ⟨lb, 0, none⟩), .slice none 0 0, .slice none 0 0] 135)) := (Below.refl _ _).alloc hD _;subst hwb;exact ⟨heap_alloc_new W _, hA_ hp _, hA_ hl _, PB.below b, LB.below b, by simp; omega⟩
theorem boxes2 {D : Nat} {Ac : Option Addr} {cc : Nat} {Ab : Option Addr} {cb : Nat} {p : Prt} {Al : Option Addr} {cl : Nat} {As : Option Addr} {cs : Nat} {l : Pln} {w W : World} {pb lb : Nat}
    (PB : PrtB D w Ac cc Ab cb p) (LB : PlnB D w Al cl As cs l) (hD : D ≤ w.heap.size) (hW : W = (w.alloc (.cells (prtV Ac cc Ab cb p) 25)).alloc (.cells (plnV Al cl As cs l) 35)) (hpb : pb = w.heap.size) (hlb : lb = w.heap.size + 1) :
    Below w.heap.size w W ∧ W.heap[pb]? = some (.cells (prtV Ac cc Ab cb p) 25 (0, 0)) ∧ W.heap[lb]? = some (.cells (plnV Al cl As cs l) 35 (0, 0)) ∧
    Calls Tryz.prog 56 #[.agg (prtV Ac cc Ab cb p), .agg (plnV Al cl As cs l)] W (fun e w' => e = .returned (.int .i64 (checkL p l)) ∧ Below W.heap.size W w') ∧ PrtB D W Ac cc Ab cb p ∧ PlnB D W Al cl As cs l := by
  have b0 : Below w.heap.size w W := by rw [hW]; exact ((Below.refl _ _).alloc (Nat.le_refl _) _).alloc (by simp) _
  refine ⟨b0, by rw [hW, hpb]; exact hA_ (heap_alloc_new _ _) _, ?_, CheckPlan_any D Ac cc Ab cb p Al cl As cs l W (PB.below (b0.mono hD)) (LB.below (b0.mono hD)) (by have := b0.size; omega), PB.below (b0.mono hD), LB.below (b0.mono hD)⟩;rw [hW, hlb];have := heap_alloc_new (w.alloc (.cells (prtV Ac cc Ab cb p) 25)) (.cells (plnV Al cl As cs l) 35)
  rwa [World.size_alloc] at this
def foldVal (p : Prt) (l : Pln) (c : Int) : Mp := if foldE p l c = 0 then foldS p l c else ⟨0, 0, 0⟩
theorem Fold_any (D : Nat) (Ac : Option Addr) (cc : Nat) (Ab : Option Addr) (cb : Nat) (p : Prt) (Al : Option Addr) (cl : Nat) (As : Option Addr) (cs : Nat) (l : Pln) (k : Int) (w : World)
    (PB : PrtB D w Ac cc Ab cb p) (LB : PlnB D w Al cl As cs l) (hD : D ≤ w.heap.size) :
    Calls Tryz.prog 29 #[.agg (prtV Ac cc Ab cb p), .agg (plnV Al cl As cs l), .int .i64 k] w
      fun e w' => e = .returned (.tuple #[mpV (foldVal p l k), .int .i64 (foldE p l k)]) ∧ Below w.heap.size w w' := by
  obtain ⟨W0, hW0⟩ : ∃ W, W = (w.alloc (.cells (prtV Ac cc Ab cb p) 25)).alloc (.cells (plnV Al cl As cs l) 35) := ⟨_, rfl⟩;obtain ⟨pb, hpb⟩ : ∃ b, b = w.heap.size := ⟨_, rfl⟩;obtain ⟨lb, hlb⟩ : ∃ b, b = w.heap.size + 1 := ⟨_, rfl⟩;obtain ⟨b0, hp, hl, _, PB1, LB1⟩ := boxes2 PB LB hD hW0 hpb hlb;obtain ⟨W, hW⟩ : ∃ W, W = W0.alloc (.cells #[.int .i64 0, .int .i64 0, .int .i64 0] 90) := ⟨_, rfl⟩;obtain ⟨rb, hrb⟩ : ∃ b, b = w.heap.size + 1 + 1 := ⟨_, rfl⟩;have hrb' : rb = W0.heap.size := by rw [hrb, hW0]; simp
  have b1 : Below w.heap.size w W := by rw [hW]; exact b0.alloc b0.size _
  replace hp := hA_ hp (.cells #[.int .i64 0, .int .i64 0, .int .i64 0] 90)
  replace hl := hA_ hl (.cells #[.int .i64 0, .int .i64 0, .int .i64 0] 90)
  have hr : W.heap[rb]? = some (.cells #[.int .i64 0, .int .i64 0, .int .i64 0] 90 (0, 0)) := by rw [hW, hrb']; exact heap_alloc_new _ _
  rw [← hW] at hp hl
  replace PB1 := PB.below (b1.mono hD)
  replace LB1 := LB.below (b1.mono hD)
  have hD1 : D ≤ W.heap.size := by have := b1.size; omega
  have kck := CheckPlan_any D Ac cc Ab cb p Al cl As cs l W PB1 LB1 hD1;obtain ⟨er, her⟩ : ∃ er, er = checkL p l := ⟨_, rfl⟩;rw [← her] at kck;have c0 : W.cell? ⟨pb, 0, none⟩ = some (.slice Ac p.chs.length cc) := (cOH hp 0).trans rfl;have c1 : W.cell? ⟨pb, 1, none⟩ = some (.slice Ab p.bts.length cb) := (cOH hp 1).trans rfl;have c2 : W.cell? ⟨pb, 2, none⟩ = some (.int .i64 p.tugs) := (cOH hp 2).trans rfl;have c3 : W.cell? ⟨lb, 0, none⟩ = some (.int .i64 l.hours) := (cOH hl 0).trans rfl;have c4 : W.cell? ⟨lb, 1, none⟩ = some (.slice Al l.calls.length cl) := (cOH hl 1).trans rfl;have c5 : W.cell? ⟨lb, 2, none⟩ = some (.slice As l.swps.length cs) := (cOH hl 2).trans rfl;have zp := hL_ hp;have zl := hL_ hl;have hrw : w.heap.size ≤ rb := by omega
  have hne : pb ≠ rb ∧ lb ≠ rb := by omega
  have H := Lib.hid (And.intro b1 (And.intro hp (And.intro hl (And.intro hr (And.intro PB1 (And.intro LB1 (And.intro her kck)))))));clear b0 b1 hp hl hr PB LB PB1 LB1 kck her
  go_enter Tryz.func29, Tryz.ntmps29
  go_upto_region 1 with fail
  rw [← hW0, ← hW, ← hrb, ← hlb, ← hpb];clear hW hlb hpb hrb hrb' hW0;by_cases h0 : er = 0
  · subst h0;go_upto_region 4 with (go_at_call 56; refine H.out.2.2.2.2.2.2.2.mono ?_; rintro e w1 ⟨rfl, b1⟩; have B1 := Lib.hid b1; clear b1)
    have hck : checkL p l = 0 := H.out.2.2.2.2.2.2.1.symm;have v := val_of hck;have bw1 : Below w.heap.size w w1 := H.out.1.trans (B1.out.mono H.out.1.size);have hp1 := (B1.out.block _ (hL_ H.out.2.1)).trans H.out.2.1;have hl1 := (B1.out.block _ (hL_ H.out.2.2.1)).trans H.out.2.2.1;have hr1 := (B1.out.block _ (hL_ H.out.2.2.2.1)).trans H.out.2.2.2.1;have hD2 : D ≤ w1.heap.size := by have := bw1.size; omega
    have PB2 := H.out.2.2.2.2.1.below (B1.out.mono hD1);have LB2 := H.out.2.2.2.2.2.1.below (B1.out.mono hD1);have E := wce_new hp1 hl1 PB2 LB2 hD2 w1.heap.size rfl;have zp1 := hL_ hp1;have zl1 := hL_ hl1;have hn := v.nc;clear c0 c1 c2 c3 c4 c5 zp zl;have c0 : w1.cell? ⟨pb, 0, none⟩ = some (.slice Ac p.chs.length cc) := (cOH hp1 0).trans rfl;have f0 := fOH hr1 0;have f1 := fOH hr1 1;have f2 := fOH hr1 2;have d0 := (cOH hr1 0).trans rfl;have d1 := (cOH hr1 1).trans rfl;have d2 := (cOH hr1 2).trans rfl;have zr := hL_ hr1;obtain ⟨a, ha⟩ : ∃ a, a = within k 0 ((p.chs.length : Int) - 1) := ⟨_, rfl⟩;have kwi : ∀ wx, Calls Tryz.prog 45 #[.int .i64 k, .int .i64 0, .int .i64 ((p.chs.length : Int) - 1)] wx fun e w' => e = .returned (.bool a) ∧ wx = w' := fun wx => by rw [ha]; exact pWa _ _ _ wx
    have HF := Lib.hid (And.intro bw1 (And.intro hr1 (And.intro ha (And.intro kwi (And.intro E (And.intro v hck))))));clear bw1 hr1 ha kwi E v hp1 hl1 hck PB2 LB2;cases a
    · go_wp2_with (go_at_call 45; refine (HF.out.2.2.2.1 _).mono ?_; rintro e w2 ⟨rfl, rfl⟩)
      have e : foldE p l k = 1 := by unfold foldE; rw [if_neg (by rw [HF.out.2.2.2.2.2.2]; decide), if_pos HF.out.2.2.1.symm]
      refine bodyPost_ret (mp_results2 (r := 6) (s := 7) rfl (b := rb) (m := ⟨0, 0, 0⟩) (st3_heap' HF.out.2.1 _ _ _) _ (.int .i64 1) rfl rfl) rfl ⟨?_, ((HF.out.1.setCell hrw _).setCell hrw _).setCell hrw _⟩;rw [e];unfold foldVal;rw [e]; rfl
    · obtain ⟨hk0, hk1⟩ : 0 ≤ k ∧ k ≤ (p.chs.length : Int) - 1 := Pt.within_iff.1 HF.out.2.2.1.symm;obtain ⟨kn, rfl⟩ := Int.eq_ofNat_of_zero_le hk0;have kf := fold_any (k := kn) ⟨_, _, HF.out.2.2.2.2.1⟩ (by simp only [World.size_alloc]; omega) HF.out.2.2.2.2.2.1 (by simp only; omega);dsimp only at kf;have HG := Lib.hid kf;clear kf;go_wp2_with (first | (go_at_call 45; refine (HF.out.2.2.2.1 _).mono ?_; rintro e w2 ⟨rfl, rfl⟩) | (go_at_call 57; refine HG.out.mono ?_; rintro e w2 ⟨rfl, b2⟩; have hr2 := (b2.block rb (by simp; omega)).trans (hA_ HF.out.2.1 _); have g0 := fOH hr2 0; have g1 := fOH hr2 1; have g2 := fOH hr2 2; have zr2 := hL_ hr2; have d0 := (cOH hr2 0).trans rfl; have d1 := (cOH hr2 1).trans rfl; have d2 := (cOH hr2 2).trans rfl; have HB := Lib.hid (And.intro b2 hr2); clear b2 hr2))
      have e : foldE p l (kn : Int) = 0 := by unfold foldE; rw [if_neg (by rw [HF.out.2.2.2.2.2.2]; decide), if_neg (by rw [← HF.out.2.2.1]; decide)]
      have b3 := HF.out.1.trans (((Below.refl _ _).alloc HF.out.1.size _).trans (HB.out.1.mono (by have := HF.out.1.size; simp; omega)));refine bodyPost_ret (mp_results2 (r := 6) (s := 7) rfl (b := rb) (m := foldS p l kn) (st3_heap' HB.out.2 _ _ _) _ (.int .i64 0) rfl rfl) rfl ⟨?_, ((b3.setCell hrw _).setCell hrw _).setCell hrw _⟩;rw [e];unfold foldVal;rw [e]; rfl
  · have hnb : (er != 0) = true := by simp [h0]
    have HC := Lib.hid h0;clear h0;go_wp2_with (go_at_call 56; refine H.out.2.2.2.2.2.2.2.mono ?_; rintro e w2 ⟨rfl, b2⟩; have hr2 := (b2.block rb (hL_ H.out.2.2.2.1)).trans H.out.2.2.2.1; have g0 := fOH hr2 0; have g1 := fOH hr2 1; have g2 := fOH hr2 2; have zr2 := hL_ hr2; have d0 := (cOH hr2 0).trans rfl; have d1 := (cOH hr2 1).trans rfl; have d2 := (cOH hr2 2).trans rfl; have HB := Lib.hid (And.intro b2 hr2); clear b2 hr2)
    have e : foldE p l k = er := by unfold foldE; rw [← H.out.2.2.2.2.2.2.1, if_pos HC.out]
    have b3 := H.out.1.trans (HB.out.1.mono H.out.1.size);refine bodyPost_ret (mp_results2 (r := 6) (s := 7) rfl (b := rb) (m := ⟨0, 0, 0⟩) (st3_heap' HB.out.2 _ _ _) _ (.int .i64 er) rfl rfl) rfl ⟨?_, ((b3.setCell hrw _).setCell hrw _).setCell hrw _⟩;have e2 : foldVal p l k = ⟨0, 0, 0⟩ := by unfold foldVal; rw [if_neg (by rw [e]; exact HC.out)]
    rw [e, e2]
end Go.Proofs.YtalcinepeofmcaaGreat
namespace Go.Proofs.YtalcinepeofmcaaGreat.Pt
open Sp
def outsN (l : Pln) (b : Int) (j : Nat) : List Bool := ((l.calls.take j).filter fun c => decide (c.berth = b)).map (·.out)
theorem outsN_succ {l : Pln} {b : Int} {j : Nat} (hj : j < l.calls.length) : outsN l b (j + 1) = outsN l b j ++ (if l.calls[j].berth = b then [l.calls[j].out] else []) := by
  unfold outsN;rw [List.take_succ_eq_append_getElem hj, List.filter_append, List.map_append];by_cases q : l.calls[j].berth = b
  · rw [if_pos q, List.filter_cons_of_pos (by simp [q])]; rfl
  · rw [if_neg q, List.filter_cons_of_neg (by simpa using q)]; rfl
theorem outsN_all (l : Pln) (b : Int) : outsN l b l.calls.length = outsOf l b := by unfold outsN outsOf; rw [List.take_length]
theorem outsN_len (l : Pln) (b : Int) (j : Nat) : (outsN l b j).length ≤ l.calls.length := by
  unfold outsN;rw [List.length_map];exact Nat.le_trans (List.length_filter_le _ _) (by rw [List.length_take]; omega)
theorem outsN_prefix (l : Pln) (b : Int) (j : Nat) : outsN l b j <+: outsOf l b := ((List.take_prefix j l.calls).filter _).map _
theorem turnsL_snoc (x : Bool) : ∀ L : List Bool, turnsL (L ++ [x]) = (turnsL L && (decide (L.length = 0) || decide (L.getD (L.length - 1) false ≠ x)))
  | [] => by simp [turnsL]
  | [a] => by simp [turnsL]
  | a :: b :: L => by
    have := turnsL_snoc x (b :: L);simp only [List.cons_append, turnsL] at this ⊢;rw [this];simp [Bool.and_assoc]
theorem turnsL_app {R : List Bool} : ∀ {L : List Bool}, turnsL (L ++ R) = true → turnsL L = true
  | [], _ => rfl
  | [_], _ => rfl
  | a :: b :: L, h => by
    simp only [List.cons_append, turnsL, Bool.and_eq_true] at h ⊢;exact ⟨h.1, turnsL_app (L := b :: L) (by simpa using h.2)⟩
theorem turnsL_prefix {L M : List Bool} (h : L <+: M) (hM : turnsL M = true) : turnsL L = true := by
  obtain ⟨R, rfl⟩ := h;exact turnsL_app hM
theorem turnsN_at {l : Pln} : ∀ {n : Nat}, turnsN l n = true → ∀ b, b < n → turnsB l b = true
  | 0, _, b, hb => absurd hb (by omega)
  | n + 1, h, b, hb => by
    rw [turnsN, Bool.and_eq_true] at h;by_cases e : b = n
    · subst e; exact h.2
    · exact turnsN_at h.1 b (by omega)
theorem turns_no {p : Prt} {l : Pln} {b : Nat} (hb : b < p.bts.length) (h : turnsB l b = false) : turns p l = false := by
  cases q : turns p l with
  | false => rfl
  | true => rw [turnsN_at q b hb] at h; cases h
theorem turns_same {p : Prt} {l : Pln} {b j : Nat} (hb : b < p.bts.length) (hj : j < l.calls.length) (hc : l.calls[j].berth = b) (h0 : 0 < (outsN l b j).length) (hx : (outsN l b j).getD ((outsN l b j).length - 1) false = l.calls[j].out) : turns p l = false := by
  refine turns_no hb ?_;cases q : turnsB l b with
  | false => rfl
  | true =>
    unfold turnsB at q;rw [Bool.and_eq_true] at q;have := turnsL_prefix (outsN_prefix l b (j + 1)) q.1;rw [outsN_succ hj, if_pos hc, turnsL_snoc] at this;simp only [Bool.and_eq_true, Bool.or_eq_true, decide_eq_true_eq] at this;rcases this.2 with h | h
    · omega
    · exact absurd hx h
end Go.Proofs.YtalcinepeofmcaaGreat.Pt
namespace Go.Proofs.YtalcinepeofmcaaGreat
open Go Go.RowKit Sp Pt
theorem turns_any {c : WC} {w : World} (hE : ∃ v u, WcE c w v u) (v : Val c.p c.l) :
    Calls Tryz.prog 58 #[.pointer (some ⟨c.wb, 0, none⟩)] w fun e w' => e = .returned (.bool (turns c.p c.l)) ∧ Below w.heap.size w w' := by
  obtain ⟨i0, hi, hz0, hz1, hz2⟩ := info_parts info_boolP;obtain ⟨v0, u0, E⟩ := hE;obtain ⟨q1, q2, q3, q4, q5, q6, q7, q8, q9, z1, z2, z3⟩ := E.cells;have hnb := v.nb;have hncl := v.nx.1;have HE := Lib.hid (And.intro E (And.intro v E.LB.calls));have hcl := E.LB.c1;clear E v
  go_enter Tryz.func58, Tryz.ntmps58
  go_wp2_with fail
  obtain ⟨W, hW⟩ : ∃ W, W = w := ⟨_, rfl⟩;have HW := Lib.hid hW
  go_loopg [15] (c.p.bts.length) (fun g i wr => ∃ k : Nat, g + k = c.p.bts.length ∧ i = .int .i64 k ∧ turnsN c.l k = true ∧ Keep [] w wr)
  case atStart => exact ⟨0, rfl, rfl, rfl, Keep.refl _ _⟩
  case round =>
    obtain ⟨k, hk, rfl, hok, hK⟩ := hrel;obtain ⟨w2, hw2⟩ : ∃ w2, w2 = wr := ⟨_, rfl⟩;subst hw2;by_cases hlt : k < c.p.bts.length
    · obtain ⟨gb, rfl⟩ : ∃ gb, gb = gk := ⟨_, rfl⟩;have r1 := hK.cell q1 (by simp);have r2 := hK.cell q2 (by simp);have r8 := hK.cell q8 (by simp);have y1 : c.wb < w2.heap.size := by have := hK.size; omega
      have y3 : c.lb < w2.heap.size := by have := hK.size; omega
      have HI := Lib.hid (And.intro hok hK);clear hok hK;go_wp2_with fail
      go_loopg [4, 26] (c.l.calls.length) (fun g o i wi => ∃ (j : Nat) (Ao : Option Addr) (co : Nat) (q : List Nat), g + j = c.l.calls.length ∧ i = .int .i64 j ∧ o = .slice Ao (outsN c.l k j).length co ∧ OwnA wi 4 Ao (outsN c.l k j).length co (bools (outsN c.l k j)) q ∧ (∀ g ∈ q, w2.heap.size ≤ g) ∧ Keep [] w2 wi ∧ turnsL (outsN c.l k j) = true)
      case atStart => exact ⟨0, none, 0, [], rfl, rfl, rfl, OwnA.nil _ _, by simp, Keep.refl _ _, rfl⟩
      case round =>
        obtain ⟨j, Ao, co, q, hj, rfl, rfl, hown, hq, hKi, hT⟩ := hrel;obtain ⟨w3, hw3⟩ : ∃ w3, w3 = wr := ⟨_, rfl⟩;subst hw3;by_cases hlj : j < c.l.calls.length
        · obtain ⟨x, hx⟩ : ∃ x, x = c.l.calls[j] := ⟨_, rfl⟩;have ED : Below w.heap.size w w3 := (HI.out.2.trans hKi (by simp)).below (Nat.le_refl _) (by simp);have hDw := HE.out.1.hD;obtain ⟨b, off, eAl, hbD, hcell⟩ := ((HE.out.2.2).below (ED.mono hDw)).2 (by omega);obtain ⟨g0, g1, g2, g3, g4, g5⟩ := cacs_get hlj;rw [← hx] at g0 g1 g2 g3 g4 g5;have d0 := hcell _ _ g0;have d1 : w3.cell? ⟨b, off + j * 6 + 1, none⟩ = _ := hcell _ _ g1;have d2 : w3.cell? ⟨b, off + j * 6 + 2, none⟩ = _ := hcell _ _ g2;have d3 : w3.cell? ⟨b, off + j * 6 + 3, none⟩ = _ := hcell _ _ g3;have d4 : w3.cell? ⟨b, off + j * 6 + 4, none⟩ = _ := hcell _ _ g4;have d5 : w3.cell? ⟨b, off + j * 6 + 5, none⟩ = _ := hcell _ _ g5;have zb := World.block_lt_of_cell? _ _ d0;obtain ⟨ho, be, ou, dr, mo, tg⟩ := x;simp only at d0 d1 d2 d3 d4 d5;have hS := outsN_succ (b := (k : Int)) hlj;rw [← hx] at hS;simp only at hS;have hSame : be = (k : Int) → 0 < (outsN c.l k j).length → (outsN c.l k j).getD ((outsN c.l k j).length - 1) false = ou → turns c.p c.l = false := fun e1 e2 e3 => turns_same hlt hlj (by rw [← hx]; exact e1) e2 (by rw [← hx]; exact e3);have hlen := outsN_len c.l (k : Int) j;obtain ⟨L, hL⟩ : ∃ L, L = outsN c.l k j := ⟨_, rfl⟩;rw [← hL] at hS hSame hown hT hlen;obtain ⟨n, hn⟩ : ∃ n, n = L.length := ⟨_, rfl⟩;rw [← hL, ← hn];rw [← hn] at hown hSame hlen;obtain ⟨W2, hW2⟩ : ∃ W2, W2 = w3.alloc (.cells #[.int .i64 ho, .int .i64 be, .bool ou, .int .i64 dr, .int .i64 mo, .int .i64 tg] 124) := ⟨_, rfl⟩;obtain ⟨xb, hxb⟩ : ∃ xb, xb = w3.heap.size := ⟨_, rfl⟩;have hxh : W2.heap[xb]? = some (.cells #[.int .i64 ho, .int .i64 be, .bool ou, .int .i64 dr, .int .i64 mo, .int .i64 tg] 124 (0, 0)) := by rw [hW2, hxb]; exact heap_alloc_new _ _
          have x1 : W2.cell? ⟨xb, 1, none⟩ = some (.int .i64 be) := (cOH hxh 1).trans rfl;have x2 : W2.cell? ⟨xb, 2, none⟩ = some (.bool ou) := (cOH hxh 2).trans rfl;have zx := hL_ hxh;have k2 : Keep [] w3 W2 := by rw [hW2]; exact (Keep.refl _ _).alloc _
          have o2 := hown.keepS k2 (by simp);have HJ := Lib.hid (And.intro o2 (And.intro hq (And.intro (hKi.trans k2 (by simp)) (And.intro hT (And.intro hS (And.intro hSame (And.intro hL (And.intro hn hx))))))));clear o2 hq hKi hT hS hSame hL hown hcell g0 g1 g2 g3 g4 g5 hxh ED k2 hx hn;rw [eAl];by_cases hbe : be = (k : Int)
          · subst hbe;by_cases hn0 : 0 < n
            · have hrd := HJ.out.1.rd;obtain ⟨bA, oA, rfl, hbA, hcA⟩ := hrd.2 hn0;obtain ⟨y, hy⟩ : ∃ y, y = L.getD (n - 1) false := ⟨_, rfl⟩;have c0 : W2.cell? ⟨bA, oA + (n - 1), none⟩ = some (.bool y) := by rw [hy]; exact hcA (n - 1) _ (bools_get (by rw [← HJ.out.2.2.2.2.2.2.2.1]; omega))
              have hcap : n ≤ co := by rcases HJ.out.1.2 with ⟨_, h0, _⟩ | ⟨_, _, _, _, _, _, h1, _⟩ <;> omega
              have hy2 := Lib.hid hy;have hz : (((n : Int) - 1 : Int)) = ((n - 1 : Nat) : Int) := by omega
              have hk1 : n - 1 < n := by omega
              clear hcA hrd hy;by_cases hyo : y = ou
              · subst hyo;go_upto_region 9 with fail
                rw [← hW2, ← hxb];clear hW2 hxb d0 d1 d2 d3 d4 d5 zb;rw [hz] at *;go_quiet (fail);go_wp2_with fail
                go_ret;obtain ⟨h1, h2, h3, h4, h5, h6, h7, h8, h9⟩ := HJ.out;exact ⟨by rw [h6 trivial hn0 hy2.out.symm]; rfl, ((HI.out.2.trans h3 (by simp)).drewN _).below (Nat.le_refl _) (by simp)⟩
              · have hyb : (y == ou) = false := by simpa using hyo
                go_upto_region 9 with fail
                rw [← hW2, ← hxb];clear hW2 hxb d0 d1 d2 d3 d4 d5 zb;rw [hz] at *;go_quiet (fail)
                go_wp2_with (at_builtin
                             refine wpList_append_A rfl (.tmp 48) (.tmp 51) 37 rfl i0 _ 1 Tryz.underlying37 hi hz0 hz1 hz2 rfl (A := some ⟨bA, oA, none⟩) (n := n) (c := co) (xs := bools L) (fp := q) (by simp [Act.eval]) _ (by simp [Act.eval]) (.bool ou) (((HJ.out.1.drewN _).alloc _)) (cell_new_one _ _ _) rfl (by omega) (by omega) ?_;intro g off' c' w4 e1 e2 e3 e4;have HQ := Lib.hid (And.intro e1 (And.intro e2 e4));clear e1 e2 e3 e4)
                rw [← eAl];go_roundg (gk - 1);case measure => omega
                case rel =>
                  obtain ⟨h1, h2, h3, h4, h5, h6, h7, h8, h9⟩ := HJ.out;obtain ⟨e1, e2, e4⟩ := HQ.out;rw [if_pos trivial] at h5;have hll : (outsN c.l (k : Int) (j + 1)).length = n + 1 := by rw [h5, List.length_append, ← h8]; rfl
                  refine ⟨j + 1, some ⟨g, off', none⟩, c', [g], by omega, by go_num, by rw [hll], by rw [hll, h5]; simpa [bools] using e1, ?_, ((h3.drewN _).alloc _).trans e4 (fun y hy => .inr (h2 y hy)), ?_⟩
                  · intro y hy;rw [List.mem_singleton.1 hy];rcases e2 with e2 | e2
                    · exact h2 _ e2
                    · have := h3.size; simp at e2; omega
                  · rw [h5, turnsL_snoc, h4, ← h8];rw [← hy2.out];simpa using Or.inr hyo
            · obtain rfl : n = 0 := by omega
              go_upto_region 9 with fail
              rw [← hW2, ← hxb];clear hW2 hxb d0 d1 d2 d3 d4 d5 zb;go_quiet (fail)
              go_wp2_with (at_builtin
                           refine wpList_append_A rfl (.tmp 48) (.tmp 51) 37 rfl i0 _ 1 Tryz.underlying37 hi hz0 hz1 hz2 rfl (A := Ao) (n := 0) (c := co) (xs := bools L) (fp := q) (by simp [Act.eval]) _ (by simp [Act.eval]) (.bool ou) (((HJ.out.1.drewN _).alloc _)) (cell_new_one _ _ _) rfl (by omega) (by omega) ?_;intro g off' c' w4 e1 e2 e3 e4;have HQ := Lib.hid (And.intro e1 (And.intro e2 e4));clear e1 e2 e3 e4)
              rw [← eAl];go_roundg (gk - 1);case measure => omega
              case rel =>
                obtain ⟨h1, h2, h3, h4, h5, h6, h7, h8, h9⟩ := HJ.out;obtain ⟨e1, e2, e4⟩ := HQ.out;rw [if_pos trivial] at h5;have hll : (outsN c.l (k : Int) (j + 1)).length = 0 + 1 := by rw [h5, List.length_append, ← h8]; rfl
                refine ⟨j + 1, some ⟨g, off', none⟩, c', [g], by omega, by go_num, by rw [hll], by rw [hll, h5]; simpa [bools] using e1, ?_, ((h3.drewN _).alloc _).trans e4 (fun y hy => .inr (h2 y hy)), ?_⟩
                · intro y hy;rw [List.mem_singleton.1 hy];rcases e2 with e2 | e2
                  · exact h2 _ e2
                  · have := h3.size; simp at e2; omega
                · rw [h5, turnsL_snoc, h4, ← h8];simp
          · have hbb : (be != (k : Int)) = true := by simp [hbe]
            go_wp2_with fail
            rw [← eAl];go_roundg (gk - 1);case measure => omega
            case rel =>
              obtain ⟨h1, h2, h3, h4, h5, h6, h7, h8, h9⟩ := HJ.out;rw [if_neg hbe, List.append_nil] at h5;rw [← hW2];exact ⟨j + 1, Ao, co, q, by omega, by go_num, by rw [h5, h8], by rw [h5, ← h8]; exact h1, h2, h3, by rw [h5]; exact h4⟩
        · obtain rfl : j = c.l.calls.length := by omega
          rw [outsN_all] at hown hT;obtain ⟨n, hn⟩ : ∃ n, n = (outsOf c.l (k : Int)).length := ⟨_, rfl⟩;have hl := outsN_len c.l (k : Int) c.l.calls.length;rw [outsN_all, ← hn] at hl;rw [outsN_all, ← hn];have hB : turnsB c.l (k : Int) = decide (n % 2 = 0) := by unfold turnsB; rw [hT, hn]; rfl
          have hno : n % 2 = 1 → turns c.p c.l = false := fun h => turns_no hlt (by rw [hB]; exact decide_eq_false (by omega));have HJ := Lib.hid (And.intro hKi (And.intro hB hno));clear hown hq hKi hT hB hno;by_cases ho : n % 2 = 1
          · have e : (((n : Int).tmod 2) == 1) = true := by rw [beq_iff_eq, Int.tmod_eq_emod_of_nonneg (by omega)]; omega
            go_wp2_with fail
            go_ret;exact ⟨by rw [HJ.out.2.2 ho]; rfl, (HI.out.2.trans HJ.out.1 (by simp)).below (Nat.le_refl _) (by simp)⟩
          · have e : (((n : Int).tmod 2) == 1) = false := by rw [beq_eq_false_iff_ne, Int.tmod_eq_emod_of_nonneg (by omega)]; omega
            go_wp2_with fail
            go_roundg (gb - 1);case measure => omega
            case rel => exact ⟨k + 1, by omega, by go_num, by rw [turnsN, HI.out.1, HJ.out.2.1, decide_eq_true (by omega)]; rfl, HI.out.2.trans HJ.out.1 (by simp)⟩
    · obtain rfl : k = c.p.bts.length := by omega
      have HF := Lib.hid (And.intro hok hK);clear hok hK;go_wp2_with fail
      go_ret;exact ⟨by rw [show turns c.p c.l = true from HF.out.1]; rfl, HF.out.2.below (Nat.le_refl _) (by simp)⟩
end Go.Proofs.YtalcinepeofmcaaGreat
namespace Go.Proofs.YtalcinepeofmcaaGreat
open Go Go.RowKit Sp Pt
theorem rounds_any (m : Mp) (w : World) (ha : -1000000000000 ≤ m.add ∧ m.add ≤ 1000000000000) (hf : -1000000000000 ≤ m.floor ∧ m.floor ≤ 1000000000000) (hm : -1000000000000 ≤ m.most ∧ m.most ≤ 1000000000000) :
    Calls Tryz.prog 59 #[mpV m] w fun e w' => e = .returned (.int .i64 (rounds m)) ∧ Below w.heap.size w w' := by
  obtain ⟨ad, fl, mo⟩ := m;simp only at ha hf hm;obtain ⟨W, hW⟩ : ∃ W, W = w.alloc (.cells #[.int .i64 ad, .int .i64 fl, .int .i64 mo] 90) := ⟨_, rfl⟩;obtain ⟨mb, hmb⟩ : ∃ b, b = w.heap.size := ⟨_, rfl⟩;have hh : W.heap[mb]? = some (.cells #[.int .i64 ad, .int .i64 fl, .int .i64 mo] 90 (0, 0)) := by rw [hW, hmb]; exact heap_alloc_new _ _
  have c0 : W.cell? ⟨mb, 0, none⟩ = some (.int .i64 ad) := (cOH hh 0).trans rfl;have c1 : W.cell? ⟨mb, 1, none⟩ = some (.int .i64 fl) := (cOH hh 1).trans rfl;have c2 : W.cell? ⟨mb, 2, none⟩ = some (.int .i64 mo) := (cOH hh 2).trans rfl;have zm := hL_ hh;have b0 : Below w.heap.size w W := by rw [hW]; exact (Below.refl _ _).alloc (Nat.le_refl _) _
  have H := Lib.hid b0;clear hh b0;simp only [mpV]
  go_enter Tryz.func59, Tryz.ntmps59
  go_upto_region 1 with fail
  rw [← hW, ← hmb];clear hW hmb;go_upto_region 2 with fail
  generalize hfi : (if ad < fl then fl else ad) = fi;have hfi' : fi = max ad fl := by rw [← hfi]; simp only [Int.max_def]; split <;> split <;> omega
  have hfb : -1000000000000 ≤ fi ∧ fi ≤ 1000000000000 := by rw [hfi']; omega
  have hR : rounds ⟨ad, fl, mo⟩ = if mo = NL ∨ (ad ≤ 0 ∧ fi ≤ mo) then -1 else if mo < 0 then 0 else if mo < fi then 1 else 2 + (mo - fi).tdiv ad := by rw [hfi']; rfl
  clear hfi hfi';have HR := Lib.hid hR;clear hR;by_cases e1 : mo = 1000000000
  · subst e1;go_wp2_with fail
    go_ret;exact ⟨by rw [HR.out, if_pos (.inl trivial)]; rfl, H.out⟩
  have e1b : (mo == 1000000000) = false := by simpa using e1
  by_cases e2 : ad ≤ 0
  · by_cases e3 : fi ≤ mo
    · go_wp2_with fail
      go_ret;exact ⟨by rw [HR.out, if_pos (.inr ⟨e2, e3⟩)]; rfl, H.out⟩
    · by_cases e4 : mo < 0
      · go_wp2_with fail
        go_ret;exact ⟨by rw [HR.out, if_neg (by simp only [NL]; omega), if_pos e4]; rfl, H.out⟩
      · have e5 : mo < fi := by omega
        go_wp2_with fail
        go_ret;exact ⟨by rw [HR.out, if_neg (by simp only [NL]; omega), if_neg (show ¬ mo < 0 by omega), if_pos e5]; rfl, H.out⟩
  · by_cases e4 : mo < 0
    · go_wp2_with fail
      go_ret;exact ⟨by rw [HR.out, if_neg (by simp only [NL]; omega), if_pos e4]; rfl, H.out⟩
    · by_cases e5 : mo < fi
      · go_wp2_with fail
        go_ret;exact ⟨by rw [HR.out, if_neg (by simp only [NL]; omega), if_neg (show ¬ mo < 0 by omega), if_pos e5]; rfl, H.out⟩
      · have t1 : 0 ≤ (mo - fi).tdiv ad ∧ (mo - fi).tdiv ad ≤ 2000000000000 := by
          rw [Int.tdiv_eq_ediv_of_nonneg (by omega)];exact ⟨Int.ediv_nonneg (by omega) (by omega), Int.le_trans (Int.ediv_le_self _ (by omega)) (by omega)⟩
        have e6 : (ad == 0) = false := by rw [beq_eq_false_iff_ne]; omega
        go_wp2_with fail
        go_ret;exact ⟨by rw [HR.out, if_neg (by simp only [NL]; omega), if_neg (show ¬ mo < 0 by omega), if_neg (show ¬ mo < fi by omega)]; rfl, H.out⟩
end Go.Proofs.YtalcinepeofmcaaGreat
