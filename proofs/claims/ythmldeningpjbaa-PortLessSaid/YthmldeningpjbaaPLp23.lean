import Derived.Test.YthmldeningpjbaaPLp22
import Derived.Test.YthmldeningpjbaaPLp15
import Derived.Test.YthmldeningpjbaaPLp16
import Derived.Test.YthmldeningpjbaaPLp2
set_option linter.unusedVariables false
set_option linter.unusedSimpArgs false
set_option maxRecDepth 100000
set_option maxHeartbeats 40000000
namespace Go.Proofs.Ythmldeningpjbaa
open Go Go.RowKit Go.Lib Sp Pt
theorem Own.boxed {D : Nat} {W0 w w' : World} {L : List It} (h : Own D W0 L w) (k8 k9 : Nat) {ob : Nat} {o o' : Obj} {e : TypeId} {sz : Nat} {A A' : Option Addr} {n n' c c' : Nat} {xs xs' : List Value} {q q' : List Nat} (h8 : L[k8]? = some (.blk ob o)) (h9 : L[k9]? = some (.own e sz A n c xs q)) (hne : k8 ≠ k9)
    (hk : Keep (ob :: q) w w') (hob : w'.heap[ob]? = some o') (how : OwnS w' e sz A' n' c' xs' q') (hq : ∀ x ∈ q', x ∈ q ∨ w.heap.size ≤ x) : Own D W0 ((L.set k8 (.blk ob o')).set k9 (.own e sz A' n' c' xs' q')) w' := by
  have hl8 : k8 < L.length := (List.getElem?_eq_some_iff.1 h8).1;have hl9 : k9 < L.length := (List.getElem?_eq_some_iff.1 h9).1;have hget : ∀ {a : Nat} {j : It}, ((L.set k8 (.blk ob o')).set k9 (.own e sz A' n' c' xs' q'))[a]? = some j → (a = k9 ∧ j = .own e sz A' n' c' xs' q') ∨ (a ≠ k9 ∧ a = k8 ∧ j = .blk ob o') ∨ (a ≠ k9 ∧ a ≠ k8 ∧ L[a]? = some j) := fun {a j} hj => by
    rw [List.getElem?_set] at hj;by_cases e1 : k9 = a
    · rw [if_pos e1, if_pos (by simpa using hl9)] at hj;injection hj with hj
      exact .inl ⟨e1.symm, hj.symm⟩
    · rw [if_neg e1, List.getElem?_set] at hj;by_cases e2 : k8 = a
      · rw [if_pos e2, if_pos hl8] at hj;injection hj with hj
        exact .inr (.inl ⟨fun q => e1 q.symm, e2.symm, hj.symm⟩)
      · rw [if_neg e2] at hj;exact .inr (.inr ⟨fun q => e1 q.symm, fun q => e2 q.symm, hj⟩)
  refine h.updF _ (fun a => a = k8 ∨ a = k9) k9 hk (fun x hx => .inl ?_) (fun a j hj => ?_) (fun a j hj hc => ?_)
  · rcases List.mem_cons.1 hx with rfl | hx
    · exact ⟨k8, _, .inl rfl, h8, by simp [It.fp]⟩
    · exact ⟨k9, _, .inr rfl, h9, hx⟩
  · rcases hget hj with ⟨e1, _⟩ | ⟨_, e1, _⟩ | ⟨_, _, e1⟩
    · exact .inl (.inr e1)
    · exact .inl (.inl e1)
    · exact .inr e1
  · rcases hget hj with ⟨e1, rfl⟩ | ⟨_, e1, rfl⟩ | ⟨e1, e2, e3⟩
    · refine ⟨how, fun x hx => ?_⟩;rcases hq x hx with q1 | q1
      · exact .inl ⟨.own e sz A n c xs q, by rw [e1]; exact h9, q1⟩
      · exact .inr ⟨e1, q1⟩
    · exact ⟨hob, fun x hx => .inl ⟨.blk ob o, by rw [e1]; exact h8, hx⟩⟩
    · rcases hc with q1 | q1
      · exact absurd q1 e2
      · exact absurd q1 e1
def SlotsPost (w : World) (p : Prt) (s : Stt) (l : Pln) (b m t : Int) (e : Ending) (w' : World) : Prop :=
  ∃ A c, e = .returned (.tuple #[.slice A (slotV p s l b m t).length c, .int .i64 (slotE p s l b m t)]) ∧ Rd w' 2 A (slotV p s l b m t).length (spcs (slotV p s l b m t)) ∧ Below w.heap.size w w'
theorem slots_no {w w' : World} {p : Prt} {s : Stt} {l : Pln} {b m t er : Int} (he : slotE p s l b m t = er) (h0 : er ≠ 0) (bb : Below w.heap.size w w') : SlotsPost w p s l b m t (.returned (.tuple #[.slice none 0 0, .int .i64 er])) w' := by
  have e1 : slotV p s l b m t = [] := by unfold slotV; rw [if_neg (by rw [he]; exact h0)]
  exact ⟨none, 0, by rw [e1, he]; rfl, by rw [e1]; exact ⟨rfl, fun h => absurd h (by simp)⟩, bb⟩
def It.flat : It → Bool
  | .nx _ _ => false
  | _ => true
theorem It.flat_holds {D D' : Nat} {w : World} {i : It} (hf : i.flat = true) (h : i.holds D w) : i.holds D' w := by
  cases i <;> first | exact h | cases hf
theorem Own.restart {D : Nat} {W0 w : World} {L : List It} (h : Own D W0 L w) {D' : Nat} (hD : D' ≤ D) (hf : ∀ i ∈ L, i.flat = true) : Own D' w L w :=
  ⟨Below.refl _ _, Nat.le_trans hD h.lo, fun a i hi => ⟨It.flat_holds (hf i (List.mem_of_getElem? hi)) (h.get a hi), fun x hx => Nat.le_trans hD (h.ge a hi hx)⟩, h.dis⟩
theorem own_new (w : World) (e : TypeId) (n : Nat) (xs : List Value) (hl : xs.length = n) (hn : n ≤ 1000000) : OwnS (w.alloc (.cells xs.toArray e)) e 1 (some ⟨w.heap.size, 0, none⟩) n n xs [w.heap.size] :=
  ⟨by omega, .inr ⟨w.heap.size, xs.toArray, rfl, rfl, heap_alloc_new w _, Nat.le_refl _, by omega, by simp [hl], fun j u hu => by rw [List.getElem?_toArray]; exact hu⟩⟩
theorem run_makeI (n : Nat) (hn : n ≤ 1000000) (w : World) :
    (Instr.makeSlice 33 (.int .i64 (n : Int)) (.int .i64 (n : Int))).run Try.prog w = .ok (.slice (some ⟨w.heap.size, 0, none⟩) n n) (w.alloc (.cells (noughts n) 3)) := by
  obtain ⟨i, hi, hz, hsize, hby⟩ := info_parts info_intP;exact run_make_ints 33 i Try.underlying33 hi hz hsize hby n hn w
theorem run_makeB (n : Nat) (hn : n ≤ 1000000) (w : World) :
    (Instr.makeSlice 40 (.int .i64 (n : Int)) (.int .i64 (n : Int))).run Try.prog w = .ok (.slice (some ⟨w.heap.size, 0, none⟩) n n) (w.alloc (.cells (falses n) 4)) := by
  obtain ⟨i, hi, hz, hsize, hby⟩ := info_parts info_boolP;exact run_make_bools (P := Try.prog) 40 4 i Try.underlying40 hi hz hsize hby n (by omega) w
theorem noughts_tab (n : Nat) : noughts n = (ints (tab n (fun _ => 0))).toArray := by
  unfold noughts ints tab
  congr 1
  rw [List.map_map];apply List.ext_getElem (by simp);intro i h1 h2;simp
theorem falses_tab (n : Nat) : falses n = (bools (tab n (fun _ => false))).toArray := by
  unfold falses bools tab
  congr 1
  rw [List.map_map];apply List.ext_getElem (by simp);intro i h1 h2;simp
theorem ints_tab_get {H k : Nat} (f : Nat → Int) (hk : k < H) : (ints (tab H f))[k]? = some (.int .i64 (f k)) := by simp [ints, tab, hk]
theorem bools_tab_get {H k : Nat} (f : Nat → Bool) (hk : k < H) : (bools (tab H f))[k]? = some (.bool (f k)) := by simp [bools, tab, hk]
def Sl17V (W0 : World) (LX_ XB_ GL_ H_ K_ : Nat) (X_ T_ : Int) : Nat → Value → Prop
  | 0, v => v = .slice (some ⟨GL_, 0, none⟩) H_ H_
  | 1, v => v = .pointer (some ⟨XB_, 0, none⟩)
  | 2, v => v = .int .i64 K_
  | 3, v => v = .pointer (some ⟨GL_, K_, none⟩)
  | 4, v => v = .int .i64 X_
  | 5, v => v = .pointer (some ⟨XB_, 5, none⟩)
  | 6, v => v = .int .i64 T_
  | 7, v => v = .int .i64 (X_ - T_)
  | 8, v => v = .pointer (some ⟨GL_, K_, none⟩)
  | _, _ => True
def Sl17W (W0 : World) (LX_ XB_ GL_ H_ K_ : Nat) (X_ T_ : Int) (l : Nat → Bool) (w : World) : Prop := if l 9 then w = (W0.setCell ⟨GL_, K_, none⟩ (.int .i64 (X_ - T_))).drew else w = W0.drew
def Sl18bV (W0 : World) (pb sh xb gs pa H k bn b3 o3 nb cb pl c3 : Nat) (A3 : Option Addr) (y : Bool) : Nat → Value → Prop
  | 0, v => v = .slice (some ⟨gs, 0, none⟩) H H
  | 1, v => v = .pointer (some ⟨xb, 0, none⟩)
  | 2, v => v = .int .i64 k
  | 3, v => v = .slice (some ⟨gs, 0, none⟩) H H
  | 4, v => v = .pointer (some ⟨xb, 0, none⟩)
  | 5, v => v = .int .i64 k
  | 6, v => v = .pointer (some ⟨gs, k, none⟩)
  | 7, v => v = .bool false
  | 8, v => v = .bool false
  | 9, v => v = .pointer (some ⟨pb, 1, none⟩)
  | 10, v => v = .slice (some ⟨b3, o3, none⟩) nb cb
  | 11, v => v = .pointer (some ⟨xb, 1, none⟩)
  | 12, v => v = .int .i64 bn
  | 13, v => v = .pointer (some ⟨b3, o3 + bn * 2, none⟩)
  | 14, v => v = .pointer (some ⟨b3, o3 + bn * 2 + 1, none⟩)
  | 15, v => v = .slice A3 pl c3
  | 16, v => v = .func (.func 109) #[] #[.pointer (some ⟨pa, 0, none⟩)]
  | 17, v => v = .bool y
  | 18, v => v = .bool y
  | 19, v => v = .pointer (some ⟨gs, k, none⟩)
  | _, _ => True
def Sl18bW (W0 : World) (pb sh xb gs pa H k bn b3 o3 nb cb pl c3 : Nat) (A3 : Option Addr) (y : Bool) (l : Nat → Bool) (w : World) : Prop := ∃ n, if l 20 then w = (W0.setCell ⟨gs, k, none⟩ (.bool y)).drewN n else w = W0.drewN n
def Sl18aV (W0 : World) (pb sh xb gs pa H k bn b3 o3 nb cb pl c3 : Nat) (A3 : Option Addr) (y : Bool) : Nat → Value → Prop
  | 0, v => v = .slice (some ⟨gs, 0, none⟩) H H
  | 1, v => v = .pointer (some ⟨xb, 0, none⟩)
  | 2, v => v = .int .i64 k
  | 3, v => v = .slice (some ⟨gs, 0, none⟩) H H
  | 4, v => v = .pointer (some ⟨xb, 0, none⟩)
  | 5, v => v = .int .i64 k
  | 6, v => v = .pointer (some ⟨gs, k, none⟩)
  | 7, v => v = .bool true
  | 8, v => v = .bool true
  | 18, v => v = .bool true
  | 19, v => v = .pointer (some ⟨gs, k, none⟩)
  | _, _ => True
def Sl18aW (W0 : World) (pb sh xb gs pa H k bn b3 o3 nb cb pl c3 : Nat) (A3 : Option Addr) (y : Bool) (l : Nat → Bool) (w : World) : Prop := ∃ n, if l 20 then w = (W0.setCell ⟨gs, k, none⟩ (.bool true)).drewN n else w = W0.drewN n
def Sl23V (W0 : World) (LX_ XB_ GL_ H_ K_ : Nat) (X_ T_ : Int) : Nat → Value → Prop
  | 0, v => v = .slice (some ⟨GL_, 0, none⟩) H_ H_
  | 1, v => v = .pointer (some ⟨XB_, 0, none⟩)
  | 2, v => v = .int .i64 K_
  | 3, v => v = .pointer (some ⟨GL_, K_, none⟩)
  | 4, v => v = .int .i64 X_
  | 5, v => v = .pointer (some ⟨XB_, 2, none⟩)
  | 6, v => v = .int .i64 T_
  | 7, v => v = .int .i64 (X_ - T_)
  | 8, v => v = .pointer (some ⟨GL_, K_, none⟩)
  | _, _ => True
def Sl23W (W0 : World) (LX_ XB_ GL_ H_ K_ : Nat) (X_ T_ : Int) (l : Nat → Bool) (w : World) : Prop := if l 9 then w = (W0.setCell ⟨GL_, K_, none⟩ (.int .i64 (X_ - T_))).drew else w = W0.drew
theorem Slots_any (D : Nat) (Ac : Option Addr) (cc : Nat) (Ab : Option Addr) (cb : Nat) (p : Prt) (Al : Option Addr) (cl : Nat) (As : Option Addr) (cs : Nat) (l : Pln) (Ar : Option Addr) (cr : Nat) (Au : Option Addr) (cu : Nat) (s : Stt) (be mo tg : Int) (w : World)
    (PB : PrtB D w Ac cc Ab cb p) (LB : PlnB D w Al cl As cs l) (SB : SttB D w Ar cr Au cu s) (hD : D ≤ w.heap.size) :
    Calls Try.prog 57 #[.agg (prtV Ac cc Ab cb p), .agg (sttV Ar cr Au cu s), .agg (plnV Al cl As cs l), .int .i64 be, .int .i64 mo, .int .i64 tg] w (SlotsPost w p s l be mo tg) := by
  obtain ⟨W0, hW0⟩ : ∃ W, W = ((w.alloc (.cells (prtV Ac cc Ab cb p) 26)).alloc (.cells (sttV Ar cr Au cu s) 42)).alloc (.cells (plnV Al cl As cs l) 31) := ⟨_, rfl⟩;obtain ⟨W, hW⟩ : ∃ W, W = (W0.alloc (.cells #[.int .i64 mo] 3)).alloc (.cells #[.int .i64 tg] 3) := ⟨_, rfl⟩;obtain ⟨pb, hpb⟩ : ∃ b, b = w.heap.size := ⟨_, rfl⟩;obtain ⟨sb, hsb⟩ : ∃ b, b = w.heap.size + 1 := ⟨_, rfl⟩;obtain ⟨lb, hlb⟩ : ∃ b, b = w.heap.size + 1 + 1 := ⟨_, rfl⟩;obtain ⟨xm, hxm⟩ : ∃ b, b = w.heap.size + 1 + 1 + 1 := ⟨_, rfl⟩;obtain ⟨xt, hxt⟩ : ∃ b, b = w.heap.size + 1 + 1 + 1 + 1 := ⟨_, rfl⟩;obtain ⟨b00, hp0, hs0, hl0, _⟩ := boxes3 PB LB SB hD hW0 hpb hsb hlb;have hz0 : W0.heap.size = w.heap.size + 1 + 1 + 1 := by rw [hW0]; simp
  have b01 : Below W0.heap.size W0 W := by rw [hW]; exact ((Below.refl _ _).alloc (Nat.le_refl _) _).alloc (by simp) _
  have b0 : Below w.heap.size w W := b00.trans (b01.mono b00.size);have hp := (b01.block _ (hL_ hp0)).trans hp0;have hs := (b01.block _ (hL_ hs0)).trans hs0;have hl := (b01.block _ (hL_ hl0)).trans hl0;have hm : W.heap[xm]? = some (.cells #[.int .i64 mo] 3 (0, 0)) := by rw [hW, hxm, ← hz0]; exact hA_ (heap_alloc_new _ _) _
  have ht : W.heap[xt]? = some (.cells #[.int .i64 tg] 3 (0, 0)) := by
    rw [hW, hxt, ← hz0];have := heap_alloc_new (W0.alloc (.cells #[.int .i64 mo] 3)) (.cells #[.int .i64 tg] 3)
    rwa [World.size_alloc] at this
  have PBW := PB.below (b0.mono hD);have LBW := LB.below (b0.mono hD);have hDW : D ≤ W.heap.size := by have := b0.size; omega
  have kst := start_any D Ac cc Ab cb p Al cl As cs l Ar cr Au cu s W PBW LBW (SB.below (b0.mono hD)) hDW;have c0 : W.cell? ⟨pb, 0, none⟩ = some (.slice Ac p.chs.length cc) := (cOH hp 0).trans rfl;have c1 : W.cell? ⟨pb, 1, none⟩ = some (.slice Ab p.bts.length cb) := (cOH hp 1).trans rfl;have c2 : W.cell? ⟨pb, 2, none⟩ = some (.int .i64 p.tugs) := (cOH hp 2).trans rfl;have c3 : W.cell? ⟨lb, 0, none⟩ = some (.int .i64 l.hours) := (cOH hl 0).trans rfl;have c4 : W.cell? ⟨lb, 1, none⟩ = some (.slice Al l.calls.length cl) := (cOH hl 1).trans rfl;have c5 : W.cell? ⟨lb, 2, none⟩ = some (.slice As l.swps.length cs) := (cOH hl 2).trans rfl;have c6 : W.cell? ⟨sb, 0, none⟩ = some (.slice Ar s.brash.length cr) := (cOH hs 0).trans rfl;have c7 : W.cell? ⟨sb, 1, none⟩ = some (.slice Au s.busy.length cu) := (cOH hs 1).trans rfl;have zp := hL_ hp;have zl := hL_ hl;have zs := hL_ hs;have HG := Lib.hid (And.intro b0 (And.intro kst (And.intro PBW (And.intro LBW (And.intro hp (And.intro hl (And.intro hm (And.intro ht hDW))))))));clear b0 b00 b01 hp hs hl hp0 hs0 hl0 hm ht kst PB LB SB hD PBW LBW hz0 hDW
  go_enter Try.func57, Try.ntmps57
  go_upto_region 1 with fail
  rw [← hW0, ← hW, ← hxt, ← hxm, ← hlb, ← hsb, ← hpb];clear hW hW0 hlb hsb hpb hxm hxt;go_wp2_with fail
  refine HG.out.2.1.mono ?_;rintro e w1 ⟨b1, hcase⟩;have bw1 : Below w.heap.size w w1 := HG.out.1.trans (b1.mono HG.out.1.size);clear c0 c1 c2 c3 c4 c5 c6 c7 zp zl zs;rcases hcase with ⟨hne, rfl⟩ | ⟨he, c, hM, hS, rfl⟩
  · obtain ⟨er, her⟩ : ∃ er, er = startE p s l := ⟨_, rfl⟩;rw [← her] at hne ⊢;have hnb : (er != 0) = true := by simpa using hne
    have hv : slotE p s l be mo tg = er := by unfold slotE; rw [if_pos (by rw [← her]; exact hne), her]
    have HF := Lib.hid (And.intro hv (And.intro hne bw1));clear hv bw1 her hne b1;go_wp2_with fail
    go_ret2
    exact slots_no HF.out.1 HF.out.2.1 (HF.out.2.2.alloc HF.out.2.2.size _)
  · obtain ⟨hc, hlen1, hlen2, hbr⟩ := start_bd he;obtain ⟨q1, q2, q3, q4, q5, q6, q7, q8, q9, q10, q11⟩ := hM.eq;subst q1 q2 q3 q4 q5 q6 q7 q8 q9 q10 q11;have v : Val c.p c.l := val_of hc;have hca : ∀ x ∈ c.l.calls, 0 ≤ x.tugs ∧ x.tugs ≤ 20 := fun x hx => by
      obtain ⟨_, _, _, h4, _⟩ := checkL_ok hc;have := (callsE_ok h4).1 x hx;omega
    have hpt : 0 ≤ c.p.tugs ∧ c.p.tugs ≤ 20 := (checkP_ok (checkL_ok hc).1).tg;obtain ⟨H, hH⟩ : ∃ H, H = c.l.hours.toNat := ⟨_, rfl⟩;have hHh : c.l.hours = (H : Int) ∧ 1 ≤ H ∧ H ≤ 100 := by have := v.h; omega
    obtain ⟨b0, kst, PBW, LBW, hp, hl, hm, ht, hDW⟩ := HG.out;have hp1 := (b1.block _ (hL_ hp)).trans hp;have hl1 := (b1.block _ (hL_ hl)).trans hl;have hm1 := (b1.block _ (hL_ hm)).trans hm;have ht1 := (b1.block _ (hL_ ht)).trans ht;have cells : ∀ wy, Below w1.heap.size w1 wy → (wy.cell? ⟨pb, 0, none⟩ = some (.slice c.Ac c.p.chs.length c.cc) ∧ wy.cell? ⟨pb, 1, none⟩ = some (.slice c.Ab c.p.bts.length c.cb) ∧ wy.cell? ⟨pb, 2, none⟩ = some (.int .i64 c.p.tugs) ∧ wy.cell? ⟨lb, 0, none⟩ = some (.int .i64 H) ∧ wy.cell? ⟨lb, 1, none⟩ = some (.slice c.Al c.l.calls.length c.cl) ∧ wy.cell? ⟨lb, 2, none⟩ = some (.slice c.As c.l.swps.length c.cs) ∧
        wy.cell? ⟨xm, 0, none⟩ = some (.int .i64 mo) ∧ wy.cell? ⟨xt, 0, none⟩ = some (.int .i64 tg) ∧ pb < wy.heap.size ∧ lb < wy.heap.size ∧ xm < wy.heap.size ∧ xt < wy.heap.size) := fun wy b => by
      have a1 := (b.block _ (hL_ hp1)).trans hp1;have a2 := (b.block _ (hL_ hl1)).trans hl1;have a3 := (b.block _ (hL_ hm1)).trans hm1;have a4 := (b.block _ (hL_ ht1)).trans ht1;refine ⟨(cOH a1 0).trans rfl, (cOH a1 1).trans rfl, (cOH a1 2).trans rfl, ?_, (cOH a2 1).trans rfl, (cOH a2 2).trans rfl, (cOH a3 0).trans rfl, (cOH a4 0).trans rfl, hL_ a1, hL_ a2, hL_ a3, hL_ a4⟩;rw [← hHh.1]; exact (cOH a2 0).trans rfl
    have PB1 : ∀ wy, Below w1.heap.size w1 wy → PrtB c.D wy c.Ac c.cc c.Ab c.cb c.p := fun wy b => (PBW.below (b1.mono hDW)).below (b.mono (by have := b1.size; omega));have LB1 : ∀ wy, Below w1.heap.size w1 wy → PlnB c.D wy c.Al c.cl c.As c.cs c.l := fun wy b => (LBW.below (b1.mono hDW)).below (b.mono (by have := b1.size; omega));obtain ⟨X1, hX1⟩ : ∃ X, X = w1.alloc (.cells #[.pointer (some ⟨c.wb, 0, none⟩)] 145) := ⟨_, rfl⟩;obtain ⟨wx, hwx⟩ : ∃ b, b = w1.heap.size := ⟨_, rfl⟩;have S1 : Own w1.heap.size w1 [.blk wx (.cells #[.pointer (some ⟨c.wb, 0, none⟩)] 145 (0, 0))] X1 := by rw [hX1, hwx]; exact (Own.start w1).alloc _
    obtain ⟨g0, g1, g2, g3, g4, g5, g6, g7, y0, y1, y2, y3⟩ := cells X1 S1.bel;have HA := Lib.hid (And.intro cells (And.intro PB1 (And.intro LB1 (And.intro bw1 (And.intro hH hHh.1)))));have HM := Lib.hid (And.intro hM.E (And.intro hM.N (And.intro hM.new (And.intro hS (And.intro v (And.intro hbr (And.intro he hca)))))));have HS1 := Lib.hid S1;have HW := Lib.hid (And.intro b1 (And.intro hDW (And.intro hm ht)));have hH1 : 1 ≤ H ∧ H ≤ 100 := hHh.2;have hnb := v.nb;clear b0 kst PBW LBW hp hl hm ht hDW hp1 hl1 hm1 ht1 cells PB1 LB1 bw1 hM hS v hbr he hca S1 b1 hc hlen1 hlen2 hHh hH;go_upto_region 4 with fail
    rw [← hX1, ← hwx];clear hX1 hwx;have hEno : (within be 0 ((c.p.bts.length : Int) - 1) = false ∨ within mo 0 1000000 = false ∨ within tg 0 20 = false) → slotE c.p s c.l be mo tg = 1 := fun h => by
      unfold slotE; rw [if_neg (by rw [HM.out.2.2.2.2.2.2.1]; simp), if_pos h]
    have HE := Lib.hid hEno;have hbX : Below w.heap.size w X1 := HA.out.2.2.2.1.trans (HS1.out.bel.mono HA.out.2.2.2.1.size);have HBX := Lib.hid hbX;clear hEno hbX;cases z1 : within be 0 ((c.p.bts.length : Int) - 1)
    · go_wp2_with (go_at_call 80; refine (pWa _ _ _ _).mono ?_; rintro e w' ⟨rfl, rfl⟩)
      go_ret2
      exact slots_no (HE.out (.inl z1)) (by decide) HBX.out
    · cases z2 : within mo 0 1000000
      · go_wp2_with (go_at_call 80; refine (pWa _ _ _ _).mono ?_; rintro e w' ⟨rfl, rfl⟩)
        go_ret2
        exact slots_no (HE.out (.inr (.inl z2))) (by decide) HBX.out
      · cases z3 : within tg 0 20
        · go_wp2_with (go_at_call 80; refine (pWa _ _ _ _).mono ?_; rintro e w' ⟨rfl, rfl⟩)
          go_ret2
          exact slots_no (HE.out (.inr (.inr z3))) (by decide) HBX.out
        · have hEyes : slotE c.p s c.l be mo tg = (runR c.p c.l s).2 := by
            unfold slotE; rw [if_neg (by rw [HM.out.2.2.2.2.2.2.1]; simp), if_neg (by rw [z1, z2, z3]; simp)]
          obtain ⟨q, hq⟩ : ∃ q : Nat, be = q := ⟨be.toNat, by simp [within] at z1; omega⟩;subst hq;have hqb : q < c.p.bts.length := by simp [within] at z1; omega
          have hqI : (0 : Int) ≤ (q : Int) ∧ (q : Int) < (c.p.bts.length : Int) := by omega
          have htg : 0 ≤ tg ∧ tg ≤ 20 := by simpa [within] using z3
          have HY := Lib.hid hEyes;clear hEyes HE;have mk1 := run_makeI H (by omega) X1;go_upto_region 7 with (go_at_call 80; refine (pWa _ _ _ _).mono ?_; rintro e w' ⟨rfl, rfl⟩)
          clear z1 z2 z3 mk1;obtain ⟨gl, hgl⟩ : ∃ b, b = X1.heap.size := ⟨_, rfl⟩;obtain ⟨lf, hlf⟩ : ∃ b, b = gl + 1 := ⟨_, rfl⟩;obtain ⟨X2, hX2⟩ : ∃ X, X = (X1.alloc (.cells (noughts H) 3)).alloc (.cells #[.slice (some ⟨gl, 0, none⟩) H H] 33) := ⟨_, rfl⟩;rw [← hgl, ← hX2, ← hlf];have S2 : Own w1.heap.size w1 [.blk wx (.cells #[.pointer (some ⟨c.wb, 0, none⟩)] 145 (0, 0)), .own 3 1 (some ⟨gl, 0, none⟩) H H (ints (tab H (fun _ => 0))) [gl], .blk lf (.cells #[.slice (some ⟨gl, 0, none⟩) H H] 33 (0, 0))] X2 := by
            rw [hX2, hlf, hgl];have h1 := HS1.out.new (w' := X1.alloc (.cells (noughts H) 3)) (i := .own 3 1 (some ⟨X1.heap.size, 0, none⟩) H H (ints (tab H (fun _ => 0))) [X1.heap.size]) ((Below.refl _ _).alloc (Nat.le_refl _) _) (by rw [noughts_tab]; exact own_new X1 _ H _ (by simp [ints, tab]) (by omega)) (by simp [It.fp]);have h2 := h1.alloc (.cells #[.slice (some ⟨X1.heap.size, 0, none⟩) H H] 33);rw [World.size_alloc] at h2;exact h2
          have HS2 := Lib.hid S2;clear g0 g1 g2 g3 g4 g5 g6 g7 y0 y1 y2 y3;obtain ⟨g0, g1, g2, g3, g4, g5, g6, g7, y0, y1, y2, y3⟩ := HA.out.1 X2 S2.bel;have mk2 := run_makeB H (by omega) X2;clear S2 hX2 hgl hlf;go_upto_region 8 with fail
          clear mk2;obtain ⟨gs, hgs⟩ : ∃ b, b = X2.heap.size := ⟨_, rfl⟩;obtain ⟨sh, hsh⟩ : ∃ b, b = gs + 1 := ⟨_, rfl⟩;obtain ⟨X3, hX3⟩ : ∃ X, X = (X2.alloc (.cells (falses H) 4)).alloc (.cells #[.slice (some ⟨gs, 0, none⟩) H H] 40) := ⟨_, rfl⟩;rw [← hgs, ← hX3, ← hsh];have S3 : Own w1.heap.size w1 [.blk wx (.cells #[.pointer (some ⟨c.wb, 0, none⟩)] 145 (0, 0)), .own 3 1 (some ⟨gl, 0, none⟩) H H (ints (tab H (fun _ => 0))) [gl], .blk lf (.cells #[.slice (some ⟨gl, 0, none⟩) H H] 33 (0, 0)), .own 4 1 (some ⟨gs, 0, none⟩) H H (bools (tab H (fun _ => false))) [gs], .blk sh (.cells #[.slice (some ⟨gs, 0, none⟩) H H] 40 (0, 0))] X3 := by
            rw [hX3, hsh, hgs];have h1 := HS2.out.new (w' := X2.alloc (.cells (falses H) 4)) (i := .own 4 1 (some ⟨X2.heap.size, 0, none⟩) H H (bools (tab H (fun _ => false))) [X2.heap.size]) ((Below.refl _ _).alloc (Nat.le_refl _) _) (by rw [falses_tab]; exact own_new X2 _ H _ (by simp [bools, tab]) (by omega)) (by simp [It.fp]);have h2 := h1.alloc (.cells #[.slice (some ⟨X2.heap.size, 0, none⟩) H H] 40);rw [World.size_alloc] at h2;exact h2
          have HS3 := Lib.hid S3;clear g0 g1 g2 g3 g4 g5 g6 g7 y0 y1 y2 y3;obtain ⟨g0, g1, g2, g3, g4, g5, g6, g7, y0, y1, y2, y3⟩ := HA.out.1 X3 S3.bel;obtain ⟨b', off', Ak, ck, eB, hbD', e0, e1', hpa⟩ := (HA.out.2.1 w1 (Below.refl _ _)).bts q hqb;have hD1 : c.D ≤ w1.heap.size := HM.out.1.hD;have e1 : X3.cell? ⟨b', off' + q * 2 + 1, none⟩ = some (.slice Ak (c.p.bts[q]).path.length ck) := (S3.bel.cell (p := ⟨b', off' + q * 2 + 1, none⟩) (by simp only; omega)).trans e1';obtain ⟨np, hnp⟩ : ∃ n, n = (c.p.bts[q]).path.length := ⟨_, rfl⟩;rw [← hnp] at e1;have hpq : (bt c.p (q : Int)).path = (c.p.bts[q]).path := by simp [bt, hqb]
          have ze := World.block_lt_of_cell? _ _ e1;simp only at ze;have rpath : ∀ wy, Below w1.heap.size w1 wy → Rd wy 1 Ak np (ints (bt c.p (q : Int)).path) := fun wy b => by
            rw [hpq, hnp]; exact (hpa.below (b.mono hD1)).1.rd (by have := b.size; omega)
          have hpb : 0 < np → ∃ b off, Ak = some ⟨b, off, none⟩ ∧ b < c.D := fun h0 => by
            obtain ⟨b, off, e, hb, _⟩ := hpa.1.2 (by rw [← hnp]; exact h0);exact ⟨b, off, e, hb⟩
          have HP := Lib.hid (And.intro hnp (And.intro hpq (And.intro rpath (And.intro hpb eB))));rw [eB] at g1;clear S3 hX3 hgs hsh hnp hpq hpa eB e0 rpath e1' hpb;go_upto_region 9 with fail
          clear e1 ze;obtain ⟨pa, hpa⟩ : ∃ b, b = X3.heap.size := ⟨_, rfl⟩;obtain ⟨X4, hX4⟩ : ∃ X, X = X3.alloc (.cells #[.slice Ak np ck] 33) := ⟨_, rfl⟩;rw [← hX4, ← hpa];have S4 : Own w1.heap.size w1 [.blk wx (.cells #[.pointer (some ⟨c.wb, 0, none⟩)] 145 (0, 0)), .own 3 1 (some ⟨gl, 0, none⟩) H H (ints (tab H (fun _ => 0))) [gl], .blk lf (.cells #[.slice (some ⟨gl, 0, none⟩) H H] 33 (0, 0)), .own 4 1 (some ⟨gs, 0, none⟩) H H (bools (tab H (fun _ => false))) [gs], .blk sh (.cells #[.slice (some ⟨gs, 0, none⟩) H H] 40 (0, 0)), .blk pa (.cells #[.slice Ak np ck] 33 (0, 0))] X4 := by rw [hX4, hpa]; exact HS3.out.alloc _
          have HS4 := Lib.hid S4;clear g0 g1 g2 g3 g4 g5 g6 g7 y0 y1 y2 y3 S4 hX4 hpa;have lf0 : X4.cell? ⟨lf, 0, none⟩ = some (.slice (some ⟨gl, 0, none⟩) H H) := (cOH (HS4.out.heap 2 rfl) 0).trans rfl;have zlf := hL_ (HS4.out.heap 2 rfl)
          go_upto_block 0 with fail
          clear lf0 zlf
          go_cut [19] from 69 to 77 (fun _ wy => Own w1.heap.size w1 [.blk wx (.cells #[.pointer (some ⟨c.wb, 0, none⟩)] 145 (0, 0)), .own 3 1 (some ⟨gl, 0, none⟩) H H (ints (tab H (fun _ => c.p.tugs))) [gl], .blk lf (.cells #[.slice (some ⟨gl, 0, none⟩) H H] 33 (0, 0)), .own 4 1 (some ⟨gs, 0, none⟩) H H (bools (tab H (fun _ => false))) [gs], .blk sh (.cells #[.slice (some ⟨gs, 0, none⟩) H H] 40 (0, 0)), .blk pa (.cells #[.slice Ak np ck] 33 (0, 0))] wy)
          case first =>
            go_wp2_with fail
            go_loopg [69] H (fun g i wy => ∃ k : Nat, g + k = H ∧ i = .int .i64 k ∧ Own w1.heap.size w1 [.blk wx (.cells #[.pointer (some ⟨c.wb, 0, none⟩)] 145 (0, 0)), .own 3 1 (some ⟨gl, 0, none⟩) H H (ints (tab H (fun i => if i < k then c.p.tugs else 0))) [gl], .blk lf (.cells #[.slice (some ⟨gl, 0, none⟩) H H] 33 (0, 0)), .own 4 1 (some ⟨gs, 0, none⟩) H H (bools (tab H (fun _ => false))) [gs], .blk sh (.cells #[.slice (some ⟨gs, 0, none⟩) H H] 40 (0, 0)), .blk pa (.cells #[.slice Ak np ck] 33 (0, 0))] wy)
            case atStart => exact ⟨0, rfl, rfl, by simpa using HS4.out⟩
            case round =>
              obtain ⟨k, hk, rfl, hO⟩ := hrel;by_cases hlt : k < H
              · obtain ⟨g0, g1, g2, g3, g4, g5, g6, g7, y0, y1, y2, y3⟩ := HA.out.1 wr hO.bel;have lf0 : wr.cell? ⟨lf, 0, none⟩ = some (.slice (some ⟨gl, 0, none⟩) H H) := (cOH (hO.heap 2 rfl) 0).trans rfl;have zlf := hL_ (hO.heap 2 rfl);obtain ⟨_, e9, _, zgl, hcl, hfl⟩ := (hO.owns 1 rfl).some_ (by omega);injection e9 with e9
                injection e9 with e9 _ _
                subst e9;have x0 := hcl k _ (ints_tab_get _ hlt);have f0 := hfl k;have HO := Lib.hid hO;clear hO hcl hfl g0 g1 g3 g4 g5 g6 g7;go_upto_region 13 with fail
                obtain ⟨X, hX⟩ : ∃ X, X = wr.setCell ⟨gl, k, none⟩ (.int .i64 c.p.tugs) := ⟨_, rfl⟩;rw [← hX];have O2 : Own w1.heap.size w1 [.blk wx (.cells #[.pointer (some ⟨c.wb, 0, none⟩)] 145 (0, 0)), .own 3 1 (some ⟨gl, 0, none⟩) H H (ints (tab H (fun i => if i < k + 1 then c.p.tugs else 0))) [gl], .blk lf (.cells #[.slice (some ⟨gl, 0, none⟩) H H] 33 (0, 0)), .own 4 1 (some ⟨gs, 0, none⟩) H H (bools (tab H (fun _ => false))) [gs], .blk sh (.cells #[.slice (some ⟨gs, 0, none⟩) H H] 40 (0, 0)), .blk pa (.cells #[.slice Ak np ck] 33 (0, 0))] X := by
                  have h := HO.out.upd 1 rfl (w' := X) (i' := .own 3 1 (some ⟨gl, 0, none⟩) H H (ints (tab H (fun i => if i < k + 1 then c.p.tugs else 0))) [gl]) (by rw [hX]; exact (Keep.refl _ _).setCell (.inl (by simp [It.fp])) _) (by
                    have h2 := (HO.out.owns 1 rfl).set_ k (.int .i64 c.p.tugs);have e : (ints (tab H (fun i => if i < k then c.p.tugs else 0))).set k (.int .i64 c.p.tugs) = ints (tab H (fun i => if i < k + 1 then c.p.tugs else 0)) := by
                      have e1 : (ints (tab H (fun i => if i < k then c.p.tugs else 0))).set k (.int .i64 c.p.tugs) = ints ((tab H (fun i => if i < k then c.p.tugs else 0)).set k c.p.tugs) := by simp [ints, List.map_set]
                      rw [e1, tab_set hlt]
                      congr 1
                      refine tab_congr fun i hi => ?_;by_cases q1 : i = k
                      · rw [if_pos q1, if_pos (by omega)]
                      · rw [if_neg q1];by_cases q2 : i < k
                        · rw [if_pos q2, if_pos (by omega)]
                        · rw [if_neg q2, if_neg (by omega)]
                    rw [e] at h2;rw [hX]; exact h2) (fun x hx => .inl hx)
                  exact h
                have HO2 := Lib.hid O2;clear O2 hX x0 f0 lf0 zlf zgl g2 y0 y1 y2 y3;go_wp2_with fail
                go_roundg (gk - 1);case measure => omega
                case rel => exact ⟨k + 1, by omega, by go_num, HO2.out⟩
              · obtain rfl : k = H := by omega
                have HO := Lib.hid hO;clear hO;go_wp2_with fail
                go_meet
                have h := HO.out;have e : tab k (fun i => if i < k then c.p.tugs else 0) = tab k (fun _ => c.p.tugs) := tab_congr fun i hi => by rw [if_pos hi]
                rw [e] at h;exact h
          case rest =>
            obtain ⟨X5, rfl, hO5⟩ : ∃ wz, wz = _ ∧ Own w1.heap.size w1 [.blk wx (.cells #[.pointer (some ⟨c.wb, 0, none⟩)] 145 (0, 0)), .own 3 1 (some ⟨gl, 0, none⟩) H H (ints (tab H (fun _ => c.p.tugs))) [gl], .blk lf (.cells #[.slice (some ⟨gl, 0, none⟩) H H] 33 (0, 0)), .own 4 1 (some ⟨gs, 0, none⟩) H H (bools (tab H (fun _ => false))) [gs], .blk sh (.cells #[.slice (some ⟨gs, 0, none⟩) H H] 40 (0, 0)), .blk pa (.cells #[.slice Ak np ck] 33 (0, 0))] wz := ⟨_, rfl, hcut⟩;have hO6 : Own w1.heap.size w1 [.blk wx (.cells #[.pointer (some ⟨c.wb, 0, none⟩)] 145 (0, 0)), .own 3 1 (some ⟨gl, 0, none⟩) H H (ints (tab H (leftC c.p c.l 0))) [gl], .blk lf (.cells #[.slice (some ⟨gl, 0, none⟩) H H] 33 (0, 0)), .own 4 1 (some ⟨gs, 0, none⟩) H H (bools (tab H (shutC c.p (bt c.p (q : Int)).path c.l 0))) [gs], .blk sh (.cells #[.slice (some ⟨gs, 0, none⟩) H H] 40 (0, 0)), .blk pa (.cells #[.slice Ak np ck] 33 (0, 0))] X5 := by
              rw [leftC_zero, shutC_zero]; exact hO5
            have HS5 := Lib.hid hO6;obtain ⟨g0, g1, g2, g3, g4, g5, g6, g7, y0, y1, y2, y3⟩ := HA.out.1 X5 hO5.bel;have hnx := HM.out.2.2.2.2.1.nx;clear hO5 hO6 hcut g0 g1 g2 g3 g5 g6 g7
            go_upto_block 2 with fail
            clear g4 y0 y1 y2 y3
            go_cut [21] from 81 to 114 (fun _ wy => Own w1.heap.size w1 [.blk wx (.cells #[.pointer (some ⟨c.wb, 0, none⟩)] 145 (0, 0)), .own 3 1 (some ⟨gl, 0, none⟩) H H (ints (tab H (leftC c.p c.l c.l.calls.length))) [gl], .blk lf (.cells #[.slice (some ⟨gl, 0, none⟩) H H] 33 (0, 0)), .own 4 1 (some ⟨gs, 0, none⟩) H H (bools (tab H (shutC c.p (bt c.p (q : Int)).path c.l c.l.calls.length))) [gs], .blk sh (.cells #[.slice (some ⟨gs, 0, none⟩) H H] 40 (0, 0)), .blk pa (.cells #[.slice Ak np ck] 33 (0, 0))] wy)
            case first =>
              go_wp2_with fail
              go_loopg [81] c.l.calls.length (fun g i wy => ∃ j : Nat, g + j = c.l.calls.length ∧ i = .int .i64 j ∧ Own w1.heap.size w1 [.blk wx (.cells #[.pointer (some ⟨c.wb, 0, none⟩)] 145 (0, 0)), .own 3 1 (some ⟨gl, 0, none⟩) H H (ints (tab H (leftC c.p c.l j))) [gl], .blk lf (.cells #[.slice (some ⟨gl, 0, none⟩) H H] 33 (0, 0)), .own 4 1 (some ⟨gs, 0, none⟩) H H (bools (tab H (shutC c.p (bt c.p (q : Int)).path c.l j))) [gs], .blk sh (.cells #[.slice (some ⟨gs, 0, none⟩) H H] 40 (0, 0)), .blk pa (.cells #[.slice Ak np ck] 33 (0, 0))] wy)
              case atStart => exact ⟨0, rfl, rfl, HS5.out⟩
              case round =>
                obtain ⟨j, hj, rfl, hO⟩ := hrel;by_cases hlj : j < c.l.calls.length
                · obtain ⟨b2, off2, eL, hbD2, hcell⟩ := (HA.out.2.2.1 wr hO.bel).calls.2 (by omega);obtain ⟨x, hx⟩ : ∃ x, x = c.l.calls[j] := ⟨_, rfl⟩;obtain ⟨r0, r1, r2, r3, r4, r5⟩ := cacs_get hlj;rw [← hx] at r0 r1 r2 r3 r4 r5;have d0 := hcell _ _ r0;have d1 : wr.cell? ⟨b2, off2 + j * 6 + 1, none⟩ = _ := hcell _ _ r1;have d2 : wr.cell? ⟨b2, off2 + j * 6 + 2, none⟩ = _ := hcell _ _ r2;have d3 : wr.cell? ⟨b2, off2 + j * 6 + 3, none⟩ = _ := hcell _ _ r3;have d4 : wr.cell? ⟨b2, off2 + j * 6 + 4, none⟩ = _ := hcell _ _ r4;have d5 : wr.cell? ⟨b2, off2 + j * 6 + 5, none⟩ = _ := hcell _ _ r5;have hxv := HM.out.2.2.2.2.1.ca c.l.calls[j] (List.getElem_mem _);have hxt := HM.out.2.2.2.2.2.2.2 c.l.calls[j] (List.getElem_mem _);rw [← hx] at hxv hxt;have zb := World.block_lt_of_cell? _ _ d0;obtain ⟨ho, bq, ou, dr, ms, tu⟩ := x;simp only at d0 d1 d2 d3 d4 d5 hxv hxt zb;obtain ⟨k, hk⟩ : ∃ k : Nat, ho = k := ⟨ho.toNat, by omega⟩;obtain ⟨bn, hbn⟩ : ∃ k : Nat, bq = k := ⟨bq.toNat, by omega⟩;subst hk hbn;have hkH : k < H := by have := HA.out.2.2.2.2.2; omega
                  have hbn2 : bn < c.p.bts.length := by omega
                  have hbd := callT_bd c.l (k : Int) (L := c.l.calls.take j) (fun x hx => HM.out.2.2.2.2.2.2.2 x (List.mem_of_mem_take hx));have hbl : (c.l.calls.take j).length ≤ 60 := by rw [List.length_take]; omega
                  obtain ⟨xv, hxv'⟩ : ∃ x, x = leftC c.p c.l j k := ⟨_, rfl⟩;have hxb : -1200 ≤ xv ∧ xv ≤ 20 := by rw [hxv']; simp only [leftC]; omega
                  obtain ⟨xb, hxb'⟩ : ∃ b, b = wr.heap.size := ⟨_, rfl⟩;obtain ⟨X, hX⟩ : ∃ X, X = wr.alloc (.cells #[.int .i64 k, .int .i64 bn, .bool ou, .int .i64 dr, .int .i64 ms, .int .i64 tu] 55) := ⟨_, rfl⟩;have OX : Own w1.heap.size w1 ([.blk wx (.cells #[.pointer (some ⟨c.wb, 0, none⟩)] 145 (0, 0)), .own 3 1 (some ⟨gl, 0, none⟩) H H (ints (tab H (leftC c.p c.l j))) [gl], .blk lf (.cells #[.slice (some ⟨gl, 0, none⟩) H H] 33 (0, 0)), .own 4 1 (some ⟨gs, 0, none⟩) H H (bools (tab H (shutC c.p (bt c.p (q : Int)).path c.l j))) [gs], .blk sh (.cells #[.slice (some ⟨gs, 0, none⟩) H H] 40 (0, 0)), .blk pa (.cells #[.slice Ak np ck] 33 (0, 0))] ++ [.blk xb (.cells #[.int .i64 k, .int .i64 bn, .bool ou, .int .i64 dr, .int .i64 ms, .int .i64 tu] 55 (0, 0))]) X := by rw [hX, hxb']; exact hO.alloc _
                  have hxh := OX.heap 6 rfl;have u0 : X.cell? ⟨xb, 0, none⟩ = some (.int .i64 k) := (cOH hxh 0).trans rfl;have u5 : X.cell? ⟨xb, 5, none⟩ = some (.int .i64 tu) := (cOH hxh 5).trans rfl;have zx := hL_ hxh;have lf0 : X.cell? ⟨lf, 0, none⟩ = some (.slice (some ⟨gl, 0, none⟩) H H) := (cOH (OX.heap 2 rfl) 0).trans rfl;have zlf := hL_ (OX.heap 2 rfl);obtain ⟨_, e9, _, zgl, hcl, hfl⟩ := (OX.owns 1 rfl).some_ (by omega);injection e9 with e9
                  injection e9 with e9 _ _
                  subst e9;have x0 : X.cell? ⟨gl, k, none⟩ = some (.int .i64 xv) := by rw [hxv']; exact hcl k _ (ints_tab_get _ hkH)
                  have f0 := hfl k;have hkI : (0 : Int) ≤ (k : Int) ∧ (k : Int) < (H : Int) := by omega
                  have HX := Lib.hid (And.intro OX (And.intro hx (And.intro hxv' eL)));clear OX hx hxv' hO hcell hcl hfl r0 r1 r2 r3 r4 r5 hxh hbd hbl;rw [eL];go_upto_region 17 with fail
                  rw [← hX, ← hxb'];clear hX hxb' d0 d1 d2 d3 d4 d5 zb;refine wRS (σ := Unit) (by kernel_rfl) (by kernel_rfl) (fun _ jx vx _ => Sl17V X lf xb gl H k xv tu jx vx) (fun _ ly wx => Sl17W X lf xb gl H k xv tu ly wx) () ?_ ?_ ?_
                  · exact (by unfold Sl17W; rw [if_neg (by simp)])
                  · simp only [AllFrom, Nat.zero_add, Nat.reduceAdd];refine ⟨?_, ?_, ?_, ?_, ?_, ?_, ?_, ?_, ?_, ?_, trivial⟩
                    · refine sP_ fun sg ly a wr hl hd hW hF => ?_;have et16 := hF.old 16 (by kernel_rfl);simp [Act.eval] at et16;have nL := hF.notYet 0 9 hl (by kernel_rfl);have hW' := hW;unfold Sl17W at hW';rw [if_neg (by simp [nL])] at hW';subst hW';exact ⟨by unfold Sl17W; rw [if_neg (by simp [upd, nL])], _, by go_simp, rfl⟩
                    · refine sP_ fun sg ly a wr hl hd hW hF => ?_;have et21 := hF.old 21 (by kernel_rfl);simp [Act.eval] at et21;exact ⟨by simpa [Sl17W, upd] using hW, .pointer (some ⟨xb, 0, none⟩), by go_simp, rfl⟩
                    · refine sP_ fun sg ly a wr hl hd hW hF => ?_;simp [Region.binds] at hd;have et86 := hF.new 1 86 (by simp [hd]) rfl;simp [Sl17V, Act.eval] at et86;have nL := hF.notYet 2 9 hl (by kernel_rfl);have hW' := hW;unfold Sl17W at hW';rw [if_neg (by simp [nL])] at hW';subst hW';exact ⟨by unfold Sl17W; rw [if_neg (by simp [upd, nL])], _, by go_simp, rfl⟩
                    · refine sP_ fun sg ly a wr hl hd hW hF => ?_;simp [Region.binds] at hd;have et85 := hF.new 0 85 (by simp [hd]) rfl;simp [Sl17V, Act.eval] at et85;have et87 := hF.new 2 87 (by simp [hd]) rfl;simp [Sl17V, Act.eval] at et87;exact ⟨by simpa [Sl17W, upd] using hW, .pointer (some ⟨gl, k, none⟩), by go_simp, rfl⟩
                    · refine sP_ fun sg ly a wr hl hd hW hF => ?_;simp [Region.binds] at hd;have et88 := hF.new 3 88 (by simp [hd]) rfl;simp [Sl17V, Act.eval] at et88;have nL := hF.notYet 4 9 hl (by kernel_rfl);have hW' := hW;unfold Sl17W at hW';rw [if_neg (by simp [nL])] at hW';subst hW';exact ⟨by unfold Sl17W; rw [if_neg (by simp [upd, nL])], _, by go_simp, rfl⟩
                    · refine sP_ fun sg ly a wr hl hd hW hF => ?_;have et21 := hF.old 21 (by kernel_rfl);simp [Act.eval] at et21;exact ⟨by simpa [Sl17W, upd] using hW, .pointer (some ⟨xb, 5, none⟩), by go_simp, rfl⟩
                    · refine sP_ fun sg ly a wr hl hd hW hF => ?_;simp [Region.binds] at hd;have et90 := hF.new 5 90 (by simp [hd]) rfl;simp [Sl17V, Act.eval] at et90;have nL := hF.notYet 6 9 hl (by kernel_rfl);have hW' := hW;unfold Sl17W at hW';rw [if_neg (by simp [nL])] at hW';subst hW';exact ⟨by unfold Sl17W; rw [if_neg (by simp [upd, nL])], _, by go_simp, rfl⟩
                    · refine sP_ fun sg ly a wr hl hd hW hF => ?_;simp [Region.binds] at hd;have et89 := hF.new 4 89 (by simp [hd]) rfl;simp [Sl17V, Act.eval] at et89;have et91 := hF.new 6 91 (by simp [hd]) rfl;simp [Sl17V, Act.eval] at et91;have ew := IntWalk.i64_in (xv - tu) (by omega);exact ⟨by simpa [Sl17W, upd] using hW, .int .i64 (xv - tu), by go_simp, rfl⟩
                    · refine sP_ fun sg ly a wr hl hd hW hF => ?_;simp [Region.binds] at hd;have et85 := hF.new 0 85 (by simp [hd]) rfl;simp [Sl17V, Act.eval] at et85;have et87 := hF.new 2 87 (by simp [hd]) rfl;simp [Sl17V, Act.eval] at et87;exact ⟨by simpa [Sl17W, upd] using hW, .pointer (some ⟨gl, k, none⟩), by go_simp, rfl⟩
                    · refine sS_ rfl fun sg ly a wr hl hd hW hF => ?_;simp [Region.binds] at hd;have et93 := hF.new 8 93 (by simp [hd]) rfl;simp [Sl17V, Act.eval] at et93;have et92 := hF.new 7 92 (by simp [hd]) rfl;simp [Sl17V, Act.eval] at et92;have hW' := hW;unfold Sl17W at hW';rw [if_neg (by simp [hl])] at hW';subst hW';refine ⟨(X.setCell ⟨gl, k, none⟩ (.int .i64 (xv - tu))).drew, (), .skip, by go_simp, .inl rfl, by unfold Sl17W; rw [if_pos (by simp [upd])], fun _ _ _ h => h⟩
                  intro _ a w3 hWW hF;obtain ⟨f3, hf3, rfl⟩ := hF.lit;have hw3 : w3 = (X.setCell ⟨gl, k, none⟩ (.int .i64 (xv - tu))).drew := by
                    have h5 := hWW;unfold Sl17W at h5
                    rwa [if_pos (by simp)] at h5
                  clear hf3 hF hWW;simp only [List.filterMap, List.foldl, List.setIfInBounds_toArray, List.set_cons_succ, List.set_cons_zero];have O3 : Own w1.heap.size w1 ([.blk wx (.cells #[.pointer (some ⟨c.wb, 0, none⟩)] 145 (0, 0)), .own 3 1 (some ⟨gl, 0, none⟩) H H (ints (tab H (leftC c.p c.l (j + 1)))) [gl], .blk lf (.cells #[.slice (some ⟨gl, 0, none⟩) H H] 33 (0, 0)), .own 4 1 (some ⟨gs, 0, none⟩) H H (bools (tab H (shutC c.p (bt c.p (q : Int)).path c.l j))) [gs], .blk sh (.cells #[.slice (some ⟨gs, 0, none⟩) H H] 40 (0, 0)), .blk pa (.cells #[.slice Ak np ck] 33 (0, 0))] ++ [.blk xb (.cells #[.int .i64 k, .int .i64 bn, .bool ou, .int .i64 dr, .int .i64 ms, .int .i64 tu] 55 (0, 0))]) w3 := by
                    have h := (HX.out.1.upd 1 rfl (w' := X.setCell ⟨gl, k, none⟩ (.int .i64 (xv - tu))) (i' := .own 3 1 (some ⟨gl, 0, none⟩) H H (ints (tab H (leftC c.p c.l (j + 1)))) [gl]) ((Keep.refl _ _).setCell (.inl (by simp [It.fp])) _) (by
                      have h2 := (HX.out.1.owns 1 rfl).set_ k (.int .i64 (xv - tu));have e1 : (ints (tab H (leftC c.p c.l j))).set k (.int .i64 (xv - tu)) = ints ((tab H (leftC c.p c.l j)).set k (xv - tu)) := by simp [ints, List.map_set]
                      rw [e1, HX.out.2.2.1, leftC_step hlj hkH (by rw [← HX.out.2.1]) (by rw [← HX.out.2.1])] at h2;rw [HX.out.2.2.1]; exact h2) (fun x hx => .inl hx)).drew
                    rw [hw3]; exact h
                  clear hw3 x0 f0 lf0 zlf zgl u0 u5 zx;have hxh := O3.heap 6 rfl;have u0 : w3.cell? ⟨xb, 0, none⟩ = some (.int .i64 k) := (cOH hxh 0).trans rfl;have u1 : w3.cell? ⟨xb, 1, none⟩ = some (.int .i64 bn) := (cOH hxh 1).trans rfl;have zx := hL_ hxh;have sh0 : w3.cell? ⟨sh, 0, none⟩ = some (.slice (some ⟨gs, 0, none⟩) H H) := (cOH (O3.heap 4 rfl) 0).trans rfl;have zsh := hL_ (O3.heap 4 rfl);obtain ⟨_, e9, _, zgs, hcs, hfs⟩ := (O3.owns 3 rfl).some_ (by omega);injection e9 with e9
                  injection e9 with e9 _ _
                  subst e9;obtain ⟨z, hz⟩ : ∃ z, z = shutC c.p (bt c.p (q : Int)).path c.l j k := ⟨_, rfl⟩;have s0 : w3.cell? ⟨gs, k, none⟩ = some (.bool z) := by rw [hz]; exact hcs k _ (bools_tab_get _ hkH)
                  have sf := hfs k;obtain ⟨g0, g1, g2, g3, g4, g5, g6, g7, y0, y1, y2, y3⟩ := HA.out.1 w3 O3.bel;obtain ⟨b3, o3, A3, c3, eB3, hb3, e0, e1, hpa3⟩ := (HA.out.2.1 w3 O3.bel).bts bn hbn2;have hDw3 : c.D ≤ w3.heap.size := (HA.out.2.1 w3 O3.bel) |> fun _ => by have h1 := HM.out.1.hD; have := O3.bel.size; omega
                  obtain ⟨pl, hpl⟩ : ∃ n, n = (c.p.bts[bn]).path.length := ⟨_, rfl⟩;have hpb3 : (bt c.p (bn : Int)).path = (c.p.bts[bn]).path := by simp [bt, hbn2]
                  have r3 := hpa3.1.rd hDw3;rw [← hpl] at e1 r3;have ze := World.block_lt_of_cell? _ _ e1;simp only at ze;have pac : w3.cell? ⟨pa, 0, none⟩ = some (.slice Ak np ck) := (cOH (O3.heap 5 rfl) 0).trans rfl;have zpa := hL_ (O3.heap 5 rfl);have hpl2 := HM.out.2.2.2.2.1.btf (c.p.bts[bn]) (List.getElem_mem _);have hpl3 := nodup_range_le hpl2.2.1 hpl2.2.2;have hnc := HM.out.2.2.2.2.1.nc;have hnpl := HM.out.2.2.2.2.1.btf (c.p.bts[q]) (List.getElem_mem _);have hnpl3 := nodup_range_le hnpl.2.1 hnpl.2.2;obtain ⟨y, hy⟩ : ∃ y, y = (bt c.p (bn : Int)).path.any (fun x => decide (x ∈ (bt c.p (q : Int)).path)) := ⟨_, rfl⟩;have kcf : ∀ n, Calls Try.prog 20 #[.slice A3 pl c3, .func (.func 109) #[] #[.pointer (some ⟨pa, 0, none⟩)]] (w3.drewN n) fun e w' => e = .returned (.bool y) ∧ ∃ m, w' = (w3.drewN n).drewN m := fun n => by
                    have hb : Below w3.heap.size w3 (w3.drewN n) := ((Keep.refl [] w3).drewN n).below (Nat.le_refl _) (by simp);have h := anyPathSlot_any (fun x => decide (x ∈ (bt c.p (q : Int)).path)) (.pointer (some ⟨pa, 0, none⟩)) A3 c3 (bt c.p (bn : Int)).path (w3.drewN n) (by rw [hpb3, ← hpl]; exact r3.below hb) (by rw [hpb3]; omega) (fun x hx n' => by
                      refine (sl1_any (w := w3.drewN n) (pb := pa) (np := np) (ck := ck) (Ak := Ak) (path := (bt c.p (q : Int)).path) ?_ ?_ ?_ x n')
                      · rw [HP.out.2.1, ← HP.out.1]; exact pac
                      · have h9 := (HP.out.2.2.1 w3 O3.bel).below hb;rw [HP.out.1, ← HP.out.2.1] at h9;exact h9
                      · rw [HP.out.2.1]; omega)
                    rw [← hy, hpb3, ← hpl] at h;exact h
                  have HC3 := Lib.hid kcf;have HO3 := Lib.hid (And.intro O3 (And.intro hz (And.intro hy eB3)));have hbnI : (0 : Int) ≤ (bn : Int) ∧ (bn : Int) < (c.p.bts.length : Int) := by omega
                  rw [eB3] at g1;clear kcf O3 hz hy eB3 hxh hcs hfs e0 hpa3 hpl hpb3 r3 pac hpl2 hpl3 hnpl hnpl3 g0 g2 g3 g4 g5 g6 g7 hb3;cases z
                  · go_upto_region 18 with fail
                    refine wp_region_stepsG (σ := Unit) (by kernel_rfl) (by kernel_rfl) (fun _ jx vx _ => Sl18bV w3 pb sh xb gs pa H k bn b3 o3 c.p.bts.length c.cb pl c3 A3 y jx vx) (fun _ ly wx => Sl18bW w3 pb sh xb gs pa H k bn b3 o3 c.p.bts.length c.cb pl c3 A3 y ly wx) () ?_ ?_ ?_
                    · exact ⟨1, by rw [if_neg (by simp)]; rfl⟩
                    · simp only [AllFrom, Nat.zero_add, Nat.reduceAdd];refine ⟨?_, ?_, ?_, ?_, ?_, ?_, ?_, ?_, ?_, ?_, ?_, ?_, ?_, ?_, ?_, ?_, ?_, ?_, ?_, ?_, ?_, trivial⟩
                      · refine gP_ rfl ?_;refine sP_ fun sg ly a wr hl hd hW hF => ?_;have et17 := hF.old 17 (by kernel_rfl);simp [Act.eval] at et17;have nL := hF.notYet 0 20 hl (by kernel_rfl);have hW' := hW;unfold Sl18bW at hW';obtain ⟨nq, hW'⟩ := hW';rw [if_neg (by simp [nL])] at hW';subst hW';exact ⟨⟨nq, by rw [if_neg (by simp [upd, nL])]⟩, .slice (some ⟨gs, 0, none⟩) H H, by go_simp, rfl⟩
                      · refine gP_ rfl ?_;refine sP_ fun sg ly a wr hl hd hW hF => ?_;have et21 := hF.old 21 (by kernel_rfl);simp [Act.eval] at et21;exact ⟨by simpa [Sl18bW, upd] using hW, .pointer (some ⟨xb, 0, none⟩), by go_simp, rfl⟩
                      · refine gP_ rfl ?_;refine sP_ fun sg ly a wr hl hd hW hF => ?_;simp [Region.binds] at hd;have et95 := hF.new 1 95 (by simp [hd]) rfl;simp [Sl18bV, Act.eval] at et95;have nL := hF.notYet 2 20 hl (by kernel_rfl);have hW' := hW;unfold Sl18bW at hW';obtain ⟨nq, hW'⟩ := hW';rw [if_neg (by simp [nL])] at hW';subst hW';exact ⟨⟨nq, by rw [if_neg (by simp [upd, nL])]⟩, .int .i64 k, by go_simp, rfl⟩
                      · refine gP_ rfl ?_;refine sP_ fun sg ly a wr hl hd hW hF => ?_;have et17 := hF.old 17 (by kernel_rfl);simp [Act.eval] at et17;have nL := hF.notYet 3 20 hl (by kernel_rfl);have hW' := hW;unfold Sl18bW at hW';obtain ⟨nq, hW'⟩ := hW';rw [if_neg (by simp [nL])] at hW';subst hW';exact ⟨⟨nq, by rw [if_neg (by simp [upd, nL])]⟩, .slice (some ⟨gs, 0, none⟩) H H, by go_simp, rfl⟩
                      · refine gP_ rfl ?_;refine sP_ fun sg ly a wr hl hd hW hF => ?_;have et21 := hF.old 21 (by kernel_rfl);simp [Act.eval] at et21;exact ⟨by simpa [Sl18bW, upd] using hW, .pointer (some ⟨xb, 0, none⟩), by go_simp, rfl⟩
                      · refine gP_ rfl ?_;refine sP_ fun sg ly a wr hl hd hW hF => ?_;simp [Region.binds] at hd;have et98 := hF.new 4 98 (by simp [hd]) rfl;simp [Sl18bV, Act.eval] at et98;have nL := hF.notYet 5 20 hl (by kernel_rfl);have hW' := hW;unfold Sl18bW at hW';obtain ⟨nq, hW'⟩ := hW';rw [if_neg (by simp [nL])] at hW';subst hW';exact ⟨⟨nq, by rw [if_neg (by simp [upd, nL])]⟩, .int .i64 k, by go_simp, rfl⟩
                      · refine gP_ rfl ?_;refine sP_ fun sg ly a wr hl hd hW hF => ?_;simp [Region.binds] at hd;have et97 := hF.new 3 97 (by simp [hd]) rfl;simp [Sl18bV, Act.eval] at et97;have et99 := hF.new 5 99 (by simp [hd]) rfl;simp [Sl18bV, Act.eval] at et99;exact ⟨by simpa [Sl18bW, upd] using hW, .pointer (some ⟨gs, k, none⟩), by go_simp, rfl⟩
                      · refine gP_ rfl ?_;refine sP_ fun sg ly a wr hl hd hW hF => ?_;simp [Region.binds] at hd;have et100 := hF.new 6 100 (by simp [hd]) rfl;simp [Sl18bV, Act.eval] at et100;have nL := hF.notYet 7 20 hl (by kernel_rfl);have hW' := hW;unfold Sl18bW at hW';obtain ⟨nq, hW'⟩ := hW';rw [if_neg (by simp [nL])] at hW';subst hW';exact ⟨⟨nq, by rw [if_neg (by simp [upd, nL])]⟩, .bool false, by go_simp, rfl⟩
                      · refine gP_ rfl ?_;refine sP_ fun sg ly a wr hl hd hW hF => ?_;simp [Region.binds] at hd;have et101 := hF.new 7 101 (by simp [hd]) rfl;simp [Sl18bV, Act.eval] at et101;exact ⟨by simpa [Sl18bW, upd] using hW, .bool false, by go_simp, rfl⟩
                      · refine stepG_yes ?_ ?_;rotate_left
                        · intro sg ly a wr hd hF;simp [Region.binds] at hd;exact wQ_ hF (g := 8) (d := 102) (z := false) (b := false) rfl rfl (by simp [hd]) (fun v hv => hv)
                        refine sP_ fun sg ly a wr hl hd hW hF => ?_;have et6 := hF.old 6 (by kernel_rfl);simp [Act.eval] at et6;exact ⟨by simpa [Sl18bW, upd] using hW, .pointer (some ⟨pb, 1, none⟩), by go_simp, rfl⟩
                      · refine stepG_yes ?_ ?_;rotate_left
                        · intro sg ly a wr hd hF;simp [Region.binds] at hd;exact wQ_ hF (g := 8) (d := 102) (z := false) (b := false) rfl rfl (by simp [hd]) (fun v hv => hv)
                        refine sP_ fun sg ly a wr hl hd hW hF => ?_;simp [Region.binds] at hd;have et103 := hF.new 9 103 (by simp [hd]) rfl;simp [Sl18bV, Act.eval] at et103;have nL := hF.notYet 10 20 hl (by kernel_rfl);have hW' := hW;unfold Sl18bW at hW';obtain ⟨nq, hW'⟩ := hW';rw [if_neg (by simp [nL])] at hW';subst hW';exact ⟨⟨nq, by rw [if_neg (by simp [upd, nL])]⟩, .slice (some ⟨b3, o3, none⟩) c.p.bts.length c.cb, by go_simp, rfl⟩
                      · refine stepG_yes ?_ ?_;rotate_left
                        · intro sg ly a wr hd hF;simp [Region.binds] at hd;exact wQ_ hF (g := 8) (d := 102) (z := false) (b := false) rfl rfl (by simp [hd]) (fun v hv => hv)
                        refine sP_ fun sg ly a wr hl hd hW hF => ?_;have et21 := hF.old 21 (by kernel_rfl);simp [Act.eval] at et21;exact ⟨by simpa [Sl18bW, upd] using hW, .pointer (some ⟨xb, 1, none⟩), by go_simp, rfl⟩
                      · refine stepG_yes ?_ ?_;rotate_left
                        · intro sg ly a wr hd hF;simp [Region.binds] at hd;exact wQ_ hF (g := 8) (d := 102) (z := false) (b := false) rfl rfl (by simp [hd]) (fun v hv => hv)
                        refine sP_ fun sg ly a wr hl hd hW hF => ?_;simp [Region.binds] at hd;have et105 := hF.new 11 105 (by simp [hd]) rfl;simp [Sl18bV, Act.eval] at et105;have nL := hF.notYet 12 20 hl (by kernel_rfl);have hW' := hW;unfold Sl18bW at hW';obtain ⟨nq, hW'⟩ := hW';rw [if_neg (by simp [nL])] at hW';subst hW';exact ⟨⟨nq, by rw [if_neg (by simp [upd, nL])]⟩, .int .i64 bn, by go_simp, rfl⟩
                      · refine stepG_yes ?_ ?_;rotate_left
                        · intro sg ly a wr hd hF;simp [Region.binds] at hd;exact wQ_ hF (g := 8) (d := 102) (z := false) (b := false) rfl rfl (by simp [hd]) (fun v hv => hv)
                        refine sP_ fun sg ly a wr hl hd hW hF => ?_;simp [Region.binds] at hd;have et104 := hF.new 10 104 (by simp [hd]) rfl;simp [Sl18bV, Act.eval] at et104;have et106 := hF.new 12 106 (by simp [hd]) rfl;simp [Sl18bV, Act.eval] at et106;exact ⟨by simpa [Sl18bW, upd] using hW, .pointer (some ⟨b3, o3 + bn * 2, none⟩), by go_simp, rfl⟩
                      · refine stepG_yes ?_ ?_;rotate_left
                        · intro sg ly a wr hd hF;simp [Region.binds] at hd;exact wQ_ hF (g := 8) (d := 102) (z := false) (b := false) rfl rfl (by simp [hd]) (fun v hv => hv)
                        refine sP_ fun sg ly a wr hl hd hW hF => ?_;simp [Region.binds] at hd;have et107 := hF.new 13 107 (by simp [hd]) rfl;simp [Sl18bV, Act.eval] at et107;exact ⟨by simpa [Sl18bW, upd] using hW, .pointer (some ⟨b3, o3 + bn * 2 + 1, none⟩), by go_simp, rfl⟩
                      · refine stepG_yes ?_ ?_;rotate_left
                        · intro sg ly a wr hd hF;simp [Region.binds] at hd;exact wQ_ hF (g := 8) (d := 102) (z := false) (b := false) rfl rfl (by simp [hd]) (fun v hv => hv)
                        refine sP_ fun sg ly a wr hl hd hW hF => ?_;simp [Region.binds] at hd;have et108 := hF.new 14 108 (by simp [hd]) rfl;simp [Sl18bV, Act.eval] at et108;have nL := hF.notYet 15 20 hl (by kernel_rfl);have hW' := hW;unfold Sl18bW at hW';obtain ⟨nq, hW'⟩ := hW';rw [if_neg (by simp [nL])] at hW';subst hW';exact ⟨⟨nq, by rw [if_neg (by simp [upd, nL])]⟩, .slice A3 pl c3, by go_simp, rfl⟩
                      · refine stepG_yes ?_ ?_;rotate_left
                        · intro sg ly a wr hd hF;simp [Region.binds] at hd;exact wQ_ hF (g := 8) (d := 102) (z := false) (b := false) rfl rfl (by simp [hd]) (fun v hv => hv)
                        refine sP_ fun sg ly a wr hl hd hW hF => ?_;have et18 := hF.old 18 (by kernel_rfl);simp [Act.eval] at et18;exact ⟨by simpa [Sl18bW, upd] using hW, .func (.func 109) #[] #[.pointer (some ⟨pa, 0, none⟩)], by go_simp, rfl⟩
                      · refine stepG_yes ?_ ?_;rotate_left
                        · intro sg ly a wr hd hF;simp [Region.binds] at hd;exact wQ_ hF (g := 8) (d := 102) (z := false) (b := false) rfl rfl (by simp [hd]) (fun v hv => hv)
                        refine sC_ fun sg ly a wr hl hd hW hF => ?_;simp [Region.binds] at hd;have et109 := hF.new 15 109 (by simp [hd]) rfl;simp [Sl18bV, Act.eval] at et109;have et110 := hF.new 16 110 (by simp [hd]) rfl;simp [Sl18bV, Act.eval] at et110;have nL := hF.notYet 17 20 hl (by kernel_rfl);have hW' := hW;unfold Sl18bW at hW';obtain ⟨nq, hW'⟩ := hW';rw [if_neg (by simp [nL])] at hW';subst hW';refine ⟨20, #[.slice A3 pl c3, .func (.func 109) #[] #[.pointer (some ⟨pa, 0, none⟩)]], by go_simp, ?_⟩;refine (HC3.out nq).mono ?_;rintro e w2 ⟨rfl, m', rfl⟩;exact ⟨.bool y, (), rfl, ⟨nq + m', by rw [if_neg (by simp [upd, nL])]; simp [World.drewN, Nat.add_assoc]⟩, rfl, fun _ _ _ h => h⟩
                      · refine gP_ rfl ?_;refine sP_ fun sg ly a wr hl hd hW hF => ?_;simp [Region.binds] at hd;have et102 := hF.new 8 102 (by simp [hd]) rfl;simp [Sl18bV, Act.eval] at et102;have et111 := hF.new 17 111 (by simp [hd]) rfl;simp [Sl18bV, Act.eval] at et111;exact ⟨by simpa [Sl18bW, upd] using hW, .bool y, by go_simp, rfl⟩
                      · refine gP_ rfl ?_;refine sP_ fun sg ly a wr hl hd hW hF => ?_;simp [Region.binds] at hd;have et94 := hF.new 0 94 (by simp [hd]) rfl;simp [Sl18bV, Act.eval] at et94;have et96 := hF.new 2 96 (by simp [hd]) rfl;simp [Sl18bV, Act.eval] at et96;exact ⟨by simpa [Sl18bW, upd] using hW, .pointer (some ⟨gs, k, none⟩), by go_simp, rfl⟩
                      · refine gP_ rfl ?_;refine sS_ rfl fun sg ly a wr hl hd hW hF => ?_;simp [Region.binds] at hd;have et113 := hF.new 19 113 (by simp [hd]) rfl;simp [Sl18bV, Act.eval] at et113;have et112 := hF.new 18 112 (by simp [hd]) rfl;simp [Sl18bV, Act.eval] at et112;have hW' := hW;unfold Sl18bW at hW';obtain ⟨nq, hW'⟩ := hW';rw [if_neg (by simp [hl])] at hW';subst hW';refine ⟨(w3.drewN nq).setCell ⟨gs, k, none⟩ (.bool y), (), .skip, by go_simp, .inl rfl, ⟨nq, by rw [if_pos (by simp [upd])]; rfl⟩, fun _ _ _ h => h⟩
                    intro _ a w4 hWW hF;obtain ⟨f4, hf4, rfl⟩ := hF.lit;obtain ⟨nq, hw4⟩ := hWW;rw [if_pos (by simp)] at hw4;have O4 : Own w1.heap.size w1 ([.blk wx (.cells #[.pointer (some ⟨c.wb, 0, none⟩)] 145 (0, 0)), .own 3 1 (some ⟨gl, 0, none⟩) H H (ints (tab H (leftC c.p c.l (j + 1)))) [gl], .blk lf (.cells #[.slice (some ⟨gl, 0, none⟩) H H] 33 (0, 0)), .own 4 1 (some ⟨gs, 0, none⟩) H H (bools (tab H (shutC c.p (bt c.p (q : Int)).path c.l (j + 1)))) [gs], .blk sh (.cells #[.slice (some ⟨gs, 0, none⟩) H H] 40 (0, 0)), .blk pa (.cells #[.slice Ak np ck] 33 (0, 0))] ++ [.blk xb (.cells #[.int .i64 k, .int .i64 bn, .bool ou, .int .i64 dr, .int .i64 ms, .int .i64 tu] 55 (0, 0))]) w4 := by
                      have h := (HO3.out.1.upd 3 rfl (w' := (w3.setCell ⟨gs, k, none⟩ (.bool y)).drewN nq) (i' := .own 4 1 (some ⟨gs, 0, none⟩) H H (bools (tab H (shutC c.p (bt c.p (q : Int)).path c.l (j + 1)))) [gs]) (((Keep.refl _ _).setCell (.inl (by simp [It.fp])) _).drewN nq) (by
                        have h2 := ((HO3.out.1.owns 3 rfl).set_ k (.bool y)).drewN nq;have e1 : (bools (tab H (shutC c.p (bt c.p (q : Int)).path c.l j))).set k (.bool y) = bools ((tab H (shutC c.p (bt c.p (q : Int)).path c.l j)).set k y) := by simp [bools, List.map_set]
                        rw [e1, shutC_step hlj hkH (by rw [← HX.out.2.1]) (by rw [← HX.out.2.1, ← HO3.out.2.1, ← HO3.out.2.2.1]; simp)] at h2;exact h2) (fun x hx => .inl hx))
                      rw [hw4]; exact h
                    have HO4 := Lib.hid O4;clear hw4 O4 hF hf4 s0 sf sh0 zsh zgs u0 u1 zx e1 ze g1 y0 y1 y2 y3 zpa;simp only [List.filterMap, List.foldl, List.setIfInBounds_toArray, List.set_cons_succ, List.set_cons_zero];go_wp2_with fail
                    rw [← HX.out.2.2.2];go_roundg (gk - 1);case measure => omega
                    case rel => exact ⟨j + 1, by omega, by go_num, HO4.out.take 6⟩
                  · go_upto_region 18 with fail
                    refine wp_region_stepsG (σ := Unit) (by kernel_rfl) (by kernel_rfl) (fun _ jx vx _ => Sl18aV w3 pb sh xb gs pa H k bn b3 o3 c.p.bts.length c.cb pl c3 A3 y jx vx) (fun _ ly wx => Sl18aW w3 pb sh xb gs pa H k bn b3 o3 c.p.bts.length c.cb pl c3 A3 y ly wx) () ?_ ?_ ?_
                    · exact ⟨1, by rw [if_neg (by simp)]; rfl⟩
                    · simp only [AllFrom, Nat.zero_add, Nat.reduceAdd];refine ⟨?_, ?_, ?_, ?_, ?_, ?_, ?_, ?_, ?_, ?_, ?_, ?_, ?_, ?_, ?_, ?_, ?_, ?_, ?_, ?_, ?_, trivial⟩
                      · refine gP_ rfl ?_;refine sP_ fun sg ly a wr hl hd hW hF => ?_;have et17 := hF.old 17 (by kernel_rfl);simp [Act.eval] at et17;have nL := hF.notYet 0 20 hl (by kernel_rfl);have hW' := hW;unfold Sl18aW at hW';obtain ⟨nq, hW'⟩ := hW';rw [if_neg (by simp [nL])] at hW';subst hW';exact ⟨⟨nq, by rw [if_neg (by simp [upd, nL])]⟩, .slice (some ⟨gs, 0, none⟩) H H, by go_simp, rfl⟩
                      · refine gP_ rfl ?_;refine sP_ fun sg ly a wr hl hd hW hF => ?_;have et21 := hF.old 21 (by kernel_rfl);simp [Act.eval] at et21;exact ⟨by simpa [Sl18aW, upd] using hW, .pointer (some ⟨xb, 0, none⟩), by go_simp, rfl⟩
                      · refine gP_ rfl ?_;refine sP_ fun sg ly a wr hl hd hW hF => ?_;simp [Region.binds] at hd;have et95 := hF.new 1 95 (by simp [hd]) rfl;simp [Sl18aV, Act.eval] at et95;have nL := hF.notYet 2 20 hl (by kernel_rfl);have hW' := hW;unfold Sl18aW at hW';obtain ⟨nq, hW'⟩ := hW';rw [if_neg (by simp [nL])] at hW';subst hW';exact ⟨⟨nq, by rw [if_neg (by simp [upd, nL])]⟩, .int .i64 k, by go_simp, rfl⟩
                      · refine gP_ rfl ?_;refine sP_ fun sg ly a wr hl hd hW hF => ?_;have et17 := hF.old 17 (by kernel_rfl);simp [Act.eval] at et17;have nL := hF.notYet 3 20 hl (by kernel_rfl);have hW' := hW;unfold Sl18aW at hW';obtain ⟨nq, hW'⟩ := hW';rw [if_neg (by simp [nL])] at hW';subst hW';exact ⟨⟨nq, by rw [if_neg (by simp [upd, nL])]⟩, .slice (some ⟨gs, 0, none⟩) H H, by go_simp, rfl⟩
                      · refine gP_ rfl ?_;refine sP_ fun sg ly a wr hl hd hW hF => ?_;have et21 := hF.old 21 (by kernel_rfl);simp [Act.eval] at et21;exact ⟨by simpa [Sl18aW, upd] using hW, .pointer (some ⟨xb, 0, none⟩), by go_simp, rfl⟩
                      · refine gP_ rfl ?_;refine sP_ fun sg ly a wr hl hd hW hF => ?_;simp [Region.binds] at hd;have et98 := hF.new 4 98 (by simp [hd]) rfl;simp [Sl18aV, Act.eval] at et98;have nL := hF.notYet 5 20 hl (by kernel_rfl);have hW' := hW;unfold Sl18aW at hW';obtain ⟨nq, hW'⟩ := hW';rw [if_neg (by simp [nL])] at hW';subst hW';exact ⟨⟨nq, by rw [if_neg (by simp [upd, nL])]⟩, .int .i64 k, by go_simp, rfl⟩
                      · refine gP_ rfl ?_;refine sP_ fun sg ly a wr hl hd hW hF => ?_;simp [Region.binds] at hd;have et97 := hF.new 3 97 (by simp [hd]) rfl;simp [Sl18aV, Act.eval] at et97;have et99 := hF.new 5 99 (by simp [hd]) rfl;simp [Sl18aV, Act.eval] at et99;exact ⟨by simpa [Sl18aW, upd] using hW, .pointer (some ⟨gs, k, none⟩), by go_simp, rfl⟩
                      · refine gP_ rfl ?_;refine sP_ fun sg ly a wr hl hd hW hF => ?_;simp [Region.binds] at hd;have et100 := hF.new 6 100 (by simp [hd]) rfl;simp [Sl18aV, Act.eval] at et100;have nL := hF.notYet 7 20 hl (by kernel_rfl);have hW' := hW;unfold Sl18aW at hW';obtain ⟨nq, hW'⟩ := hW';rw [if_neg (by simp [nL])] at hW';subst hW';exact ⟨⟨nq, by rw [if_neg (by simp [upd, nL])]⟩, .bool true, by go_simp, rfl⟩
                      · refine gP_ rfl ?_;refine sP_ fun sg ly a wr hl hd hW hF => ?_;simp [Region.binds] at hd;have et101 := hF.new 7 101 (by simp [hd]) rfl;simp [Sl18aV, Act.eval] at et101;exact ⟨by simpa [Sl18aW, upd] using hW, .bool true, by go_simp, rfl⟩
                      · refine stepG_no ?_ ?_;rotate_left
                        · intro sg ly a wr hd hF;simp [Region.binds] at hd;exact wQ_ hF (g := 8) (d := 102) (z := true) (b := false) rfl rfl (by simp [hd]) (fun v hv => hv)
                        exact fun sg ly a wr hl hW => ⟨by simpa [Sl18aW, upd] using hW, trivial⟩
                      · refine stepG_no ?_ ?_;rotate_left
                        · intro sg ly a wr hd hF;simp [Region.binds] at hd;exact wQ_ hF (g := 8) (d := 102) (z := true) (b := false) rfl rfl (by simp [hd]) (fun v hv => hv)
                        exact fun sg ly a wr hl hW => ⟨by simpa [Sl18aW, upd] using hW, trivial⟩
                      · refine stepG_no ?_ ?_;rotate_left
                        · intro sg ly a wr hd hF;simp [Region.binds] at hd;exact wQ_ hF (g := 8) (d := 102) (z := true) (b := false) rfl rfl (by simp [hd]) (fun v hv => hv)
                        exact fun sg ly a wr hl hW => ⟨by simpa [Sl18aW, upd] using hW, trivial⟩
                      · refine stepG_no ?_ ?_;rotate_left
                        · intro sg ly a wr hd hF;simp [Region.binds] at hd;exact wQ_ hF (g := 8) (d := 102) (z := true) (b := false) rfl rfl (by simp [hd]) (fun v hv => hv)
                        exact fun sg ly a wr hl hW => ⟨by simpa [Sl18aW, upd] using hW, trivial⟩
                      · refine stepG_no ?_ ?_;rotate_left
                        · intro sg ly a wr hd hF;simp [Region.binds] at hd;exact wQ_ hF (g := 8) (d := 102) (z := true) (b := false) rfl rfl (by simp [hd]) (fun v hv => hv)
                        exact fun sg ly a wr hl hW => ⟨by simpa [Sl18aW, upd] using hW, trivial⟩
                      · refine stepG_no ?_ ?_;rotate_left
                        · intro sg ly a wr hd hF;simp [Region.binds] at hd;exact wQ_ hF (g := 8) (d := 102) (z := true) (b := false) rfl rfl (by simp [hd]) (fun v hv => hv)
                        exact fun sg ly a wr hl hW => ⟨by simpa [Sl18aW, upd] using hW, trivial⟩
                      · refine stepG_no ?_ ?_;rotate_left
                        · intro sg ly a wr hd hF;simp [Region.binds] at hd;exact wQ_ hF (g := 8) (d := 102) (z := true) (b := false) rfl rfl (by simp [hd]) (fun v hv => hv)
                        exact fun sg ly a wr hl hW => ⟨by simpa [Sl18aW, upd] using hW, trivial⟩
                      · refine stepG_no ?_ ?_;rotate_left
                        · intro sg ly a wr hd hF;simp [Region.binds] at hd;exact wQ_ hF (g := 8) (d := 102) (z := true) (b := false) rfl rfl (by simp [hd]) (fun v hv => hv)
                        exact fun sg ly a wr hl hW => ⟨by simpa [Sl18aW, upd] using hW, trivial⟩
                      · refine stepG_no ?_ ?_;rotate_left
                        · intro sg ly a wr hd hF;simp [Region.binds] at hd;exact wQ_ hF (g := 8) (d := 102) (z := true) (b := false) rfl rfl (by simp [hd]) (fun v hv => hv)
                        exact fun sg ly a wr hl hW => ⟨by simpa [Sl18aW, upd] using hW, trivial⟩
                      · refine gP_ rfl ?_;refine sP_ fun sg ly a wr hl hd hW hF => ?_;simp [Region.binds] at hd;have et102 := hF.new 8 102 (by simp [hd]) rfl;simp [Sl18aV, Act.eval] at et102;exact ⟨by simpa [Sl18aW, upd] using hW, .bool true, by go_simp, rfl⟩
                      · refine gP_ rfl ?_;refine sP_ fun sg ly a wr hl hd hW hF => ?_;simp [Region.binds] at hd;have et94 := hF.new 0 94 (by simp [hd]) rfl;simp [Sl18aV, Act.eval] at et94;have et96 := hF.new 2 96 (by simp [hd]) rfl;simp [Sl18aV, Act.eval] at et96;exact ⟨by simpa [Sl18aW, upd] using hW, .pointer (some ⟨gs, k, none⟩), by go_simp, rfl⟩
                      · refine gP_ rfl ?_;refine sS_ rfl fun sg ly a wr hl hd hW hF => ?_;simp [Region.binds] at hd;have et113 := hF.new 19 113 (by simp [hd]) rfl;simp [Sl18aV, Act.eval] at et113;have et112 := hF.new 18 112 (by simp [hd]) rfl;simp [Sl18aV, Act.eval] at et112;have hW' := hW;unfold Sl18aW at hW';obtain ⟨nq, hW'⟩ := hW';rw [if_neg (by simp [hl])] at hW';subst hW';refine ⟨(w3.drewN nq).setCell ⟨gs, k, none⟩ (.bool true), (), .skip, by go_simp, .inl rfl, ⟨nq, by rw [if_pos (by simp [upd])]; rfl⟩, fun _ _ _ h => h⟩
                    intro _ a w4 hWW hF;obtain ⟨f4, hf4, rfl⟩ := hF.lit;obtain ⟨nq, hw4⟩ := hWW;rw [if_pos (by simp)] at hw4;have O4 : Own w1.heap.size w1 ([.blk wx (.cells #[.pointer (some ⟨c.wb, 0, none⟩)] 145 (0, 0)), .own 3 1 (some ⟨gl, 0, none⟩) H H (ints (tab H (leftC c.p c.l (j + 1)))) [gl], .blk lf (.cells #[.slice (some ⟨gl, 0, none⟩) H H] 33 (0, 0)), .own 4 1 (some ⟨gs, 0, none⟩) H H (bools (tab H (shutC c.p (bt c.p (q : Int)).path c.l (j + 1)))) [gs], .blk sh (.cells #[.slice (some ⟨gs, 0, none⟩) H H] 40 (0, 0)), .blk pa (.cells #[.slice Ak np ck] 33 (0, 0))] ++ [.blk xb (.cells #[.int .i64 k, .int .i64 bn, .bool ou, .int .i64 dr, .int .i64 ms, .int .i64 tu] 55 (0, 0))]) w4 := by
                      have h := (HO3.out.1.upd 3 rfl (w' := (w3.setCell ⟨gs, k, none⟩ (.bool true)).drewN nq) (i' := .own 4 1 (some ⟨gs, 0, none⟩) H H (bools (tab H (shutC c.p (bt c.p (q : Int)).path c.l (j + 1)))) [gs]) (((Keep.refl _ _).setCell (.inl (by simp [It.fp])) _).drewN nq) (by
                        have h2 := ((HO3.out.1.owns 3 rfl).set_ k (.bool true)).drewN nq;have e1 : (bools (tab H (shutC c.p (bt c.p (q : Int)).path c.l j))).set k (.bool true) = bools ((tab H (shutC c.p (bt c.p (q : Int)).path c.l j)).set k true) := by simp [bools, List.map_set]
                        rw [e1, shutC_step hlj hkH (by rw [← HX.out.2.1]) (by rw [← HX.out.2.1, ← HO3.out.2.1]; simp)] at h2;exact h2) (fun x hx => .inl hx))
                      rw [hw4]; exact h
                    have HO4 := Lib.hid O4;clear hw4 O4 hF hf4 s0 sf sh0 zsh zgs u0 u1 zx e1 ze g1 y0 y1 y2 y3 zpa;simp only [List.filterMap, List.foldl, List.setIfInBounds_toArray, List.set_cons_succ, List.set_cons_zero];go_wp2_with fail
                    rw [← HX.out.2.2.2];go_roundg (gk - 1);case measure => omega
                    case rel => exact ⟨j + 1, by omega, by go_num, HO4.out.take 6⟩
                · obtain rfl : j = c.l.calls.length := by omega
                  have HO := Lib.hid hO;clear hO;go_wp2_with fail
                  go_meet
                  exact HO.out
            case rest =>
              obtain ⟨X6, rfl, hO6⟩ : ∃ wz, wz = _ ∧ Own w1.heap.size w1 [.blk wx (.cells #[.pointer (some ⟨c.wb, 0, none⟩)] 145 (0, 0)), .own 3 1 (some ⟨gl, 0, none⟩) H H (ints (tab H (leftC c.p c.l c.l.calls.length))) [gl], .blk lf (.cells #[.slice (some ⟨gl, 0, none⟩) H H] 33 (0, 0)), .own 4 1 (some ⟨gs, 0, none⟩) H H (bools (tab H (shutC c.p (bt c.p (q : Int)).path c.l c.l.calls.length))) [gs], .blk sh (.cells #[.slice (some ⟨gs, 0, none⟩) H H] 40 (0, 0)), .blk pa (.cells #[.slice Ak np ck] 33 (0, 0))] wz := ⟨_, rfl, hcut⟩;have hO7 : Own w1.heap.size w1 [.blk wx (.cells #[.pointer (some ⟨c.wb, 0, none⟩)] 145 (0, 0)), .own 3 1 (some ⟨gl, 0, none⟩) H H (ints (tab H (leftS c.p c.l 0))) [gl], .blk lf (.cells #[.slice (some ⟨gl, 0, none⟩) H H] 33 (0, 0)), .own 4 1 (some ⟨gs, 0, none⟩) H H (bools (tab H (shutC c.p (bt c.p (q : Int)).path c.l c.l.calls.length))) [gs], .blk sh (.cells #[.slice (some ⟨gs, 0, none⟩) H H] 40 (0, 0)), .blk pa (.cells #[.slice Ak np ck] 33 (0, 0))] X6 := by rw [leftC_all] at hO6; exact hO6
              have HS6 := Lib.hid hO7;obtain ⟨g0, g1, g2, g3, g4, g5, g6, g7, y0, y1, y2, y3⟩ := HA.out.1 X6 hO7.bel;clear hO6 hO7 hcut g0 g1 g2 g3 g4 g6 g7
              go_upto_block 4 with fail
              clear g5 y0 y1 y2 y3
              go_cut [23] from 118 to 131 (fun _ wy => Own w1.heap.size w1 [.blk wx (.cells #[.pointer (some ⟨c.wb, 0, none⟩)] 145 (0, 0)), .own 3 1 (some ⟨gl, 0, none⟩) H H (ints (tab H (leftS c.p c.l c.l.swps.length))) [gl], .blk lf (.cells #[.slice (some ⟨gl, 0, none⟩) H H] 33 (0, 0)), .own 4 1 (some ⟨gs, 0, none⟩) H H (bools (tab H (shutC c.p (bt c.p (q : Int)).path c.l c.l.calls.length))) [gs], .blk sh (.cells #[.slice (some ⟨gs, 0, none⟩) H H] 40 (0, 0)), .blk pa (.cells #[.slice Ak np ck] 33 (0, 0))] wy)
              case first =>
                go_wp2_with fail
                go_loopg [118] c.l.swps.length (fun g i wy => ∃ j : Nat, g + j = c.l.swps.length ∧ i = .int .i64 j ∧ Own w1.heap.size w1 [.blk wx (.cells #[.pointer (some ⟨c.wb, 0, none⟩)] 145 (0, 0)), .own 3 1 (some ⟨gl, 0, none⟩) H H (ints (tab H (leftS c.p c.l j))) [gl], .blk lf (.cells #[.slice (some ⟨gl, 0, none⟩) H H] 33 (0, 0)), .own 4 1 (some ⟨gs, 0, none⟩) H H (bools (tab H (shutC c.p (bt c.p (q : Int)).path c.l c.l.calls.length))) [gs], .blk sh (.cells #[.slice (some ⟨gs, 0, none⟩) H H] 40 (0, 0)), .blk pa (.cells #[.slice Ak np ck] 33 (0, 0))] wy)
                case atStart => exact ⟨0, rfl, rfl, HS6.out⟩
                case round =>
                  obtain ⟨j, hj, rfl, hO⟩ := hrel;by_cases hlj : j < c.l.swps.length
                  · obtain ⟨b2, off2, eL, hbD2, hcell⟩ := (HA.out.2.2.1 wr hO.bel).swps.2 (by omega);obtain ⟨x, hx⟩ : ∃ x, x = c.l.swps[j] := ⟨_, rfl⟩;obtain ⟨r0, r1, r2⟩ := swcs_get hlj;rw [← hx] at r0 r1 r2;have d0 := hcell _ _ r0;have d1 : wr.cell? ⟨b2, off2 + j * 3 + 1, none⟩ = _ := hcell _ _ r1;have d2 : wr.cell? ⟨b2, off2 + j * 3 + 2, none⟩ = _ := hcell _ _ r2;have hxv := HM.out.2.2.2.2.1.sw c.l.swps[j] (List.getElem_mem _);rw [← hx] at hxv;have zb := World.block_lt_of_cell? _ _ d0;obtain ⟨ho, chn, tu⟩ := x;simp only at d0 d1 d2 hxv zb;obtain ⟨k, hk⟩ : ∃ k : Nat, ho = k := ⟨ho.toNat, by omega⟩;subst hk;have hkH : k < H := by have := HA.out.2.2.2.2.2; omega
                    have hbd := callT_bd c.l (k : Int) (L := c.l.calls) (fun x hx => HM.out.2.2.2.2.2.2.2 x hx);have hbd2 := swpT_bd c.l (k : Int) (L := c.l.swps.take j) (fun x hx => by have := HM.out.2.2.2.2.1.sw x (List.mem_of_mem_take hx); omega);have hbl : (c.l.swps.take j).length ≤ 200 := by rw [List.length_take]; omega
                    obtain ⟨xv, hxv'⟩ : ∃ x, x = leftS c.p c.l j k := ⟨_, rfl⟩;have hxb : -5300 ≤ xv ∧ xv ≤ 20 := by rw [hxv']; simp only [leftS]; omega
                    obtain ⟨xb, hxb'⟩ : ∃ b, b = wr.heap.size := ⟨_, rfl⟩;obtain ⟨X, hX⟩ : ∃ X, X = wr.alloc (.cells #[.int .i64 k, .int .i64 chn, .int .i64 tu] 126) := ⟨_, rfl⟩;have OX : Own w1.heap.size w1 ([.blk wx (.cells #[.pointer (some ⟨c.wb, 0, none⟩)] 145 (0, 0)), .own 3 1 (some ⟨gl, 0, none⟩) H H (ints (tab H (leftS c.p c.l j))) [gl], .blk lf (.cells #[.slice (some ⟨gl, 0, none⟩) H H] 33 (0, 0)), .own 4 1 (some ⟨gs, 0, none⟩) H H (bools (tab H (shutC c.p (bt c.p (q : Int)).path c.l c.l.calls.length))) [gs], .blk sh (.cells #[.slice (some ⟨gs, 0, none⟩) H H] 40 (0, 0)), .blk pa (.cells #[.slice Ak np ck] 33 (0, 0))] ++ [.blk xb (.cells #[.int .i64 k, .int .i64 chn, .int .i64 tu] 126 (0, 0))]) X := by rw [hX, hxb']; exact hO.alloc _
                    have hxh := OX.heap 6 rfl;have u0 : X.cell? ⟨xb, 0, none⟩ = some (.int .i64 k) := (cOH hxh 0).trans rfl;have u5 : X.cell? ⟨xb, 2, none⟩ = some (.int .i64 tu) := (cOH hxh 2).trans rfl;have zx := hL_ hxh;have lf0 : X.cell? ⟨lf, 0, none⟩ = some (.slice (some ⟨gl, 0, none⟩) H H) := (cOH (OX.heap 2 rfl) 0).trans rfl;have zlf := hL_ (OX.heap 2 rfl);obtain ⟨_, e9, _, zgl, hcl, hfl⟩ := (OX.owns 1 rfl).some_ (by omega);injection e9 with e9
                    injection e9 with e9 _ _
                    subst e9;have x0 : X.cell? ⟨gl, k, none⟩ = some (.int .i64 xv) := by rw [hxv']; exact hcl k _ (ints_tab_get _ hkH)
                    have f0 := hfl k;have hkI : (0 : Int) ≤ (k : Int) ∧ (k : Int) < (H : Int) := by omega
                    have HX := Lib.hid (And.intro OX (And.intro hx (And.intro hxv' eL)));clear OX hx hxv' hO hcell hcl hfl r0 r1 r2 hxh hbd hbl hbd2;rw [eL];go_upto_region 23 with fail
                    rw [← hX, ← hxb'];clear hX hxb' d0 d1 d2 zb;refine wRS (σ := Unit) (by kernel_rfl) (by kernel_rfl) (fun _ jx vx _ => Sl23V X lf xb gl H k xv tu jx vx) (fun _ ly wx => Sl23W X lf xb gl H k xv tu ly wx) () ?_ ?_ ?_
                    · exact (by unfold Sl23W; rw [if_neg (by simp)])
                    · simp only [AllFrom, Nat.zero_add, Nat.reduceAdd];refine ⟨?_, ?_, ?_, ?_, ?_, ?_, ?_, ?_, ?_, ?_, trivial⟩
                      · refine sP_ fun sg ly a wr hl hd hW hF => ?_;have et16 := hF.old 16 (by kernel_rfl);simp [Act.eval] at et16;have nL := hF.notYet 0 9 hl (by kernel_rfl);have hW' := hW;unfold Sl23W at hW';rw [if_neg (by simp [nL])] at hW';subst hW';exact ⟨by unfold Sl23W; rw [if_neg (by simp [upd, nL])], _, by go_simp, rfl⟩
                      · refine sP_ fun sg ly a wr hl hd hW hF => ?_;have et23 := hF.old 23 (by kernel_rfl);simp [Act.eval] at et23;exact ⟨by simpa [Sl23W, upd] using hW, .pointer (some ⟨xb, 0, none⟩), by go_simp, rfl⟩
                      · refine sP_ fun sg ly a wr hl hd hW hF => ?_;simp [Region.binds] at hd;have et123 := hF.new 1 123 (by simp [hd]) rfl;simp [Sl23V, Act.eval] at et123;have nL := hF.notYet 2 9 hl (by kernel_rfl);have hW' := hW;unfold Sl23W at hW';rw [if_neg (by simp [nL])] at hW';subst hW';exact ⟨by unfold Sl23W; rw [if_neg (by simp [upd, nL])], _, by go_simp, rfl⟩
                      · refine sP_ fun sg ly a wr hl hd hW hF => ?_;simp [Region.binds] at hd;have et122 := hF.new 0 122 (by simp [hd]) rfl;simp [Sl23V, Act.eval] at et122;have et124 := hF.new 2 124 (by simp [hd]) rfl;simp [Sl23V, Act.eval] at et124;exact ⟨by simpa [Sl23W, upd] using hW, .pointer (some ⟨gl, k, none⟩), by go_simp, rfl⟩
                      · refine sP_ fun sg ly a wr hl hd hW hF => ?_;simp [Region.binds] at hd;have et125 := hF.new 3 125 (by simp [hd]) rfl;simp [Sl23V, Act.eval] at et125;have nL := hF.notYet 4 9 hl (by kernel_rfl);have hW' := hW;unfold Sl23W at hW';rw [if_neg (by simp [nL])] at hW';subst hW';exact ⟨by unfold Sl23W; rw [if_neg (by simp [upd, nL])], _, by go_simp, rfl⟩
                      · refine sP_ fun sg ly a wr hl hd hW hF => ?_;have et23 := hF.old 23 (by kernel_rfl);simp [Act.eval] at et23;exact ⟨by simpa [Sl23W, upd] using hW, .pointer (some ⟨xb, 2, none⟩), by go_simp, rfl⟩
                      · refine sP_ fun sg ly a wr hl hd hW hF => ?_;simp [Region.binds] at hd;have et127 := hF.new 5 127 (by simp [hd]) rfl;simp [Sl23V, Act.eval] at et127;have nL := hF.notYet 6 9 hl (by kernel_rfl);have hW' := hW;unfold Sl23W at hW';rw [if_neg (by simp [nL])] at hW';subst hW';exact ⟨by unfold Sl23W; rw [if_neg (by simp [upd, nL])], _, by go_simp, rfl⟩
                      · refine sP_ fun sg ly a wr hl hd hW hF => ?_;simp [Region.binds] at hd;have et126 := hF.new 4 126 (by simp [hd]) rfl;simp [Sl23V, Act.eval] at et126;have et128 := hF.new 6 128 (by simp [hd]) rfl;simp [Sl23V, Act.eval] at et128;have ew := IntWalk.i64_in (xv - tu) (by omega);exact ⟨by simpa [Sl23W, upd] using hW, .int .i64 (xv - tu), by go_simp, rfl⟩
                      · refine sP_ fun sg ly a wr hl hd hW hF => ?_;simp [Region.binds] at hd;have et122 := hF.new 0 122 (by simp [hd]) rfl;simp [Sl23V, Act.eval] at et122;have et124 := hF.new 2 124 (by simp [hd]) rfl;simp [Sl23V, Act.eval] at et124;exact ⟨by simpa [Sl23W, upd] using hW, .pointer (some ⟨gl, k, none⟩), by go_simp, rfl⟩
                      · refine sS_ rfl fun sg ly a wr hl hd hW hF => ?_;simp [Region.binds] at hd;have et130 := hF.new 8 130 (by simp [hd]) rfl;simp [Sl23V, Act.eval] at et130;have et129 := hF.new 7 129 (by simp [hd]) rfl;simp [Sl23V, Act.eval] at et129;have hW' := hW;unfold Sl23W at hW';rw [if_neg (by simp [hl])] at hW';subst hW';refine ⟨(X.setCell ⟨gl, k, none⟩ (.int .i64 (xv - tu))).drew, (), .skip, by go_simp, .inl rfl, by unfold Sl23W; rw [if_pos (by simp [upd])], fun _ _ _ h => h⟩
                    intro _ a w3 hWW hF;obtain ⟨f3, hf3, rfl⟩ := hF.lit;have hw3 : w3 = (X.setCell ⟨gl, k, none⟩ (.int .i64 (xv - tu))).drew := by
                      have h5 := hWW;unfold Sl23W at h5
                      rwa [if_pos (by simp)] at h5
                    clear hf3 hF hWW;simp only [List.filterMap, List.foldl, List.setIfInBounds_toArray, List.set_cons_succ, List.set_cons_zero];have O3 : Own w1.heap.size w1 ([.blk wx (.cells #[.pointer (some ⟨c.wb, 0, none⟩)] 145 (0, 0)), .own 3 1 (some ⟨gl, 0, none⟩) H H (ints (tab H (leftS c.p c.l (j + 1)))) [gl], .blk lf (.cells #[.slice (some ⟨gl, 0, none⟩) H H] 33 (0, 0)), .own 4 1 (some ⟨gs, 0, none⟩) H H (bools (tab H (shutC c.p (bt c.p (q : Int)).path c.l c.l.calls.length))) [gs], .blk sh (.cells #[.slice (some ⟨gs, 0, none⟩) H H] 40 (0, 0)), .blk pa (.cells #[.slice Ak np ck] 33 (0, 0))] ++ [.blk xb (.cells #[.int .i64 k, .int .i64 chn, .int .i64 tu] 126 (0, 0))]) w3 := by
                      have h := (HX.out.1.upd 1 rfl (w' := X.setCell ⟨gl, k, none⟩ (.int .i64 (xv - tu))) (i' := .own 3 1 (some ⟨gl, 0, none⟩) H H (ints (tab H (leftS c.p c.l (j + 1)))) [gl]) ((Keep.refl _ _).setCell (.inl (by simp [It.fp])) _) (by
                        have h2 := (HX.out.1.owns 1 rfl).set_ k (.int .i64 (xv - tu));have e1 : (ints (tab H (leftS c.p c.l j))).set k (.int .i64 (xv - tu)) = ints ((tab H (leftS c.p c.l j)).set k (xv - tu)) := by simp [ints, List.map_set]
                        rw [e1, HX.out.2.2.1, leftS_step hlj hkH (by rw [← HX.out.2.1]) (by rw [← HX.out.2.1])] at h2;rw [HX.out.2.2.1]; exact h2) (fun x hx => .inl hx)).drew
                      rw [hw3]; exact h
                    have HO3 := Lib.hid O3;clear hw3 x0 f0 lf0 zlf zgl u0 u5 zx O3;go_wp2_with fail
                    rw [← HX.out.2.2.2];go_roundg (gk - 1);case measure => omega
                    case rel => exact ⟨j + 1, by omega, by go_num, HO3.out.take 6⟩
                  · obtain rfl : j = c.l.swps.length := by omega
                    have HO := Lib.hid hO;clear hO;go_wp2_with fail
                    go_meet
                    exact HO.out
              case rest =>
                obtain ⟨X7, rfl, hO7⟩ : ∃ wz, wz = _ ∧ Own w1.heap.size w1 [.blk wx (.cells #[.pointer (some ⟨c.wb, 0, none⟩)] 145 (0, 0)), .own 3 1 (some ⟨gl, 0, none⟩) H H (ints (tab H (leftS c.p c.l c.l.swps.length))) [gl], .blk lf (.cells #[.slice (some ⟨gl, 0, none⟩) H H] 33 (0, 0)), .own 4 1 (some ⟨gs, 0, none⟩) H H (bools (tab H (shutC c.p (bt c.p (q : Int)).path c.l c.l.calls.length))) [gs], .blk sh (.cells #[.slice (some ⟨gs, 0, none⟩) H H] 40 (0, 0)), .blk pa (.cells #[.slice Ak np ck] 33 (0, 0))] wz := ⟨_, rfl, hcut⟩;obtain ⟨ob, hob⟩ : ∃ b, b = X7.heap.size := ⟨_, rfl⟩;obtain ⟨Y, hY⟩ : ∃ X, X = X7.alloc (.cells #[.slice none 0 0] 119) := ⟨_, rfl⟩;have bY7 : Below X7.heap.size X7 Y := by rw [hY]; exact (Below.refl _ _).alloc (Nat.le_refl _) _
                have hoY : Y.heap[ob]? = some (.cells #[.slice none 0 0] 119 (0, 0)) := by rw [hY, hob]; exact heap_alloc_new _ _
                have b1Y : Below w1.heap.size w1 Y := hO7.bel.trans (bY7.mono hO7.lo);have hnew := HM.out.2.2.1;have zE := HM.out.1.cells;have zgb := HM.out.2.2.2.1.br.lt c.gb (by simp);have zub := HM.out.2.2.2.1.bu.lt c.ub (by simp);have hlo7 := hO7.lo;have hWw1 : W.heap.size ≤ w1.heap.size := HW.out.1.size;obtain ⟨f, hf⟩ : ∃ f, f = slotOk c.p s c.l (bt c.p (q : Int)).path mo tg := ⟨_, rfl⟩;have hPne : ∀ b off, Ak = some ⟨b, off, none⟩ → 0 < np → b ≠ c.gb ∧ b ≠ c.ub ∧ b ≠ ob := fun b off e h0 => by
                  obtain ⟨b', off', e', hb'⟩ := HP.out.2.2.2.1 h0;rw [e] at e';injection e' with e'
                  injection e' with e1 _ _
                  have h1 := HM.out.2.1.g.2.2.2;have h2 := HM.out.2.1.u.2.2.2;have h3 := HM.out.1.hD;omega
                have J0 : (fun (k : Nat) (wy : World) => ∃ (A : Option Addr) (cO : Nat) (fp : List Nat), Own W.heap.size Y [.blk wx (.cells #[.pointer (some ⟨c.wb, 0, none⟩)] 145 (0, 0)), .own 3 1 (some ⟨gl, 0, none⟩) H H (ints (tab H (leftS c.p c.l c.l.swps.length))) [gl], .blk lf (.cells #[.slice (some ⟨gl, 0, none⟩) H H] 33 (0, 0)), .own 4 1 (some ⟨gs, 0, none⟩) H H (bools (tab H (shutC c.p (bt c.p (q : Int)).path c.l c.l.calls.length))) [gs], .blk sh (.cells #[.slice (some ⟨gs, 0, none⟩) H H] 40 (0, 0)), .blk pa (.cells #[.slice Ak np ck] 33 (0, 0)), .any c.gb, .any c.ub, .blk ob (.cells #[.slice A (slotS f k).length cO] 119 (0, 0)), .own 129 2 A (slotS f k).length cO (spcs (slotS f k)) fp] wy ∧ ∀ x ∈ fp, Y.heap.size ≤ x) 0 Y := by
                  refine ⟨none, 0, [], ?_, by simp⟩;have h0 := (hO7.below bY7).restart (D' := W.heap.size) hWw1 (by simp [It.flat]);have hge : ∀ j ∈ [.blk wx (.cells #[.pointer (some ⟨c.wb, 0, none⟩)] 145 (0, 0)), .own 3 1 (some ⟨gl, 0, none⟩) H H (ints (tab H (leftS c.p c.l c.l.swps.length))) [gl], .blk lf (.cells #[.slice (some ⟨gl, 0, none⟩) H H] 33 (0, 0)), .own 4 1 (some ⟨gs, 0, none⟩) H H (bools (tab H (shutC c.p (bt c.p (q : Int)).path c.l c.l.calls.length))) [gs], .blk sh (.cells #[.slice (some ⟨gs, 0, none⟩) H H] 40 (0, 0)), .blk pa (.cells #[.slice Ak np ck] 33 (0, 0))], ∀ x ∈ It.fp j, w1.heap.size ≤ x ∧ x < X7.heap.size := fun j hj x hx => by
                    obtain ⟨a, ha⟩ := List.mem_iff_getElem?.1 hj;exact ⟨hO7.ge a ha hx, hO7.lt a ha hx⟩
                  have h1 := h0.add (i := .any c.gb) (by show c.gb < Y.heap.size; have := b1Y.size; omega) (by simp only [It.fp, List.mem_singleton, forall_eq]; exact hnew.2.2.2.1) (fun j hj x hx hm => by rw [List.mem_singleton.1 hx] at hm; have := hge j hj _ hm; omega);have h2 := h1.add (i := .any c.ub) (by show c.ub < Y.heap.size; have := b1Y.size; omega) (by simp only [It.fp, List.mem_singleton, forall_eq]; exact hnew.2.2.2.2) (fun j hj x hx hm => by
                    rw [List.mem_singleton.1 hx] at hm;rcases List.mem_append.1 hj with e | e
                    · have := hge j e _ hm; omega
                    · rw [List.mem_singleton.1 e] at hm; exact HM.out.2.1.ne (List.mem_singleton.1 hm).symm)
                  have h3 := h2.add (i := .blk ob (.cells #[.slice none 0 0] 119 (0, 0))) hoY (by simp only [It.fp, List.mem_singleton, forall_eq]; omega) (fun j hj x hx hm => by
                    rw [List.mem_singleton.1 hx] at hm;rcases List.mem_append.1 hj with e | e
                    · rcases List.mem_append.1 e with e | e
                      · have := hge j e _ hm; omega
                      · rw [List.mem_singleton.1 e] at hm; simp [It.fp] at hm; omega
                    · rw [List.mem_singleton.1 e] at hm; simp [It.fp] at hm; omega)
                  exact h3.add (i := .own 129 2 none 0 0 (spcs []) []) (OwnS.nil _ _ _) (by simp [It.fp]) (by simp [It.fp])
                have JK : ∀ (k : Nat) (wy wy' : World), Keep [c.gb, c.ub] wy wy' → (fun (k : Nat) (wy : World) => ∃ (A : Option Addr) (cO : Nat) (fp : List Nat), Own W.heap.size Y [.blk wx (.cells #[.pointer (some ⟨c.wb, 0, none⟩)] 145 (0, 0)), .own 3 1 (some ⟨gl, 0, none⟩) H H (ints (tab H (leftS c.p c.l c.l.swps.length))) [gl], .blk lf (.cells #[.slice (some ⟨gl, 0, none⟩) H H] 33 (0, 0)), .own 4 1 (some ⟨gs, 0, none⟩) H H (bools (tab H (shutC c.p (bt c.p (q : Int)).path c.l c.l.calls.length))) [gs], .blk sh (.cells #[.slice (some ⟨gs, 0, none⟩) H H] 40 (0, 0)), .blk pa (.cells #[.slice Ak np ck] 33 (0, 0)), .any c.gb, .any c.ub, .blk ob (.cells #[.slice A (slotS f k).length cO] 119 (0, 0)), .own 129 2 A (slotS f k).length cO (spcs (slotS f k)) fp] wy ∧ ∀ x ∈ fp, Y.heap.size ≤ x) k wy → (fun (k : Nat) (wy : World) => ∃ (A : Option Addr) (cO : Nat) (fp : List Nat), Own W.heap.size Y [.blk wx (.cells #[.pointer (some ⟨c.wb, 0, none⟩)] 145 (0, 0)), .own 3 1 (some ⟨gl, 0, none⟩) H H (ints (tab H (leftS c.p c.l c.l.swps.length))) [gl], .blk lf (.cells #[.slice (some ⟨gl, 0, none⟩) H H] 33 (0, 0)), .own 4 1 (some ⟨gs, 0, none⟩) H H (bools (tab H (shutC c.p (bt c.p (q : Int)).path c.l c.l.calls.length))) [gs], .blk sh (.cells #[.slice (some ⟨gs, 0, none⟩) H H] 40 (0, 0)), .blk pa (.cells #[.slice Ak np ck] 33 (0, 0)), .any c.gb, .any c.ub, .blk ob (.cells #[.slice A (slotS f k).length cO] 119 (0, 0)), .own 129 2 A (slotS f k).length cO (spcs (slotS f k)) fp] wy ∧ ∀ x ∈ fp, Y.heap.size ≤ x) k wy' := by
                  rintro k wy wy' hk ⟨A, cO, fp, hO, hq⟩;refine ⟨A, cO, fp, hO.keepAny hk (fun x hx => .inl ?_), hq⟩;rcases List.mem_cons.1 hx with e | e
                  · exact ⟨6, by rw [e]; rfl⟩
                  · exact ⟨7, by rw [List.mem_singleton.1 e]; rfl⟩
                have htY := (b1Y.block _ (hL_ ((HW.out.1.block _ (hL_ HW.out.2.2.2)).trans HW.out.2.2.2))).trans ((HW.out.1.block _ (hL_ HW.out.2.2.2)).trans HW.out.2.2.2);have hmY := (b1Y.block _ (hL_ ((HW.out.1.block _ (hL_ HW.out.2.2.1)).trans HW.out.2.2.1))).trans ((HW.out.1.block _ (hL_ HW.out.2.2.1)).trans HW.out.2.2.1);have hxtW := hL_ HW.out.2.2.2;have hxmW := hL_ HW.out.2.2.1;have step : ∀ (k : Nat) (wy : World), k < c.l.hours.toNat → WcE c wy (brV c) (buV c) → WkS c wy wy ⟨swpN c.p k c.l.swps (stN c.p c.l s k).brash, (stN c.p c.l s k).busy⟩ → (fun (k : Nat) (wy : World) => ∃ (A : Option Addr) (cO : Nat) (fp : List Nat), Own W.heap.size Y [.blk wx (.cells #[.pointer (some ⟨c.wb, 0, none⟩)] 145 (0, 0)), .own 3 1 (some ⟨gl, 0, none⟩) H H (ints (tab H (leftS c.p c.l c.l.swps.length))) [gl], .blk lf (.cells #[.slice (some ⟨gl, 0, none⟩) H H] 33 (0, 0)), .own 4 1 (some ⟨gs, 0, none⟩) H H (bools (tab H (shutC c.p (bt c.p (q : Int)).path c.l c.l.calls.length))) [gs], .blk sh (.cells #[.slice (some ⟨gs, 0, none⟩) H H] 40 (0, 0)), .blk pa (.cells #[.slice Ak np ck] 33 (0, 0)), .any c.gb, .any c.ub, .blk ob (.cells #[.slice A (slotS f k).length cO] 119 (0, 0)), .own 129 2 A (slotS f k).length cO (spcs (slotS f k)) fp] wy ∧ ∀ x ∈ fp, Y.heap.size ≤ x) k wy → Keep (c.gb :: c.ub :: [ob]) Y wy →
                    Calls Try.prog 110 (#[.int .i64 k] ++ #[.pointer (some ⟨sh, 0, none⟩), .pointer (some ⟨lf, 0, none⟩), .pointer (some ⟨xt, 0, none⟩), .pointer (some ⟨pa, 0, none⟩), .pointer (some ⟨wx, 0, none⟩), .pointer (some ⟨xm, 0, none⟩), .pointer (some ⟨ob, 0, none⟩)]) wy fun e w' => e = .returned (.tuple #[]) ∧ (∃ T', Keep T' wy w' ∧ ∀ x ∈ T', x ∈ [ob] ∨ Y.heap.size ≤ x) ∧ (fun (k : Nat) (wy : World) => ∃ (A : Option Addr) (cO : Nat) (fp : List Nat), Own W.heap.size Y [.blk wx (.cells #[.pointer (some ⟨c.wb, 0, none⟩)] 145 (0, 0)), .own 3 1 (some ⟨gl, 0, none⟩) H H (ints (tab H (leftS c.p c.l c.l.swps.length))) [gl], .blk lf (.cells #[.slice (some ⟨gl, 0, none⟩) H H] 33 (0, 0)), .own 4 1 (some ⟨gs, 0, none⟩) H H (bools (tab H (shutC c.p (bt c.p (q : Int)).path c.l c.l.calls.length))) [gs], .blk sh (.cells #[.slice (some ⟨gs, 0, none⟩) H H] 40 (0, 0)), .blk pa (.cells #[.slice Ak np ck] 33 (0, 0)), .any c.gb, .any c.ub, .blk ob (.cells #[.slice A (slotS f k).length cO] 119 (0, 0)), .own 129 2 A (slotS f k).length cO (spcs (slotS f k)) fp] wy ∧ ∀ x ∈ fp, Y.heap.size ≤ x) (k + 1) w' := by
                  intro k wy hk E1 S1 hJ hK;obtain ⟨A, cO, fp, hO, hq⟩ := hJ;have hkH : k < H := by rw [HA.out.2.2.2.2.1]; exact hk
                  obtain ⟨_, e9, _, zgs, hcs, _⟩ := (hO.owns 3 rfl).some_ (by omega);injection e9 with e9
                  injection e9 with e9 _ _
                  subst e9;obtain ⟨_, e9, _, zgl, hcl, _⟩ := (hO.owns 1 rfl).some_ (by omega);injection e9 with e9
                  injection e9 with e9 _ _
                  subst e9;have tx : wy.cell? ⟨xt, 0, none⟩ = some (.int .i64 tg) := (hO.bel.cell (p := ⟨xt, 0, none⟩) hxtW).trans ((cOH htY 0).trans rfl);have mx : wy.cell? ⟨xm, 0, none⟩ = some (.int .i64 mo) := (hO.bel.cell (p := ⟨xm, 0, none⟩) hxmW).trans ((cOH hmY 0).trans rfl);have px : wy.cell? ⟨pa, 0, none⟩ = some (.slice Ak np ck) := (cOH (hO.heap 5 rfl) 0).trans rfl;have wxc : wy.cell? ⟨wx, 0, none⟩ = some (.pointer (some ⟨c.wb, 0, none⟩)) := (cOH (hO.heap 0 rfl) 0).trans rfl;have rp := HP.out.2.2.1 Y b1Y;have rpy : Rd wy 1 Ak np (ints (bt c.p (q : Int)).path) := by
                    refine ⟨rp.1, fun h0 => ?_⟩;obtain ⟨b, off, e, hb, hc⟩ := rp.2 h0;have hbx : b ≠ c.gb ∧ b ≠ c.ub ∧ b ≠ ob := hPne b off e h0;exact ⟨b, off, e, by have := hK.size; omega, fun j u hu => hK.cell (hc j u hu) (by simp only [List.mem_cons, List.not_mem_nil, or_false, not_or]; exact hbx)⟩
                  have hnpl := HM.out.2.2.2.2.1.btf (c.p.bts[q]) (List.getElem_mem _);have hnpl3 := nodup_range_le hnpl.2.1 hnpl.2.2;have hnc := HM.out.2.2.2.2.1.nc;have hbl : (swpN c.p k c.l.swps (stN c.p c.l s k).brash).length = c.p.chs.length := S1.len.1;obtain ⟨g, hg⟩ : ∃ g : Int → Bool, g = fun x => decide (mo < getI (swpN c.p k c.l.swps (stN c.p c.l s k).brash) x) := ⟨_, rfl⟩;have kc : ∀ n, Calls Try.prog 20 #[.slice Ak np ck, .func (.func 111) #[] #[.pointer (some ⟨wx, 0, none⟩), .pointer (some ⟨xm, 0, none⟩)]] (wy.drewN n) fun e w' => e = .returned (.bool ((bt c.p (q : Int)).path.any g)) ∧ ∃ m, w' = (wy.drewN n).drewN m := fun n => by
                    have hb : Below wy.heap.size wy (wy.drewN n) := ((Keep.refl [] wy).drewN n).below (Nat.le_refl _) (by simp);have hlen : (bt c.p (q : Int)).path.length = np := by rw [HP.out.2.1, ← HP.out.1]
                    have h := anyThin_any g (.pointer (some ⟨wx, 0, none⟩)) (.pointer (some ⟨xm, 0, none⟩)) Ak ck (bt c.p (q : Int)).path (wy.drewN n) (by rw [hlen]; exact rpy.below hb) (by rw [HP.out.2.1]; omega) (fun x hx n' => by
                      have hx2 : 0 ≤ x ∧ x < c.p.chs.length := hnpl.2.2 x (by rw [← HP.out.2.1]; exact hx);obtain ⟨i, hi⟩ : ∃ i : Nat, x = i := ⟨x.toNat, by omega⟩;subst hi;have hil : i < c.p.chs.length := by omega
                      have hbc : wy.cell? ⟨c.gb, i, none⟩ = some (.int .i64 (getI (swpN c.p k c.l.swps (stN c.p c.l s k).brash) i)) := by
                        obtain ⟨_, e9, _, _, hcb, _⟩ := S1.br.some_ (by omega);injection e9 with e9
                        injection e9 with e9 _ _
                        subst e9;rw [hcb i _ (iG_ (by rw [hbl]; exact hil))];simp [getI]
                      have h6 := sl21_any (w := wy.drewN n) (bw := wx) (wb := c.wb) (gb := c.gb) (xb := xm) (n := c.p.chs.length) (c1 := c.c1) (k := i) (x := getI (swpN c.p k c.l.swps (stN c.p c.l s k).brash) i) (mo := mo) wxc E1.cells.2.2.1 hbc mx hil n';rw [hg];exact h6)
                    rw [hlen] at h;exact h
                  have hsl := slotS_len f k;refine (slots2_any ob (slotS f k) fp k H sh lf xt pa wx xm gs gl np ck Ak (shutC c.p (bt c.p (q : Int)).path c.l c.l.calls.length k) ((bt c.p (q : Int)).path.any g) (leftS c.p c.l c.l.swps.length k) tg wy ⟨A, cO, hO.heap 8 rfl, hO.owns 9 rfl, fun hm => hO.dis 8 9 _ _ rfl rfl (by decide) ob (by simp [It.fp]) hm⟩ (by omega) hkH hH1.2
                    ((cOH (hO.heap 4 rfl) 0).trans rfl) (hcs k _ (bools_tab_get _ hkH)) ((cOH (hO.heap 2 rfl) 0).trans rfl) (hcl k _ (ints_tab_get _ hkH)) tx px kc).mono ?_
                  rintro e w' ⟨rfl, fp', ⟨A', c', hh', ho', hno⟩, hfp, kp⟩;have hok : (!shutC c.p (bt c.p (q : Int)).path c.l c.l.calls.length k && (!decide (leftS c.p c.l c.l.swps.length k < tg) && !(bt c.p (q : Int)).path.any g)) = f k := by rw [hg, hf]; exact slotOk_eq
                  have hS : (if (!shutC c.p (bt c.p (q : Int)).path c.l c.l.calls.length k && (!decide (leftS c.p c.l c.l.swps.length k < tg) && !(bt c.p (q : Int)).path.any g)) = true then joinS (slotS f k) k else slotS f k) = slotS f (k + 1) := by rw [hok, slotS_succ, joinS_add]
                  rw [hS] at hh' ho';refine ⟨rfl, ⟨ob :: fp, kp, fun x hx => ?_⟩, A', c', fp', ?_, fun x hx => ?_⟩
                  · rcases List.mem_cons.1 hx with e | e
                    · exact .inl (by simp [e])
                    · exact .inr (hq x e)
                  · exact hO.boxed 8 9 rfl rfl (by decide) kp hh' ho' hfp
                  · rcases hfp x hx with e | e
                    · exact hq x e
                    · have := hK.size; omega
                have cbSl : ∀ (a : Array Value) (w : World), (callFunc 110 a).run Try.prog w = .ok (.enter 110 a) w := fun a w => by go_simp
                have hTn : ∀ x ∈ [ob], x ≠ c.wb ∧ x ≠ c.pb ∧ x ≠ c.lb ∧ c.D ≤ x ∧ x ≠ c.gb ∧ x ≠ c.ub := by
                  intro x hx;rw [List.mem_singleton.1 hx];have h1 := zE.2.2.2.2.2.2.2.2.2;have h2 := HM.out.1.hD;omega
                have krun := run_any (HM.out.1.below b1Y) HM.out.2.1 ((HM.out.2.2.2.1.below b1Y).start) HM.out.2.2.2.2.1 (brR_of (by decide) HM.out.2.2.2.2.2.1) 74 110 #[] #[.pointer (some ⟨sh, 0, none⟩), .pointer (some ⟨lf, 0, none⟩), .pointer (some ⟨xt, 0, none⟩), .pointer (some ⟨pa, 0, none⟩), .pointer (some ⟨wx, 0, none⟩), .pointer (some ⟨xm, 0, none⟩), .pointer (some ⟨ob, 0, none⟩)] cbNothing cbSl [ob] hTn (fun k w => (fun (k : Nat) (wy : World) => ∃ (A : Option Addr) (cO : Nat) (fp : List Nat), Own W.heap.size Y [.blk wx (.cells #[.pointer (some ⟨c.wb, 0, none⟩)] 145 (0, 0)), .own 3 1 (some ⟨gl, 0, none⟩) H H (ints (tab H (leftS c.p c.l c.l.swps.length))) [gl], .blk lf (.cells #[.slice (some ⟨gl, 0, none⟩) H H] 33 (0, 0)), .own 4 1 (some ⟨gs, 0, none⟩) H H (bools (tab H (shutC c.p (bt c.p (q : Int)).path c.l c.l.calls.length))) [gs], .blk sh (.cells #[.slice (some ⟨gs, 0, none⟩) H H] 40 (0, 0)), .blk pa (.cells #[.slice Ak np ck] 33 (0, 0)), .any c.gb, .any c.ub, .blk ob (.cells #[.slice A (slotS f k).length cO] 119 (0, 0)), .own 129 2 A (slotS f k).length cO (spcs (slotS f k)) fp] wy ∧ ∀ x ∈ fp, Y.heap.size ≤ x) k w) (fun k w => (fun (k : Nat) (wy : World) => ∃ (A : Option Addr) (cO : Nat) (fp : List Nat), Own W.heap.size Y [.blk wx (.cells #[.pointer (some ⟨c.wb, 0, none⟩)] 145 (0, 0)), .own 3 1 (some ⟨gl, 0, none⟩) H H (ints (tab H (leftS c.p c.l c.l.swps.length))) [gl], .blk lf (.cells #[.slice (some ⟨gl, 0, none⟩) H H] 33 (0, 0)), .own 4 1 (some ⟨gs, 0, none⟩) H H (bools (tab H (shutC c.p (bt c.p (q : Int)).path c.l c.l.calls.length))) [gs], .blk sh (.cells #[.slice (some ⟨gs, 0, none⟩) H H] 40 (0, 0)), .blk pa (.cells #[.slice Ak np ck] 33 (0, 0)), .any c.gb, .any c.ub, .blk ob (.cells #[.slice A (slotS f k).length cO] 119 (0, 0)), .own 129 2 A (slotS f k).length cO (spcs (slotS f k)) fp] wy ∧ ∀ x ∈ fp, Y.heap.size ≤ x) k w) (fun k w => (fun (k : Nat) (wy : World) => ∃ (A : Option Addr) (cO : Nat) (fp : List Nat), Own W.heap.size Y [.blk wx (.cells #[.pointer (some ⟨c.wb, 0, none⟩)] 145 (0, 0)), .own 3 1 (some ⟨gl, 0, none⟩) H H (ints (tab H (leftS c.p c.l c.l.swps.length))) [gl], .blk lf (.cells #[.slice (some ⟨gl, 0, none⟩) H H] 33 (0, 0)), .own 4 1 (some ⟨gs, 0, none⟩) H H (bools (tab H (shutC c.p (bt c.p (q : Int)).path c.l c.l.calls.length))) [gs], .blk sh (.cells #[.slice (some ⟨gs, 0, none⟩) H H] 40 (0, 0)), .blk pa (.cells #[.slice Ak np ck] 33 (0, 0)), .any c.gb, .any c.ub, .blk ob (.cells #[.slice A (slotS f k).length cO] 119 (0, 0)), .own 129 2 A (slotS f k).length cO (spcs (slotS f k)) fp] wy ∧ ∀ x ∈ fp, Y.heap.size ≤ x) (k + 1) w) J0
                  (fun k w _ _ _ hj _ => (nothing_any _ _).mono fun e w' h => ⟨h.1, ⟨[], by rw [← h.2]; exact Keep.refl _ _, by simp⟩, by rw [← h.2]; exact hj⟩) step (fun k w w' hk hj => JK _ _ _ hk hj) (fun k w w' hk hj => JK _ _ _ hk hj)
                have HR := Lib.hid (And.intro krun (And.intro hf (And.intro b1Y hnew)));have wx0 : X7.cell? ⟨wx, 0, none⟩ = some (.pointer (some ⟨c.wb, 0, none⟩)) := (cOH (hO7.heap 0 rfl) 0).trans rfl;have zwx := hL_ (hO7.heap 0 rfl);have wxY : Y.cell? ⟨wx, 0, none⟩ = some (.pointer (some ⟨c.wb, 0, none⟩)) := (bY7.cell (p := ⟨wx, 0, none⟩) zwx).trans wx0;have zwY : wx < Y.heap.size := by have := bY7.size; omega
                have hobW : W.heap.size ≤ ob := by omega
                clear krun J0 JK step cbSl hTn htY hmY hxtW hxmW hf b1Y hnew zE zgb zub hlo7 hWw1 bY7 hoY hO7 hcut wx0 zwx hPne;go_upto_region 27 with fail
                rw [← hY, ← hob];clear hY hob;go_wp2_with fail
                refine HR.out.1.mono ?_;rintro e w3 ⟨rfl, kp, hok⟩;obtain ⟨R, hR⟩ : ∃ R, R = runR c.p c.l s := ⟨_, rfl⟩;rw [← hR] at hok ⊢;obtain ⟨i, er⟩ := R;have hv : slotE c.p s c.l q mo tg = er := by rw [HY.out, ← hR]
                have bX3 : Below w.heap.size w w3 := (HA.out.2.2.2.1.trans (HR.out.2.2.1.mono HA.out.2.2.2.1.size)).trans (kp.below (by have := HA.out.2.2.2.1.size; have := HR.out.2.2.1.size; omega) (by have h1 := HR.out.2.2.2; have h2 := HG.out.1.size; simp; omega));clear hR kp wxY zwY;by_cases her : er = 0
                · subst her;obtain ⟨_, A, cO, fp, hO, hq⟩ := hok rfl;have hvv : slotV c.p s c.l q mo tg = slotS f c.l.hours.toNat := by unfold slotV; rw [if_pos hv, HR.out.2.1]
                  have hh := hO.heap 8 rfl;have ho := hO.owns 9 rfl;obtain ⟨n, hn⟩ : ∃ n, n = (slotS f c.l.hours.toNat).length := ⟨_, rfl⟩;rw [← hn] at hh ho;have t0 : w3.cell? ⟨ob, 0, none⟩ = some (.slice A n cO) := (cOH hh 0).trans rfl;have zt := hL_ hh;have HF := Lib.hid (And.intro hv (And.intro hvv (And.intro bX3 (And.intro ho.rd hn))));clear hv hvv bX3 hok hh ho hO hq hn;go_wp2_with fail
                  go_ret2
                  refine ⟨A, cO, ?_, ?_, HF.out.2.2.1⟩
                  · rw [HF.out.1, HF.out.2.1, ← HF.out.2.2.2.2]; rfl
                  · rw [HF.out.2.1, ← HF.out.2.2.2.2]; exact HF.out.2.2.2.1
                · have hnb : (er != 0) = true := by simpa using her
                  have HF := Lib.hid (And.intro hv (And.intro her bX3));clear hv her bX3 hok;go_wp2_with fail
                  go_ret2
                  exact slots_no HF.out.1 HF.out.2.1 HF.out.2.2
end Go.Proofs.Ythmldeningpjbaa
