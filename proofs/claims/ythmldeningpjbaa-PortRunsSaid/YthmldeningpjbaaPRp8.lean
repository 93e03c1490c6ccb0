import Derived.Test.YthmldeningpjbaaPRp7
import Derived.Test.YthmldeningpjbaaPRp1
import Derived.Test.YthmldeningpjbaaPRp0
import Derived.Test.YthmldeningpjbaaPRp5
import Derived.Deep.DeepCutAuto
import Derived.Test.YthmldeningpjbaaProg
import Derived.Test.YthmldeningpjbaaPRp2
set_option linter.unusedVariables false
set_option linter.unusedSimpArgs false
set_option maxRecDepth 100000
set_option maxHeartbeats 40000000
namespace Go.Proofs.Ythmldeningpjbaa
open Go Go.RowKit Sp Pt
structure SttB (D : Nat) (w : World) (Ar : Option Addr) (cr : Nat) (Au : Option Addr) (cu : Nat) (s : Stt) : Prop where
  br : RdB D w 1 Ar s.brash.length (ints s.brash)
  bu : RdB D w 1 Au s.busy.length (bools s.busy)
  c1 : s.brash.length ≤ cr ∧ cr ≤ 9223372036854775807 ∧ (Ar = none → cr = 0)
  c2 : s.busy.length ≤ cu ∧ cu ≤ 9223372036854775807 ∧ (Au = none → cu = 0)
abbrev sttV (Ar : Option Addr) (cr : Nat) (Au : Option Addr) (cu : Nat) (s : Stt) : Array Value := #[.slice Ar s.brash.length cr, .slice Au s.busy.length cu]
theorem SttB.below {D : Nat} {w w' : World} {Ar Au : Option Addr} {cr cu : Nat} {s : Stt} (h : SttB D w Ar cr Au cu s) (hb : Below D w w') : SttB D w' Ar cr Au cu s := ⟨h.br.below hb, h.bu.below hb, h.c1, h.c2⟩
theorem SttB.mono {D : Nat} {w : World} {Ar Au : Option Addr} {cr cu : Nat} {s : Stt} (h : SttB D w Ar cr Au cu s) {D' : Nat} (hD : D ≤ D') : SttB D' w Ar cr Au cu s := ⟨h.br.mono hD, h.bu.mono hD, h.c1, h.c2⟩
structure Made0 (w w' : World) (c : WC) (D : Nat) (Ac : Option Addr) (cc : Nat) (Ab : Option Addr) (cb : Nat) (p : Prt) (Al : Option Addr) (cl : Nat) (As : Option Addr) (cs : Nat) (l : Pln) : Prop where
  eq : c.D = D ∧ c.Ac = Ac ∧ c.cc = cc ∧ c.Ab = Ab ∧ c.cb = cb ∧ c.p = p ∧ c.Al = Al ∧ c.cl = cl ∧ c.As = As ∧ c.cs = cs ∧ c.l = l
  new : w.heap.size ≤ c.wb ∧ w.heap.size ≤ c.pb ∧ w.heap.size ≤ c.lb ∧ w.heap.size ≤ c.gb ∧ w.heap.size ≤ c.ub
  N : WcN c
  E : WcE c w' (brV c) (buV c)
def StartPost (w : World) (D : Nat) (Ac : Option Addr) (cc : Nat) (Ab : Option Addr) (cb : Nat) (p : Prt) (Al : Option Addr) (cl : Nat) (As : Option Addr) (cs : Nat) (l : Pln) (s : Stt) (e : Ending) (w' : World) : Prop :=
  Below w.heap.size w w' ∧ ((startE p s l ≠ 0 ∧ e = .returned (.tuple #[.pointer none, .int .i64 (startE p s l)])) ∨
    (startE p s l = 0 ∧ ∃ c : WC, Made0 w w' c D Ac cc Ab cb p Al cl As cs l ∧ WkS c w' w' s ∧ e = .returned (.tuple #[.pointer (some ⟨c.wb, 0, none⟩), .int .i64 0])))
theorem startE_1 {p : Prt} {s : Stt} {l : Pln} {e : Int} (h : checkL p l = e) (h0 : e ≠ 0) : startE p s l = e := by unfold startE; rw [if_pos (by rw [h]; exact h0), h]
theorem startE_2 {p : Prt} {s : Stt} {l : Pln} (h : checkL p l = 0) (h0 : s.brash.length ≠ p.chs.length ∨ s.busy.length ≠ p.bts.length ∨ s.brash.any (fun n => !within n 0 1000000) = true) : startE p s l = 1 := by unfold startE; rw [if_neg (by rw [h]; simp), if_pos h0]
theorem startE_3 {p : Prt} {s : Stt} {l : Pln} (h : checkL p l = 0) (h1 : s.brash.length = p.chs.length) (h2 : s.busy.length = p.bts.length) (h3 : s.brash.any (fun n => !within n 0 1000000) = false) : startE p s l = 0 := by
  unfold startE; rw [if_neg (by rw [h]; simp), if_neg]; rintro (q | q | q)
  · exact q h1
  · exact q h2
  · rw [h3] at q; cases q
structure Sg5 where
  gb : Nat
  c1 : Nat
  ub : Nat
  c2 : Nat
  wb : Nat
def PzV (W0 : World) (sb pb lb n m cr cu : Nat) (Ar Au : Option Addr) (xs ys : List Value) (s : Sg5) : Nat → Value → Prop
  | 0, v => v = .pointer (some ⟨sb, 0, none⟩)
  | 1, v => v = .slice Ar n cr
  | 2, v => v = .slice (some ⟨s.gb, 0, none⟩) n s.c1
  | 3, v => v = .pointer (some ⟨sb, 1, none⟩)
  | 4, v => v = .slice Au m cu
  | 5, v => v = .slice (some ⟨s.ub, 0, none⟩) m s.c2
  | 6, v => v = .agg #[.pointer (some ⟨pb, 0, none⟩), .pointer (some ⟨lb, 0, none⟩), .slice (some ⟨s.gb, 0, none⟩) n s.c1, .slice (some ⟨s.ub, 0, none⟩) m s.c2]
  | 7, v => v = .pointer (some ⟨s.wb, 0, none⟩)
  | 8, v => v = .pointer (some ⟨s.wb, 0, none⟩)
  | 9, v => v = .int .i64 0
  | _, _ => True
def PzW (W0 : World) (sb pb lb n m cr cu : Nat) (Ar Au : Option Addr) (xs ys : List Value) (s : Sg5) (l : Nat → Bool) (w : World) : Prop := Keep [] W0 w ∧ (l 2 = true → OwnS w 3 1 (some ⟨s.gb, 0, none⟩) n s.c1 xs [s.gb] ∧ W0.heap.size ≤ s.gb) ∧ (l 5 = true → OwnS w 4 1 (some ⟨s.ub, 0, none⟩) m s.c2 ys [s.ub] ∧ W0.heap.size ≤ s.ub) ∧ (l 7 = true → w.heap[s.wb]? = some (.cells #[.pointer (some ⟨pb, 0, none⟩), .pointer (some ⟨lb, 0, none⟩), .slice (some ⟨s.gb, 0, none⟩) n s.c1, .slice (some ⟨s.ub, 0, none⟩) m s.c2] 149 (0, 0)) ∧ W0.heap.size ≤ s.wb)
theorem start_any (D : Nat) (Ac : Option Addr) (cc : Nat) (Ab : Option Addr) (cb : Nat) (p : Prt) (Al : Option Addr) (cl : Nat) (As : Option Addr) (cs : Nat) (l : Pln) (Ar : Option Addr) (cr : Nat) (Au : Option Addr) (cu : Nat) (s : Stt) (w : World)
    (PB : PrtB D w Ac cc Ab cb p) (LB : PlnB D w Al cl As cs l) (SB : SttB D w Ar cr Au cu s) (hD : D ≤ w.heap.size) :
    Calls Try.prog 72 #[.agg (prtV Ac cc Ab cb p), .agg (sttV Ar cr Au cu s), .agg (plnV Al cl As cs l)] w (StartPost w D Ac cc Ab cb p Al cl As cs l s) := by
  obtain ⟨W, hW⟩ : ∃ W, W = ((w.alloc (.cells (prtV Ac cc Ab cb p) 26)).alloc (.cells (sttV Ar cr Au cu s) 42)).alloc (.cells (plnV Al cl As cs l) 31) := ⟨_, rfl⟩;have b0 : Below w.heap.size w W := by rw [hW]; exact (((Below.refl _ _).alloc (Nat.le_refl _) _).alloc (by simp) _).alloc (by simp; omega) _
  obtain ⟨pb, hpb⟩ : ∃ b, b = w.heap.size := ⟨_, rfl⟩;obtain ⟨sb, hsb⟩ : ∃ b, b = w.heap.size + 1 := ⟨_, rfl⟩;obtain ⟨lb, hlb⟩ : ∃ b, b = w.heap.size + 1 + 1 := ⟨_, rfl⟩;have hp : W.heap[pb]? = some (.cells (prtV Ac cc Ab cb p) 26 (0, 0)) := by rw [hW, hpb]; exact hA_ (hA_ (heap_alloc_new _ _) _) _
  have hs : W.heap[sb]? = some (.cells (sttV Ar cr Au cu s) 42 (0, 0)) := by
    rw [hW, hsb];refine hA_ ?_ _;have := heap_alloc_new (w.alloc (.cells (prtV Ac cc Ab cb p) 26)) (.cells (sttV Ar cr Au cu s) 42)
    rwa [World.size_alloc] at this
  have hl : W.heap[lb]? = some (.cells (plnV Al cl As cs l) 31 (0, 0)) := by
    rw [hW, hlb];have := heap_alloc_new ((w.alloc (.cells (prtV Ac cc Ab cb p) 26)).alloc (.cells (sttV Ar cr Au cu s) 42)) (.cells (plnV Al cl As cs l) 31)
    rwa [World.size_alloc, World.size_alloc] at this
  obtain ⟨er, her⟩ : ∃ er, er = checkL p l := ⟨_, rfl⟩;have kck := CheckPlan_any D Ac cc Ab cb p Al cl As cs l W (PB.below (b0.mono hD)) (LB.below (b0.mono hD)) (by have := b0.size; omega);rw [← her] at kck;have c0 : W.cell? ⟨pb, 0, none⟩ = some (.slice Ac p.chs.length cc) := (cOH hp 0).trans rfl;have c1 : W.cell? ⟨pb, 1, none⟩ = some (.slice Ab p.bts.length cb) := (cOH hp 1).trans rfl;have c2 : W.cell? ⟨pb, 2, none⟩ = some (.int .i64 p.tugs) := (cOH hp 2).trans rfl;have c3 : W.cell? ⟨lb, 0, none⟩ = some (.int .i64 l.hours) := (cOH hl 0).trans rfl;have c4 : W.cell? ⟨lb, 1, none⟩ = some (.slice Al l.calls.length cl) := (cOH hl 1).trans rfl;have c5 : W.cell? ⟨lb, 2, none⟩ = some (.slice As l.swps.length cs) := (cOH hl 2).trans rfl;have zp := hL_ hp;have zl := hL_ hl;have hcl := And.intro LB.c1 LB.c2;have hcs := And.intro SB.c1 SB.c2;have H := Lib.hid (And.intro PB (And.intro LB (And.intro SB (And.intro b0 (And.intro hp (And.intro hs (And.intro hl (And.intro her kck))))))));have hnew : w.heap.size ≤ pb ∧ w.heap.size ≤ lb ∧ pb ≠ lb := by omega
  clear PB LB SB b0 hp hs hl her kck
  go_enter Try.func72, Try.ntmps72
  go_upto_region 1 with fail
  rw [← hW, ← hlb, ← hsb, ← hpb];clear hW hlb hsb hpb;by_cases h0 : er = 0
  · subst h0;go_upto_region 4 with (go_at_call 52; refine H.out.2.2.2.2.2.2.2.2.mono ?_; rintro e w1 ⟨rfl, b1⟩; have B1 := Lib.hid b1; clear b1)
    have hck : checkL p l = 0 := H.out.2.2.2.2.2.2.2.1.symm;have hpv := checkP_ok (checkL_ok hck).1;have hpn := hpv.nc;have hbn := hpv.nb;have bw1 : Below w.heap.size w w1 := H.out.2.2.2.1.trans (B1.out.mono H.out.2.2.2.1.size);have hp1 := (B1.out.block _ (hL_ H.out.2.2.2.2.1)).trans H.out.2.2.2.2.1;have hs1 := (B1.out.block _ (hL_ H.out.2.2.2.2.2.1)).trans H.out.2.2.2.2.2.1;have hl1 := (B1.out.block _ (hL_ H.out.2.2.2.2.2.2.1)).trans H.out.2.2.2.2.2.2.1;have SB1 := H.out.2.2.1.below (bw1.mono hD);have H1 := Lib.hid (And.intro hck (And.intro bw1 (And.intro hp1 (And.intro hs1 (And.intro hl1 SB1)))));have hD1 : D ≤ w1.heap.size := by have := bw1.size; omega
    clear c0 c1 c2 c3 c4 c5 zp zl hck hpv bw1 hp1 hs1 hl1 SB1;have c0 : w1.cell? ⟨pb, 0, none⟩ = some (.slice Ac p.chs.length cc) := (cOH H1.out.2.2.1 0).trans rfl;have c1 : w1.cell? ⟨pb, 1, none⟩ = some (.slice Ab p.bts.length cb) := (cOH H1.out.2.2.1 1).trans rfl;have s0 : w1.cell? ⟨sb, 0, none⟩ = some (.slice Ar s.brash.length cr) := (cOH H1.out.2.2.2.1 0).trans rfl;have s1 : w1.cell? ⟨sb, 1, none⟩ = some (.slice Au s.busy.length cu) := (cOH H1.out.2.2.2.1 1).trans rfl;have zp := hL_ H1.out.2.2.1;have zs := hL_ H1.out.2.2.2.1;have bad : startE p s l = 1 → StartPost w D Ac cc Ab cb p Al cl As cs l s (.returned (.tuple #[.pointer none, .int .i64 1])) w1 := fun h => ⟨H1.out.2.1, .inl ⟨by rw [h]; decide, by rw [h]⟩⟩;have HBad := Lib.hid bad;clear bad;by_cases h1 : s.brash.length = p.chs.length
    · by_cases h2 : s.busy.length = p.bts.length
      · obtain ⟨a, ha⟩ : ∃ a, a = s.brash.any (fun n => !within n 0 1000000) := ⟨_, rfl⟩;have kany := anyBad_any (fun n => !within n 0 1000000) Ar cr s.brash w1 (H1.out.2.2.2.2.2.br.rd hD1) (by omega) (fun x hx n => (stBad_any x _).mono fun e w' ⟨h, h'⟩ => ⟨h, n, h'.symm⟩);rw [← ha] at kany;have q1 : ((s.brash.length : Int) != (p.chs.length : Int)) = false := by simp [h1]
        have q2 : ((s.busy.length : Int) != (p.bts.length : Int)) = false := by simp [h2]
        have HA := Lib.hid (And.intro ha (And.intro kany (And.intro h1 h2)));obtain ⟨n, hn⟩ : ∃ n, n = s.brash.length := ⟨_, rfl⟩;obtain ⟨m, hm⟩ : ∃ m, m = s.busy.length := ⟨_, rfl⟩;have hn1 : 1 ≤ n ∧ n ≤ 6 := by omega
        have hm1 : 1 ≤ m ∧ m ≤ 4 := by omega
        have HNM := Lib.hid (And.intro hn hm);clear ha kany h1 h2;cases a
        · go_upto_region 6 with (go_at_call 20; refine HA.out.2.1.mono ?_; rintro e w2 ⟨rfl, mm, rfl⟩)
          obtain ⟨W2, hW2⟩ : ∃ W2, W2 = w1.drewN mm := ⟨_, rfl⟩;rw [← hW2];have k2 : Keep [] w1 W2 := by rw [hW2]; exact (Keep.refl _ _).drewN _
          have C1 := fun wx (hk : Keep [] W2 wx) => clonePtI_any Ar n cr (ints s.brash) wx (by rw [HNM.out.1]; exact (k2.trans hk (by simp)).rd (H1.out.2.2.2.2.2.br.rd hD1) (by simp)) (by intro u hu; simp [ints] at hu; obtain ⟨y, _, rfl⟩ := hu; rfl) (fun h => ⟨by have := hcs.1.2.2 h; have := hcs.1.1; omega, hcs.1.2.2 h⟩) (by omega);have C2 := fun wx (hk : Keep [] W2 wx) => clonePtB_any Au m cu (bools s.busy) wx (by rw [HNM.out.2]; exact (k2.trans hk (by simp)).rd (H1.out.2.2.2.2.2.bu.rd hD1) (by simp)) (by intro u hu; simp [bools] at hu; rcases hu with ⟨_, rfl⟩ | ⟨_, rfl⟩ <;> rfl) (fun h => ⟨by have := hcs.2.2.2 h; have := hcs.2.1; omega, hcs.2.2.2 h⟩) (by omega);have HC := Lib.hid (And.intro C1 C2);rw [← hn] at s0;rw [← hm] at s1;have HX := Lib.hid (And.intro (k2.cell s0 (by simp)) (k2.cell s1 (by simp)));have HK2 := Lib.hid k2;clear C1 C2 s0 s1 k2 hW2 c0 c1 zp zs hn hm;refine wRS (σ := Sg5) (by kernel_rfl) (by kernel_rfl) (fun sg jx vx _ => PzV W2 sb pb lb n m cr cu Ar Au (ints s.brash) (bools s.busy) sg jx vx) (fun sg ly wx => PzW W2 sb pb lb n m cr cu Ar Au (ints s.brash) (bools s.busy) sg ly wx) ⟨0, 0, 0, 0, 0⟩ ?_ ?_ ?_
          · exact ⟨(Keep.refl _ _).drew, (fun h => absurd h (by simp)), (fun h => absurd h (by simp)), (fun h => absurd h (by simp))⟩
          · simp only [AllFrom, Nat.zero_add, Nat.reduceAdd];refine ⟨?_, ?_, ?_, ?_, ?_, ?_, ?_, ?_, ?_, ?_, trivial⟩
            · refine sP_ fun sg ly a wr hl hd hW hF => ?_;have et4 := hF.old 4 (by kernel_rfl);simp [Act.eval] at et4;exact ⟨by simpa [PzW, upd] using hW, .pointer (some ⟨sb, 0, none⟩), by go_simp, rfl⟩
            · refine sP_ fun sg ly a wr hl hd hW hF => ?_;simp [Region.binds] at hd;have et36 := hF.new 0 36 (by simp [hd]) rfl;simp [PzV, Act.eval] at et36;have c0 := hW.1.cell HX.out.1 (by simp);exact ⟨by simpa [PzW, upd] using hW, _, by go_simp, rfl⟩
            · refine sC_ fun sg ly a wr hl hd hW hF => ?_;simp [Region.binds] at hd;have et37 := hF.new 1 37 (by simp [hd]) rfl;simp [PzV, Act.eval] at et37;have n6 := hF.notYet 2 6 hl (by kernel_rfl);have n7_6 := hF.notYet 2 6 hl (by kernel_rfl);have n7 := hF.notYet 6 7 n7_6 (by kernel_rfl);have n8_6 := hF.notYet 2 6 hl (by kernel_rfl);have n8_7 := hF.notYet 6 7 n8_6 (by kernel_rfl);have n8 := hF.notYet 7 8 n8_7 (by kernel_rfl);refine ⟨82, #[.slice Ar n cr], by go_simp, ?_⟩;refine (HC.out.1 wr hW.1).mono ?_;rintro e w2 ⟨A', c', q, rfl, h1, h2, h3⟩;obtain ⟨g, rfl, rfl, hg1, hg2, hg3⟩ := h1.some_ (by omega);have hgw := h2 g (by simp);refine ⟨_, { sg with gb := g, c1 := c' }, rfl, ⟨hW.1.trans (Keep.of_below (S := []) h3) (by simp), (fun _ => ⟨h1, Nat.le_trans hW.1.size hgw⟩), (fun h => ⟨(hW.2.2.1 (by simpa [upd] using h)).1.keepS (Keep.of_below (S := []) h3) (by simp), (hW.2.2.1 (by simpa [upd] using h)).2⟩), fun h => absurd h (by simp [upd, n7])⟩, rfl, ?_⟩;intro i u hi h;have i2 : i ≠ 2 := by rintro rfl; rw [hl] at hi; cases hi
              have i26 : i ≠ 6 := by rintro rfl; rw [n6] at hi; cases hi
              have i27 : i ≠ 7 := by rintro rfl; rw [n7] at hi; cases hi
              have i28 : i ≠ 8 := by rintro rfl; rw [n8] at hi; cases hi
              unfold PzV at h ⊢;split at h <;> first | exact h | exact absurd rfl i2 | exact absurd rfl i26 | exact absurd rfl i27 | exact absurd rfl i28
            · refine sP_ fun sg ly a wr hl hd hW hF => ?_;have et4 := hF.old 4 (by kernel_rfl);simp [Act.eval] at et4;exact ⟨by simpa [PzW, upd] using hW, .pointer (some ⟨sb, 1, none⟩), by go_simp, rfl⟩
            · refine sP_ fun sg ly a wr hl hd hW hF => ?_;simp [Region.binds] at hd;have et39 := hF.new 3 39 (by simp [hd]) rfl;simp [PzV, Act.eval] at et39;have c0 := hW.1.cell HX.out.2 (by simp);exact ⟨by simpa [PzW, upd] using hW, _, by go_simp, rfl⟩
            · refine sC_ fun sg ly a wr hl hd hW hF => ?_;simp [Region.binds] at hd;have et40 := hF.new 4 40 (by simp [hd]) rfl;simp [PzV, Act.eval] at et40;have n6 := hF.notYet 5 6 hl (by kernel_rfl);have n7_6 := hF.notYet 5 6 hl (by kernel_rfl);have n7 := hF.notYet 6 7 n7_6 (by kernel_rfl);have n8_6 := hF.notYet 5 6 hl (by kernel_rfl);have n8_7 := hF.notYet 6 7 n8_6 (by kernel_rfl);have n8 := hF.notYet 7 8 n8_7 (by kernel_rfl);refine ⟨122, #[.slice Au m cu], by go_simp, ?_⟩;refine (HC.out.2 wr hW.1).mono ?_;rintro e w2 ⟨A', c', q, rfl, h1, h2, h3⟩;obtain ⟨g, rfl, rfl, hg1, hg2, hg3⟩ := h1.some_ (by omega);have hgw := h2 g (by simp);refine ⟨_, { sg with ub := g, c2 := c' }, rfl, ⟨hW.1.trans (Keep.of_below (S := []) h3) (by simp), (fun h => ⟨(hW.2.1 (by simpa [upd] using h)).1.keepS (Keep.of_below (S := []) h3) (by simp), (hW.2.1 (by simpa [upd] using h)).2⟩), (fun _ => ⟨h1, Nat.le_trans hW.1.size hgw⟩), fun h => absurd h (by simp [upd, n7])⟩, rfl, ?_⟩;intro i u hi h;have i2 : i ≠ 5 := by rintro rfl; rw [hl] at hi; cases hi
              have i26 : i ≠ 6 := by rintro rfl; rw [n6] at hi; cases hi
              have i27 : i ≠ 7 := by rintro rfl; rw [n7] at hi; cases hi
              have i28 : i ≠ 8 := by rintro rfl; rw [n8] at hi; cases hi
              unfold PzV at h ⊢;split at h <;> first | exact h | exact absurd rfl i2 | exact absurd rfl i26 | exact absurd rfl i27 | exact absurd rfl i28
            · refine sP_ fun sg ly a wr hl hd hW hF => ?_;simp [Region.binds] at hd;have et3 := hF.old 3 (by kernel_rfl);simp [Act.eval] at et3;have et5 := hF.old 5 (by kernel_rfl);simp [Act.eval] at et5;have et38 := hF.new 2 38 (by simp [hd]) rfl;simp [PzV, Act.eval] at et38;have et41 := hF.new 5 41 (by simp [hd]) rfl;simp [PzV, Act.eval] at et41;exact ⟨by simpa [PzW, upd] using hW, .agg #[.pointer (some ⟨pb, 0, none⟩), .pointer (some ⟨lb, 0, none⟩), .slice (some ⟨sg.gb, 0, none⟩) n sg.c1, .slice (some ⟨sg.ub, 0, none⟩) m sg.c2], by go_simp, rfl⟩
            · refine sR_ fun sg ly a wr hl hd hW hF => ?_;simp [Region.binds] at hd;have et42 := hF.new 6 42 (by simp [hd]) rfl;simp [PzV, Act.eval] at et42;have n8 := hF.notYet 7 8 hl (by kernel_rfl);have hK : Keep [] wr (wr.alloc (.cells #[.pointer (some ⟨pb, 0, none⟩), .pointer (some ⟨lb, 0, none⟩), .slice (some ⟨sg.gb, 0, none⟩) n sg.c1, .slice (some ⟨sg.ub, 0, none⟩) m sg.c2] 149)) := (Keep.refl _ _).alloc _;refine ⟨_, wr.alloc (.cells #[.pointer (some ⟨pb, 0, none⟩), .pointer (some ⟨lb, 0, none⟩), .slice (some ⟨sg.gb, 0, none⟩) n sg.c1, .slice (some ⟨sg.ub, 0, none⟩) m sg.c2] 149), { sg with wb := wr.heap.size }, by go_simp, ⟨hW.1.alloc _, (fun h => ⟨(hW.2.1 (by simpa [upd] using h)).1.keepS hK (by simp), (hW.2.1 (by simpa [upd] using h)).2⟩), (fun h => ⟨(hW.2.2.1 (by simpa [upd] using h)).1.keepS hK (by simp), (hW.2.2.1 (by simpa [upd] using h)).2⟩), (fun _ => ⟨heap_alloc_new _ _, hW.1.size⟩)⟩, rfl, ?_⟩;intro i u hi h;have i2 : i ≠ 7 := by rintro rfl; rw [hl] at hi; cases hi
              have i28 : i ≠ 8 := by rintro rfl; rw [n8] at hi; cases hi
              unfold PzV at h ⊢;split at h <;> first | exact h | exact absurd rfl i2 | exact absurd rfl i28
            · refine sP_ fun sg ly a wr hl hd hW hF => ?_;simp [Region.binds] at hd;have et43 := hF.new 7 43 (by simp [hd]) rfl;simp [PzV, Act.eval] at et43;exact ⟨by simpa [PzW, upd] using hW, .pointer (some ⟨sg.wb, 0, none⟩), by go_simp, rfl⟩
            · refine sP_ fun sg ly a wr hl hd hW hF => ?_;exact ⟨by simpa [PzW, upd] using hW, .int .i64 0, by go_simp, rfl⟩
          intro sg a w3 hWW hF;have e6 := hF.new 8 6 (by decide) rfl;have e7 := hF.new 9 7 (by decide) rfl;obtain ⟨f3, hf3, rfl⟩ := hF.lit;rw [← hf3] at e6 e7;simp only [PzV] at e6 e7;obtain ⟨kp3, o1, o2, o3⟩ := hWW;obtain ⟨o1, o1'⟩ := o1 (by simp);obtain ⟨o2, o2'⟩ := o2 (by simp);obtain ⟨o3, o3'⟩ := o3 (by simp);have HF := Lib.hid (And.intro kp3 (And.intro o1 (And.intro o1' (And.intro o2 (And.intro o2' (And.intro o3 o3'))))));clear hf3 hF kp3 o1 o1' o2 o2' o3 o3';simp only [List.filterMap, List.foldl, List.setIfInBounds_toArray, List.set_cons_succ, List.set_cons_zero, e6, e7];clear e6 e7;go_wp2_with fail
          go_ret2
          obtain ⟨kp3, o1, o1', o2, o2', o3, o3'⟩ := HF.out;have hst := startE_3 (s := s) H1.out.1 HA.out.2.2.1 HA.out.2.2.2 HA.out.1.symm;have kk := HK2.out.trans kp3 (by simp);have bw3 : Below w.heap.size w w3 := H1.out.2.1.trans (kk.below H1.out.2.1.size (by simp));have hh : w.heap.size ≤ W2.heap.size := Nat.le_trans H1.out.2.1.size HK2.out.size;have zw1 := hL_ H1.out.2.2.1;have zl1 := hL_ H1.out.2.2.2.2.1;have hw12 := HK2.out.size;have hgu : sg.gb ≠ sg.ub := fun e => by
            obtain ⟨g1, cur1, e1, _, h1, _⟩ := o1.2.resolve_left (fun h => by cases h.1);obtain ⟨g2, cur2, e2, _, h2, _⟩ := o2.2.resolve_left (fun h => by cases h.1);injection e1 with e1; injection e1 with e1 _ _
            injection e2 with e2; injection e2 with e2 _ _
            subst e1; subst e2;rw [e, h2] at h1;injection h1 with h1; injection h1 with _ h1
            exact absurd h1 (by decide)
          have hgw : sg.gb ≠ sg.wb ∧ sg.ub ≠ sg.wb := ⟨fun e => by
            obtain ⟨g1, cur1, e1, _, h1, _⟩ := o1.2.resolve_left (fun h => by cases h.1);injection e1 with e1; injection e1 with e1 _ _
            subst e1;rw [e, o3] at h1;injection h1 with h1; injection h1 with _ h1
            exact absurd h1 (by decide), fun e => by
            obtain ⟨g1, cur1, e1, _, h1, _⟩ := o2.2.resolve_left (fun h => by cases h.1);injection e1 with e1; injection e1 with e1 _ _
            subst e1;rw [e, o3] at h1;injection h1 with h1; injection h1 with _ h1
            exact absurd h1 (by decide)⟩
          have hnp : n = p.chs.length := by rw [HNM.out.1]; exact HA.out.2.2.1
          have hmp : m = p.bts.length := by rw [HNM.out.2]; exact HA.out.2.2.2
          refine ⟨bw3, .inr ⟨hst, ⟨sg.wb, pb, lb, sg.gb, sg.ub, sg.c1, sg.c2, D, Ac, Ab, Al, As, cc, cb, cl, cs, p, l⟩, ⟨⟨rfl, rfl, rfl, rfl, rfl, rfl, rfl, rfl, rfl, rfl, rfl⟩, ⟨by simp only; omega, hnew.1, hnew.2.1, by simp only; omega, by simp only; omega⟩, ⟨hgu, ⟨hgw.1, by simp only; omega, by simp only; omega, by simp only; omega⟩, ⟨hgw.2, by simp only; omega, by simp only; omega, by simp only; omega⟩⟩, ⟨?_, (kk.block _ zw1 (by simp)).trans H1.out.2.2.1, (kk.block _ zl1 (by simp)).trans H1.out.2.2.2.2.1, H.out.1.below (bw3.mono hD), H.out.2.1.below (bw3.mono hD), by have := bw3.size; simp only; omega⟩⟩, ⟨Keep.refl _ _, by simp only; rw [← hnp]; exact o1, by simp only; rw [← hmp]; exact o2⟩, rfl⟩⟩;simp only [wkV, brV, buV];rw [← hnp, ← hmp];exact o3
        · clear hn hm;go_wp2_with (go_at_call 20; refine HA.out.2.1.mono ?_; rintro e w2 ⟨rfl, mm, rfl⟩)
          go_ret2
          have h := startE_2 (s := s) H1.out.1 (.inr (.inr HA.out.1.symm));exact ⟨below_drewN H1.out.2.1 _, .inl ⟨by rw [h]; decide, by rw [h]; rfl⟩⟩
      · have q1 : ((s.brash.length : Int) != (p.chs.length : Int)) = false := by simp [h1]
        have q2 : ((s.busy.length : Int) != (p.bts.length : Int)) = true := by simpa using (show ¬ (s.busy.length : Int) = (p.bts.length : Int) by omega)
        have h := HBad.out (startE_2 H1.out.1 (.inr (.inl h2)));have HF := Lib.hid h;clear h h1 h2;go_wp2_with fail
        go_ret2
        exact HF.out
    · have q1 : ((s.brash.length : Int) != (p.chs.length : Int)) = true := by simpa using (show ¬ (s.brash.length : Int) = (p.chs.length : Int) by omega)
      have h := HBad.out (startE_2 H1.out.1 (.inl h1));have HF := Lib.hid h;clear h h1;go_wp2_with fail
      go_ret2
      exact HF.out
  · have hne : (er != 0) = true := by simp [h0]
    have hc := startE_1 (s := s) H.out.2.2.2.2.2.2.2.1.symm h0;have HC := Lib.hid (And.intro hc h0);clear hc h0;go_wp2_with (go_at_call 52; refine H.out.2.2.2.2.2.2.2.2.mono ?_; rintro e w1 ⟨rfl, b1⟩)
    go_ret2
    exact ⟨H.out.2.2.2.1.trans (b1.mono H.out.2.2.2.1.size), .inl ⟨by rw [HC.out.1]; exact HC.out.2, by rw [HC.out.1]; rfl⟩⟩
end Go.Proofs.Ythmldeningpjbaa
namespace Go.Proofs.Ythmldeningpjbaa
open Go Go.ChangeShapes Go.WideShapes Go.ChangeAt Go.RowKit Sp Pt
section
variable {H : Type} {enc : TypeId × Value → H} {w : World}
theorem open_stt {r : Reach} {b0 : Nat} {v : Value} {d : DataW H} {ps : List MemPlace} (hval : Value.okWide Try.prog w r b0 42 v) (hd : DataW.Trod enc Try.prog w 0 (fun _ => true) true 42 v d ps) :
    ∃ (Ar : Option Addr) (cr : Nat) (Au : Option Addr) (cu : Nat) (s : Stt), v = .agg (sttV Ar cr Au cu s) ∧ SttB w.heap.size w Ar cr Au cu s := by
  obtain ⟨cs, rfl, fuel, h⟩ := open_agg Try.underlying42 hval hd;obtain ⟨xs, m, rfl, _, hlen, hxl, hf⟩ := DataW.trod_struct Try.underlying42 h;have hc : Try.prog.cellsOf 42 = 2 := by kernel_rfl
  have hs1 : Try.prog.cellsOf 33 = 1 := by kernel_rfl
  have hs2 : Try.prog.cellsOf 40 = 1 := by kernel_rfl
  have h1 : Try.prog.cellsOf 3 = 1 := by kernel_rfl
  have h2 : Try.prog.cellsOf 4 = 1 := by kernel_rfl
  rw [hc] at hlen;have get : ∀ i, i < 2 → ∃ y, xs[i]? = some y := fun i h => ⟨_, List.getElem?_eq_getElem (by rw [hxl]; exact h)⟩
  match hcs : cs.toList, hlen with
  | [c0, c1], _ =>
    rw [hcs] at hf;obtain ⟨y0, e0⟩ := get 0 (by omega);obtain ⟨y1, e1⟩ := get 1 (by omega);have g0 := (hf 0 _ rfl).trans e0;have g1 := (hf 1 _ rfl).trans e1;simp [hs1, hs2] at g0 g1;obtain ⟨Ar, cr, lr, hv0, hr0, _, a6, a7, a8⟩ := open_rows Try.underlying33 h1 (by omega) elp_int g0;obtain ⟨Au, cu, lu, hv1, hr1, _, b6, b7, b8⟩ := open_rows Try.underlying40 h2 (by omega) elp_bool g1;rw [flat_intsP] at hr0;rw [flat_boolsP] at hr1;simp at hv0 hv1;refine ⟨Ar, cr, Au, cu, ⟨lr, lu⟩, ?_, ⟨RdB.of hr0 (Nat.le_refl _), RdB.of hr1 (Nat.le_refl _), ⟨a6, a7, fun e => (a8 e).2⟩, ⟨b6, b7, fun e => (b8 e).2⟩⟩⟩;rw [hv0, hv1] at hcs;exact congrArg Value.agg (Array.ext' hcs)
end
end Go.Proofs.Ythmldeningpjbaa
namespace Go.Proofs.Ythmldeningpjbaa
open Go Go.RowKit Sp Pt
structure PathN (S : List Nat) (w : World) (A : Option Addr) (c : Nat) (l : List Int) : Prop where
  rd : Rd w 1 A l.length (ints l)
  off : 0 < l.length → ∀ b o, A = some ⟨b, o, none⟩ → b ∉ S
  ge : l.length ≤ c
  cap : c ≤ 9223372036854775807
  nil : A = none → c = 0
section
variable {S S' : List Nat} {w w' : World} {A : Option Addr} {c : Nat} {l : List Int}
theorem PathN.of_pathB {D : Nat} (h : PathB D w A c l) (hD : D ≤ w.heap.size) (hS : ∀ x ∈ S, D ≤ x) : PathN S w A c l :=
  ⟨h.1.rd hD, fun h0 b o e hm => by
    obtain ⟨b', o', e', hb, _⟩ := h.1.2 h0;rw [e] at e';injection e' with e'
    injection e' with e1
    have := hS b hm;omega, h.2.1, h.2.2.1, h.2.2.2⟩
theorem PathN.pathB (h : PathN S w A c l) : PathB w.heap.size w A c l := ⟨RdB.of h.rd (Nat.le_refl _), h.ge, h.cap, h.nil⟩
theorem PathN.of_ownA {e : TypeId} {q : List Nat} (h : OwnA w e A l.length c (ints l) q) (hS : ∀ g ∈ q, g ∉ S) : PathN S w A c l := by
  refine ⟨h.rd, fun h0 b o he hm => hS b (h.mem_ h0 he) hm, h.ge, ?_, fun hA => ?_⟩
  · rcases h.2 with ⟨_, _, rfl, _⟩ | ⟨g, off, cur, _, _, _, _, h, _⟩
    · omega
    · exact h
  · rcases h.2 with ⟨_, _, h2, _⟩ | ⟨g, off, cur, h1, _⟩
    · exact h2
    · rw [hA] at h1; cases h1
theorem PathN.keep (h : PathN S w A c l) {T : List Nat} (hk : Keep T w w') (hT : ∀ x ∈ T, x ∈ S ∨ w.heap.size ≤ x) (hS : ∀ x ∈ S', x ∈ S ∨ w.heap.size ≤ x) : PathN S' w' A c l := by
  have hlt : ∀ b o, 0 < l.length → A = some ⟨b, o, none⟩ → b < w.heap.size := fun b o h0 e => by
    obtain ⟨b', o', e', hb, _⟩ := h.rd.2 h0;rw [e] at e';injection e' with e'
    injection e' with e1
    omega
  by_cases h0 : 0 < l.length
  · refine ⟨hk.rd h.rd fun b o e hm => ?_, fun _ b o e hm => ?_, h.ge, h.cap, h.nil⟩
    · have := hlt b o h0 e;rcases hT b hm with h1 | h1
      · exact h.off h0 b o e h1
      · omega
    · have := hlt b o h0 e;rcases hS b hm with h1 | h1
      · exact h.off h0 b o e h1
      · omega
  · exact ⟨⟨h.rd.1, fun h1 => absurd h1 h0⟩, fun h1 => absurd h1 h0, h.ge, h.cap, h.nil⟩
theorem PathN.below (h : PathN S w A c l) (hb : Below w.heap.size w w') : PathN S w' A c l := h.keep (T := []) (Keep.of_below hb) (by simp) (fun x hx => .inl hx)
end
def PathsN (S : List Nat) (w : World) (L : List BrR) : Prop := ∀ y ∈ L, PathN S w y.A y.c y.b.path
section
variable {S S' : List Nat} {w w' : World} {L : List BrR}
theorem PathsN.keep (h : PathsN S w L) {T : List Nat} (hk : Keep T w w') (hT : ∀ x ∈ T, x ∈ S ∨ w.heap.size ≤ x) (hS : ∀ x ∈ S', x ∈ S ∨ w.heap.size ≤ x) : PathsN S' w' L := fun y hy => (h y hy).keep hk hT hS
theorem PathsN.below (h : PathsN S w L) (hb : Below w.heap.size w w') : PathsN S w' L := fun y hy => (h y hy).below hb
theorem PathsN.set (h : PathsN S w L) {k : Nat} {y : BrR} (hy : PathN S w y.A y.c y.b.path) : PathsN S w (L.set k y) := fun z hz => by
  rcases List.mem_or_eq_of_mem_set hz with h1 | rfl
  · exact h z h1
  · exact hy
theorem PathsN.snoc (h : PathsN S w L) {y : BrR} (hy : PathN S w y.A y.c y.b.path) : PathsN S w (L ++ [y]) := fun z hz => by
  rcases List.mem_append.1 hz with h1 | h1
  · exact h z h1
  · rw [List.mem_singleton.1 h1]; exact hy
end
theorem brcs_set {L : List BrR} {k : Nat} (hk : k < L.length) (A : Option Addr) (c : Nat) : brcs (L.set k ⟨L[k].b, A, c⟩) = (brcs L).set (k * 2 + 1) (.slice A L[k].b.path.length c) := by
  induction L generalizing k with
  | nil => simp at hk
  | cons x L ih =>
    cases k with
    | zero => simp [brcs, brc]
    | succ k =>
      have := ih (k := k) (by simpa using hk);simp only [List.set_cons_succ, brcs, List.flatMap_cons, List.getElem_cons_succ] at this ⊢;rw [this];simp [brc, show (k + 1) * 2 + 1 = k * 2 + 1 + 1 + 1 from by omega]
theorem map_set_b {L : List BrR} {k : Nat} (hk : k < L.length) (A : Option Addr) (c : Nat) : (L.set k ⟨L[k].b, A, c⟩).map (·.b) = L.map (·.b) := by
  rw [List.map_set];have : (L.map (·.b))[k]'(by simpa using hk) = L[k].b := by simp
  rw [← this, List.set_getElem_self]
theorem OwnS.nilS {w : World} {e : TypeId} {sz : Nat} {A : Option Addr} {n c : Nat} {xs : List Value} {q : List Nat} (h : OwnS w e sz A n c xs q) (hA : A = none) : c = 0 := by
  rcases h.2 with ⟨_, _, h2, _⟩ | ⟨g, cur, h1, _⟩
  · exact h2
  · rw [hA] at h1; cases h1
theorem PrtB.of_own {w : World} {e1 e2 : TypeId} {Ac Ab : Option Addr} {cc cb : Nat} {q1 q2 S : List Nat} {p : Prt} {L : List BrR} (h1 : OwnS w e1 3 Ac p.chs.length cc (chcs p.chs) q1) (h2 : OwnS w e2 2 Ab p.bts.length cb (brcs L) q2) (hL : L.map (·.b) = p.bts) (hp : PathsN S w L) : PrtB w.heap.size w Ac cc Ab cb p :=
  ⟨RdB.of h1.rd (Nat.le_refl _), BtsB.of_rows hL (RdB.of h2.rd (Nat.le_refl _)) (fun y hy => (hp y hy).pathB), ⟨h1.ge, h1.cap, h1.nilS⟩, ⟨h2.ge, h2.cap, h2.nilS⟩⟩
theorem PlnB.of_own {w : World} {e1 e2 : TypeId} {Al As : Option Addr} {cl cs : Nat} {q1 q2 : List Nat} {l : Pln} (h1 : OwnS w e1 6 Al l.calls.length cl (cacs l.calls) q1) (h2 : OwnS w e2 3 As l.swps.length cs (swcs l.swps) q2) : PlnB w.heap.size w Al cl As cs l :=
  ⟨RdB.of h1.rd (Nat.le_refl _), RdB.of h2.rd (Nat.le_refl _), ⟨h1.ge, h1.cap, h1.nilS⟩, ⟨h2.ge, h2.cap, h2.nilS⟩⟩
end Go.Proofs.Ythmldeningpjbaa
namespace Go.Proofs.Ythmldeningpjbaa
open Go Go.RowKit Sp Pt
def longP (b : Brt) : Bool := decide (10 < b.path.length)
def heavyB (p : Prt) (l : Pln) (nb nu : Nat) : Bool := decide (10 < p.chs.length) || (decide (8 < p.bts.length) || (p.bts.any longP || (decide (70 < l.calls.length) || (decide (210 < l.swps.length) || (decide (10 < nb) || decide (10 < nu))))))
theorem heavy1_any (b : Brt) (A : Option Addr) (c : Nat) (w : World) : Calls Try.prog 84 #[.agg #[.int .i64 b.depth, .slice A b.path.length c]] w fun e w' => e = .returned (.bool (longP b)) ∧ Below w.heap.size w w' := by
  by_cases h : 10 < b.path.length;all_goals
    have h1 : longP b = decide (10 < b.path.length) := rfl
    go_enter Try.func84, Try.ntmps84
    go_wp2_with fail
    go_ret;exact ⟨by rw [h1]; simp [h]; try omega, by first | exact Below.refl _ _ | exact (Below.refl _ _).alloc (Nat.le_refl _) _⟩
theorem heavyI_any (A : Option Addr) (c : Nat) (L : List BrR) (w : World) (hr : Rd w 2 A L.length (brcs L)) (hm : L.length ≤ 9223372036854775807) :
    Calls Try.prog 126 #[.slice A L.length c, .func (.func 84) #[] #[]] w fun e w' => ∃ r : Int, e = .returned (.int .i64 r) ∧ decide (0 ≤ r) = L.any (fun y => longP y.b) ∧ Below w.heap.size w w' := by
  go_enter Try.func126, Try.ntmps126
  go_wp2_with fail
  go_loopg [8] (L.length) (fun g i wr => ∃ k : Nat, g + k = L.length ∧ i = .int .i64 k ∧ (L.take k).any (fun y => longP y.b) = false ∧ Below w.heap.size w wr)
  case atStart => exact ⟨0, rfl, rfl, by simp, Below.refl _ _⟩
  case round =>
    obtain ⟨k, hk, rfl, hb, hB⟩ := hrel;have HB := Lib.hid (And.intro hb hB);by_cases hlt : k < L.length
    · obtain ⟨b, off, rfl, hbb, hc⟩ := hr.2 (by omega);obtain ⟨g0, g1⟩ := brcs_get hlt;have c0 := (hB.cell (p := ⟨b, off + k * 2, none⟩) hbb).trans (hc _ _ g0);have c1 : wr.cell? ⟨b, off + k * 2 + 1, none⟩ = _ := (hB.cell (p := ⟨b, off + (k * 2 + 1), none⟩) hbb).trans (hc _ _ g1);obtain ⟨y, hy⟩ : ∃ y, y = L[k] := ⟨_, rfl⟩;rw [← hy] at c0 c1;obtain ⟨z, hz⟩ : ∃ z, z = longP y.b := ⟨_, rfl⟩;have H := fun wx => heavy1_any y.b y.A y.c wx;rw [← hz] at H;have hs : (L.take (k + 1)).any (fun y => longP y.b) = z := by rw [List.take_succ_eq_append_getElem hlt, List.any_append, hb, ← hy, hz]; simp
      have HH := Lib.hid (And.intro H hs);have hn1 : (0 : Int) ≤ (k : Int) := by omega
      clear H hs hz hy hc hr hb hB g0 g1;cases z
      · go_wp2_with (go_at_call 84; refine (HH.out.1 _).mono ?_; rintro e w' ⟨rfl, b'⟩; have HB' := Lib.hid b'; clear b')
        go_roundg (gk - 1);case measure => omega
        case rel => exact ⟨k + 1, by omega, by go_num, HH.out.2, HB.out.2.trans (HB'.out.mono HB.out.2.size)⟩
      · go_wp2_with (go_at_call 84; refine (HH.out.1 _).mono ?_; rintro e w' ⟨rfl, b'⟩; have HB' := Lib.hid b'; clear b')
        go_ret;refine ⟨k, rfl, ?_, HB.out.2.trans (HB'.out.mono HB.out.2.size)⟩;have h1 : L.any (fun y => longP y.b) = true := by
          obtain ⟨y, hy, hfy⟩ := List.any_eq_true.1 HH.out.2;exact List.any_eq_true.2 ⟨y, List.mem_of_mem_take hy, hfy⟩
        rw [h1]; simp
    · obtain rfl : k = L.length := by omega
      go_wp2_with fail
      go_ret;exact ⟨-1, rfl, by have := HB.out.1; rw [List.take_length] at this; rw [this]; simp, HB.out.2⟩
theorem heavyC_any (A : Option Addr) (c : Nat) (L : List BrR) (w : World) (hr : Rd w 2 A L.length (brcs L)) (hm : L.length ≤ 9223372036854775807) :
    Calls Try.prog 83 #[.slice A L.length c, .func (.func 84) #[] #[]] w fun e w' => e = .returned (.bool (L.any (fun y => longP y.b))) ∧ Below w.heap.size w w' := by
  have H := heavyI_any A c L w hr hm
  go_enter Try.func83, Try.ntmps83
  go_wp2_with (go_at_call 126; refine H.mono ?_; rintro e w' ⟨r, rfl, hd, hB⟩; have HD := Lib.hid (And.intro hd hB); clear hd hB)
  go_ret;exact ⟨by rw [← HD.out.1]; rfl, HD.out.2⟩
theorem heavy_any (D : Nat) (Ac : Option Addr) (cc : Nat) (Ab : Option Addr) (cb : Nat) (p : Prt) (Al : Option Addr) (cl : Nat) (As : Option Addr) (cs : Nat) (l : Pln) (Ar : Option Addr) (nb cr : Nat) (Au : Option Addr) (nu cu : Nat) (w : World)
    (hp : PrtB D w Ac cc Ab cb p) (hD : D ≤ w.heap.size) :
    Calls Try.prog 30 #[.agg (prtV Ac cc Ab cb p), .agg (plnV Al cl As cs l), .agg #[.slice Ar nb cr, .slice Au nu cu]] w fun e w' => e = .returned (.bool (heavyB p l nb nu)) ∧ Below w.heap.size w w' := by
  obtain ⟨L, hL, hrd, _⟩ := hp.bts.rows;have hlen : L.length = p.bts.length := by rw [← hL]; simp
  have hm : L.length ≤ 9223372036854775807 := by have := hp.c2.1; have := hp.c2.2.1; omega
  have hcont : ∀ wx, Below w.heap.size w wx → Calls Try.prog 83 #[.slice Ab p.bts.length cb, .func (.func 84) #[] #[]] wx fun e w' => e = .returned (.bool (p.bts.any longP)) ∧ Below wx.heap.size wx w' := by
    intro wx hb;have h := heavyC_any Ab cb L wx (by rw [hlen]; exact ((hrd.mono hD).below hb).rd hb.size) hm;rw [hlen] at h;refine h.mono ?_;rintro e w' ⟨rfl, hB⟩;exact ⟨by rw [← hL, List.any_map]; rfl, hB⟩
  obtain ⟨z, hz⟩ : ∃ z, z = p.bts.any longP := ⟨_, rfl⟩;rw [← hz] at hcont;have hv : heavyB p l nb nu = (decide (10 < p.chs.length) || (decide (8 < p.bts.length) || (z || (decide (70 < l.calls.length) || (decide (210 < l.swps.length) || (decide (10 < nb) || decide (10 < nu))))))) := by rw [hz]; rfl
  have b3 : ∀ o1 o2 o3, Below w.heap.size w (((w.alloc o1).alloc o2).alloc o3) := fun _ _ _ => (((Below.refl _ _).alloc (Nat.le_refl _) _).alloc (by simp) _).alloc (by simp; omega) _;have H := Lib.hid (And.intro hcont (And.intro hv b3));clear hcont hv b3 hp hL hrd hz hm hlen;by_cases h1 : 10 < p.chs.length
  · go_enter Try.func30, Try.ntmps30
    go_wp2_with fail
    go_ret;exact ⟨by rw [H.out.2.1]; simp [h1], H.out.2.2 _ _ _⟩
  by_cases h2 : 8 < p.bts.length
  · go_enter Try.func30, Try.ntmps30
    go_wp2_with fail
    go_ret;exact ⟨by rw [H.out.2.1]; simp [h1, h2], H.out.2.2 _ _ _⟩
  cases z
  · by_cases h4 : 70 < l.calls.length
    · go_enter Try.func30, Try.ntmps30
      go_wp2_with (go_at_call 83; refine (H.out.1 _ (H.out.2.2 _ _ _)).mono ?_; rintro e w' ⟨rfl, hB⟩; obtain ⟨hc, hf⟩ := bcell hB; have HB := Lib.hid ((H.out.2.2 _ _ _).trans (hB.mono (H.out.2.2 _ _ _).size)); clear hB)
      go_ret;exact ⟨by rw [H.out.2.1]; simp [h1, h2, h4]; try omega, HB.out⟩
    by_cases h5 : 210 < l.swps.length
    · go_enter Try.func30, Try.ntmps30
      go_wp2_with (go_at_call 83; refine (H.out.1 _ (H.out.2.2 _ _ _)).mono ?_; rintro e w' ⟨rfl, hB⟩; obtain ⟨hc, hf⟩ := bcell hB; have HB := Lib.hid ((H.out.2.2 _ _ _).trans (hB.mono (H.out.2.2 _ _ _).size)); clear hB)
      go_ret;exact ⟨by rw [H.out.2.1]; simp [h1, h2, h4, h5]; try omega, HB.out⟩
    by_cases h6 : 10 < nb
    · go_enter Try.func30, Try.ntmps30
      go_wp2_with (go_at_call 83; refine (H.out.1 _ (H.out.2.2 _ _ _)).mono ?_; rintro e w' ⟨rfl, hB⟩; obtain ⟨hc, hf⟩ := bcell hB; have HB := Lib.hid ((H.out.2.2 _ _ _).trans (hB.mono (H.out.2.2 _ _ _).size)); clear hB)
      go_ret;exact ⟨by rw [H.out.2.1]; simp [h1, h2, h4, h5, h6]; try omega, HB.out⟩
    by_cases h7 : 10 < nu
    · go_enter Try.func30, Try.ntmps30
      go_wp2_with (go_at_call 83; refine (H.out.1 _ (H.out.2.2 _ _ _)).mono ?_; rintro e w' ⟨rfl, hB⟩; obtain ⟨hc, hf⟩ := bcell hB; have HB := Lib.hid ((H.out.2.2 _ _ _).trans (hB.mono (H.out.2.2 _ _ _).size)); clear hB)
      go_ret;exact ⟨by rw [H.out.2.1]; simp [h1, h2, h4, h5, h6, h7]; try omega, HB.out⟩
    · go_enter Try.func30, Try.ntmps30
      go_wp2_with (go_at_call 83; refine (H.out.1 _ (H.out.2.2 _ _ _)).mono ?_; rintro e w' ⟨rfl, hB⟩; obtain ⟨hc, hf⟩ := bcell hB; have HB := Lib.hid ((H.out.2.2 _ _ _).trans (hB.mono (H.out.2.2 _ _ _).size)); clear hB)
      go_ret;exact ⟨by rw [H.out.2.1]; simp [h1, h2, h4, h5, h6, h7]; try omega, HB.out⟩
  · go_enter Try.func30, Try.ntmps30
    go_wp2_with (go_at_call 83; refine (H.out.1 _ (H.out.2.2 _ _ _)).mono ?_; rintro e w' ⟨rfl, hB⟩; obtain ⟨hc, hf⟩ := bcell hB; have HB := Lib.hid ((H.out.2.2 _ _ _).trans (hB.mono (H.out.2.2 _ _ _).size)); clear hB)
    go_ret;exact ⟨by rw [H.out.2.1]; simp, HB.out⟩
structure Lgt (p : Prt) (l : Pln) : Prop where
  n1 : p.chs.length ≤ 10
  n2 : p.bts.length ≤ 8
  n3 : ∀ b ∈ p.bts, b.path.length ≤ 10
  n4 : l.calls.length ≤ 70
  n5 : l.swps.length ≤ 210
theorem heavy_no {p : Prt} {l : Pln} {nb nu : Nat} (h : heavyB p l nb nu = false) : Lgt p l ∧ nb ≤ 10 ∧ nu ≤ 10 := by
  simp only [heavyB, Bool.or_eq_false_iff, decide_eq_false_iff_not, Nat.not_lt, List.any_eq_false] at h;obtain ⟨h1, h2, h3, h4, h5, h6, h7⟩ := h;refine ⟨⟨h1, h2, fun b hb => ?_, h4, h5⟩, h6, h7⟩;have := h3 b hb;simp [longP] at this;exact this
end Go.Proofs.Ythmldeningpjbaa
namespace Go.Proofs.Ythmldeningpjbaa
open Go Go.RowKit Sp
def byts (l : List Int) : List Value := l.map (Value.int .u8)
structure DrawSt (w : World) (ib lb : Nat) (A : Option Addr) (c : Nat) (l : List Int) (k : Nat) : Prop where
  cnt : w.heap[ib]? = some (.cells #[.int .i64 (min k l.length : Nat)] 3 (0, 0))
  lst : w.heap[lb]? = some (.cells #[.slice A l.length c] 22 (0, 0))
  rd : Rd w 1 A l.length (byts l)
theorem DrawSt.keep {w w' : World} {ib lb : Nat} {A : Option Addr} {c : Nat} {l : List Int} {k : Nat} (h : DrawSt w ib lb A c l k) {S : List Nat} (hk : Keep S w w') (h1 : ib ∉ S) (h2 : lb ∉ S) (h3 : 0 < l.length → ∀ b off, A = some ⟨b, off, none⟩ → b ∉ S) : DrawSt w' ib lb A c l k :=
  ⟨(hk.block _ (hL_ h.cnt) h1).trans h.cnt, (hk.block _ (hL_ h.lst) h2).trans h.lst, h.rd.1, fun h0 => (hk.rd h.rd (h3 h0)).2 h0⟩
def Bytes (l : List Int) : Prop := ∀ x ∈ l, 0 ≤ x ∧ x ≤ 255
end Go.Proofs.Ythmldeningpjbaa
namespace Go.Proofs.Ythmldeningpjbaa
open Go Go.RowKit Go.Lib Sp
def NxS (D : Nat) (w : World) (ib lb : Nat) : Prop := ∃ A c l k, DrawSt w ib lb A c l k ∧ Bytes l ∧ l.length ≤ 9223372036854775806 ∧ ib ≠ lb ∧ D ≤ ib ∧ D ≤ lb ∧ (0 < l.length → ∀ b off, A = some ⟨b, off, none⟩ → b < D)
theorem NxS.keep {D : Nat} {w w' : World} {ib lb : Nat} (h : NxS D w ib lb) {S : List Nat} (hk : Keep S w w') (hS : ∀ x ∈ S, D ≤ x ∧ x ≠ ib ∧ x ≠ lb) : NxS D w' ib lb := by
  obtain ⟨A, c, l, k, h1, h2, h3, h4, h5, h6, h7⟩ := h;exact ⟨A, c, l, k, h1.keep hk (fun e => (hS _ e).2.1 rfl) (fun e => (hS _ e).2.2 rfl) (fun h0 b off e hm => by have := h7 h0 b off e; have := (hS _ hm).1; omega), h2, h3, h4, h5, h6, h7⟩
theorem NxS.lt {D : Nat} {w : World} {ib lb : Nat} (h : NxS D w ib lb) : ib < w.heap.size ∧ lb < w.heap.size ∧ D ≤ ib ∧ D ≤ lb ∧ ib ≠ lb := by
  obtain ⟨A, c, l, k, h1, h2, h3, h4, h5, h6, h7⟩ := h;exact ⟨hL_ h1.cnt, hL_ h1.lst, h5, h6, h4⟩
end Go.Proofs.Ythmldeningpjbaa
namespace Go.Proofs.Ythmldeningpjbaa
open Go Go.RowKit Sp
structure ApC where
  ib : Nat
  lb : Nat
  k0 : Nat
  A0 : Option Addr
  c0 : Nat
  l0 : List Int
  ob : Nat
  e : TypeId
  sz : Nat
  k : Nat
  A : Option Addr
  c : Nat
  xs : List Value
  q : List Nat
  ys : List Value
  old : Array Value
  new : Option Addr → Nat → Array Value
  t : TypeId
structure ApS where
  bs : Nat
  A : Option Addr
  c : Nat
  g : Nat
section
variable {C : ApC} {opB opA opS : Nat} {cnt : (Nat → Bool) → Nat} {W0 w w' : World} {s : ApS} {l : Nat → Bool}
theorem upd_ne {l : Nat → Bool} {i j : Nat} (h : i ≠ j) : upd l i j = l j := by simp [upd, Ne.symm h]
theorem upd_eq {l : Nat → Bool} {i : Nat} : upd l i i = true := by simp [upd]
end
end Go.Proofs.Ythmldeningpjbaa
namespace Go.Proofs.Ythmldeningpjbaa
open Go Go.RowKit Sp
structure Cl2S where
  A1 : Option Addr
  c1 : Nat
  q1 : List Nat
  A2 : Option Addr
  c2 : Nat
  q2 : List Nat
structure Cl2C where
  e1 : TypeId
  z1 : Nat
  n1 : Nat
  xs1 : List Value
  e2 : TypeId
  z2 : Nat
  n2 : Nat
  xs2 : List Value
  ob : Nat
  t : TypeId
structure Cl2W (C : Cl2C) (o1 o2 : Nat) (cur : Cl2S → (Nat → Bool) → Array Value) (W0 : World) (s : Cl2S) (l : Nat → Bool) (w : World) : Prop where
  kp : Keep [C.ob] W0 w
  lt : C.ob < W0.heap.size
  a1 : l o1 = true → OwnS w C.e1 C.z1 s.A1 C.n1 s.c1 C.xs1 s.q1 ∧ ∀ g ∈ s.q1, W0.heap.size ≤ g
  a2 : l o2 = true → OwnS w C.e2 C.z2 s.A2 C.n2 s.c2 C.xs2 s.q2 ∧ ∀ g ∈ s.q2, W0.heap.size ≤ g
  dj : l o1 = true → l o2 = true → ∀ g ∈ s.q1, g ∉ s.q2
  hob : w.heap[C.ob]? = some (.cells (cur s l) C.t (0, 0))
section
variable {C : Cl2C} {o1 o2 : Nat} {cur : Cl2S → (Nat → Bool) → Array Value} {W0 w w' : World} {s : Cl2S} {l : Nat → Bool}
theorem Cl2W.start (h : W0.heap[C.ob]? = some (.cells (cur s fun _ => false) C.t (0, 0))) : Cl2W C o1 o2 cur W0 s (fun _ => false) W0.drew :=
  ⟨(Keep.refl _ _).drew, hL_ h, fun h => absurd h (by simp), fun h => absurd h (by simp), fun h => absurd h (by simp), h⟩
theorem Cl2W.put (H : Cl2W C o1 o2 cur W0 s l w) (i : Nat) (h1 : i ≠ o1) (h2 : i ≠ o2) (hk : Keep [C.ob] w w') (hh : w'.heap[C.ob]? = some (.cells (cur s (upd l i)) C.t (0, 0))) : Cl2W C o1 o2 cur W0 s (upd l i) w' := by
  have hq : ∀ (q : List Nat), (∀ g ∈ q, W0.heap.size ≤ g) → ∀ g ∈ q, g ∉ [C.ob] := fun q hq g hg => by have := hq g hg; have := H.lt; simp; omega
  refine ⟨H.kp.trans hk (fun x hx => .inl hx), H.lt, ?_, ?_, ?_, hh⟩
  · rw [upd_ne h1]; exact fun e => ⟨(H.a1 e).1.keepS hk (hq _ (H.a1 e).2), (H.a1 e).2⟩
  · rw [upd_ne h2]; exact fun e => ⟨(H.a2 e).1.keepS hk (hq _ (H.a2 e).2), (H.a2 e).2⟩
  · rw [upd_ne h1, upd_ne h2]; exact H.dj
theorem Cl2W.other (H : Cl2W C o1 o2 cur W0 s l w) (i : Nat) (h1 : i ≠ o1) (h2 : i ≠ o2) (hc : cur s (upd l i) = cur s l) : Cl2W C o1 o2 cur W0 s (upd l i) w :=
  H.put i h1 h2 (Keep.refl _ _) (by rw [hc]; exact H.hob)
theorem Cl2W.call1 (H : Cl2W C o1 o2 cur W0 s l w) (hn : o1 ≠ o2) {A : Option Addr} {c : Nat} {q : List Nat} (h1 : OwnS w' C.e1 C.z1 A C.n1 c C.xs1 q) (h2 : ∀ g ∈ q, w.heap.size ≤ g) (h3 : Below w.heap.size w w')
    (hc : cur { s with A1 := A, c1 := c, q1 := q } (upd l o1) = cur s l) : Cl2W C o1 o2 cur W0 { s with A1 := A, c1 := c, q1 := q } (upd l o1) w' := by
  have hk : Keep [] w w' := Keep.of_below h3;refine ⟨H.kp.trans hk (by simp), H.lt, fun _ => ⟨h1, fun g hg => Nat.le_trans H.kp.size (h2 g hg)⟩, ?_, ?_, ?_⟩
  · rw [upd_ne hn]; exact fun e => ⟨(H.a2 e).1.keepS hk (by simp), (H.a2 e).2⟩
  · rw [upd_ne hn]; exact fun _ e g hg hg2 => by have := h2 g hg; have := (H.a2 e).1.lt g hg2; omega
  · rw [hc]; exact (hk.block _ (hL_ H.hob) (by simp)).trans H.hob
theorem Cl2W.call2 (H : Cl2W C o1 o2 cur W0 s l w) (hn : o1 ≠ o2) {A : Option Addr} {c : Nat} {q : List Nat} (h1 : OwnS w' C.e2 C.z2 A C.n2 c C.xs2 q) (h2 : ∀ g ∈ q, w.heap.size ≤ g) (h3 : Below w.heap.size w w')
    (hc : cur { s with A2 := A, c2 := c, q2 := q } (upd l o2) = cur s l) : Cl2W C o1 o2 cur W0 { s with A2 := A, c2 := c, q2 := q } (upd l o2) w' := by
  have hk : Keep [] w w' := Keep.of_below h3;refine ⟨H.kp.trans hk (by simp), H.lt, ?_, fun _ => ⟨h1, fun g hg => Nat.le_trans H.kp.size (h2 g hg)⟩, ?_, ?_⟩
  · rw [upd_ne hn.symm]; exact fun e => ⟨(H.a1 e).1.keepS hk (by simp), (H.a1 e).2⟩
  · rw [upd_ne hn.symm]; exact fun e _ g hg hg2 => by have := h2 g hg2; have := (H.a1 e).1.lt g hg; omega
  · rw [hc]; exact (hk.block _ (hL_ H.hob) (by simp)).trans H.hob
end
end Go.Proofs.Ythmldeningpjbaa
namespace Go.Proofs.Ythmldeningpjbaa
open Go Go.RowKit Sp
inductive It where
  | blk (b : Nat) (o : Obj)
  | own (e : TypeId) (sz : Nat) (A : Option Addr) (n c : Nat) (xs : List Value) (q : List Nat)
  | nx (ib lb : Nat)
  | any (b : Nat)
  | gen (q : List Nat) (P : World → Prop)
def It.fp : It → List Nat
  | .blk b _ => [b]
  | .own _ _ _ _ _ _ q => q
  | .nx ib lb => [ib, lb]
  | .any b => [b]
  | .gen q _ => q
def It.holds (D : Nat) (w : World) : It → Prop
  | .blk b o => w.heap[b]? = some o
  | .own e sz A n c xs q => OwnS w e sz A n c xs q
  | .nx ib lb => NxS D w ib lb
  | .any b => b < w.heap.size
  | .gen q P => (∀ x ∈ q, x < w.heap.size) ∧ ∀ (S : List Nat) (w' : World), Keep S w w' → (∀ x ∈ S, x ∉ q) → P w'
theorem It.lt {D : Nat} {w : World} {i : It} (h : i.holds D w) : ∀ x ∈ i.fp, x < w.heap.size := by
  intro x hx;cases i with
  | blk b o => rw [List.mem_singleton.1 hx]; exact hL_ h
  | own e sz A n c xs q => exact OwnS.lt h x hx
  | nx ib lb =>
    have := NxS.lt h;simp only [It.fp, List.mem_cons, List.not_mem_nil, or_false] at hx;rcases hx with rfl | rfl <;> omega
  | any b => rw [List.mem_singleton.1 hx]; exact h
  | gen q P => exact h.1 x hx
theorem It.keep {D : Nat} {w w' : World} {i : It} {S : List Nat} (h : i.holds D w) (hk : Keep S w w') (hS : ∀ x ∈ i.fp, x ∉ S) (hD : ∀ x ∈ S, D ≤ x) : i.holds D w' := by
  cases i with
  | blk b o => exact (hk.block _ (hL_ h) (hS b (by simp [It.fp]))).trans h
  | own e sz A n c xs q => exact OwnS.keepS h hk hS
  | nx ib lb => exact NxS.keep h hk fun x hx => ⟨hD x hx, fun e => hS ib (by simp [It.fp]) (e ▸ hx), fun e => hS lb (by simp [It.fp]) (e ▸ hx)⟩
  | any b => exact Nat.lt_of_lt_of_le h hk.size
  | gen q P =>
    refine ⟨fun x hx => Nat.lt_of_lt_of_le (h.1 x hx) hk.size, fun S' w'' hk' hS' => h.2 (S ++ S') w'' ?_ ?_⟩
    · exact (hk.mono (fun x hx => .inl (by simp [hx]))).trans hk' (fun x hx => .inl (by simp [hx]))
    · intro x hx hm;rcases List.mem_append.1 hx with e | e
      · exact hS x hm e
      · exact hS' x e hm
structure Own (D : Nat) (W0 : World) (L : List It) (w : World) : Prop where
  bel : Below D W0 w
  lo : D ≤ w.heap.size
  at_ : ∀ (a : Nat) (i : It), L[a]? = some i → i.holds D w ∧ ∀ x ∈ i.fp, D ≤ x
  dis : ∀ (a b : Nat) (i j : It), L[a]? = some i → L[b]? = some j → a ≠ b → ∀ x ∈ i.fp, x ∉ j.fp
section
variable {D : Nat} {W0 w w' : World} {L : List It}
theorem Own.get (h : Own D W0 L w) (a : Nat) {i : It} (hi : L[a]? = some i) : i.holds D w := (h.at_ a i hi).1
theorem Own.heap (h : Own D W0 L w) (a : Nat) {b : Nat} {o : Obj} (hi : L[a]? = some (.blk b o)) : w.heap[b]? = some o := (h.at_ a _ hi).1
theorem Own.owns (h : Own D W0 L w) (a : Nat) {e : TypeId} {sz : Nat} {A : Option Addr} {n c : Nat} {xs : List Value} {q : List Nat} (hi : L[a]? = some (.own e sz A n c xs q)) : OwnS w e sz A n c xs q := (h.at_ a _ hi).1
theorem Own.ge (h : Own D W0 L w) (a : Nat) {i : It} (hi : L[a]? = some i) {x : Nat} (hx : x ∈ i.fp) : D ≤ x := (h.at_ a i hi).2 x hx
theorem Own.lt (h : Own D W0 L w) (a : Nat) {i : It} (hi : L[a]? = some i) {x : Nat} (hx : x ∈ i.fp) : x < w.heap.size := It.lt (h.get a hi) x hx
theorem Own.ne (h : Own D W0 L w) (a b : Nat) {i j : It} (hi : L[a]? = some i) (hj : L[b]? = some j) (hab : a ≠ b) {x y : Nat} (hx : x ∈ i.fp) (hy : y ∈ j.fp) : x ≠ y := fun e => h.dis a b i j hi hj hab x hx (e ▸ hy)
theorem Own.start (w : World) : Own w.heap.size w [] w := ⟨Below.refl _ _, Nat.le_refl _, by simp, by simp⟩
theorem Own.updG (h : Own D W0 L w) (L' : List It) (c : Nat → Prop) {S : List Nat} (hk : Keep S w w') (hS : ∀ x ∈ S, (∃ a i, c a ∧ L[a]? = some i ∧ x ∈ i.fp) ∨ w.heap.size ≤ x)
    (hun : ∀ a j, L'[a]? = some j → c a ∨ L[a]? = some j) (hch : ∀ a j, L'[a]? = some j → c a → j.holds D w' ∧ ∀ x ∈ j.fp, (∃ i, L[a]? = some i ∧ x ∈ i.fp) ∨ w.heap.size ≤ x)
    (hfd : ∀ a b i j, L'[a]? = some i → L'[b]? = some j → a ≠ b → c a → c b → ∀ x ∈ i.fp, x ∈ j.fp → w.heap.size ≤ x → False) : Own D W0 L' w' := by
  have hSD : ∀ x ∈ S, D ≤ x := fun x hx => by
    rcases hS x hx with ⟨a, i, _, h2, h3⟩ | h1
    · exact h.ge a h2 h3
    · have := h.lo; omega
  have key : ∀ a j, L'[a]? = some j → ∀ x ∈ j.fp, (∃ i, L[a]? = some i ∧ x ∈ i.fp) ∨ (c a ∧ w.heap.size ≤ x) := fun a j hj x hx => by
    rcases hun a j hj with h1 | h1
    · rcases (hch a j hj h1).2 x hx with e | e
      · exact .inl e
      · exact .inr ⟨h1, e⟩
    · exact .inl ⟨j, h1, hx⟩
  refine ⟨h.bel.trans (hk.below h.lo hSD), Nat.le_trans h.lo hk.size, fun a j hj => ⟨?_, fun x hx => ?_⟩, fun a b i j hi hj hab x hx hy => ?_⟩
  · by_cases hc : c a
    · exact (hch a j hj hc).1
    · have h1 : L[a]? = some j := (hun a j hj).resolve_left hc;refine It.keep (h.get a h1) hk (fun x hx hm => ?_) hSD;rcases hS x hm with ⟨b, i, h2, h3, h4⟩ | h2
      · exact h.dis a b j i h1 h3 (fun e => hc (e ▸ h2)) x hx h4
      · have := h.lt a h1 hx; omega
  · rcases key a j hj x hx with ⟨i, h1, h2⟩ | ⟨_, h2⟩
    · exact h.ge a h1 h2
    · have := h.lo; omega
  · rcases key a i hi x hx with ⟨i', h1, h2⟩ | ⟨h1, h2⟩
    · rcases key b j hj x hy with ⟨j', h3, h4⟩ | ⟨h3, h4⟩
      · exact h.dis a b i' j' h1 h3 hab x h2 h4
      · have := h.lt a h1 h2; omega
    · rcases key b j hj x hy with ⟨j', h3, h4⟩ | ⟨h3, h4⟩
      · have := h.lt b h3 h4; omega
      · exact hfd a b i j hi hj hab h1 h3 x hx hy h2
theorem Own.updF (h : Own D W0 L w) (L' : List It) (c : Nat → Prop) (f : Nat) {S : List Nat} (hk : Keep S w w') (hS : ∀ x ∈ S, (∃ a i, c a ∧ L[a]? = some i ∧ x ∈ i.fp) ∨ w.heap.size ≤ x)
    (hun : ∀ a j, L'[a]? = some j → c a ∨ L[a]? = some j) (hch : ∀ a j, L'[a]? = some j → c a → j.holds D w' ∧ ∀ x ∈ j.fp, (∃ i, L[a]? = some i ∧ x ∈ i.fp) ∨ (a = f ∧ w.heap.size ≤ x)) : Own D W0 L' w' := by
  refine h.updG L' c hk hS hun (fun a j hj hc => ⟨(hch a j hj hc).1, fun x hx => ?_⟩) (fun a b i j hi hj hab ha hb x hx hy hz => ?_)
  · rcases (hch a j hj hc).2 x hx with e | e
    · exact .inl e
    · exact .inr e.2
  · have h1 : a = f := by
      rcases (hch a i hi ha).2 x hx with ⟨i', e1, e2⟩ | e
      · have := h.lt a e1 e2; omega
      · exact e.1
    have h2 : b = f := by
      rcases (hch b j hj hb).2 x hy with ⟨i', e1, e2⟩ | e
      · have := h.lt b e1 e2; omega
      · exact e.1
    omega
theorem Own.below (h : Own D W0 L w) (hb : Below w.heap.size w w') : Own D W0 L w' :=
  h.updF L (fun _ => False) 0 (S := []) (Keep.of_below hb) (by simp) (fun a j hj => .inr hj) (fun _ _ _ h => h.elim)
theorem Own.upd (h : Own D W0 L w) (k : Nat) {i i' : It} (hi : L[k]? = some i) (hk : Keep i.fp w w') (hh : i'.holds D w') (hf : ∀ x ∈ i'.fp, x ∈ i.fp ∨ w.heap.size ≤ x) : Own D W0 (L.set k i') w' := by
  refine h.updF _ (fun a => a = k) k hk (fun x hx => .inl ⟨k, i, rfl, hi, hx⟩) (fun a j hj => ?_) (fun a j hj hc => ?_)
  · rw [List.getElem?_set] at hj;by_cases e : k = a
    · exact .inl e.symm
    · rw [if_neg e] at hj; exact .inr hj
  · subst hc;have hlt : a < L.length := (List.getElem?_eq_some_iff.1 hi).1;rw [List.getElem?_set, if_pos rfl, if_pos hlt] at hj;injection hj with hj
    subst hj;exact ⟨hh, fun x hx => by rcases hf x hx with e | e; exact .inl ⟨i, hi, e⟩; exact .inr ⟨rfl, e⟩⟩
theorem Own.set (h : Own D W0 L w) (k : Nat) {b : Nat} {o o' : Obj} (hi : L[k]? = some (.blk b o)) (hk : Keep [b] w w') (hh : w'.heap[b]? = some o') : Own D W0 (L.set k (.blk b o')) w' :=
  h.upd k hi hk hh (fun x hx => .inl hx)
theorem Own.new (h : Own D W0 L w) {i : It} (hb : Below w.heap.size w w') (hh : i.holds D w') (hf : ∀ x ∈ i.fp, w.heap.size ≤ x) : Own D W0 (L ++ [i]) w' := by
  have h' := h.below hb;have hget : ∀ {a : Nat} {j : It}, (L ++ [i])[a]? = some j → L[a]? = some j ∨ (a = L.length ∧ j = i) := fun {a j} hj => by
    rw [List.getElem?_append] at hj;split at hj
    · exact .inl hj
    · rename_i hl
      have : a - L.length = 0 := by
        rcases Nat.lt_or_ge 0 (a - L.length) with e | e
        · rw [List.getElem?_eq_none (by simp; omega)] at hj; cases hj
        · omega
      rw [this] at hj;injection hj with hj
      exact .inr ⟨by omega, hj.symm⟩
  refine ⟨h'.bel, h'.lo, fun a j hj => ?_, fun a b x y hx hy hab z hz hz' => ?_⟩
  · rcases hget hj with e | ⟨_, rfl⟩
    · exact h'.at_ a j e
    · exact ⟨hh, fun x hx => by have := hf x hx; have := h.lo; omega⟩
  · rcases hget hx with e1 | ⟨e1, rfl⟩
    · rcases hget hy with e2 | ⟨e2, rfl⟩
      · exact h.dis a b x y e1 e2 hab z hz hz'
      · have := h.lt a e1 hz; have := hf z hz'; omega
    · rcases hget hy with e2 | ⟨e2, rfl⟩
      · have := h.lt b e2 hz'; have := hf z hz; omega
      · omega
theorem Own.add (h : Own D W0 L w) {i : It} (hh : i.holds D w) (hD : ∀ x ∈ i.fp, D ≤ x) (hd : ∀ j ∈ L, ∀ x ∈ i.fp, x ∉ j.fp) : Own D W0 (L ++ [i]) w := by
  have hget : ∀ {a : Nat} {j : It}, (L ++ [i])[a]? = some j → L[a]? = some j ∨ (a = L.length ∧ j = i) := fun {a j} hj => by
    rw [List.getElem?_append] at hj;split at hj
    · exact .inl hj
    · rename_i hl
      have h2 := (List.getElem?_eq_some_iff.1 hj).1;simp at h2;have : a - L.length = 0 := by omega
      rw [this] at hj;injection hj with hj
      exact .inr ⟨by omega, hj.symm⟩
  refine ⟨h.bel, h.lo, fun a j hj => ?_, fun a b x y hx hy hab z hz hz' => ?_⟩
  · rcases hget hj with e | ⟨_, rfl⟩
    · exact h.at_ a j e
    · exact ⟨hh, hD⟩
  · rcases hget hx with e1 | ⟨e1, rfl⟩
    · rcases hget hy with e2 | ⟨e2, rfl⟩
      · exact h.dis a b x y e1 e2 hab z hz hz'
      · exact hd x (List.mem_of_getElem? e1) z hz' hz
    · rcases hget hy with e2 | ⟨e2, rfl⟩
      · exact hd y (List.mem_of_getElem? e2) z hz hz'
      · omega
theorem Own.nil (hD : D ≤ w.heap.size) : Own D w [] w := ⟨Below.refl _ _, hD, by simp, by simp⟩
theorem Own.keepAny (h : Own D W0 L w) {S : List Nat} (hk : Keep S w w') (hS : ∀ x ∈ S, (∃ a : Nat, L[a]? = some (It.any x)) ∨ w.heap.size ≤ x) : Own D W0 L w' := by
  refine h.updG L (fun a : Nat => ∃ x, L[a]? = some (It.any x)) hk (fun x hx => ?_) (fun a j hj => .inr hj) (fun a j hj hc => ?_) (fun a b i j hi hj hab ha hb x hx hy hz => ?_)
  · rcases hS x hx with ⟨a, e⟩ | e
    · exact .inl ⟨a, _, ⟨x, e⟩, e, by simp [It.fp]⟩
    · exact .inr e
  · obtain ⟨x, e⟩ := hc;rw [hj] at e;injection e with e
    subst e;exact ⟨Nat.lt_of_lt_of_le (h.get a hj) hk.size, fun y hy => .inl ⟨_, hj, hy⟩⟩
  · exact h.dis a b i j hi hj hab x hx hy
theorem Own.alloc (h : Own D W0 L w) (o : Obj) : Own D W0 (L ++ [.blk w.heap.size o]) (w.alloc o) :=
  h.new ((Below.refl _ _).alloc (Nat.le_refl _) _) (heap_alloc_new w o) (by simp [It.fp])
theorem Own.drew (h : Own D W0 L w) : Own D W0 L w.drew := h.updF L (fun _ => False) 0 (S := []) ((Keep.refl _ _).drew) (by simp) (fun a j hj => .inr hj) (fun _ _ _ h => h.elim)
theorem Own.take (h : Own D W0 L w) (n : Nat) : Own D W0 (L.take n) w := by
  have hg : ∀ {a : Nat} {j : It}, (L.take n)[a]? = some j → L[a]? = some j := fun {a j} hj => by
    rw [List.getElem?_take] at hj;split at hj
    · exact hj
    · cases hj
  exact ⟨h.bel, h.lo, fun a j hj => h.at_ a j (hg hj), fun a b i j hi hj => h.dis a b i j (hg hi) (hg hj)⟩
end
end Go.Proofs.Ythmldeningpjbaa
