import Derived.Test.YtalcinepeofmcaaGreatPBp10
import Derived.Test.YtalcinepeofmcaaGreatPBp6
import Derived.Test.YtalcinepeofmcaaGreatPBp9
import Derived.Test.YtalcinepeofmcaaGreatPBp2
import Derived.Test.YtalcinepeofmcaaGreatPBp5
set_option linter.unusedVariables false
set_option linter.unusedSimpArgs false
set_option maxRecDepth 100000
set_option maxHeartbeats 40000000
namespace Go.Proofs.YtalcinepeofmcaaGreat
open Go Go.RowKit Sp Pt
structure SttB (D : Nat) (w : World) (Ar : Option Addr) (cr : Nat) (Au : Option Addr) (cu : Nat) (s : Stt) : Prop where
  br : RdB D w 1 Ar s.brash.length (ints s.brash)
  bu : RdB D w 1 Au s.busy.length (bools s.busy)
  c1 : s.brash.length ≤ cr ∧ cr ≤ 9223372036854775807 ∧ (Ar = none → cr = 0)
  c2 : s.busy.length ≤ cu ∧ cu ≤ 9223372036854775807 ∧ (Au = none → cu = 0)
abbrev sttV (Ar : Option Addr) (cr : Nat) (Au : Option Addr) (cu : Nat) (s : Stt) : Array Value := #[.slice Ar s.brash.length cr, .slice Au s.busy.length cu]
theorem SttB.below {D : Nat} {w w' : World} {Ar Au : Option Addr} {cr cu : Nat} {s : Stt} (h : SttB D w Ar cr Au cu s) (hb : Below D w w') : SttB D w' Ar cr Au cu s := ⟨h.br.below hb, h.bu.below hb, h.c1, h.c2⟩
structure Made0 (w w' : World) (c : WC) (D : Nat) (Ac : Option Addr) (cc : Nat) (Ab : Option Addr) (cb : Nat) (p : Prt) (Al : Option Addr) (cl : Nat) (As : Option Addr) (cs : Nat) (l : Pln) : Prop where
  eq : c.D = D ∧ c.Ac = Ac ∧ c.cc = cc ∧ c.Ab = Ab ∧ c.cb = cb ∧ c.p = p ∧ c.Al = Al ∧ c.cl = cl ∧ c.As = As ∧ c.cs = cs ∧ c.l = l
  new : w.heap.size ≤ c.wb ∧ w.heap.size ≤ c.pb ∧ w.heap.size ≤ c.lb ∧ w.heap.size ≤ c.gb ∧ w.heap.size ≤ c.ub
  N : WcN c
  E : WcE c w' (brV c) (buV c)
def StartPost (w : World) (D : Nat) (Ac : Option Addr) (cc : Nat) (Ab : Option Addr) (cb : Nat) (p : Prt) (Al : Option Addr) (cl : Nat) (As : Option Addr) (cs : Nat) (l : Pln) (s : Stt) (e : Ending) (w' : World) : Prop :=
  Below w.heap.size w w' ∧ ((startE p s l ≠ 0 ∧ e = .returned (.tuple #[.pointer none, .int .i64 (startE p s l)])) ∨
    (startE p s l = 0 ∧ ∃ c : WC, Made0 w w' c D Ac cc Ab cb p Al cl As cs l ∧ WkS c w' w' s ∧ e = .returned (.tuple #[.pointer (some ⟨c.wb, 0, none⟩), .int .i64 0])))
theorem startE_1 {p : Prt} {s : Stt} {l : Pln} {e : Int} (h : checkL p l = e) (h0 : e ≠ 0) : startE p s l = e := by unfold startE; rw [if_pos (by rw [h]; exact h0), h]
theorem startE_2 {p : Prt} {s : Stt} {l : Pln} (h : checkL p l = 0) (h0 : s.brash.length ≠ p.chs.length ∨ s.busy.length ≠ p.bts.length ∨ s.brash.any (fun n => !within n 0 1000000) = true) : startE p s l = 1 := by unfold startE; rw [if_neg (by rw [h]; simp), if_pos h0]
theorem startE_3 {p : Prt} {s : Stt} {l : Pln} (h : checkL p l = 0) (h1 : s.brash.length = p.chs.length) (h2 : s.busy.length = p.bts.length) (h3 : s.brash.any (fun n => !within n 0 1000000) = false) : startE p s l = 0 := by
  unfold startE; rw [if_neg (by rw [h]; simp), if_neg]; rintro (q | q | q)
  · exact q h1
  · exact q h2
  · rw [h3] at q; cases q
structure Sg5 where
  gb : Nat
  c1 : Nat
  ub : Nat
  c2 : Nat
  wb : Nat
def PzV (W0 : World) (sb pb lb n m cr cu : Nat) (Ar Au : Option Addr) (xs ys : List Value) (s : Sg5) : Nat → Value → Prop
  | 0, v => v = .pointer (some ⟨sb, 0, none⟩)
  | 1, v => v = .slice Ar n cr
  | 2, v => v = .slice (some ⟨s.gb, 0, none⟩) n s.c1
  | 3, v => v = .pointer (some ⟨sb, 1, none⟩)
  | 4, v => v = .slice Au m cu
  | 5, v => v = .slice (some ⟨s.ub, 0, none⟩) m s.c2
  | 6, v => v = .agg #[.pointer (some ⟨pb, 0, none⟩), .pointer (some ⟨lb, 0, none⟩), .slice (some ⟨s.gb, 0, none⟩) n s.c1, .slice (some ⟨s.ub, 0, none⟩) m s.c2]
  | 7, v => v = .pointer (some ⟨s.wb, 0, none⟩)
  | 8, v => v = .pointer (some ⟨s.wb, 0, none⟩)
  | 9, v => v = .int .i64 0
  | _, _ => True
def PzW (W0 : World) (sb pb lb n m cr cu : Nat) (Ar Au : Option Addr) (xs ys : List Value) (s : Sg5) (l : Nat → Bool) (w : World) : Prop := Keep [] W0 w ∧ (l 2 = true → OwnS w 3 1 (some ⟨s.gb, 0, none⟩) n s.c1 xs [s.gb] ∧ W0.heap.size ≤ s.gb) ∧ (l 5 = true → OwnS w 4 1 (some ⟨s.ub, 0, none⟩) m s.c2 ys [s.ub] ∧ W0.heap.size ≤ s.ub) ∧ (l 7 = true → w.heap[s.wb]? = some (.cells #[.pointer (some ⟨pb, 0, none⟩), .pointer (some ⟨lb, 0, none⟩), .slice (some ⟨s.gb, 0, none⟩) n s.c1, .slice (some ⟨s.ub, 0, none⟩) m s.c2] 135 (0, 0)) ∧ W0.heap.size ≤ s.wb)
theorem start_any (D : Nat) (Ac : Option Addr) (cc : Nat) (Ab : Option Addr) (cb : Nat) (p : Prt) (Al : Option Addr) (cl : Nat) (As : Option Addr) (cs : Nat) (l : Pln) (Ar : Option Addr) (cr : Nat) (Au : Option Addr) (cu : Nat) (s : Stt) (w : World)
    (PB : PrtB D w Ac cc Ab cb p) (LB : PlnB D w Al cl As cs l) (SB : SttB D w Ar cr Au cu s) (hD : D ≤ w.heap.size) :
    Calls Tryz.prog 53 #[.agg (prtV Ac cc Ab cb p), .agg (sttV Ar cr Au cu s), .agg (plnV Al cl As cs l)] w (StartPost w D Ac cc Ab cb p Al cl As cs l s) := by
  obtain ⟨W, hW⟩ : ∃ W, W = ((w.alloc (.cells (prtV Ac cc Ab cb p) 25)).alloc (.cells (sttV Ar cr Au cu s) 39)).alloc (.cells (plnV Al cl As cs l) 35) := ⟨_, rfl⟩;have b0 : Below w.heap.size w W := by rw [hW]; exact (((Below.refl _ _).alloc (Nat.le_refl _) _).alloc (by simp) _).alloc (by simp; omega) _
  obtain ⟨pb, hpb⟩ : ∃ b, b = w.heap.size := ⟨_, rfl⟩;obtain ⟨sb, hsb⟩ : ∃ b, b = w.heap.size + 1 := ⟨_, rfl⟩;obtain ⟨lb, hlb⟩ : ∃ b, b = w.heap.size + 1 + 1 := ⟨_, rfl⟩;have hp : W.heap[pb]? = some (.cells (prtV Ac cc Ab cb p) 25 (0, 0)) := by rw [hW, hpb]; exact hA_ (hA_ (heap_alloc_new _ _) _) _
  have hs : W.heap[sb]? = some (.cells (sttV Ar cr Au cu s) 39 (0, 0)) := by
    rw [hW, hsb];refine hA_ ?_ _;have := heap_alloc_new (w.alloc (.cells (prtV Ac cc Ab cb p) 25)) (.cells (sttV Ar cr Au cu s) 39)
    rwa [World.size_alloc] at this
  have hl : W.heap[lb]? = some (.cells (plnV Al cl As cs l) 35 (0, 0)) := by
    rw [hW, hlb];have := heap_alloc_new ((w.alloc (.cells (prtV Ac cc Ab cb p) 25)).alloc (.cells (sttV Ar cr Au cu s) 39)) (.cells (plnV Al cl As cs l) 35)
    rwa [World.size_alloc, World.size_alloc] at this
  obtain ⟨er, her⟩ : ∃ er, er = checkL p l := ⟨_, rfl⟩;have kck := CheckPlan_any D Ac cc Ab cb p Al cl As cs l W (PB.below (b0.mono hD)) (LB.below (b0.mono hD)) (by have := b0.size; omega);rw [← her] at kck;have c0 : W.cell? ⟨pb, 0, none⟩ = some (.slice Ac p.chs.length cc) := (cOH hp 0).trans rfl;have c1 : W.cell? ⟨pb, 1, none⟩ = some (.slice Ab p.bts.length cb) := (cOH hp 1).trans rfl;have c2 : W.cell? ⟨pb, 2, none⟩ = some (.int .i64 p.tugs) := (cOH hp 2).trans rfl;have c3 : W.cell? ⟨lb, 0, none⟩ = some (.int .i64 l.hours) := (cOH hl 0).trans rfl;have c4 : W.cell? ⟨lb, 1, none⟩ = some (.slice Al l.calls.length cl) := (cOH hl 1).trans rfl;have c5 : W.cell? ⟨lb, 2, none⟩ = some (.slice As l.swps.length cs) := (cOH hl 2).trans rfl;have zp := hL_ hp;have zl := hL_ hl;have hcl := And.intro LB.c1 LB.c2;have hcs := And.intro SB.c1 SB.c2;have H := Lib.hid (And.intro PB (And.intro LB (And.intro SB (And.intro b0 (And.intro hp (And.intro hs (And.intro hl (And.intro her kck))))))));have hnew : w.heap.size ≤ pb ∧ w.heap.size ≤ lb ∧ pb ≠ lb := by omega
  clear PB LB SB b0 hp hs hl her kck
  go_enter Tryz.func53, Tryz.ntmps53
  go_upto_region 1 with fail
  rw [← hW, ← hlb, ← hsb, ← hpb];clear hW hlb hsb hpb;by_cases h0 : er = 0
  · subst h0;go_upto_region 4 with (go_at_call 56; refine H.out.2.2.2.2.2.2.2.2.mono ?_; rintro e w1 ⟨rfl, b1⟩; have B1 := Lib.hid b1; clear b1)
    have hck : checkL p l = 0 := H.out.2.2.2.2.2.2.2.1.symm;have hpv := checkP_ok (checkL_ok hck).1;have hpn := hpv.nc;have hbn := hpv.nb;have bw1 : Below w.heap.size w w1 := H.out.2.2.2.1.trans (B1.out.mono H.out.2.2.2.1.size);have hp1 := (B1.out.block _ (hL_ H.out.2.2.2.2.1)).trans H.out.2.2.2.2.1;have hs1 := (B1.out.block _ (hL_ H.out.2.2.2.2.2.1)).trans H.out.2.2.2.2.2.1;have hl1 := (B1.out.block _ (hL_ H.out.2.2.2.2.2.2.1)).trans H.out.2.2.2.2.2.2.1;have SB1 := H.out.2.2.1.below (bw1.mono hD);have H1 := Lib.hid (And.intro hck (And.intro bw1 (And.intro hp1 (And.intro hs1 (And.intro hl1 SB1)))));have hD1 : D ≤ w1.heap.size := by have := bw1.size; omega
    clear c0 c1 c2 c3 c4 c5 zp zl hck hpv bw1 hp1 hs1 hl1 SB1;have c0 : w1.cell? ⟨pb, 0, none⟩ = some (.slice Ac p.chs.length cc) := (cOH H1.out.2.2.1 0).trans rfl;have c1 : w1.cell? ⟨pb, 1, none⟩ = some (.slice Ab p.bts.length cb) := (cOH H1.out.2.2.1 1).trans rfl;have s0 : w1.cell? ⟨sb, 0, none⟩ = some (.slice Ar s.brash.length cr) := (cOH H1.out.2.2.2.1 0).trans rfl;have s1 : w1.cell? ⟨sb, 1, none⟩ = some (.slice Au s.busy.length cu) := (cOH H1.out.2.2.2.1 1).trans rfl;have zp := hL_ H1.out.2.2.1;have zs := hL_ H1.out.2.2.2.1;have bad : startE p s l = 1 → StartPost w D Ac cc Ab cb p Al cl As cs l s (.returned (.tuple #[.pointer none, .int .i64 1])) w1 := fun h => ⟨H1.out.2.1, .inl ⟨by rw [h]; decide, by rw [h]⟩⟩;have HBad := Lib.hid bad;clear bad;by_cases h1 : s.brash.length = p.chs.length
    · by_cases h2 : s.busy.length = p.bts.length
      · obtain ⟨a, ha⟩ : ∃ a, a = s.brash.any (fun n => !within n 0 1000000) := ⟨_, rfl⟩;have kany := anyBad_any (fun n => !within n 0 1000000) Ar cr s.brash w1 (H1.out.2.2.2.2.2.br.rd hD1) (by omega) (fun x hx n => (stBad_any x _).mono fun e w' ⟨h, h'⟩ => ⟨h, n, h'.symm⟩);rw [← ha] at kany;have q1 : ((s.brash.length : Int) != (p.chs.length : Int)) = false := by simp [h1]
        have q2 : ((s.busy.length : Int) != (p.bts.length : Int)) = false := by simp [h2]
        have HA := Lib.hid (And.intro ha (And.intro kany (And.intro h1 h2)));obtain ⟨n, hn⟩ : ∃ n, n = s.brash.length := ⟨_, rfl⟩;obtain ⟨m, hm⟩ : ∃ m, m = s.busy.length := ⟨_, rfl⟩;have hn1 : 1 ≤ n ∧ n ≤ 6 := by omega
        have hm1 : 1 ≤ m ∧ m ≤ 4 := by omega
        have HNM := Lib.hid (And.intro hn hm);clear ha kany h1 h2;cases a
        · go_upto_region 6 with (go_at_call 73; refine HA.out.2.1.mono ?_; rintro e w2 ⟨rfl, mm, rfl⟩)
          obtain ⟨W2, hW2⟩ : ∃ W2, W2 = w1.drewN mm := ⟨_, rfl⟩;rw [← hW2];have k2 : Keep [] w1 W2 := by rw [hW2]; exact (Keep.refl _ _).drewN _
          have C1 := fun wx (hk : Keep [] W2 wx) => clonePtI_any Ar n cr (ints s.brash) wx (by rw [HNM.out.1]; exact (k2.trans hk (by simp)).rd (H1.out.2.2.2.2.2.br.rd hD1) (by simp)) (by intro u hu; simp [ints] at hu; obtain ⟨y, _, rfl⟩ := hu; rfl) (fun h => ⟨by have := hcs.1.2.2 h; have := hcs.1.1; omega, hcs.1.2.2 h⟩) (by omega);have C2 := fun wx (hk : Keep [] W2 wx) => clonePtB_any Au m cu (bools s.busy) wx (by rw [HNM.out.2]; exact (k2.trans hk (by simp)).rd (H1.out.2.2.2.2.2.bu.rd hD1) (by simp)) (by intro u hu; simp [bools] at hu; rcases hu with ⟨_, rfl⟩ | ⟨_, rfl⟩ <;> rfl) (fun h => ⟨by have := hcs.2.2.2 h; have := hcs.2.1; omega, hcs.2.2.2 h⟩) (by omega);have HC := Lib.hid (And.intro C1 C2);rw [← hn] at s0;rw [← hm] at s1;have HX := Lib.hid (And.intro (k2.cell s0 (by simp)) (k2.cell s1 (by simp)));have HK2 := Lib.hid k2;clear C1 C2 s0 s1 k2 hW2 c0 c1 zp zs hn hm;refine wRS (σ := Sg5) (by kernel_rfl) (by kernel_rfl) (fun sg jx vx _ => PzV W2 sb pb lb n m cr cu Ar Au (ints s.brash) (bools s.busy) sg jx vx) (fun sg ly wx => PzW W2 sb pb lb n m cr cu Ar Au (ints s.brash) (bools s.busy) sg ly wx) ⟨0, 0, 0, 0, 0⟩ ?_ ?_ ?_
          · exact ⟨(Keep.refl _ _).drew, (fun h => absurd h (by simp)), (fun h => absurd h (by simp)), (fun h => absurd h (by simp))⟩
          · simp only [AllFrom, Nat.zero_add, Nat.reduceAdd];refine ⟨?_, ?_, ?_, ?_, ?_, ?_, ?_, ?_, ?_, ?_, trivial⟩
            · refine sP_ fun sg ly a wr hl hd hW hF => ?_;have et4 := hF.old 4 (by kernel_rfl);simp [Act.eval] at et4;exact ⟨by simpa [PzW, upd] using hW, .pointer (some ⟨sb, 0, none⟩), by go_simp, rfl⟩
            · refine sP_ fun sg ly a wr hl hd hW hF => ?_;simp [Region.binds] at hd;have et36 := hF.new 0 36 (by simp [hd]) rfl;simp [PzV, Act.eval] at et36;have c0 := hW.1.cell HX.out.1 (by simp);exact ⟨by simpa [PzW, upd] using hW, _, by go_simp, rfl⟩
            · refine sC_ fun sg ly a wr hl hd hW hF => ?_;simp [Region.binds] at hd;have et37 := hF.new 1 37 (by simp [hd]) rfl;simp [PzV, Act.eval] at et37;have n6 := hF.notYet 2 6 hl (by kernel_rfl);have n7_6 := hF.notYet 2 6 hl (by kernel_rfl);have n7 := hF.notYet 6 7 n7_6 (by kernel_rfl);have n8_6 := hF.notYet 2 6 hl (by kernel_rfl);have n8_7 := hF.notYet 6 7 n8_6 (by kernel_rfl);have n8 := hF.notYet 7 8 n8_7 (by kernel_rfl);refine ⟨75, #[.slice Ar n cr], by go_simp, ?_⟩;refine (HC.out.1 wr hW.1).mono ?_;rintro e w2 ⟨A', c', q, rfl, h1, h2, h3⟩;obtain ⟨g, rfl, rfl, hg1, hg2, hg3⟩ := h1.some_ (by omega);have hgw := h2 g (by simp);refine ⟨_, { sg with gb := g, c1 := c' }, rfl, ⟨hW.1.trans (Keep.of_below (S := []) h3) (by simp), (fun _ => ⟨h1, Nat.le_trans hW.1.size hgw⟩), (fun h => ⟨(hW.2.2.1 (by simpa [upd] using h)).1.keepS (Keep.of_below (S := []) h3) (by simp), (hW.2.2.1 (by simpa [upd] using h)).2⟩), fun h => absurd h (by simp [upd, n7])⟩, rfl, ?_⟩;intro i u hi h;have i2 : i ≠ 2 := by rintro rfl; rw [hl] at hi; cases hi
              have i26 : i ≠ 6 := by rintro rfl; rw [n6] at hi; cases hi
              have i27 : i ≠ 7 := by rintro rfl; rw [n7] at hi; cases hi
              have i28 : i ≠ 8 := by rintro rfl; rw [n8] at hi; cases hi
              unfold PzV at h ⊢;split at h <;> first | exact h | exact absurd rfl i2 | exact absurd rfl i26 | exact absurd rfl i27 | exact absurd rfl i28
            · refine sP_ fun sg ly a wr hl hd hW hF => ?_;have et4 := hF.old 4 (by kernel_rfl);simp [Act.eval] at et4;exact ⟨by simpa [PzW, upd] using hW, .pointer (some ⟨sb, 1, none⟩), by go_simp, rfl⟩
            · refine sP_ fun sg ly a wr hl hd hW hF => ?_;simp [Region.binds] at hd;have et39 := hF.new 3 39 (by simp [hd]) rfl;simp [PzV, Act.eval] at et39;have c0 := hW.1.cell HX.out.2 (by simp);exact ⟨by simpa [PzW, upd] using hW, _, by go_simp, rfl⟩
            · refine sC_ fun sg ly a wr hl hd hW hF => ?_;simp [Region.binds] at hd;have et40 := hF.new 4 40 (by simp [hd]) rfl;simp [PzV, Act.eval] at et40;have n6 := hF.notYet 5 6 hl (by kernel_rfl);have n7_6 := hF.notYet 5 6 hl (by kernel_rfl);have n7 := hF.notYet 6 7 n7_6 (by kernel_rfl);have n8_6 := hF.notYet 5 6 hl (by kernel_rfl);have n8_7 := hF.notYet 6 7 n8_6 (by kernel_rfl);have n8 := hF.notYet 7 8 n8_7 (by kernel_rfl);refine ⟨76, #[.slice Au m cu], by go_simp, ?_⟩;refine (HC.out.2 wr hW.1).mono ?_;rintro e w2 ⟨A', c', q, rfl, h1, h2, h3⟩;obtain ⟨g, rfl, rfl, hg1, hg2, hg3⟩ := h1.some_ (by omega);have hgw := h2 g (by simp);refine ⟨_, { sg with ub := g, c2 := c' }, rfl, ⟨hW.1.trans (Keep.of_below (S := []) h3) (by simp), (fun h => ⟨(hW.2.1 (by simpa [upd] using h)).1.keepS (Keep.of_below (S := []) h3) (by simp), (hW.2.1 (by simpa [upd] using h)).2⟩), (fun _ => ⟨h1, Nat.le_trans hW.1.size hgw⟩), fun h => absurd h (by simp [upd, n7])⟩, rfl, ?_⟩;intro i u hi h;have i2 : i ≠ 5 := by rintro rfl; rw [hl] at hi; cases hi
              have i26 : i ≠ 6 := by rintro rfl; rw [n6] at hi; cases hi
              have i27 : i ≠ 7 := by rintro rfl; rw [n7] at hi; cases hi
              have i28 : i ≠ 8 := by rintro rfl; rw [n8] at hi; cases hi
              unfold PzV at h ⊢;split at h <;> first | exact h | exact absurd rfl i2 | exact absurd rfl i26 | exact absurd rfl i27 | exact absurd rfl i28
            · refine sP_ fun sg ly a wr hl hd hW hF => ?_;simp [Region.binds] at hd;have et3 := hF.old 3 (by kernel_rfl);simp [Act.eval] at et3;have et5 := hF.old 5 (by kernel_rfl);simp [Act.eval] at et5;have et38 := hF.new 2 38 (by simp [hd]) rfl;simp [PzV, Act.eval] at et38;have et41 := hF.new 5 41 (by simp [hd]) rfl;simp [PzV, Act.eval] at et41;exact ⟨by simpa [PzW, upd] using hW, .agg #[.pointer (some ⟨pb, 0, none⟩), .pointer (some ⟨lb, 0, none⟩), .slice (some ⟨sg.gb, 0, none⟩) n sg.c1, .slice (some ⟨sg.ub, 0, none⟩) m sg.c2], by go_simp, rfl⟩
            · refine sR_ fun sg ly a wr hl hd hW hF => ?_;simp [Region.binds] at hd;have et42 := hF.new 6 42 (by simp [hd]) rfl;simp [PzV, Act.eval] at et42;have n8 := hF.notYet 7 8 hl (by kernel_rfl);have hK : Keep [] wr (wr.alloc (.cells #[.pointer (some ⟨pb, 0, none⟩), .pointer (some ⟨lb, 0, none⟩), .slice (some ⟨sg.gb, 0, none⟩) n sg.c1, .slice (some ⟨sg.ub, 0, none⟩) m sg.c2] 135)) := (Keep.refl _ _).alloc _;refine ⟨_, wr.alloc (.cells #[.pointer (some ⟨pb, 0, none⟩), .pointer (some ⟨lb, 0, none⟩), .slice (some ⟨sg.gb, 0, none⟩) n sg.c1, .slice (some ⟨sg.ub, 0, none⟩) m sg.c2] 135), { sg with wb := wr.heap.size }, by go_simp, ⟨hW.1.alloc _, (fun h => ⟨(hW.2.1 (by simpa [upd] using h)).1.keepS hK (by simp), (hW.2.1 (by simpa [upd] using h)).2⟩), (fun h => ⟨(hW.2.2.1 (by simpa [upd] using h)).1.keepS hK (by simp), (hW.2.2.1 (by simpa [upd] using h)).2⟩), (fun _ => ⟨heap_alloc_new _ _, hW.1.size⟩)⟩, rfl, ?_⟩;intro i u hi h;have i2 : i ≠ 7 := by rintro rfl; rw [hl] at hi; cases hi
              have i28 : i ≠ 8 := by rintro rfl; rw [n8] at hi; cases hi
              unfold PzV at h ⊢;split at h <;> first | exact h | exact absurd rfl i2 | exact absurd rfl i28
            · refine sP_ fun sg ly a wr hl hd hW hF => ?_;simp [Region.binds] at hd;have et43 := hF.new 7 43 (by simp [hd]) rfl;simp [PzV, Act.eval] at et43;exact ⟨by simpa [PzW, upd] using hW, .pointer (some ⟨sg.wb, 0, none⟩), by go_simp, rfl⟩
            · refine sP_ fun sg ly a wr hl hd hW hF => ?_;exact ⟨by simpa [PzW, upd] using hW, .int .i64 0, by go_simp, rfl⟩
          intro sg a w3 hWW hF;have e6 := hF.new 8 6 (by decide) rfl;have e7 := hF.new 9 7 (by decide) rfl;obtain ⟨f3, hf3, rfl⟩ := hF.lit;rw [← hf3] at e6 e7;simp only [PzV] at e6 e7;obtain ⟨kp3, o1, o2, o3⟩ := hWW;obtain ⟨o1, o1'⟩ := o1 (by simp);obtain ⟨o2, o2'⟩ := o2 (by simp);obtain ⟨o3, o3'⟩ := o3 (by simp);have HF := Lib.hid (And.intro kp3 (And.intro o1 (And.intro o1' (And.intro o2 (And.intro o2' (And.intro o3 o3'))))));clear hf3 hF kp3 o1 o1' o2 o2' o3 o3';simp only [List.filterMap, List.foldl, List.setIfInBounds_toArray, List.set_cons_succ, List.set_cons_zero, e6, e7];clear e6 e7;go_wp2_with fail
          go_ret2
          obtain ⟨kp3, o1, o1', o2, o2', o3, o3'⟩ := HF.out;have hst := startE_3 (s := s) H1.out.1 HA.out.2.2.1 HA.out.2.2.2 HA.out.1.symm;have kk := HK2.out.trans kp3 (by simp);have bw3 : Below w.heap.size w w3 := H1.out.2.1.trans (kk.below H1.out.2.1.size (by simp));have hh : w.heap.size ≤ W2.heap.size := Nat.le_trans H1.out.2.1.size HK2.out.size;have zw1 := hL_ H1.out.2.2.1;have zl1 := hL_ H1.out.2.2.2.2.1;have hw12 := HK2.out.size;have hgu : sg.gb ≠ sg.ub := fun e => by
            obtain ⟨g1, cur1, e1, _, h1, _⟩ := o1.2.resolve_left (fun h => by cases h.1);obtain ⟨g2, cur2, e2, _, h2, _⟩ := o2.2.resolve_left (fun h => by cases h.1);injection e1 with e1; injection e1 with e1 _ _
            injection e2 with e2; injection e2 with e2 _ _
            subst e1; subst e2;rw [e, h2] at h1;injection h1 with h1; injection h1 with _ h1
            exact absurd h1 (by decide)
          have hgw : sg.gb ≠ sg.wb ∧ sg.ub ≠ sg.wb := ⟨fun e => by
            obtain ⟨g1, cur1, e1, _, h1, _⟩ := o1.2.resolve_left (fun h => by cases h.1);injection e1 with e1; injection e1 with e1 _ _
            subst e1;rw [e, o3] at h1;injection h1 with h1; injection h1 with _ h1
            exact absurd h1 (by decide), fun e => by
            obtain ⟨g1, cur1, e1, _, h1, _⟩ := o2.2.resolve_left (fun h => by cases h.1);injection e1 with e1; injection e1 with e1 _ _
            subst e1;rw [e, o3] at h1;injection h1 with h1; injection h1 with _ h1
            exact absurd h1 (by decide)⟩
          have hnp : n = p.chs.length := by rw [HNM.out.1]; exact HA.out.2.2.1
          have hmp : m = p.bts.length := by rw [HNM.out.2]; exact HA.out.2.2.2
          refine ⟨bw3, .inr ⟨hst, ⟨sg.wb, pb, lb, sg.gb, sg.ub, sg.c1, sg.c2, D, Ac, Ab, Al, As, cc, cb, cl, cs, p, l⟩, ⟨⟨rfl, rfl, rfl, rfl, rfl, rfl, rfl, rfl, rfl, rfl, rfl⟩, ⟨by simp only; omega, hnew.1, hnew.2.1, by simp only; omega, by simp only; omega⟩, ⟨hgu, ⟨hgw.1, by simp only; omega, by simp only; omega, by simp only; omega⟩, ⟨hgw.2, by simp only; omega, by simp only; omega, by simp only; omega⟩⟩, ⟨?_, (kk.block _ zw1 (by simp)).trans H1.out.2.2.1, (kk.block _ zl1 (by simp)).trans H1.out.2.2.2.2.1, H.out.1.below (bw3.mono hD), H.out.2.1.below (bw3.mono hD), by have := bw3.size; simp only; omega⟩⟩, ⟨Keep.refl _ _, by simp only; rw [← hnp]; exact o1, by simp only; rw [← hmp]; exact o2⟩, rfl⟩⟩;simp only [wkV, brV, buV];rw [← hnp, ← hmp];exact o3
        · clear hn hm;go_wp2_with (go_at_call 73; refine HA.out.2.1.mono ?_; rintro e w2 ⟨rfl, mm, rfl⟩)
          go_ret2
          have h := startE_2 (s := s) H1.out.1 (.inr (.inr HA.out.1.symm));exact ⟨below_drewN H1.out.2.1 _, .inl ⟨by rw [h]; decide, by rw [h]; rfl⟩⟩
      · have q1 : ((s.brash.length : Int) != (p.chs.length : Int)) = false := by simp [h1]
        have q2 : ((s.busy.length : Int) != (p.bts.length : Int)) = true := by simpa using (show ¬ (s.busy.length : Int) = (p.bts.length : Int) by omega)
        have h := HBad.out (startE_2 H1.out.1 (.inr (.inl h2)));have HF := Lib.hid h;clear h h1 h2;go_wp2_with fail
        go_ret2
        exact HF.out
    · have q1 : ((s.brash.length : Int) != (p.chs.length : Int)) = true := by simpa using (show ¬ (s.brash.length : Int) = (p.chs.length : Int) by omega)
      have h := HBad.out (startE_2 H1.out.1 (.inl h1));have HF := Lib.hid h;clear h h1;go_wp2_with fail
      go_ret2
      exact HF.out
  · have hne : (er != 0) = true := by simp [h0]
    have hc := startE_1 (s := s) H.out.2.2.2.2.2.2.2.1.symm h0;have HC := Lib.hid (And.intro hc h0);clear hc h0;go_wp2_with (go_at_call 56; refine H.out.2.2.2.2.2.2.2.2.mono ?_; rintro e w1 ⟨rfl, b1⟩)
    go_ret2
    exact ⟨H.out.2.2.2.1.trans (b1.mono H.out.2.2.2.1.size), .inl ⟨by rw [HC.out.1]; exact HC.out.2, by rw [HC.out.1]; rfl⟩⟩
theorem cbNothing (a : Array Value) (w : World) : (callFunc 55 a).run Tryz.prog w = .ok (.enter 55 a) w := by go_simp
def runE (p : Prt) (s : Stt) (l : Pln) : Int := if startE p s l ≠ 0 then startE p s l else (runR p l s).2
def runI (p : Prt) (s : Stt) (l : Pln) : Int := if startE p s l ≠ 0 then 0 else (runR p l s).1
def runV (p : Prt) (s : Stt) (l : Pln) : Stt := if runE p s l = 0 then stN p l s l.hours.toNat else ⟨[], []⟩
def FreshA (w : World) (A : Option Addr) : Prop := ∀ b o, A = some ⟨b, o, none⟩ → w.heap.size ≤ b
def RunsPost (w : World) (p : Prt) (s : Stt) (l : Pln) (e : Ending) (w' : World) : Prop :=
  ∃ A c B d, e = .returned (.tuple #[.agg (sttV A c B d (runV p s l)), .int .i64 (runI p s l), .int .i64 (runE p s l)]) ∧ SttB w'.heap.size w' A c B d (runV p s l) ∧ Below w.heap.size w w' ∧ FreshA w A ∧ FreshA w B
theorem stt_nil (w : World) (D : Nat) : SttB D w none 0 none 0 ⟨[], []⟩ := ⟨⟨rfl, fun h => absurd h (by decide)⟩, ⟨rfl, fun h => absurd h (by decide)⟩, ⟨Nat.le_refl _, by omega, fun _ => rfl⟩, ⟨Nat.le_refl _, by omega, fun _ => rfl⟩⟩
theorem stt_results {F : Func} {r s t : Nat} (hF : F.results = #[.cell r 39, .tmp s, .tmp t]) {W : World} {b : Nat} {A B : Option Addr} {n c m d : Nat} (h : W.heap[b]? = some (.cells #[.slice A n c, .slice B m d] 39 (0, 0))) (tmps : Array Value) (v u : Value) (hr : tmps.getD r undef = .pointer (some ⟨b, 0, none⟩)) (hs : tmps.getD s undef = v) (ht : tmps.getD t undef = u) :
    (results F tmps).run Tryz.prog W = .ok (.tuple #[.agg #[.slice A n c, .slice B m d], v, u]) W := by
  have g7 : tmps[r]?.getD undef = .pointer (some ⟨b, 0, none⟩) := by simpa using hr
  have g8 : tmps[s]?.getD undef = v := by simpa using hs
  have g9 : tmps[t]?.getD undef = u := by simpa using ht
  have c0 : W.cell? ⟨b, 0, none⟩ = some (.slice A n c) := (cOH h 0).trans rfl;have c1 : W.cell? ⟨b, 1, none⟩ = some (.slice B m d) := (cOH h 1).trans rfl;simp [results, hF, g7, g8, g9, asAddr, go_sem, c0, c1]
theorem wk_sttB {c : WC} {w : World} {s : Stt} (h : WkS c w w s) : SttB w.heap.size w (some ⟨c.gb, 0, none⟩) c.c1 (some ⟨c.ub, 0, none⟩) c.c2 s := by
  have hl := h.len;have r1 := h.br.rd;have r2 := h.bu.rd;rw [← hl.1] at r1;rw [← hl.2] at r2;exact ⟨RdB.of r1 (Nat.le_refl _), RdB.of r2 (Nat.le_refl _), ⟨by rw [hl.1]; exact h.br.ge, h.br.cap, fun h => by cases h⟩, ⟨by rw [hl.2]; exact h.bu.ge, h.bu.cap, fun h => by cases h⟩⟩
theorem start_bd {p : Prt} {s : Stt} {l : Pln} (h : startE p s l = 0) : checkL p l = 0 ∧ s.brash.length = p.chs.length ∧ s.busy.length = p.bts.length ∧ (∀ x ∈ s.brash, 0 ≤ x ∧ x ≤ 1000000) := by
  unfold startE at h;split at h
  · rename_i h1; exact absurd h h1
  · split at h
    · cases h
    · rename_i h1 h2
      have h3 : s.brash.length = p.chs.length ∧ s.busy.length = p.bts.length ∧ s.brash.any (fun n => !within n 0 1000000) = false := by
        refine ⟨Classical.byContradiction fun q => h2 (.inl q), Classical.byContradiction fun q => h2 (.inr (.inl q)), ?_⟩;cases q : s.brash.any (fun n => !within n 0 1000000) with
        | false => rfl
        | true => exact absurd (.inr (.inr q)) h2
      refine ⟨by simpa using h1, h3.1, h3.2.1, fun x hx => ?_⟩;have : (!within x 0 1000000) = false := by
        cases q : !within x 0 1000000 with
        | false => rfl
        | true => rw [List.any_eq_true.2 ⟨x, hx, q⟩] at h3; exact absurd h3.2.2 (by decide)
      simpa [within] using this
theorem brR_of {b : List Int} {B : Int} (hB : 0 ≤ B) (h : ∀ x ∈ b, 0 ≤ x ∧ x ≤ B) : brR B b := fun c => by
  unfold getI;rw [List.getD_eq_getElem?_getD];cases hc : b[c.toNat]? with
  | none => simpa using (by omega : -B ≤ 0 ∧ 0 ≤ B)
  | some x => have := h x (List.mem_of_getElem? hc); simpa using (by omega : -B ≤ x ∧ x ≤ B)
def RfV (W0 : World) (wb rb n c1 m c2 : Nat) (gb ub : Nat) (i : Int) : Nat → Value → Prop
  | 0, v => v = .pointer (some ⟨wb, 0, none⟩)
  | 1, v => v = .pointer (some ⟨wb, 0, none⟩)
  | 2, v => v = .pointer (some ⟨wb, 2, none⟩)
  | 3, v => v = .slice (some ⟨gb, 0, none⟩) n c1
  | 4, v => v = .pointer (some ⟨wb, 0, none⟩)
  | 5, v => v = .pointer (some ⟨wb, 0, none⟩)
  | 6, v => v = .pointer (some ⟨wb, 3, none⟩)
  | 7, v => v = .slice (some ⟨ub, 0, none⟩) m c2
  | 8, v => v = .agg #[.slice (some ⟨gb, 0, none⟩) n c1, .slice (some ⟨ub, 0, none⟩) m c2]
  | 9, v => v = .int .i64 i
  | 11, v => v = .int .i64 i
  | 12, v => v = .int .i64 0
  | _, _ => True
def RfW (W0 : World) (wb rb n c1 m c2 : Nat) (gb ub : Nat) (i : Int) (l : Nat → Bool) (w : World) : Prop := if l 10 then w = ((W0.setCell ⟨rb, 0, none⟩ (.slice (some ⟨gb, 0, none⟩) n c1)).setCell ⟨rb, 1, none⟩ (.slice (some ⟨ub, 0, none⟩) m c2)).drew else w = W0.drew
theorem Run_any (D : Nat) (Ac : Option Addr) (cc : Nat) (Ab : Option Addr) (cb : Nat) (p : Prt) (Al : Option Addr) (cl : Nat) (As : Option Addr) (cs : Nat) (l : Pln) (Ar : Option Addr) (cr : Nat) (Au : Option Addr) (cu : Nat) (s : Stt) (w : World)
    (PB : PrtB D w Ac cc Ab cb p) (LB : PlnB D w Al cl As cs l) (SB : SttB D w Ar cr Au cu s) (hD : D ≤ w.heap.size) :
    Calls Tryz.prog 28 #[.agg (prtV Ac cc Ab cb p), .agg (sttV Ar cr Au cu s), .agg (plnV Al cl As cs l)] w (RunsPost w p s l) := by
  obtain ⟨W, hW⟩ : ∃ W, W = (((w.alloc (.cells (prtV Ac cc Ab cb p) 25)).alloc (.cells (sttV Ar cr Au cu s) 39)).alloc (.cells (plnV Al cl As cs l) 35)).alloc (.cells #[.slice none 0 0, .slice none 0 0] 39) := ⟨_, rfl⟩;have b0 : Below w.heap.size w W := by rw [hW]; exact ((((Below.refl _ _).alloc (Nat.le_refl _) _).alloc (by simp) _).alloc (by simp; omega) _).alloc (by simp; omega) _
  obtain ⟨pb, hpb⟩ : ∃ b, b = w.heap.size := ⟨_, rfl⟩;obtain ⟨sb, hsb⟩ : ∃ b, b = w.heap.size + 1 := ⟨_, rfl⟩;obtain ⟨lb, hlb⟩ : ∃ b, b = w.heap.size + 1 + 1 := ⟨_, rfl⟩;obtain ⟨rb, hrb⟩ : ∃ b, b = w.heap.size + 1 + 1 + 1 := ⟨_, rfl⟩;have hp : W.heap[pb]? = some (.cells (prtV Ac cc Ab cb p) 25 (0, 0)) := by rw [hW, hpb]; exact hA_ (hA_ (hA_ (heap_alloc_new _ _) _) _) _
  have hs : W.heap[sb]? = some (.cells (sttV Ar cr Au cu s) 39 (0, 0)) := by
    rw [hW, hsb];refine hA_ (hA_ ?_ _) _;have := heap_alloc_new (w.alloc (.cells (prtV Ac cc Ab cb p) 25)) (.cells (sttV Ar cr Au cu s) 39)
    rwa [World.size_alloc] at this
  have hl : W.heap[lb]? = some (.cells (plnV Al cl As cs l) 35 (0, 0)) := by
    rw [hW, hlb];refine hA_ ?_ _;have := heap_alloc_new ((w.alloc (.cells (prtV Ac cc Ab cb p) 25)).alloc (.cells (sttV Ar cr Au cu s) 39)) (.cells (plnV Al cl As cs l) 35)
    rwa [World.size_alloc, World.size_alloc] at this
  have hr : W.heap[rb]? = some (.cells #[.slice none 0 0, .slice none 0 0] 39 (0, 0)) := by
    rw [hW, hrb];have := heap_alloc_new (((w.alloc (.cells (prtV Ac cc Ab cb p) 25)).alloc (.cells (sttV Ar cr Au cu s) 39)).alloc (.cells (plnV Al cl As cs l) 35)) (.cells #[.slice none 0 0, .slice none 0 0] 39)
    rwa [World.size_alloc, World.size_alloc, World.size_alloc] at this
  have kst := start_any D Ac cc Ab cb p Al cl As cs l Ar cr Au cu s W (PB.below (b0.mono hD)) (LB.below (b0.mono hD)) (SB.below (b0.mono hD)) (by have := b0.size; omega);have c0 : W.cell? ⟨pb, 0, none⟩ = some (.slice Ac p.chs.length cc) := (cOH hp 0).trans rfl;have c1 : W.cell? ⟨pb, 1, none⟩ = some (.slice Ab p.bts.length cb) := (cOH hp 1).trans rfl;have c2 : W.cell? ⟨pb, 2, none⟩ = some (.int .i64 p.tugs) := (cOH hp 2).trans rfl;have c3 : W.cell? ⟨lb, 0, none⟩ = some (.int .i64 l.hours) := (cOH hl 0).trans rfl;have c4 : W.cell? ⟨lb, 1, none⟩ = some (.slice Al l.calls.length cl) := (cOH hl 1).trans rfl;have c5 : W.cell? ⟨lb, 2, none⟩ = some (.slice As l.swps.length cs) := (cOH hl 2).trans rfl;have c6 : W.cell? ⟨sb, 0, none⟩ = some (.slice Ar s.brash.length cr) := (cOH hs 0).trans rfl;have c7 : W.cell? ⟨sb, 1, none⟩ = some (.slice Au s.busy.length cu) := (cOH hs 1).trans rfl;have zp := hL_ hp;have zl := hL_ hl;have zs := hL_ hs;have hrw : w.heap.size ≤ rb := by omega
  have H := Lib.hid (And.intro b0 (And.intro hr kst));clear b0 hp hs hl hr kst
  go_enter Tryz.func28, Tryz.ntmps28
  go_upto_region 1 with fail
  rw [← hW, ← hrb, ← hlb, ← hsb, ← hpb];clear hW hlb hsb hpb hrb;go_wp2_with fail
  refine H.out.2.2.mono ?_;rintro e w1 ⟨b1, hcase⟩;have hr1 := (b1.block _ (hL_ H.out.2.1)).trans H.out.2.1;have bw1 : Below w.heap.size w w1 := H.out.1.trans (b1.mono H.out.1.size);clear c0 c1 c2 c3 c4 c5 c6 c7 zp zl zs;rcases hcase with ⟨hne, rfl⟩ | ⟨he, c, hM, hS, rfl⟩
  · have f0 := fOH hr1 0;have f1 := fOH hr1 1;have d0 := (cOH hr1 0).trans rfl;have d1 := (cOH hr1 1).trans rfl;have zr := hL_ hr1;obtain ⟨er, her⟩ : ∃ er, er = startE p s l := ⟨_, rfl⟩;rw [← her] at hne ⊢;have hnb : (er != 0) = true := by simpa using hne
    have hv : runE p s l = er ∧ runI p s l = 0 := by unfold runE runI; rw [if_pos (by rw [← her]; exact hne), if_pos (by rw [← her]; exact hne), her]; exact ⟨rfl, rfl⟩
    have hvv : runV p s l = ⟨[], []⟩ := by unfold runV; rw [if_neg (by rw [hv.1]; exact hne)]
    have HF := Lib.hid (And.intro hv.1 (And.intro hv.2 (And.intro hvv (And.intro hr1 bw1))));clear hv hvv hr1 bw1 her hne b1;go_wp2_with fail
    refine bodyPost_ret (stt_results rfl (hS_ (hS_ HF.out.2.2.2.1 0 (.slice none 0 0)) 1 (.slice none 0 0)) _ _ _ rfl rfl rfl) rfl ?_;refine ⟨none, 0, none, 0, ?_, ?_, (HF.out.2.2.2.2.setCell hrw _).setCell hrw _, (fun _ _ h => by cases h), (fun _ _ h => by cases h)⟩
    · rw [HF.out.1, HF.out.2.1, HF.out.2.2.1]; rfl
    · rw [HF.out.2.2.1]; exact stt_nil _ _
  · obtain ⟨hc, hlen1, hlen2, hbr⟩ := start_bd he;obtain ⟨q1, q2, q3, q4, q5, q6, q7, q8, q9, q10, q11⟩ := hM.eq;have v : Val c.p c.l := by rw [q6, q11]; exact val_of hc
    have krun := run_any hM.E hM.N hS v (brR_of (by decide) hbr) 55 55 #[] #[] cbNothing cbNothing [] (by simp) (fun _ _ => True) (fun _ _ => True) (fun _ _ => True) trivial
      (fun k w _ _ _ _ _ => (nothing_any _ _).mono fun e w' h => ⟨h.1, ⟨[], by rw [← h.2]; exact Keep.refl _ _, by simp⟩, trivial⟩) (fun k w _ _ _ _ _ => (nothing_any _ _).mono fun e w' h => ⟨h.1, ⟨[], by rw [← h.2]; exact Keep.refl _ _, by simp⟩, trivial⟩) (fun _ _ _ _ _ => trivial) (fun _ _ _ _ _ => trivial)
    have hrn : rb ≠ c.gb ∧ rb ≠ c.ub ∧ rb ≠ c.wb := by have := hM.new; have := hL_ H.out.2.1; omega
    have hg := hM.new;obtain ⟨R, hR⟩ : ∃ R, R = runR p l s := ⟨_, rfl⟩;have HM := Lib.hid (And.intro hM (And.intro krun (And.intro he (And.intro hr1 (And.intro bw1 (And.intro q6 (And.intro q11 hR)))))));clear hM krun he hr1 bw1 hS v hc hbr hlen1 hlen2 q1 q2 q3 q4 q5 q6 q7 q8 q9 q10 q11 b1 hR;go_wp2_with fail
    refine HM.out.2.1.mono ?_;rintro e w3 ⟨rfl, kp, hok⟩;rw [HM.out.2.2.2.2.2.1, HM.out.2.2.2.2.2.2.1, ← HM.out.2.2.2.2.2.2.2] at hok ⊢;have hr3 := (kp.block rb (hL_ HM.out.2.2.2.1) (by simp; exact ⟨hrn.1, hrn.2.1⟩)).trans HM.out.2.2.2.1;have hWs := H.out.1.size;have bw3 : Below w.heap.size w w3 := HM.out.2.2.2.2.1.trans (kp.below HM.out.2.2.2.2.1.size (by simp; omega));have f0 := fOH hr3 0;have f1 := fOH hr3 1;have d0 := (cOH hr3 0).trans rfl;have d1 := (cOH hr3 1).trans rfl;have zr := hL_ hr3;obtain ⟨i, er⟩ := R;have hrr : runR p l s = (i, er) := HM.out.2.2.2.2.2.2.2.symm;have hv : runE p s l = er ∧ runI p s l = i := by unfold runE runI; rw [if_neg (by rw [HM.out.2.2.1]; simp), if_neg (by rw [HM.out.2.2.1]; simp), hrr]; exact ⟨rfl, rfl⟩
    by_cases her : er = 0
    · subst her;have hvv : runV p s l = stN p l s l.hours.toNat := by unfold runV; rw [if_pos hv.1]
      obtain ⟨S3, _⟩ := hok rfl;have E3 := HM.out.1.E.keep kp (by have := HM.out.1.N.g; have := HM.out.1.N.u; simp; omega);obtain ⟨_, _, q2, q3, _, _, _, _, _, z1, _, _⟩ := E3.cells;obtain ⟨n, hn⟩ : ∃ n, n = c.p.chs.length := ⟨_, rfl⟩;obtain ⟨m, hm⟩ : ∃ m, m = c.p.bts.length := ⟨_, rfl⟩;have hbr : brV c = .slice (some ⟨c.gb, 0, none⟩) n c.c1 := by rw [hn]
      have hbu : buV c = .slice (some ⟨c.ub, 0, none⟩) m c.c2 := by rw [hm]
      rw [hbr] at q2;rw [hbu] at q3;have hl3 := S3.len;have HF := Lib.hid (And.intro hv.1 (And.intro hv.2 (And.intro hvv (And.intro hr3 (And.intro bw3 (And.intro S3 (And.intro hn hm)))))));clear hv hvv hr3 bw3 S3 E3 hn hm hbr hbu hok kp hrr hl3;go_upto_region 7 with fail
      refine wRS (σ := Unit) (by kernel_rfl) (by kernel_rfl) (fun _ jx vx _ => RfV w3 c.wb rb n c.c1 m c.c2 c.gb c.ub i jx vx) (fun _ ly wx => RfW w3 c.wb rb n c.c1 m c.c2 c.gb c.ub i ly wx) () ?_ ?_ ?_
      · exact (by unfold RfW; rw [if_neg (by simp)])
      · simp only [AllFrom, Nat.zero_add, Nat.reduceAdd];refine ⟨?_, ?_, ?_, ?_, ?_, ?_, ?_, ?_, ?_, ?_, ?_, ?_, ?_, trivial⟩
        · refine sP_ fun sg ly a wr hl hd hW hF => ?_;have et9 := hF.old 9 (by kernel_rfl);simp [Act.eval] at et9;exact ⟨by simpa [RfW, upd] using hW, .pointer (some ⟨c.wb, 0, none⟩), by go_simp, rfl⟩
        · refine sP_ fun sg ly a wr hl hd hW hF => ?_;simp [Region.binds] at hd;have et33 := hF.new 0 33 (by simp [hd]) rfl;simp [RfV, Act.eval] at et33;exact ⟨by simpa [RfW, upd] using hW, .pointer (some ⟨c.wb, 0, none⟩), by go_simp, rfl⟩
        · refine sP_ fun sg ly a wr hl hd hW hF => ?_;simp [Region.binds] at hd;have et34 := hF.new 1 34 (by simp [hd]) rfl;simp [RfV, Act.eval] at et34;exact ⟨by simpa [RfW, upd] using hW, .pointer (some ⟨c.wb, 2, none⟩), by go_simp, rfl⟩
        · refine sP_ fun sg ly a wr hl hd hW hF => ?_;simp [Region.binds] at hd;have et35 := hF.new 2 35 (by simp [hd]) rfl;simp [RfV, Act.eval] at et35;have nL_8 := hF.notYet 3 8 hl (by kernel_rfl);have nL := hF.notYet 8 10 nL_8 (by kernel_rfl);have hW' := hW;unfold RfW at hW';rw [if_neg (by simp [nL])] at hW';subst hW';exact ⟨by unfold RfW; rw [if_neg (by simp [upd, nL])], _, by go_simp, rfl⟩
        · refine sP_ fun sg ly a wr hl hd hW hF => ?_;have et9 := hF.old 9 (by kernel_rfl);simp [Act.eval] at et9;exact ⟨by simpa [RfW, upd] using hW, .pointer (some ⟨c.wb, 0, none⟩), by go_simp, rfl⟩
        · refine sP_ fun sg ly a wr hl hd hW hF => ?_;simp [Region.binds] at hd;have et37 := hF.new 4 37 (by simp [hd]) rfl;simp [RfV, Act.eval] at et37;exact ⟨by simpa [RfW, upd] using hW, .pointer (some ⟨c.wb, 0, none⟩), by go_simp, rfl⟩
        · refine sP_ fun sg ly a wr hl hd hW hF => ?_;simp [Region.binds] at hd;have et38 := hF.new 5 38 (by simp [hd]) rfl;simp [RfV, Act.eval] at et38;exact ⟨by simpa [RfW, upd] using hW, .pointer (some ⟨c.wb, 3, none⟩), by go_simp, rfl⟩
        · refine sP_ fun sg ly a wr hl hd hW hF => ?_;simp [Region.binds] at hd;have et39 := hF.new 6 39 (by simp [hd]) rfl;simp [RfV, Act.eval] at et39;have nL_8 := hF.notYet 7 8 hl (by kernel_rfl);have nL := hF.notYet 8 10 nL_8 (by kernel_rfl);have hW' := hW;unfold RfW at hW';rw [if_neg (by simp [nL])] at hW';subst hW';exact ⟨by unfold RfW; rw [if_neg (by simp [upd, nL])], _, by go_simp, rfl⟩
        · refine sP_ fun sg ly a wr hl hd hW hF => ?_;simp [Region.binds] at hd;have et36 := hF.new 3 36 (by simp [hd]) rfl;simp [RfV, Act.eval] at et36;have et40 := hF.new 7 40 (by simp [hd]) rfl;simp [RfV, Act.eval] at et40;exact ⟨by simpa [RfW, upd] using hW, .agg #[.slice (some ⟨c.gb, 0, none⟩) n c.c1, .slice (some ⟨c.ub, 0, none⟩) m c.c2], by go_simp, rfl⟩
        · refine sP_ fun sg ly a wr hl hd hW hF => ?_;have et11 := hF.old 11 (by kernel_rfl);simp [Act.eval] at et11;exact ⟨by simpa [RfW, upd] using hW, .int .i64 i, by go_simp, rfl⟩
        · refine sS_ rfl fun sg ly a wr hl hd hW hF => ?_;simp [Region.binds] at hd;have et6 := hF.old 6 (by kernel_rfl);simp [Act.eval] at et6;have et41 := hF.new 8 41 (by simp [hd]) rfl;simp [RfV, Act.eval] at et41;have hW' := hW;unfold RfW at hW';rw [if_neg (by simp [hl])] at hW';subst hW';refine ⟨((w3.setCell ⟨rb, 0, none⟩ (.slice (some ⟨c.gb, 0, none⟩) n c.c1)).setCell ⟨rb, 1, none⟩ (.slice (some ⟨c.ub, 0, none⟩) m c.c2)).drew, (), .skip, by go_simp, .inl rfl, by unfold RfW; rw [if_pos (by simp [upd])], fun _ _ _ h => h⟩
        · refine sP_ fun sg ly a wr hl hd hW hF => ?_;simp [Region.binds] at hd;have et42 := hF.new 9 42 (by simp [hd]) rfl;simp [RfV, Act.eval] at et42;exact ⟨by simpa [RfW, upd] using hW, .int .i64 i, by go_simp, rfl⟩
        · refine sP_ fun sg ly a wr hl hd hW hF => ?_;exact ⟨by simpa [RfW, upd] using hW, .int .i64 0, by go_simp, rfl⟩
      intro _ a w5 hWW hF;have e7 := hF.new 11 7 (by decide) rfl;have e8 := hF.new 12 8 (by decide) rfl;obtain ⟨f3, hf3, rfl⟩ := hF.lit;rw [← hf3] at e7 e8;simp only [RfV] at e7 e8;have hw5 : w5 = ((w3.setCell ⟨rb, 0, none⟩ (.slice (some ⟨c.gb, 0, none⟩) n c.c1)).setCell ⟨rb, 1, none⟩ (.slice (some ⟨c.ub, 0, none⟩) m c.c2)).drew := by
        have h5 := hWW;unfold RfW at h5
        rwa [if_pos (by simp)] at h5
      clear hf3 hF hWW;simp only [List.filterMap, List.foldl, List.setIfInBounds_toArray, List.set_cons_succ, List.set_cons_zero, e7, e8];clear e7 e8;have hr5 : w5.heap[rb]? = some (.cells #[.slice (some ⟨c.gb, 0, none⟩) n c.c1, .slice (some ⟨c.ub, 0, none⟩) m c.c2] 39 (0, 0)) := by rw [hw5]; exact hS_ (hS_ HF.out.2.2.2.1 0 _) 1 _
      have kp5 : Keep [rb] w3 w5 := by rw [hw5]; exact (((Keep.refl _ _).setCell (.inl (by simp)) _).setCell (.inl (by simp)) _).drew
      have S5 : WkS c w5 w5 (stN p l s l.hours.toNat) := ⟨Keep.refl _ _, HF.out.2.2.2.2.2.1.br.keepS kp5 (by simpa using hrn.1.symm), HF.out.2.2.2.2.2.1.bu.keepS kp5 (by simpa using hrn.2.1.symm)⟩;have H5 := Lib.hid (And.intro hr5 (And.intro kp5 S5));clear hw5 hr5 kp5 S5;go_wp2_with fail
      refine bodyPost_ret (stt_results rfl H5.out.1 _ _ _ rfl rfl rfl) rfl ?_;have hl5 := H5.out.2.2.len;refine ⟨some ⟨c.gb, 0, none⟩, c.c1, some ⟨c.ub, 0, none⟩, c.c2, ?_, ?_, HF.out.2.2.2.2.1.trans (H5.out.2.1.below HF.out.2.2.2.2.1.size (by simpa using hrw)), (fun b o h => by injection h with h; injection h with h _ _; omega), (fun b o h => by injection h with h; injection h with h _ _; omega)⟩
      · rw [HF.out.1, HF.out.2.1, HF.out.2.2.1];simp only [sttV];rw [hl5.1, hl5.2, ← HF.out.2.2.2.2.2.2.1, ← HF.out.2.2.2.2.2.2.2]; rfl
      · rw [HF.out.2.2.1]; exact wk_sttB H5.out.2.2
    · have hnb : (er != 0) = true := by simpa using her
      have hvv : runV p s l = ⟨[], []⟩ := by unfold runV; rw [if_neg (by rw [hv.1]; exact her)]
      have HF := Lib.hid (And.intro hv.1 (And.intro hv.2 (And.intro hvv (And.intro hr3 bw3))));clear hv hvv hr3 bw3 her hok kp hrr;go_wp2_with fail
      refine bodyPost_ret (stt_results rfl (hS_ (hS_ HF.out.2.2.2.1 0 (.slice none 0 0)) 1 (.slice none 0 0)) _ _ _ rfl rfl rfl) rfl ?_;refine ⟨none, 0, none, 0, ?_, ?_, (HF.out.2.2.2.2.setCell hrw _).setCell hrw _, (fun _ _ h => by cases h), (fun _ _ h => by cases h)⟩
      · rw [HF.out.1, HF.out.2.1, HF.out.2.2.1]; rfl
      · rw [HF.out.2.2.1]; exact stt_nil _ _
end Go.Proofs.YtalcinepeofmcaaGreat
namespace Go.Proofs.YtalcinepeofmcaaGreat
open Go Go.RowKit Go.Lib Sp Pt
structure LRow where
  A : Option Addr
  c : Nat
  l : List Int
  q : List Nat
def LRow.v (r : LRow) : Value := .slice r.A r.l.length r.c
structure TrS where
  bs : Nat
  A : Option Addr
  c : Nat
  g : Nat
  rA : Option Addr
  rc : Nat
  rq : List Nat
section
variable {W0 : World} {tb k : Nat} {A : Option Addr} {c : Nat} {xs : List Value} {q : List Nat} {row : List Int} {s : TrS} {l : Nat → Bool} {w w' : World}
end
end Go.Proofs.YtalcinepeofmcaaGreat

namespace Go.Proofs.YtalcinepeofmcaaGreat
open Go Go.RowKit Sp Pt
def nI (s : List Nat) : List Int := s.map Int.ofNat
theorem nI_len (s : List Nat) : (nI s).length = s.length := by simp [nI]
theorem nI_has (s : List Nat) (i : Nat) : (nI s).contains (i : Int) = s.contains i := by
  unfold nI;rw [Bool.eq_iff_iff, List.contains_iff_mem, List.contains_iff_mem, List.mem_map];exact ⟨fun ⟨a, ha, e⟩ => by have e2 : a = i := Int.ofNat.inj e; rwa [← e2], fun h => ⟨i, h, rfl⟩⟩
def RowO (q : List Nat) (w : World) (r : LRow) : Prop := Rd w 1 r.A r.l.length (ints r.l) ∧ ∀ b off, r.A = some ⟨b, off, none⟩ → b < w.heap.size ∧ b ∉ q
theorem RowO.keep {q q' : List Nat} {w w' : World} {r : LRow} (h : RowO q w r) (hk : Keep q w w') (hq : ∀ g ∈ q', g ∈ q ∨ w.heap.size ≤ g) : RowO q' w' r := by
  refine ⟨hk.rd h.1 (fun b off e => (h.2 b off e).2), fun b off e => ⟨Nat.lt_of_lt_of_le (h.2 b off e).1 hk.size, fun hm => ?_⟩⟩;have h1 := h.2 b off e;rcases hq b hm with g | g
  · exact h1.2 g
  · omega
theorem RowO.below {q : List Nat} {w w' : World} {r : LRow} (h : RowO q w r) (hb : Below w.heap.size w w') : RowO q w' r := ⟨h.1.below hb, fun b off e => ⟨Nat.lt_of_lt_of_le (h.2 b off e).1 hb.size, (h.2 b off e).2⟩⟩
def OrdPost (w : World) (A : Option Addr) (v : List (List Nat)) (e : Ending) (w' : World) : Prop :=
  ∃ (B : Option Addr) (c : Nat) (rows : List LRow), e = .returned (.slice B v.length c) ∧ Rd w' 1 B v.length (rows.map LRow.v) ∧ rows.map (·.l) = v.map nI ∧
    (∀ r ∈ rows, RowO [] w' r ∧ ∀ b off, r.A = some ⟨b, off, none⟩ → w.heap.size ≤ b ∨ r.A = A) ∧ Below w.heap.size w w'
theorem infoIS : (Tryz.prog.info? 36).map (fun i => (i.zero, i.size, i.bytes)) = some (some (.slice none 0 0), 1, 24) := by kernel_rfl
theorem infoIN : (Tryz.prog.info? 3).map (fun i => (i.zero, i.size, i.bytes)) = some (some (.int .i64 0), 1, 8) := by kernel_rfl
theorem ints_oneB (l : List Int) : ∀ u ∈ ints l, u.oneCell' = true := by
  intro u hu;obtain ⟨x, _, rfl⟩ := List.mem_map.1 hu;rfl
theorem own_empty {w : World} {e : TypeId} : OwnS (w.alloc (.cells #[] e)) e 1 (some ⟨w.heap.size, 0, none⟩) 0 0 [] [w.heap.size] :=
  ⟨rfl, .inr ⟨_, _, rfl, rfl, heap_alloc_new _ _, Nat.le_refl _, by decide, rfl, fun j v h => by simp at h⟩⟩
theorem ordS_few {n : Nat} : ∀ {k : Nat} {s : List Nat}, (ordS n k s).length ≤ n ^ k
  | 0, s => by simp [ordS]
  | k + 1, s => by
    have hg : ∀ (L : List Nat), (L.flatMap fun i => if s.contains i then [] else ordS n k (s ++ [i])).length ≤ L.length * n ^ k := by
      intro L;induction L with
      | nil => simp
      | cons a L ih =>
        rw [List.flatMap_cons, List.length_append, List.length_cons, Nat.add_mul, Nat.one_mul, Nat.add_comm];refine Nat.add_le_add ih ?_;split
        · simp
        · exact ordS_few
    have := hg (List.range n);rw [List.length_range] at this;rw [Nat.pow_succ, Nat.mul_comm];exact this
theorem ord_one {w : World} {x : Int} {e : TypeId} {j : Nat} {v : Value} (hv : [Value.int .i64 x][j]? = some v) : (w.alloc (.cells #[.int .i64 x] e)).cell? ((⟨w.heap.size, 0, none⟩ : Addr).add j) = some v := by
  obtain ⟨hj, rfl⟩ := List.getElem?_eq_some_iff.1 hv;obtain rfl : j = 0 := by simpa using hj
  exact (cOH (heap_alloc_new _ _) 0).trans rfl
theorem ord_more {wr w1 w2 : World} {e : TypeId} {f1 : List Nat} {g m c2 : Nat} {s : List Nat} {j : Nat} {o : Obj} (g1 : ∀ x ∈ f1, wr.heap.size ≤ x) (b1 : Below wr.heap.size wr w1) (h1 : OwnS w2 e 1 (some ⟨g, 0, none⟩) (m + 1) c2 (ints (nI s) ++ [.int .i64 (j : Int)]) [g])
    (h2 : g ∈ f1 ∨ (w1.alloc o).heap.size = g) (h3 : g < w2.heap.size) (h4 : Keep f1 (w1.alloc o) w2) :
    Rd w2 1 (some ⟨g, 0, none⟩) (m + 1) (ints (nI (s ++ [j]))) ∧ wr.heap.size ≤ g ∧ g < w2.heap.size ∧ Below wr.heap.size wr w2 := by
  have hs := b1.size;have e1 : ints (nI s) ++ [.int .i64 (j : Int)] = ints (nI (s ++ [j])) := by simp [ints, nI]
  rw [e1] at h1;refine ⟨h1.rd, ?_, h3, b1.trans (((Below.refl _ _).alloc hs _).trans (h4.below (by simp; omega) g1))⟩;rcases h2 with h | h
  · exact g1 g h
  · rw [← h]; simp; omega
theorem rows_one (L : List LRow) : ∀ u ∈ L.map LRow.v, u.oneCell' = true := by
  intro u hu;obtain ⟨x, _, rfl⟩ := List.mem_map.1 hu;rfl
theorem ord_step {W wr w3 w4 : World} {T : TypeId} {B A4 : Option Addr} {N d M c4 : Nat} {rows rows2 : List LRow} {q f4 : List Nat}
    (oo : Own W.heap.size W [.own T 1 B N d (rows.map LRow.v) q] wr) (hrow : ∀ r ∈ rows, RowO q wr r ∧ ∀ b off, r.A = some ⟨b, off, none⟩ → W.heap.size ≤ b) (b3 : Below wr.heap.size wr w3)
    (hr2 : ∀ r ∈ rows2, RowO [] w3 r ∧ ∀ b off, r.A = some ⟨b, off, none⟩ → wr.heap.size ≤ b)
    (h1 : OwnS w4 T 1 A4 (N + M) c4 (rows.map LRow.v ++ rows2.map LRow.v) f4) (h2 : ∀ x ∈ f4, x ∈ q ∨ w3.heap.size = x) (h3 : Keep q w3 w4) :
    Own W.heap.size W [.own T 1 A4 (N + M) c4 ((rows ++ rows2).map LRow.v) f4] w4 ∧ ∀ r ∈ rows ++ rows2, RowO f4 w4 r ∧ ∀ b off, r.A = some ⟨b, off, none⟩ → W.heap.size ≤ b := by
  have hq : ∀ x ∈ f4, x ∈ q ∨ w3.heap.size ≤ x := fun x hx => (h2 x hx).imp id Nat.le_of_eq;have hql : ∀ x ∈ q, x < wr.heap.size := (oo.get 0 rfl : OwnS _ _ _ _ _ _ _ _).lt;have O3 := oo.below b3;have hWs := oo.bel.size;rw [← List.map_append] at h1;refine ⟨O3.upd 0 rfl (i' := .own T 1 A4 (N + M) c4 ((rows ++ rows2).map LRow.v) f4) h3 h1 hq, fun r hr => ?_⟩;rcases List.mem_append.1 hr with hr | hr
  · exact ⟨((hrow r hr).1.below b3).keep h3 hq, (hrow r hr).2⟩
  · obtain ⟨h5, h6⟩ := hr2 r hr;exact ⟨RowO.keep (q := q) ⟨h5.1, fun b off e => ⟨(h5.2 b off e).1, fun hm => by have := h6 b off e; have := hql b hm; omega⟩⟩ h3 hq, fun b off e => by have := h6 b off e; omega⟩
theorem orders_rec (n : Nat) (hn : n ≤ 5) : ∀ (k : Nat) (s : List Nat) (m : Nat) (A : Option Addr) (c : Nat) (w : World), m = s.length → n = m + k → Rd w 1 A m (ints (nI s)) → (∀ b off, A = some ⟨b, off, none⟩ → b < w.heap.size) →
    Calls Tryz.prog 72 #[.slice A m c, .int .i64 n] w (OrdPost w A (ordS n k s))
  | 0, s, m, A, c, w, hm, hnk, hr, ha => by
    have HR := Lib.hid (And.intro hm (And.intro hr ha));obtain rfl : n = m := by omega
    clear hm hnk hr ha
    go_enter Tryz.func72, Tryz.ntmps72
    go_wp2_with fail
    go_ret;have e1 : n = (nI s).length := HR.out.1.trans (nI_len s).symm;have hb : Below w.heap.size w (w.alloc (.cells #[.slice A n c] 36)) := (Below.refl _ _).alloc (Nat.le_refl _) _;refine ⟨some ⟨w.heap.size, 0, none⟩, 1, [⟨A, c, nI s, []⟩], rfl, ⟨rfl, fun _ => ⟨w.heap.size, 0, rfl, by simp, fun j v hv => ?_⟩⟩, rfl, fun r hr => ?_, hb⟩
    · obtain ⟨hj, rfl⟩ := List.getElem?_eq_some_iff.1 hv;obtain rfl : j = 0 := by simpa using hj
      rw [cOH (heap_alloc_new _ _)];simp [LRow.v, ← e1]
    · rw [List.mem_singleton.1 hr];refine ⟨⟨?_, fun b off e => ⟨Nat.lt_of_lt_of_le (HR.out.2.2 b off e) hb.size, by simp⟩⟩, fun _ _ _ => .inr rfl⟩;show Rd _ 1 A (nI s).length (ints (nI s));rw [← e1];exact HR.out.2.1.below hb
  | k + 1, s, m, A, c, w, hm, hnk, hr, ha => by
    obtain ⟨iS, hS0, hS1, hS2, hS3⟩ := info_parts infoIS;obtain ⟨iN, hN0, hN1, hN2, hN3⟩ := info_parts infoIN;have hne : ¬ m = n := by omega
    have hne2 : ((m : Int) == (n : Int)) = false := by rw [beq_eq_false_iff_ne]; omega
    have hm5 : m ≤ 5 := by omega
    have IH := Lib.hid (orders_rec n hn k);have HR := Lib.hid (And.intro hm (And.intro hnk hr));have O0 : Own w.heap.size w [.own 36 1 none 0 0 [] []] w := by
      have h := (Own.start w).new (i := .own 36 1 none 0 0 [] []) (Below.refl _ _) (OwnS.nil _ _ _) (by simp [It.fp]);simpa using h
    have HO := Lib.hid O0;have kh : ∀ wx, Below w.heap.size w wx → ∀ i : Nat, Calls Tryz.prog 94 #[.slice A m c, .int .i64 i] wx fun e w' => e = .returned (.bool (s.contains i)) ∧ wx = w' := fun wx hb i => by
      have h1 := rhas_any A c (nI s) i wx (by rw [nI_len, ← hm]; exact hr.below hb) (by rw [nI_len]; omega);rw [nI_len, ← hm, nI_has] at h1;exact h1
    have KH := Lib.hid kh;have hord : ordS n (k + 1) s = (List.range n).flatMap fun i => if s.contains i then [] else ordS n k (s ++ [i]) := rfl
    have HD := Lib.hid hord;obtain ⟨V, hV⟩ : ∃ V, V = ordS n (k + 1) s := ⟨_, rfl⟩;rw [← hV];have HV := Lib.hid hV;clear hm hnk hr ha O0 kh hord hV
    go_enter Tryz.func72, Tryz.ntmps72
    go_wp2_with fail
    go_loopg [5, 6] (n) (fun g o i wr => ∃ (j : Nat) (B : Option Addr) (d : Nat) (rows : List LRow) (q : List Nat) (N : Nat), g + j = n ∧ i = .int .i64 j ∧ o = .slice B N d ∧ N = (((List.range j).flatMap fun i => if s.contains i then [] else ordS n k (s ++ [i]))).length ∧
      N ≤ j * 3125 ∧ Own w.heap.size w [.own 36 1 B N d (rows.map LRow.v) q] wr ∧ (∀ r ∈ rows, RowO q wr r ∧ ∀ b off, r.A = some ⟨b, off, none⟩ → w.heap.size ≤ b) ∧ rows.map (·.l) = (((List.range j).flatMap fun i => if s.contains i then [] else ordS n k (s ++ [i]))).map nI)
    case atStart => exact ⟨0, none, 0, [], [], 0, rfl, rfl, rfl, rfl, by omega, HO.out, by simp, rfl⟩
    case round =>
      obtain ⟨j, B, d, rows, q, N, hk, rfl, rfl, hN, hNb, oo, hrow, hmap⟩ := hrel;by_cases hlt : j < n
      · obtain ⟨z, hz⟩ : ∃ z, z = s.contains j := ⟨_, rfl⟩;have kh := KH.out wr oo.bel j;rw [← hz] at kh;have hrs : ((List.range (j + 1)).flatMap fun i => if s.contains i then [] else ordS n k (s ++ [i])) = ((List.range j).flatMap fun i => if s.contains i then [] else ordS n k (s ++ [i])) ++ (if z then [] else ordS n k (s ++ [j])) := by
          rw [List.range_succ, List.flatMap_append, hz]; simp
        generalize hF : ((List.range j).flatMap fun i => if s.contains i then [] else ordS n k (s ++ [i])) = F at hN hmap hrs;have HS := Lib.hid (And.intro oo (And.intro hrow (And.intro hmap (And.intro hN (And.intro hrs kh)))));have hNc : N ≤ 100000 := by omega
        clear oo hrow hmap hN hrs kh hF hz;cases z
        · go_upto_region 8 with (go_at_call 94; refine HS.out.2.2.2.2.2.mono ?_; rintro e w' ⟨rfl, rfl⟩)
          go_upto_region 9 with (at_builtin
                                 refine wpList_append_M (size := 1) rfl (.tmp 23) (.tmp 24) 36 rfl iN _ 8 Tryz.underlying36 hN0 hN1 hN2 hN3 rfl (A := some ⟨wr.heap.size, 0, none⟩) (n := 0) (c := 0) (B := A) (m := m) (d := c) (xs := []) (fp := [wr.heap.size]) (ys := ints (nI s)) (by simp [Act.eval]) (by simp [Act.eval]) own_empty ((HR.out.2.2.below HS.out.1.bel).below ((Below.refl _ _).alloc (Nat.le_refl _) _)) (ints_oneB _) (by omega) (by decide) ?_;intro A1 c1 w1 f1 h1 h2 h3;rw [Nat.zero_add, List.nil_append] at h1;rw [Nat.zero_add];have g1 : ∀ g ∈ f1, wr.heap.size ≤ g := fun g hg => by
                                   rcases h2 g hg with e | e
                                   · rw [List.mem_singleton.1 e]; exact Nat.le_refl _
                                   · rw [← e]; simp
                                 have b1 : Below wr.heap.size wr w1 := ((Below.refl _ _).alloc (Nat.le_refl _) _).trans (h3.below (by simp) (by simp));have H1 := Lib.hid (And.intro h1 (And.intro g1 b1));clear h1 h2 h3 g1 b1)
          obtain ⟨M, hM⟩ : ∃ M, M = (ordS n k (s ++ [j])).length := ⟨_, rfl⟩;have hMb : M ≤ 3125 := by
            rw [hM];exact Nat.le_trans ordS_few (Nat.le_trans (Nat.pow_le_pow_left hn k) (Nat.pow_le_pow_right (by decide) (show k ≤ 5 by have := HR.out.2.1; omega)))
          have kI : ∀ g c2 w2, Rd w2 1 (some ⟨g, 0, none⟩) (m + 1) (ints (nI (s ++ [j]))) → g < w2.heap.size → Calls Tryz.prog 72 #[.slice (some ⟨g, 0, none⟩) (m + 1) c2, .int .i64 n] w2 fun e w' => ∃ (B2 : Option Addr) (d2 : Nat) (rows2 : List LRow), e = .returned (.slice B2 M d2) ∧ Rd w' 1 B2 M (rows2.map LRow.v) ∧ rows2.map (·.l) = (ordS n k (s ++ [j])).map nI ∧ (∀ r ∈ rows2, RowO [] w' r ∧ ∀ b off, r.A = some ⟨b, off, none⟩ → w2.heap.size ≤ b ∨ b = g) ∧ Below w2.heap.size w2 w' := fun g c2 w2 h1 h2 => by
            refine (IH.out (s ++ [j]) (m + 1) (some ⟨g, 0, none⟩) c2 w2 (by simp [HR.out.1]) (by have := HR.out.2.1; omega) h1 (fun b off e => by injection e with e; injection e with e1 _ _; omega)).mono ?_;rintro e w' ⟨B2, d2, rows2, rfl, p1, p2, p3, p4⟩;rw [← hM] at p1;refine ⟨B2, d2, rows2, by rw [← hM], p1, p2, fun r hr => ⟨(p3 r hr).1, fun b off e => ?_⟩, p4⟩;rcases (p3 r hr).2 b off e with h | h
            · exact .inl h
            · rw [e] at h; injection h with h; injection h with h _ _; exact .inr h
          have HI := Lib.hid (And.intro kI hM);clear kI hM;go_wp2_with (first | (at_builtin; refine wpList_append_S (size := 1) rfl (.tmp 27) (.tmp 29) 36 rfl iN _ 8 Tryz.underlying36 hN0 hN1 hN2 (by decide) hN3 rfl (A := A1) (n := m) (c := c1) (xs := ints (nI s)) (fp := f1) (by simp [Act.eval]) ⟨w1.heap.size, 0, none⟩ (by simp [Act.eval]) [.int .i64 (j : Int)] (H1.out.1.alloc _) rfl (fun x v hv => ord_one hv) (by simp [Value.oneCell']) (by omega) (by decide) ?_; intro g c2 w2 h1 h2 h3 h4; have H2 := Lib.hid (ord_more H1.out.2.1 H1.out.2.2 h1 h2 h3 h4); clear h1 h2 h3 h4) | (go_at_call 72; refine (HI.out.1 g c2 w2 H2.out.1 H2.out.2.2.1).mono ?_; rintro e w3 ⟨B2, d2, rows2, rfl, p1, p2, p3, p4⟩; have H3 := Lib.hid (And.intro (H2.out.2.2.2.trans (p4.mono H2.out.2.2.2.size)) (And.intro p1 (And.intro p2 p3))); clear p1 p2 p3 p4) | (at_builtin; refine wpList_append_M (size := 1) rfl (.tmp 26) (.tmp 32) 158 rfl iS _ 24 Tryz.underlying158 hS0 hS1 hS2 hS3 rfl (A := B) (n := N) (c := d) (B := B2) (m := M) (d := d2) (xs := rows.map LRow.v) (fp := q) (ys := rows2.map LRow.v) (by simp [Act.eval]) (by simp [Act.eval]) (show OwnS _ _ _ _ _ _ _ _ from (HS.out.1.below H3.out.1).get 0 rfl) H3.out.2.1 (rows_one _) (by omega) (by decide) ?_; intro A4 c4 w4 f4 h1 h2 h3; have H4 := Lib.hid (And.intro h1 (And.intro h2 h3)); clear h1 h2 h3))
          go_roundg (gk - 1);case measure => omega
          case rel =>
            have hst := ord_step HS.out.1 HS.out.2.1 H3.out.1 (fun r hr => ⟨(H3.out.2.2.2 r hr).1, fun b off e => by
              have := H2.out.2.1;have := H2.out.2.2.2.size;rcases (H3.out.2.2.2 r hr).2 b off e with h | h <;> omega⟩) H4.out.1 H4.out.2.1 H4.out.2.2
            have eR := HS.out.2.2.2.2.1;simp only [Bool.false_eq_true, if_false] at eR;exact ⟨j + 1, A4, c4, rows ++ rows2, f4, N + M, by omega, by go_num, rfl, by rw [eR, List.length_append, ← HS.out.2.2.2.1, ← HI.out.2], by omega, hst.1, hst.2, by rw [eR, List.map_append, List.map_append, HS.out.2.2.1, H3.out.2.2.1]⟩
        · go_wp2_with (go_at_call 94; refine HS.out.2.2.2.2.2.mono ?_; rintro e w' ⟨rfl, rfl⟩)
          go_roundg (gk - 1);case measure => omega
          case rel => exact ⟨j + 1, B, d, rows, q, N, by omega, by go_num, rfl, by rw [HS.out.2.2.2.2.1]; simpa using HS.out.2.2.2.1, by omega, HS.out.1, HS.out.2.1, by rw [HS.out.2.2.2.2.1]; simpa using HS.out.2.2.1⟩
      · obtain rfl : j = n := by omega
        have HS := Lib.hid (And.intro oo (And.intro hrow (And.intro hmap hN)));have hVV := HV.out.trans HD.out;rw [← hVV] at hN;clear oo hrow hmap hVV;subst hN;go_wp2_with fail
        go_ret;have hVV := HV.out.trans HD.out;refine ⟨B, d, rows, rfl, (HS.out.1.get 0 rfl : OwnS _ _ _ _ _ _ _ _).rd, by rw [hVV]; exact HS.out.2.2.1, fun r hr => ⟨⟨(HS.out.2.1 r hr).1.1, fun b off e => ⟨((HS.out.2.1 r hr).1.2 b off e).1, by simp⟩⟩, fun b off e => .inl ((HS.out.2.1 r hr).2 b off e)⟩, HS.out.1.bel⟩
end Go.Proofs.YtalcinepeofmcaaGreat
