import Derived.Test.YthmldeningpjbaaPRp16
import Derived.Test.YthmldeningpjbaaPRp20
import Derived.Test.YthmldeningpjbaaPRp15
set_option linter.unusedVariables false
set_option linter.unusedSimpArgs false
set_option maxRecDepth 100000
set_option maxHeartbeats 40000000
namespace Go.Proofs.Ythmldeningpjbaa
open Go Go.RowKit Sp Pt
theorem infoRStt : (Try.prog.info? 81).map (fun i => (i.zero, i.size, i.bytes)) = some (some (.agg #[.slice none 0 0, .slice none 0 0]), 2, 48) := by kernel_rfl
def StatesPost (w : World) (p : Prt) (s : Stt) (l : Pln) (e : Ending) (w' : World) : Prop := Below w.heap.size w w' ∧
  (((runR p l s).2 ≠ 0 ∧ e = .returned (.tuple #[.slice none 0 0, .int .i64 (runR p l s).1, .int .i64 (runR p l s).2])) ∨
   ((runR p l s).2 = 0 ∧ (runR p l s).1 = l.calls.length ∧ ∃ (A : Option Addr) (c : Nat) (q : List Nat) (L : List SrR), e = .returned (.tuple #[.slice A (l.hours.toNat + 1) c, .int .i64 l.calls.length, .int .i64 0]) ∧ L.map (·.s) = (List.range (l.hours.toNat + 1)).map (stN p l s) ∧ OwnS w' 81 2 A (l.hours.toNat + 1) c (srcs L) q ∧ (∀ y ∈ L, SttB w'.heap.size w' y.A y.c y.B y.d y.s) ∧ (∀ x ∈ q, w.heap.size ≤ x) ∧ ∃ Q, (∀ D, (It.gen Q (SrH L)).holds D w') ∧ ∀ x ∈ Q, w.heap.size ≤ x))
def NewStP (w : World) (s : Stt) (n m : Nat) (e : Ending) (w' : World) : Prop := ∃ A c q1 B d q2, e = .returned (.agg #[.slice A n c, .slice B m d]) ∧ OwnS w' 3 1 A s.brash.length c (ints s.brash) q1 ∧ OwnS w' 4 1 B s.busy.length d (bools s.busy) q2 ∧ (∀ x ∈ q1, w.heap.size ≤ x) ∧ (∀ x ∈ q2, w.heap.size ≤ x) ∧ (∀ x ∈ q1, x ∉ q2) ∧ Below w.heap.size w w'
theorem NewStO.named {w : World} {s : Stt} {n m : Nat} (hn : s.brash.length = n) (hm : s.busy.length = m) {e : Ending} {w' : World} (h : NewStO w s e w') : NewStP w s n m e w' := by
  obtain ⟨A, c, q1, B, d, q2, h1, h⟩ := h;exact ⟨A, c, q1, B, d, q2, by rw [h1]; simp only [sttV, hn, hm], h⟩
structure St5 where
  A1 : Option Addr
  c1 : Nat
  q1 : List Nat
  B1 : Option Addr
  d1 : Nat
  q2 : List Nat
  A2 : Option Addr
  n2 : Nat
  c2 : Nat
  q3 : List Nat
  B2 : Option Addr
  m2 : Nat
  d2 : Nat
  q4 : List Nat
  xb : Nat
def StkV (Ac : Option Addr) (cc : Nat) (Ab : Option Addr) (cb : Nat) (p : Prt) (A : Option Addr) (c : Nat) (B : Option Addr) (d : Nat) (N M : Nat) (Al : Option Addr) (cl : Nat) (As : Option Addr) (cs : Nat) (l : Pln) (h : Int) (i0 e0 : Int) (s : St5) : Nat → Value → Prop
  | 0, v => v = .agg (prtV Ac cc Ab cb p)
  | 1, v => v = .agg (prtV Ac cc Ab cb p)
  | 2, v => v = .agg #[.slice A N c, .slice B M d]
  | 3, v => v = .agg (plnV Al cl As cs l)
  | 4, v => v = .int .i64 h
  | 5, v => v = .agg #[.slice s.A1 N s.c1, .slice s.B1 M s.d1]
  | 6, v => v = .agg (plnV Al cl As cs l)
  | 7, v => v = .int .i64 h
  | 8, v => v = .tuple #[.agg #[.slice s.A2 N s.c2, .slice s.B2 M s.d2], .int .i64 i0, .int .i64 e0]
  | 9, v => v = .tuple #[.agg #[.slice s.A2 N s.c2, .slice s.B2 M s.d2], .int .i64 i0, .int .i64 e0]
  | 10, v => v = .agg #[.slice s.A2 N s.c2, .slice s.B2 M s.d2]
  | 11, v => v = .int .i64 i0
  | 12, v => v = .int .i64 e0
  | 13, v => v = .pointer (some ⟨s.xb, 0, none⟩)
  | 15, v => v = .int .i64 i0
  | 16, v => v = .int .i64 e0
  | _, _ => True
def SteV (Ac : Option Addr) (cc : Nat) (Ab : Option Addr) (cb : Nat) (p : Prt) (A : Option Addr) (c : Nat) (B : Option Addr) (d : Nat) (N M : Nat) (Al : Option Addr) (cl : Nat) (As : Option Addr) (cs : Nat) (l : Pln) (h : Int) (i0 e0 : Int) (s : St5) : Nat → Value → Prop
  | 0, v => v = .agg (prtV Ac cc Ab cb p)
  | 1, v => v = .agg (prtV Ac cc Ab cb p)
  | 2, v => v = .agg #[.slice A N c, .slice B M d]
  | 3, v => v = .agg (plnV Al cl As cs l)
  | 4, v => v = .int .i64 h
  | 5, v => v = .agg #[.slice s.A1 N s.c1, .slice s.B1 M s.d1]
  | 6, v => v = .agg (plnV Al cl As cs l)
  | 7, v => v = .int .i64 h
  | 8, v => v = .tuple #[.agg #[.slice s.A2 s.n2 s.c2, .slice s.B2 s.m2 s.d2], .int .i64 i0, .int .i64 e0]
  | 9, v => v = .tuple #[.agg #[.slice s.A2 s.n2 s.c2, .slice s.B2 s.m2 s.d2], .int .i64 i0, .int .i64 e0]
  | 10, v => v = .agg #[.slice s.A2 s.n2 s.c2, .slice s.B2 s.m2 s.d2]
  | 11, v => v = .int .i64 i0
  | 12, v => v = .int .i64 e0
  | 13, v => v = .pointer (some ⟨s.xb, 0, none⟩)
  | 15, v => v = .int .i64 i0
  | 16, v => v = .int .i64 e0
  | _, _ => True
def SfrV (W0 : World) (xb pb gb bc oc n c2 cc j : Nat) (vv fr : Int) : Nat → Value → Prop
  | 0, v => v = .pointer (some ⟨xb, 0, none⟩)
  | 1, v => v = .slice (some ⟨gb, 0, none⟩) n c2
  | 2, v => v = .int .i64 j
  | 3, v => v = .pointer (some ⟨xb, 0, none⟩)
  | 4, v => v = .slice (some ⟨gb, 0, none⟩) n c2
  | 5, v => v = .int .i64 j
  | 6, v => v = .pointer (some ⟨gb, j, none⟩)
  | 7, v => v = .int .i64 vv
  | 8, v => v = .pointer (some ⟨pb, 0, none⟩)
  | 9, v => v = .slice (some ⟨bc, oc, none⟩) n cc
  | 10, v => v = .int .i64 j
  | 11, v => v = .pointer (some ⟨bc, oc + j * 3, none⟩)
  | 12, v => v = .pointer (some ⟨bc, oc + j * 3 + 1, none⟩)
  | 13, v => v = .int .i64 fr
  | 14, v => v = .int .i64 (vv + fr)
  | 15, v => v = .pointer (some ⟨gb, j, none⟩)
  | _, _ => True
def SfrW (W0 : World) (xb pb gb bc oc n c2 cc j : Nat) (vv fr : Int) (l : Nat → Bool) (w : World) : Prop := if l 16 then w = (W0.setCell ⟨gb, j, none⟩ (.int .i64 (vv + fr))).drew else w = W0.drew
theorem states_any (D : Nat) (Ac : Option Addr) (cc : Nat) (Ab : Option Addr) (cb : Nat) (p : Prt) (Ar : Option Addr) (cr : Nat) (Au : Option Addr) (cu : Nat) (s : Stt) (Al : Option Addr) (cl : Nat) (As : Option Addr) (cs : Nat) (l : Pln) (w : World)
    (PB : PrtB D w Ac cc Ab cb p) (SB : SttB D w Ar cr Au cu s) (LB : PlnB D w Al cl As cs l) (hD : D ≤ w.heap.size) (v : Val p l) (hn : s.brash.length = p.chs.length) (hm : s.busy.length = p.bts.length) (hbr : brR 1000000 s.brash) :
    Calls Try.prog 94 #[.agg (prtV Ac cc Ab cb p), .agg (sttV Ar cr Au cu s), .agg (plnV Al cl As cs l)] w (StatesPost w p s l) := by
  obtain ⟨iS, hS0, hS1, hS2, hS3⟩ := info_parts infoRStt;obtain ⟨pb, hpb⟩ : ∃ b, b = w.heap.size := ⟨_, rfl⟩;obtain ⟨sb, hsb⟩ : ∃ b, b = w.heap.size + 1 := ⟨_, rfl⟩;obtain ⟨lb, hlb⟩ : ∃ b, b = w.heap.size + 1 + 1 := ⟨_, rfl⟩;obtain ⟨N, hN⟩ : ∃ N, N = p.chs.length := ⟨_, rfl⟩;obtain ⟨M, hM⟩ : ∃ N, N = p.bts.length := ⟨_, rfl⟩;have hsn : s.brash.length = N := by rw [hN]; exact hn
  have hsm : s.busy.length = M := by rw [hM]; exact hm
  have hnc := v.nc;have hnb := v.nb;rw [← hN] at hnc;rw [← hM] at hnb;obtain ⟨W, hW⟩ : ∃ W, W = ((w.alloc (.cells (prtV Ac cc Ab cb p) 79)).alloc (.cells (sttV Ar cr Au cu s) 81)).alloc (.cells (plnV Al cl As cs l) 85) := ⟨_, rfl⟩;have O0 : Own w.heap.size w [.blk pb (.cells (prtV Ac cc Ab cb p) 79), .blk sb (.cells (sttV Ar cr Au cu s) 81), .blk lb (.cells (plnV Al cl As cs l) 85)] W := by
    have h := ((((Own.start w).alloc (.cells (prtV Ac cc Ab cb p) 79)).alloc (.cells (sttV Ar cr Au cu s) 81)).alloc (.cells (plnV Al cl As cs l) 85));rw [hW, hpb, hsb, hlb];simpa using h
  obtain ⟨H, hH⟩ := Int.eq_ofNat_of_zero_le (show 0 ≤ l.hours by have := v.h; omega);have hHr : 1 ≤ H ∧ H ≤ 100 := by have := v.h; omega
  have hHt : l.hours.toNat = H := by omega
  have kc := copied_any D Ar cr Au cu s W (SB.below (O0.bel.mono hD)) (Nat.le_trans hD O0.bel.size) (by omega);obtain ⟨R, hR⟩ : ∃ R, R = runR p l s := ⟨_, rfl⟩;have hcap := And.intro PB.c1 (And.intro PB.c2 (And.intro LB.c1 LB.c2));have c0 := (cOH (O0.heap 1 rfl) 0).trans rfl;have c1 := (cOH (O0.heap 1 rfl) 1).trans rfl;have zs := hL_ (O0.heap 1 rfl);have lens := fun k => stN_lens p l s k;have H0 := Lib.hid (And.intro O0 (And.intro kc (And.intro PB (And.intro LB (And.intro v (And.intro SB (And.intro hbr (And.intro hR (And.intro hHt (And.intro hH (And.intro hN (And.intro hM (And.intro hsn (And.intro hsm lens))))))))))))));clear O0 kc PB LB v hn hm hbr SB hR hHt hH hN hM hsn hsm lens
  go_enter Try.func94, Try.ntmps94
  go_upto_region 1 with fail
  rw [← hW, ← hlb, ← hsb, ← hpb];clear hW hlb hsb hpb;go_upto_region 2 with (go_at_call 127; refine H0.out.2.1.mono ?_; rintro e w1 ⟨A, c, q1, B, d, q2, rfl, o1, o2, f1, f2, f3, hb⟩; have O1 := H0.out.1.below hb; have H1 := Lib.hid (And.intro O1 (And.intro o1 (And.intro o2 (And.intro f1 (And.intro f2 (And.intro f3 hb)))))); clear c0 c1 zs O1 o1 o2 f1 f2 f3 hb)
  obtain ⟨O1, o1, o2, f1, f2, f3, hb⟩ := H1.out;obtain ⟨w2, hw2⟩ : ∃ X, X = w1.alloc (.cells #[.slice A s.brash.length c, .slice B s.busy.length d] 81) := ⟨_, rfl⟩;obtain ⟨ob, hob⟩ : ∃ b, b = w1.heap.size := ⟨_, rfl⟩;rw [← hw2, ← hob];obtain ⟨hPB, hLB, hv, hSB, hbr, hR, hHt, hH, hN, hM, hsn, hsm, lens⟩ := H0.out.2.2;have hlo := H0.out.1.lo;have O2 : Own w.heap.size w [It.blk pb (.cells (prtV Ac cc Ab cb p) 79), It.blk sb (.cells #[.slice Ar N cr, .slice Au M cu] 81), It.blk lb (.cells (plnV Al cl As cs l) 85), It.own 81 2 (some ⟨ob, 0, none⟩) (0 + 1) 1 (srcs [⟨s, A, c, B, d⟩]) [ob], It.gen (q1 ++ q2) (SrH [⟨s, A, c, B, d⟩]), It.gen [] (fun w' => 0 < 0 → SttB w'.heap.size w' Ar cr Au cu (stN p l s 0))] w2 := by
    have z0 := H0.out.1.lt 0 rfl (x := pb) (by simp [It.fp]);have z1 := H0.out.1.lt 1 rfl (x := sb) (by simp [It.fp]);have z2 := H0.out.1.lt 2 rfl (x := lb) (by simp [It.fp]);have hg : (It.gen ([] ++ (q1 ++ q2)) (SrH ([] ++ [⟨s, A, c, B, d⟩]))).holds w.heap.size w1 := srH_snoc (w := w1) (srH_nil _ _) o1 o2;have hq : ∀ x ∈ q1 ++ q2, W.heap.size ≤ x := fun x hx => by rcases List.mem_append.1 hx with e | e; exact f1 x e; exact f2 x e
    have hown : (It.own 81 2 (some ⟨ob, 0, none⟩) (0 + 1) 1 (srcs [⟨s, A, c, B, d⟩]) [ob]).holds w.heap.size w2 := by
      show OwnS _ _ _ _ _ _ _ _;rw [hw2, hob];exact ⟨by simp [src], .inr ⟨_, _, rfl, rfl, heap_alloc_new w1 _, by omega, by omega, rfl, fun j u hu => by simpa [src] using hu⟩⟩
    have a := O1.new (i := .own 81 2 (some ⟨ob, 0, none⟩) (0 + 1) 1 (srcs [⟨s, A, c, B, d⟩]) [ob]) (w' := w2) (by rw [hw2]; exact (Below.refl _ _).alloc (Nat.le_refl _) _) hown (fun x hx => by rw [List.mem_singleton.1 hx, hob]; exact Nat.le_refl _);have b := a.add (i := .gen (q1 ++ q2) (SrH [⟨s, A, c, B, d⟩])) (It.keep hg (S := []) (by rw [hw2]; exact (Keep.refl _ _).alloc _) (by simp) (by simp)) (fun x hx => by have := hq x hx; omega) (by
      intro j hj x hx hm; have h5 := hq x hx; simp at hj; rcases hj with rfl | rfl | rfl | rfl
      · simp [It.fp] at hm; omega
      · simp [It.fp] at hm; omega
      · simp [It.fp] at hm; omega
      · have hx1 := It.lt hg x hx; rw [List.mem_singleton.1 hm, hob] at hx1; omega)
    have e := b.add (i := .gen [] (fun w' => 0 < 0 → SttB w'.heap.size w' Ar cr Au cu (stN p l s 0))) ⟨by simp, fun _ _ _ _ h => absurd h (by omega)⟩ (by simp [It.fp]) (by simp [It.fp]);simp only [sttV, hsn, hsm] at e;exact e
  have H2 := Lib.hid O2;clear O1 o1 o2 f1 f2 f3 hb hw2 hob O2 hPB hLB hv hSB hbr hR hHt hH hN hM hsn hsm lens hlo;have t0 := (cOH (H2.out.heap 2 rfl) 0).trans rfl;have zl := hL_ (H2.out.heap 2 rfl);rw [show (plnV Al cl As cs l)[0]? = some (.int .i64 H) from by have := H0.out.2.2.2.2.2.2.2.2.2.1; show some (Value.int .i64 l.hours) = _; rw [this]] at t0;go_wp2_with fail
  clear t0 zl
  go_loopg [9, 10] (H) (fun g o i wr => ∃ (k : Nat) (Ao : Option Addr) (co : Nat) (qo : List Nat) (rows : List SrR) (Qr Qc : List Nat) (A : Option Addr) (c : Nat) (B : Option Addr) (d : Nat), g + k = H ∧ i = .int .i64 k ∧ o = .slice Ao (k + 1) co ∧ rows.map (·.s) = (List.range (k + 1)).map (stN p l s) ∧ (k = 0 → A = Ar ∧ c = cr ∧ B = Au ∧ d = cu) ∧ runF p l s 0 H = runF p l s k (H - k) ∧ Own w.heap.size w [It.blk pb (.cells (prtV Ac cc Ab cb p) 79), It.blk sb (.cells #[.slice A N c, .slice B M d] 81), It.blk lb (.cells (plnV Al cl As cs l) 85), It.own 81 2 Ao (k + 1) co (srcs rows) qo, It.gen Qr (SrH rows), It.gen Qc (fun w' => 0 < k → SttB w'.heap.size w' A c B d (stN p l s k))] wr)
  case atStart => exact ⟨0, some ⟨ob, 0, none⟩, 1, [ob], [⟨s, A, c, B, d⟩], q1 ++ q2, [], Ar, cr, Au, cu, rfl, rfl, rfl, rfl, fun _ => ⟨rfl, rfl, rfl, rfl⟩, rfl, H2.out⟩
  case round =>
    obtain ⟨k, Ao, co, qo, rows, Qr, Qc, A, c, B, d, hk, rfl, rfl, hrows, hcur, hRF, hO⟩ := hrel;have t0 := (cOH (hO.heap 2 rfl) 0).trans rfl;have zl := hL_ (hO.heap 2 rfl);rw [show (plnV Al cl As cs l)[0]? = some (.int .i64 H) from by have := H0.out.2.2.2.2.2.2.2.2.2.1; show some (Value.int .i64 l.hours) = _; rw [this]] at t0;by_cases hlt : k < H
    · obtain ⟨hPB, hLB, hv, hSB, hbr, hR, hHt, hH, hN, hM, hsn, hsm, lens⟩ := H0.out.2.2;obtain ⟨sk, hsk⟩ : ∃ x, x = stN p l s k := ⟨_, rfl⟩;have hln := lens k;rw [← hsk, hsn, hsm] at hln;have hbk : brR 10000000 sk.brash := by rw [hsk]; intro j; have := stN_bd hv (by omega) hbr k j; omega
      have hbk2 : brR 10000000 (swpN p (k : Int) l.swps sk.brash) := swpN_bd (fun t ht => by have := hv.sw t ht; omega) (fun c hc => by have := hv.chf c hc; omega) hbk;obtain ⟨R1, hR1⟩ : ∃ x, x = callsN p (k : Int) l.calls 0 ⟨swpN p (k : Int) l.swps sk.brash, sk.busy⟩ := ⟨_, rfl⟩;have hR1h : R1 = hourR p l k (stN p l s k) := by rw [hR1, hsk]; rfl
      obtain ⟨i0, hi0⟩ : ∃ x : Int, x = (R1.1 : Int) := ⟨_, rfl⟩;obtain ⟨e0, he0⟩ : ∃ x, x = R1.2.1 := ⟨_, rfl⟩;obtain ⟨b1, hb1⟩ : ∃ x, x = swpN p (k : Int) l.swps sk.brash := ⟨_, rfl⟩;obtain ⟨u1, hu1⟩ : ∃ x, x = sk.busy := ⟨_, rfl⟩;have hl1 : b1.length = N := by rw [hb1, swpN_length]; exact hln.1
      have hl2 : u1.length = M := by rw [hu1]; exact hln.2
      have kS : ∀ wx, Below w.heap.size w wx → (0 < k → SttB wx.heap.size wx A c B d (stN p l s k)) → Calls Try.prog 112 #[.agg (prtV Ac cc Ab cb p), .agg #[.slice A N c, .slice B M d], .agg (plnV Al cl As cs l), .int .i64 (k : Int)] wx (NewStO wx ⟨swpN p (k : Int) l.swps sk.brash, sk.busy⟩) := fun wx hb hc => by
        have hS : SttB wx.heap.size wx A c B d sk := by
          by_cases h0 : k = 0
          · obtain ⟨rfl, rfl, rfl, rfl⟩ := hcur h0;subst h0;rw [hsk];exact (hSB.below (hb.mono hD)).mono (Nat.le_trans hD hb.size)
          · rw [hsk]; exact hc (by omega)
        have h := swept_any wx.heap.size Ac cc Ab cb p A c B d sk Al cl As cs l (k : Int) wx ((hPB.below (hb.mono hD)).mono (Nat.le_trans hD hb.size)) hS ((hLB.below (hb.mono hD)).mono (Nat.le_trans hD hb.size)) (Nat.le_refl _) hv (hln.1.trans hN) (hln.2.trans hM) (fun j => by have := hbk j; omega);simp only [sttV, hln.1, hln.2] at h;exact h
      have kC : ∀ wx A1 c1 q1 B1 d1 q2, Below w.heap.size w wx → OwnS wx 3 1 A1 N c1 (ints b1) q1 → OwnS wx 4 1 B1 M d1 (bools u1) q2 → Calls Try.prog 128 #[.agg (prtV Ac cc Ab cb p), .agg #[.slice A1 N c1, .slice B1 M d1], .agg (plnV Al cl As cs l), .int .i64 (k : Int)] wx (CalledPost wx R1.1 R1.2.1 R1.2.2) := fun wx A1 c1 q1 B1 d1 q2 hb o1 o2 => by
        rw [← hl1] at o1;rw [← hl2] at o2;have h := called_any wx.heap.size Ac cc Ab cb p A1 c1 B1 d1 ⟨b1, u1⟩ Al cl As cs l (k : Int) wx ((hPB.below (hb.mono hD)).mono (Nat.le_trans hD hb.size)) (sttB_of_own (s := ⟨b1, u1⟩) o1 o2) ((hLB.below (hb.mono hD)).mono (Nat.le_trans hD hb.size)) (Nat.le_refl _) hv (hl1.trans hN) (hl2.trans hM) (fun j => by have := hbk2 j; rw [← hb1] at this; simp only; omega);simp only [sttV, hl1, hl2] at h;rw [hb1, hu1, ← hR1] at h;exact h
      have HC := Lib.hid (And.intro kS kC);have HB1 := Lib.hid (And.intro (show (swpN p (k : Int) l.swps sk.brash).length = N by rw [← hb1]; exact hl1) (And.intro (show sk.busy.length = M by rw [← hu1]; exact hl2) (And.intro (show ints (swpN p (k : Int) l.swps sk.brash) = ints b1 by rw [hb1]) (show bools sk.busy = bools u1 by rw [hu1]))));have hcl := hourR_lens p l k (stN p l s k);rw [← hR1h, ← hsk, hln.1, hln.2] at hcl;have hRk : runF p l s k (H - k) = if R1.2.1 ≠ 0 then (R1.1, R1.2.1) else runF p l s (k + 1) (H - (k + 1)) := by
        rw [show H - k = (H - (k + 1)) + 1 from by omega, runF, ← hR1h]
      have hbd3 : brR 100000000 R1.2.2.brash := by rw [hR1h]; intro j; have := hourR_bd hv (k := k) (s := stN p l s k) (B := 10000000) (by omega) (by rw [← hsk]; exact hbk) j; omega
      have HS := Lib.hid (And.intro hrows (And.intro hRF (And.intro hRk (And.intro hR1h (And.intro hcl (And.intro hbd3 hsk))))));have HO := Lib.hid hO;have HIE := Lib.hid (And.intro hi0 he0);have p2v := And.intro hN hM;have HNM := Lib.hid p2v;clear hPB hLB hv hSB hbr hR hHt hH hN hM hsn hsm lens hsk hln hbk hbk2 hR1 hb1 hu1 hl1 hl2 kS kC hcl hRk hbd3 hrows hRF hcur hO hR1h p2v;by_cases her : e0 = 0
      · have hE0 : R1.2.1 = 0 := by rw [← he0]; exact her
        clear hi0;obtain ⟨i0, hi0⟩ : ∃ x : Int, x = 0 := ⟨_, rfl⟩;have HE0 : Hid (R1.2.1 = 0 ∧ (0 : Int) = i0 ∧ (0 : Int) = e0) := Lib.hid ⟨hE0, hi0.symm, her.symm⟩;obtain ⟨b2, hb2⟩ : ∃ x, x = R1.2.2.brash := ⟨_, rfl⟩;obtain ⟨u2, hu2⟩ : ∃ x, x = R1.2.2.busy := ⟨_, rfl⟩;have hcl := HS.out.2.2.2.2.1;have HB2 := Lib.hid (And.intro hcl.1 (And.intro hcl.2 (And.intro (show ints R1.2.2.brash = ints b2 by rw [hb2]) (show bools R1.2.2.busy = bools u2 by rw [hu2]))));have HU2 := Lib.hid (And.intro hb2 hu2);have hb2l : b2.length = N := by rw [hb2]; exact hcl.1
        have hne : (e0 != 0) = false := by simpa using her
        clear hi0 he0 her hE0 hb2 hu2 hcl;go_upto_region 5 with fail
        clear t0 zl;refine wRS (σ := St5) (by kernel_rfl) (by kernel_rfl) (fun sg jx vx _ => StkV Ac cc Ab cb p A c B d N M Al cl As cs l (k : Int) i0 e0 sg jx vx) (fun sg ly wx => Own w.heap.size w [It.blk pb (.cells (prtV Ac cc Ab cb p) 79), It.blk sb (.cells #[.slice A N c, .slice B M d] 81), It.blk lb (.cells (plnV Al cl As cs l) 85), It.own 81 2 Ao (k + 1) co (srcs rows) qo, It.gen Qr (SrH rows), It.gen Qc (fun w' => 0 < k → SttB w'.heap.size w' A c B d (stN p l s k)), if ly 5 = true then It.own 3 1 sg.A1 N sg.c1 (ints b1) sg.q1 else noIt, if ly 5 = true then It.own 4 1 sg.B1 M sg.d1 (bools u1) sg.q2 else noIt, if ly 8 = true then It.own 3 1 sg.A2 N sg.c2 (ints b2) sg.q3 else noIt, if ly 8 = true then It.own 4 1 sg.B2 M sg.d2 (bools u2) sg.q4 else noIt, if ly 13 = true then It.blk sg.xb (.cells (if ly 14 = true then #[.slice sg.A2 N sg.c2, .slice sg.B2 M sg.d2] else #[.slice none 0 0, .slice none 0 0]) 81) else noIt] wx) ⟨none, 0, [], none, 0, [], none, 0, 0, [], none, 0, 0, [], 0⟩ ?_ ?_ ?_
        · exact HO.out.blank.blank.blank.blank.blank.drew
        · simp only [AllFrom, Nat.zero_add, Nat.reduceAdd];refine ⟨?_, ?_, ?_, ?_, ?_, ?_, ?_, ?_, ?_, ?_, ?_, ?_, ?_, ?_, ?_, ?_, ?_, trivial⟩
          · refine sP_ fun sg ly act wx hl hd hW hF => ?_;have et3 := hF.old 3 (by kernel_rfl);simp [Act.eval] at et3;have hO := hW;try dsimp only at hO
            have hh := hO.heap 0 rfl;have clq0 := (cOH hh 0).trans rfl;have clq1 := (cOH hh 1).trans rfl;have clq2 := (cOH hh 2).trans rfl;have zz := hL_ hh;exact ⟨hW, .agg (prtV Ac cc Ab cb p), by go_simp, rfl⟩
          · refine sP_ fun sg ly act wx hl hd hW hF => ?_;have et3 := hF.old 3 (by kernel_rfl);simp [Act.eval] at et3;have hO := hW;try dsimp only at hO
            have hh := hO.heap 0 rfl;have clq0 := (cOH hh 0).trans rfl;have clq1 := (cOH hh 1).trans rfl;have clq2 := (cOH hh 2).trans rfl;have zz := hL_ hh;exact ⟨hW, .agg (prtV Ac cc Ab cb p), by go_simp, rfl⟩
          · refine sP_ fun sg ly act wx hl hd hW hF => ?_;have et4 := hF.old 4 (by kernel_rfl);simp [Act.eval] at et4;have hO := hW;try dsimp only at hO
            have hh := hO.heap 1 rfl;have clq0 := (cOH hh 0).trans rfl;have clq1 := (cOH hh 1).trans rfl;have zz := hL_ hh;exact ⟨hW, .agg #[.slice A N c, .slice B M d], by go_simp, rfl⟩
          · refine sP_ fun sg ly act wx hl hd hW hF => ?_;have et5 := hF.old 5 (by kernel_rfl);simp [Act.eval] at et5;have hO := hW;try dsimp only at hO
            have hh := hO.heap 2 rfl;have clq0 := (cOH hh 0).trans rfl;have clq1 := (cOH hh 1).trans rfl;have clq2 := (cOH hh 2).trans rfl;have zz := hL_ hh;exact ⟨hW, .agg (plnV Al cl As cs l), by go_simp, rfl⟩
          · refine sP_ fun sg ly act wx hl hd hW hF => ?_;have et10 := hF.old 10 (by kernel_rfl);simp [Act.eval] at et10;exact ⟨hW, .int .i64 (k : Int), by go_simp, rfl⟩
          · refine sC_ fun sg ly act wx hl hd hW hF => ?_;simp [Region.binds] at hd;have et26 := hF.new 1 26 (by simp [hd]) rfl;simp [StkV, Act.eval] at et26;have et27 := hF.new 2 27 (by simp [hd]) rfl;simp [StkV, Act.eval] at et27;have et28 := hF.new 3 28 (by simp [hd]) rfl;simp [StkV, Act.eval] at et28;have et29 := hF.new 4 29 (by simp [hd]) rfl;simp [StkV, Act.eval] at et29;have n8 := hF.notYet 5 8 hl (by kernel_rfl);have hO := hW;try dsimp only at hO
            simp only [hl, Bool.false_eq_true, if_false, if_true] at hO;refine ⟨112, #[.agg (prtV Ac cc Ab cb p), .agg #[.slice A N c, .slice B M d], .agg (plnV Al cl As cs l), .int .i64 (k : Int)], by go_simp, ?_⟩;refine (HC.out.1 wx hO.bel (hO.thing 5 rfl)).mono ?_;rintro e w2 ⟨A', c', q', B', d', q'', rfl, o1, o2, f1, f2, f3, hb⟩;rw [HB1.out.1, HB1.out.2.2.1] at o1;rw [HB1.out.2.1, HB1.out.2.2.2] at o2;have hN := hO.new2 6 7 (by decide) rfl rfl hb (i1 := .own 3 1 A' N c' (ints b1) q') (i2 := .own 4 1 B' M d' (bools u1) q'') (show OwnS _ _ _ _ _ _ _ _ from o1) (show OwnS _ _ _ _ _ _ _ _ from o2) f1 f2 f3;refine ⟨.agg #[.slice A' N c', .slice B' M d'], { sg with A1 := A', c1 := c', q1 := q', B1 := B', d1 := d', q2 := q'' }, by simp only [sttV, HB1.out.1, HB1.out.2.1], ?_, rfl, ?_⟩
            · simpa [upd, n8] using hN
            · intro i u hi h;have i5 : i ≠ 5 := by rintro rfl; rw [hl] at hi; cases hi
              unfold StkV at h ⊢;split at h <;> first | exact h | exact absurd rfl i5
          · refine sP_ fun sg ly act wx hl hd hW hF => ?_;have et5 := hF.old 5 (by kernel_rfl);simp [Act.eval] at et5;have hO := hW;try dsimp only at hO
            have hh := hO.heap 2 rfl;have clq0 := (cOH hh 0).trans rfl;have clq1 := (cOH hh 1).trans rfl;have clq2 := (cOH hh 2).trans rfl;have zz := hL_ hh;exact ⟨hW, .agg (plnV Al cl As cs l), by go_simp, rfl⟩
          · refine sP_ fun sg ly act wx hl hd hW hF => ?_;have et10 := hF.old 10 (by kernel_rfl);simp [Act.eval] at et10;exact ⟨hW, .int .i64 (k : Int), by go_simp, rfl⟩
          · refine sC_ fun sg ly act wx hl hd hW hF => ?_;simp [Region.binds] at hd;have et25 := hF.new 0 25 (by simp [hd]) rfl;simp [StkV, Act.eval] at et25;have et30 := hF.new 5 30 (by simp [hd]) rfl;simp [StkV, Act.eval] at et30;have et31 := hF.new 6 31 (by simp [hd]) rfl;simp [StkV, Act.eval] at et31;have et32 := hF.new 7 32 (by simp [hd]) rfl;simp [StkV, Act.eval] at et32;have n9 := hF.notYet 8 9 hl (by kernel_rfl);have n10_9 := hF.notYet 8 9 hl (by kernel_rfl);have n10 := hF.notYet 9 10 n10_9 (by kernel_rfl);have n14 := hF.notYet 8 14 hl (by kernel_rfl);have y5 : ly 5 = true := by simp [hd]
            have hO := hW;try dsimp only at hO
            simp only [hl, y5, n14, Bool.false_eq_true, if_false, if_true] at hO;refine ⟨128, #[.agg (prtV Ac cc Ab cb p), .agg #[.slice sg.A1 N sg.c1, .slice sg.B1 M sg.d1], .agg (plnV Al cl As cs l), .int .i64 (k : Int)], by go_simp, ?_⟩;refine (HC.out.2 wx sg.A1 sg.c1 sg.q1 sg.B1 sg.d1 sg.q2 hO.bel (hO.owns 6 rfl) (hO.owns 7 rfl)).mono ?_;rintro e w2 hpost;rcases hpost.2 with ⟨_, A', c', q', B', d', q'', rfl, o1, o2, f1, f2, f3⟩ | ⟨hne, _⟩
            rotate_left
            · exact absurd HE0.out.1 hne
            have hb := hpost.1;rw [HB2.out.1, HB2.out.2.2.1] at o1;rw [HB2.out.2.1, HB2.out.2.2.2] at o2;have hN := hO.new2 8 9 (by decide) rfl rfl hb (i1 := .own 3 1 A' N c' (ints b2) q') (i2 := .own 4 1 B' M d' (bools u2) q'') (show OwnS _ _ _ _ _ _ _ _ from o1) (show OwnS _ _ _ _ _ _ _ _ from o2) f1 f2 f3;refine ⟨.tuple #[.agg #[.slice A' N c', .slice B' M d'], .int .i64 i0, .int .i64 e0], { sg with A2 := A', c2 := c', q3 := q', B2 := B', d2 := d', q4 := q'' }, by simp only [sttV, HB2.out.1, HB2.out.2.1]; rw [← HE0.out.2.1, ← HE0.out.2.2], ?_, rfl, ?_⟩
            · simpa [upd, y5, n14] using hN
            · intro i u hi h;have i8 : i ≠ 8 := by rintro rfl; rw [hl] at hi; cases hi
              have i9 : i ≠ 9 := by rintro rfl; rw [n9] at hi; cases hi
              have i10 : i ≠ 10 := by rintro rfl; rw [n10] at hi; cases hi
              unfold StkV at h ⊢;split at h <;> first | exact h | exact absurd rfl i8 | exact absurd rfl i9 | exact absurd rfl i10
          · refine sP_ fun sg ly act wx hl hd hW hF => ?_;simp [Region.binds] at hd;have et33 := hF.new 8 33 (by simp [hd]) rfl;simp [StkV, Act.eval] at et33;exact ⟨hW, .tuple #[.agg #[.slice sg.A2 N sg.c2, .slice sg.B2 M sg.d2], .int .i64 i0, .int .i64 e0], by go_simp, rfl⟩
          · refine sP_ fun sg ly act wx hl hd hW hF => ?_;simp [Region.binds] at hd;have et24 := hF.new 9 24 (by simp [hd]) rfl;simp [StkV, Act.eval] at et24;exact ⟨hW, .agg #[.slice sg.A2 N sg.c2, .slice sg.B2 M sg.d2], by go_simp, rfl⟩
          · refine sP_ fun sg ly act wx hl hd hW hF => ?_;simp [Region.binds] at hd;have et24 := hF.new 9 24 (by simp [hd]) rfl;simp [StkV, Act.eval] at et24;exact ⟨hW, .int .i64 i0, by go_simp, rfl⟩
          · refine sP_ fun sg ly act wx hl hd hW hF => ?_;simp [Region.binds] at hd;have et24 := hF.new 9 24 (by simp [hd]) rfl;simp [StkV, Act.eval] at et24;exact ⟨hW, .int .i64 e0, by go_simp, rfl⟩
          · refine sR_ fun sg ly act wx hl hd hW hF => ?_;have n14 := hF.notYet 13 14 hl (by kernel_rfl);have hO := hW;try dsimp only at hO
            simp only [hl, n14, Bool.false_eq_true, if_false, if_true] at hO;refine ⟨_, wx.alloc (.cells #[.slice none 0 0, .slice none 0 0] 81), { sg with xb := wx.heap.size }, by go_simp, ?_, rfl, ?_⟩
            · have hN := hO.newB 10 rfl (.cells #[.slice none 0 0, .slice none 0 0] 81);simpa [upd, n14] using hN
            · intro i u hi h;have i13 : i ≠ 13 := by rintro rfl; rw [hl] at hi; cases hi
              unfold StkV at h ⊢;split at h <;> first | exact h | exact absurd rfl i13
          · refine sS_ rfl fun sg ly act wx hl hd hW hF => ?_;simp [Region.binds] at hd;have et11 := hF.new 13 11 (by simp [hd]) rfl;simp [StkV, Act.eval] at et11;have et34 := hF.new 10 34 (by simp [hd]) rfl;simp [StkV, Act.eval] at et34;have y8 : ly 8 = true := by simp [hd]
            have y13 : ly 13 = true := by simp [hd]
            have hO := hW;try dsimp only at hO
            simp only [hl, y8, y13, Bool.false_eq_true, if_false, if_true] at hO;have hh := hO.heap 10 rfl;have clq0 := (cOH hh 0).trans rfl;have flq0 := fOH hh 0;have clq1 := (cOH hh 1).trans rfl;have flq1 := fOH hh 1;have zz := hL_ hh;refine ⟨((wx.setCell ⟨sg.xb, 0, none⟩ (.slice sg.A2 N sg.c2)).setCell ⟨sg.xb, 1, none⟩ (.slice sg.B2 M sg.d2)), sg, .skip, by go_simp, .inl rfl, ?_, fun _ _ _ h => h⟩;have hN := hO.set 10 rfl (((Keep.refl _ _).setCell (.inl (by simp)) (.slice sg.A2 N sg.c2)).setCell (.inl (by simp)) (.slice sg.B2 M sg.d2)) (hS_ (hS_ (hh) 0 (.slice sg.A2 N sg.c2)) 1 (.slice sg.B2 M sg.d2));simpa [upd, y8, y13, hl] using hN
          · refine sP_ fun sg ly act wx hl hd hW hF => ?_;simp [Region.binds] at hd;have et35 := hF.new 11 35 (by simp [hd]) rfl;simp [StkV, Act.eval] at et35;exact ⟨hW, .int .i64 i0, by go_simp, rfl⟩
          · refine sP_ fun sg ly act wx hl hd hW hF => ?_;simp [Region.binds] at hd;have et36 := hF.new 12 36 (by simp [hd]) rfl;simp [StkV, Act.eval] at et36;exact ⟨hW, .int .i64 e0, by go_simp, rfl⟩
        intro sg af w5 hWW hF;obtain ⟨ff, hf, rfl⟩ := hF.lit;have e11 := hF.new 13 11 (by decide) rfl;have e12 := hF.new 15 12 (by decide) rfl;have e13 := hF.new 16 13 (by decide) rfl;rw [← hf] at e11 e12 e13;simp only [StkV] at e11 e12 e13;obtain ⟨A1, c1, q1, B1, d1, q2, A2, n2, c2, q3, B2, m2, d2, q4, xb⟩ := sg;simp only at e11;have O5 : Own w.heap.size w [It.blk pb (.cells (prtV Ac cc Ab cb p) 79), It.blk sb (.cells #[.slice A N c, .slice B M d] 81), It.blk lb (.cells (plnV Al cl As cs l) 85), It.own 81 2 Ao (k + 1) co (srcs rows) qo, It.gen Qr (SrH rows), It.gen Qc (fun w' => 0 < k → SttB w'.heap.size w' A c B d (stN p l s k)), if (fun j => decide (j < List.length (_ : List Oper))) 5 = true then It.own 3 1 (St5.mk A1 c1 q1 B1 d1 q2 A2 n2 c2 q3 B2 m2 d2 q4 xb).A1 N (St5.mk A1 c1 q1 B1 d1 q2 A2 n2 c2 q3 B2 m2 d2 q4 xb).c1 (ints b1) (St5.mk A1 c1 q1 B1 d1 q2 A2 n2 c2 q3 B2 m2 d2 q4 xb).q1 else noIt, if (fun j => decide (j < List.length (_ : List Oper))) 5 = true then It.own 4 1 (St5.mk A1 c1 q1 B1 d1 q2 A2 n2 c2 q3 B2 m2 d2 q4 xb).B1 M (St5.mk A1 c1 q1 B1 d1 q2 A2 n2 c2 q3 B2 m2 d2 q4 xb).d1 (bools u1) (St5.mk A1 c1 q1 B1 d1 q2 A2 n2 c2 q3 B2 m2 d2 q4 xb).q2 else noIt, if (fun j => decide (j < List.length (_ : List Oper))) 8 = true then It.own 3 1 (St5.mk A1 c1 q1 B1 d1 q2 A2 n2 c2 q3 B2 m2 d2 q4 xb).A2 N (St5.mk A1 c1 q1 B1 d1 q2 A2 n2 c2 q3 B2 m2 d2 q4 xb).c2 (ints b2) (St5.mk A1 c1 q1 B1 d1 q2 A2 n2 c2 q3 B2 m2 d2 q4 xb).q3 else noIt, if (fun j => decide (j < List.length (_ : List Oper))) 8 = true then It.own 4 1 (St5.mk A1 c1 q1 B1 d1 q2 A2 n2 c2 q3 B2 m2 d2 q4 xb).B2 M (St5.mk A1 c1 q1 B1 d1 q2 A2 n2 c2 q3 B2 m2 d2 q4 xb).d2 (bools u2) (St5.mk A1 c1 q1 B1 d1 q2 A2 n2 c2 q3 B2 m2 d2 q4 xb).q4 else noIt, if (fun j => decide (j < List.length (_ : List Oper))) 13 = true then It.blk (St5.mk A1 c1 q1 B1 d1 q2 A2 n2 c2 q3 B2 m2 d2 q4 xb).xb (.cells (if (fun j => decide (j < List.length (_ : List Oper))) 14 = true then #[.slice (St5.mk A1 c1 q1 B1 d1 q2 A2 n2 c2 q3 B2 m2 d2 q4 xb).A2 N (St5.mk A1 c1 q1 B1 d1 q2 A2 n2 c2 q3 B2 m2 d2 q4 xb).c2, .slice (St5.mk A1 c1 q1 B1 d1 q2 A2 n2 c2 q3 B2 m2 d2 q4 xb).B2 M (St5.mk A1 c1 q1 B1 d1 q2 A2 n2 c2 q3 B2 m2 d2 q4 xb).d2] else #[.slice none 0 0, .slice none 0 0]) 81) else noIt] w5 := hWW
        simp only [List.length_cons, List.length_nil, Nat.reduceAdd, Nat.reduceLT, decide_true, if_true] at O5;obtain ⟨gb, rfl, rfl, -, -, -⟩ := (O5.owns 8 rfl).some_ (by omega);have hc2 := (O5.owns 8 rfl).ge;have hc2' := (O5.owns 8 rfl).cap;have H5 := Lib.hid O5;clear hf hF hWW O5;simp only [List.filterMap, List.foldl, List.setIfInBounds_toArray, List.set_cons_succ, List.set_cons_zero, e11, e12, e13];clear e11 e12 e13;obtain ⟨G1, rfl⟩ : ∃ G, G = gk := ⟨_, rfl⟩;have m0 := (cOH (H5.out.heap 0 rfl) 0).trans rfl;rw [show (prtV Ac cc Ab cb p)[0]? = some (.slice Ac N cc) from by rw [HNM.out.1]; rfl] at m0;have zpb := hL_ (H5.out.heap 0 rfl);go_wp2_with fail
        clear m0 zpb
        go_loopg [14] (N) (fun g i wr => ∃ j : Nat, g + j = N ∧ i = .int .i64 j ∧ Own w.heap.size w [It.blk pb (.cells (prtV Ac cc Ab cb p) 79), It.blk sb (.cells #[.slice A N c, .slice B M d] 81), It.blk lb (.cells (plnV Al cl As cs l) 85), It.own 81 2 Ao (k + 1) co (srcs rows) qo, It.gen Qr (SrH rows), It.gen Qc (fun w' => 0 < k → SttB w'.heap.size w' A c B d (stN p l s k)), It.own 3 1 A1 N c1 (ints b1) q1, It.own 4 1 B1 M d1 (bools u1) q2, It.own 3 1 (some ⟨gb, 0, none⟩) N c2 (ints (frostN p b2 j)) [gb], It.own 4 1 B2 M d2 (bools u2) q4, It.blk xb (.cells #[.slice (some ⟨gb, 0, none⟩) N c2, .slice B2 M d2] 81)] wr)
        case atStart => exact ⟨0, rfl, rfl, H5.out⟩
        case round =>
          obtain ⟨j, hj, rfl, hO⟩ := hrel;obtain ⟨Wq, hWq⟩ : ∃ X, X = wr := ⟨_, rfl⟩;subst hWq;have m0 := (cOH (hO.heap 10 rfl) 0).trans rfl;have m0' := (cOH (hO.heap 10 rfl) 1).trans rfl;have zxb := hL_ (hO.heap 10 rfl);have m1 := (cOH (hO.heap 0 rfl) 0).trans rfl;rw [show (prtV Ac cc Ab cb p)[0]? = some (.slice Ac N cc) from by rw [HNM.out.1]; rfl] at m1;have zpb := hL_ (hO.heap 0 rfl);by_cases hlj : j < N
          · obtain ⟨bq, hbq⟩ : ∃ b, b = frostN p b2 j := ⟨_, rfl⟩;rw [← hbq] at hO;have hbql : bq.length = N := by rw [hbq, frostN_length]; exact hb2l
            have hbqd : brR (100000000 + 20 * j) bq := by
              rw [hbq, HU2.out.1]; exact frostN_bd (fun x hx => by have := H0.out.2.2.2.2.1.chf x hx; omega) HS.out.2.2.2.2.2.1 (by have := HNM.out.1; omega)
            obtain ⟨vv, hvv⟩ : ∃ v, v = getI bq j := ⟨_, rfl⟩;have hv1 := hbqd j;rw [← hvv] at hv1;obtain ⟨gq, hgq, -, zg, hgc, hgf⟩ := (hO.owns 8 rfl).some_ (by omega);injection hgq with hgq
            injection hgq with hgq _ _
            subst hgq;have p1 : Wq.cell? ⟨gb, j, none⟩ = some (.int .i64 vv) := by
              have := hgc j _ (iG_ (l := bq) (k := j) (by omega));rw [this, hvv]; simp [getI]
            have fz := hgf j;obtain ⟨bc, oc, hAc, hbc, hcc⟩ := (H0.out.2.2.1.below (hO.bel.mono hD)).chs.2 (by have := HNM.out.1; omega);have hfr0 := hcc _ _ (chcs_get (k := j) (by have := HNM.out.1; omega)).2.1;obtain ⟨fr, hfr⟩ : ∃ g, g = (ch p (j : Int)).frost := ⟨_, rfl⟩;have p2 : Wq.cell? ⟨bc, oc + j * 3 + 1, none⟩ = some (.int .i64 fr) := by
              have e : Wq.cell? ⟨bc, oc + (j * 3 + 1), none⟩ = some (.int .i64 fr) := by
                rw [hfr0, hfr];unfold ch; rw [Int.toNat_natCast, List.getD_eq_getElem?_getD, List.getElem?_eq_getElem (show j < p.chs.length by have := HNM.out.1; omega)]; rfl
              exact e
            have hgb := H0.out.2.2.2.2.1.chn (c := (j : Int)) (by omega) (by have := HNM.out.1; omega);rw [← hfr] at hgb;rw [hAc] at m1;have zbc : bc < Wq.heap.size := by have := hO.lo; omega
            have hjI : (0 : Int) ≤ (j : Int) ∧ (j : Int) < (N : Int) := by omega
            have HI := Lib.hid (And.intro hO (And.intro hbq (And.intro hvv hfr)));clear hO hbq hvv hfr hbqd hgc hgf hbql hcc hfr0 hAc m0';go_upto_region 11 with fail
            refine wRS (σ := Unit) (by kernel_rfl) (by kernel_rfl) (fun _ jx vx _ => SfrV Wq xb pb gb bc oc N c2 cc j vv fr jx vx) (fun _ ly wx => SfrW Wq xb pb gb bc oc N c2 cc j vv fr ly wx) () ?_ ?_ ?_
            · exact (by unfold SfrW; rw [if_neg (by simp)])
            · simp only [AllFrom, Nat.zero_add, Nat.reduceAdd];refine ⟨?_, ?_, ?_, ?_, ?_, ?_, ?_, ?_, ?_, ?_, ?_, ?_, ?_, ?_, ?_, ?_, ?_, trivial⟩
              · refine sP_ fun sg ly a wr hl hd hW hF => ?_;have et11 := hF.old 11 (by kernel_rfl);simp [Act.eval] at et11;exact ⟨by simpa [SfrW, upd] using hW, .pointer (some ⟨xb, 0, none⟩), by go_simp, rfl⟩
              · refine sP_ fun sg ly a wr hl hd hW hF => ?_;simp [Region.binds] at hd;have et48 := hF.new 0 48 (by simp [hd]) rfl;simp [SfrV, Act.eval] at et48;have nL := hF.notYet 1 16 hl (by kernel_rfl);have hW' := hW;unfold SfrW at hW';rw [if_neg (by simp [nL])] at hW';subst hW';exact ⟨by unfold SfrW; rw [if_neg (by simp [upd, nL])], _, by go_simp, rfl⟩
              · refine sP_ fun sg ly a wr hl hd hW hF => ?_;have et14 := hF.old 14 (by kernel_rfl);simp [Act.eval] at et14;exact ⟨by simpa [SfrW, upd] using hW, .int .i64 j, by go_simp, rfl⟩
              · refine sP_ fun sg ly a wr hl hd hW hF => ?_;have et11 := hF.old 11 (by kernel_rfl);simp [Act.eval] at et11;exact ⟨by simpa [SfrW, upd] using hW, .pointer (some ⟨xb, 0, none⟩), by go_simp, rfl⟩
              · refine sP_ fun sg ly a wr hl hd hW hF => ?_;simp [Region.binds] at hd;have et51 := hF.new 3 51 (by simp [hd]) rfl;simp [SfrV, Act.eval] at et51;have nL := hF.notYet 4 16 hl (by kernel_rfl);have hW' := hW;unfold SfrW at hW';rw [if_neg (by simp [nL])] at hW';subst hW';exact ⟨by unfold SfrW; rw [if_neg (by simp [upd, nL])], _, by go_simp, rfl⟩
              · refine sP_ fun sg ly a wr hl hd hW hF => ?_;have et14 := hF.old 14 (by kernel_rfl);simp [Act.eval] at et14;exact ⟨by simpa [SfrW, upd] using hW, .int .i64 j, by go_simp, rfl⟩
              · refine sP_ fun sg ly a wr hl hd hW hF => ?_;simp [Region.binds] at hd;have et52 := hF.new 4 52 (by simp [hd]) rfl;simp [SfrV, Act.eval] at et52;have et53 := hF.new 5 53 (by simp [hd]) rfl;simp [SfrV, Act.eval] at et53;exact ⟨by simpa [SfrW, upd] using hW, .pointer (some ⟨gb, j, none⟩), by go_simp, rfl⟩
              · refine sP_ fun sg ly a wr hl hd hW hF => ?_;simp [Region.binds] at hd;have et54 := hF.new 6 54 (by simp [hd]) rfl;simp [SfrV, Act.eval] at et54;have nL := hF.notYet 7 16 hl (by kernel_rfl);have hW' := hW;unfold SfrW at hW';rw [if_neg (by simp [nL])] at hW';subst hW';exact ⟨by unfold SfrW; rw [if_neg (by simp [upd, nL])], _, by go_simp, rfl⟩
              · refine sP_ fun sg ly a wr hl hd hW hF => ?_;have et3 := hF.old 3 (by kernel_rfl);simp [Act.eval] at et3;exact ⟨by simpa [SfrW, upd] using hW, .pointer (some ⟨pb, 0, none⟩), by go_simp, rfl⟩
              · refine sP_ fun sg ly a wr hl hd hW hF => ?_;simp [Region.binds] at hd;have et56 := hF.new 8 56 (by simp [hd]) rfl;simp [SfrV, Act.eval] at et56;have nL := hF.notYet 9 16 hl (by kernel_rfl);have hW' := hW;unfold SfrW at hW';rw [if_neg (by simp [nL])] at hW';subst hW';exact ⟨by unfold SfrW; rw [if_neg (by simp [upd, nL])], _, by go_simp, rfl⟩
              · refine sP_ fun sg ly a wr hl hd hW hF => ?_;have et14 := hF.old 14 (by kernel_rfl);simp [Act.eval] at et14;exact ⟨by simpa [SfrW, upd] using hW, .int .i64 j, by go_simp, rfl⟩
              · refine sP_ fun sg ly a wr hl hd hW hF => ?_;simp [Region.binds] at hd;have et57 := hF.new 9 57 (by simp [hd]) rfl;simp [SfrV, Act.eval] at et57;have et58 := hF.new 10 58 (by simp [hd]) rfl;simp [SfrV, Act.eval] at et58;exact ⟨by simpa [SfrW, upd] using hW, .pointer (some ⟨bc, oc + j * 3, none⟩), by go_simp, rfl⟩
              · refine sP_ fun sg ly a wr hl hd hW hF => ?_;simp [Region.binds] at hd;have et59 := hF.new 11 59 (by simp [hd]) rfl;simp [SfrV, Act.eval] at et59;exact ⟨by simpa [SfrW, upd] using hW, .pointer (some ⟨bc, oc + j * 3 + 1, none⟩), by go_simp, rfl⟩
              · refine sP_ fun sg ly a wr hl hd hW hF => ?_;simp [Region.binds] at hd;have et60 := hF.new 12 60 (by simp [hd]) rfl;simp [SfrV, Act.eval] at et60;have nL := hF.notYet 13 16 hl (by kernel_rfl);have hW' := hW;unfold SfrW at hW';rw [if_neg (by simp [nL])] at hW';subst hW';exact ⟨by unfold SfrW; rw [if_neg (by simp [upd, nL])], _, by go_simp, rfl⟩
              · refine sP_ fun sg ly a wr hl hd hW hF => ?_;simp [Region.binds] at hd;have et55 := hF.new 7 55 (by simp [hd]) rfl;simp [SfrV, Act.eval] at et55;have et61 := hF.new 13 61 (by simp [hd]) rfl;simp [SfrV, Act.eval] at et61;have ew := IntWalk.i64_in (vv + fr) (by omega);exact ⟨by simpa [SfrW, upd] using hW, .int .i64 (vv + fr), by go_simp, rfl⟩
              · refine sP_ fun sg ly a wr hl hd hW hF => ?_;simp [Region.binds] at hd;have et49 := hF.new 1 49 (by simp [hd]) rfl;simp [SfrV, Act.eval] at et49;have et50 := hF.new 2 50 (by simp [hd]) rfl;simp [SfrV, Act.eval] at et50;exact ⟨by simpa [SfrW, upd] using hW, .pointer (some ⟨gb, j, none⟩), by go_simp, rfl⟩
              · refine sS_ rfl fun sg ly a wr hl hd hW hF => ?_;simp [Region.binds] at hd;have et63 := hF.new 15 63 (by simp [hd]) rfl;simp [SfrV, Act.eval] at et63;have et62 := hF.new 14 62 (by simp [hd]) rfl;simp [SfrV, Act.eval] at et62;have hW' := hW;unfold SfrW at hW';rw [if_neg (by simp [hl])] at hW';subst hW';refine ⟨(Wq.setCell ⟨gb, j, none⟩ (.int .i64 (vv + fr))).drew, (), .skip, by go_simp, .inl rfl, by unfold SfrW; rw [if_pos (by simp [upd])], fun _ _ _ h => h⟩
            intro _ a w3 hWW hF;obtain ⟨f3, hf3, rfl⟩ := hF.lit;have hw3 : w3 = (Wq.setCell ⟨gb, j, none⟩ (.int .i64 (vv + fr))).drew := by
              have h5 := hWW;unfold SfrW at h5
              rwa [if_pos (by simp)] at h5
            clear hf3 hF hWW;simp only [List.filterMap, List.foldl, List.setIfInBounds_toArray, List.set_cons_succ, List.set_cons_zero];have O6 : Own w.heap.size w [It.blk pb (.cells (prtV Ac cc Ab cb p) 79), It.blk sb (.cells #[.slice A N c, .slice B M d] 81), It.blk lb (.cells (plnV Al cl As cs l) 85), It.own 81 2 Ao (k + 1) co (srcs rows) qo, It.gen Qr (SrH rows), It.gen Qc (fun w' => 0 < k → SttB w'.heap.size w' A c B d (stN p l s k)), It.own 3 1 A1 N c1 (ints b1) q1, It.own 4 1 B1 M d1 (bools u1) q2, It.own 3 1 (some ⟨gb, 0, none⟩) N c2 (ints (frostN p b2 (j + 1))) [gb], It.own 4 1 B2 M d2 (bools u2) q4, It.blk xb (.cells #[.slice (some ⟨gb, 0, none⟩) N c2, .slice B2 M d2] 81)] w3 := by
              rw [hw3];refine (HI.out.1.upd 8 rfl ((Keep.refl [gb] Wq).setCell (.inl (by simp)) (.int .i64 (vv + fr))) (i' := .own 3 1 (some ⟨gb, 0, none⟩) N c2 (ints (frostN p b2 (j + 1))) [gb]) ?_ (fun x hx => .inl hx)).drew;show OwnS _ _ _ _ _ _ _ _;rw [frostN, ← HI.out.2.1, ← HI.out.2.2.1, ← HI.out.2.2.2, ← ints_set];exact (HI.out.1.owns 8 rfl).set1 j hlj _
            have H6 := Lib.hid O6;clear hw3 O6 m0 m1 p1 p2 zxb zpb zbc fz zg;go_wp2_with fail
            go_roundg (gk - 1);case measure => omega
            case rel => exact ⟨j + 1, by omega, by go_num, H6.out⟩
          · obtain rfl : j = N := by omega
            have y0 := (cOH (hO.heap 1 rfl) 0).trans rfl;have y1 := (cOH (hO.heap 1 rfl) 1).trans rfl;have v0 := fOH (hO.heap 1 rfl) 0;have v1 := fOH (hO.heap 1 rfl) 1;have zsb := hL_ (hO.heap 1 rfl);have HO6 := Lib.hid hO;clear hO;go_upto_region 13 with fail
            obtain ⟨w7, hw7⟩ : ∃ X, X = (Wq.setCell ⟨sb, 0, none⟩ (.slice (some ⟨gb, 0, none⟩) j c2)).setCell ⟨sb, 1, none⟩ (.slice B2 M d2) := ⟨_, rfl⟩;rw [← hw7];have O7 := HO6.out.set 1 rfl (((Keep.refl [sb] Wq).setCell (.inl (by simp)) (.slice (some ⟨gb, 0, none⟩) j c2)).setCell (.inl (by simp)) (.slice B2 M d2)) (hS_ (hS_ (HO6.out.heap 1 rfl) 0 (.slice (some ⟨gb, 0, none⟩) j c2)) 1 (.slice B2 M d2));rw [← hw7] at O7;have hst : stN p l s (k + 1) = ⟨frostN p b2 j, u2⟩ := by
              rw [stN, hourS, frostL, ← HS.out.2.2.2.1, ← HNM.out.1, HU2.out.1, HU2.out.2]
            have o8 := O7.owns 8 rfl;have o9 := O7.owns 9 rfl;have hfl : (frostN p b2 j).length = j := by rw [frostN_length]; exact hb2l
            have hul : u2.length = M := by have h9 := o9.1; simp [bools] at h9; exact h9
            have hT : ∀ w', OwnS w' 3 1 (some ⟨gb, 0, none⟩) j c2 (ints (frostN p b2 j)) [gb] → OwnS w' 4 1 B2 M d2 (bools u2) q4 → SttB w'.heap.size w' (some ⟨gb, 0, none⟩) c2 B2 d2 (stN p l s (k + 1)) := fun w' h1 h2 => by
              rw [hst];have h1' : OwnS w' 3 1 (some ⟨gb, 0, none⟩) (frostN p b2 j).length c2 (ints (frostN p b2 j)) [gb] := by rw [hfl]; exact h1
              have h2' : OwnS w' 4 1 B2 u2.length d2 (bools u2) q4 := by rw [hul]; exact h2
              exact sttB_of_own (s := ⟨frostN p b2 j, u2⟩) h1' h2'
            have O7' := O7.regroup 5 8 9 rfl rfl (by decide) (by decide) (g := .gen ([gb] ++ q4) (fun w' => 0 < k + 1 → SttB w'.heap.size w' (some ⟨gb, 0, none⟩) c2 B2 d2 (stN p l s (k + 1)))) ⟨fun x hx => by rcases List.mem_append.1 hx with e | e; exact o8.lt x e; exact o9.lt x e, fun S wx hk' hS _ => hT wx (o8.keepS hk' (fun g hg hm => hS g hm (by simp at hg; simp [hg]))) (o9.keepS hk' (fun g hg hm => hS g hm (by simp [hg])))⟩ rfl;have kc := copied_any w7.heap.size (some ⟨gb, 0, none⟩) c2 B2 d2 ⟨frostN p b2 j, u2⟩ w7 (by rw [← hst]; exact hT w7 o8 o9) (Nat.le_refl _) (by simp only; omega);simp only [sttV, hfl, hul] at kc;have kc2 : Calls Try.prog 127 #[.agg #[.slice (some ⟨gb, 0, none⟩) j c2, .slice B2 M d2]] w7 (NewStP w7 (stN p l s (k + 1)) j M) := by rw [hst]; exact kc.mono fun e w' h => h.named hfl hul
            have z0 := (cOH (O7'.heap 1 rfl) 0).trans rfl;have z1 := (cOH (O7'.heap 1 rfl) 1).trans rfl;have zs7 := hL_ (O7'.heap 1 rfl);have H7 := Lib.hid (And.intro O7' (And.intro kc2 (And.intro hst (And.intro hfl hul))));clear O7 O7' kc kc2 hst o8 o9 hT hw7 hfl hul y0 y1 v0 v1 zsb m0 m0' m1 zxb zpb;have hk1 : k + 1 + 1 ≤ 1000 := by omega
            go_wp2_with fail
            refine H7.out.2.1.mono ?_;rintro e w8 ⟨A3, c3, q5, B3, d3, q6, rfl, o1, o2, f1, f2, f3, hb⟩;have O8 := H7.out.1.upd 4 rfl (Keep.of_below hb) (srH_snoc (w := w8) (It.keep (H7.out.1.get 4 rfl) (S := []) (Keep.of_below hb) (by simp) (by simp)) o1 o2) (fun x hx => (List.mem_append.1 hx).elim .inl (fun h => (List.mem_append.1 h).elim (fun h => .inr (f1 x h)) (fun h => .inr (f2 x h))));have H8 := Lib.hid O8;clear o1 o2 f1 f2 f3 hb O8;go_wp2_with (at_builtin; refine wpList_append_S (size := 2) rfl (.tmp 65) (.tmp 68) 178 rfl iS _ 48 Try.underlying178 hS0 hS1 hS2 (by decide) hS3 rfl (A := Ao) (n := k + 1) (c := co) (xs := srcs rows) (fp := qo) (by simp [Act.eval]) ⟨w8.heap.size, 0, none⟩ (by simp [Act.eval]) [.slice A3 j c3, .slice B3 M d3] ((H8.out.owns 3 rfl).alloc _) rfl (fun jj vv hv => by rw [show (⟨w8.heap.size, 0, none⟩ : Addr).add jj = ⟨w8.heap.size, jj, none⟩ from (by simp [Addr.add]; omega)]; exact (cOH (heap_alloc_new w8 _) jj).trans (by simpa using hv)) (by simp [Value.oneCell']) (by omega) (by omega) ?_; intro g c' w9 h1 h2 h3 h4; have H9 := Lib.hid (And.intro h1 (And.intro h2 (And.intro h3 h4))); clear h1 h2 h3 h4)
            go_roundg (G1 - 1);case measure => omega
            case rel =>
              obtain ⟨h1, h2, h3, h4⟩ := H9.out;have hsrc : srcs (rows ++ [⟨stN p l s (k + 1), A3, c3, B3, d3⟩]) = srcs rows ++ [.slice A3 j c3, .slice B3 M d3] := by
                simp only [srcs, List.flatMap_append, List.flatMap_cons, List.flatMap_nil, List.append_nil, src];rw [H7.out.2.2.1];simp only [H7.out.2.2.2.1, H7.out.2.2.2.2]
              have O9 := (H8.out.below ((Below.refl _ _).alloc (Nat.le_refl _) (.cells #[.slice A3 j c3, .slice B3 M d3] 81))).upd 3 rfl (w' := w9) h4 (i' := .own 81 2 (some ⟨g, 0, none⟩) (k + 1 + 1) c' (srcs (rows ++ [⟨stN p l s (k + 1), A3, c3, B3, d3⟩])) [g]) (by show OwnS _ _ _ _ _ _ _ _; rw [hsrc]; exact h1) (fun x hx => by
                rcases List.mem_singleton.1 hx with rfl
                rcases h2 with e | e
                · exact .inl e
                · exact .inr (Nat.le_of_eq e))
              simp only [List.take_succ_cons, List.take_zero, List.set_cons_succ, List.set_cons_zero, List.cons_append, List.nil_append, List.setIfInBounds_toArray] at O9;refine ⟨k + 1, some ⟨g, 0, none⟩, c', [g], rows ++ [⟨stN p l s (k + 1), A3, c3, B3, d3⟩], Qr ++ (q5 ++ q6), [gb] ++ q4, some ⟨gb, 0, none⟩, c2, B2, d2, by omega, by go_num, rfl, ?_, fun h => absurd h (by omega), ?_, O9⟩
              · rw [List.map_append, HS.out.1, List.range_succ (n := k + 1), List.map_append]; rfl
              · rw [HS.out.2.1, HS.out.2.2.1, if_neg (by simpa using HE0.out.1)]
      · have HE0 : Hid (R1.2.1 ≠ 0 ∧ (R1.1 : Int) = i0 ∧ R1.2.1 = e0) := Lib.hid ⟨by rw [← he0]; exact her, hi0.symm, he0.symm⟩;clear hi0 he0;go_upto_region 5 with fail
        clear t0 zl;refine wRS (σ := St5) (by kernel_rfl) (by kernel_rfl) (fun sg jx vx _ => SteV Ac cc Ab cb p A c B d N M Al cl As cs l (k : Int) i0 e0 sg jx vx) (fun sg ly wx => Own w.heap.size w [It.blk pb (.cells (prtV Ac cc Ab cb p) 79), It.blk sb (.cells #[.slice A N c, .slice B M d] 81), It.blk lb (.cells (plnV Al cl As cs l) 85), It.own 81 2 Ao (k + 1) co (srcs rows) qo, It.gen Qr (SrH rows), It.gen Qc (fun w' => 0 < k → SttB w'.heap.size w' A c B d (stN p l s k)), if ly 5 = true then It.own 3 1 sg.A1 N sg.c1 (ints b1) sg.q1 else noIt, if ly 5 = true then It.own 4 1 sg.B1 M sg.d1 (bools u1) sg.q2 else noIt, if ly 13 = true then It.blk sg.xb (.cells (if ly 14 = true then #[.slice sg.A2 sg.n2 sg.c2, .slice sg.B2 sg.m2 sg.d2] else #[.slice none 0 0, .slice none 0 0]) 81) else noIt] wx) ⟨none, 0, [], none, 0, [], none, 0, 0, [], none, 0, 0, [], 0⟩ ?_ ?_ ?_
        · exact HO.out.blank.blank.blank.drew
        · simp only [AllFrom, Nat.zero_add, Nat.reduceAdd];refine ⟨?_, ?_, ?_, ?_, ?_, ?_, ?_, ?_, ?_, ?_, ?_, ?_, ?_, ?_, ?_, ?_, ?_, trivial⟩
          · refine sP_ fun sg ly act wx hl hd hW hF => ?_;have et3 := hF.old 3 (by kernel_rfl);simp [Act.eval] at et3;have hO := hW;try dsimp only at hO
            have hh := hO.heap 0 rfl;have clq0 := (cOH hh 0).trans rfl;have clq1 := (cOH hh 1).trans rfl;have clq2 := (cOH hh 2).trans rfl;have zz := hL_ hh;exact ⟨hW, .agg (prtV Ac cc Ab cb p), by go_simp, rfl⟩
          · refine sP_ fun sg ly act wx hl hd hW hF => ?_;have et3 := hF.old 3 (by kernel_rfl);simp [Act.eval] at et3;have hO := hW;try dsimp only at hO
            have hh := hO.heap 0 rfl;have clq0 := (cOH hh 0).trans rfl;have clq1 := (cOH hh 1).trans rfl;have clq2 := (cOH hh 2).trans rfl;have zz := hL_ hh;exact ⟨hW, .agg (prtV Ac cc Ab cb p), by go_simp, rfl⟩
          · refine sP_ fun sg ly act wx hl hd hW hF => ?_;have et4 := hF.old 4 (by kernel_rfl);simp [Act.eval] at et4;have hO := hW;try dsimp only at hO
            have hh := hO.heap 1 rfl;have clq0 := (cOH hh 0).trans rfl;have clq1 := (cOH hh 1).trans rfl;have zz := hL_ hh;exact ⟨hW, .agg #[.slice A N c, .slice B M d], by go_simp, rfl⟩
          · refine sP_ fun sg ly act wx hl hd hW hF => ?_;have et5 := hF.old 5 (by kernel_rfl);simp [Act.eval] at et5;have hO := hW;try dsimp only at hO
            have hh := hO.heap 2 rfl;have clq0 := (cOH hh 0).trans rfl;have clq1 := (cOH hh 1).trans rfl;have clq2 := (cOH hh 2).trans rfl;have zz := hL_ hh;exact ⟨hW, .agg (plnV Al cl As cs l), by go_simp, rfl⟩
          · refine sP_ fun sg ly act wx hl hd hW hF => ?_;have et10 := hF.old 10 (by kernel_rfl);simp [Act.eval] at et10;exact ⟨hW, .int .i64 (k : Int), by go_simp, rfl⟩
          · refine sC_ fun sg ly act wx hl hd hW hF => ?_;simp [Region.binds] at hd;have et26 := hF.new 1 26 (by simp [hd]) rfl;simp [SteV, Act.eval] at et26;have et27 := hF.new 2 27 (by simp [hd]) rfl;simp [SteV, Act.eval] at et27;have et28 := hF.new 3 28 (by simp [hd]) rfl;simp [SteV, Act.eval] at et28;have et29 := hF.new 4 29 (by simp [hd]) rfl;simp [SteV, Act.eval] at et29;have n8 := hF.notYet 5 8 hl (by kernel_rfl);have hO := hW;try dsimp only at hO
            simp only [hl, Bool.false_eq_true, if_false, if_true] at hO;refine ⟨112, #[.agg (prtV Ac cc Ab cb p), .agg #[.slice A N c, .slice B M d], .agg (plnV Al cl As cs l), .int .i64 (k : Int)], by go_simp, ?_⟩;refine (HC.out.1 wx hO.bel (hO.thing 5 rfl)).mono ?_;rintro e w2 ⟨A', c', q', B', d', q'', rfl, o1, o2, f1, f2, f3, hb⟩;rw [HB1.out.1, HB1.out.2.2.1] at o1;rw [HB1.out.2.1, HB1.out.2.2.2] at o2;have hN := hO.new2 6 7 (by decide) rfl rfl hb (i1 := .own 3 1 A' N c' (ints b1) q') (i2 := .own 4 1 B' M d' (bools u1) q'') (show OwnS _ _ _ _ _ _ _ _ from o1) (show OwnS _ _ _ _ _ _ _ _ from o2) f1 f2 f3;refine ⟨.agg #[.slice A' N c', .slice B' M d'], { sg with A1 := A', c1 := c', q1 := q', B1 := B', d1 := d', q2 := q'' }, by simp only [sttV, HB1.out.1, HB1.out.2.1], ?_, rfl, ?_⟩
            · simpa [upd, n8] using hN
            · intro i u hi h;have i5 : i ≠ 5 := by rintro rfl; rw [hl] at hi; cases hi
              unfold SteV at h ⊢;split at h <;> first | exact h | exact absurd rfl i5
          · refine sP_ fun sg ly act wx hl hd hW hF => ?_;have et5 := hF.old 5 (by kernel_rfl);simp [Act.eval] at et5;have hO := hW;try dsimp only at hO
            have hh := hO.heap 2 rfl;have clq0 := (cOH hh 0).trans rfl;have clq1 := (cOH hh 1).trans rfl;have clq2 := (cOH hh 2).trans rfl;have zz := hL_ hh;exact ⟨hW, .agg (plnV Al cl As cs l), by go_simp, rfl⟩
          · refine sP_ fun sg ly act wx hl hd hW hF => ?_;have et10 := hF.old 10 (by kernel_rfl);simp [Act.eval] at et10;exact ⟨hW, .int .i64 (k : Int), by go_simp, rfl⟩
          · refine sC_ fun sg ly act wx hl hd hW hF => ?_;simp [Region.binds] at hd;have et25 := hF.new 0 25 (by simp [hd]) rfl;simp [SteV, Act.eval] at et25;have et30 := hF.new 5 30 (by simp [hd]) rfl;simp [SteV, Act.eval] at et30;have et31 := hF.new 6 31 (by simp [hd]) rfl;simp [SteV, Act.eval] at et31;have et32 := hF.new 7 32 (by simp [hd]) rfl;simp [SteV, Act.eval] at et32;have n9 := hF.notYet 8 9 hl (by kernel_rfl);have n10_9 := hF.notYet 8 9 hl (by kernel_rfl);have n10 := hF.notYet 9 10 n10_9 (by kernel_rfl);have n14 := hF.notYet 8 14 hl (by kernel_rfl);have y5 : ly 5 = true := by simp [hd]
            have hO := hW;try dsimp only at hO
            simp only [hl, y5, n14, Bool.false_eq_true, if_false, if_true] at hO;refine ⟨128, #[.agg (prtV Ac cc Ab cb p), .agg #[.slice sg.A1 N sg.c1, .slice sg.B1 M sg.d1], .agg (plnV Al cl As cs l), .int .i64 (k : Int)], by go_simp, ?_⟩;refine (HC.out.2 wx sg.A1 sg.c1 sg.q1 sg.B1 sg.d1 sg.q2 hO.bel (hO.owns 6 rfl) (hO.owns 7 rfl)).mono ?_;rintro e w2 hpost;rcases hpost.2 with ⟨h0, _⟩ | ⟨hne, A', n', c', B', m', d', rfl⟩
            · exact absurd h0 HE0.out.1
            have hb := hpost.1;have hN := hO.below hb;refine ⟨.tuple #[.agg #[.slice A' n' c', .slice B' m' d'], .int .i64 i0, .int .i64 e0], { sg with A2 := A', n2 := n', c2 := c', B2 := B', m2 := m', d2 := d' }, by rw [HE0.out.2.1, HE0.out.2.2], ?_, rfl, ?_⟩
            · simpa [upd, y5, n14] using hN
            · intro i u hi h;have i8 : i ≠ 8 := by rintro rfl; rw [hl] at hi; cases hi
              have i9 : i ≠ 9 := by rintro rfl; rw [n9] at hi; cases hi
              have i10 : i ≠ 10 := by rintro rfl; rw [n10] at hi; cases hi
              unfold SteV at h ⊢;split at h <;> first | exact h | exact absurd rfl i8 | exact absurd rfl i9 | exact absurd rfl i10
          · refine sP_ fun sg ly act wx hl hd hW hF => ?_;simp [Region.binds] at hd;have et33 := hF.new 8 33 (by simp [hd]) rfl;simp [SteV, Act.eval] at et33;exact ⟨hW, .tuple #[.agg #[.slice sg.A2 sg.n2 sg.c2, .slice sg.B2 sg.m2 sg.d2], .int .i64 i0, .int .i64 e0], by go_simp, rfl⟩
          · refine sP_ fun sg ly act wx hl hd hW hF => ?_;simp [Region.binds] at hd;have et24 := hF.new 9 24 (by simp [hd]) rfl;simp [SteV, Act.eval] at et24;exact ⟨hW, .agg #[.slice sg.A2 sg.n2 sg.c2, .slice sg.B2 sg.m2 sg.d2], by go_simp, rfl⟩
          · refine sP_ fun sg ly act wx hl hd hW hF => ?_;simp [Region.binds] at hd;have et24 := hF.new 9 24 (by simp [hd]) rfl;simp [SteV, Act.eval] at et24;exact ⟨hW, .int .i64 i0, by go_simp, rfl⟩
          · refine sP_ fun sg ly act wx hl hd hW hF => ?_;simp [Region.binds] at hd;have et24 := hF.new 9 24 (by simp [hd]) rfl;simp [SteV, Act.eval] at et24;exact ⟨hW, .int .i64 e0, by go_simp, rfl⟩
          · refine sR_ fun sg ly act wx hl hd hW hF => ?_;have n14 := hF.notYet 13 14 hl (by kernel_rfl);have hO := hW;try dsimp only at hO
            simp only [hl, n14, Bool.false_eq_true, if_false, if_true] at hO;refine ⟨_, wx.alloc (.cells #[.slice none 0 0, .slice none 0 0] 81), { sg with xb := wx.heap.size }, by go_simp, ?_, rfl, ?_⟩
            · have hN := hO.newB 8 rfl (.cells #[.slice none 0 0, .slice none 0 0] 81);simpa [upd, n14] using hN
            · intro i u hi h;have i13 : i ≠ 13 := by rintro rfl; rw [hl] at hi; cases hi
              unfold SteV at h ⊢;split at h <;> first | exact h | exact absurd rfl i13
          · refine sS_ rfl fun sg ly act wx hl hd hW hF => ?_;simp [Region.binds] at hd;have et11 := hF.new 13 11 (by simp [hd]) rfl;simp [SteV, Act.eval] at et11;have et34 := hF.new 10 34 (by simp [hd]) rfl;simp [SteV, Act.eval] at et34;have y8 : ly 8 = true := by simp [hd]
            have y13 : ly 13 = true := by simp [hd]
            have hO := hW;try dsimp only at hO
            simp only [hl, y8, y13, Bool.false_eq_true, if_false, if_true] at hO;have hh := hO.heap 8 rfl;have clq0 := (cOH hh 0).trans rfl;have flq0 := fOH hh 0;have clq1 := (cOH hh 1).trans rfl;have flq1 := fOH hh 1;have zz := hL_ hh;refine ⟨((wx.setCell ⟨sg.xb, 0, none⟩ (.slice sg.A2 sg.n2 sg.c2)).setCell ⟨sg.xb, 1, none⟩ (.slice sg.B2 sg.m2 sg.d2)), sg, .skip, by go_simp, .inl rfl, ?_, fun _ _ _ h => h⟩;have hN := hO.set 8 rfl (((Keep.refl _ _).setCell (.inl (by simp)) (.slice sg.A2 sg.n2 sg.c2)).setCell (.inl (by simp)) (.slice sg.B2 sg.m2 sg.d2)) (hS_ (hS_ (hh) 0 (.slice sg.A2 sg.n2 sg.c2)) 1 (.slice sg.B2 sg.m2 sg.d2));simpa [upd, y8, y13, hl] using hN
          · refine sP_ fun sg ly act wx hl hd hW hF => ?_;simp [Region.binds] at hd;have et35 := hF.new 11 35 (by simp [hd]) rfl;simp [SteV, Act.eval] at et35;exact ⟨hW, .int .i64 i0, by go_simp, rfl⟩
          · refine sP_ fun sg ly act wx hl hd hW hF => ?_;simp [Region.binds] at hd;have et36 := hF.new 12 36 (by simp [hd]) rfl;simp [SteV, Act.eval] at et36;exact ⟨hW, .int .i64 e0, by go_simp, rfl⟩
        intro sg af w5 hWW hF;obtain ⟨ff, hf, rfl⟩ := hF.lit;have e12 := hF.new 15 12 (by decide) rfl;have e13 := hF.new 16 13 (by decide) rfl;rw [← hf] at e12 e13;simp only [SteV] at e12 e13;have H5 := Lib.hid hWW.bel;clear hf hF hWW;simp only [List.filterMap, List.foldl, List.setIfInBounds_toArray, List.set_cons_succ, List.set_cons_zero, e12, e13];clear e12 e13;have hne : (e0 != 0) = true := by simpa using her
        clear her;go_wp2_with fail
        refine bodyPost_ret (results_tmp3P rfl _ _ _) rfl ?_;have hrr : runR p l s = (R1.1, R1.2.1) := by
          unfold runR;rw [H0.out.2.2.2.2.2.2.2.2.1, HS.out.2.1, HS.out.2.2.1, if_pos HE0.out.1]
        exact ⟨H5.out, .inl ⟨by rw [hrr]; exact HE0.out.1, by rw [hrr]; simp only [HE0.out.2.1, HE0.out.2.2]; rfl⟩⟩
    · obtain rfl : k = H := by omega
      have HO := Lib.hid hO;have HS := Lib.hid (And.intro hrows hRF);clear hO hrows hRF hcur;have t1 := (cOH (HO.out.heap 2 rfl) 1).trans rfl;have z2 := fOH (HO.out.heap 2 rfl) 1;go_upto_region 14 with fail
      go_quiet (fail);go_wp2_with fail
      refine bodyPost_ret (results_tmp3P rfl _ _ _) rfl ?_;have hHt := H0.out.2.2.2.2.2.2.2.2.2.1;have hrr : runR p l s = (l.calls.length, 0) := by
        unfold runR;rw [hHt, Int.toNat_natCast, HS.out.2, Nat.sub_self]; rfl
      have hk4 : ∀ n y, y ∈ rows → SttB (wr.drewN n).heap.size (wr.drewN n) y.A y.c y.B y.d y.s := fun n => (HO.out.get 4 rfl).2 [] _ ((Keep.refl _ _).drewN n) (by simp);refine ⟨bKD HO.out.bel _, .inr ⟨by rw [hrr], by rw [hrr], Ao, co, qo, rows, by rw [hHt, Int.toNat_natCast]; rfl, by rw [hHt]; exact HS.out.1, by rw [hHt]; exact (HO.out.owns 3 rfl).drewN _, hk4 _, fun x hx => HO.out.ge 3 rfl hx, Qr, fun D' => It.keep (HO.out.get 4 rfl) (S := []) ((Keep.refl _ _).drewN _) (by simp) (by simp), fun x hx => HO.out.ge 4 rfl hx⟩⟩
end Go.Proofs.Ythmldeningpjbaa
