import Derived.Test.YtalcinepeofmcaaPSp4
import Derived.Test.YtalcinepeofmcaaPSp9
import Derived.Test.YtalcinepeofmcaaPSp5
set_option linter.unusedVariables false
set_option linter.unusedSimpArgs false
set_option maxRecDepth 100000
set_option maxHeartbeats 40000000
namespace Go.Proofs.Ytalcinepeofmcaa
open Go Go.RowKit Sp Pt
abbrev plcV (x : Plc) : Value := .agg #[.int .i64 x.berth, .int .i64 x.start]
def plcOk (x : Plc) : Prop := 0 ≤ x.berth ∧ x.berth ≤ 1000000 ∧ 0 ≤ x.start ∧ x.start ≤ 1000000
theorem cmp1_any (x y : Plc) (w : World) (hx : plcOk x) (hy : plcOk y) :
    Calls Try.prog 66 #[plcV x, plcV y] w fun e w' => e = .returned (.int .i64 (cmp1 x y)) ∧ Below w.heap.size w w' := by
  obtain ⟨xb, xs⟩ := x;obtain ⟨yb, ys⟩ := y;obtain ⟨x1, x2, x3, x4⟩ := hx;obtain ⟨y1, y2, y3, y4⟩ := hy;simp only [plcV] at *;obtain ⟨W, hW⟩ : ∃ W, W = (w.alloc (.cells #[.int .i64 xb, .int .i64 xs] 95)).alloc (.cells #[.int .i64 yb, .int .i64 ys] 95) := ⟨_, rfl⟩;obtain ⟨b1, h1⟩ : ∃ b, b = w.heap.size := ⟨_, rfl⟩;obtain ⟨b2, h2⟩ : ∃ b, b = w.heap.size + 1 := ⟨_, rfl⟩;have g1 : W.heap[b1]? = some (.cells #[.int .i64 xb, .int .i64 xs] 95 (0, 0)) := by rw [hW, h1]; exact hA_ (heap_alloc_new _ _) _
  have g2 : W.heap[b2]? = some (.cells #[.int .i64 yb, .int .i64 ys] 95 (0, 0)) := by
    rw [hW, h2];have := heap_alloc_new (w.alloc (.cells #[.int .i64 xb, .int .i64 xs] 95)) (.cells #[.int .i64 yb, .int .i64 ys] 95)
    rwa [World.size_alloc] at this
  have b0 : Below w.heap.size w W := by rw [hW]; exact ((Below.refl _ _).alloc (Nat.le_refl _) _).alloc (by simp) _
  have c0 : W.cell? ⟨b1, 0, none⟩ = some (.int .i64 xb) := (cOH g1 0).trans rfl;have c1 : W.cell? ⟨b1, 1, none⟩ = some (.int .i64 xs) := (cOH g1 1).trans rfl;have c2 : W.cell? ⟨b2, 0, none⟩ = some (.int .i64 yb) := (cOH g2 0).trans rfl;have c3 : W.cell? ⟨b2, 1, none⟩ = some (.int .i64 ys) := (cOH g2 1).trans rfl;have z1 := hL_ g1;have z2 := hL_ g2;have H := Lib.hid b0;clear g1 g2 b0
  go_enter Try.func66, Try.ntmps66
  go_upto_region 1 with fail
  rw [← hW, ← h2, ← h1];clear hW h1 h2;by_cases e : xb = yb
  · have eb : (xb != yb) = false := by simp [e]
    have HE := Lib.hid e;clear e;go_wp2_with fail
    go_ret;exact ⟨by rw [show cmp1 ⟨xb, xs⟩ ⟨yb, ys⟩ = xs - ys from if_neg (by simpa using HE.out)]; rfl, H.out⟩
  · have eb : (xb != yb) = true := by simp [e]
    have HE := Lib.hid e;clear e;go_wp2_with fail
    go_ret;exact ⟨by rw [show cmp1 ⟨xb, xs⟩ ⟨yb, ys⟩ = xb - yb from if_pos (by simpa using HE.out)]; rfl, H.out⟩
theorem cmpPl_any (A : Option Addr) (ca : Nat) (L : List Plc) (B : Option Addr) (cb : Nat) (M : List Plc) (w : World) (hL : Rd w 2 A L.length (plcs L)) (hM : Rd w 2 B M.length (plcs M)) (oL : ∀ x ∈ L, plcOk x) (oM : ∀ x ∈ M, plcOk x)
    (hl : L.length ≤ 1000) (hm : M.length ≤ 1000) :
    Calls Try.prog 65 #[.slice A L.length ca, .slice B M.length cb, .func (.func 66) #[] #[]] w fun e w' => e = .returned (.int .i64 (cmpPl L M)) ∧ Below w.heap.size w w' := by
  have H := Lib.hid (And.intro hL (And.intro hM (And.intro oL oM)));clear hL hM oL oM;obtain ⟨n, hn⟩ : ∃ n, n = L.length := ⟨_, rfl⟩;obtain ⟨m, hme⟩ : ∃ m, m = M.length := ⟨_, rfl⟩;rw [← hn, ← hme];rw [← hn] at hl;rw [← hme] at hm;have HN := Lib.hid (And.intro hn hme);clear hn hme
  go_enter Try.func65, Try.ntmps65
  go_wp2_with fail
  go_loopg [13] (n) (fun g i wr => ∃ k : Nat, g + k = n ∧ i = .int .i64 k ∧ k ≤ m ∧ cmpPl L M = cmpPl (L.drop k) (M.drop k) ∧ Keep [] w wr)
  case atStart => exact ⟨0, rfl, rfl, Nat.zero_le _, rfl, Keep.refl _ _⟩
  case round =>
    obtain ⟨k, hk, rfl, hkm, hc, hK⟩ := hrel;by_cases hlt : k < n
    · have hkL : k < L.length := by rw [← HN.out.1]; exact hlt
      have hdL : L.drop k = L[k] :: L.drop (k + 1) := List.drop_eq_getElem_cons hkL;obtain ⟨b, off, rfl, hb, hcl⟩ := (hK.rd H.out.1 (by simp)).2 (by omega);obtain ⟨p0, p1⟩ := plcs_get hkL;obtain ⟨x, hx⟩ : ∃ x, x = L[k] := ⟨_, rfl⟩;have ox : plcOk x := H.out.2.2.1 x (by rw [hx]; exact List.getElem_mem _);rw [← hx] at p0 p1 hdL;have d0 := hcl _ _ p0;have d1 : wr.cell? ⟨b, off + k * 2 + 1, none⟩ = _ := hcl _ _ p1;by_cases hltm : k < m
      · have hkM : k < M.length := by rw [← HN.out.2]; exact hltm
        have hdM : M.drop k = M[k] :: M.drop (k + 1) := List.drop_eq_getElem_cons hkM;obtain ⟨b', off', rfl, hb', hcm⟩ := (hK.rd H.out.2.1 (by simp)).2 (by omega);obtain ⟨q0, q1⟩ := plcs_get hkM;obtain ⟨y, hy⟩ : ∃ y, y = M[k] := ⟨_, rfl⟩;have oy : plcOk y := H.out.2.2.2 y (by rw [hy]; exact List.getElem_mem _);rw [← hy] at q0 q1 hdM;have e0 := hcm _ _ q0;have e1 : wr.cell? ⟨b', off' + k * 2 + 1, none⟩ = _ := hcm _ _ q1;have kc := fun wx => cmp1_any x y wx ox oy;have hS : cmpPl L M = if cmp1 x y ≠ 0 then cmp1 x y else cmpPl (L.drop (k + 1)) (M.drop (k + 1)) := by rw [hc, hdL, hdM]; rfl
        obtain ⟨r, hr⟩ : ∃ r, r = cmp1 x y := ⟨_, rfl⟩;simp only [← hr] at kc hS;obtain ⟨xb, xs⟩ := x;obtain ⟨yb, ys⟩ := y;simp only at d0 d1 e0 e1;have HI := Lib.hid (And.intro hS (And.intro hK kc));clear hS hK kc hc hcl hcm p0 p1 q0 q1 ox oy hdL hdM hx hy hr;by_cases hr0 : r = 0
        · subst hr0;go_wp2_with (go_at_call 66; refine (HI.out.2.2 _).mono ?_; rintro e w2 ⟨rfl, b2⟩; have B2 := Lib.hid b2; clear b2)
          go_roundg (gk - 1);case measure => omega
          case rel => exact ⟨k + 1, by omega, by go_num, by omega, by rw [HI.out.1]; rfl, ((HI.out.2.1.alloc _).alloc _).trans (Keep.of_below (S := []) B2.out) (by simp)⟩
        · have hrb : (r != 0) = true := by simp [hr0]
          go_wp2_with (go_at_call 66; refine (HI.out.2.2 _).mono ?_; rintro e w2 ⟨rfl, b2⟩; have B2 := Lib.hid b2; clear b2)
          go_ret;exact ⟨by rw [HI.out.1, if_pos (by assumption)]; rfl, (((HI.out.2.1.alloc _).alloc _).trans (Keep.of_below (S := []) B2.out) (by simp)).below (Nat.le_refl _) (by simp)⟩
      · obtain rfl : k = m := by omega
        have hdM : M.drop k = [] := List.drop_eq_nil_of_le (by rw [← HN.out.2]; omega);have hS : cmpPl L M = 1 := by rw [hc, hdL, hdM]; rfl
        obtain ⟨xb, xs⟩ := x;simp only at d0 d1;have HI := Lib.hid (And.intro hS hK);clear hS hK hc hcl p0 p1 ox hdL hdM hx;go_wp2_with fail
        go_ret;exact ⟨by rw [HI.out.1]; rfl, (HI.out.2.alloc _).below (Nat.le_refl _) (by simp)⟩
    · obtain rfl : k = n := by omega
      have hdL : L.drop k = [] := List.drop_eq_nil_of_le (by rw [← HN.out.1]; omega);by_cases hltm : k < m
      · have hkM : k < M.length := by rw [← HN.out.2]; exact hltm
        have hdM : M.drop k = M[k] :: M.drop (k + 1) := List.drop_eq_getElem_cons hkM;have hS : cmpPl L M = -1 := by rw [hc, hdL, hdM]; rfl
        have HI := Lib.hid (And.intro hS hK);clear hS hK hc hdL hdM;go_wp2_with fail
        go_ret;exact ⟨by rw [HI.out.1]; rfl, HI.out.2.below (Nat.le_refl _) (by simp)⟩
      · have hdM : M.drop k = [] := List.drop_eq_nil_of_le (by rw [← HN.out.2]; omega);have hS : cmpPl L M = 0 := by rw [hc, hdL, hdM]; rfl
        have HI := Lib.hid (And.intro hS hK);clear hS hK hc hdL hdM;go_wp2_with fail
        go_ret;exact ⟨by rw [HI.out.1]; rfl, HI.out.2.below (Nat.le_refl _) (by simp)⟩
theorem asked_bad {p : Prt} {l : List Vst} (hc : checkP p = 0) (hl : l.length ≤ 5) {k : Nat} (hk : k < l.length) (h : vstOk l[k] = false) : askedE p l = 1 := by
  have : l.all vstOk = false := by
    cases q : l.all vstOk with
    | false => rfl
    | true => rw [List.all_eq_true.1 q _ (List.getElem_mem hk)] at h; cases h
  unfold askedE;rw [if_neg (by rw [hc]; decide), if_neg (by omega), if_pos this]
theorem asked_any (D : Nat) (Ac : Option Addr) (cc : Nat) (Ab : Option Addr) (cb : Nat) (p : Prt) (A : Option Addr) (c : Nat) (l : List Vst) (w : World) (PB : PrtB D w Ac cc Ab cb p) (hr : Rd w 4 A l.length (vscs l)) (hD : D ≤ w.heap.size) :
    Calls Try.prog 43 #[.agg (prtV Ac cc Ab cb p), .slice A l.length c] w fun e w' => e = .returned (.int .i64 (askedE p l)) ∧ Below w.heap.size w w' := by
  obtain ⟨W, hW⟩ : ∃ W, W = w.alloc (.cells (prtV Ac cc Ab cb p) 44) := ⟨_, rfl⟩;obtain ⟨pb, hpb⟩ : ∃ b, b = w.heap.size := ⟨_, rfl⟩;have hh : W.heap[pb]? = some (.cells (prtV Ac cc Ab cb p) 44 (0, 0)) := by rw [hW, hpb]; exact heap_alloc_new _ _
  have b0 : Below w.heap.size w W := by rw [hW]; exact (Below.refl _ _).alloc (Nat.le_refl _) _
  have c0 : W.cell? ⟨pb, 0, none⟩ = some (.slice Ac p.chs.length cc) := (cOH hh 0).trans rfl;have c1 : W.cell? ⟨pb, 1, none⟩ = some (.slice Ab p.bts.length cb) := (cOH hh 1).trans rfl;have c2 : W.cell? ⟨pb, 2, none⟩ = some (.int .i64 p.tugs) := (cOH hh 2).trans rfl;have zp := hL_ hh;obtain ⟨er, her⟩ : ∃ er, er = checkP p := ⟨_, rfl⟩;have kc := ptCheck_any D Ac cc Ab cb p W (PB.below (b0.mono hD)) (by have := b0.size; omega);rw [← her] at kc;have H := Lib.hid (And.intro b0 (And.intro her (And.intro kc hr)));clear hh b0 kc her hr PB
  go_enter Try.func43, Try.ntmps43
  go_upto_region 1 with fail
  rw [← hW, ← hpb];clear hW hpb;by_cases h0 : er = 0
  · subst h0;by_cases hl : l.length ≤ 5
    · go_upto_region 4 with (go_at_call 60; refine H.out.2.2.1.mono ?_; rintro e w1 ⟨rfl, b1⟩; have B1 := Lib.hid (And.intro (H.out.1.trans (b1.mono H.out.1.size)) (H.out.2.2.2.below (H.out.1.trans (b1.mono H.out.1.size)))); clear b1)
      clear c0 c1 c2 zp;go_wp2_with fail
      go_loopg [18] (l.length) (fun g i wr => ∃ k : Nat, g + k = l.length ∧ i = .int .i64 k ∧ (l.take k).all vstOk = true ∧ Keep [] w1 wr)
      case atStart => exact ⟨0, rfl, rfl, by simp, Keep.refl _ _⟩
      case round =>
        obtain ⟨k, hk, rfl, hok, hK⟩ := hrel;by_cases hlt : k < l.length
        · obtain ⟨b, off, rfl, hb, hcl⟩ := (hK.rd B1.out.2 (by simp)).2 (by omega);obtain ⟨p0, p1, p2, p3⟩ := vscs_get hlt;obtain ⟨x, hx⟩ : ∃ x, x = l[k] := ⟨_, rfl⟩;rw [← hx] at p0 p1 p2 p3;have d0 := hcl _ _ p0;have d1 : wr.cell? ⟨b, off + k * 4 + 1, none⟩ = _ := hcl _ _ p1;have d2 : wr.cell? ⟨b, off + k * 4 + 2, none⟩ = _ := hcl _ _ p2;have d3 : wr.cell? ⟨b, off + k * 4 + 3, none⟩ = _ := hcl _ _ p3;obtain ⟨ar, la, st, dr⟩ := x;simp only at d0 d1 d2 d3;have hvk : vstOk l[k] = (within ar 0 1000 && (within la ar 2000 && (within st 1 100 && within dr 10 3000))) := by rw [← hx]; rfl
          have hbad := fun h => asked_bad (p := p) H.out.2.1.symm hl hlt h;have HI := Lib.hid (And.intro hvk (And.intro hok (And.intro hK hbad)));clear hvk hok hK hcl p0 p1 p2 p3 hx hbad;cases w1' : within ar 0 1000
          · go_wp2_with (go_at_call 39; refine (pWa _ _ _ _).mono ?_; rintro e w' ⟨rfl, rfl⟩)
            go_ret;exact ⟨by rw [HI.out.2.2.2 (by rw [HI.out.1]; simp_all)]; rfl, B1.out.1.trans ((HI.out.2.2.1.alloc _).below B1.out.1.size (by simp))⟩
          · cases w2' : within la ar 2000
            · go_wp2_with (go_at_call 39; refine (pWa _ _ _ _).mono ?_; rintro e w' ⟨rfl, rfl⟩)
              go_ret;exact ⟨by rw [HI.out.2.2.2 (by rw [HI.out.1]; simp_all)]; rfl, B1.out.1.trans ((HI.out.2.2.1.alloc _).below B1.out.1.size (by simp))⟩
            · cases w3' : within st 1 100
              · go_wp2_with (go_at_call 39; refine (pWa _ _ _ _).mono ?_; rintro e w' ⟨rfl, rfl⟩)
                go_ret;exact ⟨by rw [HI.out.2.2.2 (by rw [HI.out.1]; simp_all)]; rfl, B1.out.1.trans ((HI.out.2.2.1.alloc _).below B1.out.1.size (by simp))⟩
              · cases w4' : within dr 10 3000
                · go_wp2_with (go_at_call 39; refine (pWa _ _ _ _).mono ?_; rintro e w' ⟨rfl, rfl⟩)
                  go_ret;exact ⟨by rw [HI.out.2.2.2 (by rw [HI.out.1]; simp_all)]; rfl, B1.out.1.trans ((HI.out.2.2.1.alloc _).below B1.out.1.size (by simp))⟩
                · go_wp2_with (go_at_call 39; refine (pWa _ _ _ _).mono ?_; rintro e w' ⟨rfl, rfl⟩)
                  go_roundg (gk - 1);case measure => omega
                  case rel => exact ⟨k + 1, by omega, by go_num, all_take_succ hlt HI.out.2.1 (by rw [HI.out.1]; simp_all), HI.out.2.2.1.alloc _⟩
        · obtain rfl : k = l.length := by omega
          rw [List.take_length] at hok;have HL := Lib.hid (And.intro hok hK);clear hok hK;go_wp2_with fail
          go_ret;exact ⟨by rw [show askedE p l = 0 by unfold askedE; rw [if_neg (by rw [← H.out.2.1]; decide), if_neg (by omega), if_neg (by rw [HL.out.1]; decide)]]; rfl, B1.out.1.trans (HL.out.2.below B1.out.1.size (by simp))⟩
    · have hlb : (5 : Int) < (l.length : Int) := by omega
      go_wp2_with (go_at_call 60; refine H.out.2.2.1.mono ?_; rintro e w1 ⟨rfl, b1⟩; have B1 := Lib.hid (H.out.1.trans (b1.mono H.out.1.size)); clear b1)
      go_ret;exact ⟨by rw [show askedE p l = 2 by unfold askedE; rw [if_neg (by rw [← H.out.2.1]; decide), if_pos (by omega)]]; rfl, B1.out⟩
  · have hrb : (er != 0) = true := by simp [h0]
    have HC := Lib.hid h0;clear h0;go_wp2_with (go_at_call 60; refine H.out.2.2.1.mono ?_; rintro e w1 ⟨rfl, b1⟩; have B1 := Lib.hid (H.out.1.trans (b1.mono H.out.1.size)); clear b1)
    go_ret;exact ⟨by rw [show askedE p l = er by unfold askedE; rw [← H.out.2.1, if_pos HC.out]]; rfl, B1.out⟩
end Go.Proofs.Ytalcinepeofmcaa
namespace Go.Proofs.Ytalcinepeofmcaa.Pt
open Sp
def seekB (p : Prt) (l : List Vst) (n : Nat) (waiting : Int) (free : List Int) (done : List Bool) (i : Nat) (s : Bst) (b : Nat) : Bst :=
  if (p.bts.getD b default).depth < (vs l i).dra ∨ (vs l i).last < max (vs l i).arr (free.getD b 0) then s
  else seekS p l n (waiting + max (vs l i).arr (free.getD b 0) - (vs l i).arr) (free.set b (max (vs l i).arr (free.getD b 0) + (vs l i).stay)) (done.set i true)
    ⟨s.least, s.found, s.places.set i ⟨b, max (vs l i).arr (free.getD b 0)⟩⟩
def seekI (p : Prt) (l : List Vst) (n : Nat) (waiting : Int) (free : List Int) (done : List Bool) (s : Bst) (i : Nat) : Bst :=
  if done.getD i false then s else (List.range p.bts.length).foldl (seekB p l n waiting free done i) s
theorem seekS_succ (p : Prt) (l : List Vst) (n : Nat) (waiting : Int) (free : List Int) (done : List Bool) (s : Bst) :
    seekS p l (n + 1) waiting free done s = if 0 ≤ s.least ∧ s.least < waiting then s else (List.range l.length).foldl (seekI p l n waiting free done) s := rfl
theorem range_foldl_succ {T : Type} (f : T → Nat → T) (s : T) (k : Nat) : (List.range (k + 1)).foldl f s = f ((List.range k).foldl f s) k := by
  rw [List.range_succ, List.foldl_append]; rfl
end Go.Proofs.Ytalcinepeofmcaa.Pt
namespace Go.Proofs.Ytalcinepeofmcaa
open Go Go.RowKit Sp Pt
structure BC where
  bl : Nat
  bv : Nat
  bp : Nat
  bf : Nat
  bd : Nat
  bq : Nat
  br : Nat
  bs : Nat
  gp : Nat
  gd : Nat
  gf : Nat
  D : Nat
  Ac : Option Addr
  Ab : Option Addr
  Av : Option Addr
  cc : Nat
  cb : Nat
  cv : Nat
  p : Prt
  l : List Vst
abbrev bestCaps (c : BC) : Array Value := #[.pointer (some ⟨c.bl, 0, none⟩), .pointer (some ⟨c.bv, 0, none⟩), .pointer (some ⟨c.bp, 0, none⟩), .pointer (some ⟨c.bf, 0, none⟩), .pointer (some ⟨c.bd, 0, none⟩), .pointer (some ⟨c.bq, 0, none⟩), .pointer (some ⟨c.br, 0, none⟩), .pointer (some ⟨c.bs, 0, none⟩)]
abbrev bset (c : BC) : List Nat := [c.bl, c.bf, c.gp, c.gd, c.gf]
structure BE (c : BC) (W : World) : Prop where
  hv : W.heap[c.bv]? = some (.cells #[.slice c.Av c.l.length c.cv] 91 (0, 0))
  hp : W.heap[c.bp]? = some (.cells #[.slice (some ⟨c.gp, 0, none⟩) c.l.length c.l.length] 86 (0, 0))
  hd : W.heap[c.bd]? = some (.cells #[.slice (some ⟨c.gd, 0, none⟩) c.l.length c.l.length] 55 (0, 0))
  hq : W.heap[c.bq]? = some (.cells (prtV c.Ac c.cc c.Ab c.cb c.p) 44 (0, 0))
  hr : W.heap[c.br]? = some (.cells #[.slice (some ⟨c.gf, 0, none⟩) c.p.bts.length c.p.bts.length] 56 (0, 0))
  hs : W.heap[c.bs]? = some (.cells #[.func (.func 64) #[] (bestCaps c)] 142 (0, 0))
  PB : PrtB c.D W c.Ac c.cc c.Ab c.cb c.p
  VB : RdB c.D W 4 c.Av c.l.length (vscs c.l)
  hD : c.D ≤ W.heap.size
structure BN (c : BC) : Prop where
  nd : c.bl ≠ c.bf ∧ c.bl ≠ c.gp ∧ c.bl ≠ c.gd ∧ c.bl ≠ c.gf ∧ c.bf ≠ c.gp ∧ c.bf ≠ c.gd ∧ c.bf ≠ c.gf ∧ c.gp ≠ c.gd ∧ c.gp ≠ c.gf ∧ c.gd ≠ c.gf
  nv : c.bv ∉ bset c
  np : c.bp ∉ bset c
  nd' : c.bd ∉ bset c
  nq : c.bq ∉ bset c
  nr : c.br ∉ bset c
  ns : c.bs ∉ bset c
  hD : ∀ x ∈ bset c, c.D ≤ x
  len : c.l.length ≤ 5
  vok : ∀ v ∈ c.l, 0 ≤ v.arr ∧ v.arr ≤ 1000 ∧ v.arr ≤ v.last ∧ v.last ≤ 2000 ∧ 1 ≤ v.stay ∧ v.stay ≤ 100 ∧ 10 ≤ v.dra ∧ v.dra ≤ 3000
  pv : PVal c.p
def RdN (S : List Nat) (w : World) (size : Nat) (A : Option Addr) (n cf : Nat) (xs : List Value) : Prop :=
  xs.length = n * size ∧ (0 < n → ∃ b off, A = some ⟨b, off, none⟩ ∧ b < w.heap.size ∧ b ∉ S ∧ ∀ j u, xs[j]? = some u → w.cell? ⟨b, off + j, none⟩ = some u) ∧ n ≤ cf ∧ cf ≤ 9223372036854775807
theorem RdN.rd {S : List Nat} {w : World} {size : Nat} {A : Option Addr} {n cf : Nat} {xs : List Value} (h : RdN S w size A n cf xs) : Rd w size A n xs :=
  ⟨h.1, fun h0 => by obtain ⟨b, off, e, hb, _, hc⟩ := h.2.1 h0; exact ⟨b, off, e, hb, hc⟩⟩
theorem RdN.keep {S : List Nat} {w w' : World} {size : Nat} {A : Option Addr} {n cf : Nat} {xs : List Value} (h : RdN S w size A n cf xs) (hk : Keep S w w') : RdN S w' size A n cf xs :=
  ⟨h.1, fun h0 => by obtain ⟨b, off, e, hb, hn, hc⟩ := h.2.1 h0; exact ⟨b, off, e, Nat.lt_of_lt_of_le hb hk.size, hn, fun j u hu => hk.cell (hc j u hu) hn⟩, h.2.2⟩
structure BS (c : BC) (W w : World) (free : List Int) (done : List Bool) (s : Bst) : Prop where
  kp : Keep (bset c) W w
  le : w.heap[c.bl]? = some (.cells #[.int .i64 s.least] 3 (0, 0))
  pl : w.heap[c.gp]? = some (.cells (plcs s.places).toArray 95 (0, 0))
  dn : w.heap[c.gd]? = some (.cells (bools done).toArray 4 (0, 0))
  fr : w.heap[c.gf]? = some (.cells (ints free).toArray 3 (0, 0))
  fo : ∃ A cf, w.heap[c.bf]? = some (.cells #[.slice A s.found.length cf] 86 (0, 0)) ∧ RdN (bset c) w 2 A s.found.length cf (plcs s.found)
  lp : s.places.length = c.l.length
  ld : done.length = c.l.length
  lf : free.length = c.p.bts.length
  lo : s.found.length ≤ 5
  fb : ∀ x ∈ free, 0 ≤ x ∧ x ≤ 2100
  pb : ∀ x ∈ s.places, plcOk x
  ob : ∀ x ∈ s.found, plcOk x
  leb : -1 ≤ s.least ∧ s.least ≤ 1000000
section
variable {c : BC} {W w w' : World} {free : List Int} {done : List Bool} {s : Bst}
theorem BE.keep (h : BE c W) (n : BN c) (hk : Keep (bset c) W w) : BE c w := by
  have hd : Below c.D W w := hk.below h.hD n.hD;exact ⟨(hk.block _ (hL_ h.hv) n.nv).trans h.hv, (hk.block _ (hL_ h.hp) n.np).trans h.hp, (hk.block _ (hL_ h.hd) n.nd').trans h.hd, (hk.block _ (hL_ h.hq) n.nq).trans h.hq, (hk.block _ (hL_ h.hr) n.nr).trans h.hr, (hk.block _ (hL_ h.hs) n.ns).trans h.hs, h.PB.below hd, h.VB.below hd, Nat.le_trans h.hD hk.size⟩
theorem BE.cells (h : BE c W) : W.cell? ⟨c.bv, 0, none⟩ = some (.slice c.Av c.l.length c.cv) ∧ W.cell? ⟨c.bp, 0, none⟩ = some (.slice (some ⟨c.gp, 0, none⟩) c.l.length c.l.length) ∧ W.cell? ⟨c.bd, 0, none⟩ = some (.slice (some ⟨c.gd, 0, none⟩) c.l.length c.l.length) ∧
    W.cell? ⟨c.bq, 0, none⟩ = some (.slice c.Ac c.p.chs.length c.cc) ∧ W.cell? ⟨c.bq, 1, none⟩ = some (.slice c.Ab c.p.bts.length c.cb) ∧ W.cell? ⟨c.br, 0, none⟩ = some (.slice (some ⟨c.gf, 0, none⟩) c.p.bts.length c.p.bts.length) ∧ W.cell? ⟨c.bs, 0, none⟩ = some (.func (.func 64) #[] (bestCaps c)) :=
  ⟨(cOH h.hv 0).trans rfl, (cOH h.hp 0).trans rfl, (cOH h.hd 0).trans rfl, (cOH h.hq 0).trans rfl, (cOH h.hq 1).trans rfl, (cOH h.hr 0).trans rfl, (cOH h.hs 0).trans rfl⟩
theorem BE.lts (h : BE c W) : c.bv < W.heap.size ∧ c.bp < W.heap.size ∧ c.bd < W.heap.size ∧ c.bq < W.heap.size ∧ c.br < W.heap.size ∧ c.bs < W.heap.size :=
  ⟨hL_ h.hv, hL_ h.hp, hL_ h.hd, hL_ h.hq, hL_ h.hr, hL_ h.hs⟩
theorem BS.lts (h : BS c W w free done s) : c.bl < w.heap.size ∧ c.bf < w.heap.size ∧ c.gp < w.heap.size ∧ c.gd < w.heap.size ∧ c.gf < w.heap.size := by
  obtain ⟨A, cf, h1, _⟩ := h.fo;exact ⟨hL_ h.le, hL_ h1, hL_ h.pl, hL_ h.dn, hL_ h.fr⟩
theorem BS.notin (h : BS c W w free done s) {x : Nat} (hx : w.heap.size ≤ x) : x ∉ bset c := by
  obtain ⟨a, b, d, e, f⟩ := h.lts;simp;omega
theorem BS.start (h : BS c W w free done s) : BS c w w free done s := ⟨Keep.refl _ _, h.le, h.pl, h.dn, h.fr, h.fo, h.lp, h.ld, h.lf, h.lo, h.fb, h.pb, h.ob, h.leb⟩
theorem BS.after {free' : List Int} {done' : List Bool} {s' : Bst} (h : BS c W w free done s) (h' : BS c w w' free' done' s') : BS c W w' free' done' s' :=
  ⟨h.kp.trans h'.kp (fun x hx => .inl hx), h'.le, h'.pl, h'.dn, h'.fr, h'.fo, h'.lp, h'.ld, h'.lf, h'.lo, h'.fb, h'.pb, h'.ob, h'.leb⟩
theorem BS.keep0 (h : BS c W w free done s) (hk : Keep [] w w') : BS c W w' free done s := by
  obtain ⟨A, cf, h1, h2⟩ := h.fo;have B : ∀ {x : Nat} {o : Obj}, w.heap[x]? = some o → w'.heap[x]? = some o := fun hx => (hk.block _ (hL_ hx) (by simp)).trans hx;exact ⟨h.kp.trans hk (by simp), B h.le, B h.pl, B h.dn, B h.fr, ⟨A, cf, B h1, h2.keep (hk.mono (by simp))⟩, h.lp, h.ld, h.lf, h.lo, h.fb, h.pb, h.ob, h.leb⟩
theorem BS.alloc (h : BS c W w free done s) (o : Obj) : BS c W (w.alloc o) free done s := h.keep0 ((Keep.refl _ _).alloc o)
end
theorem plcs_set (x : Plc) : ∀ (P : List Plc) (i : Nat), i < P.length → ((plcs P).set (i * 2) (.int .i64 x.berth)).set (i * 2 + 1) (.int .i64 x.start) = plcs (P.set i x)
  | [], i, h => absurd h (by simp)
  | y :: P, 0, _ => by simp [plcs, plc]
  | y :: P, i + 1, h => by
    have := plcs_set x P i (by simpa using h);have e : (i + 1) * 2 = i * 2 + 1 + 1 := by omega
    simp only [plcs, List.flatMap_cons, plc, List.cons_append, List.nil_append, List.set_cons_succ, e] at this ⊢;rw [this]
theorem bools_setA (d : List Bool) (i : Nat) (x : Bool) : (bools d).toArray.setIfInBounds i (.bool x) = (bools (d.set i x)).toArray := by simp [bools, List.map_set]
theorem ints_setA (d : List Int) (i : Nat) (x : Int) : (ints d).toArray.setIfInBounds i (.int .i64 x) = (ints (d.set i x)).toArray := by simp [ints, List.map_set]
theorem plcs_setA (P : List Plc) (i : Nat) (x : Plc) (h : i < P.length) : ((plcs P).toArray.setIfInBounds (i * 2) (.int .i64 x.berth)).setIfInBounds (i * 2 + 1) (.int .i64 x.start) = (plcs (P.set i x)).toArray := by
  rw [List.setIfInBounds_toArray, List.setIfInBounds_toArray, plcs_set x P i h]
end Go.Proofs.Ytalcinepeofmcaa
