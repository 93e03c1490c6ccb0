import Derived.Test.YthmldeningpjbaaPLp4
import Derived.Test.YthmldeningpjbaaPLp2
import Derived.Test.YthmldeningpjbaaPLp0
set_option linter.unusedVariables false
set_option linter.unusedSimpArgs false
set_option maxRecDepth 100000
set_option maxHeartbeats 40000000
namespace Go.Proofs.Ythmldeningpjbaa
open Go Go.RowKit Sp Pt
abbrev plcV (x : Plc) : Value := .agg #[.int .i64 x.berth, .int .i64 x.start]
def plcOk (x : Plc) : Prop := 0 ≤ x.berth ∧ x.berth ≤ 1000000 ∧ 0 ≤ x.start ∧ x.start ≤ 1000000
theorem cmp1_any (x y : Plc) (w : World) (hx : plcOk x) (hy : plcOk y) :
    Calls Try.prog 131 #[plcV x, plcV y] w fun e w' => e = .returned (.int .i64 (cmp1 x y)) ∧ Below w.heap.size w w' := by
  obtain ⟨xb, xs⟩ := x;obtain ⟨yb, ys⟩ := y;obtain ⟨x1, x2, x3, x4⟩ := hx;obtain ⟨y1, y2, y3, y4⟩ := hy;simp only [plcV] at *;obtain ⟨W, hW⟩ : ∃ W, W = (w.alloc (.cells #[.int .i64 xb, .int .i64 xs] 109)).alloc (.cells #[.int .i64 yb, .int .i64 ys] 109) := ⟨_, rfl⟩;obtain ⟨b1, h1⟩ : ∃ b, b = w.heap.size := ⟨_, rfl⟩;obtain ⟨b2, h2⟩ : ∃ b, b = w.heap.size + 1 := ⟨_, rfl⟩;have g1 : W.heap[b1]? = some (.cells #[.int .i64 xb, .int .i64 xs] 109 (0, 0)) := by rw [hW, h1]; exact hA_ (heap_alloc_new _ _) _
  have g2 : W.heap[b2]? = some (.cells #[.int .i64 yb, .int .i64 ys] 109 (0, 0)) := by
    rw [hW, h2];have := heap_alloc_new (w.alloc (.cells #[.int .i64 xb, .int .i64 xs] 109)) (.cells #[.int .i64 yb, .int .i64 ys] 109)
    rwa [World.size_alloc] at this
  have b0 : Below w.heap.size w W := by rw [hW]; exact ((Below.refl _ _).alloc (Nat.le_refl _) _).alloc (by simp) _
  have c0 : W.cell? ⟨b1, 0, none⟩ = some (.int .i64 xb) := (cOH g1 0).trans rfl;have c1 : W.cell? ⟨b1, 1, none⟩ = some (.int .i64 xs) := (cOH g1 1).trans rfl;have c2 : W.cell? ⟨b2, 0, none⟩ = some (.int .i64 yb) := (cOH g2 0).trans rfl;have c3 : W.cell? ⟨b2, 1, none⟩ = some (.int .i64 ys) := (cOH g2 1).trans rfl;have z1 := hL_ g1;have z2 := hL_ g2;have H := Lib.hid b0;clear g1 g2 b0
  go_enter Try.func131, Try.ntmps131
  go_upto_region 1 with fail
  rw [← hW, ← h2, ← h1];clear hW h1 h2;by_cases e : xb = yb
  · have eb : (xb != yb) = false := by simp [e]
    have HE := Lib.hid e;clear e;go_wp2_with fail
    go_ret;exact ⟨by rw [show cmp1 ⟨xb, xs⟩ ⟨yb, ys⟩ = xs - ys from if_neg (by simpa using HE.out)]; rfl, H.out⟩
  · have eb : (xb != yb) = true := by simp [e]
    have HE := Lib.hid e;clear e;go_wp2_with fail
    go_ret;exact ⟨by rw [show cmp1 ⟨xb, xs⟩ ⟨yb, ys⟩ = xb - yb from if_pos (by simpa using HE.out)]; rfl, H.out⟩
theorem cmpPl_any (A : Option Addr) (ca : Nat) (L : List Plc) (B : Option Addr) (cb : Nat) (M : List Plc) (w : World) (hL : Rd w 2 A L.length (plcs L)) (hM : Rd w 2 B M.length (plcs M)) (oL : ∀ x ∈ L, plcOk x) (oM : ∀ x ∈ M, plcOk x)
    (hl : L.length ≤ 1000) (hm : M.length ≤ 1000) :
    Calls Try.prog 130 #[.slice A L.length ca, .slice B M.length cb, .func (.func 131) #[] #[]] w fun e w' => e = .returned (.int .i64 (cmpPl L M)) ∧ Below w.heap.size w w' := by
  have H := Lib.hid (And.intro hL (And.intro hM (And.intro oL oM)));clear hL hM oL oM;obtain ⟨n, hn⟩ : ∃ n, n = L.length := ⟨_, rfl⟩;obtain ⟨m, hme⟩ : ∃ m, m = M.length := ⟨_, rfl⟩;rw [← hn, ← hme];rw [← hn] at hl;rw [← hme] at hm;have HN := Lib.hid (And.intro hn hme);clear hn hme
  go_enter Try.func130, Try.ntmps130
  go_wp2_with fail
  go_loopg [13] (n) (fun g i wr => ∃ k : Nat, g + k = n ∧ i = .int .i64 k ∧ k ≤ m ∧ cmpPl L M = cmpPl (L.drop k) (M.drop k) ∧ Keep [] w wr)
  case atStart => exact ⟨0, rfl, rfl, Nat.zero_le _, rfl, Keep.refl _ _⟩
  case round =>
    obtain ⟨k, hk, rfl, hkm, hc, hK⟩ := hrel;by_cases hlt : k < n
    · have hkL : k < L.length := by rw [← HN.out.1]; exact hlt
      have hdL : L.drop k = L[k] :: L.drop (k + 1) := List.drop_eq_getElem_cons hkL;obtain ⟨b, off, rfl, hb, hcl⟩ := (hK.rd H.out.1 (by simp)).2 (by omega);obtain ⟨p0, p1⟩ := plcs_get hkL;obtain ⟨x, hx⟩ : ∃ x, x = L[k] := ⟨_, rfl⟩;have ox : plcOk x := H.out.2.2.1 x (by rw [hx]; exact List.getElem_mem _);rw [← hx] at p0 p1 hdL;have d0 := hcl _ _ p0;have d1 : wr.cell? ⟨b, off + k * 2 + 1, none⟩ = _ := hcl _ _ p1;by_cases hltm : k < m
      · have hkM : k < M.length := by rw [← HN.out.2]; exact hltm
        have hdM : M.drop k = M[k] :: M.drop (k + 1) := List.drop_eq_getElem_cons hkM;obtain ⟨b', off', rfl, hb', hcm⟩ := (hK.rd H.out.2.1 (by simp)).2 (by omega);obtain ⟨q0, q1⟩ := plcs_get hkM;obtain ⟨y, hy⟩ : ∃ y, y = M[k] := ⟨_, rfl⟩;have oy : plcOk y := H.out.2.2.2 y (by rw [hy]; exact List.getElem_mem _);rw [← hy] at q0 q1 hdM;have e0 := hcm _ _ q0;have e1 : wr.cell? ⟨b', off' + k * 2 + 1, none⟩ = _ := hcm _ _ q1;have kc := fun wx => cmp1_any x y wx ox oy;have hS : cmpPl L M = if cmp1 x y ≠ 0 then cmp1 x y else cmpPl (L.drop (k + 1)) (M.drop (k + 1)) := by rw [hc, hdL, hdM]; rfl
        obtain ⟨r, hr⟩ : ∃ r, r = cmp1 x y := ⟨_, rfl⟩;simp only [← hr] at kc hS;obtain ⟨xb, xs⟩ := x;obtain ⟨yb, ys⟩ := y;simp only at d0 d1 e0 e1;have HI := Lib.hid (And.intro hS (And.intro hK kc));clear hS hK kc hc hcl hcm p0 p1 q0 q1 ox oy hdL hdM hx hy hr;by_cases hr0 : r = 0
        · subst hr0;go_wp2_with (go_at_call 131; refine (HI.out.2.2 _).mono ?_; rintro e w2 ⟨rfl, b2⟩; have B2 := Lib.hid b2; clear b2)
          go_roundg (gk - 1);case measure => omega
          case rel => exact ⟨k + 1, by omega, by go_num, by omega, by rw [HI.out.1]; rfl, ((HI.out.2.1.alloc _).alloc _).trans (Keep.of_below (S := []) B2.out) (by simp)⟩
        · have hrb : (r != 0) = true := by simp [hr0]
          go_wp2_with (go_at_call 131; refine (HI.out.2.2 _).mono ?_; rintro e w2 ⟨rfl, b2⟩; have B2 := Lib.hid b2; clear b2)
          go_ret;exact ⟨by rw [HI.out.1, if_pos (by assumption)]; rfl, (((HI.out.2.1.alloc _).alloc _).trans (Keep.of_below (S := []) B2.out) (by simp)).below (Nat.le_refl _) (by simp)⟩
      · obtain rfl : k = m := by omega
        have hdM : M.drop k = [] := List.drop_eq_nil_of_le (by rw [← HN.out.2]; omega);have hS : cmpPl L M = 1 := by rw [hc, hdL, hdM]; rfl
        obtain ⟨xb, xs⟩ := x;simp only at d0 d1;have HI := Lib.hid (And.intro hS hK);clear hS hK hc hcl p0 p1 ox hdL hdM hx;go_wp2_with fail
        go_ret;exact ⟨by rw [HI.out.1]; rfl, (HI.out.2.alloc _).below (Nat.le_refl _) (by simp)⟩
    · obtain rfl : k = n := by omega
      have hdL : L.drop k = [] := List.drop_eq_nil_of_le (by rw [← HN.out.1]; omega);by_cases hltm : k < m
      · have hkM : k < M.length := by rw [← HN.out.2]; exact hltm
        have hdM : M.drop k = M[k] :: M.drop (k + 1) := List.drop_eq_getElem_cons hkM;have hS : cmpPl L M = -1 := by rw [hc, hdL, hdM]; rfl
        have HI := Lib.hid (And.intro hS hK);clear hS hK hc hdL hdM;go_wp2_with fail
        go_ret;exact ⟨by rw [HI.out.1]; rfl, HI.out.2.below (Nat.le_refl _) (by simp)⟩
      · have hdM : M.drop k = [] := List.drop_eq_nil_of_le (by rw [← HN.out.2]; omega);have hS : cmpPl L M = 0 := by rw [hc, hdL, hdM]; rfl
        have HI := Lib.hid (And.intro hS hK);clear hS hK hc hdL hdM;go_wp2_with fail
        go_ret;exact ⟨by rw [HI.out.1]; rfl, HI.out.2.below (Nat.le_refl _) (by simp)⟩
theorem asked_bad {p : Prt} {l : List Vst} (hc : checkP p = 0) (hl : l.length ≤ 5) {k : Nat} (hk : k < l.length) (h : vstOk l[k] = false) : askedE p l = 1 := by
  have : l.all vstOk = false := by
    cases q : l.all vstOk with
    | false => rfl
    | true => rw [List.all_eq_true.1 q _ (List.getElem_mem hk)] at h; cases h
  unfold askedE;rw [if_neg (by rw [hc]; decide), if_neg (by omega), if_pos this]
theorem asked_any (D : Nat) (Ac : Option Addr) (cc : Nat) (Ab : Option Addr) (cb : Nat) (p : Prt) (A : Option Addr) (c : Nat) (l : List Vst) (w : World) (PB : PrtB D w Ac cc Ab cb p) (hr : Rd w 4 A l.length (vscs l)) (hD : D ≤ w.heap.size) :
    Calls Try.prog 104 #[.agg (prtV Ac cc Ab cb p), .slice A l.length c] w fun e w' => e = .returned (.int .i64 (askedE p l)) ∧ Below w.heap.size w w' := by
  obtain ⟨W, hW⟩ : ∃ W, W = w.alloc (.cells (prtV Ac cc Ab cb p) 26) := ⟨_, rfl⟩;obtain ⟨pb, hpb⟩ : ∃ b, b = w.heap.size := ⟨_, rfl⟩;have hh : W.heap[pb]? = some (.cells (prtV Ac cc Ab cb p) 26 (0, 0)) := by rw [hW, hpb]; exact heap_alloc_new _ _
  have b0 : Below w.heap.size w W := by rw [hW]; exact (Below.refl _ _).alloc (Nat.le_refl _) _
  have c0 : W.cell? ⟨pb, 0, none⟩ = some (.slice Ac p.chs.length cc) := (cOH hh 0).trans rfl;have c1 : W.cell? ⟨pb, 1, none⟩ = some (.slice Ab p.bts.length cb) := (cOH hh 1).trans rfl;have c2 : W.cell? ⟨pb, 2, none⟩ = some (.int .i64 p.tugs) := (cOH hh 2).trans rfl;have zp := hL_ hh;obtain ⟨er, her⟩ : ∃ er, er = checkP p := ⟨_, rfl⟩;have kc := ptCheck_any D Ac cc Ab cb p W (PB.below (b0.mono hD)) (by have := b0.size; omega);rw [← her] at kc;have H := Lib.hid (And.intro b0 (And.intro her (And.intro kc hr)));clear hh b0 kc her hr PB
  go_enter Try.func104, Try.ntmps104
  go_upto_region 1 with fail
  rw [← hW, ← hpb];clear hW hpb;by_cases h0 : er = 0
  · subst h0;by_cases hl : l.length ≤ 5
    · go_upto_region 4 with (go_at_call 50; refine H.out.2.2.1.mono ?_; rintro e w1 ⟨rfl, b1⟩; have B1 := Lib.hid (And.intro (H.out.1.trans (b1.mono H.out.1.size)) (H.out.2.2.2.below (H.out.1.trans (b1.mono H.out.1.size)))); clear b1)
      clear c0 c1 c2 zp;go_wp2_with fail
      go_loopg [18] (l.length) (fun g i wr => ∃ k : Nat, g + k = l.length ∧ i = .int .i64 k ∧ (l.take k).all vstOk = true ∧ Keep [] w1 wr)
      case atStart => exact ⟨0, rfl, rfl, by simp, Keep.refl _ _⟩
      case round =>
        obtain ⟨k, hk, rfl, hok, hK⟩ := hrel;by_cases hlt : k < l.length
        · obtain ⟨b, off, rfl, hb, hcl⟩ := (hK.rd B1.out.2 (by simp)).2 (by omega);obtain ⟨p0, p1, p2, p3⟩ := vscs_get hlt;obtain ⟨x, hx⟩ : ∃ x, x = l[k] := ⟨_, rfl⟩;rw [← hx] at p0 p1 p2 p3;have d0 := hcl _ _ p0;have d1 : wr.cell? ⟨b, off + k * 4 + 1, none⟩ = _ := hcl _ _ p1;have d2 : wr.cell? ⟨b, off + k * 4 + 2, none⟩ = _ := hcl _ _ p2;have d3 : wr.cell? ⟨b, off + k * 4 + 3, none⟩ = _ := hcl _ _ p3;obtain ⟨ar, la, st, dr⟩ := x;simp only at d0 d1 d2 d3;have hvk : vstOk l[k] = (within ar 0 1000 && (within la ar 2000 && (within st 1 100 && within dr 10 3000))) := by rw [← hx]; rfl
          have hbad := fun h => asked_bad (p := p) H.out.2.1.symm hl hlt h;have HI := Lib.hid (And.intro hvk (And.intro hok (And.intro hK hbad)));clear hvk hok hK hcl p0 p1 p2 p3 hx hbad;cases w1' : within ar 0 1000
          · go_wp2_with (go_at_call 80; refine (pWa _ _ _ _).mono ?_; rintro e w' ⟨rfl, rfl⟩)
            go_ret;exact ⟨by rw [HI.out.2.2.2 (by rw [HI.out.1]; simp_all)]; rfl, B1.out.1.trans ((HI.out.2.2.1.alloc _).below B1.out.1.size (by simp))⟩
          · cases w2' : within la ar 2000
            · go_wp2_with (go_at_call 80; refine (pWa _ _ _ _).mono ?_; rintro e w' ⟨rfl, rfl⟩)
              go_ret;exact ⟨by rw [HI.out.2.2.2 (by rw [HI.out.1]; simp_all)]; rfl, B1.out.1.trans ((HI.out.2.2.1.alloc _).below B1.out.1.size (by simp))⟩
            · cases w3' : within st 1 100
              · go_wp2_with (go_at_call 80; refine (pWa _ _ _ _).mono ?_; rintro e w' ⟨rfl, rfl⟩)
                go_ret;exact ⟨by rw [HI.out.2.2.2 (by rw [HI.out.1]; simp_all)]; rfl, B1.out.1.trans ((HI.out.2.2.1.alloc _).below B1.out.1.size (by simp))⟩
              · cases w4' : within dr 10 3000
                · go_wp2_with (go_at_call 80; refine (pWa _ _ _ _).mono ?_; rintro e w' ⟨rfl, rfl⟩)
                  go_ret;exact ⟨by rw [HI.out.2.2.2 (by rw [HI.out.1]; simp_all)]; rfl, B1.out.1.trans ((HI.out.2.2.1.alloc _).below B1.out.1.size (by simp))⟩
                · go_wp2_with (go_at_call 80; refine (pWa _ _ _ _).mono ?_; rintro e w' ⟨rfl, rfl⟩)
                  go_roundg (gk - 1);case measure => omega
                  case rel => exact ⟨k + 1, by omega, by go_num, all_take_succ hlt HI.out.2.1 (by rw [HI.out.1]; simp_all), HI.out.2.2.1.alloc _⟩
        · obtain rfl : k = l.length := by omega
          rw [List.take_length] at hok;have HL := Lib.hid (And.intro hok hK);clear hok hK;go_wp2_with fail
          go_ret;exact ⟨by rw [show askedE p l = 0 by unfold askedE; rw [if_neg (by rw [← H.out.2.1]; decide), if_neg (by omega), if_neg (by rw [HL.out.1]; decide)]]; rfl, B1.out.1.trans (HL.out.2.below B1.out.1.size (by simp))⟩
    · have hlb : (5 : Int) < (l.length : Int) := by omega
      go_wp2_with (go_at_call 50; refine H.out.2.2.1.mono ?_; rintro e w1 ⟨rfl, b1⟩; have B1 := Lib.hid (H.out.1.trans (b1.mono H.out.1.size)); clear b1)
      go_ret;exact ⟨by rw [show askedE p l = 2 by unfold askedE; rw [if_neg (by rw [← H.out.2.1]; decide), if_pos (by omega)]]; rfl, B1.out⟩
  · have hrb : (er != 0) = true := by simp [h0]
    have HC := Lib.hid h0;clear h0;go_wp2_with (go_at_call 50; refine H.out.2.2.1.mono ?_; rintro e w1 ⟨rfl, b1⟩; have B1 := Lib.hid (H.out.1.trans (b1.mono H.out.1.size)); clear b1)
    go_ret;exact ⟨by rw [show askedE p l = er by unfold askedE; rw [← H.out.2.1, if_pos HC.out]]; rfl, B1.out⟩
end Go.Proofs.Ythmldeningpjbaa
namespace Go.Proofs.Ythmldeningpjbaa
open Go Go.RowKit
def OwnS (w : World) (e : TypeId) (size : Nat) (A : Option Addr) (n c : Nat) (xs : List Value) (fp : List Nat) : Prop :=
  xs.length = n * size ∧ ((A = none ∧ n = 0 ∧ c = 0 ∧ fp = []) ∨
    ∃ (g : Nat) (cur : Array Value), A = some ⟨g, 0, none⟩ ∧ fp = [g] ∧ w.heap[g]? = some (.cells cur e (0, 0)) ∧ n ≤ c ∧ c ≤ 9223372036854775807 ∧ c * size = cur.size ∧ ∀ (j : Nat) (u : Value), xs[j]? = some u → cur[j]? = some u)
section
variable {w w' : World} {e : TypeId} {size : Nat} {A : Option Addr} {n c : Nat} {xs ys : List Value} {fp : List Nat} {P : Program}
theorem OwnS.nil (w : World) (e : TypeId) (size : Nat) : OwnS w e size none 0 0 [] [] := ⟨by simp, .inl ⟨rfl, rfl, rfl, rfl⟩⟩
theorem OwnS.lt (h : OwnS w e size A n c xs fp) : ∀ g ∈ fp, g < w.heap.size := by
  intro g hg;rcases h.2 with ⟨_, _, _, rfl⟩ | ⟨g', cur, rfl, rfl, hh, _⟩
  · simp at hg
  · obtain rfl : g = g' := by simpa using hg
    exact hL_ hh
theorem OwnS.ge (h : OwnS w e size A n c xs fp) : n ≤ c := by
  rcases h.2 with ⟨_, rfl, rfl, _⟩ | ⟨g', cur, rfl, rfl, hh, h1, _⟩ <;> omega
theorem OwnS.cap (h : OwnS w e size A n c xs fp) : c ≤ 9223372036854775807 := by
  rcases h.2 with ⟨_, _, rfl, _⟩ | ⟨g, cur, _, _, _, _, h, _⟩
  · omega
  · exact h
theorem OwnS.keepS {S : List Nat} (h : OwnS w e size A n c xs fp) (hk : Keep S w w') (hd : ∀ g ∈ fp, g ∉ S) : OwnS w' e size A n c xs fp := by
  refine ⟨h.1, ?_⟩;rcases h.2 with h0 | ⟨g, cur, rfl, rfl, hh, r⟩
  · exact .inl h0
  · exact .inr ⟨g, cur, rfl, rfl, (hk.block g (hL_ hh) (hd g (by simp))).trans hh, r⟩
theorem OwnS.alloc (h : OwnS w e size A n c xs fp) (o : Obj) : OwnS (w.alloc o) e size A n c xs fp := h.keepS ((Keep.refl [] w).alloc o) (by simp)
theorem OwnS.drewN (h : OwnS w e size A n c xs fp) (k : Nat) : OwnS (w.drewN k) e size A n c xs fp := h
theorem OwnS.setCell {p : Addr} (h : OwnS w e size A n c xs fp) (hp : p.block ∉ fp) (u : Value) : OwnS (w.setCell p u) e size A n c xs fp :=
  h.keepS ((Keep.refl [p.block] w).setCell (.inl (by simp)) u) (by simp; rintro g hg rfl; exact hp hg)
theorem OwnS.some_ (h : OwnS w e size A n c xs fp) (hn : 0 < n) : ∃ g, A = some ⟨g, 0, none⟩ ∧ fp = [g] ∧ g < w.heap.size ∧ (∀ j u, xs[j]? = some u → w.cell? ⟨g, j, none⟩ = some u) ∧ (∀ j, w.frozen? ⟨g, j, none⟩ = false) := by
  rcases h.2 with ⟨_, h0, _⟩ | ⟨g, cur, rfl, rfl, hh, h1, h2, h3, h4⟩
  · omega
  · exact ⟨g, rfl, rfl, hL_ hh, fun j u hu => (cOH hh _).trans (h4 j u hu), fun j => fOH hh j⟩
theorem OwnS.rd (h : OwnS w e size A n c xs fp) : Rd w size A n xs := by
  refine ⟨h.1, fun hn => ?_⟩;obtain ⟨g, e, _, hl, hc, _⟩ := h.some_ hn;exact ⟨g, 0, e, hl, fun j u hu => by rw [Nat.zero_add]; exact hc j u hu⟩
theorem OwnS.set_ {g : Nat} (h : OwnS w e size (some ⟨g, 0, none⟩) n c xs fp) (k : Nat) (u : Value) : OwnS (w.setCell ⟨g, k, none⟩ u) e size (some ⟨g, 0, none⟩) n c (xs.set k u) fp := by
  refine ⟨by rw [List.length_set, h.1], .inr ?_⟩;rcases h.2 with ⟨h0, _⟩ | ⟨g', cur, he, rfl, hh, h1, h2, h3, h4⟩
  · cases h0
  · injection he with he
    injection he with e1 _ _
    subst e1;refine ⟨g, cur.setIfInBounds k u, rfl, rfl, hS_ hh _ _, h1, h2, by simpa using h3, fun j v hv => ?_⟩;rw [List.getElem?_set] at hv;by_cases hjk : k = j
    · subst hjk;rw [if_pos rfl] at hv;split at hv
      · rename_i hk
        injection hv with e1
        subst e1;have := (List.getElem?_eq_some_iff.1 (List.getElem?_eq_getElem hk)).1;have hc := h4 k _ (List.getElem?_eq_getElem hk);have hcl := (Array.getElem?_eq_some_iff.1 hc).1;rw [Array.getElem?_setIfInBounds_self_of_lt hcl]
      · cases hv
    · rw [if_neg hjk] at hv;rw [Array.getElem?_setIfInBounds_ne (by omega)];exact h4 j v hv
theorem run_append_S (t ty : TypeId) (i : TypeInfo) (z : Value) (bytes : Nat) (ht : P.underlying t = some (.slice e)) (hi : P.info? e = some i) (hz : i.zero = some z)
    (hsize : i.size = size) (hs0 : 0 < size) (hby : i.bytes = bytes) (hzs : z.cells.size = size) (hown : OwnS w e size A n c xs fp) (ad : Addr) (hys : ys.length = size) (hu : ∀ j v, ys[j]? = some v → w.cell? (ad.add j) = some v) (h1 : ∀ u ∈ ys, u.oneCell' = true)
    (hn : n + 1 ≤ 1000000000000) (hbytes : bytes ≤ 100) :
    ∃ g c' w', (Builtin.append_ #[t, t] ty #[.slice A n c, .slice (some ad) 1 1]).run P w = .ok (.slice (some ⟨g, 0, none⟩) (n + 1) c') w' ∧
      OwnS w' e size (some ⟨g, 0, none⟩) (n + 1) c' (xs ++ ys) [g] ∧ (g ∈ fp ∨ w.heap.size = g) ∧ g < w'.heap.size ∧ Keep fp w w' := by
  subst hby hsize;have hb1 : (n + 1) * i.bytes ≤ 140737488355328 := Nat.le_trans (Nat.mul_le_mul hn hbytes) (by decide);have hl : ys.length = 1 * i.size := by omega
  have hmx : n + 1 ≤ maxLen := by simp only [maxLen]; omega
  have hxl := hown.1;have grown : ∀ (old : Nat) (olds : List Value), olds = xs →
      OwnS (w.drew.alloc (.cells (olds.toArray ++ ys.toArray ++ Builtin.zeroCells z.cells (grownCap w (n + 1) old e - (n + 1))) e)) e i.size (some ⟨w.heap.size, 0, none⟩) (n + 1) (grownCap w (n + 1) old e) (xs ++ ys) [w.heap.size] := by
    rintro old olds rfl;have hge := grownCap_ge w (n + 1) old e;have hcm : grownCap w (n + 1) old e ≤ maxLen := grownCap_le_maxLen w (n + 1) old e hmx;simp only [maxLen] at hcm;refine ⟨by simp [hxl, hys, Nat.add_mul], .inr ⟨_, _, rfl, rfl, heap_alloc_new w.drew _, hge, hcm, ?_, ?_⟩⟩
    · simp only [Array.size_append, List.size_toArray, size_zeroCells, hzs, hxl, hys];generalize grownCap w (n + 1) old e = G at hge ⊢;obtain ⟨d, rfl⟩ : ∃ d, G = n + 1 + d := ⟨G - (n + 1), by omega⟩;rw [show n + 1 + d - (n + 1) = d from by omega];simp only [Nat.add_mul, Nat.one_mul]
    · intro j v hv;have hlt : j < (olds ++ ys).length := (List.getElem?_eq_some_iff.1 hv).1;rw [Array.getElem?_append_left (by simpa using hlt)];simpa using hv
  have hkeep : ∀ o : Obj, Keep fp w (w.drew.alloc o) := fun o => ((Keep.refl fp w).drew).alloc o;rcases hown.2 with ⟨rfl, rfl, rfl, rfl⟩ | ⟨g, cur, rfl, rfl, hh, hnc, hcm, hcs, hat⟩
  · have hx : xs = [] := List.eq_nil_of_length_eq_zero (by omega);subst hx;have hr := run_append_nil (P := P) w t ty e i z ht hi hz ad 1 1 ys hl hu (by omega) (by omega) (by simp at hb1; omega);have hg := grown 0 [] rfl;simp only [Nat.zero_add, List.nil_append, Array.empty_append] at hg ⊢;exact ⟨_, _, _, hr, hg, .inr rfl, by simp, hkeep _⟩
  · by_cases hroom : n + 1 ≤ c
    · have hcn : (n + 1) * i.size ≤ c * i.size := Nat.mul_le_mul_right _ hroom;have hn1 : (n + 1) * i.size = n * i.size + i.size := by rw [Nat.add_mul, Nat.one_mul]
      have hr := run_append_room_cells (P := P) w t ty e i ht hi g 0 n c ad 1 1 ys hl hu h1 hroom (by
        intro j hj;have hlt' : 0 + n * i.size + j < cur.size := by omega
        rw [cOH hh, Array.getElem?_eq_getElem hlt'];rfl) (by intro j hj; exact fOH hh _)
      obtain ⟨cur', g1, g2, g3, g4⟩ := setCells_heap g ys (0 + n * i.size) w cur hh;have hkp := setCells_keep (S := [g]) g ys (0 + n * i.size) w w (Keep.refl _ _) (.inl (by simp));refine ⟨g, c, _, hr, ⟨by simp [hxl, hys, hn1], .inr ⟨g, cur', rfl, rfl, g1, hroom, hcm, by rw [g2]; exact hcs, ?_⟩⟩, .inl (by simp), Nat.lt_of_lt_of_le (hL_ hh) hkp.size, hkp⟩;intro j v hv;rw [List.getElem?_append] at hv;split at hv
      · rename_i hj
        rw [g4 j (by omega)];exact hat j v hv
      · rename_i hj
        have h6 := (List.getElem?_eq_some_iff.1 hv).1;have := g3 (j - xs.length) v hv (by omega)
        rwa [show 0 + n * i.size + (j - xs.length) = j from by omega] at this
    · have holds : ∀ j v, xs[j]? = some v → w.cell? ((⟨g, 0, none⟩ : Addr).add j) = some v := by
        intro j v hv;rw [show (⟨g, 0, none⟩ : Addr).add j = ⟨g, j, none⟩ from by simp [Addr.add]; omega];exact (cOH hh _).trans (hat j v hv)
      have hr := run_append_grow (P := P) w t ty e i z ht hi hz ⟨g, 0, none⟩ n c xs hxl holds ad 1 1 ys hl hu (by omega) (by omega) (growslice_fits (by omega) hb1);exact ⟨_, _, _, hr, grown c xs rfl, .inr rfl, by simp, hkeep _⟩
theorem wp_append_S {o : Oper} {a : Act} {K : Act → World → Prop} {Q : Exit → Act → World → Prop} (s x : Operand) (t : TypeId)
    (ho : o.op = .call { callee := .builtin .append, args := #[s, x], argTypes := #[t, t] })
    (i : TypeInfo) (z : Value) (bytes : Nat) (ht : P.underlying t = some (.slice e)) (hi : P.info? e = some i) (hz : i.zero = some z)
    (hsize : i.size = size) (hs0 : 0 < size) (hby : i.bytes = bytes) (hzs : z.cells.size = size) (hs : a.eval s = .slice A n c) (ad : Addr) (hx : a.eval x = .slice (some ad) 1 1)
    (ys : List Value) (hown : OwnS w e size A n c xs fp) (hys : ys.length = size) (hu : ∀ j v, ys[j]? = some v → w.cell? (ad.add j) = some v) (h1 : ∀ u ∈ ys, u.oneCell' = true)
    (hn : n + 1 ≤ 1000000000000) (hbytes : bytes ≤ 100)
    (h : ∀ g c' w', OwnS w' e size (some ⟨g, 0, none⟩) (n + 1) c' (xs ++ ys) [g] → (g ∈ fp ∨ w.heap.size = g) → g < w'.heap.size → Keep fp w w' → K (a.put o.dst (.slice (some ⟨g, 0, none⟩) (n + 1) c')) w') : o.wp P a w K Q := by
  obtain ⟨g, c', w', hr, h2, h3, h4, h5⟩ := run_append_S (P := P) t o.type i z bytes ht hi hz hsize hs0 hby hzs hown ad hys hu h1 hn hbytes;unfold Oper.wp execOp;simp only [ho, resolve, invoke, builtin, Sem.run_bind, Sem.run_pure, Result.andThen_ok, List.map_toArray, List.map_cons, List.map_nil, hs, hx, hr];exact h g c' w' h2 h3 h4 h5
theorem wpList_append_S {ops : Array Oper} {rest : List Oper} {o : Oper} {a : Act} {Q : Exit → Act → World → Prop} (hgd : o.guard = none) (s x : Operand) (t : TypeId)
    (ho : o.op = .call { callee := .builtin .append, args := #[s, x], argTypes := #[t, t] })
    (i : TypeInfo) (z : Value) (bytes : Nat) (ht : P.underlying t = some (.slice e)) (hi : P.info? e = some i) (hz : i.zero = some z)
    (hsize : i.size = size) (hs0 : 0 < size) (hby : i.bytes = bytes) (hzs : z.cells.size = size) (hs : a.eval s = .slice A n c) (ad : Addr) (hx : a.eval x = .slice (some ad) 1 1)
    (ys : List Value) (hown : OwnS w e size A n c xs fp) (hys : ys.length = size) (hu : ∀ j v, ys[j]? = some v → w.cell? (ad.add j) = some v) (h1 : ∀ u ∈ ys, u.oneCell' = true)
    (hn : n + 1 ≤ 1000000000000) (hbytes : bytes ≤ 100)
    (h : ∀ g c' w', OwnS w' e size (some ⟨g, 0, none⟩) (n + 1) c' (xs ++ ys) [g] → (g ∈ fp ∨ w.heap.size = g) → g < w'.heap.size → Keep fp w w' → wpList P ops Q rest (a.put o.dst (.slice (some ⟨g, 0, none⟩) (n + 1) c')) w') : wpList P ops Q (o :: rest) a w :=
  wpList_plain hgd fun _ hK => wp_append_S s x t ho i z bytes ht hi hz hsize hs0 hby hzs hs ad hx ys hown hys hu h1 hn hbytes fun g c' w' h2 h3 h4 h5 => hK _ _ (h g c' w' h2 h3 h4 h5)
end
end Go.Proofs.Ythmldeningpjbaa
namespace Go.Proofs.Ythmldeningpjbaa
open Go Go.RowKit
section
variable {w w' : World} {e : TypeId} {size : Nat} {A B : Option Addr} {n c m d : Nat} {xs ys : List Value} {fp : List Nat} {P : Program}
theorem Rd.add_n (h : Rd w size B m ys) {ad : Addr} (he : B = some ad) : ∀ j u, ys[j]? = some u → w.cell? (ad.add j) = some u := by
  intro j u hu;have hl : 0 < m := by
    have h1 := (List.getElem?_eq_some_iff.1 hu).1;have h2 := h.1;rcases Nat.eq_zero_or_pos m with h3 | h3
    · subst h3; simp at h2; subst h2; simp at h1
    · exact h3
  obtain ⟨b, off, e1, _, hc⟩ := h.2 hl;rw [he] at e1;injection e1 with e1
  subst e1;have := hc j u hu;by_cases hj : j = 0
  · subst hj; simpa [Addr.add] using this
  · simpa [Addr.add, hj] using this
theorem run_append_M (t ty : TypeId) (i : TypeInfo) (z : Value) (bytes : Nat) (ht : P.underlying t = some (.slice e)) (hi : P.info? e = some i) (hz : i.zero = some z)
    (hsize : i.size = size) (hby : i.bytes = bytes) (hzs : z.cells.size = size) (hown : OwnS w e size A n c xs fp) (hr : Rd w size B m ys) (h1 : ∀ u ∈ ys, u.oneCell' = true)
    (hn : n + m ≤ 1000000000000) (hbytes : bytes ≤ 100) :
    ∃ A' c' w' fp', (Builtin.append_ #[t, t] ty #[.slice A n c, .slice B m d]).run P w = .ok (.slice A' (n + m) c') w' ∧
      OwnS w' e size A' (n + m) c' (xs ++ ys) fp' ∧ (∀ g ∈ fp', g ∈ fp ∨ w.heap.size = g) ∧ Keep fp w w' := by
  subst hby hsize;have hym : ys.length = m * i.size := hr.1;have hxl := hown.1;rcases Nat.eq_zero_or_pos m with hm | hm
  · subst hm;obtain rfl : ys = [] := List.eq_nil_of_length_eq_zero (by simpa using hym);refine ⟨A, c, w, fp, ?_, by simpa using hown, fun g hg => .inl hg, Keep.refl _ _⟩;have hge := hown.ge;have hfc : (Builtin.firstCells i.size 0 (.slice B 0 d)).run P w = .ok #[] w := by
      cases B with
      | none => simp [Builtin.firstCells]
      | some b => simp [Builtin.firstCells, loadCells, loadCellsFrom]
    cases A with
    | none => simp [Builtin.append_, run_underlying ht, sizeOf, typeInfo, hi, Builtin.lenOf, hge, hfc]
    | some a => simp [Builtin.append_, run_underlying ht, sizeOf, typeInfo, hi, Builtin.lenOf, hge, hfc, storeCells]
  · obtain ⟨b, off, rfl, hb, hc⟩ := hr.2 hm;have hb1 : (n + m) * i.bytes ≤ 140737488355328 := Nat.le_trans (Nat.mul_le_mul hn hbytes) (by decide);have hnews := hr.add_n rfl;have hmx : n + m ≤ maxLen := by simp only [maxLen]; omega
    have grown : ∀ (old : Nat) (olds : List Value), olds = xs →
        OwnS (w.drew.alloc (.cells (olds.toArray ++ ys.toArray ++ Builtin.zeroCells z.cells (grownCap w (n + m) old e - (n + m))) e)) e i.size (some ⟨w.heap.size, 0, none⟩) (n + m) (grownCap w (n + m) old e) (xs ++ ys) [w.heap.size] := by
      rintro old olds rfl;have hge := grownCap_ge w (n + m) old e;have hcm : grownCap w (n + m) old e ≤ maxLen := grownCap_le_maxLen w (n + m) old e hmx;simp only [maxLen] at hcm;refine ⟨by simp [hxl, hym, Nat.add_mul], .inr ⟨_, _, rfl, rfl, heap_alloc_new w.drew _, hge, hcm, ?_, ?_⟩⟩
      · simp only [Array.size_append, List.size_toArray, size_zeroCells, hzs, hxl, hym];generalize grownCap w (n + m) old e = G at hge ⊢;obtain ⟨d, rfl⟩ : ∃ d, G = n + m + d := ⟨G - (n + m), by omega⟩;rw [show n + m + d - (n + m) = d from by omega];simp only [Nat.add_mul]
      · intro j v hv;have hlt : j < (olds ++ ys).length := (List.getElem?_eq_some_iff.1 hv).1;rw [Array.getElem?_append_left (by simpa using hlt)];simpa using hv
    have hkeep : ∀ o : Obj, Keep fp w (w.drew.alloc o) := fun o => ((Keep.refl fp w).drew).alloc o;rcases hown.2 with ⟨rfl, rfl, rfl, rfl⟩ | ⟨g, cur, rfl, rfl, hh, hnc, hcm, hcs, hat⟩
    · have hx : xs = [] := List.eq_nil_of_length_eq_zero (by omega);subst hx;have hrn := run_append_nil (P := P) w t ty e i z ht hi hz ⟨b, off, none⟩ m d ys hym hnews hm (by omega) (by simp at hb1; omega);have hg := grown 0 [] rfl;simp only [Nat.zero_add, List.nil_append, Array.empty_append] at hg ⊢;exact ⟨_, _, _, _, hrn, hg, fun y hy => .inr (List.mem_singleton.1 hy).symm, hkeep _⟩
    · by_cases hroom : n + m ≤ c
      · have hcn : (n + m) * i.size ≤ c * i.size := Nat.mul_le_mul_right _ hroom;have hn1 : (n + m) * i.size = n * i.size + m * i.size := Nat.add_mul _ _ _;have hrn := run_append_room_cells (P := P) w t ty e i ht hi g 0 n c ⟨b, off, none⟩ m d ys hym hnews h1 hroom (by
          intro j hj;have hlt' : 0 + n * i.size + j < cur.size := by omega
          rw [cOH hh, Array.getElem?_eq_getElem hlt'];rfl) (fun j hj => fOH hh _)
        obtain ⟨cur', g1, g2, g3, g4⟩ := setCells_heap g ys (0 + n * i.size) w cur hh;refine ⟨some ⟨g, 0, none⟩, c, _, [g], hrn, ⟨by simp [hxl, hym, hn1], .inr ⟨g, cur', rfl, rfl, g1, hroom, hcm, by rw [g2]; exact hcs, ?_⟩⟩, fun y hy => .inl hy, setCells_keep g ys _ w w (Keep.refl _ _) (.inl (by simp))⟩;intro j v hv;rw [List.getElem?_append] at hv;split at hv
        · rename_i hj
          rw [g4 j (by omega)];exact hat j v hv
        · rename_i hj
          have h6 := (List.getElem?_eq_some_iff.1 hv).1;have := g3 (j - xs.length) v hv (by omega)
          rwa [show 0 + n * i.size + (j - xs.length) = j from by omega] at this
      · have holds : ∀ j v, xs[j]? = some v → w.cell? ((⟨g, 0, none⟩ : Addr).add j) = some v := by
          intro j v hv;rw [show (⟨g, 0, none⟩ : Addr).add j = ⟨g, j, none⟩ from by simp [Addr.add]; omega];exact (cOH hh _).trans (hat j v hv)
        have hrn := run_append_grow (P := P) w t ty e i z ht hi hz ⟨g, 0, none⟩ n c xs hxl holds ⟨b, off, none⟩ m d ys hym hnews (by omega) (by omega) (growslice_fits (by omega) hb1);exact ⟨_, _, _, _, hrn, grown c xs rfl, fun y hy => .inr (List.mem_singleton.1 hy).symm, hkeep _⟩
theorem wp_append_M {o : Oper} {a : Act} {K : Act → World → Prop} {Q : Exit → Act → World → Prop} (s x : Operand) (t : TypeId)
    (ho : o.op = .call { callee := .builtin .append, args := #[s, x], argTypes := #[t, t] })
    (i : TypeInfo) (z : Value) (bytes : Nat) (ht : P.underlying t = some (.slice e)) (hi : P.info? e = some i) (hz : i.zero = some z)
    (hsize : i.size = size) (hby : i.bytes = bytes) (hzs : z.cells.size = size) (hs : a.eval s = .slice A n c) (hx : a.eval x = .slice B m d)
    (hown : OwnS w e size A n c xs fp) (hr : Rd w size B m ys) (h1 : ∀ u ∈ ys, u.oneCell' = true)
    (hn : n + m ≤ 1000000000000) (hbytes : bytes ≤ 100)
    (h : ∀ A' c' w' fp', OwnS w' e size A' (n + m) c' (xs ++ ys) fp' → (∀ g ∈ fp', g ∈ fp ∨ w.heap.size = g) → Keep fp w w' → K (a.put o.dst (.slice A' (n + m) c')) w') : o.wp P a w K Q := by
  obtain ⟨A', c', w', fp', hrn, h2, h3, h4⟩ := run_append_M (P := P) (d := d) t o.type i z bytes ht hi hz hsize hby hzs hown hr h1 hn hbytes;unfold Oper.wp execOp;simp only [ho, resolve, invoke, builtin, Sem.run_bind, Sem.run_pure, Result.andThen_ok, List.map_toArray, List.map_cons, List.map_nil, hs, hx, hrn];exact h A' c' w' fp' h2 h3 h4
theorem wpList_append_M {ops : Array Oper} {rest : List Oper} {o : Oper} {a : Act} {Q : Exit → Act → World → Prop} (hgd : o.guard = none) (s x : Operand) (t : TypeId)
    (ho : o.op = .call { callee := .builtin .append, args := #[s, x], argTypes := #[t, t] })
    (i : TypeInfo) (z : Value) (bytes : Nat) (ht : P.underlying t = some (.slice e)) (hi : P.info? e = some i) (hz : i.zero = some z)
    (hsize : i.size = size) (hby : i.bytes = bytes) (hzs : z.cells.size = size) (hs : a.eval s = .slice A n c) (hx : a.eval x = .slice B m d)
    (hown : OwnS w e size A n c xs fp) (hr : Rd w size B m ys) (h1 : ∀ u ∈ ys, u.oneCell' = true)
    (hn : n + m ≤ 1000000000000) (hbytes : bytes ≤ 100)
    (h : ∀ A' c' w' fp', OwnS w' e size A' (n + m) c' (xs ++ ys) fp' → (∀ g ∈ fp', g ∈ fp ∨ w.heap.size = g) → Keep fp w w' → wpList P ops Q rest (a.put o.dst (.slice A' (n + m) c')) w') : wpList P ops Q (o :: rest) a w :=
  wpList_plain hgd fun _ hK => wp_append_M s x t ho i z bytes ht hi hz hsize hby hzs hs hx hown hr h1 hn hbytes fun A' c' w' fp' h2 h3 h4 => hK _ _ (h A' c' w' fp' h2 h3 h4)
end
def CloneS (w : World) (e : TypeId) (size n : Nat) (xs : List Value) (r : Ending) (w' : World) : Prop :=
  ∃ A c q, r = .returned (.slice A n c) ∧ OwnS w' e size A n c xs q ∧ (∀ g ∈ q, w.heap.size ≤ g) ∧ Below w.heap.size w w'
end Go.Proofs.Ythmldeningpjbaa
namespace Go.Proofs.Ythmldeningpjbaa
open Go Go.RowKit Sp
theorem infoPtI : (Try.prog.info? 3).map (fun i => (i.zero, i.size, i.bytes)) = some (some (.int .i64 0), 1, 8) := by kernel_rfl
theorem clonePtI_any (A : Option Addr) (n c : Nat) (xs : List Value) (w : World) (hr : Rd w 1 A n xs) (h1 : ∀ u ∈ xs, u.oneCell' = true) (hc : A = none → n = 0 ∧ c = 0) (hl : n ≤ 100000000) :
    Calls Try.prog 82 #[.slice A n c] w (CloneS w 3 1 n xs) := by
  obtain ⟨i0, hi, hz0, hz1, hz2⟩ := info_parts infoPtI;have hnil := fun (w : World) (a : Option Addr) (n c : Nat) => Lib.run_eql_slice_nil (P := Try.prog) w 33 3 a n c 0 0 Try.underlying33;cases A with
  | none =>
    obtain ⟨rfl, rfl⟩ := hc rfl;obtain rfl : xs = [] := List.eq_nil_of_length_eq_zero (by have := hr.1; omega)
    go_enter Try.func82, Try.ntmps82
    go_wp2_with fail
    go_ret;exact ⟨none, 0, [], rfl, OwnS.nil _ _ _, by simp, Below.refl _ _⟩
  | some ad =>
    have HR := Lib.hid (And.intro hr h1);clear hr hc h1
    go_enter Try.func82, Try.ntmps82
    go_wp2_with (at_builtin
                 refine wpList_append_M rfl (.tmp 5) (.tmp 6) 33 rfl i0 _ 8 Try.underlying33 hi hz0 hz1 hz2 rfl (A := some ⟨w.heap.size, 0, none⟩) (n := 0) (c := 0) (B := some ad) (m := n) (d := c) (xs := []) (fp := [w.heap.size]) (ys := xs) (by simp [Act.eval]) (by simp [Act.eval]) ⟨by simp, .inr ⟨_, _, rfl, rfl, heap_alloc_new w _, by omega, by omega, rfl, by simp⟩⟩ (HR.out.1.below ((Below.refl _ _).alloc (Nat.le_refl _) _)) HR.out.2 (by omega) (by omega) ?_;intro A' c' w' fp' h1 h2 h3;have HQ := Lib.hid (And.intro h1 (And.intro h2 h3));clear h1 h2 h3)
    go_ret;obtain ⟨h1, h2, h3⟩ := HQ.out;refine ⟨A', c', fp', by simp, by simpa using h1, fun g hg => ?_, ((Below.refl w.heap.size w).alloc (Nat.le_refl _) _).trans (h3.below (by simp) (by simp))⟩;rcases h2 g hg with h | h
    · simp at h; omega
    · simp at h; omega
theorem infoPtB : (Try.prog.info? 4).map (fun i => (i.zero, i.size, i.bytes)) = some (some (.bool false), 1, 1) := by kernel_rfl
theorem clonePtB_any (A : Option Addr) (n c : Nat) (xs : List Value) (w : World) (hr : Rd w 1 A n xs) (h1 : ∀ u ∈ xs, u.oneCell' = true) (hc : A = none → n = 0 ∧ c = 0) (hl : n ≤ 100000000) :
    Calls Try.prog 122 #[.slice A n c] w (CloneS w 4 1 n xs) := by
  obtain ⟨i0, hi, hz0, hz1, hz2⟩ := info_parts infoPtB;have hnil := fun (w : World) (a : Option Addr) (n c : Nat) => Lib.run_eql_slice_nil (P := Try.prog) w 40 4 a n c 0 0 Try.underlying40;cases A with
  | none =>
    obtain ⟨rfl, rfl⟩ := hc rfl;obtain rfl : xs = [] := List.eq_nil_of_length_eq_zero (by have := hr.1; omega)
    go_enter Try.func122, Try.ntmps122
    go_wp2_with fail
    go_ret;exact ⟨none, 0, [], rfl, OwnS.nil _ _ _, by simp, Below.refl _ _⟩
  | some ad =>
    have HR := Lib.hid (And.intro hr h1);clear hr hc h1
    go_enter Try.func122, Try.ntmps122
    go_wp2_with (at_builtin
                 refine wpList_append_M rfl (.tmp 5) (.tmp 6) 40 rfl i0 _ 1 Try.underlying40 hi hz0 hz1 hz2 rfl (A := some ⟨w.heap.size, 0, none⟩) (n := 0) (c := 0) (B := some ad) (m := n) (d := c) (xs := []) (fp := [w.heap.size]) (ys := xs) (by simp [Act.eval]) (by simp [Act.eval]) ⟨by simp, .inr ⟨_, _, rfl, rfl, heap_alloc_new w _, by omega, by omega, rfl, by simp⟩⟩ (HR.out.1.below ((Below.refl _ _).alloc (Nat.le_refl _) _)) HR.out.2 (by omega) (by omega) ?_;intro A' c' w' fp' h1 h2 h3;have HQ := Lib.hid (And.intro h1 (And.intro h2 h3));clear h1 h2 h3)
    go_ret;obtain ⟨h1, h2, h3⟩ := HQ.out;refine ⟨A', c', fp', by simp, by simpa using h1, fun g hg => ?_, ((Below.refl w.heap.size w).alloc (Nat.le_refl _) _).trans (h3.below (by simp) (by simp))⟩;rcases h2 g hg with h | h
    · simp at h; omega
    · simp at h; omega
theorem infoChn : (Try.prog.info? 144).map (fun i => (i.zero, i.size, i.bytes)) = some (some (.agg #[.int .i64 0, .int .i64 0, .int .i64 0]), 3, 24) := by kernel_rfl
theorem cloneChn_any (A : Option Addr) (n c : Nat) (xs : List Value) (w : World) (hr : Rd w 3 A n xs) (h1 : ∀ u ∈ xs, u.oneCell' = true) (hc : A = none → n = 0 ∧ c = 0) (hl : n ≤ 100000000) :
    Calls Try.prog 85 #[.slice A n c] w (CloneS w 144 3 n xs) := by
  obtain ⟨i0, hi, hz0, hz1, hz2⟩ := info_parts infoChn;have hnil := fun (w : World) (a : Option Addr) (n c : Nat) => Lib.run_eql_slice_nil (P := Try.prog) w 23 144 a n c 0 0 Try.underlying23;cases A with
  | none =>
    obtain ⟨rfl, rfl⟩ := hc rfl;obtain rfl : xs = [] := List.eq_nil_of_length_eq_zero (by have := hr.1; omega)
    go_enter Try.func85, Try.ntmps85
    go_wp2_with fail
    go_ret;exact ⟨none, 0, [], rfl, OwnS.nil _ _ _, by simp, Below.refl _ _⟩
  | some ad =>
    have HR := Lib.hid (And.intro hr h1);clear hr hc h1
    go_enter Try.func85, Try.ntmps85
    go_wp2_with (at_builtin
                 refine wpList_append_M rfl (.tmp 5) (.tmp 6) 23 rfl i0 _ 24 Try.underlying23 hi hz0 hz1 hz2 rfl (A := some ⟨w.heap.size, 0, none⟩) (n := 0) (c := 0) (B := some ad) (m := n) (d := c) (xs := []) (fp := [w.heap.size]) (ys := xs) (by simp [Act.eval]) (by simp [Act.eval]) ⟨by simp, .inr ⟨_, _, rfl, rfl, heap_alloc_new w _, by omega, by omega, rfl, by simp⟩⟩ (HR.out.1.below ((Below.refl _ _).alloc (Nat.le_refl _) _)) HR.out.2 (by omega) (by omega) ?_;intro A' c' w' fp' h1 h2 h3;have HQ := Lib.hid (And.intro h1 (And.intro h2 h3));clear h1 h2 h3)
    go_ret;obtain ⟨h1, h2, h3⟩ := HQ.out;refine ⟨A', c', fp', by simp, by simpa using h1, fun g hg => ?_, ((Below.refl w.heap.size w).alloc (Nat.le_refl _) _).trans (h3.below (by simp) (by simp))⟩;rcases h2 g hg with h | h
    · simp at h; omega
    · simp at h; omega
theorem infoBrt : (Try.prog.info? 53).map (fun i => (i.zero, i.size, i.bytes)) = some (some (.agg #[.int .i64 0, .slice none 0 0]), 2, 32) := by kernel_rfl
theorem cloneBrt_any (A : Option Addr) (n c : Nat) (xs : List Value) (w : World) (hr : Rd w 2 A n xs) (h1 : ∀ u ∈ xs, u.oneCell' = true) (hc : A = none → n = 0 ∧ c = 0) (hl : n ≤ 100000000) :
    Calls Try.prog 86 #[.slice A n c] w (CloneS w 53 2 n xs) := by
  obtain ⟨i0, hi, hz0, hz1, hz2⟩ := info_parts infoBrt;have hnil := fun (w : World) (a : Option Addr) (n c : Nat) => Lib.run_eql_slice_nil (P := Try.prog) w 24 53 a n c 0 0 Try.underlying24;cases A with
  | none =>
    obtain ⟨rfl, rfl⟩ := hc rfl;obtain rfl : xs = [] := List.eq_nil_of_length_eq_zero (by have := hr.1; omega)
    go_enter Try.func86, Try.ntmps86
    go_wp2_with fail
    go_ret;exact ⟨none, 0, [], rfl, OwnS.nil _ _ _, by simp, Below.refl _ _⟩
  | some ad =>
    have HR := Lib.hid (And.intro hr h1);clear hr hc h1
    go_enter Try.func86, Try.ntmps86
    go_wp2_with (at_builtin
                 refine wpList_append_M rfl (.tmp 5) (.tmp 6) 24 rfl i0 _ 32 Try.underlying24 hi hz0 hz1 hz2 rfl (A := some ⟨w.heap.size, 0, none⟩) (n := 0) (c := 0) (B := some ad) (m := n) (d := c) (xs := []) (fp := [w.heap.size]) (ys := xs) (by simp [Act.eval]) (by simp [Act.eval]) ⟨by simp, .inr ⟨_, _, rfl, rfl, heap_alloc_new w _, by omega, by omega, rfl, by simp⟩⟩ (HR.out.1.below ((Below.refl _ _).alloc (Nat.le_refl _) _)) HR.out.2 (by omega) (by omega) ?_;intro A' c' w' fp' h1 h2 h3;have HQ := Lib.hid (And.intro h1 (And.intro h2 h3));clear h1 h2 h3)
    go_ret;obtain ⟨h1, h2, h3⟩ := HQ.out;refine ⟨A', c', fp', by simp, by simpa using h1, fun g hg => ?_, ((Below.refl w.heap.size w).alloc (Nat.le_refl _) _).trans (h3.below (by simp) (by simp))⟩;rcases h2 g hg with h | h
    · simp at h; omega
    · simp at h; omega
theorem infoCal : (Try.prog.info? 55).map (fun i => (i.zero, i.size, i.bytes)) = some (some (.agg #[.int .i64 0, .int .i64 0, .bool false, .int .i64 0, .int .i64 0, .int .i64 0]), 6, 48) := by kernel_rfl
theorem cloneCal_any (A : Option Addr) (n c : Nat) (xs : List Value) (w : World) (hr : Rd w 6 A n xs) (h1 : ∀ u ∈ xs, u.oneCell' = true) (hc : A = none → n = 0 ∧ c = 0) (hl : n ≤ 100000000) :
    Calls Try.prog 89 #[.slice A n c] w (CloneS w 55 6 n xs) := by
  obtain ⟨i0, hi, hz0, hz1, hz2⟩ := info_parts infoCal;have hnil := fun (w : World) (a : Option Addr) (n c : Nat) => Lib.run_eql_slice_nil (P := Try.prog) w 28 55 a n c 0 0 Try.underlying28;cases A with
  | none =>
    obtain ⟨rfl, rfl⟩ := hc rfl;obtain rfl : xs = [] := List.eq_nil_of_length_eq_zero (by have := hr.1; omega)
    go_enter Try.func89, Try.ntmps89
    go_wp2_with fail
    go_ret;exact ⟨none, 0, [], rfl, OwnS.nil _ _ _, by simp, Below.refl _ _⟩
  | some ad =>
    have HR := Lib.hid (And.intro hr h1);clear hr hc h1
    go_enter Try.func89, Try.ntmps89
    go_wp2_with (at_builtin
                 refine wpList_append_M rfl (.tmp 5) (.tmp 6) 28 rfl i0 _ 48 Try.underlying28 hi hz0 hz1 hz2 rfl (A := some ⟨w.heap.size, 0, none⟩) (n := 0) (c := 0) (B := some ad) (m := n) (d := c) (xs := []) (fp := [w.heap.size]) (ys := xs) (by simp [Act.eval]) (by simp [Act.eval]) ⟨by simp, .inr ⟨_, _, rfl, rfl, heap_alloc_new w _, by omega, by omega, rfl, by simp⟩⟩ (HR.out.1.below ((Below.refl _ _).alloc (Nat.le_refl _) _)) HR.out.2 (by omega) (by omega) ?_;intro A' c' w' fp' h1 h2 h3;have HQ := Lib.hid (And.intro h1 (And.intro h2 h3));clear h1 h2 h3)
    go_ret;obtain ⟨h1, h2, h3⟩ := HQ.out;refine ⟨A', c', fp', by simp, by simpa using h1, fun g hg => ?_, ((Below.refl w.heap.size w).alloc (Nat.le_refl _) _).trans (h3.below (by simp) (by simp))⟩;rcases h2 g hg with h | h
    · simp at h; omega
    · simp at h; omega
theorem infoSwp : (Try.prog.info? 126).map (fun i => (i.zero, i.size, i.bytes)) = some (some (.agg #[.int .i64 0, .int .i64 0, .int .i64 0]), 3, 24) := by kernel_rfl
theorem cloneSwp_any (A : Option Addr) (n c : Nat) (xs : List Value) (w : World) (hr : Rd w 3 A n xs) (h1 : ∀ u ∈ xs, u.oneCell' = true) (hc : A = none → n = 0 ∧ c = 0) (hl : n ≤ 100000000) :
    Calls Try.prog 90 #[.slice A n c] w (CloneS w 126 3 n xs) := by
  obtain ⟨i0, hi, hz0, hz1, hz2⟩ := info_parts infoSwp;have hnil := fun (w : World) (a : Option Addr) (n c : Nat) => Lib.run_eql_slice_nil (P := Try.prog) w 29 126 a n c 0 0 Try.underlying29;cases A with
  | none =>
    obtain ⟨rfl, rfl⟩ := hc rfl;obtain rfl : xs = [] := List.eq_nil_of_length_eq_zero (by have := hr.1; omega)
    go_enter Try.func90, Try.ntmps90
    go_wp2_with fail
    go_ret;exact ⟨none, 0, [], rfl, OwnS.nil _ _ _, by simp, Below.refl _ _⟩
  | some ad =>
    have HR := Lib.hid (And.intro hr h1);clear hr hc h1
    go_enter Try.func90, Try.ntmps90
    go_wp2_with (at_builtin
                 refine wpList_append_M rfl (.tmp 5) (.tmp 6) 29 rfl i0 _ 24 Try.underlying29 hi hz0 hz1 hz2 rfl (A := some ⟨w.heap.size, 0, none⟩) (n := 0) (c := 0) (B := some ad) (m := n) (d := c) (xs := []) (fp := [w.heap.size]) (ys := xs) (by simp [Act.eval]) (by simp [Act.eval]) ⟨by simp, .inr ⟨_, _, rfl, rfl, heap_alloc_new w _, by omega, by omega, rfl, by simp⟩⟩ (HR.out.1.below ((Below.refl _ _).alloc (Nat.le_refl _) _)) HR.out.2 (by omega) (by omega) ?_;intro A' c' w' fp' h1 h2 h3;have HQ := Lib.hid (And.intro h1 (And.intro h2 h3));clear h1 h2 h3)
    go_ret;obtain ⟨h1, h2, h3⟩ := HQ.out;refine ⟨A', c', fp', by simp, by simpa using h1, fun g hg => ?_, ((Below.refl w.heap.size w).alloc (Nat.le_refl _) _).trans (h3.below (by simp) (by simp))⟩;rcases h2 g hg with h | h
    · simp at h; omega
    · simp at h; omega
theorem infoPlc : (Try.prog.info? 109).map (fun i => (i.zero, i.size, i.bytes)) = some (some (.agg #[.int .i64 0, .int .i64 0]), 2, 16) := by kernel_rfl
theorem clonePlc_any (A : Option Addr) (n c : Nat) (xs : List Value) (w : World) (hr : Rd w 2 A n xs) (h1 : ∀ u ∈ xs, u.oneCell' = true) (hc : A = none → n = 0 ∧ c = 0) (hl : n ≤ 100000000) :
    Calls Try.prog 132 #[.slice A n c] w (CloneS w 109 2 n xs) := by
  obtain ⟨i0, hi, hz0, hz1, hz2⟩ := info_parts infoPlc;have hnil := fun (w : World) (a : Option Addr) (n c : Nat) => Lib.run_eql_slice_nil (P := Try.prog) w 103 109 a n c 0 0 Try.underlying103;cases A with
  | none =>
    obtain ⟨rfl, rfl⟩ := hc rfl;obtain rfl : xs = [] := List.eq_nil_of_length_eq_zero (by have := hr.1; omega)
    go_enter Try.func132, Try.ntmps132
    go_wp2_with fail
    go_ret;exact ⟨none, 0, [], rfl, OwnS.nil _ _ _, by simp, Below.refl _ _⟩
  | some ad =>
    have HR := Lib.hid (And.intro hr h1);clear hr hc h1
    go_enter Try.func132, Try.ntmps132
    go_wp2_with (at_builtin
                 refine wpList_append_M rfl (.tmp 5) (.tmp 6) 103 rfl i0 _ 16 Try.underlying103 hi hz0 hz1 hz2 rfl (A := some ⟨w.heap.size, 0, none⟩) (n := 0) (c := 0) (B := some ad) (m := n) (d := c) (xs := []) (fp := [w.heap.size]) (ys := xs) (by simp [Act.eval]) (by simp [Act.eval]) ⟨by simp, .inr ⟨_, _, rfl, rfl, heap_alloc_new w _, by omega, by omega, rfl, by simp⟩⟩ (HR.out.1.below ((Below.refl _ _).alloc (Nat.le_refl _) _)) HR.out.2 (by omega) (by omega) ?_;intro A' c' w' fp' h1 h2 h3;have HQ := Lib.hid (And.intro h1 (And.intro h2 h3));clear h1 h2 h3)
    go_ret;obtain ⟨h1, h2, h3⟩ := HQ.out;refine ⟨A', c', fp', by simp, by simpa using h1, fun g hg => ?_, ((Below.refl w.heap.size w).alloc (Nat.le_refl _) _).trans (h3.below (by simp) (by simp))⟩;rcases h2 g hg with h | h
    · simp at h; omega
    · simp at h; omega
end Go.Proofs.Ythmldeningpjbaa
