import Derived.Test.YtalcinepeofmcaaGreatPBp12
import Derived.Test.YtalcinepeofmcaaGreatPBp9
set_option linter.unusedVariables false
set_option linter.unusedSimpArgs false
set_option maxRecDepth 100000
set_option maxHeartbeats 40000000
namespace Go.Proofs.YtalcinepeofmcaaGreat
open Go Go.RowKit Sp Pt
theorem cmpPl_cons (x y : Plc) (L M : List Plc) : cmpPl (x :: L) (y :: M) = if cmp1 x y ≠ 0 then cmp1 x y else cmpPl L M := rfl
theorem rless_any (Av : Option Addr) (cv : Nat) (l : List Vst) (Aa : Option Addr) (ca : Nat) (a : List Plc) (Ab : Option Addr) (cb : Nat) (b : List Plc) (w : World) (VR : Rd w 4 Av l.length (vscs l)) (AR : Rd w 2 Aa a.length (plcs a)) (BR : Rd w 2 Ab b.length (plcs b)) (hl : l.length ≤ 5) (hs : PlSm l a) (ht : PlSm l b) :
    Calls Tryz.prog 47 #[.slice Av l.length cv, .slice Aa a.length ca, .slice Ab b.length cb] w fun e w' => e = .returned (.bool (lessS l a b)) ∧ Below w.heap.size w w' := by
  have hal := hs.1;have hbl := ht.1;obtain ⟨x, hx⟩ : ∃ x, x = wt l a := ⟨_, rfl⟩;obtain ⟨y, hy⟩ : ∃ y, y = wt l b := ⟨_, rfl⟩;have k1 := rwaits_any Av cv l Aa ca a w VR AR hl hs;have k2 := fun wx (hb : Below w.heap.size w wx) => rwaits_any Av cv l Ab cb b wx (VR.below hb) (BR.below hb) hl ht;rw [← hx] at k1;rw [← hy] at k2;have HL := Lib.hid (And.intro hal hbl);rw [hal] at k1;simp only [hbl] at k2;rw [hal, hbl];have HK := Lib.hid (And.intro k1 k2);have HR := Lib.hid (And.intro AR (And.intro BR (And.intro hx hy)));have TK := Lib.hid True.intro;clear k1 k2 VR AR BR hs ht hx hy hal hbl
  go_enter Tryz.func47, Tryz.ntmps47
  by_cases hxy : x = y
  · subst hxy;go_upto_region 4 with (go_at_call 44; first | (clear TK; refine HK.out.1.mono ?_; rintro e w1 ⟨rfl, b1⟩; have H1 := Lib.hid b1; clear b1) | (refine (HK.out.2 _ H1.out).mono ?_; rintro e w2 ⟨rfl, b2⟩; have H2 := Lib.hid (H1.out.trans (b2.mono H1.out.size)); clear b2))
    go_wp2_with fail
    go_loopg [9] (l.length) (fun g i wr => ∃ k : Nat, g + k = l.length ∧ i = .int .i64 k ∧ cmpPl a b = cmpPl (a.drop k) (b.drop k) ∧ Below w.heap.size w wr)
    case atStart => exact ⟨0, rfl, rfl, rfl, H2.out⟩
    case round =>
      obtain ⟨k, hk, rfl, hc, bb⟩ := hrel;by_cases hll : k < l.length
      · have hlt : k < a.length := by have := HL.out.1; omega
        have hkb : k < b.length := by have := HL.out.2; omega
        obtain ⟨b1, o1, rfl, hb1, hc1⟩ := HR.out.1.2 (by omega);obtain ⟨b2, o2, rfl, hb2, hc2⟩ := HR.out.2.1.2 (by omega);have g1 := plcs_get hlt;have g2 := plcs_get hkb;have c1 := (bb.cell (p := ⟨b1, o1 + k * 2, none⟩) hb1).trans (hc1 _ _ g1.1);have c2 : wr.cell? ⟨b1, o1 + k * 2 + 1, none⟩ = some (.int .i64 a[k].start) := (bb.cell (p := ⟨b1, o1 + k * 2 + 1, none⟩) hb1).trans (by rw [Nat.add_assoc]; exact hc1 _ _ g1.2);have d1 := (bb.cell (p := ⟨b2, o2 + k * 2, none⟩) hb2).trans (hc2 _ _ g2.1);have d2 : wr.cell? ⟨b2, o2 + k * 2 + 1, none⟩ = some (.int .i64 b[k].start) := (bb.cell (p := ⟨b2, o2 + k * 2 + 1, none⟩) hb2).trans (by rw [Nat.add_assoc]; exact hc2 _ _ g2.2);have z1 := Nat.lt_of_lt_of_le hb1 bb.size;have z2 := Nat.lt_of_lt_of_le hb2 bb.size;rw [List.drop_eq_getElem_cons hlt, List.drop_eq_getElem_cons hkb, cmpPl_cons] at hc;obtain ⟨p, hp⟩ : ∃ p, p = a[k] := ⟨_, rfl⟩;obtain ⟨q, hq⟩ : ∃ q, q = b[k] := ⟨_, rfl⟩;rw [← hp] at c1 c2 hc;rw [← hq] at d1 d2 hc;obtain ⟨pb, ps⟩ := p;obtain ⟨qb, qs⟩ := q;simp only at c1 c2 d1 d2;have hc' : cmpPl a b = if (if pb ≠ qb then pb - qb else ps - qs) ≠ 0 then (if pb ≠ qb then pb - qb else ps - qs) else cmpPl (a.drop (k + 1)) (b.drop (k + 1)) := hc
        have HS := Lib.hid (And.intro hc' bb);have hlt2 : (k : Int) < (l.length : Int) := by omega
        clear hc1 hc2 g1 g2 hp hq hc hc' bb hlt hkb;by_cases e1 : pb = qb
        · subst e1;have n1 : (pb != pb) = false := by simp
          by_cases e2 : ps = qs
          · subst e2;have n2 : (ps != ps) = false := by simp
            go_wp2_with fail
            go_quiet (fail);go_wp2_with fail
            go_quiet (fail);go_wp2_with fail
            go_roundg (gk - 1);case measure => omega
            case rel => exact ⟨k + 1, by omega, by go_num, by rw [HS.out.1]; simp, below_drewN HS.out.2 _⟩
          · have n2 : (ps != qs) = true := by simpa using e2
            have e3 : decide (cmpPl a b < 0) = decide (ps < qs) := by
              rw [HS.out.1, if_neg (show ¬ pb ≠ pb from fun h => h rfl), if_pos (by omega)];exact decide_eq_decide.2 (by omega)
            have HE := Lib.hid e3;clear e3;go_wp2_with fail
            go_quiet (fail);go_wp2_with fail
            go_quiet (fail);go_wp2_with fail
            go_quiet (fail);go_wp2_with fail
            go_ret;exact ⟨by unfold lessS; rw [← HR.out.2.2.1, ← HR.out.2.2.2, if_neg (fun h => h rfl), HE.out]; rfl, below_drewN (below_drewN (below_drewN HS.out.2 _) _) _⟩
        · have n1 : (pb != qb) = true := by simpa using e1
          have e3 : decide (cmpPl a b < 0) = decide (pb < qb) := by
            rw [HS.out.1, if_pos e1, if_pos (by omega)];exact decide_eq_decide.2 (by omega)
          have HE := Lib.hid e3;clear e3;go_wp2_with fail
          go_quiet (fail);go_wp2_with fail
          go_quiet (fail);go_wp2_with fail
          go_ret;exact ⟨by unfold lessS; rw [← HR.out.2.2.1, ← HR.out.2.2.2, if_neg (fun h => h rfl), HE.out]; rfl, below_drewN (below_drewN HS.out.2 _) _⟩
      · obtain rfl : k = l.length := by omega
        rw [List.drop_eq_nil_of_le (by have := HL.out.1; omega : a.length ≤ l.length), List.drop_eq_nil_of_le (by have := HL.out.2; omega : b.length ≤ l.length)] at hc;have HB := Lib.hid (And.intro hc bb);clear hc bb;go_wp2_with fail
        go_ret;exact ⟨by unfold lessS; rw [← HR.out.2.2.1, ← HR.out.2.2.2, if_neg (fun h => h rfl), HB.out.1]; rfl, HB.out.2⟩
  · have n1 : (x != y) = true := by simpa using hxy
    go_wp2_with (go_at_call 44; first | (clear TK; refine HK.out.1.mono ?_; rintro e w1 ⟨rfl, b1⟩; have H1 := Lib.hid b1; clear b1) | (refine (HK.out.2 _ H1.out).mono ?_; rintro e w2 ⟨rfl, b2⟩; have H2 := Lib.hid (H1.out.trans (b2.mono H1.out.size)); clear b2))
    go_ret;exact ⟨by unfold lessS; rw [← HR.out.2.2.1, ← HR.out.2.2.2, if_pos hxy]; rfl, H2.out⟩
end Go.Proofs.YtalcinepeofmcaaGreat
namespace Go.Proofs.YtalcinepeofmcaaGreat.Pt
open Sp
def seekB (p : Prt) (l : List Vst) (n : Nat) (waiting : Int) (free : List Int) (done : List Bool) (i : Nat) (s : Bst) (b : Nat) : Bst :=
  if (p.bts.getD b default).depth < (vs l i).dra ∨ (vs l i).last < max (vs l i).arr (free.getD b 0) then s
  else seekS p l n (waiting + max (vs l i).arr (free.getD b 0) - (vs l i).arr) (free.set b (max (vs l i).arr (free.getD b 0) + (vs l i).stay)) (done.set i true)
    ⟨s.least, s.found, s.places.set i ⟨b, max (vs l i).arr (free.getD b 0)⟩⟩
def seekI (p : Prt) (l : List Vst) (n : Nat) (waiting : Int) (free : List Int) (done : List Bool) (s : Bst) (i : Nat) : Bst :=
  if done.getD i false then s else (List.range p.bts.length).foldl (seekB p l n waiting free done i) s
theorem seekS_succ (p : Prt) (l : List Vst) (n : Nat) (waiting : Int) (free : List Int) (done : List Bool) (s : Bst) :
    seekS p l (n + 1) waiting free done s = if 0 ≤ s.least ∧ s.least < waiting then s else (List.range l.length).foldl (seekI p l n waiting free done) s := rfl
theorem range_foldl_succ {T : Type} (f : T → Nat → T) (s : T) (k : Nat) : (List.range (k + 1)).foldl f s = f ((List.range k).foldl f s) k := by
  rw [List.range_succ, List.foldl_append]; rfl
end Go.Proofs.YtalcinepeofmcaaGreat.Pt
namespace Go.Proofs.YtalcinepeofmcaaGreat
open Go Go.RowKit Sp Pt
structure BC where
  bl : Nat
  bv : Nat
  bp : Nat
  bf : Nat
  bd : Nat
  bq : Nat
  br : Nat
  bs : Nat
  gp : Nat
  gd : Nat
  gf : Nat
  D : Nat
  Ac : Option Addr
  Ab : Option Addr
  Av : Option Addr
  cc : Nat
  cb : Nat
  cv : Nat
  p : Prt
  l : List Vst
abbrev bestCaps (c : BC) : Array Value := #[.pointer (some ⟨c.bl, 0, none⟩), .pointer (some ⟨c.bv, 0, none⟩), .pointer (some ⟨c.bp, 0, none⟩), .pointer (some ⟨c.bf, 0, none⟩), .pointer (some ⟨c.bd, 0, none⟩), .pointer (some ⟨c.bq, 0, none⟩), .pointer (some ⟨c.br, 0, none⟩), .pointer (some ⟨c.bs, 0, none⟩)]
abbrev bset (c : BC) : List Nat := [c.bl, c.bf, c.gp, c.gd, c.gf]
structure BE (c : BC) (W : World) : Prop where
  hv : W.heap[c.bv]? = some (.cells #[.slice c.Av c.l.length c.cv] 26 (0, 0))
  hp : W.heap[c.bp]? = some (.cells #[.slice (some ⟨c.gp, 0, none⟩) c.l.length c.l.length] 27 (0, 0))
  hd : W.heap[c.bd]? = some (.cells #[.slice (some ⟨c.gd, 0, none⟩) c.l.length c.l.length] 37 (0, 0))
  hq : W.heap[c.bq]? = some (.cells (prtV c.Ac c.cc c.Ab c.cb c.p) 25 (0, 0))
  hr : W.heap[c.br]? = some (.cells #[.slice (some ⟨c.gf, 0, none⟩) c.p.bts.length c.p.bts.length] 36 (0, 0))
  hs : W.heap[c.bs]? = some (.cells #[.func (.func 68) #[] (bestCaps c)] 154 (0, 0))
  PB : PrtB c.D W c.Ac c.cc c.Ab c.cb c.p
  VB : RdB c.D W 4 c.Av c.l.length (vscs c.l)
  hD : c.D ≤ W.heap.size
structure BN (c : BC) : Prop where
  nd : c.bl ≠ c.bf ∧ c.bl ≠ c.gp ∧ c.bl ≠ c.gd ∧ c.bl ≠ c.gf ∧ c.bf ≠ c.gp ∧ c.bf ≠ c.gd ∧ c.bf ≠ c.gf ∧ c.gp ≠ c.gd ∧ c.gp ≠ c.gf ∧ c.gd ≠ c.gf
  nv : c.bv ∉ bset c
  np : c.bp ∉ bset c
  nd' : c.bd ∉ bset c
  nq : c.bq ∉ bset c
  nr : c.br ∉ bset c
  ns : c.bs ∉ bset c
  hD : ∀ x ∈ bset c, c.D ≤ x
  len : c.l.length ≤ 5
  vok : ∀ v ∈ c.l, 0 ≤ v.arr ∧ v.arr ≤ 1000 ∧ v.arr ≤ v.last ∧ v.last ≤ 2000 ∧ 1 ≤ v.stay ∧ v.stay ≤ 100 ∧ 10 ≤ v.dra ∧ v.dra ≤ 3000
  pv : PVal c.p
def RdN (S : List Nat) (w : World) (size : Nat) (A : Option Addr) (n cf : Nat) (xs : List Value) : Prop :=
  xs.length = n * size ∧ (0 < n → ∃ b off, A = some ⟨b, off, none⟩ ∧ b < w.heap.size ∧ b ∉ S ∧ ∀ j u, xs[j]? = some u → w.cell? ⟨b, off + j, none⟩ = some u) ∧ n ≤ cf ∧ cf ≤ 9223372036854775807
theorem RdN.rd {S : List Nat} {w : World} {size : Nat} {A : Option Addr} {n cf : Nat} {xs : List Value} (h : RdN S w size A n cf xs) : Rd w size A n xs :=
  ⟨h.1, fun h0 => by obtain ⟨b, off, e, hb, _, hc⟩ := h.2.1 h0; exact ⟨b, off, e, hb, hc⟩⟩
theorem RdN.keep {S : List Nat} {w w' : World} {size : Nat} {A : Option Addr} {n cf : Nat} {xs : List Value} (h : RdN S w size A n cf xs) (hk : Keep S w w') : RdN S w' size A n cf xs :=
  ⟨h.1, fun h0 => by obtain ⟨b, off, e, hb, hn, hc⟩ := h.2.1 h0; exact ⟨b, off, e, Nat.lt_of_lt_of_le hb hk.size, hn, fun j u hu => hk.cell (hc j u hu) hn⟩, h.2.2⟩
structure BS (c : BC) (W w : World) (free : List Int) (done : List Bool) (s : Bst) : Prop where
  kp : Keep (bset c) W w
  le : w.heap[c.bl]? = some (.cells #[.int .i64 s.least] 3 (0, 0))
  pl : w.heap[c.gp]? = some (.cells (plcs s.places).toArray 47 (0, 0))
  dn : w.heap[c.gd]? = some (.cells (bools done).toArray 4 (0, 0))
  fr : w.heap[c.gf]? = some (.cells (ints free).toArray 3 (0, 0))
  fo : ∃ A cf, w.heap[c.bf]? = some (.cells #[.slice A s.found.length cf] 27 (0, 0)) ∧ RdN (bset c) w 2 A s.found.length cf (plcs s.found)
  lp : s.places.length = c.l.length
  ld : done.length = c.l.length
  lf : free.length = c.p.bts.length
  lo : s.found.length ≤ 5
  fb : ∀ x ∈ free, 0 ≤ x ∧ x ≤ 2100
  pb : ∀ x ∈ s.places, plcOk x
  ob : ∀ x ∈ s.found, plcOk x
  leb : -1 ≤ s.least ∧ s.least ≤ 1000000
section
variable {c : BC} {W w w' : World} {free : List Int} {done : List Bool} {s : Bst}
theorem BE.keep (h : BE c W) (n : BN c) (hk : Keep (bset c) W w) : BE c w := by
  have hd : Below c.D W w := hk.below h.hD n.hD;exact ⟨(hk.block _ (hL_ h.hv) n.nv).trans h.hv, (hk.block _ (hL_ h.hp) n.np).trans h.hp, (hk.block _ (hL_ h.hd) n.nd').trans h.hd, (hk.block _ (hL_ h.hq) n.nq).trans h.hq, (hk.block _ (hL_ h.hr) n.nr).trans h.hr, (hk.block _ (hL_ h.hs) n.ns).trans h.hs, h.PB.below hd, h.VB.below hd, Nat.le_trans h.hD hk.size⟩
theorem BE.cells (h : BE c W) : W.cell? ⟨c.bv, 0, none⟩ = some (.slice c.Av c.l.length c.cv) ∧ W.cell? ⟨c.bp, 0, none⟩ = some (.slice (some ⟨c.gp, 0, none⟩) c.l.length c.l.length) ∧ W.cell? ⟨c.bd, 0, none⟩ = some (.slice (some ⟨c.gd, 0, none⟩) c.l.length c.l.length) ∧
    W.cell? ⟨c.bq, 0, none⟩ = some (.slice c.Ac c.p.chs.length c.cc) ∧ W.cell? ⟨c.bq, 1, none⟩ = some (.slice c.Ab c.p.bts.length c.cb) ∧ W.cell? ⟨c.br, 0, none⟩ = some (.slice (some ⟨c.gf, 0, none⟩) c.p.bts.length c.p.bts.length) ∧ W.cell? ⟨c.bs, 0, none⟩ = some (.func (.func 68) #[] (bestCaps c)) :=
  ⟨(cOH h.hv 0).trans rfl, (cOH h.hp 0).trans rfl, (cOH h.hd 0).trans rfl, (cOH h.hq 0).trans rfl, (cOH h.hq 1).trans rfl, (cOH h.hr 0).trans rfl, (cOH h.hs 0).trans rfl⟩
theorem BE.lts (h : BE c W) : c.bv < W.heap.size ∧ c.bp < W.heap.size ∧ c.bd < W.heap.size ∧ c.bq < W.heap.size ∧ c.br < W.heap.size ∧ c.bs < W.heap.size :=
  ⟨hL_ h.hv, hL_ h.hp, hL_ h.hd, hL_ h.hq, hL_ h.hr, hL_ h.hs⟩
theorem BS.lts (h : BS c W w free done s) : c.bl < w.heap.size ∧ c.bf < w.heap.size ∧ c.gp < w.heap.size ∧ c.gd < w.heap.size ∧ c.gf < w.heap.size := by
  obtain ⟨A, cf, h1, _⟩ := h.fo;exact ⟨hL_ h.le, hL_ h1, hL_ h.pl, hL_ h.dn, hL_ h.fr⟩
theorem BS.notin (h : BS c W w free done s) {x : Nat} (hx : w.heap.size ≤ x) : x ∉ bset c := by
  obtain ⟨a, b, d, e, f⟩ := h.lts;simp;omega
theorem BS.start (h : BS c W w free done s) : BS c w w free done s := ⟨Keep.refl _ _, h.le, h.pl, h.dn, h.fr, h.fo, h.lp, h.ld, h.lf, h.lo, h.fb, h.pb, h.ob, h.leb⟩
theorem BS.after {free' : List Int} {done' : List Bool} {s' : Bst} (h : BS c W w free done s) (h' : BS c w w' free' done' s') : BS c W w' free' done' s' :=
  ⟨h.kp.trans h'.kp (fun x hx => .inl hx), h'.le, h'.pl, h'.dn, h'.fr, h'.fo, h'.lp, h'.ld, h'.lf, h'.lo, h'.fb, h'.pb, h'.ob, h'.leb⟩
theorem BS.keep0 (h : BS c W w free done s) (hk : Keep [] w w') : BS c W w' free done s := by
  obtain ⟨A, cf, h1, h2⟩ := h.fo;have B : ∀ {x : Nat} {o : Obj}, w.heap[x]? = some o → w'.heap[x]? = some o := fun hx => (hk.block _ (hL_ hx) (by simp)).trans hx;exact ⟨h.kp.trans hk (by simp), B h.le, B h.pl, B h.dn, B h.fr, ⟨A, cf, B h1, h2.keep (hk.mono (by simp))⟩, h.lp, h.ld, h.lf, h.lo, h.fb, h.pb, h.ob, h.leb⟩
theorem BS.alloc (h : BS c W w free done s) (o : Obj) : BS c W (w.alloc o) free done s := h.keep0 ((Keep.refl _ _).alloc o)
end
theorem plcs_set (x : Plc) : ∀ (P : List Plc) (i : Nat), i < P.length → ((plcs P).set (i * 2) (.int .i64 x.berth)).set (i * 2 + 1) (.int .i64 x.start) = plcs (P.set i x)
  | [], i, h => absurd h (by simp)
  | y :: P, 0, _ => by simp [plcs, plc]
  | y :: P, i + 1, h => by
    have := plcs_set x P i (by simpa using h);have e : (i + 1) * 2 = i * 2 + 1 + 1 := by omega
    simp only [plcs, List.flatMap_cons, plc, List.cons_append, List.nil_append, List.set_cons_succ, e] at this ⊢;rw [this]
theorem bools_setA (d : List Bool) (i : Nat) (x : Bool) : (bools d).toArray.setIfInBounds i (.bool x) = (bools (d.set i x)).toArray := by simp [bools, List.map_set]
theorem ints_setA (d : List Int) (i : Nat) (x : Int) : (ints d).toArray.setIfInBounds i (.int .i64 x) = (ints (d.set i x)).toArray := by simp [ints, List.map_set]
theorem plcs_setA (P : List Plc) (i : Nat) (x : Plc) (h : i < P.length) : ((plcs P).toArray.setIfInBounds (i * 2) (.int .i64 x.berth)).setIfInBounds (i * 2 + 1) (.int .i64 x.start) = (plcs (P.set i x)).toArray := by
  rw [List.setIfInBounds_toArray, List.setIfInBounds_toArray, plcs_set x P i h]
end Go.Proofs.YtalcinepeofmcaaGreat
