import Derived.Test.YtalcinepeofmcaaGreatPBp13
import Derived.Test.YtalcinepeofmcaaGreatPBp9
import Derived.BigQuiet
set_option linter.unusedVariables false
set_option linter.unusedSimpArgs false
set_option maxRecDepth 100000
set_option maxHeartbeats 40000000
namespace Go.Proofs.YtalcinepeofmcaaGreat
open Go Go.RowKit Sp Pt
abbrev seekA (c : BC) (placed : Nat) (waiting : Int) : Array Value := #[.int .i64 placed, .int .i64 waiting, .pointer (some ⟨c.bl, 0, none⟩), .pointer (some ⟨c.bv, 0, none⟩), .pointer (some ⟨c.bp, 0, none⟩), .pointer (some ⟨c.bf, 0, none⟩), .pointer (some ⟨c.bd, 0, none⟩), .pointer (some ⟨c.bq, 0, none⟩), .pointer (some ⟨c.br, 0, none⟩), .pointer (some ⟨c.bs, 0, none⟩)]
theorem rdN_clone {S : List Nat} {w w2 : World} {A : Option Addr} {n c : Nat} {xs : List Value} {q : List Nat} (h : OwnS w2 47 2 A n c xs q) (hq : ∀ g ∈ q, w.heap.size ≤ g) (hS : ∀ x ∈ S, x < w.heap.size) : RdN S w2 2 A n c xs := by
  refine ⟨h.1, fun h0 => ?_, h.ge, h.cap⟩;rcases h.2 with ⟨_, h1, _⟩ | ⟨g, cur, e, hg, hh, _, _, _, hc⟩
  · omega
  · refine ⟨g, 0, e, hL_ hh, fun hm => ?_, fun j u hu => (cOH hh _).trans (by simpa using hc j u hu)⟩;have h1 := hS g hm;have h2 := hq g (by rw [hg]; simp);omega
theorem BS.leaf {c : BC} {W w w2 : World} {free : List Int} {done : List Bool} {s : Bst} {A : Option Addr} {cf : Nat} {q : List Nat} {x : Int} (h : BS c W w free done s) (N : BN c) (ho : OwnS w2 47 2 A c.l.length cf (plcs s.places) q) (hq : ∀ g ∈ q, w.heap.size ≤ g) (hb : Below w.heap.size w w2) (hx : 0 ≤ x ∧ x ≤ 1000000) :
    BS c W ((w2.setCell ⟨c.bf, 0, none⟩ (.slice A c.l.length cf)).setCell ⟨c.bl, 0, none⟩ (.int .i64 x)) free done ⟨x, s.places, s.places⟩ := by
  have k0 : Keep [] w w2 := Keep.of_below hb;have h2 := h.keep0 k0;obtain ⟨a1, a2, a3, a4, a5, a6, a7, a8, a9, a10⟩ := N.nd;obtain ⟨A0, c0, f1, _⟩ := h2.fo;obtain ⟨z1, z2, z3, z4, z5⟩ := h.lts;have hr : RdN (bset c) w2 2 A c.l.length cf (plcs s.places) := rdN_clone ho hq (by simp; omega);refine ⟨(h2.kp.setCell (.inl (by simp)) _).setCell (.inl (by simp)) _, hS_ (hSN h2.le a1 _) 0 _, hSN (hSN h2.pl a5.symm _) a2.symm _, hSN (hSN h2.dn a6.symm _) a3.symm _, hSN (hSN h2.fr a7.symm _) a4.symm _, ⟨A, cf, ?_, ?_⟩, h.lp, h.ld, h.lf, by rw [h.lp]; exact N.len, h.fb, h.pb, h.pb, by simp only; omega⟩
  · rw [show s.places.length = c.l.length from h.lp]; exact hSN (hS_ f1 0 _) a1.symm _
  · rw [show s.places.length = c.l.length from h.lp];exact hr.keep (((Keep.refl _ _).setCell (.inl (by simp)) _).setCell (.inl (by simp)) _)
theorem seek_leaf {c : BC} {W : World} {free : List Int} {done : List Bool} {s : Bst} {waiting : Int} (E : BE c W) (N : BN c) (S : BS c W W free done s) (hw : 0 ≤ waiting ∧ waiting ≤ 1000000) :
    Calls Tryz.prog 68 (seekA c c.l.length waiting) W fun e w' => e = .returned (.tuple #[]) ∧ BS c W w' free done (seekS c.p c.l 0 waiting free done s) := by
  obtain ⟨q1, q2, q3, q4, q5, q6, q7⟩ := E.cells;obtain ⟨y1, y2, y3, y4, y5, y6⟩ := E.lts;obtain ⟨z1, z2, z3, z4, z5⟩ := S.lts;obtain ⟨Af, cf, f1, f2⟩ := S.fo;have hS : seekS c.p c.l 0 waiting free done s = if 0 ≤ s.least ∧ s.least < waiting then s else bestLeaf waiting s := rfl
  obtain ⟨le, hle⟩ : ∃ le, le = s.least := ⟨_, rfl⟩;obtain ⟨nf, hnf⟩ : ∃ nf, nf = s.found.length := ⟨_, rfl⟩;have l1 : W.cell? ⟨c.bl, 0, none⟩ = some (.int .i64 le) := by rw [hle]; exact (cOH S.le 0).trans rfl
  have l2 : W.cell? ⟨c.bf, 0, none⟩ = some (.slice Af nf cf) := by rw [hnf]; exact (cOH f1 0).trans rfl
  have g1 := fOH S.le 0;have g2 := fOH f1 0;have hnl : c.l.length ≤ 5 := N.len;have rp : Rd W 2 (some ⟨c.gp, 0, none⟩) c.l.length (plcs s.places) := ⟨by rw [flat_len (s := 2) (fun _ => rfl), S.lp], fun _ => ⟨c.gp, 0, rfl, z3, fun j u hu => (cOH S.pl _).trans (by simpa using hu)⟩⟩;have kcl := fun wx (b : Below W.heap.size W wx) => clonePlc_any (some ⟨c.gp, 0, none⟩) c.l.length c.l.length (plcs s.places) wx (rp.below b) (by intro u hu; simp [plcs, plc] at hu; obtain ⟨a, _, rfl | rfl⟩ := hu <;> rfl) (fun h => by cases h) (by omega);have rp2 := rp;rw [← S.lp] at rp2;have kcm := cmpPl_any (some ⟨c.gp, 0, none⟩) c.l.length s.places Af cf s.found W rp2 f2.rd S.pb S.ob (by rw [S.lp]; omega) (by have := S.lo; omega);rw [S.lp, ← hnf] at kcm;obtain ⟨r, hr⟩ : ∃ r, r = cmpPl s.places s.found := ⟨_, rfl⟩;rw [← hr] at kcm;have hL : bestLeaf waiting s = if le < 0 ∨ waiting < le ∨ r < 0 then ⟨waiting, s.places, s.places⟩ else s := by rw [hle, hr]; rfl
  rw [← hle] at hS;have H := Lib.hid (And.intro E (And.intro N (And.intro S (And.intro hS (And.intro hL (And.intro kcl kcm))))));clear E N S hS hL kcl kcm rp rp2 f1 f2 hle hnf hr
  go_enter Tryz.func68, Tryz.ntmps68
  have hnn : ((c.l.length : Int) == (c.l.length : Int)) = true := by simp
  by_cases h1 : 0 ≤ le
  · by_cases h2 : le < waiting
    · go_step3
      go_wp2_with fail
      try rw [Exit.noGoto_ret]
      refine bodyPost_ret (results_none rfl _ _ _) rfl ?_;exact ⟨rfl, by rw [H.out.2.2.2.1, if_pos (by omega)]; exact H.out.2.2.1⟩
    · by_cases h3 : waiting < le
      · go_step3
        go_wp2_with (go_at_call 8; refine (H.out.2.2.2.2.2.1 _ (Below.refl _ _)).mono ?_; rintro e w2 ⟨A', c', q, rfl, o1, o2, o3⟩; have u := H.out.2.2.1.keep0 (Keep.of_below (S := []) o3); obtain ⟨A0, c0, e1, _⟩ := u.fo; have u1 := fOH u.le 0; have u2 := fOH e1 0; have u3 := (cOH u.le 0).trans rfl; have u4 := (cOH e1 0).trans rfl; have u5 := hL_ u.le; have u6 := hL_ e1; have u7 : ∀ v, (w2.setCell ⟨c.bf, 0, none⟩ v).cell? ⟨c.bl, 0, none⟩ = some (.int .i64 s.least) := fun v => (cOH (hSN u.le H.out.2.1.nd.1 v) 0).trans rfl; have u8 : ∀ v, (w2.setCell ⟨c.bf, 0, none⟩ v).frozen? ⟨c.bl, 0, none⟩ = false := fun v => fOH (hSN u.le H.out.2.1.nd.1 v) 0; have HC := Lib.hid (And.intro o1 (And.intro o2 o3)); clear o1 o2 o3 u e1)
        try rw [Exit.noGoto_ret]
        refine bodyPost_ret (results_none rfl _ _ _) rfl ?_;refine ⟨rfl, ?_⟩;rw [H.out.2.2.2.1, if_neg (by omega), H.out.2.2.2.2.1, if_pos (.inr (.inl (by omega)))];exact H.out.2.2.1.leaf H.out.2.1 HC.out.1 HC.out.2.1 HC.out.2.2 hw
      · by_cases h4 : r < 0
        · go_step3
          go_wp2_with (first | (go_at_call 69; refine H.out.2.2.2.2.2.2.mono ?_; rintro e w1 ⟨rfl, b1⟩; have q2' := (b1.cell (p := ⟨c.bp, 0, none⟩) y2).trans q2) | (go_at_call 8; refine (H.out.2.2.2.2.2.1 _ b1).mono ?_; rintro e w2 ⟨A', c', q, rfl, o1, o2, o3'⟩; have o3 := b1.trans (o3'.mono b1.size); have o2' : ∀ g ∈ q, W.heap.size ≤ g := fun g hg => Nat.le_trans b1.size (o2 g hg); clear o2; have o2 := o2'; clear o2'; have u := H.out.2.2.1.keep0 (Keep.of_below (S := []) o3); obtain ⟨A0, c0, e1, _⟩ := u.fo; have u1 := fOH u.le 0; have u2 := fOH e1 0; have u3 := (cOH u.le 0).trans rfl; have u4 := (cOH e1 0).trans rfl; have u5 := hL_ u.le; have u6 := hL_ e1; have u7 : ∀ v, (w2.setCell ⟨c.bf, 0, none⟩ v).cell? ⟨c.bl, 0, none⟩ = some (.int .i64 s.least) := fun v => (cOH (hSN u.le H.out.2.1.nd.1 v) 0).trans rfl; have u8 : ∀ v, (w2.setCell ⟨c.bf, 0, none⟩ v).frozen? ⟨c.bl, 0, none⟩ = false := fun v => fOH (hSN u.le H.out.2.1.nd.1 v) 0; have HC := Lib.hid (And.intro o1 (And.intro o2 o3)); clear o1 o2 o3 u e1))
          try rw [Exit.noGoto_ret]
          refine bodyPost_ret (results_none rfl _ _ _) rfl ?_;refine ⟨rfl, ?_⟩;rw [H.out.2.2.2.1, if_neg (by omega), H.out.2.2.2.2.1, if_pos (.inr (.inr (by omega)))];exact H.out.2.2.1.leaf H.out.2.1 HC.out.1 HC.out.2.1 HC.out.2.2 hw
        · go_step3
          go_wp2_with (go_at_call 69; refine H.out.2.2.2.2.2.2.mono ?_; rintro e w1 ⟨rfl, b1⟩; have q2' := (b1.cell (p := ⟨c.bp, 0, none⟩) y2).trans q2)
          try rw [Exit.noGoto_ret]
          refine bodyPost_ret (results_none rfl _ _ _) rfl ?_;exact ⟨rfl, by rw [H.out.2.2.2.1, if_neg (by omega), H.out.2.2.2.2.1, if_neg (by omega)]; exact H.out.2.2.1.keep0 (Keep.of_below b1)⟩
  · go_step3
    go_wp2_with (go_at_call 8; refine (H.out.2.2.2.2.2.1 _ (Below.refl _ _)).mono ?_; rintro e w2 ⟨A', c', q, rfl, o1, o2, o3⟩; have u := H.out.2.2.1.keep0 (Keep.of_below (S := []) o3); obtain ⟨A0, c0, e1, _⟩ := u.fo; have u1 := fOH u.le 0; have u2 := fOH e1 0; have u3 := (cOH u.le 0).trans rfl; have u4 := (cOH e1 0).trans rfl; have u5 := hL_ u.le; have u6 := hL_ e1; have u7 : ∀ v, (w2.setCell ⟨c.bf, 0, none⟩ v).cell? ⟨c.bl, 0, none⟩ = some (.int .i64 s.least) := fun v => (cOH (hSN u.le H.out.2.1.nd.1 v) 0).trans rfl; have u8 : ∀ v, (w2.setCell ⟨c.bf, 0, none⟩ v).frozen? ⟨c.bl, 0, none⟩ = false := fun v => fOH (hSN u.le H.out.2.1.nd.1 v) 0; have HC := Lib.hid (And.intro o1 (And.intro o2 o3)); clear o1 o2 o3 u e1)
    try rw [Exit.noGoto_ret]
    refine bodyPost_ret (results_none rfl _ _ _) rfl ?_;refine ⟨rfl, ?_⟩;rw [H.out.2.2.2.1, if_neg (by omega), H.out.2.2.2.2.1, if_pos (.inl (by omega))];exact H.out.2.2.1.leaf H.out.2.1 HC.out.1 HC.out.2.1 HC.out.2.2 hw
def BqV (W0 : World) (vb gd gf gp nl m k j : Nat) (st sy : Int) (da fa pa : Array Value) : Nat → Value → Prop
  | 0, v => v = .slice (some ⟨gd, 0, none⟩) nl nl
  | 1, v => v = .int .i64 k
  | 2, v => v = .slice (some ⟨gf, 0, none⟩) m m
  | 3, v => v = .int .i64 j
  | 4, v => v = .slice (some ⟨gp, 0, none⟩) nl nl
  | 5, v => v = .int .i64 k
  | 6, v => v = .int .i64 st
  | 7, v => v = .pointer (some ⟨vb, 2, none⟩)
  | 8, v => v = .int .i64 sy
  | 9, v => v = .int .i64 (st + sy)
  | 10, v => v = .int .i64 j
  | 11, v => v = .int .i64 st
  | 12, v => v = .agg #[.int .i64 j, .int .i64 st]
  | 13, v => v = .pointer (some ⟨gd, k, none⟩)
  | 15, v => v = .pointer (some ⟨gf, j, none⟩)
  | 17, v => v = .pointer (some ⟨gp, k * 2, none⟩)
  | _, _ => True
def BqW (W0 : World) (vb gd gf gp nl m k j : Nat) (st sy : Int) (da fa pa : Array Value) (l : Nat → Bool) (w : World) : Prop := Keep [gd, gf, gp] W0 w ∧ w.heap[gd]? = some (.cells (if l 14 then da.setIfInBounds k (.bool true) else da) 4 (0, 0)) ∧ w.heap[gf]? = some (.cells (if l 16 then fa.setIfInBounds j (.int .i64 (st + sy)) else fa) 3 (0, 0)) ∧ w.heap[gp]? = some (.cells (if l 18 then (pa.setIfInBounds (k * 2) (.int .i64 j)).setIfInBounds (k * 2 + 1) (.int .i64 st) else pa) 47 (0, 0))
def BrV (W0 : World) (gd gf nl m k j : Nat) (x : Int) (da fa : Array Value) : Nat → Value → Prop
  | 0, v => v = .slice (some ⟨gd, 0, none⟩) nl nl
  | 1, v => v = .int .i64 k
  | 2, v => v = .slice (some ⟨gf, 0, none⟩) m m
  | 3, v => v = .int .i64 j
  | 4, v => v = .int .i64 x
  | 5, v => v = .pointer (some ⟨gd, k, none⟩)
  | 7, v => v = .pointer (some ⟨gf, j, none⟩)
  | _, _ => True
def BrW (W0 : World) (gd gf nl m k j : Nat) (x : Int) (da fa : Array Value) (l : Nat → Bool) (w : World) : Prop := Keep [gd, gf] W0 w ∧ w.heap[gd]? = some (.cells (if l 6 then da.setIfInBounds k (.bool false) else da) 4 (0, 0)) ∧ w.heap[gf]? = some (.cells (if l 8 then fa.setIfInBounds j (.int .i64 x) else fa) 3 (0, 0))
def BmV (W0 : World) (vb br gf m j : Nat) (ar x st : Int) : Nat → Value → Prop
  | 0, v => v = .pointer (some ⟨vb, 0, none⟩)
  | 1, v => v = .int .i64 ar
  | 2, v => v = .slice (some ⟨gf, 0, none⟩) m m
  | 3, v => v = .int .i64 j
  | 4, v => v = .pointer (some ⟨gf, j, none⟩)
  | 5, v => v = .int .i64 x
  | 6, v => v = .int .i64 st
  | 7, v => v = .int .i64 st
  | _, _ => True
def BmW (W0 : World) (vb br gf m j : Nat) (ar x st : Int) (l : Nat → Bool) (w : World) : Prop := w = W0.drew
def SeekOk (c : BC) (n : Nat) : Prop := ∀ (W : World) (free : List Int) (done : List Bool) (s : Bst) (placed : Nat) (waiting : Int), BE c W → BS c W W free done s → placed + n = c.l.length → 0 ≤ waiting → waiting ≤ 2000 * placed →
  Calls Tryz.prog 68 (seekA c placed waiting) W fun e w' => e = .returned (.tuple #[]) ∧ BS c W w' free done (seekS c.p c.l n waiting free done s)
theorem getD_mem {l : List Int} {j : Nat} (h : j < l.length) : l.getD j 0 ∈ l := by rw [List.getD_eq_getElem?_getD, List.getElem?_eq_getElem h]; exact List.getElem_mem h
theorem sb14 {c : BC} {W w w' : World} {free : List Int} {done : List Bool} {s : Bst} {k j : Nat} {st sy : Int} (h : BS c W w free done s) (N : BN c) (hk : k < c.l.length) (hj : j < c.p.bts.length)
    (hw : Keep [c.gd, c.gf, c.gp] w w' ∧ w'.heap[c.gd]? = some (.cells ((bools done).toArray.setIfInBounds k (.bool true)) 4 (0, 0)) ∧ w'.heap[c.gf]? = some (.cells ((ints free).toArray.setIfInBounds j (.int .i64 (st + sy))) 3 (0, 0)) ∧ w'.heap[c.gp]? = some (.cells (((plcs s.places).toArray.setIfInBounds (k * 2) (.int .i64 j)).setIfInBounds (k * 2 + 1) (.int .i64 st)) 47 (0, 0)))
    (hst : 0 ≤ st ∧ st ≤ 2000) (hsy : 1 ≤ sy ∧ sy ≤ 100) : BS c W w' (free.set j (st + sy)) (done.set k true) ⟨s.least, s.found, s.places.set k ⟨j, st⟩⟩ := by
  obtain ⟨k0, h1, h2, h3⟩ := hw;obtain ⟨a1, a2, a3, a4, a5, a6, a7, a8, a9, a10⟩ := N.nd;have kb : Keep (bset c) w w' := k0.mono (by simp);obtain ⟨A, cf, f1, f2⟩ := h.fo;have hb := N.pv.nb;refine ⟨h.kp.trans kb (fun x hx => .inl hx), (k0.block _ (hL_ h.le) (by simp; exact ⟨a3, a4, a2⟩)).trans h.le, ?_, by rw [← bools_setA]; exact h1, by rw [← ints_setA]; exact h2, ⟨A, cf, (k0.block _ (hL_ f1) (by simp; exact ⟨a6, a7, a5⟩)).trans f1, f2.keep kb⟩, by simp only [List.length_set]; exact h.lp, by rw [List.length_set]; exact h.ld, by rw [List.length_set]; exact h.lf, h.lo, ?_, ?_, h.ob, h.leb⟩
  · have := plcs_setA s.places k ⟨(j : Int), st⟩ (by rw [h.lp]; exact hk);simp only at this;rw [← this]; exact h3
  · intro x hx;rcases List.mem_or_eq_of_mem_set hx with hx | rfl
    · exact h.fb x hx
    · omega
  · intro x hx;rcases List.mem_or_eq_of_mem_set hx with hx | rfl
    · exact h.pb x hx
    · exact ⟨by simp only; omega, by simp only; omega, by simp only; omega, by simp only; omega⟩
theorem sb16 {c : BC} {W w w' : World} {free : List Int} {done : List Bool} {s : Bst} {k j : Nat} {x y : Int} (h : BS c W w (free.set j y) (done.set k true) s) (N : BN c) (hd : k < done.length ∧ done.getD k false = false) (hx : x = free.getD j 0 ∧ 0 ≤ x ∧ x ≤ 2100) (hj : j < c.p.bts.length)
    (hw : Keep [c.gd, c.gf] w w' ∧ w'.heap[c.gd]? = some (.cells ((bools (done.set k true)).toArray.setIfInBounds k (.bool false)) 4 (0, 0)) ∧ w'.heap[c.gf]? = some (.cells ((ints (free.set j y)).toArray.setIfInBounds j (.int .i64 x)) 3 (0, 0))) : BS c W w' free done s := by
  obtain ⟨k0, h1, h2⟩ := hw;obtain ⟨a1, a2, a3, a4, a5, a6, a7, a8, a9, a10⟩ := N.nd;have kb : Keep (bset c) w w' := k0.mono (by simp);obtain ⟨A, cf, f1, f2⟩ := h.fo;have lf : free.length = c.p.bts.length := by have := h.lf; rwa [List.length_set] at this
  have ed : (done.set k true).set k false = done := by
    rw [List.set_set];have := List.set_getElem_self hd.1;have e : done[k]'hd.1 = false := by have := hd.2; rwa [List.getD_eq_getElem?_getD, List.getElem?_eq_getElem hd.1] at this
    rw [e] at this;exact this
  have ef : (free.set j y).set j x = free := by
    rw [List.set_set];have hjl : j < free.length := by rw [lf]; exact hj
    have := List.set_getElem_self hjl;have e : free[j]'hjl = x := by have := hx.1; rw [List.getD_eq_getElem?_getD, List.getElem?_eq_getElem hjl] at this; exact this.symm
    rw [e] at this;exact this
  rw [bools_setA, ed] at h1;rw [ints_setA, ef] at h2;refine ⟨h.kp.trans kb (fun x hx => .inl hx), (k0.block _ (hL_ h.le) (by simp; exact ⟨a3, a4⟩)).trans h.le, (k0.block _ (hL_ h.pl) (by simp; exact ⟨a8, a9⟩)).trans h.pl, h1, h2, ⟨A, cf, (k0.block _ (hL_ f1) (by simp; exact ⟨a6, a7⟩)).trans f1, f2.keep kb⟩, h.lp, by have := h.ld; rwa [List.length_set] at this, lf, h.lo, ?_, h.pb, h.ob, h.leb⟩;intro z hz;by_cases e : z = x
  · subst e; exact hx.2
  · obtain ⟨i, hi, rfl⟩ := List.mem_iff_getElem.1 hz;by_cases ei : i = j
    · subst ei;exact absurd (by have := hx.1; rw [List.getD_eq_getElem?_getD, List.getElem?_eq_getElem hi] at this; exact this.symm) e
    · refine h.fb _ (List.mem_iff_getElem.2 ⟨i, by rw [List.length_set]; exact hi, ?_⟩);rw [List.getElem_set_ne (fun h => ei h.symm)]
theorem seek_step {c : BC} {n : Nat} (N : BN c) (ih : SeekOk c n) : SeekOk c (n + 1) := by
  intro W free done s placed waiting E S hpl hw0 hw1;obtain ⟨q1, q2, q3, q4, q5, q6, q7⟩ := E.cells;obtain ⟨y1, y2, y3, y4, y5, y6⟩ := E.lts;obtain ⟨z1, z2, z3, z4, z5⟩ := S.lts;obtain ⟨le, hle⟩ : ∃ le, le = s.least := ⟨_, rfl⟩;have l1 : W.cell? ⟨c.bl, 0, none⟩ = some (.int .i64 le) := by rw [hle]; exact (cOH S.le 0).trans rfl
  have hnl : c.l.length ≤ 5 := N.len;have hnb := N.pv.nb;have hS := seekS_succ c.p c.l n waiting free done s;rw [← hle] at hS;have hcb := E.PB.c2;have H := Lib.hid (And.intro E (And.intro S (And.intro hS ih)));have HN := Lib.hid N;clear E S hS hle N ih;have hne : ((placed : Int) == (c.l.length : Int)) = false := beq_eq_false_iff_ne.2 (by omega);have hp5 : placed + 1 ≤ 5 := by omega
  obtain ⟨d0, hd0⟩ : ∃ d, d = decide (0 ≤ le ∧ le < waiting) := ⟨_, rfl⟩;have HD := Lib.hid hd0
  go_enter Tryz.func68, Tryz.ntmps68
  go_step3
  go_upto_region 0 with fail
  go_cut [24] from 18 to 24 (fun b wx => b = .bool d0 ∧ W = wx)
  case first =>
    by_cases h1 : 0 ≤ le
    · by_cases h2 : le < waiting
      · go_wp2_with fail
        go_meet
        exact ⟨by rw [hd0, decide_eq_true ⟨h1, h2⟩], rfl⟩
      · go_wp2_with fail
        go_meet
        exact ⟨by rw [hd0, decide_eq_false (by omega)], rfl⟩
    · go_wp2_with fail
      go_meet
      exact ⟨by rw [hd0, decide_eq_false (by omega)], rfl⟩
  case rest =>
  obtain ⟨rfl, rfl⟩ := hcut;clear hd0 l1;cases d0
  · have hno : ¬ (0 ≤ le ∧ le < waiting) := of_decide_eq_false HD.out.symm;have HO := Lib.hid hno;clear hno;have hW2 : ∃ W1, W1 = W := ⟨_, rfl⟩;go_wp2_with fail
    go_step3
    go_wp2_with fail
    go_loopg [47] (c.l.length) (fun g i wr => ∃ k : Nat, g + k = c.l.length ∧ i = .int .i64 k ∧ BS c W wr free done ((List.range k).foldl (seekI c.p c.l n waiting free done) s))
    case atStart => exact ⟨0, rfl, rfl, H.out.2.1⟩
    case round =>
      obtain ⟨k, hk0, rfl, hSk⟩ := hrel;obtain ⟨sk, hsk⟩ : ∃ sk, sk = (List.range k).foldl (seekI c.p c.l n waiting free done) s := ⟨_, rfl⟩;rw [← hsk] at hSk;by_cases hk : k < c.l.length
      · obtain ⟨v, hv⟩ : ∃ v, v = c.l[k] := ⟨_, rfl⟩;have hvs : vs c.l k = v := by rw [hv]; simp [vs, hk]
        have hvok := HN.out.vok v (by rw [hv]; exact List.getElem_mem hk);have Er := H.out.1.keep HN.out hSk.kp;obtain ⟨b, off, eAv, hbD, hcell⟩ := Er.VB.2 (by omega);obtain ⟨g0, g1, g2, g3⟩ := vscs_get hk;rw [← hv] at g0 g1 g2 g3;have d0 := hcell _ _ g0;have d1 : wr.cell? ⟨b, off + k * 4 + 1, none⟩ = _ := hcell _ _ g1;have d2 : wr.cell? ⟨b, off + k * 4 + 2, none⟩ = _ := hcell _ _ g2;have d3 : wr.cell? ⟨b, off + k * 4 + 3, none⟩ = _ := hcell _ _ g3;have zb := World.block_lt_of_cell? _ _ d0;obtain ⟨ar, la, sy, dr⟩ := v;simp only at d0 d1 d2 d3 hvok;obtain ⟨ar0, ar1, la0, la1, sy0, sy1, dr0, dr1⟩ := hvok;obtain ⟨W2, hW2⟩ : ∃ W2, W2 = wr.alloc (.cells #[.int .i64 ar, .int .i64 la, .int .i64 sy, .int .i64 dr] 44) := ⟨_, rfl⟩;obtain ⟨vb, hvb⟩ : ∃ vb, vb = wr.heap.size := ⟨_, rfl⟩;have hxh : W2.heap[vb]? = some (.cells #[.int .i64 ar, .int .i64 la, .int .i64 sy, .int .i64 dr] 44 (0, 0)) := by rw [hW2, hvb]; exact heap_alloc_new _ _
        have S2 : BS c W W2 free done sk := by rw [hW2]; exact hSk.alloc _
        have nvb : vb ∉ bset c := hSk.notin (by omega);have E2 := H.out.1.keep HN.out S2.kp;obtain ⟨dk, hdk⟩ : ∃ dk, dk = done.getD k false := ⟨_, rfl⟩;have hdl : k < done.length := by rw [hSk.ld]; exact hk
        have u3 := (cOH S2.dn k).trans (show (bools done).toArray[k]? = some (.bool dk) by rw [hdk, List.getElem?_toArray]; exact bools_get hdl);obtain ⟨r1, r2, r3, r4, r5, r6, r7⟩ := E2.cells;obtain ⟨y1, y2, y3, y4, y5, y6⟩ := E2.lts;obtain ⟨z1, z2, z3, z4, z5⟩ := S2.lts;have k1 : (0 : Int) ≤ (k : Int) := by omega
        have k2 : (k : Int) < (c.l.length : Int) := by omega
        have hI : (List.range (k + 1)).foldl (seekI c.p c.l n waiting free done) s = if dk then sk else (List.range c.p.bts.length).foldl (seekB c.p c.l n waiting free done k) sk := by rw [range_foldl_succ, ← hsk, seekI, ← hdk]
        have HK := Lib.hid (And.intro S2 (And.intro E2 (And.intro hxh (And.intro hI (And.intro hvs (And.intro hdk (And.intro nvb hdl)))))));have q1' := (hSk.kp.cell q1 HN.out.nv);clear hSk hsk Er hcell g0 g1 g2 g3 hv hvs S2 E2 hxh hI hdk nvb hdl q1 q2 q3 q4 q5 q6 q7 hbD;rw [eAv];cases dk
        · go_upto_region 7 with fail
          rw [← hW2, ← hvb];clear hW2 hvb d0 d1 d2 d3 zb q1';go_wp2_with fail
          obtain ⟨gb, rfl⟩ : ∃ gb, gb = gk := ⟨_, rfl⟩
          go_loopg [59] (c.p.bts.length) (fun g i wi => ∃ j : Nat, g + j = c.p.bts.length ∧ i = .int .i64 j ∧ BS c W2 wi free done ((List.range j).foldl (seekB c.p c.l n waiting free done k) sk))
          case atStart => exact ⟨0, rfl, rfl, HK.out.1.start⟩
          case round =>
            obtain ⟨j, hj0, rfl, hSj⟩ := hrel;obtain ⟨sj, hsj⟩ : ∃ sj, sj = (List.range j).foldl (seekB c.p c.l n waiting free done k) sk := ⟨_, rfl⟩;rw [← hsj] at hSj;by_cases hlj : j < c.p.bts.length
            · have Ej := HK.out.2.1.keep HN.out hSj.kp;obtain ⟨b2, off2, Ak, ck, eAb, hbD2, e1, e2, e3⟩ := Ej.PB.bts j hlj;obtain ⟨bx, hbx⟩ : ∃ bx, bx = c.p.bts[j] := ⟨_, rfl⟩;have hbe : c.p.bts.getD j default = bx := by rw [hbx]; simp [List.getD_eq_getElem?_getD, hlj]
              have hbm := HN.out.pv.btf bx (by rw [hbx]; exact List.getElem_mem hlj);rw [← hbx] at e1 e2;obtain ⟨dp, pth⟩ := bx;simp only at e1 e2 hbm;have zb2 := World.block_lt_of_cell? _ _ e1;obtain ⟨x, hx⟩ : ∃ x, x = free.getD j 0 := ⟨_, rfl⟩;have hfl : j < free.length := by rw [hSj.lf]; exact hlj
              have hxb : x = free.getD j 0 ∧ 0 ≤ x ∧ x ≤ 2100 := ⟨hx, by rw [hx]; exact hSj.fb _ (getD_mem hfl)⟩;obtain ⟨st, hst⟩ : ∃ st, st = max ar x := ⟨_, rfl⟩;have hB : (List.range (j + 1)).foldl (seekB c.p c.l n waiting free done k) sk = if dp < dr ∨ la < st then sj else seekS c.p c.l n (waiting + st - ar) (free.set j (st + sy)) (done.set k true) ⟨sj.least, sj.found, sj.places.set k ⟨j, st⟩⟩ := by
                rw [range_foldl_succ, ← hsj, seekB, HK.out.2.2.2.2.1, hbe, ← hx, ← hst]
              obtain ⟨W4, hW4⟩ : ∃ W4, W4 = wr.alloc (.cells #[.int .i64 dp, .slice Ak pth.length ck] 83) := ⟨_, rfl⟩;obtain ⟨bb, hbb⟩ : ∃ bb, bb = wr.heap.size := ⟨_, rfl⟩;have hbh : W4.heap[bb]? = some (.cells #[.int .i64 dp, .slice Ak pth.length ck] 83 (0, 0)) := by rw [hW4, hbb]; exact heap_alloc_new _ _
              have S4 : BS c W2 W4 free done sj := by rw [hW4]; exact hSj.alloc _
              have E4 := HK.out.2.1.keep HN.out S4.kp;have hv4 := (S4.kp.block _ (hL_ HK.out.2.2.1) HK.out.2.2.2.2.2.2.1).trans HK.out.2.2.1;have x0 : W4.cell? ⟨vb, 0, none⟩ = some (.int .i64 ar) := (cOH hv4 0).trans rfl;have x1 : W4.cell? ⟨vb, 1, none⟩ = some (.int .i64 la) := (cOH hv4 1).trans rfl;have x2 : W4.cell? ⟨vb, 2, none⟩ = some (.int .i64 sy) := (cOH hv4 2).trans rfl;have x3 : W4.cell? ⟨vb, 3, none⟩ = some (.int .i64 dr) := (cOH hv4 3).trans rfl;have p0 : W4.cell? ⟨bb, 0, none⟩ = some (.int .i64 dp) := (cOH hbh 0).trans rfl;obtain ⟨q1, q2, q3, q4, q5, q6, q7⟩ := E4.cells;obtain ⟨y1, y2, y3, y4, y5, y6⟩ := E4.lts;obtain ⟨z1, z2, z3, z4, z5⟩ := S4.lts;have zv := hL_ hv4;have zbb := hL_ hbh;have F0 : (ints free).toArray[j]? = some (.int .i64 x) := by rw [hx, List.getElem?_toArray]; exact iG_ hfl
              have D0 : (bools done).toArray[k]? = some (.bool false) := by rw [List.getElem?_toArray, HK.out.2.2.2.2.2.1]; exact bools_get HK.out.2.2.2.2.2.2.2
              have f0 := (cOH S4.fr j).trans F0;have j1 : (0 : Int) ≤ (j : Int) := by omega
              have j2 : (j : Int) < (c.p.bts.length : Int) := by omega
              have HJ := Lib.hid (And.intro S4 (And.intro E4 (And.intro hB hst)));obtain ⟨d1, hd1⟩ : ∃ d, d = decide (dp < dr ∨ la < st) := ⟨_, rfl⟩;have HD1 := Lib.hid hd1;have HX := Lib.hid (And.intro hxb (And.intro F0 (And.intro D0 hbm)));have hstb0 : 0 ≤ st ∧ st ≤ 2100 := by rw [hst]; omega
              have hmx : (if ar < x then x else ar) = st := by rw [hst]; simp only [Int.max_def]; split <;> split <;> omega
              clear hSj hsj Ej hbx hbe hbm hx hfl hxb hst hB S4 E4 hv4 hbh F0 D0 e3 hbD2 r1 r2 r3 r4 r5 r6 r7 u3;rw [eAb];go_upto_region 11 with fail
              rw [← hW4, ← hbb];clear hW4 hbb e1 e2 zb2;refine wRS (σ := Unit) (by kernel_rfl) (by kernel_rfl) (fun _ jx vx _ => BmV W4 vb c.br c.gf c.p.bts.length j ar x st jx vx) (fun _ ly wx => BmW W4 vb c.br c.gf c.p.bts.length j ar x st ly wx) () ?_ ?_ ?_
              · exact rfl
              · simp only [AllFrom, Nat.zero_add, Nat.reduceAdd];refine ⟨?_, ?_, ?_, ?_, ?_, ?_, ?_, ?_, trivial⟩
                · refine sP_ fun sg ly a wr hl hd hW hF => ?_;have et13 := hF.old 13 (by kernel_rfl);simp [Act.eval] at et13;exact ⟨by simpa [BmW, upd] using hW, .pointer (some ⟨vb, 0, none⟩), by go_simp, rfl⟩
                · refine sP_ fun sg ly a wr hl hd hW hF => ?_;simp [Region.binds] at hd;have et64 := hF.new 0 64 (by simp [hd]) rfl;simp [BmV, Act.eval] at et64;have hW' := hW;unfold BmW at hW';subst hW';exact ⟨by unfold BmW; rfl, .int .i64 ar, by go_simp, rfl⟩
                · refine sP_ fun sg ly a wr hl hd hW hF => ?_;have et8 := hF.old 8 (by kernel_rfl);simp [Act.eval] at et8;have hW' := hW;unfold BmW at hW';subst hW';exact ⟨by unfold BmW; rfl, .slice (some ⟨c.gf, 0, none⟩) c.p.bts.length c.p.bts.length, by go_simp, rfl⟩
                · refine sP_ fun sg ly a wr hl hd hW hF => ?_;have et14 := hF.old 14 (by kernel_rfl);simp [Act.eval] at et14;exact ⟨by simpa [BmW, upd] using hW, .int .i64 j, by go_simp, rfl⟩
                · refine sP_ fun sg ly a wr hl hd hW hF => ?_;simp [Region.binds] at hd;have et66 := hF.new 2 66 (by simp [hd]) rfl;simp [BmV, Act.eval] at et66;have et67 := hF.new 3 67 (by simp [hd]) rfl;simp [BmV, Act.eval] at et67;exact ⟨by simpa [BmW, upd] using hW, .pointer (some ⟨c.gf, j, none⟩), by go_simp, rfl⟩
                · refine sP_ fun sg ly a wr hl hd hW hF => ?_;simp [Region.binds] at hd;have et68 := hF.new 4 68 (by simp [hd]) rfl;simp [BmV, Act.eval] at et68;have hW' := hW;unfold BmW at hW';subst hW';exact ⟨by unfold BmW; rfl, .int .i64 x, by go_simp, rfl⟩
                · refine sP_ fun sg ly a wr hl hd hW hF => ?_;simp [Region.binds] at hd;have et65 := hF.new 1 65 (by simp [hd]) rfl;simp [BmV, Act.eval] at et65;have et69 := hF.new 5 69 (by simp [hd]) rfl;simp [BmV, Act.eval] at et69;exact ⟨by simpa [BmW, upd] using hW, .int .i64 st, by go_simp, rfl⟩
                · refine sP_ fun sg ly a wr hl hd hW hF => ?_;simp [Region.binds] at hd;have et70 := hF.new 6 70 (by simp [hd]) rfl;simp [BmV, Act.eval] at et70;exact ⟨by simpa [BmW, upd] using hW, .int .i64 st, by go_simp, rfl⟩
              intro _ a w4 hWW hF;obtain ⟨f4, hf4, rfl⟩ := hF.lit;have e5 := hF.new 7 16 (by decide) rfl;rw [← hf4] at e5;simp only [BmV] at e5;have hw4 : w4 = W4.drew := by simpa [BmW] using hWW
              clear hf4 hF hWW;simp only [List.filterMap, List.foldl, List.setIfInBounds_toArray, List.set_cons_succ, List.set_cons_zero, e5];clear e5;have HJ4 : BS c W2 w4 free done sj := by rw [hw4]; exact HJ.out.1.keep0 ((Keep.refl _ _).drew)
              have E4 := HK.out.2.1.keep HN.out HJ4.kp;have x0 : w4.cell? ⟨vb, 0, none⟩ = some (.int .i64 ar) := by rw [hw4]; exact x0
              have x1 : w4.cell? ⟨vb, 1, none⟩ = some (.int .i64 la) := by rw [hw4]; exact x1
              have x2 : w4.cell? ⟨vb, 2, none⟩ = some (.int .i64 sy) := by rw [hw4]; exact x2
              have x3 : w4.cell? ⟨vb, 3, none⟩ = some (.int .i64 dr) := by rw [hw4]; exact x3
              have p0 : w4.cell? ⟨bb, 0, none⟩ = some (.int .i64 dp) := by rw [hw4]; exact p0
              have f0 : w4.cell? ⟨c.gf, j, none⟩ = some (.int .i64 x) := by rw [hw4]; exact f0
              have zv : vb < w4.heap.size := by rw [hw4]; exact zv
              have zbb : bb < w4.heap.size := by rw [hw4]; exact zbb
              clear q1 q2 q3 q4 q5 q6 q7 y1 y2 y3 y4 y5 y6 z1 z2 z3 z4 z5 hw4;obtain ⟨q1, q2, q3, q4, q5, q6, q7⟩ := E4.cells;obtain ⟨y1, y2, y3, y4, y5, y6⟩ := E4.lts;obtain ⟨z1, z2, z3, z4, z5⟩ := HJ4.lts;have HJ2 := Lib.hid (And.intro HJ4 E4);clear HJ4 E4;go_upto_region 12 with fail
              go_cut [81] from 71 to 81 (fun b wx => b = .bool d1 ∧ w4 = wx)
              case first =>
                by_cases e1 : dp < dr
                · go_wp2_with fail
                  go_meet
                  exact ⟨by rw [hd1, decide_eq_true (.inl e1)], rfl⟩
                · by_cases e2 : la < st
                  · go_wp2_with fail
                    go_meet
                    exact ⟨by rw [hd1, decide_eq_true (.inr e2)], rfl⟩
                  · go_wp2_with fail
                    go_meet
                    exact ⟨by rw [hd1, decide_eq_false (by omega)], rfl⟩
              case rest =>
              obtain ⟨rfl, rfl⟩ := hcut;clear hd1;cases d1
              · have hno : ¬ (dp < dr ∨ la < st) := of_decide_eq_false HD1.out.symm;have hstb : 0 ≤ st ∧ st ≤ 2000 := by omega
                have hsyb : 1 ≤ sy ∧ sy ≤ 100 := ⟨sy0, sy1⟩;have HO1 := Lib.hid hno;clear hno hstb0;go_upto_region 14 with fail
                have n3 : c.bd ∉ [c.gd, c.gf, c.gp] := fun h => HN.out.nd' (by simp at h ⊢; omega);have n6 : c.br ∉ [c.gd, c.gf, c.gp] := fun h => HN.out.nr (by simp at h ⊢; omega);have n2 : c.bp ∉ [c.gd, c.gf, c.gp] := fun h => HN.out.np (by simp at h ⊢; omega);have nx : vb ∉ [c.gd, c.gf, c.gp] := fun h => HK.out.2.2.2.2.2.2.1 (by simp at h ⊢; omega);obtain ⟨a1, a2, a3, a4, a5, a6, a7, a8, a9, a10⟩ := HN.out.nd;have F0 := HX.out.2.1;have D0 := HX.out.2.2.1;obtain ⟨u0, P0⟩ : ∃ u, (plcs sj.places).toArray[k * 2]? = some u := ⟨_, by rw [List.getElem?_toArray]; exact (plcs_get (l := sj.places) (k := k) (by rw [HJ2.out.1.lp]; exact hk)).1⟩;obtain ⟨u1, P1⟩ : ∃ u, (plcs sj.places).toArray[k * 2 + 1]? = some u := ⟨_, by rw [List.getElem?_toArray]; exact (plcs_get (l := sj.places) (k := k) (by rw [HJ2.out.1.lp]; exact hk)).2⟩;refine wRS (σ := Unit) (by kernel_rfl) (by kernel_rfl) (fun _ jx vx _ => BqV w4 vb c.gd c.gf c.gp c.l.length c.p.bts.length k j st sy (bools done).toArray (ints free).toArray (plcs sj.places).toArray jx vx) (fun _ ly wx => BqW w4 vb c.gd c.gf c.gp c.l.length c.p.bts.length k j st sy (bools done).toArray (ints free).toArray (plcs sj.places).toArray ly wx) () ?_ ?_ ?_
                · exact ⟨(Keep.refl _ _).drew, HJ2.out.1.dn, HJ2.out.1.fr, HJ2.out.1.pl⟩
                · simp only [AllFrom, Nat.zero_add, Nat.reduceAdd];refine ⟨?_, ?_, ?_, ?_, ?_, ?_, ?_, ?_, ?_, ?_, ?_, ?_, ?_, ?_, ?_, ?_, ?_, ?_, ?_, trivial⟩
                  · refine sP_ fun sg ly a wr hl hd hW hF => ?_;have et6 := hF.old 6 (by kernel_rfl);simp [Act.eval] at et6;have c0 := hW.1.cell q3 n3;exact ⟨by simpa [BqW, upd] using hW, .slice (some ⟨c.gd, 0, none⟩) c.l.length c.l.length, by go_simp, rfl⟩
                  · refine sP_ fun sg ly a wr hl hd hW hF => ?_;have et12 := hF.old 12 (by kernel_rfl);simp [Act.eval] at et12;exact ⟨by simpa [BqW, upd] using hW, .int .i64 k, by go_simp, rfl⟩
                  · refine sP_ fun sg ly a wr hl hd hW hF => ?_;have et8 := hF.old 8 (by kernel_rfl);simp [Act.eval] at et8;have c0 := hW.1.cell q6 n6;exact ⟨by simpa [BqW, upd] using hW, .slice (some ⟨c.gf, 0, none⟩) c.p.bts.length c.p.bts.length, by go_simp, rfl⟩
                  · refine sP_ fun sg ly a wr hl hd hW hF => ?_;have et14 := hF.old 14 (by kernel_rfl);simp [Act.eval] at et14;exact ⟨by simpa [BqW, upd] using hW, .int .i64 j, by go_simp, rfl⟩
                  · refine sP_ fun sg ly a wr hl hd hW hF => ?_;have et4 := hF.old 4 (by kernel_rfl);simp [Act.eval] at et4;have c0 := hW.1.cell q2 n2;exact ⟨by simpa [BqW, upd] using hW, .slice (some ⟨c.gp, 0, none⟩) c.l.length c.l.length, by go_simp, rfl⟩
                  · refine sP_ fun sg ly a wr hl hd hW hF => ?_;have et12 := hF.old 12 (by kernel_rfl);simp [Act.eval] at et12;exact ⟨by simpa [BqW, upd] using hW, .int .i64 k, by go_simp, rfl⟩
                  · refine sP_ fun sg ly a wr hl hd hW hF => ?_;have et16 := hF.old 16 (by kernel_rfl);simp [Act.eval] at et16;exact ⟨by simpa [BqW, upd] using hW, .int .i64 st, by go_simp, rfl⟩
                  · refine sP_ fun sg ly a wr hl hd hW hF => ?_;have et13 := hF.old 13 (by kernel_rfl);simp [Act.eval] at et13;exact ⟨by simpa [BqW, upd] using hW, .pointer (some ⟨vb, 2, none⟩), by go_simp, rfl⟩
                  · refine sP_ fun sg ly a wr hl hd hW hF => ?_;simp [Region.binds] at hd;have et93 := hF.new 7 93 (by simp [hd]) rfl;simp [BqV, Act.eval] at et93;have c0 := hW.1.cell x2 nx;exact ⟨by simpa [BqW, upd] using hW, .int .i64 sy, by go_simp, rfl⟩
                  · refine sP_ fun sg ly a wr hl hd hW hF => ?_;simp [Region.binds] at hd;have et92 := hF.new 6 92 (by simp [hd]) rfl;simp [BqV, Act.eval] at et92;have et94 := hF.new 8 94 (by simp [hd]) rfl;simp [BqV, Act.eval] at et94;have ew := IntWalk.i64_in (st + sy) (by omega);exact ⟨by simpa [BqW, upd] using hW, .int .i64 (st + sy), by go_simp, rfl⟩
                  · refine sP_ fun sg ly a wr hl hd hW hF => ?_;have et14 := hF.old 14 (by kernel_rfl);simp [Act.eval] at et14;exact ⟨by simpa [BqW, upd] using hW, .int .i64 j, by go_simp, rfl⟩
                  · refine sP_ fun sg ly a wr hl hd hW hF => ?_;have et16 := hF.old 16 (by kernel_rfl);simp [Act.eval] at et16;exact ⟨by simpa [BqW, upd] using hW, .int .i64 st, by go_simp, rfl⟩
                  · refine sP_ fun sg ly a wr hl hd hW hF => ?_;simp [Region.binds] at hd;have et96 := hF.new 10 96 (by simp [hd]) rfl;simp [BqV, Act.eval] at et96;have et97 := hF.new 11 97 (by simp [hd]) rfl;simp [BqV, Act.eval] at et97;exact ⟨by simpa [BqW, upd] using hW, .agg #[.int .i64 j, .int .i64 st], by go_simp, rfl⟩
                  · refine sP_ fun sg ly a wr hl hd hW hF => ?_;simp [Region.binds] at hd;have et86 := hF.new 0 86 (by simp [hd]) rfl;simp [BqV, Act.eval] at et86;have et87 := hF.new 1 87 (by simp [hd]) rfl;simp [BqV, Act.eval] at et87;exact ⟨by simpa [BqW, upd] using hW, .pointer (some ⟨c.gd, k, none⟩), by go_simp, rfl⟩
                  · refine sS_ rfl fun sg ly a wr hl hd hW hF => ?_;simp [Region.binds] at hd;have et99 := hF.new 13 99 (by simp [hd]) rfl;simp [BqV, Act.eval] at et99;obtain ⟨h0, h1, h2, h3⟩ := hW;rw [if_neg (by simp [hl])] at h1;have c0 := (cOH h1 k).trans D0;have f0 := fOH h1 k;have z0 := hL_ h1;refine ⟨wr.setCell ⟨c.gd, k, none⟩ (.bool true), (), .skip, by go_simp, .inl rfl, ⟨h0.setCell (.inl (by simp)) _, by rw [if_pos (by simp [upd])]; exact hS_ h1 k _, hSN h2 a10.symm _, hSN h3 a8 _⟩, fun _ _ _ h => h⟩
                  · refine sP_ fun sg ly a wr hl hd hW hF => ?_;simp [Region.binds] at hd;have et88 := hF.new 2 88 (by simp [hd]) rfl;simp [BqV, Act.eval] at et88;have et89 := hF.new 3 89 (by simp [hd]) rfl;simp [BqV, Act.eval] at et89;exact ⟨by simpa [BqW, upd] using hW, .pointer (some ⟨c.gf, j, none⟩), by go_simp, rfl⟩
                  · refine sS_ rfl fun sg ly a wr hl hd hW hF => ?_;simp [Region.binds] at hd;have et100 := hF.new 15 100 (by simp [hd]) rfl;simp [BqV, Act.eval] at et100;have et95 := hF.new 9 95 (by simp [hd]) rfl;simp [BqV, Act.eval] at et95;obtain ⟨h0, h1, h2, h3⟩ := hW;rw [if_neg (by simp [hl])] at h2;have c0 := (cOH h2 j).trans F0;have f0 := fOH h2 j;have z0 := hL_ h2;refine ⟨wr.setCell ⟨c.gf, j, none⟩ (.int .i64 (st + sy)), (), .skip, by go_simp, .inl rfl, ⟨h0.setCell (.inl (by simp)) _, hSN h1 a10 _, by rw [if_pos (by simp [upd])]; exact hS_ h2 j _, hSN h3 a9 _⟩, fun _ _ _ h => h⟩
                  · refine sP_ fun sg ly a wr hl hd hW hF => ?_;simp [Region.binds] at hd;have et90 := hF.new 4 90 (by simp [hd]) rfl;simp [BqV, Act.eval] at et90;have et91 := hF.new 5 91 (by simp [hd]) rfl;simp [BqV, Act.eval] at et91;exact ⟨by simpa [BqW, upd] using hW, .pointer (some ⟨c.gp, k * 2, none⟩), by go_simp, rfl⟩
                  · refine sS_ rfl fun sg ly a wr hl hd hW hF => ?_;simp [Region.binds] at hd;have et101 := hF.new 17 101 (by simp [hd]) rfl;simp [BqV, Act.eval] at et101;have et98 := hF.new 12 98 (by simp [hd]) rfl;simp [BqV, Act.eval] at et98;obtain ⟨h0, h1, h2, h3⟩ := hW;rw [if_neg (by simp [hl])] at h3;have c0 := (cOH h3 (k * 2)).trans P0;have c1 := (cOH h3 (k * 2 + 1)).trans P1;have f0 := fOH h3 (k * 2);have f1 := fOH h3 (k * 2 + 1);have z0 := hL_ h3;refine ⟨(wr.setCell ⟨c.gp, k * 2, none⟩ (.int .i64 j)).setCell ⟨c.gp, k * 2 + 1, none⟩ (.int .i64 st), (), .skip, by go_simp, .inl rfl, ⟨(h0.setCell (.inl (by simp)) _).setCell (.inl (by simp)) _, hSN (hSN h1 a8.symm _) a8.symm _, hSN (hSN h2 a9.symm _) a9.symm _, by rw [if_pos (by simp [upd])]; exact hS_ (hS_ h3 _ _) _ _⟩, fun _ _ _ h => h⟩
                intro _ a w5 hWW hF;obtain ⟨f5, hf5, rfl⟩ := hF.lit;have H5 := Lib.hid (sb14 HJ2.out.1 HN.out hk hlj (by simpa [BqW] using hWW) hstb hsyb);clear hf5 hF hWW;simp only [List.filterMap, List.foldl, List.setIfInBounds_toArray, List.set_cons_succ, List.set_cons_zero];have E5 := HK.out.2.1.keep HN.out H5.out.kp;have S5 := H5.out.start;have hv5 := (H5.out.kp.block _ (hL_ HK.out.2.2.1) HK.out.2.2.2.2.2.2.1).trans HK.out.2.2.1;have x0 : w5.cell? ⟨vb, 0, none⟩ = some (.int .i64 ar) := (cOH hv5 0).trans rfl;have kc := H.out.2.2.2 w5 _ _ _ (placed + 1) (waiting + st - ar) E5 S5 (by omega) (by have := HJ.out.2.2.2; omega) (by omega);simp only [seekA, Int.natCast_add, Int.cast_ofNat_Int] at kc;clear q1 q2 q3 q4 q5 q6 q7 y1 y2 y3 y4 y5 y6 z1 z2 z3 z4 z5 x1 x2 x3 p0 f0 n3 n6 n2 nx F0 D0 P0 P1 hv5 zbb zv;obtain ⟨q1, q2, q3, q4, q5, q6, q7⟩ := E5.cells;obtain ⟨y1, y2, y3, y4, y5, y6⟩ := E5.lts;have zv := World.block_lt_of_cell? _ _ x0;have HC := Lib.hid kc;clear kc E5 S5;go_upto_region 16 with (go_at_call 68; refine HC.out.mono ?_; rintro e w6 ⟨rfl, hs6⟩; have H6 := Lib.hid (H5.out.after hs6); clear hs6)
                have n3 : c.bd ∉ [c.gd, c.gf] := fun h => HN.out.nd' (by simp at h ⊢; omega);have n6 : c.br ∉ [c.gd, c.gf] := fun h => HN.out.nr (by simp at h ⊢; omega);have hdk : k < done.length ∧ done.getD k false = false := ⟨HK.out.2.2.2.2.2.2.2, HK.out.2.2.2.2.2.1.symm⟩;obtain ⟨u2, D1⟩ : ∃ u, (bools (done.set k true)).toArray[k]? = some u := ⟨_, by rw [List.getElem?_toArray]; exact bools_get (by rw [List.length_set]; exact hdk.1)⟩;obtain ⟨u3, F1⟩ : ∃ u, (ints (free.set j (st + sy))).toArray[j]? = some u := ⟨_, by rw [List.getElem?_toArray]; exact iG_ (by rw [H6.out.lf]; exact hlj)⟩;clear q1 q2 q3 q4 q5 q6 q7 y1 y2 y3 y4 y5 y6 x0 zv;have E6 := HK.out.2.1.keep HN.out H6.out.kp;obtain ⟨q1, q2, q3, q4, q5, q6, q7⟩ := E6.cells;obtain ⟨y1, y2, y3, y4, y5, y6⟩ := E6.lts;clear E6;refine wRS (σ := Unit) (by kernel_rfl) (by kernel_rfl) (fun _ jx vx _ => BrV w6 c.gd c.gf c.l.length c.p.bts.length k j x (bools (done.set k true)).toArray (ints (free.set j (st + sy))).toArray jx vx) (fun _ ly wx => BrW w6 c.gd c.gf c.l.length c.p.bts.length k j x (bools (done.set k true)).toArray (ints (free.set j (st + sy))).toArray ly wx) () ?_ ?_ ?_
                · exact ⟨(Keep.refl _ _).drew, H6.out.dn, H6.out.fr⟩
                · simp only [AllFrom, Nat.zero_add, Nat.reduceAdd];refine ⟨?_, ?_, ?_, ?_, ?_, ?_, ?_, ?_, ?_, trivial⟩
                  · refine sP_ fun sg ly a wr hl hd hW hF => ?_;have et6 := hF.old 6 (by kernel_rfl);simp [Act.eval] at et6;have c0 := hW.1.cell q3 n3;exact ⟨by simpa [BrW, upd] using hW, .slice (some ⟨c.gd, 0, none⟩) c.l.length c.l.length, by go_simp, rfl⟩
                  · refine sP_ fun sg ly a wr hl hd hW hF => ?_;have et12 := hF.old 12 (by kernel_rfl);simp [Act.eval] at et12;exact ⟨by simpa [BrW, upd] using hW, .int .i64 k, by go_simp, rfl⟩
                  · refine sP_ fun sg ly a wr hl hd hW hF => ?_;have et8 := hF.old 8 (by kernel_rfl);simp [Act.eval] at et8;have c0 := hW.1.cell q6 n6;exact ⟨by simpa [BrW, upd] using hW, .slice (some ⟨c.gf, 0, none⟩) c.p.bts.length c.p.bts.length, by go_simp, rfl⟩
                  · refine sP_ fun sg ly a wr hl hd hW hF => ?_;have et14 := hF.old 14 (by kernel_rfl);simp [Act.eval] at et14;exact ⟨by simpa [BrW, upd] using hW, .int .i64 j, by go_simp, rfl⟩
                  · refine sP_ fun sg ly a wr hl hd hW hF => ?_;have et17 := hF.old 17 (by kernel_rfl);simp [Act.eval] at et17;exact ⟨by simpa [BrW, upd] using hW, .int .i64 x, by go_simp, rfl⟩
                  · refine sP_ fun sg ly a wr hl hd hW hF => ?_;simp [Region.binds] at hd;have et112 := hF.new 0 112 (by simp [hd]) rfl;simp [BrV, Act.eval] at et112;have et113 := hF.new 1 113 (by simp [hd]) rfl;simp [BrV, Act.eval] at et113;exact ⟨by simpa [BrW, upd] using hW, .pointer (some ⟨c.gd, k, none⟩), by go_simp, rfl⟩
                  · refine sS_ rfl fun sg ly a wr hl hd hW hF => ?_;simp [Region.binds] at hd;have et117 := hF.new 5 117 (by simp [hd]) rfl;simp [BrV, Act.eval] at et117;obtain ⟨h0, h1, h2⟩ := hW;rw [if_neg (by simp [hl])] at h1;have c0 := (cOH h1 k).trans D1;have f0 := fOH h1 k;have z0 := hL_ h1;refine ⟨wr.setCell ⟨c.gd, k, none⟩ (.bool false), (), .skip, by go_simp, .inl rfl, ⟨h0.setCell (.inl (by simp)) _, by rw [if_pos (by simp [upd])]; exact hS_ h1 k _, hSN h2 a10.symm _⟩, fun _ _ _ h => h⟩
                  · refine sP_ fun sg ly a wr hl hd hW hF => ?_;simp [Region.binds] at hd;have et114 := hF.new 2 114 (by simp [hd]) rfl;simp [BrV, Act.eval] at et114;have et115 := hF.new 3 115 (by simp [hd]) rfl;simp [BrV, Act.eval] at et115;exact ⟨by simpa [BrW, upd] using hW, .pointer (some ⟨c.gf, j, none⟩), by go_simp, rfl⟩
                  · refine sS_ rfl fun sg ly a wr hl hd hW hF => ?_;simp [Region.binds] at hd;have et118 := hF.new 7 118 (by simp [hd]) rfl;simp [BrV, Act.eval] at et118;have et116 := hF.new 4 116 (by simp [hd]) rfl;simp [BrV, Act.eval] at et116;obtain ⟨h0, h1, h2⟩ := hW;rw [if_neg (by simp [hl])] at h2;have c0 := (cOH h2 j).trans F1;have f0 := fOH h2 j;have z0 := hL_ h2;refine ⟨wr.setCell ⟨c.gf, j, none⟩ (.int .i64 x), (), .skip, by go_simp, .inl rfl, ⟨h0.setCell (.inl (by simp)) _, hSN h1 a10 _, by rw [if_pos (by simp [upd])]; exact hS_ h2 j _⟩, fun _ _ _ h => h⟩
                intro _ a w7 hWW hF;obtain ⟨f7, hf7, rfl⟩ := hF.lit;have H7 := Lib.hid (sb16 H6.out HN.out hdk HX.out.1 hlj (by simpa [BrW] using hWW));clear hf7 hF hWW;simp only [List.filterMap, List.foldl, List.setIfInBounds_toArray, List.set_cons_succ, List.set_cons_zero];go_wp2_with fail
                rw [← eAb];go_roundg (gk - 1);case measure => omega
                case rel => exact ⟨j + 1, by omega, by go_num, by rw [HJ.out.2.2.1, if_neg HO1.out]; exact H7.out⟩
              · go_wp2_with fail
                rw [← eAb];go_roundg (gk - 1);case measure => omega
                case rel => exact ⟨j + 1, by omega, by go_num, by rw [HJ.out.2.2.1, if_pos (of_decide_eq_true HD1.out.symm)]; exact HJ2.out.1⟩
            · obtain rfl : j = c.p.bts.length := by omega
              have HL := Lib.hid (And.intro hSj hsj);clear hSj hsj;go_wp2_with fail
              rw [← eAv];go_roundg (gb - 1);case measure => omega
              case rel => exact ⟨k + 1, by omega, by go_num, by rw [HK.out.2.2.2.1, if_neg (by decide), ← HL.out.2]; exact HK.out.1.after HL.out.1⟩
        · go_upto_region 7 with fail
          rw [← hW2, ← hvb];clear hW2 hvb d0 d1 d2 d3 zb q1';go_wp2_with fail
          rw [← eAv];go_roundg (gk - 1);case measure => omega
          case rel => exact ⟨k + 1, by omega, by go_num, by rw [HK.out.2.2.2.1]; exact HK.out.1⟩
      · obtain rfl : k = c.l.length := by omega
        have HL := Lib.hid (And.intro hSk hsk);clear hSk hsk;go_wp2_with fail
        try rw [Exit.noGoto_normal]
        go_end0
        exact ⟨rfl, by rw [H.out.2.2.1, if_neg HO.out, ← HL.out.2]; exact HL.out.1⟩
  · go_wp2_with fail
    try rw [Exit.noGoto_ret]
    refine bodyPost_ret (results_none rfl _ _ _) rfl ?_;exact ⟨rfl, by rw [H.out.2.2.1, if_pos (of_decide_eq_true HD.out.symm)]; exact H.out.2.1⟩
theorem seek_any {c : BC} (N : BN c) : ∀ n, SeekOk c n
  | 0 => fun W free done s placed waiting E S hpl h0 h1 => by
    obtain rfl : placed = c.l.length := by omega
    have := N.len;exact seek_leaf E N S ⟨h0, by omega⟩
  | n + 1 => seek_step N (seek_any N n)
end Go.Proofs.YtalcinepeofmcaaGreat
