import Derived.Test.YthmldeningpjbaaPRp22
import Derived.Test.YthmldeningpjbaaPRp1
import Derived.Test.YthmldeningpjbaaProg
import Derived.Test.YthmldeningpjbaaPRp0
import Derived.Laws.StructEq
import Derived.Test.YthmldeningpjbaaPRp2
import Derived.Deep.RegionHeld3
import Derived.Test.YthmldeningpjbaaPRp5
import Derived.Test.YthmldeningpjbaaPRp7
import Derived.BigQuiet
set_option linter.unusedVariables false
set_option linter.unusedSimpArgs false
set_option maxRecDepth 100000
set_option maxHeartbeats 40000000
namespace Go.Proofs.Ythmldeningpjbaa
open Go Go.RowKit Sp Pt
theorem srcs_get : ∀ {L : List SrR} {k : Nat} {y : SrR}, L[k]? = some y → (srcs L)[k * 2]? = some (.slice y.A y.s.brash.length y.c) ∧ (srcs L)[k * 2 + 1]? = some (.slice y.B y.s.busy.length y.d)
  | [], k, y, h => by simp at h
  | x :: L, 0, y, h => by
    injection h with h
    subst h;exact ⟨rfl, rfl⟩
  | x :: L, k + 1, y, h => by
    have := srcs_get (L := L) (k := k) (y := y) (by simpa using h);have e : srcs (x :: L) = .slice x.A x.s.brash.length x.c :: .slice x.B x.s.busy.length x.d :: srcs L := rfl;rw [e, show (k + 1) * 2 = k * 2 + 1 + 1 from by omega, show k * 2 + 1 + 1 + 1 = (k * 2 + 1) + 1 + 1 from by omega];simpa using this
theorem rows_at {L : List SrR} {n k : Nat} {f : Nat → Stt} (h : L.map (·.s) = (List.range n).map f) (hk : k < n) : ∃ y, L[k]? = some y ∧ y.s = f k := by
  have hl : L.length = n := by have := congrArg List.length h; simpa using this
  refine ⟨L[k]'(by omega), List.getElem?_eq_getElem (by omega), ?_⟩;have := congrArg (fun l => l[k]?) h;simp only [List.getElem?_map, List.getElem?_eq_getElem (show k < L.length by omega), List.getElem?_range hk, Option.map_some] at this;injection this
def StOk (w : World) (p : Prt) (s : Stt) (l : Pln) (n : Nat) (e : Ending) (w' : World) : Prop := ∃ (g c : Nat) (q : List Nat) (L : List SrR), e = .returned (.tuple #[.slice (some ⟨g, 0, none⟩) (n + 1) c, .int .i64 l.calls.length, .int .i64 0]) ∧ L.map (·.s) = (List.range (n + 1)).map (stN p l s) ∧ OwnS w' 81 2 (some ⟨g, 0, none⟩) (n + 1) c (srcs L) q ∧ (∀ y ∈ L, SttB w'.heap.size w' y.A y.c y.B y.d y.s) ∧ (∀ x ∈ q, w.heap.size ≤ x) ∧ Below w.heap.size w w'
def StNo (w : World) (i er : Int) (e : Ending) (w' : World) : Prop := e = .returned (.tuple #[.slice none 0 0, .int .i64 i, .int .i64 er]) ∧ Below w.heap.size w w'
theorem StatesPost.ok {w : World} {p : Prt} {s : Stt} {l : Pln} {e : Ending} {w' : World} (h : StatesPost w p s l e w') (h0 : (runR p l s).2 = 0) {n : Nat} (hn : l.hours.toNat = n) : StOk w p s l n e w' := by
  subst hn;obtain ⟨b, ⟨q, _⟩ | ⟨_, _, A, c, q, L, rfl, h1, h2, h3, h4⟩⟩ := h
  · exact absurd h0 q
  · obtain ⟨g, rfl, _⟩ := h2.some_ (by omega);exact ⟨g, c, q, L, rfl, h1, h2, h3, h4.1, b⟩
theorem StatesPost.no {w : World} {p : Prt} {s : Stt} {l : Pln} {e : Ending} {w' : World} (h : StatesPost w p s l e w') (h0 : (runR p l s).2 ≠ 0) : StNo w (runR p l s).1 (runR p l s).2 e w' := by
  obtain ⟨b, ⟨_, rfl⟩ | ⟨q, _⟩⟩ := h
  · exact ⟨rfl, b⟩
  · exact absurd q h0
def RunsR (w : World) (p : Prt) (s : Stt) (l : Pln) (e : Ending) (w' : World) : Prop :=
  ∃ A c B d, e = .returned (.tuple #[.agg (sttV A c B d (runV p s l)), .int .i64 (runI p s l), .int .i64 (runE p s l)]) ∧ SttB w'.heap.size w' A c B d (runV p s l) ∧ Below w.heap.size w w'
theorem RunsPost.weak {w : World} {p : Prt} {s : Stt} {l : Pln} {e : Ending} {w' : World} (h : RunsPost w p s l e w') : RunsR w p s l e w' := by
  obtain ⟨A, c, B, d, h1, h2, h3, _⟩ := h;exact ⟨A, c, B, d, h1, h2, h3⟩
theorem stt_resultsT {F : Func} {r s t : Nat} (hF : F.results = #[.cell r 81, .tmp s, .tmp t]) {W : World} {b : Nat} {A B : Option Addr} {n c m d : Nat} (h : W.heap[b]? = some (.cells #[.slice A n c, .slice B m d] 81 (0, 0))) (tmps : Array Value) (v u : Value) (hr : tmps.getD r undef = .pointer (some ⟨b, 0, none⟩)) (hs : tmps.getD s undef = v) (ht : tmps.getD t undef = u) :
    (results F tmps).run Try.prog W = .ok (.tuple #[.agg #[.slice A n c, .slice B m d], v, u]) W := by
  have g7 : tmps[r]?.getD undef = .pointer (some ⟨b, 0, none⟩) := by simpa using hr
  have g8 : tmps[s]?.getD undef = v := by simpa using hs
  have g9 : tmps[t]?.getD undef = u := by simpa using ht
  have c0 : W.cell? ⟨b, 0, none⟩ = some (.slice A n c) := (cOH h 0).trans rfl;have c1 : W.cell? ⟨b, 1, none⟩ = some (.slice B m d) := (cOH h 1).trans rfl;simp [results, hF, g7, g8, g9, asAddr, go_sem, c0, c1]
theorem runsR_no1 {w w' : World} {p : Prt} {s : Stt} {l : Pln} {er : Int} (h : startE p s l = er) (h0 : er ≠ 0) (b : Below w.heap.size w w') : RunsR w p s l (.returned (.tuple #[.agg #[.slice none 0 0, .slice none 0 0], .int .i64 0, .int .i64 er])) w' := by
  have h1 : runE p s l = er := by unfold runE; rw [if_pos (by rw [h]; exact h0), h]
  have h2 : runI p s l = 0 := by unfold runI; rw [if_pos (by rw [h]; exact h0)]
  have h3 : runV p s l = ⟨[], []⟩ := by unfold runV; rw [if_neg (by rw [h1]; exact h0)]
  exact ⟨none, 0, none, 0, by rw [h1, h2, h3]; rfl, by rw [h3]; exact stt_nil _ _, b⟩
theorem runsR_no2 {w w' : World} {p : Prt} {s : Stt} {l : Pln} {i0 e0 : Int} (h : startE p s l = 0) (hi : (runR p l s).1 = i0) (he : (runR p l s).2 = e0) (h0 : e0 ≠ 0) (b : Below w.heap.size w w') : RunsR w p s l (.returned (.tuple #[.agg #[.slice none 0 0, .slice none 0 0], .int .i64 i0, .int .i64 e0])) w' := by
  have h1 : runE p s l = e0 := by unfold runE; rw [if_neg (by rw [h]; simp), he]
  have h2 : runI p s l = i0 := by unfold runI; rw [if_neg (by rw [h]; simp), hi]
  have h3 : runV p s l = ⟨[], []⟩ := by unfold runV; rw [if_neg (by rw [h1]; exact h0)]
  exact ⟨none, 0, none, 0, by rw [h1, h2, h3]; rfl, by rw [h3]; exact stt_nil _ _, b⟩
def StOkQ (w : World) (p : Prt) (s : Stt) (l : Pln) (n : Nat) (e : Ending) (w' : World) : Prop := ∃ (g c : Nat) (q : List Nat) (L : List SrR) (Q : List Nat), e = .returned (.tuple #[.slice (some ⟨g, 0, none⟩) (n + 1) c, .int .i64 l.calls.length, .int .i64 0]) ∧ L.map (·.s) = (List.range (n + 1)).map (stN p l s) ∧ OwnS w' 81 2 (some ⟨g, 0, none⟩) (n + 1) c (srcs L) q ∧ (∀ D, (It.gen Q (SrH L)).holds D w') ∧ (∀ x ∈ Q, w.heap.size ≤ x) ∧ Below w.heap.size w w'
theorem StatesPost.okQ {w : World} {p : Prt} {s : Stt} {l : Pln} {e : Ending} {w' : World} (h : StatesPost w p s l e w') (h0 : (runR p l s).2 = 0) {n : Nat} (hn : l.hours.toNat = n) : StOkQ w p s l n e w' := by
  subst hn;obtain ⟨b, ⟨q, _⟩ | ⟨_, _, A, c, q, L, rfl, h1, h2, h3, h4, Q, h5, h6⟩⟩ := h
  · exact absurd h0 q
  · obtain ⟨g, rfl, _⟩ := h2.some_ (by omega);exact ⟨g, c, q, L, Q, rfl, h1, h2, h5, h6, b⟩
theorem runF_ok (p : Prt) (l : Pln) (s : Stt) : ∀ n k, (runF p l s k n).2 = 0 → (runF p l s k n).1 = l.calls.length
  | 0, k => fun _ => rfl
  | n + 1, k => by
    rw [runF];split
    · rename_i h; exact fun h2 => absurd h2 h
    · exact runF_ok p l s n (k + 1)
theorem runsR_yes {w w' : World} {p : Prt} {s : Stt} {l : Pln} {i0 : Nat} {A : Option Addr} {c : Nat} {B : Option Addr} {d n m : Nat} (h : startE p s l = 0) (hi : (runR p l s).1 = i0) (he : (runR p l s).2 = 0) (hn : (stN p l s l.hours.toNat).brash.length = n) (hm : (stN p l s l.hours.toNat).busy.length = m)
    (SB : SttB w'.heap.size w' A c B d (stN p l s l.hours.toNat)) (b : Below w.heap.size w w') : RunsR w p s l (.returned (.tuple #[.agg #[.slice A n c, .slice B m d], .int .i64 i0, .int .i64 0])) w' := by
  have h1 : runE p s l = 0 := by unfold runE; rw [if_neg (by rw [h]; simp), he]
  have h2 : runI p s l = i0 := by unfold runI; rw [if_neg (by rw [h]; simp), hi]
  have h3 : runV p s l = stN p l s l.hours.toNat := by unfold runV; rw [if_pos h1]
  exact ⟨A, c, B, d, by rw [h1, h2, h3]; simp only [sttV, hn, hm], by rw [h3]; exact SB, b⟩
theorem rRun_any (D : Nat) (Ac : Option Addr) (cc : Nat) (Ab : Option Addr) (cb : Nat) (p : Prt) (Al : Option Addr) (cl : Nat) (As : Option Addr) (cs : Nat) (l : Pln) (Ar : Option Addr) (cr : Nat) (Au : Option Addr) (cu : Nat) (s : Stt) (w : World)
    (PB : PrtB D w Ac cc Ab cb p) (LB : PlnB D w Al cl As cs l) (SB : SttB D w Ar cr Au cu s) (hD : D ≤ w.heap.size) :
    Calls Try.prog 54 #[.agg (prtV Ac cc Ab cb p), .agg (sttV Ar cr Au cu s), .agg (plnV Al cl As cs l)] w (RunsR w p s l) := by
  obtain ⟨pb, hpb⟩ : ∃ b, b = w.heap.size := ⟨_, rfl⟩;obtain ⟨sb, hsb⟩ : ∃ b, b = w.heap.size + 1 := ⟨_, rfl⟩;obtain ⟨lb, hlb⟩ : ∃ b, b = w.heap.size + 1 + 1 := ⟨_, rfl⟩;obtain ⟨rb, hrb⟩ : ∃ b, b = w.heap.size + 1 + 1 + 1 := ⟨_, rfl⟩;obtain ⟨W, hW⟩ : ∃ W, W = (((w.alloc (.cells (prtV Ac cc Ab cb p) 79)).alloc (.cells (sttV Ar cr Au cu s) 81)).alloc (.cells (plnV Al cl As cs l) 85)).alloc (.cells #[.slice none 0 0, .slice none 0 0] 81) := ⟨_, rfl⟩;have O0 : Own w.heap.size w [.blk pb (.cells (prtV Ac cc Ab cb p) 79), .blk sb (.cells (sttV Ar cr Au cu s) 81), .blk lb (.cells (plnV Al cl As cs l) 85), .blk rb (.cells #[.slice none 0 0, .slice none 0 0] 81)] W := by
    have h := (((((Own.start w).alloc (.cells (prtV Ac cc Ab cb p) 79)).alloc (.cells (sttV Ar cr Au cu s) 81)).alloc (.cells (plnV Al cl As cs l) 85)).alloc (.cells #[.slice none 0 0, .slice none 0 0] 81));rw [hW, hpb, hsb, hlb, hrb];simpa using h
  have hDW : D ≤ W.heap.size := Nat.le_trans hD O0.bel.size;obtain ⟨er, her⟩ : ∃ er, er = startE p s l := ⟨_, rfl⟩;have kb : Calls Try.prog 93 #[.agg (prtV Ac cc Ab cb p), .agg (sttV Ar cr Au cu s), .agg (plnV Al cl As cs l)] W (BegunPost W p s l) := begun_any D Ac cc Ab cb p Ar cr Au cu s Al cl As cs l W (PB.below (O0.bel.mono hD)) (SB.below (O0.bel.mono hD)) (LB.below (O0.bel.mono hD)) hDW;have hcap := And.intro PB.c1 (And.intro PB.c2 (And.intro LB.c1 (And.intro LB.c2 (And.intro SB.c1 SB.c2))));have cellsAt : ∀ wx, Own w.heap.size w [.blk pb (.cells (prtV Ac cc Ab cb p) 79), .blk sb (.cells (sttV Ar cr Au cu s) 81), .blk lb (.cells (plnV Al cl As cs l) 85), .blk rb (.cells #[.slice none 0 0, .slice none 0 0] 81)] wx → wx.cell? ⟨pb, 0, none⟩ = some (.slice Ac p.chs.length cc) ∧ wx.cell? ⟨pb, 1, none⟩ = some (.slice Ab p.bts.length cb) ∧ wx.cell? ⟨pb, 2, none⟩ = some (.int .i64 p.tugs) ∧ wx.cell? ⟨lb, 0, none⟩ = some (.int .i64 l.hours) ∧ wx.cell? ⟨lb, 1, none⟩ = some (.slice Al l.calls.length cl) ∧ wx.cell? ⟨lb, 2, none⟩ = some (.slice As l.swps.length cs) ∧ wx.cell? ⟨sb, 0, none⟩ = some (.slice Ar s.brash.length cr) ∧ wx.cell? ⟨sb, 1, none⟩ = some (.slice Au s.busy.length cu) ∧ pb < wx.heap.size ∧ sb < wx.heap.size ∧ lb < wx.heap.size ∧ rb < wx.heap.size ∧ wx.cell? ⟨rb, 0, none⟩ = some (.slice none 0 0) ∧ wx.cell? ⟨rb, 1, none⟩ = some (.slice none 0 0) ∧ wx.frozen? ⟨rb, 0, none⟩ = false ∧ wx.frozen? ⟨rb, 1, none⟩ = false := fun wx O => by
    have h0 := O.heap 0 rfl;have h1 := O.heap 1 rfl;have h2 := O.heap 2 rfl;exact ⟨(cOH h0 0).trans rfl, (cOH h0 1).trans rfl, (cOH h0 2).trans rfl, (cOH h2 0).trans rfl, (cOH h2 1).trans rfl, (cOH h2 2).trans rfl, (cOH h1 0).trans rfl, (cOH h1 1).trans rfl, hL_ h0, hL_ h1, hL_ (O.heap 2 rfl), hL_ (O.heap 3 rfl), (cOH (O.heap 3 rfl) 0).trans rfl, (cOH (O.heap 3 rfl) 1).trans rfl, fOH (O.heap 3 rfl) 0, fOH (O.heap 3 rfl) 1⟩
  obtain ⟨c0, c1, cx, cy, cz, cw, c2, c3, z0, z1, z2, zr, r0, r1, fr0, fr1⟩ := cellsAt W O0;have H := Lib.hid (And.intro O0 (And.intro cellsAt (And.intro PB (And.intro LB (And.intro SB (And.intro her (And.intro kb hD)))))));clear O0 cellsAt her kb PB LB SB
  go_enter Try.func54, Try.ntmps54
  go_upto_region 1 with fail
  rw [← hW, ← hrb, ← hlb, ← hsb, ← hpb];clear hW hrb hlb hsb hpb;go_upto_region 2 with (go_at_call 93; refine H.out.2.2.2.2.2.2.1.mono ?_; rintro e w1 ⟨rfl, b1⟩; have O1 := Lib.hid (H.out.1.below b1); clear b1 c0 c1 cx cy cz cw c2 c3 z0 z1 z2 zr r0 r1 fr0 fr1)
  rw [← H.out.2.2.2.2.2.1];by_cases h0 : er = 0
  · have hst : startE p s l = 0 := H.out.2.2.2.2.2.1.symm.trans h0;subst h0;obtain ⟨hck, hl1, hl2, hbr⟩ := start_bd hst;have v := val_of hck;obtain ⟨c0, c1, cx, cy, cz, cw, c2, c3, z0, z1, z2, zr, r0, r1, fr0, fr1⟩ := H.out.2.1 w1 O1.out;have hD1 : D ≤ w1.heap.size := Nat.le_trans hD O1.out.bel.size;have ks := states_any D Ac cc Ab cb p Ar cr Au cu s Al cl As cs l w1 (H.out.2.2.1.below (O1.out.bel.mono hD)) (H.out.2.2.2.2.1.below (O1.out.bel.mono hD)) (H.out.2.2.2.1.below (O1.out.bel.mono hD)) hD1 v hl1 hl2 (brR_of (by omega) hbr);have hnc := v.nc;have hnb := v.nb;have hho := v.h;have HS := Lib.hid (And.intro ks (And.intro hst (And.intro hl1 (And.intro hl2 v))));clear ks hst hl1 hl2 hck v hbr;by_cases hr : (runR p l s).2 = 0
    · obtain ⟨H1, hH1⟩ : ∃ x, x = l.hours.toNat := ⟨_, rfl⟩;have ks := HS.out.1.mono fun e w' h => h.okQ hr hH1.symm;have HR := Lib.hid (And.intro ks hr);have hH2 : 1 ≤ H1 ∧ H1 ≤ 100 := by omega
      have HHr := Lib.hid hH1;clear ks hr hH1;go_upto_region 5 with (go_at_call 94; refine HR.out.1.mono ?_; rintro e w2 ⟨g, c, q, L, Q, rfl, o1, o2, o3, o4, hb⟩; have HQ := Lib.hid (And.intro o1 (And.intro o2 (And.intro o3 (And.intro o4 hb)))); clear o1 o2 o3 o4 hb c0 c1 cx cy cz cw c2 c3 z0 z1 z2 zr r0 r1 fr0 fr1)
      have zrb := hL_ (O1.out.heap 3 rfl);obtain ⟨y, hy, hys⟩ := rows_at HQ.out.1 (k := H1) (by omega);obtain ⟨g', e1, e2, zg, hgc, hgf⟩ := HQ.out.2.1.some_ (by omega);injection e1 with e1; injection e1 with e1; subst e1
      obtain ⟨ys, yA, yc, yB, yd⟩ := y;simp only at hys;have yb := (HQ.out.2.2.1 0).2 [] _ (Keep.refl _ _) (by simp) _ (List.mem_of_getElem? hy);have yk := fun v (hk : Keep [rb] w2 v) => (HQ.out.2.2.1 0).2 [rb] v hk (fun x hm hx => by have := HQ.out.2.2.2.1 x hx; have e := List.mem_singleton.1 hm; omega) _ (List.mem_of_getElem? hy);simp only at yk;simp only at yb;have d0 := hgc _ _ (srcs_get hy).1;have d1 := hgc _ _ (srcs_get hy).2;simp only at d0 d1;have hlen := stN_lens p l s H1;rw [← hys] at hlen;obtain ⟨N, hN⟩ : ∃ N, N = s.brash.length := ⟨_, rfl⟩;obtain ⟨M, hM⟩ : ∃ N, N = s.busy.length := ⟨_, rfl⟩;rw [hlen.1, ← hN] at d0;rw [hlen.2, ← hM] at d1;have hN1 : 1 ≤ N ∧ N ≤ 6 ∧ N ≤ cr ∧ N ≤ yc := by have := yb.c1.1; have := HS.out.2.2.1; omega
      have hM1 : 1 ≤ M ∧ M ≤ 4 ∧ M ≤ cu ∧ M ≤ yd := by have := yb.c2.1; have := HS.out.2.2.2.1; omega
      have O2 := O1.out.below HQ.out.2.2.2.2;have HY := Lib.hid (And.intro yk (And.intro hys (And.intro hlen (And.intro hN (And.intro hM O2)))));have zw := HQ.out.2.2.2.2.size;have hh := O2.heap 3 rfl;have zr := hL_ hh;have r0 := (cOH hh 0).trans rfl;have r1 := (cOH hh 1).trans rfl;have fr0 := fOH hh 0;have fr1 := fOH hh 1;have hrw : w.heap.size ≤ rb := O2.ge 3 rfl (x := rb) (by simp [It.fp]);have HH := Lib.hid hh;clear yb yk hys hy hgc hgf hlen hN hM O2 hh;go_wp2_with fail
      refine bodyPost_ret (stt_resultsT (r := 6) (s := 7) (t := 8) rfl (b := rb) (A := yA) (B := yB) (n := N) (m := M) (c := yc) (d := yd) (hS_ (hS_ HH.out 0 (.slice yA N yc)) 1 (.slice yB M yd)) _ _ _ rfl rfl rfl) rfl ?_;have ob := HY.out.2.2.2.2.2;have hc := runF_ok p l s l.hours.toNat 0 HR.out.2;refine runsR_yes HS.out.2.1 hc HR.out.2 ?_ ?_ ?_ ((ob.bel.setCell hrw _).setCell hrw _)
      · rw [HHr.out.symm, ← HY.out.2.1]; have := HY.out; omega
      · rw [HHr.out.symm, ← HY.out.2.1]; have := HY.out; omega
      · rw [HHr.out.symm, ← HY.out.2.1];exact HY.out.1 _ (((Keep.refl _ _).setCell (.inl (by simp)) _).setCell (.inl (by simp)) _)
    · have ks := HS.out.1.mono fun e w' h => h.no hr;obtain ⟨i0, hi0⟩ : ∃ x : Int, x = (runR p l s).1 := ⟨_, rfl⟩;obtain ⟨e0, he0⟩ : ∃ x, x = (runR p l s).2 := ⟨_, rfl⟩;rw [← hi0, ← he0] at ks;have hne : (e0 != 0) = true := by rw [he0]; simpa using hr
      have HR := Lib.hid (And.intro ks (show e0 ≠ 0 by rw [he0]; exact hr));have HI := Lib.hid (And.intro hi0.symm he0.symm);clear ks hr hi0 he0;clear r0 r1 fr0 fr1 zr;go_wp2_with (go_at_call 94; refine HR.out.1.mono ?_; rintro e w2 ⟨rfl, hb⟩; have O2 := O1.out.below hb; have hh := O2.heap 3 rfl; have zr := hL_ hh; have r0 := (cOH hh 0).trans rfl; have r1 := (cOH hh 1).trans rfl; have fr0 := fOH hh 0; have fr1 := fOH hh 1; have HQ := Lib.hid O2; clear hb O2 hh)
      have hrw : w.heap.size ≤ rb := HQ.out.ge 3 rfl (x := rb) (by simp [It.fp]);refine bodyPost_ret (stt_resultsT (r := 6) (s := 7) (t := 8) rfl (b := rb) (A := none) (B := none) (n := 0) (m := 0) (c := 0) (d := 0) (hS_ (hS_ (HQ.out.heap 3 rfl) 0 (.slice none 0 0)) 1 (.slice none 0 0)) _ _ _ rfl rfl rfl) rfl ?_;exact runsR_no2 HS.out.2.1 HI.out.1 HI.out.2 HR.out.2 ((HQ.out.bel.setCell hrw _).setCell hrw _)
  · have hne0 : (er != 0) = true := by simp [h0]
    have hh := O1.out.heap 3 rfl;have zr := hL_ hh;have r0 := (cOH hh 0).trans rfl;have r1 := (cOH hh 1).trans rfl;have fr0 := fOH hh 0;have fr1 := fOH hh 1;have hrw : w.heap.size ≤ rb := O1.out.ge 3 rfl (x := rb) (by simp [It.fp]);have HH := Lib.hid hh;clear hh;go_wp2_with fail
    refine bodyPost_ret (stt_resultsT (r := 6) (s := 7) (t := 8) rfl (b := rb) (A := none) (B := none) (n := 0) (m := 0) (c := 0) (d := 0) (hS_ (hS_ HH.out 0 (.slice none 0 0)) 1 (.slice none 0 0)) _ _ _ rfl rfl rfl) rfl ?_;exact runsR_no1 H.out.2.2.2.2.2.1.symm h0 ((O1.out.bel.setCell hrw _).setCell hrw _)
theorem traceE_no {w w' : World} {p : Prt} {s : Stt} {l : Pln} {er : Int} (h : runE p s l = er) (h0 : er ≠ 0) (b : Below w.heap.size w w') : TracePost w p s l (.returned (.tuple #[.slice none 0 0, .int .i64 er])) w' := by
  have h3 : traceV p s l = [] := by unfold traceV; rw [if_neg (by rw [h]; exact h0)]
  exact ⟨none, 0, [], by rw [h, h3]; rfl, by rw [h3]; exact ⟨⟨rfl, fun h => absurd h (by decide)⟩, by simp⟩, by rw [h3]; rfl, b⟩
def rowOf (y : SrR) : LRow := ⟨y.A, y.c, y.s.brash, []⟩
theorem traceE_yes {w w' : World} {p : Prt} {s : Stt} {l : Pln} {n : Nat} {A : Option Addr} {c : Nat} {L : List SrR} (h : startE p s l = 0) (he : (runR p l s).2 = 0) (hn : l.hours.toNat = n) (hL : L.map (·.s) = (List.range (n + 1)).map (stN p l s)) (hr : Rd w' 1 A (n + 1) (L.map fun y => (rowOf y).v))
    (hs : ∀ y ∈ L, Rd w' 1 y.A y.s.brash.length (ints y.s.brash)) (b : Below w.heap.size w w') : TracePost w p s l (.returned (.tuple #[.slice A (n + 1) c, .int .i64 0])) w' := by
  have h1 : runE p s l = 0 := by unfold runE; rw [if_neg (by rw [h]; simp), he]
  have h3 : traceV p s l = traceS p l s (n + 1) := by unfold traceV; rw [if_pos h1, hn]
  have h4 : L.map (fun y => y.s.brash) = traceS p l s (n + 1) := by
    have := congrArg (List.map (·.brash)) hL;rw [List.map_map, List.map_map] at this;exact this
  have h5 : (traceV p s l).length = n + 1 := by rw [h3]; simp [traceS]
  refine ⟨A, c, L.map rowOf, by rw [h1, h5], ?_, ?_, b⟩
  · rw [h5];refine ⟨by rw [List.map_map]; exact hr, fun r hr => ?_⟩;obtain ⟨y, hy, rfl⟩ := List.mem_map.1 hr;exact hs y hy
  · rw [h3, ← h4, List.map_map]; rfl
theorem rTrace_any (D : Nat) (Ac : Option Addr) (cc : Nat) (Ab : Option Addr) (cb : Nat) (p : Prt) (Al : Option Addr) (cl : Nat) (As : Option Addr) (cs : Nat) (l : Pln) (Ar : Option Addr) (cr : Nat) (Au : Option Addr) (cu : Nat) (s : Stt) (w : World)
    (PB : PrtB D w Ac cc Ab cb p) (LB : PlnB D w Al cl As cs l) (SB : SttB D w Ar cr Au cu s) (hD : D ≤ w.heap.size) :
    Calls Try.prog 55 #[.agg (prtV Ac cc Ab cb p), .agg (sttV Ar cr Au cu s), .agg (plnV Al cl As cs l)] w (TracePost w p s l) := by
  obtain ⟨iR, hR0, hR1, hR2, hR3⟩ := info_parts infoRow;obtain ⟨pb, hpb⟩ : ∃ b, b = w.heap.size := ⟨_, rfl⟩;obtain ⟨sb, hsb⟩ : ∃ b, b = w.heap.size + 1 := ⟨_, rfl⟩;obtain ⟨lb, hlb⟩ : ∃ b, b = w.heap.size + 1 + 1 := ⟨_, rfl⟩;obtain ⟨W, hW⟩ : ∃ W, W = ((w.alloc (.cells (prtV Ac cc Ab cb p) 79)).alloc (.cells (sttV Ar cr Au cu s) 81)).alloc (.cells (plnV Al cl As cs l) 85) := ⟨_, rfl⟩;have O0 : Own w.heap.size w [.blk pb (.cells (prtV Ac cc Ab cb p) 79), .blk sb (.cells (sttV Ar cr Au cu s) 81), .blk lb (.cells (plnV Al cl As cs l) 85)] W := by
    have h := ((((Own.start w).alloc (.cells (prtV Ac cc Ab cb p) 79)).alloc (.cells (sttV Ar cr Au cu s) 81)).alloc (.cells (plnV Al cl As cs l) 85));rw [hW, hpb, hsb, hlb];simpa using h
  have hDW : D ≤ W.heap.size := Nat.le_trans hD O0.bel.size;obtain ⟨er, her⟩ : ∃ er, er = startE p s l := ⟨_, rfl⟩;have kb : Calls Try.prog 93 #[.agg (prtV Ac cc Ab cb p), .agg (sttV Ar cr Au cu s), .agg (plnV Al cl As cs l)] W (BegunPost W p s l) := begun_any D Ac cc Ab cb p Ar cr Au cu s Al cl As cs l W (PB.below (O0.bel.mono hD)) (SB.below (O0.bel.mono hD)) (LB.below (O0.bel.mono hD)) hDW;have hcap := And.intro PB.c1 (And.intro PB.c2 (And.intro LB.c1 (And.intro LB.c2 (And.intro SB.c1 SB.c2))));have cellsAt : ∀ wx, Own w.heap.size w [.blk pb (.cells (prtV Ac cc Ab cb p) 79), .blk sb (.cells (sttV Ar cr Au cu s) 81), .blk lb (.cells (plnV Al cl As cs l) 85)] wx → wx.cell? ⟨pb, 0, none⟩ = some (.slice Ac p.chs.length cc) ∧ wx.cell? ⟨pb, 1, none⟩ = some (.slice Ab p.bts.length cb) ∧ wx.cell? ⟨pb, 2, none⟩ = some (.int .i64 p.tugs) ∧ wx.cell? ⟨lb, 0, none⟩ = some (.int .i64 l.hours) ∧ wx.cell? ⟨lb, 1, none⟩ = some (.slice Al l.calls.length cl) ∧ wx.cell? ⟨lb, 2, none⟩ = some (.slice As l.swps.length cs) ∧ wx.cell? ⟨sb, 0, none⟩ = some (.slice Ar s.brash.length cr) ∧ wx.cell? ⟨sb, 1, none⟩ = some (.slice Au s.busy.length cu) ∧ pb < wx.heap.size ∧ sb < wx.heap.size ∧ lb < wx.heap.size := fun wx O => by
    have h0 := O.heap 0 rfl;have h1 := O.heap 1 rfl;have h2 := O.heap 2 rfl;exact ⟨(cOH h0 0).trans rfl, (cOH h0 1).trans rfl, (cOH h0 2).trans rfl, (cOH h2 0).trans rfl, (cOH h2 1).trans rfl, (cOH h2 2).trans rfl, (cOH h1 0).trans rfl, (cOH h1 1).trans rfl, hL_ h0, hL_ h1, hL_ (O.heap 2 rfl)⟩
  obtain ⟨c0, c1, cx, cy, cz, cw, c2, c3, z0, z1, z2⟩ := cellsAt W O0;have H := Lib.hid (And.intro O0 (And.intro cellsAt (And.intro PB (And.intro LB (And.intro SB (And.intro her (And.intro kb hD)))))));clear O0 cellsAt her kb PB LB SB
  go_enter Try.func55, Try.ntmps55
  go_upto_region 1 with fail
  rw [← hW, ← hlb, ← hsb, ← hpb];clear hW hlb hsb hpb;go_upto_region 2 with (go_at_call 93; refine H.out.2.2.2.2.2.2.1.mono ?_; rintro e w1 ⟨rfl, b1⟩; have O1 := Lib.hid (H.out.1.below b1); clear b1 c0 c1 cx cy cz cw c2 c3 z0 z1 z2)
  rw [← H.out.2.2.2.2.2.1];by_cases h0 : er = 0
  · have hst : startE p s l = 0 := H.out.2.2.2.2.2.1.symm.trans h0;subst h0;obtain ⟨hck, hl1, hl2, hbr⟩ := start_bd hst;have v := val_of hck;obtain ⟨c0, c1, cx, cy, cz, cw, c2, c3, z0, z1, z2⟩ := H.out.2.1 w1 O1.out;have hD1 : D ≤ w1.heap.size := Nat.le_trans hD O1.out.bel.size;have ks := states_any D Ac cc Ab cb p Ar cr Au cu s Al cl As cs l w1 (H.out.2.2.1.below (O1.out.bel.mono hD)) (H.out.2.2.2.2.1.below (O1.out.bel.mono hD)) (H.out.2.2.2.1.below (O1.out.bel.mono hD)) hD1 v hl1 hl2 (brR_of (by omega) hbr);have hnc := v.nc;have hnb := v.nb;have hho := v.h;have HS := Lib.hid (And.intro ks (And.intro hst (And.intro hl1 (And.intro hl2 v))));clear ks hst hl1 hl2 hck v hbr;by_cases hr : (runR p l s).2 = 0
    · obtain ⟨H1, hH1⟩ : ∃ x, x = l.hours.toNat := ⟨_, rfl⟩;have ks := HS.out.1.mono fun e w' h => h.ok hr hH1.symm;have HR := Lib.hid (And.intro ks hr);have hH2 : 1 ≤ H1 ∧ H1 ≤ 100 := by omega
      have HHr := Lib.hid hH1;clear ks hr hH1;go_upto_region 5 with (go_at_call 94; refine HR.out.1.mono ?_; rintro e w2 ⟨g, c, q, L, rfl, o1, o2, o3, o4, hb⟩; have HQ := Lib.hid (And.intro o1 (And.intro o2 (And.intro o3 (And.intro o4 hb)))); clear o1 o2 o3 o4 hb c0 c1 cx cy cz cw c2 c3 z0 z1 z2)
      have zg := HQ.out.2.1.some_ (by omega);clear zg;have hb0 : Below w.heap.size w w2 := (O1.out.below HQ.out.2.2.2.2).bel;have HB0 := Lib.hid hb0;have hz0 := hb0.size;clear hb0;go_wp2_with fail
      go_loopg [12, 13] (H1 + 1) (fun g a i wr => ∃ (k : Nat) (A : Option Addr) (c2 : Nat) (q2 : List Nat), g + k = H1 + 1 ∧ i = .int .i64 k ∧ a = .slice A k c2 ∧ Own w2.heap.size w2 [.own 33 1 A k c2 ((L.take k).map fun y => (rowOf y).v) q2] wr)
      case atStart => exact ⟨0, none, 0, [], rfl, rfl, rfl, by have h := (Own.start w2).new (i := .own 33 1 none 0 0 [] []) (Below.refl _ _) (OwnS.nil _ _ _) (by simp [It.fp]); simpa using h⟩
      case round =>
        obtain ⟨k, A, c2, q2, hk, rfl, rfl, hO⟩ := hrel;have HO := Lib.hid hO;clear hO;by_cases hlt : k < H1 + 1
        · obtain ⟨y, hy, hys⟩ := rows_at HQ.out.1 (k := k) hlt;obtain ⟨g', e1, e2, zg, hgc, hgf⟩ := HQ.out.2.1.some_ (by omega);injection e1 with e1; injection e1 with e1; subst e1
          have d0 : wr.cell? ⟨g, k * 2, none⟩ = _ := (HO.out.bel.cell (p := ⟨g, k * 2, none⟩) zg).trans (hgc _ _ (srcs_get hy).1);have zgr : g < wr.heap.size := by have := HO.out.bel.size; omega
          have hkI : (0 : Int) ≤ (k : Int) ∧ (k : Int) < ((H1 + 1 : Nat) : Int) := by omega
          have hsn : (L.take (k + 1)).map (fun y => (rowOf y).v) = (L.take k).map (fun y => (rowOf y).v) ++ [.slice y.A y.s.brash.length y.c] := by
            obtain ⟨hkl, hyk⟩ := List.getElem?_eq_some_iff.1 hy;rw [List.take_succ_eq_append_getElem hkl, List.map_append, hyk]; rfl
          have HY := Lib.hid (And.intro hy (And.intro hsn hys));clear hy hsn hys e2 hgc hgf;obtain ⟨n0, hn0⟩ : ∃ n, n = y.s.brash.length := ⟨_, rfl⟩;rw [← hn0] at d0;have HN0 := Lib.hid hn0;clear hn0;obtain ⟨yA, hyA⟩ : ∃ x, x = y.A := ⟨_, rfl⟩;obtain ⟨yc, hyc⟩ : ∃ x, x = y.c := ⟨_, rfl⟩;rw [← hyA, ← hyc] at d0;have HYA := Lib.hid (And.intro hyA hyc);clear hyA hyc;go_wp2_with (at_builtin; refine wpList_append_S (size := 1) rfl (.tmp 38) (.tmp 44) 66 rfl iR _ 24 Try.underlying66 hR0 hR1 hR2 (by decide) hR3 rfl (A := A) (n := k) (c := c2) (xs := (L.take k).map fun y => (rowOf y).v) (fp := q2) (by simp [Act.eval]) ⟨wr.heap.size, 0, none⟩ (by simp [Act.eval]) [.slice yA n0 yc] ((HO.out.owns 0 rfl).alloc _) rfl (fun jj vv hv => by rw [show (⟨wr.heap.size, 0, none⟩ : Addr).add jj = ⟨wr.heap.size, jj, none⟩ from (by simp [Addr.add]; omega)]; exact (cOH (heap_alloc_new wr _) jj).trans (by simpa using hv)) (by simp [Value.oneCell']) (by omega) (by omega) ?_; intro g5 c' w5 h1 h2 h3 h4; have H5 := Lib.hid (And.intro h1 (And.intro h2 (And.intro h3 h4))); clear h1 h2 h3 h4)
          go_roundg (gk - 1);case measure => omega
          case rel =>
            obtain ⟨h1, h2, h3, h4⟩ := H5.out;have O5 := (HO.out.below ((Below.refl _ _).alloc (Nat.le_refl _) (.cells #[.slice yA n0 yc] 33))).upd 0 rfl (w' := w5) h4 (i' := .own 33 1 (some ⟨g5, 0, none⟩) (k + 1) c' ((L.take (k + 1)).map fun y => (rowOf y).v) [g5]) (by show OwnS _ _ _ _ _ _ _ _; rw [HY.out.2.1, ← HN0.out, ← HYA.out.1, ← HYA.out.2]; exact h1) (fun x hx => by
              rcases List.mem_singleton.1 hx with rfl
              rcases h2 with e | e
              · exact .inl e
              · exact .inr (Nat.le_of_eq e))
            exact ⟨k + 1, some ⟨g5, 0, none⟩, c', [g5], by omega, by go_num, rfl, O5⟩
        · obtain rfl : k = H1 + 1 := by omega
          go_wp2_with fail
          go_ret2
          have hLl : L.length = H1 + 1 := by have := congrArg List.length HQ.out.1; simpa using this
          have ho := HO.out.owns 0 rfl;rw [List.take_of_length_le (by omega)] at ho;refine traceE_yes HS.out.2.1 HR.out.2 HHr.out.symm HQ.out.1 ho.rd (fun y hy => ?_) (HB0.out.trans (HO.out.bel.mono hz0));exact ((HQ.out.2.2.1 y hy).br.below HO.out.bel).rd HO.out.bel.size
    · have ks := HS.out.1.mono fun e w' h => h.no hr;obtain ⟨i0, hi0⟩ : ∃ x : Int, x = (runR p l s).1 := ⟨_, rfl⟩;obtain ⟨e0, he0⟩ : ∃ x, x = (runR p l s).2 := ⟨_, rfl⟩;rw [← hi0, ← he0] at ks;have hne : (e0 != 0) = true := by rw [he0]; simpa using hr
      have HR := Lib.hid (And.intro ks (show e0 ≠ 0 by rw [he0]; exact hr));have HI := Lib.hid he0.symm;clear ks hr hi0 he0;go_wp2_with (go_at_call 94; refine HR.out.1.mono ?_; rintro e w2 ⟨rfl, hb⟩; have HQ := Lib.hid hb; clear hb)
      go_ret2
      exact traceE_no (show runE p s l = e0 by unfold runE; rw [if_neg (by rw [HS.out.2.1]; simp), HI.out]) HR.out.2 (O1.out.below HQ.out).bel
  · have hne0 : (er != 0) = true := by simp [h0]
    go_wp2_with fail
    go_ret2
    exact traceE_no (show runE p s l = er by unfold runE; rw [if_pos (by rw [← H.out.2.2.2.2.2.1]; exact h0), H.out.2.2.2.2.2.1]) h0 O1.out.bel
theorem idxThin_any (f : Int → Bool) (c0 c1 : Value) (A : Option Addr) (c : Nat) (l : List Int) (w : World) (hr : Rd w 1 A l.length (ints l)) (hm : l.length ≤ 9223372036854775807)
    (hf : ∀ x ∈ l, ∀ n, Calls Try.prog 111 #[.int .i64 x, c0, c1] (w.drewN n) fun e w' => e = .returned (.bool (f x)) ∧ ∃ m, w' = w.drewN m) :
    Calls Try.prog 76 #[.slice A l.length c, .func (.func 111) #[] #[c0, c1]] w fun e w' => ∃ r : Int, e = .returned (.int .i64 r) ∧ decide (0 ≤ r) = l.any f ∧ ∃ m, w' = w.drewN m := by
  go_enter Try.func76, Try.ntmps76
  go_wp2_with fail
  go_loopg [8] (l.length) (fun g i wr => ∃ k : Nat, g + k = l.length ∧ i = .int .i64 k ∧ (l.take k).any f = false ∧ ∃ m, wr = w.drewN m)
  case atStart => exact ⟨0, rfl, rfl, by simp, 0, rfl⟩
  case round =>
    obtain ⟨k, hk, rfl, hb, m, rfl⟩ := hrel;have HB := Lib.hid hb;clear hb;by_cases hlt : k < l.length
    · obtain ⟨b, off, rfl, hbb, hc⟩ := hr.2 (by omega);have c0 := hc k _ (iG_ hlt);obtain ⟨x, hx⟩ : ∃ x, x = l.getD k 0 := ⟨_, rfl⟩;rw [← hx] at c0;have hx' : l[k] = x := by rw [hx]; simp [hlt]
      have H := hf x (by rw [← hx']; exact List.getElem_mem _) m;obtain ⟨z, hz⟩ : ∃ z, z = f x := ⟨_, rfl⟩;rw [← hz] at H;have hs : (l.take (k + 1)).any f = z := by rw [List.take_succ_eq_append_getElem hlt, List.any_append, HB.out, hx', hz]; simp
      have HH := Lib.hid (And.intro H hs);clear H hs hz hx' hx hc hr hf;cases z
      · go_wp2_with (go_at_call 111; refine HH.out.1.mono ?_; rintro e w' ⟨rfl, m', rfl⟩)
        go_roundg (gk - 1);case measure => omega
        case rel => exact ⟨k + 1, by omega, by go_num, HH.out.2, m', rfl⟩
      · go_wp2_with (go_at_call 111; refine HH.out.1.mono ?_; rintro e w' ⟨rfl, m', rfl⟩)
        go_ret;refine ⟨k, rfl, ?_, m', rfl⟩;have h1 : l.any f = true := by
          obtain ⟨y, hy, hfy⟩ := List.any_eq_true.1 HH.out.2;exact List.any_eq_true.2 ⟨y, List.mem_of_mem_take hy, hfy⟩
        rw [h1]; simp
    · obtain rfl : k = l.length := by omega
      go_wp2_with fail
      go_ret;exact ⟨-1, rfl, by have := HB.out; rw [List.take_length] at this; rw [this]; simp, m, rfl⟩
theorem anyThin_any (f : Int → Bool) (c0 c1 : Value) (A : Option Addr) (c : Nat) (l : List Int) (w : World) (hr : Rd w 1 A l.length (ints l)) (hm : l.length ≤ 9223372036854775807)
    (hf : ∀ x ∈ l, ∀ n, Calls Try.prog 111 #[.int .i64 x, c0, c1] (w.drewN n) fun e w' => e = .returned (.bool (f x)) ∧ ∃ m, w' = w.drewN m) :
    Calls Try.prog 20 #[.slice A l.length c, .func (.func 111) #[] #[c0, c1]] w fun e w' => e = .returned (.bool (l.any f)) ∧ ∃ m, w' = w.drewN m := by
  have H := idxThin_any f c0 c1 A c l w hr hm hf;clear hf
  go_enter Try.func20, Try.ntmps20
  go_wp2_with (go_at_call 76; refine H.mono ?_; rintro e w' ⟨r, rfl, hd, m, rfl⟩; have HD := Lib.hid hd; clear hd)
  go_ret;exact ⟨by rw [← HD.out]; rfl, m, rfl⟩
end Go.Proofs.Ythmldeningpjbaa
namespace Go.Proofs.Ythmldeningpjbaa.Pt
open Sp
def callT (l : Pln) (h : Int) : List Cal → Int
  | [] => 0
  | c :: r => (if c.hour = h then c.tugs else 0) + callT l h r
def swpT (l : Pln) (h : Int) : List Swp → Int
  | [] => 0
  | x :: r => (if x.hour = h then x.tugs else 0) + swpT l h r
def shutL (p : Prt) (h : Int) (path : List Int) (L : List Cal) : Bool := L.any fun c => decide (c.hour = h) && (bt p c.berth).path.any fun x => decide (x ∈ path)
def slotOk (p : Prt) (s : Stt) (l : Pln) (path : List Int) (m t : Int) (h : Nat) : Bool :=
  (path.all fun x => decide (getI (swpN p h l.swps (stN p l s h).brash) x ≤ m)) && !shutL p h path l.calls && decide (t + callT l h l.calls + swpT l h l.swps ≤ p.tugs)
def spanAdd (L : List (Int × Int)) (h : Int) : List (Int × Int) :=
  match L.getLast? with
  | some y => if y.2 = h - 1 then L.dropLast ++ [(y.1, h)] else L ++ [(h, h)]
  | none => L ++ [(h, h)]
def slotS (f : Nat → Bool) : Nat → List (Int × Int)
  | 0 => []
  | k + 1 => if f k then spanAdd (slotS f k) k else slotS f k
def slotE (p : Prt) (s : Stt) (l : Pln) (b m t : Int) : Int :=
  if startE p s l ≠ 0 then startE p s l else if within b 0 ((p.bts.length : Int) - 1) = false ∨ within m 0 1000000 = false ∨ within t 0 20 = false then 1 else (runR p l s).2
def slotV (p : Prt) (s : Stt) (l : Pln) (b m t : Int) : List (Int × Int) := if slotE p s l b m t = 0 then slotS (slotOk p s l (bt p b).path m t) l.hours.toNat else []
def lastHi (L : List (Int × Int)) : Int := match L.getLast? with | some y => y.2 | none => -2
theorem spanAdd_last {L : List (Int × Int)} {h : Int} (h0 : 0 ≤ h) : spanAdd L h = if lastHi L = h - 1 then L.dropLast ++ [((L.getLastD (0, 0)).1, h)] else L ++ [(h, h)] := by
  unfold spanAdd lastHi;cases e : L.getLast? with
  | none => simp only; rw [if_neg (by omega)]
  | some y =>
    simp only;have : L.getLastD (0, 0) = y := by rw [List.getLastD_eq_getLast?, e]; rfl
    rw [this]
theorem lastHi_snoc (L : List (Int × Int)) (y : Int × Int) : lastHi (L ++ [y]) = y.2 := by unfold lastHi; rw [List.getLast?_concat]
theorem lastHi_add (L : List (Int × Int)) (h : Int) : lastHi (spanAdd L h) = h := by
  unfold spanAdd;split
  · split <;> rw [lastHi_snoc]
  · rw [lastHi_snoc]
theorem lastHi_lt (f : Nat → Bool) : ∀ k, lastHi (slotS f k) < k
  | 0 => by show (-2 : Int) < 0; omega
  | k + 1 => by
    rw [slotS];split
    · rw [lastHi_add]; omega
    · have := lastHi_lt f k; omega
end Go.Proofs.Ythmldeningpjbaa.Pt













namespace Go.Proofs.Ythmldeningpjbaa
open Go Go.RowKit Sp
theorem below_drewN {B : Nat} {w w' : World} (h : Below B w w') (n : Nat) : Below B w (w'.drewN n) := ⟨h.os, h.tape, h.output, h.size, h.block⟩
def spc (s : Int × Int) : List Value := [.int .i64 s.1, .int .i64 s.2]
def spcs (l : List (Int × Int)) : List Value := l.flatMap spc
theorem spcs_length (l : List (Int × Int)) : (spcs l).length = l.length * 2 := by
  induction l with
  | nil => rfl
  | cons s l ih => simp only [spcs, List.flatMap_cons, List.length_append, List.length_cons] at ih ⊢; rw [ih]; simp [spc]; omega
theorem spcs_append (l m : List (Int × Int)) : spcs (l ++ m) = spcs l ++ spcs m := by simp [spcs]
theorem spcs_get {l : List (Int × Int)} {k : Nat} (hk : k < l.length) : (spcs l)[k*2]? = some (.int .i64 l[k].1) ∧ (spcs l)[k*2+1]? = some (.int .i64 l[k].2) := by
  induction l generalizing k with
  | nil => simp at hk
  | cons s l ih =>
    cases k with
    | zero => simp [spcs, spc]
    | succ k =>
      have h4 : ∀ j, (spcs (s :: l))[2 + j]? = (spcs l)[j]? := fun j => by
        simp only [spcs, List.flatMap_cons, spc];rw [List.getElem?_append_right (by simp)];simp
      have e : ∀ j, (k+1)*2 + j = 2 + (k*2 + j) := fun j => by omega
      have e0 : (k+1)*2 = 2 + k*2 := by omega
      have hk' : k < l.length := by simpa using hk
      rw [e, e0, h4, h4];simpa using ih hk'
def joinS (L : List (Int × Int)) (day : Int) : List (Int × Int) :=
  match L.getLast? with
  | some s => if s.2 = day - 1 then L.dropLast ++ [(s.1, day)] else L ++ [(day, day)]
  | none => [(day, day)]
def SpansIn (w : World) (cb : Nat) (L : List (Int × Int)) (fp : List Nat) : Prop :=
  ∃ A c, w.heap[cb]? = some (.cells #[.slice A L.length c] 119 (0, 0)) ∧ OwnS w 129 2 A L.length c (spcs L) fp ∧ cb ∉ fp
theorem info_span : (Try.prog.info? 129).map (fun i => (i.zero, i.size, i.bytes)) = some (some (.agg #[.int .i64 0, .int .i64 0]), 2, 16) := by kernel_rfl
def JoinPost (w : World) (cb : Nat) (L : List (Int × Int)) (day : Int) (fp : List Nat) (e : Ending) (w' : World) : Prop :=
  e = .returned (.tuple #[]) ∧ ∃ fp', SpansIn w' cb (joinS L day) fp' ∧ (∀ g ∈ fp', g ∈ fp ∨ w.heap.size ≤ g) ∧ Keep (cb :: fp) w w'
end Go.Proofs.Ythmldeningpjbaa
namespace Go.Proofs.Ythmldeningpjbaa
open Go Go.RowKit Sp Pt
theorem joinS_add (L : List (Int × Int)) (h : Int) : joinS L h = spanAdd L h := by
  unfold joinS spanAdd;cases e : L.getLast? with
  | none => rw [List.getLast?_eq_none_iff] at e; subst e; rfl
  | some s => rfl
theorem sl1_any {w : World} {pb np ck : Nat} {Ak : Option Addr} {path : List Int} (h1 : w.cell? ⟨pb, 0, none⟩ = some (.slice Ak path.length ck)) (hr : Rd w 1 Ak path.length (ints path)) (hn : path.length ≤ 1000) (x : Int) (m : Nat) :
    Calls Try.prog 109 #[.int .i64 x, .pointer (some ⟨pb, 0, none⟩)] (w.drewN m) fun e w' => e = .returned (.bool (decide (x ∈ path))) ∧ ∃ m', w' = w.drewN m' := by
  have z1 := World.block_lt_of_cell? _ _ h1;obtain ⟨W, hW⟩ : ∃ W, W = w.drewN m := ⟨_, rfl⟩;have g1 : W.cell? ⟨pb, 0, none⟩ = some (.slice Ak path.length ck) := by rw [hW]; exact h1
  have y1 : pb < W.heap.size := by rw [hW]; exact z1
  have kc := contI_any Ak ck path x W (by rw [hW]; exact hr) (by omega);rw [show path.contains x = decide (x ∈ path) from by simp] at kc;rw [← hW];have HW := Lib.hid (And.intro hW kc);clear hW h1 z1 hr kc
  go_enter Try.func109, Try.ntmps109
  go_wp2_with (go_at_call 22; refine HW.out.2.mono ?_; rintro e w' ⟨rfl, rfl⟩)
  go_ret;exact ⟨rfl, m, HW.out.1⟩
theorem sl21_any {w : World} {bw wb gb xb n c1 k : Nat} {x mo : Int} (h1 : w.cell? ⟨bw, 0, none⟩ = some (.pointer (some ⟨wb, 0, none⟩))) (h2 : w.cell? ⟨wb, 2, none⟩ = some (.slice (some ⟨gb, 0, none⟩) n c1)) (h3 : w.cell? ⟨gb, k, none⟩ = some (.int .i64 x)) (h4 : w.cell? ⟨xb, 0, none⟩ = some (.int .i64 mo)) (hk : k < n) (m : Nat) :
    Calls Try.prog 111 #[.int .i64 k, .pointer (some ⟨bw, 0, none⟩), .pointer (some ⟨xb, 0, none⟩)] (w.drewN m) fun e w' => e = .returned (.bool (decide (mo < x))) ∧ ∃ m', w' = w.drewN m' := by
  have z1 := World.block_lt_of_cell? _ _ h1;have z2 := World.block_lt_of_cell? _ _ h2;have z3 := World.block_lt_of_cell? _ _ h3;have z4 := World.block_lt_of_cell? _ _ h4;have k1 : (0 : Int) ≤ (k : Int) := by omega
  have k2 : (k : Int) < (n : Int) := by omega
  obtain ⟨W, hW⟩ : ∃ W, W = w.drewN m := ⟨_, rfl⟩;have g1 : W.cell? ⟨bw, 0, none⟩ = some (.pointer (some ⟨wb, 0, none⟩)) := by rw [hW]; exact h1
  have g2 : W.cell? ⟨wb, 2, none⟩ = some (.slice (some ⟨gb, 0, none⟩) n c1) := by rw [hW]; exact h2
  have g3 : W.cell? ⟨gb, k, none⟩ = some (.int .i64 x) := by rw [hW]; exact h3
  have g4 : W.cell? ⟨xb, 0, none⟩ = some (.int .i64 mo) := by rw [hW]; exact h4
  have y1 : bw < W.heap.size := by rw [hW]; exact z1
  have y2 : wb < W.heap.size := by rw [hW]; exact z2
  have y3 : gb < W.heap.size := by rw [hW]; exact z3
  have y4 : xb < W.heap.size := by rw [hW]; exact z4
  rw [← hW];have HW := Lib.hid hW;clear hW h1 h2 h3 h4 z1 z2 z3 z4
  go_enter Try.func111, Try.ntmps111
  go_wp2_with fail
  go_quiet (fail);go_wp2_with fail
  go_ret;refine ⟨rfl, m + nq, ?_⟩;rw [HW.out];simp [World.drewN, Nat.add_assoc]
def SlPost (w : World) (cb : Nat) (L : List (Int × Int)) (h : Int) (fp : List Nat) (ok : Bool) (e : Ending) (w' : World) : Prop :=
  e = .returned (.tuple #[]) ∧ ∃ fp', SpansIn w' cb (if ok then joinS L h else L) fp' ∧ (∀ g ∈ fp', g ∈ fp ∨ w.heap.size ≤ g) ∧ Keep (cb :: fp) w w'
theorem SpansIn.drewN {w : World} {cb : Nat} {L : List (Int × Int)} {fp : List Nat} (h : SpansIn w cb L fp) (n : Nat) : SpansIn (w.drewN n) cb L fp := by
  obtain ⟨A, c, h1, h2, h3⟩ := h;exact ⟨A, c, h1, h2.drewN n, h3⟩
theorem SlPost.no {w : World} {cb : Nat} {L : List (Int × Int)} {h : Int} {fp : List Nat} {ok : Bool} (hs : SpansIn w cb L fp) (hok : ok = false) (n : Nat) : SlPost w cb L h fp ok (.returned (.tuple #[])) (w.drewN n) :=
  ⟨rfl, fp, by rw [hok]; exact hs.drewN n, fun g hg => .inl hg, (Keep.refl _ _).drewN n⟩
theorem SlPost.yes {w w1 : World} {n : Nat} {cb : Nat} {L : List (Int × Int)} {h : Int} {fp : List Nat} {ok : Bool} {e : Ending} {w' : World} (hw : w1 = w.drewN n) (hok : ok = true) (hp : JoinPost w1 cb L h fp e w') : SlPost w cb L h fp ok e w' := by
  subst hw;obtain ⟨h1, fp', h2, h3, h4⟩ := hp;exact ⟨h1, fp', by rw [hok]; exact h2, h3, ((Keep.refl _ _).drewN n).trans h4 (fun x hx => .inl hx)⟩
theorem slots2_any (cb : Nat) (L : List (Int × Int)) (fp : List Nat) (d H : Nat) (shb lfb xtb pab wbx xmb gs gl np ck : Nat) (Ak : Option Addr) (z1 z3 : Bool) (lf tg : Int) (w0 : World) (hs0 : SpansIn w0 cb L fp) (hl : L.length ≤ 100000) (hd : d < H) (hH : H ≤ 100)
    (q1 : w0.cell? ⟨shb, 0, none⟩ = some (.slice (some ⟨gs, 0, none⟩) H H)) (q2 : w0.cell? ⟨gs, d, none⟩ = some (.bool z1)) (q3 : w0.cell? ⟨lfb, 0, none⟩ = some (.slice (some ⟨gl, 0, none⟩) H H)) (q4 : w0.cell? ⟨gl, d, none⟩ = some (.int .i64 lf)) (q5 : w0.cell? ⟨xtb, 0, none⟩ = some (.int .i64 tg)) (q6 : w0.cell? ⟨pab, 0, none⟩ = some (.slice Ak np ck))
    (kc : ∀ n, Calls Try.prog 20 #[.slice Ak np ck, .func (.func 111) #[] #[.pointer (some ⟨wbx, 0, none⟩), .pointer (some ⟨xmb, 0, none⟩)]] (w0.drewN n) fun e w' => e = .returned (.bool z3) ∧ ∃ m, w' = (w0.drewN n).drewN m) :
    Calls Try.prog 110 #[.int .i64 d, .pointer (some ⟨shb, 0, none⟩), .pointer (some ⟨lfb, 0, none⟩), .pointer (some ⟨xtb, 0, none⟩), .pointer (some ⟨pab, 0, none⟩), .pointer (some ⟨wbx, 0, none⟩), .pointer (some ⟨xmb, 0, none⟩), .pointer (some ⟨cb, 0, none⟩)] w0 (SlPost w0 cb L d fp (!z1 && (!decide (lf < tg) && !z3))) := by
  obtain ⟨i0, hi, hz0, hz1, hz2⟩ := info_parts info_span;have y1 := World.block_lt_of_cell? _ _ q1;have y2 := World.block_lt_of_cell? _ _ q2;have y3 := World.block_lt_of_cell? _ _ q3;have y4 := World.block_lt_of_cell? _ _ q4;have y5 := World.block_lt_of_cell? _ _ q5;have y6 := World.block_lt_of_cell? _ _ q6;simp only at y1 y2 y3 y4 y5 y6;have hdI : (0 : Int) ≤ (d : Int) ∧ (d : Int) < (H : Int) := by omega
  have HS0 := Lib.hid hs0;have HC := Lib.hid kc;clear hs0 kc;cases z1
  · by_cases hlt : lf < tg
    · have hdt : decide (lf < tg) = true := decide_eq_true hlt
      go_enter Try.func110, Try.ntmps110
      go_upto_region 0 with fail
      go_quiet (fail);go_wp2_with fail
      go_end0
      exact SlPost.no HS0.out (by simp [hlt]) _
    · have hdt : decide (lf < tg) = false := decide_eq_false hlt;have HLT := Lib.hid hlt;clear hlt;cases z3
      · go_enter Try.func110, Try.ntmps110
        go_upto_region 0 with fail
        go_quiet ((go_at_call 20; with_reducible exact Calls.quiet_of (HC.out _)));go_upto_region 1 with fail
        obtain ⟨w, hw⟩ : ∃ w, w = w0.drewN nq := ⟨_, rfl⟩;rw [← hw];have hs : SpansIn w cb L fp := by rw [hw]; exact HS0.out.drewN _
        have HOK : Hid ((!false && (!decide (lf < tg) && !false)) = true) := Lib.hid (by rw [hdt]; rfl);have HW := Lib.hid hw;clear hw q1 q2 q3 q4 q5 q6 y1 y2 y3 y4 y5 y6 HS0 HC;obtain ⟨A, c, hh, hown, hnc⟩ := hs;have c0 : w.cell? ⟨cb, 0, none⟩ = some (.slice A L.length c) := (cOH hh 0).trans rfl;have z0 := hL_ hh;have fr := fOH hh 0;rcases List.eq_nil_or_concat L with rfl | ⟨L', s, rfl⟩
        · have HS := Lib.hid (And.intro hh (And.intro hown hnc));have hgn : ¬ (cb ∈ fp ∨ (w.alloc (.cells #[.int .i64 d, .int .i64 d] 129)).heap.size = cb) := by simp; exact ⟨hnc, by omega⟩
          clear hh hown hnc;simp only [List.length_nil] at c0
          go_wp2_with (at_builtin
                       refine wpList_append_S (size := 2) rfl (.tmp 47) (.tmp 51) 119 rfl i0 _ 16 Try.underlying119 hi hz0 hz1 (by decide) hz2 rfl (A := A) (n := 0) (c := c) (xs := []) (fp := fp) (by simp [Act.eval]) ⟨w.heap.size, 0, none⟩ (by simp [Act.eval]) [.int .i64 d, .int .i64 d] (HS.out.2.1.alloc _) rfl ?_ (by simp [Value.oneCell']) (by omega) (by omega) ?_
                       · intro j v hv;rw [show (⟨w.heap.size, 0, none⟩ : Addr).add j = ⟨w.heap.size, j, none⟩ from by simp [Addr.add]; omega, World.cell?_alloc_new];simpa using hv
                       intro g c' w1 h1 h2 h3 h4;have hb1 : w1.heap[cb]? = some (.cells #[.slice A 0 c] 119 (0, 0)) := (h4.block cb (by simp; omega) HS.out.2.2).trans (hA_ HS.out.1 _);have d0 : w1.cell? ⟨cb, 0, none⟩ = some (.slice A 0 c) := (cOH hb1 0).trans rfl;have d1 := fOH hb1 0;have HQ := Lib.hid (And.intro h1 (And.intro h2 (And.intro h4 hb1)));clear h1 h2 h3 h4 hb1)
          go_end0
          refine SlPost.yes HW.out (by first | exact HOK.out | rfl) ?_;refine ⟨rfl, [g], ⟨_, c', hS_ HQ.out.2.2.2 0 _, HQ.out.1.setCell (by simp; rintro rfl; exact hgn HQ.out.2.1) _, by simp; rintro rfl; exact hgn HQ.out.2.1⟩, ?_, ?_⟩
          · intro y hy;rw [List.mem_singleton.1 hy];exact HQ.out.2.1.imp id (fun h => by simp at h; omega)
          · exact (((Keep.refl (cb :: fp) w).alloc _).trans HQ.out.2.2.1 (fun y hy => .inl (by simp [hy]))).setCell (.inl (by simp)) _
        · obtain ⟨n, hn⟩ : ∃ n, n = L'.length := ⟨_, rfl⟩;have hn1 : (L' ++ [s]).length = n + 1 := by simp [hn]
          rw [List.concat_eq_append] at *;rw [hn1] at c0 hh hown hl;obtain ⟨g0, rfl, rfl, zg, hc, hf⟩ := hown.some_ (by omega);have hsp : spcs (L' ++ [s]) = spcs L' ++ spc s := by simp [spcs]
          have hlen := spcs_length L';rw [← hn] at hlen;have c1 : w.cell? ⟨g0, n * 2 + 1, none⟩ = some (.int .i64 s.2) := hc _ _ (by rw [hsp, List.getElem?_append_right (by omega), hlen]; simp [spc]);have f1 := hf (n * 2 + 1);have hnI : (0 : Int) ≤ (n : Int) ∧ (n : Int) ≤ 100000 := by omega
          have hgn : g0 ≠ cb := fun e => hnc (by simp [e]);obtain ⟨x, hx⟩ : ∃ x, x = s.2 := ⟨_, rfl⟩;rw [← hx] at c1;have HS := Lib.hid (And.intro hh (And.intro hown (And.intro hnc (And.intro hsp (And.intro hlen (And.intro hn hx))))));clear hh hown hnc hsp hlen hn hx hc hf hn1;by_cases hxd : x = (d : Int) - 1
          · have hxb : (x == (d : Int) - 1) = true := by simp [hxd]
            go_wp2_with fail
            go_end0
            refine SlPost.yes HW.out (by first | exact HOK.out | rfl) ?_;have hj : joinS (L' ++ [s]) (d : Int) = L' ++ [(s.1, (d : Int))] := by simp [joinS, ← HS.out.2.2.2.2.2.2, hxd]
            have hl2 : (L' ++ [(s.1, (d : Int))]).length = n + 1 := by simp [HS.out.2.2.2.2.2.1]
            refine ⟨rfl, [g0], ?_, fun y hy => .inl hy, (Keep.refl _ _).setCell (.inl (by simp)) _⟩;rw [hj];refine ⟨some ⟨g0, 0, none⟩, c, ?_, ?_, HS.out.2.2.1⟩
            · rw [hl2]; exact hSN HS.out.1 (p := ⟨g0, n * 2 + 1, none⟩) (fun e => hgn e.symm) _
            · rw [hl2];have h5 := HS.out.2.1.set_ (n * 2 + 1) (.int .i64 d);have h6 : (spcs (L' ++ [s])).set (n * 2 + 1) (.int .i64 d) = spcs (L' ++ [(s.1, (d : Int))]) := by
                rw [HS.out.2.2.2.1, spcs_append, List.set_append_right _ _ (by have := HS.out.2.2.2.2.1; omega), HS.out.2.2.2.2.1];simp [spc, spcs]
              rwa [h6] at h5
          · have hxb : (x == (d : Int) - 1) = false := by simp [hxd]
            go_wp2_with (at_builtin
                         refine wpList_append_S (size := 2) rfl (.tmp 47) (.tmp 51) 119 rfl i0 _ 16 Try.underlying119 hi hz0 hz1 (by decide) hz2 rfl (A := some ⟨g0, 0, none⟩) (n := n + 1) (c := c) (xs := spcs (L' ++ [s])) (fp := [g0]) (by simp [Act.eval]) ⟨w.heap.size, 0, none⟩ (by simp [Act.eval]) [.int .i64 d, .int .i64 d] (HS.out.2.1.alloc _) rfl ?_ (by simp [Value.oneCell']) (by omega) (by omega) ?_
                         · intro j v hv;rw [show (⟨w.heap.size, 0, none⟩ : Addr).add j = ⟨w.heap.size, j, none⟩ from by simp [Addr.add]; omega, World.cell?_alloc_new];simpa using hv
                         intro g c' w1 h1 h2 h3 h4;have hb1 : w1.heap[cb]? = some (.cells #[.slice (some ⟨g0, 0, none⟩) (n + 1) c] 119 (0, 0)) := (h4.block cb (by simp; omega) HS.out.2.2.1).trans (hA_ HS.out.1 _);have d0 : w1.cell? ⟨cb, 0, none⟩ = some (.slice (some ⟨g0, 0, none⟩) (n + 1) c) := (cOH hb1 0).trans rfl;have d1 := fOH hb1 0;have HQ := Lib.hid (And.intro h1 (And.intro h2 (And.intro h4 hb1)));clear h1 h2 h3 h4 hb1)
            go_end0
            refine SlPost.yes HW.out (by first | exact HOK.out | rfl) ?_;have hgc : ¬ (cb ∈ [g0] ∨ (w.alloc (.cells #[.int .i64 d, .int .i64 d] 129)).heap.size = cb) := by simp; exact ⟨fun e => hgn e.symm, by omega⟩
            have hj : joinS (L' ++ [s]) (d : Int) = (L' ++ [s]) ++ [((d : Int), (d : Int))] := by
              simp only [joinS, List.getLast?_append, List.getLast?_singleton, Option.some_or];rw [if_neg (by rw [← HS.out.2.2.2.2.2.2]; exact hxd)]
            have hl2 : ((L' ++ [s]) ++ [((d : Int), (d : Int))]).length = n + 1 + 1 := by simp [HS.out.2.2.2.2.2.1]
            refine ⟨rfl, [g], ?_, ?_, ?_⟩
            · rw [hj];refine ⟨some ⟨g, 0, none⟩, c', ?_, ?_, by simp; rintro rfl; exact hgc HQ.out.2.1⟩
              · rw [hl2]; exact hS_ HQ.out.2.2.2 0 _
              · rw [hl2, spcs_append]; exact HQ.out.1.setCell (by simp; rintro rfl; exact hgc HQ.out.2.1) _
            · intro y hy;rw [List.mem_singleton.1 hy];exact HQ.out.2.1.imp id (fun h => by simp at h; omega)
            · exact (((Keep.refl (cb :: [g0]) w).alloc _).trans HQ.out.2.2.1 (fun y hy => .inl (by simp at hy ⊢; exact .inr hy))).setCell (.inl (by simp)) _
      · go_enter Try.func110, Try.ntmps110
        go_upto_region 0 with fail
        go_quiet ((go_at_call 20; with_reducible exact Calls.quiet_of (HC.out _)));go_wp2_with fail
        go_end0
        exact SlPost.no HS0.out (by simp) _
  · go_enter Try.func110, Try.ntmps110
    go_upto_region 0 with fail
    go_quiet (fail);go_wp2_with fail
    go_end0
    exact SlPost.no HS0.out (by simp) _
end Go.Proofs.Ythmldeningpjbaa
namespace Go.Proofs.Ythmldeningpjbaa.Pt
open Sp
def tab {T : Type} (H : Nat) (f : Nat → T) : List T := (List.range H).map f
section
variable {T : Type} {H k : Nat} {f g : Nat → T} {x d : T}
theorem tab_congr (h : ∀ j, j < H → f j = g j) : tab H f = tab H g := by
  unfold tab;exact List.map_congr_left fun j hj => h j (List.mem_range.1 hj)
theorem tab_set (hk : k < H) : (tab H f).set k x = tab H (fun j => if j = k then x else f j) := by
  apply List.ext_getElem (by simp [tab]);intro i h1 h2;simp only [tab, List.getElem_set, List.getElem_map, List.getElem_range];by_cases e : k = i
  · rw [if_pos e, if_pos e.symm]
  · rw [if_neg e, if_neg (fun h => e h.symm)]
end
theorem callT_snoc (l : Pln) (h : Int) (c : Cal) : ∀ L, callT l h (L ++ [c]) = callT l h L + (if c.hour = h then c.tugs else 0)
  | [] => by simp [callT]
  | x :: L => by simp only [List.cons_append, callT, callT_snoc l h c L]; omega
theorem swpT_snoc (l : Pln) (h : Int) (c : Swp) : ∀ L, swpT l h (L ++ [c]) = swpT l h L + (if c.hour = h then c.tugs else 0)
  | [] => by simp [swpT]
  | x :: L => by simp only [List.cons_append, swpT, swpT_snoc l h c L]; omega
theorem callT_bd (l : Pln) (h : Int) : ∀ {L : List Cal}, (∀ c ∈ L, 0 ≤ c.tugs ∧ c.tugs ≤ 20) → 0 ≤ callT l h L ∧ callT l h L ≤ 20 * L.length
  | [], _ => by simp [callT]
  | c :: L, hc => by
    have := hc c (by simp);have := callT_bd l h (L := L) (fun x hx => hc x (by simp [hx]));simp only [callT, List.length_cons];split <;> omega
theorem swpT_bd (l : Pln) (h : Int) : ∀ {L : List Swp}, (∀ c ∈ L, 0 ≤ c.tugs ∧ c.tugs ≤ 20) → 0 ≤ swpT l h L ∧ swpT l h L ≤ 20 * L.length
  | [], _ => by simp [swpT]
  | c :: L, hc => by
    have := hc c (by simp);have := swpT_bd l h (L := L) (fun x hx => hc x (by simp [hx]));simp only [swpT, List.length_cons];split <;> omega
def leftC (p : Prt) (l : Pln) (j : Nat) (h : Nat) : Int := p.tugs - callT l h (l.calls.take j)
def leftS (p : Prt) (l : Pln) (j : Nat) (h : Nat) : Int := p.tugs - callT l h l.calls - swpT l h (l.swps.take j)
def shutC (p : Prt) (path : List Int) (l : Pln) (j : Nat) (h : Nat) : Bool := shutL p h path (l.calls.take j)
section
variable {p : Prt} {l : Pln} {path : List Int} {H j : Nat}
theorem leftC_step {k : Nat} {t : Int} (hj : j < l.calls.length) (hk : k < H) (hh : l.calls[j].hour = k) (ht : l.calls[j].tugs = t) : (tab H (leftC p l j)).set k (leftC p l j k - t) = tab H (leftC p l (j + 1)) := by
  rw [tab_set hk];refine tab_congr fun i hi => ?_;simp only [leftC];rw [List.take_succ_eq_append_getElem hj, callT_snoc, hh, ht];by_cases e : i = k
  · subst e; rw [if_pos rfl, if_pos rfl]; omega
  · rw [if_neg e, if_neg (by omega)]; omega
theorem leftS_step {k : Nat} {t : Int} (hj : j < l.swps.length) (hk : k < H) (hh : l.swps[j].hour = k) (ht : l.swps[j].tugs = t) : (tab H (leftS p l j)).set k (leftS p l j k - t) = tab H (leftS p l (j + 1)) := by
  rw [tab_set hk];refine tab_congr fun i hi => ?_;simp only [leftS];rw [List.take_succ_eq_append_getElem hj, swpT_snoc, hh, ht];by_cases e : i = k
  · subst e; rw [if_pos rfl, if_pos rfl]; omega
  · rw [if_neg e, if_neg (by omega)]; omega
theorem shutC_step {k : Nat} {v : Bool} (hj : j < l.calls.length) (hk : k < H) (hh : l.calls[j].hour = k) (hv : v = (shutC p path l j k || (bt p l.calls[j].berth).path.any fun x => decide (x ∈ path))) : (tab H (shutC p path l j)).set k v = tab H (shutC p path l (j + 1)) := by
  rw [tab_set hk];refine tab_congr fun i hi => ?_;simp only [shutC, shutL];rw [List.take_succ_eq_append_getElem hj, List.any_append, List.any_cons, List.any_nil, Bool.or_false, hh];by_cases e : i = k
  · subst e;rw [if_pos rfl, hv, decide_eq_true rfl, Bool.true_and]; rfl
  · rw [if_neg e, decide_eq_false (by omega), Bool.false_and, Bool.or_false]
theorem leftC_zero : tab H (leftC p l 0) = tab H (fun _ => p.tugs) := tab_congr fun i _ => by simp [leftC, callT]
theorem shutC_zero : tab H (shutC p path l 0) = tab H (fun _ => false) := tab_congr fun i _ => by simp [shutC, shutL]
theorem leftC_all : tab H (leftC p l l.calls.length) = tab H (leftS p l 0) := tab_congr fun i _ => by simp [leftC, leftS, swpT]
theorem slotOk_eq {s : Stt} {m t : Int} {h : Nat} : (!shutC p path l l.calls.length h && (!decide (leftS p l l.swps.length h < t) && !path.any (fun x => decide (m < getI (swpN p h l.swps (stN p l s h).brash) x)))) = slotOk p s l path m t h := by
  unfold slotOk shutC leftS;rw [List.take_length, List.take_length];have e1 : (path.all fun x => decide (getI (swpN p h l.swps (stN p l s h).brash) x ≤ m)) = !path.any (fun x => decide (m < getI (swpN p h l.swps (stN p l s h).brash) x)) := by
    rw [List.not_any_eq_all_not]
    congr 1
    funext x
    rw [← decide_not];exact decide_eq_decide.2 (by omega)
  have e2 : (!decide (p.tugs - callT l h l.calls - swpT l h l.swps < t)) = decide (t + callT l h l.calls + swpT l h l.swps ≤ p.tugs) := by
    rw [← decide_not];exact decide_eq_decide.2 (by omega)
  rw [e1, e2];cases shutL p h path l.calls <;> cases decide (t + callT l h l.calls + swpT l h l.swps ≤ p.tugs) <;> simp
theorem slotS_succ (f : Nat → Bool) (k : Nat) : slotS f (k + 1) = if f k then spanAdd (slotS f k) k else slotS f k := rfl
theorem slotS_len (f : Nat → Bool) : ∀ k, (slotS f k).length ≤ k
  | 0 => by simp [slotS]
  | k + 1 => by
    have := slotS_len f k;rw [slotS_succ];split
    · unfold spanAdd;split
      · split
        · simp; omega
        · simp; omega
      · simp; omega
    · omega
end
end Go.Proofs.Ythmldeningpjbaa.Pt
