import Derived.Test.YtalcinepeofmcaaPSp8
import Derived.Test.YtalcinepeofmcaaPSp3
import Derived.Test.YtalcinepeofmcaaPSp0
import Derived.Test.YtalcinepeofmcaaPSp5
import Derived.Test.YtalcinepeofmcaaPSp7
set_option linter.unusedVariables false
set_option linter.unusedSimpArgs false
set_option maxRecDepth 100000
set_option maxHeartbeats 40000000
namespace Go.Proofs.Ytalcinepeofmcaa
open Go Go.RowKit Go.Lib Sp Pt
theorem boxes3 {D : Nat} {Ac : Option Addr} {cc : Nat} {Ab : Option Addr} {cb : Nat} {p : Prt} {Al : Option Addr} {cl : Nat} {As : Option Addr} {cs : Nat} {l : Pln} {Ar : Option Addr} {cr : Nat} {Au : Option Addr} {cu : Nat} {s : Stt} {w W : World}
    (PB : PrtB D w Ac cc Ab cb p) (LB : PlnB D w Al cl As cs l) (SB : SttB D w Ar cr Au cu s) (hD : D ≤ w.heap.size) (hW : W = ((w.alloc (.cells (prtV Ac cc Ab cb p) 44)).alloc (.cells (sttV Ar cr Au cu s) 58)).alloc (.cells (plnV Al cl As cs l) 49)) {pb sb lb : Nat} (hpb : pb = w.heap.size) (hsb : sb = w.heap.size + 1) (hlb : lb = w.heap.size + 1 + 1) :
    Below w.heap.size w W ∧ W.heap[pb]? = some (.cells (prtV Ac cc Ab cb p) 44 (0, 0)) ∧ W.heap[sb]? = some (.cells (sttV Ar cr Au cu s) 58 (0, 0)) ∧ W.heap[lb]? = some (.cells (plnV Al cl As cs l) 49 (0, 0)) ∧
      Calls Try.prog 25 #[.agg (prtV Ac cc Ab cb p), .agg (sttV Ar cr Au cu s), .agg (plnV Al cl As cs l)] W (StartPost W D Ac cc Ab cb p Al cl As cs l s) := by
  have b0 : Below w.heap.size w W := by rw [hW]; exact (((Below.refl _ _).alloc (Nat.le_refl _) _).alloc (by simp) _).alloc (by simp; omega) _
  refine ⟨b0, ?_, ?_, ?_, start_any D Ac cc Ab cb p Al cl As cs l Ar cr Au cu s W (PB.below (b0.mono hD)) (LB.below (b0.mono hD)) (SB.below (b0.mono hD)) (by have := b0.size; omega)⟩
  · rw [hW, hpb]; exact hA_ (hA_ (heap_alloc_new _ _) _) _
  · rw [hW, hsb];refine hA_ ?_ _;have := heap_alloc_new (w.alloc (.cells (prtV Ac cc Ab cb p) 44)) (.cells (sttV Ar cr Au cu s) 58)
    rwa [World.size_alloc] at this
  · rw [hW, hlb];have := heap_alloc_new ((w.alloc (.cells (prtV Ac cc Ab cb p) 44)).alloc (.cells (sttV Ar cr Au cu s) 58)) (.cells (plnV Al cl As cs l) 49)
    rwa [World.size_alloc, World.size_alloc] at this
def traceS (p : Prt) (l : Pln) (s : Stt) (k : Nat) : List (List Int) := (List.range k).map fun j => (stN p l s j).brash
theorem traceS_succ (p : Prt) (l : Pln) (s : Stt) (k : Nat) : traceS p l s (k + 1) = traceS p l s k ++ [(stN p l s k).brash] := by simp [traceS, List.range_succ]
def traceV (p : Prt) (s : Stt) (l : Pln) : List (List Int) := if runE p s l = 0 then traceS p l s (l.hours.toNat + 1) else []
def LsR (w : World) (A : Option Addr) (n : Nat) (rows : List LRow) : Prop := Rd w 1 A n (rows.map LRow.v) ∧ ∀ r ∈ rows, Rd w 1 r.A r.l.length (ints r.l)
def TracePost (w : World) (p : Prt) (s : Stt) (l : Pln) (e : Ending) (w' : World) : Prop :=
  ∃ A c rows, e = .returned (.tuple #[.slice A (traceV p s l).length c, .int .i64 (runE p s l)]) ∧ LsR w' A (traceV p s l).length rows ∧ rows.map (·.l) = traceV p s l ∧ Below w.heap.size w w'
def JTr (D : Nat) (W : World) (C : WC) (s : Stt) (tb k : Nat) (w : World) : Prop :=
  ∃ A c q rows, rows.map (·.l) = traceS C.p C.l s k ∧ Own D W (trL C.gb C.ub tb k A c q rows) w ∧ ∀ x ∈ q, W.heap.size ≤ x
theorem Trace_any (D : Nat) (Ac : Option Addr) (cc : Nat) (Ab : Option Addr) (cb : Nat) (p : Prt) (Al : Option Addr) (cl : Nat) (As : Option Addr) (cs : Nat) (l : Pln) (Ar : Option Addr) (cr : Nat) (Au : Option Addr) (cu : Nat) (s : Stt) (w : World)
    (PB : PrtB D w Ac cc Ab cb p) (LB : PlnB D w Al cl As cs l) (SB : SttB D w Ar cr Au cu s) (hD : D ≤ w.heap.size) :
    Calls Try.prog 13 #[.agg (prtV Ac cc Ab cb p), .agg (sttV Ar cr Au cu s), .agg (plnV Al cl As cs l)] w (TracePost w p s l) := by
  obtain ⟨W, hW⟩ : ∃ W, W = ((w.alloc (.cells (prtV Ac cc Ab cb p) 44)).alloc (.cells (sttV Ar cr Au cu s) 58)).alloc (.cells (plnV Al cl As cs l) 49) := ⟨_, rfl⟩;obtain ⟨pb, hpb⟩ : ∃ b, b = w.heap.size := ⟨_, rfl⟩;obtain ⟨sb, hsb⟩ : ∃ b, b = w.heap.size + 1 := ⟨_, rfl⟩;obtain ⟨lb, hlb⟩ : ∃ b, b = w.heap.size + 1 + 1 := ⟨_, rfl⟩;obtain ⟨b0, hp, hs, hl, kst⟩ := boxes3 PB LB SB hD hW hpb hsb hlb;have c0 : W.cell? ⟨pb, 0, none⟩ = some (.slice Ac p.chs.length cc) := (cOH hp 0).trans rfl;have c1 : W.cell? ⟨pb, 1, none⟩ = some (.slice Ab p.bts.length cb) := (cOH hp 1).trans rfl;have c2 : W.cell? ⟨pb, 2, none⟩ = some (.int .i64 p.tugs) := (cOH hp 2).trans rfl;have c3 : W.cell? ⟨lb, 0, none⟩ = some (.int .i64 l.hours) := (cOH hl 0).trans rfl;have c4 : W.cell? ⟨lb, 1, none⟩ = some (.slice Al l.calls.length cl) := (cOH hl 1).trans rfl;have c5 : W.cell? ⟨lb, 2, none⟩ = some (.slice As l.swps.length cs) := (cOH hl 2).trans rfl;have c6 : W.cell? ⟨sb, 0, none⟩ = some (.slice Ar s.brash.length cr) := (cOH hs 0).trans rfl;have c7 : W.cell? ⟨sb, 1, none⟩ = some (.slice Au s.busy.length cu) := (cOH hs 1).trans rfl;have zp := hL_ hp;have zl := hL_ hl;have zs := hL_ hs;have H := Lib.hid (And.intro b0 (And.intro kst hD));clear b0 hp hs hl kst PB LB SB hD
  go_enter Try.func13, Try.ntmps13
  go_upto_region 1 with fail
  rw [← hW, ← hlb, ← hsb, ← hpb];clear hW hlb hsb hpb;go_wp2_with fail
  refine H.out.2.1.mono ?_;rintro e w1 ⟨b1, hcase⟩;have bw1 : Below w.heap.size w w1 := H.out.1.trans (b1.mono H.out.1.size);clear c0 c1 c2 c3 c4 c5 c6 c7 zp zl zs;rcases hcase with ⟨hne, rfl⟩ | ⟨he, c, hM, hS, rfl⟩
  · obtain ⟨er, her⟩ : ∃ er, er = startE p s l := ⟨_, rfl⟩;rw [← her] at hne ⊢;have hnb : (er != 0) = true := by simpa using hne
    have hv : runE p s l = er := by unfold runE; rw [if_pos (by rw [← her]; exact hne), her]
    have hvv : traceV p s l = [] := by unfold traceV; rw [if_neg (by rw [hv]; exact hne)]
    have HF := Lib.hid (And.intro hv (And.intro hvv bw1));clear hv hvv bw1 her hne b1;go_wp2_with fail
    go_ret2
    refine ⟨none, 0, [], ?_, ⟨by rw [HF.out.2.1]; exact Rd.nil _ _ _, by simp⟩, by rw [HF.out.2.1]; rfl, HF.out.2.2.alloc HF.out.2.2.size _⟩;rw [HF.out.1, HF.out.2.1]; rfl
  · obtain ⟨hc, hlen1, hlen2, hbr⟩ := start_bd he;obtain ⟨q1, q2, q3, q4, q5, q6, q7, q8, q9, q10, q11⟩ := hM.eq;have v : Val c.p c.l := by rw [q6, q11]; exact val_of hc
    obtain ⟨xb, hxb⟩ : ∃ b, b = w1.heap.size := ⟨_, rfl⟩;obtain ⟨tb, htb⟩ : ∃ b, b = w1.heap.size + 1 := ⟨_, rfl⟩;obtain ⟨X, hX⟩ : ∃ X, X = (w1.alloc (.cells #[.pointer (some ⟨c.wb, 0, none⟩)] 96)).alloc (.cells #[.slice none 0 0] 59) := ⟨_, rfl⟩;have bX : Below w1.heap.size w1 X := by rw [hX]; exact ((Below.refl _ _).alloc (Nat.le_refl _) _).alloc (by simp) _
    have hx : X.heap[xb]? = some (.cells #[.pointer (some ⟨c.wb, 0, none⟩)] 96 (0, 0)) := by rw [hX, hxb]; exact hA_ (heap_alloc_new _ _) _
    have ht : X.heap[tb]? = some (.cells #[.slice none 0 0] 59 (0, 0)) := by
      rw [hX, htb];have := heap_alloc_new (w1.alloc (.cells #[.pointer (some ⟨c.wb, 0, none⟩)] 96)) (.cells #[.slice none 0 0] 59)
      rwa [World.size_alloc] at this
    have E := hM.E.below bX;have S : WkS c X X s := (hS.below bX).start;have hnew := hM.new;have hz := hM.E.cells;have hzg := hS.br.lt c.gb (by simp);have hzu := hS.bu.lt c.ub (by simp);have hWD : W.heap.size ≤ X.heap.size := by have := b1.size; have := bX.size; omega
    have J0 : JTr W.heap.size X c s tb 0 X := by
      refine ⟨none, 0, [], [], rfl, ?_, by simp⟩;have h1 := (Own.nil (w := X) hWD).add (i := .any c.gb) (by show c.gb < X.heap.size; have := bX.size; omega) (by simp [It.fp]; omega) (by simp);have h2 := h1.add (i := .any c.ub) (by show c.ub < X.heap.size; have := bX.size; omega) (by simp [It.fp]; omega) (by simp [It.fp]; exact fun e => hM.N.ne e.symm);have h3 := h2.add (i := .blk tb (.cells #[.slice none 0 0] 59 (0, 0))) ht (by simp [It.fp]; omega) (by simp [It.fp]; omega);exact h3.add (i := .own 56 1 none 0 0 ([].map LRow.v) []) (OwnS.nil _ _ _) (by simp [It.fp]) (by simp [It.fp])
    have hTn : ∀ x ∈ [tb], x ≠ c.wb ∧ x ≠ c.pb ∧ x ≠ c.lb ∧ c.D ≤ x ∧ x ≠ c.gb ∧ x ≠ c.ub := by
      intro x hx;rw [List.mem_singleton.1 hx];have h1 := hz.2.2.2.2.2.2.2.2.2;have h2 := hM.N.g;omega
    have xne : xb ≠ tb ∧ xb ≠ c.gb ∧ xb ≠ c.ub ∧ c.wb ≠ tb ∧ xb < X.heap.size ∧ c.wb < X.heap.size := by
      have h1 := hz.2.2.2.2.2.2.2.2.2;have := hL_ hx;have := bX.size;omega
    have hxc : X.cell? ⟨xb, 0, none⟩ = some (.pointer (some ⟨c.wb, 0, none⟩)) := (cOH hx 0).trans rfl;have hH : c.l.hours.toNat ≤ 100 := by have := v.h; omega
    have step : ∀ (k : Nat) (w : World), k ≤ c.l.hours.toNat → WcE c w (brV c) (buV c) → WkS c w w (stN c.p c.l s k) → JTr W.heap.size X c s tb k w → Keep (c.gb :: c.ub :: [tb]) X w →
        Calls Try.prog 27 (#[.int .i64 k] ++ #[.pointer (some ⟨tb, 0, none⟩), .pointer (some ⟨xb, 0, none⟩)]) w fun e w' => e = .returned (.tuple #[]) ∧ (∃ T', Keep T' w w' ∧ ∀ x ∈ T', x ∈ [tb] ∨ X.heap.size ≤ x) ∧ JTr W.heap.size X c s tb (k + 1) w' := by
      intro k wx hk E1 S1 hJ hK;obtain ⟨A, cA, q, rows, hr, hO, hq⟩ := hJ;refine (trace1_any (k : Int) E1 S1 xb tb k A cA q rows (hK.cell hxc (by simp; omega)) ?_ ?_ hO (by omega) v.nc.2).mono ?_
      · simp only [List.mem_cons, not_or]; exact ⟨xne.1, fun hm => by have := hq _ hm; omega⟩
      · simp only [List.mem_cons, not_or]; exact ⟨xne.2.2.2.1, fun hm => by have := hq _ hm; omega⟩
      · rintro e w' ⟨rfl, A', c', q', r, hrl, hO', kp, hq'⟩;refine ⟨rfl, ⟨_, kp, fun x hx => ?_⟩, A', c', q', rows ++ [r], ?_, hO', fun x hx => ?_⟩
        · rcases List.mem_cons.1 hx with e | e
          · exact .inl (by simp [e])
          · exact .inr (hq x e)
        · rw [List.map_append, hr, traceS_succ, ← hrl]; rfl
        · rcases hq' x hx with e | e
          · exact hq x e
          · have := hK.size; omega
    have keepJ : ∀ (k : Nat) (w w' : World), Keep [c.gb, c.ub] w w' → JTr W.heap.size X c s tb k w → JTr W.heap.size X c s tb k w' := by
      rintro k wx w' hk ⟨A, cA, q, rows, hr, hO, hq⟩;refine ⟨A, cA, q, rows, hr, hO.keepAny hk (fun x hx => .inl ?_), hq⟩;rcases List.mem_cons.1 hx with e | e
      · exact ⟨0, by rw [e]; rfl⟩
      · exact ⟨1, by rw [List.mem_singleton.1 e]; rfl⟩
    have cbTr : ∀ (a : Array Value) (w : World), (callFunc 27 a).run Try.prog w = .ok (.enter 27 a) w := fun a w => by go_simp
    have krun := run_any E hM.N S v (brR_of (by decide) hbr) 27 29 #[.pointer (some ⟨tb, 0, none⟩), .pointer (some ⟨xb, 0, none⟩)] #[] cbTr cbNothing [tb] hTn (fun k w => JTr W.heap.size X c s tb k w) (fun k w => JTr W.heap.size X c s tb (k + 1) w) (fun k w => JTr W.heap.size X c s tb (k + 1) w) J0
      step (fun k w _ _ _ hj _ => (nothing_any _ _).mono fun e w' h => ⟨h.1, ⟨[], by rw [← h.2]; exact Keep.refl _ _, by simp⟩, by rw [← h.2]; exact hj⟩) (fun k w w' hk hj => keepJ _ _ _ hk hj) (fun k w w' hk hj => keepJ _ _ _ hk hj)
    have HM := Lib.hid (And.intro krun (And.intro he (And.intro bw1 (And.intro bX (And.intro q6 (And.intro q11 hnew))))));have hWw := H.out.1.size;have htw : W.heap.size ≤ tb := by have := b1.size; omega
    clear krun J0 hTn step keepJ cbTr he bw1 E S v hM hS hc hbr hlen1 hlen2 q1 q2 q3 q4 q5 q6 q7 q8 q9 q10 q11 b1 hz hnew hzg hzu hH hWD;clear xne hx;have zx := World.block_lt_of_cell? _ _ hxc;simp only at zx;go_upto_region 5 with fail
    rw [← hX, ← htb, ← hxb];clear hX htb hxb;go_wp2_with fail
    refine HM.out.1.mono ?_;rintro e w3 ⟨rfl, kp, hok⟩;rw [HM.out.2.2.2.2.1, HM.out.2.2.2.2.2.1] at hok ⊢;obtain ⟨R, hR⟩ : ∃ R, R = runR p l s := ⟨_, rfl⟩;rw [← hR] at hok ⊢;obtain ⟨i, er⟩ := R;have hv : runE p s l = er := by unfold runE; rw [if_neg (by rw [HM.out.2.1]; simp), ← hR]
    have bX3 : Below w.heap.size w w3 := (HM.out.2.2.1.trans (HM.out.2.2.2.1.mono HM.out.2.2.1.size)).trans (kp.below (by have := HM.out.2.2.1.size; have := HM.out.2.2.2.1.size; omega) (by have := HM.out.2.2.2.2.2.2; simp; omega));clear hR kp hxc zx ht;by_cases her : er = 0
    · subst her;have hvv : traceV p s l = traceS p l s (l.hours.toNat + 1) := by unfold traceV; rw [if_pos hv]
      obtain ⟨_, A, cA, q, rows, hr, hO, hq⟩ := hok rfl;rw [HM.out.2.2.2.2.1, HM.out.2.2.2.2.2.1] at hr;have hh := hO.heap 2 rfl;have ho := hO.owns 3 rfl;have hlen : (traceV p s l).length = l.hours.toNat + 1 := by rw [hvv]; simp [traceS]
      have t0 : w3.cell? ⟨tb, 0, none⟩ = some (.slice A (l.hours.toNat + 1) cA) := (cOH hh 0).trans rfl;have zt := hL_ hh;have hrows : ∀ r ∈ rows, Rd w3 1 r.A r.l.length (ints r.l) := fun r hm => by
        obtain ⟨j, hj, e⟩ := List.mem_iff_getElem.1 hm;have := hO.owns (4 + j) (e := 3) (sz := 1) (A := r.A) (n := r.l.length) (c := r.c) (xs := ints r.l) (q := r.q) (by
          unfold trL;rw [List.getElem?_append_right (by simp)];simp only [List.length_cons, List.length_nil, Nat.reduceAdd, Nat.add_sub_cancel_left, List.getElem?_map, List.getElem?_eq_getElem hj, e];rfl)
        exact this.rd
      have HF := Lib.hid (And.intro hv (And.intro hlen (And.intro bX3 (And.intro ho.rd (And.intro hrows (hr.trans hvv.symm))))));clear hv hvv hlen bX3 hok hh ho hr hO hq hrows;go_wp2_with fail
      go_ret2
      refine ⟨A, cA, rows, ?_, ⟨?_, HF.out.2.2.2.2.1⟩, HF.out.2.2.2.2.2, HF.out.2.2.1⟩
      · rw [HF.out.1, HF.out.2.1]; rfl
      · rw [HF.out.2.1]; exact HF.out.2.2.2.1
    · have hnb : (er != 0) = true := by simpa using her
      have hvv : traceV p s l = [] := by unfold traceV; rw [if_neg (by rw [hv]; exact her)]
      have HF := Lib.hid (And.intro hv (And.intro hvv bX3));clear hv hvv bX3 hok;go_wp2_with fail
      go_ret2
      refine ⟨none, 0, [], ?_, ⟨by rw [HF.out.2.1]; exact Rd.nil _ _ _, by simp⟩, by rw [HF.out.2.1]; rfl, HF.out.2.2⟩;rw [HF.out.1, HF.out.2.1]; rfl
end Go.Proofs.Ytalcinepeofmcaa
namespace Go.Proofs.Ytalcinepeofmcaa.Pt
open Sp
def MdPath (n : Nat) (l : List Int) : Prop := (∃ a, l = [a] ∧ 0 ≤ a ∧ a < n) ∨ ∃ a b, l = [a, b] ∧ a ≠ b ∧ 0 ≤ a ∧ a < n ∧ 0 ≤ b ∧ b < n
structure MdP (p : Prt) : Prop where
  tg : 1 ≤ p.tugs ∧ p.tugs ≤ 6
  nc : 1 ≤ p.chs.length ∧ p.chs.length ≤ 3
  nb : 1 ≤ p.bts.length ∧ p.bts.length ≤ 3
  chf : ∀ c ∈ p.chs, 0 ≤ c.grow ∧ c.grow < 30 ∧ 0 ≤ c.frost ∧ c.frost < 4 ∧ 1 ≤ c.clear ∧ c.clear ≤ 40
  btf : ∀ b ∈ p.bts, 300 ≤ b.depth ∧ b.depth ≤ 1065 ∧ MdPath p.chs.length b.path
theorem MdPath.ok {n : Nat} {l : List Int} (h : MdPath n l) : l ≠ [] ∧ l.Nodup ∧ (∀ x ∈ l, 0 ≤ x ∧ x < n) ∧ pathOk n l l.length = true ∧ l.length ≤ 2 := by
  rcases h with ⟨a, rfl, h0, h1⟩ | ⟨a, b, rfl, hne, h0, h1, h2, h3⟩
  · refine ⟨by simp, by simp, by simp; omega, ?_, by simp⟩;simp [pathOk, within]; omega
  · refine ⟨by simp, by simpa using hne, by simp; omega, ?_, by simp⟩;simp [pathOk, within];exact ⟨by omega, by omega, fun e => hne e.symm⟩
theorem checkP_md {p : Prt} (h : MdP p) : checkP p = 0 := by
  have h1 : within p.chs.length 1 6 = true := by rw [within_iff]; have := h.nc; omega
  have h2 : within p.bts.length 1 4 = true := by rw [within_iff]; have := h.nb; omega
  have h3 : within p.tugs 0 20 = true := by rw [within_iff]; have := h.tg; omega
  have h4 : p.chs.all Pt.chOk = true := List.all_eq_true.2 fun c hc => by
    have := h.chf c hc;unfold Pt.chOk;simp only [Bool.and_eq_true, within_iff]; omega
  have h5 : p.bts.all (btOk p.chs.length) = true := List.all_eq_true.2 fun b hb => by
    obtain ⟨a1, a2, a3⟩ := h.btf b hb;obtain ⟨q1, q2, q3, q4, q5⟩ := a3.ok;unfold btOk;simp only [Bool.and_eq_true, within_iff, q4, and_true, Bool.not_eq_true', decide_eq_false_iff_not];exact ⟨by omega, by simpa using q1⟩
  unfold checkP;rw [h1, h2, h3, h4, h5]; rfl
def tgC (h : Int) : List Cal → Int
  | [] => 0
  | c :: l => (if c.hour = h then c.tugs else 0) + tgC h l
def tgS (h : Int) : List Swp → Int
  | [] => 0
  | c :: l => (if c.hour = h then c.tugs else 0) + tgS h l
theorem tgC_snoc (h : Int) (l : List Cal) (c : Cal) : tgC h (l ++ [c]) = tgC h l + (if c.hour = h then c.tugs else 0) := by
  induction l with
  | nil => simp [tgC]
  | cons x l ih => rw [List.cons_append, tgC, tgC, ih]; omega
theorem tgS_snoc (h : Int) (l : List Swp) (c : Swp) : tgS h (l ++ [c]) = tgS h l + (if c.hour = h then c.tugs else 0) := by
  induction l with
  | nil => simp [tgS]
  | cons x l ih => rw [List.cons_append, tgS, tgS, ih]; omega
theorem tly_get {p : Prt} {h : Int} (h0 : 0 ≤ h) : ∀ {l : List Cal} {t : Tly}, (∀ c ∈ l, 0 ≤ c.hour ∧ c.hour < t.tugs.length) → getI (l.foldl (tlyCall p) t).tugs h = getI t.tugs h + tgC h l ∧ (l.foldl (tlyCall p) t).tugs.length = t.tugs.length
  | [], t, _ => ⟨by simp [tgC], rfl⟩
  | c :: l, t, hc => by
    obtain ⟨c1, c2⟩ := hc c (by simp);have e : (tlyCall p t c).tugs = setI t.tugs c.hour (getI t.tugs c.hour + c.tugs) := by rw [tlyCall, hit_tugs]
    have el : (tlyCall p t c).tugs.length = t.tugs.length := by rw [e, setI_length]
    obtain ⟨i1, i2⟩ := tly_get (p := p) h0 (l := l) (t := tlyCall p t c) (fun x hx => by rw [el]; exact hc x (by simp [hx]));rw [List.foldl_cons, i1, i2, el, e, getI_set c1 h0 c2, tgC];refine ⟨?_, rfl⟩;by_cases q : c.hour = h
    · subst q; simp; omega
    · rw [if_neg q, if_neg q]; omega
theorem swp_get {h : Int} (h0 : 0 ≤ h) : ∀ {l : List Swp} {t : List Int}, (∀ c ∈ l, 0 ≤ c.hour ∧ c.hour < t.length) → getI (l.foldl addSwp t) h = getI t h + tgS h l
  | [], t, _ => by simp [tgS]
  | c :: l, t, hc => by
    obtain ⟨c1, c2⟩ := hc c (by simp);have el : (addSwp t c).length = t.length := setI_length _ _ _;have i1 := swp_get h0 (l := l) (t := addSwp t c) (fun x hx => by rw [el]; exact hc x (by simp [hx]));rw [List.foldl_cons, i1, addSwp, getI_set c1 h0 c2, tgS];by_cases q : c.hour = h
    · subst q; simp; omega
    · rw [if_neg q, if_neg q]; omega
theorem set_false {l : List Bool} {k : Nat} (h : ∀ j, l.getD j false = false) (j : Nat) : (l.set k false).getD j false = false := by
  have := h j;simp only [List.getD_eq_getElem?_getD, List.getElem?_set] at *;split
  · split <;> rfl
  · exact this
theorem hit_ok {h : Int} : ∀ {l : List Int} {t : Tly}, l.Nodup → (∀ n ∈ l, (h, n) ∉ t.hits) → (∀ k, t.twice.getD k false = false) →
    (∀ k, (l.foldl (hit1 h) t).twice.getD k false = false) ∧ ∀ x ∈ (l.foldl (hit1 h) t).hits, x ∈ t.hits ∨ x.1 = h
  | [], t, _, _, ht => ⟨ht, fun x hx => .inl hx⟩
  | n :: l, t, hn, hh, ht => by
    obtain ⟨n1, n2⟩ := List.nodup_cons.1 hn;have e0 : t.hits.count (h, n) = 0 := List.count_eq_zero.2 (hh n (by simp));have e1 : hit1 h t n = ⟨t.tugs, t.twice.set h.toNat false, (h, n) :: t.hits⟩ := by unfold hit1; rw [e0, ht]; rfl
    rw [List.foldl_cons, e1];obtain ⟨i1, i2⟩ := hit_ok (h := h) (l := l) (t := ⟨t.tugs, t.twice.set h.toNat false, (h, n) :: t.hits⟩) n2 (fun m hm => by
      simp only [List.mem_cons, Prod.mk.injEq, true_and, not_or];exact ⟨fun e => n1 (e ▸ hm), hh m (by simp [hm])⟩) (fun k => set_false ht k)
    refine ⟨i1, fun x hx => ?_⟩;rcases i2 x hx with e | e
    · rcases List.mem_cons.1 e with rfl | e
      · exact .inr rfl
      · exact .inl e
    · exact .inr e
theorem tly_twice {p : Prt} : ∀ {l : List Cal} {t : Tly}, (∀ c ∈ l, (bt p c.berth).path.Nodup) → l.Pairwise (fun a b => a.hour < b.hour) → (∀ c ∈ l, ∀ x ∈ t.hits, x.1 < c.hour) → (∀ k, t.twice.getD k false = false) →
    ∀ k, (l.foldl (tlyCall p) t).twice.getD k false = false
  | [], t, _, _, _, ht => ht
  | c :: l, t, hn, hs, hh, ht => by
    obtain ⟨s1, s2⟩ := List.pairwise_cons.1 hs;have h1 := hit_ok (h := c.hour) (l := (bt p c.berth).path) (t := ⟨setI t.tugs c.hour (getI t.tugs c.hour + c.tugs), t.twice, t.hits⟩) (hn c (by simp)) (fun n _ hm => by have := hh c (by simp) _ hm; simp at this) ht;rw [List.foldl_cons];refine tly_twice (fun x hx => hn x (by simp [hx])) s2 (fun x hx y hy => ?_) h1.1;rcases h1.2 y hy with e | e
    · exact hh x (by simp [hx]) y e
    · rw [e]; exact s1 x hx
theorem finE_ok {tg : Int} {ts : List Int} {tw : List Bool} : ∀ {n k : Nat}, (∀ j, k ≤ j → j < k + n → tw.getD j false = false ∧ ts.getD j 0 ≤ tg) → finE tg ts tw k n = 0
  | 0, _, _ => rfl
  | n + 1, k, h => by
    obtain ⟨h1, h2⟩ := h k (Nat.le_refl _) (by omega);rw [finE, h1, if_neg (by simp), if_neg (by omega)];exact finE_ok fun j hj1 hj2 => h j (by omega) (by omega)
theorem callsE_of {p : Prt} {h : Int} : ∀ {l : List Cal} {f : Int}, (∀ c ∈ l, callE p h c c.hour = 0 ∧ f ≤ c.hour) → l.Pairwise (fun a b => a.hour ≤ b.hour) → callsE p h f l = 0
  | [], _, _, _ => rfl
  | c :: l, f, hc, hs => by
    obtain ⟨s1, s2⟩ := List.pairwise_cons.1 hs;obtain ⟨c1, c2⟩ := hc c (by simp);have e : callE p h c f = 0 := by
      unfold callE at c1 ⊢;split at c1
      · cases c1
      split at c1
      · cases c1
      split at c1
      · cases c1
      rename_i h1 h2 h3
      rw [if_neg h1, if_neg h2, if_neg h3, if_neg (by omega)]
    rw [callsE, if_neg (by simp [e])];exact callsE_of (fun x hx => ⟨(hc x (by simp [hx])).1, s1 x hx⟩) s2
theorem swpsE_of {p : Prt} {h : Int} : ∀ {l : List Swp}, (∀ s ∈ l, swpE p h s = 0) → swpsE p h l = 0
  | [], _ => rfl
  | c :: l, hc => by
    rw [swpsE, if_neg (by simp [hc c (by simp)])];exact swpsE_of fun x hx => hc x (by simp [hx])
def outsOk : List Cal → List Bool → Prop
  | [], _ => True
  | c :: l, b => b.getD c.berth.toNat false = c.out ∧ outsOk l (b.set c.berth.toNat (!c.out))
def outsAft : List Cal → List Bool → List Bool
  | [], b => b
  | c :: l, b => outsAft l (b.set c.berth.toNat (!c.out))
theorem outsAft_append : ∀ (a c : List Cal) (b : List Bool), outsAft (a ++ c) b = outsAft c (outsAft a b)
  | [], _, _ => rfl
  | x :: a, c, b => by rw [List.cons_append, outsAft, outsAft, outsAft_append]
theorem outsOk_append : ∀ (a c : List Cal) (b : List Bool), outsOk (a ++ c) b ↔ outsOk a b ∧ outsOk c (outsAft a b)
  | [], _, _ => by simp [outsOk, outsAft]
  | x :: a, c, b => by rw [List.cons_append, outsOk, outsOk, outsAft, outsOk_append, and_assoc]
theorem outsAft_length : ∀ (a : List Cal) (b : List Bool), (outsAft a b).length = b.length
  | [], _ => rfl
  | x :: a, b => by rw [outsAft, outsAft_length, List.length_set]
theorem bOk_outs (h : Int) : ∀ (l : List Cal) (b : List Bool), (bOk h l b ↔ outsOk (l.filter fun c => decide (c.hour = h)) b) ∧ bAft h l b = outsAft (l.filter fun c => decide (c.hour = h)) b
  | [], b => ⟨Iff.rfl, rfl⟩
  | c :: l, b => by
    by_cases q : c.hour = h
    · rw [List.filter_cons_of_pos (by simpa using q), bOk, if_neg (by simpa using q), bAft, if_neg (by simpa using q), outsOk, outsAft, (bOk_outs h l _).1, (bOk_outs h l _).2];exact ⟨Iff.rfl, rfl⟩
    · rw [List.filter_cons_of_neg (by simpa using q), bOk, if_pos q, bAft, if_pos q];exact bOk_outs h l b
theorem hours_split (k n : Int) (hn : 0 ≤ n) : ∀ {l : List Cal}, l.Pairwise (fun a b => a.hour ≤ b.hour) →
    l.filter (fun c => decide (k ≤ c.hour) && decide (c.hour < k + (n + 1))) = l.filter (fun c => decide (c.hour = k)) ++ l.filter (fun c => decide (k + 1 ≤ c.hour) && decide (c.hour < k + 1 + n))
  | [], _ => rfl
  | c :: l, hs => by
    obtain ⟨s1, s2⟩ := List.pairwise_cons.1 hs;have ih := hours_split k n hn s2;by_cases q : c.hour = k
    · rw [List.filter_cons_of_pos (by simp; omega), List.filter_cons_of_pos (by simpa using q), List.filter_cons_of_neg (by simp; omega), ih]; rfl
    · by_cases q2 : k + 1 ≤ c.hour ∧ c.hour < k + 1 + n
      · have e : l.filter (fun c => decide (c.hour = k)) = [] := List.filter_eq_nil_iff.2 fun x hx => by have := s1 x hx; simp; omega
        rw [List.filter_cons_of_pos (by simp; omega), List.filter_cons_of_neg (by simpa using q), List.filter_cons_of_pos (by simp; omega), ih, e]; rfl
      · rw [List.filter_cons_of_neg (by simp; omega), List.filter_cons_of_neg (by simpa using q), List.filter_cons_of_neg (by simp; omega), ih]
theorem bOkF_outs {l : Pln} (hs : l.calls.Pairwise (fun a b => a.hour ≤ b.hour)) : ∀ (n k : Nat) (b : List Bool),
    (bOkF l k n b ↔ outsOk (l.calls.filter fun c => decide ((k : Int) ≤ c.hour) && decide (c.hour < (k : Int) + n)) b) ∧ bAftF l k n b = outsAft (l.calls.filter fun c => decide ((k : Int) ≤ c.hour) && decide (c.hour < (k : Int) + n)) b
  | 0, k, b => by
    have e : l.calls.filter (fun c => decide ((k : Int) ≤ c.hour) && decide (c.hour < (k : Int) + (0 : Nat))) = [] := List.filter_eq_nil_iff.2 fun x hx => by simp <;> omega
    rw [e]; exact ⟨Iff.rfl, rfl⟩
  | n + 1, k, b => by
    have e := hours_split k n (by omega) hs;obtain ⟨b1, b2⟩ := bOk_outs k l.calls b;obtain ⟨i1, i2⟩ := bOkF_outs hs n (k + 1) (bAft k l.calls b);rw [bOkF, bAftF, b1, i1, i2];simp only [Int.natCast_add, Int.natCast_one] at e ⊢;rw [e, outsOk_append, outsAft_append, ← b2];exact ⟨Iff.rfl, rfl⟩
theorem busy_outs {l : Pln} (hs : l.calls.Pairwise (fun a b => a.hour ≤ b.hour)) (hh : ∀ c ∈ l.calls, 0 ≤ c.hour ∧ c.hour < l.hours) (b : List Bool) : (busyOk l b ↔ outsOk l.calls b) ∧ busyAft l b = outsAft l.calls b := by
  have h := bOkF_outs hs l.hours.toNat 0 b;have e : l.calls.filter (fun c => decide (((0 : Nat) : Int) ≤ c.hour) && decide (c.hour < ((0 : Nat) : Int) + l.hours.toNat)) = l.calls := List.filter_eq_self.2 fun x hx => by
    have := hh x hx;simp; omega
  rw [e] at h;exact h
structure MdL (p : Prt) (l : Pln) : Prop where
  h : 4 ≤ l.hours ∧ l.hours ≤ 43
  n1 : l.calls.length ≤ 8
  n2 : l.swps.length ≤ 11
  ca : ∀ c ∈ l.calls, 0 ≤ c.hour ∧ c.hour < l.hours ∧ 0 ≤ c.berth ∧ c.berth < p.bts.length ∧ 10 ≤ c.draught ∧ c.draught < 210 ∧ 10 ≤ c.most ∧ c.most < 130 ∧ 0 ≤ c.tugs ∧ c.tugs ≤ 3
  srt : l.calls.Pairwise (fun a b => a.hour < b.hour)
  out : outsOk l.calls (List.replicate p.bts.length false)
  sw : ∀ s ∈ l.swps, 0 ≤ s.channel ∧ s.channel < p.chs.length ∧ 1 ≤ s.tugs ∧ s.tugs ≤ 6 ∧ 0 ≤ s.hour ∧ s.hour < l.hours
  tg : ∀ h, tgC h l.calls + tgS h l.swps ≤ p.tugs
theorem MdL.checkL {p : Prt} {l : Pln} (hp : MdP p) (hl : MdL p l) : checkL p l = 0 := by
  have h1 := checkP_md hp;have h2 : within l.hours 1 100 = true := by rw [within_iff]; have := hl.h; omega
  have h3 : callsE p l.hours 0 l.calls = 0 := callsE_of (fun c hc => by
    obtain ⟨c1, c2, c3, c4, c5, c6, c7, c8, c9, c10⟩ := hl.ca c hc;refine ⟨?_, c1⟩;have hd := (hp.btf _ (bt_mem c3 c4)).1;unfold callE;rw [if_neg (by simp only [Bool.not_eq_false, Bool.and_eq_true, within_iff]; omega), if_neg (by simp only [Bool.not_eq_false, within_iff]; omega), if_neg (by simp only [Bool.not_eq_false, within_iff]; omega), if_neg (by omega)]) (hl.srt.imp fun h => by omega)
  have h4 : swpsE p l.hours l.swps = 0 := swpsE_of fun s hs => by
    have := hl.sw s hs;unfold swpE;rw [if_neg (by simp only [Bool.not_eq_false, Bool.and_eq_true, within_iff]; omega), if_neg (by simp only [Bool.not_eq_false, within_iff]; omega)]
  have n1 := hl.n1;have n2 := hl.n2;have hh := hl.h;unfold Pt.checkL;rw [if_neg (by simp [h1]), if_neg (by omega), if_neg (by simp [h2]), if_neg (by simp [h3]), if_neg (by simp [h4])];have ht : (tly0 l.hours.toNat).tugs.length = l.hours.toNat := by simp [tly0]
  refine finE_ok fun j _ hj => ⟨?_, ?_⟩
  · refine tly_twice (fun c hc => ?_) hl.srt (fun c hc x hx => ?_) (fun k => ?_) j
    · obtain ⟨c1, c2, c3, c4, _⟩ := hl.ca c hc;exact (hp.btf _ (bt_mem c3 c4)).2.2.ok.2.1
    · simp [tly0] at hx
    · simp only [tly0, List.getD_eq_getElem?_getD, List.getElem?_replicate]; split <;> rfl
  · have g1 := tly_get (p := p) (h := j) (by omega) (l := l.calls) (t := tly0 l.hours.toNat) (fun c hc => by have := hl.ca c hc; rw [ht]; omega);have g2 := swp_get (h := j) (by omega) (l := l.swps) (t := (tlyCalls p l.hours.toNat l.calls).tugs) (fun s hs => by unfold tlyCalls; rw [g1.2, ht]; have := hl.sw s hs; omega);have g3 := hl.tg j;have e : (l.swps.foldl addSwp (tlyCalls p l.hours.toNat l.calls).tugs).getD j 0 = getI (l.swps.foldl addSwp (tlyCalls p l.hours.toNat l.calls).tugs) j := by unfold getI; simp
    rw [e, g2];unfold tlyCalls;rw [g1.1, tly0_get];omega
theorem MdL.busy {p : Prt} {l : Pln} (hl : MdL p l) : busyOk l (List.replicate p.bts.length false) ∧ busyAft l (List.replicate p.bts.length false) = outsAft l.calls (List.replicate p.bts.length false) := by
  have h := busy_outs (l := l) (hl.srt.imp fun h => by omega) (fun c hc => by have := hl.ca c hc; omega) (List.replicate p.bts.length false);exact ⟨h.1.2 hl.out, h.2⟩
def noB (p : Prt) : List Bool := List.replicate p.bts.length false
structure P1 (p : Prt) (hours : Int) (calls : List Cal) (busy : List Bool) (hour : Int) : Prop where
  ca : ∀ c ∈ calls, 0 ≤ c.hour ∧ c.hour < hours ∧ 0 ≤ c.berth ∧ c.berth < p.bts.length ∧ 10 ≤ c.draught ∧ c.draught < 210 ∧ 10 ≤ c.most ∧ c.most < 130 ∧ 0 ≤ c.tugs ∧ c.tugs ≤ 3 ∧ c.hour < hour
  srt : calls.Pairwise (fun a b => a.hour < b.hour)
  out : outsOk calls (noB p)
  bus : busy = outsAft calls (noB p)
  hr : 0 ≤ hour ∧ hour ≤ 100
  tg : ∀ h, tgC h calls ≤ p.tugs
theorem P1.start {p : Prt} (hp : MdP p) {hours h : Int} (hh : 0 ≤ h ∧ h ≤ 100) : P1 p hours [] (noB p) h :=
  ⟨by simp, List.Pairwise.nil, trivial, rfl, hh, fun h => by have := hp.tg; simp only [tgC]; omega⟩
theorem tgC_zero {h : Int} : ∀ {l : List Cal}, (∀ c ∈ l, c.hour ≠ h) → tgC h l = 0
  | [], _ => rfl
  | c :: l, hc => by rw [tgC, if_neg (hc c (by simp)), tgC_zero (fun x hx => hc x (by simp [hx]))]; rfl
theorem P1.len {p : Prt} {hours hour : Int} {calls : List Cal} {busy : List Bool} (H : P1 p hours calls busy hour) : busy.length = p.bts.length := by rw [H.bus, outsAft_length]; simp [noB]
theorem P1.push {p : Prt} {hours hour : Int} {calls : List Cal} {busy : List Bool} (H : P1 p hours calls busy hour) (hp : MdP p) {b : Nat} {x0 x1 x2 x3 : Int} (hlt : hour < hours) (hh : hours ≤ 43) (hb : b < p.bts.length) (h0 : 0 ≤ x0 ∧ x0 < 200) (h1 : 0 ≤ x1 ∧ x1 < 120) (h2 : 0 ≤ x2 ∧ x2 ≤ 3 ∧ x2 ≤ p.tugs) (h3 : 0 ≤ x3 ∧ x3 < 5) :
    P1 p hours (calls ++ [⟨hour, b, busy.getD b false, 10 + x0, 10 + x1, x2⟩]) (busy.set b (!busy.getD b false)) (hour + (1 + x3)) := by
  have hr := H.hr;refine ⟨fun c hc => ?_, ?_, ?_, ?_, by omega, fun h => ?_⟩
  · rcases List.mem_append.1 hc with hc | hc
    · have := H.ca c hc; omega
    · rw [List.mem_singleton.1 hc]; simp only; omega
  · rw [List.pairwise_append];refine ⟨H.srt, List.pairwise_singleton _ _, fun a ha c hc => ?_⟩;rw [List.mem_singleton.1 hc];exact (H.ca a ha).2.2.2.2.2.2.2.2.2.2
  · rw [outsOk_append];refine ⟨H.out, ?_, trivial⟩;rw [← H.bus]; simp
  · rw [outsAft_append, ← H.bus]; simp [outsAft]
  · rw [tgC_snoc];simp only;by_cases e : hour = h
    · rw [if_pos e, tgC_zero (fun c hc => by have := H.ca c hc; omega)]; omega
    · rw [if_neg e]; have := H.tg h; omega
structure P2 (p : Prt) (hours : Int) (calls : List Cal) (swps : List Swp) : Prop where
  sw : ∀ s ∈ swps, 0 ≤ s.channel ∧ s.channel < p.chs.length ∧ 1 ≤ s.tugs ∧ s.tugs ≤ 6 ∧ 0 ≤ s.hour ∧ s.hour < hours
  tg : ∀ h, tgC h calls + tgS h swps ≤ p.tugs
theorem P2.start {p : Prt} {hours hour : Int} {calls : List Cal} {busy : List Bool} (H : P1 p hours calls busy hour) : P2 p hours calls [] := ⟨by simp, fun h => by have := H.tg h; simp only [tgS]; omega⟩
theorem P2.push {p : Prt} {hours : Int} {calls : List Cal} {swps : List Swp} (H : P2 p hours calls swps) (hp : MdP p) {h c t : Int} (hh : 0 ≤ h ∧ h < hours) (hc : 0 ≤ c ∧ c < p.chs.length) (ht : 1 ≤ t ∧ t ≤ p.tugs - tgC h calls - tgS h swps) (h0 : 0 ≤ tgC h calls) (h1 : 0 ≤ tgS h swps) : P2 p hours calls (swps ++ [⟨h, c, t⟩]) := by
  have := hp.tg;refine ⟨fun s hs => ?_, fun k => ?_⟩
  · rcases List.mem_append.1 hs with hs | hs
    · exact H.sw s hs
    · rw [List.mem_singleton.1 hs]; simp only; omega
  · rw [tgS_snoc];simp only;by_cases e : h = k
    · subst e; rw [if_pos rfl]; omega
    · rw [if_neg e]; have := H.tg k; omega
theorem tgC_bd {h : Int} : ∀ {l : List Cal}, (∀ c ∈ l, 0 ≤ c.tugs ∧ c.tugs ≤ 6) → 0 ≤ tgC h l ∧ tgC h l ≤ 6 * l.length
  | [], _ => by simp [tgC]
  | c :: l, hc => by
    have := hc c (by simp);have := tgC_bd (h := h) (fun x hx => hc x (List.mem_cons_of_mem c hx));rw [tgC, List.length_cons];split <;> omega
theorem tgS_bd {h : Int} : ∀ {l : List Swp}, (∀ c ∈ l, 0 ≤ c.tugs ∧ c.tugs ≤ 6) → 0 ≤ tgS h l ∧ tgS h l ≤ 6 * l.length
  | [], _ => by simp [tgS]
  | c :: l, hc => by
    have := hc c (by simp);have := tgS_bd (h := h) (fun x hx => hc x (List.mem_cons_of_mem c hx));rw [tgS, List.length_cons];split <;> omega
theorem tgC_take {h : Int} {l : List Cal} {k : Nat} (hk : k < l.length) : tgC h (l.take (k + 1)) = tgC h (l.take k) + (if l[k].hour = h then l[k].tugs else 0) := by
  rw [List.take_succ_eq_append_getElem hk, tgC_snoc]
theorem tgS_take {h : Int} {l : List Swp} {k : Nat} (hk : k < l.length) : tgS h (l.take (k + 1)) = tgS h (l.take k) + (if l[k].hour = h then l[k].tugs else 0) := by
  rw [List.take_succ_eq_append_getElem hk, tgS_snoc]
theorem MdL.of {p : Prt} {hours hour : Int} {calls : List Cal} {busy : List Bool} {swps : List Swp} (H : P1 p hours calls busy hour) (H2 : P2 p hours calls swps) (hh : 4 ≤ hours ∧ hours ≤ 43) (n1 : calls.length ≤ 8) (n2 : swps.length ≤ 11) : MdL p ⟨hours, calls, swps⟩ :=
  ⟨hh, n1, n2, fun c hc => by have := H.ca c hc; simp only; omega, H.srt, H.out, H2.sw, H2.tg⟩
end Go.Proofs.Ytalcinepeofmcaa.Pt
namespace Go.Proofs.Ytalcinepeofmcaa
open Sp Pt
def st0 (p : Prt) (b : List Int) : Stt := ⟨b, noB p⟩
theorem st0_start {p : Prt} {l : Pln} (hp : MdP p) (hl : MdL p l) {b : List Int} {B : Int} (hB : B ≤ 1000000) (hlen : b.length = p.chs.length) (hb : ∀ x ∈ b, 0 ≤ x ∧ x < B) : startE p (st0 p b) l = 0 :=
  startE_3 (hl.checkL hp) hlen (by simp [st0, noB]) (by
    rw [List.any_eq_false];intro x hx;have := hb x hx;simp [within]; omega)
theorem bGe_of {n : Nat} {b : List Int} (hlen : b.length = n) (hb : ∀ x ∈ b, 0 ≤ x) : bGe n b := ⟨hlen, fun c c0 c1 => by
  unfold getI;have : c.toNat < b.length := by omega
  rw [List.getD_eq_getElem?_getD, List.getElem?_eq_getElem this];exact hb _ (List.getElem_mem _)⟩
theorem getI_mem {b : List Int} {i : Nat} (h : i < b.length) : getI b i ∈ b := by
  unfold getI;simp only [Int.toNat_natCast, List.getD_eq_getElem?_getD, List.getElem?_eq_getElem h, Option.getD_some];exact List.getElem_mem _
theorem jm_right {m : Mp} (h : Jm 360 m) : mright m = true := by
  obtain ⟨⟨a, a'⟩, ⟨b, b'⟩, c, d, e⟩ := h;rw [mright_iff];simp only [BIG, NL] at *;omega
theorem jm_apply {m : Mp} (h : Jm 360 m) {x : Int} (h0 : 0 ≤ x) (h1 : x ≤ 1000000) : (limOk m x ∧ applyE m x = 0 ∧ x ≤ m.most ∧ applyN m x = ap m x) ∨ (¬ limOk m x ∧ applyE m x = 8 ∧ m.most < x) := by
  have hr := jm_right h;have hw : within x 0 BIG = true := by simp [within, BIG]; omega
  have he : applyE m x = if m.most < x then 8 else 0 := by unfold applyE; rw [hr, hw]; simp
  by_cases q : m.most < x
  · refine .inr ⟨?_, by rw [he, if_pos q], q⟩;rintro (e | e)
    · rw [e] at q; simp only [NL] at q; omega
    · omega
  · refine .inl ⟨.inr (by omega), by rw [he, if_neg q], by omega, ?_⟩;unfold applyN;rw [he, if_neg q, if_pos rfl]; rfl
theorem run_st0 {p : Prt} {l : Pln} (hp : MdP p) (hl : MdL p l) {b : List Int} {B : Int} (hB : B ≤ 1000000) (hlen : b.length = p.chs.length) (hb : ∀ x ∈ b, 0 ≤ x ∧ x < B) :
    (runE p (st0 p b) l = 0 ∧ runI p (st0 p b) l = l.calls.length ∧ runV p (st0 p b) l = stN p l (st0 p b) l.hours.toNat ∧ bGe p.chs.length (runV p (st0 p b) l).brash ∧ (runV p (st0 p b) l).busy = outsAft l.calls (noB p) ∧
      ∀ i : Nat, i < p.chs.length → limOk (foldS p l i) (getI b i) ∧ getI (runV p (st0 p b) l).brash i = ap (foldS p l i) (getI b i)) ∨
    (runE p (st0 p b) l = 8 ∧ ∃ (x : Cal) (i : Nat), l.calls[(runR p l (st0 p b)).1]? = some x ∧ i < p.chs.length ∧ (i : Int) ∈ (bt p x.berth).path ∧ ¬ limOk (foldS p l i) (getI b i)) := by
  have v := val_of (hl.checkL hp);have hs := st0_start hp hl hB hlen hb;have hE : runE p (st0 p b) l = (runR p l (st0 p b)).2 := by unfold runE; rw [if_neg (by rw [hs]; simp)]
  have hI : runI p (st0 p b) l = (runR p l (st0 p b)).1 := by unfold runI; rw [if_neg (by rw [hs]; simp)]
  rcases run_folds v (s := st0 p b) (bGe_of hlen fun x hx => (hb x hx).1) hl.busy.1 with ⟨q1, q2, q3, q4, q5⟩ | ⟨q1, x, c, q2, q3, q4, q5, q6⟩
  · have hV : runV p (st0 p b) l = stN p l (st0 p b) l.hours.toNat := by unfold runV; rw [if_pos (by rw [hE]; exact q1)]
    refine .inl ⟨by rw [hE]; exact q1, by rw [hI, q2], hV, by rw [hV]; exact q3, by rw [hV, q4]; exact hl.busy.2, fun i hi => ?_⟩;rw [hV];exact q5 i (by omega) (by omega)
  · refine .inr ⟨by rw [hE]; exact q1, x, c.toNat, q2, by omega, ?_, ?_⟩
    · rw [Int.toNat_of_nonneg q3]; exact q5
    · rw [Int.toNat_of_nonneg q3]; exact q6
theorem folds_at {p : Prt} {l : Pln} (hp : MdP p) (hl : MdL p l) {b : List Int} (hlen : b.length = p.chs.length) (hb : ∀ x ∈ b, 0 ≤ x ∧ x < 200) {i : Nat} (hi : i < p.chs.length) :
    foldE p l i = 0 ∧ ((applyE (foldS p l i) (getI b i) = 0 ∧ getI b i ≤ (foldS p l i).most ∧ (runE p (st0 p b) l = 0 → applyN (foldS p l i) (getI b i) = getI (runV p (st0 p b) l).brash i)) ∨
      (applyE (foldS p l i) (getI b i) = 8 ∧ (foldS p l i).most < getI b i ∧ runE p (st0 p b) l ≠ 0)) := by
  have v := val_of (hl.checkL hp);have hx := hb _ (getI_mem (b := b) (i := i) (by omega));refine ⟨?_, ?_⟩
  · unfold foldE; rw [if_neg (by rw [hl.checkL hp]; simp), if_neg (by rw [show within (i : Int) 0 ((p.chs.length : Int) - 1) = true from Pt.within_iff.2 (by omega)]; decide)]
  · rcases jm_apply (foldS_jm v (c := (i : Int)) (by omega) (by omega)) (x := getI b i) hx.1 (by omega) with ⟨h1, h2, h3, h4⟩ | ⟨h1, h2, h3⟩
    · refine .inl ⟨h2, h3, fun h0 => ?_⟩;rcases run_st0 hp hl (B := 200) (by decide) hlen hb with ⟨_, _, _, _, _, q⟩ | ⟨q, _⟩
      · rw [h4, (q i hi).2]
      · rw [q] at h0; cases h0
    · refine .inr ⟨h2, h3, fun h0 => ?_⟩;rcases run_st0 hp hl (B := 200) (by decide) hlen hb with ⟨_, _, _, _, _, q⟩ | ⟨q, _⟩
      · exact h1 (q i hi).1
      · rw [q] at h0; cases h0
end Go.Proofs.Ytalcinepeofmcaa
namespace Go.Proofs.Ytalcinepeofmcaa
open Go Go.RowKit Sp Pt
structure BrR where
  b : Brt
  A : Option Addr
  c : Nat
deriving Inhabited
end Go.Proofs.Ytalcinepeofmcaa
namespace Go.Proofs.Ytalcinepeofmcaa
open Go Go.RowKit Sp Pt
section
variable {S S' : List Nat} {w w' : World} {A : Option Addr} {c : Nat} {l : List Int}
end
section
variable {S S' : List Nat} {w w' : World} {L : List BrR}
end
theorem OwnS.nilS {w : World} {e : TypeId} {sz : Nat} {A : Option Addr} {n c : Nat} {xs : List Value} {q : List Nat} (h : OwnS w e sz A n c xs q) (hA : A = none) : c = 0 := by
  rcases h.2 with ⟨_, _, h2, _⟩ | ⟨g, cur, h1, _⟩
  · exact h2
  · rw [hA] at h1; cases h1
theorem PlnB.of_own {w : World} {e1 e2 : TypeId} {Al As : Option Addr} {cl cs : Nat} {q1 q2 : List Nat} {l : Pln} (h1 : OwnS w e1 6 Al l.calls.length cl (cacs l.calls) q1) (h2 : OwnS w e2 3 As l.swps.length cs (swcs l.swps) q2) : PlnB w.heap.size w Al cl As cs l :=
  ⟨RdB.of h1.rd (Nat.le_refl _), RdB.of h2.rd (Nat.le_refl _), ⟨h1.ge, h1.cap, h1.nilS⟩, ⟨h2.ge, h2.cap, h2.nilS⟩⟩
end Go.Proofs.Ytalcinepeofmcaa
namespace Go.Proofs.Ytalcinepeofmcaa
open Go Go.RowKit Sp Pt
def noIt : It := .gen [] (fun _ => True)
section
variable {D : Nat} {W0 w w' : World} {L : List It}
theorem Own.blank (h : Own D W0 L w) : Own D W0 (L ++ [noIt]) w := h.add (i := noIt) ⟨by simp, fun _ _ _ _ => trivial⟩ (by simp [noIt, It.fp]) (by simp [noIt, It.fp])
theorem Own.newB (h : Own D W0 L w) (k : Nat) (hi : L[k]? = some noIt) (o : Obj) : Own D W0 (L.set k (.blk w.heap.size o)) (w.alloc o) :=
  h.upd k hi ((Keep.refl _ _).alloc _) (heap_alloc_new w o) (fun x hx => .inr (by rw [List.mem_singleton.1 hx]; exact Nat.le_refl _))
end
end Go.Proofs.Ytalcinepeofmcaa
namespace Go.Proofs.Ytalcinepeofmcaa
open Go Go.RowKit Sp Pt
theorem callsN_lens (p : Prt) (h : Int) : ∀ (l : List Cal) (i : Nat) (s : Stt), (callsN p h l i s).2.2.brash.length = s.brash.length ∧ (callsN p h l i s).2.2.busy.length = s.busy.length
  | [], _, _ => ⟨rfl, rfl⟩
  | c :: l, i, s => by
    rw [callsN];split
    · exact callsN_lens p h l _ _
    · split
      · exact ⟨rfl, rfl⟩
      · split
        · exact ⟨rfl, rfl⟩
        · have := callsN_lens p h l (i + 1) ⟨growN p (bt p c.berth).path s.brash, s.busy.set c.berth.toNat (!c.out)⟩;rw [this.1, this.2];simp [growN_length]
theorem hourR_lens (p : Prt) (l : Pln) (k : Nat) (s : Stt) : (hourR p l k s).2.2.brash.length = s.brash.length ∧ (hourR p l k s).2.2.busy.length = s.busy.length := by
  have := callsN_lens p k l.calls 0 ⟨swpN p k l.swps s.brash, s.busy⟩;unfold hourR;rw [this.1, this.2];simp [swpN_length]
theorem stN_lens (p : Prt) (l : Pln) (s : Stt) : ∀ k, (stN p l s k).brash.length = s.brash.length ∧ (stN p l s k).busy.length = s.busy.length
  | 0 => ⟨rfl, rfl⟩
  | k + 1 => by
    have h1 := hourR_lens p l k (stN p l s k);have h2 := stN_lens p l s k;rw [stN];unfold hourS frostL;simp only [frostN_length];exact ⟨h1.1.trans h2.1, h1.2.trans h2.2⟩
end Go.Proofs.Ytalcinepeofmcaa
namespace Go.Proofs.Ytalcinepeofmcaa.Pt
open Sp
def Ge0 (a : List Int) : Prop := ∀ i : Int, 0 ≤ getI a i
theorem getI_setI (l : List Int) (i x c : Int) : getI (setI l i x) c = if i.toNat = c.toNat ∧ i.toNat < l.length then x else getI l c := by
  unfold getI setI;rw [List.getD_eq_getElem?_getD, List.getD_eq_getElem?_getD, List.getElem?_set];by_cases h : i.toNat = c.toNat
  · rw [if_pos h];by_cases h2 : i.toNat < l.length
    · rw [if_pos h2, if_pos ⟨h, h2⟩]; rfl
    · rw [if_neg h2, if_neg (fun e => h2 e.2)];rw [← h, List.getElem?_eq_none (by omega)]
  · rw [if_neg h, if_neg (fun e => h e.1)]
theorem Ge0.set {a : List Int} (h : Ge0 a) {i x : Int} (hx : 0 ≤ x) : Ge0 (setI a i x) := fun c => by
  rw [getI_setI];split
  · exact hx
  · exact h c
theorem ge0_of {a : List Int} (h : ∀ x ∈ a, 0 ≤ x) : Ge0 a := fun i => by
  unfold getI;rw [List.getD_eq_getElem?_getD];by_cases hi : i.toNat < a.length
  · rw [List.getElem?_eq_getElem hi]; exact h _ (List.getElem_mem hi)
  · rw [List.getElem?_eq_none (by omega)]; exact Int.le_refl 0
theorem swp1_ge (p : Prt) (h : Int) (s : Swp) {a : List Int} (hh : Ge0 a) : Ge0 (swp1 p h a s) := by
  unfold swp1;split
  · exact hh.set (by omega)
  · exact hh
theorem swpN_ge (p : Prt) (h : Int) : ∀ (l : List Swp) {a : List Int}, Ge0 a → Ge0 (swpN p h l a)
  | [], _, hh => hh
  | s :: l, _, hh => swpN_ge p h l (swp1_ge p h s hh)
theorem growN_ge (p : Prt) (hg : ∀ n : Int, 0 ≤ (ch p n).grow) : ∀ (l : List Int) {a : List Int}, Ge0 a → Ge0 (growN p l a)
  | [], _, hh => hh
  | n :: l, a, hh => growN_ge p hg l (hh.set (by have := hh n; have := hg n; omega))
theorem frostN_ge (p : Prt) (hg : ∀ n : Int, 0 ≤ (ch p n).frost) {a : List Int} (hh : Ge0 a) : ∀ k, Ge0 (frostN p a k)
  | 0 => hh
  | k + 1 => (frostN_ge p hg hh k).set (by have := frostN_ge p hg hh k k; have := hg k; omega)
theorem callsN_ge (p : Prt) (h : Int) (hg : ∀ n : Int, 0 ≤ (ch p n).grow) : ∀ (l : List Cal) (i : Nat) {s : Stt}, Ge0 s.brash → Ge0 (callsN p h l i s).2.2.brash
  | [], _, _, hb => hb
  | c :: l, i, s, hb => by
    unfold callsN;split
    · exact callsN_ge p h hg l (i + 1) hb
    · split
      · exact hb
      · split
        · exact hb
        · exact callsN_ge p h hg l (i + 1) (growN_ge p hg _ hb)
theorem runF_all {p : Prt} {l : Pln} {s : Stt} : ∀ {n k : Nat}, (runF p l s k n).2 = 0 ↔ ∀ j, k ≤ j → j < k + n → (hourR p l j (stN p l s j)).2.1 = 0
  | 0, k => ⟨fun _ j h1 h2 => by omega, fun _ => rfl⟩
  | n + 1, k => by
    rw [runF];constructor
    · intro h j h1 h2;by_cases h3 : (hourR p l k (stN p l s k)).2.1 ≠ 0
      · rw [if_pos h3] at h; exact absurd h h3
      · rw [if_neg h3] at h;by_cases e : j = k
        · subst e; exact Decidable.not_not.1 h3
        · exact runF_all.1 h j (by omega) (by omega)
    · intro h;rw [if_neg (by rw [h k (Nat.le_refl _) (by omega)]; simp)];exact runF_all.2 fun j h1 h2 => h j (by omega) (by omega)
structure Mor (p q : Prt) (l m : Pln) : Prop where
  chs : q.chs = p.chs
  bts : q.bts = p.bts
  hrs : m.hours = l.hours
  cls : m.calls = l.calls
  ext : ∃ L, m.swps = l.swps ++ L ∧ ∀ x ∈ L, 0 ≤ x.tugs * (ch p x.channel).clear
  grow : ∀ n : Int, 0 ≤ (ch p n).grow
  frost : ∀ n : Int, 0 ≤ (ch p n).frost
theorem Mor.ch {p q : Prt} {l m : Pln} (H : Mor p q l m) (n : Int) : ch q n = ch p n := by unfold Pt.ch; rw [H.chs]
theorem Mor.bt {p q : Prt} {l m : Pln} (H : Mor p q l m) (n : Int) : bt q n = bt p n := by unfold Pt.bt; rw [H.bts]
def most1 (m : Int) (c : Cal) : Cal := ⟨c.hour, c.berth, c.out, c.draught, m, c.tugs⟩
def setMost (l : Pln) (m : Int) : Pln := ⟨l.hours, l.calls.map (most1 m), l.swps⟩
theorem tgC_most (h m : Int) : ∀ L, tgC h (L.map (most1 m)) = tgC h L
  | [] => rfl
  | c :: L => by rw [List.map_cons, tgC, tgC, tgC_most h m L]; rfl
theorem outsOk_most (m : Int) : ∀ (L : List Cal) (b : List Bool), outsOk (L.map (most1 m)) b ↔ outsOk L b
  | [], _ => Iff.rfl
  | c :: L, b => by
    rw [List.map_cons, outsOk, outsOk, outsOk_most m L];exact Iff.rfl
theorem most_srt {l : Pln} {m : Int} (h : l.calls.Pairwise (fun a b => a.hour < b.hour)) : (setMost l m).calls.Pairwise (fun a b => a.hour < b.hour) := by
  unfold setMost;rw [List.pairwise_map]; exact h
theorem most_mem {l : Pln} {m : Int} {x : Cal} (h : x ∈ (setMost l m).calls) : ∃ c ∈ l.calls, x = most1 m c := by
  unfold setMost at h;obtain ⟨c, hc, rfl⟩ := List.mem_map.1 h;exact ⟨c, hc, rfl⟩
theorem most_checkL {p : Prt} {l : Pln} (hp : MdP p) (hl : MdL p l) {m : Int} (hm : 0 ≤ m ∧ m ≤ 1000000) : checkL p (setMost l m) = 0 := by
  have h1 := checkP_md hp;have h2 : within (setMost l m).hours 1 100 = true := by rw [within_iff]; have := hl.h; show 1 ≤ l.hours ∧ l.hours ≤ 100; omega
  have h3 : callsE p (setMost l m).hours 0 (setMost l m).calls = 0 := callsE_of (fun c hc => by
    obtain ⟨x, hx, rfl⟩ := most_mem hc;obtain ⟨c1, c2, c3, c4, c5, c6, c7, c8, c9, c10⟩ := hl.ca x hx;refine ⟨?_, c1⟩;have hd := (hp.btf _ (bt_mem c3 c4)).1;have e : (setMost l m).hours = l.hours := rfl;unfold callE;rw [e, if_neg (by simp only [most1, Bool.not_eq_false, Bool.and_eq_true, within_iff]; omega), if_neg (by simp only [most1, Bool.not_eq_false, within_iff]; omega), if_neg (by simp only [most1, Bool.not_eq_false, within_iff]; omega), if_neg (by simp only [most1]; omega)]) ((most_srt hl.srt).imp fun h => by omega)
  have h4 : swpsE p (setMost l m).hours (setMost l m).swps = 0 := swpsE_of fun s hs => by
    have := hl.sw s hs;have e : (setMost l m).hours = l.hours := rfl;unfold swpE;rw [e, if_neg (by simp only [Bool.not_eq_false, Bool.and_eq_true, within_iff]; omega), if_neg (by simp only [Bool.not_eq_false, within_iff]; omega)]
  have n1 := hl.n1;have n2 := hl.n2;have hh := hl.h;have e1 : (setMost l m).calls.length = l.calls.length := by simp [setMost]
  have e2 : (setMost l m).swps = l.swps := rfl;unfold Pt.checkL;rw [if_neg (by simp [h1]), if_neg (by rw [e1, e2]; omega), if_neg (by simp [h2]), if_neg (by simp [h3]), if_neg (by simp [h4])];have ht : (tly0 (setMost l m).hours.toNat).tugs.length = l.hours.toNat := by simp [tly0, setMost]
  refine finE_ok fun j _ hj => ⟨?_, ?_⟩
  · refine tly_twice (fun c hc => ?_) (most_srt hl.srt) (fun c hc x hx => ?_) (fun k => ?_) j
    · obtain ⟨x, hx, rfl⟩ := most_mem hc;obtain ⟨c1, c2, c3, c4, _⟩ := hl.ca x hx;exact (hp.btf _ (bt_mem c3 c4)).2.2.ok.2.1
    · simp [tly0] at hx
    · simp only [tly0, List.getD_eq_getElem?_getD, List.getElem?_replicate]; split <;> rfl
  · have hj' : j < l.hours.toNat := by have : j < 0 + (setMost l m).hours.toNat := hj; rw [Nat.zero_add] at this; exact this
    have g1 := tly_get (p := p) (h := j) (by omega) (l := (setMost l m).calls) (t := tly0 (setMost l m).hours.toNat) (fun c hc => by
      obtain ⟨x, hx, rfl⟩ := most_mem hc;have := hl.ca x hx;rw [ht]; simp only [most1]; omega)
    have g2 := swp_get (h := j) (by omega) (l := l.swps) (t := (tlyCalls p (setMost l m).hours.toNat (setMost l m).calls).tugs) (fun s hs => by unfold tlyCalls; rw [g1.2, ht]; have := hl.sw s hs; omega);have g3 := hl.tg j;have e : ((setMost l m).swps.foldl addSwp (tlyCalls p (setMost l m).hours.toNat (setMost l m).calls).tugs).getD j 0 = getI (l.swps.foldl addSwp (tlyCalls p (setMost l m).hours.toNat (setMost l m).calls).tugs) j := by unfold getI; simp [e2]
    rw [e, g2];unfold tlyCalls;rw [g1.1, tly0_get];have e3 : tgC j (setMost l m).calls = tgC j l.calls := tgC_most _ _ _;rw [e3];omega
theorem most_busy {p : Prt} {l : Pln} (hl : MdL p l) (m : Int) : busyOk (setMost l m) (List.replicate p.bts.length false) := by
  have h := busy_outs (l := setMost l m) ((most_srt hl.srt).imp fun h => by omega) (fun c hc => by
    obtain ⟨x, hx, rfl⟩ := most_mem hc;have := hl.ca x hx;show 0 ≤ x.hour ∧ x.hour < l.hours;omega) (List.replicate p.bts.length false)
  exact h.1.2 ((outsOk_most m l.calls _).2 hl.out)
theorem most_run {p : Prt} {l : Pln} (hp : MdP p) (hl : MdL p l) {m : Int} (hm : 0 ≤ m ∧ m ≤ 1000000) {b : List Int} (hlen : b.length = p.chs.length) (hb : ∀ x ∈ b, 0 ≤ x ∧ x < 1000000) :
    startE p (st0 p b) (setMost l m) = 0 ∧ (runE p (st0 p b) (setMost l m) = 0 ∨ runE p (st0 p b) (setMost l m) = 8) := by
  have hs : startE p (st0 p b) (setMost l m) = 0 := startE_3 (most_checkL hp hl hm) hlen (by simp [st0, noB]) (by
    rw [List.any_eq_false];intro x hx;have := hb x hx;simp [within]; omega)
  refine ⟨hs, ?_⟩;have hE : runE p (st0 p b) (setMost l m) = (runR p (setMost l m) (st0 p b)).2 := by unfold runE; rw [if_neg (by rw [hs]; simp)]
  rw [hE];rcases run_folds (val_of (most_checkL hp hl hm)) (s := st0 p b) (bGe_of hlen fun x hx => (hb x hx).1) (most_busy hl m) with ⟨q1, _⟩ | ⟨q1, _⟩
  · exact .inl q1
  · exact .inr q1
theorem call_most {p : Prt} {h : Int} : ∀ {L : List Cal} {i : Nat} {s : Stt}, L.Pairwise (fun a b => a.hour < b.hour) → (callsN p h L i s).2.1 = 0 → ∀ c ∈ L, c.hour = h → ∀ n ∈ (bt p c.berth).path, getI s.brash n ≤ c.most
  | [], _, _, _, _, c, hc => by cases hc
  | x :: L, i, s, hs, h0, c, hc => by
    intro hch n hn;obtain ⟨s1, s2⟩ := List.pairwise_cons.1 hs;unfold callsN at h0;by_cases hx : x.hour ≠ h
    · rw [if_pos hx] at h0;rcases List.mem_cons.1 hc with rfl | hc
      · exact absurd hch hx
      · exact call_most s2 h0 c hc hch n hn
    · rw [if_neg hx] at h0;split at h0
      · cases h0
      · split at h0
        · cases h0
        · next h2 =>
          rcases List.mem_cons.1 hc with rfl | hc
          · have := (by simpa using h2 : ∀ y ∈ (bt p c.berth).path, getI s.brash y ≤ c.most) n hn;exact this
          · have := s1 c hc; omega
def thick1 (h n k : Int) (t : Int) (y : Swp) : Int := if y.hour = h ∧ y.channel = n then max 0 (t - y.tugs * k) else t
theorem thick_swp {p : Prt} {h n : Int} (hn : 0 ≤ n) : ∀ {L : List Swp} {b : List Int}, n.toNat < b.length → (∀ y ∈ L, 0 ≤ y.channel) → getI (swpN p h L b) n = L.foldl (thick1 h n (ch p n).clear) (getI b n)
  | [], _, _, _ => rfl
  | y :: L, b, hb, hy => by
    have y0 := hy y (by simp);have ih := thick_swp (p := p) (h := h) hn (L := L) (b := swp1 p h b y) (by unfold swp1; split <;> (try rw [setI_length]) <;> exact hb) (fun z hz => hy z (by simp [hz]));have e : getI (swp1 p h b y) n = thick1 h n (ch p n).clear (getI b n) y := by
      unfold swp1 thick1;by_cases h1 : y.hour = h
      · rw [if_pos h1];by_cases h2 : y.channel = n
        · rw [if_pos ⟨h1, h2⟩, h2, getI_set hn hn (by omega)]; simp
        · rw [if_neg (fun q => h2 q.2)];have : y.channel.toNat ≠ n.toNat := by omega
          unfold getI setI;rw [List.getD_eq_getElem?_getD, List.getElem?_set_ne this, ← List.getD_eq_getElem?_getD]
      · rw [if_neg h1, if_neg (fun q => h1 q.1)]
    rw [List.foldl_cons, ← e, ← ih]; rfl
theorem thick_nonneg {h n k : Int} : ∀ {L : List Swp} {t : Int}, 0 ≤ t → 0 ≤ L.foldl (thick1 h n k) t
  | [], t, ht => ht
  | y :: L, t, ht => by
    rw [List.foldl_cons];exact thick_nonneg (by unfold thick1; split <;> omega)
theorem stN_ge {p : Prt} {l : Pln} (hp : MdP p) {b : List Int} (hb : ∀ x ∈ b, 0 ≤ x) : ∀ k, Ge0 (stN p l (st0 p b) k).brash
  | 0 => ge0_of hb
  | k + 1 => by
    have hch : ∀ n : Int, 0 ≤ (ch p n).grow ∧ 0 ≤ (ch p n).frost := fun n => by
      unfold Pt.ch;rw [List.getD_eq_getElem?_getD];cases e : p.chs[n.toNat]? with
      | none => decide
      | some c => have := hp.chf c (List.mem_of_getElem? e); simp only [Option.getD_some]; omega
    show Ge0 (frostL p (hourR p l k (stN p l (st0 p b) k)).2.2.brash);exact frostN_ge p (fun n => (hch n).2) (callsN_ge p k (fun n => (hch n).1) l.calls 0 (s := ⟨swpN p k l.swps (stN p l (st0 p b) k).brash, (stN p l (st0 p b) k).busy⟩) (swpN_ge p k l.swps (stN_ge hp hb k))) _
theorem ship_thick {p : Prt} {l : Pln} (hp : MdP p) (hl : MdL p l) {m : Int} (hm : 0 ≤ m ∧ m ≤ 1000000) {b : List Int} (hlen : b.length = p.chs.length) (hb : ∀ x ∈ b, 0 ≤ x ∧ x < 1000000) (hr : runE p (st0 p b) (setMost l m) = 0)
    {c : Cal} (hc : c ∈ l.calls) {n : Int} (hn : n ∈ (bt p c.berth).path) :
    0 ≤ n ∧ n < p.chs.length ∧ 0 ≤ getI (stN p (setMost l m) (st0 p b) c.hour.toNat).brash n ∧ 0 ≤ l.swps.foldl (thick1 c.hour n (ch p n).clear) (getI (stN p (setMost l m) (st0 p b) c.hour.toNat).brash n) ∧ l.swps.foldl (thick1 c.hour n (ch p n).clear) (getI (stN p (setMost l m) (st0 p b) c.hour.toNat).brash n) ≤ m := by
  obtain ⟨hs, _⟩ := most_run hp hl hm hlen hb;obtain ⟨c1, c2, c3, c4, _⟩ := hl.ca c hc;have hpn := (hp.btf _ (bt_mem c3 c4)).2.2.ok.2.2.1 n hn;have hR : (runR p (setMost l m) (st0 p b)).2 = 0 := by unfold runE at hr; rw [if_neg (by rw [hs]; simp)] at hr; exact hr
  have hall := (runF_all (p := p) (l := setMost l m) (s := st0 p b) (n := l.hours.toNat) (k := 0)).1 hR;have hh := hall c.hour.toNat (Nat.zero_le _) (by omega);have hlenN := (stN_lens p (setMost l m) (st0 p b) c.hour.toNat).1;have e0 : ((c.hour.toNat : Nat) : Int) = c.hour := Int.toNat_of_nonneg c1;unfold hourR at hh;rw [e0] at hh;have h5 := call_most (most_srt hl.srt) hh (most1 m c) (List.mem_map.2 ⟨c, hc, rfl⟩) rfl n hn;have e := thick_swp (p := p) (h := c.hour) hpn.1 (L := l.swps) (b := (stN p (setMost l m) (st0 p b) c.hour.toNat).brash) (by rw [hlenN]; show n.toNat < b.length; omega) (fun y hy => (hl.sw y hy).1);have h5' : getI (swpN p c.hour l.swps (stN p (setMost l m) (st0 p b) c.hour.toNat).brash) n ≤ m := h5;have hg : 0 ≤ getI (stN p (setMost l m) (st0 p b) c.hour.toNat).brash n := stN_ge hp (fun x hx => (hb x hx).1) _ n;rw [← e];refine ⟨hpn.1, hpn.2, hg, ?_, h5'⟩;rw [e];exact thick_nonneg hg
def vstOk (v : Vst) : Bool := within v.arr 0 1000 && (within v.last v.arr 2000 && (within v.stay 1 100 && within v.dra 10 3000))
def askedE (p : Prt) (l : List Vst) : Int := if checkP p ≠ 0 then checkP p else if 5 < l.length then 2 else if l.all vstOk = false then 1 else 0
def cmp1 (a b : Plc) : Int := if a.berth ≠ b.berth then a.berth - b.berth else a.start - b.start
def cmpPl : List Plc → List Plc → Int
  | [], [] => 0
  | [], _ :: _ => -1
  | _ :: _, [] => 1
  | a :: l, b :: m => if cmp1 a b ≠ 0 then cmp1 a b else cmpPl l m
structure Bst where
  least : Int
  found : List Plc
  places : List Plc
deriving DecidableEq, Inhabited
def bestLeaf (waiting : Int) (s : Bst) : Bst := if s.least < 0 ∨ waiting < s.least ∨ cmpPl s.places s.found < 0 then ⟨waiting, s.places, s.places⟩ else s
def vs (l : List Vst) (i : Nat) : Vst := l.getD i default
def seekS (p : Prt) (l : List Vst) : Nat → Int → List Int → List Bool → Bst → Bst
  | 0, waiting, _, _, s => if 0 ≤ s.least ∧ s.least < waiting then s else bestLeaf waiting s
  | n + 1, waiting, free, done, s =>
    if 0 ≤ s.least ∧ s.least < waiting then s else
    (List.range l.length).foldl (fun s i =>
      if done.getD i false then s else
      (List.range p.bts.length).foldl (fun s b =>
        if (p.bts.getD b default).depth < (vs l i).dra ∨ (vs l i).last < max (vs l i).arr (free.getD b 0) then s
        else seekS p l n (waiting + max (vs l i).arr (free.getD b 0) - (vs l i).arr) (free.set b (max (vs l i).arr (free.getD b 0) + (vs l i).stay)) (done.set i true)
          ⟨s.least, s.found, s.places.set i ⟨b, max (vs l i).arr (free.getD b 0)⟩⟩) s) s
def bestS (p : Prt) (l : List Vst) : Bst := seekS p l l.length 0 (List.replicate p.bts.length 0) (List.replicate l.length false) ⟨-1, [], List.replicate l.length ⟨0, 0⟩⟩
def bestE (p : Prt) (l : List Vst) : Int := if askedE p l ≠ 0 then askedE p l else if (bestS p l).least < 0 then 4 else 0
def bestN (p : Prt) (l : List Vst) : Int := if bestE p l = 0 then (bestS p l).least else 0
def bestV (p : Prt) (l : List Vst) : List Plc := if bestE p l = 0 then (bestS p l).found else []
end Go.Proofs.Ytalcinepeofmcaa.Pt
