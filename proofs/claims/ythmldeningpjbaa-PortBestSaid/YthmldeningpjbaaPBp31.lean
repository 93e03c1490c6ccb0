/- port.Trace -/
import Derived.Test.YthmldeningpjbaaPBp30
import Derived.Test.YthmldeningpjbaaPBp25
import Derived.Test.YthmldeningpjbaaPBp19
set_option linter.unusedVariables false
set_option linter.unusedSimpArgs false
namespace Go.Proofs.Ythmldeningpjbaa
open Go Go.RowKit Go.Lib Sp Pt
set_option linter.unusedVariables false
set_option linter.unusedSimpArgs false

/-- a port, a state and a plan, boxed one after the other -/
theorem boxes3 {D : Nat} {Ac : Option Addr} {cc : Nat} {Ab : Option Addr} {cb : Nat} {p : Prt} {Al : Option Addr} {cl : Nat} {As : Option Addr} {cs : Nat} {l : Pln} {Ar : Option Addr} {cr : Nat} {Au : Option Addr} {cu : Nat} {s : Stt} {w W : World}
    (PB : PrtB D w Ac cc Ab cb p) (LB : PlnB D w Al cl As cs l) (SB : SttB D w Ar cr Au cu s) (hD : D ≤ w.heap.size) (hW : W = ((w.alloc (.cells (prtV Ac cc Ab cb p) 26)).alloc (.cells (sttV Ar cr Au cu s) 42)).alloc (.cells (plnV Al cl As cs l) 31)) {pb sb lb : Nat} (hpb : pb = w.heap.size) (hsb : sb = w.heap.size + 1) (hlb : lb = w.heap.size + 1 + 1) :
    Below w.heap.size w W ∧ W.heap[pb]? = some (.cells (prtV Ac cc Ab cb p) 26 (0, 0)) ∧ W.heap[sb]? = some (.cells (sttV Ar cr Au cu s) 42 (0, 0)) ∧ W.heap[lb]? = some (.cells (plnV Al cl As cs l) 31 (0, 0)) ∧
      Calls Try.prog 72 #[.agg (prtV Ac cc Ab cb p), .agg (sttV Ar cr Au cu s), .agg (plnV Al cl As cs l)] W (StartPost W D Ac cc Ab cb p Al cl As cs l s) := by
  have b0 : Below w.heap.size w W := by rw [hW]; exact (((Below.refl _ _).alloc (Nat.le_refl _) _).alloc (by simp) _).alloc (by simp; omega) _
  refine ⟨b0, ?_, ?_, ?_, start_any D Ac cc Ab cb p Al cl As cs l Ar cr Au cu s W (PB.below (b0.mono hD)) (LB.below (b0.mono hD)) (SB.below (b0.mono hD)) (by have := b0.size; omega)⟩
  · rw [hW, hpb]; exact heap_alloc' (heap_alloc' (heap_alloc_new _ _) _) _
  · rw [hW, hsb]
    refine heap_alloc' ?_ _
    have := heap_alloc_new (w.alloc (.cells (prtV Ac cc Ab cb p) 26)) (.cells (sttV Ar cr Au cu s) 42)
    rwa [World.size_alloc] at this
  · rw [hW, hlb]
    have := heap_alloc_new ((w.alloc (.cells (prtV Ac cc Ab cb p) 26)).alloc (.cells (sttV Ar cr Au cu s) 42)) (.cells (plnV Al cl As cs l) 31)
    rwa [World.size_alloc, World.size_alloc] at this

def traceS (p : Prt) (l : Pln) (s : Stt) (k : Nat) : List (List Int) := (List.range k).map fun j => (stN p l s j).brash
theorem traceS_succ (p : Prt) (l : Pln) (s : Stt) (k : Nat) : traceS p l s (k + 1) = traceS p l s k ++ [(stN p l s k).brash] := by simp [traceS, List.range_succ]
def traceV (p : Prt) (s : Stt) (l : Pln) : List (List Int) := if runE p s l = 0 then traceS p l s (l.hours.toNat + 1) else []
/-- a list of lists, as it can be read -/
def LsR (w : World) (A : Option Addr) (n : Nat) (rows : List LRow) : Prop := Rd w 1 A n (rows.map LRow.v) ∧ ∀ r ∈ rows, Rd w 1 r.A r.l.length (ints r.l)
def TracePost (w : World) (p : Prt) (s : Stt) (l : Pln) (e : Ending) (w' : World) : Prop :=
  ∃ A c rows, e = .returned (.tuple #[.slice A (traceV p s l).length c, .int .i64 (runE p s l)]) ∧ LsR w' A (traceV p s l).length rows ∧ rows.map (·.l) = traceV p s l ∧ Below w.heap.size w w'
def JTr (D : Nat) (W : World) (C : WC) (s : Stt) (tb k : Nat) (w : World) : Prop :=
  ∃ A c q rows, rows.map (·.l) = traceS C.p C.l s k ∧ Own D W (trL C.gb C.ub tb k A c q rows) w ∧ ∀ x ∈ q, W.heap.size ≤ x

set_option maxRecDepth 100000 in
set_option maxHeartbeats 4000000 in
theorem Trace_any (D : Nat) (Ac : Option Addr) (cc : Nat) (Ab : Option Addr) (cb : Nat) (p : Prt) (Al : Option Addr) (cl : Nat) (As : Option Addr) (cs : Nat) (l : Pln) (Ar : Option Addr) (cr : Nat) (Au : Option Addr) (cu : Nat) (s : Stt) (w : World)
    (PB : PrtB D w Ac cc Ab cb p) (LB : PlnB D w Al cl As cs l) (SB : SttB D w Ar cr Au cu s) (hD : D ≤ w.heap.size) :
    Calls Try.prog 27 #[.agg (prtV Ac cc Ab cb p), .agg (sttV Ar cr Au cu s), .agg (plnV Al cl As cs l)] w (TracePost w p s l) := by
  obtain ⟨W, hW⟩ : ∃ W, W = ((w.alloc (.cells (prtV Ac cc Ab cb p) 26)).alloc (.cells (sttV Ar cr Au cu s) 42)).alloc (.cells (plnV Al cl As cs l) 31) := ⟨_, rfl⟩
  obtain ⟨pb, hpb⟩ : ∃ b, b = w.heap.size := ⟨_, rfl⟩
  obtain ⟨sb, hsb⟩ : ∃ b, b = w.heap.size + 1 := ⟨_, rfl⟩
  obtain ⟨lb, hlb⟩ : ∃ b, b = w.heap.size + 1 + 1 := ⟨_, rfl⟩
  obtain ⟨b0, hp, hs, hl, kst⟩ := boxes3 PB LB SB hD hW hpb hsb hlb
  have c0 : W.cell? ⟨pb, 0, none⟩ = some (.slice Ac p.chs.length cc) := (cell_of_heap hp 0).trans rfl
  have c1 : W.cell? ⟨pb, 1, none⟩ = some (.slice Ab p.bts.length cb) := (cell_of_heap hp 1).trans rfl
  have c2 : W.cell? ⟨pb, 2, none⟩ = some (.int .i64 p.tugs) := (cell_of_heap hp 2).trans rfl
  have c3 : W.cell? ⟨lb, 0, none⟩ = some (.int .i64 l.hours) := (cell_of_heap hl 0).trans rfl
  have c4 : W.cell? ⟨lb, 1, none⟩ = some (.slice Al l.calls.length cl) := (cell_of_heap hl 1).trans rfl
  have c5 : W.cell? ⟨lb, 2, none⟩ = some (.slice As l.swps.length cs) := (cell_of_heap hl 2).trans rfl
  have c6 : W.cell? ⟨sb, 0, none⟩ = some (.slice Ar s.brash.length cr) := (cell_of_heap hs 0).trans rfl
  have c7 : W.cell? ⟨sb, 1, none⟩ = some (.slice Au s.busy.length cu) := (cell_of_heap hs 1).trans rfl
  have zp := heap_lt hp
  have zl := heap_lt hl
  have zs := heap_lt hs
  have H := Lib.hid (And.intro b0 (And.intro kst hD))
  clear b0 hp hs hl kst PB LB SB hD
  go_enter Try.func27, Try.ntmps27
  go_upto_region 1 with fail
  rw [← hW, ← hlb, ← hsb, ← hpb]
  clear hW hlb hsb hpb
  go_wp2_with fail
  refine H.out.2.1.mono ?_
  rintro e w1 ⟨b1, hcase⟩
  have bw1 : Below w.heap.size w w1 := H.out.1.trans (b1.mono H.out.1.size)
  clear c0 c1 c2 c3 c4 c5 c6 c7 zp zl zs
  rcases hcase with ⟨hne, rfl⟩ | ⟨he, c, hM, hS, rfl⟩
  · obtain ⟨er, her⟩ : ∃ er, er = startE p s l := ⟨_, rfl⟩
    rw [← her] at hne ⊢
    have hnb : (er != 0) = true := by simpa using hne
    have hv : runE p s l = er := by unfold runE; rw [if_pos (by rw [← her]; exact hne), her]
    have hvv : traceV p s l = [] := by unfold traceV; rw [if_neg (by rw [hv]; exact hne)]
    have HF := Lib.hid (And.intro hv (And.intro hvv bw1))
    clear hv hvv bw1 her hne b1
    go_wp2_with fail
    go_ret2
    refine ⟨none, 0, [], ?_, ⟨by rw [HF.out.2.1]; exact Rd.nil _ _ _, by simp⟩, by rw [HF.out.2.1]; rfl, HF.out.2.2.alloc HF.out.2.2.size _⟩
    rw [HF.out.1, HF.out.2.1]; rfl
  · obtain ⟨hc, hlen1, hlen2, hbr⟩ := start_bd he
    obtain ⟨q1, q2, q3, q4, q5, q6, q7, q8, q9, q10, q11⟩ := hM.eq
    have v : Val c.p c.l := by rw [q6, q11]; exact val_of hc
    obtain ⟨xb, hxb⟩ : ∃ b, b = w1.heap.size := ⟨_, rfl⟩
    obtain ⟨tb, htb⟩ : ∃ b, b = w1.heap.size + 1 := ⟨_, rfl⟩
    obtain ⟨X, hX⟩ : ∃ X, X = (w1.alloc (.cells #[.pointer (some ⟨c.wb, 0, none⟩)] 145)).alloc (.cells #[.slice none 0 0] 66) := ⟨_, rfl⟩
    have bX : Below w1.heap.size w1 X := by rw [hX]; exact ((Below.refl _ _).alloc (Nat.le_refl _) _).alloc (by simp) _
    have hx : X.heap[xb]? = some (.cells #[.pointer (some ⟨c.wb, 0, none⟩)] 145 (0, 0)) := by rw [hX, hxb]; exact heap_alloc' (heap_alloc_new _ _) _
    have ht : X.heap[tb]? = some (.cells #[.slice none 0 0] 66 (0, 0)) := by
      rw [hX, htb]
      have := heap_alloc_new (w1.alloc (.cells #[.pointer (some ⟨c.wb, 0, none⟩)] 145)) (.cells #[.slice none 0 0] 66)
      rwa [World.size_alloc] at this
    have E := hM.E.below bX
    have S : WkS c X X s := (hS.below bX).start
    have hnew := hM.new
    have hz := hM.E.cells
    have hzg := hS.br.lt c.gb (by simp)
    have hzu := hS.bu.lt c.ub (by simp)
    have hWD : W.heap.size ≤ X.heap.size := by have := b1.size; have := bX.size; omega
    have J0 : JTr W.heap.size X c s tb 0 X := by
      refine ⟨none, 0, [], [], rfl, ?_, by simp⟩
      have h1 := (Own.nil (w := X) hWD).add (i := .any c.gb) (by show c.gb < X.heap.size; have := bX.size; omega) (by simp [It.fp]; omega) (by simp)
      have h2 := h1.add (i := .any c.ub) (by show c.ub < X.heap.size; have := bX.size; omega) (by simp [It.fp]; omega) (by simp [It.fp]; exact fun e => hM.N.ne e.symm)
      have h3 := h2.add (i := .blk tb (.cells #[.slice none 0 0] 66 (0, 0))) ht (by simp [It.fp]; omega) (by simp [It.fp]; omega)
      exact h3.add (i := .own 33 1 none 0 0 ([].map LRow.v) []) (OwnS.nil _ _ _) (by simp [It.fp]) (by simp [It.fp])
    have hTn : ∀ x ∈ [tb], x ≠ c.wb ∧ x ≠ c.pb ∧ x ≠ c.lb ∧ c.D ≤ x ∧ x ≠ c.gb ∧ x ≠ c.ub := by
      intro x hx
      rw [List.mem_singleton.1 hx]
      have h1 := hz.2.2.2.2.2.2.2.2.2
      have h2 := hM.N.g
      omega
    have xne : xb ≠ tb ∧ xb ≠ c.gb ∧ xb ≠ c.ub ∧ c.wb ≠ tb ∧ xb < X.heap.size ∧ c.wb < X.heap.size := by
      have h1 := hz.2.2.2.2.2.2.2.2.2
      have := heap_lt hx
      have := bX.size
      omega
    have hxc : X.cell? ⟨xb, 0, none⟩ = some (.pointer (some ⟨c.wb, 0, none⟩)) := (cell_of_heap hx 0).trans rfl
    have hH : c.l.hours.toNat ≤ 100 := by have := v.h; omega
    have step : ∀ (k : Nat) (w : World), k ≤ c.l.hours.toNat → WcE c w (brV c) (buV c) → WkS c w w (stN c.p c.l s k) → JTr W.heap.size X c s tb k w → Keep (c.gb :: c.ub :: [tb]) X w →
        Calls Try.prog 81 (#[.int .i64 k] ++ #[.pointer (some ⟨tb, 0, none⟩), .pointer (some ⟨xb, 0, none⟩)]) w fun e w' => e = .returned (.tuple #[]) ∧ (∃ T', Keep T' w w' ∧ ∀ x ∈ T', x ∈ [tb] ∨ X.heap.size ≤ x) ∧ JTr W.heap.size X c s tb (k + 1) w' := by
      intro k wx hk E1 S1 hJ hK
      obtain ⟨A, cA, q, rows, hr, hO, hq⟩ := hJ
      refine (trace1_any (k : Int) E1 S1 xb tb k A cA q rows (hK.cell hxc (by simp; omega)) ?_ ?_ hO (by omega) v.nc.2).mono ?_
      · simp only [List.mem_cons, not_or]; exact ⟨xne.1, fun hm => by have := hq _ hm; omega⟩
      · simp only [List.mem_cons, not_or]; exact ⟨xne.2.2.2.1, fun hm => by have := hq _ hm; omega⟩
      · rintro e w' ⟨rfl, A', c', q', r, hrl, hO', kp, hq'⟩
        refine ⟨rfl, ⟨_, kp, fun x hx => ?_⟩, A', c', q', rows ++ [r], ?_, hO', fun x hx => ?_⟩
        · rcases List.mem_cons.1 hx with e | e
          · exact .inl (by simp [e])
          · exact .inr (hq x e)
        · rw [List.map_append, hr, traceS_succ, ← hrl]; rfl
        · rcases hq' x hx with e | e
          · exact hq x e
          · have := hK.size; omega
    have keepJ : ∀ (k : Nat) (w w' : World), Keep [c.gb, c.ub] w w' → JTr W.heap.size X c s tb k w → JTr W.heap.size X c s tb k w' := by
      rintro k wx w' hk ⟨A, cA, q, rows, hr, hO, hq⟩
      refine ⟨A, cA, q, rows, hr, hO.keepAny hk (fun x hx => .inl ?_), hq⟩
      rcases List.mem_cons.1 hx with e | e
      · exact ⟨0, by rw [e]; rfl⟩
      · exact ⟨1, by rw [List.mem_singleton.1 e]; rfl⟩
    have cbTr : ∀ (a : Array Value) (w : World), (callFunc 81 a).run Try.prog w = .ok (.enter 81 a) w := fun a w => by go_simp
    have krun := run_any E hM.N S v (brR_of (by decide) hbr) 81 74 #[.pointer (some ⟨tb, 0, none⟩), .pointer (some ⟨xb, 0, none⟩)] #[] cbTr cbNothing [tb] hTn (fun k w => JTr W.heap.size X c s tb k w) (fun k w => JTr W.heap.size X c s tb (k + 1) w) (fun k w => JTr W.heap.size X c s tb (k + 1) w) J0
      step (fun k w _ _ _ hj _ => (nothing_any _ _).mono fun e w' h => ⟨h.1, ⟨[], by rw [← h.2]; exact Keep.refl _ _, by simp⟩, by rw [← h.2]; exact hj⟩) (fun k w w' hk hj => keepJ _ _ _ hk hj) (fun k w w' hk hj => keepJ _ _ _ hk hj)
    have HM := Lib.hid (And.intro krun (And.intro he (And.intro bw1 (And.intro bX (And.intro q6 (And.intro q11 hnew))))))
    have hWw := H.out.1.size
    have htw : W.heap.size ≤ tb := by have := b1.size; omega
    clear krun J0 hTn step keepJ cbTr he bw1 E S v hM hS hc hbr hlen1 hlen2 q1 q2 q3 q4 q5 q6 q7 q8 q9 q10 q11 b1 hz hnew hzg hzu hH hWD
    clear xne hx
    have zx := World.block_lt_of_cell? _ _ hxc
    simp only at zx
    go_upto_region 5 with fail
    rw [← hX, ← htb, ← hxb]
    clear hX htb hxb
    go_wp2_with fail
    refine HM.out.1.mono ?_
    rintro e w3 ⟨rfl, kp, hok⟩
    rw [HM.out.2.2.2.2.1, HM.out.2.2.2.2.2.1] at hok ⊢
    obtain ⟨R, hR⟩ : ∃ R, R = runR p l s := ⟨_, rfl⟩
    rw [← hR] at hok ⊢
    obtain ⟨i, er⟩ := R
    have hv : runE p s l = er := by unfold runE; rw [if_neg (by rw [HM.out.2.1]; simp), ← hR]
    have bX3 : Below w.heap.size w w3 := (HM.out.2.2.1.trans (HM.out.2.2.2.1.mono HM.out.2.2.1.size)).trans (kp.below (by have := HM.out.2.2.1.size; have := HM.out.2.2.2.1.size; omega) (by have := HM.out.2.2.2.2.2.2; simp; omega))
    clear hR kp hxc zx ht
    by_cases her : er = 0
    · subst her
      have hvv : traceV p s l = traceS p l s (l.hours.toNat + 1) := by unfold traceV; rw [if_pos hv]
      obtain ⟨_, A, cA, q, rows, hr, hO, hq⟩ := hok rfl
      rw [HM.out.2.2.2.2.1, HM.out.2.2.2.2.2.1] at hr
      have hh := hO.heap 2 rfl
      have ho := hO.owns 3 rfl
      have hlen : (traceV p s l).length = l.hours.toNat + 1 := by rw [hvv]; simp [traceS]
      have t0 : w3.cell? ⟨tb, 0, none⟩ = some (.slice A (l.hours.toNat + 1) cA) := (cell_of_heap hh 0).trans rfl
      have zt := heap_lt hh
      have hrows : ∀ r ∈ rows, Rd w3 1 r.A r.l.length (ints r.l) := fun r hm => by
        obtain ⟨j, hj, e⟩ := List.mem_iff_getElem.1 hm
        have := hO.owns (4 + j) (e := 3) (sz := 1) (A := r.A) (n := r.l.length) (c := r.c) (xs := ints r.l) (q := r.q) (by
          unfold trL
          rw [List.getElem?_append_right (by simp)]
          simp only [List.length_cons, List.length_nil, Nat.reduceAdd, Nat.add_sub_cancel_left, List.getElem?_map, List.getElem?_eq_getElem hj, e]
          rfl)
        exact this.rd
      have HF := Lib.hid (And.intro hv (And.intro hlen (And.intro bX3 (And.intro ho.rd (And.intro hrows (hr.trans hvv.symm))))))
      clear hv hvv hlen bX3 hok hh ho hr hO hq hrows
      go_wp2_with fail
      go_ret2
      refine ⟨A, cA, rows, ?_, ⟨?_, HF.out.2.2.2.2.1⟩, HF.out.2.2.2.2.2, HF.out.2.2.1⟩
      · rw [HF.out.1, HF.out.2.1]; rfl
      · rw [HF.out.2.1]; exact HF.out.2.2.2.1
    · have hnb : (er != 0) = true := by simpa using her
      have hvv : traceV p s l = [] := by unfold traceV; rw [if_neg (by rw [hv]; exact her)]
      have HF := Lib.hid (And.intro hv (And.intro hvv bX3))
      clear hv hvv bX3 hok
      go_wp2_with fail
      go_ret2
      refine ⟨none, 0, [], ?_, ⟨by rw [HF.out.2.1]; exact Rd.nil _ _ _, by simp⟩, by rw [HF.out.2.1]; rfl, HF.out.2.2⟩
      rw [HF.out.1, HF.out.2.1]; rfl
end Go.Proofs.Ythmldeningpjbaa
/- Plain law: PortFolds. No program is named here. -/
namespace Go.Proofs.Ythmldeningpjbaa
open Sp Pt

def st0 (p : Prt) (b : List Int) : Stt := ⟨b, noB p⟩
theorem st0_start {p : Prt} {l : Pln} (hp : MdP p) (hl : MdL p l) {b : List Int} {B : Int} (hB : B ≤ 1000000) (hlen : b.length = p.chs.length) (hb : ∀ x ∈ b, 0 ≤ x ∧ x < B) : startE p (st0 p b) l = 0 :=
  startE_3 (hl.checkL hp) hlen (by simp [st0, noB]) (by
    rw [List.any_eq_false]
    intro x hx
    have := hb x hx
    simp [within]; omega)
theorem bGe_of {n : Nat} {b : List Int} (hlen : b.length = n) (hb : ∀ x ∈ b, 0 ≤ x) : bGe n b := ⟨hlen, fun c c0 c1 => by
  unfold getI
  have : c.toNat < b.length := by omega
  rw [List.getD_eq_getElem?_getD, List.getElem?_eq_getElem this]
  exact hb _ (List.getElem_mem _)⟩
theorem getI_mem {b : List Int} {i : Nat} (h : i < b.length) : getI b i ∈ b := by
  unfold getI
  simp only [Int.toNat_natCast, List.getD_eq_getElem?_getD, List.getElem?_eq_getElem h, Option.getD_some]
  exact List.getElem_mem _
theorem jm_right {m : Mp} (h : Jm 360 m) : mright m = true := by
  obtain ⟨⟨a, a'⟩, ⟨b, b'⟩, c, d, e⟩ := h
  rw [mright_iff]
  simp only [BIG, NL] at *
  omega
theorem jm_apply {m : Mp} (h : Jm 360 m) {x : Int} (h0 : 0 ≤ x) (h1 : x ≤ 1000000) : (limOk m x ∧ applyE m x = 0 ∧ x ≤ m.most ∧ applyN m x = ap m x) ∨ (¬ limOk m x ∧ applyE m x = 8 ∧ m.most < x) := by
  have hr := jm_right h
  have hw : within x 0 BIG = true := by simp [within, BIG]; omega
  have he : applyE m x = if m.most < x then 8 else 0 := by unfold applyE; rw [hr, hw]; simp
  by_cases q : m.most < x
  · refine .inr ⟨?_, by rw [he, if_pos q], q⟩
    rintro (e | e)
    · rw [e] at q; simp only [NL] at q; omega
    · omega
  · refine .inl ⟨.inr (by omega), by rw [he, if_neg q], by omega, ?_⟩
    unfold applyN
    rw [he, if_neg q, if_pos rfl]; rfl
theorem run_st0 {p : Prt} {l : Pln} (hp : MdP p) (hl : MdL p l) {b : List Int} {B : Int} (hB : B ≤ 1000000) (hlen : b.length = p.chs.length) (hb : ∀ x ∈ b, 0 ≤ x ∧ x < B) :
    (runE p (st0 p b) l = 0 ∧ runI p (st0 p b) l = l.calls.length ∧ runV p (st0 p b) l = stN p l (st0 p b) l.hours.toNat ∧ bGe p.chs.length (runV p (st0 p b) l).brash ∧ (runV p (st0 p b) l).busy = outsAft l.calls (noB p) ∧
      ∀ i : Nat, i < p.chs.length → limOk (foldS p l i) (getI b i) ∧ getI (runV p (st0 p b) l).brash i = ap (foldS p l i) (getI b i)) ∨
    (runE p (st0 p b) l = 8 ∧ ∃ (x : Cal) (i : Nat), l.calls[(runR p l (st0 p b)).1]? = some x ∧ i < p.chs.length ∧ (i : Int) ∈ (bt p x.berth).path ∧ ¬ limOk (foldS p l i) (getI b i)) := by
  have v := val_of (hl.checkL hp)
  have hs := st0_start hp hl hB hlen hb
  have hE : runE p (st0 p b) l = (runR p l (st0 p b)).2 := by unfold runE; rw [if_neg (by rw [hs]; simp)]
  have hI : runI p (st0 p b) l = (runR p l (st0 p b)).1 := by unfold runI; rw [if_neg (by rw [hs]; simp)]
  rcases run_folds v (s := st0 p b) (bGe_of hlen fun x hx => (hb x hx).1) hl.busy.1 with ⟨q1, q2, q3, q4, q5⟩ | ⟨q1, x, c, q2, q3, q4, q5, q6⟩
  · have hV : runV p (st0 p b) l = stN p l (st0 p b) l.hours.toNat := by unfold runV; rw [if_pos (by rw [hE]; exact q1)]
    refine .inl ⟨by rw [hE]; exact q1, by rw [hI, q2], hV, by rw [hV]; exact q3, by rw [hV, q4]; exact hl.busy.2, fun i hi => ?_⟩
    rw [hV]
    exact q5 i (by omega) (by omega)
  · refine .inr ⟨by rw [hE]; exact q1, x, c.toNat, q2, by omega, ?_, ?_⟩
    · rw [Int.toNat_of_nonneg q3]; exact q5
    · rw [Int.toNat_of_nonneg q3]; exact q6

/-- what PortFolds looks at in a channel -/
theorem folds_at {p : Prt} {l : Pln} (hp : MdP p) (hl : MdL p l) {b : List Int} (hlen : b.length = p.chs.length) (hb : ∀ x ∈ b, 0 ≤ x ∧ x < 200) {i : Nat} (hi : i < p.chs.length) :
    foldE p l i = 0 ∧ ((applyE (foldS p l i) (getI b i) = 0 ∧ getI b i ≤ (foldS p l i).most ∧ (runE p (st0 p b) l = 0 → applyN (foldS p l i) (getI b i) = getI (runV p (st0 p b) l).brash i)) ∨
      (applyE (foldS p l i) (getI b i) = 8 ∧ (foldS p l i).most < getI b i ∧ runE p (st0 p b) l ≠ 0)) := by
  have v := val_of (hl.checkL hp)
  have hx := hb _ (getI_mem (b := b) (i := i) (by omega))
  refine ⟨?_, ?_⟩
  · unfold foldE; rw [if_neg (by rw [hl.checkL hp]; simp), if_neg (by rw [show within (i : Int) 0 ((p.chs.length : Int) - 1) = true from Pt.within_iff.2 (by omega)]; decide)]
  · rcases jm_apply (foldS_jm v (c := (i : Int)) (by omega) (by omega)) (x := getI b i) hx.1 (by omega) with ⟨h1, h2, h3, h4⟩ | ⟨h1, h2, h3⟩
    · refine .inl ⟨h2, h3, fun h0 => ?_⟩
      rcases run_st0 hp hl (B := 200) (by decide) hlen hb with ⟨_, _, _, _, _, q⟩ | ⟨q, _⟩
      · rw [h4, (q i hi).2]
      · rw [q] at h0; cases h0
    · refine .inr ⟨h2, h3, fun h0 => ?_⟩
      rcases run_st0 hp hl (B := 200) (by decide) hlen hb with ⟨_, _, _, _, _, q⟩ | ⟨q, _⟩
      · exact h1 (q i hi).1
      · rw [q] at h0; cases h0
def goodN (p : Prt) (l : Pln) (b : List Int) (k : Nat) : Bool := (List.range k).all fun i => decide (applyE (foldS p l (i : Nat)) (getI b i) = 0)
theorem goodN_succ (p : Prt) (l : Pln) (b : List Int) (k : Nat) : goodN p l b (k + 1) = (goodN p l b k && decide (applyE (foldS p l k) (getI b k) = 0)) := by simp [goodN, List.range_succ]
theorem good_iff {p : Prt} {l : Pln} (hp : MdP p) (hl : MdL p l) {b : List Int} (hlen : b.length = p.chs.length) (hb : ∀ x ∈ b, 0 ≤ x ∧ x < 200) : goodN p l b p.chs.length = decide (runE p (st0 p b) l = 0) := by
  rcases run_st0 hp hl (B := 200) (by decide) hlen hb with ⟨q1, _⟩ | ⟨q1, x, i, q2, q3, q4, q5⟩
  · rw [q1, goodN, decide_eq_true rfl, List.all_eq_true]
    intro i hi
    have hi := List.mem_range.1 hi
    rcases (folds_at hp hl hlen hb hi).2 with ⟨h, _⟩ | ⟨_, _, h⟩
    · exact decide_eq_true h
    · exact absurd q1 h
  · rw [q1, decide_eq_false (by decide), goodN, List.all_eq_false]
    refine ⟨i, List.mem_range.2 q3, ?_⟩
    have v := val_of (hl.checkL hp)
    have hx := hb _ (getI_mem (b := b) (i := i) (by omega))
    rcases jm_apply (foldS_jm v (c := (i : Int)) (by omega) (by omega)) (x := getI b i) hx.1 (by omega) with ⟨h1, _⟩ | ⟨_, h2, _⟩
    · exact absurd h1 q5
    · rw [h2]; decide
theorem trace_at {p : Prt} {s : Stt} {l : Pln} (h : runE p s l = 0) : (traceV p s l).length = l.hours.toNat + 1 ∧ (traceV p s l)[0]? = some s.brash ∧ (traceV p s l)[l.hours.toNat]? = some (runV p s l).brash := by
  unfold traceV
  rw [if_pos h]
  refine ⟨by simp [traceS], by simp [traceS, stN], ?_⟩
  unfold runV
  rw [if_pos h]
  simp [traceS]
end Go.Proofs.Ythmldeningpjbaa
/- slices.Equal at ints: it only reads -/
namespace Go.Proofs.Ythmldeningpjbaa
open Go Go.RowKit Sp Pt
set_option linter.unusedVariables false
set_option linter.unusedSimpArgs false

set_option maxHeartbeats 1000000 in
theorem eqIntsQ_any (A : Option Addr) (c : Nat) (l : List Int) (B : Option Addr) (d : Nat) (m : List Int) (w : World) (hr : Rd w 1 A l.length (ints l)) (hr2 : Rd w 1 B m.length (ints m)) (hm : l.length ≤ 9223372036854775807) (hm2 : m.length ≤ 9223372036854775807) :
    Calls Try.prog 28 #[.slice A l.length c, .slice B m.length d] w fun e w' => e = .returned (.bool (decide (l = m))) ∧ ∃ n, w' = w.drewN n := by
  by_cases hlen : l.length = m.length
  · have hle : ((l.length : Int) != (m.length : Int)) = false := by simp; omega
    have hmm : m.length = l.length := hlen.symm
    rw [hmm] at hr2 ⊢
    have HL := Lib.hid hmm
    clear hlen hmm
    go_enter Try.func28, Try.ntmps28
    go_wp2_with fail
    go_loopg [13] (l.length) (fun g i wr => ∃ k : Nat, g + k = l.length ∧ i = .int .i64 k ∧ l.take k = m.take k ∧ ∃ n, wr = w.drewN n)
    case atStart => exact ⟨0, rfl, rfl, by simp, 0, rfl⟩
    case round =>
      obtain ⟨k, hk, rfl, hb, nd, rfl⟩ := hrel
      have HB := Lib.hid hb
      by_cases hlt : k < l.length
      · obtain ⟨b, off, rfl, hbb, hc⟩ := hr.2 (by omega)
        obtain ⟨b2, off2, rfl, hbb2, hc2⟩ := hr2.2 (by omega)
        obtain ⟨x, hx⟩ : ∃ x, x = l.getD k 0 := ⟨_, rfl⟩
        obtain ⟨y, hy⟩ : ∃ y, y = m.getD k 0 := ⟨_, rfl⟩
        have c0 : w.cell? ⟨b, off + k, none⟩ = some (.int .i64 x) := by rw [hx]; exact hc k _ (ints_get hlt)
        have c1 : w.cell? ⟨b2, off2 + k, none⟩ = some (.int .i64 y) := by rw [hy]; exact hc2 k _ (ints_get (by have := HL.out; omega))
        have hkI : (0 : Int) ≤ (k : Int) ∧ (k : Int) < (l.length : Int) := by omega
        have hx' : x = l[k] := by rw [hx]; simp [hlt]
        have hy' : y = m[k]'(by have := HL.out; omega) := by rw [hy]; simp [show k < m.length from by have := HL.out; omega]
        have HX := Lib.hid (And.intro hx' hy')
        clear hx hy hx' hy' hb hc hc2 hr hr2
        by_cases hxy : x = y
        · subst hxy
          have hne : (x != x) = false := by simp
          go_upto_region 6 with fail
          go_quiet (fail)
          go_wp2_with fail
          go_roundg (gk - 1)
          case measure => omega
          case rel =>
            refine ⟨k + 1, by omega, by go_num, ?_, _, rfl⟩
            rw [List.take_succ_eq_append_getElem hlt, List.take_succ_eq_append_getElem (by have := HL.out; omega : k < m.length), HB.out, ← HX.out.1, ← HX.out.2]
        · have hne : (x != y) = true := by simp [hxy]
          go_upto_region 6 with fail
          go_quiet (fail)
          go_wp2_with fail
          go_ret
          refine ⟨?_, _, World.drewN_drewN _ _ _⟩
          have : decide (l = m) = false := decide_eq_false fun e => by
            apply hxy
            rw [HX.out.1, HX.out.2]
            simp [e]
          rw [this]; rfl
      · obtain rfl : k = l.length := by omega
        clear hb
        go_wp2_with fail
        go_ret
        refine ⟨?_, nd, rfl⟩
        have h1 := HB.out
        rw [List.take_length, show l.length = m.length from HL.out.symm, List.take_length] at h1
        rw [decide_eq_true h1]; rfl
  · have hle : ((l.length : Int) != (m.length : Int)) = true := by simp; omega
    have HL := Lib.hid hlen
    clear hlen
    go_enter Try.func28, Try.ntmps28
    go_wp2_with fail
    go_ret
    refine ⟨?_, 0, rfl⟩
    rw [decide_eq_false (fun e => HL.out (by rw [e]))]; rfl
end Go.Proofs.Ythmldeningpjbaa
