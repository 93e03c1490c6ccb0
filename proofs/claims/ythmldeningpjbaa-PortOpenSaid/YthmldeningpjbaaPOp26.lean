/- slices.Equal at bools: it only reads -/
import Derived.Test.YthmldeningpjbaaPOp25
import Derived.Test.YthmldeningpjbaaPOp17
import Derived.Test.YthmldeningpjbaaPOp15
import Derived.Test.YthmldeningpjbaaPOp1
set_option linter.unusedVariables false
set_option linter.unusedSimpArgs false
namespace Go.Proofs.Ythmldeningpjbaa
open Go Go.RowKit Sp Pt
set_option linter.unusedVariables false
set_option linter.unusedSimpArgs false

set_option maxHeartbeats 1000000 in
theorem eqBoolsQ_any (A : Option Addr) (c : Nat) (l : List Bool) (B : Option Addr) (d : Nat) (m : List Bool) (w : World) (hr : Rd w 1 A l.length (bools l)) (hr2 : Rd w 1 B m.length (bools m)) (hm : l.length ≤ 9223372036854775807) (hm2 : m.length ≤ 9223372036854775807) :
    Calls Try.prog 75 #[.slice A l.length c, .slice B m.length d] w fun e w' => e = .returned (.bool (decide (l = m))) ∧ ∃ n, w' = w.drewN n := by
  by_cases hlen : l.length = m.length
  · have hle : ((l.length : Int) != (m.length : Int)) = false := by simp; omega
    have hmm : m.length = l.length := hlen.symm
    rw [hmm] at hr2 ⊢
    have HL := Lib.hid hmm
    clear hlen hmm
    go_enter Try.func75, Try.ntmps75
    go_wp2_with fail
    go_loopg [13] (l.length) (fun g i wr => ∃ k : Nat, g + k = l.length ∧ i = .int .i64 k ∧ l.take k = m.take k ∧ ∃ n, wr = w.drewN n)
    case atStart => exact ⟨0, rfl, rfl, by simp, 0, rfl⟩
    case round =>
      obtain ⟨k, hk, rfl, hb, nd, rfl⟩ := hrel
      have HB := Lib.hid hb
      by_cases hlt : k < l.length
      · obtain ⟨b, off, rfl, hbb, hc⟩ := hr.2 (by omega)
        obtain ⟨b2, off2, rfl, hbb2, hc2⟩ := hr2.2 (by omega)
        obtain ⟨x, hx⟩ : ∃ x, x = l.getD k false := ⟨_, rfl⟩
        obtain ⟨y, hy⟩ : ∃ y, y = m.getD k false := ⟨_, rfl⟩
        have c0 : w.cell? ⟨b, off + k, none⟩ = some (.bool x) := by rw [hx]; exact hc k _ (bools_get hlt)
        have c1 : w.cell? ⟨b2, off2 + k, none⟩ = some (.bool y) := by rw [hy]; exact hc2 k _ (bools_get (by have := HL.out; omega))
        have hkI : (0 : Int) ≤ (k : Int) ∧ (k : Int) < (l.length : Int) := by omega
        have hx' : x = l[k] := by rw [hx]; simp [hlt]
        have hy' : y = m[k]'(by have := HL.out; omega) := by rw [hy]; simp [show k < m.length from by have := HL.out; omega]
        have HX := Lib.hid (And.intro hx' hy')
        clear hx hy hx' hy' hb hc hc2 hr hr2
        by_cases hxy : x = y
        · subst hxy
          have hne : (x != x) = false := by simp
          go_upto_region 6 with fail
          go_quiet (fail)
          go_wp2_with fail
          go_roundg (gk - 1)
          case measure => omega
          case rel =>
            refine ⟨k + 1, by omega, by go_num, ?_, _, rfl⟩
            rw [List.take_succ_eq_append_getElem hlt, List.take_succ_eq_append_getElem (by have := HL.out; omega : k < m.length), HB.out, ← HX.out.1, ← HX.out.2]
        · obtain ⟨rfl, rfl⟩ | ⟨rfl, rfl⟩ : (x = false ∧ y = true) ∨ (x = true ∧ y = false) := by cases x <;> cases y <;> simp_all
          · go_upto_region 6 with fail
            go_quiet (fail)
            go_wp2_with fail
            go_ret
            refine ⟨?_, _, World.drewN_drewN _ _ _⟩
            have : decide (l = m) = false := decide_eq_false fun e => by
              apply hxy
              rw [HX.out.1, HX.out.2]
              simp [e]
            rw [this]; rfl
          · go_upto_region 6 with fail
            go_quiet (fail)
            go_wp2_with fail
            go_ret
            refine ⟨?_, _, World.drewN_drewN _ _ _⟩
            have : decide (l = m) = false := decide_eq_false fun e => by
              apply hxy
              rw [HX.out.1, HX.out.2]
              simp [e]
            rw [this]; rfl
      · obtain rfl : k = l.length := by omega
        clear hb
        go_wp2_with fail
        go_ret
        refine ⟨?_, nd, rfl⟩
        have h1 := HB.out
        rw [List.take_length, show l.length = m.length from HL.out.symm, List.take_length] at h1
        rw [decide_eq_true h1]; rfl
  · have hle : ((l.length : Int) != (m.length : Int)) = true := by simp; omega
    have HL := Lib.hid hlen
    clear hlen
    go_enter Try.func75, Try.ntmps75
    go_wp2_with fail
    go_ret
    refine ⟨?_, 0, rfl⟩
    rw [decide_eq_false (fun e => HL.out (by rw [e]))]; rfl
end Go.Proofs.Ythmldeningpjbaa
/- port.Keeps -/
namespace Go.Proofs.Ythmldeningpjbaa
open Go Go.RowKit Go.Lib Sp Pt
set_option linter.unusedVariables false
set_option linter.unusedSimpArgs false

def KeepsPost (w : World) (p : Prt) (s : Stt) (l : Pln) (e : Ending) (w' : World) : Prop := e = .returned (.tuple #[.bool (keepsV p s l), .int .i64 (startE p s l)]) ∧ Below w.heap.size w w'
/-- the first k numbers are at most those of before -/
def keepN (a b : List Int) (k : Nat) : Bool := (List.range k).all fun i => decide (a.getD i 0 ≤ b.getD i 0)
theorem keepN_succ (a b : List Int) (k : Nat) : keepN a b (k + 1) = (keepN a b k && decide (a.getD k 0 ≤ b.getD k 0)) := by simp [keepN, List.range_succ]
theorem keepN_no {a b : List Int} {k n : Nat} (hk : k < n) (h : ¬ a.getD k 0 ≤ b.getD k 0) : keepN a b n = false := by
  unfold keepN
  rw [List.all_eq_false]
  exact ⟨k, List.mem_range.2 hk, by simpa using h⟩

set_option maxRecDepth 100000 in
set_option maxHeartbeats 4000000 in
theorem Keeps_any (D : Nat) (Ac : Option Addr) (cc : Nat) (Ab : Option Addr) (cb : Nat) (p : Prt) (Al : Option Addr) (cl : Nat) (As : Option Addr) (cs : Nat) (l : Pln) (Ar : Option Addr) (cr : Nat) (Au : Option Addr) (cu : Nat) (s : Stt) (w : World)
    (PB : PrtB D w Ac cc Ab cb p) (LB : PlnB D w Al cl As cs l) (SB : SttB D w Ar cr Au cu s) (hD : D ≤ w.heap.size) :
    Calls Try.prog 18 #[.agg (prtV Ac cc Ab cb p), .agg (sttV Ar cr Au cu s), .agg (plnV Al cl As cs l)] w (KeepsPost w p s l) := by
  obtain ⟨W, hW⟩ : ∃ W, W = ((w.alloc (.cells (prtV Ac cc Ab cb p) 26)).alloc (.cells (sttV Ar cr Au cu s) 42)).alloc (.cells (plnV Al cl As cs l) 31) := ⟨_, rfl⟩
  obtain ⟨pb, hpb⟩ : ∃ b, b = w.heap.size := ⟨_, rfl⟩
  obtain ⟨sb, hsb⟩ : ∃ b, b = w.heap.size + 1 := ⟨_, rfl⟩
  obtain ⟨lb, hlb⟩ : ∃ b, b = w.heap.size + 1 + 1 := ⟨_, rfl⟩
  obtain ⟨b0, hp, hs, hl, kst⟩ := boxes3 PB LB SB hD hW hpb hsb hlb
  have c0 : W.cell? ⟨pb, 0, none⟩ = some (.slice Ac p.chs.length cc) := (cell_of_heap hp 0).trans rfl
  have c1 : W.cell? ⟨pb, 1, none⟩ = some (.slice Ab p.bts.length cb) := (cell_of_heap hp 1).trans rfl
  have c2 : W.cell? ⟨pb, 2, none⟩ = some (.int .i64 p.tugs) := (cell_of_heap hp 2).trans rfl
  have c3 : W.cell? ⟨lb, 0, none⟩ = some (.int .i64 l.hours) := (cell_of_heap hl 0).trans rfl
  have c4 : W.cell? ⟨lb, 1, none⟩ = some (.slice Al l.calls.length cl) := (cell_of_heap hl 1).trans rfl
  have c5 : W.cell? ⟨lb, 2, none⟩ = some (.slice As l.swps.length cs) := (cell_of_heap hl 2).trans rfl
  have c6 : W.cell? ⟨sb, 0, none⟩ = some (.slice Ar s.brash.length cr) := (cell_of_heap hs 0).trans rfl
  have c7 : W.cell? ⟨sb, 1, none⟩ = some (.slice Au s.busy.length cu) := (cell_of_heap hs 1).trans rfl
  have zp := heap_lt hp
  have zl := heap_lt hl
  have zs := heap_lt hs
  have H := Lib.hid (And.intro b0 (And.intro kst (And.intro hD (And.intro hs (SB.below (b0.mono hD))))))
  clear b0 hp hs hl kst PB LB SB hD
  go_enter Try.func18, Try.ntmps18
  go_upto_region 1 with fail
  rw [← hW, ← hlb, ← hsb, ← hpb]
  clear hW hlb hsb hpb
  go_wp2_with fail
  refine H.out.2.1.mono ?_
  rintro e w1 ⟨b1, hcase⟩
  have bw1 : Below w.heap.size w w1 := H.out.1.trans (b1.mono H.out.1.size)
  clear c0 c1 c2 c3 c4 c5 c6 c7 zp zl zs
  rcases hcase with ⟨hne, rfl⟩ | ⟨he, c, hM, hS, rfl⟩
  · obtain ⟨er, her⟩ : ∃ er, er = startE p s l := ⟨_, rfl⟩
    rw [← her] at hne ⊢
    have hnb : (er != 0) = true := by simpa using hne
    have hv : keepsV p s l = false := by unfold keepsV; rw [← her, decide_eq_false hne]; rfl
    have HF := Lib.hid (And.intro her (And.intro hv bw1))
    clear hv bw1 her hne b1
    go_wp2_with fail
    go_ret2
    exact ⟨by rw [HF.out.2.1, ← HF.out.1]; rfl, HF.out.2.2⟩
  · obtain ⟨hc, hlen1, hlen2, hbr⟩ := start_bd he
    obtain ⟨q1, q2, q3, q4, q5, q6, q7, q8, q9, q10, q11⟩ := hM.eq
    have v : Val c.p c.l := by rw [q6, q11]; exact val_of hc
    have krun := run_any hM.E hM.N hS v (brR_of (by decide) hbr) 74 74 #[] #[] cbNothing cbNothing [] (by simp) (fun _ _ => True) (fun _ _ => True) (fun _ _ => True) trivial
      (fun k w _ _ _ _ _ => (nothing_any _ _).mono fun e w' h => ⟨h.1, ⟨[], by rw [← h.2]; exact Keep.refl _ _, by simp⟩, trivial⟩) (fun k w _ _ _ _ _ => (nothing_any _ _).mono fun e w' h => ⟨h.1, ⟨[], by rw [← h.2]; exact Keep.refl _ _, by simp⟩, trivial⟩) (fun _ _ _ _ _ => trivial) (fun _ _ _ _ _ => trivial)
    have hnew := hM.new
    have hgs := (b1.block _ (heap_lt H.out.2.2.2.1)).trans H.out.2.2.2.1
    have hsn := heap_lt H.out.2.2.2.1
    obtain ⟨R, hR⟩ : ∃ R, R = runR p l s := ⟨_, rfl⟩
    have HM := Lib.hid (And.intro hM (And.intro krun (And.intro he (And.intro bw1 (And.intro q6 (And.intro q11 (And.intro hR (And.intro hgs (H.out.2.2.2.2.below (b1.mono (by have := H.out.1.size; have := H.out.2.2.1; omega)))))))))))
    have hD1 : D ≤ w1.heap.size := by have := bw1.size; have := H.out.2.2.1; omega
    have hDW : D ≤ W.heap.size := by have := H.out.1.size; have := H.out.2.2.1; omega
    have hWw := H.out.1.size
    have hb1s := bw1.size
    clear hM krun he bw1 hS v hc hbr q1 q2 q3 q4 q5 q6 q7 q8 q9 q10 q11 b1 hR hgs
    go_wp2_with fail
    refine HM.out.2.1.mono ?_
    rintro e w3 ⟨rfl, kp, hok⟩
    rw [HM.out.2.2.2.2.1, HM.out.2.2.2.2.2.1, ← HM.out.2.2.2.2.2.2.1] at hok ⊢
    have bw3 : Below w.heap.size w w3 := HM.out.2.2.2.1.trans (kp.below hb1s (by simp; omega))
    have hgs3 := (kp.block sb (heap_lt HM.out.2.2.2.2.2.2.2.1) (by simp; omega)).trans HM.out.2.2.2.2.2.2.2.1
    obtain ⟨i, er⟩ := R
    have hrr : runR p l s = (i, er) := HM.out.2.2.2.2.2.2.1.symm
    by_cases her : er = 0
    · subst her
      obtain ⟨S3, _⟩ := hok rfl
      have E3 := HM.out.1.E.keep kp (by have := HM.out.1.N.g; have := HM.out.1.N.u; simp; omega)
      obtain ⟨_, _, c2, c3, _, _, _, _, _, z1, _, _⟩ := E3.cells
      obtain ⟨n, hn⟩ : ∃ n, n = c.p.chs.length := ⟨_, rfl⟩
      obtain ⟨m, hm⟩ : ∃ m, m = c.p.bts.length := ⟨_, rfl⟩
      have hl3 := S3.len
      have hn' : n = p.chs.length := by rw [hn, HM.out.2.2.2.2.1]
      have hm' : m = p.bts.length := by rw [hm, HM.out.2.2.2.2.1]
      have hbr : brV c = .slice (some ⟨c.gb, 0, none⟩) n c.c1 := by rw [hn]
      have hbu : buV c = .slice (some ⟨c.ub, 0, none⟩) m c.c2 := by rw [hm]
      rw [hbr] at c2
      rw [hbu] at c3
      have S3b := S3.br
      have S3u := S3.bu
      rw [← hn] at S3b
      rw [← hm] at S3u
      rw [← hn, ← hm] at hl3
      obtain ⟨T, hT⟩ : ∃ T, T = stN p l s l.hours.toNat := ⟨_, rfl⟩
      rw [← hT] at hl3 S3b S3u
      have Rb := S3b.rd
      have Ru := S3u.rd
      have c6 : w3.cell? ⟨sb, 0, none⟩ = some (.slice Ar s.brash.length cr) := (cell_of_heap hgs3 0).trans rfl
      have c7 : w3.cell? ⟨sb, 1, none⟩ = some (.slice Au s.busy.length cu) := (cell_of_heap hgs3 1).trans rfl
      have zs := heap_lt hgs3
      have SB3 : SttB D w3 Ar cr Au cu s := by
        have h := HM.out.2.2.2.2.2.2.2.2
        exact ⟨⟨h.br.1, fun h0 => by obtain ⟨b, o, e, hb, hc⟩ := h.br.2 h0; exact ⟨b, o, e, hb, fun j u hu => kp.cell (hc j u hu) (by simp; omega)⟩⟩, ⟨h.bu.1, fun h0 => by obtain ⟨b, o, e, hb, hc⟩ := h.bu.2 h0; exact ⟨b, o, e, hb, fun j u hu => kp.cell (hc j u hu) (by simp; omega)⟩⟩, h.c1, h.c2⟩
      have hD3 : D ≤ w3.heap.size := by have := kp.size; omega
      have hRb := SB3.br.rd hD3
      have hRu := SB3.bu.rd hD3
      rw [hlen1, ← hn'] at c6 hRb
      rw [hlen2, ← hm'] at c7 hRu
      obtain ⟨d, hd⟩ : ∃ d, d = decide (T.busy = s.busy) := ⟨_, rfl⟩
      have keq : ∀ nd, Calls Try.prog 75 #[.slice (some ⟨c.ub, 0, none⟩) m c.c2, .slice Au m cu] (w3.drewN nd) fun e w' => e = .returned (.bool d) ∧ ∃ k, w' = (w3.drewN nd).drewN k := fun nd => by
        have h := eqBoolsQ_any (some ⟨c.ub, 0, none⟩) c.c2 T.busy Au cu s.busy (w3.drewN nd) (by rw [hl3.2]; exact Ru) (by rw [hlen2, ← hm']; exact hRu) (by have := S3u.ge; have := S3u.cap; omega) (by have := S3u.ge; have := S3u.cap; omega)
        rw [← hd, hl3.2, hlen2, ← hm'] at h
        exact h
      have hnp : 0 < n := by have h2 := val_of (start_bd HM.out.2.2.1).1; have := h2.nc; omega
      have hn6 : n ≤ 6 := by have h2 := val_of (start_bd HM.out.2.2.1).1; have := h2.nc; omega
      have hk : keepsV p s l = (d && keepN T.brash s.brash n) := by unfold keepsV; rw [HM.out.2.2.1, hrr, ← hT, ← hd, hn', decide_eq_true rfl]; rfl
      have hst : startE p s l = 0 := HM.out.2.2.1
      have HE := Lib.hid (And.intro keq (And.intro hk (And.intro bw3 (And.intro hl3 (And.intro hst (And.intro hlen1 hn'))))))
      have HB := Lib.hid (And.intro Rb hRb)
      clear keq hk bw3 hl3 hok kp hrr hgs3 S3 E3 S3b S3u Rb Ru SB3 hRu hRb hbr hbu hd hn' hm' hlen1 hlen2 hT hst hn hm hnew hsn hb1s hWw hD1 hDW hD3
      cases d
      · go_upto_region 5 with fail
        go_quiet ((go_at_call 75; with_reducible exact Calls.quiet_of (HE.out.1 _)))
        go_wp2_with fail
        go_ret2
        exact ⟨by rw [HE.out.2.1, HE.out.2.2.2.2.1]; rfl, below_drewN HE.out.2.2.1 _⟩
      · go_upto_region 5 with fail
        go_quiet ((go_at_call 75; with_reducible exact Calls.quiet_of (HE.out.1 _)))
        obtain ⟨gA, oA, rfl⟩ : ∃ g o, Ar = some ⟨g, o, none⟩ := by obtain ⟨g, o, e, _⟩ := HB.out.2.2 hnp; exact ⟨g, o, e⟩
        go_wp2_with fail
        go_loopg [46] n (fun g i wx => ∃ k : Nat, g + k = n ∧ i = .int .i64 k ∧ keepN T.brash s.brash k = true ∧ wx = w3.drewN nq)
        case atStart => exact ⟨0, rfl, rfl, rfl, rfl⟩
        case round =>
          obtain ⟨k, hk, rfl, hkn, rfl⟩ := hrel
          have HK := Lib.hid hkn
          clear hkn
          by_cases hlt : k < n
          · obtain ⟨x, hx⟩ : ∃ x, x = T.brash.getD k 0 := ⟨_, rfl⟩
            obtain ⟨y, hy⟩ : ∃ y, y = s.brash.getD k 0 := ⟨_, rfl⟩
            have e1 : w3.cell? ⟨c.gb, k, none⟩ = some (.int .i64 x) := by
              obtain ⟨g, o, e, hb, hc⟩ := HB.out.1.2 hnp
              injection e with e
              injection e with ea eb _
              subst ea eb
              rw [hx, ← hc k _ (ints_get (by rw [HE.out.2.2.2.1.1]; exact hlt)), Nat.zero_add]
            have e2 : w3.cell? ⟨gA, oA + k, none⟩ = some (.int .i64 y) := by
              obtain ⟨g, o, e, hb, hc⟩ := HB.out.2.2 hnp
              injection e with e
              injection e with ea eb _
              subst ea eb
              rw [hy, ← hc k _ (ints_get (by rw [HE.out.2.2.2.2.2.1, ← HE.out.2.2.2.2.2.2]; exact hlt))]
            have z2 := World.block_lt_of_cell? _ _ e1
            have z3 := World.block_lt_of_cell? _ _ e2
            simp only at z2 z3
            have HXY := Lib.hid (And.intro hx hy)
            clear hx hy
            by_cases hle : x ≤ y
            · go_wp2_with fail
              go_roundg (gk - 1)
              case measure => omega
              case rel => exact ⟨k + 1, by omega, by go_num, by rw [keepN_succ, HK.out, ← HXY.out.1, ← HXY.out.2, decide_eq_true hle]; rfl, rfl⟩
            · go_wp2_with fail
              go_ret2
              refine ⟨?_, below_drewN HE.out.2.2.1 _⟩
              rw [HE.out.2.1, keepN_no hlt (by rw [← HXY.out.1, ← HXY.out.2]; omega), HE.out.2.2.2.2.1]; rfl
          · obtain rfl : k = n := by omega
            go_wp2_with fail
            go_ret2
            exact ⟨by rw [HE.out.2.1, HK.out, HE.out.2.2.2.2.1]; rfl, below_drewN HE.out.2.2.1 _⟩
    · have hnb : (er != 0) = true := by simpa using her
      have hv : keepsV p s l = false := by unfold keepsV; rw [hrr, decide_eq_false her]; simp
      have HF := Lib.hid (And.intro hv (And.intro bw3 HM.out.2.2.1))
      clear hv bw3 hok kp hrr her hgs3
      go_upto_region 5 with fail
      go_quiet (fail)
      go_wp2_with fail
      go_ret2
      exact ⟨by rw [HF.out.1, HF.out.2.2]; rfl, below_drewN HF.out.2.1 _⟩
end Go.Proofs.Ythmldeningpjbaa
/- Ports that are being made: what lies where. -/
namespace Go.Proofs.Ythmldeningpjbaa
open Go Go.RowKit Sp Pt
set_option linter.unusedVariables false

structure BrX where
  d : Int
  path : List Int
  A : Option Addr
  c : Nat
def BrX.b (x : BrX) : Brt := ⟨x.d, x.path⟩
def brx (b : BrX) : List Value := [.int .i64 b.d, .slice b.A b.path.length b.c]
abbrev brxs (l : List BrX) : List Value := l.flatMap brx
structure MdC where
  D : Nat
  rb : Nat
  pb : Nat
  ib : Nat
  lb : Nat
  tg : Int
structure MdS (K : MdC) (W0 : World) (chs : List Chn) (Ac : Option Addr) (cc : Nat) (fc : List Nat) (bs : List BrX) (Ab : Option Addr) (cb : Nat) (fb : List Nat) (w : World) : Prop where
  bel : Below K.D W0 w
  nx : NxS K.D w K.ib K.lb
  res : w.heap[K.rb]? = some (.cells #[.slice none 0 0, .slice none 0 0, .int .i64 0] 26 (0, 0))
  prt : w.heap[K.pb]? = some (.cells #[.slice Ac chs.length cc, .slice Ab bs.length cb, .int .i64 K.tg] 26 (0, 0))
  oc : OwnS w 144 3 Ac chs.length cc (chcs chs) fc
  ob : OwnS w 53 2 Ab bs.length cb (brxs bs) fb
  pth : ∀ x ∈ bs, ∃ g, x.A = some ⟨g, 0, none⟩ ∧ OwnS w 3 1 x.A x.path.length x.c (ints x.path) [g] ∧ K.D ≤ g ∧ g ∉ [K.rb, K.pb, K.ib, K.lb] ∧ g ∉ fc ∧ g ∉ fb
  sp : K.D ≤ K.rb ∧ K.D ≤ K.pb ∧ K.rb ≠ K.pb ∧ K.rb ≠ K.ib ∧ K.rb ≠ K.lb ∧ K.pb ≠ K.ib ∧ K.pb ≠ K.lb
  sc : ∀ g ∈ fc, K.D ≤ g ∧ g ∉ [K.rb, K.pb, K.ib, K.lb] ∧ g ∉ fb
  sb : ∀ g ∈ fb, K.D ≤ g ∧ g ∉ [K.rb, K.pb, K.ib, K.lb]
def Away (K : MdC) (fc : List Nat) (bs : List BrX) (fb : List Nat) (x : Nat) : Prop := K.D ≤ x ∧ x ∉ [K.rb, K.pb, K.ib, K.lb] ∧ x ∉ fc ∧ x ∉ fb ∧ ∀ y ∈ bs, y.A ≠ some ⟨x, 0, none⟩
section
variable {K : MdC} {W0 w w' : World} {chs : List Chn} {Ac : Option Addr} {cc : Nat} {fc : List Nat} {bs : List BrX} {Ab : Option Addr} {cb : Nat} {fb : List Nat}
theorem MdS.lo (h : MdS K W0 chs Ac cc fc bs Ab cb fb w) : K.D ≤ w.heap.size := by have := h.sp.1; have := heap_lt h.res; omega
theorem MdS.fresh (h : MdS K W0 chs Ac cc fc bs Ab cb fb w) {x : Nat} (hx : w.heap.size ≤ x) : Away K fc bs fb x := by
  have h1 := heap_lt h.res
  have h2 := heap_lt h.prt
  have h3 := h.nx.lt
  refine ⟨by omega, ?_, fun e => by have := h.oc.lt _ e; omega, fun e => by have := h.ob.lt _ e; omega, fun y hy e => ?_⟩
  · simp only [List.mem_cons, List.not_mem_nil, or_false]; omega
  · obtain ⟨g, e1, e2, _⟩ := h.pth y hy
    rw [e1] at e
    injection e with e
    injection e with e _ _
    have := e2.lt g (by simp)
    omega
theorem MdS.away (h : MdS K W0 chs Ac cc fc bs Ab cb fb w) {S : List Nat} (hk : Keep S w w') (hS : ∀ x ∈ S, Away K fc bs fb x) : MdS K W0 chs Ac cc fc bs Ab cb fb w' := by
  have n : ∀ {x : Nat}, x ∈ [K.rb, K.pb, K.ib, K.lb] → x ∉ S := fun {x} hx hm => (hS x hm).2.1 hx
  refine ⟨h.bel.trans (hk.below h.lo (fun x hx => (hS x hx).1)), h.nx.keep hk (fun x hx => ⟨(hS x hx).1, fun e => n (x := K.ib) (by simp) (e ▸ hx), fun e => n (x := K.lb) (by simp) (e ▸ hx)⟩), (hk.block _ (heap_lt h.res) (n (by simp))).trans h.res, (hk.block _ (heap_lt h.prt) (n (by simp))).trans h.prt,
    h.oc.keepS hk (fun g hg hm => (hS g hm).2.2.1 hg), h.ob.keepS hk (fun g hg hm => (hS g hm).2.2.2.1 hg), fun x hx => ?_, h.sp, h.sc, h.sb⟩
  obtain ⟨g, e1, e2, e3⟩ := h.pth x hx
  exact ⟨g, e1, e2.keepS hk (fun g' hg hm => by rw [List.mem_singleton.1 hg] at hm; exact (hS g hm).2.2.2.2 x hx e1), e3⟩
theorem MdS.below (h : MdS K W0 chs Ac cc fc bs Ab cb fb w) (hb : Below w.heap.size w w') : MdS K W0 chs Ac cc fc bs Ab cb fb w' := h.away (S := []) (Keep.of_below hb) (by simp)
theorem MdS.next (h : MdS K W0 chs Ac cc fc bs Ab cb fb w) (hn : NxS K.D w' K.ib K.lb) (hk : Keep [K.ib] w w') : MdS K W0 chs Ac cc fc bs Ab cb fb w' := by
  refine ⟨h.bel.trans (hk.below h.lo (fun x hx => by rw [List.mem_singleton.1 hx]; exact hn.lt.2.2.1)), hn, (hk.block _ (heap_lt h.res) (by simpa using h.sp.2.2.2.1)).trans h.res, (hk.block _ (heap_lt h.prt) (by simpa using h.sp.2.2.2.2.2.1)).trans h.prt,
    h.oc.keepS hk (fun g hg => fun hm => (h.sc g hg).2.1 (by rw [List.mem_singleton.1 hm]; simp)), h.ob.keepS hk (fun g hg hm => (h.sb g hg).2 (by rw [List.mem_singleton.1 hm]; simp)), fun x hx => ?_, h.sp, h.sc, h.sb⟩
  obtain ⟨g, e1, e2, e3, e4, e5⟩ := h.pth x hx
  exact ⟨g, e1, e2.keepS hk (fun g' hg hm => by rw [List.mem_singleton.1 hg] at hm; exact e4 (by rw [List.mem_singleton.1 hm]; simp)), e3, e4, e5⟩
theorem MdS.pushC (h : MdS K W0 chs Ac cc fc bs Ab cb fb w) {A : Option Addr} {c g : Nat} {x : Chn} (hk : Keep (K.ib :: K.pb :: fc) w w') (hn : NxS K.D w' K.ib K.lb) (ho : OwnS w' 144 3 A (chs.length + 1) c (chcs chs ++ chc x) [g]) (hg : g ∈ fc ∨ w.heap.size ≤ g)
    (hp : w'.heap[K.pb]? = some (.cells #[.slice A (chs.length + 1) c, .slice Ab bs.length cb, .int .i64 K.tg] 26 (0, 0))) : MdS K W0 (chs ++ [x]) A c [g] bs Ab cb fb w' := by
  have hS : ∀ y ∈ K.ib :: K.pb :: fc, K.D ≤ y := by
    intro y hy
    rcases List.mem_cons.1 hy with rfl | hy
    · exact h.nx.lt.2.2.1
    · rcases List.mem_cons.1 hy with rfl | hy
      · exact h.sp.2.1
      · exact (h.sc y hy).1
  have hgA : K.D ≤ g ∧ g ∉ [K.rb, K.pb, K.ib, K.lb] ∧ g ∉ fb ∧ ∀ y ∈ bs, y.A ≠ some ⟨g, 0, none⟩ := by
    rcases hg with e | e
    · refine ⟨(h.sc g e).1, (h.sc g e).2.1, (h.sc g e).2.2, fun y hy e2 => ?_⟩
      obtain ⟨g', e3, _, _, _, e4, _⟩ := h.pth y hy
      rw [e3] at e2
      injection e2 with e2
      injection e2 with e2 _ _
      exact e4 (e2 ▸ e)
    · obtain ⟨a1, a2, a3, a4, a5⟩ := h.fresh e
      exact ⟨a1, a2, a4, a5⟩
  refine ⟨h.bel.trans (hk.below h.lo hS), hn, (hk.block _ (heap_lt h.res) ?_).trans h.res, by rw [List.length_append]; exact hp, by rw [List.length_append, show chcs (chs ++ [x]) = chcs chs ++ chc x from flat_snoc _ _ _]; exact ho,
    h.ob.keepS hk (fun y hy hm => ?_), fun y hy => ?_, h.sp, fun y hy => ?_, h.sb⟩
  · simp only [List.mem_cons, not_or]
    exact ⟨h.sp.2.2.2.1, h.sp.2.2.1, fun e => (h.sc _ e).2.1 (by simp)⟩
  · rcases List.mem_cons.1 hm with rfl | hm
    · exact (h.sb _ hy).2 (by simp)
    · rcases List.mem_cons.1 hm with rfl | hm
      · exact (h.sb _ hy).2 (by simp)
      · exact (h.sc y hm).2.2 hy
  · obtain ⟨g', e1, e2, e3, e4, e5, e6⟩ := h.pth y hy
    refine ⟨g', e1, e2.keepS hk (fun z hz hm => ?_), e3, e4, ?_, e6⟩
    · rw [List.mem_singleton.1 hz] at hm
      rcases List.mem_cons.1 hm with e | hm
      · exact e4 (by rw [e]; simp)
      · rcases List.mem_cons.1 hm with e | hm
        · exact e4 (by rw [e]; simp)
        · exact e5 hm
    · simp only [List.mem_singleton]
      rintro rfl
      exact hgA.2.2.2 y hy e1
  · rw [List.mem_singleton.1 hy]
    exact ⟨hgA.1, hgA.2.1, hgA.2.2.1⟩
theorem MdS.pushB (h : MdS K W0 chs Ac cc fc bs Ab cb fb w) {A : Option Addr} {c g : Nat} {x : BrX} (hk : Keep (K.pb :: fb) w w') (ho : OwnS w' 53 2 A (bs.length + 1) c (brxs bs ++ brx x) [g]) (hg : g ∈ fb ∨ w.heap.size ≤ g)
    (hp : w'.heap[K.pb]? = some (.cells #[.slice Ac chs.length cc, .slice A (bs.length + 1) c, .int .i64 K.tg] 26 (0, 0)))
    (gp : Nat) (hx : x.A = some ⟨gp, 0, none⟩) (hxo : OwnS w 3 1 x.A x.path.length x.c (ints x.path) [gp]) (haw : Away K fc bs fb gp) : MdS K W0 chs Ac cc fc (bs ++ [x]) A c [g] w' := by
  have hS : ∀ y ∈ K.pb :: fb, K.D ≤ y := by
    intro y hy
    rcases List.mem_cons.1 hy with rfl | hy
    · exact h.sp.2.1
    · exact (h.sb y hy).1
  have hgp := hxo.lt gp (by simp)
  have hgA : K.D ≤ g ∧ g ∉ [K.rb, K.pb, K.ib, K.lb] ∧ g ∉ fc ∧ (∀ y ∈ bs, y.A ≠ some ⟨g, 0, none⟩) ∧ gp ≠ g := by
    rcases hg with e | e
    · refine ⟨(h.sb g e).1, (h.sb g e).2, fun e2 => (h.sc g e2).2.2 e, fun y hy e2 => ?_, fun e2 => haw.2.2.2.1 (e2 ▸ e)⟩
      obtain ⟨g', e3, _, _, _, _, e4⟩ := h.pth y hy
      rw [e3] at e2
      injection e2 with e2
      injection e2 with e2 _ _
      exact e4 (e2 ▸ e)
    · obtain ⟨a1, a2, a3, a4, a5⟩ := h.fresh e
      exact ⟨a1, a2, a3, a5, by omega⟩
  have hkp : ∀ {z : Nat}, z ∉ [K.rb, K.pb, K.ib, K.lb] → z ∉ fb → z ∉ K.pb :: fb := fun {z} h1 h2 hm => by
    rcases List.mem_cons.1 hm with rfl | hm
    · exact h1 (by simp)
    · exact h2 hm
  have nb : ∀ z, z ∈ [K.ib, K.lb] → z ∉ K.pb :: fb := fun z hz hm => by
    rcases List.mem_cons.1 hm with rfl | hm
    · have := h.sp; simp at hz; omega
    · exact (h.sb z hm).2 (by simp at hz ⊢; rcases hz with e | e <;> simp [e])
  refine ⟨h.bel.trans (hk.below h.lo hS), h.nx.keep hk (fun z hz => ⟨hS z hz, fun e => nb K.ib (by simp) (e ▸ hz), fun e => nb K.lb (by simp) (e ▸ hz)⟩), (hk.block _ (heap_lt h.res) ?_).trans h.res, by rw [List.length_append]; exact hp,
    h.oc.keepS hk (fun z hz => hkp (h.sc z hz).2.1 (h.sc z hz).2.2), by rw [List.length_append, show brxs (bs ++ [x]) = brxs bs ++ brx x from flat_snoc _ _ _]; exact ho, fun y hy => ?_, h.sp, fun z hz => ⟨(h.sc z hz).1, (h.sc z hz).2.1, fun e => ?_⟩, fun z hz => ?_⟩
  · intro hm
    rcases List.mem_cons.1 hm with e | hm
    · exact h.sp.2.2.1 e
    · exact (h.sb _ hm).2 (by simp)
  · rcases List.mem_append.1 hy with hy | hy
    · obtain ⟨g', e1, e2, e3, e4, e5, e6⟩ := h.pth y hy
      refine ⟨g', e1, e2.keepS hk (fun z hz => by rw [List.mem_singleton.1 hz]; exact hkp e4 e6), e3, e4, e5, ?_⟩
      simp only [List.mem_singleton]
      rintro rfl
      exact hgA.2.2.2.1 y hy e1
    · rw [List.mem_singleton.1 hy]
      exact ⟨gp, hx, hxo.keepS hk (fun z hz => by rw [List.mem_singleton.1 hz]; exact hkp haw.2.1 haw.2.2.2.1), haw.1, haw.2.1, haw.2.2.1, by simpa using hgA.2.2.2.2⟩
  · rw [List.mem_singleton.1 e] at hz; exact hgA.2.2.1 hz
  · rw [List.mem_singleton.1 hz]; exact ⟨hgA.1, hgA.2.1⟩
theorem brxs_get {l : List BrX} {k : Nat} (hk : k < l.length) : (brxs l)[k*2]? = some (.int .i64 l[k].d) ∧ (brxs l)[k*2+1]? = some (.slice l[k].A l[k].path.length l[k].c) :=
  ⟨flat_get (f := brx) (s := 2) (fun _ => rfl) hk (j := 0) (by decide), flat_get (f := brx) (s := 2) (fun _ => rfl) hk (j := 1) (by decide)⟩
theorem MdS.prtB (h : MdS K W0 chs Ac cc fc bs Ab cb fb w) (hk : Keep [K.rb] w w') : PrtB w'.heap.size w' Ac cc Ab cb ⟨chs, bs.map BrX.b, K.tg⟩ := by
  have nil : ∀ {e : TypeId} {s n c : Nat} {A : Option Addr} {xs : List Value} {q : List Nat}, OwnS w' e s A n c xs q → A = none → c = 0 := fun {e s n c A xs q} ho hA => by
    rcases ho.2 with ⟨_, _, h3, _⟩ | ⟨g, cur, e1, _⟩
    · exact h3
    · rw [hA] at e1; cases e1
  have hoc := h.oc.keepS hk (fun g hg hm => (h.sc g hg).2.1 (by rw [List.mem_singleton.1 hm]; simp))
  have hob := h.ob.keepS hk (fun g hg hm => (h.sb g hg).2 (by rw [List.mem_singleton.1 hm]; simp))
  refine ⟨RdB.of hoc.rd (Nat.le_refl _), ?_, ⟨hoc.ge, hoc.cap, nil hoc⟩, by rw [List.length_map]; exact ⟨hob.ge, hob.cap, nil hob⟩⟩
  intro k hk'
  simp only [List.length_map] at hk'
  obtain ⟨b, off, e, hb, hc⟩ := hob.rd.2 (by omega)
  obtain ⟨g1, g2⟩ := brxs_get hk'
  obtain ⟨g, e1, e2, _, e3, _⟩ := h.pth bs[k] (List.getElem_mem _)
  have e2 := e2.keepS hk (fun z hz hm => by rw [List.mem_singleton.1 hz] at hm; exact e3 (by rw [List.mem_singleton.1 hm]; simp))
  refine ⟨b, off, bs[k].A, bs[k].c, e, hb, ?_, ?_, ?_⟩
  · rw [hc _ _ g1]; simp [BrX.b]
  · rw [Nat.add_assoc, hc _ _ g2]; simp [BrX.b]
  · simp only [List.getElem_map, BrX.b]
    exact ⟨RdB.of e2.rd (Nat.le_refl _), e2.ge, e2.cap, nil e2⟩
end
end Go.Proofs.Ythmldeningpjbaa
