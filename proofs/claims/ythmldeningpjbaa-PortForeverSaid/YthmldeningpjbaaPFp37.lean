/- port.Keeps -/
import Derived.Test.YthmldeningpjbaaPFp36
set_option linter.unusedVariables false
set_option linter.unusedSimpArgs false
namespace Go.Proofs.Ythmldeningpjbaa
open Go Go.RowKit Go.Lib Sp Pt
set_option linter.unusedVariables false
set_option linter.unusedSimpArgs false

def KeepsPost (w : World) (p : Prt) (s : Stt) (l : Pln) (e : Ending) (w' : World) : Prop := e = .returned (.tuple #[.bool (keepsV p s l), .int .i64 (startE p s l)]) ∧ Below w.heap.size w w'
/-- the first k numbers are at most those of before -/
def keepN (a b : List Int) (k : Nat) : Bool := (List.range k).all fun i => decide (a.getD i 0 ≤ b.getD i 0)
theorem keepN_succ (a b : List Int) (k : Nat) : keepN a b (k + 1) = (keepN a b k && decide (a.getD k 0 ≤ b.getD k 0)) := by simp [keepN, List.range_succ]
theorem keepN_no {a b : List Int} {k n : Nat} (hk : k < n) (h : ¬ a.getD k 0 ≤ b.getD k 0) : keepN a b n = false := by
  unfold keepN
  rw [List.all_eq_false]
  exact ⟨k, List.mem_range.2 hk, by simpa using h⟩

set_option maxRecDepth 100000 in
set_option maxHeartbeats 4000000 in
theorem Keeps_any (D : Nat) (Ac : Option Addr) (cc : Nat) (Ab : Option Addr) (cb : Nat) (p : Prt) (Al : Option Addr) (cl : Nat) (As : Option Addr) (cs : Nat) (l : Pln) (Ar : Option Addr) (cr : Nat) (Au : Option Addr) (cu : Nat) (s : Stt) (w : World)
    (PB : PrtB D w Ac cc Ab cb p) (LB : PlnB D w Al cl As cs l) (SB : SttB D w Ar cr Au cu s) (hD : D ≤ w.heap.size) :
    Calls Try.prog 18 #[.agg (prtV Ac cc Ab cb p), .agg (sttV Ar cr Au cu s), .agg (plnV Al cl As cs l)] w (KeepsPost w p s l) := by
  obtain ⟨W, hW⟩ : ∃ W, W = ((w.alloc (.cells (prtV Ac cc Ab cb p) 26)).alloc (.cells (sttV Ar cr Au cu s) 42)).alloc (.cells (plnV Al cl As cs l) 31) := ⟨_, rfl⟩
  obtain ⟨pb, hpb⟩ : ∃ b, b = w.heap.size := ⟨_, rfl⟩
  obtain ⟨sb, hsb⟩ : ∃ b, b = w.heap.size + 1 := ⟨_, rfl⟩
  obtain ⟨lb, hlb⟩ : ∃ b, b = w.heap.size + 1 + 1 := ⟨_, rfl⟩
  obtain ⟨b0, hp, hs, hl, kst⟩ := boxes3 PB LB SB hD hW hpb hsb hlb
  have c0 : W.cell? ⟨pb, 0, none⟩ = some (.slice Ac p.chs.length cc) := (cell_of_heap hp 0).trans rfl
  have c1 : W.cell? ⟨pb, 1, none⟩ = some (.slice Ab p.bts.length cb) := (cell_of_heap hp 1).trans rfl
  have c2 : W.cell? ⟨pb, 2, none⟩ = some (.int .i64 p.tugs) := (cell_of_heap hp 2).trans rfl
  have c3 : W.cell? ⟨lb, 0, none⟩ = some (.int .i64 l.hours) := (cell_of_heap hl 0).trans rfl
  have c4 : W.cell? ⟨lb, 1, none⟩ = some (.slice Al l.calls.length cl) := (cell_of_heap hl 1).trans rfl
  have c5 : W.cell? ⟨lb, 2, none⟩ = some (.slice As l.swps.length cs) := (cell_of_heap hl 2).trans rfl
  have c6 : W.cell? ⟨sb, 0, none⟩ = some (.slice Ar s.brash.length cr) := (cell_of_heap hs 0).trans rfl
  have c7 : W.cell? ⟨sb, 1, none⟩ = some (.slice Au s.busy.length cu) := (cell_of_heap hs 1).trans rfl
  have zp := heap_lt hp
  have zl := heap_lt hl
  have zs := heap_lt hs
  have H := Lib.hid (And.intro b0 (And.intro kst (And.intro hD (And.intro hs (SB.below (b0.mono hD))))))
  clear b0 hp hs hl kst PB LB SB hD
  go_enter Try.func18, Try.ntmps18
  go_upto_region 1 with fail
  rw [← hW, ← hlb, ← hsb, ← hpb]
  clear hW hlb hsb hpb
  go_wp2_with fail
  refine H.out.2.1.mono ?_
  rintro e w1 ⟨b1, hcase⟩
  have bw1 : Below w.heap.size w w1 := H.out.1.trans (b1.mono H.out.1.size)
  clear c0 c1 c2 c3 c4 c5 c6 c7 zp zl zs
  rcases hcase with ⟨hne, rfl⟩ | ⟨he, c, hM, hS, rfl⟩
  · obtain ⟨er, her⟩ : ∃ er, er = startE p s l := ⟨_, rfl⟩
    rw [← her] at hne ⊢
    have hnb : (er != 0) = true := by simpa using hne
    have hv : keepsV p s l = false := by unfold keepsV; rw [← her, decide_eq_false hne]; rfl
    have HF := Lib.hid (And.intro her (And.intro hv bw1))
    clear hv bw1 her hne b1
    go_wp2_with fail
    go_ret2
    exact ⟨by rw [HF.out.2.1, ← HF.out.1]; rfl, HF.out.2.2⟩
  · obtain ⟨hc, hlen1, hlen2, hbr⟩ := start_bd he
    obtain ⟨q1, q2, q3, q4, q5, q6, q7, q8, q9, q10, q11⟩ := hM.eq
    have v : Val c.p c.l := by rw [q6, q11]; exact val_of hc
    have krun := run_any hM.E hM.N hS v (brR_of (by decide) hbr) 74 74 #[] #[] cbNothing cbNothing [] (by simp) (fun _ _ => True) (fun _ _ => True) (fun _ _ => True) trivial
      (fun k w _ _ _ _ _ => (nothing_any _ _).mono fun e w' h => ⟨h.1, ⟨[], by rw [← h.2]; exact Keep.refl _ _, by simp⟩, trivial⟩) (fun k w _ _ _ _ _ => (nothing_any _ _).mono fun e w' h => ⟨h.1, ⟨[], by rw [← h.2]; exact Keep.refl _ _, by simp⟩, trivial⟩) (fun _ _ _ _ _ => trivial) (fun _ _ _ _ _ => trivial)
    have hnew := hM.new
    have hgs := (b1.block _ (heap_lt H.out.2.2.2.1)).trans H.out.2.2.2.1
    have hsn := heap_lt H.out.2.2.2.1
    obtain ⟨R, hR⟩ : ∃ R, R = runR p l s := ⟨_, rfl⟩
    have HM := Lib.hid (And.intro hM (And.intro krun (And.intro he (And.intro bw1 (And.intro q6 (And.intro q11 (And.intro hR (And.intro hgs (H.out.2.2.2.2.below (b1.mono (by have := H.out.1.size; have := H.out.2.2.1; omega)))))))))))
    have hD1 : D ≤ w1.heap.size := by have := bw1.size; have := H.out.2.2.1; omega
    have hDW : D ≤ W.heap.size := by have := H.out.1.size; have := H.out.2.2.1; omega
    have hWw := H.out.1.size
    have hb1s := bw1.size
    clear hM krun he bw1 hS v hc hbr q1 q2 q3 q4 q5 q6 q7 q8 q9 q10 q11 b1 hR hgs
    go_wp2_with fail
    refine HM.out.2.1.mono ?_
    rintro e w3 ⟨rfl, kp, hok⟩
    rw [HM.out.2.2.2.2.1, HM.out.2.2.2.2.2.1, ← HM.out.2.2.2.2.2.2.1] at hok ⊢
    have bw3 : Below w.heap.size w w3 := HM.out.2.2.2.1.trans (kp.below hb1s (by simp; omega))
    have hgs3 := (kp.block sb (heap_lt HM.out.2.2.2.2.2.2.2.1) (by simp; omega)).trans HM.out.2.2.2.2.2.2.2.1
    obtain ⟨i, er⟩ := R
    have hrr : runR p l s = (i, er) := HM.out.2.2.2.2.2.2.1.symm
    by_cases her : er = 0
    · subst her
      obtain ⟨S3, _⟩ := hok rfl
      have E3 := HM.out.1.E.keep kp (by have := HM.out.1.N.g; have := HM.out.1.N.u; simp; omega)
      obtain ⟨_, _, c2, c3, _, _, _, _, _, z1, _, _⟩ := E3.cells
      obtain ⟨n, hn⟩ : ∃ n, n = c.p.chs.length := ⟨_, rfl⟩
      obtain ⟨m, hm⟩ : ∃ m, m = c.p.bts.length := ⟨_, rfl⟩
      have hl3 := S3.len
      have hn' : n = p.chs.length := by rw [hn, HM.out.2.2.2.2.1]
      have hm' : m = p.bts.length := by rw [hm, HM.out.2.2.2.2.1]
      have hbr : brV c = .slice (some ⟨c.gb, 0, none⟩) n c.c1 := by rw [hn]
      have hbu : buV c = .slice (some ⟨c.ub, 0, none⟩) m c.c2 := by rw [hm]
      rw [hbr] at c2
      rw [hbu] at c3
      have S3b := S3.br
      have S3u := S3.bu
      rw [← hn] at S3b
      rw [← hm] at S3u
      rw [← hn, ← hm] at hl3
      obtain ⟨T, hT⟩ : ∃ T, T = stN p l s l.hours.toNat := ⟨_, rfl⟩
      rw [← hT] at hl3 S3b S3u
      have Rb := S3b.rd
      have Ru := S3u.rd
      have c6 : w3.cell? ⟨sb, 0, none⟩ = some (.slice Ar s.brash.length cr) := (cell_of_heap hgs3 0).trans rfl
      have c7 : w3.cell? ⟨sb, 1, none⟩ = some (.slice Au s.busy.length cu) := (cell_of_heap hgs3 1).trans rfl
      have zs := heap_lt hgs3
      have SB3 : SttB D w3 Ar cr Au cu s := by
        have h := HM.out.2.2.2.2.2.2.2.2
        exact ⟨⟨h.br.1, fun h0 => by obtain ⟨b, o, e, hb, hc⟩ := h.br.2 h0; exact ⟨b, o, e, hb, fun j u hu => kp.cell (hc j u hu) (by simp; omega)⟩⟩, ⟨h.bu.1, fun h0 => by obtain ⟨b, o, e, hb, hc⟩ := h.bu.2 h0; exact ⟨b, o, e, hb, fun j u hu => kp.cell (hc j u hu) (by simp; omega)⟩⟩, h.c1, h.c2⟩
      have hD3 : D ≤ w3.heap.size := by have := kp.size; omega
      have hRb := SB3.br.rd hD3
      have hRu := SB3.bu.rd hD3
      rw [hlen1, ← hn'] at c6 hRb
      rw [hlen2, ← hm'] at c7 hRu
      obtain ⟨d, hd⟩ : ∃ d, d = decide (T.busy = s.busy) := ⟨_, rfl⟩
      have keq : ∀ nd, Calls Try.prog 75 #[.slice (some ⟨c.ub, 0, none⟩) m c.c2, .slice Au m cu] (w3.drewN nd) fun e w' => e = .returned (.bool d) ∧ ∃ k, w' = (w3.drewN nd).drewN k := fun nd => by
        have h := eqBoolsQ_any (some ⟨c.ub, 0, none⟩) c.c2 T.busy Au cu s.busy (w3.drewN nd) (by rw [hl3.2]; exact Ru) (by rw [hlen2, ← hm']; exact hRu) (by have := S3u.ge; have := S3u.cap; omega) (by have := S3u.ge; have := S3u.cap; omega)
        rw [← hd, hl3.2, hlen2, ← hm'] at h
        exact h
      have hnp : 0 < n := by have h2 := val_of (start_bd HM.out.2.2.1).1; have := h2.nc; omega
      have hn6 : n ≤ 6 := by have h2 := val_of (start_bd HM.out.2.2.1).1; have := h2.nc; omega
      have hk : keepsV p s l = (d && keepN T.brash s.brash n) := by unfold keepsV; rw [HM.out.2.2.1, hrr, ← hT, ← hd, hn', decide_eq_true rfl]; rfl
      have hst : startE p s l = 0 := HM.out.2.2.1
      have HE := Lib.hid (And.intro keq (And.intro hk (And.intro bw3 (And.intro hl3 (And.intro hst (And.intro hlen1 hn'))))))
      have HB := Lib.hid (And.intro Rb hRb)
      clear keq hk bw3 hl3 hok kp hrr hgs3 S3 E3 S3b S3u Rb Ru SB3 hRu hRb hbr hbu hd hn' hm' hlen1 hlen2 hT hst hn hm hnew hsn hb1s hWw hD1 hDW hD3
      cases d
      · go_upto_region 5 with fail
        go_quiet ((go_at_call 75; with_reducible exact Calls.quiet_of (HE.out.1 _)))
        go_wp2_with fail
        go_ret2
        exact ⟨by rw [HE.out.2.1, HE.out.2.2.2.2.1]; rfl, below_drewN HE.out.2.2.1 _⟩
      · go_upto_region 5 with fail
        go_quiet ((go_at_call 75; with_reducible exact Calls.quiet_of (HE.out.1 _)))
        obtain ⟨gA, oA, rfl⟩ : ∃ g o, Ar = some ⟨g, o, none⟩ := by obtain ⟨g, o, e, _⟩ := HB.out.2.2 hnp; exact ⟨g, o, e⟩
        go_wp2_with fail
        go_loopg [46] n (fun g i wx => ∃ k : Nat, g + k = n ∧ i = .int .i64 k ∧ keepN T.brash s.brash k = true ∧ wx = w3.drewN nq)
        case atStart => exact ⟨0, rfl, rfl, rfl, rfl⟩
        case round =>
          obtain ⟨k, hk, rfl, hkn, rfl⟩ := hrel
          have HK := Lib.hid hkn
          clear hkn
          by_cases hlt : k < n
          · obtain ⟨x, hx⟩ : ∃ x, x = T.brash.getD k 0 := ⟨_, rfl⟩
            obtain ⟨y, hy⟩ : ∃ y, y = s.brash.getD k 0 := ⟨_, rfl⟩
            have e1 : w3.cell? ⟨c.gb, k, none⟩ = some (.int .i64 x) := by
              obtain ⟨g, o, e, hb, hc⟩ := HB.out.1.2 hnp
              injection e with e
              injection e with ea eb _
              subst ea eb
              rw [hx, ← hc k _ (ints_get (by rw [HE.out.2.2.2.1.1]; exact hlt)), Nat.zero_add]
            have e2 : w3.cell? ⟨gA, oA + k, none⟩ = some (.int .i64 y) := by
              obtain ⟨g, o, e, hb, hc⟩ := HB.out.2.2 hnp
              injection e with e
              injection e with ea eb _
              subst ea eb
              rw [hy, ← hc k _ (ints_get (by rw [HE.out.2.2.2.2.2.1, ← HE.out.2.2.2.2.2.2]; exact hlt))]
            have z2 := World.block_lt_of_cell? _ _ e1
            have z3 := World.block_lt_of_cell? _ _ e2
            simp only at z2 z3
            have HXY := Lib.hid (And.intro hx hy)
            clear hx hy
            by_cases hle : x ≤ y
            · go_wp2_with fail
              go_roundg (gk - 1)
              case measure => omega
              case rel => exact ⟨k + 1, by omega, by go_num, by rw [keepN_succ, HK.out, ← HXY.out.1, ← HXY.out.2, decide_eq_true hle]; rfl, rfl⟩
            · go_wp2_with fail
              go_ret2
              refine ⟨?_, below_drewN HE.out.2.2.1 _⟩
              rw [HE.out.2.1, keepN_no hlt (by rw [← HXY.out.1, ← HXY.out.2]; omega), HE.out.2.2.2.2.1]; rfl
          · obtain rfl : k = n := by omega
            go_wp2_with fail
            go_ret2
            exact ⟨by rw [HE.out.2.1, HK.out, HE.out.2.2.2.2.1]; rfl, below_drewN HE.out.2.2.1 _⟩
    · have hnb : (er != 0) = true := by simpa using her
      have hv : keepsV p s l = false := by unfold keepsV; rw [hrr, decide_eq_false her]; simp
      have HF := Lib.hid (And.intro hv (And.intro bw3 HM.out.2.2.1))
      clear hv bw3 hok kp hrr her hgs3
      go_upto_region 5 with fail
      go_quiet (fail)
      go_wp2_with fail
      go_ret2
      exact ⟨by rw [HF.out.1, HF.out.2.2]; rfl, below_drewN HF.out.2.1 _⟩
end Go.Proofs.Ythmldeningpjbaa
/- polynyaref09: Keeps -/
namespace Go.Proofs.Ythmldeningpjbaa
open Go Go.RowKit Sp Pt
set_option linter.unusedVariables false
set_option linter.unusedSimpArgs false

theorem srcs_get : ∀ {L : List SrR} {k : Nat} {y : SrR}, L[k]? = some y → (srcs L)[k * 2]? = some (.slice y.A y.s.brash.length y.c) ∧ (srcs L)[k * 2 + 1]? = some (.slice y.B y.s.busy.length y.d)
  | [], k, y, h => by simp at h
  | x :: L, 0, y, h => by
    injection h with h
    subst h
    exact ⟨rfl, rfl⟩
  | x :: L, k + 1, y, h => by
    have := srcs_get (L := L) (k := k) (y := y) (by simpa using h)
    have e : srcs (x :: L) = .slice x.A x.s.brash.length x.c :: .slice x.B x.s.busy.length x.d :: srcs L := rfl
    rw [e, show (k + 1) * 2 = k * 2 + 1 + 1 from by omega, show k * 2 + 1 + 1 + 1 = (k * 2 + 1) + 1 + 1 from by omega]
    simpa using this
/-- the state of an hour among those kept -/
theorem rows_at {L : List SrR} {n k : Nat} {f : Nat → Stt} (h : L.map (·.s) = (List.range n).map f) (hk : k < n) : ∃ y, L[k]? = some y ∧ y.s = f k := by
  have hl : L.length = n := by have := congrArg List.length h; simpa using this
  refine ⟨L[k]'(by omega), List.getElem?_eq_getElem (by omega), ?_⟩
  have := congrArg (fun l => l[k]?) h
  simp only [List.getElem?_map, List.getElem?_eq_getElem (show k < L.length by omega), List.getElem?_range hk, Option.map_some] at this
  injection this
theorem rkeeps_no1 {w w' : World} {p : Prt} {s : Stt} {l : Pln} {er : Int} (h : startE p s l = er) (h0 : er ≠ 0) (b : Below w.heap.size w w') : KeepsPost w p s l (.returned (.tuple #[.bool false, .int .i64 er])) w' := by
  refine ⟨?_, b⟩
  have : keepsV p s l = false := by unfold keepsV; rw [h, decide_eq_false h0]; rfl
  rw [this, h]
theorem rkeeps_no2 {w w' : World} {p : Prt} {s : Stt} {l : Pln} (h : startE p s l = 0) (h0 : (runR p l s).2 ≠ 0) (b : Below w.heap.size w w') : KeepsPost w p s l (.returned (.tuple #[.bool false, .int .i64 0])) w' := by
  refine ⟨?_, b⟩
  have : keepsV p s l = false := by unfold keepsV; rw [decide_eq_false h0]; simp
  rw [this, h]
theorem rkeeps_yes {w w' : World} {p : Prt} {s : Stt} {l : Pln} {v : Bool} (h : startE p s l = 0) (h0 : (runR p l s).2 = 0) (hv : v = (decide ((stN p l s l.hours.toNat).busy = s.busy) && keepN (stN p l s l.hours.toNat).brash s.brash p.chs.length)) (b : Below w.heap.size w w') : KeepsPost w p s l (.returned (.tuple #[.bool v, .int .i64 0])) w' := by
  refine ⟨?_, b⟩
  have : keepsV p s l = v := by unfold keepsV; rw [h, h0, hv, decide_eq_true rfl]; rfl
  rw [this, h]
/-- states, when no call fails -/
def StOk (w : World) (p : Prt) (s : Stt) (l : Pln) (n : Nat) (e : Ending) (w' : World) : Prop := ∃ (g c : Nat) (q : List Nat) (L : List SrR), e = .returned (.tuple #[.slice (some ⟨g, 0, none⟩) (n + 1) c, .int .i64 l.calls.length, .int .i64 0]) ∧ L.map (·.s) = (List.range (n + 1)).map (stN p l s) ∧ OwnS w' 81 2 (some ⟨g, 0, none⟩) (n + 1) c (srcs L) q ∧ (∀ y ∈ L, SttB w'.heap.size w' y.A y.c y.B y.d y.s) ∧ (∀ x ∈ q, w.heap.size ≤ x) ∧ Below w.heap.size w w'
def StNo (w : World) (i er : Int) (e : Ending) (w' : World) : Prop := e = .returned (.tuple #[.slice none 0 0, .int .i64 i, .int .i64 er]) ∧ Below w.heap.size w w'
theorem StatesPost.ok {w : World} {p : Prt} {s : Stt} {l : Pln} {e : Ending} {w' : World} (h : StatesPost w p s l e w') (h0 : (runR p l s).2 = 0) {n : Nat} (hn : l.hours.toNat = n) : StOk w p s l n e w' := by
  subst hn
  obtain ⟨b, ⟨q, _⟩ | ⟨_, _, A, c, q, L, rfl, h1, h2, h3, h4⟩⟩ := h
  · exact absurd h0 q
  · obtain ⟨g, rfl, _⟩ := h2.some_ (by omega)
    exact ⟨g, c, q, L, rfl, h1, h2, h3, h4.1, b⟩
theorem StatesPost.no {w : World} {p : Prt} {s : Stt} {l : Pln} {e : Ending} {w' : World} (h : StatesPost w p s l e w') (h0 : (runR p l s).2 ≠ 0) : StNo w (runR p l s).1 (runR p l s).2 e w' := by
  obtain ⟨b, ⟨_, rfl⟩ | ⟨q, _⟩⟩ := h
  · exact ⟨rfl, b⟩
  · exact absurd q h0

set_option maxRecDepth 100000 in
set_option maxHeartbeats 4000000 in
theorem rKeeps_any (D : Nat) (Ac : Option Addr) (cc : Nat) (Ab : Option Addr) (cb : Nat) (p : Prt) (Al : Option Addr) (cl : Nat) (As : Option Addr) (cs : Nat) (l : Pln) (Ar : Option Addr) (cr : Nat) (Au : Option Addr) (cu : Nat) (s : Stt) (w : World)
    (PB : PrtB D w Ac cc Ab cb p) (LB : PlnB D w Al cl As cs l) (SB : SttB D w Ar cr Au cu s) (hD : D ≤ w.heap.size) :
    Calls Try.prog 38 #[.agg (prtV Ac cc Ab cb p), .agg (sttV Ar cr Au cu s), .agg (plnV Al cl As cs l)] w (KeepsPost w p s l) := by
  obtain ⟨pb, hpb⟩ : ∃ b, b = w.heap.size := ⟨_, rfl⟩
  obtain ⟨sb, hsb⟩ : ∃ b, b = w.heap.size + 1 := ⟨_, rfl⟩
  obtain ⟨lb, hlb⟩ : ∃ b, b = w.heap.size + 1 + 1 := ⟨_, rfl⟩
  obtain ⟨W, hW⟩ : ∃ W, W = ((w.alloc (.cells (prtV Ac cc Ab cb p) 79)).alloc (.cells (sttV Ar cr Au cu s) 81)).alloc (.cells (plnV Al cl As cs l) 85) := ⟨_, rfl⟩
  have O0 : Own w.heap.size w [.blk pb (.cells (prtV Ac cc Ab cb p) 79), .blk sb (.cells (sttV Ar cr Au cu s) 81), .blk lb (.cells (plnV Al cl As cs l) 85)] W := by
    have h := ((((Own.start w).alloc (.cells (prtV Ac cc Ab cb p) 79)).alloc (.cells (sttV Ar cr Au cu s) 81)).alloc (.cells (plnV Al cl As cs l) 85))
    rw [hW, hpb, hsb, hlb]
    simpa using h
  have hDW : D ≤ W.heap.size := Nat.le_trans hD O0.bel.size
  obtain ⟨er, her⟩ : ∃ er, er = startE p s l := ⟨_, rfl⟩
  have kb : Calls Try.prog 93 #[.agg (prtV Ac cc Ab cb p), .agg (sttV Ar cr Au cu s), .agg (plnV Al cl As cs l)] W (BegunPost W p s l) := begun_any D Ac cc Ab cb p Ar cr Au cu s Al cl As cs l W (PB.below (O0.bel.mono hD)) (SB.below (O0.bel.mono hD)) (LB.below (O0.bel.mono hD)) hDW
  have hcap := And.intro PB.c1 (And.intro PB.c2 (And.intro LB.c1 (And.intro LB.c2 (And.intro SB.c1 SB.c2))))
  have cellsAt : ∀ wx, Own w.heap.size w [.blk pb (.cells (prtV Ac cc Ab cb p) 79), .blk sb (.cells (sttV Ar cr Au cu s) 81), .blk lb (.cells (plnV Al cl As cs l) 85)] wx → wx.cell? ⟨pb, 0, none⟩ = some (.slice Ac p.chs.length cc) ∧ wx.cell? ⟨pb, 1, none⟩ = some (.slice Ab p.bts.length cb) ∧ wx.cell? ⟨pb, 2, none⟩ = some (.int .i64 p.tugs) ∧ wx.cell? ⟨lb, 0, none⟩ = some (.int .i64 l.hours) ∧ wx.cell? ⟨lb, 1, none⟩ = some (.slice Al l.calls.length cl) ∧ wx.cell? ⟨lb, 2, none⟩ = some (.slice As l.swps.length cs) ∧ wx.cell? ⟨sb, 0, none⟩ = some (.slice Ar s.brash.length cr) ∧ wx.cell? ⟨sb, 1, none⟩ = some (.slice Au s.busy.length cu) ∧ pb < wx.heap.size ∧ sb < wx.heap.size ∧ lb < wx.heap.size := fun wx O => by
    have h0 := O.heap 0 rfl
    have h1 := O.heap 1 rfl
    have h2 := O.heap 2 rfl
    exact ⟨(cell_of_heap h0 0).trans rfl, (cell_of_heap h0 1).trans rfl, (cell_of_heap h0 2).trans rfl, (cell_of_heap h2 0).trans rfl, (cell_of_heap h2 1).trans rfl, (cell_of_heap h2 2).trans rfl, (cell_of_heap h1 0).trans rfl, (cell_of_heap h1 1).trans rfl, heap_lt h0, heap_lt h1, heap_lt (O.heap 2 rfl)⟩
  obtain ⟨c0, c1, cx, cy, cz, cw, c2, c3, z0, z1, z2⟩ := cellsAt W O0
  have H := Lib.hid (And.intro O0 (And.intro cellsAt (And.intro PB (And.intro LB (And.intro SB (And.intro her (And.intro kb hD)))))))
  clear O0 cellsAt her kb PB LB SB
  go_enter Try.func38, Try.ntmps38
  go_upto_region 1 with fail
  rw [← hW, ← hlb, ← hsb, ← hpb]
  clear hW hlb hsb hpb
  go_upto_region 2 with (go_at_call 93; refine H.out.2.2.2.2.2.2.1.mono ?_; rintro e w1 ⟨rfl, b1⟩; have O1 := Lib.hid (H.out.1.below b1); clear b1 c0 c1 cx cy cz cw c2 c3 z0 z1 z2)
  rw [← H.out.2.2.2.2.2.1]
  by_cases h0 : er = 0
  · have hst : startE p s l = 0 := H.out.2.2.2.2.2.1.symm.trans h0
    subst h0
    obtain ⟨hck, hl1, hl2, hbr⟩ := start_bd hst
    have v := val_of hck
    obtain ⟨c0, c1, cx, cy, cz, cw, c2, c3, z0, z1, z2⟩ := H.out.2.1 w1 O1.out
    have hD1 : D ≤ w1.heap.size := Nat.le_trans hD O1.out.bel.size
    have ks := states_any D Ac cc Ab cb p Ar cr Au cu s Al cl As cs l w1 (H.out.2.2.1.below (O1.out.bel.mono hD)) (H.out.2.2.2.2.1.below (O1.out.bel.mono hD)) (H.out.2.2.2.1.below (O1.out.bel.mono hD)) hD1 v hl1 hl2 (brR_of (by omega) hbr)
    have hnc := v.nc
    have hnb := v.nb
    have hho := v.h
    have HS := Lib.hid (And.intro ks (And.intro hst (And.intro hl1 (And.intro hl2 v))))
    clear ks hst hl1 hl2 hck v hbr
    by_cases hr : (runR p l s).2 = 0
    · obtain ⟨H1, hH1⟩ : ∃ x, x = l.hours.toNat := ⟨_, rfl⟩
      have ks := HS.out.1.mono fun e w' h => h.ok hr hH1.symm
      have HR := Lib.hid (And.intro ks hr)
      have hH2 : 1 ≤ H1 ∧ H1 ≤ 100 := by omega
      have HHr := Lib.hid hH1
      clear ks hr hH1
      go_upto_region 5 with (go_at_call 94; refine HR.out.1.mono ?_; rintro e w2 ⟨g, c, q, L, rfl, o1, o2, o3, o4, hb⟩; have HQ := Lib.hid (And.intro o1 (And.intro o2 (And.intro o3 (And.intro o4 hb)))); clear o1 o2 o3 o4 hb c0 c1 cx cy cz cw c2 c3 z0 z1 z2)
      obtain ⟨y, hy, hys⟩ := rows_at HQ.out.1 (k := H1) (by omega)
      obtain ⟨g', e1, e2, zg, hgc, hgf⟩ := HQ.out.2.1.some_ (by omega)
      injection e1 with e1; injection e1 with e1; subst e1
      obtain ⟨ys, yA, yc, yB, yd⟩ := y
      simp only at hys
      have yb := HQ.out.2.2.1 _ (List.mem_of_getElem? hy)
      simp only at yb
      have d0 := hgc _ _ (srcs_get hy).1
      have d1 := hgc _ _ (srcs_get hy).2
      simp only at d0 d1
      have hlen := stN_lens p l s H1
      rw [← hys] at hlen
      obtain ⟨N, hN⟩ : ∃ N, N = s.brash.length := ⟨_, rfl⟩
      obtain ⟨M, hM⟩ : ∃ N, N = s.busy.length := ⟨_, rfl⟩
      rw [hlen.1, ← hN] at d0
      rw [hlen.2, ← hM] at d1
      have hN1 : 1 ≤ N ∧ N ≤ 6 ∧ N ≤ cr ∧ N ≤ yc := by have := yb.c1.1; have := HS.out.2.2.1; omega
      have hM1 : 1 ≤ M ∧ M ≤ 4 ∧ M ≤ cu ∧ M ≤ yd := by have := yb.c2.1; have := HS.out.2.2.2.1; omega
      have O2 := O1.out.below HQ.out.2.2.2.2
      have HY := Lib.hid (And.intro yb (And.intro hys (And.intro hlen (And.intro hN (And.intro hM O2)))))
      have zw := HQ.out.2.2.2.2.size
      clear yb hys hy hgc hgf hlen hN hM O2
      go_upto_region 8 with fail
      obtain ⟨w3, hw3⟩ : ∃ X, X = w2.alloc (.cells #[.slice yA N yc, .slice yB M yd] 81) := ⟨_, rfl⟩
      obtain ⟨eb, heb⟩ : ∃ b, b = w2.heap.size := ⟨_, rfl⟩
      rw [← hw3, ← heb]
      have hh3 : w3.heap[eb]? = some (.cells #[.slice yA N yc, .slice yB M yd] 81 (0, 0)) := by rw [hw3, heb]; exact heap_alloc_new _ _
      have b23 : Below w2.heap.size w2 w3 := by rw [hw3]; exact (Below.refl _ _).alloc (Nat.le_refl _) _
      have yb3 := (HY.out.1.below b23)
      have O3 := HY.out.2.2.2.2.2.below b23
      have H3 := Lib.hid (And.intro hh3 (And.intro yb3 (And.intro O3 b23)))
      have hDw3 : w2.heap.size ≤ w3.heap.size := b23.size
      clear hw3 heb hh3 b23 yb3 O3 d0 d1
      have cells3 : ∀ wx, Below w3.heap.size w3 wx → wx.cell? ⟨sb, 0, none⟩ = some (.slice Ar N cr) ∧ wx.cell? ⟨sb, 1, none⟩ = some (.slice Au M cu) ∧ wx.cell? ⟨eb, 0, none⟩ = some (.slice yA N yc) ∧ wx.cell? ⟨eb, 1, none⟩ = some (.slice yB M yd) ∧ sb < wx.heap.size ∧ eb < wx.heap.size ∧ SttB D wx Ar cr Au cu s ∧ SttB w2.heap.size wx yA yc yB yd ys ∧ Below w.heap.size w wx := fun wx hb => by
        have O := H3.out.2.2.1.below hb
        have h1 := O.heap 1 rfl
        have h2 := (hb.block _ (heap_lt H3.out.1)).trans H3.out.1
        refine ⟨?_, ?_, (cell_of_heap h2 0).trans rfl, (cell_of_heap h2 1).trans rfl, heap_lt h1, heap_lt h2, H.out.2.2.2.2.1.below (O.bel.mono hD), H3.out.2.1.below (hb.mono hDw3), O.bel⟩
        · rw [HY.out.2.2.2.1]; exact (cell_of_heap h1 0).trans rfl
        · rw [HY.out.2.2.2.2.1]; exact (cell_of_heap h1 1).trans rfl
      have HX := Lib.hid cells3
      clear cells3
      obtain ⟨c2, c3, e0, e1, z1, ze, -, -, -⟩ := HX.out w3 (Below.refl _ _)
      go_wp2_with fail
      clear c2 c3 e0 e1 z1 ze
      go_loopg [13] (N) (fun g i wr => ∃ k : Nat, g + k = N ∧ i = .int .i64 k ∧ keepN ys.brash s.brash k = true ∧ Below w3.heap.size w3 wr)
      case atStart => exact ⟨0, rfl, rfl, rfl, Below.refl _ _⟩
      case round =>
        obtain ⟨k, hk, rfl, hkn, hbr⟩ := hrel
        obtain ⟨c2, c3, e0, e1, z1, ze, SB, YB, bw⟩ := HX.out wr hbr
        have HK := Lib.hid (And.intro hkn (And.intro hbr bw))
        clear hkn hbr bw
        by_cases hlt : k < N
        · obtain ⟨x, hx⟩ : ∃ x, x = ys.brash.getD k 0 := ⟨_, rfl⟩
          obtain ⟨y, hy⟩ : ∃ y, y = s.brash.getD k 0 := ⟨_, rfl⟩
          obtain ⟨b1, o1, hA1, hb1, hc1⟩ := YB.br.2 (by have := HY.out; omega)
          obtain ⟨b2, o2, hA2, hb2, hc2⟩ := SB.br.2 (by have := HY.out; omega)
          have p1 : wr.cell? ⟨b1, o1 + k, none⟩ = some (.int .i64 x) := by rw [hx]; exact hc1 k _ (ints_get (by have := HY.out; omega))
          have p2 : wr.cell? ⟨b2, o2 + k, none⟩ = some (.int .i64 y) := by rw [hy]; exact hc2 k _ (ints_get (by have := HY.out; omega))
          rw [hA1] at e0
          rw [hA2] at c2
          have z2 := World.block_lt_of_cell? _ _ p1
          have z3 := World.block_lt_of_cell? _ _ p2
          simp only at z2 z3
          have hkI : (0 : Int) ≤ (k : Int) ∧ (k : Int) < (N : Int) := by omega
          have HXY := Lib.hid (And.intro hx hy)
          clear hx hy hA1 hA2 hb1 hb2 hc1 hc2 SB YB
          by_cases hle : x ≤ y
          · have hd : decide (x > y) = false := by simpa using hle
            go_upto_region 11 with fail
            go_quiet (fail)
            go_wp2_with fail
            go_roundg (gk - 1)
            case measure => omega
            case rel => exact ⟨k + 1, by omega, by go_num, by rw [keepN_succ, HK.out.1, ← HXY.out.1, ← HXY.out.2, decide_eq_true hle]; rfl, belowK_drewN HK.out.2.1 _⟩
          · have hd : decide (x > y) = true := by simpa using hle
            go_upto_region 11 with fail
            go_quiet (fail)
            go_wp2_with fail
            go_ret2
            refine rkeeps_yes HS.out.2.1 HR.out.2 ?_ (belowK_drewN HK.out.2.2 _)
            rw [HHr.out.symm, ← HY.out.2.1, keepN_no (k := k) (by have := HY.out.2.2.2.1; have := HS.out.2.2.1; omega) (by rw [← HXY.out.1, ← HXY.out.2]; omega), Bool.and_false]
        · obtain rfl : k = N := by omega
          clear SB YB
          go_wp2_with fail
          clear c2 c3 e0 e1 z1 ze
          obtain ⟨G1, rfl⟩ : ∃ G, G = gk := ⟨_, rfl⟩
          go_loopg [14] (M) (fun g i wx => ∃ j : Nat, g + j = M ∧ i = .int .i64 j ∧ ys.busy.take j = s.busy.take j ∧ Below w3.heap.size w3 wx)
          case atStart => exact ⟨0, rfl, rfl, by simp, HK.out.2.1⟩
          case round =>
            obtain ⟨j, hj, rfl, hjn, hbr⟩ := hrel
            obtain ⟨c2, c3, e0, e1, z1, ze, SB, YB, bw⟩ := HX.out _ hbr
            have HJ := Lib.hid (And.intro hjn (And.intro hbr bw))
            clear hjn hbr bw
            have hbm : ys.busy.length = M ∧ s.busy.length = M := by have := HY.out; omega
            by_cases hlj : j < M
            · obtain ⟨x, hx⟩ : ∃ x, x = ys.busy.getD j false := ⟨_, rfl⟩
              obtain ⟨y, hy⟩ : ∃ y, y = s.busy.getD j false := ⟨_, rfl⟩
              obtain ⟨b1, o1, hA1, hb1, hc1⟩ := YB.bu.2 (by omega)
              obtain ⟨b2, o2, hA2, hb2, hc2⟩ := SB.bu.2 (by omega)
              have p1 : wr.cell? ⟨b1, o1 + j, none⟩ = some (.bool x) := by rw [hx]; exact hc1 j _ (bools_get (by omega))
              have p2 : wr.cell? ⟨b2, o2 + j, none⟩ = some (.bool y) := by rw [hy]; exact hc2 j _ (bools_get (by omega))
              rw [hA1] at e1
              rw [hA2] at c3
              have z2 := World.block_lt_of_cell? _ _ p1
              have z3 := World.block_lt_of_cell? _ _ p2
              simp only at z2 z3
              have hjI : (0 : Int) ≤ (j : Int) ∧ (j : Int) < (M : Int) := by omega
              have hx' : x = ys.busy[j]'(by omega) := by rw [hx]; simp [show j < ys.busy.length from by omega]
              have hy' : y = s.busy[j]'(by omega) := by rw [hy]; simp [show j < s.busy.length from by omega]
              have HXY := Lib.hid (And.intro hx' hy')
              clear hx hy hx' hy' hA1 hA2 hb1 hb2 hc1 hc2 SB YB
              by_cases hxy : x = y
              · subst hxy
                have hne : (x != x) = false := by simp
                go_upto_region 16 with fail
                go_quiet (fail)
                go_wp2_with fail
                go_roundg (gk - 1)
                case measure => omega
                case rel => exact ⟨j + 1, by omega, by go_num, by rw [List.take_succ_eq_append_getElem (by omega), List.take_succ_eq_append_getElem (by omega), HJ.out.1, ← HXY.out.1, ← HXY.out.2], belowK_drewN HJ.out.2.1 _⟩
              · obtain ⟨rfl, rfl⟩ | ⟨rfl, rfl⟩ : (x = false ∧ y = true) ∨ (x = true ∧ y = false) := by cases x <;> cases y <;> simp_all
                · have hbb : ¬ ys.busy = s.busy := fun h => hxy (by rw [HXY.out.1, HXY.out.2]; simp only [h])
                  have HBB := Lib.hid hbb
                  clear hbb
                  go_upto_region 16 with fail
                  go_quiet (fail)
                  go_wp2_with fail
                  go_ret2
                  refine rkeeps_yes HS.out.2.1 HR.out.2 ?_ (belowK_drewN HJ.out.2.2 _)
                  rw [HHr.out.symm, ← HY.out.2.1, decide_eq_false HBB.out, Bool.false_and]
                · have hbb : ¬ ys.busy = s.busy := fun h => hxy (by rw [HXY.out.1, HXY.out.2]; simp only [h])
                  have HBB := Lib.hid hbb
                  clear hbb
                  go_upto_region 16 with fail
                  go_quiet (fail)
                  go_wp2_with fail
                  go_ret2
                  refine rkeeps_yes HS.out.2.1 HR.out.2 ?_ (belowK_drewN HJ.out.2.2 _)
                  rw [HHr.out.symm, ← HY.out.2.1, decide_eq_false HBB.out, Bool.false_and]
            · obtain rfl : j = M := by omega
              clear SB YB
              go_wp2_with fail
              go_ret2
              refine rkeeps_yes HS.out.2.1 HR.out.2 ?_ HJ.out.2.2
              have hbb : ys.busy = s.busy := by
                have h := HJ.out.1
                rwa [List.take_of_length_le (by omega), List.take_of_length_le (by omega)] at h
              rw [HHr.out.symm, ← HY.out.2.1, decide_eq_true hbb, ← HS.out.2.2.1, ← HY.out.2.2.2.1, HK.out.1]; rfl
    · have ks := HS.out.1.mono fun e w' h => h.no hr
      obtain ⟨i0, hi0⟩ : ∃ x : Int, x = (runR p l s).1 := ⟨_, rfl⟩
      obtain ⟨e0, he0⟩ : ∃ x, x = (runR p l s).2 := ⟨_, rfl⟩
      rw [← hi0, ← he0] at ks
      have hne : (e0 != 0) = true := by rw [he0]; simpa using hr
      have HR := Lib.hid (And.intro ks hr)
      clear ks hr hi0 he0
      go_wp2_with (go_at_call 94; refine HR.out.1.mono ?_; rintro e w2 ⟨rfl, hb⟩; have HQ := Lib.hid hb; clear hb)
      go_ret2
      exact rkeeps_no2 HS.out.2.1 HR.out.2 (O1.out.below HQ.out).bel
  · have hne0 : (er != 0) = true := by simp [h0]
    go_wp2_with fail
    go_ret2
    exact rkeeps_no1 H.out.2.2.2.2.2.1.symm h0 O1.out.bel
end Go.Proofs.Ythmldeningpjbaa
