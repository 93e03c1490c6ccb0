/- port.Run (printed by wip/tools/ptrunf.py) -/
import Derived.Test.YthmldeningpjbaaPBp29
import Derived.Test.YthmldeningpjbaaPBp11
import Derived.Test.YthmldeningpjbaaPBp21
set_option linter.unusedVariables false
set_option linter.unusedSimpArgs false
namespace Go.Proofs.Ythmldeningpjbaa
open Go Go.RowKit Sp Pt
set_option linter.unusedVariables false
set_option linter.unusedSimpArgs false

theorem cbNothing (a : Array Value) (w : World) : (callFunc 74 a).run Try.prog w = .ok (.enter 74 a) w := by go_simp
def runE (p : Prt) (s : Stt) (l : Pln) : Int := if startE p s l ≠ 0 then startE p s l else (runR p l s).2
def runI (p : Prt) (s : Stt) (l : Pln) : Int := if startE p s l ≠ 0 then 0 else (runR p l s).1
def runV (p : Prt) (s : Stt) (l : Pln) : Stt := if runE p s l = 0 then stN p l s l.hours.toNat else ⟨[], []⟩
/-- in a block of its own -/
def FreshA (w : World) (A : Option Addr) : Prop := ∀ b o, A = some ⟨b, o, none⟩ → w.heap.size ≤ b
def RunsPost (w : World) (p : Prt) (s : Stt) (l : Pln) (e : Ending) (w' : World) : Prop :=
  ∃ A c B d, e = .returned (.tuple #[.agg (sttV A c B d (runV p s l)), .int .i64 (runI p s l), .int .i64 (runE p s l)]) ∧ SttB w'.heap.size w' A c B d (runV p s l) ∧ Below w.heap.size w w' ∧ FreshA w A ∧ FreshA w B
theorem stt_nil (w : World) (D : Nat) : SttB D w none 0 none 0 ⟨[], []⟩ := ⟨⟨rfl, fun h => absurd h (by decide)⟩, ⟨rfl, fun h => absurd h (by decide)⟩, ⟨Nat.le_refl _, by omega, fun _ => rfl⟩, ⟨Nat.le_refl _, by omega, fun _ => rfl⟩⟩
theorem stt_results {F : Func} {r s t : Nat} (hF : F.results = #[.cell r 42, .tmp s, .tmp t]) {W : World} {b : Nat} {A B : Option Addr} {n c m d : Nat} (h : W.heap[b]? = some (.cells #[.slice A n c, .slice B m d] 42 (0, 0))) (tmps : Array Value) (v u : Value) (hr : tmps.getD r undef = .pointer (some ⟨b, 0, none⟩)) (hs : tmps.getD s undef = v) (ht : tmps.getD t undef = u) :
    (results F tmps).run Try.prog W = .ok (.tuple #[.agg #[.slice A n c, .slice B m d], v, u]) W := by
  have g7 : tmps[r]?.getD undef = .pointer (some ⟨b, 0, none⟩) := by simpa using hr
  have g8 : tmps[s]?.getD undef = v := by simpa using hs
  have g9 : tmps[t]?.getD undef = u := by simpa using ht
  have c0 : W.cell? ⟨b, 0, none⟩ = some (.slice A n c) := (cell_of_heap h 0).trans rfl
  have c1 : W.cell? ⟨b, 1, none⟩ = some (.slice B m d) := (cell_of_heap h 1).trans rfl
  simp [results, hF, g7, g8, g9, asAddr, go_sem, c0, c1]
theorem wk_sttB {c : WC} {w : World} {s : Stt} (h : WkS c w w s) : SttB w.heap.size w (some ⟨c.gb, 0, none⟩) c.c1 (some ⟨c.ub, 0, none⟩) c.c2 s := by
  have hl := h.len
  have r1 := h.br.rd
  have r2 := h.bu.rd
  rw [← hl.1] at r1
  rw [← hl.2] at r2
  exact ⟨RdB.of r1 (Nat.le_refl _), RdB.of r2 (Nat.le_refl _), ⟨by rw [hl.1]; exact h.br.ge, h.br.cap, fun h => by cases h⟩, ⟨by rw [hl.2]; exact h.bu.ge, h.bu.cap, fun h => by cases h⟩⟩
theorem start_bd {p : Prt} {s : Stt} {l : Pln} (h : startE p s l = 0) : checkL p l = 0 ∧ s.brash.length = p.chs.length ∧ s.busy.length = p.bts.length ∧ (∀ x ∈ s.brash, 0 ≤ x ∧ x ≤ 1000000) := by
  unfold startE at h
  split at h
  · rename_i h1; exact absurd h h1
  · split at h
    · cases h
    · rename_i h1 h2
      have h3 : s.brash.length = p.chs.length ∧ s.busy.length = p.bts.length ∧ s.brash.any (fun n => !within n 0 1000000) = false := by
        refine ⟨Classical.byContradiction fun q => h2 (.inl q), Classical.byContradiction fun q => h2 (.inr (.inl q)), ?_⟩
        cases q : s.brash.any (fun n => !within n 0 1000000) with
        | false => rfl
        | true => exact absurd (.inr (.inr q)) h2
      refine ⟨by simpa using h1, h3.1, h3.2.1, fun x hx => ?_⟩
      have : (!within x 0 1000000) = false := by
        cases q : !within x 0 1000000 with
        | false => rfl
        | true => rw [List.any_eq_true.2 ⟨x, hx, q⟩] at h3; exact absurd h3.2.2 (by decide)
      simpa [within] using this
theorem brR_of {b : List Int} {B : Int} (hB : 0 ≤ B) (h : ∀ x ∈ b, 0 ≤ x ∧ x ≤ B) : brR B b := fun c => by
  unfold getI
  rw [List.getD_eq_getElem?_getD]
  cases hc : b[c.toNat]? with
  | none => simpa using (by omega : -B ≤ 0 ∧ 0 ≤ B)
  | some x => have := h x (List.mem_of_getElem? hc); simpa using (by omega : -B ≤ x ∧ x ≤ B)

set_option linter.unusedVariables false
def RfV (W0 : World) (wb rb n c1 m c2 : Nat) (gb ub : Nat) (i : Int) : Nat → Value → Prop
  | 0, v => v = .pointer (some ⟨wb, 0, none⟩)
  | 1, v => v = .pointer (some ⟨wb, 0, none⟩)
  | 2, v => v = .pointer (some ⟨wb, 2, none⟩)
  | 3, v => v = .slice (some ⟨gb, 0, none⟩) n c1
  | 4, v => v = .pointer (some ⟨wb, 0, none⟩)
  | 5, v => v = .pointer (some ⟨wb, 0, none⟩)
  | 6, v => v = .pointer (some ⟨wb, 3, none⟩)
  | 7, v => v = .slice (some ⟨ub, 0, none⟩) m c2
  | 8, v => v = .agg #[.slice (some ⟨gb, 0, none⟩) n c1, .slice (some ⟨ub, 0, none⟩) m c2]
  | 9, v => v = .int .i64 i
  | 11, v => v = .int .i64 i
  | 12, v => v = .int .i64 0
  | _, _ => True
def RfW (W0 : World) (wb rb n c1 m c2 : Nat) (gb ub : Nat) (i : Int) (l : Nat → Bool) (w : World) : Prop := if l 10 then w = ((W0.setCell ⟨rb, 0, none⟩ (.slice (some ⟨gb, 0, none⟩) n c1)).setCell ⟨rb, 1, none⟩ (.slice (some ⟨ub, 0, none⟩) m c2)).drew else w = W0.drew

set_option maxRecDepth 100000 in
set_option maxHeartbeats 4000000 in
theorem Run_any (D : Nat) (Ac : Option Addr) (cc : Nat) (Ab : Option Addr) (cb : Nat) (p : Prt) (Al : Option Addr) (cl : Nat) (As : Option Addr) (cs : Nat) (l : Pln) (Ar : Option Addr) (cr : Nat) (Au : Option Addr) (cu : Nat) (s : Stt) (w : World)
    (PB : PrtB D w Ac cc Ab cb p) (LB : PlnB D w Al cl As cs l) (SB : SttB D w Ar cr Au cu s) (hD : D ≤ w.heap.size) :
    Calls Try.prog 19 #[.agg (prtV Ac cc Ab cb p), .agg (sttV Ar cr Au cu s), .agg (plnV Al cl As cs l)] w (RunsPost w p s l) := by
  obtain ⟨W, hW⟩ : ∃ W, W = (((w.alloc (.cells (prtV Ac cc Ab cb p) 26)).alloc (.cells (sttV Ar cr Au cu s) 42)).alloc (.cells (plnV Al cl As cs l) 31)).alloc (.cells #[.slice none 0 0, .slice none 0 0] 42) := ⟨_, rfl⟩
  have b0 : Below w.heap.size w W := by rw [hW]; exact ((((Below.refl _ _).alloc (Nat.le_refl _) _).alloc (by simp) _).alloc (by simp; omega) _).alloc (by simp; omega) _
  obtain ⟨pb, hpb⟩ : ∃ b, b = w.heap.size := ⟨_, rfl⟩
  obtain ⟨sb, hsb⟩ : ∃ b, b = w.heap.size + 1 := ⟨_, rfl⟩
  obtain ⟨lb, hlb⟩ : ∃ b, b = w.heap.size + 1 + 1 := ⟨_, rfl⟩
  obtain ⟨rb, hrb⟩ : ∃ b, b = w.heap.size + 1 + 1 + 1 := ⟨_, rfl⟩
  have hp : W.heap[pb]? = some (.cells (prtV Ac cc Ab cb p) 26 (0, 0)) := by rw [hW, hpb]; exact heap_alloc' (heap_alloc' (heap_alloc' (heap_alloc_new _ _) _) _) _
  have hs : W.heap[sb]? = some (.cells (sttV Ar cr Au cu s) 42 (0, 0)) := by
    rw [hW, hsb]
    refine heap_alloc' (heap_alloc' ?_ _) _
    have := heap_alloc_new (w.alloc (.cells (prtV Ac cc Ab cb p) 26)) (.cells (sttV Ar cr Au cu s) 42)
    rwa [World.size_alloc] at this
  have hl : W.heap[lb]? = some (.cells (plnV Al cl As cs l) 31 (0, 0)) := by
    rw [hW, hlb]
    refine heap_alloc' ?_ _
    have := heap_alloc_new ((w.alloc (.cells (prtV Ac cc Ab cb p) 26)).alloc (.cells (sttV Ar cr Au cu s) 42)) (.cells (plnV Al cl As cs l) 31)
    rwa [World.size_alloc, World.size_alloc] at this
  have hr : W.heap[rb]? = some (.cells #[.slice none 0 0, .slice none 0 0] 42 (0, 0)) := by
    rw [hW, hrb]
    have := heap_alloc_new (((w.alloc (.cells (prtV Ac cc Ab cb p) 26)).alloc (.cells (sttV Ar cr Au cu s) 42)).alloc (.cells (plnV Al cl As cs l) 31)) (.cells #[.slice none 0 0, .slice none 0 0] 42)
    rwa [World.size_alloc, World.size_alloc, World.size_alloc] at this
  have kst := start_any D Ac cc Ab cb p Al cl As cs l Ar cr Au cu s W (PB.below (b0.mono hD)) (LB.below (b0.mono hD)) (SB.below (b0.mono hD)) (by have := b0.size; omega)
  have c0 : W.cell? ⟨pb, 0, none⟩ = some (.slice Ac p.chs.length cc) := (cell_of_heap hp 0).trans rfl
  have c1 : W.cell? ⟨pb, 1, none⟩ = some (.slice Ab p.bts.length cb) := (cell_of_heap hp 1).trans rfl
  have c2 : W.cell? ⟨pb, 2, none⟩ = some (.int .i64 p.tugs) := (cell_of_heap hp 2).trans rfl
  have c3 : W.cell? ⟨lb, 0, none⟩ = some (.int .i64 l.hours) := (cell_of_heap hl 0).trans rfl
  have c4 : W.cell? ⟨lb, 1, none⟩ = some (.slice Al l.calls.length cl) := (cell_of_heap hl 1).trans rfl
  have c5 : W.cell? ⟨lb, 2, none⟩ = some (.slice As l.swps.length cs) := (cell_of_heap hl 2).trans rfl
  have c6 : W.cell? ⟨sb, 0, none⟩ = some (.slice Ar s.brash.length cr) := (cell_of_heap hs 0).trans rfl
  have c7 : W.cell? ⟨sb, 1, none⟩ = some (.slice Au s.busy.length cu) := (cell_of_heap hs 1).trans rfl
  have zp := heap_lt hp
  have zl := heap_lt hl
  have zs := heap_lt hs
  have hrw : w.heap.size ≤ rb := by omega
  have H := Lib.hid (And.intro b0 (And.intro hr kst))
  clear b0 hp hs hl hr kst
  go_enter Try.func19, Try.ntmps19
  go_upto_region 1 with fail
  rw [← hW, ← hrb, ← hlb, ← hsb, ← hpb]
  clear hW hlb hsb hpb hrb
  go_wp2_with fail
  refine H.out.2.2.mono ?_
  rintro e w1 ⟨b1, hcase⟩
  have hr1 := (b1.block _ (heap_lt H.out.2.1)).trans H.out.2.1
  have bw1 : Below w.heap.size w w1 := H.out.1.trans (b1.mono H.out.1.size)
  clear c0 c1 c2 c3 c4 c5 c6 c7 zp zl zs
  rcases hcase with ⟨hne, rfl⟩ | ⟨he, c, hM, hS, rfl⟩
  · have f0 := frozen_of_heap hr1 0
    have f1 := frozen_of_heap hr1 1
    have d0 := (cell_of_heap hr1 0).trans rfl
    have d1 := (cell_of_heap hr1 1).trans rfl
    have zr := heap_lt hr1
    obtain ⟨er, her⟩ : ∃ er, er = startE p s l := ⟨_, rfl⟩
    rw [← her] at hne ⊢
    have hnb : (er != 0) = true := by simpa using hne
    have hv : runE p s l = er ∧ runI p s l = 0 := by unfold runE runI; rw [if_pos (by rw [← her]; exact hne), if_pos (by rw [← her]; exact hne), her]; exact ⟨rfl, rfl⟩
    have hvv : runV p s l = ⟨[], []⟩ := by unfold runV; rw [if_neg (by rw [hv.1]; exact hne)]
    have HF := Lib.hid (And.intro hv.1 (And.intro hv.2 (And.intro hvv (And.intro hr1 bw1))))
    clear hv hvv hr1 bw1 her hne b1
    go_wp2_with fail
    refine bodyPost_ret (stt_results rfl (heap_set (heap_set HF.out.2.2.2.1 0 (.slice none 0 0)) 1 (.slice none 0 0)) _ _ _ rfl rfl rfl) rfl ?_
    refine ⟨none, 0, none, 0, ?_, ?_, (HF.out.2.2.2.2.setCell hrw _).setCell hrw _, (fun _ _ h => by cases h), (fun _ _ h => by cases h)⟩
    · rw [HF.out.1, HF.out.2.1, HF.out.2.2.1]; rfl
    · rw [HF.out.2.2.1]; exact stt_nil _ _
  · obtain ⟨hc, hlen1, hlen2, hbr⟩ := start_bd he
    obtain ⟨q1, q2, q3, q4, q5, q6, q7, q8, q9, q10, q11⟩ := hM.eq
    have v : Val c.p c.l := by rw [q6, q11]; exact val_of hc
    have krun := run_any hM.E hM.N hS v (brR_of (by decide) hbr) 74 74 #[] #[] cbNothing cbNothing [] (by simp) (fun _ _ => True) (fun _ _ => True) (fun _ _ => True) trivial
      (fun k w _ _ _ _ _ => (nothing_any _ _).mono fun e w' h => ⟨h.1, ⟨[], by rw [← h.2]; exact Keep.refl _ _, by simp⟩, trivial⟩) (fun k w _ _ _ _ _ => (nothing_any _ _).mono fun e w' h => ⟨h.1, ⟨[], by rw [← h.2]; exact Keep.refl _ _, by simp⟩, trivial⟩) (fun _ _ _ _ _ => trivial) (fun _ _ _ _ _ => trivial)
    have hrn : rb ≠ c.gb ∧ rb ≠ c.ub ∧ rb ≠ c.wb := by have := hM.new; have := heap_lt H.out.2.1; omega
    have hg := hM.new
    obtain ⟨R, hR⟩ : ∃ R, R = runR p l s := ⟨_, rfl⟩
    have HM := Lib.hid (And.intro hM (And.intro krun (And.intro he (And.intro hr1 (And.intro bw1 (And.intro q6 (And.intro q11 hR)))))))
    clear hM krun he hr1 bw1 hS v hc hbr hlen1 hlen2 q1 q2 q3 q4 q5 q6 q7 q8 q9 q10 q11 b1 hR
    go_wp2_with fail
    refine HM.out.2.1.mono ?_
    rintro e w3 ⟨rfl, kp, hok⟩
    rw [HM.out.2.2.2.2.2.1, HM.out.2.2.2.2.2.2.1, ← HM.out.2.2.2.2.2.2.2] at hok ⊢
    have hr3 := (kp.block rb (heap_lt HM.out.2.2.2.1) (by simp; exact ⟨hrn.1, hrn.2.1⟩)).trans HM.out.2.2.2.1
    have hWs := H.out.1.size
    have bw3 : Below w.heap.size w w3 := HM.out.2.2.2.2.1.trans (kp.below HM.out.2.2.2.2.1.size (by simp; omega))
    have f0 := frozen_of_heap hr3 0
    have f1 := frozen_of_heap hr3 1
    have d0 := (cell_of_heap hr3 0).trans rfl
    have d1 := (cell_of_heap hr3 1).trans rfl
    have zr := heap_lt hr3
    obtain ⟨i, er⟩ := R
    have hrr : runR p l s = (i, er) := HM.out.2.2.2.2.2.2.2.symm
    have hv : runE p s l = er ∧ runI p s l = i := by unfold runE runI; rw [if_neg (by rw [HM.out.2.2.1]; simp), if_neg (by rw [HM.out.2.2.1]; simp), hrr]; exact ⟨rfl, rfl⟩
    by_cases her : er = 0
    · subst her
      have hvv : runV p s l = stN p l s l.hours.toNat := by unfold runV; rw [if_pos hv.1]
      obtain ⟨S3, _⟩ := hok rfl
      have E3 := HM.out.1.E.keep kp (by have := HM.out.1.N.g; have := HM.out.1.N.u; simp; omega)
      obtain ⟨_, _, q2, q3, _, _, _, _, _, z1, _, _⟩ := E3.cells
      obtain ⟨n, hn⟩ : ∃ n, n = c.p.chs.length := ⟨_, rfl⟩
      obtain ⟨m, hm⟩ : ∃ m, m = c.p.bts.length := ⟨_, rfl⟩
      have hbr : brV c = .slice (some ⟨c.gb, 0, none⟩) n c.c1 := by rw [hn]
      have hbu : buV c = .slice (some ⟨c.ub, 0, none⟩) m c.c2 := by rw [hm]
      rw [hbr] at q2
      rw [hbu] at q3
      have hl3 := S3.len
      have HF := Lib.hid (And.intro hv.1 (And.intro hv.2 (And.intro hvv (And.intro hr3 (And.intro bw3 (And.intro S3 (And.intro hn hm)))))))
      clear hv hvv hr3 bw3 S3 E3 hn hm hbr hbu hok kp hrr hl3
      go_upto_region 7 with fail
      refine wp_region_steps (σ := Unit) (by kernel_rfl) (by kernel_rfl) (fun _ jx vx _ => RfV w3 c.wb rb n c.c1 m c.c2 c.gb c.ub i jx vx) (fun _ ly wx => RfW w3 c.wb rb n c.c1 m c.c2 c.gb c.ub i ly wx) () ?_ ?_ ?_
      · exact (by unfold RfW; rw [if_neg (by simp)])
      · simp only [AllFrom, Nat.zero_add, Nat.reduceAdd]
        refine ⟨?_, ?_, ?_, ?_, ?_, ?_, ?_, ?_, ?_, ?_, ?_, ?_, ?_, trivial⟩
        · refine step_pure fun sg ly a wr hl hd hW hF => ?_
          have et9 := hF.old 9 (by kernel_rfl)
          simp [Act.eval] at et9
          exact ⟨by simpa [RfW, upd] using hW, .pointer (some ⟨c.wb, 0, none⟩), by go_simp, rfl⟩
        · refine step_pure fun sg ly a wr hl hd hW hF => ?_
          simp [Region.binds] at hd
          have et33 := hF.new 0 33 (by simp [hd]) rfl
          simp [RfV, Act.eval] at et33
          exact ⟨by simpa [RfW, upd] using hW, .pointer (some ⟨c.wb, 0, none⟩), by go_simp, rfl⟩
        · refine step_pure fun sg ly a wr hl hd hW hF => ?_
          simp [Region.binds] at hd
          have et34 := hF.new 1 34 (by simp [hd]) rfl
          simp [RfV, Act.eval] at et34
          exact ⟨by simpa [RfW, upd] using hW, .pointer (some ⟨c.wb, 2, none⟩), by go_simp, rfl⟩
        · refine step_pure fun sg ly a wr hl hd hW hF => ?_
          simp [Region.binds] at hd
          have et35 := hF.new 2 35 (by simp [hd]) rfl
          simp [RfV, Act.eval] at et35
          have nL_8 := hF.notYet 3 8 hl (by kernel_rfl)
          have nL := hF.notYet 8 10 nL_8 (by kernel_rfl)
          have hW' := hW
          unfold RfW at hW'
          rw [if_neg (by simp [nL])] at hW'
          subst hW'
          exact ⟨by unfold RfW; rw [if_neg (by simp [upd, nL])], _, by go_simp, rfl⟩
        · refine step_pure fun sg ly a wr hl hd hW hF => ?_
          have et9 := hF.old 9 (by kernel_rfl)
          simp [Act.eval] at et9
          exact ⟨by simpa [RfW, upd] using hW, .pointer (some ⟨c.wb, 0, none⟩), by go_simp, rfl⟩
        · refine step_pure fun sg ly a wr hl hd hW hF => ?_
          simp [Region.binds] at hd
          have et37 := hF.new 4 37 (by simp [hd]) rfl
          simp [RfV, Act.eval] at et37
          exact ⟨by simpa [RfW, upd] using hW, .pointer (some ⟨c.wb, 0, none⟩), by go_simp, rfl⟩
        · refine step_pure fun sg ly a wr hl hd hW hF => ?_
          simp [Region.binds] at hd
          have et38 := hF.new 5 38 (by simp [hd]) rfl
          simp [RfV, Act.eval] at et38
          exact ⟨by simpa [RfW, upd] using hW, .pointer (some ⟨c.wb, 3, none⟩), by go_simp, rfl⟩
        · refine step_pure fun sg ly a wr hl hd hW hF => ?_
          simp [Region.binds] at hd
          have et39 := hF.new 6 39 (by simp [hd]) rfl
          simp [RfV, Act.eval] at et39
          have nL_8 := hF.notYet 7 8 hl (by kernel_rfl)
          have nL := hF.notYet 8 10 nL_8 (by kernel_rfl)
          have hW' := hW
          unfold RfW at hW'
          rw [if_neg (by simp [nL])] at hW'
          subst hW'
          exact ⟨by unfold RfW; rw [if_neg (by simp [upd, nL])], _, by go_simp, rfl⟩
        · refine step_pure fun sg ly a wr hl hd hW hF => ?_
          simp [Region.binds] at hd
          have et36 := hF.new 3 36 (by simp [hd]) rfl
          simp [RfV, Act.eval] at et36
          have et40 := hF.new 7 40 (by simp [hd]) rfl
          simp [RfV, Act.eval] at et40
          exact ⟨by simpa [RfW, upd] using hW, .agg #[.slice (some ⟨c.gb, 0, none⟩) n c.c1, .slice (some ⟨c.ub, 0, none⟩) m c.c2], by go_simp, rfl⟩
        · refine step_pure fun sg ly a wr hl hd hW hF => ?_
          have et11 := hF.old 11 (by kernel_rfl)
          simp [Act.eval] at et11
          exact ⟨by simpa [RfW, upd] using hW, .int .i64 i, by go_simp, rfl⟩
        · refine step_store rfl fun sg ly a wr hl hd hW hF => ?_
          simp [Region.binds] at hd
          have et6 := hF.old 6 (by kernel_rfl)
          simp [Act.eval] at et6
          have et41 := hF.new 8 41 (by simp [hd]) rfl
          simp [RfV, Act.eval] at et41
          have hW' := hW
          unfold RfW at hW'
          rw [if_neg (by simp [hl])] at hW'
          subst hW'
          refine ⟨((w3.setCell ⟨rb, 0, none⟩ (.slice (some ⟨c.gb, 0, none⟩) n c.c1)).setCell ⟨rb, 1, none⟩ (.slice (some ⟨c.ub, 0, none⟩) m c.c2)).drew, (), .skip, by go_simp, .inl rfl, by unfold RfW; rw [if_pos (by simp [upd])], fun _ _ _ h => h⟩
        · refine step_pure fun sg ly a wr hl hd hW hF => ?_
          simp [Region.binds] at hd
          have et42 := hF.new 9 42 (by simp [hd]) rfl
          simp [RfV, Act.eval] at et42
          exact ⟨by simpa [RfW, upd] using hW, .int .i64 i, by go_simp, rfl⟩
        · refine step_pure fun sg ly a wr hl hd hW hF => ?_
          exact ⟨by simpa [RfW, upd] using hW, .int .i64 0, by go_simp, rfl⟩
      intro _ a w5 hWW hF
      have e7 := hF.new 11 7 (by decide) rfl
      have e8 := hF.new 12 8 (by decide) rfl
      obtain ⟨f3, hf3, rfl⟩ := hF.lit
      rw [← hf3] at e7 e8
      simp only [RfV] at e7 e8
      have hw5 : w5 = ((w3.setCell ⟨rb, 0, none⟩ (.slice (some ⟨c.gb, 0, none⟩) n c.c1)).setCell ⟨rb, 1, none⟩ (.slice (some ⟨c.ub, 0, none⟩) m c.c2)).drew := by
        have h5 := hWW
        unfold RfW at h5
        rwa [if_pos (by simp)] at h5
      clear hf3 hF hWW
      simp only [List.filterMap, List.foldl, List.setIfInBounds_toArray, List.set_cons_succ, List.set_cons_zero, e7, e8]
      clear e7 e8
      have hr5 : w5.heap[rb]? = some (.cells #[.slice (some ⟨c.gb, 0, none⟩) n c.c1, .slice (some ⟨c.ub, 0, none⟩) m c.c2] 42 (0, 0)) := by rw [hw5]; exact heap_set (heap_set HF.out.2.2.2.1 0 _) 1 _
      have kp5 : Keep [rb] w3 w5 := by rw [hw5]; exact (((Keep.refl _ _).setCell (.inl (by simp)) _).setCell (.inl (by simp)) _).drew
      have S5 : WkS c w5 w5 (stN p l s l.hours.toNat) := ⟨Keep.refl _ _, HF.out.2.2.2.2.2.1.br.keepS kp5 (by simpa using hrn.1.symm), HF.out.2.2.2.2.2.1.bu.keepS kp5 (by simpa using hrn.2.1.symm)⟩
      have H5 := Lib.hid (And.intro hr5 (And.intro kp5 S5))
      clear hw5 hr5 kp5 S5
      go_wp2_with fail
      refine bodyPost_ret (stt_results rfl H5.out.1 _ _ _ rfl rfl rfl) rfl ?_
      have hl5 := H5.out.2.2.len
      refine ⟨some ⟨c.gb, 0, none⟩, c.c1, some ⟨c.ub, 0, none⟩, c.c2, ?_, ?_, HF.out.2.2.2.2.1.trans (H5.out.2.1.below HF.out.2.2.2.2.1.size (by simpa using hrw)), (fun b o h => by injection h with h; injection h with h _ _; omega), (fun b o h => by injection h with h; injection h with h _ _; omega)⟩
      · rw [HF.out.1, HF.out.2.1, HF.out.2.2.1]
        simp only [sttV]
        rw [hl5.1, hl5.2, ← HF.out.2.2.2.2.2.2.1, ← HF.out.2.2.2.2.2.2.2]; rfl
      · rw [HF.out.2.2.1]; exact wk_sttB H5.out.2.2
    · have hnb : (er != 0) = true := by simpa using her
      have hvv : runV p s l = ⟨[], []⟩ := by unfold runV; rw [if_neg (by rw [hv.1]; exact her)]
      have HF := Lib.hid (And.intro hv.1 (And.intro hv.2 (And.intro hvv (And.intro hr3 bw3))))
      clear hv hvv hr3 bw3 her hok kp hrr
      go_wp2_with fail
      refine bodyPost_ret (stt_results rfl (heap_set (heap_set HF.out.2.2.2.1 0 (.slice none 0 0)) 1 (.slice none 0 0)) _ _ _ rfl rfl rfl) rfl ?_
      refine ⟨none, 0, none, 0, ?_, ?_, (HF.out.2.2.2.2.setCell hrw _).setCell hrw _, (fun _ _ h => by cases h), (fun _ _ h => by cases h)⟩
      · rw [HF.out.1, HF.out.2.1, HF.out.2.2.1]; rfl
      · rw [HF.out.2.2.1]; exact stt_nil _ _
end Go.Proofs.Ythmldeningpjbaa
/- port.Trace: the function that is told of each hour (printed by wip/tools/pttrace.py) -/
namespace Go.Proofs.Ythmldeningpjbaa
open Go Go.RowKit Go.Lib Sp Pt
set_option linter.unusedVariables false
set_option linter.unusedSimpArgs false

theorem infoRow : (Try.prog.info? 33).map (fun i => (i.zero, i.size, i.bytes)) = some (some (.slice none 0 0), 1, 24) := by kernel_rfl
/-- a list in a list of lists -/
structure LRow where
  A : Option Addr
  c : Nat
  l : List Int
  q : List Nat
def LRow.v (r : LRow) : Value := .slice r.A r.l.length r.c
def LRow.it (r : LRow) : It := .own 3 1 r.A r.l.length r.c (ints r.l) r.q
structure TrS where
  bs : Nat
  A : Option Addr
  c : Nat
  g : Nat
  rA : Option Addr
  rc : Nat
  rq : List Nat
structure TrW (W0 : World) (tb k : Nat) (A : Option Addr) (c : Nat) (xs : List Value) (q : List Nat) (row : List Int) (s : TrS) (l : Nat → Bool) (w : World) : Prop where
  kp : Keep (tb :: q) W0 w
  own0 : l 7 = false → OwnS w 33 1 A k c xs q
  own1 : l 7 = true → OwnS w 33 1 s.A (k + 1) s.c (xs ++ [.slice s.rA row.length s.rc]) [s.g] ∧ (s.g ∈ q ∨ W0.heap.size ≤ s.g) ∧ s.g ∉ s.rq
  hob : w.heap[tb]? = some (.cells (if l 8 then #[.slice s.A (k + 1) s.c] else #[.slice A k c]) 66 (0, 0))
  hbs : l 6 = true → W0.heap.size ≤ s.bs ∧ w.heap[s.bs]? = some (.cells #[.slice s.rA row.length s.rc] 33 (0, 0)) ∧ s.bs ∉ s.rq
  row : l 5 = true → OwnS w 3 1 s.rA row.length s.rc (ints row) s.rq ∧ ∀ x ∈ s.rq, W0.heap.size ≤ x
  nq : tb ∉ q ∧ tb < W0.heap.size ∧ ∀ x ∈ q, x < W0.heap.size
section
variable {W0 : World} {tb k : Nat} {A : Option Addr} {c : Nat} {xs : List Value} {q : List Nat} {row : List Int} {s : TrS} {l : Nat → Bool} {w w' : World}
theorem TrW.other (H : TrW W0 tb k A c xs q row s l w) (i : Nat) (hi : i ≠ 5 ∧ i ≠ 6 ∧ i ≠ 7 ∧ i ≠ 8) : TrW W0 tb k A c xs q row s (upd l i) w := by
  obtain ⟨a1, a2, a3, a4⟩ := hi
  exact ⟨H.kp, by rw [upd_ne a3]; exact H.own0, by rw [upd_ne a3]; exact H.own1, by rw [upd_ne a4]; exact H.hob, by rw [upd_ne a2]; exact H.hbs, by rw [upd_ne a1]; exact H.row, H.nq⟩
theorem TrW.clone (H : TrW W0 tb k A c xs q row s l w) (h6 : l 6 = false) (h7 : l 7 = false) (h8 : l 8 = false) {A' : Option Addr} {c' : Nat} {q' : List Nat} (ho : OwnS w' 3 1 A' row.length c' (ints row) q') (hq : ∀ g ∈ q', w.heap.size ≤ g) (hb : Below w.heap.size w w') :
    TrW W0 tb k A c xs q row { s with rA := A', rc := c', rq := q' } (upd l 5) w' := by
  have K : Keep [] w w' := Keep.of_below hb
  have hh := H.hob
  rw [h8, if_neg (by simp)] at hh
  refine ⟨H.kp.trans K (by simp), ?_, ?_, ?_, ?_, fun _ => ⟨ho, fun x hx => by have := hq x hx; have := H.kp.size; omega⟩, H.nq⟩
  · rw [upd_ne (by decide)]; exact fun e => (H.own0 e).keepS K (by simp)
  · rw [upd_ne (by decide), h7]; exact fun e => by cases e
  · rw [upd_ne (by decide), h8, if_neg (by simp)]; exact (hb.block _ (heap_lt hh)).trans hh
  · rw [upd_ne (by decide), h6]; exact fun e => by cases e
theorem TrW.build (H : TrW W0 tb k A c xs q row s l w) (h5 : l 5 = true) (h7 : l 7 = false) (h8 : l 8 = false) : TrW W0 tb k A c xs q row { s with bs := w.heap.size } (upd l 6) (w.alloc (.cells #[.slice s.rA row.length s.rc] 33)) := by
  have hh := H.hob
  rw [h8, if_neg (by simp)] at hh
  refine ⟨H.kp.alloc _, ?_, ?_, ?_, fun _ => ⟨H.kp.size, heap_alloc_new _ _, fun hm => by have := (H.row h5).1.lt _ hm; simp only at this; omega⟩, ?_, H.nq⟩
  · rw [upd_ne (by decide)]; exact fun e => (H.own0 e).alloc _
  · rw [upd_ne (by decide), h7]; exact fun e => by cases e
  · rw [upd_ne (by decide), h8, if_neg (by simp)]; exact heap_alloc' hh _
  · exact fun _ => ⟨(H.row h5).1.alloc _, (H.row h5).2⟩
theorem TrW.app (H : TrW W0 tb k A c xs q row s l w) (h5 : l 5 = true) (h6 : l 6 = true) (h8 : l 8 = false) {g c' : Nat} (o1 : OwnS w' 33 1 (some ⟨g, 0, none⟩) (k + 1) c' (xs ++ [.slice s.rA row.length s.rc]) [g]) (o2 : g ∈ q ∨ w.heap.size = g) (o3 : Keep q w w') :
    TrW W0 tb k A c xs q row { s with A := some ⟨g, 0, none⟩, c := c', g := g } (upd l 7) w' := by
  have hh := H.hob
  rw [h8, if_neg (by simp)] at hh
  have hr := H.row h5
  have hqr : ∀ x ∈ s.rq, x ∉ q := fun x hx hm => by have := hr.2 x hx; have := H.nq.2.2 x hm; omega
  have hb := H.hbs h6
  refine ⟨H.kp.trans o3 (fun x hx => .inl (by simp [hx])), by rw [upd_eq]; exact fun e => (by cases e), fun _ => ⟨o1, by rcases o2 with e | e; exact .inl e; exact .inr (by have := H.kp.size; simp only; omega), fun hm => ?_⟩, ?_, ?_, ?_, H.nq⟩
  · rcases o2 with e | e
    · exact hqr _ hm e
    · have := hr.1.lt _ hm; simp only at this; omega
  · rw [upd_ne (by decide), h8, if_neg (by simp)]; exact (o3.block _ (heap_lt hh) H.nq.1).trans hh
  · rw [upd_ne (by decide)]
    exact fun e => ⟨hb.1, (o3.block _ (heap_lt hb.2.1) (fun hm => by have := H.nq.2.2 _ hm; omega)).trans hb.2.1, hb.2.2⟩
  · exact fun _ => ⟨hr.1.keepS o3 hqr, hr.2⟩
theorem TrW.store (H : TrW W0 tb k A c xs q row s l w) (h5 : l 5 = true) (h7 : l 7 = true) (h8 : l 8 = false) : TrW W0 tb k A c xs q row s (upd l 8) (w.setCell ⟨tb, 0, none⟩ (.slice s.A (k + 1) s.c)) := by
  have hh := H.hob
  rw [h8, if_neg (by simp)] at hh
  have K : Keep [tb] w (w.setCell ⟨tb, 0, none⟩ (.slice s.A (k + 1) s.c)) := (Keep.refl _ _).setCell (.inl (by simp)) _
  have hr := H.row h5
  have ho := H.own1 h7
  have htg : s.g ≠ tb := by
    rcases ho.2.1 with e | e
    · exact fun e2 => H.nq.1 (e2 ▸ e)
    · have := H.nq.2.1; omega
  refine ⟨H.kp.setCell (.inl (by simp)) _, by rw [upd_ne (by decide), h7]; exact fun e => (by cases e), fun _ => ⟨ho.1.keepS K (by simpa using htg), ho.2⟩, ?_, ?_, ?_, H.nq⟩
  · rw [upd_eq, if_pos rfl]; exact heap_set hh 0 _
  · rw [upd_ne (by decide)]
    exact fun e => ⟨(H.hbs e).1, (K.block _ (heap_lt (H.hbs e).2.1) (by have := (H.hbs e).1; have := H.nq.2.1; simp; omega)).trans (H.hbs e).2.1, (H.hbs e).2.2⟩
  · exact fun _ => ⟨hr.1.keepS K (fun x hx => by have := hr.2 x hx; have := H.nq.2.1; simp; omega), hr.2⟩
end

set_option linter.unusedVariables false
def TrV (wb k n m : Nat) (A : Option Addr) (c : Nat) (B : Option Addr) (d : Nat) (s : TrS) : Nat → Value → Prop
  | 0, v => v = .slice A k c
  | 1, v => v = .pointer (some ⟨wb, 0, none⟩)
  | 2, v => v = .pointer (some ⟨wb, 0, none⟩)
  | 3, v => v = .pointer (some ⟨wb, 2, none⟩)
  | 4, v => v = .slice B m d
  | 5, v => v = .slice s.rA n s.rc
  | 6, v => v = .slice (some ⟨s.bs, 0, none⟩) 1 1
  | 7, v => v = .slice s.A (k + 1) s.c
  | _, _ => True

def trL (gb ub tb k : Nat) (A : Option Addr) (c : Nat) (q : List Nat) (rows : List LRow) : List It := [.any gb, .any ub, .blk tb (.cells #[.slice A k c] 66 (0, 0)), .own 33 1 A k c (rows.map LRow.v) q] ++ rows.map LRow.it
def Trace1Post (D : Nat) (W0 : World) (C : WC) (w : World) (s : Stt) (tb k : Nat) (q : List Nat) (rows : List LRow) (e : Ending) (w' : World) : Prop :=
  e = .returned (.tuple #[]) ∧ ∃ (A : Option Addr) (c : Nat) (q' : List Nat) (r : LRow), r.l = s.brash ∧ Own D W0 (trL C.gb C.ub tb (k + 1) A c q' (rows ++ [r])) w' ∧ Keep (tb :: q) w w' ∧ ∀ x ∈ q', x ∈ q ∨ w.heap.size ≤ x

set_option maxRecDepth 100000 in
set_option maxHeartbeats 4000000 in
theorem trace1_any {D : Nat} {W0 : World} {C : WC} {w : World} {s : Stt} (h : Int) (E : WcE C w (brV C) (buV C)) (S : WkS C w w s) (xb tb k : Nat) (A : Option Addr) (c : Nat) (q : List Nat) (rows : List LRow) (hx : w.cell? ⟨xb, 0, none⟩ = some (.pointer (some ⟨C.wb, 0, none⟩))) (hxq : xb ∉ tb :: q) (hwq : C.wb ∉ tb :: q)
    (L0 : Own D W0 (trL C.gb C.ub tb k A c q rows) w) (hk : k ≤ 1000) (hc : C.p.chs.length ≤ 6) :
    Calls Try.prog 81 #[.int .i64 h, .pointer (some ⟨tb, 0, none⟩), .pointer (some ⟨xb, 0, none⟩)] w (Trace1Post D W0 C w s tb k q rows) := by
  obtain ⟨iR, hR0, hR1, hR2, hR3⟩ := info_parts infoRow
  have hl := S.len
  have c2 := E.cells.2.2.1
  have HL := Lib.hid (And.intro hx (And.intro hxq (And.intro c2 hwq)))
  have ho := L0.owns 3 rfl
  have hb := L0.heap 2 rfl
  have HO := Lib.hid (And.intro ho (And.intro hb (And.intro (fun hm => L0.dis 2 3 _ _ rfl rfl (by decide) tb (by simp [It.fp]) hm) (And.intro (heap_lt hb) (fun x hx => ho.lt x hx)))))
  have HB := Lib.hid (And.intro S.br (And.intro (fun g hg hm => by
      rw [List.mem_singleton.1 hg] at hm
      rcases List.mem_cons.1 hm with e | e
      · exact L0.ne 0 2 rfl rfl (by decide) (x := C.gb) (y := tb) (by simp [It.fp]) (by simp [It.fp]) e
      · exact L0.dis 0 3 _ _ rfl rfl (by decide) C.gb (by simp [It.fp]) e : ∀ g ∈ [C.gb], g ∉ tb :: q) (And.intro (by simp [ints, Value.oneCell'] : ∀ u ∈ ints s.brash, u.oneCell' = true) (And.intro (by omega : C.p.chs.length ≤ 100000000) hl.1))))
  have HS := Lib.hid L0
  have zx := World.block_lt_of_cell? _ _ hx
  have zw := World.block_lt_of_cell? _ _ c2
  simp only at zx zw
  clear E S L0 ho hb hx hxq hwq c2 hl
  go_enter Try.func81, Try.ntmps81
  go_upto_region 0 with fail
  refine wp_region_steps (σ := TrS) (by kernel_rfl) (by kernel_rfl) (fun sg jx vx _ => TrV C.wb k s.brash.length C.p.chs.length A c (some ⟨C.gb, 0, none⟩) C.c1 sg jx vx) (fun sg ly wx => TrW w tb k A c (rows.map LRow.v) q s.brash sg ly wx) ⟨0, none, 0, 0, none, 0, []⟩ ?_ ?_ ?_
  · exact ⟨(Keep.refl _ _).drew, fun _ => HO.out.1, (fun h => by cases h), by rw [if_neg (by simp)]; exact HO.out.2.1, (fun h => by cases h), (fun h => by cases h), HO.out.2.2⟩
  · simp only [AllFrom, Nat.zero_add, Nat.reduceAdd]
    refine ⟨?_, ?_, ?_, ?_, ?_, ?_, ?_, ?_, ?_, trivial⟩
    · refine step_pure fun sg ly a wx hl hd hW hF => ?_
      have et1 := hF.old 1 (by kernel_rfl)
      simp [Act.eval] at et1
      have nS := hF.notYet 0 8 hl (by kernel_rfl)
      have hh := hW.hob
      rw [if_neg (by simp [nS])] at hh
      have cL := (cell_of_heap hh 0).trans rfl
      have zL := heap_lt hh
      exact ⟨hW.other _ (by decide), _, by go_simp, rfl⟩
    · refine step_pure fun sg ly a wx hl hd hW hF => ?_
      have et2 := hF.old 2 (by kernel_rfl)
      simp [Act.eval] at et2
      have cX := hW.kp.cell HL.out.1 HL.out.2.1
      exact ⟨hW.other _ (by decide), _, by go_simp, rfl⟩
    · refine step_pure fun sg ly a wx hl hd hW hF => ?_
      simp [Region.binds] at hd
      have et5 := hF.new 1 5 (by simp [hd]) rfl
      simp [TrV, Act.eval] at et5
      have cW := hW.kp.cell HL.out.2.2.1 HL.out.2.2.2
      exact ⟨hW.other _ (by decide), _, by go_simp, rfl⟩
    · refine step_pure fun sg ly a wx hl hd hW hF => ?_
      simp [Region.binds] at hd
      have et6 := hF.new 2 6 (by simp [hd]) rfl
      simp [TrV, Act.eval] at et6
      exact ⟨hW.other _ (by decide), _, by go_simp, rfl⟩
    · refine step_pure fun sg ly a wx hl hd hW hF => ?_
      simp [Region.binds] at hd
      have et7 := hF.new 3 7 (by simp [hd]) rfl
      simp [TrV, Act.eval] at et7
      have cW := hW.kp.cell HL.out.2.2.1 HL.out.2.2.2
      exact ⟨hW.other _ (by decide), _, by go_simp, rfl⟩
    · refine step_call fun sg ly a wx hl hd hW hF => ?_
      simp [Region.binds] at hd
      have et8 := hF.new 4 8 (by simp [hd]) rfl
      simp [TrV, Act.eval] at et8
      have n6 := hF.notYet 5 6 hl (by kernel_rfl)
      have n7 := hF.notYet 5 7 hl (by kernel_rfl)
      have n8 := hF.notYet 5 8 hl (by kernel_rfl)
      refine ⟨82, #[.slice (some ⟨C.gb, 0, none⟩) C.p.chs.length C.c1], by go_simp, ?_⟩
      refine (clonePtI_any _ _ C.c1 (ints s.brash) wx (HB.out.1.keepS hW.kp HB.out.2.1).rd HB.out.2.2.1 (by simp) HB.out.2.2.2.1).mono ?_
      rintro e w2 ⟨A2, c2, q2, rfl, o1, o2, o3⟩
      rw [← HB.out.2.2.2.2] at o1
      refine ⟨.slice A2 s.brash.length c2, { sg with rA := A2, rc := c2, rq := q2 }, by rw [HB.out.2.2.2.2], hW.clone n6 n7 n8 o1 o2 o3, rfl, ?_⟩
      intro i u hi h
      have i5 : i ≠ 5 := by rintro rfl; rw [hl] at hi; cases hi
      have i6 : i ≠ 6 := by rintro rfl; rw [n6] at hi; cases hi
      have i7 : i ≠ 7 := by rintro rfl; rw [n7] at hi; cases hi
      unfold TrV at h ⊢
      split at h <;> first | exact h | exact absurd rfl i5 | exact absurd rfl i6 | exact absurd rfl i7
    · refine step_run fun sg ly a wx hl hd hW hF => ?_
      simp [Region.binds] at hd
      have et9 := hF.new 5 9 (by simp [hd]) rfl
      simp [TrV, Act.eval] at et9
      have n7 := hF.notYet 6 7 hl (by kernel_rfl)
      have n8 := hF.notYet 6 8 hl (by kernel_rfl)
      have y5 : ly 5 = true := by simp [hd]
      refine ⟨_, wx.alloc (.cells #[.slice sg.rA s.brash.length sg.rc] 33), { sg with bs := wx.heap.size }, by go_simp, hW.build y5 n7 n8, rfl, ?_⟩
      intro i u hi h
      have i6 : i ≠ 6 := by rintro rfl; rw [hl] at hi; cases hi
      unfold TrV at h ⊢
      split at h <;> first | exact h | exact absurd rfl i6
    · intro sg ly a wx hl hd hW hF
      simp [Region.binds] at hd
      have et4 := hF.new 0 4 (by simp [hd]) rfl
      simp [TrV, Act.eval] at et4
      have et10 := hF.new 6 10 (by simp [hd]) rfl
      simp [TrV, Act.eval] at et10
      have n8 := hF.notYet 7 8 hl (by kernel_rfl)
      have y6 : ly 6 = true := by simp [hd]
      have y5 : ly 5 = true := by simp [hd]
      have hbs := hW.hbs y6
      refine wp_append_S (.tmp 4) (.tmp 10) 66 rfl iR _ 24 Try.underlying66 hR0 hR1 hR2 (by decide) hR3 rfl (by simpa [Act.eval] using et4) ⟨sg.bs, 0, none⟩ (by simpa [Act.eval] using et10) [.slice sg.rA s.brash.length sg.rc] (hW.own0 hl) rfl (fun j v hj => by rw [show (⟨sg.bs, 0, none⟩ : Addr).add j = ⟨sg.bs, j, none⟩ from by simp [Addr.add]; omega]; exact (cell_of_heap hbs.2.1 j).trans (by simpa using hj)) (by simp [Value.oneCell']) (by omega) (by omega) ?_
      intro g c' w' o1 o2 o3 o4
      refine ⟨{ sg with A := some ⟨g, 0, none⟩, c := c', g := g }, _, rfl, hW.app y5 y6 n8 o1 o2 o4, fun _ => rfl, ?_⟩
      intro i u hi h
      have i7 : i ≠ 7 := by rintro rfl; rw [hl] at hi; cases hi
      unfold TrV at h ⊢
      split at h <;> first | exact h | exact absurd rfl i7
    · refine step_store rfl fun sg ly a wx hl hd hW hF => ?_
      simp [Region.binds] at hd
      have et1 := hF.old 1 (by kernel_rfl)
      simp [Act.eval] at et1
      have et11 := hF.new 7 11 (by simp [hd]) rfl
      simp [TrV, Act.eval] at et11
      have y7 : ly 7 = true := by simp [hd]
      have y5 : ly 5 = true := by simp [hd]
      have hh := hW.hob
      rw [if_neg (by simp [hl])] at hh
      have cL := (cell_of_heap hh 0).trans rfl
      have fL := frozen_of_heap hh 0
      have zL := heap_lt hh
      exact ⟨_, sg, .skip, by go_simp, .inl rfl, hW.store y5 y7 hl, fun _ _ _ h => h⟩
  intro sg af w4 hWW hF
  obtain ⟨ff, hf, rfl⟩ := hF.lit
  clear hf hF
  obtain ⟨o1, o2, o3⟩ := hWW.own1 rfl
  obtain ⟨r1, r2⟩ := hWW.row rfl
  have hob := hWW.hob
  simp only [List.length_cons, List.length_nil, Nat.reduceAdd, Nat.reduceLT, decide_true, if_true] at hob
  have kp := hWW.kp
  obtain ⟨r, hr⟩ : ∃ r : LRow, r = ⟨sg.rA, sg.rc, s.brash, sg.rq⟩ := ⟨_, rfl⟩
  have L4 : Own D W0 (trL C.gb C.ub tb (k + 1) sg.A sg.c [sg.g] (rows ++ [r])) w4 := by
    have L0 := HS.out
    have hlen : (rows.map LRow.it).length = rows.length := by simp
    have hget : ∀ {a : Nat} {j : It}, (trL C.gb C.ub tb (k + 1) sg.A sg.c [sg.g] (rows ++ [r]))[a]? = some j →
        (a = 2 ∧ j = .blk tb (.cells #[.slice sg.A (k + 1) sg.c] 66 (0, 0))) ∨ (a = 3 ∧ j = .own 33 1 sg.A (k + 1) sg.c ((rows ++ [r]).map LRow.v) [sg.g]) ∨ (a = 4 + rows.length ∧ j = r.it) ∨ (a ≠ 2 ∧ a ≠ 3 ∧ a ≠ 4 + rows.length ∧ (trL C.gb C.ub tb k A c q rows)[a]? = some j) := by
      intro a j hj
      unfold trL at hj ⊢
      match a with
      | 0 => exact .inr (.inr (.inr ⟨by decide, by decide, by omega, by simpa using hj⟩))
      | 1 => exact .inr (.inr (.inr ⟨by decide, by decide, by omega, by simpa using hj⟩))
      | 2 => exact .inl ⟨rfl, by simpa using hj.symm⟩
      | 3 => exact .inr (.inl ⟨rfl, by simpa using hj.symm⟩)
      | a + 4 =>
        rw [List.getElem?_append_right (by simp)] at hj
        simp only [List.length_cons, List.length_nil, Nat.reduceAdd, Nat.add_sub_cancel, List.map_append, List.map_cons, List.map_nil] at hj
        rw [List.getElem?_append] at hj
        split at hj
        · rename_i h1
          refine .inr (.inr (.inr ⟨by omega, by omega, by simp at h1; omega, ?_⟩))
          rw [List.getElem?_append_right (by simp)]
          simpa using hj
        · rename_i h1
          have h2 := (List.getElem?_eq_some_iff.1 hj).1
          simp at h1 h2
          have h3 : a = rows.length := by omega
          subst h3
          simp at hj
          exact .inr (.inr (.inl ⟨by omega, hj.symm⟩))
    refine L0.updG _ (fun a => a = 2 ∨ a = 3 ∨ a = 4 + rows.length) kp (fun x hx => .inl ?_) (fun a j hj => ?_) (fun a j hj hc => ?_) (fun a b i j hi hj hab ha hb x hx hy hz => ?_)
    · rcases List.mem_cons.1 hx with e | hx
      · exact ⟨2, _, .inl rfl, rfl, by rw [e]; simp [It.fp]⟩
      · exact ⟨3, _, .inr (.inl rfl), rfl, hx⟩
    · rcases hget hj with ⟨e, _⟩ | ⟨e, _⟩ | ⟨e, _⟩ | ⟨_, _, _, e⟩
      · exact .inl (.inl e)
      · exact .inl (.inr (.inl e))
      · exact .inl (.inr (.inr e))
      · exact .inr e
    · rcases hget hj with ⟨e, rfl⟩ | ⟨e, rfl⟩ | ⟨e, rfl⟩ | ⟨e1, e2, e3, e⟩
      · subst e; exact ⟨hob, fun x hx => .inl ⟨_, rfl, hx⟩⟩
      · subst e
        refine ⟨by rw [List.map_append, hr]; exact o1, fun x hx => ?_⟩
        rw [List.mem_singleton.1 hx]
        rcases o2 with q1 | q1
        · exact .inl ⟨.own 33 1 A k c (rows.map LRow.v) q, rfl, q1⟩
        · exact .inr q1
      · rw [hr]; exact ⟨r1, fun x hx => .inr (r2 x hx)⟩
      · rcases hc with q1 | q1 | q1
        · exact absurd q1 e1
        · exact absurd q1 e2
        · exact absurd q1 e3
    · have htb := heap_lt (L0.heap 2 rfl)
      have F : ∀ {a : Nat} {i : It}, (trL C.gb C.ub tb (k + 1) sg.A sg.c [sg.g] (rows ++ [r]))[a]? = some i → (a = 2 ∨ a = 3 ∨ a = 4 + rows.length) → x ∈ i.fp → (a = 3 ∧ x = sg.g) ∨ (a = 4 + rows.length ∧ x ∈ sg.rq) := by
        intro a i hi hc hx
        rcases hget hi with ⟨e, rfl⟩ | ⟨e, rfl⟩ | ⟨e, rfl⟩ | ⟨e1, e2, e3, e⟩
        · rw [List.mem_singleton.1 hx] at hz; omega
        · exact .inl ⟨e, List.mem_singleton.1 hx⟩
        · rw [hr] at hx; exact .inr ⟨e, hx⟩
        · omega
      rcases F hi ha hx with ⟨e1, e2⟩ | ⟨e1, e2⟩
      · rcases F hj hb hy with ⟨e3, e4⟩ | ⟨e3, e4⟩
        · omega
        · exact o3 (e2 ▸ e4)
      · rcases F hj hb hy with ⟨e3, e4⟩ | ⟨e3, e4⟩
        · exact o3 (e4 ▸ e2)
        · omega
  clear o1 r1 r2 hob hWW
  simp only [List.filterMap, List.foldl, List.setIfInBounds_toArray, List.set_cons_succ, List.set_cons_zero]
  have HF := Lib.hid (And.intro L4 (And.intro kp o2))
  clear L4 kp o2 o3
  go_wp2_with fail
  go_end0
  refine ⟨rfl, sg.A, sg.c, [sg.g], r, by rw [hr], HF.out.1, HF.out.2.1, fun x hx => by rw [List.mem_singleton.1 hx]; exact HF.out.2.2⟩
end Go.Proofs.Ythmldeningpjbaa
