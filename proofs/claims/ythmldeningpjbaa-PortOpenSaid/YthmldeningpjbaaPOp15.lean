/- port.Run (printed by wip/tools/ptrunf.py) -/
import Derived.Test.YthmldeningpjbaaPOp14
import Derived.Test.YthmldeningpjbaaProg
import Derived.Test.YthmldeningpjbaaPOp0
import Derived.Test.YthmldeningpjbaaPOp9
import Derived.Test.YthmldeningpjbaaPOp3
set_option linter.unusedVariables false
set_option linter.unusedSimpArgs false
namespace Go.Proofs.Ythmldeningpjbaa
open Go Go.RowKit Sp Pt
set_option linter.unusedVariables false
set_option linter.unusedSimpArgs false

theorem cbNothing (a : Array Value) (w : World) : (callFunc 74 a).run Try.prog w = .ok (.enter 74 a) w := by go_simp
def runE (p : Prt) (s : Stt) (l : Pln) : Int := if startE p s l ≠ 0 then startE p s l else (runR p l s).2
def runI (p : Prt) (s : Stt) (l : Pln) : Int := if startE p s l ≠ 0 then 0 else (runR p l s).1
def runV (p : Prt) (s : Stt) (l : Pln) : Stt := if runE p s l = 0 then stN p l s l.hours.toNat else ⟨[], []⟩
/-- in a block of its own -/
def FreshA (w : World) (A : Option Addr) : Prop := ∀ b o, A = some ⟨b, o, none⟩ → w.heap.size ≤ b
def RunsPost (w : World) (p : Prt) (s : Stt) (l : Pln) (e : Ending) (w' : World) : Prop :=
  ∃ A c B d, e = .returned (.tuple #[.agg (sttV A c B d (runV p s l)), .int .i64 (runI p s l), .int .i64 (runE p s l)]) ∧ SttB w'.heap.size w' A c B d (runV p s l) ∧ Below w.heap.size w w' ∧ FreshA w A ∧ FreshA w B
theorem stt_nil (w : World) (D : Nat) : SttB D w none 0 none 0 ⟨[], []⟩ := ⟨⟨rfl, fun h => absurd h (by decide)⟩, ⟨rfl, fun h => absurd h (by decide)⟩, ⟨Nat.le_refl _, by omega, fun _ => rfl⟩, ⟨Nat.le_refl _, by omega, fun _ => rfl⟩⟩
theorem stt_results {F : Func} {r s t : Nat} (hF : F.results = #[.cell r 42, .tmp s, .tmp t]) {W : World} {b : Nat} {A B : Option Addr} {n c m d : Nat} (h : W.heap[b]? = some (.cells #[.slice A n c, .slice B m d] 42 (0, 0))) (tmps : Array Value) (v u : Value) (hr : tmps.getD r undef = .pointer (some ⟨b, 0, none⟩)) (hs : tmps.getD s undef = v) (ht : tmps.getD t undef = u) :
    (results F tmps).run Try.prog W = .ok (.tuple #[.agg #[.slice A n c, .slice B m d], v, u]) W := by
  have g7 : tmps[r]?.getD undef = .pointer (some ⟨b, 0, none⟩) := by simpa using hr
  have g8 : tmps[s]?.getD undef = v := by simpa using hs
  have g9 : tmps[t]?.getD undef = u := by simpa using ht
  have c0 : W.cell? ⟨b, 0, none⟩ = some (.slice A n c) := (cell_of_heap h 0).trans rfl
  have c1 : W.cell? ⟨b, 1, none⟩ = some (.slice B m d) := (cell_of_heap h 1).trans rfl
  simp [results, hF, g7, g8, g9, asAddr, go_sem, c0, c1]
theorem wk_sttB {c : WC} {w : World} {s : Stt} (h : WkS c w w s) : SttB w.heap.size w (some ⟨c.gb, 0, none⟩) c.c1 (some ⟨c.ub, 0, none⟩) c.c2 s := by
  have hl := h.len
  have r1 := h.br.rd
  have r2 := h.bu.rd
  rw [← hl.1] at r1
  rw [← hl.2] at r2
  exact ⟨RdB.of r1 (Nat.le_refl _), RdB.of r2 (Nat.le_refl _), ⟨by rw [hl.1]; exact h.br.ge, h.br.cap, fun h => by cases h⟩, ⟨by rw [hl.2]; exact h.bu.ge, h.bu.cap, fun h => by cases h⟩⟩
theorem start_bd {p : Prt} {s : Stt} {l : Pln} (h : startE p s l = 0) : checkL p l = 0 ∧ s.brash.length = p.chs.length ∧ s.busy.length = p.bts.length ∧ (∀ x ∈ s.brash, 0 ≤ x ∧ x ≤ 1000000) := by
  unfold startE at h
  split at h
  · rename_i h1; exact absurd h h1
  · split at h
    · cases h
    · rename_i h1 h2
      have h3 : s.brash.length = p.chs.length ∧ s.busy.length = p.bts.length ∧ s.brash.any (fun n => !within n 0 1000000) = false := by
        refine ⟨Classical.byContradiction fun q => h2 (.inl q), Classical.byContradiction fun q => h2 (.inr (.inl q)), ?_⟩
        cases q : s.brash.any (fun n => !within n 0 1000000) with
        | false => rfl
        | true => exact absurd (.inr (.inr q)) h2
      refine ⟨by simpa using h1, h3.1, h3.2.1, fun x hx => ?_⟩
      have : (!within x 0 1000000) = false := by
        cases q : !within x 0 1000000 with
        | false => rfl
        | true => rw [List.any_eq_true.2 ⟨x, hx, q⟩] at h3; exact absurd h3.2.2 (by decide)
      simpa [within] using this
theorem brR_of {b : List Int} {B : Int} (hB : 0 ≤ B) (h : ∀ x ∈ b, 0 ≤ x ∧ x ≤ B) : brR B b := fun c => by
  unfold getI
  rw [List.getD_eq_getElem?_getD]
  cases hc : b[c.toNat]? with
  | none => simpa using (by omega : -B ≤ 0 ∧ 0 ≤ B)
  | some x => have := h x (List.mem_of_getElem? hc); simpa using (by omega : -B ≤ x ∧ x ≤ B)

set_option linter.unusedVariables false
def RfV (W0 : World) (wb rb n c1 m c2 : Nat) (gb ub : Nat) (i : Int) : Nat → Value → Prop
  | 0, v => v = .pointer (some ⟨wb, 0, none⟩)
  | 1, v => v = .pointer (some ⟨wb, 0, none⟩)
  | 2, v => v = .pointer (some ⟨wb, 2, none⟩)
  | 3, v => v = .slice (some ⟨gb, 0, none⟩) n c1
  | 4, v => v = .pointer (some ⟨wb, 0, none⟩)
  | 5, v => v = .pointer (some ⟨wb, 0, none⟩)
  | 6, v => v = .pointer (some ⟨wb, 3, none⟩)
  | 7, v => v = .slice (some ⟨ub, 0, none⟩) m c2
  | 8, v => v = .agg #[.slice (some ⟨gb, 0, none⟩) n c1, .slice (some ⟨ub, 0, none⟩) m c2]
  | 9, v => v = .int .i64 i
  | 11, v => v = .int .i64 i
  | 12, v => v = .int .i64 0
  | _, _ => True
def RfW (W0 : World) (wb rb n c1 m c2 : Nat) (gb ub : Nat) (i : Int) (l : Nat → Bool) (w : World) : Prop := if l 10 then w = ((W0.setCell ⟨rb, 0, none⟩ (.slice (some ⟨gb, 0, none⟩) n c1)).setCell ⟨rb, 1, none⟩ (.slice (some ⟨ub, 0, none⟩) m c2)).drew else w = W0.drew

set_option maxRecDepth 100000 in
set_option maxHeartbeats 4000000 in
theorem Run_any (D : Nat) (Ac : Option Addr) (cc : Nat) (Ab : Option Addr) (cb : Nat) (p : Prt) (Al : Option Addr) (cl : Nat) (As : Option Addr) (cs : Nat) (l : Pln) (Ar : Option Addr) (cr : Nat) (Au : Option Addr) (cu : Nat) (s : Stt) (w : World)
    (PB : PrtB D w Ac cc Ab cb p) (LB : PlnB D w Al cl As cs l) (SB : SttB D w Ar cr Au cu s) (hD : D ≤ w.heap.size) :
    Calls Try.prog 19 #[.agg (prtV Ac cc Ab cb p), .agg (sttV Ar cr Au cu s), .agg (plnV Al cl As cs l)] w (RunsPost w p s l) := by
  obtain ⟨W, hW⟩ : ∃ W, W = (((w.alloc (.cells (prtV Ac cc Ab cb p) 26)).alloc (.cells (sttV Ar cr Au cu s) 42)).alloc (.cells (plnV Al cl As cs l) 31)).alloc (.cells #[.slice none 0 0, .slice none 0 0] 42) := ⟨_, rfl⟩
  have b0 : Below w.heap.size w W := by rw [hW]; exact ((((Below.refl _ _).alloc (Nat.le_refl _) _).alloc (by simp) _).alloc (by simp; omega) _).alloc (by simp; omega) _
  obtain ⟨pb, hpb⟩ : ∃ b, b = w.heap.size := ⟨_, rfl⟩
  obtain ⟨sb, hsb⟩ : ∃ b, b = w.heap.size + 1 := ⟨_, rfl⟩
  obtain ⟨lb, hlb⟩ : ∃ b, b = w.heap.size + 1 + 1 := ⟨_, rfl⟩
  obtain ⟨rb, hrb⟩ : ∃ b, b = w.heap.size + 1 + 1 + 1 := ⟨_, rfl⟩
  have hp : W.heap[pb]? = some (.cells (prtV Ac cc Ab cb p) 26 (0, 0)) := by rw [hW, hpb]; exact heap_alloc' (heap_alloc' (heap_alloc' (heap_alloc_new _ _) _) _) _
  have hs : W.heap[sb]? = some (.cells (sttV Ar cr Au cu s) 42 (0, 0)) := by
    rw [hW, hsb]
    refine heap_alloc' (heap_alloc' ?_ _) _
    have := heap_alloc_new (w.alloc (.cells (prtV Ac cc Ab cb p) 26)) (.cells (sttV Ar cr Au cu s) 42)
    rwa [World.size_alloc] at this
  have hl : W.heap[lb]? = some (.cells (plnV Al cl As cs l) 31 (0, 0)) := by
    rw [hW, hlb]
    refine heap_alloc' ?_ _
    have := heap_alloc_new ((w.alloc (.cells (prtV Ac cc Ab cb p) 26)).alloc (.cells (sttV Ar cr Au cu s) 42)) (.cells (plnV Al cl As cs l) 31)
    rwa [World.size_alloc, World.size_alloc] at this
  have hr : W.heap[rb]? = some (.cells #[.slice none 0 0, .slice none 0 0] 42 (0, 0)) := by
    rw [hW, hrb]
    have := heap_alloc_new (((w.alloc (.cells (prtV Ac cc Ab cb p) 26)).alloc (.cells (sttV Ar cr Au cu s) 42)).alloc (.cells (plnV Al cl As cs l) 31)) (.cells #[.slice none 0 0, .slice none 0 0] 42)
    rwa [World.size_alloc, World.size_alloc, World.size_alloc] at this
  have kst := start_any D Ac cc Ab cb p Al cl As cs l Ar cr Au cu s W (PB.below (b0.mono hD)) (LB.below (b0.mono hD)) (SB.below (b0.mono hD)) (by have := b0.size; omega)
  have c0 : W.cell? ⟨pb, 0, none⟩ = some (.slice Ac p.chs.length cc) := (cell_of_heap hp 0).trans rfl
  have c1 : W.cell? ⟨pb, 1, none⟩ = some (.slice Ab p.bts.length cb) := (cell_of_heap hp 1).trans rfl
  have c2 : W.cell? ⟨pb, 2, none⟩ = some (.int .i64 p.tugs) := (cell_of_heap hp 2).trans rfl
  have c3 : W.cell? ⟨lb, 0, none⟩ = some (.int .i64 l.hours) := (cell_of_heap hl 0).trans rfl
  have c4 : W.cell? ⟨lb, 1, none⟩ = some (.slice Al l.calls.length cl) := (cell_of_heap hl 1).trans rfl
  have c5 : W.cell? ⟨lb, 2, none⟩ = some (.slice As l.swps.length cs) := (cell_of_heap hl 2).trans rfl
  have c6 : W.cell? ⟨sb, 0, none⟩ = some (.slice Ar s.brash.length cr) := (cell_of_heap hs 0).trans rfl
  have c7 : W.cell? ⟨sb, 1, none⟩ = some (.slice Au s.busy.length cu) := (cell_of_heap hs 1).trans rfl
  have zp := heap_lt hp
  have zl := heap_lt hl
  have zs := heap_lt hs
  have hrw : w.heap.size ≤ rb := by omega
  have H := Lib.hid (And.intro b0 (And.intro hr kst))
  clear b0 hp hs hl hr kst
  go_enter Try.func19, Try.ntmps19
  go_upto_region 1 with fail
  rw [← hW, ← hrb, ← hlb, ← hsb, ← hpb]
  clear hW hlb hsb hpb hrb
  go_wp2_with fail
  refine H.out.2.2.mono ?_
  rintro e w1 ⟨b1, hcase⟩
  have hr1 := (b1.block _ (heap_lt H.out.2.1)).trans H.out.2.1
  have bw1 : Below w.heap.size w w1 := H.out.1.trans (b1.mono H.out.1.size)
  clear c0 c1 c2 c3 c4 c5 c6 c7 zp zl zs
  rcases hcase with ⟨hne, rfl⟩ | ⟨he, c, hM, hS, rfl⟩
  · have f0 := frozen_of_heap hr1 0
    have f1 := frozen_of_heap hr1 1
    have d0 := (cell_of_heap hr1 0).trans rfl
    have d1 := (cell_of_heap hr1 1).trans rfl
    have zr := heap_lt hr1
    obtain ⟨er, her⟩ : ∃ er, er = startE p s l := ⟨_, rfl⟩
    rw [← her] at hne ⊢
    have hnb : (er != 0) = true := by simpa using hne
    have hv : runE p s l = er ∧ runI p s l = 0 := by unfold runE runI; rw [if_pos (by rw [← her]; exact hne), if_pos (by rw [← her]; exact hne), her]; exact ⟨rfl, rfl⟩
    have hvv : runV p s l = ⟨[], []⟩ := by unfold runV; rw [if_neg (by rw [hv.1]; exact hne)]
    have HF := Lib.hid (And.intro hv.1 (And.intro hv.2 (And.intro hvv (And.intro hr1 bw1))))
    clear hv hvv hr1 bw1 her hne b1
    go_wp2_with fail
    refine bodyPost_ret (stt_results rfl (heap_set (heap_set HF.out.2.2.2.1 0 (.slice none 0 0)) 1 (.slice none 0 0)) _ _ _ rfl rfl rfl) rfl ?_
    refine ⟨none, 0, none, 0, ?_, ?_, (HF.out.2.2.2.2.setCell hrw _).setCell hrw _, (fun _ _ h => by cases h), (fun _ _ h => by cases h)⟩
    · rw [HF.out.1, HF.out.2.1, HF.out.2.2.1]; rfl
    · rw [HF.out.2.2.1]; exact stt_nil _ _
  · obtain ⟨hc, hlen1, hlen2, hbr⟩ := start_bd he
    obtain ⟨q1, q2, q3, q4, q5, q6, q7, q8, q9, q10, q11⟩ := hM.eq
    have v : Val c.p c.l := by rw [q6, q11]; exact val_of hc
    have krun := run_any hM.E hM.N hS v (brR_of (by decide) hbr) 74 74 #[] #[] cbNothing cbNothing [] (by simp) (fun _ _ => True) (fun _ _ => True) (fun _ _ => True) trivial
      (fun k w _ _ _ _ _ => (nothing_any _ _).mono fun e w' h => ⟨h.1, ⟨[], by rw [← h.2]; exact Keep.refl _ _, by simp⟩, trivial⟩) (fun k w _ _ _ _ _ => (nothing_any _ _).mono fun e w' h => ⟨h.1, ⟨[], by rw [← h.2]; exact Keep.refl _ _, by simp⟩, trivial⟩) (fun _ _ _ _ _ => trivial) (fun _ _ _ _ _ => trivial)
    have hrn : rb ≠ c.gb ∧ rb ≠ c.ub ∧ rb ≠ c.wb := by have := hM.new; have := heap_lt H.out.2.1; omega
    have hg := hM.new
    obtain ⟨R, hR⟩ : ∃ R, R = runR p l s := ⟨_, rfl⟩
    have HM := Lib.hid (And.intro hM (And.intro krun (And.intro he (And.intro hr1 (And.intro bw1 (And.intro q6 (And.intro q11 hR)))))))
    clear hM krun he hr1 bw1 hS v hc hbr hlen1 hlen2 q1 q2 q3 q4 q5 q6 q7 q8 q9 q10 q11 b1 hR
    go_wp2_with fail
    refine HM.out.2.1.mono ?_
    rintro e w3 ⟨rfl, kp, hok⟩
    rw [HM.out.2.2.2.2.2.1, HM.out.2.2.2.2.2.2.1, ← HM.out.2.2.2.2.2.2.2] at hok ⊢
    have hr3 := (kp.block rb (heap_lt HM.out.2.2.2.1) (by simp; exact ⟨hrn.1, hrn.2.1⟩)).trans HM.out.2.2.2.1
    have hWs := H.out.1.size
    have bw3 : Below w.heap.size w w3 := HM.out.2.2.2.2.1.trans (kp.below HM.out.2.2.2.2.1.size (by simp; omega))
    have f0 := frozen_of_heap hr3 0
    have f1 := frozen_of_heap hr3 1
    have d0 := (cell_of_heap hr3 0).trans rfl
    have d1 := (cell_of_heap hr3 1).trans rfl
    have zr := heap_lt hr3
    obtain ⟨i, er⟩ := R
    have hrr : runR p l s = (i, er) := HM.out.2.2.2.2.2.2.2.symm
    have hv : runE p s l = er ∧ runI p s l = i := by unfold runE runI; rw [if_neg (by rw [HM.out.2.2.1]; simp), if_neg (by rw [HM.out.2.2.1]; simp), hrr]; exact ⟨rfl, rfl⟩
    by_cases her : er = 0
    · subst her
      have hvv : runV p s l = stN p l s l.hours.toNat := by unfold runV; rw [if_pos hv.1]
      obtain ⟨S3, _⟩ := hok rfl
      have E3 := HM.out.1.E.keep kp (by have := HM.out.1.N.g; have := HM.out.1.N.u; simp; omega)
      obtain ⟨_, _, q2, q3, _, _, _, _, _, z1, _, _⟩ := E3.cells
      obtain ⟨n, hn⟩ : ∃ n, n = c.p.chs.length := ⟨_, rfl⟩
      obtain ⟨m, hm⟩ : ∃ m, m = c.p.bts.length := ⟨_, rfl⟩
      have hbr : brV c = .slice (some ⟨c.gb, 0, none⟩) n c.c1 := by rw [hn]
      have hbu : buV c = .slice (some ⟨c.ub, 0, none⟩) m c.c2 := by rw [hm]
      rw [hbr] at q2
      rw [hbu] at q3
      have hl3 := S3.len
      have HF := Lib.hid (And.intro hv.1 (And.intro hv.2 (And.intro hvv (And.intro hr3 (And.intro bw3 (And.intro S3 (And.intro hn hm)))))))
      clear hv hvv hr3 bw3 S3 E3 hn hm hbr hbu hok kp hrr hl3
      go_upto_region 7 with fail
      refine wp_region_steps (σ := Unit) (by kernel_rfl) (by kernel_rfl) (fun _ jx vx _ => RfV w3 c.wb rb n c.c1 m c.c2 c.gb c.ub i jx vx) (fun _ ly wx => RfW w3 c.wb rb n c.c1 m c.c2 c.gb c.ub i ly wx) () ?_ ?_ ?_
      · exact (by unfold RfW; rw [if_neg (by simp)])
      · simp only [AllFrom, Nat.zero_add, Nat.reduceAdd]
        refine ⟨?_, ?_, ?_, ?_, ?_, ?_, ?_, ?_, ?_, ?_, ?_, ?_, ?_, trivial⟩
        · refine step_pure fun sg ly a wr hl hd hW hF => ?_
          have et9 := hF.old 9 (by kernel_rfl)
          simp [Act.eval] at et9
          exact ⟨by simpa [RfW, upd] using hW, .pointer (some ⟨c.wb, 0, none⟩), by go_simp, rfl⟩
        · refine step_pure fun sg ly a wr hl hd hW hF => ?_
          simp [Region.binds] at hd
          have et33 := hF.new 0 33 (by simp [hd]) rfl
          simp [RfV, Act.eval] at et33
          exact ⟨by simpa [RfW, upd] using hW, .pointer (some ⟨c.wb, 0, none⟩), by go_simp, rfl⟩
        · refine step_pure fun sg ly a wr hl hd hW hF => ?_
          simp [Region.binds] at hd
          have et34 := hF.new 1 34 (by simp [hd]) rfl
          simp [RfV, Act.eval] at et34
          exact ⟨by simpa [RfW, upd] using hW, .pointer (some ⟨c.wb, 2, none⟩), by go_simp, rfl⟩
        · refine step_pure fun sg ly a wr hl hd hW hF => ?_
          simp [Region.binds] at hd
          have et35 := hF.new 2 35 (by simp [hd]) rfl
          simp [RfV, Act.eval] at et35
          have nL_8 := hF.notYet 3 8 hl (by kernel_rfl)
          have nL := hF.notYet 8 10 nL_8 (by kernel_rfl)
          have hW' := hW
          unfold RfW at hW'
          rw [if_neg (by simp [nL])] at hW'
          subst hW'
          exact ⟨by unfold RfW; rw [if_neg (by simp [upd, nL])], _, by go_simp, rfl⟩
        · refine step_pure fun sg ly a wr hl hd hW hF => ?_
          have et9 := hF.old 9 (by kernel_rfl)
          simp [Act.eval] at et9
          exact ⟨by simpa [RfW, upd] using hW, .pointer (some ⟨c.wb, 0, none⟩), by go_simp, rfl⟩
        · refine step_pure fun sg ly a wr hl hd hW hF => ?_
          simp [Region.binds] at hd
          have et37 := hF.new 4 37 (by simp [hd]) rfl
          simp [RfV, Act.eval] at et37
          exact ⟨by simpa [RfW, upd] using hW, .pointer (some ⟨c.wb, 0, none⟩), by go_simp, rfl⟩
        · refine step_pure fun sg ly a wr hl hd hW hF => ?_
          simp [Region.binds] at hd
          have et38 := hF.new 5 38 (by simp [hd]) rfl
          simp [RfV, Act.eval] at et38
          exact ⟨by simpa [RfW, upd] using hW, .pointer (some ⟨c.wb, 3, none⟩), by go_simp, rfl⟩
        · refine step_pure fun sg ly a wr hl hd hW hF => ?_
          simp [Region.binds] at hd
          have et39 := hF.new 6 39 (by simp [hd]) rfl
          simp [RfV, Act.eval] at et39
          have nL_8 := hF.notYet 7 8 hl (by kernel_rfl)
          have nL := hF.notYet 8 10 nL_8 (by kernel_rfl)
          have hW' := hW
          unfold RfW at hW'
          rw [if_neg (by simp [nL])] at hW'
          subst hW'
          exact ⟨by unfold RfW; rw [if_neg (by simp [upd, nL])], _, by go_simp, rfl⟩
        · refine step_pure fun sg ly a wr hl hd hW hF => ?_
          simp [Region.binds] at hd
          have et36 := hF.new 3 36 (by simp [hd]) rfl
          simp [RfV, Act.eval] at et36
          have et40 := hF.new 7 40 (by simp [hd]) rfl
          simp [RfV, Act.eval] at et40
          exact ⟨by simpa [RfW, upd] using hW, .agg #[.slice (some ⟨c.gb, 0, none⟩) n c.c1, .slice (some ⟨c.ub, 0, none⟩) m c.c2], by go_simp, rfl⟩
        · refine step_pure fun sg ly a wr hl hd hW hF => ?_
          have et11 := hF.old 11 (by kernel_rfl)
          simp [Act.eval] at et11
          exact ⟨by simpa [RfW, upd] using hW, .int .i64 i, by go_simp, rfl⟩
        · refine step_store rfl fun sg ly a wr hl hd hW hF => ?_
          simp [Region.binds] at hd
          have et6 := hF.old 6 (by kernel_rfl)
          simp [Act.eval] at et6
          have et41 := hF.new 8 41 (by simp [hd]) rfl
          simp [RfV, Act.eval] at et41
          have hW' := hW
          unfold RfW at hW'
          rw [if_neg (by simp [hl])] at hW'
          subst hW'
          refine ⟨((w3.setCell ⟨rb, 0, none⟩ (.slice (some ⟨c.gb, 0, none⟩) n c.c1)).setCell ⟨rb, 1, none⟩ (.slice (some ⟨c.ub, 0, none⟩) m c.c2)).drew, (), .skip, by go_simp, .inl rfl, by unfold RfW; rw [if_pos (by simp [upd])], fun _ _ _ h => h⟩
        · refine step_pure fun sg ly a wr hl hd hW hF => ?_
          simp [Region.binds] at hd
          have et42 := hF.new 9 42 (by simp [hd]) rfl
          simp [RfV, Act.eval] at et42
          exact ⟨by simpa [RfW, upd] using hW, .int .i64 i, by go_simp, rfl⟩
        · refine step_pure fun sg ly a wr hl hd hW hF => ?_
          exact ⟨by simpa [RfW, upd] using hW, .int .i64 0, by go_simp, rfl⟩
      intro _ a w5 hWW hF
      have e7 := hF.new 11 7 (by decide) rfl
      have e8 := hF.new 12 8 (by decide) rfl
      obtain ⟨f3, hf3, rfl⟩ := hF.lit
      rw [← hf3] at e7 e8
      simp only [RfV] at e7 e8
      have hw5 : w5 = ((w3.setCell ⟨rb, 0, none⟩ (.slice (some ⟨c.gb, 0, none⟩) n c.c1)).setCell ⟨rb, 1, none⟩ (.slice (some ⟨c.ub, 0, none⟩) m c.c2)).drew := by
        have h5 := hWW
        unfold RfW at h5
        rwa [if_pos (by simp)] at h5
      clear hf3 hF hWW
      simp only [List.filterMap, List.foldl, List.setIfInBounds_toArray, List.set_cons_succ, List.set_cons_zero, e7, e8]
      clear e7 e8
      have hr5 : w5.heap[rb]? = some (.cells #[.slice (some ⟨c.gb, 0, none⟩) n c.c1, .slice (some ⟨c.ub, 0, none⟩) m c.c2] 42 (0, 0)) := by rw [hw5]; exact heap_set (heap_set HF.out.2.2.2.1 0 _) 1 _
      have kp5 : Keep [rb] w3 w5 := by rw [hw5]; exact (((Keep.refl _ _).setCell (.inl (by simp)) _).setCell (.inl (by simp)) _).drew
      have S5 : WkS c w5 w5 (stN p l s l.hours.toNat) := ⟨Keep.refl _ _, HF.out.2.2.2.2.2.1.br.keepS kp5 (by simpa using hrn.1.symm), HF.out.2.2.2.2.2.1.bu.keepS kp5 (by simpa using hrn.2.1.symm)⟩
      have H5 := Lib.hid (And.intro hr5 (And.intro kp5 S5))
      clear hw5 hr5 kp5 S5
      go_wp2_with fail
      refine bodyPost_ret (stt_results rfl H5.out.1 _ _ _ rfl rfl rfl) rfl ?_
      have hl5 := H5.out.2.2.len
      refine ⟨some ⟨c.gb, 0, none⟩, c.c1, some ⟨c.ub, 0, none⟩, c.c2, ?_, ?_, HF.out.2.2.2.2.1.trans (H5.out.2.1.below HF.out.2.2.2.2.1.size (by simpa using hrw)), (fun b o h => by injection h with h; injection h with h _ _; omega), (fun b o h => by injection h with h; injection h with h _ _; omega)⟩
      · rw [HF.out.1, HF.out.2.1, HF.out.2.2.1]
        simp only [sttV]
        rw [hl5.1, hl5.2, ← HF.out.2.2.2.2.2.2.1, ← HF.out.2.2.2.2.2.2.2]; rfl
      · rw [HF.out.2.2.1]; exact wk_sttB H5.out.2.2
    · have hnb : (er != 0) = true := by simpa using her
      have hvv : runV p s l = ⟨[], []⟩ := by unfold runV; rw [if_neg (by rw [hv.1]; exact her)]
      have HF := Lib.hid (And.intro hv.1 (And.intro hv.2 (And.intro hvv (And.intro hr3 bw3))))
      clear hv hvv hr3 bw3 her hok kp hrr
      go_wp2_with fail
      refine bodyPost_ret (stt_results rfl (heap_set (heap_set HF.out.2.2.2.1 0 (.slice none 0 0)) 1 (.slice none 0 0)) _ _ _ rfl rfl rfl) rfl ?_
      refine ⟨none, 0, none, 0, ?_, ?_, (HF.out.2.2.2.2.setCell hrw _).setCell hrw _, (fun _ _ h => by cases h), (fun _ _ h => by cases h)⟩
      · rw [HF.out.1, HF.out.2.1, HF.out.2.2.1]; rfl
      · rw [HF.out.2.2.1]; exact stt_nil _ _
end Go.Proofs.Ythmldeningpjbaa
/- Drawn: a function that yields numbers below a bound, one after the other -/
namespace Go.Proofs.Ythmldeningpjbaa
open Go Go.RowKit Sp

def byts (l : List Int) : List Value := l.map (Value.int .u8)
theorem byts_get {l : List Int} {k : Nat} (h : k < l.length) : (byts l)[k]? = some (.int .u8 (l.getD k 0)) := by simp [byts, h]
/-- the bytes l, k of which have been drawn; ib, lb: the closure's cells -/
structure DrawSt (w : World) (ib lb : Nat) (A : Option Addr) (c : Nat) (l : List Int) (k : Nat) : Prop where
  cnt : w.heap[ib]? = some (.cells #[.int .i64 (min k l.length : Nat)] 3 (0, 0))
  lst : w.heap[lb]? = some (.cells #[.slice A l.length c] 22 (0, 0))
  rd : Rd w 1 A l.length (byts l)
theorem DrawSt.keep {w w' : World} {ib lb : Nat} {A : Option Addr} {c : Nat} {l : List Int} {k : Nat} (h : DrawSt w ib lb A c l k) {S : List Nat} (hk : Keep S w w') (h1 : ib ∉ S) (h2 : lb ∉ S) (h3 : 0 < l.length → ∀ b off, A = some ⟨b, off, none⟩ → b ∉ S) : DrawSt w' ib lb A c l k :=
  ⟨(hk.block _ (heap_lt h.cnt) h1).trans h.cnt, (hk.block _ (heap_lt h.lst) h2).trans h.lst, h.rd.1, fun h0 => (hk.rd h.rd (h3 h0)).2 h0⟩
def draw (l : List Int) (k : Nat) (n : Int) : Int := l.getD k 0 % n
theorem draw_range {l : List Int} (k : Nat) {n : Int} (hn : 0 < n) : 0 ≤ draw l k n ∧ draw l k n < n := ⟨Int.emod_nonneg _ (by omega), Int.emod_lt_of_pos _ hn⟩

def Bytes (l : List Int) : Prop := ∀ x ∈ l, 0 ≤ x ∧ x ≤ 255
theorem Bytes.get {l : List Int} (h : Bytes l) (k : Nat) : 0 ≤ l.getD k 0 ∧ l.getD k 0 ≤ 255 := by
  rw [List.getD_eq_getElem?_getD]
  cases hk : l[k]? with
  | none => simp
  | some x => exact h x (List.mem_of_getElem? hk)

def NextPost (w : World) (ib lb : Nat) (A : Option Addr) (c : Nat) (l : List Int) (k : Nat) (n : Int) (e : Ending) (w' : World) : Prop :=
  e = .returned (.int .i64 (draw l k n)) ∧ DrawSt w' ib lb A c l (k + 1) ∧ Keep [ib] w w' ∧ w'.heap.size = w.heap.size

set_option maxHeartbeats 1000000 in
theorem next_any (ib lb : Nat) (A : Option Addr) (c : Nat) (l : List Int) (k : Nat) (n : Int) (w : World) (h : DrawSt w ib lb A c l k) (hl : Bytes l) (hm : l.length ≤ 9223372036854775806) (hne : ib ≠ lb) (hA : 0 < l.length → ∀ b off, A = some ⟨b, off, none⟩ → b ≠ ib) (hn : 0 < n ∧ n ≤ 1000) :
    Calls Try.prog 70 #[.int .i64 n, .pointer (some ⟨ib, 0, none⟩), .pointer (some ⟨lb, 0, none⟩)] w (NextPost w ib lb A c l k n) := by
  have ci : w.cell? ⟨ib, 0, none⟩ = some (.int .i64 (min k l.length : Nat)) := (cell_of_heap h.cnt 0).trans rfl
  have cl : w.cell? ⟨lb, 0, none⟩ = some (.slice A l.length c) := (cell_of_heap h.lst 0).trans rfl
  have fi := frozen_of_heap h.cnt 0
  have zi := heap_lt h.cnt
  have zl := heap_lt h.lst
  obtain ⟨hn1, hn2⟩ := hn
  have H := Lib.hid h
  by_cases hk : k < l.length
  · obtain ⟨b, off, u, rfl, hb, hu, hc⟩ := h.rd.one hk
    rw [byts_get hk] at hu
    obtain rfl : Value.int .u8 (l.getD k 0) = u := by injection hu
    obtain ⟨x, hx⟩ : ∃ x, x = l.getD k 0 := ⟨_, rfl⟩
    have hxr := hl.get k
    rw [← hx] at hc hxr
    have hbi : b ≠ ib := hA (by omega) b off rfl
    have e1 : (min k l.length : Nat) = k := by omega
    rw [e1] at ci
    have e2 := World.cell?_setCell_same w ⟨ib, 0, none⟩ (.int .i64 ((k : Int) + 1)) ci
    have HX := Lib.hid hx
    clear h hx hu e1
    go_enter Try.func70, Try.ntmps70
    go_wp2
    go_ret
    have K : Keep [ib] w (w.setCell ⟨ib, 0, none⟩ (.int .i64 ((k : Int) + 1))) := (Keep.refl _ _).setCell (.inl (by simp)) _
    refine ⟨by rw [draw, ← HX.out]; rfl, ⟨?_, (K.block _ zl (by simp; omega)).trans H.out.lst, K.rd H.out.rd fun b' off' e => by have := hA (by omega) b' off' e; simpa using this⟩, K, by simp [World.setCell]⟩
    rw [heap_set H.out.cnt, show min (k + 1) l.length = k + 1 from by omega]
    rfl
  · have e1 : (min k l.length : Nat) = l.length := by omega
    rw [e1] at ci
    have HE := Lib.hid e1
    clear h e1
    go_enter Try.func70, Try.ntmps70
    go_wp2
    go_ret
    refine ⟨?_, ⟨?_, H.out.lst, H.out.rd⟩, Keep.refl _ _, rfl⟩
    · rw [draw, List.getD_eq_getElem?_getD, List.getElem?_eq_none (by omega)]; simp
    · rw [H.out.cnt, show min (k + 1) l.length = min k l.length from by omega]

theorem Drawn_any (A : Option Addr) (c : Nat) (l : List Int) (w : World) (hr : Rd w 1 A l.length (byts l)) :
    Calls Try.prog 16 #[.slice A l.length c] w fun e w' => e = .returned (.func (.func 70) #[] #[.pointer (some ⟨w.heap.size + 1, 0, none⟩), .pointer (some ⟨w.heap.size, 0, none⟩)]) ∧ DrawSt w' (w.heap.size + 1) w.heap.size A c l 0 ∧ Below w.heap.size w w' ∧ w'.heap.size = w.heap.size + 2 := by
  go_enter Try.func16, Try.ntmps16
  go_wp2
  go_ret
  have b : Below w.heap.size w ((w.alloc (.cells #[.slice A l.length c] 22)).alloc (.cells #[.int .i64 0] 3)) := ((Below.refl _ _).alloc (Nat.le_refl _) _).alloc (by simp) _
  refine ⟨rfl, ⟨?_, heap_alloc' (heap_alloc_new _ _) _, hr.below b⟩, b, by simp⟩
  have := heap_alloc_new (w.alloc (.cells #[.slice A l.length c] 22)) (.cells #[.int .i64 0] 3)
  rw [World.size_alloc] at this
  rw [this]; simp
end Go.Proofs.Ythmldeningpjbaa
/- a function that yields numbers: what a call of it gives, and what stays -/
namespace Go.Proofs.Ythmldeningpjbaa
open Go Go.RowKit Go.Lib Sp
set_option linter.unusedVariables false

/-- a function that yields numbers; its bytes lie below D, its cells from D on -/
def NxS (D : Nat) (w : World) (ib lb : Nat) : Prop := ∃ A c l k, DrawSt w ib lb A c l k ∧ Bytes l ∧ l.length ≤ 9223372036854775806 ∧ ib ≠ lb ∧ D ≤ ib ∧ D ≤ lb ∧ (0 < l.length → ∀ b off, A = some ⟨b, off, none⟩ → b < D)
theorem NxS.keep {D : Nat} {w w' : World} {ib lb : Nat} (h : NxS D w ib lb) {S : List Nat} (hk : Keep S w w') (hS : ∀ x ∈ S, D ≤ x ∧ x ≠ ib ∧ x ≠ lb) : NxS D w' ib lb := by
  obtain ⟨A, c, l, k, h1, h2, h3, h4, h5, h6, h7⟩ := h
  exact ⟨A, c, l, k, h1.keep hk (fun e => (hS _ e).2.1 rfl) (fun e => (hS _ e).2.2 rfl) (fun h0 b off e hm => by have := h7 h0 b off e; have := (hS _ hm).1; omega), h2, h3, h4, h5, h6, h7⟩
theorem NxS.below {D : Nat} {w w' : World} {ib lb : Nat} (h : NxS D w ib lb) (hb : Below w.heap.size w w') : NxS D w' ib lb := h.keep (S := []) (Keep.of_below hb) (by simp)
theorem NxS.lt {D : Nat} {w : World} {ib lb : Nat} (h : NxS D w ib lb) : ib < w.heap.size ∧ lb < w.heap.size ∧ D ≤ ib ∧ D ≤ lb ∧ ib ≠ lb := by
  obtain ⟨A, c, l, k, h1, h2, h3, h4, h5, h6, h7⟩ := h
  exact ⟨heap_lt h1.cnt, heap_lt h1.lst, h5, h6, h4⟩
def SomePost (D : Nat) (w : World) (ib lb : Nat) (n : Int) (e : Ending) (w' : World) : Prop := ∃ x : Int, e = .returned (.int .i64 x) ∧ (0 ≤ x ∧ x < n) ∧ NxS D w' ib lb ∧ Keep [ib] w w' ∧ w'.heap.size = w.heap.size
theorem next_some {D : Nat} {ib lb : Nat} (n : Int) {w : World} (h : NxS D w ib lb) (hn : 0 < n ∧ n ≤ 1000) :
    Calls Try.prog 70 #[.int .i64 n, .pointer (some ⟨ib, 0, none⟩), .pointer (some ⟨lb, 0, none⟩)] w (SomePost D w ib lb n) := by
  obtain ⟨A, c, l, k, h1, h2, h3, h4, h5, h6, h7⟩ := h
  refine (next_any ib lb A c l k n w h1 h2 h3 h4 (fun h0 b off e => by have := h7 h0 b off e; omega) hn).mono ?_
  rintro e w' ⟨rfl, q1, q2, q3⟩
  exact ⟨_, rfl, draw_range k hn.1, ⟨A, c, l, k + 1, q1, h2, h3, h4, h5, h6, h7⟩, q2, q3⟩
def DrawnPost (D : Nat) (w : World) (e : Ending) (w' : World) : Prop := ∃ ib lb, e = .returned (.func (.func 70) #[] #[.pointer (some ⟨ib, 0, none⟩), .pointer (some ⟨lb, 0, none⟩)]) ∧ NxS D w' ib lb ∧ w.heap.size ≤ ib ∧ w.heap.size ≤ lb ∧ Below w.heap.size w w'
theorem Drawn_some (D : Nat) (A : Option Addr) (c : Nat) (l : List Int) (w : World) (hr : Rd w 1 A l.length (byts l)) (hb : Bytes l) (hl : l.length ≤ 9223372036854775806) (hD : D ≤ w.heap.size) (hA : 0 < l.length → ∀ b off, A = some ⟨b, off, none⟩ → b < D) :
    Calls Try.prog 16 #[.slice A l.length c] w (DrawnPost D w) := by
  refine (Drawn_any A c l w hr).mono ?_
  rintro e w' ⟨rfl, h1, h2, h3⟩
  exact ⟨_, _, rfl, ⟨A, c, l, 0, h1, hb, hl, by omega, by omega, hD, hA⟩, by omega, Nat.le_refl _, h2⟩
end Go.Proofs.Ythmldeningpjbaa
/- One element put behind the others of a list that lies in a struct, numbers being drawn on the way, in a region that draws its order. -/
namespace Go.Proofs.Ythmldeningpjbaa
open Go Go.RowKit Sp

structure ApC where
  ib : Nat
  lb : Nat
  k0 : Nat
  A0 : Option Addr
  c0 : Nat
  l0 : List Int
  ob : Nat
  e : TypeId
  sz : Nat
  k : Nat
  A : Option Addr
  c : Nat
  xs : List Value
  q : List Nat
  ys : List Value
  old : Array Value
  new : Option Addr → Nat → Array Value
  t : TypeId
structure ApS where
  bs : Nat
  A : Option Addr
  c : Nat
  g : Nat
structure ApOk (C : ApC) (W0 : World) : Prop where
  dr : DrawSt W0 C.ib C.lb C.A0 C.c0 C.l0 C.k0
  own : OwnS W0 C.e C.sz C.A C.k C.c C.xs C.q
  hob : W0.heap[C.ob]? = some (.cells C.old C.t (0, 0))
  obq : C.ob ∉ C.q
  oib : C.ob ≠ C.ib
  olb : C.ob ≠ C.lb
  ibq : C.ib ∉ C.q
  lbq : C.lb ∉ C.q
  ne : C.ib ≠ C.lb
  apart : 0 < C.l0.length → ∀ b off, C.A0 = some ⟨b, off, none⟩ → b ≠ C.ib ∧ b ≠ C.ob ∧ b ∉ C.q
  byt : Bytes C.l0
  len : C.l0.length ≤ 9223372036854775806
structure ApW (C : ApC) (opB opA opS : Nat) (cnt : (Nat → Bool) → Nat) (W0 : World) (s : ApS) (l : Nat → Bool) (w : World) : Prop where
  kp : Keep (C.ib :: C.ob :: C.q) W0 w
  dr : DrawSt w C.ib C.lb C.A0 C.c0 C.l0 (C.k0 + cnt l)
  own0 : l opA = false → OwnS w C.e C.sz C.A C.k C.c C.xs C.q
  own1 : l opA = true → OwnS w C.e C.sz s.A (C.k + 1) s.c (C.xs ++ C.ys) [s.g] ∧ (s.g ∈ C.q ∨ W0.heap.size ≤ s.g)
  hob : w.heap[C.ob]? = some (.cells (if l opS then C.new s.A s.c else C.old) C.t (0, 0))
  hbs : l opB = true → W0.heap.size ≤ s.bs ∧ w.heap[s.bs]? = some (.cells C.ys.toArray C.e (0, 0))
section
variable {C : ApC} {opB opA opS : Nat} {cnt : (Nat → Bool) → Nat} {W0 w w' : World} {s : ApS} {l : Nat → Bool}
theorem upd_ne {l : Nat → Bool} {i j : Nat} (h : i ≠ j) : upd l i j = l j := by simp [upd, Ne.symm h]
theorem upd_eq {l : Nat → Bool} {i : Nat} : upd l i i = true := by simp [upd]
theorem ApOk.start (O : ApOk C W0) (h : cnt (fun _ => false) = 0) : ApW C opB opA opS cnt W0 s (fun _ => false) W0.drew :=
  ⟨(Keep.refl _ _).drew, by rw [h]; exact O.dr.keep (S := []) ((Keep.refl _ _).drew) (by simp) (by simp) (by simp), fun _ => O.own, (fun h => by cases h), by rw [if_neg (by simp)]; exact O.hob, (fun h => by cases h)⟩
theorem ApOk.fresh (O : ApOk C W0) (H : ApW C opB opA opS cnt W0 s l w) (hb : l opB = true) : s.bs ≠ C.ib ∧ s.bs ≠ C.lb ∧ s.bs ≠ C.ob ∧ s.bs ∉ C.q := by
  have h1 := (H.hbs hb).1
  have h2 := heap_lt O.dr.cnt
  have h3 := heap_lt O.dr.lst
  have h4 := heap_lt O.hob
  exact ⟨by omega, by omega, by omega, fun h => by have := O.own.lt _ h; omega⟩
theorem ApW.call (H : ApW C opB opA opS cnt W0 s l w) (O : ApOk C W0) (i : Nat) (hi : i ≠ opB ∧ i ≠ opA ∧ i ≠ opS) (hd : DrawSt w' C.ib C.lb C.A0 C.c0 C.l0 (C.k0 + cnt (upd l i))) (hk : Keep [C.ib] w w') : ApW C opB opA opS cnt W0 s (upd l i) w' := by
  obtain ⟨a1, a2, a3⟩ := hi
  have h2 := heap_lt O.dr.cnt
  refine ⟨H.kp.trans hk (fun x hx => .inl (by simp at hx; simp [hx])), hd, ?_, ?_, ?_, ?_⟩
  · rw [upd_ne a2]; exact fun e => (H.own0 e).keepS hk (fun g hg => by simp; rintro rfl; exact O.ibq hg)
  · rw [upd_ne a2]
    refine fun e => ⟨(H.own1 e).1.keepS hk (fun g hg => ?_), (H.own1 e).2⟩
    rw [List.mem_singleton.1 hg]
    simp only [List.mem_singleton]
    rintro e2
    rcases (H.own1 e).2 with e3 | e3
    · exact O.ibq (e2 ▸ e3)
    · omega
  · rw [upd_ne a3]; exact (hk.block _ (heap_lt H.hob) (by simpa using O.oib)).trans H.hob
  · rw [upd_ne a1]; exact fun e => ⟨(H.hbs e).1, (hk.block _ (heap_lt (H.hbs e).2) (by simpa using (O.fresh H e).1)).trans (H.hbs e).2⟩
theorem ApW.other (H : ApW C opB opA opS cnt W0 s l w) (O : ApOk C W0) (i : Nat) (hi : i ≠ opB ∧ i ≠ opA ∧ i ≠ opS) (hc : cnt (upd l i) = cnt l) : ApW C opB opA opS cnt W0 s (upd l i) w :=
  H.call O i hi (by rw [hc]; exact H.dr) (Keep.refl _ _)
theorem ApW.next (H : ApW C opB opA opS cnt W0 s l w) (O : ApOk C W0) (m : Int) (hm : 0 < m ∧ m ≤ 1000) :
    Calls Try.prog 70 #[.int .i64 m, .pointer (some ⟨C.ib, 0, none⟩), .pointer (some ⟨C.lb, 0, none⟩)] w (NextPost w C.ib C.lb C.A0 C.c0 C.l0 (C.k0 + cnt l) m) :=
  next_any C.ib C.lb C.A0 C.c0 C.l0 (C.k0 + cnt l) m w H.dr O.byt O.len O.ne (fun h0 b off e => (O.apart h0 b off e).1) hm
theorem ApW.build (H : ApW C opB opA opS cnt W0 s l w) (O : ApOk C W0) (hn : opB ≠ opA ∧ opB ≠ opS) (hc : cnt (upd l opB) = cnt l) : ApW C opB opA opS cnt W0 { s with bs := w.heap.size } (upd l opB) (w.alloc (.cells C.ys.toArray C.e)) := by
  refine ⟨H.kp.alloc _, ?_, ?_, ?_, ?_, fun _ => ⟨H.kp.size, heap_alloc_new _ _⟩⟩
  · rw [hc]; exact H.dr.keep (S := []) ((Keep.refl _ _).alloc _) (by simp) (by simp) (by simp)
  · rw [upd_ne hn.1]; exact fun e => (H.own0 e).alloc _
  · rw [upd_ne hn.1]; exact fun e => ⟨(H.own1 e).1.alloc _, (H.own1 e).2⟩
  · rw [upd_ne hn.2]; exact heap_alloc' H.hob _
theorem ApW.app (H : ApW C opB opA opS cnt W0 s l w) (O : ApOk C W0) (hn : opB ≠ opA ∧ opA ≠ opS) (hc : cnt (upd l opA) = cnt l) (h8 : l opB = true) (h9 : l opA = false) (h11 : l opS = false) {g c' : Nat} (o1 : OwnS w' C.e C.sz (some ⟨g, 0, none⟩) (C.k + 1) c' (C.xs ++ C.ys) [g]) (o2 : g ∈ C.q ∨ w.heap.size = g) (o3 : Keep C.q w w') :
    ApW C opB opA opS cnt W0 { s with A := some ⟨g, 0, none⟩, c := c', g := g } (upd l opA) w' := by
  have hh := H.hob
  rw [h11, if_neg (by simp)] at hh
  refine ⟨H.kp.trans o3 (fun x hx => .inl (by simp [hx])), ?_, ?_, ?_, ?_, ?_⟩
  · rw [hc]; exact H.dr.keep o3 O.ibq O.lbq (fun h0 b off e => (O.apart h0 b off e).2.2)
  · rw [upd_eq]; exact fun e => by cases e
  · exact fun _ => ⟨o1, by rcases o2 with e | e; exact .inl e; exact .inr (by have := H.kp.size; simp only; omega)⟩
  · rw [upd_ne hn.2, h11, if_neg (by simp)]; exact (o3.block _ (heap_lt hh) O.obq).trans hh
  · rw [upd_ne hn.1.symm]
    exact fun e => ⟨(H.hbs e).1, (o3.block _ (heap_lt (H.hbs e).2) (O.fresh H e).2.2.2).trans (H.hbs e).2⟩
theorem ApW.store (H : ApW C opB opA opS cnt W0 s l w) (O : ApOk C W0) (hn : opB ≠ opS ∧ opA ≠ opS) (hc : cnt (upd l opS) = cnt l) (j : Nat) (hnew : ∀ A c, C.new A c = C.old.setIfInBounds j (.slice A (C.k + 1) c)) (h9 : l opA = true) (h11 : l opS = false) :
    ApW C opB opA opS cnt W0 s (upd l opS) (w.setCell ⟨C.ob, j, none⟩ (.slice s.A (C.k + 1) s.c)) := by
  have hh := H.hob
  rw [h11, if_neg (by simp)] at hh
  have K : Keep [C.ob] w (w.setCell ⟨C.ob, j, none⟩ (.slice s.A (C.k + 1) s.c)) := (Keep.refl _ _).setCell (.inl (by simp)) _
  refine ⟨H.kp.setCell (.inl (by simp)) _, ?_, ?_, ?_, ?_, ?_⟩
  · rw [hc]; exact H.dr.keep K (by simpa using O.oib.symm) (by simpa using O.olb.symm) (fun h0 b off e => by simpa using (O.apart h0 b off e).2.1)
  · rw [upd_ne hn.2.symm, h9]; exact fun e => by cases e
  · rw [upd_ne hn.2.symm]
    refine fun e => ⟨(H.own1 e).1.keepS K (fun g hg => ?_), (H.own1 e).2⟩
    rw [List.mem_singleton.1 hg]
    simp only [List.mem_singleton]
    rintro e2
    rcases (H.own1 e).2 with e3 | e3
    · exact O.obq (e2 ▸ e3)
    · have := heap_lt O.hob; omega
  · rw [upd_eq, if_pos rfl, hnew]; exact heap_set hh j _
  · rw [upd_ne hn.1.symm]
    exact fun e => ⟨(H.hbs e).1, (K.block _ (heap_lt (H.hbs e).2) (by simpa using (O.fresh H e).2.2.1)).trans (H.hbs e).2⟩
/-- the append itself -/
theorem ApW.at_append {P : Program} {o : Oper} {a : Act} {K : Act → World → Prop} {Q : Exit → Act → World → Prop} (H : ApW C opB opA opS cnt W0 s l w) (O : ApOk C W0) (x y : Operand) (t : TypeId)
    (ho : o.op = .call { callee := .builtin .append, args := #[x, y], argTypes := #[t, t] })
    (i : TypeInfo) (z : Value) (bytes : Nat) (ht : P.underlying t = some (.slice C.e)) (hi : P.info? C.e = some i) (hz : i.zero = some z)
    (hsize : i.size = C.sz) (hs0 : 0 < C.sz) (hby : i.bytes = bytes) (hzs : z.cells.size = C.sz) (hs : a.eval x = .slice C.A C.k C.c) (hx : a.eval y = .slice (some ⟨s.bs, 0, none⟩) 1 1)
    (hys : C.ys.length = C.sz) (h1 : ∀ u ∈ C.ys, u.oneCell' = true) (hk : C.k + 1 ≤ 1000000000000) (hbytes : bytes ≤ 100) (hn : opB ≠ opA ∧ opA ≠ opS) (hc : cnt (upd l opA) = cnt l) (h8 : l opB = true) (h9 : l opA = false) (h11 : l opS = false)
    (h : ∀ g c' w', ApW C opB opA opS cnt W0 { s with A := some ⟨g, 0, none⟩, c := c', g := g } (upd l opA) w' → K (a.put o.dst (.slice (some ⟨g, 0, none⟩) (C.k + 1) c')) w') : o.wp P a w K Q := by
  have hbs := H.hbs h8
  refine wp_append_S x y t ho i z bytes ht hi hz hsize hs0 hby hzs hs ⟨s.bs, 0, none⟩ hx C.ys (H.own0 h9) hys (fun j v hj => by rw [show (⟨s.bs, 0, none⟩ : Addr).add j = ⟨s.bs, j, none⟩ from by simp [Addr.add]; omega]; exact (cell_of_heap hbs.2 j).trans (by simpa using hj)) h1 hk hbytes ?_
  intro g c' w' o1 o2 o3 o4
  exact h g c' w' (H.app O hn hc h8 h9 h11 o1 o2 o4)
end
end Go.Proofs.Ythmldeningpjbaa
