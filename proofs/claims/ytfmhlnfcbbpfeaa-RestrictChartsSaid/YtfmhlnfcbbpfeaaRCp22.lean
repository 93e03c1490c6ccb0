/- ice.AgeChart, of a right chart, rates and hours (printed by wip/tools/agec.py) -/
import Derived.Test.YtfmhlnfcbbpfeaaRCp21
import Derived.Test.YtfmhlnfcbbpfeaaRCp15
import Derived.Test.YtfmhlnfcbbpfeaaRCp6
import Derived.Test.YtfmhlnfcbbpfeaaRCp0
import Derived.Test.YtfmhlnfcbbpfeaaRCp2
set_option linter.unusedVariables false
namespace Go.Proofs.Ytfmhlnfcbbpfeaa
open Go Go.RowKit Go.Lib Sp
set_option linter.unusedVariables false
set_option linter.unusedSimpArgs false

theorem infoCel : (Try.prog.info? 123).map (fun i => (i.zero, i.size, i.bytes)) = some (some (.agg #[.int .i64 0, .int .i64 0, .int .i64 0, .int .i64 0, .int .i64 0, .int .i64 0, .int .i64 0, .int .i64 0]), 8, 64) := by kernel_rfl
theorem cels_snoc (l : List Cel) (x : Cel) : cels (l ++ [x]) = cels l ++ cel x := by simp [cels]
structure AcS where
  bs : Nat
  A : Option Addr
  c : Nat
  g : Nat
/-- while a cell is put behind the others -/
structure AcW (W0 : World) (ob k : Nat) (y : Cel) (a b h : Int) (A : Option Addr) (c : Nat) (xs : List Value) (q : List Nat) (s : AcS) (l : Nat → Bool) (w : World) : Prop where
  kp : Keep (ob :: q) W0 w
  own0 : l 9 = false → OwnS w 123 8 A k c xs q
  own1 : l 9 = true → OwnS w 123 8 s.A (k + 1) s.c (xs ++ cel y) [s.g] ∧ (s.g ∈ q ∨ W0.heap.size ≤ s.g)
  hob : w.heap[ob]? = some (.cells (if l 11 then #[.int .i64 a, .int .i64 b, .int .i64 h, .slice s.A (k + 1) s.c] else #[.int .i64 a, .int .i64 b, .int .i64 h, .slice A k c]) 114 (0, 0))
  hbs : l 8 = true → W0.heap.size ≤ s.bs ∧ w.heap[s.bs]? = some (.cells (celA y) 123 (0, 0))
  nq : ob ∉ q ∧ ob < W0.heap.size
section
variable {W0 : World} {ob k : Nat} {y : Cel} {a b h : Int} {A : Option Addr} {c : Nat} {xs : List Value} {q : List Nat} {s : AcS} {l : Nat → Bool} {w w' : World}
theorem AcW.call (H : AcW W0 ob k y a b h A c xs q s l w) (i : Nat) (hi : i ≠ 8 ∧ i ≠ 9 ∧ i ≠ 11) (hb : Below w.heap.size w w') : AcW W0 ob k y a b h A c xs q s (upd l i) w' := by
  obtain ⟨a1, a2, a3⟩ := hi
  have K : Keep [] w w' := Keep.of_below hb
  refine ⟨H.kp.trans K (by simp), ?_, ?_, ?_, ?_, H.nq⟩
  · rw [upd_n (Ne.symm a2)]; exact fun e => (H.own0 e).keepS K (by simp)
  · rw [upd_n (Ne.symm a2)]; exact fun e => ⟨(H.own1 e).1.keepS K (by simp), (H.own1 e).2⟩
  · rw [upd_n (Ne.symm a3)]; exact (hb.block _ (heap_lt H.hob)).trans H.hob
  · rw [upd_n (Ne.symm a1)]; exact fun e => ⟨(H.hbs e).1, (hb.block _ (heap_lt (H.hbs e).2)).trans (H.hbs e).2⟩
theorem AcW.other (H : AcW W0 ob k y a b h A c xs q s l w) (i : Nat) (hi : i ≠ 8 ∧ i ≠ 9 ∧ i ≠ 11) : AcW W0 ob k y a b h A c xs q s (upd l i) w := H.call i hi (Below.refl _ _)
theorem AcW.build (H : AcW W0 ob k y a b h A c xs q s l w) (h9 : l 9 = false) (h11 : l 11 = false) : AcW W0 ob k y a b h A c xs q { s with bs := w.heap.size } (upd l 8) (w.alloc (.cells (celA y) 123)) := by
  refine ⟨H.kp.alloc _, ?_, ?_, ?_, ?_, H.nq⟩
  · rw [upd_n (show 9 ≠ 8 by decide)]; exact fun e => (H.own0 e).alloc _
  · rw [upd_n (show 9 ≠ 8 by decide), h9]; exact fun e => by cases e
  · have hh := H.hob
    rw [upd_n (show 11 ≠ 8 by decide), h11] at *
    exact heap_alloc' hh _
  · exact fun _ => ⟨H.kp.size, heap_alloc_new _ _⟩
theorem AcW.app (H : AcW W0 ob k y a b h A c xs q s l w) (h8 : l 8 = true) (h9 : l 9 = false) (h11 : l 11 = false) {g c' : Nat} (o1 : OwnS w' 123 8 (some ⟨g, 0, none⟩) (k + 1) c' (xs ++ cel y) [g]) (o2 : g ∈ q ∨ w.heap.size = g) (o3 : Keep q w w') (hbq : s.bs ∉ q) :
    AcW W0 ob k y a b h A c xs q { s with A := some ⟨g, 0, none⟩, c := c', g := g } (upd l 9) w' := by
  have e9 : upd l 9 9 = true := if_pos rfl
  refine ⟨H.kp.trans o3 (fun x hx => .inl (by simp [hx])), ?_, ?_, ?_, ?_, H.nq⟩
  · rw [e9]; exact fun e => by cases e
  · exact fun _ => ⟨o1, by rcases o2 with e | e; exact .inl e; exact .inr (by have := H.kp.size; simp only; omega)⟩
  · have hh := H.hob
    rw [upd_n (show 11 ≠ 9 by decide), h11] at *
    exact (o3.block _ (heap_lt hh) H.nq.1).trans hh
  · rw [upd_n (show 8 ≠ 9 by decide)]
    exact fun e => ⟨(H.hbs e).1, (o3.block _ (heap_lt (H.hbs e).2) hbq).trans (H.hbs e).2⟩
theorem AcW.store (H : AcW W0 ob k y a b h A c xs q s l w) (h9 : l 9 = true) (h11 : l 11 = false) (hbo : l 8 = true → s.bs ≠ ob) : AcW W0 ob k y a b h A c xs q s (upd l 11) (w.setCell ⟨ob, 3, none⟩ (.slice s.A (k + 1) s.c)) := by
  have e11 : upd l 11 11 = true := if_pos rfl
  have hh := H.hob
  rw [h11] at hh
  have K : Keep [ob] w (w.setCell ⟨ob, 3, none⟩ (.slice s.A (k + 1) s.c)) := (Keep.refl _ _).setCell (.inl (by simp)) _
  refine ⟨H.kp.setCell (.inl (by simp)) _, ?_, ?_, ?_, ?_, H.nq⟩
  · rw [upd_n (show 9 ≠ 11 by decide), h9]; exact fun e => by cases e
  · rw [upd_n (show 9 ≠ 11 by decide)]
    refine fun e => ⟨(H.own1 e).1.keepS K ?_, (H.own1 e).2⟩
    intro g hg
    rw [List.mem_singleton.1 hg]
    simp only [List.mem_singleton]
    rintro e2
    rcases (H.own1 e).2 with e3 | e3
    · exact H.nq.1 (e2 ▸ e3)
    · have := H.nq.2; omega
  · rw [e11]; exact heap_set hh 3 _
  · rw [upd_n (show 8 ≠ 11 by decide)]
    exact fun e => ⟨(H.hbs e).1, (K.block _ (heap_lt (H.hbs e).2) (by simpa using hbo e)).trans (H.hbs e).2⟩
end

set_option linter.unusedVariables false
def A1V (W0 : World) (a b c : Int) (A0 : Option Addr) (n0 ca : Nat) (u d : Ice) (s : Nat) : Nat → Value → Prop
  | 0, v => v = .agg #[.int .i64 a, .int .i64 b, .int .i64 c, .slice A0 n0 ca]
  | 1, v => v = .int .i64 0
  | 2, v => v = .agg (rtA u d)
  | 3, v => v = .int .i64 0
  | 4, v => v = .slice (some ⟨s, 0, none⟩) 2 2
  | 5, v => v = .int .i64 0
  | 6, v => v = .int .i64 0
  | _, _ => True
def A1W (W0 : World) (a b c : Int) (A0 : Option Addr) (n0 ca : Nat) (u d : Ice) (s : Nat) (l : Nat → Bool) (w : World) : Prop := Below W0.heap.size W0 w ∧ (l 4 = true → w.cell? ⟨s, 0, none⟩ = some (.int .i64 0) ∧ w.cell? ⟨s, 1, none⟩ = some (.int .i64 0))
set_option linter.unusedVariables false
def A2V (W0 : World) (ob xb rb k : Nat) (x y : Cel) (u d : Ice) (hh : Int) (a b h : Int) (A : Option Addr) (c : Nat) (xs : List Value) (q : List Nat) (s : AcS) : Nat → Value → Prop
  | 0, v => v = .pointer (some ⟨ob, 3, none⟩)
  | 1, v => v = .slice A k c
  | 2, v => v = .agg (celA x)
  | 3, v => v = .agg (celA x)
  | 4, v => v = .agg (rtA u d)
  | 5, v => v = .int .i64 hh
  | 6, v => v = .agg (celA y)
  | 7, v => v = .agg (celA y)
  | 8, v => v = .slice (some ⟨s.bs, 0, none⟩) 1 1
  | 9, v => v = .slice s.A (k + 1) s.c
  | 10, v => v = .pointer (some ⟨ob, 3, none⟩)
  | _, _ => True
def A2W (W0 : World) (ob xb rb k : Nat) (x y : Cel) (u d : Ice) (hh : Int) (a b h : Int) (A : Option Addr) (c : Nat) (xs : List Value) (q : List Nat) (s : AcS) (l : Nat → Bool) (w : World) : Prop := AcW W0 ob k y a b h A c xs q s l w

set_option maxRecDepth 100000 in
set_option maxHeartbeats 4000000 in
theorem age_ok (a0 b c : Int) (A : Option Addr) (ca : Nat) (l : List Cel) (u d : Ice) (h : Int) (w : World) (hr : Rd w 8 A l.length (cels l)) (hm : l.length ≤ 100000000) (h0 : chartE a0 b c l = 0) (hru : rtOk u d) (hh : 0 ≤ h ∧ h ≤ 10000 - c) (hc : 0 ≤ c) :
    Calls Try.prog 73 #[.agg #[.int .i64 a0, .int .i64 b, .int .i64 c, .slice A l.length ca], .agg (rtA u d), .int .i64 h] w fun e w' => ∃ A' c' q, e = .returned (.tuple #[.agg #[.int .i64 a0, .int .i64 b, .int .i64 (c + h), .slice A' l.length c'], .int .i64 0]) ∧ OwnS w' 123 8 A' l.length c' (cels (l.map fun x => ageCel x u d h)) q ∧ (∀ g ∈ q, w.heap.size ≤ g) ∧ Below w.heap.size w w' := by
  obtain ⟨f, hf0⟩ : ∃ f : Cel → Cel, f = fun x => ageCel x u d h := ⟨_, rfl⟩
  rw [← hf0]
  obtain ⟨h1, h2⟩ := hh
  obtain ⟨i0, hi', hz0, hz1, hz2⟩ := info_parts infoCel
  obtain ⟨W1, hW1⟩ : ∃ W, W = w.alloc (.cells #[.int .i64 a0, .int .i64 b, .int .i64 c, .slice A l.length ca] 114) := ⟨_, rfl⟩
  obtain ⟨W2, hW2⟩ : ∃ W, W = W1.alloc (.cells (rtA u d) 139) := ⟨_, rfl⟩
  obtain ⟨W, hW⟩ : ∃ W, W = W2.alloc (.cells #[.int .i64 0, .int .i64 0, .int .i64 0, .slice none 0 0] 114) := ⟨_, rfl⟩
  obtain ⟨ib, hib⟩ : ∃ b, b = w.heap.size := ⟨_, rfl⟩
  obtain ⟨rb, hrb⟩ : ∃ b, b = w.heap.size + 1 := ⟨_, rfl⟩
  obtain ⟨zb, hzb⟩ : ∃ b, b = w.heap.size + 1 + 1 := ⟨_, rfl⟩
  have s1 : W1.heap.size = w.heap.size + 1 := by rw [hW1]; simp
  have s2 : W2.heap.size = w.heap.size + 1 + 1 := by rw [hW2]; simp [s1]
  have gi : W.heap[ib]? = some (.cells #[.int .i64 a0, .int .i64 b, .int .i64 c, .slice A l.length ca] 114 (0, 0)) := by rw [hW, hW2, hW1, hib]; exact heap_alloc' (heap_alloc' (heap_alloc_new _ _) _) _
  have gr : W.heap[rb]? = some (.cells (rtA u d) 139 (0, 0)) := by rw [hW, hW2, hrb, ← s1]; exact heap_alloc' (heap_alloc_new _ _) _
  have gz : W.heap[zb]? = some (.cells #[.int .i64 0, .int .i64 0, .int .i64 0, .slice none 0 0] 114 (0, 0)) := by rw [hW, hzb, ← s2]; exact heap_alloc_new _ _
  have bW : Below w.heap.size w W := by rw [hW, hW2, hW1]; exact (((Below.refl _ _).alloc (Nat.le_refl _) _).alloc (by simp) _).alloc (by simp; omega) _
  have hzw : w.heap.size ≤ zb := by omega
  have hrW := hr.below bW
  have kc : ∀ wx, Below W.heap.size W wx → Calls Try.prog 65 #[.agg #[.int .i64 a0, .int .i64 b, .int .i64 c, .slice A l.length ca]] wx fun e w' => e = .returned (.int .i64 0) ∧ Below wx.heap.size wx w' := fun wx hx => by
    have := checkChart_any a0 b c A ca l wx (hrW.below hx) (by omega)
    rwa [h0] at this
  have hcok := chart_ok h0
  have HR := Lib.hid (And.intro gi (And.intro gr (And.intro kc (And.intro gz (And.intro bW (And.intro hzw hrW))))))
  have HO := Lib.hid (And.intro hru (And.intro hcok hf0))
  have w1 : IntKind.i64.wrap (10000 - c) = 10000 - c := IntWalk.i64_in _ (by omega)
  have w2 : IntKind.i64.wrap (c + h) = c + h := IntWalk.i64_in _ (by omega)
  have HWR := Lib.hid (And.intro w1 w2)
  clear gi gr gz bW hzw hrW kc hr h0 hru hcok s1 s2 hf0 w1 w2
  go_enter Try.func73, Try.ntmps73
  go_upto_region 1 with fail
  rw [← hzb, ← hrb, ← hib, ← hW1, ← hW2, ← hW]
  clear hW hW1 hW2 hib hrb hzb
  refine wp_region_steps (σ := Nat) (by kernel_rfl) (by kernel_rfl) (fun sg jx vx _ => A1V W a0 b c A l.length ca u d sg jx vx) (fun sg ly wx => A1W W a0 b c A l.length ca u d sg ly wx) 0 ?_ ?_ ?_
  · exact ⟨(Below.refl _ _).drew, fun h => by cases h⟩
  · simp only [AllFrom, Nat.zero_add, Nat.reduceAdd]
    refine ⟨?_, ?_, ?_, ?_, ?_, ?_, ?_, trivial⟩
    · refine step_pure fun sg ly a wr hl hd hW hF => ?_
      have et3 := hF.old 3 (by kernel_rfl)
      simp [Act.eval] at et3
      have hh := (hW.1.block _ (heap_lt HR.out.1)).trans HR.out.1
      have c0 := (cell_of_heap hh 0).trans rfl
      have c1 := (cell_of_heap hh 1).trans rfl
      have c2 := (cell_of_heap hh 2).trans rfl
      have c3 := (cell_of_heap hh 3).trans rfl
      exact ⟨by simpa [A1W, upd] using hW, _, by go_simp, rfl⟩
    · refine step_call fun sg ly a wr hl hd hW hF => ?_
      simp [Region.binds] at hd
      have et12 := hF.new 0 12 (by simp [hd]) rfl
      simp [A1V, Act.eval] at et12
      refine ⟨65, #[.agg #[.int .i64 a0, .int .i64 b, .int .i64 c, .slice A l.length ca]], by go_simp, ?_⟩
      refine (HR.out.2.2.1 wr hW.1).mono ?_
      rintro e w2 ⟨rfl, b2⟩
      exact ⟨_, sg, rfl, ⟨hW.1.trans (b2.mono hW.1.size), by simpa [upd] using (fun e => ⟨(b2.cell (World.block_lt_of_cell? _ _ (hW.2 e).1)).trans (hW.2 e).1, (b2.cell (World.block_lt_of_cell? _ _ (hW.2 e).2)).trans (hW.2 e).2⟩ : ly 4 = true → _)⟩, rfl, fun _ _ _ h => h⟩
    · refine step_pure fun sg ly a wr hl hd hW hF => ?_
      have et4 := hF.old 4 (by kernel_rfl)
      simp [Act.eval] at et4
      have hh := (hW.1.block _ (heap_lt HR.out.2.1)).trans HR.out.2.1
      have c0 := (cell_of_heap hh 0).trans rfl
      have c1 := (cell_of_heap hh 1).trans rfl
      have c2 := (cell_of_heap hh 2).trans rfl
      have c3 := (cell_of_heap hh 3).trans rfl
      have c4 := (cell_of_heap hh 4).trans rfl
      have c5 := (cell_of_heap hh 5).trans rfl
      have c6 := (cell_of_heap hh 6).trans rfl
      have c7 := (cell_of_heap hh 7).trans rfl
      exact ⟨by simpa [A1W, upd] using hW, _, by go_simp, rfl⟩
    · refine step_call fun sg ly a wr hl hd hW hF => ?_
      simp [Region.binds] at hd
      have et14 := hF.new 2 14 (by simp [hd]) rfl
      simp [A1V, Act.eval] at et14
      refine ⟨123, #[.agg (rtA u d)], by go_simp, ?_⟩
      refine (checkRates_ok u d HO.out.1 wr).mono ?_
      rintro e w2 ⟨rfl, b2⟩
      exact ⟨_, sg, rfl, ⟨hW.1.trans (b2.mono hW.1.size), by simpa [upd] using (fun e => ⟨(b2.cell (World.block_lt_of_cell? _ _ (hW.2 e).1)).trans (hW.2 e).1, (b2.cell (World.block_lt_of_cell? _ _ (hW.2 e).2)).trans (hW.2 e).2⟩ : ly 4 = true → _)⟩, rfl, fun _ _ _ h => h⟩
    · refine step_run fun sg ly a wr hl hd hW hF => ?_
      simp [Region.binds] at hd
      have et13 := hF.new 1 13 (by simp [hd]) rfl
      simp [A1V, Act.eval] at et13
      have et15 := hF.new 3 15 (by simp [hd]) rfl
      simp [A1V, Act.eval] at et15
      have hbx : Below wr.heap.size wr (wr.alloc (.cells #[.int .i64 0, .int .i64 0] 29)) := (Below.refl _ _).alloc (Nat.le_refl _) _
      refine ⟨.slice (some ⟨wr.heap.size, 0, none⟩) 2 2, wr.alloc (.cells #[.int .i64 0, .int .i64 0] 29), wr.heap.size, by go_simp, ⟨hW.1.trans (hbx.mono hW.1.size), fun _ => ⟨by simp [World.cell?_alloc_new], by simp [World.cell?_alloc_new]⟩⟩, rfl, ?_⟩
      intro i u hi h
      have i2 : i ≠ 4 := by rintro rfl; rw [hl] at hi; cases hi
      unfold A1V at h ⊢
      split at h <;> first | exact h | exact absurd rfl i2
    · refine step_call fun sg ly a wr hl hd hW hF => ?_
      simp [Region.binds] at hd
      have et16 := hF.new 4 16 (by simp [hd]) rfl
      simp [A1V, Act.eval] at et16
      have y := hW.2 (by simp [hd])
      refine ⟨122, #[.slice (some ⟨sg, 0, none⟩) 2 2], by go_simp, ?_⟩
      refine (first_zero sg wr y.1 y.2).mono ?_
      rintro e w2 ⟨rfl, rfl⟩
      exact ⟨_, sg, rfl, by simpa [A1W, upd] using hW, rfl, fun _ _ _ h => h⟩
    · refine step_pure fun sg ly a wr hl hd hW hF => ?_
      simp [Region.binds] at hd
      have et17 := hF.new 5 17 (by simp [hd]) rfl
      simp [A1V, Act.eval] at et17
      exact ⟨by simpa [A1W, upd] using hW, .int .i64 0, by go_simp, rfl⟩
  intro sg af w3 hWW hF
  have e8 := hF.new 6 8 (by decide) rfl
  obtain ⟨ff, hf, rfl⟩ := hF.lit
  rw [← hf] at e8
  simp only [A1V] at e8
  have H3 := Lib.hid hWW.1
  clear hf hF hWW
  simp only [List.filterMap, List.foldl, List.setIfInBounds_toArray, List.set_cons_succ, List.set_cons_zero, e8]
  clear e8
  have gi := (H3.out.block _ (heap_lt HR.out.1)).trans HR.out.1
  have c0 := (cell_of_heap gi 0).trans rfl
  have c1 := (cell_of_heap gi 1).trans rfl
  have c2 := (cell_of_heap gi 2).trans rfl
  have c3 := (cell_of_heap gi 3).trans rfl
  have zi := heap_lt gi
  have HGI := Lib.hid gi
  clear gi
  have ki : ∀ wx, Calls Try.prog 107 #[.int .i64 h, .int .i64 0, .int .i64 (10000 - c)] wx fun e w' => e = .returned (.bool true) ∧ wx = w' := fun wx => by
    have := icein_any h 0 (10000 - c) wx
    rwa [show within h 0 (10000 - c) = true from by simp only [within, Bool.and_eq_true, decide_eq_true_eq]; omega] at this
  have HKI := Lib.hid ki
  clear ki
  have w1 := HWR.out.1
  have w2 := HWR.out.2
  go_upto_region 7 with (go_at_call 107; refine (HKI.out _).mono ?_; rintro e w' ⟨rfl, rfl⟩)
  clear w1 w2 c0 c1 c2 c3 zi
  obtain ⟨w4, hw4⟩ : ∃ w4, w4 = w3.alloc (.cells #[.int .i64 a0, .int .i64 b, .int .i64 (c + h), .slice none 0 0] 114) := ⟨_, rfl⟩
  obtain ⟨ob, hob⟩ : ∃ ob, ob = w3.heap.size := ⟨_, rfl⟩
  have goh : w4.heap[ob]? = some (.cells #[.int .i64 a0, .int .i64 b, .int .i64 (c + h), .slice none 0 0] 114 (0, 0)) := by rw [hw4, hob]; exact heap_alloc_new _ _
  have b34 : Below W.heap.size W w4 := by rw [hw4]; exact H3.out.alloc H3.out.size _
  have hWob : W.heap.size ≤ ob := by have := H3.out.size; omega
  have gi4 := (b34.block _ (heap_lt HR.out.1)).trans HR.out.1
  have c3 := (cell_of_heap gi4 3).trans rfl
  have zi := heap_lt gi4
  have H4 := Lib.hid (And.intro goh (And.intro b34 gi4))
  rw [← hw4, ← hob]
  clear goh b34 gi4 hw4 hob
  go_wp2_with fail
  clear c3 zi
  go_loopw [41] (fun i wr => ∃ (k : Nat) (Ax : Option Addr) (cx : Nat) (q : List Nat), k ≤ l.length ∧ i = .int .i64 k ∧ wr.heap[ob]? = some (.cells #[.int .i64 a0, .int .i64 b, .int .i64 (c + h), .slice Ax k cx] 114 (0, 0)) ∧ OwnS wr 123 8 Ax k cx (cels ((l.take k).map f)) q ∧ (∀ g ∈ q, w4.heap.size ≤ g) ∧ Keep [ob] w4 wr) (fun i _ => l.length - (intOf i).toNat)
  case atStart => exact ⟨0, none, 0, [], Nat.zero_le _, rfl, H4.out.1, by simpa [cels] using OwnS.nil _ _ _, by simp, Keep.refl _ _⟩
  case round =>
    obtain ⟨k, Ax, cx, q, hk, rfl, hoh, hown, hnew, hK⟩ := hrel
    have HS := Lib.hid (And.intro hoh (And.intro hown (And.intro hnew hK)))
    clear hoh hown hnew hK
    by_cases hlt : k < l.length
    · obtain ⟨bl, ol, rfl, zl, hcl⟩ := (HR.out.2.2.2.2.2.2).2 (by omega)
      obtain ⟨x, hx⟩ : ∃ x, x = l[k] := ⟨_, rfl⟩
      obtain ⟨y, hy⟩ : ∃ y, y = f x := ⟨_, rfl⟩
      obtain ⟨s0, s1, s2, s3, s4, s5, s6, s7⟩ := cels_get hlt
      rw [← hx] at s0 s1 s2 s3 s4 s5 s6 s7
      have KC : ∀ {b o : Nat} {v : Value}, W.cell? ⟨b, o, none⟩ = some v → b < W.heap.size → wr.cell? ⟨b, o, none⟩ = some v := fun hc hb => HS.out.2.2.2.cell ((H4.out.2.1.cell hb).trans hc) (by simp; omega)
      have t0 := KC (hcl _ _ s0) zl
      have t1 : wr.cell? ⟨bl, ol + k*8 + 1, none⟩ = _ := KC (hcl _ _ s1) zl
      have t2 : wr.cell? ⟨bl, ol + k*8 + 2, none⟩ = _ := KC (hcl _ _ s2) zl
      have t3 : wr.cell? ⟨bl, ol + k*8 + 3, none⟩ = _ := KC (hcl _ _ s3) zl
      have t4 : wr.cell? ⟨bl, ol + k*8 + 4, none⟩ = _ := KC (hcl _ _ s4) zl
      have t5 : wr.cell? ⟨bl, ol + k*8 + 5, none⟩ = _ := KC (hcl _ _ s5) zl
      have t6 : wr.cell? ⟨bl, ol + k*8 + 6, none⟩ = _ := KC (hcl _ _ s6) zl
      have t7 : wr.cell? ⟨bl, ol + k*8 + 7, none⟩ = _ := KC (hcl _ _ s7) zl
      have hrbx : ∀ (j : Nat) v, (rtA u d)[j]? = some v → wr.cell? ⟨rb, j, none⟩ = some v := fun j v hv => KC ((cell_of_heap HR.out.2.1 j).trans hv) (heap_lt HR.out.2.1)
      have hrbl : rb < W.heap.size := heap_lt HR.out.2.1
      have n2 : (k : Int) < (l.length : Int) := by omega
      obtain ⟨WR, hWR⟩ : ∃ WR, WR = wr.alloc (.cells (celA x) 123) := ⟨_, rfl⟩
      obtain ⟨xb, hxb⟩ : ∃ xb, xb = wr.heap.size := ⟨_, rfl⟩
      have hxh : WR.heap[xb]? = some (.cells (celA x) 123 (0, 0)) := by rw [hWR, hxb]; exact heap_alloc_new _ _
      have hobl := heap_lt HS.out.1
      have hqx : ∀ g ∈ q, g < wr.heap.size := HS.out.2.1.lt
      have ka : ∀ wx, Calls Try.prog 124 #[.agg (celA x), .agg (rtA u d), .int .i64 h] wx fun e w' => e = .returned (.agg (celA y)) ∧ Below wx.heap.size wx w' := fun wx => by
        rw [hy, HO.out.2.2]; exact aged_ok x u d h HO.out.1 (HO.out.2.1 x (by rw [hx]; exact List.getElem_mem hlt)) ⟨h1, by omega⟩ wx
      have HX := Lib.hid (And.intro (show ∀ (j : Nat) v, (celA x)[j]? = some v → WR.cell? ⟨xb, j, none⟩ = some v from fun j v hv => (cell_of_heap hxh j).trans hv) (And.intro (show xb ∉ ob :: q from fun hm => by rcases List.mem_cons.1 hm with e | e; omega; have := hqx _ e; omega) (And.intro (show ∀ (j : Nat) v, (rtA u d)[j]? = some v → WR.cell? ⟨rb, j, none⟩ = some v from fun j v hv => by rw [hWR, World.cell?_alloc_lt _ _ _ (World.block_lt_of_cell? _ _ (hrbx j v hv))]; exact hrbx j v hv) (And.intro (show rb ∉ ob :: q from fun hm => by rcases List.mem_cons.1 hm with e | e; omega; have := HS.out.2.2.1 _ e; have := H4.out.2.1.size; omega) ka))))
      have HOB := Lib.hid (And.intro (show WR.heap[ob]? = some (.cells #[.int .i64 a0, .int .i64 b, .int .i64 (c + h), .slice Ax k cx] 114 (0, 0)) from by rw [hWR]; exact heap_alloc' HS.out.1 _) (show ob ∉ q ∧ ob < WR.heap.size from ⟨fun hm => by have := HS.out.2.2.1 _ hm; have := heap_lt H4.out.1; omega, by rw [hWR, World.size_alloc]; omega⟩))
      have HOQ := Lib.hid (And.intro (show OwnS WR 123 8 Ax k cx (cels ((l.take k).map f)) q from by rw [hWR]; exact HS.out.2.1.alloc _) (And.intro (show Keep [ob] w4 WR from by rw [hWR]; exact HS.out.2.2.2.alloc _) (show ∀ g ∈ q, g < WR.heap.size from fun g hg => by have := hqx g hg; rw [hWR, World.size_alloc]; omega)))
      have HY := Lib.hid (And.intro hx hy)
      clear KC s0 s1 s2 s3 s4 s5 s6 s7 hcl hrbx hxh ka hx hy hqx hobl
      go_upto_region 10 with fail
      rw [← hWR, ← hxb]
      clear hWR hxb t0 t1 t2 t3 t4 t5 t6 t7
      refine wp_region_steps (σ := AcS) (by kernel_rfl) (by kernel_rfl) (fun sg jx vx _ => A2V WR ob xb rb k x y u d h a0 b (c + h) Ax cx (cels ((l.take k).map f)) q sg jx vx) (fun sg ly wx => A2W WR ob xb rb k x y u d h a0 b (c + h) Ax cx (cels ((l.take k).map f)) q sg ly wx) ⟨0, none, 0, 0⟩ ?_ ?_ ?_
      · exact ⟨(Keep.refl _ _).drew, fun _ => HOQ.out.1, (fun h => by cases h), by rw [if_neg (by simp)]; exact HOB.out.1, (fun h => by cases h), HOB.out.2⟩
      · simp only [AllFrom, Nat.zero_add, Nat.reduceAdd]
        refine ⟨?_, ?_, ?_, ?_, ?_, ?_, ?_, ?_, ?_, ?_, ?_, ?_, trivial⟩
        · refine step_pure fun sg ly a wr hl hd hW hF => ?_
          have et9 := hF.old 9 (by kernel_rfl)
          simp [Act.eval] at et9
          exact ⟨hW.other _ (by decide), .pointer (some ⟨ob, 3, none⟩), by go_simp, rfl⟩
        · refine step_pure fun sg ly a wr hl hd hW hF => ?_
          simp [Region.binds] at hd
          have et45 := hF.new 0 45 (by simp [hd]) rfl
          simp [A2V, Act.eval] at et45
          have n11_9 := hF.notYet 1 9 hl (by kernel_rfl)
          have n11 := hF.notYet 9 11 n11_9 (by kernel_rfl)
          have hh := hW.hob
          rw [if_neg (by simp [n11])] at hh
          have c3 := (cell_of_heap hh 3).trans rfl
          exact ⟨hW.other _ (by decide), _, by go_simp, rfl⟩
        · refine step_pure fun sg ly a wr hl hd hW hF => ?_
          have et11 := hF.old 11 (by kernel_rfl)
          simp [Act.eval] at et11
          have c0 := hW.kp.cell (HX.out.1 0 _ rfl) HX.out.2.1
          have c1 := hW.kp.cell (HX.out.1 1 _ rfl) HX.out.2.1
          have c2 := hW.kp.cell (HX.out.1 2 _ rfl) HX.out.2.1
          have c3 := hW.kp.cell (HX.out.1 3 _ rfl) HX.out.2.1
          have c4 := hW.kp.cell (HX.out.1 4 _ rfl) HX.out.2.1
          have c5 := hW.kp.cell (HX.out.1 5 _ rfl) HX.out.2.1
          have c6 := hW.kp.cell (HX.out.1 6 _ rfl) HX.out.2.1
          have c7 := hW.kp.cell (HX.out.1 7 _ rfl) HX.out.2.1
          exact ⟨hW.other _ (by decide), _, by go_simp, rfl⟩
        · refine step_call fun sg ly a wr hl hd hW hF => ?_
          simp [Region.binds] at hd
          have et47 := hF.new 2 47 (by simp [hd]) rfl
          simp [A2V, Act.eval] at et47
          refine ⟨120, #[.agg (celA x)], by go_simp, ?_⟩
          refine (spans_any x wr).mono ?_
          rintro e w2 ⟨rfl, b2⟩
          exact ⟨_, sg, rfl, hW.call _ (by decide) b2, rfl, fun _ _ _ h => h⟩
        · refine step_pure fun sg ly a wr hl hd hW hF => ?_
          have et4 := hF.old 4 (by kernel_rfl)
          simp [Act.eval] at et4
          have c0 := hW.kp.cell (HX.out.2.2.1 0 _ rfl) HX.out.2.2.2.1
          have c1 := hW.kp.cell (HX.out.2.2.1 1 _ rfl) HX.out.2.2.2.1
          have c2 := hW.kp.cell (HX.out.2.2.1 2 _ rfl) HX.out.2.2.2.1
          have c3 := hW.kp.cell (HX.out.2.2.1 3 _ rfl) HX.out.2.2.2.1
          have c4 := hW.kp.cell (HX.out.2.2.1 4 _ rfl) HX.out.2.2.2.1
          have c5 := hW.kp.cell (HX.out.2.2.1 5 _ rfl) HX.out.2.2.2.1
          have c6 := hW.kp.cell (HX.out.2.2.1 6 _ rfl) HX.out.2.2.2.1
          have c7 := hW.kp.cell (HX.out.2.2.1 7 _ rfl) HX.out.2.2.2.1
          exact ⟨hW.other _ (by decide), _, by go_simp, rfl⟩
        · refine step_pure fun sg ly a wr hl hd hW hF => ?_
          have et2 := hF.old 2 (by kernel_rfl)
          simp [Act.eval] at et2
          exact ⟨hW.other _ (by decide), .int .i64 h, by go_simp, rfl⟩
        · refine step_call fun sg ly a wr hl hd hW hF => ?_
          simp [Region.binds] at hd
          have et48 := hF.new 3 48 (by simp [hd]) rfl
          simp [A2V, Act.eval] at et48
          have et49 := hF.new 4 49 (by simp [hd]) rfl
          simp [A2V, Act.eval] at et49
          have et50 := hF.new 5 50 (by simp [hd]) rfl
          simp [A2V, Act.eval] at et50
          refine ⟨124, #[.agg (celA x), .agg (rtA u d), .int .i64 h], by go_simp, ?_⟩
          refine (HX.out.2.2.2.2 wr).mono ?_
          rintro e w2 ⟨rfl, b2⟩
          exact ⟨_, sg, rfl, hW.call _ (by decide) b2, rfl, fun _ _ _ h => h⟩
        · refine step_call fun sg ly a wr hl hd hW hF => ?_
          simp [Region.binds] at hd
          have et51 := hF.new 6 51 (by simp [hd]) rfl
          simp [A2V, Act.eval] at et51
          refine ⟨125, #[.agg (celA y)], by go_simp, ?_⟩
          refine (cell_any y wr).mono ?_
          rintro e w2 ⟨rfl, b2⟩
          exact ⟨_, sg, rfl, hW.call _ (by decide) b2, rfl, fun _ _ _ h => h⟩
        · refine step_run fun sg ly a wr hl hd hW hF => ?_
          simp [Region.binds] at hd
          have et52 := hF.new 7 52 (by simp [hd]) rfl
          simp [A2V, Act.eval] at et52
          have n9 := hF.notYet 8 9 hl (by kernel_rfl)
          have n11 := hF.notYet 9 11 n9 (by kernel_rfl)
          refine ⟨_, wr.alloc (.cells (celA y) 123), { sg with bs := wr.heap.size }, by go_simp, hW.build n9 n11, rfl, ?_⟩
          intro i u hi h
          have i8 : i ≠ 8 := by rintro rfl; rw [hl] at hi; cases hi
          unfold A2V at h ⊢
          split at h <;> first | exact h | exact absurd rfl i8
        · intro sg ly a wr hl hd hW hF
          simp [Region.binds] at hd
          have et46 := hF.new 1 46 (by simp [hd]) rfl
          simp [A2V, Act.eval] at et46
          have et53 := hF.new 8 53 (by simp [hd]) rfl
          simp [A2V, Act.eval] at et53
          have n11 := hF.notYet 9 11 hl (by kernel_rfl)
          have y8 : ly 8 = true := by simp [hd]
          have hbs := hW.hbs y8
          have hbq : sg.bs ∉ q := fun hm => by have := HOQ.out.2.2 _ hm; omega
          refine wp_append_S (.tmp 46) (.tmp 53) 112 rfl i0 _ 64 Try.underlying112 hi' hz0 hz1 (by decide) hz2 rfl (by simpa [Act.eval] using et46) ⟨sg.bs, 0, none⟩ (by simpa [Act.eval] using et53) (cel y) (hW.own0 hl) rfl (fun j v hj => by rw [show (⟨sg.bs, 0, none⟩ : Addr).add j = ⟨sg.bs, j, none⟩ from by simp [Addr.add]; omega]; exact (cell_of_heap hbs.2 j).trans (by simpa [cel] using hj)) (cel_one y) (by omega) (by omega) ?_
          intro g c' w' o1 o2 o3 o4
          refine ⟨{ sg with A := some ⟨g, 0, none⟩, c := c', g := g }, _, rfl, hW.app y8 hl n11 o1 o2 o4 hbq, fun _ => rfl, ?_⟩
          intro i u hi h
          have i9 : i ≠ 9 := by rintro rfl; rw [hl] at hi; cases hi
          unfold A2V at h ⊢
          split at h <;> first | exact h | exact absurd rfl i9
        · refine step_pure fun sg ly a wr hl hd hW hF => ?_
          have et9 := hF.old 9 (by kernel_rfl)
          simp [Act.eval] at et9
          exact ⟨hW.other _ (by decide), .pointer (some ⟨ob, 3, none⟩), by go_simp, rfl⟩
        · refine step_store rfl fun sg ly a wr hl hd hW hF => ?_
          simp [Region.binds] at hd
          have et55 := hF.new 10 55 (by simp [hd]) rfl
          simp [A2V, Act.eval] at et55
          have et54 := hF.new 9 54 (by simp [hd]) rfl
          simp [A2V, Act.eval] at et54
          have y9 : ly 9 = true := by simp [hd]
          have hh := hW.hob
          rw [if_neg (by simp [hl])] at hh
          have c3 := (cell_of_heap hh 3).trans rfl
          have f3 := frozen_of_heap hh 3
          have zq := heap_lt hh
          exact ⟨_, sg, .skip, by go_simp, .inl rfl, hW.store y9 hl (fun e => by have := (hW.hbs e).1; have := hW.nq.2; omega), fun _ _ _ h => h⟩
      intro sg a5 w5 hWW hF
      obtain ⟨f5, hf, rfl⟩ := hF.lit
      obtain ⟨o1, o2⟩ := hWW.own1 rfl
      have hob5 := hWW.hob
      simp only [List.length_cons, List.length_nil, Nat.reduceAdd, Nat.reduceLT, decide_true, if_true] at hob5
      have H5 := Lib.hid (And.intro o1 (And.intro o2 (And.intro hob5 hWW.kp)))
      clear hf hF hWW o1 o2 hob5
      simp only [List.filterMap, List.foldl, List.setIfInBounds_toArray, List.set_cons_succ, List.set_cons_zero]
      go_wp2_with fail
      go_roundw
      case measure => simp [intOf]; omega
      case rel =>
        refine ⟨k + 1, sg.A, sg.c, [sg.g], by omega, by go_num, H5.out.2.2.1, ?_, fun g hg => ?_, HOQ.out.2.1.trans H5.out.2.2.2 (fun x hx => ?_)⟩
        · rw [List.take_succ_eq_append_getElem hlt, ← HY.out.1, List.map_append, List.map_cons, List.map_nil, ← HY.out.2, cels_snoc]
          exact H5.out.1
        · rw [List.mem_singleton.1 hg]
          rcases H5.out.2.1 with e | e
          · exact HS.out.2.2.1 _ e
          · have := HOQ.out.2.1.size; omega
        · rcases List.mem_cons.1 hx with e | e
          · exact .inl (by simp [e])
          · exact .inr (HS.out.2.2.1 _ e)
    · obtain rfl : k = l.length := by omega
      have hoh := HS.out.1
      have c0 := (cell_of_heap hoh 0).trans rfl
      have c1 := (cell_of_heap hoh 1).trans rfl
      have c2 := (cell_of_heap hoh 2).trans rfl
      have c3 := (cell_of_heap hoh 3).trans rfl
      have zo := heap_lt hoh
      have gz : wr.heap[zb]? = some (.cells #[.int .i64 0, .int .i64 0, .int .i64 0, .slice none 0 0] 114 (0, 0)) := (HS.out.2.2.2.block _ (Nat.lt_of_lt_of_le (heap_lt HR.out.2.2.2.1) H4.out.2.1.size) (by have := heap_lt HR.out.2.2.2.1; simp; omega)).trans ((H4.out.2.1.block _ (heap_lt HR.out.2.2.2.1)).trans HR.out.2.2.2.1)
      have d0 := (cell_of_heap gz 0).trans rfl
      have d1 := (cell_of_heap gz 1).trans rfl
      have d2 := (cell_of_heap gz 2).trans rfl
      have d3 := (cell_of_heap gz 3).trans rfl
      have f0 := frozen_of_heap gz 0
      have f1 := frozen_of_heap gz 1
      have f2 := frozen_of_heap gz 2
      have f3 := frozen_of_heap gz 3
      have zz := heap_lt gz
      have hzl := heap_lt HR.out.2.2.2.1
      have b4 : Below w.heap.size w wr := HR.out.2.2.2.2.1.trans ((H4.out.2.1.trans (HS.out.2.2.2.below H4.out.2.1.size (by simpa using hWob))).mono HR.out.2.2.2.2.1.size)
      have hfin : ((((wr.setCell ⟨zb, 0, none⟩ (.int .i64 a0)).setCell ⟨zb, 1, none⟩ (.int .i64 b)).setCell ⟨zb, 2, none⟩ (.int .i64 (c + h))).setCell ⟨zb, 3, none⟩ (.slice Ax l.length cx)).heap[zb]? = some (.cells #[.int .i64 a0, .int .i64 b, .int .i64 (c + h), .slice Ax l.length cx] 114 (0, 0)) := heap_set (heap_set (heap_set (heap_set gz 0 (.int .i64 a0)) 1 (.int .i64 b)) 2 (.int .i64 (c + h))) 3 (.slice Ax l.length cx)
      have K4 := keep4 wr zb (.int .i64 a0) (.int .i64 b) (.int .i64 (c + h)) (.slice Ax l.length cx)
      have H6 := Lib.hid (And.intro hfin (And.intro (b4.trans (K4.below b4.size (by simpa using HR.out.2.2.2.2.2.1))) (HS.out.2.1.keepS K4 (fun g hg => by have := HS.out.2.2.1 g hg; have := H4.out.2.1.size; simp; omega))))
      clear hoh gz hfin K4 b4
      go_wp2_with fail
      refine bodyPost_ret (chart_results (r := 6) (s := 7) rfl H6.out.1 _ _ rfl rfl) rfl ⟨Ax, cx, q, rfl, ?_, fun g hg => ?_, H6.out.2.1⟩
      · have := H6.out.2.2
        rwa [List.take_of_length_le (Nat.le_refl _)] at this
      · have := HS.out.2.2.1 g hg; have := H4.out.2.1.size; have := HR.out.2.2.2.2.1.size; omega

end Go.Proofs.Ytfmhlnfcbbpfeaa
/- A region that appends one element to each of two lists, in any order: what it keeps. No program is named here. -/
namespace Go.Proofs.Ytfmhlnfcbbpfeaa
open Go Go.RowKit

/-- the two lists as they are, and the blocks of the elements that are to be appended -/
structure Gh2 where
  A1 : Option Addr
  n1 : Nat
  c1 : Nat
  xs1 : List Value
  f1 : List Nat
  b1 : Nat
  A2 : Option Addr
  n2 : Nat
  c2 : Nat
  xs2 : List Value
  f2 : List Nat
  b2 : Nat

/-- i1, i2: the operations that make the elements' blocks; j1, j2: those that append -/
structure GW2 (i1 j1 i2 j2 : Nat) (W0 : World) (e1 e2 : TypeId) (u1 u2 : Value) (A1 : Option Addr) (n1 c1 : Nat) (xs1 : List Value) (f1 : List Nat) (A2 : Option Addr) (n2 c2 : Nat) (xs2 : List Value) (f2 : List Nat) (s : Gh2) (l : Nat → Bool) (w : World) : Prop where
  o1 : OwnA w e1 s.A1 s.n1 s.c1 s.xs1 s.f1
  o2 : OwnA w e2 s.A2 s.n2 s.c2 s.xs2 s.f2
  dis : ∀ g ∈ s.f1, g ∉ s.f2
  kp : Keep (f1 ++ f2) W0 w
  in1 : ∀ g ∈ s.f1, g ∈ f1 ∨ W0.heap.size ≤ g
  in2 : ∀ g ∈ s.f2, g ∈ f2 ∨ W0.heap.size ≤ g
  a1 : l j1 = false → s.A1 = A1 ∧ s.n1 = n1 ∧ s.c1 = c1 ∧ s.xs1 = xs1
  z1 : l j1 = true → s.n1 = n1 + 1 ∧ s.xs1 = xs1 ++ [u1]
  a2 : l j2 = false → s.A2 = A2 ∧ s.n2 = n2 ∧ s.c2 = c2 ∧ s.xs2 = xs2
  z2 : l j2 = true → s.n2 = n2 + 1 ∧ s.xs2 = xs2 ++ [u2]
  t1 : l i1 = true → w.cell? ⟨s.b1, 0, none⟩ = some u1 ∧ s.b1 ∉ s.f1 ∧ s.b1 ∉ s.f2 ∧ s.b1 < w.heap.size
  t2 : l i2 = true → w.cell? ⟨s.b2, 0, none⟩ = some u2 ∧ s.b2 ∉ s.f1 ∧ s.b2 ∉ s.f2 ∧ s.b2 < w.heap.size

section
variable {i1 j1 i2 j2 : Nat} {W0 : World} {e1 e2 : TypeId} {u1 u2 : Value} {A1 : Option Addr} {n1 c1 : Nat} {xs1 : List Value} {f1 : List Nat} {A2 : Option Addr} {n2 c2 : Nat} {xs2 : List Value} {f2 : List Nat} {s : Gh2} {l : Nat → Bool} {w : World}
theorem GW2.start (o1 : OwnA W0 e1 A1 n1 c1 xs1 f1) (o2 : OwnA W0 e2 A2 n2 c2 xs2 f2) (hd : ∀ g ∈ f1, g ∉ f2) : GW2 i1 j1 i2 j2 W0 e1 e2 u1 u2 A1 n1 c1 xs1 f1 A2 n2 c2 xs2 f2 ⟨A1, n1, c1, xs1, f1, 0, A2, n2, c2, xs2, f2, 0⟩ (fun _ => false) W0.drew :=
  ⟨by simpa using o1.keepS ((Keep.refl [] W0).drew) (by simp), by simpa using o2.keepS ((Keep.refl [] W0).drew) (by simp), hd, (Keep.refl _ _).drew, fun g hg => .inl hg, fun g hg => .inl hg, fun _ => ⟨rfl, rfl, rfl, rfl⟩, (fun h => by cases h), fun _ => ⟨rfl, rfl, rfl, rfl⟩, (fun h => by cases h), (fun h => by cases h), (fun h => by cases h)⟩
/-- an operation that is none of the four -/
theorem GW2.other (h : GW2 i1 j1 i2 j2 W0 e1 e2 u1 u2 A1 n1 c1 xs1 f1 A2 n2 c2 xs2 f2 s l w) {i : Nat} (hi : i1 ≠ i ∧ j1 ≠ i ∧ i2 ≠ i ∧ j2 ≠ i) : GW2 i1 j1 i2 j2 W0 e1 e2 u1 u2 A1 n1 c1 xs1 f1 A2 n2 c2 xs2 f2 s (upd l i) w := by
  obtain ⟨h1, h2, h3, h4⟩ := hi
  exact ⟨h.o1, h.o2, h.dis, h.kp, h.in1, h.in2, by simpa [upd, h2] using h.a1, by simpa [upd, h2] using h.z1, by simpa [upd, h4] using h.a2, by simpa [upd, h4] using h.z2, by simpa [upd, h1] using h.t1, by simpa [upd, h3] using h.t2⟩
theorem cell_new_one' (w : World) (u : Value) (t : TypeId) : (w.alloc (.cells #[u] t)).cell? ⟨w.heap.size, 0, none⟩ = some u := cell_new_one w u t
theorem GW2.build1 (h : GW2 i1 j1 i2 j2 W0 e1 e2 u1 u2 A1 n1 c1 xs1 f1 A2 n2 c2 xs2 f2 s l w) (t : TypeId) (hi : j1 ≠ i1 ∧ i2 ≠ i1 ∧ j2 ≠ i1) :
    GW2 i1 j1 i2 j2 W0 e1 e2 u1 u2 A1 n1 c1 xs1 f1 A2 n2 c2 xs2 f2 { s with b1 := w.heap.size } (upd l i1) (w.alloc (.cells #[u1] t)) := by
  obtain ⟨h1, h2, h3⟩ := hi
  have hb : Below w.heap.size w (w.alloc (.cells #[u1] t)) := (Below.refl _ _).alloc (Nat.le_refl _) _
  refine ⟨h.o1.alloc _, h.o2.alloc _, h.dis, h.kp.alloc _, h.in1, h.in2, by simpa [upd, h1] using h.a1, by simpa [upd, h1] using h.z1, by simpa [upd, h3] using h.a2, by simpa [upd, h3] using h.z2, fun _ => ⟨cell_new_one _ _ _, ?_, ?_, by simp⟩, fun h5 => ?_⟩
  · intro hm; have := h.o1.lt _ hm; simp at this
  · intro hm; have := h.o2.lt _ hm; simp at this
  · obtain ⟨k1, k2, k3, k4⟩ := h.t2 (by simpa [upd, h2] using h5)
    exact ⟨(hb.cell (p := ⟨s.b2, 0, none⟩) k4).trans k1, k2, k3, by simp; omega⟩
theorem GW2.build2 (h : GW2 i1 j1 i2 j2 W0 e1 e2 u1 u2 A1 n1 c1 xs1 f1 A2 n2 c2 xs2 f2 s l w) (t : TypeId) (hi : j1 ≠ i2 ∧ i1 ≠ i2 ∧ j2 ≠ i2) :
    GW2 i1 j1 i2 j2 W0 e1 e2 u1 u2 A1 n1 c1 xs1 f1 A2 n2 c2 xs2 f2 { s with b2 := w.heap.size } (upd l i2) (w.alloc (.cells #[u2] t)) := by
  obtain ⟨h1, h2, h3⟩ := hi
  have hb : Below w.heap.size w (w.alloc (.cells #[u2] t)) := (Below.refl _ _).alloc (Nat.le_refl _) _
  refine ⟨h.o1.alloc _, h.o2.alloc _, h.dis, h.kp.alloc _, h.in1, h.in2, by simpa [upd, h1] using h.a1, by simpa [upd, h1] using h.z1, by simpa [upd, h3] using h.a2, by simpa [upd, h3] using h.z2, fun h5 => ?_, fun _ => ⟨cell_new_one _ _ _, ?_, ?_, by simp⟩⟩
  · obtain ⟨k1, k2, k3, k4⟩ := h.t1 (by simpa [upd, h2] using h5)
    exact ⟨(hb.cell (p := ⟨s.b1, 0, none⟩) k4).trans k1, k2, k3, by simp; omega⟩
  · intro hm; have := h.o1.lt _ hm; simp at this
  · intro hm; have := h.o2.lt _ hm; simp at this
theorem GW2.app1 (h : GW2 i1 j1 i2 j2 W0 e1 e2 u1 u2 A1 n1 c1 xs1 f1 A2 n2 c2 xs2 f2 s l w) (hl : l j1 = false) (hi : i1 ≠ j1 ∧ i2 ≠ j1 ∧ j2 ≠ j1) {g off c' : Nat} {w' : World}
    (ho : OwnA w' e1 (some ⟨g, off, none⟩) (n1 + 1) c' (xs1 ++ [u1]) [g]) (hg : g ∈ s.f1 ∨ w.heap.size = g) (hk : Keep s.f1 w w') :
    GW2 i1 j1 i2 j2 W0 e1 e2 u1 u2 A1 n1 c1 xs1 f1 A2 n2 c2 xs2 f2 { s with A1 := some ⟨g, off, none⟩, n1 := n1 + 1, c1 := c', xs1 := xs1 ++ [u1], f1 := [g] } (upd l j1) w' := by
  obtain ⟨h1, h2, h3⟩ := hi
  have hs := h.kp.size
  have hin : g ∈ f1 ∨ W0.heap.size ≤ g := by
    rcases hg with hg | hg
    · exact h.in1 g hg
    · exact .inr (by omega)
  have hd2 : ∀ x ∈ s.f2, x ∉ s.f1 := fun x hx hm => h.dis x hm hx
  refine ⟨ho, h.o2.keepS hk hd2, ?_, h.kp.trans hk (fun x hx => ?_), ?_, h.in2, fun h5 => by simp [upd] at h5, fun _ => ⟨rfl, rfl⟩, by simpa [upd, h3] using h.a2, by simpa [upd, h3] using h.z2, fun h5 => ?_, fun h5 => ?_⟩
  · intro x hx hm
    rw [List.mem_singleton.1 hx] at hm
    rcases hg with hg | hg
    · exact h.dis g hg hm
    · have := h.o2.lt _ hm; omega
  · rcases h.in1 x hx with h5 | h5
    · exact .inl (List.mem_append.2 (.inl h5))
    · exact .inr h5
  · intro x hx; rw [List.mem_singleton.1 hx]; exact hin
  · obtain ⟨k1, k2, k3, k4⟩ := h.t1 (by simpa [upd, h1] using h5)
    refine ⟨hk.cell k1 k2, ?_, k3, Nat.lt_of_lt_of_le k4 hk.size⟩
    intro hm
    have e : s.b1 = g := List.mem_singleton.1 hm
    rcases hg with hg | hg
    · exact k2 (by rw [e]; exact hg)
    · omega
  · obtain ⟨k1, k2, k3, k4⟩ := h.t2 (by simpa [upd, h2] using h5)
    refine ⟨hk.cell k1 k2, ?_, k3, Nat.lt_of_lt_of_le k4 hk.size⟩
    intro hm
    have e : s.b2 = g := List.mem_singleton.1 hm
    rcases hg with hg | hg
    · exact k2 (by rw [e]; exact hg)
    · omega
theorem GW2.app2 (h : GW2 i1 j1 i2 j2 W0 e1 e2 u1 u2 A1 n1 c1 xs1 f1 A2 n2 c2 xs2 f2 s l w) (hl : l j2 = false) (hi : i1 ≠ j2 ∧ i2 ≠ j2 ∧ j1 ≠ j2) {g off c' : Nat} {w' : World}
    (ho : OwnA w' e2 (some ⟨g, off, none⟩) (n2 + 1) c' (xs2 ++ [u2]) [g]) (hg : g ∈ s.f2 ∨ w.heap.size = g) (hk : Keep s.f2 w w') :
    GW2 i1 j1 i2 j2 W0 e1 e2 u1 u2 A1 n1 c1 xs1 f1 A2 n2 c2 xs2 f2 { s with A2 := some ⟨g, off, none⟩, n2 := n2 + 1, c2 := c', xs2 := xs2 ++ [u2], f2 := [g] } (upd l j2) w' := by
  obtain ⟨h1, h2, h3⟩ := hi
  have hs := h.kp.size
  have hin : g ∈ f2 ∨ W0.heap.size ≤ g := by
    rcases hg with hg | hg
    · exact h.in2 g hg
    · exact .inr (by omega)
  refine ⟨h.o1.keepS hk h.dis, ho, ?_, h.kp.trans hk (fun x hx => ?_), h.in1, ?_, by simpa [upd, h3] using h.a1, by simpa [upd, h3] using h.z1, fun h5 => by simp [upd] at h5, fun _ => ⟨rfl, rfl⟩, fun h5 => ?_, fun h5 => ?_⟩
  · intro x hx hm
    have e : x = g := List.mem_singleton.1 hm
    rcases hg with hg | hg
    · exact h.dis x hx (by rw [e]; exact hg)
    · have := h.o1.lt _ hx; omega
  · rcases h.in2 x hx with h5 | h5
    · exact .inl (List.mem_append.2 (.inr h5))
    · exact .inr h5
  · intro x hx; rw [List.mem_singleton.1 hx]; exact hin
  · obtain ⟨k1, k2, k3, k4⟩ := h.t1 (by simpa [upd, h1] using h5)
    refine ⟨hk.cell k1 k3, k2, ?_, Nat.lt_of_lt_of_le k4 hk.size⟩
    intro hm
    have e : s.b1 = g := List.mem_singleton.1 hm
    rcases hg with hg | hg
    · exact k3 (by rw [e]; exact hg)
    · omega
  · obtain ⟨k1, k2, k3, k4⟩ := h.t2 (by simpa [upd, h2] using h5)
    refine ⟨hk.cell k1 k3, k2, ?_, Nat.lt_of_lt_of_le k4 hk.size⟩
    intro hm
    have e : s.b2 = g := List.mem_singleton.1 hm
    rcases hg with hg | hg
    · exact k3 (by rw [e]; exact hg)
    · omega
end
end Go.Proofs.Ytfmhlnfcbbpfeaa
