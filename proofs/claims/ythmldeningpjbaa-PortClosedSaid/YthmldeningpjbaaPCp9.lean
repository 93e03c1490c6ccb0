/- polynyalaw08.Made: a valid policy of numbers -/
import Derived.Test.YthmldeningpjbaaPCp3
import Derived.Test.YthmldeningpjbaaPCp4
import Derived.Test.YthmldeningpjbaaPCp8
import Derived.Deep.RegionHeld3
import Derived.IntWalk
import Derived.Test.YthmldeningpjbaaPCp5
set_option linter.unusedVariables false
set_option linter.unusedSimpArgs false
namespace Go.Proofs.Ythmldeningpjbaa
open Go Go.RowKit Sp
set_option linter.unusedVariables false

def nextStp (l : List Int) (k : Nat) (s : Stp) : Stp :=
  ⟨min 6 (s.cls + draw l k 3), s.ton + 500 * draw l (k + 1) 8, s.up + (1 + draw l (k + 2) 120), min (s.up + (1 + draw l (k + 2) 120)) (s.dn + draw l (k + 3) 100)⟩
def madeStp (l : List Int) : Nat → Stp
  | 0 => ⟨0, 0, 0, 0⟩
  | j + 1 => nextStp l (5 + 4 * j) (madeStp l j)
def madeSteps (l : List Int) (n : Nat) : List Stp := (List.range n).map (madeStp l)
def madeP (l : List Int) : Pol := ⟨madeSteps l (1 + (draw l 4 6).toNat), 1 + draw l 0 5, 1 + draw l 1 6, draw l 2 5, draw l 3 6⟩
theorem madeSteps_succ (l : List Int) (n : Nat) : madeSteps l (n + 1) = madeSteps l n ++ [madeStp l n] := by simp [madeSteps, List.range_succ]
theorem madeSteps_length (l : List Int) (n : Nat) : (madeSteps l n).length = n := by simp [madeSteps]
theorem madeStp_bd (l : List Int) (j : Nat) : 0 ≤ (madeStp l j).cls ∧ (madeStp l j).cls ≤ 6 ∧ 0 ≤ (madeStp l j).ton ∧ (madeStp l j).ton ≤ 3500 * j ∧ 0 ≤ (madeStp l j).up ∧ (madeStp l j).up ≤ 120 * j ∧ 0 ≤ (madeStp l j).dn ∧ (madeStp l j).dn ≤ (madeStp l j).up := by
  induction j with
  | zero => simp [madeStp]
  | succ j ih =>
    have h1 := draw_range (l := l) (5 + 4 * j) (n := 3) (by omega)
    have h2 := draw_range (l := l) (5 + 4 * j + 1) (n := 8) (by omega)
    have h3 := draw_range (l := l) (5 + 4 * j + 2) (n := 120) (by omega)
    have h4 := draw_range (l := l) (5 + 4 * j + 3) (n := 100) (by omega)
    simp only [madeStp, nextStp]
    omega
theorem stcs_append (l m : List Stp) : stcs (l ++ m) = stcs l ++ stcs m := by simp [stcs]

/-- the world while steps are made: rb: the first new block -/
structure MadeSt (w0 w : World) (rb lb ib sl pb sb : Nat) (A : Option Addr) (c : Nat) (l : List Int) (k : Nat) (s : Stp) (n : Nat) (As : Option Addr) (cs : Nat) (h1 h2 h3 h4 : Int) (L : List Stp) (fp : List Nat) : Prop where
  sp : lb = rb + 1 ∧ ib = rb + 2 ∧ sl = rb + 3 ∧ pb = rb + 4 ∧ sb = rb + 5
  drawn : DrawSt w ib lb A c l k
  pol : w.heap[pb]? = some (.cells #[.slice As n cs, .int .i64 h1, .int .i64 h2, .int .i64 h3, .int .i64 h4] 135 (0, 0))
  stp : w.heap[sb]? = some (.cells #[.int .i64 s.cls, .int .i64 s.ton, .int .i64 s.up, .int .i64 s.dn] 199 (0, 0))
  own : OwnS w 199 4 As n cs (stcs L) fp
  fp_ : ∀ g ∈ fp, g = sl ∨ sb + 1 ≤ g
  below : Below rb w0 w
  res : w.heap[rb]? = some (.cells #[.slice none 0 0, .int .i64 0, .int .i64 0, .int .i64 0, .int .i64 0] 135 (0, 0))
  arr : 0 < l.length → ∀ b off, A = some ⟨b, off, none⟩ → b < rb

section
variable {w0 w : World} {rb lb ib sl pb sb : Nat} {A : Option Addr} {c : Nat} {l : List Int} {k : Nat} {s : Stp} {n : Nat} {As : Option Addr} {cs : Nat} {h1 h2 h3 h4 : Int} {L : List Stp} {fp : List Nat}
/-- what a step cell reads as, in the walk's spelling -/
def StpCells (w : World) (sb : Nat) (s : Stp) : Prop := w.cell? ⟨sb, 0, none⟩ = some (.int .i64 s.cls) ∧ w.cell? ⟨sb, 1, none⟩ = some (.int .i64 s.ton) ∧ w.cell? ⟨sb, 2, none⟩ = some (.int .i64 s.up) ∧ w.cell? ⟨sb, 3, none⟩ = some (.int .i64 s.dn) ∧ sb < w.heap.size ∧ w.frozen? ⟨sb, 0, none⟩ = false ∧ w.frozen? ⟨sb, 1, none⟩ = false ∧ w.frozen? ⟨sb, 2, none⟩ = false ∧ w.frozen? ⟨sb, 3, none⟩ = false
theorem MadeSt.cells (h : MadeSt w0 w rb lb ib sl pb sb A c l k s n As cs h1 h2 h3 h4 L fp) : StpCells w sb s :=
  ⟨(cell_of_heap h.stp 0).trans rfl, (cell_of_heap h.stp 1).trans rfl, (cell_of_heap h.stp 2).trans rfl, (cell_of_heap h.stp 3).trans rfl, heap_lt h.stp, frozen_of_heap h.stp 0, frozen_of_heap h.stp 1, frozen_of_heap h.stp 2, frozen_of_heap h.stp 3⟩
theorem MadeSt.drew (h : MadeSt w0 w rb lb ib sl pb sb A c l k s n As cs h1 h2 h3 h4 L fp) : MadeSt w0 w.drew rb lb ib sl pb sb A c l k s n As cs h1 h2 h3 h4 L fp :=
  ⟨h.sp, ⟨h.drawn.cnt, h.drawn.lst, h.drawn.rd⟩, h.pol, h.stp, h.own, h.fp_, h.below.drew, h.res, h.arr⟩

theorem MadeSt.next (h : MadeSt w0 w rb lb ib sl pb sb A c l k s n As cs h1 h2 h3 h4 L fp) (hl : Bytes l) (hm : l.length ≤ 9223372036854775806) (m : Int) (hn : 0 < m ∧ m ≤ 1000) :
    Calls Try.prog 70 #[.int .i64 m, .pointer (some ⟨ib, 0, none⟩), .pointer (some ⟨lb, 0, none⟩)] w fun e w' => e = .returned (.int .i64 (draw l k m)) ∧ MadeSt w0 w' rb lb ib sl pb sb A c l (k + 1) s n As cs h1 h2 h3 h4 L fp := by
  have sp := h.sp
  refine (next_any ib lb A c l k m w h.drawn hl hm (by omega) (fun h0 b off e => by have := h.arr h0 b off e; omega) hn).mono ?_
  rintro e w' ⟨rfl, hD, hK, hz⟩
  refine ⟨rfl, sp, hD, (hK.block _ (heap_lt h.pol) (by simp; omega)).trans h.pol, (hK.block _ (heap_lt h.stp) (by simp; omega)).trans h.stp, h.own.keepS hK (fun g hg => ?_), h.fp_, h.below.trans (hK.below' (by have := heap_lt h.res; omega) (by simp; omega)), (hK.block _ (heap_lt h.res) (by simp; omega)).trans h.res, h.arr⟩
  rcases h.fp_ g hg with h | h <;> simp <;> omega

theorem MadeSt.set_ (h : MadeSt w0 w rb lb ib sl pb sb A c l k s n As cs h1 h2 h3 h4 L fp) (i : Nat) (u : Value) (s' : Stp)
    (he : (#[Value.int .i64 s.cls, .int .i64 s.ton, .int .i64 s.up, .int .i64 s.dn] : Array Value).setIfInBounds i u = #[.int .i64 s'.cls, .int .i64 s'.ton, .int .i64 s'.up, .int .i64 s'.dn]) :
    MadeSt w0 (w.setCell ⟨sb, i, none⟩ u) rb lb ib sl pb sb A c l k s' n As cs h1 h2 h3 h4 L fp := by
  have K : Keep [sb] w (w.setCell ⟨sb, i, none⟩ u) := (Keep.refl _ _).setCell (.inl (by simp)) _
  have sp := h.sp
  refine ⟨sp, h.drawn.keep K (by simp; omega) (by simp; omega) (fun h0 b off e => by have := h.arr h0 b off e; simp; omega), (K.block _ (heap_lt h.pol) (by simp; omega)).trans h.pol, ?_, h.own.keepS K (fun g hg => ?_), h.fp_, h.below.trans (K.below' (by have := heap_lt h.res; omega) (by simp; omega)), (K.block _ (heap_lt h.res) (by simp; omega)).trans h.res, h.arr⟩
  · rw [heap_set h.stp, he]
  · rcases h.fp_ g hg with h | h <;> simp <;> omega
end

theorem MadeSt.push {w0 w w1 : World} {rb lb ib sl pb sb : Nat} {A : Option Addr} {c : Nat} {l : List Int} {k : Nat} {s : Stp} {n : Nat} {As : Option Addr} {cs : Nat} {h1 h2 h3 h4 : Int} {L : List Stp} {fp : List Nat} {g c' : Nat} {o : Obj}
    (h : MadeSt w0 w rb lb ib sl pb sb A c l k s n As cs h1 h2 h3 h4 L fp) (q1 : OwnS w1 199 4 (some ⟨g, 0, none⟩) (n + 1) c' (stcs L ++ [.int .i64 s.cls, .int .i64 s.ton, .int .i64 s.up, .int .i64 s.dn]) [g]) (q2 : g ∈ fp ∨ (w.alloc o).heap.size = g) (q3 : Keep fp (w.alloc o) w1) :
    MadeSt w0 (w1.setCell ⟨pb, 0, none⟩ (.slice (some ⟨g, 0, none⟩) (n + 1) c')) rb lb ib sl pb sb A c l k s (n + 1) (some ⟨g, 0, none⟩) c' h1 h2 h3 h4 (L ++ [s]) [g] := by
  have sp := h.sp
  have z1 := heap_lt h.stp
  have hg : g = sl ∨ sb + 1 ≤ g := by
    rcases q2 with q | q
    · exact h.fp_ g q
    · simp at q; omega
  have K1 : Keep fp w w1 := ((Keep.refl fp w).alloc o).trans q3 (fun x hx => .inl hx)
  have nf : ∀ x, x < sl → x ∉ fp := fun x hx hm => by rcases h.fp_ x hm with e | e <;> omega
  have nb : ∀ x, sl < x → x ≤ sb → x ∉ fp := fun x hx hx' hm => by rcases h.fp_ x hm with e | e <;> omega
  have hp : w1.heap[pb]? = _ := (K1.block _ (heap_lt h.pol) (nb _ (by omega) (by omega))).trans h.pol
  have K2 : Keep (pb :: fp) w (w1.setCell ⟨pb, 0, none⟩ (.slice (some ⟨g, 0, none⟩) (n + 1) c')) := (K1.mono (fun x hx => .inl (by simp [hx]))).setCell (.inl (by simp)) _
  refine ⟨sp, h.drawn.keep K2 (by simp; exact ⟨by omega, nf _ (by omega)⟩) (by simp; exact ⟨by omega, nf _ (by omega)⟩) (fun h0 b off e => by have := h.arr h0 b off e; simp; exact ⟨by omega, nf _ (by omega)⟩), ?_, (K2.block _ z1 (by simp; exact ⟨by omega, nb _ (by omega) (by omega)⟩)).trans h.stp, ?_, by simpa using hg, h.below.trans (K2.below' (by have := heap_lt h.res; omega) (fun x hx => ?_)), (K2.block _ (heap_lt h.res) (by simp; exact ⟨by omega, nf _ (by omega)⟩)).trans h.res, h.arr⟩
  · rw [heap_set hp]; rfl
  · rw [stcs_append]
    exact q1.setCell (by simp; omega) _
  · rcases List.mem_cons.1 hx with e | e
    · omega
    · rcases h.fp_ x e with e | e <;> omega

theorem cells5 {w : World} {b : Nat} {a0 a1 a2 a3 a4 : Value} {t : TypeId} (hh : w.heap[b]? = some (.cells #[a0, a1, a2, a3, a4] t)) (v0 v1 v2 v3 v4 : Value) :
    (((((w.setCell ⟨b, 0, none⟩ v0).setCell ⟨b, 1, none⟩ v1).setCell ⟨b, 2, none⟩ v2).setCell ⟨b, 3, none⟩ v3).setCell ⟨b, 4, none⟩ v4).heap[b]? = some (.cells #[v0, v1, v2, v3, v4] t) :=
  heap_set (heap_set (heap_set (heap_set (heap_set hh 0 v0) 1 v1) 2 v2) 3 v3) 4 v4
theorem keep5 (w : World) (b : Nat) (v0 v1 v2 v3 v4 : Value) : Keep [b] w (((((w.setCell ⟨b, 0, none⟩ v0).setCell ⟨b, 1, none⟩ v1).setCell ⟨b, 2, none⟩ v2).setCell ⟨b, 3, none⟩ v3).setCell ⟨b, 4, none⟩ v4) :=
  (((((Keep.refl [b] w).setCell (.inl (by simp)) _).setCell (.inl (by simp)) _).setCell (.inl (by simp)) _).setCell (.inl (by simp)) _).setCell (.inl (by simp)) _

set_option linter.unusedVariables false
def Mr6V (w0 : World) (rb lb ib sl pb sb : Nat) (A : Option Addr) (c : Nat) (l0 : List Int) (k : Nat) (y0 y1 y2 y3 : Int) (n : Nat) (As : Option Addr) (cs : Nat) (h1 h2 h3 h4 : Int) (L : List Stp) (fp : List Nat) (x : Int) : Nat → Value → Prop
  | 0, v => v = .pointer (some ⟨sb, 0, none⟩)
  | 1, v => v = .int .i64 (y0)
  | 2, v => v = .func (.func 70) #[] #[.pointer (some ⟨ib, 0, none⟩), .pointer (some ⟨lb, 0, none⟩)]
  | 3, v => v = .int .i64 (x)
  | 4, v => v = .int .i64 (y0 + x)
  | 5, v => v = .int .i64 (if y0 + x < 6 then y0 + x else 6)
  | 6, v => v = .pointer (some ⟨sb, 0, none⟩)
  | _, _ => True
def Mr6W (w0 : World) (rb lb ib sl pb sb : Nat) (A : Option Addr) (c : Nat) (l0 : List Int) (k : Nat) (y0 y1 y2 y3 : Int) (n : Nat) (As : Option Addr) (cs : Nat) (h1 h2 h3 h4 : Int) (L : List Stp) (fp : List Nat) (x : Int) (l : Nat → Bool) (w : World) : Prop := MadeSt w0 w rb lb ib sl pb sb A c l0 (if l 3 then k + 1 else k) (if l 7 then ⟨(if y0 + x < 6 then y0 + x else 6), y1, y2, y3⟩ else ⟨y0, y1, y2, y3⟩) n As cs h1 h2 h3 h4 L fp
set_option linter.unusedVariables false
def Mr7V (w0 : World) (rb lb ib sl pb sb : Nat) (A : Option Addr) (c : Nat) (l0 : List Int) (k : Nat) (y0 y1 y2 y3 : Int) (n : Nat) (As : Option Addr) (cs : Nat) (h1 h2 h3 h4 : Int) (L : List Stp) (fp : List Nat) (x : Int) : Nat → Value → Prop
  | 0, v => v = .pointer (some ⟨sb, 1, none⟩)
  | 1, v => v = .int .i64 (y1)
  | 2, v => v = .func (.func 70) #[] #[.pointer (some ⟨ib, 0, none⟩), .pointer (some ⟨lb, 0, none⟩)]
  | 3, v => v = .int .i64 (x)
  | 4, v => v = .int .i64 (500 * x)
  | 5, v => v = .int .i64 (y1 + 500 * x)
  | 6, v => v = .pointer (some ⟨sb, 1, none⟩)
  | _, _ => True
def Mr7W (w0 : World) (rb lb ib sl pb sb : Nat) (A : Option Addr) (c : Nat) (l0 : List Int) (k : Nat) (y0 y1 y2 y3 : Int) (n : Nat) (As : Option Addr) (cs : Nat) (h1 h2 h3 h4 : Int) (L : List Stp) (fp : List Nat) (x : Int) (l : Nat → Bool) (w : World) : Prop := MadeSt w0 w rb lb ib sl pb sb A c l0 (if l 3 then k + 1 else k) (if l 7 then ⟨y0, (y1 + 500 * x), y2, y3⟩ else ⟨y0, y1, y2, y3⟩) n As cs h1 h2 h3 h4 L fp
set_option linter.unusedVariables false
def Mr8V (w0 : World) (rb lb ib sl pb sb : Nat) (A : Option Addr) (c : Nat) (l0 : List Int) (k : Nat) (y0 y1 y2 y3 : Int) (n : Nat) (As : Option Addr) (cs : Nat) (h1 h2 h3 h4 : Int) (L : List Stp) (fp : List Nat) (x : Int) : Nat → Value → Prop
  | 0, v => v = .pointer (some ⟨sb, 2, none⟩)
  | 1, v => v = .int .i64 (y2)
  | 2, v => v = .func (.func 70) #[] #[.pointer (some ⟨ib, 0, none⟩), .pointer (some ⟨lb, 0, none⟩)]
  | 3, v => v = .int .i64 (x)
  | 4, v => v = .int .i64 (1 + x)
  | 5, v => v = .int .i64 (y2 + (1 + x))
  | 6, v => v = .pointer (some ⟨sb, 2, none⟩)
  | _, _ => True
def Mr8W (w0 : World) (rb lb ib sl pb sb : Nat) (A : Option Addr) (c : Nat) (l0 : List Int) (k : Nat) (y0 y1 y2 y3 : Int) (n : Nat) (As : Option Addr) (cs : Nat) (h1 h2 h3 h4 : Int) (L : List Stp) (fp : List Nat) (x : Int) (l : Nat → Bool) (w : World) : Prop := MadeSt w0 w rb lb ib sl pb sb A c l0 (if l 3 then k + 1 else k) (if l 7 then ⟨y0, y1, (y2 + (1 + x)), y3⟩ else ⟨y0, y1, y2, y3⟩) n As cs h1 h2 h3 h4 L fp
set_option linter.unusedVariables false
def Mr9V (w0 : World) (rb lb ib sl pb sb : Nat) (A : Option Addr) (c : Nat) (l0 : List Int) (k : Nat) (y0 y1 y2 y3 : Int) (n : Nat) (As : Option Addr) (cs : Nat) (h1 h2 h3 h4 : Int) (L : List Stp) (fp : List Nat) (x : Int) : Nat → Value → Prop
  | 0, v => v = .pointer (some ⟨sb, 2, none⟩)
  | 1, v => v = .int .i64 (y2)
  | 2, v => v = .pointer (some ⟨sb, 3, none⟩)
  | 3, v => v = .int .i64 (y3)
  | 4, v => v = .func (.func 70) #[] #[.pointer (some ⟨ib, 0, none⟩), .pointer (some ⟨lb, 0, none⟩)]
  | 5, v => v = .int .i64 (x)
  | 6, v => v = .int .i64 (y3 + x)
  | 7, v => v = .int .i64 (if y3 + x < y2 then y3 + x else y2)
  | 8, v => v = .pointer (some ⟨sb, 3, none⟩)
  | _, _ => True
def Mr9W (w0 : World) (rb lb ib sl pb sb : Nat) (A : Option Addr) (c : Nat) (l0 : List Int) (k : Nat) (y0 y1 y2 y3 : Int) (n : Nat) (As : Option Addr) (cs : Nat) (h1 h2 h3 h4 : Int) (L : List Stp) (fp : List Nat) (x : Int) (l : Nat → Bool) (w : World) : Prop := MadeSt w0 w rb lb ib sl pb sb A c l0 (if l 5 then k + 1 else k) (if l 9 then ⟨y0, y1, y2, (if y3 + x < y2 then y3 + x else y2)⟩ else ⟨y0, y1, y2, y3⟩) n As cs h1 h2 h3 h4 L fp
theorem info_stp : (Try.prog.info? 199).map (fun i => (i.zero, i.size, i.bytes)) = some (some (.agg #[.int .i64 0, .int .i64 0, .int .i64 0, .int .i64 0]), 4, 32) := by kernel_rfl

def MadePost (w : World) (l : List Int) (e : Ending) (w' : World) : Prop :=
  ∃ A c, e = .returned (.agg #[.slice A (madeP l).steps.length c, .int .i64 (madeP l).hold, .int .i64 (madeP l).calm, .int .i64 (madeP l).notice, .int .i64 (madeP l).grace]) ∧ PolV w' A c (madeP l) ∧ Below w.heap.size w w'

set_option maxRecDepth 100000 in
set_option maxHeartbeats 4000000 in
theorem Made_any (A : Option Addr) (c : Nat) (l : List Int) (w : World) (hr : Rd w 1 A l.length (byts l)) (hl : Bytes l) (hm : l.length ≤ 9223372036854775806) :
    Calls Try.prog 63 #[.slice A l.length c] w (MadePost w l) := by
  obtain ⟨i0, hi, hz0, hz1, hz2⟩ := info_parts info_stp
  have hA : 0 < l.length → ∀ b off, A = some ⟨b, off, none⟩ → b < w.heap.size := fun h0 b off e => hr.lt' h0 e
  have HR := Lib.hid (And.intro hr (And.intro hl hA))
  clear hr hl hA
  go_enter Try.func63, Try.ntmps63
  go_wp2_with fail
  refine (Drawn_any A c l _ (HR.out.1.below ((Below.refl _ _).alloc (Nat.le_refl _) _))).mono ?_
  rintro e w1 ⟨rfl, hD, hB, hz⟩
  simp only [World.size_alloc] at hD hB hz ⊢
  obtain ⟨rb, hrb⟩ : ∃ rb, rb = w.heap.size := ⟨_, rfl⟩
  obtain ⟨lb, hlb⟩ : ∃ lb, lb = rb + 1 := ⟨_, rfl⟩
  obtain ⟨ib, hib⟩ : ∃ ib, ib = lb + 1 := ⟨_, rfl⟩
  rw [← hrb] at hD hB hz ⊢
  rw [← hlb] at hD hB hz ⊢
  rw [← hib] at hD ⊢
  have hres : w1.heap[rb]? = some (.cells #[.slice none 0 0, .int .i64 0, .int .i64 0, .int .i64 0, .int .i64 0] 135 (0, 0)) := by
    rw [hB.block _ (by omega), hrb]; exact heap_alloc_new _ _
  have hbel : Below rb w w1 := ((Below.refl rb w).alloc (by omega) _).trans (hB.mono (by omega))
  have hA' : 0 < l.length → ∀ b off, A = some ⟨b, off, none⟩ → b < rb := fun h0 b off e => by rw [hrb]; exact HR.out.2.2 h0 b off e
  obtain ⟨sl, hsl⟩ : ∃ sl, sl = w1.heap.size := ⟨_, rfl⟩
  have hsl' : sl = rb + 3 := by omega
  -- the first four numbers
  have four : ∀ (k : Nat) (wx : World) (m : Int), (DrawSt wx ib lb A c l k ∧ Below rb w wx ∧ wx.heap[rb]? = some (.cells #[.slice none 0 0, .int .i64 0, .int .i64 0, .int .i64 0, .int .i64 0] 135 (0, 0)) ∧ wx.heap.size = rb + 4 ∧ wx.heap[sl]? = some (.cells #[.int .i64 0, .int .i64 0, .int .i64 0, .int .i64 0] 199 (0, 0))) → 0 < m → m ≤ 1000 →
      Calls Try.prog 70 #[.int .i64 m, .pointer (some ⟨ib, 0, none⟩), .pointer (some ⟨lb, 0, none⟩)] wx fun e w' => e = .returned (.int .i64 (draw l k m)) ∧ (DrawSt w' ib lb A c l (k + 1) ∧ Below rb w w' ∧ w'.heap[rb]? = some (.cells #[.slice none 0 0, .int .i64 0, .int .i64 0, .int .i64 0, .int .i64 0] 135 (0, 0)) ∧ w'.heap.size = rb + 4 ∧ w'.heap[sl]? = some (.cells #[.int .i64 0, .int .i64 0, .int .i64 0, .int .i64 0] 199 (0, 0))) := by
    rintro k wx m ⟨h1, h2, h3, h4, h5⟩ hm1 hm2
    refine (next_any ib lb A c l k m wx h1 HR.out.2.1 hm (by omega) (fun h0 b off e => by have := hA' h0 b off e; omega) ⟨hm1, hm2⟩).mono ?_
    rintro e w' ⟨rfl, hD', hK, hz'⟩
    exact ⟨rfl, hD', h2.trans (hK.below' (by omega) (by simp; omega)), (hK.block _ (heap_lt h3) (by simp; omega)).trans h3, by omega, (hK.block _ (heap_lt h5) (by simp; omega)).trans h5⟩
  have FX := Lib.hid (And.intro hlb (And.intro hib (And.intro hrb (And.intro hA' hsl'))))
  have FN := Lib.hid @four
  have FD := Lib.hid (And.intro hD (And.intro hbel (And.intro hres (And.intro hsl hsl'))))
  have q0 : ∀ wx, wx = w1.alloc (.cells #[.int .i64 0, .int .i64 0, .int .i64 0, .int .i64 0] 199) → (DrawSt wx ib lb A c l 0 ∧ Below rb w wx ∧ wx.heap[rb]? = some (.cells #[.slice none 0 0, .int .i64 0, .int .i64 0, .int .i64 0, .int .i64 0] 135 (0, 0)) ∧ wx.heap.size = rb + 4 ∧ wx.heap[sl]? = some (.cells #[.int .i64 0, .int .i64 0, .int .i64 0, .int .i64 0] 199 (0, 0))) := by
    rintro wx rfl
    exact ⟨FD.out.1.keep ((Keep.refl [] _).alloc _) (by simp) (by simp) (by simp), FD.out.2.1.alloc (by omega) _, heap_alloc' FD.out.2.2.1 _, by simp; omega, by rw [FD.out.2.2.2.1]; exact heap_alloc_new _ _⟩
  have Q0 := Lib.hid q0
  have r0 := draw_range (l := l) 0 (n := 5) (by decide)
  have r1 := draw_range (l := l) 1 (n := 6) (by decide)
  clear hD hbel hres hz hlb hib hrb hA' four hB hsl hsl' q0
  go_wp2_with fail
  refine (FN.out 0 _ 5 (Q0.out _ rfl) (by decide) (by decide)).mono ?_
  rintro e w2 ⟨rfl, q2⟩
  have Q2 := Lib.hid q2
  clear q2
  go_wp2_with fail
  refine (FN.out 1 _ 6 Q2.out (by decide) (by decide)).mono ?_
  rintro e w3 ⟨rfl, q3⟩
  have Q3 := Lib.hid q3
  clear q3
  go_wp2_with fail
  refine (FN.out 2 _ 5 Q3.out (by decide) (by decide)).mono ?_
  rintro e w4 ⟨rfl, q4⟩
  have Q4 := Lib.hid q4
  clear q4
  go_wp2_with fail
  refine (FN.out 3 _ 6 Q4.out (by decide) (by decide)).mono ?_
  rintro e w5 ⟨rfl, q5⟩
  have Q5 := Lib.hid q5
  clear q5
  go_wp2_with fail
  rw [← FD.out.2.2.2.1]
  obtain ⟨pb, hpb⟩ : ∃ pb, pb = w5.heap.size := ⟨_, rfl⟩
  obtain ⟨sb, hsb⟩ : ∃ sb, sb = pb + 1 := ⟨_, rfl⟩
  rw [← hpb, ← hsb]
  have M0 : MadeSt w ((w5.alloc (.cells #[.slice (some ⟨sl, 0, none⟩) 1 1, .int .i64 (1 + draw l 0 5), .int .i64 (1 + draw l 1 6), .int .i64 (draw l 2 5), .int .i64 (draw l 3 6)] 135)).alloc (.cells #[.int .i64 0, .int .i64 0, .int .i64 0, .int .i64 0] 199)) rb lb ib sl pb sb A c l 4 ⟨0, 0, 0, 0⟩ 1 (some ⟨sl, 0, none⟩) 1 (1 + draw l 0 5) (1 + draw l 1 6) (draw l 2 5) (draw l 3 6) [⟨0, 0, 0, 0⟩] [sl] := by
    obtain ⟨f1, f2, f3, f4, f5⟩ := FX.out
    obtain ⟨g1, g2, g3, g4, g5⟩ := Q5.out
    refine ⟨⟨by omega, by omega, by omega, by omega, by omega⟩, g1.keep (((Keep.refl [] _).alloc _).alloc _) (by simp) (by simp) (by simp), ?_, ?_, ?_, by simp, (g2.alloc (by omega) _).alloc (by simp; omega) _, heap_alloc' (heap_alloc' g3 _) _, f4⟩
    · refine heap_alloc' ?_ _
      rw [hpb]; exact heap_alloc_new _ _
    · rw [hsb, hpb]
      have := heap_alloc_new (w5.alloc (.cells #[.slice (some ⟨sl, 0, none⟩) 1 1, .int .i64 (1 + draw l 0 5), .int .i64 (1 + draw l 1 6), .int .i64 (draw l 2 5), .int .i64 (draw l 3 6)] 135)) (.cells #[.int .i64 0, .int .i64 0, .int .i64 0, .int .i64 0] 199)
      rw [World.size_alloc] at this
      exact this
    · exact ⟨rfl, .inr ⟨sl, _, rfl, rfl, heap_alloc' (heap_alloc' g5 _) _, by omega, by omega, rfl, fun j u hu => by simpa [stcs, stc] using hu⟩⟩
  have HM0 := Lib.hid M0
  have HPB := Lib.hid (And.intro hpb hsb)
  clear M0 hpb hsb
  refine (HM0.out.next HR.out.2.1 hm 6 (by decide)).mono ?_
  rintro e w6 ⟨rfl, M6⟩
  have HM6 := Lib.hid M6
  obtain ⟨M, hM⟩ : ∃ M : Nat, draw l 4 6 = M := ⟨(draw l 4 6).toNat, by have := draw_range (l := l) 4 (n := 6) (by decide); omega⟩
  have hM6 : M ≤ 5 := by have := draw_range (l := l) 4 (n := 6) (by decide); omega
  obtain ⟨h1, hh1⟩ : ∃ h1, h1 = 1 + draw l 0 5 := ⟨_, rfl⟩
  obtain ⟨h2, hh2⟩ : ∃ h2, h2 = 1 + draw l 1 6 := ⟨_, rfl⟩
  obtain ⟨h3, hh3⟩ : ∃ h3, h3 = draw l 2 5 := ⟨_, rfl⟩
  obtain ⟨h4, hh4⟩ : ∃ h4, h4 = draw l 3 6 := ⟨_, rfl⟩
  rw [hM]
  rw [← hh1, ← hh2, ← hh3, ← hh4] at M6
  have HM6 := Lib.hid M6
  have HMM := Lib.hid (And.intro hM (And.intro hh1 (And.intro hh2 (And.intro hh3 hh4))))
  clear M6 hM hh1 hh2 hh3 hh4 r0 r1
  go_wp2_with fail
  go_loopw [24] (fun i wr => ∃ (j : Nat) (As : Option Addr) (cs : Nat) (fp : List Nat), j ≤ M ∧ i = .int .i64 j ∧ MadeSt w wr rb lb ib sl pb sb A c l (5 + 4 * j) (madeStp l j) (j + 1) As cs h1 h2 h3 h4 (madeSteps l (j + 1)) fp)
    (fun i _ => M - (intOf i).toNat)
  case atStart => exact ⟨0, _, _, _, Nat.zero_le _, rfl, HM6.out⟩
  case round =>
    obtain ⟨j, As, cs, fp, hj, rfl, hst⟩ := hrel
    by_cases hlt : j < M
    · obtain ⟨⟨a0, a1, a2, a3⟩, hs⟩ : ∃ s, s = madeStp l j := ⟨_, rfl⟩
      have sbd := madeStp_bd l j
      rw [← hs] at hst sbd
      simp only at sbd
      have HS := Lib.hid hs
      have HST0 := Lib.hid hst
      clear hst hs
      go_upto_region 6 with fail
      obtain ⟨x0, hx⟩ : ∃ x, x = draw l (5 + 4 * j) 3 := ⟨_, rfl⟩
      have r0 := draw_range (l := l) (5 + 4 * j) (n := 3) (by decide)
      rw [← hx] at r0
      have HX0 := Lib.hid hx
      clear hx
      refine wp_region_steps (σ := Unit) (by kernel_rfl) (by kernel_rfl) (fun _ jx vx _ => Mr6V w rb lb ib sl pb sb A c l (5 + 4 * j) a0 a1 a2 a3 (j + 1) As cs h1 h2 h3 h4 (madeSteps l (j + 1)) fp x0 jx vx) (fun _ ly wx => Mr6W w rb lb ib sl pb sb A c l (5 + 4 * j) a0 a1 a2 a3 (j + 1) As cs h1 h2 h3 h4 (madeSteps l (j + 1)) fp x0 ly wx) () ?_ ?_ ?_
      · simpa [Mr6W] using HST0.out.drew
      · simp only [AllFrom, Nat.zero_add, Nat.reduceAdd]
        refine ⟨?_, ?_, ?_, ?_, ?_, ?_, ?_, ?_, trivial⟩
        · refine step_pure fun sg ly a wr hl hd hW hF => ?_
          have et5 := hF.old 5 (by kernel_rfl)
          simp [Act.eval] at et5
          exact ⟨by simpa [Mr6W, upd] using hW, .pointer (some ⟨sb, 0, none⟩), by go_simp, rfl⟩
        · refine step_pure fun sg ly a wr hl hd hW hF => ?_
          simp [Region.binds] at hd
          have et26 := hF.new 0 26 (by simp [hd]) rfl
          simp [Mr6V, Act.eval] at et26
          have nS_4 := hF.notYet 1 4 hl (by kernel_rfl)
          have nS_5 := hF.notYet 4 5 nS_4 (by kernel_rfl)
          have nS := hF.notYet 5 7 nS_5 (by kernel_rfl)
          have hw := hW
          simp [Mr6W, nS] at hw
          have hc := hw.cells
          simp only [StpCells] at hc
          obtain ⟨c0, c1, c2, c3, zz, f0, f1, f2, f3⟩ := hc
          exact ⟨by simpa [Mr6W, upd] using hW, .int .i64 (a0), by go_simp, rfl⟩
        · refine step_pure fun sg ly a wr hl hd hW hF => ?_
          have et3 := hF.old 3 (by kernel_rfl)
          simp [Act.eval] at et3
          exact ⟨by simpa [Mr6W, upd] using hW, .func (.func 70) #[] #[.pointer (some ⟨ib, 0, none⟩), .pointer (some ⟨lb, 0, none⟩)], by go_simp, rfl⟩
        · refine step_call fun sg ly a wr hl hd hW hF => ?_
          simp [Region.binds] at hd
          have et28 := hF.new 2 28 (by simp [hd]) rfl
          simp [Mr6V, Act.eval] at et28
          have nS_4 := hF.notYet 3 4 hl (by kernel_rfl)
          have nS_5 := hF.notYet 4 5 nS_4 (by kernel_rfl)
          have nS := hF.notYet 5 7 nS_5 (by kernel_rfl)
          have hw := hW
          simp [Mr6W, nS, hl] at hw
          refine ⟨70, #[.int .i64 3, .pointer (some ⟨ib, 0, none⟩), .pointer (some ⟨lb, 0, none⟩)], by go_simp, ?_⟩
          refine (hw.next HR.out.2.1 hm 3 (by decide)).mono ?_
          rintro e w' ⟨rfl, h'⟩
          rw [← HX0.out]
          exact ⟨.int .i64 x0, (), rfl, by simpa [Mr6W, upd, nS] using h', rfl, fun _ _ _ h => h⟩
        · refine step_pure fun sg ly a wr hl hd hW hF => ?_
          simp [Region.binds] at hd
          have et27 := hF.new 1 27 (by simp [hd]) rfl
          simp [Mr6V, Act.eval] at et27
          have et29 := hF.new 3 29 (by simp [hd]) rfl
          simp [Mr6V, Act.eval] at et29
          have ew := IntWalk.i64_in (a0 + x0) (by omega)
          exact ⟨by simpa [Mr6W, upd] using hW, .int .i64 (a0 + x0), by go_simp, rfl⟩
        · refine step_pure fun sg ly a wr hl hd hW hF => ?_
          simp [Region.binds] at hd
          have et30 := hF.new 4 30 (by simp [hd]) rfl
          simp [Mr6V, Act.eval] at et30
          exact ⟨by simpa [Mr6W, upd] using hW, .int .i64 (if a0 + x0 < 6 then a0 + x0 else 6), by go_simp, rfl⟩
        · refine step_pure fun sg ly a wr hl hd hW hF => ?_
          have et5 := hF.old 5 (by kernel_rfl)
          simp [Act.eval] at et5
          exact ⟨by simpa [Mr6W, upd] using hW, .pointer (some ⟨sb, 0, none⟩), by go_simp, rfl⟩
        · refine step_store rfl fun sg ly a wr hl hd hW hF => ?_
          simp [Region.binds] at hd
          have et32 := hF.new 6 32 (by simp [hd]) rfl
          simp [Mr6V, Act.eval] at et32
          have et31 := hF.new 5 31 (by simp [hd]) rfl
          simp [Mr6V, Act.eval] at et31
          have yC_4 := hF.before 4 5 (by simp [hd]) (by kernel_rfl)
          have yC := hF.before 3 4 yC_4 (by kernel_rfl)
          have hw := hW
          simp [Mr6W, yC, hl] at hw
          have hc := hw.cells
          simp only [StpCells] at hc
          obtain ⟨c0, c1, c2, c3, zz, f0, f1, f2, f3⟩ := hc
          refine ⟨wr.setCell ⟨sb, 0, none⟩ (.int .i64 (if a0 + x0 < 6 then a0 + x0 else 6)), (), .skip, by go_simp, .inl rfl, ?_, fun _ _ _ h => h⟩
          have h' := hw.set_ 0 (.int .i64 (if a0 + x0 < 6 then a0 + x0 else 6)) ⟨if a0 + x0 < 6 then a0 + x0 else 6, a1, a2, a3⟩ rfl
          simpa [Mr6W, upd, yC] using h'
      intro _ a w10 hW hF
      obtain ⟨f0, hf, rfl⟩ := hF.lit
      simp [Mr6W] at hW
      obtain ⟨v0, hv⟩ : ∃ v, v = if a0 + x0 < 6 then a0 + x0 else 6 := ⟨_, rfl⟩
      rw [← hv] at hW
      have bv0 : 0 ≤ v0 ∧ v0 ≤ 6 := by rw [hv]; split <;> omega
      have HV0 := Lib.hid hv
      have HST1 := Lib.hid hW
      clear hf hF hW hv
      simp only [List.filterMap, List.foldl, List.setIfInBounds_toArray, List.set_cons_succ, List.set_cons_zero]
      go_upto_region 7 with fail
      obtain ⟨x1, hx⟩ : ∃ x, x = draw l (5 + 4 * j + 1) 8 := ⟨_, rfl⟩
      have r1 := draw_range (l := l) (5 + 4 * j + 1) (n := 8) (by decide)
      rw [← hx] at r1
      have HX1 := Lib.hid hx
      clear hx
      refine wp_region_steps (σ := Unit) (by kernel_rfl) (by kernel_rfl) (fun _ jx vx _ => Mr7V w rb lb ib sl pb sb A c l (5 + 4 * j + 1) v0 a1 a2 a3 (j + 1) As cs h1 h2 h3 h4 (madeSteps l (j + 1)) fp x1 jx vx) (fun _ ly wx => Mr7W w rb lb ib sl pb sb A c l (5 + 4 * j + 1) v0 a1 a2 a3 (j + 1) As cs h1 h2 h3 h4 (madeSteps l (j + 1)) fp x1 ly wx) () ?_ ?_ ?_
      · simpa [Mr7W] using HST1.out.drew
      · simp only [AllFrom, Nat.zero_add, Nat.reduceAdd]
        refine ⟨?_, ?_, ?_, ?_, ?_, ?_, ?_, ?_, trivial⟩
        · refine step_pure fun sg ly a wr hl hd hW hF => ?_
          have et5 := hF.old 5 (by kernel_rfl)
          simp [Act.eval] at et5
          exact ⟨by simpa [Mr7W, upd] using hW, .pointer (some ⟨sb, 1, none⟩), by go_simp, rfl⟩
        · refine step_pure fun sg ly a wr hl hd hW hF => ?_
          simp [Region.binds] at hd
          have et33 := hF.new 0 33 (by simp [hd]) rfl
          simp [Mr7V, Act.eval] at et33
          have nS_5 := hF.notYet 1 5 hl (by kernel_rfl)
          have nS := hF.notYet 5 7 nS_5 (by kernel_rfl)
          have hw := hW
          simp [Mr7W, nS] at hw
          have hc := hw.cells
          simp only [StpCells] at hc
          obtain ⟨c0, c1, c2, c3, zz, f0, f1, f2, f3⟩ := hc
          exact ⟨by simpa [Mr7W, upd] using hW, .int .i64 (a1), by go_simp, rfl⟩
        · refine step_pure fun sg ly a wr hl hd hW hF => ?_
          have et3 := hF.old 3 (by kernel_rfl)
          simp [Act.eval] at et3
          exact ⟨by simpa [Mr7W, upd] using hW, .func (.func 70) #[] #[.pointer (some ⟨ib, 0, none⟩), .pointer (some ⟨lb, 0, none⟩)], by go_simp, rfl⟩
        · refine step_call fun sg ly a wr hl hd hW hF => ?_
          simp [Region.binds] at hd
          have et35 := hF.new 2 35 (by simp [hd]) rfl
          simp [Mr7V, Act.eval] at et35
          have nS_4 := hF.notYet 3 4 hl (by kernel_rfl)
          have nS_5 := hF.notYet 4 5 nS_4 (by kernel_rfl)
          have nS := hF.notYet 5 7 nS_5 (by kernel_rfl)
          have hw := hW
          simp [Mr7W, nS, hl] at hw
          refine ⟨70, #[.int .i64 8, .pointer (some ⟨ib, 0, none⟩), .pointer (some ⟨lb, 0, none⟩)], by go_simp, ?_⟩
          refine (hw.next HR.out.2.1 hm 8 (by decide)).mono ?_
          rintro e w' ⟨rfl, h'⟩
          rw [← HX1.out]
          exact ⟨.int .i64 x1, (), rfl, by simpa [Mr7W, upd, nS] using h', rfl, fun _ _ _ h => h⟩
        · refine step_pure fun sg ly a wr hl hd hW hF => ?_
          simp [Region.binds] at hd
          have et36 := hF.new 3 36 (by simp [hd]) rfl
          simp [Mr7V, Act.eval] at et36
          have ew := IntWalk.i64_in (500 * x1) (by omega)
          exact ⟨by simpa [Mr7W, upd] using hW, .int .i64 (500 * x1), by go_simp, rfl⟩
        · refine step_pure fun sg ly a wr hl hd hW hF => ?_
          simp [Region.binds] at hd
          have et34 := hF.new 1 34 (by simp [hd]) rfl
          simp [Mr7V, Act.eval] at et34
          have et37 := hF.new 4 37 (by simp [hd]) rfl
          simp [Mr7V, Act.eval] at et37
          have ew := IntWalk.i64_in (a1 + 500 * x1) (by omega)
          exact ⟨by simpa [Mr7W, upd] using hW, .int .i64 (a1 + 500 * x1), by go_simp, rfl⟩
        · refine step_pure fun sg ly a wr hl hd hW hF => ?_
          have et5 := hF.old 5 (by kernel_rfl)
          simp [Act.eval] at et5
          exact ⟨by simpa [Mr7W, upd] using hW, .pointer (some ⟨sb, 1, none⟩), by go_simp, rfl⟩
        · refine step_store rfl fun sg ly a wr hl hd hW hF => ?_
          simp [Region.binds] at hd
          have et39 := hF.new 6 39 (by simp [hd]) rfl
          simp [Mr7V, Act.eval] at et39
          have et38 := hF.new 5 38 (by simp [hd]) rfl
          simp [Mr7V, Act.eval] at et38
          have yC_4 := hF.before 4 5 (by simp [hd]) (by kernel_rfl)
          have yC := hF.before 3 4 yC_4 (by kernel_rfl)
          have hw := hW
          simp [Mr7W, yC, hl] at hw
          have hc := hw.cells
          simp only [StpCells] at hc
          obtain ⟨c0, c1, c2, c3, zz, f0, f1, f2, f3⟩ := hc
          refine ⟨wr.setCell ⟨sb, 1, none⟩ (.int .i64 (a1 + 500 * x1)), (), .skip, by go_simp, .inl rfl, ?_, fun _ _ _ h => h⟩
          have h' := hw.set_ 1 (.int .i64 (a1 + 500 * x1)) ⟨v0, a1 + 500 * x1, a2, a3⟩ rfl
          simpa [Mr7W, upd, yC] using h'
      intro _ a w11 hW hF
      obtain ⟨f1, hf, rfl⟩ := hF.lit
      simp [Mr7W] at hW
      obtain ⟨v1, hv⟩ : ∃ v, v = a1 + 500 * x1 := ⟨_, rfl⟩
      rw [← hv] at hW
      have bv1 : 0 ≤ v1 ∧ v1 ≤ 100000 := by omega
      have HV1 := Lib.hid hv
      have HST2 := Lib.hid hW
      clear hf hF hW hv
      simp only [List.filterMap, List.foldl, List.setIfInBounds_toArray, List.set_cons_succ, List.set_cons_zero]
      go_upto_region 8 with fail
      obtain ⟨x2, hx⟩ : ∃ x, x = draw l (5 + 4 * j + 2) 120 := ⟨_, rfl⟩
      have r2 := draw_range (l := l) (5 + 4 * j + 2) (n := 120) (by decide)
      rw [← hx] at r2
      have HX2 := Lib.hid hx
      clear hx
      refine wp_region_steps (σ := Unit) (by kernel_rfl) (by kernel_rfl) (fun _ jx vx _ => Mr8V w rb lb ib sl pb sb A c l (5 + 4 * j + 2) v0 v1 a2 a3 (j + 1) As cs h1 h2 h3 h4 (madeSteps l (j + 1)) fp x2 jx vx) (fun _ ly wx => Mr8W w rb lb ib sl pb sb A c l (5 + 4 * j + 2) v0 v1 a2 a3 (j + 1) As cs h1 h2 h3 h4 (madeSteps l (j + 1)) fp x2 ly wx) () ?_ ?_ ?_
      · simpa [Mr8W] using HST2.out.drew
      · simp only [AllFrom, Nat.zero_add, Nat.reduceAdd]
        refine ⟨?_, ?_, ?_, ?_, ?_, ?_, ?_, ?_, trivial⟩
        · refine step_pure fun sg ly a wr hl hd hW hF => ?_
          have et5 := hF.old 5 (by kernel_rfl)
          simp [Act.eval] at et5
          exact ⟨by simpa [Mr8W, upd] using hW, .pointer (some ⟨sb, 2, none⟩), by go_simp, rfl⟩
        · refine step_pure fun sg ly a wr hl hd hW hF => ?_
          simp [Region.binds] at hd
          have et40 := hF.new 0 40 (by simp [hd]) rfl
          simp [Mr8V, Act.eval] at et40
          have nS_5 := hF.notYet 1 5 hl (by kernel_rfl)
          have nS := hF.notYet 5 7 nS_5 (by kernel_rfl)
          have hw := hW
          simp [Mr8W, nS] at hw
          have hc := hw.cells
          simp only [StpCells] at hc
          obtain ⟨c0, c1, c2, c3, zz, f0, f1, f2, f3⟩ := hc
          exact ⟨by simpa [Mr8W, upd] using hW, .int .i64 (a2), by go_simp, rfl⟩
        · refine step_pure fun sg ly a wr hl hd hW hF => ?_
          have et3 := hF.old 3 (by kernel_rfl)
          simp [Act.eval] at et3
          exact ⟨by simpa [Mr8W, upd] using hW, .func (.func 70) #[] #[.pointer (some ⟨ib, 0, none⟩), .pointer (some ⟨lb, 0, none⟩)], by go_simp, rfl⟩
        · refine step_call fun sg ly a wr hl hd hW hF => ?_
          simp [Region.binds] at hd
          have et42 := hF.new 2 42 (by simp [hd]) rfl
          simp [Mr8V, Act.eval] at et42
          have nS_4 := hF.notYet 3 4 hl (by kernel_rfl)
          have nS_5 := hF.notYet 4 5 nS_4 (by kernel_rfl)
          have nS := hF.notYet 5 7 nS_5 (by kernel_rfl)
          have hw := hW
          simp [Mr8W, nS, hl] at hw
          refine ⟨70, #[.int .i64 120, .pointer (some ⟨ib, 0, none⟩), .pointer (some ⟨lb, 0, none⟩)], by go_simp, ?_⟩
          refine (hw.next HR.out.2.1 hm 120 (by decide)).mono ?_
          rintro e w' ⟨rfl, h'⟩
          rw [← HX2.out]
          exact ⟨.int .i64 x2, (), rfl, by simpa [Mr8W, upd, nS] using h', rfl, fun _ _ _ h => h⟩
        · refine step_pure fun sg ly a wr hl hd hW hF => ?_
          simp [Region.binds] at hd
          have et43 := hF.new 3 43 (by simp [hd]) rfl
          simp [Mr8V, Act.eval] at et43
          have ew := IntWalk.i64_in (1 + x2) (by omega)
          exact ⟨by simpa [Mr8W, upd] using hW, .int .i64 (1 + x2), by go_simp, rfl⟩
        · refine step_pure fun sg ly a wr hl hd hW hF => ?_
          simp [Region.binds] at hd
          have et41 := hF.new 1 41 (by simp [hd]) rfl
          simp [Mr8V, Act.eval] at et41
          have et44 := hF.new 4 44 (by simp [hd]) rfl
          simp [Mr8V, Act.eval] at et44
          have ew := IntWalk.i64_in (a2 + (1 + x2)) (by omega)
          exact ⟨by simpa [Mr8W, upd] using hW, .int .i64 (a2 + (1 + x2)), by go_simp, rfl⟩
        · refine step_pure fun sg ly a wr hl hd hW hF => ?_
          have et5 := hF.old 5 (by kernel_rfl)
          simp [Act.eval] at et5
          exact ⟨by simpa [Mr8W, upd] using hW, .pointer (some ⟨sb, 2, none⟩), by go_simp, rfl⟩
        · refine step_store rfl fun sg ly a wr hl hd hW hF => ?_
          simp [Region.binds] at hd
          have et46 := hF.new 6 46 (by simp [hd]) rfl
          simp [Mr8V, Act.eval] at et46
          have et45 := hF.new 5 45 (by simp [hd]) rfl
          simp [Mr8V, Act.eval] at et45
          have yC_4 := hF.before 4 5 (by simp [hd]) (by kernel_rfl)
          have yC := hF.before 3 4 yC_4 (by kernel_rfl)
          have hw := hW
          simp [Mr8W, yC, hl] at hw
          have hc := hw.cells
          simp only [StpCells] at hc
          obtain ⟨c0, c1, c2, c3, zz, f0, f1, f2, f3⟩ := hc
          refine ⟨wr.setCell ⟨sb, 2, none⟩ (.int .i64 (a2 + (1 + x2))), (), .skip, by go_simp, .inl rfl, ?_, fun _ _ _ h => h⟩
          have h' := hw.set_ 2 (.int .i64 (a2 + (1 + x2))) ⟨v0, v1, a2 + (1 + x2), a3⟩ rfl
          simpa [Mr8W, upd, yC] using h'
      intro _ a w12 hW hF
      obtain ⟨f2, hf, rfl⟩ := hF.lit
      simp [Mr8W] at hW
      obtain ⟨v2, hv⟩ : ∃ v, v = a2 + (1 + x2) := ⟨_, rfl⟩
      rw [← hv] at hW
      have bv2 : 0 ≤ v2 ∧ v2 ≤ 1000 := by omega
      have HV2 := Lib.hid hv
      have HST3 := Lib.hid hW
      clear hf hF hW hv
      simp only [List.filterMap, List.foldl, List.setIfInBounds_toArray, List.set_cons_succ, List.set_cons_zero]
      go_upto_region 9 with fail
      obtain ⟨x3, hx⟩ : ∃ x, x = draw l (5 + 4 * j + 3) 100 := ⟨_, rfl⟩
      have r3 := draw_range (l := l) (5 + 4 * j + 3) (n := 100) (by decide)
      rw [← hx] at r3
      have HX3 := Lib.hid hx
      clear hx
      refine wp_region_steps (σ := Unit) (by kernel_rfl) (by kernel_rfl) (fun _ jx vx _ => Mr9V w rb lb ib sl pb sb A c l (5 + 4 * j + 3) v0 v1 v2 a3 (j + 1) As cs h1 h2 h3 h4 (madeSteps l (j + 1)) fp x3 jx vx) (fun _ ly wx => Mr9W w rb lb ib sl pb sb A c l (5 + 4 * j + 3) v0 v1 v2 a3 (j + 1) As cs h1 h2 h3 h4 (madeSteps l (j + 1)) fp x3 ly wx) () ?_ ?_ ?_
      · simpa [Mr9W] using HST3.out.drew
      · simp only [AllFrom, Nat.zero_add, Nat.reduceAdd]
        refine ⟨?_, ?_, ?_, ?_, ?_, ?_, ?_, ?_, ?_, ?_, trivial⟩
        · refine step_pure fun sg ly a wr hl hd hW hF => ?_
          have et5 := hF.old 5 (by kernel_rfl)
          simp [Act.eval] at et5
          exact ⟨by simpa [Mr9W, upd] using hW, .pointer (some ⟨sb, 2, none⟩), by go_simp, rfl⟩
        · refine step_pure fun sg ly a wr hl hd hW hF => ?_
          simp [Region.binds] at hd
          have et47 := hF.new 0 47 (by simp [hd]) rfl
          simp [Mr9V, Act.eval] at et47
          have nS_7 := hF.notYet 1 7 hl (by kernel_rfl)
          have nS := hF.notYet 7 9 nS_7 (by kernel_rfl)
          have hw := hW
          simp [Mr9W, nS] at hw
          have hc := hw.cells
          simp only [StpCells] at hc
          obtain ⟨c0, c1, c2, c3, zz, f0, f1, f2, f3⟩ := hc
          exact ⟨by simpa [Mr9W, upd] using hW, .int .i64 (v2), by go_simp, rfl⟩
        · refine step_pure fun sg ly a wr hl hd hW hF => ?_
          have et5 := hF.old 5 (by kernel_rfl)
          simp [Act.eval] at et5
          exact ⟨by simpa [Mr9W, upd] using hW, .pointer (some ⟨sb, 3, none⟩), by go_simp, rfl⟩
        · refine step_pure fun sg ly a wr hl hd hW hF => ?_
          simp [Region.binds] at hd
          have et49 := hF.new 2 49 (by simp [hd]) rfl
          simp [Mr9V, Act.eval] at et49
          have nS_6 := hF.notYet 3 6 hl (by kernel_rfl)
          have nS_7 := hF.notYet 6 7 nS_6 (by kernel_rfl)
          have nS := hF.notYet 7 9 nS_7 (by kernel_rfl)
          have hw := hW
          simp [Mr9W, nS] at hw
          have hc := hw.cells
          simp only [StpCells] at hc
          obtain ⟨c0, c1, c2, c3, zz, f0, f1, f2, f3⟩ := hc
          exact ⟨by simpa [Mr9W, upd] using hW, .int .i64 (a3), by go_simp, rfl⟩
        · refine step_pure fun sg ly a wr hl hd hW hF => ?_
          have et3 := hF.old 3 (by kernel_rfl)
          simp [Act.eval] at et3
          exact ⟨by simpa [Mr9W, upd] using hW, .func (.func 70) #[] #[.pointer (some ⟨ib, 0, none⟩), .pointer (some ⟨lb, 0, none⟩)], by go_simp, rfl⟩
        · refine step_call fun sg ly a wr hl hd hW hF => ?_
          simp [Region.binds] at hd
          have et51 := hF.new 4 51 (by simp [hd]) rfl
          simp [Mr9V, Act.eval] at et51
          have nS_6 := hF.notYet 5 6 hl (by kernel_rfl)
          have nS_7 := hF.notYet 6 7 nS_6 (by kernel_rfl)
          have nS := hF.notYet 7 9 nS_7 (by kernel_rfl)
          have hw := hW
          simp [Mr9W, nS, hl] at hw
          refine ⟨70, #[.int .i64 100, .pointer (some ⟨ib, 0, none⟩), .pointer (some ⟨lb, 0, none⟩)], by go_simp, ?_⟩
          refine (hw.next HR.out.2.1 hm 100 (by decide)).mono ?_
          rintro e w' ⟨rfl, h'⟩
          rw [← HX3.out]
          exact ⟨.int .i64 x3, (), rfl, by simpa [Mr9W, upd, nS] using h', rfl, fun _ _ _ h => h⟩
        · refine step_pure fun sg ly a wr hl hd hW hF => ?_
          simp [Region.binds] at hd
          have et50 := hF.new 3 50 (by simp [hd]) rfl
          simp [Mr9V, Act.eval] at et50
          have et52 := hF.new 5 52 (by simp [hd]) rfl
          simp [Mr9V, Act.eval] at et52
          have ew := IntWalk.i64_in (a3 + x3) (by omega)
          exact ⟨by simpa [Mr9W, upd] using hW, .int .i64 (a3 + x3), by go_simp, rfl⟩
        · refine step_pure fun sg ly a wr hl hd hW hF => ?_
          simp [Region.binds] at hd
          have et48 := hF.new 1 48 (by simp [hd]) rfl
          simp [Mr9V, Act.eval] at et48
          have et53 := hF.new 6 53 (by simp [hd]) rfl
          simp [Mr9V, Act.eval] at et53
          exact ⟨by simpa [Mr9W, upd] using hW, .int .i64 (if a3 + x3 < v2 then a3 + x3 else v2), by go_simp, rfl⟩
        · refine step_pure fun sg ly a wr hl hd hW hF => ?_
          have et5 := hF.old 5 (by kernel_rfl)
          simp [Act.eval] at et5
          exact ⟨by simpa [Mr9W, upd] using hW, .pointer (some ⟨sb, 3, none⟩), by go_simp, rfl⟩
        · refine step_store rfl fun sg ly a wr hl hd hW hF => ?_
          simp [Region.binds] at hd
          have et55 := hF.new 8 55 (by simp [hd]) rfl
          simp [Mr9V, Act.eval] at et55
          have et54 := hF.new 7 54 (by simp [hd]) rfl
          simp [Mr9V, Act.eval] at et54
          have yC_6 := hF.before 6 7 (by simp [hd]) (by kernel_rfl)
          have yC := hF.before 5 6 yC_6 (by kernel_rfl)
          have hw := hW
          simp [Mr9W, yC, hl] at hw
          have hc := hw.cells
          simp only [StpCells] at hc
          obtain ⟨c0, c1, c2, c3, zz, f0, f1, f2, f3⟩ := hc
          refine ⟨wr.setCell ⟨sb, 3, none⟩ (.int .i64 (if a3 + x3 < v2 then a3 + x3 else v2)), (), .skip, by go_simp, .inl rfl, ?_, fun _ _ _ h => h⟩
          have h' := hw.set_ 3 (.int .i64 (if a3 + x3 < v2 then a3 + x3 else v2)) ⟨v0, v1, v2, if a3 + x3 < v2 then a3 + x3 else v2⟩ rfl
          simpa [Mr9W, upd, yC] using h'
      intro _ a w13 hW hF
      obtain ⟨f3, hf, rfl⟩ := hF.lit
      simp [Mr9W] at hW
      obtain ⟨v3, hv⟩ : ∃ v, v = if a3 + x3 < v2 then a3 + x3 else v2 := ⟨_, rfl⟩
      rw [← hv] at hW
      have bv3 : 0 ≤ v3 ∧ v3 ≤ v2 := by rw [hv]; split <;> omega
      have HV3 := Lib.hid hv
      have HST4 := Lib.hid hW
      clear hf hF hW hv
      simp only [List.filterMap, List.foldl, List.setIfInBounds_toArray, List.set_cons_succ, List.set_cons_zero]
      have hc := HST4.out.cells
      simp only [StpCells] at hc
      obtain ⟨c0, c1, c2, c3, zz, _⟩ := hc
      have p0 : w13.cell? ⟨pb, 0, none⟩ = some (.slice As (j + 1) cs) := (cell_of_heap HST4.out.pol 0).trans rfl
      have zp := heap_lt HST4.out.pol
      have np : pb ∉ fp := fun hm => by have sp := HST4.out.sp; rcases HST4.out.fp_ pb hm with e | e <;> omega
      have HNP := Lib.hid np
      clear np
      go_wp2_with (at_builtin
                   refine wpList_append_S (size := 4) rfl (.tmp 57) (.tmp 59) 133 rfl i0 _ 32 Try.underlying133 hi hz0 hz1 (by decide) hz2 rfl (A := As) (n := j + 1) (c := cs) (xs := stcs (madeSteps l (j + 1))) (fp := fp) (by simp [Act.eval]) ⟨w13.heap.size, 0, none⟩ (by simp [Act.eval]) [.int .i64 v0, .int .i64 v1, .int .i64 v2, .int .i64 v3] (HST4.out.own.alloc _) rfl ?_ (by simp [Value.oneCell']) (by omega) (by omega) ?_
                   · intro i v hv
                     rw [show (⟨w13.heap.size, 0, none⟩ : Addr).add i = ⟨w13.heap.size, i, none⟩ from by simp [Addr.add]; omega, World.cell?_alloc_new]
                     simpa using hv
                   intro g c' w14 q1 q2 q3 q4
                   have hb1 : w14.heap[pb]? = some (.cells #[.slice As (j + 1) cs, .int .i64 h1, .int .i64 h2, .int .i64 h3, .int .i64 h4] 135 (0, 0)) := (q4.block pb (by simp; omega) HNP.out).trans (heap_alloc' HST4.out.pol _)
                   have d0 : w14.cell? ⟨pb, 0, none⟩ = some (.slice As (j + 1) cs) := (cell_of_heap hb1 0).trans rfl
                   have d1 := frozen_of_heap hb1 0
                   have HQ := Lib.hid (And.intro q1 (And.intro q2 q4))
                   clear q1 q2 q3 q4 hb1)
      go_roundw
      case measure => simp [intOf]; omega
      case rel =>
        refine ⟨j + 1, some ⟨g, 0, none⟩, c', [g], by omega, by go_num, ?_⟩
        have h5 := HST4.out.push HQ.out.1 HQ.out.2.1 HQ.out.2.2
        have e1 : (⟨v0, v1, v2, v3⟩ : Stp) = madeStp l (j + 1) := by
          show _ = nextStp l (5 + 4 * j) (madeStp l j)
          rw [← HS.out]
          simp only [nextStp, ← HX0.out, ← HX1.out, ← HX2.out, ← HX3.out]
          have g0 := HV0.out
          have g1 := HV1.out
          have g2 := HV2.out
          have g3 := HV3.out
          simp only [Stp.mk.injEq]
          refine ⟨by rw [g0]; split <;> omega, g1, g2, by rw [g3, ← g2]; split <;> omega⟩
        rw [e1, ← madeSteps_succ] at h5
        exact h5
    · obtain rfl : j = M := by omega
      have HST := Lib.hid hst
      have p : ∀ i, w.cell? ⟨0, i, none⟩ = w.cell? ⟨0, i, none⟩ := fun _ => rfl
      clear p
      have p0 : wr.cell? ⟨pb, 0, none⟩ = some (.slice As (j + 1) cs) := (cell_of_heap hst.pol 0).trans rfl
      have p1 : wr.cell? ⟨pb, 1, none⟩ = some (.int .i64 h1) := (cell_of_heap hst.pol 1).trans rfl
      have p2 : wr.cell? ⟨pb, 2, none⟩ = some (.int .i64 h2) := (cell_of_heap hst.pol 2).trans rfl
      have p3 : wr.cell? ⟨pb, 3, none⟩ = some (.int .i64 h3) := (cell_of_heap hst.pol 3).trans rfl
      have p4 : wr.cell? ⟨pb, 4, none⟩ = some (.int .i64 h4) := (cell_of_heap hst.pol 4).trans rfl
      have r0 : wr.cell? ⟨rb, 0, none⟩ = some (.slice none 0 0) := (cell_of_heap hst.res 0).trans rfl
      have r1 : wr.cell? ⟨rb, 1, none⟩ = some (.int .i64 0) := (cell_of_heap hst.res 1).trans rfl
      have r2 : wr.cell? ⟨rb, 2, none⟩ = some (.int .i64 0) := (cell_of_heap hst.res 2).trans rfl
      have r3 : wr.cell? ⟨rb, 3, none⟩ = some (.int .i64 0) := (cell_of_heap hst.res 3).trans rfl
      have r4 : wr.cell? ⟨rb, 4, none⟩ = some (.int .i64 0) := (cell_of_heap hst.res 4).trans rfl
      have f0 := frozen_of_heap hst.res 0
      have f1 := frozen_of_heap hst.res 1
      have f2 := frozen_of_heap hst.res 2
      have f3 := frozen_of_heap hst.res 3
      have f4 := frozen_of_heap hst.res 4
      clear hst
      go_wp2_with fail
      have hh := cells5 HST.out.res (.slice As (j + 1) cs) (.int .i64 h1) (.int .i64 h2) (.int .i64 h3) (.int .i64 h4)
      have K5 := keep5 wr rb (.slice As (j + 1) cs) (.int .i64 h1) (.int .i64 h2) (.int .i64 h3) (.int .i64 h4)
      have k0 := cell_of_heap hh 0
      have k1 := cell_of_heap hh 1
      have k2 := cell_of_heap hh 2
      have k3 := cell_of_heap hh 3
      have k4 := cell_of_heap hh 4
      refine bodyPost_ret (v := .agg #[.slice As (j + 1) cs, .int .i64 h1, .int .i64 h2, .int .i64 h3, .int .i64 h4]) (by simp [results, Try.results63, go_sem, k0, k1, k2, k3, k4]) rfl ?_
      obtain ⟨e0, e1, e2, e3, e4⟩ := HMM.out
      have ep : madeP l = ⟨madeSteps l (j + 1), h1, h2, h3, h4⟩ := by
        unfold madeP
        rw [e0, ← e1, ← e2, ← e3, ← e4, Int.toNat_natCast, Nat.add_comm]
      have sp := HST.out.sp
      have rs : rb ∉ fp := fun hm => by rcases HST.out.fp_ rb hm with e | e <;> omega
      have ow := HST.out.own.keepS K5 (fun g hg => by simp; rintro rfl; exact rs hg)
      refine ⟨As, cs, by rw [ep, madeSteps_length], by rw [ep]; exact ⟨by rw [madeSteps_length]; exact ow.ge, ow.cap, by rw [madeSteps_length]; exact ow.rd⟩, ?_⟩
      have eb := FX.out.2.2.1
      rw [← eb]
      exact HST.out.below.trans (K5.below' (by have := heap_lt HST.out.res; omega) (by simp))
end Go.Proofs.Ythmldeningpjbaa
