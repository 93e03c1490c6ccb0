/- Drawn: a function that yields numbers below a bound, one after the other -/
import Derived.Test.YtfmhlnfcbbpfeaaProg
import Derived.Test.YtfmhlnfcbbpfeaaBase
import Derived.Test.YtfmhlnfcbbpfeaaMem
namespace Go.Proofs.Ytfmhlnfcbbpfeaa
open Go Go.RowKit Sp

def byts (l : List Int) : List Value := l.map (Value.int .u8)
theorem byts_get {l : List Int} {k : Nat} (h : k < l.length) : (byts l)[k]? = some (.int .u8 (l.getD k 0)) := by simp [byts, h]
/-- the bytes l, k of which have been drawn; ib, lb: the closure's cells -/
structure DrawSt (w : World) (ib lb : Nat) (A : Option Addr) (c : Nat) (l : List Int) (k : Nat) : Prop where
  cnt : w.heap[ib]? = some (.cells #[.int .i64 (min k l.length : Nat)] 3 (0, 0))
  lst : w.heap[lb]? = some (.cells #[.slice A l.length c] 22 (0, 0))
  rd : Rd w 1 A l.length (byts l)
theorem DrawSt.keep {w w' : World} {ib lb : Nat} {A : Option Addr} {c : Nat} {l : List Int} {k : Nat} (h : DrawSt w ib lb A c l k) {S : List Nat} (hk : Keep S w w') (h1 : ib ∉ S) (h2 : lb ∉ S) (h3 : 0 < l.length → ∀ b off, A = some ⟨b, off, none⟩ → b ∉ S) : DrawSt w' ib lb A c l k :=
  ⟨(hk.block _ (heap_lt h.cnt) h1).trans h.cnt, (hk.block _ (heap_lt h.lst) h2).trans h.lst, h.rd.1, fun h0 => (hk.rd h.rd (h3 h0)).2 h0⟩
def draw (l : List Int) (k : Nat) (n : Int) : Int := l.getD k 0 % n
theorem draw_range {l : List Int} (k : Nat) {n : Int} (hn : 0 < n) : 0 ≤ draw l k n ∧ draw l k n < n := ⟨Int.emod_nonneg _ (by omega), Int.emod_lt_of_pos _ hn⟩

def Bytes (l : List Int) : Prop := ∀ x ∈ l, 0 ≤ x ∧ x ≤ 255
theorem Bytes.get {l : List Int} (h : Bytes l) (k : Nat) : 0 ≤ l.getD k 0 ∧ l.getD k 0 ≤ 255 := by
  rw [List.getD_eq_getElem?_getD]
  cases hk : l[k]? with
  | none => simp
  | some x => exact h x (List.mem_of_getElem? hk)

def NextPost (w : World) (ib lb : Nat) (A : Option Addr) (c : Nat) (l : List Int) (k : Nat) (n : Int) (e : Ending) (w' : World) : Prop :=
  e = .returned (.int .i64 (draw l k n)) ∧ DrawSt w' ib lb A c l (k + 1) ∧ Keep [ib] w w' ∧ w'.heap.size = w.heap.size

set_option maxHeartbeats 1000000 in
theorem next_any (ib lb : Nat) (A : Option Addr) (c : Nat) (l : List Int) (k : Nat) (n : Int) (w : World) (h : DrawSt w ib lb A c l k) (hl : Bytes l) (hm : l.length ≤ 9223372036854775806) (hne : ib ≠ lb) (hA : 0 < l.length → ∀ b off, A = some ⟨b, off, none⟩ → b ≠ ib) (hn : 0 < n ∧ n ≤ 1000) :
    Calls Try.prog 114 #[.int .i64 n, .pointer (some ⟨ib, 0, none⟩), .pointer (some ⟨lb, 0, none⟩)] w (NextPost w ib lb A c l k n) := by
  have ci : w.cell? ⟨ib, 0, none⟩ = some (.int .i64 (min k l.length : Nat)) := (cell_of_heap h.cnt 0).trans rfl
  have cl : w.cell? ⟨lb, 0, none⟩ = some (.slice A l.length c) := (cell_of_heap h.lst 0).trans rfl
  have fi := frozen_of_heap h.cnt 0
  have zi := heap_lt h.cnt
  have zl := heap_lt h.lst
  obtain ⟨hn1, hn2⟩ := hn
  have H := Lib.hid h
  by_cases hk : k < l.length
  · obtain ⟨b, off, u, rfl, hb, hu, hc⟩ := h.rd.one hk
    rw [byts_get hk] at hu
    obtain rfl : Value.int .u8 (l.getD k 0) = u := by injection hu
    obtain ⟨x, hx⟩ : ∃ x, x = l.getD k 0 := ⟨_, rfl⟩
    have hxr := hl.get k
    rw [← hx] at hc hxr
    have hbi : b ≠ ib := hA (by omega) b off rfl
    have e1 : (min k l.length : Nat) = k := by omega
    rw [e1] at ci
    have e2 := World.cell?_setCell_same w ⟨ib, 0, none⟩ (.int .i64 ((k : Int) + 1)) ci
    have HX := Lib.hid hx
    clear h hx hu e1
    go_enter Try.func114, Try.ntmps114
    go_wp2
    go_ret
    have K : Keep [ib] w (w.setCell ⟨ib, 0, none⟩ (.int .i64 ((k : Int) + 1))) := (Keep.refl _ _).setCell (.inl (by simp)) _
    refine ⟨by rw [draw, ← HX.out]; rfl, ⟨?_, (K.block _ zl (by simp; omega)).trans H.out.lst, K.rd H.out.rd fun b' off' e => by have := hA (by omega) b' off' e; simpa using this⟩, K, by simp [World.setCell]⟩
    rw [heap_set H.out.cnt, show min (k + 1) l.length = k + 1 from by omega]
    rfl
  · have e1 : (min k l.length : Nat) = l.length := by omega
    rw [e1] at ci
    have HE := Lib.hid e1
    clear h e1
    go_enter Try.func114, Try.ntmps114
    go_wp2
    go_ret
    refine ⟨?_, ⟨?_, H.out.lst, H.out.rd⟩, Keep.refl _ _, rfl⟩
    · rw [draw, List.getD_eq_getElem?_getD, List.getElem?_eq_none (by omega)]; simp
    · rw [H.out.cnt, show min (k + 1) l.length = min k l.length from by omega]

theorem Drawn_any (A : Option Addr) (c : Nat) (l : List Int) (w : World) (hr : Rd w 1 A l.length (byts l)) :
    Calls Try.prog 67 #[.slice A l.length c] w fun e w' => e = .returned (.func (.func 114) #[] #[.pointer (some ⟨w.heap.size + 1, 0, none⟩), .pointer (some ⟨w.heap.size, 0, none⟩)]) ∧ DrawSt w' (w.heap.size + 1) w.heap.size A c l 0 ∧ Below w.heap.size w w' ∧ w'.heap.size = w.heap.size + 2 := by
  go_enter Try.func67, Try.ntmps67
  go_wp2
  go_ret
  have b : Below w.heap.size w ((w.alloc (.cells #[.slice A l.length c] 22)).alloc (.cells #[.int .i64 0] 3)) := ((Below.refl _ _).alloc (Nat.le_refl _) _).alloc (by simp) _
  refine ⟨rfl, ⟨?_, heap_alloc' (heap_alloc_new _ _) _, hr.below b⟩, b, by simp⟩
  have := heap_alloc_new (w.alloc (.cells #[.slice A l.length c] 22)) (.cells #[.int .i64 0] 3)
  rw [World.size_alloc] at this
  rw [this]; simp
end Go.Proofs.Ytfmhlnfcbbpfeaa
