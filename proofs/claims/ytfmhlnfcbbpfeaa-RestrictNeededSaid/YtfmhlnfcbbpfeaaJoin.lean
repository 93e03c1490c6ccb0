/- restrict.Windows: its closure -/
import Derived.Test.YtfmhlnfcbbpfeaaWitness
import Derived.Test.YtfmhlnfcbbpfeaaAppendS
namespace Go.Proofs.Ytfmhlnfcbbpfeaa
open Go Go.RowKit Sp

def spc (s : Int × Int) : List Value := [.int .i64 s.1, .int .i64 s.2]
def spcs (l : List (Int × Int)) : List Value := l.flatMap spc
theorem spcs_length (l : List (Int × Int)) : (spcs l).length = l.length * 2 := by
  induction l with
  | nil => rfl
  | cons s l ih => simp only [spcs, List.flatMap_cons, List.length_append, List.length_cons] at ih ⊢; rw [ih]; simp [spc]; omega
theorem spcs_append (l m : List (Int × Int)) : spcs (l ++ m) = spcs l ++ spcs m := by simp [spcs]
theorem spcs_get {l : List (Int × Int)} {k : Nat} (hk : k < l.length) : (spcs l)[k*2]? = some (.int .i64 l[k].1) ∧ (spcs l)[k*2+1]? = some (.int .i64 l[k].2) := by
  induction l generalizing k with
  | nil => simp at hk
  | cons s l ih =>
    cases k with
    | zero => simp [spcs, spc]
    | succ k =>
      have h4 : ∀ j, (spcs (s :: l))[2 + j]? = (spcs l)[j]? := fun j => by
        simp only [spcs, List.flatMap_cons, spc]
        rw [List.getElem?_append_right (by simp)]
        simp
      have e : ∀ j, (k+1)*2 + j = 2 + (k*2 + j) := fun j => by omega
      have e0 : (k+1)*2 = 2 + k*2 := by omega
      have hk' : k < l.length := by simpa using hk
      rw [e, e0, h4, h4]
      simpa using ih hk'

/-- a window that begins, or goes on, on the day -/
def joinS (L : List (Int × Int)) (day : Int) : List (Int × Int) :=
  match L.getLast? with
  | some s => if s.2 = day - 1 then L.dropLast ++ [(s.1, day)] else L ++ [(day, day)]
  | none => [(day, day)]

/-- the cell cb holds the windows L -/
def SpansIn (w : World) (cb : Nat) (L : List (Int × Int)) (fp : List Nat) : Prop :=
  ∃ A c, w.heap[cb]? = some (.cells #[.slice A L.length c] 61 (0, 0)) ∧ OwnS w 42 2 A L.length c (spcs L) fp ∧ cb ∉ fp

theorem info_span : (Try.prog.info? 42).map (fun i => (i.zero, i.size, i.bytes)) = some (some (.agg #[.int .i64 0, .int .i64 0]), 2, 16) := by kernel_rfl

def JoinPost (w : World) (cb : Nat) (L : List (Int × Int)) (day : Int) (fp : List Nat) (e : Ending) (w' : World) : Prop :=
  e = .returned (.tuple #[]) ∧ ∃ fp', SpansIn w' cb (joinS L day) fp' ∧ (∀ g ∈ fp', g ∈ fp ∨ w.heap.size ≤ g) ∧ Keep (cb :: fp) w w'

set_option maxRecDepth 100000 in
set_option maxHeartbeats 2000000 in
theorem join_any (cb : Nat) (L : List (Int × Int)) (fp : List Nat) (d : Nat) (w : World) (hs : SpansIn w cb L fp) (hl : L.length ≤ 100000) (hd : d ≤ 100000) :
    Calls Try.prog 91 #[.int .i64 d, .pointer (some ⟨cb, 0, none⟩)] w (JoinPost w cb L d fp) := by
  obtain ⟨i0, hi, hz0, hz1, hz2⟩ := info_parts info_span
  obtain ⟨A, c, hh, hown, hnc⟩ := hs
  have c0 : w.cell? ⟨cb, 0, none⟩ = some (.slice A L.length c) := (cell_of_heap hh 0).trans rfl
  have z0 := heap_lt hh
  have fr := frozen_of_heap hh 0
  rcases List.eq_nil_or_concat L with rfl | ⟨L', s, rfl⟩
  · have HS := Lib.hid (And.intro hh (And.intro hown hnc))
    have hgn : ¬ (cb ∈ fp ∨ (w.alloc (.cells #[.int .i64 d, .int .i64 d] 42)).heap.size = cb) := by simp; exact ⟨hnc, by omega⟩
    clear hh hown hnc
    simp only [List.length_nil] at c0
    go_enter Try.func91, Try.ntmps91
    go_wp2_with (at_builtin
                 refine wpList_append_S (size := 2) rfl (.tmp 24) (.tmp 28) 61 rfl i0 _ 16 Try.underlying61 hi hz0 hz1 (by decide) hz2 rfl (A := A) (n := 0) (c := c) (xs := []) (fp := fp) (by simp [Act.eval]) ⟨w.heap.size, 0, none⟩ (by simp [Act.eval]) [.int .i64 d, .int .i64 d] (HS.out.2.1.alloc _) rfl ?_ (by simp [Value.oneCell']) (by omega) (by omega) ?_
                 · intro j v hv
                   rw [show (⟨w.heap.size, 0, none⟩ : Addr).add j = ⟨w.heap.size, j, none⟩ from by simp [Addr.add]; omega, World.cell?_alloc_new]
                   simpa using hv
                 intro g c' w1 h1 h2 h3 h4
                 have hb1 : w1.heap[cb]? = some (.cells #[.slice A 0 c] 61 (0, 0)) := (h4.block cb (by simp; omega) HS.out.2.2).trans (heap_alloc' HS.out.1 _)
                 have d0 : w1.cell? ⟨cb, 0, none⟩ = some (.slice A 0 c) := (cell_of_heap hb1 0).trans rfl
                 have d1 := frozen_of_heap hb1 0
                 have HQ := Lib.hid (And.intro h1 (And.intro h2 (And.intro h4 hb1)))
                 clear h1 h2 h3 h4 hb1)
    go_end0
    refine ⟨rfl, [g], ⟨_, c', heap_set HQ.out.2.2.2 0 _, HQ.out.1.setCell (by simp; rintro rfl; exact hgn HQ.out.2.1) _, by simp; rintro rfl; exact hgn HQ.out.2.1⟩, ?_, ?_⟩
    · intro y hy
      rw [List.mem_singleton.1 hy]
      exact HQ.out.2.1.imp id (fun h => by simp at h; omega)
    · exact (((Keep.refl (cb :: fp) w).alloc _).trans HQ.out.2.2.1 (fun y hy => .inl (by simp [hy]))).setCell (.inl (by simp)) _
  · obtain ⟨n, hn⟩ : ∃ n, n = L'.length := ⟨_, rfl⟩
    have hn1 : (L' ++ [s]).length = n + 1 := by simp [hn]
    rw [List.concat_eq_append] at *
    rw [hn1] at c0 hh hown hl
    obtain ⟨g0, rfl, rfl, zg, hc, hf⟩ := hown.some_ (by omega)
    have hsp : spcs (L' ++ [s]) = spcs L' ++ spc s := by simp [spcs]
    have hlen := spcs_length L'
    rw [← hn] at hlen
    have c1 : w.cell? ⟨g0, n * 2 + 1, none⟩ = some (.int .i64 s.2) := hc _ _ (by rw [hsp, List.getElem?_append_right (by omega), hlen]; simp [spc])
    have f1 := hf (n * 2 + 1)
    have hnI : (0 : Int) ≤ (n : Int) ∧ (n : Int) ≤ 100000 := by omega
    have hgn : g0 ≠ cb := fun e => hnc (by simp [e])
    obtain ⟨x, hx⟩ : ∃ x, x = s.2 := ⟨_, rfl⟩
    rw [← hx] at c1
    have HS := Lib.hid (And.intro hh (And.intro hown (And.intro hnc (And.intro hsp (And.intro hlen (And.intro hn hx))))))
    clear hh hown hnc hsp hlen hn hx hc hf hn1
    by_cases hxd : x = (d : Int) - 1
    · have hxb : (x == (d : Int) - 1) = true := by simp [hxd]
      go_enter Try.func91, Try.ntmps91
      go_wp2_with fail
      go_end0
      have hj : joinS (L' ++ [s]) (d : Int) = L' ++ [(s.1, (d : Int))] := by simp [joinS, ← HS.out.2.2.2.2.2.2, hxd]
      have hl2 : (L' ++ [(s.1, (d : Int))]).length = n + 1 := by simp [HS.out.2.2.2.2.2.1]
      refine ⟨rfl, [g0], ?_, fun y hy => .inl hy, (Keep.refl _ _).setCell (.inl (by simp)) _⟩
      rw [hj]
      refine ⟨some ⟨g0, 0, none⟩, c, ?_, ?_, HS.out.2.2.1⟩
      · rw [hl2]; exact heap_set_ne HS.out.1 (p := ⟨g0, n * 2 + 1, none⟩) (fun e => hgn e.symm) _
      · rw [hl2]
        have h5 := HS.out.2.1.set_ (n * 2 + 1) (.int .i64 d)
        have h6 : (spcs (L' ++ [s])).set (n * 2 + 1) (.int .i64 d) = spcs (L' ++ [(s.1, (d : Int))]) := by
          rw [HS.out.2.2.2.1, spcs_append, List.set_append_right _ _ (by have := HS.out.2.2.2.2.1; omega), HS.out.2.2.2.2.1]
          simp [spc, spcs]
        rwa [h6] at h5
    · have hxb : (x == (d : Int) - 1) = false := by simp [hxd]
      go_enter Try.func91, Try.ntmps91
      go_wp2_with (at_builtin
                   refine wpList_append_S (size := 2) rfl (.tmp 24) (.tmp 28) 61 rfl i0 _ 16 Try.underlying61 hi hz0 hz1 (by decide) hz2 rfl (A := some ⟨g0, 0, none⟩) (n := n + 1) (c := c) (xs := spcs (L' ++ [s])) (fp := [g0]) (by simp [Act.eval]) ⟨w.heap.size, 0, none⟩ (by simp [Act.eval]) [.int .i64 d, .int .i64 d] (HS.out.2.1.alloc _) rfl ?_ (by simp [Value.oneCell']) (by omega) (by omega) ?_
                   · intro j v hv
                     rw [show (⟨w.heap.size, 0, none⟩ : Addr).add j = ⟨w.heap.size, j, none⟩ from by simp [Addr.add]; omega, World.cell?_alloc_new]
                     simpa using hv
                   intro g c' w1 h1 h2 h3 h4
                   have hb1 : w1.heap[cb]? = some (.cells #[.slice (some ⟨g0, 0, none⟩) (n + 1) c] 61 (0, 0)) := (h4.block cb (by simp; omega) HS.out.2.2.1).trans (heap_alloc' HS.out.1 _)
                   have d0 : w1.cell? ⟨cb, 0, none⟩ = some (.slice (some ⟨g0, 0, none⟩) (n + 1) c) := (cell_of_heap hb1 0).trans rfl
                   have d1 := frozen_of_heap hb1 0
                   have HQ := Lib.hid (And.intro h1 (And.intro h2 (And.intro h4 hb1)))
                   clear h1 h2 h3 h4 hb1)
      go_end0
      have hgc : ¬ (cb ∈ [g0] ∨ (w.alloc (.cells #[.int .i64 d, .int .i64 d] 42)).heap.size = cb) := by simp; exact ⟨fun e => hgn e.symm, by omega⟩
      have hj : joinS (L' ++ [s]) (d : Int) = (L' ++ [s]) ++ [((d : Int), (d : Int))] := by
        simp only [joinS, List.getLast?_append, List.getLast?_singleton, Option.some_or]
        rw [if_neg (by rw [← HS.out.2.2.2.2.2.2]; exact hxd)]
      have hl2 : ((L' ++ [s]) ++ [((d : Int), (d : Int))]).length = n + 1 + 1 := by simp [HS.out.2.2.2.2.2.1]
      refine ⟨rfl, [g], ?_, ?_, ?_⟩
      · rw [hj]
        refine ⟨some ⟨g, 0, none⟩, c', ?_, ?_, by simp; rintro rfl; exact hgc HQ.out.2.1⟩
        · rw [hl2]; exact heap_set HQ.out.2.2.2 0 _
        · rw [hl2, spcs_append]; exact HQ.out.1.setCell (by simp; rintro rfl; exact hgc HQ.out.2.1) _
      · intro y hy
        rw [List.mem_singleton.1 hy]
        exact HQ.out.2.1.imp id (fun h => by simp at h; omega)
      · exact (((Keep.refl (cb :: [g0]) w).alloc _).trans HQ.out.2.2.1 (fun y hy => .inl (by simp at hy ⊢; exact .inr hy))).setCell (.inl (by simp)) _
end Go.Proofs.Ytfmhlnfcbbpfeaa
