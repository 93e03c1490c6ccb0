/- A run's states, kept one by one: how they lie. No program's function is named here. -/
import Derived.Test.YthmldeningpjbaaPFp15
import Derived.Test.YthmldeningpjbaaPFp13
import Derived.Test.YthmldeningpjbaaPFp25
import Derived.Deep.DeepCutAuto
import Derived.Test.YthmldeningpjbaaPFp23
import Derived.Test.YthmldeningpjbaaPFp6
import Derived.Test.YthmldeningpjbaaPFp1
import Derived.Test.YthmldeningpjbaaPFp22
import Derived.IntWalk
set_option linter.unusedVariables false
set_option linter.unusedSimpArgs false
namespace Go.Proofs.Ythmldeningpjbaa
open Go Go.RowKit Sp Pt
set_option linter.unusedVariables false

theorem callsN_lens (p : Prt) (h : Int) : ∀ (l : List Cal) (i : Nat) (s : Stt), (callsN p h l i s).2.2.brash.length = s.brash.length ∧ (callsN p h l i s).2.2.busy.length = s.busy.length
  | [], _, _ => ⟨rfl, rfl⟩
  | c :: l, i, s => by
    rw [callsN]
    split
    · exact callsN_lens p h l _ _
    · split
      · exact ⟨rfl, rfl⟩
      · split
        · exact ⟨rfl, rfl⟩
        · have := callsN_lens p h l (i + 1) ⟨growN p (bt p c.berth).path s.brash, s.busy.set c.berth.toNat (!c.out)⟩
          rw [this.1, this.2]
          simp [growN_length]
theorem hourR_lens (p : Prt) (l : Pln) (k : Nat) (s : Stt) : (hourR p l k s).2.2.brash.length = s.brash.length ∧ (hourR p l k s).2.2.busy.length = s.busy.length := by
  have := callsN_lens p k l.calls 0 ⟨swpN p k l.swps s.brash, s.busy⟩
  unfold hourR
  rw [this.1, this.2]
  simp [swpN_length]
theorem stN_lens (p : Prt) (l : Pln) (s : Stt) : ∀ k, (stN p l s k).brash.length = s.brash.length ∧ (stN p l s k).busy.length = s.busy.length
  | 0 => ⟨rfl, rfl⟩
  | k + 1 => by
    have h1 := hourR_lens p l k (stN p l s k)
    have h2 := stN_lens p l s k
    rw [stN]
    unfold hourS frostL
    simp only [frostN_length]
    exact ⟨h1.1.trans h2.1, h1.2.trans h2.2⟩
/-- two new things at once -/
theorem Own.new2 {D : Nat} {W0 w w' : World} {L : List It} (h : Own D W0 L w) (k1 k2 : Nat) (hk : k1 ≠ k2) (h1 : L[k1]? = some noIt) (h2 : L[k2]? = some noIt) (hb : Below w.heap.size w w') {i1 i2 : It} (g1 : i1.holds D w') (g2 : i2.holds D w') (f1 : ∀ x ∈ i1.fp, w.heap.size ≤ x) (f2 : ∀ x ∈ i2.fp, w.heap.size ≤ x) (hd : ∀ x ∈ i1.fp, x ∉ i2.fp) :
    Own D W0 ((L.set k1 i1).set k2 i2) w' := by
  have l1 : k1 < L.length := (List.getElem?_eq_some_iff.1 h1).1
  have l2 : k2 < L.length := (List.getElem?_eq_some_iff.1 h2).1
  have hget : ∀ {a : Nat} {j : It}, ((L.set k1 i1).set k2 i2)[a]? = some j → (a = k2 ∧ j = i2) ∨ (a ≠ k2 ∧ a = k1 ∧ j = i1) ∨ (a ≠ k2 ∧ a ≠ k1 ∧ L[a]? = some j) := fun {a j} hj => by
    rw [List.getElem?_set] at hj
    by_cases e : k2 = a
    · rw [if_pos e, if_pos (by simpa using l2)] at hj
      injection hj with hj
      exact .inl ⟨e.symm, hj.symm⟩
    · rw [if_neg e, List.getElem?_set] at hj
      by_cases e2 : k1 = a
      · rw [if_pos e2, if_pos l1] at hj
        injection hj with hj
        exact .inr (.inl ⟨fun q => e q.symm, e2.symm, hj.symm⟩)
      · rw [if_neg e2] at hj
        exact .inr (.inr ⟨fun q => e q.symm, fun q => e2 q.symm, hj⟩)
  refine h.updG _ (fun a => a = k1 ∨ a = k2) (S := []) (Keep.of_below hb) (by simp) (fun a j hj => ?_) (fun a j hj hc => ?_) (fun a b i j hi hj hab ha hb' x hx hy hz => ?_)
  · rcases hget hj with ⟨e, _⟩ | ⟨_, e, _⟩ | ⟨_, _, e⟩
    · exact .inl (.inr e)
    · exact .inl (.inl e)
    · exact .inr e
  · rcases hget hj with ⟨e, rfl⟩ | ⟨_, e, rfl⟩ | ⟨e1, e2, _⟩
    · exact ⟨g2, fun x hx => .inr (f2 x hx)⟩
    · exact ⟨g1, fun x hx => .inr (f1 x hx)⟩
    · rcases hc with e | e
      · exact absurd e e2
      · exact absurd e e1
  · rcases hget hi with ⟨e, rfl⟩ | ⟨_, e, rfl⟩ | ⟨e1, e2, _⟩
    · rcases hget hj with ⟨e', rfl⟩ | ⟨_, e', rfl⟩ | ⟨e1', e2', _⟩
      · omega
      · exact hd x hy hx
      · rcases hb' with q | q
        · exact absurd q e2'
        · exact absurd q e1'
    · rcases hget hj with ⟨e', rfl⟩ | ⟨_, e', rfl⟩ | ⟨e1', e2', _⟩
      · exact hd x hx hy
      · omega
      · rcases hb' with q | q
        · exact absurd q e2'
        · exact absurd q e1'
    · rcases ha with q | q
      · exact absurd q e2
      · exact absurd q e1
/-- a state among others -/
structure SrR where
  s : Stt
  A : Option Addr
  c : Nat
  B : Option Addr
  d : Nat
def src (y : SrR) : List Value := [.slice y.A y.s.brash.length y.c, .slice y.B y.s.busy.length y.d]
abbrev srcs (L : List SrR) : List Value := L.flatMap src
def SrH (L : List SrR) : World → Prop := fun w => ∀ y ∈ L, SttB w.heap.size w y.A y.c y.B y.d y.s
theorem sttB_of_own {w : World} {e1 e2 : TypeId} {A B : Option Addr} {c d : Nat} {s : Stt} {q1 q2 : List Nat} (h1 : OwnS w e1 1 A s.brash.length c (ints s.brash) q1) (h2 : OwnS w e2 1 B s.busy.length d (bools s.busy) q2) : SttB w.heap.size w A c B d s :=
  ⟨RdB.of h1.rd (Nat.le_refl _), RdB.of h2.rd (Nat.le_refl _), ⟨h1.ge, h1.cap, h1.nilS⟩, ⟨h2.ge, h2.cap, h2.nilS⟩⟩
/-- a state more -/
theorem srH_snoc {D : Nat} {w w' : World} {e1 e2 : TypeId} {L : List SrR} {q : List Nat} {A B : Option Addr} {c d : Nat} {s : Stt} {q1 q2 : List Nat} (h : (It.gen q (SrH L)).holds D w') (h1 : OwnS w' e1 1 A s.brash.length c (ints s.brash) q1) (h2 : OwnS w' e2 1 B s.busy.length d (bools s.busy) q2) :
    (It.gen (q ++ (q1 ++ q2)) (SrH (L ++ [⟨s, A, c, B, d⟩]))).holds D w' := by
  refine ⟨fun x hx => ?_, fun S wx hk hS y hy => ?_⟩
  · rcases List.mem_append.1 hx with e | e
    · exact h.1 x e
    · rcases List.mem_append.1 e with e | e
      · exact h1.lt x e
      · exact h2.lt x e
  · rcases List.mem_append.1 hy with e | e
    · exact h.2 S wx hk (fun x hx hm => hS x hx (by simp [hm])) y e
    · rw [List.mem_singleton.1 e]
      exact sttB_of_own (h1.keepS hk (fun g hg hm => hS g hm (by simp [hg]))) (h2.keepS hk (fun g hg hm => hS g hm (by simp [hg])))
theorem srH_nil (D : Nat) (w : World) : (It.gen [] (SrH [])).holds D w := ⟨by simp, fun _ _ _ _ y hy => absurd hy (by simp)⟩
def SttH (A : Option Addr) (c : Nat) (B : Option Addr) (d : Nat) (s : Stt) : World → Prop := fun w => SttB w.heap.size w A c B d s
/-- the first things, and two others as one -/
theorem Own.regroup {D : Nat} {W0 w : World} {L : List It} (h : Own D W0 L w) (n a b : Nat) {i j : It} (ha : L[a]? = some i) (hb : L[b]? = some j) (hna : n ≤ a) (hnb : n ≤ b) {g : It} (hg : g.holds D w) (hf : g.fp = i.fp ++ j.fp) : Own D W0 (L.take n ++ [g]) w := by
  refine (h.take n).add hg (fun x hx => ?_) (fun k hk x hx hm => ?_)
  · rw [hf] at hx
    rcases List.mem_append.1 hx with e | e
    · exact h.ge a ha e
    · exact h.ge b hb e
  · obtain ⟨m, hm', hm2⟩ := List.mem_take_iff_getElem.1 hk
    have hkm : L[m]? = some k := by rw [List.getElem?_eq_getElem (by omega), hm2]
    rw [hf] at hx
    rcases List.mem_append.1 hx with e | e
    · exact h.dis a m _ _ ha hkm (by omega) x e hm
    · exact h.dis b m _ _ hb hkm (by omega) x e hm
end Go.Proofs.Ythmldeningpjbaa
/- polynyalaw09.copyState (printed by wip/tools/ptcopystate.py) -/
namespace Go.Proofs.Ythmldeningpjbaa
open Go Go.RowKit Sp Pt
set_option linter.unusedVariables false
set_option linter.unusedSimpArgs false

/-- a state in blocks of its own -/
def NewStt (w : World) (s : Stt) (e : Ending) (w' : World) : Prop := ∃ A c B d q, e = .returned (.agg (sttV A c B d s)) ∧ (∀ D, (It.gen q (SttH A c B d s)).holds D w') ∧ (∀ x ∈ q, w.heap.size ≤ x) ∧ Below w.heap.size w w'
theorem sttH_new {w : World} {e1 e2 : TypeId} {A B : Option Addr} {c d : Nat} {s : Stt} {q1 q2 : List Nat} (h1 : OwnS w e1 1 A s.brash.length c (ints s.brash) q1) (h2 : OwnS w e2 1 B s.busy.length d (bools s.busy) q2) (D : Nat) : (It.gen (q1 ++ q2) (SttH A c B d s)).holds D w :=
  ⟨fun x hx => (List.mem_append.1 hx).elim (h1.lt x) (h2.lt x), fun S wx hk hS => sttB_of_own (h1.keepS hk (fun g hg hm => hS g hm (by simp [hg]))) (h2.keepS hk (fun g hg hm => hS g hm (by simp [hg])))⟩
structure CtS where
  A1 : Option Addr
  c1 : Nat
  q1 : List Nat
  A2 : Option Addr
  c2 : Nat
  q2 : List Nat

set_option linter.unusedVariables false
def CtsV (sb n m cr cu : Nat) (Ar Au : Option Addr) (s : CtS) : Nat → Value → Prop
  | 0, v => v = .pointer (some ⟨sb, 0, none⟩)
  | 1, v => v = .slice Ar n cr
  | 2, v => v = .slice s.A1 n s.c1
  | 3, v => v = .pointer (some ⟨sb, 1, none⟩)
  | 4, v => v = .slice Au m cu
  | 5, v => v = .slice s.A2 m s.c2
  | 6, v => v = .agg #[.slice s.A1 n s.c1, .slice s.A2 m s.c2]
  | _, _ => True

set_option maxRecDepth 100000 in
set_option maxHeartbeats 4000000 in
theorem copyState_any (Ar : Option Addr) (cr : Nat) (Au : Option Addr) (cu : Nat) (s : Stt) (w : World) (SB : SttB w.heap.size w Ar cr Au cu s) (hl : s.brash.length ≤ 1000 ∧ s.busy.length ≤ 1000) :
    Calls Try.prog 32 #[.agg (sttV Ar cr Au cu s)] w (NewStt w s) := by
  obtain ⟨sb, hsb⟩ : ∃ b, b = w.heap.size := ⟨_, rfl⟩
  obtain ⟨rb, hrb⟩ : ∃ b, b = w.heap.size + 1 := ⟨_, rfl⟩
  obtain ⟨W, hW⟩ : ∃ W, W = (w.alloc (.cells (sttV Ar cr Au cu s) 42)).alloc (.cells #[.slice none 0 0, .slice none 0 0] 42) := ⟨_, rfl⟩
  have O0 : Own w.heap.size w [.blk sb (.cells (sttV Ar cr Au cu s) 42), .blk rb (.cells #[.slice none 0 0, .slice none 0 0] 42)] W := by
    have h := (((Own.start w).alloc (.cells (sttV Ar cr Au cu s) 42)).alloc (.cells #[.slice none 0 0, .slice none 0 0] 42))
    rw [hW, hsb, hrb]
    simpa using h
  have k1 : ∀ wx, Below w.heap.size w wx → Calls Try.prog 87 #[.slice Ar s.brash.length cr] wx (CloneS wx 3 1 s.brash.length (ints s.brash)) := fun wx hb => copyIntsS_any Ar cr s.brash wx ((SB.br.below hb).rd hb.size) (by omega)
  have k2 : ∀ wx, Below w.heap.size w wx → Calls Try.prog 88 #[.slice Au s.busy.length cu] wx (CloneS wx 4 1 s.busy.length (bools s.busy)) := fun wx hb => copyTruthsS_any Au cu s.busy wx ((SB.bu.below hb).rd hb.size) (by omega)
  obtain ⟨n, hn⟩ : ∃ n, n = s.brash.length := ⟨_, rfl⟩
  obtain ⟨m, hm⟩ : ∃ n, n = s.busy.length := ⟨_, rfl⟩
  obtain ⟨xs, hxs⟩ : ∃ n, n = ints s.brash := ⟨_, rfl⟩
  obtain ⟨ys, hys⟩ : ∃ n, n = bools s.busy := ⟨_, rfl⟩
  rw [← hn, ← hxs] at k1
  rw [← hm, ← hys] at k2
  have HS := Lib.hid (And.intro k1 k2)
  have HN := Lib.hid (And.intro hn (And.intro hm (And.intro hxs hys)))
  simp only [sttV] at O0 hW ⊢
  rw [← hn, ← hm] at O0 hW ⊢
  have HO := Lib.hid O0
  clear k1 k2 hn hm hxs hys O0 SB hl
  go_enter Try.func32, Try.ntmps32
  go_upto_region 1 with fail
  rw [← hW, ← hrb, ← hsb]
  clear hW hrb hsb
  refine wp_region_steps (σ := CtS) (by kernel_rfl) (by kernel_rfl) (fun sg jx vx _ => CtsV sb n m cr cu Ar Au sg jx vx) (fun sg ly wx => Own w.heap.size w [It.blk sb (.cells #[.slice Ar n cr, .slice Au m cu] 42), It.blk rb (.cells (if ly 7 = true then #[.slice sg.A1 n sg.c1, .slice sg.A2 m sg.c2] else #[.slice none 0 0, .slice none 0 0]) 42), if ly 2 = true then It.own 3 1 sg.A1 n sg.c1 xs sg.q1 else noIt, if ly 5 = true then It.own 4 1 sg.A2 m sg.c2 ys sg.q2 else noIt] wx) ⟨none, 0, [], none, 0, []⟩ ?_ ?_ ?_
  · exact HO.out.blank.blank.drew
  · simp only [AllFrom, Nat.zero_add, Nat.reduceAdd]
    refine ⟨?_, ?_, ?_, ?_, ?_, ?_, ?_, ?_, trivial⟩
    · refine step_pure fun sg ly act wx hl hd hW hF => ?_
      have et1 := hF.old 1 (by kernel_rfl)
      simp [Act.eval] at et1
      exact ⟨hW, .pointer (some ⟨sb, 0, none⟩), by go_simp, rfl⟩
    · refine step_pure fun sg ly act wx hl hd hW hF => ?_
      simp [Region.binds] at hd
      have et3 := hF.new 0 3 (by simp [hd]) rfl
      simp [CtsV, Act.eval] at et3
      have hO := hW
      try dsimp only at hO
      have hh := hO.heap 0 rfl
      have clq0 := (cell_of_heap hh 0).trans rfl
      have clq1 := (cell_of_heap hh 1).trans rfl
      have zz := heap_lt hh
      exact ⟨hW, .slice Ar n cr, by go_simp, rfl⟩
    · refine step_call fun sg ly act wx hl hd hW hF => ?_
      simp [Region.binds] at hd
      have et4 := hF.new 1 4 (by simp [hd]) rfl
      simp [CtsV, Act.eval] at et4
      have n6 := hF.notYet 2 6 hl (by kernel_rfl)
      have n7 := hF.notYet 2 7 hl (by kernel_rfl)
      have hO := hW
      try dsimp only at hO
      simp only [hl, n7, Bool.false_eq_true, if_false, if_true] at hO
      refine ⟨87, #[.slice Ar n cr], by go_simp, ?_⟩
      refine (HS.out.1 wx hO.bel).mono ?_
      rintro e w2 ⟨A', c', q', rfl, h1, h2, h3⟩
      have hN := hO.upd 2 rfl (Keep.of_below h3) (i' := .own 3 1 A' n c' xs q') (show OwnS _ _ _ _ _ _ _ _ from h1) (fun x hx => .inr (h2 x hx))
      refine ⟨_, { sg with A1 := A', c1 := c', q1 := q' }, rfl, ?_, rfl, ?_⟩
      · simpa [upd, n7] using hN
      · intro i u hi h
        have i2 : i ≠ 2 := by rintro rfl; rw [hl] at hi; cases hi
        have i6 : i ≠ 6 := by rintro rfl; rw [n6] at hi; cases hi
        have i7 : i ≠ 7 := by rintro rfl; rw [n7] at hi; cases hi
        unfold CtsV at h ⊢
        split at h <;> first | exact h | exact absurd rfl i2 | exact absurd rfl i6 | exact absurd rfl i7
    · refine step_pure fun sg ly act wx hl hd hW hF => ?_
      have et1 := hF.old 1 (by kernel_rfl)
      simp [Act.eval] at et1
      exact ⟨hW, .pointer (some ⟨sb, 1, none⟩), by go_simp, rfl⟩
    · refine step_pure fun sg ly act wx hl hd hW hF => ?_
      simp [Region.binds] at hd
      have et6 := hF.new 3 6 (by simp [hd]) rfl
      simp [CtsV, Act.eval] at et6
      have hO := hW
      try dsimp only at hO
      have hh := hO.heap 0 rfl
      have clq0 := (cell_of_heap hh 0).trans rfl
      have clq1 := (cell_of_heap hh 1).trans rfl
      have zz := heap_lt hh
      exact ⟨hW, .slice Au m cu, by go_simp, rfl⟩
    · refine step_call fun sg ly act wx hl hd hW hF => ?_
      simp [Region.binds] at hd
      have et7 := hF.new 4 7 (by simp [hd]) rfl
      simp [CtsV, Act.eval] at et7
      have n6 := hF.notYet 5 6 hl (by kernel_rfl)
      have n7 := hF.notYet 5 7 hl (by kernel_rfl)
      have hO := hW
      try dsimp only at hO
      simp only [hl, n7, Bool.false_eq_true, if_false, if_true] at hO
      refine ⟨88, #[.slice Au m cu], by go_simp, ?_⟩
      refine (HS.out.2 wx hO.bel).mono ?_
      rintro e w2 ⟨A', c', q', rfl, h1, h2, h3⟩
      have hN := hO.upd 3 rfl (Keep.of_below h3) (i' := .own 4 1 A' m c' ys q') (show OwnS _ _ _ _ _ _ _ _ from h1) (fun x hx => .inr (h2 x hx))
      refine ⟨_, { sg with A2 := A', c2 := c', q2 := q' }, rfl, ?_, rfl, ?_⟩
      · simpa [upd, n7] using hN
      · intro i u hi h
        have i5 : i ≠ 5 := by rintro rfl; rw [hl] at hi; cases hi
        have i6 : i ≠ 6 := by rintro rfl; rw [n6] at hi; cases hi
        have i7 : i ≠ 7 := by rintro rfl; rw [n7] at hi; cases hi
        unfold CtsV at h ⊢
        split at h <;> first | exact h | exact absurd rfl i5 | exact absurd rfl i6 | exact absurd rfl i7
    · refine step_pure fun sg ly act wx hl hd hW hF => ?_
      simp [Region.binds] at hd
      have et5 := hF.new 2 5 (by simp [hd]) rfl
      simp [CtsV, Act.eval] at et5
      have et8 := hF.new 5 8 (by simp [hd]) rfl
      simp [CtsV, Act.eval] at et8
      exact ⟨hW, .agg #[.slice sg.A1 n sg.c1, .slice sg.A2 m sg.c2], by go_simp, rfl⟩
    · refine step_store rfl fun sg ly act wx hl hd hW hF => ?_
      simp [Region.binds] at hd
      have et2 := hF.old 2 (by kernel_rfl)
      simp [Act.eval] at et2
      have et9 := hF.new 6 9 (by simp [hd]) rfl
      simp [CtsV, Act.eval] at et9
      have hO := hW
      try dsimp only at hO
      simp only [hl, Bool.false_eq_true, if_false, if_true] at hO
      have hh := hO.heap 1 rfl
      have clq0 := (cell_of_heap hh 0).trans rfl
      have flq0 := frozen_of_heap hh 0
      have clq1 := (cell_of_heap hh 1).trans rfl
      have flq1 := frozen_of_heap hh 1
      have zz := heap_lt hh
      refine ⟨((wx.setCell ⟨rb, 0, none⟩ (.slice sg.A1 n sg.c1)).setCell ⟨rb, 1, none⟩ (.slice sg.A2 m sg.c2)), sg, .skip, by go_simp, .inl rfl, ?_, fun _ _ _ h => h⟩
      have hN := hO.set 1 rfl (((Keep.refl _ _).setCell (.inl (by simp)) (.slice sg.A1 n sg.c1)).setCell (.inl (by simp)) (.slice sg.A2 m sg.c2)) (heap_set (heap_set (hh) 0 (.slice sg.A1 n sg.c1)) 1 (.slice sg.A2 m sg.c2))
      simpa [upd, hl] using hN
  intro sg af w5 hWW hF
  obtain ⟨ff, hf, rfl⟩ := hF.lit
  obtain ⟨A1, c1, q1, A2, c2, q2⟩ := sg
  have O5 : Own w.heap.size w [It.blk sb (.cells #[.slice Ar n cr, .slice Au m cu] 42), It.blk rb (.cells (if (fun j => decide (j < List.length (_ : List Oper))) 7 = true then #[.slice (CtS.mk A1 c1 q1 A2 c2 q2).A1 n (CtS.mk A1 c1 q1 A2 c2 q2).c1, .slice (CtS.mk A1 c1 q1 A2 c2 q2).A2 m (CtS.mk A1 c1 q1 A2 c2 q2).c2] else #[.slice none 0 0, .slice none 0 0]) 42), if (fun j => decide (j < List.length (_ : List Oper))) 2 = true then It.own 3 1 (CtS.mk A1 c1 q1 A2 c2 q2).A1 n (CtS.mk A1 c1 q1 A2 c2 q2).c1 xs (CtS.mk A1 c1 q1 A2 c2 q2).q1 else noIt, if (fun j => decide (j < List.length (_ : List Oper))) 5 = true then It.own 4 1 (CtS.mk A1 c1 q1 A2 c2 q2).A2 m (CtS.mk A1 c1 q1 A2 c2 q2).c2 ys (CtS.mk A1 c1 q1 A2 c2 q2).q2 else noIt] w5 := hWW
  simp only [List.length_cons, List.length_nil, Nat.reduceAdd, Nat.reduceLT, decide_true, if_true] at O5
  have g0 := (cell_of_heap (O5.heap 1 rfl) 0).trans rfl
  have g1 := (cell_of_heap (O5.heap 1 rfl) 1).trans rfl
  have H5 := Lib.hid O5
  clear hf hF hWW O5
  simp only [List.filterMap, List.foldl, List.setIfInBounds_toArray, List.set_cons_succ, List.set_cons_zero]
  go_wp2_with fail
  obtain ⟨hn, hm, hxs, hys⟩ := HN.out
  refine bodyPost_ret (v := .agg #[.slice A1 n c1, .slice A2 m c2]) (by simp [results, Try.results32, go_sem, g0, g1]) rfl ?_
  have o1 : OwnS w5 3 1 A1 s.brash.length c1 (ints s.brash) q1 := by rw [← hn, ← hxs]; exact H5.out.owns 2 rfl
  have o2 : OwnS w5 4 1 A2 s.busy.length c2 (bools s.busy) q2 := by rw [← hm, ← hys]; exact H5.out.owns 3 rfl
  exact ⟨A1, c1, A2, c2, q1 ++ q2, by simp only [sttV]; rw [← hn, ← hm], sttH_new o1 o2, fun x hx => (List.mem_append.1 hx).elim (H5.out.ge 2 rfl (x := x)) (H5.out.ge 3 rfl (x := x)), H5.out.bel⟩
end Go.Proofs.Ythmldeningpjbaa
/- polynyalaw09.sameState of what is the same -/
namespace Go.Proofs.Ythmldeningpjbaa
open Go Go.RowKit Sp Pt
set_option linter.unusedVariables false
set_option linter.unusedSimpArgs false

set_option maxRecDepth 100000 in
set_option maxHeartbeats 1000000 in
theorem sameState_any (A : Option Addr) (c : Nat) (B : Option Addr) (d : Nat) (A' : Option Addr) (c' : Nat) (B' : Option Addr) (d' : Nat) (s : Stt) (w : World) (h1 : SttB w.heap.size w A c B d s) (h2 : SttB w.heap.size w A' c' B' d' s) (hl : s.brash.length ≤ 1000 ∧ s.busy.length ≤ 1000) :
    Calls Try.prog 42 #[.agg (sttV A c B d s), .agg (sttV A' c' B' d' s)] w fun e w' => e = .returned (.bool true) ∧ Below w.heap.size w w' := by
  have k1 : ∀ wx, Below w.heap.size w wx → Calls Try.prog 37 #[.slice A s.brash.length c, .slice A' s.brash.length c'] wx fun e w' => e = .returned (.bool true) ∧ Below wx.heap.size wx w' := fun wx hb => by
    refine (sameInts_any A c s.brash A' c' wx ((h1.br.below hb).rd hb.size) ((h2.br.below hb).rd hb.size) (by omega)).mono ?_
    rintro e w' ⟨rfl, h⟩
    exact ⟨rfl, h⟩
  have k2 : ∀ wx, Below w.heap.size w wx → Calls Try.prog 100 #[.slice B s.busy.length d, .slice B' s.busy.length d'] wx fun e w' => e = .returned (.bool true) ∧ Below wx.heap.size wx w' := fun wx hb => by
    refine (sameTruths_any B d s.busy B' d' wx ((h1.bu.below hb).rd hb.size) ((h2.bu.below hb).rd hb.size) (by omega)).mono ?_
    rintro e w' ⟨rfl, h⟩
    exact ⟨rfl, h⟩
  obtain ⟨sb, hsb⟩ : ∃ b, b = w.heap.size := ⟨_, rfl⟩
  obtain ⟨tb, htb⟩ : ∃ b, b = w.heap.size + 1 := ⟨_, rfl⟩
  obtain ⟨W, hW⟩ : ∃ W, W = (w.alloc (.cells (sttV A c B d s) 42)).alloc (.cells (sttV A' c' B' d' s) 42) := ⟨_, rfl⟩
  have O0 : Own w.heap.size w [.blk sb (.cells (sttV A c B d s) 42), .blk tb (.cells (sttV A' c' B' d' s) 42)] W := by
    have h := (((Own.start w).alloc (.cells (sttV A c B d s) 42)).alloc (.cells (sttV A' c' B' d' s) 42))
    rw [hW, hsb, htb]
    simpa using h
  have cellsAt : ∀ wx, Own w.heap.size w [.blk sb (.cells (sttV A c B d s) 42), .blk tb (.cells (sttV A' c' B' d' s) 42)] wx → wx.cell? ⟨sb, 0, none⟩ = some (.slice A s.brash.length c) ∧ wx.cell? ⟨sb, 1, none⟩ = some (.slice B s.busy.length d) ∧ wx.cell? ⟨tb, 0, none⟩ = some (.slice A' s.brash.length c') ∧ wx.cell? ⟨tb, 1, none⟩ = some (.slice B' s.busy.length d') ∧ sb < wx.heap.size ∧ tb < wx.heap.size := fun wx O => by
    have h0 := O.heap 0 rfl
    have h1 := O.heap 1 rfl
    exact ⟨(cell_of_heap h0 0).trans rfl, (cell_of_heap h0 1).trans rfl, (cell_of_heap h1 0).trans rfl, (cell_of_heap h1 1).trans rfl, heap_lt h0, heap_lt h1⟩
  obtain ⟨c0, c1, c2, c3, z0, z1⟩ := cellsAt W O0
  have H := Lib.hid (And.intro O0 (And.intro cellsAt (And.intro k1 k2)))
  clear O0 cellsAt k1 k2 h1 h2
  go_enter Try.func42, Try.ntmps42
  go_upto_region 1 with fail
  rw [← hW, ← htb, ← hsb]
  clear hW htb hsb
  go_wp2_with (first | (go_at_call 37; refine (H.out.2.2.1 W H.out.1.bel).mono ?_; rintro e w1 ⟨rfl, hb⟩; have O1 := Lib.hid (H.out.1.below hb); clear hb c0 c1 c2 c3 z0 z1; obtain ⟨c0, c1, c2, c3, z0, z1⟩ := H.out.2.1 w1 O1.out) | (go_at_call 100; refine (H.out.2.2.2 w1 O1.out.bel).mono ?_; rintro e w2 ⟨rfl, hb⟩; have O2 := Lib.hid (O1.out.below hb); clear hb))
  go_ret
  exact ⟨rfl, O2.out.bel⟩
end Go.Proofs.Ythmldeningpjbaa
/- Plain law of layer 9: how often a map can be applied, as the reference counts it; calls in turns, as the reference looks at them. No program is named here. -/
namespace Go.Proofs.Ythmldeningpjbaa.Pt
open Sp

def timesF (m : Mp) : Nat → Int → Int → Int
  | 0, _, n => n
  | g + 1, b, n => if b ≤ m.most then (if max (b + m.add) m.floor ≤ b then -1 else timesF m g (max (b + m.add) m.floor) (n + 1)) else n
theorem timesF_end {m : Mp} {g : Nat} {b n : Int} (h : m.most < b) : timesF m g b n = n := by
  cases g with
  | zero => rfl
  | succ g => rw [timesF, if_neg (by omega)]
theorem times_stays {m : Mp} {g : Nat} (hg : 1 ≤ g) : decide (0 ≤ timesF m g m.most 0) = (decide (0 < m.add) || decide (m.most < m.floor)) := by
  obtain ⟨g, rfl⟩ : ∃ k, g = k + 1 := ⟨g - 1, by omega⟩
  rw [timesF, if_pos (Int.le_refl _)]
  by_cases h : max (m.most + m.add) m.floor ≤ m.most
  · rw [if_pos h]
    have h1 : ¬ 0 < m.add := by omega
    have h2 : ¬ m.most < m.floor := by omega
    simp [h1, h2]
  · rw [if_neg h, timesF_end (by omega)]
    have h1 : 0 < m.add ∨ m.most < m.floor := by omega
    rcases h1 with h1 | h1 <;> simp [h1]
theorem times_up {m : Mp} (ha : 0 < m.add) : ∀ {g : Nat} {b n : Int}, m.floor ≤ b → b ≤ m.most → m.most - b < g → timesF m g b n = n + 1 + (m.most - b) / m.add
  | 0, b, n, _, h1, h2 => by omega
  | g + 1, b, n, h0, h1, h2 => by
    rw [timesF, if_pos h1, show max (b + m.add) m.floor = b + m.add from by omega, if_neg (by omega)]
    by_cases h : b + m.add ≤ m.most
    · rw [times_up ha (by omega) h (by omega)]
      have e : (m.most - b) / m.add = (m.most - (b + m.add)) / m.add + 1 := by
        rw [show m.most - b = (m.most - (b + m.add)) + m.add * 1 from by omega, Int.add_mul_ediv_left _ _ (by omega)]
      omega
    · rw [timesF_end (by omega)]
      have e : (m.most - b) / m.add = 0 := Int.ediv_eq_zero_of_lt (by omega) (by omega)
      omega
theorem times_rounds {m : Mp} {g : Nat} (hn : m.most ≠ NL) (hf : 0 ≤ m.floor) (hg : 1 ≤ g ∧ m.most + 1 < g) : timesF m g 0 0 = rounds m := by
  unfold rounds
  obtain ⟨g, rfl⟩ : ∃ k, g = k + 1 := ⟨g - 1, by omega⟩
  rw [timesF]
  by_cases h0 : m.most < 0
  · rw [if_neg (by omega), if_neg (by rintro (h | h); exact hn h; omega), if_pos h0]
  rw [if_pos (by omega)]
  by_cases h1 : max (0 + m.add) m.floor ≤ 0
  · rw [if_pos h1, if_pos (.inr (by omega))]
  rw [if_neg h1, show max (0 + m.add) m.floor = max m.add m.floor from by rw [Int.zero_add]]
  obtain ⟨f, hfe⟩ : ∃ f, f = max m.add m.floor := ⟨_, rfl⟩
  rw [← hfe]
  by_cases h2 : m.most < f
  · rw [timesF_end h2, if_neg (by rintro (h | h); exact hn h; omega), if_neg h0, if_pos h2]; rfl
  by_cases h3 : 0 < m.add
  · rw [times_up h3 (by omega) (by omega) (by omega), if_neg (by rintro (h | h); exact hn h; omega), if_neg h0, if_neg h2, Int.tdiv_eq_ediv_of_nonneg (by omega)]
    omega
  · rw [if_pos (.inr (by omega))]
    obtain ⟨g, rfl⟩ : ∃ k, g = k + 1 := ⟨g - 1, by omega⟩
    rw [timesF, if_pos (by omega), if_pos (by omega)]
theorem alt_ends : ∀ (x : Bool) (L : List Bool), turnsL (x :: L) = true → ((x = (x :: L).getD L.length false) ↔ (L.length + 1) % 2 = 1)
  | x, [], _ => by simp
  | x, y :: L, h => by
    simp only [turnsL, Bool.and_eq_true, decide_eq_true_eq] at h
    have ih := alt_ends y L h.2
    have e : (x :: y :: L).getD (y :: L).length false = (y :: L).getD L.length false := by simp
    rw [e]
    obtain ⟨z, hz⟩ : ∃ z, z = (y :: L).getD L.length false := ⟨_, rfl⟩
    rw [← hz] at ih ⊢
    have h1 := h.1
    simp only [List.length_cons]
    constructor
    · intro h2
      have h3 : ¬ y = z := fun h4 => h1 (h2.trans h4.symm)
      have := mt ih.2 h3
      omega
    · intro h2
      have h3 : ¬ y = z := fun h4 => by have := ih.1 h4; omega
      exact (show ∀ x y z : Bool, x ≠ y → y ≠ z → x = z by decide) x y z h1 h3
/-- a berth's calls, as the reference looks at them -/
theorem turnsB_ref {l : Pln} {b : Int} (h : turnsL (outsOf l b) = true) : turnsB l b = !(decide (0 < (outsOf l b).length) && ((outsOf l b).getD 0 false == (outsOf l b).getD ((outsOf l b).length - 1) false)) := by
  unfold turnsB
  rw [h, Bool.true_and]
  cases hL : outsOf l b with
  | nil => simp
  | cons x L =>
    rw [hL] at h
    have := alt_ends x L h
    simp only [List.length_cons, Nat.add_sub_cancel, List.getD_cons_zero]
    obtain ⟨z, hz⟩ : ∃ z, z = (x :: L).getD L.length false := ⟨_, rfl⟩
    rw [← hz] at this ⊢
    by_cases e : x = z
    · have h2 := this.1 e
      rw [e]
      simp
      omega
    · have h2 := mt this.2 e
      have h3 : (x == z) = false := by simpa using e
      rw [h3]
      simp
      omega
end Go.Proofs.Ythmldeningpjbaa.Pt
/- Plain law of layer 9: the reference's map of a plan for a channel, step by step. No program is named here. -/
namespace Go.Proofs.Ythmldeningpjbaa.Pt
open Sp

def isSw (h : Nat) (c : Int) (s : Swp) : Bool := decide (s.hour = (h : Int)) && decide (s.channel = c)
def mpSw (p : Prt) (c : Int) (s : Swp) : Mp := ⟨-s.tugs * (ch p c).clear, 0, NL⟩
def isCa (p : Prt) (h : Nat) (c : Int) (x : Cal) : Bool := decide (x.hour = (h : Int)) && (bt p x.berth).path.contains c
def mpCa (p : Prt) (c : Int) (x : Cal) : Mp := ⟨(ch p c).grow, (ch p c).grow, x.most⟩
def mpFr (p : Prt) (c : Int) : Mp := ⟨(ch p c).frost, (ch p c).frost, NL⟩
theorem mapsH_ref (p : Prt) (l : Pln) (c : Int) (h : Nat) : mapsH p l c h = (l.swps.filter (isSw h c)).map (mpSw p c) ++ ((l.calls.filter (isCa p h c)).map (mpCa p c) ++ [mpFr p c]) := rfl
/-- the maps before hour h -/
def preA (p : Prt) (l : Pln) (c : Int) (h : Nat) : List Mp := (List.range h).flatMap (mapsH p l c)
/-- and those of the first i sweeps -/
def preB (p : Prt) (l : Pln) (c : Int) (h i : Nat) : List Mp := preA p l c h ++ ((l.swps.take i).filter (isSw h c)).map (mpSw p c)
/-- and those of the first i calls -/
def preC (p : Prt) (l : Pln) (c : Int) (h i : Nat) : List Mp := preA p l c h ++ ((l.swps.filter (isSw h c)).map (mpSw p c) ++ ((l.calls.take i).filter (isCa p h c)).map (mpCa p c))
def foldM (l : List Mp) : Mp := l.foldl join1 id1
theorem foldM_snoc (l : List Mp) (m : Mp) : foldM (l ++ [m]) = join1 (foldM l) m := by simp [foldM]
section
variable {p : Prt} {l : Pln} {c : Int} {h i : Nat}
theorem preB_zero : preB p l c h 0 = preA p l c h := by simp [preB]
theorem preC_zero : preC p l c h 0 = preB p l c h l.swps.length := by simp [preB, preC]
theorem preA_succ : preA p l c (h + 1) = preC p l c h l.calls.length ++ [mpFr p c] := by
  simp [preA, preC, List.range_succ, mapsH_ref]
theorem preB_succ (hi : i < l.swps.length) : preB p l c h (i + 1) = if isSw h c l.swps[i] then preB p l c h i ++ [mpSw p c l.swps[i]] else preB p l c h i := by
  unfold preB
  rw [List.take_succ_eq_append_getElem hi, List.filter_append]
  by_cases e : isSw h c l.swps[i] = true
  · rw [if_pos e]; simp [e]
  · rw [if_neg e]; simp [e]
theorem preC_succ (hi : i < l.calls.length) : preC p l c h (i + 1) = if isCa p h c l.calls[i] then preC p l c h i ++ [mpCa p c l.calls[i]] else preC p l c h i := by
  unfold preC
  rw [List.take_succ_eq_append_getElem hi, List.filter_append]
  by_cases e : isCa p h c l.calls[i] = true
  · rw [if_pos e]; simp [e]
  · rw [if_neg e]; simp [e]
theorem preA_all : preA p l c l.hours.toNat = mapsS p l c := rfl
theorem preA_le (hh : h ≤ l.hours.toNat) : ∃ t, preA p l c h ++ t = mapsS p l c := by
  obtain ⟨k, hk⟩ : ∃ k, l.hours.toNat = h + k := ⟨l.hours.toNat - h, by omega⟩
  refine ⟨(List.range' h k).flatMap (mapsH p l c), ?_⟩
  unfold preA mapsS
  rw [← List.flatMap_append, hk, List.range_eq_range', List.range_eq_range', show List.range' 0 h ++ List.range' h k = List.range' 0 (h + k) from by
    have := List.range'_append_1 (s := 0) (m := h) (n := k); simpa using this]
theorem preC_le (hh : h < l.hours.toNat) : ∃ t, preC p l c h i ++ t = mapsS p l c := by
  obtain ⟨t, ht⟩ := preA_le (p := p) (c := c) (show h + 1 ≤ l.hours.toNat from hh)
  rw [preA_succ] at ht
  refine ⟨((l.calls.drop i).filter (isCa p h c)).map (mpCa p c) ++ ([mpFr p c] ++ t), ?_⟩
  rw [← ht]
  have e : preC p l c h l.calls.length = preC p l c h i ++ ((l.calls.drop i).filter (isCa p h c)).map (mpCa p c) := by
    unfold preC
    rw [List.take_length]
    conv => lhs; rw [← List.take_append_drop i l.calls, List.filter_append, List.map_append]
    simp
  rw [e]
  simp
theorem preB_le (hh : h < l.hours.toNat) : ∃ t, preB p l c h i ++ t = mapsS p l c := by
  obtain ⟨t, ht⟩ := preC_le (p := p) (c := c) (i := 0) hh
  rw [preC_zero] at ht
  refine ⟨((l.swps.drop i).filter (isSw h c)).map (mpSw p c) ++ t, ?_⟩
  rw [← ht]
  have e : preB p l c h l.swps.length = preB p l c h i ++ ((l.swps.drop i).filter (isSw h c)).map (mpSw p c) := by
    unfold preB
    rw [List.take_length]
    conv => lhs; rw [← List.take_append_drop i l.swps, List.filter_append, List.map_append]
    simp
  rw [e]
  simp
/-- a map joined of the first of the maps -/
theorem pre_jm (v : Val p l) (c0 : 0 ≤ c) (c1 : c < p.chs.length) {q : List Mp} (hq : ∃ t, q ++ t = mapsS p l c) : Jm 360 (foldM q) := by
  obtain ⟨t, ht⟩ := hq
  have hl := mapsS_length v c
  have hg := mapsS_gm v c0 c1
  rw [← ht, List.length_append] at hl
  have h1 := fold_jm (l := q) (fun m hm => hg m (by rw [← ht]; simp [hm])) (k := 0) (a := id1) id_jm (by omega)
  have h2 : Jm (0 + q.length) (foldM q) := h1
  obtain ⟨⟨a, a'⟩, ⟨b, b'⟩, d, e, f⟩ := h2
  refine ⟨?_, ?_, d, e, ?_⟩ <;> omega
end
end Go.Proofs.Ythmldeningpjbaa.Pt
/- polynyaref09: in, right, Apply, join, Join -/
namespace Go.Proofs.Ythmldeningpjbaa
open Go Go.RowKit Sp Pt
set_option linter.unusedVariables false
set_option linter.unusedSimpArgs false

theorem rin9_any (n lo hi : Int) (w : World) : Calls Try.prog 102 #[.int .i64 n, .int .i64 lo, .int .i64 hi] w fun e w' => e = .returned (.bool (within n lo hi)) ∧ w = w' := by
  by_cases h1 : lo ≤ n <;> by_cases h2 : n ≤ hi
  all_goals
    go_enter Try.func102, Try.ntmps102
    go_wp2_with fail
    go_ret
    exact ⟨by simp [within, h1, h2], rfl⟩


end Go.Proofs.Ythmldeningpjbaa
/- polynyaref09: has, join, Join -/
namespace Go.Proofs.Ythmldeningpjbaa
open Go Go.RowKit Sp Pt
set_option linter.unusedVariables false
set_option linter.unusedSimpArgs false

set_option maxHeartbeats 1000000 in
theorem rhas_any (A : Option Addr) (c : Nat) (l : List Int) (t : Int) (w : World) (hr : Rd w 1 A l.length (ints l)) (hm : l.length ≤ 9223372036854775807) :
    Calls Try.prog 106 #[.slice A l.length c, .int .i64 t] w fun e w' => e = .returned (.bool (l.contains t)) ∧ w = w' := by
  go_enter Try.func106, Try.ntmps106
  go_wp2_with fail
  go_loopg [5] (l.length) (fun g i wr => ∃ k : Nat, g + k = l.length ∧ i = .int .i64 k ∧ (l.take k).contains t = false ∧ w = wr)
  case atStart => exact ⟨0, rfl, rfl, by simp, rfl⟩
  case round =>
    obtain ⟨k, hk, rfl, hb, rfl⟩ := hrel
    have HB := Lib.hid hb
    clear hb
    by_cases hlt : k < l.length
    · obtain ⟨b, off, rfl, hbb, hc⟩ := hr.2 (by omega)
      have c0 := hc k _ (ints_get hlt)
      obtain ⟨x, hx⟩ : ∃ x, x = l.getD k 0 := ⟨_, rfl⟩
      rw [← hx] at c0
      have hx' : l[k] = x := by rw [hx]; simp [hlt]
      have HX := Lib.hid hx'
      clear hx hx' hc hr
      go_wp2_with fail
      · go_ret
        refine ⟨?_, rfl⟩
        have h1 : l.contains t = true := by
          rw [List.contains_iff_mem]
          have : l[k] ∈ l := List.getElem_mem _
          rw [HX.out] at this
          rename_i h
          have h' : x = t := by simpa using h
          rw [← h']; exact this
        rw [h1]; rfl
      · go_roundg (gk - 1)
        case measure => omega
        case rel =>
          refine ⟨k + 1, by omega, by go_num, ?_, rfl⟩
          rw [List.take_succ_eq_append_getElem hlt, HX.out]
          have h2 := HB.out
          simp only [List.contains_eq_mem, decide_eq_false_iff_not, List.mem_append, List.mem_singleton] at h2 ⊢
          rintro (h | h)
          · exact h2 h
          · simp_all
    · obtain rfl : k = l.length := by omega
      go_wp2_with fail
      go_ret
      exact ⟨by have := HB.out; rw [List.take_length] at this; rw [this]; rfl, rfl⟩

set_option maxRecDepth 100000 in
set_option maxHeartbeats 4000000 in
theorem rjoin_any (a m : Mp) (w : World) (ha : farM a) (hm : farM m) (h1 : -1 ≤ a.most) (h2 : -1 ≤ m.most) (h3 : a.floor ≤ NL) :
    Calls Try.prog 103 #[mpV a, mpV m] w fun e w' => e = .returned (mpV (join1 a m)) ∧ Below w.heap.size w w' := by
  obtain ⟨⟨a1, a2⟩, ⟨a3, a4⟩, ⟨a5, a6⟩⟩ := ha
  obtain ⟨⟨m1, m2⟩, ⟨m3, m4⟩, ⟨m5, m6⟩⟩ := hm
  have HJ := Lib.hid (And.intro h1 (And.intro h2 h3))
  go_enter Try.func103, Try.ntmps103
  go_wp2_with fail
  all_goals
    refine bodyPost_ret (v := mpV (join1 a m)) ?_ rfl ⟨rfl, ((((Below.refl _ _).alloc (Nat.le_refl _) _).alloc (by simp) _).alloc (by simp; omega) _).alloc (by simp; omega) _⟩
    have hj := joinL_cases a m
    simp only [results, Try.results103, go_sem, mpV, join1]
    simp [go_sem]
    simp only [NL, beq_iff_eq, beq_eq_false_iff_ne, bne_iff_ne, bne_eq_false_iff_eq, ne_eq] at *
    omega

theorem mpR_results {F : Func} {r : Nat} (hF : F.results = #[.cell r 95]) {W : World} {b : Nat} {m : Mp} (h : W.heap[b]? = some (.cells #[.int .i64 m.add, .int .i64 m.floor, .int .i64 m.most] 95 (0, 0))) (tmps : Array Value) (hr : tmps.getD r undef = .pointer (some ⟨b, 0, none⟩)) :
    (results F tmps).run Try.prog W = .ok (mpV m) W := by
  have g8 : tmps[r]?.getD undef = .pointer (some ⟨b, 0, none⟩) := by simpa using hr
  have c0 : W.cell? ⟨b, 0, none⟩ = some (.int .i64 m.add) := (cell_of_heap h 0).trans rfl
  have c1 : W.cell? ⟨b, 1, none⟩ = some (.int .i64 m.floor) := (cell_of_heap h 1).trans rfl
  have c2 : W.cell? ⟨b, 2, none⟩ = some (.int .i64 m.most) := (cell_of_heap h 2).trans rfl
  simp [results, hF, g8, asAddr, go_sem, c0, c1, c2]

end Go.Proofs.Ythmldeningpjbaa
