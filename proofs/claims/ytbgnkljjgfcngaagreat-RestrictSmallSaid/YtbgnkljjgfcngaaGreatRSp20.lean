/- 'q, r, u := p, Policy(p), Vessel(v)': the region that makes the three, whatever its order -/
import Derived.Test.YtbgnkljjgfcngaaGreatRSp11
import Derived.Test.YtbgnkljjgfcngaaGreatRSp10
import Derived.Test.YtbgnkljjgfcngaaGreatRSp15
import Derived.Test.YtbgnkljjgfcngaaGreatRSp2
import Derived.IntWalk
import Derived.Test.YtbgnkljjgfcngaaGreatRSp6
import Derived.Deep.DeepCutAuto
set_option linter.unusedVariables false
set_option linter.unusedSimpArgs false
namespace Go.Proofs.YtbgnkljjgfcngaaGreat
open Go Go.RowKit Sp
set_option linter.unusedVariables false

abbrev qvZ : Array Value := #[.int .i64 0, .int .i64 0, .bool false]
section
variable {c a b x y e z : Nat} {W0 : World} {As : Option Addr} {cs : Nat} {p : Pol} {v : Ves} {s : RgS} {b15 : Nat} {l : Nat → Bool} {w w' : World}
theorem QW.keep (h : QW c a b x y W0 As cs p s l w) {S : List Nat} (hK : Keep S w w') (hS : ∀ g ∈ S, W0.heap.size ≤ g) (h1 : l a = true → s.b13 ∉ S) (h2 : l b = true → s.b14 ∉ S) (h3 : l c = true → ∀ g o, s.Ap = some ⟨g, o, none⟩ → p.steps.length ≠ 0 → g ∉ S) : QW c a b x y W0 As cs p s l w' := by
  refine ⟨h.bel.trans (hK.below h.bel.size hS), fun hc => ?_, fun ha => ⟨(h.q3 ha).1, (hK.block _ (heap_lt (h.q3 ha).2) (h1 ha)).trans (h.q3 ha).2⟩, fun hb => ⟨(h.q4 hb).1, (hK.block _ (heap_lt (h.q4 hb).2) (h2 hb)).trans (h.q4 hb).2⟩, h.ne⟩
  obtain ⟨p1, p2, p3⟩ := h.pr hc
  by_cases hn : p.steps.length = 0
  · exact ⟨⟨p1.1, fun h => by omega⟩, p2, p3⟩
  · exact ⟨hK.rd p1 (fun g o e => h3 hc g o e hn), p2, p3⟩

structure QV (c a b e x y z : Nat) (W0 : World) (As : Option Addr) (cs : Nat) (p : Pol) (v : Ves) (s : RgS) (b15 : Nat) (l : Nat → Bool) (w : World) : Prop where
  q : QW c a b x y W0 As cs p s l w
  q5 : l e = true → W0.heap.size ≤ b15 ∧ w.heap[b15]? = some (.cells (if l z then #[.int .i64 v.cls, .int .i64 v.ton, .bool v.esc] else qvZ) 94 (0, 0))
  n1 : l e = true → l a = true → s.b13 ≠ b15
  n2 : l e = true → l b = true → s.b14 ≠ b15
  n3 : l e = true → l c = true → ∀ g o, s.Ap = some ⟨g, o, none⟩ → p.steps.length ≠ 0 → g ≠ b15
theorem QV.other (h : QV c a b e x y z W0 As cs p v s b15 l w) (i : Nat) (hi : c ≠ i ∧ a ≠ i ∧ b ≠ i ∧ x ≠ i ∧ y ≠ i) (hi2 : e ≠ i ∧ z ≠ i) : QV c a b e x y z W0 As cs p v s b15 (upd l i) w := by
  have hq := h.q.other i hi
  obtain ⟨h1, h2, h3, h4, h5⟩ := hi
  obtain ⟨h6, h7⟩ := hi2
  exact ⟨hq, by rw [qrUpd_ne h6, qrUpd_ne h7]; exact h.q5, by rw [qrUpd_ne h6, qrUpd_ne h2]; exact h.n1, by rw [qrUpd_ne h6, qrUpd_ne h3]; exact h.n2, by rw [qrUpd_ne h6, qrUpd_ne h1]; exact h.n3⟩
theorem QV.call (h : QV c a b e x y z W0 As cs p v s b15 l w) (hd : a ≠ c ∧ b ≠ c ∧ x ≠ c ∧ y ≠ c) (hd2 : e ≠ c ∧ z ≠ c) (hy : l y = false) {A : Option Addr} {c' : Nat} {q : List Nat} (hb : Below w.heap.size w w') (ho : OwnS w' 141 4 A p.steps.length c' (stcs p.steps) q) (hq : ∀ g ∈ q, w.heap.size ≤ g) :
    QV c a b e x y z W0 As cs p v { s with Ap := A, cp := c' } b15 (upd l c) w' := by
  refine ⟨h.q.call (n := 0) hd hy hb ho hq, ?_, ?_, ?_, ?_⟩
  · rw [qrUpd_ne hd2.1, qrUpd_ne hd2.2]
    exact fun h5 => ⟨(h.q5 h5).1, (hb.block _ (heap_lt (h.q5 h5).2)).trans (h.q5 h5).2⟩
  · rw [qrUpd_ne hd2.1, qrUpd_ne hd.1]; exact h.n1
  · rw [qrUpd_ne hd2.1, qrUpd_ne hd.2.1]; exact h.n2
  · rw [qrUpd_ne hd2.1]
    intro h5 _ g o e1 hn
    obtain ⟨g', e', hq', _⟩ := ho.some_ (by omega)
    simp only at e1
    rw [e1] at e'
    injection e' with e'
    injection e' with e2
    subst e2
    have hg := hq g (by rw [hq']; simp)
    have := heap_lt (h.q5 h5).2
    omega
theorem QV.allocA (h : QV c a b e x y z W0 As cs p v s b15 l w) (hd : c ≠ a ∧ b ≠ a ∧ x ≠ a ∧ y ≠ a) (hd2 : e ≠ a ∧ z ≠ a) (hx : l x = false) :
    QV c a b e x y z W0 As cs p v { s with b13 := w.heap.size } b15 (upd l a) (w.alloc (.cells qrZpol 25)) := by
  refine ⟨h.q.allocA hd hx, ?_, ?_, ?_, ?_⟩
  · rw [qrUpd_ne hd2.1, qrUpd_ne hd2.2]
    exact fun h5 => ⟨(h.q5 h5).1, heap_alloc' (h.q5 h5).2 _⟩
  · rw [qrUpd_ne hd2.1]
    exact fun h5 _ e => by have := heap_lt (h.q5 h5).2; simp only at e; omega
  · rw [qrUpd_ne hd2.1, qrUpd_ne hd.2.1]; exact h.n2
  · rw [qrUpd_ne hd2.1, qrUpd_ne hd.1]; exact h.n3
theorem QV.allocB (h : QV c a b e x y z W0 As cs p v s b15 l w) (hd : c ≠ b ∧ a ≠ b ∧ x ≠ b ∧ y ≠ b) (hd2 : e ≠ b ∧ z ≠ b) (hy : l y = false) :
    QV c a b e x y z W0 As cs p v { s with b14 := w.heap.size } b15 (upd l b) (w.alloc (.cells qrZpol 65)) := by
  refine ⟨h.q.allocB hd hy, ?_, ?_, ?_, ?_⟩
  · rw [qrUpd_ne hd2.1, qrUpd_ne hd2.2]
    exact fun h5 => ⟨(h.q5 h5).1, heap_alloc' (h.q5 h5).2 _⟩
  · rw [qrUpd_ne hd2.1, qrUpd_ne hd.2.1]; exact h.n1
  · rw [qrUpd_ne hd2.1]
    exact fun h5 _ e => by have := heap_lt (h.q5 h5).2; simp only at e; omega
  · rw [qrUpd_ne hd2.1, qrUpd_ne hd.1]; exact h.n3
theorem QV.allocC (h : QV c a b e x y z W0 As cs p v s b15 l w) (hd : c ≠ e ∧ a ≠ e ∧ b ≠ e ∧ x ≠ e ∧ y ≠ e) (hd2 : z ≠ e) (hz : l z = false) :
    QV c a b e x y z W0 As cs p v s w.heap.size (upd l e) (w.alloc (.cells qvZ 94)) := by
  refine ⟨(h.q.keep (S := []) ((Keep.refl _ _).alloc _) (by simp) (by simp) (by simp) (by simp)).other e hd, ?_, ?_, ?_, ?_⟩
  · rw [qrUpd_ne hd2, hz]
    exact fun _ => ⟨h.q.bel.size, heap_alloc_new _ _⟩
  · rw [qrUpd_ne hd.2.1]
    exact fun _ ha e => by have := heap_lt (h.q.q3 ha).2; omega
  · rw [qrUpd_ne hd.2.2.1]
    exact fun _ ha e => by have := heap_lt (h.q.q4 ha).2; omega
  · rw [qrUpd_ne hd.1]
    intro _ hc g o e hn e2
    obtain ⟨b', o', e', z', _⟩ := (h.q.pr hc).1.2 (by omega)
    rw [e] at e'; injection e' with e'; injection e' with e1
    omega
theorem QV.storeA (h : QV c a b e x y z W0 As cs p v s b15 l w) (hd : c ≠ x ∧ a ≠ x ∧ b ≠ x ∧ y ≠ x) (hd2 : e ≠ x ∧ z ≠ x) (ha : l a = true) (hx : l x = false) :
    QV c a b e x y z W0 As cs p v s b15 (upd l x) (((((w.setCell ⟨s.b13, 0, none⟩ (.slice As p.steps.length cs)).setCell ⟨s.b13, 1, none⟩ (.int .i64 p.hold)).setCell ⟨s.b13, 2, none⟩ (.int .i64 p.calm)).setCell ⟨s.b13, 3, none⟩ (.int .i64 p.notice)).setCell ⟨s.b13, 4, none⟩ (.int .i64 p.grace)) := by
  have K := qrKeep5 (S := [s.b13]) (w := w) (g := s.b13) (.slice As p.steps.length cs) (.int .i64 p.hold) (.int .i64 p.calm) (.int .i64 p.notice) (.int .i64 p.grace) (.inl (by simp))
  refine ⟨h.q.storeA hd ha hx, ?_, ?_, ?_, ?_⟩
  · rw [qrUpd_ne hd2.1, qrUpd_ne hd2.2]
    exact fun h5 => ⟨(h.q5 h5).1, (K.block _ (heap_lt (h.q5 h5).2) (by simpa using fun e => h.n1 h5 ha e.symm)).trans (h.q5 h5).2⟩
  · rw [qrUpd_ne hd2.1, qrUpd_ne hd.2.1]; exact h.n1
  · rw [qrUpd_ne hd2.1, qrUpd_ne hd.2.2.1]; exact h.n2
  · rw [qrUpd_ne hd2.1, qrUpd_ne hd.1]; exact h.n3
theorem QV.storeB (h : QV c a b e x y z W0 As cs p v s b15 l w) (hd : c ≠ y ∧ a ≠ y ∧ b ≠ y ∧ x ≠ y) (hd2 : e ≠ y ∧ z ≠ y) (hb : l b = true) (hy : l y = false) :
    QV c a b e x y z W0 As cs p v s b15 (upd l y) (((((w.setCell ⟨s.b14, 0, none⟩ (.slice s.Ap p.steps.length s.cp)).setCell ⟨s.b14, 1, none⟩ (.int .i64 p.hold)).setCell ⟨s.b14, 2, none⟩ (.int .i64 p.calm)).setCell ⟨s.b14, 3, none⟩ (.int .i64 p.notice)).setCell ⟨s.b14, 4, none⟩ (.int .i64 p.grace)) := by
  have K := qrKeep5 (S := [s.b14]) (w := w) (g := s.b14) (.slice s.Ap p.steps.length s.cp) (.int .i64 p.hold) (.int .i64 p.calm) (.int .i64 p.notice) (.int .i64 p.grace) (.inl (by simp))
  refine ⟨h.q.storeB hd hb hy, ?_, ?_, ?_, ?_⟩
  · rw [qrUpd_ne hd2.1, qrUpd_ne hd2.2]
    exact fun h5 => ⟨(h.q5 h5).1, (K.block _ (heap_lt (h.q5 h5).2) (by simpa using fun e => h.n2 h5 hb e.symm)).trans (h.q5 h5).2⟩
  · rw [qrUpd_ne hd2.1, qrUpd_ne hd.2.1]; exact h.n1
  · rw [qrUpd_ne hd2.1, qrUpd_ne hd.2.2.1]; exact h.n2
  · rw [qrUpd_ne hd2.1, qrUpd_ne hd.1]; exact h.n3
theorem QV.storeC (h : QV c a b e x y z W0 As cs p v s b15 l w) (hd : c ≠ z ∧ a ≠ z ∧ b ≠ z ∧ x ≠ z ∧ y ≠ z) (hd2 : e ≠ z) (he : l e = true) (hz : l z = false) :
    QV c a b e x y z W0 As cs p v s b15 (upd l z) (((w.setCell ⟨b15, 0, none⟩ (.int .i64 v.cls)).setCell ⟨b15, 1, none⟩ (.int .i64 v.ton)).setCell ⟨b15, 2, none⟩ (.bool v.esc)) := by
  have K : Keep [b15] w (((w.setCell ⟨b15, 0, none⟩ (.int .i64 v.cls)).setCell ⟨b15, 1, none⟩ (.int .i64 v.ton)).setCell ⟨b15, 2, none⟩ (.bool v.esc)) := (((Keep.refl _ _).setCell (.inl (by simp)) _).setCell (.inl (by simp)) _).setCell (.inl (by simp)) _
  have h5 := h.q5 he
  rw [hz] at h5
  refine ⟨(h.q.keep K (by simpa using h5.1) (fun ha => by simpa using h.n1 he ha) (fun hb => by simpa using h.n2 he hb) (fun hc g o e1 hn => by simpa using h.n3 he hc g o e1 hn)).other z hd, ?_, ?_, ?_, ?_⟩
  · rw [qrUpd_eq]
    exact fun _ => ⟨h5.1, heap_set (heap_set (heap_set h5.2 0 _) 1 _) 2 _⟩
  · rw [qrUpd_ne hd2, qrUpd_ne hd.2.1]; exact h.n1
  · rw [qrUpd_ne hd2, qrUpd_ne hd.2.2.1]; exact h.n2
  · rw [qrUpd_ne hd2, qrUpd_ne hd.1]; exact h.n3
theorem QV.fin (h : QV c a b e x y z W0 As cs p v s b15 l w) (hc : l c = true) (ha : l a = true) (hb : l b = true) (he : l e = true) (hx : l x = true) (hy : l y = true) (hz : l z = true) :
    QR W0 w s.b13 s.b14 As cs p s.Ap s.cp ∧ w.heap[b15]? = some (.cells #[.int .i64 v.cls, .int .i64 v.ton, .bool v.esc] 94 (0, 0)) ∧ s.b13 ≠ b15 := by
  have h5 := (h.q5 he).2
  rw [hz] at h5
  exact ⟨h.q.fin hc ha hb hx hy, h5, h.n1 he ha⟩
theorem qvZero {w : World} {g : Nat} {t : TypeId} (h : w.heap[g]? = some (.cells qvZ t (0, 0))) :
    (w.cell? ⟨g, 0, none⟩ = some (.int .i64 0) ∧ w.cell? ⟨g, 1, none⟩ = some (.int .i64 0) ∧ w.cell? ⟨g, 2, none⟩ = some (.bool false)) ∧ (w.frozen? ⟨g, 0, none⟩ = false ∧ w.frozen? ⟨g, 1, none⟩ = false ∧ w.frozen? ⟨g, 2, none⟩ = false) :=
  ⟨⟨(cell_of_heap h 0).trans rfl, (cell_of_heap h 1).trans rfl, (cell_of_heap h 2).trans rfl⟩, frozen_of_heap h 0, frozen_of_heap h 1, frozen_of_heap h 2⟩
end
end Go.Proofs.YtbgnkljjgfcngaaGreat
/- polynyaref08.May -/
namespace Go.Proofs.YtbgnkljjgfcngaaGreat
open Go Go.RowKit Sp
set_option linter.unusedVariables false

structure MyS where
  g : Nat
  o : Nat
  c2 : Nat
set_option linter.unusedVariables false
def MyV (W0 : World) (ob k j n c bs os cs : Nat) (A : Option Addr) (p : Pol) (ve : Ves) (st : Stp) (x : Bool) (s : MyS) : Nat → Value → Prop
  | 0, v => v = .agg #[.int .i64 ve.cls, .int .i64 ve.ton, .bool ve.esc]
  | 1, v => v = .pointer (some ⟨ob, 0, none⟩)
  | 2, v => v = .slice (some ⟨bs, os, none⟩) p.steps.length cs
  | 3, v => v = .agg #[.slice (some ⟨bs, os, none⟩) p.steps.length cs, .int .i64 p.hold, .int .i64 p.calm, .int .i64 p.notice, .int .i64 p.grace]
  | 4, v => v = .slice A n c
  | 5, v => v = .slice (some ⟨s.g, s.o, none⟩) n s.c2
  | 6, v => v = .int .i64 k
  | 7, v => v = .pointer (some ⟨s.g, s.o + k, none⟩)
  | 8, v => v = .int .i64 j
  | 9, v => v = .pointer (some ⟨bs, os + j * 4, none⟩)
  | 10, v => v = .agg #[.int .i64 st.cls, .int .i64 st.ton, .int .i64 st.up, .int .i64 st.dn]
  | 11, v => v = .bool x
  | 12, v => v = .bool x
  | 13, v => v = .int .i64 0
  | _, _ => True
def MyW (W0 : World) (ob k j n c bs os cs : Nat) (A : Option Addr) (p : Pol) (ve : Ves) (st : Stp) (x : Bool) (s : MyS) (l : Nat → Bool) (w : World) : Prop := Below W0.heap.size W0 w ∧ (l 5 = true → w.cell? ⟨s.g, s.o + k, none⟩ = some (.int .i64 j))
set_option maxRecDepth 100000 in
set_option maxHeartbeats 2000000 in
theorem rMay_any (As : Option Addr) (cs : Nat) (p : Pol) (A : Option Addr) (c : Nat) (days : List Int) (v : Ves) (day : Int) (w : World) (hp : PolV w As cs p) (hr : Rd w 1 A days.length (ints days)) (hm : days.length ≤ 9223372036854775807) :
    Calls Tryz.prog 40 #[.agg #[.slice As p.steps.length cs, .int .i64 p.hold, .int .i64 p.calm, .int .i64 p.notice, .int .i64 p.grace], .slice A days.length c, .agg #[.int .i64 v.cls, .int .i64 v.ton, .bool v.esc], .int .i64 day] w
      fun e w' => e = .returned (.tuple #[.bool (mayB p days v day), .int .i64 (mayE p days v day)]) ∧ Below w.heap.size w w' := by
  have rd0 := RD.new (A := A) (days := days) hp hr
  obtain ⟨W1, hW1⟩ : ∃ W, W = w.alloc (.cells #[.slice As p.steps.length cs, .int .i64 p.hold, .int .i64 p.calm, .int .i64 p.notice, .int .i64 p.grace] 65) := ⟨_, rfl⟩
  obtain ⟨ob, hob⟩ : ∃ ob, ob = w.heap.size := ⟨_, rfl⟩
  rw [← hW1, ← hob] at rd0
  obtain ⟨W, hW⟩ : ∃ W, W = W1.alloc (.cells #[.int .i64 v.cls, .int .i64 v.ton, .bool v.esc] 94) := ⟨_, rfl⟩
  obtain ⟨vb, hvb⟩ : ∃ vb, vb = W1.heap.size := ⟨_, rfl⟩
  have hvb2 : vb = ob + 1 := by rw [hvb, hW1, hob]; simp
  have hvh : W.heap[vb]? = some (.cells #[.int .i64 v.cls, .int .i64 v.ton, .bool v.esc] 94 (0, 0)) := by rw [hW, hvb]; exact heap_alloc_new _ _
  have rdW : RD w W ob As cs p A days := rd0.below (by rw [hW]; exact (Below.refl _ _).alloc (Nat.le_refl _) _)
  obtain ⟨er, her⟩ : ∃ er, er = askS p days v := ⟨_, rfl⟩
  have k1 := rasked_any As cs p A c days v W rdW.pol rdW.dys hm
  rw [← her] at k1
  obtain ⟨q0, q1, q2, q3, q4, zp⟩ := rdW.cells
  have v0 := (cell_of_heap hvh 0).trans rfl
  have v1 := (cell_of_heap hvh 1).trans rfl
  have v2 := (cell_of_heap hvh 2).trans rfl
  have HR := Lib.hid (And.intro rdW (And.intro k1 (And.intro her hvh)))
  clear hp hr rd0 rdW k1 her hvh hvb
  go_enter Tryz.func40, Tryz.ntmps40
  go_upto_region 1 with fail
  rw [← hW1, ← hob, ← hvb2, ← hW]
  clear hW hob hW1 hvb2
  go_wp2_with fail
  refine HR.out.2.1.mono ?_
  rintro e w1 ⟨rfl, b1⟩
  have rd1 := HR.out.1.below b1
  have hv1 := (b1.block _ (heap_lt HR.out.2.2.2)).trans HR.out.2.2.2
  clear q0 q1 q2 q3 q4 zp b1 v0 v1 v2
  have HB := Lib.hid (And.intro rd1 hv1)
  clear rd1 hv1
  by_cases h0 : er = 0
  · subst h0
    obtain ⟨dr, hdr⟩ : ∃ dr, dr = within day 0 ((days.length : Int) - 1) := ⟨_, rfl⟩
    have hin : ∀ wx, Calls Tryz.prog 72 #[.int .i64 day, .int .i64 0, .int .i64 ((days.length : Int) - 1)] wx fun e w' => e = .returned (.bool dr) ∧ wx = w' := fun wx => by rw [hdr]; exact rin_any day 0 _ wx
    have HD := Lib.hid (And.intro hdr hin)
    clear hdr hin
    cases dr
    · go_wp2_with (go_at_call 72; refine (HD.out.2 _).mono ?_; rintro e w2 ⟨rfl, rfl⟩)
      go_ret2
      have he : mayE p days v day = 6 := by rw [may_day HR.out.2.2.1.symm, ← HD.out.1]; rfl
      refine ⟨?_, HB.out.1.bel⟩
      rw [mayB, he]; rfl
    · have hlt : 0 ≤ day ∧ day < days.length := by have := HD.out.1; simp [within] at this; omega
      obtain ⟨k, rfl⟩ : ∃ k : Nat, day = k := ⟨day.toNat, by omega⟩
      have hlt' : k < days.length := by omega
      have hst : startS p days = 0 := by
        by_cases h : startS p days = 0
        · exact h
        · have := ask_start (v := v) h; rw [← HR.out.2.2.1] at this; exact absurd this.symm h
      have hvr : vright v = true := by
        have h5 := ask_right (v := v) hst
        rw [← HR.out.2.2.1] at h5
        cases hx : vright v
        · rw [hx] at h5; cases h5
        · rfl
      obtain ⟨hck, hl4, _⟩ := start_ok hst
      have hfs := force_step hck days k
      obtain ⟨j, hj⟩ := Int.eq_ofNat_of_zero_le hfs.1
      have hjl : j < p.steps.length := by have := hfs.2; omega
      have hjl' : (j : Int) < (p.steps.length : Int) := by omega
      obtain ⟨bs, os, rfl, hbs, p0, p1, p2, p3⟩ := HB.out.1.step hjl
      obtain ⟨st, hst2⟩ : ∃ st, st = stp p j := ⟨_, rfl⟩
      rw [← hst2] at p0 p1 p2 p3
      obtain ⟨q0, q1, q2, q3, q4, zp⟩ := HB.out.1.cells
      have v0 := (cell_of_heap HB.out.2 0).trans rfl
      have v1 := (cell_of_heap HB.out.2 1).trans rfl
      have v2 := (cell_of_heap HB.out.2 2).trans rfl
      have n1 : (0 : Int) ≤ (k : Int) := by omega
      have n3 : (0 : Int) ≤ (j : Int) := by omega
      have HI := Lib.hid (And.intro hck (And.intro hj (And.intro hst2 (And.intro hvr hl4))))
      clear hst hvr hck hl4 hfs hj hst2 hlt
      have zv := World.block_lt_of_cell? w1 _ v0
      have n5 : (k : Int) < (days.length : Int) := by omega
      go_upto_region 6 with (go_at_call 72; refine (HD.out.2 _).mono ?_; rintro e w2 ⟨rfl, rfl⟩)
      obtain ⟨x, hxb⟩ : ∃ x, x = fulfils v st := ⟨_, rfl⟩
      have HXB := Lib.hid hxb
      clear hxb
      refine wp_region_steps (σ := MyS) (by kernel_rfl) (by kernel_rfl) (fun sg jx vx _ => MyV w1 ob k j days.length c bs os cs A p v st x sg jx vx) (fun sg ly wx => MyW w1 ob k j days.length c bs os cs A p v st x sg ly wx) ⟨0, 0, 0⟩ ?_ ?_ ?_
      · exact ⟨(Below.refl _ _).drew, fun h => by simp at h⟩
      · simp only [AllFrom, Nat.zero_add, Nat.reduceAdd]
        refine ⟨?_, ?_, ?_, ?_, ?_, ?_, ?_, ?_, ?_, ?_, ?_, ?_, ?_, ?_, trivial⟩
        · refine step_pure fun sg ly a wr hl hd hW hF => ?_
          have et6 := hF.old 6 (by kernel_rfl)
          simp [Act.eval] at et6
          have k0 := (hW.1.cell (p := ⟨vb, 0, none⟩) zv).trans v0
          have k1 := (hW.1.cell (p := ⟨vb, 1, none⟩) zv).trans v1
          have k2 := (hW.1.cell (p := ⟨vb, 2, none⟩) zv).trans v2
          exact ⟨by simpa [MyW, upd] using hW, .agg #[.int .i64 v.cls, .int .i64 v.ton, .bool v.esc], by go_simp, rfl⟩
        · refine step_pure fun sg ly a wr hl hd hW hF => ?_
          have et4 := hF.old 4 (by kernel_rfl)
          simp [Act.eval] at et4
          exact ⟨by simpa [MyW, upd] using hW, .pointer (some ⟨ob, 0, none⟩), by go_simp, rfl⟩
        · refine step_pure fun sg ly a wr hl hd hW hF => ?_
          simp [Region.binds] at hd
          have et25 := hF.new 1 25 (by simp [hd]) rfl
          simp [MyV, Act.eval] at et25
          have k0 := (hW.1.cell (p := ⟨ob, 0, none⟩) zp).trans q0
          exact ⟨by simpa [MyW, upd] using hW, .slice (some ⟨bs, os, none⟩) p.steps.length cs, by go_simp, rfl⟩
        · refine step_pure fun sg ly a wr hl hd hW hF => ?_
          have et4 := hF.old 4 (by kernel_rfl)
          simp [Act.eval] at et4
          have k0 := (hW.1.cell (p := ⟨ob, 0, none⟩) zp).trans q0
          have k1 := (hW.1.cell (p := ⟨ob, 1, none⟩) zp).trans q1
          have k2 := (hW.1.cell (p := ⟨ob, 2, none⟩) zp).trans q2
          have k3 := (hW.1.cell (p := ⟨ob, 3, none⟩) zp).trans q3
          have k4 := (hW.1.cell (p := ⟨ob, 4, none⟩) zp).trans q4
          exact ⟨by simpa [MyW, upd] using hW, .agg #[.slice (some ⟨bs, os, none⟩) p.steps.length cs, .int .i64 p.hold, .int .i64 p.calm, .int .i64 p.notice, .int .i64 p.grace], by go_simp, rfl⟩
        · refine step_pure fun sg ly a wr hl hd hW hF => ?_
          have et1 := hF.old 1 (by kernel_rfl)
          simp [Act.eval] at et1
          exact ⟨by simpa [MyW, upd] using hW, .slice A days.length c, by go_simp, rfl⟩
        · refine step_call fun sg ly a wr hl hd hW hF => ?_
          simp [Region.binds] at hd
          have et27 := hF.new 3 27 (by simp [hd]) rfl
          simp [MyV, Act.eval] at et27
          have et28 := hF.new 4 28 (by simp [hd]) rfl
          simp [MyV, Act.eval] at et28
          have nz := hF.notYet 5 7 hl (by kernel_rfl)
          refine ⟨78, #[.agg #[.slice (some ⟨bs, os, none⟩) p.steps.length cs, .int .i64 p.hold, .int .i64 p.calm, .int .i64 p.notice, .int .i64 p.grace], .slice A days.length c], by go_simp, ?_⟩
          refine (rforce_any _ cs p A c days wr (HB.out.1.below hW.1).pol (HB.out.1.below hW.1).dys HI.out.1 HI.out.2.2.2.2).mono ?_
          rintro e w2 ⟨A2, c2, rfl, h1, h2, h3, h4⟩
          obtain ⟨g, o, rfl, hbg, hcg⟩ := h1.2 (by omega)
          have cg := hcg k _ (ints_get (by rw [forceS_length]; exact hlt'))
          rw [HI.out.2.1] at cg
          refine ⟨_, ⟨g, o, c2⟩, rfl, ⟨hW.1.trans (h4.mono hW.1.size), fun _ => cg⟩, rfl, ?_⟩
          intro i u hi h
          have i5 : i ≠ 5 := by rintro rfl; rw [hl] at hi; cases hi
          have i7 : i ≠ 7 := by rintro rfl; rw [nz] at hi; cases hi
          unfold MyV at h ⊢
          split at h <;> first | exact h | exact absurd rfl i5 | exact absurd rfl i7
        · refine step_pure fun sg ly a wr hl hd hW hF => ?_
          have et3 := hF.old 3 (by kernel_rfl)
          simp [Act.eval] at et3
          exact ⟨by simpa [MyW, upd] using hW, .int .i64 k, by go_simp, rfl⟩
        · refine step_pure fun sg ly a wr hl hd hW hF => ?_
          simp [Region.binds] at hd
          have et29 := hF.new 5 29 (by simp [hd]) rfl
          simp [MyV, Act.eval] at et29
          have et30 := hF.new 6 30 (by simp [hd]) rfl
          simp [MyV, Act.eval] at et30
          exact ⟨by simpa [MyW, upd] using hW, .pointer (some ⟨sg.g, sg.o + k, none⟩), by go_simp, rfl⟩
        · refine step_pure fun sg ly a wr hl hd hW hF => ?_
          simp [Region.binds] at hd
          have et31 := hF.new 7 31 (by simp [hd]) rfl
          simp [MyV, Act.eval] at et31
          have y5 := hF.before 5 7 (by simp [hd]) (by kernel_rfl)
          have cd := hW.2 y5
          exact ⟨by simpa [MyW, upd] using hW, .int .i64 j, by go_simp, rfl⟩
        · refine step_pure fun sg ly a wr hl hd hW hF => ?_
          simp [Region.binds] at hd
          have et26 := hF.new 2 26 (by simp [hd]) rfl
          simp [MyV, Act.eval] at et26
          have et32 := hF.new 8 32 (by simp [hd]) rfl
          simp [MyV, Act.eval] at et32
          exact ⟨by simpa [MyW, upd] using hW, .pointer (some ⟨bs, os + j * 4, none⟩), by go_simp, rfl⟩
        · refine step_pure fun sg ly a wr hl hd hW hF => ?_
          simp [Region.binds] at hd
          have et33 := hF.new 9 33 (by simp [hd]) rfl
          simp [MyV, Act.eval] at et33
          have k0 := (hW.1.cell (p := ⟨bs, os + j * 4, none⟩) hbs).trans p0
          have k1 := (hW.1.cell (p := ⟨bs, os + j * 4 + 1, none⟩) hbs).trans p1
          have k2 := (hW.1.cell (p := ⟨bs, os + j * 4 + 2, none⟩) hbs).trans p2
          have k3 := (hW.1.cell (p := ⟨bs, os + j * 4 + 3, none⟩) hbs).trans p3
          exact ⟨by simpa [MyW, upd] using hW, .agg #[.int .i64 st.cls, .int .i64 st.ton, .int .i64 st.up, .int .i64 st.dn], by go_simp, rfl⟩
        · refine step_call fun sg ly a wr hl hd hW hF => ?_
          simp [Region.binds] at hd
          have et24 := hF.new 0 24 (by simp [hd]) rfl
          simp [MyV, Act.eval] at et24
          have et34 := hF.new 10 34 (by simp [hd]) rfl
          simp [MyV, Act.eval] at et34
          refine ⟨87, #[.agg #[.int .i64 v.cls, .int .i64 v.ton, .bool v.esc], .agg #[.int .i64 st.cls, .int .i64 st.ton, .int .i64 st.up, .int .i64 st.dn]], by go_simp, ?_⟩
          refine (rfulfils_any v st wr (vright_cls HI.out.2.2.2.1)).mono ?_
          rintro e w2 ⟨rfl, h4⟩
          refine ⟨_, sg, rfl, ⟨hW.1.trans (h4.mono hW.1.size), fun h8 => (h4.cell (World.block_lt_of_cell? _ _ (hW.2 (by simpa [upd] using h8)))).trans (hW.2 (by simpa [upd] using h8))⟩, by rw [HXB.out]; rfl, fun _ _ _ h => h⟩
        · refine step_pure fun sg ly a wr hl hd hW hF => ?_
          simp [Region.binds] at hd
          have et35 := hF.new 11 35 (by simp [hd]) rfl
          simp [MyV, Act.eval] at et35
          exact ⟨by simpa [MyW, upd] using hW, .bool x, by go_simp, rfl⟩
        · refine step_pure fun sg ly a wr hl hd hW hF => ?_
          exact ⟨by simpa [MyW, upd] using hW, .int .i64 0, by go_simp, rfl⟩
      intro sg a w3 hW hF
      have e8 := hF.new 12 8 (by decide) rfl
      have e9 := hF.new 13 9 (by decide) rfl
      obtain ⟨f, hf, rfl⟩ := hF.lit
      rw [← hf] at e8 e9
      simp only [MyV] at e8 e9
      have B3 := hW.1
      clear hf hF hW
      simp only [List.filterMap, List.foldl, List.setIfInBounds_toArray, List.set_cons_succ, List.set_cons_zero, e8, e9]
      clear e8 e9
      go_wp2_with fail
      go_ret2
      have he : mayE p days v (k : Int) = 0 := by rw [may_day HR.out.2.2.1.symm, ← HD.out.1]; rfl
      refine ⟨?_, HB.out.1.bel.trans (B3.mono HB.out.1.bel.size)⟩
      rw [mayB, he, if_pos rfl, Int.toNat_natCast, passes_get p days v hlt', HI.out.2.1, Int.toNat_natCast, ← HI.out.2.2.1, ← HXB.out]; rfl
  · have hne : (er != 0) = true := by simp [h0]
    have HK := Lib.hid h0
    clear h0
    go_wp2_with fail
    go_ret2
    have he : mayE p days v day = er := by rw [may_ask (by rw [← HR.out.2.2.1]; exact HK.out), HR.out.2.2.1]
    refine ⟨?_, HB.out.1.bel⟩
    rw [mayB, he, if_neg HK.out]; rfl
end Go.Proofs.YtbgnkljjgfcngaaGreat
/- restrict.First -/
namespace Go.Proofs.YtbgnkljjgfcngaaGreat
open Go Go.RowKit Sp
set_option linter.unusedVariables false

/-- where she may first, from a day on -/
def firI (p : Pol) (days : List Int) (v : Ves) (day : Int) : Int := idxL true ((passesS p days v).drop day.toNat)
def firE (p : Pol) (days : List Int) (v : Ves) (day : Int) : Int := if mayE p days v day ≠ 0 then mayE p days v day else if firI p days v day < 0 then 4 else 0
def firN (p : Pol) (days : List Int) (v : Ves) (day : Int) : Int := if firE p days v day = 0 then day + firI p days v day else 0
theorem fir_may {p : Pol} {days : List Int} {v : Ves} {day : Int} (h : mayE p days v day ≠ 0) : firE p days v day = mayE p days v day ∧ firN p days v day = 0 := by
  have e : firE p days v day = mayE p days v day := by unfold firE; rw [if_pos h]
  exact ⟨e, by unfold firN; rw [e, if_neg h]⟩
theorem fir_none {p : Pol} {days : List Int} {v : Ves} {day : Int} (h : mayE p days v day = 0) (hi : firI p days v day < 0) : firE p days v day = 4 ∧ firN p days v day = 0 := by
  have e : firE p days v day = 4 := by unfold firE; rw [if_neg (fun f => f h), if_pos hi]
  exact ⟨e, by unfold firN; rw [e]; rfl⟩
theorem fir_some {p : Pol} {days : List Int} {v : Ves} {day : Int} (h : mayE p days v day = 0) (hi : 0 ≤ firI p days v day) : firE p days v day = 0 ∧ firN p days v day = day + firI p days v day := by
  have e : firE p days v day = 0 := by unfold firE; rw [if_neg (fun f => f h), if_neg (by omega)]
  exact ⟨e, by unfold firN; rw [e]; rfl⟩

set_option maxRecDepth 100000 in
set_option maxHeartbeats 1000000 in
theorem First_any (As : Option Addr) (cs : Nat) (p : Pol) (A : Option Addr) (c : Nat) (days : List Int) (v : Ves) (day : Int) (w : World) (hp : PolV w As cs p) (hr : Rd w 1 A days.length (ints days)) (hm : days.length ≤ 9223372036854775807) :
    Calls Tryz.prog 44 #[.agg #[.slice As p.steps.length cs, .int .i64 p.hold, .int .i64 p.calm, .int .i64 p.notice, .int .i64 p.grace], .slice A days.length c, .agg #[.int .i64 v.cls, .int .i64 v.ton, .bool v.esc], .int .i64 day] w
      fun e w' => e = .returned (.tuple #[.int .i64 (firN p days v day), .int .i64 (firE p days v day)]) ∧ Below w.heap.size w w' := by
  obtain ⟨er, her⟩ : ∃ er, er = askS p days v := ⟨_, rfl⟩
  obtain ⟨n, hn⟩ : ∃ n, n = if er = 0 then days.length else 0 := ⟨_, rfl⟩
  have b0 : ∀ o o', Below w.heap.size w ((w.alloc o).alloc o') := fun o o' => ((Below.refl _ _).alloc (Nat.le_refl _) _).alloc (by simp) _
  have hak : ∀ o o', Calls Tryz.prog 85 #[.agg #[.slice As p.steps.length cs, .int .i64 p.hold, .int .i64 p.calm, .int .i64 p.notice, .int .i64 p.grace], .slice A days.length c, .agg #[.int .i64 v.cls, .int .i64 v.ton, .bool v.esc]]
      ((w.alloc o).alloc o')
      fun e w1 => ∃ A1 c1, e = .returned (.tuple #[.slice A1 n c1, .int .i64 er]) ∧ (er = 0 → BoolsAt w1 A1 c1 (passesS p days v)) ∧ Below w.heap.size w w1 := by
    intro o o'
    refine (asked8_any As cs p A c days v _ ⟨hp.1, hp.2.1, hp.2.2.below (b0 _ _)⟩ (hr.below (b0 _ _)) hm).mono ?_
    rintro e w1 ⟨A1, c1, rfl, h1, h2⟩
    exact ⟨A1, c1, by rw [hn, her], fun h => h1 (her.symm.trans h), (b0 _ _).trans (h2.mono (by simp; omega))⟩
  have HP := Lib.hid (And.intro her (And.intro hn hak))
  clear her hn hak b0 hr
  by_cases h0 : er = 0
  · subst h0
    have hne : ((0 : Int) != 0) = false := rfl
    obtain rfl : n = days.length := HP.out.2.1
    obtain ⟨dr, hdr⟩ : ∃ dr, dr = within day 0 ((days.length : Int) - 1) := ⟨_, rfl⟩
    have hin : ∀ wx, Calls Tryz.prog 69 #[.int .i64 day, .int .i64 0, .int .i64 ((days.length : Int) - 1)] wx fun e w' => e = .returned (.bool dr) ∧ wx = w' := fun wx => by rw [hdr]; exact within_any day 0 _ wx
    have HD := Lib.hid (And.intro hdr hin)
    clear hdr hin
    cases dr
    · go_enter Tryz.func44, Tryz.ntmps44
      go_wp2_with fail
      refine (HP.out.2.2 _ _).mono ?_
      rintro e w1 ⟨A1, c1, rfl, h1, h2⟩
      have HB := Lib.hid (And.intro h1 h2)
      clear h1 h2
      go_wp2_with (go_at_call 69; refine (HD.out.2 _).mono ?_; rintro e w2 ⟨rfl, rfl⟩)
      go_ret2
      have he : mayE p days v day = 6 := by rw [may_day HP.out.1.symm, ← HD.out.1]; rfl
      have hf := fir_may (p := p) (days := days) (v := v) (day := day) (by rw [he]; decide)
      exact ⟨by rw [hf.1, hf.2, he]; rfl, HB.out.2⟩
    · have hlt : 0 ≤ day ∧ day < days.length := by have := HD.out.1; simp [within] at this; omega
      obtain ⟨k, rfl⟩ : ∃ k : Nat, day = k := ⟨day.toNat, by omega⟩
      have hlt' : k < days.length := by omega
      clear hlt
      go_enter Tryz.func44, Tryz.ntmps44
      go_wp2_with fail
      refine (HP.out.2.2 _ _).mono ?_
      rintro e w1 ⟨A1, c1, rfl, h1, h2⟩
      obtain ⟨hr1, hc1, hc2⟩ := h1 trivial
      rw [passesS_length] at hr1 hc1
      obtain ⟨b, off, rfl, hb, hc⟩ := hr1.2 (by omega)
      have hL : ((passesS p days v).drop k).length = days.length - k := by rw [List.length_drop, passesS_length]
      obtain ⟨f, hf⟩ : ∃ f, f = firI p days v k := ⟨_, rfl⟩
      have hix : ∀ cx, Calls Tryz.prog 71 #[.slice (some ⟨b, off + k, none⟩) (days.length - k) cx, .bool true] w1 fun e w' => e = .returned (.int .i64 f) ∧ w1 = w' := by
        intro cx
        have := indexB_any (some ⟨b, off + k, none⟩) cx ((passesS p days v).drop k) true w1 ?_ (by rw [hL]; omega)
        · rw [hL] at this
          rw [hf, firI, Int.toNat_natCast]; exact this
        · rw [hL]
          have := rd_sub (a := k) (m := days.length - k) hr1 (by omega) hb hc
          rw [bools, ← List.map_drop, ← List.map_take, List.take_of_length_le (by rw [hL]; omega)] at this
          exact this
      have hfr : -1 ≤ f ∧ f ≤ days.length - k := by
        have := idxL_range true ((passesS p days v).drop k)
        rw [hL] at this
        rw [hf, firI, Int.toNat_natCast]
        omega
      have HB := Lib.hid (And.intro h2 (And.intro hix hf))
      clear h1 h2 hc hr1 hix hf hL
      have n1 : (0 : Int) ≤ (k : Int) := by omega
      by_cases hf0 : f < 0
      · go_wp2_with (first | (go_at_call 69; refine (HD.out.2 _).mono ?_; rintro e w2 ⟨rfl, rfl⟩) | (go_at_call 71; refine (HB.out.2.1 _).mono ?_; rintro e w2 ⟨rfl, rfl⟩))
        go_ret2
        have he : mayE p days v (k : Int) = 0 := by rw [may_day HP.out.1.symm, ← HD.out.1]; rfl
        have hff := fir_none he (by rw [← HB.out.2.2]; exact hf0)
        exact ⟨by rw [hff.1, hff.2]; rfl, HB.out.1⟩
      · go_wp2_with (first | (go_at_call 69; refine (HD.out.2 _).mono ?_; rintro e w2 ⟨rfl, rfl⟩) | (go_at_call 71; refine (HB.out.2.1 _).mono ?_; rintro e w2 ⟨rfl, rfl⟩))
        go_ret2
        have he : mayE p days v (k : Int) = 0 := by rw [may_day HP.out.1.symm, ← HD.out.1]; rfl
        have hff := fir_some he (by rw [← HB.out.2.2]; omega)
        exact ⟨by rw [hff.1, hff.2, HB.out.2.2]; rfl, HB.out.1⟩
  · have hne : (er != 0) = true := by simp [h0]
    have HK := Lib.hid h0
    clear h0
    go_enter Tryz.func44, Tryz.ntmps44
    go_wp2_with fail
    refine (HP.out.2.2 _ _).mono ?_
    rintro e w1 ⟨A1, c1, rfl, h1, h2⟩
    have HB := Lib.hid h2
    clear h1 h2
    go_wp2_with fail
    go_ret2
    have he : mayE p days v day = er := by rw [may_ask (by rw [← HP.out.1]; exact HK.out), HP.out.1]
    have hf := fir_may (p := p) (days := days) (v := v) (day := day) (by rw [he]; exact HK.out)
    exact ⟨by rw [hf.1, hf.2, he]; rfl, HB.out⟩

end Go.Proofs.YtbgnkljjgfcngaaGreat
