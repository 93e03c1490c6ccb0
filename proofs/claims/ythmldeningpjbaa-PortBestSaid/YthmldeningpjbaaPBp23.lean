/- Ports that are being made: what lies where. -/
import Derived.Test.YthmldeningpjbaaPBp21
import Derived.Test.YthmldeningpjbaaPBp3
set_option linter.unusedVariables false
set_option linter.unusedSimpArgs false
namespace Go.Proofs.Ythmldeningpjbaa
open Go Go.RowKit Sp Pt
set_option linter.unusedVariables false

structure BrX where
  d : Int
  path : List Int
  A : Option Addr
  c : Nat
def BrX.b (x : BrX) : Brt := ⟨x.d, x.path⟩
def brx (b : BrX) : List Value := [.int .i64 b.d, .slice b.A b.path.length b.c]
abbrev brxs (l : List BrX) : List Value := l.flatMap brx
structure MdC where
  D : Nat
  rb : Nat
  pb : Nat
  ib : Nat
  lb : Nat
  tg : Int
structure MdS (K : MdC) (W0 : World) (chs : List Chn) (Ac : Option Addr) (cc : Nat) (fc : List Nat) (bs : List BrX) (Ab : Option Addr) (cb : Nat) (fb : List Nat) (w : World) : Prop where
  bel : Below K.D W0 w
  nx : NxS K.D w K.ib K.lb
  res : w.heap[K.rb]? = some (.cells #[.slice none 0 0, .slice none 0 0, .int .i64 0] 26 (0, 0))
  prt : w.heap[K.pb]? = some (.cells #[.slice Ac chs.length cc, .slice Ab bs.length cb, .int .i64 K.tg] 26 (0, 0))
  oc : OwnS w 144 3 Ac chs.length cc (chcs chs) fc
  ob : OwnS w 53 2 Ab bs.length cb (brxs bs) fb
  pth : ∀ x ∈ bs, ∃ g, x.A = some ⟨g, 0, none⟩ ∧ OwnS w 3 1 x.A x.path.length x.c (ints x.path) [g] ∧ K.D ≤ g ∧ g ∉ [K.rb, K.pb, K.ib, K.lb] ∧ g ∉ fc ∧ g ∉ fb
  sp : K.D ≤ K.rb ∧ K.D ≤ K.pb ∧ K.rb ≠ K.pb ∧ K.rb ≠ K.ib ∧ K.rb ≠ K.lb ∧ K.pb ≠ K.ib ∧ K.pb ≠ K.lb
  sc : ∀ g ∈ fc, K.D ≤ g ∧ g ∉ [K.rb, K.pb, K.ib, K.lb] ∧ g ∉ fb
  sb : ∀ g ∈ fb, K.D ≤ g ∧ g ∉ [K.rb, K.pb, K.ib, K.lb]
def Away (K : MdC) (fc : List Nat) (bs : List BrX) (fb : List Nat) (x : Nat) : Prop := K.D ≤ x ∧ x ∉ [K.rb, K.pb, K.ib, K.lb] ∧ x ∉ fc ∧ x ∉ fb ∧ ∀ y ∈ bs, y.A ≠ some ⟨x, 0, none⟩
section
variable {K : MdC} {W0 w w' : World} {chs : List Chn} {Ac : Option Addr} {cc : Nat} {fc : List Nat} {bs : List BrX} {Ab : Option Addr} {cb : Nat} {fb : List Nat}
theorem MdS.lo (h : MdS K W0 chs Ac cc fc bs Ab cb fb w) : K.D ≤ w.heap.size := by have := h.sp.1; have := heap_lt h.res; omega
theorem MdS.fresh (h : MdS K W0 chs Ac cc fc bs Ab cb fb w) {x : Nat} (hx : w.heap.size ≤ x) : Away K fc bs fb x := by
  have h1 := heap_lt h.res
  have h2 := heap_lt h.prt
  have h3 := h.nx.lt
  refine ⟨by omega, ?_, fun e => by have := h.oc.lt _ e; omega, fun e => by have := h.ob.lt _ e; omega, fun y hy e => ?_⟩
  · simp only [List.mem_cons, List.not_mem_nil, or_false]; omega
  · obtain ⟨g, e1, e2, _⟩ := h.pth y hy
    rw [e1] at e
    injection e with e
    injection e with e _ _
    have := e2.lt g (by simp)
    omega
theorem MdS.away (h : MdS K W0 chs Ac cc fc bs Ab cb fb w) {S : List Nat} (hk : Keep S w w') (hS : ∀ x ∈ S, Away K fc bs fb x) : MdS K W0 chs Ac cc fc bs Ab cb fb w' := by
  have n : ∀ {x : Nat}, x ∈ [K.rb, K.pb, K.ib, K.lb] → x ∉ S := fun {x} hx hm => (hS x hm).2.1 hx
  refine ⟨h.bel.trans (hk.below h.lo (fun x hx => (hS x hx).1)), h.nx.keep hk (fun x hx => ⟨(hS x hx).1, fun e => n (x := K.ib) (by simp) (e ▸ hx), fun e => n (x := K.lb) (by simp) (e ▸ hx)⟩), (hk.block _ (heap_lt h.res) (n (by simp))).trans h.res, (hk.block _ (heap_lt h.prt) (n (by simp))).trans h.prt,
    h.oc.keepS hk (fun g hg hm => (hS g hm).2.2.1 hg), h.ob.keepS hk (fun g hg hm => (hS g hm).2.2.2.1 hg), fun x hx => ?_, h.sp, h.sc, h.sb⟩
  obtain ⟨g, e1, e2, e3⟩ := h.pth x hx
  exact ⟨g, e1, e2.keepS hk (fun g' hg hm => by rw [List.mem_singleton.1 hg] at hm; exact (hS g hm).2.2.2.2 x hx e1), e3⟩
theorem MdS.below (h : MdS K W0 chs Ac cc fc bs Ab cb fb w) (hb : Below w.heap.size w w') : MdS K W0 chs Ac cc fc bs Ab cb fb w' := h.away (S := []) (Keep.of_below hb) (by simp)
theorem MdS.next (h : MdS K W0 chs Ac cc fc bs Ab cb fb w) (hn : NxS K.D w' K.ib K.lb) (hk : Keep [K.ib] w w') : MdS K W0 chs Ac cc fc bs Ab cb fb w' := by
  refine ⟨h.bel.trans (hk.below h.lo (fun x hx => by rw [List.mem_singleton.1 hx]; exact hn.lt.2.2.1)), hn, (hk.block _ (heap_lt h.res) (by simpa using h.sp.2.2.2.1)).trans h.res, (hk.block _ (heap_lt h.prt) (by simpa using h.sp.2.2.2.2.2.1)).trans h.prt,
    h.oc.keepS hk (fun g hg => fun hm => (h.sc g hg).2.1 (by rw [List.mem_singleton.1 hm]; simp)), h.ob.keepS hk (fun g hg hm => (h.sb g hg).2 (by rw [List.mem_singleton.1 hm]; simp)), fun x hx => ?_, h.sp, h.sc, h.sb⟩
  obtain ⟨g, e1, e2, e3, e4, e5⟩ := h.pth x hx
  exact ⟨g, e1, e2.keepS hk (fun g' hg hm => by rw [List.mem_singleton.1 hg] at hm; exact e4 (by rw [List.mem_singleton.1 hm]; simp)), e3, e4, e5⟩
theorem MdS.pushC (h : MdS K W0 chs Ac cc fc bs Ab cb fb w) {A : Option Addr} {c g : Nat} {x : Chn} (hk : Keep (K.ib :: K.pb :: fc) w w') (hn : NxS K.D w' K.ib K.lb) (ho : OwnS w' 144 3 A (chs.length + 1) c (chcs chs ++ chc x) [g]) (hg : g ∈ fc ∨ w.heap.size ≤ g)
    (hp : w'.heap[K.pb]? = some (.cells #[.slice A (chs.length + 1) c, .slice Ab bs.length cb, .int .i64 K.tg] 26 (0, 0))) : MdS K W0 (chs ++ [x]) A c [g] bs Ab cb fb w' := by
  have hS : ∀ y ∈ K.ib :: K.pb :: fc, K.D ≤ y := by
    intro y hy
    rcases List.mem_cons.1 hy with rfl | hy
    · exact h.nx.lt.2.2.1
    · rcases List.mem_cons.1 hy with rfl | hy
      · exact h.sp.2.1
      · exact (h.sc y hy).1
  have hgA : K.D ≤ g ∧ g ∉ [K.rb, K.pb, K.ib, K.lb] ∧ g ∉ fb ∧ ∀ y ∈ bs, y.A ≠ some ⟨g, 0, none⟩ := by
    rcases hg with e | e
    · refine ⟨(h.sc g e).1, (h.sc g e).2.1, (h.sc g e).2.2, fun y hy e2 => ?_⟩
      obtain ⟨g', e3, _, _, _, e4, _⟩ := h.pth y hy
      rw [e3] at e2
      injection e2 with e2
      injection e2 with e2 _ _
      exact e4 (e2 ▸ e)
    · obtain ⟨a1, a2, a3, a4, a5⟩ := h.fresh e
      exact ⟨a1, a2, a4, a5⟩
  refine ⟨h.bel.trans (hk.below h.lo hS), hn, (hk.block _ (heap_lt h.res) ?_).trans h.res, by rw [List.length_append]; exact hp, by rw [List.length_append, show chcs (chs ++ [x]) = chcs chs ++ chc x from flat_snoc _ _ _]; exact ho,
    h.ob.keepS hk (fun y hy hm => ?_), fun y hy => ?_, h.sp, fun y hy => ?_, h.sb⟩
  · simp only [List.mem_cons, not_or]
    exact ⟨h.sp.2.2.2.1, h.sp.2.2.1, fun e => (h.sc _ e).2.1 (by simp)⟩
  · rcases List.mem_cons.1 hm with rfl | hm
    · exact (h.sb _ hy).2 (by simp)
    · rcases List.mem_cons.1 hm with rfl | hm
      · exact (h.sb _ hy).2 (by simp)
      · exact (h.sc y hm).2.2 hy
  · obtain ⟨g', e1, e2, e3, e4, e5, e6⟩ := h.pth y hy
    refine ⟨g', e1, e2.keepS hk (fun z hz hm => ?_), e3, e4, ?_, e6⟩
    · rw [List.mem_singleton.1 hz] at hm
      rcases List.mem_cons.1 hm with e | hm
      · exact e4 (by rw [e]; simp)
      · rcases List.mem_cons.1 hm with e | hm
        · exact e4 (by rw [e]; simp)
        · exact e5 hm
    · simp only [List.mem_singleton]
      rintro rfl
      exact hgA.2.2.2 y hy e1
  · rw [List.mem_singleton.1 hy]
    exact ⟨hgA.1, hgA.2.1, hgA.2.2.1⟩
theorem MdS.pushB (h : MdS K W0 chs Ac cc fc bs Ab cb fb w) {A : Option Addr} {c g : Nat} {x : BrX} (hk : Keep (K.pb :: fb) w w') (ho : OwnS w' 53 2 A (bs.length + 1) c (brxs bs ++ brx x) [g]) (hg : g ∈ fb ∨ w.heap.size ≤ g)
    (hp : w'.heap[K.pb]? = some (.cells #[.slice Ac chs.length cc, .slice A (bs.length + 1) c, .int .i64 K.tg] 26 (0, 0)))
    (gp : Nat) (hx : x.A = some ⟨gp, 0, none⟩) (hxo : OwnS w 3 1 x.A x.path.length x.c (ints x.path) [gp]) (haw : Away K fc bs fb gp) : MdS K W0 chs Ac cc fc (bs ++ [x]) A c [g] w' := by
  have hS : ∀ y ∈ K.pb :: fb, K.D ≤ y := by
    intro y hy
    rcases List.mem_cons.1 hy with rfl | hy
    · exact h.sp.2.1
    · exact (h.sb y hy).1
  have hgp := hxo.lt gp (by simp)
  have hgA : K.D ≤ g ∧ g ∉ [K.rb, K.pb, K.ib, K.lb] ∧ g ∉ fc ∧ (∀ y ∈ bs, y.A ≠ some ⟨g, 0, none⟩) ∧ gp ≠ g := by
    rcases hg with e | e
    · refine ⟨(h.sb g e).1, (h.sb g e).2, fun e2 => (h.sc g e2).2.2 e, fun y hy e2 => ?_, fun e2 => haw.2.2.2.1 (e2 ▸ e)⟩
      obtain ⟨g', e3, _, _, _, _, e4⟩ := h.pth y hy
      rw [e3] at e2
      injection e2 with e2
      injection e2 with e2 _ _
      exact e4 (e2 ▸ e)
    · obtain ⟨a1, a2, a3, a4, a5⟩ := h.fresh e
      exact ⟨a1, a2, a3, a5, by omega⟩
  have hkp : ∀ {z : Nat}, z ∉ [K.rb, K.pb, K.ib, K.lb] → z ∉ fb → z ∉ K.pb :: fb := fun {z} h1 h2 hm => by
    rcases List.mem_cons.1 hm with rfl | hm
    · exact h1 (by simp)
    · exact h2 hm
  have nb : ∀ z, z ∈ [K.ib, K.lb] → z ∉ K.pb :: fb := fun z hz hm => by
    rcases List.mem_cons.1 hm with rfl | hm
    · have := h.sp; simp at hz; omega
    · exact (h.sb z hm).2 (by simp at hz ⊢; rcases hz with e | e <;> simp [e])
  refine ⟨h.bel.trans (hk.below h.lo hS), h.nx.keep hk (fun z hz => ⟨hS z hz, fun e => nb K.ib (by simp) (e ▸ hz), fun e => nb K.lb (by simp) (e ▸ hz)⟩), (hk.block _ (heap_lt h.res) ?_).trans h.res, by rw [List.length_append]; exact hp,
    h.oc.keepS hk (fun z hz => hkp (h.sc z hz).2.1 (h.sc z hz).2.2), by rw [List.length_append, show brxs (bs ++ [x]) = brxs bs ++ brx x from flat_snoc _ _ _]; exact ho, fun y hy => ?_, h.sp, fun z hz => ⟨(h.sc z hz).1, (h.sc z hz).2.1, fun e => ?_⟩, fun z hz => ?_⟩
  · intro hm
    rcases List.mem_cons.1 hm with e | hm
    · exact h.sp.2.2.1 e
    · exact (h.sb _ hm).2 (by simp)
  · rcases List.mem_append.1 hy with hy | hy
    · obtain ⟨g', e1, e2, e3, e4, e5, e6⟩ := h.pth y hy
      refine ⟨g', e1, e2.keepS hk (fun z hz => by rw [List.mem_singleton.1 hz]; exact hkp e4 e6), e3, e4, e5, ?_⟩
      simp only [List.mem_singleton]
      rintro rfl
      exact hgA.2.2.2.1 y hy e1
    · rw [List.mem_singleton.1 hy]
      exact ⟨gp, hx, hxo.keepS hk (fun z hz => by rw [List.mem_singleton.1 hz]; exact hkp haw.2.1 haw.2.2.2.1), haw.1, haw.2.1, haw.2.2.1, by simpa using hgA.2.2.2.2⟩
  · rw [List.mem_singleton.1 e] at hz; exact hgA.2.2.1 hz
  · rw [List.mem_singleton.1 hz]; exact ⟨hgA.1, hgA.2.1⟩
theorem brxs_get {l : List BrX} {k : Nat} (hk : k < l.length) : (brxs l)[k*2]? = some (.int .i64 l[k].d) ∧ (brxs l)[k*2+1]? = some (.slice l[k].A l[k].path.length l[k].c) :=
  ⟨flat_get (f := brx) (s := 2) (fun _ => rfl) hk (j := 0) (by decide), flat_get (f := brx) (s := 2) (fun _ => rfl) hk (j := 1) (by decide)⟩
theorem MdS.prtB (h : MdS K W0 chs Ac cc fc bs Ab cb fb w) (hk : Keep [K.rb] w w') : PrtB w'.heap.size w' Ac cc Ab cb ⟨chs, bs.map BrX.b, K.tg⟩ := by
  have nil : ∀ {e : TypeId} {s n c : Nat} {A : Option Addr} {xs : List Value} {q : List Nat}, OwnS w' e s A n c xs q → A = none → c = 0 := fun {e s n c A xs q} ho hA => by
    rcases ho.2 with ⟨_, _, h3, _⟩ | ⟨g, cur, e1, _⟩
    · exact h3
    · rw [hA] at e1; cases e1
  have hoc := h.oc.keepS hk (fun g hg hm => (h.sc g hg).2.1 (by rw [List.mem_singleton.1 hm]; simp))
  have hob := h.ob.keepS hk (fun g hg hm => (h.sb g hg).2 (by rw [List.mem_singleton.1 hm]; simp))
  refine ⟨RdB.of hoc.rd (Nat.le_refl _), ?_, ⟨hoc.ge, hoc.cap, nil hoc⟩, by rw [List.length_map]; exact ⟨hob.ge, hob.cap, nil hob⟩⟩
  intro k hk'
  simp only [List.length_map] at hk'
  obtain ⟨b, off, e, hb, hc⟩ := hob.rd.2 (by omega)
  obtain ⟨g1, g2⟩ := brxs_get hk'
  obtain ⟨g, e1, e2, _, e3, _⟩ := h.pth bs[k] (List.getElem_mem _)
  have e2 := e2.keepS hk (fun z hz hm => by rw [List.mem_singleton.1 hz] at hm; exact e3 (by rw [List.mem_singleton.1 hm]; simp))
  refine ⟨b, off, bs[k].A, bs[k].c, e, hb, ?_, ?_, ?_⟩
  · rw [hc _ _ g1]; simp [BrX.b]
  · rw [Nat.add_assoc, hc _ _ g2]; simp [BrX.b]
  · simp only [List.getElem_map, BrX.b]
    exact ⟨RdB.of e2.rd (Nat.le_refl _), e2.ge, e2.cap, nil e2⟩
end
end Go.Proofs.Ythmldeningpjbaa
