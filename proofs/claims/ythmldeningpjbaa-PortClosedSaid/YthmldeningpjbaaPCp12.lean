/- Ports that are being made: what lies where. -/
import Derived.Test.YthmldeningpjbaaPCp11
import Derived.Test.YthmldeningpjbaaPCp2
import Derived.Test.YthmldeningpjbaaProg
set_option linter.unusedVariables false
set_option linter.unusedSimpArgs false
namespace Go.Proofs.Ythmldeningpjbaa
open Go Go.RowKit Sp Pt
set_option linter.unusedVariables false

structure BrX where
  d : Int
  path : List Int
  A : Option Addr
  c : Nat
def BrX.b (x : BrX) : Brt := ⟨x.d, x.path⟩
def brx (b : BrX) : List Value := [.int .i64 b.d, .slice b.A b.path.length b.c]
abbrev brxs (l : List BrX) : List Value := l.flatMap brx
structure MdC where
  D : Nat
  rb : Nat
  pb : Nat
  ib : Nat
  lb : Nat
  tg : Int
structure MdS (K : MdC) (W0 : World) (chs : List Chn) (Ac : Option Addr) (cc : Nat) (fc : List Nat) (bs : List BrX) (Ab : Option Addr) (cb : Nat) (fb : List Nat) (w : World) : Prop where
  bel : Below K.D W0 w
  nx : NxS K.D w K.ib K.lb
  res : w.heap[K.rb]? = some (.cells #[.slice none 0 0, .slice none 0 0, .int .i64 0] 26 (0, 0))
  prt : w.heap[K.pb]? = some (.cells #[.slice Ac chs.length cc, .slice Ab bs.length cb, .int .i64 K.tg] 26 (0, 0))
  oc : OwnS w 144 3 Ac chs.length cc (chcs chs) fc
  ob : OwnS w 53 2 Ab bs.length cb (brxs bs) fb
  pth : ∀ x ∈ bs, ∃ g, x.A = some ⟨g, 0, none⟩ ∧ OwnS w 3 1 x.A x.path.length x.c (ints x.path) [g] ∧ K.D ≤ g ∧ g ∉ [K.rb, K.pb, K.ib, K.lb] ∧ g ∉ fc ∧ g ∉ fb
  sp : K.D ≤ K.rb ∧ K.D ≤ K.pb ∧ K.rb ≠ K.pb ∧ K.rb ≠ K.ib ∧ K.rb ≠ K.lb ∧ K.pb ≠ K.ib ∧ K.pb ≠ K.lb
  sc : ∀ g ∈ fc, K.D ≤ g ∧ g ∉ [K.rb, K.pb, K.ib, K.lb] ∧ g ∉ fb
  sb : ∀ g ∈ fb, K.D ≤ g ∧ g ∉ [K.rb, K.pb, K.ib, K.lb]
def Away (K : MdC) (fc : List Nat) (bs : List BrX) (fb : List Nat) (x : Nat) : Prop := K.D ≤ x ∧ x ∉ [K.rb, K.pb, K.ib, K.lb] ∧ x ∉ fc ∧ x ∉ fb ∧ ∀ y ∈ bs, y.A ≠ some ⟨x, 0, none⟩
section
variable {K : MdC} {W0 w w' : World} {chs : List Chn} {Ac : Option Addr} {cc : Nat} {fc : List Nat} {bs : List BrX} {Ab : Option Addr} {cb : Nat} {fb : List Nat}
theorem MdS.lo (h : MdS K W0 chs Ac cc fc bs Ab cb fb w) : K.D ≤ w.heap.size := by have := h.sp.1; have := heap_lt h.res; omega
theorem MdS.fresh (h : MdS K W0 chs Ac cc fc bs Ab cb fb w) {x : Nat} (hx : w.heap.size ≤ x) : Away K fc bs fb x := by
  have h1 := heap_lt h.res
  have h2 := heap_lt h.prt
  have h3 := h.nx.lt
  refine ⟨by omega, ?_, fun e => by have := h.oc.lt _ e; omega, fun e => by have := h.ob.lt _ e; omega, fun y hy e => ?_⟩
  · simp only [List.mem_cons, List.not_mem_nil, or_false]; omega
  · obtain ⟨g, e1, e2, _⟩ := h.pth y hy
    rw [e1] at e
    injection e with e
    injection e with e _ _
    have := e2.lt g (by simp)
    omega
theorem MdS.away (h : MdS K W0 chs Ac cc fc bs Ab cb fb w) {S : List Nat} (hk : Keep S w w') (hS : ∀ x ∈ S, Away K fc bs fb x) : MdS K W0 chs Ac cc fc bs Ab cb fb w' := by
  have n : ∀ {x : Nat}, x ∈ [K.rb, K.pb, K.ib, K.lb] → x ∉ S := fun {x} hx hm => (hS x hm).2.1 hx
  refine ⟨h.bel.trans (hk.below h.lo (fun x hx => (hS x hx).1)), h.nx.keep hk (fun x hx => ⟨(hS x hx).1, fun e => n (x := K.ib) (by simp) (e ▸ hx), fun e => n (x := K.lb) (by simp) (e ▸ hx)⟩), (hk.block _ (heap_lt h.res) (n (by simp))).trans h.res, (hk.block _ (heap_lt h.prt) (n (by simp))).trans h.prt,
    h.oc.keepS hk (fun g hg hm => (hS g hm).2.2.1 hg), h.ob.keepS hk (fun g hg hm => (hS g hm).2.2.2.1 hg), fun x hx => ?_, h.sp, h.sc, h.sb⟩
  obtain ⟨g, e1, e2, e3⟩ := h.pth x hx
  exact ⟨g, e1, e2.keepS hk (fun g' hg hm => by rw [List.mem_singleton.1 hg] at hm; exact (hS g hm).2.2.2.2 x hx e1), e3⟩
theorem MdS.below (h : MdS K W0 chs Ac cc fc bs Ab cb fb w) (hb : Below w.heap.size w w') : MdS K W0 chs Ac cc fc bs Ab cb fb w' := h.away (S := []) (Keep.of_below hb) (by simp)
theorem MdS.next (h : MdS K W0 chs Ac cc fc bs Ab cb fb w) (hn : NxS K.D w' K.ib K.lb) (hk : Keep [K.ib] w w') : MdS K W0 chs Ac cc fc bs Ab cb fb w' := by
  refine ⟨h.bel.trans (hk.below h.lo (fun x hx => by rw [List.mem_singleton.1 hx]; exact hn.lt.2.2.1)), hn, (hk.block _ (heap_lt h.res) (by simpa using h.sp.2.2.2.1)).trans h.res, (hk.block _ (heap_lt h.prt) (by simpa using h.sp.2.2.2.2.2.1)).trans h.prt,
    h.oc.keepS hk (fun g hg => fun hm => (h.sc g hg).2.1 (by rw [List.mem_singleton.1 hm]; simp)), h.ob.keepS hk (fun g hg hm => (h.sb g hg).2 (by rw [List.mem_singleton.1 hm]; simp)), fun x hx => ?_, h.sp, h.sc, h.sb⟩
  obtain ⟨g, e1, e2, e3, e4, e5⟩ := h.pth x hx
  exact ⟨g, e1, e2.keepS hk (fun g' hg hm => by rw [List.mem_singleton.1 hg] at hm; exact e4 (by rw [List.mem_singleton.1 hm]; simp)), e3, e4, e5⟩
theorem MdS.pushC (h : MdS K W0 chs Ac cc fc bs Ab cb fb w) {A : Option Addr} {c g : Nat} {x : Chn} (hk : Keep (K.ib :: K.pb :: fc) w w') (hn : NxS K.D w' K.ib K.lb) (ho : OwnS w' 144 3 A (chs.length + 1) c (chcs chs ++ chc x) [g]) (hg : g ∈ fc ∨ w.heap.size ≤ g)
    (hp : w'.heap[K.pb]? = some (.cells #[.slice A (chs.length + 1) c, .slice Ab bs.length cb, .int .i64 K.tg] 26 (0, 0))) : MdS K W0 (chs ++ [x]) A c [g] bs Ab cb fb w' := by
  have hS : ∀ y ∈ K.ib :: K.pb :: fc, K.D ≤ y := by
    intro y hy
    rcases List.mem_cons.1 hy with rfl | hy
    · exact h.nx.lt.2.2.1
    · rcases List.mem_cons.1 hy with rfl | hy
      · exact h.sp.2.1
      · exact (h.sc y hy).1
  have hgA : K.D ≤ g ∧ g ∉ [K.rb, K.pb, K.ib, K.lb] ∧ g ∉ fb ∧ ∀ y ∈ bs, y.A ≠ some ⟨g, 0, none⟩ := by
    rcases hg with e | e
    · refine ⟨(h.sc g e).1, (h.sc g e).2.1, (h.sc g e).2.2, fun y hy e2 => ?_⟩
      obtain ⟨g', e3, _, _, _, e4, _⟩ := h.pth y hy
      rw [e3] at e2
      injection e2 with e2
      injection e2 with e2 _ _
      exact e4 (e2 ▸ e)
    · obtain ⟨a1, a2, a3, a4, a5⟩ := h.fresh e
      exact ⟨a1, a2, a4, a5⟩
  refine ⟨h.bel.trans (hk.below h.lo hS), hn, (hk.block _ (heap_lt h.res) ?_).trans h.res, by rw [List.length_append]; exact hp, by rw [List.length_append, show chcs (chs ++ [x]) = chcs chs ++ chc x from flat_snoc _ _ _]; exact ho,
    h.ob.keepS hk (fun y hy hm => ?_), fun y hy => ?_, h.sp, fun y hy => ?_, h.sb⟩
  · simp only [List.mem_cons, not_or]
    exact ⟨h.sp.2.2.2.1, h.sp.2.2.1, fun e => (h.sc _ e).2.1 (by simp)⟩
  · rcases List.mem_cons.1 hm with rfl | hm
    · exact (h.sb _ hy).2 (by simp)
    · rcases List.mem_cons.1 hm with rfl | hm
      · exact (h.sb _ hy).2 (by simp)
      · exact (h.sc y hm).2.2 hy
  · obtain ⟨g', e1, e2, e3, e4, e5, e6⟩ := h.pth y hy
    refine ⟨g', e1, e2.keepS hk (fun z hz hm => ?_), e3, e4, ?_, e6⟩
    · rw [List.mem_singleton.1 hz] at hm
      rcases List.mem_cons.1 hm with e | hm
      · exact e4 (by rw [e]; simp)
      · rcases List.mem_cons.1 hm with e | hm
        · exact e4 (by rw [e]; simp)
        · exact e5 hm
    · simp only [List.mem_singleton]
      rintro rfl
      exact hgA.2.2.2 y hy e1
  · rw [List.mem_singleton.1 hy]
    exact ⟨hgA.1, hgA.2.1, hgA.2.2.1⟩
theorem MdS.pushB (h : MdS K W0 chs Ac cc fc bs Ab cb fb w) {A : Option Addr} {c g : Nat} {x : BrX} (hk : Keep (K.pb :: fb) w w') (ho : OwnS w' 53 2 A (bs.length + 1) c (brxs bs ++ brx x) [g]) (hg : g ∈ fb ∨ w.heap.size ≤ g)
    (hp : w'.heap[K.pb]? = some (.cells #[.slice Ac chs.length cc, .slice A (bs.length + 1) c, .int .i64 K.tg] 26 (0, 0)))
    (gp : Nat) (hx : x.A = some ⟨gp, 0, none⟩) (hxo : OwnS w 3 1 x.A x.path.length x.c (ints x.path) [gp]) (haw : Away K fc bs fb gp) : MdS K W0 chs Ac cc fc (bs ++ [x]) A c [g] w' := by
  have hS : ∀ y ∈ K.pb :: fb, K.D ≤ y := by
    intro y hy
    rcases List.mem_cons.1 hy with rfl | hy
    · exact h.sp.2.1
    · exact (h.sb y hy).1
  have hgp := hxo.lt gp (by simp)
  have hgA : K.D ≤ g ∧ g ∉ [K.rb, K.pb, K.ib, K.lb] ∧ g ∉ fc ∧ (∀ y ∈ bs, y.A ≠ some ⟨g, 0, none⟩) ∧ gp ≠ g := by
    rcases hg with e | e
    · refine ⟨(h.sb g e).1, (h.sb g e).2, fun e2 => (h.sc g e2).2.2 e, fun y hy e2 => ?_, fun e2 => haw.2.2.2.1 (e2 ▸ e)⟩
      obtain ⟨g', e3, _, _, _, _, e4⟩ := h.pth y hy
      rw [e3] at e2
      injection e2 with e2
      injection e2 with e2 _ _
      exact e4 (e2 ▸ e)
    · obtain ⟨a1, a2, a3, a4, a5⟩ := h.fresh e
      exact ⟨a1, a2, a3, a5, by omega⟩
  have hkp : ∀ {z : Nat}, z ∉ [K.rb, K.pb, K.ib, K.lb] → z ∉ fb → z ∉ K.pb :: fb := fun {z} h1 h2 hm => by
    rcases List.mem_cons.1 hm with rfl | hm
    · exact h1 (by simp)
    · exact h2 hm
  have nb : ∀ z, z ∈ [K.ib, K.lb] → z ∉ K.pb :: fb := fun z hz hm => by
    rcases List.mem_cons.1 hm with rfl | hm
    · have := h.sp; simp at hz; omega
    · exact (h.sb z hm).2 (by simp at hz ⊢; rcases hz with e | e <;> simp [e])
  refine ⟨h.bel.trans (hk.below h.lo hS), h.nx.keep hk (fun z hz => ⟨hS z hz, fun e => nb K.ib (by simp) (e ▸ hz), fun e => nb K.lb (by simp) (e ▸ hz)⟩), (hk.block _ (heap_lt h.res) ?_).trans h.res, by rw [List.length_append]; exact hp,
    h.oc.keepS hk (fun z hz => hkp (h.sc z hz).2.1 (h.sc z hz).2.2), by rw [List.length_append, show brxs (bs ++ [x]) = brxs bs ++ brx x from flat_snoc _ _ _]; exact ho, fun y hy => ?_, h.sp, fun z hz => ⟨(h.sc z hz).1, (h.sc z hz).2.1, fun e => ?_⟩, fun z hz => ?_⟩
  · intro hm
    rcases List.mem_cons.1 hm with e | hm
    · exact h.sp.2.2.1 e
    · exact (h.sb _ hm).2 (by simp)
  · rcases List.mem_append.1 hy with hy | hy
    · obtain ⟨g', e1, e2, e3, e4, e5, e6⟩ := h.pth y hy
      refine ⟨g', e1, e2.keepS hk (fun z hz => by rw [List.mem_singleton.1 hz]; exact hkp e4 e6), e3, e4, e5, ?_⟩
      simp only [List.mem_singleton]
      rintro rfl
      exact hgA.2.2.2.1 y hy e1
    · rw [List.mem_singleton.1 hy]
      exact ⟨gp, hx, hxo.keepS hk (fun z hz => by rw [List.mem_singleton.1 hz]; exact hkp haw.2.1 haw.2.2.2.1), haw.1, haw.2.1, haw.2.2.1, by simpa using hgA.2.2.2.2⟩
  · rw [List.mem_singleton.1 e] at hz; exact hgA.2.2.1 hz
  · rw [List.mem_singleton.1 hz]; exact ⟨hgA.1, hgA.2.1⟩
theorem brxs_get {l : List BrX} {k : Nat} (hk : k < l.length) : (brxs l)[k*2]? = some (.int .i64 l[k].d) ∧ (brxs l)[k*2+1]? = some (.slice l[k].A l[k].path.length l[k].c) :=
  ⟨flat_get (f := brx) (s := 2) (fun _ => rfl) hk (j := 0) (by decide), flat_get (f := brx) (s := 2) (fun _ => rfl) hk (j := 1) (by decide)⟩
theorem MdS.prtB (h : MdS K W0 chs Ac cc fc bs Ab cb fb w) (hk : Keep [K.rb] w w') : PrtB w'.heap.size w' Ac cc Ab cb ⟨chs, bs.map BrX.b, K.tg⟩ := by
  have nil : ∀ {e : TypeId} {s n c : Nat} {A : Option Addr} {xs : List Value} {q : List Nat}, OwnS w' e s A n c xs q → A = none → c = 0 := fun {e s n c A xs q} ho hA => by
    rcases ho.2 with ⟨_, _, h3, _⟩ | ⟨g, cur, e1, _⟩
    · exact h3
    · rw [hA] at e1; cases e1
  have hoc := h.oc.keepS hk (fun g hg hm => (h.sc g hg).2.1 (by rw [List.mem_singleton.1 hm]; simp))
  have hob := h.ob.keepS hk (fun g hg hm => (h.sb g hg).2 (by rw [List.mem_singleton.1 hm]; simp))
  refine ⟨RdB.of hoc.rd (Nat.le_refl _), ?_, ⟨hoc.ge, hoc.cap, nil hoc⟩, by rw [List.length_map]; exact ⟨hob.ge, hob.cap, nil hob⟩⟩
  intro k hk'
  simp only [List.length_map] at hk'
  obtain ⟨b, off, e, hb, hc⟩ := hob.rd.2 (by omega)
  obtain ⟨g1, g2⟩ := brxs_get hk'
  obtain ⟨g, e1, e2, _, e3, _⟩ := h.pth bs[k] (List.getElem_mem _)
  have e2 := e2.keepS hk (fun z hz hm => by rw [List.mem_singleton.1 hz] at hm; exact e3 (by rw [List.mem_singleton.1 hm]; simp))
  refine ⟨b, off, bs[k].A, bs[k].c, e, hb, ?_, ?_, ?_⟩
  · rw [hc _ _ g1]; simp [BrX.b]
  · rw [Nat.add_assoc, hc _ _ g2]; simp [BrX.b]
  · simp only [List.getElem_map, BrX.b]
    exact ⟨RdB.of e2.rd (Nat.le_refl _), e2.ge, e2.cap, nil e2⟩
end
end Go.Proofs.Ythmldeningpjbaa
/- The leaves of layer 9: within, maps. -/
namespace Go.Proofs.Ythmldeningpjbaa
open Go Go.RowKit Sp Pt

theorem ptWithin_any (n lo hi : Int) (w : World) :
    Calls Try.prog 80 #[.int .i64 n, .int .i64 lo, .int .i64 hi] w fun e w' => e = .returned (.bool (within n lo hi)) ∧ w = w' := by
  go_enter Try.func80, Try.ntmps80
  go_wp2
  all_goals (go_ret; refine ⟨?_, rfl⟩; simp [within]; try omega)

abbrev mpV (m : Mp) : Value := .agg #[.int .i64 m.add, .int .i64 m.floor, .int .i64 m.most]

theorem mpRight_any (m : Mp) (w : World) :
    Calls Try.prog 78 #[mpV m] w fun e w' => e = .returned (.bool (mright m)) ∧ Below w.heap.size w w' := by
  go_enter Try.func78, Try.ntmps78
  go_wp2_with (go_at_call 80; refine (ptWithin_any _ _ _ _).mono ?_; rintro e w' ⟨rfl, rfl⟩)
  all_goals (go_ret; refine ⟨?_, (Below.refl _ _).alloc (Nat.le_refl _) _⟩; simp_all [mright]; try (by_cases h : m.most = 1000000000 <;> simp [h]))

theorem nothing_any (v : Value) (w : World) : Calls Try.prog 74 #[v] w fun e w' => e = .returned (.tuple #[]) ∧ w = w' := by
  go_enter Try.func74, Try.ntmps74
  go_wp2
  go_end0
  exact ⟨rfl, rfl⟩

theorem Apply_any (m : Mp) (b : Int) (w : World) :
    Calls Try.prog 26 #[mpV m, .int .i64 b] w fun e w' => e = .returned (.tuple #[.int .i64 (applyN m b), .int .i64 (applyE m b)]) ∧ Below w.heap.size w w' := by
  obtain ⟨r, hr⟩ : ∃ r, r = mright m := ⟨_, rfl⟩
  obtain ⟨i, hi⟩ : ∃ i, i = within b 0 100000000 := ⟨_, rfl⟩
  have hm : ∀ wx, Calls Try.prog 78 #[mpV m] wx fun e w' => e = .returned (.bool r) ∧ Below wx.heap.size wx w' := fun wx => by rw [hr]; exact mpRight_any m wx
  have hw : ∀ wx, Calls Try.prog 80 #[.int .i64 b, .int .i64 0, .int .i64 100000000] wx fun e w' => e = .returned (.bool i) ∧ wx = w' := fun wx => by rw [hi]; exact ptWithin_any b 0 _ wx
  have h1 : r = true → -100000000 ≤ m.add ∧ m.add ≤ 100000000 := by intro h; have := mright_iff.1 (hr.symm.trans h); simp only [BIG] at this; omega
  have h2 : i = true → 0 ≤ b ∧ b ≤ 100000000 := by intro h; rw [hi] at h; simpa [within] using h
  have HR := Lib.hid (And.intro hr hi)
  clear hr hi
  cases r
  · go_enter Try.func26, Try.ntmps26
    go_wp2_with (go_at_call 78; refine (hm _).mono ?_; rintro e w' ⟨rfl, hb⟩)
    go_ret2
    have e1 : applyE m b = 1 := by unfold applyE; rw [← HR.out.1, if_pos rfl]
    exact ⟨by rw [applyN, e1]; rfl, ((Below.refl _ _).alloc (Nat.le_refl _) _).trans (hb.mono (by simp))⟩
  · obtain ⟨a1, a2⟩ := h1 rfl
    cases i
    · go_enter Try.func26, Try.ntmps26
      go_wp2_with (first | (go_at_call 78; refine (hm _).mono ?_; rintro e w' ⟨rfl, hb⟩) | (go_at_call 80; refine (hw _).mono ?_; rintro e w' ⟨rfl, rfl⟩))
      go_ret2
      have e1 : applyE m b = 6 := by unfold applyE; rw [← HR.out.1, if_neg (by decide), if_pos HR.out.2.symm]
      exact ⟨by rw [applyN, e1]; rfl, ((Below.refl _ _).alloc (Nat.le_refl _) _).trans (hb.mono (by simp))⟩
    · obtain ⟨b1, b2⟩ := h2 rfl
      go_enter Try.func26, Try.ntmps26
      go_wp2_with (first | (go_at_call 78; refine (hm _).mono ?_; rintro e w' ⟨rfl, hb⟩; have f2 : w'.cell? ⟨w.heap.size, 2, none⟩ = some (.int .i64 m.most) := (hb.cell (p := ⟨w.heap.size, 2, none⟩) (by simp)).trans (by simp [World.cell?_alloc_new]); have f1 : w'.cell? ⟨w.heap.size, 1, none⟩ = some (.int .i64 m.floor) := (hb.cell (p := ⟨w.heap.size, 1, none⟩) (by simp)).trans (by simp [World.cell?_alloc_new]); have f0 : w'.cell? ⟨w.heap.size, 0, none⟩ = some (.int .i64 m.add) := (hb.cell (p := ⟨w.heap.size, 0, none⟩) (by simp)).trans (by simp [World.cell?_alloc_new])) | (go_at_call 80; refine (hw _).mono ?_; rintro e w' ⟨rfl, rfl⟩))
      all_goals
        go_ret2
        have e1 : applyE m b = if m.most < b then 8 else 0 := by unfold applyE; rw [← HR.out.1, if_neg (by decide), if_neg (by rw [← HR.out.2]; decide)]
        refine ⟨?_, ((Below.refl _ _).alloc (Nat.le_refl _) _).trans (hb.mono (by simp))⟩
        rw [applyN, e1]
        first | (simp [*]; done) | (simp [*]; omega)
end Go.Proofs.Ythmldeningpjbaa
/- slices.ContainsFunc with closures that only read (printed by wip/tools/anyf.py) -/
namespace Go.Proofs.Ythmldeningpjbaa
open Go Go.RowKit Sp Pt
set_option linter.unusedVariables false

set_option maxHeartbeats 1000000 in
theorem idxBad_any (f : Int → Bool) (A : Option Addr) (c : Nat) (l : List Int) (w : World) (hr : Rd w 1 A l.length (ints l)) (hm : l.length ≤ 9223372036854775807)
    (hf : ∀ x ∈ l, ∀ n, Calls Try.prog 121 #[.int .i64 x] (w.drewN n) fun e w' => e = .returned (.bool (f x)) ∧ ∃ m, w' = w.drewN m) :
    Calls Try.prog 76 #[.slice A l.length c, .func (.func 121) #[] #[]] w fun e w' => ∃ r : Int, e = .returned (.int .i64 r) ∧ decide (0 ≤ r) = l.any f ∧ ∃ m, w' = w.drewN m := by
  go_enter Try.func76, Try.ntmps76
  go_wp2_with fail
  go_loopg [8] (l.length) (fun g i wr => ∃ k : Nat, g + k = l.length ∧ i = .int .i64 k ∧ (l.take k).any f = false ∧ ∃ m, wr = w.drewN m)
  case atStart => exact ⟨0, rfl, rfl, by simp, 0, rfl⟩
  case round =>
    obtain ⟨k, hk, rfl, hb, m, rfl⟩ := hrel
    have HB := Lib.hid hb
    clear hb
    by_cases hlt : k < l.length
    · obtain ⟨b, off, rfl, hbb, hc⟩ := hr.2 (by omega)
      have c0 := hc k _ (ints_get hlt)
      obtain ⟨x, hx⟩ : ∃ x, x = l.getD k 0 := ⟨_, rfl⟩
      rw [← hx] at c0
      have hx' : l[k] = x := by rw [hx]; simp [hlt]
      have H := hf x (by rw [← hx']; exact List.getElem_mem _) m
      obtain ⟨z, hz⟩ : ∃ z, z = f x := ⟨_, rfl⟩
      rw [← hz] at H
      have hs : (l.take (k + 1)).any f = z := by rw [List.take_succ_eq_append_getElem hlt, List.any_append, HB.out, hx', hz]; simp
      have HH := Lib.hid (And.intro H hs)
      clear H hs hz hx' hx hc hr hf
      cases z
      · go_wp2_with (go_at_call 121; refine HH.out.1.mono ?_; rintro e w' ⟨rfl, m', rfl⟩)
        go_roundg (gk - 1)
        case measure => omega
        case rel => exact ⟨k + 1, by omega, by go_num, HH.out.2, m', rfl⟩
      · go_wp2_with (go_at_call 121; refine HH.out.1.mono ?_; rintro e w' ⟨rfl, m', rfl⟩)
        go_ret
        refine ⟨k, rfl, ?_, m', rfl⟩
        have h1 : l.any f = true := by
          obtain ⟨y, hy, hfy⟩ := List.any_eq_true.1 HH.out.2
          exact List.any_eq_true.2 ⟨y, List.mem_of_mem_take hy, hfy⟩
        rw [h1]; simp
    · obtain rfl : k = l.length := by omega
      go_wp2_with fail
      go_ret
      exact ⟨-1, rfl, by have := HB.out; rw [List.take_length] at this; rw [this]; simp, m, rfl⟩

theorem anyBad_any (f : Int → Bool) (A : Option Addr) (c : Nat) (l : List Int) (w : World) (hr : Rd w 1 A l.length (ints l)) (hm : l.length ≤ 9223372036854775807)
    (hf : ∀ x ∈ l, ∀ n, Calls Try.prog 121 #[.int .i64 x] (w.drewN n) fun e w' => e = .returned (.bool (f x)) ∧ ∃ m, w' = w.drewN m) :
    Calls Try.prog 20 #[.slice A l.length c, .func (.func 121) #[] #[]] w fun e w' => e = .returned (.bool (l.any f)) ∧ ∃ m, w' = w.drewN m := by
  have H := idxBad_any f  A c l w hr hm hf
  clear hf
  go_enter Try.func20, Try.ntmps20
  go_wp2_with (go_at_call 76; refine H.mono ?_; rintro e w' ⟨r, rfl, hd, m, rfl⟩; have HD := Lib.hid hd; clear hd)
  go_ret
  exact ⟨by rw [← HD.out]; rfl, m, rfl⟩

set_option maxHeartbeats 1000000 in
theorem idxOver_any (f : Int → Bool) (c0 c1 : Value) (A : Option Addr) (c : Nat) (l : List Int) (w : World) (hr : Rd w 1 A l.length (ints l)) (hm : l.length ≤ 9223372036854775807)
    (hf : ∀ x ∈ l, ∀ n, Calls Try.prog 138 #[.int .i64 x, c0, c1] (w.drewN n) fun e w' => e = .returned (.bool (f x)) ∧ ∃ m, w' = w.drewN m) :
    Calls Try.prog 76 #[.slice A l.length c, .func (.func 138) #[] #[c0, c1]] w fun e w' => ∃ r : Int, e = .returned (.int .i64 r) ∧ decide (0 ≤ r) = l.any f ∧ ∃ m, w' = w.drewN m := by
  go_enter Try.func76, Try.ntmps76
  go_wp2_with fail
  go_loopg [8] (l.length) (fun g i wr => ∃ k : Nat, g + k = l.length ∧ i = .int .i64 k ∧ (l.take k).any f = false ∧ ∃ m, wr = w.drewN m)
  case atStart => exact ⟨0, rfl, rfl, by simp, 0, rfl⟩
  case round =>
    obtain ⟨k, hk, rfl, hb, m, rfl⟩ := hrel
    have HB := Lib.hid hb
    clear hb
    by_cases hlt : k < l.length
    · obtain ⟨b, off, rfl, hbb, hc⟩ := hr.2 (by omega)
      have c0 := hc k _ (ints_get hlt)
      obtain ⟨x, hx⟩ : ∃ x, x = l.getD k 0 := ⟨_, rfl⟩
      rw [← hx] at c0
      have hx' : l[k] = x := by rw [hx]; simp [hlt]
      have H := hf x (by rw [← hx']; exact List.getElem_mem _) m
      obtain ⟨z, hz⟩ : ∃ z, z = f x := ⟨_, rfl⟩
      rw [← hz] at H
      have hs : (l.take (k + 1)).any f = z := by rw [List.take_succ_eq_append_getElem hlt, List.any_append, HB.out, hx', hz]; simp
      have HH := Lib.hid (And.intro H hs)
      clear H hs hz hx' hx hc hr hf
      cases z
      · go_wp2_with (go_at_call 138; refine HH.out.1.mono ?_; rintro e w' ⟨rfl, m', rfl⟩)
        go_roundg (gk - 1)
        case measure => omega
        case rel => exact ⟨k + 1, by omega, by go_num, HH.out.2, m', rfl⟩
      · go_wp2_with (go_at_call 138; refine HH.out.1.mono ?_; rintro e w' ⟨rfl, m', rfl⟩)
        go_ret
        refine ⟨k, rfl, ?_, m', rfl⟩
        have h1 : l.any f = true := by
          obtain ⟨y, hy, hfy⟩ := List.any_eq_true.1 HH.out.2
          exact List.any_eq_true.2 ⟨y, List.mem_of_mem_take hy, hfy⟩
        rw [h1]; simp
    · obtain rfl : k = l.length := by omega
      go_wp2_with fail
      go_ret
      exact ⟨-1, rfl, by have := HB.out; rw [List.take_length] at this; rw [this]; simp, m, rfl⟩

theorem anyOver_any (f : Int → Bool) (c0 c1 : Value) (A : Option Addr) (c : Nat) (l : List Int) (w : World) (hr : Rd w 1 A l.length (ints l)) (hm : l.length ≤ 9223372036854775807)
    (hf : ∀ x ∈ l, ∀ n, Calls Try.prog 138 #[.int .i64 x, c0, c1] (w.drewN n) fun e w' => e = .returned (.bool (f x)) ∧ ∃ m, w' = w.drewN m) :
    Calls Try.prog 20 #[.slice A l.length c, .func (.func 138) #[] #[c0, c1]] w fun e w' => e = .returned (.bool (l.any f)) ∧ ∃ m, w' = w.drewN m := by
  have H := idxOver_any f c0 c1 A c l w hr hm hf
  clear hf
  go_enter Try.func20, Try.ntmps20
  go_wp2_with (go_at_call 76; refine H.mono ?_; rintro e w' ⟨r, rfl, hd, m, rfl⟩; have HD := Lib.hid hd; clear hd)
  go_ret
  exact ⟨by rw [← HD.out]; rfl, m, rfl⟩

set_option maxHeartbeats 1000000 in
theorem idxPathSlot_any (f : Int → Bool) (c0 : Value) (A : Option Addr) (c : Nat) (l : List Int) (w : World) (hr : Rd w 1 A l.length (ints l)) (hm : l.length ≤ 9223372036854775807)
    (hf : ∀ x ∈ l, ∀ n, Calls Try.prog 109 #[.int .i64 x, c0] (w.drewN n) fun e w' => e = .returned (.bool (f x)) ∧ ∃ m, w' = w.drewN m) :
    Calls Try.prog 76 #[.slice A l.length c, .func (.func 109) #[] #[c0]] w fun e w' => ∃ r : Int, e = .returned (.int .i64 r) ∧ decide (0 ≤ r) = l.any f ∧ ∃ m, w' = w.drewN m := by
  go_enter Try.func76, Try.ntmps76
  go_wp2_with fail
  go_loopg [8] (l.length) (fun g i wr => ∃ k : Nat, g + k = l.length ∧ i = .int .i64 k ∧ (l.take k).any f = false ∧ ∃ m, wr = w.drewN m)
  case atStart => exact ⟨0, rfl, rfl, by simp, 0, rfl⟩
  case round =>
    obtain ⟨k, hk, rfl, hb, m, rfl⟩ := hrel
    have HB := Lib.hid hb
    clear hb
    by_cases hlt : k < l.length
    · obtain ⟨b, off, rfl, hbb, hc⟩ := hr.2 (by omega)
      have c0 := hc k _ (ints_get hlt)
      obtain ⟨x, hx⟩ : ∃ x, x = l.getD k 0 := ⟨_, rfl⟩
      rw [← hx] at c0
      have hx' : l[k] = x := by rw [hx]; simp [hlt]
      have H := hf x (by rw [← hx']; exact List.getElem_mem _) m
      obtain ⟨z, hz⟩ : ∃ z, z = f x := ⟨_, rfl⟩
      rw [← hz] at H
      have hs : (l.take (k + 1)).any f = z := by rw [List.take_succ_eq_append_getElem hlt, List.any_append, HB.out, hx', hz]; simp
      have HH := Lib.hid (And.intro H hs)
      clear H hs hz hx' hx hc hr hf
      cases z
      · go_wp2_with (go_at_call 109; refine HH.out.1.mono ?_; rintro e w' ⟨rfl, m', rfl⟩)
        go_roundg (gk - 1)
        case measure => omega
        case rel => exact ⟨k + 1, by omega, by go_num, HH.out.2, m', rfl⟩
      · go_wp2_with (go_at_call 109; refine HH.out.1.mono ?_; rintro e w' ⟨rfl, m', rfl⟩)
        go_ret
        refine ⟨k, rfl, ?_, m', rfl⟩
        have h1 : l.any f = true := by
          obtain ⟨y, hy, hfy⟩ := List.any_eq_true.1 HH.out.2
          exact List.any_eq_true.2 ⟨y, List.mem_of_mem_take hy, hfy⟩
        rw [h1]; simp
    · obtain rfl : k = l.length := by omega
      go_wp2_with fail
      go_ret
      exact ⟨-1, rfl, by have := HB.out; rw [List.take_length] at this; rw [this]; simp, m, rfl⟩

theorem anyPathSlot_any (f : Int → Bool) (c0 : Value) (A : Option Addr) (c : Nat) (l : List Int) (w : World) (hr : Rd w 1 A l.length (ints l)) (hm : l.length ≤ 9223372036854775807)
    (hf : ∀ x ∈ l, ∀ n, Calls Try.prog 109 #[.int .i64 x, c0] (w.drewN n) fun e w' => e = .returned (.bool (f x)) ∧ ∃ m, w' = w.drewN m) :
    Calls Try.prog 20 #[.slice A l.length c, .func (.func 109) #[] #[c0]] w fun e w' => e = .returned (.bool (l.any f)) ∧ ∃ m, w' = w.drewN m := by
  have H := idxPathSlot_any f c0 A c l w hr hm hf
  clear hf
  go_enter Try.func20, Try.ntmps20
  go_wp2_with (go_at_call 76; refine H.mono ?_; rintro e w' ⟨r, rfl, hd, m, rfl⟩; have HD := Lib.hid hd; clear hd)
  go_ret
  exact ⟨by rw [← HD.out]; rfl, m, rfl⟩

set_option maxHeartbeats 1000000 in
theorem idxThick_any (f : Int → Bool) (c0 c1 c2 : Value) (A : Option Addr) (c : Nat) (l : List Int) (w : World) (hr : Rd w 1 A l.length (ints l)) (hm : l.length ≤ 9223372036854775807)
    (hf : ∀ x ∈ l, ∀ n, Calls Try.prog 111 #[.int .i64 x, c0, c1, c2] (w.drewN n) fun e w' => e = .returned (.bool (f x)) ∧ ∃ m, w' = w.drewN m) :
    Calls Try.prog 76 #[.slice A l.length c, .func (.func 111) #[] #[c0, c1, c2]] w fun e w' => ∃ r : Int, e = .returned (.int .i64 r) ∧ decide (0 ≤ r) = l.any f ∧ ∃ m, w' = w.drewN m := by
  go_enter Try.func76, Try.ntmps76
  go_wp2_with fail
  go_loopg [8] (l.length) (fun g i wr => ∃ k : Nat, g + k = l.length ∧ i = .int .i64 k ∧ (l.take k).any f = false ∧ ∃ m, wr = w.drewN m)
  case atStart => exact ⟨0, rfl, rfl, by simp, 0, rfl⟩
  case round =>
    obtain ⟨k, hk, rfl, hb, m, rfl⟩ := hrel
    have HB := Lib.hid hb
    clear hb
    by_cases hlt : k < l.length
    · obtain ⟨b, off, rfl, hbb, hc⟩ := hr.2 (by omega)
      have c0 := hc k _ (ints_get hlt)
      obtain ⟨x, hx⟩ : ∃ x, x = l.getD k 0 := ⟨_, rfl⟩
      rw [← hx] at c0
      have hx' : l[k] = x := by rw [hx]; simp [hlt]
      have H := hf x (by rw [← hx']; exact List.getElem_mem _) m
      obtain ⟨z, hz⟩ : ∃ z, z = f x := ⟨_, rfl⟩
      rw [← hz] at H
      have hs : (l.take (k + 1)).any f = z := by rw [List.take_succ_eq_append_getElem hlt, List.any_append, HB.out, hx', hz]; simp
      have HH := Lib.hid (And.intro H hs)
      clear H hs hz hx' hx hc hr hf
      cases z
      · go_wp2_with (go_at_call 111; refine HH.out.1.mono ?_; rintro e w' ⟨rfl, m', rfl⟩)
        go_roundg (gk - 1)
        case measure => omega
        case rel => exact ⟨k + 1, by omega, by go_num, HH.out.2, m', rfl⟩
      · go_wp2_with (go_at_call 111; refine HH.out.1.mono ?_; rintro e w' ⟨rfl, m', rfl⟩)
        go_ret
        refine ⟨k, rfl, ?_, m', rfl⟩
        have h1 : l.any f = true := by
          obtain ⟨y, hy, hfy⟩ := List.any_eq_true.1 HH.out.2
          exact List.any_eq_true.2 ⟨y, List.mem_of_mem_take hy, hfy⟩
        rw [h1]; simp
    · obtain rfl : k = l.length := by omega
      go_wp2_with fail
      go_ret
      exact ⟨-1, rfl, by have := HB.out; rw [List.take_length] at this; rw [this]; simp, m, rfl⟩

theorem anyThick_any (f : Int → Bool) (c0 c1 c2 : Value) (A : Option Addr) (c : Nat) (l : List Int) (w : World) (hr : Rd w 1 A l.length (ints l)) (hm : l.length ≤ 9223372036854775807)
    (hf : ∀ x ∈ l, ∀ n, Calls Try.prog 111 #[.int .i64 x, c0, c1, c2] (w.drewN n) fun e w' => e = .returned (.bool (f x)) ∧ ∃ m, w' = w.drewN m) :
    Calls Try.prog 20 #[.slice A l.length c, .func (.func 111) #[] #[c0, c1, c2]] w fun e w' => e = .returned (.bool (l.any f)) ∧ ∃ m, w' = w.drewN m := by
  have H := idxThick_any f c0 c1 c2 A c l w hr hm hf
  clear hf
  go_enter Try.func20, Try.ntmps20
  go_wp2_with (go_at_call 76; refine H.mono ?_; rintro e w' ⟨r, rfl, hd, m, rfl⟩; have HD := Lib.hid hd; clear hd)
  go_ret
  exact ⟨by rw [← HD.out]; rfl, m, rfl⟩
end Go.Proofs.Ythmldeningpjbaa
/- slices.Contains over []int; the closure of port.start. -/
namespace Go.Proofs.Ythmldeningpjbaa
open Go Go.RowKit Sp Pt
set_option linter.unusedVariables false

set_option maxHeartbeats 1000000 in
theorem indexI_any (A : Option Addr) (c : Nat) (l : List Int) (t : Int) (w : World) (hr : Rd w 1 A l.length (ints l)) (hm : l.length ≤ 9223372036854775807) :
    Calls Try.prog 77 #[.slice A l.length c, .int .i64 t] w fun e w' => ∃ r : Int, e = .returned (.int .i64 r) ∧ decide (0 ≤ r) = l.contains t ∧ w = w' := by
  go_enter Try.func77, Try.ntmps77
  go_wp2_with fail
  go_loopg [8] (l.length) (fun g i wr => ∃ k : Nat, g + k = l.length ∧ i = .int .i64 k ∧ (l.take k).contains t = false ∧ w = wr)
  case atStart => exact ⟨0, rfl, rfl, by simp, rfl⟩
  case round =>
    obtain ⟨k, hk, rfl, hb, rfl⟩ := hrel
    have HB := Lib.hid hb
    clear hb
    by_cases hlt : k < l.length
    · obtain ⟨b, off, rfl, hbb, hc⟩ := hr.2 (by omega)
      have c0 := hc k _ (ints_get hlt)
      obtain ⟨x, hx⟩ : ∃ x, x = l.getD k 0 := ⟨_, rfl⟩
      rw [← hx] at c0
      have hx' : l[k] = x := by rw [hx]; simp [hlt]
      have HX := Lib.hid hx'
      clear hx hx' hc hr
      go_wp2_with fail
      · go_ret
        refine ⟨k, rfl, ?_, rfl⟩
        have h1 : l.contains t = true := by
          rw [List.contains_iff_mem]
          have : l[k] ∈ l := List.getElem_mem _
          rw [HX.out] at this
          rename_i h
          have h' : t = x := by simpa using h
          rw [h']; exact this
        rw [h1]; simp
      · go_roundg (gk - 1)
        case measure => omega
        case rel =>
          refine ⟨k + 1, by omega, by go_num, ?_, rfl⟩
          rw [List.take_succ_eq_append_getElem hlt, HX.out]
          have h2 := HB.out
          simp only [List.contains_eq_mem, decide_eq_false_iff_not, List.mem_append, List.mem_singleton] at h2 ⊢
          rintro (h | h)
          · exact h2 h
          · simp_all
    · obtain rfl : k = l.length := by omega
      go_wp2_with fail
      go_ret
      exact ⟨-1, rfl, by have := HB.out; rw [List.take_length] at this; rw [this]; simp, rfl⟩

theorem contI_any (A : Option Addr) (c : Nat) (l : List Int) (t : Int) (w : World) (hr : Rd w 1 A l.length (ints l)) (hm : l.length ≤ 9223372036854775807) :
    Calls Try.prog 22 #[.slice A l.length c, .int .i64 t] w fun e w' => e = .returned (.bool (l.contains t)) ∧ w = w' := by
  have H := indexI_any A c l t w hr hm
  go_enter Try.func22, Try.ntmps22
  go_wp2_with (go_at_call 77; refine H.mono ?_; rintro e w' ⟨r, rfl, hd, rfl⟩; have HD := Lib.hid hd; clear hd)
  go_ret
  exact ⟨by rw [← HD.out]; rfl, rfl⟩

theorem stBad_any (n : Int) (w : World) :
    Calls Try.prog 121 #[.int .i64 n] w fun e w' => e = .returned (.bool (!within n 0 1000000)) ∧ w = w' := by
  go_enter Try.func121, Try.ntmps121
  go_wp2_with (go_at_call 80; refine (ptWithin_any _ _ _ _).mono ?_; rintro e w' ⟨rfl, rfl⟩)
  go_ret
  exact ⟨rfl, rfl⟩
end Go.Proofs.Ythmldeningpjbaa
