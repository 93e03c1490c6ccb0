import Derived.Test.YtalcinepeofmcaaPSp7
import Derived.Test.YtalcinepeofmcaaPSp5
import Derived.Test.YtalcinepeofmcaaPSp1
set_option linter.unusedVariables false
set_option linter.unusedSimpArgs false
set_option maxRecDepth 100000
set_option maxHeartbeats 40000000
namespace Go.Proofs.Ytalcinepeofmcaa
open Go Go.RowKit Go.Lib Sp
def NxS (D : Nat) (w : World) (ib lb : Nat) : Prop := ∃ A c l k, DrawSt w ib lb A c l k ∧ Bytes l ∧ l.length ≤ 9223372036854775806 ∧ ib ≠ lb ∧ D ≤ ib ∧ D ≤ lb ∧ (0 < l.length → ∀ b off, A = some ⟨b, off, none⟩ → b < D)
theorem NxS.keep {D : Nat} {w w' : World} {ib lb : Nat} (h : NxS D w ib lb) {S : List Nat} (hk : Keep S w w') (hS : ∀ x ∈ S, D ≤ x ∧ x ≠ ib ∧ x ≠ lb) : NxS D w' ib lb := by
  obtain ⟨A, c, l, k, h1, h2, h3, h4, h5, h6, h7⟩ := h;exact ⟨A, c, l, k, h1.keep hk (fun e => (hS _ e).2.1 rfl) (fun e => (hS _ e).2.2 rfl) (fun h0 b off e hm => by have := h7 h0 b off e; have := (hS _ hm).1; omega), h2, h3, h4, h5, h6, h7⟩
theorem NxS.below {D : Nat} {w w' : World} {ib lb : Nat} (h : NxS D w ib lb) (hb : Below w.heap.size w w') : NxS D w' ib lb := h.keep (S := []) (Keep.of_below hb) (by simp)
theorem NxS.lt {D : Nat} {w : World} {ib lb : Nat} (h : NxS D w ib lb) : ib < w.heap.size ∧ lb < w.heap.size ∧ D ≤ ib ∧ D ≤ lb ∧ ib ≠ lb := by
  obtain ⟨A, c, l, k, h1, h2, h3, h4, h5, h6, h7⟩ := h;exact ⟨hL_ h1.cnt, hL_ h1.lst, h5, h6, h4⟩
def SomePost (D : Nat) (w : World) (ib lb : Nat) (n : Int) (e : Ending) (w' : World) : Prop := ∃ x : Int, e = .returned (.int .i64 x) ∧ (0 ≤ x ∧ x < n) ∧ NxS D w' ib lb ∧ Keep [ib] w w' ∧ w'.heap.size = w.heap.size
theorem next_some {D : Nat} {ib lb : Nat} (n : Int) {w : World} (h : NxS D w ib lb) (hn : 0 < n ∧ n ≤ 1000) :
    Calls Try.prog 24 #[.int .i64 n, .pointer (some ⟨ib, 0, none⟩), .pointer (some ⟨lb, 0, none⟩)] w (SomePost D w ib lb n) := by
  obtain ⟨A, c, l, k, h1, h2, h3, h4, h5, h6, h7⟩ := h;refine (next_any ib lb A c l k n w h1 h2 h3 h4 (fun h0 b off e => by have := h7 h0 b off e; omega) hn).mono ?_;rintro e w' ⟨rfl, q1, q2, q3⟩;exact ⟨_, rfl, draw_range k hn.1, ⟨A, c, l, k + 1, q1, h2, h3, h4, h5, h6, h7⟩, q2, q3⟩
def DrawnPost (D : Nat) (w : World) (e : Ending) (w' : World) : Prop := ∃ ib lb, e = .returned (.func (.func 24) #[] #[.pointer (some ⟨ib, 0, none⟩), .pointer (some ⟨lb, 0, none⟩)]) ∧ NxS D w' ib lb ∧ w.heap.size ≤ ib ∧ w.heap.size ≤ lb ∧ Below w.heap.size w w'
theorem Drawn_some (D : Nat) (A : Option Addr) (c : Nat) (l : List Int) (w : World) (hr : Rd w 1 A l.length (byts l)) (hb : Bytes l) (hl : l.length ≤ 9223372036854775806) (hD : D ≤ w.heap.size) (hA : 0 < l.length → ∀ b off, A = some ⟨b, off, none⟩ → b < D) :
    Calls Try.prog 12 #[.slice A l.length c] w (DrawnPost D w) := by
  refine (Drawn_any A c l w hr).mono ?_;rintro e w' ⟨rfl, h1, h2, h3⟩;exact ⟨_, _, rfl, ⟨A, c, l, 0, h1, hb, hl, by omega, by omega, hD, hA⟩, by omega, Nat.le_refl _, h2⟩
end Go.Proofs.Ytalcinepeofmcaa
namespace Go.Proofs.Ytalcinepeofmcaa
open Go Go.RowKit Sp
structure ApC where
  ib : Nat
  lb : Nat
  k0 : Nat
  A0 : Option Addr
  c0 : Nat
  l0 : List Int
  ob : Nat
  e : TypeId
  sz : Nat
  k : Nat
  A : Option Addr
  c : Nat
  xs : List Value
  q : List Nat
  ys : List Value
  old : Array Value
  new : Option Addr → Nat → Array Value
  t : TypeId
structure ApS where
  bs : Nat
  A : Option Addr
  c : Nat
  g : Nat
structure ApOk (C : ApC) (W0 : World) : Prop where
  dr : DrawSt W0 C.ib C.lb C.A0 C.c0 C.l0 C.k0
  own : OwnS W0 C.e C.sz C.A C.k C.c C.xs C.q
  hob : W0.heap[C.ob]? = some (.cells C.old C.t (0, 0))
  obq : C.ob ∉ C.q
  oib : C.ob ≠ C.ib
  olb : C.ob ≠ C.lb
  ibq : C.ib ∉ C.q
  lbq : C.lb ∉ C.q
  ne : C.ib ≠ C.lb
  apart : 0 < C.l0.length → ∀ b off, C.A0 = some ⟨b, off, none⟩ → b ≠ C.ib ∧ b ≠ C.ob ∧ b ∉ C.q
  byt : Bytes C.l0
  len : C.l0.length ≤ 9223372036854775806
structure ApW (C : ApC) (opB opA opS : Nat) (cnt : (Nat → Bool) → Nat) (W0 : World) (s : ApS) (l : Nat → Bool) (w : World) : Prop where
  kp : Keep (C.ib :: C.ob :: C.q) W0 w
  dr : DrawSt w C.ib C.lb C.A0 C.c0 C.l0 (C.k0 + cnt l)
  own0 : l opA = false → OwnS w C.e C.sz C.A C.k C.c C.xs C.q
  own1 : l opA = true → OwnS w C.e C.sz s.A (C.k + 1) s.c (C.xs ++ C.ys) [s.g] ∧ (s.g ∈ C.q ∨ W0.heap.size ≤ s.g)
  hob : w.heap[C.ob]? = some (.cells (if l opS then C.new s.A s.c else C.old) C.t (0, 0))
  hbs : l opB = true → W0.heap.size ≤ s.bs ∧ w.heap[s.bs]? = some (.cells C.ys.toArray C.e (0, 0))
section
variable {C : ApC} {opB opA opS : Nat} {cnt : (Nat → Bool) → Nat} {W0 w w' : World} {s : ApS} {l : Nat → Bool}
theorem upd_ne {l : Nat → Bool} {i j : Nat} (h : i ≠ j) : upd l i j = l j := by simp [upd, Ne.symm h]
theorem upd_eq {l : Nat → Bool} {i : Nat} : upd l i i = true := by simp [upd]
theorem ApOk.start (O : ApOk C W0) (h : cnt (fun _ => false) = 0) : ApW C opB opA opS cnt W0 s (fun _ => false) W0.drew :=
  ⟨(Keep.refl _ _).drew, by rw [h]; exact O.dr.keep (S := []) ((Keep.refl _ _).drew) (by simp) (by simp) (by simp), fun _ => O.own, (fun h => by cases h), by rw [if_neg (by simp)]; exact O.hob, (fun h => by cases h)⟩
theorem ApOk.fresh (O : ApOk C W0) (H : ApW C opB opA opS cnt W0 s l w) (hb : l opB = true) : s.bs ≠ C.ib ∧ s.bs ≠ C.lb ∧ s.bs ≠ C.ob ∧ s.bs ∉ C.q := by
  have h1 := (H.hbs hb).1;have h2 := hL_ O.dr.cnt;have h3 := hL_ O.dr.lst;have h4 := hL_ O.hob;exact ⟨by omega, by omega, by omega, fun h => by have := O.own.lt _ h; omega⟩
theorem ApW.call (H : ApW C opB opA opS cnt W0 s l w) (O : ApOk C W0) (i : Nat) (hi : i ≠ opB ∧ i ≠ opA ∧ i ≠ opS) (hd : DrawSt w' C.ib C.lb C.A0 C.c0 C.l0 (C.k0 + cnt (upd l i))) (hk : Keep [C.ib] w w') : ApW C opB opA opS cnt W0 s (upd l i) w' := by
  obtain ⟨a1, a2, a3⟩ := hi;have h2 := hL_ O.dr.cnt;refine ⟨H.kp.trans hk (fun x hx => .inl (by simp at hx; simp [hx])), hd, ?_, ?_, ?_, ?_⟩
  · rw [upd_ne a2]; exact fun e => (H.own0 e).keepS hk (fun g hg => by simp; rintro rfl; exact O.ibq hg)
  · rw [upd_ne a2];refine fun e => ⟨(H.own1 e).1.keepS hk (fun g hg => ?_), (H.own1 e).2⟩;rw [List.mem_singleton.1 hg];simp only [List.mem_singleton];rintro e2;rcases (H.own1 e).2 with e3 | e3
    · exact O.ibq (e2 ▸ e3)
    · omega
  · rw [upd_ne a3]; exact (hk.block _ (hL_ H.hob) (by simpa using O.oib)).trans H.hob
  · rw [upd_ne a1]; exact fun e => ⟨(H.hbs e).1, (hk.block _ (hL_ (H.hbs e).2) (by simpa using (O.fresh H e).1)).trans (H.hbs e).2⟩
theorem ApW.other (H : ApW C opB opA opS cnt W0 s l w) (O : ApOk C W0) (i : Nat) (hi : i ≠ opB ∧ i ≠ opA ∧ i ≠ opS) (hc : cnt (upd l i) = cnt l) : ApW C opB opA opS cnt W0 s (upd l i) w :=
  H.call O i hi (by rw [hc]; exact H.dr) (Keep.refl _ _)
theorem ApW.next (H : ApW C opB opA opS cnt W0 s l w) (O : ApOk C W0) (m : Int) (hm : 0 < m ∧ m ≤ 1000) :
    Calls Try.prog 24 #[.int .i64 m, .pointer (some ⟨C.ib, 0, none⟩), .pointer (some ⟨C.lb, 0, none⟩)] w (NextPost w C.ib C.lb C.A0 C.c0 C.l0 (C.k0 + cnt l) m) :=
  next_any C.ib C.lb C.A0 C.c0 C.l0 (C.k0 + cnt l) m w H.dr O.byt O.len O.ne (fun h0 b off e => (O.apart h0 b off e).1) hm
theorem ApW.build (H : ApW C opB opA opS cnt W0 s l w) (O : ApOk C W0) (hn : opB ≠ opA ∧ opB ≠ opS) (hc : cnt (upd l opB) = cnt l) : ApW C opB opA opS cnt W0 { s with bs := w.heap.size } (upd l opB) (w.alloc (.cells C.ys.toArray C.e)) := by
  refine ⟨H.kp.alloc _, ?_, ?_, ?_, ?_, fun _ => ⟨H.kp.size, heap_alloc_new _ _⟩⟩
  · rw [hc]; exact H.dr.keep (S := []) ((Keep.refl _ _).alloc _) (by simp) (by simp) (by simp)
  · rw [upd_ne hn.1]; exact fun e => (H.own0 e).alloc _
  · rw [upd_ne hn.1]; exact fun e => ⟨(H.own1 e).1.alloc _, (H.own1 e).2⟩
  · rw [upd_ne hn.2]; exact hA_ H.hob _
theorem ApW.app (H : ApW C opB opA opS cnt W0 s l w) (O : ApOk C W0) (hn : opB ≠ opA ∧ opA ≠ opS) (hc : cnt (upd l opA) = cnt l) (h8 : l opB = true) (h9 : l opA = false) (h11 : l opS = false) {g c' : Nat} (o1 : OwnS w' C.e C.sz (some ⟨g, 0, none⟩) (C.k + 1) c' (C.xs ++ C.ys) [g]) (o2 : g ∈ C.q ∨ w.heap.size = g) (o3 : Keep C.q w w') :
    ApW C opB opA opS cnt W0 { s with A := some ⟨g, 0, none⟩, c := c', g := g } (upd l opA) w' := by
  have hh := H.hob;rw [h11, if_neg (by simp)] at hh;refine ⟨H.kp.trans o3 (fun x hx => .inl (by simp [hx])), ?_, ?_, ?_, ?_, ?_⟩
  · rw [hc]; exact H.dr.keep o3 O.ibq O.lbq (fun h0 b off e => (O.apart h0 b off e).2.2)
  · rw [upd_eq]; exact fun e => by cases e
  · exact fun _ => ⟨o1, by rcases o2 with e | e; exact .inl e; exact .inr (by have := H.kp.size; simp only; omega)⟩
  · rw [upd_ne hn.2, h11, if_neg (by simp)]; exact (o3.block _ (hL_ hh) O.obq).trans hh
  · rw [upd_ne hn.1.symm];exact fun e => ⟨(H.hbs e).1, (o3.block _ (hL_ (H.hbs e).2) (O.fresh H e).2.2.2).trans (H.hbs e).2⟩
theorem ApW.store (H : ApW C opB opA opS cnt W0 s l w) (O : ApOk C W0) (hn : opB ≠ opS ∧ opA ≠ opS) (hc : cnt (upd l opS) = cnt l) (j : Nat) (hnew : ∀ A c, C.new A c = C.old.setIfInBounds j (.slice A (C.k + 1) c)) (h9 : l opA = true) (h11 : l opS = false) :
    ApW C opB opA opS cnt W0 s (upd l opS) (w.setCell ⟨C.ob, j, none⟩ (.slice s.A (C.k + 1) s.c)) := by
  have hh := H.hob;rw [h11, if_neg (by simp)] at hh;have K : Keep [C.ob] w (w.setCell ⟨C.ob, j, none⟩ (.slice s.A (C.k + 1) s.c)) := (Keep.refl _ _).setCell (.inl (by simp)) _;refine ⟨H.kp.setCell (.inl (by simp)) _, ?_, ?_, ?_, ?_, ?_⟩
  · rw [hc]; exact H.dr.keep K (by simpa using O.oib.symm) (by simpa using O.olb.symm) (fun h0 b off e => by simpa using (O.apart h0 b off e).2.1)
  · rw [upd_ne hn.2.symm, h9]; exact fun e => by cases e
  · rw [upd_ne hn.2.symm];refine fun e => ⟨(H.own1 e).1.keepS K (fun g hg => ?_), (H.own1 e).2⟩;rw [List.mem_singleton.1 hg];simp only [List.mem_singleton];rintro e2;rcases (H.own1 e).2 with e3 | e3
    · exact O.obq (e2 ▸ e3)
    · have := hL_ O.hob; omega
  · rw [upd_eq, if_pos rfl, hnew]; exact hS_ hh j _
  · rw [upd_ne hn.1.symm];exact fun e => ⟨(H.hbs e).1, (K.block _ (hL_ (H.hbs e).2) (by simpa using (O.fresh H e).2.2.1)).trans (H.hbs e).2⟩
theorem ApW.at_append {P : Program} {o : Oper} {a : Act} {K : Act → World → Prop} {Q : Exit → Act → World → Prop} (H : ApW C opB opA opS cnt W0 s l w) (O : ApOk C W0) (x y : Operand) (t : TypeId)
    (ho : o.op = .call { callee := .builtin .append, args := #[x, y], argTypes := #[t, t] })
    (i : TypeInfo) (z : Value) (bytes : Nat) (ht : P.underlying t = some (.slice C.e)) (hi : P.info? C.e = some i) (hz : i.zero = some z)
    (hsize : i.size = C.sz) (hs0 : 0 < C.sz) (hby : i.bytes = bytes) (hzs : z.cells.size = C.sz) (hs : a.eval x = .slice C.A C.k C.c) (hx : a.eval y = .slice (some ⟨s.bs, 0, none⟩) 1 1)
    (hys : C.ys.length = C.sz) (h1 : ∀ u ∈ C.ys, u.oneCell' = true) (hk : C.k + 1 ≤ 1000000000000) (hbytes : bytes ≤ 100) (hn : opB ≠ opA ∧ opA ≠ opS) (hc : cnt (upd l opA) = cnt l) (h8 : l opB = true) (h9 : l opA = false) (h11 : l opS = false)
    (h : ∀ g c' w', ApW C opB opA opS cnt W0 { s with A := some ⟨g, 0, none⟩, c := c', g := g } (upd l opA) w' → K (a.put o.dst (.slice (some ⟨g, 0, none⟩) (C.k + 1) c')) w') : o.wp P a w K Q := by
  have hbs := H.hbs h8;refine wp_append_S x y t ho i z bytes ht hi hz hsize hs0 hby hzs hs ⟨s.bs, 0, none⟩ hx C.ys (H.own0 h9) hys (fun j v hj => by rw [show (⟨s.bs, 0, none⟩ : Addr).add j = ⟨s.bs, j, none⟩ from by simp [Addr.add]; omega]; exact (cOH hbs.2 j).trans (by simpa using hj)) h1 hk hbytes ?_;intro g c' w' o1 o2 o3 o4;exact h g c' w' (H.app O hn hc h8 h9 h11 o1 o2 o4)
end
end Go.Proofs.Ytalcinepeofmcaa
namespace Go.Proofs.Ytalcinepeofmcaa
open Go Go.RowKit Sp
inductive It where
  | blk (b : Nat) (o : Obj)
  | own (e : TypeId) (sz : Nat) (A : Option Addr) (n c : Nat) (xs : List Value) (q : List Nat)
  | nx (ib lb : Nat)
  | any (b : Nat)
  | gen (q : List Nat) (P : World → Prop)
def It.fp : It → List Nat
  | .blk b _ => [b]
  | .own _ _ _ _ _ _ q => q
  | .nx ib lb => [ib, lb]
  | .any b => [b]
  | .gen q _ => q
def It.holds (D : Nat) (w : World) : It → Prop
  | .blk b o => w.heap[b]? = some o
  | .own e sz A n c xs q => OwnS w e sz A n c xs q
  | .nx ib lb => NxS D w ib lb
  | .any b => b < w.heap.size
  | .gen q P => (∀ x ∈ q, x < w.heap.size) ∧ ∀ (S : List Nat) (w' : World), Keep S w w' → (∀ x ∈ S, x ∉ q) → P w'
theorem It.lt {D : Nat} {w : World} {i : It} (h : i.holds D w) : ∀ x ∈ i.fp, x < w.heap.size := by
  intro x hx;cases i with
  | blk b o => rw [List.mem_singleton.1 hx]; exact hL_ h
  | own e sz A n c xs q => exact OwnS.lt h x hx
  | nx ib lb =>
    have := NxS.lt h;simp only [It.fp, List.mem_cons, List.not_mem_nil, or_false] at hx;rcases hx with rfl | rfl <;> omega
  | any b => rw [List.mem_singleton.1 hx]; exact h
  | gen q P => exact h.1 x hx
theorem It.keep {D : Nat} {w w' : World} {i : It} {S : List Nat} (h : i.holds D w) (hk : Keep S w w') (hS : ∀ x ∈ i.fp, x ∉ S) (hD : ∀ x ∈ S, D ≤ x) : i.holds D w' := by
  cases i with
  | blk b o => exact (hk.block _ (hL_ h) (hS b (by simp [It.fp]))).trans h
  | own e sz A n c xs q => exact OwnS.keepS h hk hS
  | nx ib lb => exact NxS.keep h hk fun x hx => ⟨hD x hx, fun e => hS ib (by simp [It.fp]) (e ▸ hx), fun e => hS lb (by simp [It.fp]) (e ▸ hx)⟩
  | any b => exact Nat.lt_of_lt_of_le h hk.size
  | gen q P =>
    refine ⟨fun x hx => Nat.lt_of_lt_of_le (h.1 x hx) hk.size, fun S' w'' hk' hS' => h.2 (S ++ S') w'' ?_ ?_⟩
    · exact (hk.mono (fun x hx => .inl (by simp [hx]))).trans hk' (fun x hx => .inl (by simp [hx]))
    · intro x hx hm;rcases List.mem_append.1 hx with e | e
      · exact hS x hm e
      · exact hS' x e hm
structure Own (D : Nat) (W0 : World) (L : List It) (w : World) : Prop where
  bel : Below D W0 w
  lo : D ≤ w.heap.size
  at_ : ∀ (a : Nat) (i : It), L[a]? = some i → i.holds D w ∧ ∀ x ∈ i.fp, D ≤ x
  dis : ∀ (a b : Nat) (i j : It), L[a]? = some i → L[b]? = some j → a ≠ b → ∀ x ∈ i.fp, x ∉ j.fp
section
variable {D : Nat} {W0 w w' : World} {L : List It}
theorem Own.get (h : Own D W0 L w) (a : Nat) {i : It} (hi : L[a]? = some i) : i.holds D w := (h.at_ a i hi).1
theorem Own.heap (h : Own D W0 L w) (a : Nat) {b : Nat} {o : Obj} (hi : L[a]? = some (.blk b o)) : w.heap[b]? = some o := (h.at_ a _ hi).1
theorem Own.owns (h : Own D W0 L w) (a : Nat) {e : TypeId} {sz : Nat} {A : Option Addr} {n c : Nat} {xs : List Value} {q : List Nat} (hi : L[a]? = some (.own e sz A n c xs q)) : OwnS w e sz A n c xs q := (h.at_ a _ hi).1
theorem Own.nxt (h : Own D W0 L w) (a : Nat) {ib lb : Nat} (hi : L[a]? = some (.nx ib lb)) : NxS D w ib lb := (h.at_ a _ hi).1
theorem Own.ge (h : Own D W0 L w) (a : Nat) {i : It} (hi : L[a]? = some i) {x : Nat} (hx : x ∈ i.fp) : D ≤ x := (h.at_ a i hi).2 x hx
theorem Own.lt (h : Own D W0 L w) (a : Nat) {i : It} (hi : L[a]? = some i) {x : Nat} (hx : x ∈ i.fp) : x < w.heap.size := It.lt (h.get a hi) x hx
theorem Own.ne (h : Own D W0 L w) (a b : Nat) {i j : It} (hi : L[a]? = some i) (hj : L[b]? = some j) (hab : a ≠ b) {x y : Nat} (hx : x ∈ i.fp) (hy : y ∈ j.fp) : x ≠ y := fun e => h.dis a b i j hi hj hab x hx (e ▸ hy)
theorem Own.start (w : World) : Own w.heap.size w [] w := ⟨Below.refl _ _, Nat.le_refl _, by simp, by simp⟩
theorem Own.updG (h : Own D W0 L w) (L' : List It) (c : Nat → Prop) {S : List Nat} (hk : Keep S w w') (hS : ∀ x ∈ S, (∃ a i, c a ∧ L[a]? = some i ∧ x ∈ i.fp) ∨ w.heap.size ≤ x)
    (hun : ∀ a j, L'[a]? = some j → c a ∨ L[a]? = some j) (hch : ∀ a j, L'[a]? = some j → c a → j.holds D w' ∧ ∀ x ∈ j.fp, (∃ i, L[a]? = some i ∧ x ∈ i.fp) ∨ w.heap.size ≤ x)
    (hfd : ∀ a b i j, L'[a]? = some i → L'[b]? = some j → a ≠ b → c a → c b → ∀ x ∈ i.fp, x ∈ j.fp → w.heap.size ≤ x → False) : Own D W0 L' w' := by
  have hSD : ∀ x ∈ S, D ≤ x := fun x hx => by
    rcases hS x hx with ⟨a, i, _, h2, h3⟩ | h1
    · exact h.ge a h2 h3
    · have := h.lo; omega
  have key : ∀ a j, L'[a]? = some j → ∀ x ∈ j.fp, (∃ i, L[a]? = some i ∧ x ∈ i.fp) ∨ (c a ∧ w.heap.size ≤ x) := fun a j hj x hx => by
    rcases hun a j hj with h1 | h1
    · rcases (hch a j hj h1).2 x hx with e | e
      · exact .inl e
      · exact .inr ⟨h1, e⟩
    · exact .inl ⟨j, h1, hx⟩
  refine ⟨h.bel.trans (hk.below h.lo hSD), Nat.le_trans h.lo hk.size, fun a j hj => ⟨?_, fun x hx => ?_⟩, fun a b i j hi hj hab x hx hy => ?_⟩
  · by_cases hc : c a
    · exact (hch a j hj hc).1
    · have h1 : L[a]? = some j := (hun a j hj).resolve_left hc;refine It.keep (h.get a h1) hk (fun x hx hm => ?_) hSD;rcases hS x hm with ⟨b, i, h2, h3, h4⟩ | h2
      · exact h.dis a b j i h1 h3 (fun e => hc (e ▸ h2)) x hx h4
      · have := h.lt a h1 hx; omega
  · rcases key a j hj x hx with ⟨i, h1, h2⟩ | ⟨_, h2⟩
    · exact h.ge a h1 h2
    · have := h.lo; omega
  · rcases key a i hi x hx with ⟨i', h1, h2⟩ | ⟨h1, h2⟩
    · rcases key b j hj x hy with ⟨j', h3, h4⟩ | ⟨h3, h4⟩
      · exact h.dis a b i' j' h1 h3 hab x h2 h4
      · have := h.lt a h1 h2; omega
    · rcases key b j hj x hy with ⟨j', h3, h4⟩ | ⟨h3, h4⟩
      · have := h.lt b h3 h4; omega
      · exact hfd a b i j hi hj hab h1 h3 x hx hy h2
theorem Own.updF (h : Own D W0 L w) (L' : List It) (c : Nat → Prop) (f : Nat) {S : List Nat} (hk : Keep S w w') (hS : ∀ x ∈ S, (∃ a i, c a ∧ L[a]? = some i ∧ x ∈ i.fp) ∨ w.heap.size ≤ x)
    (hun : ∀ a j, L'[a]? = some j → c a ∨ L[a]? = some j) (hch : ∀ a j, L'[a]? = some j → c a → j.holds D w' ∧ ∀ x ∈ j.fp, (∃ i, L[a]? = some i ∧ x ∈ i.fp) ∨ (a = f ∧ w.heap.size ≤ x)) : Own D W0 L' w' := by
  refine h.updG L' c hk hS hun (fun a j hj hc => ⟨(hch a j hj hc).1, fun x hx => ?_⟩) (fun a b i j hi hj hab ha hb x hx hy hz => ?_)
  · rcases (hch a j hj hc).2 x hx with e | e
    · exact .inl e
    · exact .inr e.2
  · have h1 : a = f := by
      rcases (hch a i hi ha).2 x hx with ⟨i', e1, e2⟩ | e
      · have := h.lt a e1 e2; omega
      · exact e.1
    have h2 : b = f := by
      rcases (hch b j hj hb).2 x hy with ⟨i', e1, e2⟩ | e
      · have := h.lt b e1 e2; omega
      · exact e.1
    omega
theorem Own.below (h : Own D W0 L w) (hb : Below w.heap.size w w') : Own D W0 L w' :=
  h.updF L (fun _ => False) 0 (S := []) (Keep.of_below hb) (by simp) (fun a j hj => .inr hj) (fun _ _ _ h => h.elim)
theorem Own.upd (h : Own D W0 L w) (k : Nat) {i i' : It} (hi : L[k]? = some i) (hk : Keep i.fp w w') (hh : i'.holds D w') (hf : ∀ x ∈ i'.fp, x ∈ i.fp ∨ w.heap.size ≤ x) : Own D W0 (L.set k i') w' := by
  refine h.updF _ (fun a => a = k) k hk (fun x hx => .inl ⟨k, i, rfl, hi, hx⟩) (fun a j hj => ?_) (fun a j hj hc => ?_)
  · rw [List.getElem?_set] at hj;by_cases e : k = a
    · exact .inl e.symm
    · rw [if_neg e] at hj; exact .inr hj
  · subst hc;have hlt : a < L.length := (List.getElem?_eq_some_iff.1 hi).1;rw [List.getElem?_set, if_pos rfl, if_pos hlt] at hj;injection hj with hj
    subst hj;exact ⟨hh, fun x hx => by rcases hf x hx with e | e; exact .inl ⟨i, hi, e⟩; exact .inr ⟨rfl, e⟩⟩
theorem Own.set (h : Own D W0 L w) (k : Nat) {b : Nat} {o o' : Obj} (hi : L[k]? = some (.blk b o)) (hk : Keep [b] w w') (hh : w'.heap[b]? = some o') : Own D W0 (L.set k (.blk b o')) w' :=
  h.upd k hi hk hh (fun x hx => .inl hx)
theorem Own.next (h : Own D W0 L w) (k : Nat) {ib lb : Nat} (hi : L[k]? = some (.nx ib lb)) (hn : NxS D w' ib lb) (hk : Keep [ib] w w') : Own D W0 L w' := by
  have h1 := h.upd k hi (hk.mono (S' := [ib, lb]) (fun x hx => .inl (by simp at hx; simp [hx]))) (i' := .nx ib lb) hn (fun x hx => .inl hx);have e : L.set k (.nx ib lb) = L := by
    have hlt : k < L.length := (List.getElem?_eq_some_iff.1 hi).1;apply List.ext_getElem?;intro a;rw [List.getElem?_set];by_cases e : k = a
    · subst e; rw [if_pos rfl, if_pos hlt, hi]
    · rw [if_neg e]
  rwa [e] at h1
theorem Own.new (h : Own D W0 L w) {i : It} (hb : Below w.heap.size w w') (hh : i.holds D w') (hf : ∀ x ∈ i.fp, w.heap.size ≤ x) : Own D W0 (L ++ [i]) w' := by
  have h' := h.below hb;have hget : ∀ {a : Nat} {j : It}, (L ++ [i])[a]? = some j → L[a]? = some j ∨ (a = L.length ∧ j = i) := fun {a j} hj => by
    rw [List.getElem?_append] at hj;split at hj
    · exact .inl hj
    · rename_i hl
      have : a - L.length = 0 := by
        rcases Nat.lt_or_ge 0 (a - L.length) with e | e
        · rw [List.getElem?_eq_none (by simp; omega)] at hj; cases hj
        · omega
      rw [this] at hj;injection hj with hj
      exact .inr ⟨by omega, hj.symm⟩
  refine ⟨h'.bel, h'.lo, fun a j hj => ?_, fun a b x y hx hy hab z hz hz' => ?_⟩
  · rcases hget hj with e | ⟨_, rfl⟩
    · exact h'.at_ a j e
    · exact ⟨hh, fun x hx => by have := hf x hx; have := h.lo; omega⟩
  · rcases hget hx with e1 | ⟨e1, rfl⟩
    · rcases hget hy with e2 | ⟨e2, rfl⟩
      · exact h.dis a b x y e1 e2 hab z hz hz'
      · have := h.lt a e1 hz; have := hf z hz'; omega
    · rcases hget hy with e2 | ⟨e2, rfl⟩
      · have := h.lt b e2 hz'; have := hf z hz; omega
      · omega
theorem Own.add (h : Own D W0 L w) {i : It} (hh : i.holds D w) (hD : ∀ x ∈ i.fp, D ≤ x) (hd : ∀ j ∈ L, ∀ x ∈ i.fp, x ∉ j.fp) : Own D W0 (L ++ [i]) w := by
  have hget : ∀ {a : Nat} {j : It}, (L ++ [i])[a]? = some j → L[a]? = some j ∨ (a = L.length ∧ j = i) := fun {a j} hj => by
    rw [List.getElem?_append] at hj;split at hj
    · exact .inl hj
    · rename_i hl
      have h2 := (List.getElem?_eq_some_iff.1 hj).1;simp at h2;have : a - L.length = 0 := by omega
      rw [this] at hj;injection hj with hj
      exact .inr ⟨by omega, hj.symm⟩
  refine ⟨h.bel, h.lo, fun a j hj => ?_, fun a b x y hx hy hab z hz hz' => ?_⟩
  · rcases hget hj with e | ⟨_, rfl⟩
    · exact h.at_ a j e
    · exact ⟨hh, hD⟩
  · rcases hget hx with e1 | ⟨e1, rfl⟩
    · rcases hget hy with e2 | ⟨e2, rfl⟩
      · exact h.dis a b x y e1 e2 hab z hz hz'
      · exact hd x (List.mem_of_getElem? e1) z hz' hz
    · rcases hget hy with e2 | ⟨e2, rfl⟩
      · exact hd y (List.mem_of_getElem? e2) z hz hz'
      · omega
theorem Own.nil (hD : D ≤ w.heap.size) : Own D w [] w := ⟨Below.refl _ _, hD, by simp, by simp⟩
theorem Own.keepAny (h : Own D W0 L w) {S : List Nat} (hk : Keep S w w') (hS : ∀ x ∈ S, (∃ a : Nat, L[a]? = some (It.any x)) ∨ w.heap.size ≤ x) : Own D W0 L w' := by
  refine h.updG L (fun a : Nat => ∃ x, L[a]? = some (It.any x)) hk (fun x hx => ?_) (fun a j hj => .inr hj) (fun a j hj hc => ?_) (fun a b i j hi hj hab ha hb x hx hy hz => ?_)
  · rcases hS x hx with ⟨a, e⟩ | e
    · exact .inl ⟨a, _, ⟨x, e⟩, e, by simp [It.fp]⟩
    · exact .inr e
  · obtain ⟨x, e⟩ := hc;rw [hj] at e;injection e with e
    subst e;exact ⟨Nat.lt_of_lt_of_le (h.get a hj) hk.size, fun y hy => .inl ⟨_, hj, hy⟩⟩
  · exact h.dis a b i j hi hj hab x hx hy
theorem Own.nextNew (h : Own D W0 L w) (k : Nat) {ib lb : Nat} {i : It} (hi : L[k]? = some (.nx ib lb)) (hn : NxS D w' ib lb) (hk : Keep [ib] w w') (hh : i.holds D w') (hf : ∀ x ∈ i.fp, w.heap.size ≤ x) : Own D W0 (L ++ [i]) w' := by
  have hkl : k < L.length := (List.getElem?_eq_some_iff.1 hi).1;refine h.updF _ (fun a => a = k ∨ a = L.length) L.length hk (fun x hx => .inl ⟨k, _, .inl rfl, hi, by simp at hx; simp [It.fp, hx]⟩) (fun a j hj => ?_) (fun a j hj hc => ?_)
  · rw [List.getElem?_append] at hj;split at hj
    · exact .inr hj
    · refine .inl (.inr ?_);have h2 := (List.getElem?_eq_some_iff.1 hj).1;simp at h2;omega
  · rcases hc with rfl | rfl
    · rw [List.getElem?_append_left hkl, hi] at hj;injection hj with hj
      subst hj;exact ⟨hn, fun x hx => .inl ⟨_, hi, hx⟩⟩
    · rw [List.getElem?_append_right (Nat.le_refl _), Nat.sub_self] at hj;injection hj with hj
      subst hj;exact ⟨hh, fun x hx => .inr ⟨rfl, hf x hx⟩⟩
theorem Own.alloc (h : Own D W0 L w) (o : Obj) : Own D W0 (L ++ [.blk w.heap.size o]) (w.alloc o) :=
  h.new ((Below.refl _ _).alloc (Nat.le_refl _) _) (heap_alloc_new w o) (by simp [It.fp])
theorem Own.drew (h : Own D W0 L w) : Own D W0 L w.drew := h.updF L (fun _ => False) 0 (S := []) ((Keep.refl _ _).drew) (by simp) (fun a j hj => .inr hj) (fun _ _ _ h => h.elim)
theorem Own.take (h : Own D W0 L w) (n : Nat) : Own D W0 (L.take n) w := by
  have hg : ∀ {a : Nat} {j : It}, (L.take n)[a]? = some j → L[a]? = some j := fun {a j} hj => by
    rw [List.getElem?_take] at hj;split at hj
    · exact hj
    · cases hj
  exact ⟨h.bel, h.lo, fun a j hj => h.at_ a j (hg hj), fun a b i j hi hj => h.dis a b i j (hg hi) (hg hj)⟩
theorem Own.draws (h : Own D W0 L w) (kn : Nat) {ib lb : Nat} (hn : L[kn]? = some (.nx ib lb)) :
    ∃ A0 c0 l0 k0, DrawSt w ib lb A0 c0 l0 k0 ∧ Bytes l0 ∧ l0.length ≤ 9223372036854775806 ∧ ib ≠ lb ∧ (0 < l0.length → ∀ b off, A0 = some ⟨b, off, none⟩ → b < D) := by
  obtain ⟨A, c, l, k, h1, h2, h3, h4, h5, h6, h7⟩ := h.nxt kn hn;exact ⟨A, c, l, k, h1, h2, h3, h4, h7⟩
theorem Own.apOk (h : Own D W0 L w) (kn kb ko : Nat) {C : ApC} (hn : L[kn]? = some (.nx C.ib C.lb)) (hb : L[kb]? = some (.blk C.ob (.cells C.old C.t (0, 0)))) (ho : L[ko]? = some (.own C.e C.sz C.A C.k C.c C.xs C.q))
    (hnb : kn ≠ kb) (hno : kn ≠ ko) (hbo : kb ≠ ko) (hdr : DrawSt w C.ib C.lb C.A0 C.c0 C.l0 C.k0) (hby : Bytes C.l0) (hln : C.l0.length ≤ 9223372036854775806) (hne : C.ib ≠ C.lb) (hap : 0 < C.l0.length → ∀ b off, C.A0 = some ⟨b, off, none⟩ → b < D) : ApOk C w := by
  refine ⟨hdr, h.owns ko ho, h.heap kb hb, fun hm => h.dis kb ko _ _ hb ho hbo _ (by simp [It.fp]) hm, h.ne kb kn hb hn hnb.symm (by simp [It.fp]) (by simp [It.fp]), h.ne kb kn hb hn hnb.symm (by simp [It.fp]) (by simp [It.fp]),
    fun hm => h.dis kn ko _ _ hn ho hno C.ib (by simp [It.fp]) hm, fun hm => h.dis kn ko _ _ hn ho hno C.lb (by simp [It.fp]) hm, hne, fun h0 b off e => ?_, hby, hln⟩
  have hD := hap h0 b off e;have h1 := h.ge kn hn (x := C.ib) (by simp [It.fp]);have h2 := h.ge kb hb (x := C.ob) (by simp [It.fp]);exact ⟨by omega, by omega, fun hm => by have := h.ge ko ho (x := b) hm; omega⟩
theorem Own.apDone (h : Own D W0 L w) (kn kb ko : Nat) {C : ApC} (hn : L[kn]? = some (.nx C.ib C.lb)) (hb : L[kb]? = some (.blk C.ob (.cells C.old C.t (0, 0)))) (ho : L[ko]? = some (.own C.e C.sz C.A C.k C.c C.xs C.q))
    (hnb : kn ≠ kb) (hno : kn ≠ ko) (hbo : kb ≠ ko) (hap : 0 < C.l0.length → ∀ b off, C.A0 = some ⟨b, off, none⟩ → b < D) (O : ApOk C w) {opB opA opS : Nat} {cnt : (Nat → Bool) → Nat} {s : ApS} {l : Nat → Bool} (H : ApW C opB opA opS cnt w s l w') (hA : l opA = true) (hS : l opS = true) :
    Own D W0 ((L.set kb (.blk C.ob (.cells (C.new s.A s.c) C.t (0, 0)))).set ko (.own C.e C.sz s.A (C.k + 1) s.c (C.xs ++ C.ys) [s.g])) w' := by
  have hkb : kb < L.length := (List.getElem?_eq_some_iff.1 hb).1;have hko : ko < L.length := (List.getElem?_eq_some_iff.1 ho).1;obtain ⟨o1, o2⟩ := H.own1 hA;have hob := H.hob;rw [hS, if_pos rfl] at hob;have hnx : NxS D w' C.ib C.lb := ⟨C.A0, C.c0, C.l0, _, H.dr, O.byt, O.len, O.ne, h.ge kn hn (by simp [It.fp]), h.ge kn hn (by simp [It.fp]), hap⟩;have hget : ∀ {a : Nat} {j : It}, ((L.set kb (.blk C.ob (.cells (C.new s.A s.c) C.t (0, 0)))).set ko (.own C.e C.sz s.A (C.k + 1) s.c (C.xs ++ C.ys) [s.g]))[a]? = some j →
      (a = ko ∧ j = .own C.e C.sz s.A (C.k + 1) s.c (C.xs ++ C.ys) [s.g]) ∨ (a ≠ ko ∧ a = kb ∧ j = .blk C.ob (.cells (C.new s.A s.c) C.t (0, 0))) ∨ (a ≠ ko ∧ a ≠ kb ∧ L[a]? = some j) := fun {a j} hj => by
    rw [List.getElem?_set] at hj;by_cases e : ko = a
    · rw [if_pos e, if_pos (by simpa using hko)] at hj;injection hj with hj
      exact .inl ⟨e.symm, hj.symm⟩
    · rw [if_neg e, List.getElem?_set] at hj;by_cases e2 : kb = a
      · rw [if_pos e2, if_pos hkb] at hj;injection hj with hj
        exact .inr (.inl ⟨fun q => e q.symm, e2.symm, hj.symm⟩)
      · rw [if_neg e2] at hj;exact .inr (.inr ⟨fun q => e q.symm, fun q => e2 q.symm, hj⟩)
  refine h.updF _ (fun a => a = kn ∨ a = kb ∨ a = ko) ko H.kp (fun x hx => .inl ?_) (fun a j hj => ?_) (fun a j hj hc => ?_)
  · rcases List.mem_cons.1 hx with rfl | hx
    · exact ⟨kn, _, .inl rfl, hn, by simp [It.fp]⟩
    · rcases List.mem_cons.1 hx with rfl | hx
      · exact ⟨kb, _, .inr (.inl rfl), hb, by simp [It.fp]⟩
      · exact ⟨ko, _, .inr (.inr rfl), ho, hx⟩
  · rcases hget hj with ⟨e, _⟩ | ⟨_, e, _⟩ | ⟨_, _, e⟩
    · exact .inl (.inr (.inr e))
    · exact .inl (.inr (.inl e))
    · exact .inr e
  · rcases hget hj with ⟨e, rfl⟩ | ⟨_, e, rfl⟩ | ⟨e1, e2, e⟩
    · refine ⟨o1, fun x hx => ?_⟩;rw [List.mem_singleton.1 hx];rcases o2 with q | q
      · exact .inl ⟨.own C.e C.sz C.A C.k C.c C.xs C.q, by rw [e]; exact ho, q⟩
      · exact .inr ⟨e, q⟩
    · exact ⟨hob, fun x hx => .inl ⟨.blk C.ob (.cells C.old C.t (0, 0)), by rw [e]; exact hb, hx⟩⟩
    · rcases hc with rfl | rfl | rfl
      · rw [hn] at e;injection e with e
        subst e;exact ⟨hnx, fun x hx => .inl ⟨_, hn, hx⟩⟩
      · exact absurd rfl e2
      · exact absurd rfl e1
end
end Go.Proofs.Ytalcinepeofmcaa
namespace Go.Proofs.Ytalcinepeofmcaa
open Go Go.RowKit Go.Lib Sp Pt
theorem infoRow : (Try.prog.info? 56).map (fun i => (i.zero, i.size, i.bytes)) = some (some (.slice none 0 0), 1, 24) := by kernel_rfl
structure LRow where
  A : Option Addr
  c : Nat
  l : List Int
  q : List Nat
def LRow.v (r : LRow) : Value := .slice r.A r.l.length r.c
def LRow.it (r : LRow) : It := .own 3 1 r.A r.l.length r.c (ints r.l) r.q
structure TrS where
  bs : Nat
  A : Option Addr
  c : Nat
  g : Nat
  rA : Option Addr
  rc : Nat
  rq : List Nat
structure TrW (W0 : World) (tb k : Nat) (A : Option Addr) (c : Nat) (xs : List Value) (q : List Nat) (row : List Int) (s : TrS) (l : Nat → Bool) (w : World) : Prop where
  kp : Keep (tb :: q) W0 w
  own0 : l 7 = false → OwnS w 56 1 A k c xs q
  own1 : l 7 = true → OwnS w 56 1 s.A (k + 1) s.c (xs ++ [.slice s.rA row.length s.rc]) [s.g] ∧ (s.g ∈ q ∨ W0.heap.size ≤ s.g) ∧ s.g ∉ s.rq
  hob : w.heap[tb]? = some (.cells (if l 8 then #[.slice s.A (k + 1) s.c] else #[.slice A k c]) 59 (0, 0))
  hbs : l 6 = true → W0.heap.size ≤ s.bs ∧ w.heap[s.bs]? = some (.cells #[.slice s.rA row.length s.rc] 56 (0, 0)) ∧ s.bs ∉ s.rq
  row : l 5 = true → OwnS w 3 1 s.rA row.length s.rc (ints row) s.rq ∧ ∀ x ∈ s.rq, W0.heap.size ≤ x
  nq : tb ∉ q ∧ tb < W0.heap.size ∧ ∀ x ∈ q, x < W0.heap.size
section
variable {W0 : World} {tb k : Nat} {A : Option Addr} {c : Nat} {xs : List Value} {q : List Nat} {row : List Int} {s : TrS} {l : Nat → Bool} {w w' : World}
theorem TrW.other (H : TrW W0 tb k A c xs q row s l w) (i : Nat) (hi : i ≠ 5 ∧ i ≠ 6 ∧ i ≠ 7 ∧ i ≠ 8) : TrW W0 tb k A c xs q row s (upd l i) w := by
  obtain ⟨a1, a2, a3, a4⟩ := hi;exact ⟨H.kp, by rw [upd_ne a3]; exact H.own0, by rw [upd_ne a3]; exact H.own1, by rw [upd_ne a4]; exact H.hob, by rw [upd_ne a2]; exact H.hbs, by rw [upd_ne a1]; exact H.row, H.nq⟩
theorem TrW.clone (H : TrW W0 tb k A c xs q row s l w) (h6 : l 6 = false) (h7 : l 7 = false) (h8 : l 8 = false) {A' : Option Addr} {c' : Nat} {q' : List Nat} (ho : OwnS w' 3 1 A' row.length c' (ints row) q') (hq : ∀ g ∈ q', w.heap.size ≤ g) (hb : Below w.heap.size w w') :
    TrW W0 tb k A c xs q row { s with rA := A', rc := c', rq := q' } (upd l 5) w' := by
  have K : Keep [] w w' := Keep.of_below hb;have hh := H.hob;rw [h8, if_neg (by simp)] at hh;refine ⟨H.kp.trans K (by simp), ?_, ?_, ?_, ?_, fun _ => ⟨ho, fun x hx => by have := hq x hx; have := H.kp.size; omega⟩, H.nq⟩
  · rw [upd_ne (by decide)]; exact fun e => (H.own0 e).keepS K (by simp)
  · rw [upd_ne (by decide), h7]; exact fun e => by cases e
  · rw [upd_ne (by decide), h8, if_neg (by simp)]; exact (hb.block _ (hL_ hh)).trans hh
  · rw [upd_ne (by decide), h6]; exact fun e => by cases e
theorem TrW.build (H : TrW W0 tb k A c xs q row s l w) (h5 : l 5 = true) (h7 : l 7 = false) (h8 : l 8 = false) : TrW W0 tb k A c xs q row { s with bs := w.heap.size } (upd l 6) (w.alloc (.cells #[.slice s.rA row.length s.rc] 56)) := by
  have hh := H.hob;rw [h8, if_neg (by simp)] at hh;refine ⟨H.kp.alloc _, ?_, ?_, ?_, fun _ => ⟨H.kp.size, heap_alloc_new _ _, fun hm => by have := (H.row h5).1.lt _ hm; simp only at this; omega⟩, ?_, H.nq⟩
  · rw [upd_ne (by decide)]; exact fun e => (H.own0 e).alloc _
  · rw [upd_ne (by decide), h7]; exact fun e => by cases e
  · rw [upd_ne (by decide), h8, if_neg (by simp)]; exact hA_ hh _
  · exact fun _ => ⟨(H.row h5).1.alloc _, (H.row h5).2⟩
theorem TrW.app (H : TrW W0 tb k A c xs q row s l w) (h5 : l 5 = true) (h6 : l 6 = true) (h8 : l 8 = false) {g c' : Nat} (o1 : OwnS w' 56 1 (some ⟨g, 0, none⟩) (k + 1) c' (xs ++ [.slice s.rA row.length s.rc]) [g]) (o2 : g ∈ q ∨ w.heap.size = g) (o3 : Keep q w w') :
    TrW W0 tb k A c xs q row { s with A := some ⟨g, 0, none⟩, c := c', g := g } (upd l 7) w' := by
  have hh := H.hob;rw [h8, if_neg (by simp)] at hh;have hr := H.row h5;have hqr : ∀ x ∈ s.rq, x ∉ q := fun x hx hm => by have := hr.2 x hx; have := H.nq.2.2 x hm; omega
  have hb := H.hbs h6;refine ⟨H.kp.trans o3 (fun x hx => .inl (by simp [hx])), by rw [upd_eq]; exact fun e => (by cases e), fun _ => ⟨o1, by rcases o2 with e | e; exact .inl e; exact .inr (by have := H.kp.size; simp only; omega), fun hm => ?_⟩, ?_, ?_, ?_, H.nq⟩
  · rcases o2 with e | e
    · exact hqr _ hm e
    · have := hr.1.lt _ hm; simp only at this; omega
  · rw [upd_ne (by decide), h8, if_neg (by simp)]; exact (o3.block _ (hL_ hh) H.nq.1).trans hh
  · rw [upd_ne (by decide)];exact fun e => ⟨hb.1, (o3.block _ (hL_ hb.2.1) (fun hm => by have := H.nq.2.2 _ hm; omega)).trans hb.2.1, hb.2.2⟩
  · exact fun _ => ⟨hr.1.keepS o3 hqr, hr.2⟩
theorem TrW.store (H : TrW W0 tb k A c xs q row s l w) (h5 : l 5 = true) (h7 : l 7 = true) (h8 : l 8 = false) : TrW W0 tb k A c xs q row s (upd l 8) (w.setCell ⟨tb, 0, none⟩ (.slice s.A (k + 1) s.c)) := by
  have hh := H.hob;rw [h8, if_neg (by simp)] at hh;have K : Keep [tb] w (w.setCell ⟨tb, 0, none⟩ (.slice s.A (k + 1) s.c)) := (Keep.refl _ _).setCell (.inl (by simp)) _;have hr := H.row h5;have ho := H.own1 h7;have htg : s.g ≠ tb := by
    rcases ho.2.1 with e | e
    · exact fun e2 => H.nq.1 (e2 ▸ e)
    · have := H.nq.2.1; omega
  refine ⟨H.kp.setCell (.inl (by simp)) _, by rw [upd_ne (by decide), h7]; exact fun e => (by cases e), fun _ => ⟨ho.1.keepS K (by simpa using htg), ho.2⟩, ?_, ?_, ?_, H.nq⟩
  · rw [upd_eq, if_pos rfl]; exact hS_ hh 0 _
  · rw [upd_ne (by decide)];exact fun e => ⟨(H.hbs e).1, (K.block _ (hL_ (H.hbs e).2.1) (by have := (H.hbs e).1; have := H.nq.2.1; simp; omega)).trans (H.hbs e).2.1, (H.hbs e).2.2⟩
  · exact fun _ => ⟨hr.1.keepS K (fun x hx => by have := hr.2 x hx; have := H.nq.2.1; simp; omega), hr.2⟩
end
def TrV (wb k n m : Nat) (A : Option Addr) (c : Nat) (B : Option Addr) (d : Nat) (s : TrS) : Nat → Value → Prop
  | 0, v => v = .slice A k c
  | 1, v => v = .pointer (some ⟨wb, 0, none⟩)
  | 2, v => v = .pointer (some ⟨wb, 0, none⟩)
  | 3, v => v = .pointer (some ⟨wb, 2, none⟩)
  | 4, v => v = .slice B m d
  | 5, v => v = .slice s.rA n s.rc
  | 6, v => v = .slice (some ⟨s.bs, 0, none⟩) 1 1
  | 7, v => v = .slice s.A (k + 1) s.c
  | _, _ => True
def trL (gb ub tb k : Nat) (A : Option Addr) (c : Nat) (q : List Nat) (rows : List LRow) : List It := [.any gb, .any ub, .blk tb (.cells #[.slice A k c] 59 (0, 0)), .own 56 1 A k c (rows.map LRow.v) q] ++ rows.map LRow.it
def Trace1Post (D : Nat) (W0 : World) (C : WC) (w : World) (s : Stt) (tb k : Nat) (q : List Nat) (rows : List LRow) (e : Ending) (w' : World) : Prop :=
  e = .returned (.tuple #[]) ∧ ∃ (A : Option Addr) (c : Nat) (q' : List Nat) (r : LRow), r.l = s.brash ∧ Own D W0 (trL C.gb C.ub tb (k + 1) A c q' (rows ++ [r])) w' ∧ Keep (tb :: q) w w' ∧ ∀ x ∈ q', x ∈ q ∨ w.heap.size ≤ x
theorem trace1_any {D : Nat} {W0 : World} {C : WC} {w : World} {s : Stt} (h : Int) (E : WcE C w (brV C) (buV C)) (S : WkS C w w s) (xb tb k : Nat) (A : Option Addr) (c : Nat) (q : List Nat) (rows : List LRow) (hx : w.cell? ⟨xb, 0, none⟩ = some (.pointer (some ⟨C.wb, 0, none⟩))) (hxq : xb ∉ tb :: q) (hwq : C.wb ∉ tb :: q)
    (L0 : Own D W0 (trL C.gb C.ub tb k A c q rows) w) (hk : k ≤ 1000) (hc : C.p.chs.length ≤ 6) :
    Calls Try.prog 27 #[.int .i64 h, .pointer (some ⟨tb, 0, none⟩), .pointer (some ⟨xb, 0, none⟩)] w (Trace1Post D W0 C w s tb k q rows) := by
  obtain ⟨iR, hR0, hR1, hR2, hR3⟩ := info_parts infoRow;have hl := S.len;have c2 := E.cells.2.2.1;have HL := Lib.hid (And.intro hx (And.intro hxq (And.intro c2 hwq)));have ho := L0.owns 3 rfl;have hb := L0.heap 2 rfl;have HO := Lib.hid (And.intro ho (And.intro hb (And.intro (fun hm => L0.dis 2 3 _ _ rfl rfl (by decide) tb (by simp [It.fp]) hm) (And.intro (hL_ hb) (fun x hx => ho.lt x hx)))));have HB := Lib.hid (And.intro S.br (And.intro (fun g hg hm => by
      rw [List.mem_singleton.1 hg] at hm;rcases List.mem_cons.1 hm with e | e
      · exact L0.ne 0 2 rfl rfl (by decide) (x := C.gb) (y := tb) (by simp [It.fp]) (by simp [It.fp]) e
      · exact L0.dis 0 3 _ _ rfl rfl (by decide) C.gb (by simp [It.fp]) e : ∀ g ∈ [C.gb], g ∉ tb :: q) (And.intro (by simp [ints, Value.oneCell'] : ∀ u ∈ ints s.brash, u.oneCell' = true) (And.intro (by omega : C.p.chs.length ≤ 100000000) hl.1))))
  have HS := Lib.hid L0;have zx := World.block_lt_of_cell? _ _ hx;have zw := World.block_lt_of_cell? _ _ c2;simp only at zx zw;clear E S L0 ho hb hx hxq hwq c2 hl
  go_enter Try.func27, Try.ntmps27
  go_upto_region 0 with fail
  refine wRS (σ := TrS) (by kernel_rfl) (by kernel_rfl) (fun sg jx vx _ => TrV C.wb k s.brash.length C.p.chs.length A c (some ⟨C.gb, 0, none⟩) C.c1 sg jx vx) (fun sg ly wx => TrW w tb k A c (rows.map LRow.v) q s.brash sg ly wx) ⟨0, none, 0, 0, none, 0, []⟩ ?_ ?_ ?_
  · exact ⟨(Keep.refl _ _).drew, fun _ => HO.out.1, (fun h => by cases h), by rw [if_neg (by simp)]; exact HO.out.2.1, (fun h => by cases h), (fun h => by cases h), HO.out.2.2⟩
  · simp only [AllFrom, Nat.zero_add, Nat.reduceAdd];refine ⟨?_, ?_, ?_, ?_, ?_, ?_, ?_, ?_, ?_, trivial⟩
    · refine sP_ fun sg ly a wx hl hd hW hF => ?_;have et1 := hF.old 1 (by kernel_rfl);simp [Act.eval] at et1;have nS := hF.notYet 0 8 hl (by kernel_rfl);have hh := hW.hob;rw [if_neg (by simp [nS])] at hh;have cL := (cOH hh 0).trans rfl;have zL := hL_ hh;exact ⟨hW.other _ (by decide), _, by go_simp, rfl⟩
    · refine sP_ fun sg ly a wx hl hd hW hF => ?_;have et2 := hF.old 2 (by kernel_rfl);simp [Act.eval] at et2;have cX := hW.kp.cell HL.out.1 HL.out.2.1;exact ⟨hW.other _ (by decide), _, by go_simp, rfl⟩
    · refine sP_ fun sg ly a wx hl hd hW hF => ?_;simp [Region.binds] at hd;have et5 := hF.new 1 5 (by simp [hd]) rfl;simp [TrV, Act.eval] at et5;have cW := hW.kp.cell HL.out.2.2.1 HL.out.2.2.2;exact ⟨hW.other _ (by decide), _, by go_simp, rfl⟩
    · refine sP_ fun sg ly a wx hl hd hW hF => ?_;simp [Region.binds] at hd;have et6 := hF.new 2 6 (by simp [hd]) rfl;simp [TrV, Act.eval] at et6;exact ⟨hW.other _ (by decide), _, by go_simp, rfl⟩
    · refine sP_ fun sg ly a wx hl hd hW hF => ?_;simp [Region.binds] at hd;have et7 := hF.new 3 7 (by simp [hd]) rfl;simp [TrV, Act.eval] at et7;have cW := hW.kp.cell HL.out.2.2.1 HL.out.2.2.2;exact ⟨hW.other _ (by decide), _, by go_simp, rfl⟩
    · refine sC_ fun sg ly a wx hl hd hW hF => ?_;simp [Region.binds] at hd;have et8 := hF.new 4 8 (by simp [hd]) rfl;simp [TrV, Act.eval] at et8;have n6 := hF.notYet 5 6 hl (by kernel_rfl);have n7 := hF.notYet 5 7 hl (by kernel_rfl);have n8 := hF.notYet 5 8 hl (by kernel_rfl);refine ⟨28, #[.slice (some ⟨C.gb, 0, none⟩) C.p.chs.length C.c1], by go_simp, ?_⟩;refine (clonePtI_any _ _ C.c1 (ints s.brash) wx (HB.out.1.keepS hW.kp HB.out.2.1).rd HB.out.2.2.1 (by simp) HB.out.2.2.2.1).mono ?_;rintro e w2 ⟨A2, c2, q2, rfl, o1, o2, o3⟩;rw [← HB.out.2.2.2.2] at o1;refine ⟨.slice A2 s.brash.length c2, { sg with rA := A2, rc := c2, rq := q2 }, by rw [HB.out.2.2.2.2], hW.clone n6 n7 n8 o1 o2 o3, rfl, ?_⟩;intro i u hi h;have i5 : i ≠ 5 := by rintro rfl; rw [hl] at hi; cases hi
      have i6 : i ≠ 6 := by rintro rfl; rw [n6] at hi; cases hi
      have i7 : i ≠ 7 := by rintro rfl; rw [n7] at hi; cases hi
      unfold TrV at h ⊢;split at h <;> first | exact h | exact absurd rfl i5 | exact absurd rfl i6 | exact absurd rfl i7
    · refine sR_ fun sg ly a wx hl hd hW hF => ?_;simp [Region.binds] at hd;have et9 := hF.new 5 9 (by simp [hd]) rfl;simp [TrV, Act.eval] at et9;have n7 := hF.notYet 6 7 hl (by kernel_rfl);have n8 := hF.notYet 6 8 hl (by kernel_rfl);have y5 : ly 5 = true := by simp [hd]
      refine ⟨_, wx.alloc (.cells #[.slice sg.rA s.brash.length sg.rc] 56), { sg with bs := wx.heap.size }, by go_simp, hW.build y5 n7 n8, rfl, ?_⟩;intro i u hi h;have i6 : i ≠ 6 := by rintro rfl; rw [hl] at hi; cases hi
      unfold TrV at h ⊢;split at h <;> first | exact h | exact absurd rfl i6
    · intro sg ly a wx hl hd hW hF;simp [Region.binds] at hd;have et4 := hF.new 0 4 (by simp [hd]) rfl;simp [TrV, Act.eval] at et4;have et10 := hF.new 6 10 (by simp [hd]) rfl;simp [TrV, Act.eval] at et10;have n8 := hF.notYet 7 8 hl (by kernel_rfl);have y6 : ly 6 = true := by simp [hd]
      have y5 : ly 5 = true := by simp [hd]
      have hbs := hW.hbs y6;refine wp_append_S (.tmp 4) (.tmp 10) 59 rfl iR _ 24 Try.underlying59 hR0 hR1 hR2 (by decide) hR3 rfl (by simpa [Act.eval] using et4) ⟨sg.bs, 0, none⟩ (by simpa [Act.eval] using et10) [.slice sg.rA s.brash.length sg.rc] (hW.own0 hl) rfl (fun j v hj => by rw [show (⟨sg.bs, 0, none⟩ : Addr).add j = ⟨sg.bs, j, none⟩ from by simp [Addr.add]; omega]; exact (cOH hbs.2.1 j).trans (by simpa using hj)) (by simp [Value.oneCell']) (by omega) (by omega) ?_;intro g c' w' o1 o2 o3 o4;refine ⟨{ sg with A := some ⟨g, 0, none⟩, c := c', g := g }, _, rfl, hW.app y5 y6 n8 o1 o2 o4, fun _ => rfl, ?_⟩;intro i u hi h;have i7 : i ≠ 7 := by rintro rfl; rw [hl] at hi; cases hi
      unfold TrV at h ⊢;split at h <;> first | exact h | exact absurd rfl i7
    · refine sS_ rfl fun sg ly a wx hl hd hW hF => ?_;simp [Region.binds] at hd;have et1 := hF.old 1 (by kernel_rfl);simp [Act.eval] at et1;have et11 := hF.new 7 11 (by simp [hd]) rfl;simp [TrV, Act.eval] at et11;have y7 : ly 7 = true := by simp [hd]
      have y5 : ly 5 = true := by simp [hd]
      have hh := hW.hob;rw [if_neg (by simp [hl])] at hh;have cL := (cOH hh 0).trans rfl;have fL := fOH hh 0;have zL := hL_ hh;exact ⟨_, sg, .skip, by go_simp, .inl rfl, hW.store y5 y7 hl, fun _ _ _ h => h⟩
  intro sg af w4 hWW hF;obtain ⟨ff, hf, rfl⟩ := hF.lit;clear hf hF;obtain ⟨o1, o2, o3⟩ := hWW.own1 rfl;obtain ⟨r1, r2⟩ := hWW.row rfl;have hob := hWW.hob;simp only [List.length_cons, List.length_nil, Nat.reduceAdd, Nat.reduceLT, decide_true, if_true] at hob;have kp := hWW.kp;obtain ⟨r, hr⟩ : ∃ r : LRow, r = ⟨sg.rA, sg.rc, s.brash, sg.rq⟩ := ⟨_, rfl⟩;have L4 : Own D W0 (trL C.gb C.ub tb (k + 1) sg.A sg.c [sg.g] (rows ++ [r])) w4 := by
    have L0 := HS.out;have hlen : (rows.map LRow.it).length = rows.length := by simp
    have hget : ∀ {a : Nat} {j : It}, (trL C.gb C.ub tb (k + 1) sg.A sg.c [sg.g] (rows ++ [r]))[a]? = some j →
        (a = 2 ∧ j = .blk tb (.cells #[.slice sg.A (k + 1) sg.c] 59 (0, 0))) ∨ (a = 3 ∧ j = .own 56 1 sg.A (k + 1) sg.c ((rows ++ [r]).map LRow.v) [sg.g]) ∨ (a = 4 + rows.length ∧ j = r.it) ∨ (a ≠ 2 ∧ a ≠ 3 ∧ a ≠ 4 + rows.length ∧ (trL C.gb C.ub tb k A c q rows)[a]? = some j) := by
      intro a j hj;unfold trL at hj ⊢
      match a with
      | 0 => exact .inr (.inr (.inr ⟨by decide, by decide, by omega, by simpa using hj⟩))
      | 1 => exact .inr (.inr (.inr ⟨by decide, by decide, by omega, by simpa using hj⟩))
      | 2 => exact .inl ⟨rfl, by simpa using hj.symm⟩
      | 3 => exact .inr (.inl ⟨rfl, by simpa using hj.symm⟩)
      | a + 4 =>
        rw [List.getElem?_append_right (by simp)] at hj;simp only [List.length_cons, List.length_nil, Nat.reduceAdd, Nat.add_sub_cancel, List.map_append, List.map_cons, List.map_nil] at hj;rw [List.getElem?_append] at hj;split at hj
        · rename_i h1
          refine .inr (.inr (.inr ⟨by omega, by omega, by simp at h1; omega, ?_⟩));rw [List.getElem?_append_right (by simp)];simpa using hj
        · rename_i h1
          have h2 := (List.getElem?_eq_some_iff.1 hj).1;simp at h1 h2;have h3 : a = rows.length := by omega
          subst h3;simp at hj;exact .inr (.inr (.inl ⟨by omega, hj.symm⟩))
    refine L0.updG _ (fun a => a = 2 ∨ a = 3 ∨ a = 4 + rows.length) kp (fun x hx => .inl ?_) (fun a j hj => ?_) (fun a j hj hc => ?_) (fun a b i j hi hj hab ha hb x hx hy hz => ?_)
    · rcases List.mem_cons.1 hx with e | hx
      · exact ⟨2, _, .inl rfl, rfl, by rw [e]; simp [It.fp]⟩
      · exact ⟨3, _, .inr (.inl rfl), rfl, hx⟩
    · rcases hget hj with ⟨e, _⟩ | ⟨e, _⟩ | ⟨e, _⟩ | ⟨_, _, _, e⟩
      · exact .inl (.inl e)
      · exact .inl (.inr (.inl e))
      · exact .inl (.inr (.inr e))
      · exact .inr e
    · rcases hget hj with ⟨e, rfl⟩ | ⟨e, rfl⟩ | ⟨e, rfl⟩ | ⟨e1, e2, e3, e⟩
      · subst e; exact ⟨hob, fun x hx => .inl ⟨_, rfl, hx⟩⟩
      · subst e;refine ⟨by rw [List.map_append, hr]; exact o1, fun x hx => ?_⟩;rw [List.mem_singleton.1 hx];rcases o2 with q1 | q1
        · exact .inl ⟨.own 56 1 A k c (rows.map LRow.v) q, rfl, q1⟩
        · exact .inr q1
      · rw [hr]; exact ⟨r1, fun x hx => .inr (r2 x hx)⟩
      · rcases hc with q1 | q1 | q1
        · exact absurd q1 e1
        · exact absurd q1 e2
        · exact absurd q1 e3
    · have htb := hL_ (L0.heap 2 rfl);have F : ∀ {a : Nat} {i : It}, (trL C.gb C.ub tb (k + 1) sg.A sg.c [sg.g] (rows ++ [r]))[a]? = some i → (a = 2 ∨ a = 3 ∨ a = 4 + rows.length) → x ∈ i.fp → (a = 3 ∧ x = sg.g) ∨ (a = 4 + rows.length ∧ x ∈ sg.rq) := by
        intro a i hi hc hx;rcases hget hi with ⟨e, rfl⟩ | ⟨e, rfl⟩ | ⟨e, rfl⟩ | ⟨e1, e2, e3, e⟩
        · rw [List.mem_singleton.1 hx] at hz; omega
        · exact .inl ⟨e, List.mem_singleton.1 hx⟩
        · rw [hr] at hx; exact .inr ⟨e, hx⟩
        · omega
      rcases F hi ha hx with ⟨e1, e2⟩ | ⟨e1, e2⟩
      · rcases F hj hb hy with ⟨e3, e4⟩ | ⟨e3, e4⟩
        · omega
        · exact o3 (e2 ▸ e4)
      · rcases F hj hb hy with ⟨e3, e4⟩ | ⟨e3, e4⟩
        · exact o3 (e4 ▸ e2)
        · omega
  clear o1 r1 r2 hob hWW;simp only [List.filterMap, List.foldl, List.setIfInBounds_toArray, List.set_cons_succ, List.set_cons_zero];have HF := Lib.hid (And.intro L4 (And.intro kp o2));clear L4 kp o2 o3;go_wp2_with fail
  go_end0
  refine ⟨rfl, sg.A, sg.c, [sg.g], r, by rw [hr], HF.out.1, HF.out.2.1, fun x hx => by rw [List.mem_singleton.1 hx]; exact HF.out.2.2⟩
end Go.Proofs.Ytalcinepeofmcaa
