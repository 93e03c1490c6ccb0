import Derived.Test.YthmldeningpjbaaPLp0
import Derived.Test.YthmldeningpjbaaPLp5
import Derived.Test.YthmldeningpjbaaPLp10
import Derived.Test.YthmldeningpjbaaPLp8
import Derived.Test.YthmldeningpjbaaPLp9
import Derived.Test.YthmldeningpjbaaProg
import Derived.Laws.StructEq
import Derived.Test.YthmldeningpjbaaPLp1
import Derived.Deep.RegionHeld3
import Derived.Test.YthmldeningpjbaaPLp2
set_option linter.unusedVariables false
set_option linter.unusedSimpArgs false
set_option maxRecDepth 100000
set_option maxHeartbeats 40000000
namespace Go.Proofs.Ythmldeningpjbaa
open Go Go.RowKit Sp Pt
structure BrR where
  b : Brt
  A : Option Addr
  c : Nat
deriving Inhabited
def brc (y : BrR) : List Value := [.int .i64 y.b.depth, .slice y.A y.b.path.length y.c]
abbrev brcs (l : List BrR) : List Value := l.flatMap brc
theorem brcs_one (l : List BrR) : ∀ u ∈ brcs l, u.oneCell' = true := by
  intro u hu;obtain ⟨y, _, hy⟩ := List.mem_flatMap.1 hu;simp [brc] at hy;rcases hy with rfl | rfl <;> rfl
theorem brcs_get {l : List BrR} {k : Nat} (hk : k < l.length) : (brcs l)[k*2]? = some (.int .i64 l[k].b.depth) ∧ (brcs l)[k*2+1]? = some (.slice l[k].A l[k].b.path.length l[k].c) :=
  ⟨flat_get (f := brc) (s := 2) (fun _ => rfl) hk (j := 0) (by decide), flat_get (f := brc) (s := 2) (fun _ => rfl) hk (j := 1) (by decide)⟩
theorem brcs_len (l : List BrR) : (brcs l).length = l.length * 2 := flat_len (f := brc) (s := 2) (fun _ => rfl) l
theorem BtsB.rows {D : Nat} {w : World} {A : Option Addr} {l : List Brt} (h : BtsB D w A l) :
    ∃ L : List BrR, L.map (·.b) = l ∧ RdB D w 2 A l.length (brcs L) ∧ ∀ y ∈ L, PathB D w y.A y.c y.b.path := by
  by_cases h0 : l = []
  · subst h0;exact ⟨[], rfl, ⟨rfl, fun h => absurd h (by simp)⟩, by simp⟩
  have hn : 0 < l.length := List.length_pos_iff.2 h0;obtain ⟨b, off, _, _, hA, hb, _⟩ := h 0 hn;have key : ∀ k : Fin l.length, ∃ y : BrR, y.b = l[k.1] ∧ w.cell? ⟨b, off + k.1*2, none⟩ = some (.int .i64 l[k.1].depth) ∧ w.cell? ⟨b, off + k.1*2 + 1, none⟩ = some (.slice y.A l[k.1].path.length y.c) ∧ PathB D w y.A y.c l[k.1].path := by
    intro k;obtain ⟨b', off', Ak, ck, e, _, h1, h2, h3⟩ := h k.1 k.2;rw [hA] at e;injection e with e
    injection e with e1 e2 _
    subst e1 e2;exact ⟨⟨l[k.1], Ak, ck⟩, rfl, h1, h2, h3⟩
  obtain ⟨f, hf⟩ := Classical.axiomOfChoice key;have hlen : (List.ofFn f).length = l.length := by simp
  have hget : ∀ k (hk : k < l.length), (List.ofFn f)[k]'(by rw [hlen]; exact hk) = f ⟨k, hk⟩ := fun k hk => by simp
  refine ⟨List.ofFn f, ?_, ⟨by rw [brcs_len, hlen], fun _ => ⟨b, off, hA, hb, fun j u hu => ?_⟩⟩, fun y hy => ?_⟩
  · refine List.ext_getElem (by simp) fun k h1 h2 => ?_;simp only [List.getElem_map, List.getElem_ofFn];exact (hf ⟨k, h2⟩).1
  · have hj := (List.getElem?_eq_some_iff.1 hu).1;rw [brcs_len, hlen] at hj;have hk : j / 2 < l.length := by omega
    obtain ⟨g0, g1⟩ := brcs_get (l := List.ofFn f) (k := j / 2) (by rw [hlen]; exact hk);obtain ⟨e0, e1, e2, _⟩ := hf ⟨j / 2, hk⟩;rw [hget _ hk, e0] at g0 g1;rcases (by omega : j % 2 = 0 ∨ j % 2 = 1) with h | h
    · rw [show j = j / 2 * 2 from by omega, g0] at hu;injection hu with hu
      rw [show j = j / 2 * 2 from by omega, ← hu];exact e1
    · rw [show j = j / 2 * 2 + 1 from by omega, g1] at hu;injection hu with hu
      rw [show off + j = off + j / 2 * 2 + 1 from by omega, ← hu];exact e2
  · obtain ⟨k, rfl⟩ := (List.mem_ofFn).1 hy;obtain ⟨e0, _, _, e3⟩ := hf k;rw [e0];exact e3
theorem BtsB.of_rows {D : Nat} {w : World} {A : Option Addr} {l : List Brt} {L : List BrR} (hm : L.map (·.b) = l) (hr : RdB D w 2 A l.length (brcs L)) (hp : ∀ y ∈ L, PathB D w y.A y.c y.b.path) : BtsB D w A l := by
  intro k hk;have hk' : k < L.length := by rw [← hm] at hk; simpa using hk
  have e : L[k].b = l[k] := by subst hm; simp
  obtain ⟨b, off, hA, hb, hc⟩ := hr.2 (by omega);obtain ⟨g0, g1⟩ := brcs_get hk';rw [e] at g0 g1;have := hp _ (List.getElem_mem hk');rw [e] at this;exact ⟨b, off, L[k].A, L[k].c, hA, hb, hc _ _ g0, by rw [Nat.add_assoc]; exact hc _ _ g1, this⟩
end Go.Proofs.Ythmldeningpjbaa
namespace Go.Proofs.Ythmldeningpjbaa
open Go Go.RowKit Sp Pt
structure PathN (S : List Nat) (w : World) (A : Option Addr) (c : Nat) (l : List Int) : Prop where
  rd : Rd w 1 A l.length (ints l)
  off : 0 < l.length → ∀ b o, A = some ⟨b, o, none⟩ → b ∉ S
  ge : l.length ≤ c
  cap : c ≤ 9223372036854775807
  nil : A = none → c = 0
section
variable {S S' : List Nat} {w w' : World} {A : Option Addr} {c : Nat} {l : List Int}
theorem PathN.of_pathB {D : Nat} (h : PathB D w A c l) (hD : D ≤ w.heap.size) (hS : ∀ x ∈ S, D ≤ x) : PathN S w A c l :=
  ⟨h.1.rd hD, fun h0 b o e hm => by
    obtain ⟨b', o', e', hb, _⟩ := h.1.2 h0;rw [e] at e';injection e' with e'
    injection e' with e1
    have := hS b hm;omega, h.2.1, h.2.2.1, h.2.2.2⟩
theorem PathN.pathB (h : PathN S w A c l) : PathB w.heap.size w A c l := ⟨RdB.of h.rd (Nat.le_refl _), h.ge, h.cap, h.nil⟩
theorem PathN.of_ownA {e : TypeId} {q : List Nat} (h : OwnA w e A l.length c (ints l) q) (hS : ∀ g ∈ q, g ∉ S) : PathN S w A c l := by
  refine ⟨h.rd, fun h0 b o he hm => hS b (h.mem_ h0 he) hm, h.ge, ?_, fun hA => ?_⟩
  · rcases h.2 with ⟨_, _, rfl, _⟩ | ⟨g, off, cur, _, _, _, _, h, _⟩
    · omega
    · exact h
  · rcases h.2 with ⟨_, _, h2, _⟩ | ⟨g, off, cur, h1, _⟩
    · exact h2
    · rw [hA] at h1; cases h1
theorem PathN.keep (h : PathN S w A c l) {T : List Nat} (hk : Keep T w w') (hT : ∀ x ∈ T, x ∈ S ∨ w.heap.size ≤ x) (hS : ∀ x ∈ S', x ∈ S ∨ w.heap.size ≤ x) : PathN S' w' A c l := by
  have hlt : ∀ b o, 0 < l.length → A = some ⟨b, o, none⟩ → b < w.heap.size := fun b o h0 e => by
    obtain ⟨b', o', e', hb, _⟩ := h.rd.2 h0;rw [e] at e';injection e' with e'
    injection e' with e1
    omega
  by_cases h0 : 0 < l.length
  · refine ⟨hk.rd h.rd fun b o e hm => ?_, fun _ b o e hm => ?_, h.ge, h.cap, h.nil⟩
    · have := hlt b o h0 e;rcases hT b hm with h1 | h1
      · exact h.off h0 b o e h1
      · omega
    · have := hlt b o h0 e;rcases hS b hm with h1 | h1
      · exact h.off h0 b o e h1
      · omega
  · exact ⟨⟨h.rd.1, fun h1 => absurd h1 h0⟩, fun h1 => absurd h1 h0, h.ge, h.cap, h.nil⟩
end
def PathsN (S : List Nat) (w : World) (L : List BrR) : Prop := ∀ y ∈ L, PathN S w y.A y.c y.b.path
section
variable {S S' : List Nat} {w w' : World} {L : List BrR}
theorem PathsN.keep (h : PathsN S w L) {T : List Nat} (hk : Keep T w w') (hT : ∀ x ∈ T, x ∈ S ∨ w.heap.size ≤ x) (hS : ∀ x ∈ S', x ∈ S ∨ w.heap.size ≤ x) : PathsN S' w' L := fun y hy => (h y hy).keep hk hT hS
theorem PathsN.set (h : PathsN S w L) {k : Nat} {y : BrR} (hy : PathN S w y.A y.c y.b.path) : PathsN S w (L.set k y) := fun z hz => by
  rcases List.mem_or_eq_of_mem_set hz with h1 | rfl
  · exact h z h1
  · exact hy
theorem PathsN.snoc (h : PathsN S w L) {y : BrR} (hy : PathN S w y.A y.c y.b.path) : PathsN S w (L ++ [y]) := fun z hz => by
  rcases List.mem_append.1 hz with h1 | h1
  · exact h z h1
  · rw [List.mem_singleton.1 h1]; exact hy
end
theorem brcs_set {L : List BrR} {k : Nat} (hk : k < L.length) (A : Option Addr) (c : Nat) : brcs (L.set k ⟨L[k].b, A, c⟩) = (brcs L).set (k * 2 + 1) (.slice A L[k].b.path.length c) := by
  induction L generalizing k with
  | nil => simp at hk
  | cons x L ih =>
    cases k with
    | zero => simp [brcs, brc]
    | succ k =>
      have := ih (k := k) (by simpa using hk);simp only [List.set_cons_succ, brcs, List.flatMap_cons, List.getElem_cons_succ] at this ⊢;rw [this];simp [brc, show (k + 1) * 2 + 1 = k * 2 + 1 + 1 + 1 from by omega]
theorem map_set_b {L : List BrR} {k : Nat} (hk : k < L.length) (A : Option Addr) (c : Nat) : (L.set k ⟨L[k].b, A, c⟩).map (·.b) = L.map (·.b) := by
  rw [List.map_set];have : (L.map (·.b))[k]'(by simpa using hk) = L[k].b := by simp
  rw [← this, List.set_getElem_self]
theorem OwnS.nilS {w : World} {e : TypeId} {sz : Nat} {A : Option Addr} {n c : Nat} {xs : List Value} {q : List Nat} (h : OwnS w e sz A n c xs q) (hA : A = none) : c = 0 := by
  rcases h.2 with ⟨_, _, h2, _⟩ | ⟨g, cur, h1, _⟩
  · exact h2
  · rw [hA] at h1; cases h1
theorem PrtB.of_own {w : World} {e1 e2 : TypeId} {Ac Ab : Option Addr} {cc cb : Nat} {q1 q2 S : List Nat} {p : Prt} {L : List BrR} (h1 : OwnS w e1 3 Ac p.chs.length cc (chcs p.chs) q1) (h2 : OwnS w e2 2 Ab p.bts.length cb (brcs L) q2) (hL : L.map (·.b) = p.bts) (hp : PathsN S w L) : PrtB w.heap.size w Ac cc Ab cb p :=
  ⟨RdB.of h1.rd (Nat.le_refl _), BtsB.of_rows hL (RdB.of h2.rd (Nat.le_refl _)) (fun y hy => (hp y hy).pathB), ⟨h1.ge, h1.cap, h1.nilS⟩, ⟨h2.ge, h2.cap, h2.nilS⟩⟩
theorem PlnB.of_own {w : World} {e1 e2 : TypeId} {Al As : Option Addr} {cl cs : Nat} {q1 q2 : List Nat} {l : Pln} (h1 : OwnS w e1 6 Al l.calls.length cl (cacs l.calls) q1) (h2 : OwnS w e2 3 As l.swps.length cs (swcs l.swps) q2) : PlnB w.heap.size w Al cl As cs l :=
  ⟨RdB.of h1.rd (Nat.le_refl _), RdB.of h2.rd (Nat.le_refl _), ⟨h1.ge, h1.cap, h1.nilS⟩, ⟨h2.ge, h2.cap, h2.nilS⟩⟩
end Go.Proofs.Ythmldeningpjbaa
namespace Go.Proofs.Ythmldeningpjbaa
open Go Go.RowKit Sp Pt
def newQ (w w' : World) : List Nat := (List.range w'.heap.size).filter (fun x => decide (w.heap.size ≤ x))
theorem mem_newQ {w w' : World} {x : Nat} : x ∈ newQ w w' ↔ w.heap.size ≤ x ∧ x < w'.heap.size := by simp [newQ, and_comm]
def noIt : It := .gen [] (fun _ => True)
section
variable {D : Nat} {W0 w w' : World} {L : List It}
theorem Own.blank (h : Own D W0 L w) : Own D W0 (L ++ [noIt]) w := h.add (i := noIt) ⟨by simp, fun _ _ _ _ => trivial⟩ (by simp [noIt, It.fp]) (by simp [noIt, It.fp])
theorem Own.newG (h : Own D W0 L w) (k : Nat) (hi : L[k]? = some noIt) {q : List Nat} {P : World → Prop} (hb : Below w.heap.size w w') (hh : (It.gen q P).holds D w') (hf : ∀ x ∈ q, w.heap.size ≤ x) : Own D W0 (L.set k (.gen q P)) w' :=
  h.upd k hi (Keep.of_below hb) hh (fun x hx => .inr (hf x hx))
theorem Own.newB (h : Own D W0 L w) (k : Nat) (hi : L[k]? = some noIt) (o : Obj) : Own D W0 (L.set k (.blk w.heap.size o)) (w.alloc o) :=
  h.upd k hi ((Keep.refl _ _).alloc _) (heap_alloc_new w o) (fun x hx => .inr (by rw [List.mem_singleton.1 hx]; exact Nat.le_refl _))
theorem Own.thing (h : Own D W0 L w) (k : Nat) {q : List Nat} {P : World → Prop} (hi : L[k]? = some (.gen q P)) : P w := (h.get k hi).2 [] w (Keep.refl _ _) (by simp)
end
def PrtH (Ac : Option Addr) (cc : Nat) (Ab : Option Addr) (cb : Nat) (p : Prt) : World → Prop := fun w => PrtB w.heap.size w Ac cc Ab cb p
def NewPrt (w : World) (p : Prt) (e : Ending) (w' : World) : Prop := ∃ Ac1 cc1 Ab1 cb1 q, e = .returned (.agg (prtV Ac1 cc1 Ab1 cb1 p)) ∧ (∀ D, (It.gen q (PrtH Ac1 cc1 Ab1 cb1 p)).holds D w') ∧ (∀ x ∈ q, w.heap.size ≤ x) ∧ Below w.heap.size w w'
theorem prtH_new {w w' : World} {e1 e2 : TypeId} {Ac Ab : Option Addr} {cc cb : Nat} {q1 q2 : List Nat} {p : Prt} {L : List BrR} (h1 : OwnS w' e1 3 Ac p.chs.length cc (chcs p.chs) q1) (h2 : OwnS w' e2 2 Ab p.bts.length cb (brcs L) q2) (hL : L.map (·.b) = p.bts) (hp : PathsN (List.range w.heap.size) w' L)
    (hq1 : ∀ x ∈ q1, w.heap.size ≤ x) (hq2 : ∀ x ∈ q2, w.heap.size ≤ x) (D : Nat) : (It.gen (newQ w w') (PrtH Ac cc Ab cb p)).holds D w' := by
  refine ⟨fun x hx => (mem_newQ.1 hx).2, fun S wx hk hS => ?_⟩;refine PrtB.of_own (S := []) (h1.keepS hk (fun g hg hm => hS g hm (mem_newQ.2 ⟨hq1 g hg, h1.lt g hg⟩))) (h2.keepS hk (fun g hg hm => hS g hm (mem_newQ.2 ⟨hq2 g hg, h2.lt g hg⟩))) hL (fun y hy => ?_);have hy' := hp y hy;by_cases h0 : 0 < y.b.path.length
  · refine ⟨hk.rd hy'.rd fun b o e hm => ?_, fun _ _ _ _ => by simp, hy'.ge, hy'.cap, hy'.nil⟩;obtain ⟨b', o', e', hb, _⟩ := hy'.rd.2 h0;rw [e] at e';injection e' with e'
    injection e' with e1 _ _
    have := hy'.off h0 b o e;simp only [List.mem_range, Nat.not_lt] at this;exact hS b hm (mem_newQ.2 ⟨this, by omega⟩)
  · exact ⟨⟨hy'.rd.1, fun h1 => absurd h1 h0⟩, fun h1 => absurd h1 h0, hy'.ge, hy'.cap, hy'.nil⟩
end Go.Proofs.Ythmldeningpjbaa
namespace Go.Proofs.Ythmldeningpjbaa
open Go Go.RowKit Sp Pt
theorem callsN_lens (p : Prt) (h : Int) : ∀ (l : List Cal) (i : Nat) (s : Stt), (callsN p h l i s).2.2.brash.length = s.brash.length ∧ (callsN p h l i s).2.2.busy.length = s.busy.length
  | [], _, _ => ⟨rfl, rfl⟩
  | c :: l, i, s => by
    rw [callsN];split
    · exact callsN_lens p h l _ _
    · split
      · exact ⟨rfl, rfl⟩
      · split
        · exact ⟨rfl, rfl⟩
        · have := callsN_lens p h l (i + 1) ⟨growN p (bt p c.berth).path s.brash, s.busy.set c.berth.toNat (!c.out)⟩;rw [this.1, this.2];simp [growN_length]
theorem hourR_lens (p : Prt) (l : Pln) (k : Nat) (s : Stt) : (hourR p l k s).2.2.brash.length = s.brash.length ∧ (hourR p l k s).2.2.busy.length = s.busy.length := by
  have := callsN_lens p k l.calls 0 ⟨swpN p k l.swps s.brash, s.busy⟩;unfold hourR;rw [this.1, this.2];simp [swpN_length]
theorem stN_lens (p : Prt) (l : Pln) (s : Stt) : ∀ k, (stN p l s k).brash.length = s.brash.length ∧ (stN p l s k).busy.length = s.busy.length
  | 0 => ⟨rfl, rfl⟩
  | k + 1 => by
    have h1 := hourR_lens p l k (stN p l s k);have h2 := stN_lens p l s k;rw [stN];unfold hourS frostL;simp only [frostN_length];exact ⟨h1.1.trans h2.1, h1.2.trans h2.2⟩
end Go.Proofs.Ythmldeningpjbaa
namespace Go.Proofs.Ythmldeningpjbaa.Pt
open Sp
def LeB (a b : List Int) : Prop := a.length = b.length ∧ ∀ i : Int, getI a i ≤ getI b i
def Ge0 (a : List Int) : Prop := ∀ i : Int, 0 ≤ getI a i
theorem getI_setI (l : List Int) (i x c : Int) : getI (setI l i x) c = if i.toNat = c.toNat ∧ i.toNat < l.length then x else getI l c := by
  unfold getI setI;rw [List.getD_eq_getElem?_getD, List.getD_eq_getElem?_getD, List.getElem?_set];by_cases h : i.toNat = c.toNat
  · rw [if_pos h];by_cases h2 : i.toNat < l.length
    · rw [if_pos h2, if_pos ⟨h, h2⟩]; rfl
    · rw [if_neg h2, if_neg (fun e => h2 e.2)];rw [← h, List.getElem?_eq_none (by omega)]
  · rw [if_neg h, if_neg (fun e => h e.1)]
theorem LeB.refl (a : List Int) : LeB a a := ⟨rfl, fun _ => Int.le_refl _⟩
theorem LeB.trans {a b c : List Int} (h : LeB a b) (g : LeB b c) : LeB a c := ⟨h.1.trans g.1, fun i => Int.le_trans (h.2 i) (g.2 i)⟩
theorem LeB.set {a b : List Int} (h : LeB a b) {i x y : Int} (hx : x ≤ y) : LeB (setI a i x) (setI b i y) := by
  refine ⟨by rw [setI_length, setI_length]; exact h.1, fun c => ?_⟩;rw [getI_setI, getI_setI, h.1];split
  · exact hx
  · exact h.2 c
theorem Ge0.set {a : List Int} (h : Ge0 a) {i x : Int} (hx : 0 ≤ x) : Ge0 (setI a i x) := fun c => by
  rw [getI_setI];split
  · exact hx
  · exact h c
theorem ge0_of {a : List Int} (h : ∀ x ∈ a, 0 ≤ x) : Ge0 a := fun i => by
  unfold getI;rw [List.getD_eq_getElem?_getD];by_cases hi : i.toNat < a.length
  · rw [List.getElem?_eq_getElem hi]; exact h _ (List.getElem_mem hi)
  · rw [List.getElem?_eq_none (by omega)]; exact Int.le_refl 0
theorem leB_of {a b : List Int} (hl : a.length = b.length) (h : ∀ i : Nat, i < a.length → a.getD i 0 ≤ b.getD i 0) : LeB a b := ⟨hl, fun i => by
  unfold getI;by_cases hi : i.toNat < a.length
  · exact h _ hi
  · rw [List.getD_eq_getElem?_getD, List.getD_eq_getElem?_getD, List.getElem?_eq_none (by omega), List.getElem?_eq_none (by omega)];exact Int.le_refl _⟩
theorem swp1_le (p : Prt) (h : Int) (s : Swp) {a b : List Int} (hh : LeB a b) : LeB (swp1 p h a s) (swp1 p h b s) := by
  unfold swp1;split
  · refine hh.set ?_;have := hh.2 s.channel;omega
  · exact hh
theorem swp1_ge (p : Prt) (h : Int) (s : Swp) {a : List Int} (hh : Ge0 a) : Ge0 (swp1 p h a s) := by
  unfold swp1;split
  · exact hh.set (by omega)
  · exact hh
theorem swpN_le (p : Prt) (h : Int) : ∀ (l : List Swp) {a b : List Int}, LeB a b → LeB (swpN p h l a) (swpN p h l b)
  | [], _, _, hh => hh
  | s :: l, _, _, hh => swpN_le p h l (swp1_le p h s hh)
theorem swpN_ge (p : Prt) (h : Int) : ∀ (l : List Swp) {a : List Int}, Ge0 a → Ge0 (swpN p h l a)
  | [], _, hh => hh
  | s :: l, _, hh => swpN_ge p h l (swp1_ge p h s hh)
theorem swp1_less (p : Prt) (h : Int) (s : Swp) (hs : 0 ≤ s.tugs * (ch p s.channel).clear) {a : List Int} (hh : Ge0 a) : LeB (swp1 p h a s) a := by
  unfold swp1;split
  · refine ⟨setI_length _ _ _, fun c => ?_⟩;rw [getI_setI];split
    · next e =>
      have := hh c;have e1 : getI a s.channel = getI a c := by unfold getI; rw [e.1]
      rw [e1];omega
    · exact Int.le_refl _
  · exact LeB.refl a
theorem grow1_le (p : Prt) (n : Int) {a b : List Int} (hh : LeB a b) : LeB (grow1 p a n) (grow1 p b n) := hh.set (by have := hh.2 n; omega)
theorem growN_le (p : Prt) : ∀ (l : List Int) {a b : List Int}, LeB a b → LeB (growN p l a) (growN p l b)
  | [], _, _, hh => hh
  | n :: l, _, _, hh => growN_le p l (grow1_le p n hh)
theorem growN_ge (p : Prt) (hg : ∀ n : Int, 0 ≤ (ch p n).grow) : ∀ (l : List Int) {a : List Int}, Ge0 a → Ge0 (growN p l a)
  | [], _, hh => hh
  | n :: l, a, hh => growN_ge p hg l (hh.set (by have := hh n; have := hg n; omega))
theorem frostN_le (p : Prt) {a b : List Int} (hh : LeB a b) : ∀ k, LeB (frostN p a k) (frostN p b k)
  | 0 => hh
  | k + 1 => (frostN_le p hh k).set (by have := (frostN_le p hh k).2 k; omega)
theorem frostN_ge (p : Prt) (hg : ∀ n : Int, 0 ≤ (ch p n).frost) {a : List Int} (hh : Ge0 a) : ∀ k, Ge0 (frostN p a k)
  | 0 => hh
  | k + 1 => (frostN_ge p hg hh k).set (by have := frostN_ge p hg hh k k; have := hg k; omega)
theorem callsN_le (p : Prt) (h : Int) : ∀ (l : List Cal) (i : Nat) {s t : Stt}, LeB t.brash s.brash → t.busy = s.busy → (callsN p h l i s).2.1 = 0 →
    (callsN p h l i t).2.1 = 0 ∧ LeB (callsN p h l i t).2.2.brash (callsN p h l i s).2.2.brash ∧ (callsN p h l i t).2.2.busy = (callsN p h l i s).2.2.busy
  | [], _, _, _, hb, hu, _ => ⟨rfl, hb, hu⟩
  | c :: l, i, s, t, hb, hu, h0 => by
    unfold callsN at h0 ⊢;by_cases h1 : c.hour ≠ h
    · rw [if_pos h1] at h0;simp only [if_pos h1];exact callsN_le p h l (i + 1) hb hu h0
    · rw [if_neg h1] at h0;simp only [if_neg h1];by_cases h2 : s.busy.getD c.berth.toNat false ≠ c.out
      · rw [if_pos h2] at h0; exact absurd h0 (by show ¬ (9 : Int) = 0; decide)
      · rw [if_neg h2] at h0;rw [if_neg (by rw [hu]; exact h2), if_neg h2];by_cases h3 : (bt p c.berth).path.any (fun n => decide (c.most < getI s.brash n)) = true
        · rw [if_pos h3] at h0; exact absurd h0 (by show ¬ (8 : Int) = 0; decide)
        · rw [if_neg h3] at h0;have h4 : ¬ (bt p c.berth).path.any (fun n => decide (c.most < getI t.brash n)) = true := fun e => h3 (by
            obtain ⟨n, n1, n2⟩ := List.any_eq_true.1 e;have n3 := of_decide_eq_true n2;have n4 := hb.2 n;exact List.any_eq_true.2 ⟨n, n1, decide_eq_true (by omega)⟩)
          rw [if_neg h4, if_neg h3];exact callsN_le p h l (i + 1) (growN_le p _ hb) (by simp only [hu]) h0
theorem callsN_ge (p : Prt) (h : Int) (hg : ∀ n : Int, 0 ≤ (ch p n).grow) : ∀ (l : List Cal) (i : Nat) {s : Stt}, Ge0 s.brash → Ge0 (callsN p h l i s).2.2.brash
  | [], _, _, hb => hb
  | c :: l, i, s, hb => by
    unfold callsN;split
    · exact callsN_ge p h hg l (i + 1) hb
    · split
      · exact hb
      · split
        · exact hb
        · exact callsN_ge p h hg l (i + 1) (growN_ge p hg _ hb)
theorem runF_all {p : Prt} {l : Pln} {s : Stt} : ∀ {n k : Nat}, (runF p l s k n).2 = 0 ↔ ∀ j, k ≤ j → j < k + n → (hourR p l j (stN p l s j)).2.1 = 0
  | 0, k => ⟨fun _ j h1 h2 => by omega, fun _ => rfl⟩
  | n + 1, k => by
    rw [runF];constructor
    · intro h j h1 h2;by_cases h3 : (hourR p l k (stN p l s k)).2.1 ≠ 0
      · rw [if_pos h3] at h; exact absurd h h3
      · rw [if_neg h3] at h;by_cases e : j = k
        · subst e; exact Decidable.not_not.1 h3
        · exact runF_all.1 h j (by omega) (by omega)
    · intro h;rw [if_neg (by rw [h k (Nat.le_refl _) (by omega)]; simp)];exact runF_all.2 fun j h1 h2 => h j (by omega) (by omega)
theorem callsN_tugs (p : Prt) (t : Int) (h : Int) : ∀ (l : List Cal) (i : Nat) (S : Stt), callsN ⟨p.chs, p.bts, t⟩ h l i S = callsN p h l i S
  | [], _, _ => rfl
  | c :: l, i, S => by
    unfold callsN;rw [callsN_tugs p t h l (i + 1) S, callsN_tugs p t h l (i + 1) _];rfl
theorem frostN_tugs (p : Prt) (t : Int) (S : List Int) : ∀ k, frostN ⟨p.chs, p.bts, t⟩ S k = frostN p S k
  | 0 => rfl
  | k + 1 => by
    unfold frostN;rw [frostN_tugs p t S k];rfl
theorem frostL_tugs (p : Prt) (t : Int) (S : List Int) : frostL ⟨p.chs, p.bts, t⟩ S = frostL p S := frostN_tugs p t S p.chs.length
structure Mor (p q : Prt) (l m : Pln) : Prop where
  chs : q.chs = p.chs
  bts : q.bts = p.bts
  hrs : m.hours = l.hours
  cls : m.calls = l.calls
  ext : ∃ L, m.swps = l.swps ++ L ∧ ∀ x ∈ L, 0 ≤ x.tugs * (ch p x.channel).clear
  grow : ∀ n : Int, 0 ≤ (ch p n).grow
  frost : ∀ n : Int, 0 ≤ (ch p n).frost
theorem swpL_less (p : Prt) (h : Int) : ∀ (L : List Swp), (∀ x ∈ L, 0 ≤ x.tugs * (ch p x.channel).clear) → ∀ {a : List Int}, Ge0 a → LeB (swpN p h L a) a
  | [], _, a, _ => LeB.refl a
  | x :: L, hL, a, hh => (swpL_less p h L (fun y hy => hL y (by simp [hy])) (swp1_ge p h x hh)).trans (swp1_less p h x (hL x (by simp)) hh)
theorem mor_run {p q : Prt} {l m : Pln} (H : Mor p q l m) {s t : Stt} (hb : LeB t.brash s.brash) (hu : t.busy = s.busy) (h0 : Ge0 t.brash) {N : Nat} (hr : ∀ j, j < N → (hourR p l j (stN p l s j)).2.1 = 0) :
    ∀ k, k ≤ N → LeB (stN q m t k).brash (stN p l s k).brash ∧ (stN q m t k).busy = (stN p l s k).busy ∧ Ge0 (stN q m t k).brash ∧ ∀ j, j < k → (hourR q m j (stN q m t j)).2.1 = 0
  | 0, _ => ⟨hb, hu, h0, fun j hj => by omega⟩
  | k + 1, hk => by
    obtain ⟨i1, i2, i3, i4⟩ := mor_run H hb hu h0 hr k (by omega);obtain ⟨L, e1, e2⟩ := H.ext;have hq : q = ⟨p.chs, p.bts, q.tugs⟩ := by cases q; cases H.chs; cases H.bts; rfl
    have sw : swpN q k m.swps (stN q m t k).brash = swpN p k L (swpN p k l.swps (stN q m t k).brash) := by
      rw [e1]; unfold swpN; rw [List.foldl_append]; rw [hq]; rfl
    have hsw : LeB (swpN q k m.swps (stN q m t k).brash) (swpN p k l.swps (stN p l s k).brash) := by
      rw [sw];exact (swpL_less p k L e2 (swpN_ge p k l.swps i3)).trans (swpN_le p k l.swps i1)
    have hsg : Ge0 (swpN q k m.swps (stN q m t k).brash) := swpN_ge q k m.swps i3;have hcs : ∀ S, callsN q k m.calls 0 S = callsN p k l.calls 0 S := fun S => by rw [H.cls, hq]; exact callsN_tugs p q.tugs k l.calls 0 S
    have hc := callsN_le p k l.calls 0 (s := ⟨swpN p k l.swps (stN p l s k).brash, (stN p l s k).busy⟩) (t := ⟨swpN q k m.swps (stN q m t k).brash, (stN q m t k).busy⟩) hsw i2 (hr k (by omega));have hg := callsN_ge p k H.grow l.calls 0 (s := ⟨swpN q k m.swps (stN q m t k).brash, (stN q m t k).busy⟩) hsg;rw [← hcs] at hc hg;have hfr : ∀ S, frostL q S = frostL p S := fun S => by rw [hq]; exact frostL_tugs p q.tugs S
    refine ⟨?_, hc.2.2, ?_, fun j hj => ?_⟩
    · show LeB (frostL q _) (frostL p _);rw [hfr];exact frostN_le p hc.2.1 p.chs.length
    · show Ge0 (frostL q _);rw [hfr];exact frostN_ge p H.frost hg p.chs.length
    · by_cases e : j = k
      · subst e; exact hc.1
      · exact i4 j (by omega)
end Go.Proofs.Ythmldeningpjbaa.Pt
namespace Go.Proofs.Ythmldeningpjbaa.Pt
open Sp
section
variable {p : Prt} {h : Int}
theorem callsN_skip : ∀ {A : List Cal} {i : Nat} {s : Stt}, (∀ c ∈ A, c.hour ≠ h) → callsN p h A i s = (i + A.length, 0, s)
  | [], _, _, _ => rfl
  | c :: A, i, s, hA => by
    rw [callsN, if_pos (hA c (by simp)), callsN_skip (fun x hx => hA x (by simp [hx])), List.length_cons]
    congr 1; omega
theorem callsN_app : ∀ {A B : List Cal} {i : Nat} {s : Stt}, (callsN p h A i s).2.1 = 0 → callsN p h (A ++ B) i s = callsN p h B (i + A.length) (callsN p h A i s).2.2
  | [], _, _, _, _ => rfl
  | c :: A, B, i, s, h0 => by
    rw [List.cons_append];rw [callsN] at h0 ⊢;rw [callsN];have e : i + (c :: A).length = (i + 1) + A.length := by rw [List.length_cons]; omega
    rw [e];by_cases h1 : c.hour ≠ h
    · rw [if_pos h1] at h0;rw [if_pos h1, if_pos h1];exact callsN_app h0
    · rw [if_neg h1] at h0;rw [if_neg h1, if_neg h1];by_cases h2 : s.busy.getD c.berth.toNat false ≠ c.out
      · rw [if_pos h2] at h0; exact absurd h0 (by show ¬ (9 : Int) = 0; decide)
      · rw [if_neg h2] at h0;rw [if_neg h2, if_neg h2];by_cases h3 : (bt p c.berth).path.any (fun n => decide (c.most < getI s.brash n)) = true
        · rw [if_pos h3] at h0; exact absurd h0 (by show ¬ (8 : Int) = 0; decide)
        · rw [if_neg h3] at h0;rw [if_neg h3, if_neg h3];exact callsN_app h0
theorem callsN_err : ∀ {A B : List Cal} {i : Nat} {s : Stt}, (callsN p h A i s).2.1 ≠ 0 → callsN p h (A ++ B) i s = callsN p h A i s
  | [], _, _, _, h0 => absurd rfl h0
  | c :: A, B, i, s, h0 => by
    rw [List.cons_append];rw [callsN] at h0 ⊢;rw [callsN];by_cases h1 : c.hour ≠ h
    · rw [if_pos h1] at h0;rw [if_pos h1, if_pos h1];exact callsN_err h0
    · rw [if_neg h1] at h0;rw [if_neg h1, if_neg h1];by_cases h2 : s.busy.getD c.berth.toNat false ≠ c.out
      · rw [if_pos h2, if_pos h2]
      · rw [if_neg h2] at h0;rw [if_neg h2, if_neg h2];by_cases h3 : (bt p c.berth).path.any (fun n => decide (c.most < getI s.brash n)) = true
        · rw [if_pos h3, if_pos h3]
        · rw [if_neg h3] at h0;rw [if_neg h3, if_neg h3];exact callsN_err h0
theorem callsN_tail {A B : List Cal} {i : Nat} {s : Stt} (hB : ∀ c ∈ B, c.hour ≠ h) : (callsN p h (A ++ B) i s).2 = (callsN p h A i s).2 := by
  by_cases h0 : (callsN p h A i s).2.1 = 0
  · rw [callsN_app h0, callsN_skip hB];show ((0 : Int), (callsN p h A i s).2.2) = _;rw [← h0]
  · rw [callsN_err h0]
theorem callsN_from : ∀ {A : List Cal} {i : Nat} {s : Stt}, i ≤ (callsN p h A i s).1
  | [], _, _ => Nat.le_refl _
  | c :: A, i, s => by
    rw [callsN];have h1 : ∀ S, i ≤ (callsN p h A (i + 1) S).1 := fun S => Nat.le_trans (Nat.le_succ i) callsN_from
    split
    · exact h1 _
    · split
      · exact Nat.le_refl _
      · split
        · exact Nat.le_refl _
        · exact h1 _
theorem callsN_busy : ∀ {A : List Cal} {i : Nat} {s : Stt}, (callsN p h A i s).2.1 = 0 → (callsN p h A i s).2.2.busy = outsAft (A.filter fun c => decide (c.hour = h)) s.busy
  | [], _, _, _ => rfl
  | c :: A, i, s, h0 => by
    rw [callsN] at h0 ⊢;by_cases h1 : c.hour ≠ h
    · rw [if_pos h1] at h0;rw [if_pos h1, callsN_busy h0, List.filter_cons_of_neg (by simpa using h1)]
    · rw [if_neg h1] at h0;rw [if_neg h1];by_cases h2 : s.busy.getD c.berth.toNat false ≠ c.out
      · rw [if_pos h2] at h0; exact absurd h0 (by show ¬ (9 : Int) = 0; decide)
      · rw [if_neg h2] at h0;rw [if_neg h2];by_cases h3 : (bt p c.berth).path.any (fun n => decide (c.most < getI s.brash n)) = true
        · rw [if_pos h3] at h0; exact absurd h0 (by show ¬ (8 : Int) = 0; decide)
        · rw [if_neg h3] at h0;rw [if_neg h3, callsN_busy h0, List.filter_cons_of_pos (by simpa using Decidable.not_not.1 h1)];rfl
theorem growN_other {n : Int} : ∀ (path : List Int) {b : List Int}, (∀ x ∈ path, x.toNat ≠ n.toNat) → getI (growN p path b) n = getI b n
  | [], _, _ => rfl
  | x :: path, b, hx => by
    show getI (growN p path (grow1 p b x)) n = _;rw [growN_other path (fun y hy => hx y (by simp [hy])), grow1, getI_setI, if_neg (fun e => hx x (by simp) e.1)]
theorem callsN_other {n : Int} : ∀ {A : List Cal} {i : Nat} {s : Stt}, (∀ c ∈ A, c.hour = h → ∀ x ∈ (bt p c.berth).path, x.toNat ≠ n.toNat) → getI (callsN p h A i s).2.2.brash n = getI s.brash n
  | [], _, _, _ => rfl
  | c :: A, i, s, hA => by
    have hA' : ∀ x ∈ A, x.hour = h → ∀ y ∈ (bt p x.berth).path, y.toNat ≠ n.toNat := fun x hx => hA x (by simp [hx]);rw [callsN];split
    · exact callsN_other hA'
    · next h1 =>
      split
      · rfl
      · split
        · rfl
        · rw [callsN_other hA'];exact growN_other _ (hA c (by simp) (Decidable.not_not.1 h1))
end
theorem filter_split {j : Int} : ∀ {L : List Cal}, L.Pairwise (fun a b => a.hour ≤ b.hour) → L.filter (fun c => decide (c.hour < j + 1)) = L.filter (fun c => decide (c.hour < j)) ++ L.filter (fun c => decide (c.hour = j))
  | [], _ => rfl
  | c :: L, hL => by
    obtain ⟨s1, s2⟩ := List.pairwise_cons.1 hL;have ih := filter_split (j := j) s2;by_cases h1 : c.hour < j
    · rw [List.filter_cons_of_pos (by simpa using by omega), List.filter_cons_of_pos (by simpa using h1), List.filter_cons_of_neg (by simpa using by omega), ih, List.cons_append]
    · have e0 : L.filter (fun c => decide (c.hour < j)) = [] := List.filter_eq_nil_iff.2 fun x hx => by have := s1 x hx; simp; omega
      by_cases h2 : c.hour = j
      · rw [List.filter_cons_of_pos (by simpa using by omega), List.filter_cons_of_neg (by simpa using h1), List.filter_cons_of_pos (by simpa using h2), ih, e0]; rfl
      · rw [List.filter_cons_of_neg (by simpa using by omega), List.filter_cons_of_neg (by simpa using h1), List.filter_cons_of_neg (by simpa using h2), ih]
theorem stN_busy {p : Prt} {l : Pln} {s : Stt} (hs : l.calls.Pairwise (fun a b => a.hour ≤ b.hour)) (h0 : ∀ c ∈ l.calls, 0 ≤ c.hour) {N : Nat} (hr : ∀ j, j < N → (hourR p l j (stN p l s j)).2.1 = 0) :
    ∀ k, k ≤ N → (stN p l s k).busy = outsAft (l.calls.filter fun c => decide (c.hour < k)) s.busy
  | 0, _ => by
    have e : (l.calls.filter fun c => decide (c.hour < ((0 : Nat) : Int))) = [] := List.filter_eq_nil_iff.2 fun x hx => by have := h0 x hx; simp; omega
    rw [e]; rfl
  | k + 1, hk => by
    have ih := stN_busy hs h0 hr k (by omega);have e : (((k + 1 : Nat) : Int)) = (k : Int) + 1 := by omega
    rw [e, filter_split hs, outsAft_append, ← ih];exact callsN_busy (hr k (by omega))
theorem runF_first {p : Prt} {l : Pln} {s : Stt} {h : Nat} : ∀ {n k : Nat}, k ≤ h → h < k + n → (∀ j, k ≤ j → j < h → (hourR p l j (stN p l s j)).2.1 = 0) → (hourR p l h (stN p l s h)).2.1 ≠ 0 →
    runF p l s k n = ((hourR p l h (stN p l s h)).1, (hourR p l h (stN p l s h)).2.1)
  | 0, k, h1, h2, _, _ => by omega
  | n + 1, k, h1, h2, h3, h4 => by
    rw [runF];by_cases e : k = h
    · subst e; rw [if_pos h4]
    · rw [if_neg (by rw [h3 k (Nat.le_refl _) (by omega)]; simp)];exact runF_first (by omega) (by omega) (fun j j1 j2 => h3 j (by omega) j2) h4
theorem runF_late {p : Prt} {l : Pln} {s : Stt} {a : Nat} : ∀ {n k : Nat}, (∀ j, k ≤ j → j < k + n → (hourR p l j (stN p l s j)).2.1 = 0 ∨ a < (hourR p l j (stN p l s j)).1) → (runF p l s k n).2 = 0 ∨ a < (runF p l s k n).1
  | 0, k, _ => .inl rfl
  | n + 1, k, h => by
    rw [runF];by_cases e : (hourR p l k (stN p l s k)).2.1 ≠ 0
    · rw [if_pos e];rcases h k (Nat.le_refl _) (by omega) with g | g
      · exact absurd g e
      · exact .inr g
    · rw [if_neg e];exact runF_late fun j j1 j2 => h j (by omega) (by omega)
def outB (k : Int) (b : Bool) (c : Cal) : Bool := if c.berth = k then !c.out else b
theorem outB_get {k : Int} (k0 : 0 ≤ k) : ∀ {L : List Cal} {b : List Bool}, (∀ c ∈ L, 0 ≤ c.berth) → k.toNat < b.length → (outsAft L b).getD k.toNat false = L.foldl (outB k) (b.getD k.toNat false)
  | [], _, _, _ => rfl
  | c :: L, b, hc, hl => by
    rw [outsAft, outB_get k0 (fun x hx => hc x (by simp [hx])) (by simpa using hl), List.foldl_cons]
    congr 1
    have c0 := hc c (by simp);rw [set_len];unfold outB;by_cases e : c.berth = k
    · rw [if_pos e, if_pos ⟨by rw [e], by rw [e]; exact hl⟩]
    · rw [if_neg e, if_neg (fun g => e (by omega))]
theorem less_run {p : Prt} {l : Pln} (hp : MdP p) (hl : MdL p l) {b : List Int} (hlen : b.length = p.chs.length) (hb : ∀ x ∈ b, 0 ≤ x ∧ x < 1000000) {h : Nat} {a : Nat} (H : AtH l h a) (hh : (h : Int) < l.hours) {k : Int} (k0 : 0 ≤ k) (k1 : k < p.bts.length) {m t : Int}
    (hr : runE p (st0 p b) l = 0) (hc : checkL p (insC l a ⟨h, k, (l.calls.take a).foldl (outB k) false, 10, m, t⟩) = 0) (hsh : shutL p h (bt p k).path l.calls = false) :
    (runE p (st0 p b) (insC l a ⟨h, k, (l.calls.take a).foldl (outB k) false, 10, m, t⟩) = 0 ∨ (a : Int) < runI p (st0 p b) (insC l a ⟨h, k, (l.calls.take a).foldl (outB k) false, 10, m, t⟩)) ↔
      (bt p k).path.all (fun x => decide (getI (swpN p h l.swps (stN p l (st0 p b) h).brash) x ≤ m)) = true := by
  obtain ⟨u, hu⟩ : ∃ u, u = (l.calls.take a).foldl (outB k) false := ⟨_, rfl⟩;rw [← hu] at hc ⊢;obtain ⟨s, hs⟩ : ∃ s, s = st0 p b := ⟨_, rfl⟩;have hstart : ∀ L, checkL p L = 0 → startE p (st0 p b) L = 0 := fun L hL => by
    unfold startE;rw [if_neg (by simp [hL]), if_neg];rintro (g | g | g)
    · exact g hlen
    · exact g (by simp [st0, noB])
    · obtain ⟨x, x1, x2⟩ := List.any_eq_true.1 g;have := hb x x1;have w : within x 0 1000000 = true := by rw [within_iff]; omega
      rw [w] at x2; cases x2
  have hE : ∀ L, checkL p L = 0 → runE p (st0 p b) L = (runR p L (st0 p b)).2 ∧ runI p (st0 p b) L = (runR p L (st0 p b)).1 := fun L hL => by
    unfold runE runI; rw [if_neg (by simp [hstart L hL]), if_neg (by simp [hstart L hL])]; exact ⟨rfl, rfl⟩
  obtain ⟨e1, e2⟩ := hE _ hc;rw [e1, e2];have hr2 : (runR p l (st0 p b)).2 = 0 := by rw [← (hE l (hl.checkL hp)).1]; exact hr
  rw [← hs] at hr2 ⊢;obtain ⟨x, hx⟩ : ∃ x, x = insC l a ⟨h, k, u, 10, m, t⟩ := ⟨_, rfl⟩;rw [← hx];have xh : x.hours = l.hours := by rw [hx]; rfl
  have xs : x.swps = l.swps := by rw [hx]; rfl
  have xc : x.calls = l.calls.take a ++ ⟨h, k, u, 10, m, t⟩ :: l.calls.drop a := by rw [hx]; rfl
  have ok : ∀ j, j < l.hours.toNat → (hourR p l j (stN p l s j)).2.1 = 0 := fun j hj => runF_all.1 hr2 j (by omega) (by omega);have ahead : ∀ (j : Nat), j < h → ∀ S, (hourR p x j S).2 = (hourR p l j S).2 := fun j hj S => by
    unfold hourR;rw [xs, xc];have d : ∀ c ∈ l.calls.drop a, c.hour ≠ (j : Int) := fun c hcc => by have := H.post c hcc; omega
    rw [callsN_tail (fun c hcc => by
      rcases List.mem_cons.1 hcc with rfl | g
      · simp only; omega
      · exact d c g)]
    conv => rhs; rw [← List.take_append_drop a l.calls, callsN_tail d]
  have st : ∀ j, j ≤ h → stN p x s j = stN p l s j := fun j => by
    induction j with
    | zero => intro _; rfl
    | succ j ih =>
      intro hj;show hourS p x j (stN p x s j) = hourS p l j (stN p l s j);unfold hourS;rw [ih (by omega), ahead j (by omega)]
  have ok1 : ∀ j, j < h → (hourR p x j (stN p x s j)).2.1 = 0 := fun j hj => by rw [ahead j hj, st j (by omega)]; exact ok j (by omega)
  obtain ⟨S, hS⟩ : ∃ S : Stt, S = ⟨swpN p h l.swps (stN p l s h).brash, (stN p l s h).busy⟩ := ⟨_, rfl⟩;have dr : ∀ c ∈ l.calls.drop a, c.hour ≠ (h : Int) := fun c hcc => by have := H.post c hcc; omega
  have okt : (callsN p h (l.calls.take a) 0 S).2.1 = 0 := by
    have g := ok h (by omega);unfold hourR at g;rw [← hS, ← List.take_append_drop a l.calls, callsN_tail dr] at g;exact g
  have ex : hourR p x h (stN p x s h) = callsN p h (⟨h, k, u, 10, m, t⟩ :: l.calls.drop a) a (callsN p h (l.calls.take a) 0 S).2.2 := by
    unfold hourR;rw [xs, xc, st h (Nat.le_refl _), ← hS, callsN_app okt, List.length_take, Nat.min_eq_left H.le, Nat.zero_add]
  have hbusy : (callsN p h (l.calls.take a) 0 S).2.2.busy.getD k.toNat false = u := by
    have srt : l.calls.Pairwise (fun a b => a.hour ≤ b.hour) := hl.srt.imp fun g => by omega
    rw [callsN_busy okt, hS, stN_busy srt (fun c hcc => by have := hl.ca c hcc; omega) ok h (by omega), ← outsAft_append];have e3 : (l.calls.filter fun c => decide (c.hour < (h : Int))) ++ ((l.calls.take a).filter fun c => decide (c.hour = (h : Int))) = l.calls.take a := by
      have f1 : ∀ q : Cal → Bool, (∀ c ∈ l.calls.drop a, q c = false) → l.calls.filter q = (l.calls.take a).filter q := fun q hq => by
        conv => lhs; rw [← List.take_append_drop a l.calls, List.filter_append]
        have f2 : (l.calls.drop a).filter q = [] := List.filter_eq_nil_iff.2 (fun c hcc => by rw [hq c hcc]; simp);rw [f2, List.append_nil]
      rw [f1 _ (fun c hcc => by have := H.post c hcc; simp; omega)];rw [← filter_split (srt.sublist (List.take_sublist a l.calls))];exact List.filter_eq_self.2 fun c hcc => by have := H.pre c hcc; simp; omega
    rw [e3, hs];have e4 := outB_get k0 (L := l.calls.take a) (b := noB p) (fun c hcc => by have := hl.ca c (List.mem_of_mem_take hcc); omega) (by simp [noB]; omega);show (outsAft (l.calls.take a) (noB p)).getD k.toNat false = u;rw [e4, hu]
    congr 1
    simp [noB, List.getD_eq_getElem?_getD, List.getElem?_replicate];split <;> rfl
  have hbr : ∀ n ∈ (bt p k).path, getI (callsN p h (l.calls.take a) 0 S).2.2.brash n = getI S.brash n := fun n hn => by
    refine callsN_other fun c hcc ch y hy => ?_;have hcl := List.mem_of_mem_take hcc;obtain ⟨c1, c2, c3, c4, _⟩ := hl.ca c hcl;have y0 := (hp.btf _ (bt_mem c3 c4)).2.2.ok.2.2.1 y hy;have n0 := (hp.btf _ (bt_mem k0 k1)).2.2.ok.2.2.1 n hn;intro e;have e5 : y = n := by omega
    have : shutL p h (bt p k).path l.calls = true := shut_iff.2 ⟨c, hcl, ch, y, hy, e5 ▸ hn⟩;rw [hsh] at this; cases this
  have eany : (bt p k).path.any (fun n => decide (m < getI (callsN p h (l.calls.take a) 0 S).2.2.brash n)) = !(bt p k).path.all (fun x => decide (getI (swpN p h l.swps (stN p l s h).brash) x ≤ m)) := by
    rw [List.not_all_eq_any_not, Bool.eq_iff_iff, List.any_eq_true, List.any_eq_true];constructor
    · rintro ⟨n, n1, n2⟩;refine ⟨n, n1, ?_⟩;rw [hbr n n1, hS] at n2;have := of_decide_eq_true n2;simp only at this;simpa using this
    · rintro ⟨n, n1, n2⟩;refine ⟨n, n1, ?_⟩;rw [hbr n n1, hS];simpa using n2
  have eh : hourR p x h (stN p x s h) = if (bt p k).path.all (fun x => decide (getI (swpN p h l.swps (stN p l s h).brash) x ≤ m)) = true
      then (a + 1 + (l.calls.drop a).length, 0, ⟨growN p (bt p k).path (callsN p h (l.calls.take a) 0 S).2.2.brash, (callsN p h (l.calls.take a) 0 S).2.2.busy.set k.toNat (!u)⟩) else (a, 8, (callsN p h (l.calls.take a) 0 S).2.2) := by
    rw [ex, callsN, if_neg (by simp), if_neg (by simp only; rw [hbusy]; simp)];simp only;rw [eany];cases q : (bt p k).path.all (fun x => decide (getI (swpN p h l.swps (stN p l s h).brash) x ≤ m)) with
    | true => rw [if_neg (by simp), if_pos rfl, callsN_skip dr]
    | false => rw [if_pos (by simp), if_neg (by simp)]
  have hR : runR p x s = runF p x s 0 l.hours.toNat := by unfold runR; rw [xh]
  rw [hR];by_cases q : (bt p k).path.all (fun x => decide (getI (swpN p h l.swps (stN p l s h).brash) x ≤ m)) = true
  · refine iff_of_true ?_ q;have g := runF_late (p := p) (l := x) (s := s) (a := a) (n := l.hours.toNat) (k := 0) (fun j _ hj => by
      rcases Nat.lt_trichotomy j h with g | rfl | g
      · exact .inl (ok1 j g)
      · left; rw [eh, if_pos q]
      · right;unfold hourR;have e6 : x.calls = (l.calls.take a ++ [⟨h, k, u, 10, m, t⟩]) ++ l.calls.drop a := by rw [xc]; simp
        rw [e6, callsN_app (by
          rw [callsN_skip];intro c hcc;rcases List.mem_append.1 hcc with g2 | g2
          · have := H.pre c g2; omega
          · simp only [List.mem_singleton] at g2; subst g2; simp only; omega)]
        refine Nat.lt_of_lt_of_le ?_ callsN_from
        simp [Nat.min_eq_left H.le])
    rcases g with g | g
    · exact .inl g
    · exact .inr (by omega)
  · refine iff_of_false ?_ q;have e7 := runF_first (p := p) (l := x) (s := s) (h := h) (n := l.hours.toNat) (k := 0) (Nat.zero_le _) (by omega) (fun j _ hj => ok1 j hj) (by rw [eh, if_neg q]; simp);rw [e7, eh, if_neg q];rintro (g | g)
    · exact absurd g (by simp)
    · simp only at g; omega
end Go.Proofs.Ythmldeningpjbaa.Pt
namespace Go.Proofs.Ythmldeningpjbaa.Pt
open Sp
theorem less_runE {p : Prt} {s : Stt} {l : Pln} (hs : startE p s l = 0) : runE p s l = (runR p l s).2 := by unfold runE; rw [if_neg (by simp [hs])]
theorem less_slotE {p : Prt} {l : Pln} (hp : MdP p) (hl : MdL p l) {b : List Int} (hlen : b.length = p.chs.length) (hb : ∀ x ∈ b, 0 ≤ x ∧ x < 200) {k : Int} (k0 : 0 ≤ k) (k1 : k < p.bts.length) {m t : Int} (hm : 0 ≤ m ∧ m ≤ 1000000) (ht : 0 ≤ t ∧ t ≤ 20) (hr : runE p (st0 p b) l = 0) : slotE p (st0 p b) l k m t = 0 := by
  have hs := st0_start hp hl (B := 200) (by decide) hlen hb;rw [less_runE hs] at hr;unfold slotE;rw [if_neg (by simp [hs]), if_neg (by
    have w1 : within k 0 ((p.bts.length : Int) - 1) = true := within_iff.2 (by omega);have w2 : within m 0 1000000 = true := within_iff.2 hm;have w3 : within t 0 20 = true := within_iff.2 ht;rw [w1, w2, w3];decide)]
  exact hr
theorem less_can {p : Prt} {l : Pln} (hp : MdP p) (hl : MdL p l) {b : List Int} (hlen : b.length = p.chs.length) (hb : ∀ x ∈ b, 0 ≤ x ∧ x < 200) {h a : Nat} (H : AtH l h a) (hh : (h : Int) < l.hours) {k : Int} (k0 : 0 ≤ k) (k1 : k < p.bts.length) {m t : Int} (hm : 0 ≤ m ∧ m ≤ 1000000) (ht : 0 ≤ t ∧ t ≤ 20)
    (hr : runE p (st0 p b) l = 0) {X : Pln} (hX : X = insC l a ⟨h, k, (l.calls.take a).foldl (outB k) false, 10, m, t⟩) :
    inSp (slotV p (st0 p b) l k m t) h = (decide (checkL p X = 0) && (decide (runE p (st0 p b) X = 0) || decide ((a : Int) < runI p (st0 p b) X))) := by
  have hE := less_slotE hp hl hlen hb k0 k1 hm ht hr;have hV : slotV p (st0 p b) l k m t = slotS (slotOk p (st0 p b) l (bt p k).path m t) l.hours.toNat := by unfold slotV; rw [if_pos hE]
  rw [hV, (slot_in _ h _).1, decide_eq_true (show h < l.hours.toNat by omega), Bool.true_and];have hc := less_check hp hl H (by omega) hh k0 k1 hm ht ((l.calls.take a).foldl (outB k) false);rw [← hX] at hc;unfold slotOk;rw [callT_tgC, swpT_tgS];by_cases c0 : checkL p X = 0
  · obtain ⟨q1, q2⟩ := hc.1 c0;rw [decide_eq_true c0, Bool.true_and, q1, decide_eq_true q2, Bool.not_false, Bool.and_true, Bool.and_true];have hrn := less_run hp hl hlen (fun x hx => by have := hb x hx; omega) H hh k0 k1 (m := m) (t := t) hr (by rw [← hX]; exact c0) q1;rw [← hX] at hrn;rw [Bool.eq_iff_iff, ← hrn];simp
  · rw [decide_eq_false c0, Bool.false_and];rw [hc] at c0;by_cases q1 : shutL p h (bt p k).path l.calls = false
    · rw [decide_eq_false (fun q => c0 ⟨q1, q⟩), Bool.and_false]
    · rw [(by simpa using q1 : shutL p h (bt p k).path l.calls = true)]; simp
def lessQ (p : Prt) : Prt := ⟨p.chs, p.bts, p.tugs + 2⟩
def lessM (l : Pln) (x : Swp) : Pln := ⟨l.hours, l.calls, l.swps ++ [x]⟩
theorem less_mor {p : Prt} {l : Pln} (hp : MdP p) {x : Swp} (hx : 0 ≤ x.channel ∧ x.channel < p.chs.length ∧ 1 ≤ x.tugs ∧ x.tugs ≤ 2) : Mor p (lessQ p) l (lessM l x) := by
  have hch : ∀ n : Int, 0 ≤ (ch p n).grow ∧ 0 ≤ (ch p n).frost ∧ 0 ≤ (ch p n).clear := fun n => by
    unfold Pt.ch;rw [List.getD_eq_getElem?_getD];cases e : p.chs[n.toNat]? with
    | none => decide
    | some c => have := hp.chf c (List.mem_of_getElem? e); simp only [Option.getD_some]; omega
  exact ⟨rfl, rfl, rfl, rfl, ⟨[x], rfl, fun y hy => by rw [List.mem_singleton.1 hy]; exact Int.mul_nonneg (by omega) (hch _).2.2⟩, fun n => (hch n).1, fun n => (hch n).2.1⟩
theorem less_mor0 {p : Prt} {l : Pln} (hp : MdP p) : Mor p p l l := by
  have hch : ∀ n : Int, 0 ≤ (ch p n).grow ∧ 0 ≤ (ch p n).frost := fun n => by
    unfold Pt.ch;rw [List.getD_eq_getElem?_getD];cases e : p.chs[n.toNat]? with
    | none => decide
    | some c => have := hp.chf c (List.mem_of_getElem? e); simp only [Option.getD_some]; omega
  exact ⟨rfl, rfl, rfl, rfl, ⟨[], by simp, fun y hy => by cases hy⟩, fun n => (hch n).1, fun n => (hch n).2⟩
theorem less_checkM {p : Prt} {l : Pln} (hp : MdP p) (hl : MdL p l) {x : Swp} (hx : 0 ≤ x.channel ∧ x.channel < p.chs.length ∧ 1 ≤ x.tugs ∧ x.tugs ≤ 2) (hh : 0 ≤ x.hour ∧ x.hour < l.hours) : checkL (lessQ p) (lessM l x) = 0 := by
  have h0 := checkP_md hp;have ht := hp.tg;have h1 : checkP (lessQ p) = 0 := by
    unfold checkP at h0 ⊢;by_cases a : (within p.chs.length 1 6 && within p.bts.length 1 4) = false
    · rw [if_pos a] at h0; cases h0
    · rw [if_neg a] at h0;rw [if_neg (show ¬ (within (lessQ p).chs.length 1 6 && within (lessQ p).bts.length 1 4) = false from a), if_neg (show ¬ within (lessQ p).tugs 0 20 = false by simp only [Bool.not_eq_false, within_iff, lessQ]; omega)];rw [if_neg (show ¬ within p.tugs 0 20 = false by simp only [Bool.not_eq_false, within_iff]; omega)] at h0;exact h0
  have h2 : within l.hours 1 100 = true := by rw [within_iff]; have := hl.h; omega
  have h3 : callsE (lessQ p) l.hours 0 l.calls = 0 := callsE_of (fun c hc => by
    obtain ⟨c1, c2, c3, c4, c5, c6, c7, c8, c9, c10⟩ := hl.ca c hc;refine ⟨?_, c1⟩;have hd := (hp.btf _ (bt_mem c3 c4)).1;have e : (bt (lessQ p) c.berth).depth = (bt p c.berth).depth := rfl;have e2 : (lessQ p).bts.length = p.bts.length := rfl;unfold callE;rw [e, e2, if_neg (by simp only [Bool.not_eq_false, Bool.and_eq_true, within_iff]; omega), if_neg (by simp only [Bool.not_eq_false, within_iff]; omega), if_neg (by simp only [Bool.not_eq_false, within_iff]; omega), if_neg (by omega)]) (hl.srt.imp fun h => by omega)
  have h4 : swpsE (lessQ p) l.hours (l.swps ++ [x]) = 0 := swpsE_of fun s hs => by
    have e2 : (lessQ p).chs.length = p.chs.length := rfl;have : 0 ≤ s.channel ∧ s.channel < p.chs.length ∧ 1 ≤ s.tugs ∧ s.tugs ≤ 6 ∧ 0 ≤ s.hour ∧ s.hour < l.hours := by
      rcases List.mem_append.1 hs with e | e
      · exact hl.sw s e
      · rw [List.mem_singleton.1 e]; omega
    unfold swpE;rw [e2, if_neg (by simp only [Bool.not_eq_false, Bool.and_eq_true, within_iff]; omega), if_neg (by simp only [Bool.not_eq_false, within_iff]; omega)]
  have n1 := hl.n1;have n2 := hl.n2;have hh' := hl.h;unfold Pt.checkL;rw [if_neg (by simp [h1]), if_neg (show ¬ (60 < (lessM l x).calls.length ∨ 200 < (lessM l x).swps.length) by simp [lessM]; omega), if_neg (show ¬ within (lessM l x).hours 1 100 = false by simp [lessM, h2]), if_neg (show ¬ callsE (lessQ p) (lessM l x).hours 0 (lessM l x).calls ≠ 0 by simp [lessM, h3]), if_neg (show ¬ swpsE (lessQ p) (lessM l x).hours (lessM l x).swps ≠ 0 by simp [lessM, h4])];show finE (p.tugs + 2) ((l.swps ++ [x]).foldl addSwp (tlyCalls p l.hours.toNat l.calls).tugs) (tlyCalls p l.hours.toNat l.calls).twice 0 l.hours.toNat = 0;have htl : (tly0 l.hours.toNat).tugs.length = l.hours.toNat := by simp [tly0]
  refine finE_ok fun j _ hj => ⟨?_, ?_⟩
  · refine tly_twice (fun c hc => ?_) hl.srt (fun c hc x hx => ?_) (fun k => ?_) j
    · obtain ⟨c1, c2, c3, c4, _⟩ := hl.ca c hc;exact (hp.btf _ (bt_mem c3 c4)).2.2.ok.2.1
    · simp [tly0] at hx
    · simp only [tly0, List.getD_eq_getElem?_getD, List.getElem?_replicate]; split <;> rfl
  · have g1 := tly_get (p := p) (h := j) (by omega) (l := l.calls) (t := tly0 l.hours.toNat) (fun c hc => by have := hl.ca c hc; rw [htl]; omega);have g2 := swp_get (h := j) (by omega) (l := l.swps ++ [x]) (t := (tlyCalls p l.hours.toNat l.calls).tugs) (fun s hs => by
      unfold tlyCalls;rw [g1.2, htl];rcases List.mem_append.1 hs with e | e
      · have := hl.sw s e; omega
      · rw [List.mem_singleton.1 e]; omega)
    have g3 := hl.tg j;have e : ((l.swps ++ [x]).foldl addSwp (tlyCalls p l.hours.toNat l.calls).tugs).getD j 0 = getI ((l.swps ++ [x]).foldl addSwp (tlyCalls p l.hours.toNat l.calls).tugs) j := by unfold getI; simp
    rw [e, g2, tgS_snoc];unfold tlyCalls;rw [g1.1, tly0_get];split <;> omega
theorem less_trace {p q : Prt} {l m : Pln} (M : Mor p q l m) (hq : checkL q m = 0) {b b' : List Int} (hlen : b.length = p.chs.length) (hb : ∀ x ∈ b, 0 ≤ x ∧ x < 200) (hb' : ∀ x ∈ b', 0 ≤ x ∧ x < 200) (hle : LeB b' b) (hs : startE p (st0 p b) l = 0) (hr : runE p (st0 p b) l = 0) :
    runE q (st0 q b') m = 0 ∧ ∀ j : Nat, (j : Int) ≤ l.hours → LeB (stN q m (st0 q b') j).brash (stN p l (st0 p b) j).brash := by
  have hq0 : startE q (st0 q b') m = 0 := startE_3 hq (by show b'.length = q.chs.length; rw [M.chs, hle.1, hlen]) (by simp [st0, noB]) (by
    rw [List.any_eq_false];intro x hx;have := hb' x hx;simp [within]; omega)
  rw [less_runE hs] at hr;have hr' := (runF_all (n := l.hours.toNat) (k := 0)).1 hr;have K := mor_run M (s := st0 p b) (t := st0 q b') hle (by show noB q = noB p; simp [noB, M.bts]) (ge0_of fun x hx => (hb' x hx).1) (N := l.hours.toNat) (fun j hj => hr' j (Nat.zero_le _) (by omega));refine ⟨?_, fun j hj => (K j (by omega)).1⟩;rw [less_runE hq0];refine (runF_all (n := m.hours.toNat) (k := 0)).2 fun j _ hj => (K l.hours.toNat (Nat.le_refl _)).2.2.2 j ?_;rw [M.hrs] at hj; omega
theorem less_row {p : Prt} {l : Pln} {s : Stt} (hr : runE p s l = 0) {j : Nat} (hj : j ≤ l.hours.toNat) : (traceV p s l)[j]? = some (stN p l s j).brash := by
  unfold traceV;rw [if_pos hr];unfold traceS;rw [List.getElem?_map, List.getElem?_range (by omega)]; rfl
theorem less_rows {p : Prt} {l : Pln} {s : Stt} (hr : runE p s l = 0) : (traceV p s l).length = l.hours.toNat + 1 := by
  unfold traceV;rw [if_pos hr]; simp [traceS]
theorem atH_of {l : Pln} {h : Int} {a : Nat} (hs : l.calls.Pairwise (fun a b => a.hour < b.hour)) (ha : a ≤ l.calls.length) (hp : ∀ c ∈ l.calls.take a, c.hour ≤ h) (hn : ∀ c, l.calls[a]? = some c → h < c.hour) : AtH l h a := by
  refine ⟨ha, hp, fun c hc => ?_⟩;cases e : l.calls.drop a with
  | nil => rw [e] at hc; cases hc
  | cons x r =>
    have hx : l.calls[a]? = some x := by
      have := congrArg (·[0]?) e;simpa [List.getElem?_drop] using this
    have h1 := hn x hx;have hp2 := hs.sublist (List.drop_sublist a l.calls);rw [e] at hp2 hc;rcases List.mem_cons.1 hc with rfl | g
    · exact h1
    · have := (List.pairwise_cons.1 hp2).1 c g; omega
end Go.Proofs.Ythmldeningpjbaa.Pt













namespace Go.Proofs.Ythmldeningpjbaa
open Go Go.RowKit Sp
theorem below_drewN {B : Nat} {w w' : World} (h : Below B w w') (n : Nat) : Below B w (w'.drewN n) := ⟨h.os, h.tape, h.output, h.size, h.block⟩
def spc (s : Int × Int) : List Value := [.int .i64 s.1, .int .i64 s.2]
def spcs (l : List (Int × Int)) : List Value := l.flatMap spc
theorem spcs_length (l : List (Int × Int)) : (spcs l).length = l.length * 2 := by
  induction l with
  | nil => rfl
  | cons s l ih => simp only [spcs, List.flatMap_cons, List.length_append, List.length_cons] at ih ⊢; rw [ih]; simp [spc]; omega
theorem spcs_append (l m : List (Int × Int)) : spcs (l ++ m) = spcs l ++ spcs m := by simp [spcs]
theorem spcs_get {l : List (Int × Int)} {k : Nat} (hk : k < l.length) : (spcs l)[k*2]? = some (.int .i64 l[k].1) ∧ (spcs l)[k*2+1]? = some (.int .i64 l[k].2) := by
  induction l generalizing k with
  | nil => simp at hk
  | cons s l ih =>
    cases k with
    | zero => simp [spcs, spc]
    | succ k =>
      have h4 : ∀ j, (spcs (s :: l))[2 + j]? = (spcs l)[j]? := fun j => by
        simp only [spcs, List.flatMap_cons, spc];rw [List.getElem?_append_right (by simp)];simp
      have e : ∀ j, (k+1)*2 + j = 2 + (k*2 + j) := fun j => by omega
      have e0 : (k+1)*2 = 2 + k*2 := by omega
      have hk' : k < l.length := by simpa using hk
      rw [e, e0, h4, h4];simpa using ih hk'
def joinS (L : List (Int × Int)) (day : Int) : List (Int × Int) :=
  match L.getLast? with
  | some s => if s.2 = day - 1 then L.dropLast ++ [(s.1, day)] else L ++ [(day, day)]
  | none => [(day, day)]
def SpansIn (w : World) (cb : Nat) (L : List (Int × Int)) (fp : List Nat) : Prop :=
  ∃ A c, w.heap[cb]? = some (.cells #[.slice A L.length c] 119 (0, 0)) ∧ OwnS w 129 2 A L.length c (spcs L) fp ∧ cb ∉ fp
theorem info_span : (Try.prog.info? 129).map (fun i => (i.zero, i.size, i.bytes)) = some (some (.agg #[.int .i64 0, .int .i64 0]), 2, 16) := by kernel_rfl
def JoinPost (w : World) (cb : Nat) (L : List (Int × Int)) (day : Int) (fp : List Nat) (e : Ending) (w' : World) : Prop :=
  e = .returned (.tuple #[]) ∧ ∃ fp', SpansIn w' cb (joinS L day) fp' ∧ (∀ g ∈ fp', g ∈ fp ∨ w.heap.size ≤ g) ∧ Keep (cb :: fp) w w'
end Go.Proofs.Ythmldeningpjbaa
namespace Go.Proofs.Ythmldeningpjbaa
open Go Go.RowKit Sp Pt
theorem less1_any (lo hi h : Int) (hb : Nat) (w : World) (hh : w.heap[hb]? = some (.cells #[.int .i64 h] 3 (0, 0))) :
    Calls Try.prog 61 #[.agg #[.int .i64 lo, .int .i64 hi], .pointer (some ⟨hb, 0, none⟩)] w fun e w' => e = .returned (.bool (decide (lo ≤ h) && decide (h ≤ hi))) ∧ Below w.heap.size w w' := by
  have b0 : Below w.heap.size w (w.alloc (.cells #[.int .i64 lo, .int .i64 hi] 129)) := (Below.refl _ _).alloc (Nat.le_refl _) _;have hlt := hL_ hh;have c0 : (w.alloc (.cells #[.int .i64 lo, .int .i64 hi] 129)).cell? ⟨hb, 0, none⟩ = some (.int .i64 h) := (b0.cell hlt).trans ((cOH hh 0).trans rfl);have HB := Lib.hid b0;clear b0;by_cases h1 : lo ≤ h
  · have d1 : decide (lo ≤ h) = true := decide_eq_true h1
    go_enter Try.func61, Try.ntmps61
    go_wp2_with fail
    go_ret;exact ⟨by simp [d1], HB.out⟩
  · have d1 : decide (lo ≤ h) = false := decide_eq_false h1
    go_enter Try.func61, Try.ntmps61
    go_wp2_with fail
    go_ret;exact ⟨by simp [d1], HB.out⟩
theorem idxSpan_any (h : Int) (hb : Nat) (A : Option Addr) (c : Nat) (l : List (Int × Int)) (w : World) (hr : Rd w 2 A l.length (spcs l)) (hm : l.length ≤ 1000) (hh : w.heap[hb]? = some (.cells #[.int .i64 h] 3 (0, 0))) :
    Calls Try.prog 113 #[.slice A l.length c, .func (.func 61) #[] #[.pointer (some ⟨hb, 0, none⟩)]] w fun e w' => ∃ r : Int, e = .returned (.int .i64 r) ∧ decide (0 ≤ r) = inSp l h ∧ Below w.heap.size w w' := by
  have HH := Lib.hid (And.intro hr hh);clear hr hh
  go_enter Try.func113, Try.ntmps113
  go_wp2_with fail
  go_loopg [8] (l.length) (fun g i wr => ∃ k : Nat, g + k = l.length ∧ i = .int .i64 k ∧ inSp (l.take k) h = false ∧ Below w.heap.size w wr)
  case atStart => exact ⟨0, rfl, rfl, by simp [inSp], Below.refl _ _⟩
  case round =>
    obtain ⟨k, hk, rfl, hbb, hbw⟩ := hrel;have HB := Lib.hid (And.intro hbb hbw);clear hbb hbw;by_cases hlt : k < l.length
    · obtain ⟨b, off, rfl, hbl, hc⟩ := (HH.out.1.below HB.out.2).2 (by omega);obtain ⟨g1, g2⟩ := spcs_get hlt;have c0 := hc (k * 2) _ g1;have c1 : wr.cell? ⟨b, off + k * 2 + 1, none⟩ = _ := hc (k * 2 + 1) _ g2;obtain ⟨x, hx⟩ : ∃ x, x = l[k] := ⟨_, rfl⟩;rw [← hx] at c0 c1;have hx' : l[k] = x := hx.symm;have hhb : wr.heap[hb]? = some (.cells #[.int .i64 h] 3 (0, 0)) := (HB.out.2.block _ (hL_ HH.out.2)).trans HH.out.2;have H := less1_any x.1 x.2 h hb wr hhb;obtain ⟨z, hz⟩ : ∃ z, z = (decide (x.1 ≤ h) && decide (h ≤ x.2)) := ⟨_, rfl⟩;rw [← hz] at H;have hs : inSp (l.take (k + 1)) h = z := by rw [List.take_succ_eq_append_getElem hlt, inSp, List.any_append]; have := HB.out.1; unfold inSp at this; rw [this, hx', hz]; simp
      have HC := Lib.hid (And.intro H hs);clear H hs hz hx' hx hc g1 g2 hhb;cases z
      · go_wp2_with (go_at_call 61; refine HC.out.1.mono ?_; rintro e w' ⟨rfl, hb2⟩; have HD := Lib.hid (HB.out.2.trans (hb2.mono HB.out.2.size)); clear hb2)
        go_roundg (gk - 1);case measure => omega
        case rel => exact ⟨k + 1, by omega, by go_num, HC.out.2, HD.out⟩
      · go_wp2_with (go_at_call 61; refine HC.out.1.mono ?_; rintro e w' ⟨rfl, hb2⟩; have HD := Lib.hid (HB.out.2.trans (hb2.mono HB.out.2.size)); clear hb2)
        go_ret;refine ⟨k, rfl, ?_, HD.out⟩;have h1 : inSp l h = true := by
          obtain ⟨y, hy, hfy⟩ := List.any_eq_true.1 HC.out.2;exact List.any_eq_true.2 ⟨y, List.mem_of_mem_take hy, hfy⟩
        rw [h1]; simp
    · obtain rfl : k = l.length := by omega
      go_wp2_with fail
      go_ret;exact ⟨-1, rfl, by have := HB.out.1; rw [List.take_length] at this; rw [this]; simp, HB.out.2⟩
theorem anySpan_any (h : Int) (hb : Nat) (A : Option Addr) (c : Nat) (l : List (Int × Int)) (w : World) (hr : Rd w 2 A l.length (spcs l)) (hm : l.length ≤ 1000) (hh : w.heap[hb]? = some (.cells #[.int .i64 h] 3 (0, 0))) :
    Calls Try.prog 60 #[.slice A l.length c, .func (.func 61) #[] #[.pointer (some ⟨hb, 0, none⟩)]] w fun e w' => e = .returned (.bool (inSp l h)) ∧ Below w.heap.size w w' := by
  have H := idxSpan_any h hb A c l w hr hm hh;clear hr hh
  go_enter Try.func60, Try.ntmps60
  go_wp2_with (go_at_call 113; refine H.mono ?_; rintro e w' ⟨r, rfl, hd, hb2⟩; have HD := Lib.hid (And.intro hd hb2); clear hd hb2)
  go_ret;exact ⟨by rw [← HD.out.1]; rfl, HD.out.2⟩
end Go.Proofs.Ythmldeningpjbaa
