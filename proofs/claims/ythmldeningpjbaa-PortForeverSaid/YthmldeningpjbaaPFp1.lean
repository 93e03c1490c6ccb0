/- How ports, plans and states of layer 9 lie in memory. No program's function is named here. -/
import Derived.Test.YthmldeningpjbaaPFp0
import Derived.Test.YthmldeningpjbaaProg
set_option linter.unusedVariables false
set_option linter.unusedSimpArgs false
namespace Go.Proofs.Ythmldeningpjbaa
open Go Go.RowKit Sp Pt

theorem flat_get {T : Type} {f : T → List Value} {s : Nat} (hf : ∀ x, (f x).length = s) {l : List T} {k : Nat} (hk : k < l.length) {j : Nat} (hj : j < s) : (l.flatMap f)[k*s + j]? = (f l[k])[j]? := by
  induction l generalizing k with
  | nil => simp at hk
  | cons x l ih =>
    rw [List.flatMap_cons]
    cases k with
    | zero => rw [Nat.zero_mul, Nat.zero_add, List.getElem?_append_left (by rw [hf]; exact hj)]; rfl
    | succ k =>
      have e : (k+1)*s + j = s + (k*s + j) := by rw [Nat.add_mul]; omega
      rw [e, List.getElem?_append_right (by rw [hf]; omega), hf, Nat.add_sub_cancel_left]
      simpa using ih (k := k) (by simpa using hk)
theorem flat_len {T : Type} {f : T → List Value} {s : Nat} (hf : ∀ x, (f x).length = s) (l : List T) : (l.flatMap f).length = l.length * s := by
  induction l with
  | nil => simp
  | cons x l ih => rw [List.flatMap_cons, List.length_append, ih, hf, List.length_cons, Nat.add_mul]; omega
theorem flat_snoc {T : Type} (f : T → List Value) (l : List T) (x : T) : (l ++ [x]).flatMap f = l.flatMap f ++ f x := by simp

/-- as Rd, in a block below D -/
def RdB (D : Nat) (w : World) (size : Nat) (A : Option Addr) (n : Nat) (xs : List Value) : Prop :=
  xs.length = n * size ∧ (0 < n → ∃ b off, A = some ⟨b, off, none⟩ ∧ b < D ∧ ∀ j u, xs[j]? = some u → w.cell? ⟨b, off + j, none⟩ = some u)
section
variable {D : Nat} {w w' : World} {size n : Nat} {A : Option Addr} {xs : List Value}
theorem RdB.rd (h : RdB D w size A n xs) (hD : D ≤ w.heap.size) : Rd w size A n xs :=
  ⟨h.1, fun h0 => by obtain ⟨b, off, e, hb, hc⟩ := h.2 h0; exact ⟨b, off, e, by omega, hc⟩⟩
theorem RdB.of (h : Rd w size A n xs) (hD : w.heap.size ≤ D) : RdB D w size A n xs :=
  ⟨h.1, fun h0 => by obtain ⟨b, off, e, hb, hc⟩ := h.2 h0; exact ⟨b, off, e, by omega, hc⟩⟩
theorem RdB.below (h : RdB D w size A n xs) (hb : Below D w w') : RdB D w' size A n xs :=
  ⟨h.1, fun h0 => by obtain ⟨b, off, e, hl, hc⟩ := h.2 h0; exact ⟨b, off, e, hl, fun j u hu => (hb.cell (p := ⟨b, off + j, none⟩) hl).trans (hc j u hu)⟩⟩
theorem RdB.mono (h : RdB D w size A n xs) {D' : Nat} (hD : D ≤ D') : RdB D' w size A n xs :=
  ⟨h.1, fun h0 => by obtain ⟨b, off, e, hb, hc⟩ := h.2 h0; exact ⟨b, off, e, by omega, hc⟩⟩
end

def chc (c : Chn) : List Value := [.int .i64 c.grow, .int .i64 c.frost, .int .i64 c.clear]
abbrev chcs (l : List Chn) : List Value := l.flatMap chc
def cac (c : Cal) : List Value := [.int .i64 c.hour, .int .i64 c.berth, .bool c.out, .int .i64 c.draught, .int .i64 c.most, .int .i64 c.tugs]
abbrev cacs (l : List Cal) : List Value := l.flatMap cac
def swc (s : Swp) : List Value := [.int .i64 s.hour, .int .i64 s.channel, .int .i64 s.tugs]
abbrev swcs (l : List Swp) : List Value := l.flatMap swc
def vsc (v : Vst) : List Value := [.int .i64 v.arr, .int .i64 v.last, .int .i64 v.stay, .int .i64 v.dra]
abbrev vscs (l : List Vst) : List Value := l.flatMap vsc
def plc (x : Plc) : List Value := [.int .i64 x.berth, .int .i64 x.start]
abbrev plcs (l : List Plc) : List Value := l.flatMap plc

theorem chcs_get {l : List Chn} {k : Nat} (hk : k < l.length) : (chcs l)[k*3]? = some (.int .i64 l[k].grow) ∧ (chcs l)[k*3+1]? = some (.int .i64 l[k].frost) ∧ (chcs l)[k*3+2]? = some (.int .i64 l[k].clear) :=
  ⟨flat_get (f := chc) (s := 3) (fun _ => rfl) hk (j := 0) (by decide), flat_get (f := chc) (s := 3) (fun _ => rfl) hk (j := 1) (by decide), flat_get (f := chc) (s := 3) (fun _ => rfl) hk (j := 2) (by decide)⟩
theorem cacs_get {l : List Cal} {k : Nat} (hk : k < l.length) : (cacs l)[k*6]? = some (.int .i64 l[k].hour) ∧ (cacs l)[k*6+1]? = some (.int .i64 l[k].berth) ∧ (cacs l)[k*6+2]? = some (.bool l[k].out) ∧ (cacs l)[k*6+3]? = some (.int .i64 l[k].draught) ∧ (cacs l)[k*6+4]? = some (.int .i64 l[k].most) ∧ (cacs l)[k*6+5]? = some (.int .i64 l[k].tugs) :=
  ⟨flat_get (f := cac) (s := 6) (fun _ => rfl) hk (j := 0) (by decide), flat_get (f := cac) (s := 6) (fun _ => rfl) hk (j := 1) (by decide), flat_get (f := cac) (s := 6) (fun _ => rfl) hk (j := 2) (by decide), flat_get (f := cac) (s := 6) (fun _ => rfl) hk (j := 3) (by decide), flat_get (f := cac) (s := 6) (fun _ => rfl) hk (j := 4) (by decide), flat_get (f := cac) (s := 6) (fun _ => rfl) hk (j := 5) (by decide)⟩
theorem swcs_get {l : List Swp} {k : Nat} (hk : k < l.length) : (swcs l)[k*3]? = some (.int .i64 l[k].hour) ∧ (swcs l)[k*3+1]? = some (.int .i64 l[k].channel) ∧ (swcs l)[k*3+2]? = some (.int .i64 l[k].tugs) :=
  ⟨flat_get (f := swc) (s := 3) (fun _ => rfl) hk (j := 0) (by decide), flat_get (f := swc) (s := 3) (fun _ => rfl) hk (j := 1) (by decide), flat_get (f := swc) (s := 3) (fun _ => rfl) hk (j := 2) (by decide)⟩
theorem vscs_get {l : List Vst} {k : Nat} (hk : k < l.length) : (vscs l)[k*4]? = some (.int .i64 l[k].arr) ∧ (vscs l)[k*4+1]? = some (.int .i64 l[k].last) ∧ (vscs l)[k*4+2]? = some (.int .i64 l[k].stay) ∧ (vscs l)[k*4+3]? = some (.int .i64 l[k].dra) :=
  ⟨flat_get (f := vsc) (s := 4) (fun _ => rfl) hk (j := 0) (by decide), flat_get (f := vsc) (s := 4) (fun _ => rfl) hk (j := 1) (by decide), flat_get (f := vsc) (s := 4) (fun _ => rfl) hk (j := 2) (by decide), flat_get (f := vsc) (s := 4) (fun _ => rfl) hk (j := 3) (by decide)⟩
theorem plcs_get {l : List Plc} {k : Nat} (hk : k < l.length) : (plcs l)[k*2]? = some (.int .i64 l[k].berth) ∧ (plcs l)[k*2+1]? = some (.int .i64 l[k].start) :=
  ⟨flat_get (f := plc) (s := 2) (fun _ => rfl) hk (j := 0) (by decide), flat_get (f := plc) (s := 2) (fun _ => rfl) hk (j := 1) (by decide)⟩

/-- a berth's path: where it lies -/
def PathB (D : Nat) (w : World) (A : Option Addr) (c : Nat) (l : List Int) : Prop := RdB D w 1 A l.length (ints l) ∧ l.length ≤ c ∧ c ≤ 9223372036854775807 ∧ (A = none → c = 0)
/-- berths -/
def BtsB (D : Nat) (w : World) (A : Option Addr) (l : List Brt) : Prop :=
  ∀ (k : Nat) (hk : k < l.length), ∃ b off Ak ck, A = some ⟨b, off, none⟩ ∧ b < D ∧ w.cell? ⟨b, off + k*2, none⟩ = some (.int .i64 l[k].depth) ∧ w.cell? ⟨b, off + k*2 + 1, none⟩ = some (.slice Ak l[k].path.length ck) ∧ PathB D w Ak ck l[k].path
section
variable {D : Nat} {w w' : World} {A : Option Addr}
theorem PathB.below {c : Nat} {l : List Int} (h : PathB D w A c l) (hb : Below D w w') : PathB D w' A c l := ⟨h.1.below hb, h.2⟩
theorem PathB.mono {c : Nat} {l : List Int} (h : PathB D w A c l) {D' : Nat} (hD : D ≤ D') : PathB D' w A c l := ⟨h.1.mono hD, h.2⟩
theorem BtsB.below {l : List Brt} (h : BtsB D w A l) (hb : Below D w w') : BtsB D w' A l := by
  intro k hk
  obtain ⟨b, off, Ak, ck, e, hlt, h1, h2, h3⟩ := h k hk
  exact ⟨b, off, Ak, ck, e, hlt, (hb.cell (p := ⟨b, off + k*2, none⟩) hlt).trans h1, (hb.cell (p := ⟨b, off + k*2 + 1, none⟩) hlt).trans h2, h3.below hb⟩
theorem BtsB.mono {l : List Brt} (h : BtsB D w A l) {D' : Nat} (hD : D ≤ D') : BtsB D' w A l := by
  intro k hk
  obtain ⟨b, off, Ak, ck, e, hlt, h1, h2, h3⟩ := h k hk
  exact ⟨b, off, Ak, ck, e, by omega, h1, h2, h3.mono hD⟩
end

/-- a port's value -/
abbrev prtV (Ac : Option Addr) (cc : Nat) (Ab : Option Addr) (cb : Nat) (p : Prt) : Array Value := #[.slice Ac p.chs.length cc, .slice Ab p.bts.length cb, .int .i64 p.tugs]
structure PrtB (D : Nat) (w : World) (Ac : Option Addr) (cc : Nat) (Ab : Option Addr) (cb : Nat) (p : Prt) : Prop where
  chs : RdB D w 3 Ac p.chs.length (chcs p.chs)
  bts : BtsB D w Ab p.bts
  c1 : p.chs.length ≤ cc ∧ cc ≤ 9223372036854775807 ∧ (Ac = none → cc = 0)
  c2 : p.bts.length ≤ cb ∧ cb ≤ 9223372036854775807 ∧ (Ab = none → cb = 0)
/-- a plan's value -/
abbrev plnV (Al : Option Addr) (cl : Nat) (As : Option Addr) (cs : Nat) (l : Pln) : Array Value := #[.int .i64 l.hours, .slice Al l.calls.length cl, .slice As l.swps.length cs]
structure PlnB (D : Nat) (w : World) (Al : Option Addr) (cl : Nat) (As : Option Addr) (cs : Nat) (l : Pln) : Prop where
  calls : RdB D w 6 Al l.calls.length (cacs l.calls)
  swps : RdB D w 3 As l.swps.length (swcs l.swps)
  c1 : l.calls.length ≤ cl ∧ cl ≤ 9223372036854775807 ∧ (Al = none → cl = 0)
  c2 : l.swps.length ≤ cs ∧ cs ≤ 9223372036854775807 ∧ (As = none → cs = 0)
section
variable {D : Nat} {w w' : World} {Ac Ab Al As : Option Addr} {cc cb cl cs : Nat} {p : Prt} {l : Pln}
theorem PrtB.below (h : PrtB D w Ac cc Ab cb p) (hb : Below D w w') : PrtB D w' Ac cc Ab cb p := ⟨h.chs.below hb, h.bts.below hb, h.c1, h.c2⟩
theorem PrtB.mono (h : PrtB D w Ac cc Ab cb p) {D' : Nat} (hD : D ≤ D') : PrtB D' w Ac cc Ab cb p := ⟨h.chs.mono hD, h.bts.mono hD, h.c1, h.c2⟩
theorem PlnB.below (h : PlnB D w Al cl As cs l) (hb : Below D w w') : PlnB D w' Al cl As cs l := ⟨h.calls.below hb, h.swps.below hb, h.c1, h.c2⟩
theorem PlnB.mono (h : PlnB D w Al cl As cs l) {D' : Nat} (hD : D ≤ D') : PlnB D' w Al cl As cs l := ⟨h.calls.mono hD, h.swps.mono hD, h.c1, h.c2⟩
end
end Go.Proofs.Ythmldeningpjbaa
/- Berths in memory as a list of rows. No program's function is named here. -/
namespace Go.Proofs.Ythmldeningpjbaa
open Go Go.RowKit Sp Pt
set_option linter.unusedVariables false

/-- a berth as it lies in memory -/
structure BrR where
  b : Brt
  A : Option Addr
  c : Nat
deriving Inhabited
def brc (y : BrR) : List Value := [.int .i64 y.b.depth, .slice y.A y.b.path.length y.c]
abbrev brcs (l : List BrR) : List Value := l.flatMap brc
theorem brcs_one (l : List BrR) : ∀ u ∈ brcs l, u.oneCell' = true := by
  intro u hu
  obtain ⟨y, _, hy⟩ := List.mem_flatMap.1 hu
  simp [brc] at hy
  rcases hy with rfl | rfl <;> rfl
theorem brcs_get {l : List BrR} {k : Nat} (hk : k < l.length) : (brcs l)[k*2]? = some (.int .i64 l[k].b.depth) ∧ (brcs l)[k*2+1]? = some (.slice l[k].A l[k].b.path.length l[k].c) :=
  ⟨flat_get (f := brc) (s := 2) (fun _ => rfl) hk (j := 0) (by decide), flat_get (f := brc) (s := 2) (fun _ => rfl) hk (j := 1) (by decide)⟩
theorem brcs_len (l : List BrR) : (brcs l).length = l.length * 2 := flat_len (f := brc) (s := 2) (fun _ => rfl) l
theorem BtsB.rows {D : Nat} {w : World} {A : Option Addr} {l : List Brt} (h : BtsB D w A l) :
    ∃ L : List BrR, L.map (·.b) = l ∧ RdB D w 2 A l.length (brcs L) ∧ ∀ y ∈ L, PathB D w y.A y.c y.b.path := by
  by_cases h0 : l = []
  · subst h0
    exact ⟨[], rfl, ⟨rfl, fun h => absurd h (by simp)⟩, by simp⟩
  have hn : 0 < l.length := List.length_pos_iff.2 h0
  obtain ⟨b, off, _, _, hA, hb, _⟩ := h 0 hn
  have key : ∀ k : Fin l.length, ∃ y : BrR, y.b = l[k.1] ∧ w.cell? ⟨b, off + k.1*2, none⟩ = some (.int .i64 l[k.1].depth) ∧ w.cell? ⟨b, off + k.1*2 + 1, none⟩ = some (.slice y.A l[k.1].path.length y.c) ∧ PathB D w y.A y.c l[k.1].path := by
    intro k
    obtain ⟨b', off', Ak, ck, e, _, h1, h2, h3⟩ := h k.1 k.2
    rw [hA] at e
    injection e with e
    injection e with e1 e2 _
    subst e1 e2
    exact ⟨⟨l[k.1], Ak, ck⟩, rfl, h1, h2, h3⟩
  obtain ⟨f, hf⟩ := Classical.axiomOfChoice key
  have hlen : (List.ofFn f).length = l.length := by simp
  have hget : ∀ k (hk : k < l.length), (List.ofFn f)[k]'(by rw [hlen]; exact hk) = f ⟨k, hk⟩ := fun k hk => by simp
  refine ⟨List.ofFn f, ?_, ⟨by rw [brcs_len, hlen], fun _ => ⟨b, off, hA, hb, fun j u hu => ?_⟩⟩, fun y hy => ?_⟩
  · refine List.ext_getElem (by simp) fun k h1 h2 => ?_
    simp only [List.getElem_map, List.getElem_ofFn]
    exact (hf ⟨k, h2⟩).1
  · have hj := (List.getElem?_eq_some_iff.1 hu).1
    rw [brcs_len, hlen] at hj
    have hk : j / 2 < l.length := by omega
    obtain ⟨g0, g1⟩ := brcs_get (l := List.ofFn f) (k := j / 2) (by rw [hlen]; exact hk)
    obtain ⟨e0, e1, e2, _⟩ := hf ⟨j / 2, hk⟩
    rw [hget _ hk, e0] at g0 g1
    rcases (by omega : j % 2 = 0 ∨ j % 2 = 1) with h | h
    · rw [show j = j / 2 * 2 from by omega, g0] at hu
      injection hu with hu
      rw [show j = j / 2 * 2 from by omega, ← hu]
      exact e1
    · rw [show j = j / 2 * 2 + 1 from by omega, g1] at hu
      injection hu with hu
      rw [show off + j = off + j / 2 * 2 + 1 from by omega, ← hu]
      exact e2
  · obtain ⟨k, rfl⟩ := (List.mem_ofFn).1 hy
    obtain ⟨e0, _, _, e3⟩ := hf k
    rw [e0]
    exact e3
theorem BtsB.of_rows {D : Nat} {w : World} {A : Option Addr} {l : List Brt} {L : List BrR} (hm : L.map (·.b) = l) (hr : RdB D w 2 A l.length (brcs L)) (hp : ∀ y ∈ L, PathB D w y.A y.c y.b.path) : BtsB D w A l := by
  intro k hk
  have hk' : k < L.length := by rw [← hm] at hk; simpa using hk
  have e : L[k].b = l[k] := by subst hm; simp
  obtain ⟨b, off, hA, hb, hc⟩ := hr.2 (by omega)
  obtain ⟨g0, g1⟩ := brcs_get hk'
  rw [e] at g0 g1
  have := hp _ (List.getElem_mem hk')
  rw [e] at this
  exact ⟨b, off, L[k].A, L[k].c, hA, hb, hc _ _ g0, by rw [Nat.add_assoc]; exact hc _ _ g1, this⟩
end Go.Proofs.Ythmldeningpjbaa
/- How the arguments of layer 9's laws read: ports, plans, states, maps -/
namespace Go.Proofs.Ythmldeningpjbaa
open Go Go.ChangeShapes Go.WideShapes Go.ChangeAt Go.RowKit Sp Pt
set_option linter.unusedVariables false

theorem flat_intsP (l : List Int) : l.flatMap (fun y => [Value.int .i64 y]) = ints l := by
  induction l with
  | nil => rfl
  | cons x l ih => rw [List.flatMap_cons, ih]; rfl
theorem flat_boolsP (l : List Bool) : l.flatMap (fun y => [Value.bool y]) = bools l := by
  induction l with
  | nil => rfl
  | cons x l ih => rw [List.flatMap_cons, ih]; rfl
section
variable {H : Type} {enc : TypeId × Value → H} {w : World}
theorem elp_int : ∀ (fuel : Nat) (cs : List Value) (x : DataW H × List MemPlace), DataW.trod enc Try.prog w 0 (fun _ => true) true fuel 3 cs = some x → ∃ y : Int, cs = [Value.int .i64 y] ∧ True := by
  intro fuel cs x h
  obtain ⟨n, rfl, _⟩ := DataW.trod_int Try.underlying3 h
  exact ⟨n, rfl, trivial⟩
theorem elp_bool : ∀ (fuel : Nat) (cs : List Value) (x : DataW H × List MemPlace), DataW.trod enc Try.prog w 0 (fun _ => true) true fuel 4 cs = some x → ∃ y : Bool, cs = [Value.bool y] ∧ True := by
  intro fuel cs x h
  obtain ⟨n, rfl, _⟩ := DataW.trod_bool Try.underlying4 h
  exact ⟨n, rfl, trivial⟩
theorem el_chn : ∀ (fuel : Nat) (cs : List Value) (x : DataW H × List MemPlace), DataW.trod enc Try.prog w 0 (fun _ => true) true fuel 144 cs = some x → ∃ y : Chn, cs = chc y ∧ True := by
  intro fuel cs x h
  obtain ⟨h1, h2⟩ := flat_cells 3 144 [some .i64, some .i64, some .i64] fuel cs x (by kernel_rfl) h
  obtain ⟨_, e0, a0, rfl, _⟩ := h2 0 _ rfl
  obtain ⟨_, e1, a1, rfl, _⟩ := h2 1 _ rfl
  obtain ⟨_, e2, a2, rfl, _⟩ := h2 2 _ rfl
  match cs, h1, e0, e1, e2 with
  | [_, _, _], _, e0, e1, e2 =>
    simp at e0 e1 e2
    exact ⟨⟨a0, a1, a2⟩, by rw [e0, e1, e2]; rfl, trivial⟩
theorem el_swp : ∀ (fuel : Nat) (cs : List Value) (x : DataW H × List MemPlace), DataW.trod enc Try.prog w 0 (fun _ => true) true fuel 126 cs = some x → ∃ y : Swp, cs = swc y ∧ True := by
  intro fuel cs x h
  obtain ⟨h1, h2⟩ := flat_cells 3 126 [some .i64, some .i64, some .i64] fuel cs x (by kernel_rfl) h
  obtain ⟨_, e0, a0, rfl, _⟩ := h2 0 _ rfl
  obtain ⟨_, e1, a1, rfl, _⟩ := h2 1 _ rfl
  obtain ⟨_, e2, a2, rfl, _⟩ := h2 2 _ rfl
  match cs, h1, e0, e1, e2 with
  | [_, _, _], _, e0, e1, e2 =>
    simp at e0 e1 e2
    exact ⟨⟨a0, a1, a2⟩, by rw [e0, e1, e2]; rfl, trivial⟩
set_option maxRecDepth 100000 in
theorem el_cal : ∀ (fuel : Nat) (cs : List Value) (x : DataW H × List MemPlace), DataW.trod enc Try.prog w 0 (fun _ => true) true fuel 55 cs = some x → ∃ y : Cal, cs = cac y ∧ True := by
  intro fuel cs x h
  obtain ⟨h1, h2⟩ := flat_cells 3 55 [some .i64, some .i64, none, some .i64, some .i64, some .i64] fuel cs x (by kernel_rfl) h
  obtain ⟨_, e0, a0, rfl, _⟩ := h2 0 _ rfl
  obtain ⟨_, e1, a1, rfl, _⟩ := h2 1 _ rfl
  obtain ⟨_, e2, a2, rfl⟩ := h2 2 _ rfl
  obtain ⟨_, e3, a3, rfl, _⟩ := h2 3 _ rfl
  obtain ⟨_, e4, a4, rfl, _⟩ := h2 4 _ rfl
  obtain ⟨_, e5, a5, rfl, _⟩ := h2 5 _ rfl
  match cs, h1, e0, e1, e2, e3, e4, e5 with
  | [_, _, _, _, _, _], _, e0, e1, e2, e3, e4, e5 =>
    simp at e0 e1 e2 e3 e4 e5
    exact ⟨⟨a0, a1, a2, a3, a4, a5⟩, by rw [e0, e1, e2, e3, e4, e5]; rfl, trivial⟩
set_option maxRecDepth 100000 in
theorem el_brt : ∀ (fuel : Nat) (cs : List Value) (x : DataW H × List MemPlace), DataW.trod enc Try.prog w 0 (fun _ => true) true fuel 53 cs = some x →
    ∃ y : BrR, cs = brc y ∧ (Rd w 1 y.A y.b.path.length (ints y.b.path) ∧ y.b.path.length ≤ y.c ∧ y.c ≤ 9223372036854775807 ∧ (y.A = none → y.c = 0)) := by
  intro fuel cs x h
  obtain ⟨xs, m, rfl, _, hlen, hxl, hf⟩ := DataW.trod_struct Try.underlying53 h
  have hc : Try.prog.cellsOf 53 = 2 := by kernel_rfl
  have hi : Try.prog.cellsOf 3 = 1 := by kernel_rfl
  have hs : Try.prog.cellsOf 33 = 1 := by kernel_rfl
  rw [hc] at hlen
  have get : ∀ i, i < 2 → ∃ y, xs[i]? = some y := fun i h => ⟨_, List.getElem?_eq_getElem (by rw [hxl]; exact h)⟩
  match cs, hlen with
  | [c0, c1], _ =>
    obtain ⟨y0, e0⟩ := get 0 (by omega)
    obtain ⟨y1, e1⟩ := get 1 (by omega)
    have g0 := (hf 0 _ rfl).trans e0
    have g1 := (hf 1 _ rfl).trans e1
    simp [hs, hi] at g0 g1
    obtain ⟨n0, k0, _⟩ := DataW.trod_int Try.underlying3 g0
    obtain ⟨A, c, l, hv, hr, _, h6, h7, h8⟩ := open_rows Try.underlying33 hi (by omega) elp_int g1
    simp at hv k0
    rw [flat_intsP] at hr
    exact ⟨⟨⟨n0, l⟩, A, c⟩, by rw [hv, k0]; rfl, hr, h6, h7, fun e => (h8 e).2⟩
set_option maxRecDepth 100000 in
theorem open_prt {r : Reach} {b0 : Nat} {v : Value} {d : DataW H} {ps : List MemPlace} (hval : Value.okWide Try.prog w r b0 26 v) (hd : DataW.Trod enc Try.prog w 0 (fun _ => true) true 26 v d ps) :
    ∃ (Ac : Option Addr) (cc : Nat) (Ab : Option Addr) (cb : Nat) (p : Prt), v = .agg (prtV Ac cc Ab cb p) ∧ PrtB w.heap.size w Ac cc Ab cb p := by
  obtain ⟨cs, rfl, fuel, h⟩ := open_agg Try.underlying26 hval hd
  obtain ⟨xs, m, rfl, _, hlen, hxl, hf⟩ := DataW.trod_struct Try.underlying26 h
  have hc : Try.prog.cellsOf 26 = 3 := by kernel_rfl
  have hi : Try.prog.cellsOf 3 = 1 := by kernel_rfl
  have hs1 : Try.prog.cellsOf 23 = 1 := by kernel_rfl
  have hs2 : Try.prog.cellsOf 24 = 1 := by kernel_rfl
  have h3 : Try.prog.cellsOf 144 = 3 := by kernel_rfl
  have h2 : Try.prog.cellsOf 53 = 2 := by kernel_rfl
  rw [hc] at hlen
  have get : ∀ i, i < 3 → ∃ y, xs[i]? = some y := fun i h => ⟨_, List.getElem?_eq_getElem (by rw [hxl]; exact h)⟩
  match hcs : cs.toList, hlen with
  | [c0, c1, c2], _ =>
    rw [hcs] at hf
    obtain ⟨y0, e0⟩ := get 0 (by omega)
    obtain ⟨y1, e1⟩ := get 1 (by omega)
    obtain ⟨y2, e2⟩ := get 2 (by omega)
    have g0 := (hf 0 _ rfl).trans e0
    have g1 := (hf 1 _ rfl).trans e1
    have g2 := (hf 2 _ rfl).trans e2
    simp [hs1, hs2, hi] at g0 g1 g2
    obtain ⟨Ac, cc, lc, hv0, hr0, _, a6, a7, a8⟩ := open_rows Try.underlying23 h3 (by omega) el_chn g0
    obtain ⟨Ab, cb, lb, hv1, hr1, hG, b6, b7, b8⟩ := open_rows Try.underlying24 h2 (by omega) el_brt g1
    obtain ⟨n2, k2, _⟩ := DataW.trod_int Try.underlying3 g2
    simp at hv0 hv1 k2
    have hl : (lb.map (·.b)).length = lb.length := by simp
    refine ⟨Ac, cc, Ab, cb, ⟨lc, lb.map (·.b), n2⟩, ?_, ⟨RdB.of hr0 (Nat.le_refl _), ?_, ⟨a6, a7, fun e => (a8 e).2⟩, ⟨by rw [hl]; exact b6, b7, fun e => (b8 e).2⟩⟩⟩
    · rw [hv0, hv1, k2] at hcs
      simp only [prtV, hl]
      exact congrArg Value.agg (Array.ext' hcs)
    · intro k hk
      have hk' : k < lb.length := by simpa using hk
      obtain ⟨b, off, e, hb, hcell⟩ := hr1.2 (by omega)
      have q0 := flat_get (f := brc) (s := 2) (fun _ => rfl) hk' (j := 0) (by decide)
      have q1 := flat_get (f := brc) (s := 2) (fun _ => rfl) hk' (j := 1) (by decide)
      have hg := hG _ (List.getElem_mem hk')
      have em : (lb.map (·.b))[k] = lb[k].b := by simp
      refine ⟨b, off, lb[k].A, lb[k].c, e, hb, ?_, ?_, ?_⟩
      · have := hcell _ _ q0
        simpa [em] using this
      · have := hcell _ _ q1
        simpa [em, Nat.add_assoc] using this
      · simp only [em]
        exact ⟨RdB.of hg.1 (Nat.le_refl _), hg.2⟩
set_option maxRecDepth 100000 in
theorem open_pln {r : Reach} {b0 : Nat} {v : Value} {d : DataW H} {ps : List MemPlace} (hval : Value.okWide Try.prog w r b0 31 v) (hd : DataW.Trod enc Try.prog w 0 (fun _ => true) true 31 v d ps) :
    ∃ (Al : Option Addr) (cl : Nat) (As : Option Addr) (cs : Nat) (l : Pln), v = .agg (plnV Al cl As cs l) ∧ PlnB w.heap.size w Al cl As cs l := by
  obtain ⟨cs, rfl, fuel, h⟩ := open_agg Try.underlying31 hval hd
  obtain ⟨xs, m, rfl, _, hlen, hxl, hf⟩ := DataW.trod_struct Try.underlying31 h
  have hc : Try.prog.cellsOf 31 = 3 := by kernel_rfl
  have hi : Try.prog.cellsOf 3 = 1 := by kernel_rfl
  have hs1 : Try.prog.cellsOf 28 = 1 := by kernel_rfl
  have hs2 : Try.prog.cellsOf 29 = 1 := by kernel_rfl
  have h3 : Try.prog.cellsOf 55 = 6 := by kernel_rfl
  have h2 : Try.prog.cellsOf 126 = 3 := by kernel_rfl
  rw [hc] at hlen
  have get : ∀ i, i < 3 → ∃ y, xs[i]? = some y := fun i h => ⟨_, List.getElem?_eq_getElem (by rw [hxl]; exact h)⟩
  match hcs : cs.toList, hlen with
  | [c0, c1, c2], _ =>
    rw [hcs] at hf
    obtain ⟨y0, e0⟩ := get 0 (by omega)
    obtain ⟨y1, e1⟩ := get 1 (by omega)
    obtain ⟨y2, e2⟩ := get 2 (by omega)
    have g0 := (hf 0 _ rfl).trans e0
    have g1 := (hf 1 _ rfl).trans e1
    have g2 := (hf 2 _ rfl).trans e2
    simp [hs1, hs2, hi] at g0 g1 g2
    obtain ⟨Al, cl, ll, hv0, hr0, _, a6, a7, a8⟩ := open_rows Try.underlying28 h3 (by omega) el_cal g1
    obtain ⟨As, ca, ls, hv1, hr1, _, b6, b7, b8⟩ := open_rows Try.underlying29 h2 (by omega) el_swp g2
    obtain ⟨n2, k2, _⟩ := DataW.trod_int Try.underlying3 g0
    simp at hv0 hv1 k2
    refine ⟨Al, cl, As, ca, ⟨n2, ll, ls⟩, ?_, ⟨RdB.of hr0 (Nat.le_refl _), RdB.of hr1 (Nat.le_refl _), ⟨a6, a7, fun e => (a8 e).2⟩, ⟨b6, b7, fun e => (b8 e).2⟩⟩⟩
    rw [hv0, hv1, k2] at hcs
    exact congrArg Value.agg (Array.ext' hcs)
end
end Go.Proofs.Ythmldeningpjbaa
/- The leaves of layer 9: within, maps. -/
namespace Go.Proofs.Ythmldeningpjbaa
open Go Go.RowKit Sp Pt

theorem ptWithin_any (n lo hi : Int) (w : World) :
    Calls Try.prog 80 #[.int .i64 n, .int .i64 lo, .int .i64 hi] w fun e w' => e = .returned (.bool (within n lo hi)) ∧ w = w' := by
  go_enter Try.func80, Try.ntmps80
  go_wp2
  all_goals (go_ret; refine ⟨?_, rfl⟩; simp [within]; try omega)

abbrev mpV (m : Mp) : Value := .agg #[.int .i64 m.add, .int .i64 m.floor, .int .i64 m.most]


theorem nothing_any (v : Value) (w : World) : Calls Try.prog 74 #[v] w fun e w' => e = .returned (.tuple #[]) ∧ w = w' := by
  go_enter Try.func74, Try.ntmps74
  go_wp2
  go_end0
  exact ⟨rfl, rfl⟩

end Go.Proofs.Ythmldeningpjbaa
/- slices.ContainsFunc with closures that only read (printed by wip/tools/anyf.py) -/
namespace Go.Proofs.Ythmldeningpjbaa
open Go Go.RowKit Sp Pt
set_option linter.unusedVariables false

set_option maxHeartbeats 1000000 in
theorem idxBad_any (f : Int → Bool) (A : Option Addr) (c : Nat) (l : List Int) (w : World) (hr : Rd w 1 A l.length (ints l)) (hm : l.length ≤ 9223372036854775807)
    (hf : ∀ x ∈ l, ∀ n, Calls Try.prog 121 #[.int .i64 x] (w.drewN n) fun e w' => e = .returned (.bool (f x)) ∧ ∃ m, w' = w.drewN m) :
    Calls Try.prog 76 #[.slice A l.length c, .func (.func 121) #[] #[]] w fun e w' => ∃ r : Int, e = .returned (.int .i64 r) ∧ decide (0 ≤ r) = l.any f ∧ ∃ m, w' = w.drewN m := by
  go_enter Try.func76, Try.ntmps76
  go_wp2_with fail
  go_loopg [8] (l.length) (fun g i wr => ∃ k : Nat, g + k = l.length ∧ i = .int .i64 k ∧ (l.take k).any f = false ∧ ∃ m, wr = w.drewN m)
  case atStart => exact ⟨0, rfl, rfl, by simp, 0, rfl⟩
  case round =>
    obtain ⟨k, hk, rfl, hb, m, rfl⟩ := hrel
    have HB := Lib.hid hb
    clear hb
    by_cases hlt : k < l.length
    · obtain ⟨b, off, rfl, hbb, hc⟩ := hr.2 (by omega)
      have c0 := hc k _ (ints_get hlt)
      obtain ⟨x, hx⟩ : ∃ x, x = l.getD k 0 := ⟨_, rfl⟩
      rw [← hx] at c0
      have hx' : l[k] = x := by rw [hx]; simp [hlt]
      have H := hf x (by rw [← hx']; exact List.getElem_mem _) m
      obtain ⟨z, hz⟩ : ∃ z, z = f x := ⟨_, rfl⟩
      rw [← hz] at H
      have hs : (l.take (k + 1)).any f = z := by rw [List.take_succ_eq_append_getElem hlt, List.any_append, HB.out, hx', hz]; simp
      have HH := Lib.hid (And.intro H hs)
      clear H hs hz hx' hx hc hr hf
      cases z
      · go_wp2_with (go_at_call 121; refine HH.out.1.mono ?_; rintro e w' ⟨rfl, m', rfl⟩)
        go_roundg (gk - 1)
        case measure => omega
        case rel => exact ⟨k + 1, by omega, by go_num, HH.out.2, m', rfl⟩
      · go_wp2_with (go_at_call 121; refine HH.out.1.mono ?_; rintro e w' ⟨rfl, m', rfl⟩)
        go_ret
        refine ⟨k, rfl, ?_, m', rfl⟩
        have h1 : l.any f = true := by
          obtain ⟨y, hy, hfy⟩ := List.any_eq_true.1 HH.out.2
          exact List.any_eq_true.2 ⟨y, List.mem_of_mem_take hy, hfy⟩
        rw [h1]; simp
    · obtain rfl : k = l.length := by omega
      go_wp2_with fail
      go_ret
      exact ⟨-1, rfl, by have := HB.out; rw [List.take_length] at this; rw [this]; simp, m, rfl⟩

theorem anyBad_any (f : Int → Bool) (A : Option Addr) (c : Nat) (l : List Int) (w : World) (hr : Rd w 1 A l.length (ints l)) (hm : l.length ≤ 9223372036854775807)
    (hf : ∀ x ∈ l, ∀ n, Calls Try.prog 121 #[.int .i64 x] (w.drewN n) fun e w' => e = .returned (.bool (f x)) ∧ ∃ m, w' = w.drewN m) :
    Calls Try.prog 20 #[.slice A l.length c, .func (.func 121) #[] #[]] w fun e w' => e = .returned (.bool (l.any f)) ∧ ∃ m, w' = w.drewN m := by
  have H := idxBad_any f  A c l w hr hm hf
  clear hf
  go_enter Try.func20, Try.ntmps20
  go_wp2_with (go_at_call 76; refine H.mono ?_; rintro e w' ⟨r, rfl, hd, m, rfl⟩; have HD := Lib.hid hd; clear hd)
  go_ret
  exact ⟨by rw [← HD.out]; rfl, m, rfl⟩

set_option maxHeartbeats 1000000 in
theorem idxOver_any (f : Int → Bool) (c0 c1 : Value) (A : Option Addr) (c : Nat) (l : List Int) (w : World) (hr : Rd w 1 A l.length (ints l)) (hm : l.length ≤ 9223372036854775807)
    (hf : ∀ x ∈ l, ∀ n, Calls Try.prog 138 #[.int .i64 x, c0, c1] (w.drewN n) fun e w' => e = .returned (.bool (f x)) ∧ ∃ m, w' = w.drewN m) :
    Calls Try.prog 76 #[.slice A l.length c, .func (.func 138) #[] #[c0, c1]] w fun e w' => ∃ r : Int, e = .returned (.int .i64 r) ∧ decide (0 ≤ r) = l.any f ∧ ∃ m, w' = w.drewN m := by
  go_enter Try.func76, Try.ntmps76
  go_wp2_with fail
  go_loopg [8] (l.length) (fun g i wr => ∃ k : Nat, g + k = l.length ∧ i = .int .i64 k ∧ (l.take k).any f = false ∧ ∃ m, wr = w.drewN m)
  case atStart => exact ⟨0, rfl, rfl, by simp, 0, rfl⟩
  case round =>
    obtain ⟨k, hk, rfl, hb, m, rfl⟩ := hrel
    have HB := Lib.hid hb
    clear hb
    by_cases hlt : k < l.length
    · obtain ⟨b, off, rfl, hbb, hc⟩ := hr.2 (by omega)
      have c0 := hc k _ (ints_get hlt)
      obtain ⟨x, hx⟩ : ∃ x, x = l.getD k 0 := ⟨_, rfl⟩
      rw [← hx] at c0
      have hx' : l[k] = x := by rw [hx]; simp [hlt]
      have H := hf x (by rw [← hx']; exact List.getElem_mem _) m
      obtain ⟨z, hz⟩ : ∃ z, z = f x := ⟨_, rfl⟩
      rw [← hz] at H
      have hs : (l.take (k + 1)).any f = z := by rw [List.take_succ_eq_append_getElem hlt, List.any_append, HB.out, hx', hz]; simp
      have HH := Lib.hid (And.intro H hs)
      clear H hs hz hx' hx hc hr hf
      cases z
      · go_wp2_with (go_at_call 138; refine HH.out.1.mono ?_; rintro e w' ⟨rfl, m', rfl⟩)
        go_roundg (gk - 1)
        case measure => omega
        case rel => exact ⟨k + 1, by omega, by go_num, HH.out.2, m', rfl⟩
      · go_wp2_with (go_at_call 138; refine HH.out.1.mono ?_; rintro e w' ⟨rfl, m', rfl⟩)
        go_ret
        refine ⟨k, rfl, ?_, m', rfl⟩
        have h1 : l.any f = true := by
          obtain ⟨y, hy, hfy⟩ := List.any_eq_true.1 HH.out.2
          exact List.any_eq_true.2 ⟨y, List.mem_of_mem_take hy, hfy⟩
        rw [h1]; simp
    · obtain rfl : k = l.length := by omega
      go_wp2_with fail
      go_ret
      exact ⟨-1, rfl, by have := HB.out; rw [List.take_length] at this; rw [this]; simp, m, rfl⟩

theorem anyOver_any (f : Int → Bool) (c0 c1 : Value) (A : Option Addr) (c : Nat) (l : List Int) (w : World) (hr : Rd w 1 A l.length (ints l)) (hm : l.length ≤ 9223372036854775807)
    (hf : ∀ x ∈ l, ∀ n, Calls Try.prog 138 #[.int .i64 x, c0, c1] (w.drewN n) fun e w' => e = .returned (.bool (f x)) ∧ ∃ m, w' = w.drewN m) :
    Calls Try.prog 20 #[.slice A l.length c, .func (.func 138) #[] #[c0, c1]] w fun e w' => e = .returned (.bool (l.any f)) ∧ ∃ m, w' = w.drewN m := by
  have H := idxOver_any f c0 c1 A c l w hr hm hf
  clear hf
  go_enter Try.func20, Try.ntmps20
  go_wp2_with (go_at_call 76; refine H.mono ?_; rintro e w' ⟨r, rfl, hd, m, rfl⟩; have HD := Lib.hid hd; clear hd)
  go_ret
  exact ⟨by rw [← HD.out]; rfl, m, rfl⟩




end Go.Proofs.Ythmldeningpjbaa
/- slices.Contains over []int; the closure of port.start. -/
namespace Go.Proofs.Ythmldeningpjbaa
open Go Go.RowKit Sp Pt
set_option linter.unusedVariables false

set_option maxHeartbeats 1000000 in
theorem indexI_any (A : Option Addr) (c : Nat) (l : List Int) (t : Int) (w : World) (hr : Rd w 1 A l.length (ints l)) (hm : l.length ≤ 9223372036854775807) :
    Calls Try.prog 77 #[.slice A l.length c, .int .i64 t] w fun e w' => ∃ r : Int, e = .returned (.int .i64 r) ∧ decide (0 ≤ r) = l.contains t ∧ w = w' := by
  go_enter Try.func77, Try.ntmps77
  go_wp2_with fail
  go_loopg [8] (l.length) (fun g i wr => ∃ k : Nat, g + k = l.length ∧ i = .int .i64 k ∧ (l.take k).contains t = false ∧ w = wr)
  case atStart => exact ⟨0, rfl, rfl, by simp, rfl⟩
  case round =>
    obtain ⟨k, hk, rfl, hb, rfl⟩ := hrel
    have HB := Lib.hid hb
    clear hb
    by_cases hlt : k < l.length
    · obtain ⟨b, off, rfl, hbb, hc⟩ := hr.2 (by omega)
      have c0 := hc k _ (ints_get hlt)
      obtain ⟨x, hx⟩ : ∃ x, x = l.getD k 0 := ⟨_, rfl⟩
      rw [← hx] at c0
      have hx' : l[k] = x := by rw [hx]; simp [hlt]
      have HX := Lib.hid hx'
      clear hx hx' hc hr
      go_wp2_with fail
      · go_ret
        refine ⟨k, rfl, ?_, rfl⟩
        have h1 : l.contains t = true := by
          rw [List.contains_iff_mem]
          have : l[k] ∈ l := List.getElem_mem _
          rw [HX.out] at this
          rename_i h
          have h' : t = x := by simpa using h
          rw [h']; exact this
        rw [h1]; simp
      · go_roundg (gk - 1)
        case measure => omega
        case rel =>
          refine ⟨k + 1, by omega, by go_num, ?_, rfl⟩
          rw [List.take_succ_eq_append_getElem hlt, HX.out]
          have h2 := HB.out
          simp only [List.contains_eq_mem, decide_eq_false_iff_not, List.mem_append, List.mem_singleton] at h2 ⊢
          rintro (h | h)
          · exact h2 h
          · simp_all
    · obtain rfl : k = l.length := by omega
      go_wp2_with fail
      go_ret
      exact ⟨-1, rfl, by have := HB.out; rw [List.take_length] at this; rw [this]; simp, rfl⟩

theorem contI_any (A : Option Addr) (c : Nat) (l : List Int) (t : Int) (w : World) (hr : Rd w 1 A l.length (ints l)) (hm : l.length ≤ 9223372036854775807) :
    Calls Try.prog 22 #[.slice A l.length c, .int .i64 t] w fun e w' => e = .returned (.bool (l.contains t)) ∧ w = w' := by
  have H := indexI_any A c l t w hr hm
  go_enter Try.func22, Try.ntmps22
  go_wp2_with (go_at_call 77; refine H.mono ?_; rintro e w' ⟨r, rfl, hd, rfl⟩; have HD := Lib.hid hd; clear hd)
  go_ret
  exact ⟨by rw [← HD.out]; rfl, rfl⟩

theorem stBad_any (n : Int) (w : World) :
    Calls Try.prog 121 #[.int .i64 n] w fun e w' => e = .returned (.bool (!within n 0 1000000)) ∧ w = w' := by
  go_enter Try.func121, Try.ntmps121
  go_wp2_with (go_at_call 80; refine (ptWithin_any _ _ _ _).mono ?_; rintro e w' ⟨rfl, rfl⟩)
  go_ret
  exact ⟨rfl, rfl⟩
end Go.Proofs.Ythmldeningpjbaa
