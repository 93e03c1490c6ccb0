/- The step from a law's contract to its row, for arguments of any readable types: nothing below the heap's old size has turned, so each argument reads as it did. -/
import Derived.Test.YtaokegobilphnaaGreatDoorRows
import Derived.Test.YtaokegobilphnaaGreatDoorLLp0
import Derived.WalkKit
import Derived.ProofKit
import Derived.OpenShut
import Derived.WideKeyArgs
import Derived.Below
import Derived.ChangeSame
import Derived.SizedLaws
import Derived.Deep.Slices
import Derived.Test.YtaokegobilphnaaGreatDoorLLp8
import Derived.Test.YtaokegobilphnaaGreatDoorLLp3
import Derived.Test.YtaokegobilphnaaGreatDoorCards
import Derived.Test.YtaokegobilphnaaGreatDoorTie
import Derived.ChangeMaps5
import Derived.HandedShaped
import Derived.LaidMore
import Derived.Lay
import Derived.LaidLaws
import Derived.MakeChecks
import Derived.SevenTiedAt
import Derived.Stop.Joined
import Derived.Lib.LaidTab
import Derived.Shelf.Strings.Shaped
import Derived.Shelf.Vars
set_option linter.unusedVariables false
set_option linter.unusedSimpArgs false
namespace Go.Proofs.YtaokegobilphnaaGreatDoor
open Go.ChangeShapes Go.WideShapes Go.ChangeAt Go.RowKit

theorem own : ownKnob Tryz.prog.godebug = none := by kernel_rfl
theorem laidOut : laidOutB Tryz.prog = true := by kernel_rfl

section
variable {H : Type} {enc : TypeId × Value → H} {P : Program}
theorem trodAll_stays (hl : laidOutB P = true) {W W' : World} {sp' : Nat → Bool} : ∀ {ts : List TypeId} {vs : List Value} {ds : List (DataW H)} {ps : List MemPlace}, ts.all (fun t => P.readableRec t && decide (t < P.types.size)) = true →
    DataW.TrodAll enc P W 0 (fun _ => true) true ts vs ds ps → (∀ p ∈ ps, W.sameAt W' p) → (∀ p ∈ ps, sp' p.block = true) → DataW.TrodAll enc P W' 0 sp' true ts vs ds ps
  | [], [], [], ps, _, h, _, _ => h
  | t :: ts, v :: vs, d :: ds, ps, hr, h, hsame, hs => by
    obtain ⟨p, q, h1, h2, rfl⟩ := h
    simp only [List.all_cons, Bool.and_eq_true, decide_eq_true_eq] at hr
    exact ⟨p, q, WideElems.Trod_stays hl hr.1.1 hr.1.2 h1 (fun x hx => hsame x (by simp [hx])) (fun x hx => hs x (by simp [hx])),
      trodAll_stays hl hr.2 h2 (fun x hx => hsame x (by simp [hx])) (fun x hx => hs x (by simp [hx])), rfl⟩

theorem law_post (hl : laidOutB P = true) {f : Func} {s : ChangeSpec} {fresh handsOn again : Bool} {W W' : World} {args : Array Value} {ds gs : List (DataW H)} {before : List MemPlace} {tb : TypeId}
    (hr : f.params.toList.all (fun t => P.readableRec t && decide (t < P.types.size)) = true) (hres : f.resultTypes = #[tb]) (htb : P.underlying tb = some .bool) (hvars : s.vars = []) (hs : s.fn H ds = { results := [.lit (.bool true)], args := ds })
    (hW : DataW.Whole enc P f.params.toList s.vars false W args.toList ds gs before) (hb : Below W.heap.size W W') :
    s.post enc P f false fresh handsOn again W args (.bool true) W' := by
  have hlt : ∀ p ∈ before, p.block < W.heap.size := fun p hp => hW.lt p hp
  have hW0 := hW
  obtain ⟨pa, pv, hA, hV, hps, hz, hn⟩ := hW
  rw [hvars] at hV
  obtain ⟨rfl, rfl⟩ := trodVars_none hV
  have hfn : s.fn H (ds ++ []) = { results := [.lit (.bool true)], args := ds } := by rw [List.append_nil]; exact hs
  have hargs : ∀ sp : Nat → Bool, (∀ p ∈ before, sp p.block = true) → DataW.TrodAll enc P W' 0 sp true f.params.toList args.toList ds pa := fun sp hsp =>
    trodAll_stays hl hr hA (fun p hp => hb.same (hlt p (by rw [hps]; simp [hp]))) (fun p hp => hsp p (by rw [hps]; simp [hp]))
  have hr1 : ∀ (b : Nat) (sp : Nat → Bool) (hd : Bool), DataW.TrodAll enc P W' b sp hd f.resultTypes.toList ((Value.bool true).resultList f.resultTypes.size) [.lit (.bool true)] [] := fun b sp hd => by
    rw [hres]; exact (trodAll_cons_mk (shut_bool htb _) trodAll_mk0)
  have hold : ∀ p ∈ before, (fun b => decide (b < W.heap.size)) p.block = true := fun p hp => by simpa using hlt p hp
  have hvr : ∀ sp : Nat → Bool, DataW.TrodVars enc P W' sp s.vars [] [] := fun sp => by rw [hvars]; rfl
  refine ⟨ds, [], before, [], pa, [], hW0, ?_, ?_, ?_, World.keptBut_mono (fun p hp => ⟨hp, ?_⟩) (hb.frame (· ∈ before)), fun _ => ?_⟩
  · rw [hfn]; exact hr1 _ _ _
  · rw [hfn]; exact hargs _ hold
  · rw [hfn]; exact hvr _
  · rw [hps, List.append_nil] at hp
    exact Or.inr (by simpa using hp)
  · refine ⟨ok_one hres rfl (okWide_bool_mk htb _), [.lit (.bool true)] ++ ds, [], ([] ++ pa) ++ [], ⟨[] ++ pa, [], ?_, hvr _, rfl, ?_, ?_⟩, ?_⟩
    · exact trodAll_append (hargs _ (fun _ _ => rfl)) (hr1 _ _ _)
    · intro b off hp
      have hin : MemPlace.cell b off ∈ before := by rw [hps]; simpa using hp
      rw [hb.frozen (hlt _ hin)]
      exact hz b off hin
    · intro ha
      cases ha
    · intro p hp _
      rw [hps]
      simpa using hp
end

section
variable {H : Type} {enc : TypeId × Value → H} {P : Program} {W : World}
/-- an argument that is a slice of integers reads as a list -/
theorem open_intsR {r : Reach} {b0 : Nat} {t e : TypeId} {k : IntKind} {v : Value} {d : DataW H} {ps : List MemPlace} (ht : P.underlying t = some (.slice e)) (he : P.underlying e = some (.int k)) (hc1 : P.cellsOf e = 1)
    (hval : Value.okWide P W r b0 t v) (hd : DataW.Trod enc P W 0 (fun _ => true) true t v d ps) :
    ∃ (A : Option Addr) (c : Nat) (l : List Int), v = .slice A l.length c ∧ Rd W 1 A l.length (l.map (Value.int k)) ∧ (∀ x ∈ l, (Lit.int k x).wf = true) ∧ l.length ≤ c ∧ c ≤ 9223372036854775807 ∧ (d = .nil ∧ l = [] ∨ ∃ rest, d = .slice (lits k l) rest) := by
  obtain ⟨a, len, cap, rfl⟩ := okWide_slice ht hval
  obtain ⟨fuel, hf⟩ := hd
  rcases open_ints ht he hc1 hf with ⟨hv, hx⟩ | ⟨a', len', cap', zs, hv, hb, hl, hm, hz, hx, hc, hw⟩
  · simp [Value.cells] at hv
    obtain ⟨rfl, rfl, rfl⟩ := hv
    simp only [Prod.mk.injEq] at hx
    exact ⟨none, 0, [], rfl, Rd.nil _ _ _, by simp, by simp, by omega, .inl ⟨hx.1, rfl⟩⟩
  · simp [Value.cells] at hv
    obtain ⟨rfl, rfl, rfl⟩ := hv
    simp only [Prod.mk.injEq] at hx
    simp only [if_true] at hz
    have hll : (zs.take len).length = len := by rw [List.length_take]; omega
    unfold maxLen at hm
    refine ⟨some a', cap, zs.take len, by rw [hll], ?_, fun x hx => hw x (List.mem_of_mem_take hx), by omega, hm, .inr ⟨_, hx.1⟩⟩
    rw [hll]
    refine ⟨by rw [List.length_map, hll]; omega, fun hn => ?_⟩
    obtain ⟨b, off, spot⟩ := a'
    have hspot : spot = none := by simpa [Addr.add] using World.cell?_spot (hc 0 (by omega))
    subst hspot
    have h0 := hc 0 (by omega)
    rw [add_plain] at h0
    refine ⟨b, off, rfl, World.block_lt_of_cell? _ _ h0, fun j u hu => ?_⟩
    have hj : j < len := by
      have := (List.getElem?_eq_some_iff.1 hu).1
      rw [List.length_map, hll] at this
      exact this
    have h1 := hc j (by omega)
    rw [add_plain] at h1
    rw [h1, ← hu, List.getElem?_map, List.getElem?_take_of_lt hj, List.getD_eq_getElem?_getD, List.getElem?_eq_getElem (by omega)]
    rfl
/-- the form's own reach: what is read takes less than 2^47 bytes -/
theorem reach_of {ts : List TypeId} {ds : List (DataW H)} {j : Nat} {t e : TypeId} {k : IntKind} {d : DataW H} {l : List Int} (h : (DataW.weightsEach P ts ds).all (· ≤ reachBytes) = true) (ht : ts[j]? = some t) (hd : ds[j]? = some d) (hu : P.underlying t = some (.slice e)) (hb : 1 ≤ P.bytesOf e)
    (hs : d = .nil ∧ l = [] ∨ ∃ rest, d = .slice (lits k l) rest) : l.length ≤ 140737488351232 := by
  rcases hs with ⟨_, rfl⟩ | ⟨rest, rfl⟩
  · simp
  · have h1 := sized_slice h ht hd hu
    have h2 : l.length ≤ (l.length + rest.length) * P.bytesOf e := Nat.le_trans (Nat.le_add_right _ _) (Nat.le_mul_of_pos_right _ hb)
    simp only [lits, List.length_map, reachBytes] at h1
    omega
theorem wf_u8 {x : Int} (h : (Lit.int .u8 x).wf = true) : 0 ≤ x ∧ x ≤ 255 := by simpa [Lit.wf, IntKind.min, IntKind.max, IntKind.signed, IntKind.bits] using h
theorem wf_u16 {x : Int} (h : (Lit.int .u16 x).wf = true) : 0 ≤ x ∧ x ≤ 65535 := by simpa [Lit.wf, IntKind.min, IntKind.max, IntKind.signed, IntKind.bits] using h
end
end Go.Proofs.YtaokegobilphnaaGreatDoor
/- How arguments that hold structs and slices of structs read: leaves, rows. No program is named here. -/
namespace Go.Proofs.YtaokegobilphnaaGreatDoor
open Go Go.ChangeShapes Go.WideShapes Go.ChangeAt Go.RowKit

/-- what a leaf holds: a bool (none), an integer of kind k -/
def LeafOk : Option IntKind → Value → Prop
  | none, v => ∃ b, v = .bool b
  | some k, v => ∃ n, v = .int k n ∧ (Lit.int k n).wf = true

/-- the type is a bool, an integer, or a struct of such, with these leaves -/
def flatOk (P : Program) : Nat → TypeId → List (Option IntKind) → Bool
  | 0, _, _ => false
  | n + 1, t, ks =>
    match P.underlying t with
    | some .bool => decide (ks = [none])
    | some (.int k) => decide (ks = [some k])
    | some (.struct fs) => P.cellsOf t == ks.length && (fs.toList.all (fun f => flatOk P n f.type ((ks.drop f.offset).take (P.cellsOf f.type))) && (List.range ks.length).all fun j => fs.toList.any fun f => decide (f.offset ≤ j) && decide (j < f.offset + P.cellsOf f.type))
    | _ => false

section
variable {H : Type} {enc : TypeId × Value → H} {P : Program} {w : World} {base : Nat} {spare : Nat → Bool} {held : Bool}
theorem flat_cells : ∀ (n : Nat) (t : TypeId) (ks : List (Option IntKind)) (fuel : Nat) (cs : List Value) (x : DataW H × List MemPlace), flatOk P n t ks = true → DataW.trod enc P w base spare held fuel t cs = some x →
    cs.length = ks.length ∧ ∀ (j : Nat) (k : Option IntKind), ks[j]? = some k → ∃ v, cs[j]? = some v ∧ LeafOk k v
  | 0, _, _, _, _, _, h, _ => by simp [flatOk] at h
  | n + 1, t, ks, fuel, cs, x, h, ht => by
    unfold flatOk at h
    split at h
    · rename_i hu
      obtain ⟨b, rfl, _⟩ := DataW.trod_bool hu ht
      have hk : ks = [none] := by simpa using h
      subst hk
      refine ⟨rfl, fun j k hj => ?_⟩
      cases j with
      | zero => simp at hj; subst hj; exact ⟨_, rfl, b, rfl⟩
      | succ j => simp at hj
    · rename_i k0 hu
      obtain ⟨m, rfl, _, hw⟩ := DataW.trod_int hu ht
      have hk : ks = [some k0] := by simpa using h
      subst hk
      refine ⟨rfl, fun j k hj => ?_⟩
      cases j with
      | zero => simp at hj; subst hj; exact ⟨_, rfl, m, rfl, hw⟩
      | succ j => simp at hj
    · rename_i fs hu
      obtain ⟨xs, m, rfl, _, hlen, hxl, hf⟩ := DataW.trod_struct hu ht
      simp only [Bool.and_eq_true, beq_iff_eq, List.all_eq_true] at h
      obtain ⟨h1, h2, h3⟩ := h
      refine ⟨by omega, fun j k hj => ?_⟩
      have hjl : j < ks.length := (List.getElem?_eq_some_iff.1 hj).1
      obtain ⟨f, hfm, hfc⟩ := List.any_eq_true.1 (h3 j (List.mem_range.2 hjl))
      simp only [Bool.and_eq_true, decide_eq_true_eq] at hfc
      obtain ⟨i, hi, rfl⟩ := List.mem_iff_getElem.1 hfm
      have hi' : i < fs.size := by simpa using hi
      have hg := hf i fs[i] (Array.getElem?_eq_getElem hi')
      have hxi : i < xs.length := by omega
      rw [List.getElem?_eq_getElem hxi] at hg
      have hfe : fs.toList[i] = fs[i] := by simp
      rw [hfe] at hfc
      have hfo := h2 _ hfm
      rw [hfe] at hfo
      obtain ⟨e1, e2⟩ := flat_cells n _ _ _ _ _ hfo hg
      obtain ⟨v, hv, hl⟩ := e2 (j - fs[i].offset) k (by rw [List.getElem?_take_of_lt (by omega), List.getElem?_drop, show fs[i].offset + (j - fs[i].offset) = j from by omega]; exact hj)
      rw [List.getElem?_take_of_lt (by omega), List.getElem?_drop, show fs[i].offset + (j - fs[i].offset) = j from by omega] at hv
      exact ⟨v, hv, hl⟩
    · cases h

/-- a slice whose elements read as T's: a list -/
theorem open_rows {T : Type} [Inhabited T] {en : T → List Value} {G : T → Prop} {t e : TypeId} {size : Nat} (ht : P.underlying t = some (.slice e)) (hc : P.cellsOf e = size) (hs0 : 0 < size)
    (hel : ∀ (fuel : Nat) (cs : List Value) (x : DataW H × List MemPlace), DataW.trod enc P w 0 (fun _ => true) held fuel e cs = some x → ∃ y : T, cs = en y ∧ G y)
    {fuel : Nat} {cs : List Value} {x : DataW H × List MemPlace} (h : DataW.trod enc P w 0 (fun _ => true) held fuel t cs = some x) :
    ∃ (A : Option Addr) (c : Nat) (l : List T), cs = [.slice A l.length c] ∧ Rd w size A l.length (l.flatMap en) ∧ (∀ y ∈ l, G y) ∧ l.length ≤ c ∧ c ≤ 9223372036854775807 ∧ (A = none → l.length = 0 ∧ c = 0) := by
  rcases Go.Deep.open_slice ht h with ⟨rfl, _⟩ | ⟨a, len, cap, m, n, D, Pl, rfl, _, hlc, hcm, hm, _, hx⟩
  · exact ⟨none, 0, [], rfl, Rd.nil _ _ _, by simp, by simp, by simp, fun _ => ⟨rfl, rfl⟩⟩
  · rw [if_pos rfl] at hm
    subst hm
    have hx' : ∀ i, i < len → ∃ y : T, w.cells? 0 (a.add (i * size)) size = some (en y) ∧ G y := by
      intro i hi
      obtain ⟨cs', h1, h2⟩ := hx i (by omega)
      obtain ⟨y, rfl, hG⟩ := hel _ _ _ h2
      rw [hc] at h1
      exact ⟨y, h1, hG⟩
    obtain ⟨f, hf⟩ := Go.Deep.choose_lt hx'
    have hlen : ((List.range len).map f).length = len := by simp
    have hens : ∀ i, i < len → (en (f i)).length = size := fun i hi => (World.cells?_some (hf i hi).1).2.1
    unfold maxLen at hcm
    refine ⟨some a, m, (List.range len).map f, by rw [hlen], ?_, ?_, by rw [hlen]; exact hlc, hcm, by simp⟩
    · rw [hlen]
      -- the cells
      have hlenF : ∀ k, k ≤ len → (((List.range k).map f).flatMap en).length = k * size := by
        intro k
        induction k with
        | zero => simp
        | succ k ih =>
          intro hk
          rw [List.range_succ, List.map_append, List.flatMap_append, List.length_append, ih (by omega)]
          simp [hens k (by omega), Nat.add_mul]
      have hget : ∀ k, k ≤ len → ∀ i j, i < k → j < size → (((List.range k).map f).flatMap en)[i * size + j]? = (en (f i))[j]? := by
        intro k
        induction k with
        | zero => intro _ i j hi; omega
        | succ k ih =>
          intro hk i j hi hj
          rw [List.range_succ, List.map_append, List.flatMap_append]
          have hl := hlenF k (by omega)
          by_cases e : i = k
          · subst e
            rw [List.getElem?_append_right (by omega), hl]
            simp [show i * size + j - i * size = j from by omega]
          · have : i * size + j < k * size := by
              have h5 : (i + 1) * size ≤ k * size := Nat.mul_le_mul_right _ (by omega)
              rw [Nat.add_mul] at h5
              omega
            rw [List.getElem?_append_left (by omega)]
            exact ih (by omega) i j (by omega) hj
      refine ⟨hlenF len (Nat.le_refl _), fun hn => ?_⟩
      have h0 := (World.cells?_some (hf 0 hn).1).2.2 0 hs0
      have h00 : 0 < (en (f 0)).length := by rw [hens 0 hn]; exact hs0
      rw [Nat.zero_mul, List.getElem?_eq_getElem h00] at h0
      obtain ⟨b, off, spot⟩ := a
      have hspot : spot = none := by simpa [Addr.add] using World.cell?_spot h0
      subst hspot
      refine ⟨b, off, rfl, ?_, fun j u hu => ?_⟩
      · have := World.block_lt_of_cell? _ _ h0
        simpa [Addr.add] using this
      · have hj := (List.getElem?_eq_some_iff.1 hu).1
        rw [hlenF len (Nat.le_refl _)] at hj
        have hi : j / size < len := (Nat.div_lt_iff_lt_mul hs0).2 hj
        have hr : j % size < size := Nat.mod_lt _ hs0
        have hd : j = j / size * size + j % size := by rw [Nat.mul_comm]; exact (Nat.div_add_mod j size).symm
        have h1 := (World.cells?_some (hf (j / size) hi).1).2.2 (j % size) hr
        have h2 := hget len (Nat.le_refl _) (j / size) (j % size) hi hr
        rw [← hd] at h2
        rw [h2] at hu
        rw [hu] at h1
        have e : (((⟨b, off, none⟩ : Addr).add (j / size * size)).add (j % size)) = ⟨b, off + j, none⟩ := by
          rw [Go.Deep.add_add, ← hd]
          by_cases h : j = 0
          · subst h; simp [Addr.add]
          · simp [Addr.add, h]
        rwa [e] at h1
    · intro y hy
      obtain ⟨i, hi, rfl⟩ := List.mem_map.1 hy
      exact (hf i (List.mem_range.1 hi)).2
/-- an argument of a struct's type -/
theorem open_agg {r : Reach} {b0 : Nat} {t : TypeId} {fs : Array Field} {v : Value} {d : DataW H} {ps : List MemPlace} (ht : P.underlying t = some (.struct fs)) (hval : Value.okWide P w r b0 t v) (hd : DataW.Trod enc P w base spare held t v d ps) :
    ∃ cs, v = .agg cs ∧ ∃ fuel, DataW.trod enc P w base spare held fuel t cs.toList = some (d, ps) := by
  simp only [Value.okWide, ht] at hval
  obtain ⟨cs, rfl, _⟩ := hval
  obtain ⟨fuel, hf⟩ := hd
  exact ⟨cs, rfl, fuel, by simpa [Value.cells] using hf⟩
end
theorem wf_i64 {x : Int} (h : (Lit.int .i64 x).wf = true) : -9223372036854775808 ≤ x ∧ x ≤ 9223372036854775807 := by simpa [Lit.wf, IntKind.min, IntKind.max, IntKind.signed, IntKind.bits] using h
end Go.Proofs.YtaokegobilphnaaGreatDoor
/- How a log's entries read as an argument -/
namespace Go.Proofs.YtaokegobilphnaaGreatDoor
open Go Go.ChangeShapes Go.WideShapes Go.ChangeAt Go.RowKit Sp Lg
set_option linter.unusedVariables false

theorem flat_intsE (l : List Int) : l.flatMap (fun y => [Value.int .i64 y]) = ints l := by
  induction l with
  | nil => rfl
  | cons x l ih => rw [List.flatMap_cons, ih]; rfl
section
variable {H : Type} {enc : TypeId × Value → H} {w : World}
theorem ele_int : ∀ (fuel : Nat) (cs : List Value) (x : DataW H × List MemPlace), DataW.trod enc Tryz.prog w 0 (fun _ => true) true fuel 3 cs = some x → ∃ y : Int, cs = [Value.int .i64 y] ∧ True := by
  intro fuel cs x h
  obtain ⟨n, rfl, _⟩ := DataW.trod_int Tryz.underlying3 h
  exact ⟨n, rfl, trivial⟩
instance : Inhabited EnM := ⟨⟨default, none, 0⟩⟩
set_option maxRecDepth 100000 in
theorem el_ent : ∀ (fuel : Nat) (cs : List Value) (x : DataW H × List MemPlace), DataW.trod enc Tryz.prog w 0 (fun _ => true) true fuel 26 cs = some x → ∃ y : EnM, cs = entL y ∧ Rd w 1 y.A y.x.args.length (ints y.x.args) := by
  intro fuel cs x h
  obtain ⟨xs, m, rfl, _, hlen, hxl, hf⟩ := DataW.trod_struct Tryz.underlying26 h
  have hc : Tryz.prog.cellsOf 26 = 5 := by kernel_rfl
  have hi : Tryz.prog.cellsOf 3 = 1 := by kernel_rfl
  have hs : Tryz.prog.cellsOf 24 = 1 := by kernel_rfl
  have ht : Tryz.prog.cellsOf 9 = 1 := by kernel_rfl
  rw [hc] at hlen
  have get : ∀ i, i < 5 → ∃ y, xs[i]? = some y := fun i h => ⟨_, List.getElem?_eq_getElem (by rw [hxl]; exact h)⟩
  match cs, hlen, hf with
  | [c0, c1, c2, c3, c4], _, hf =>
    obtain ⟨y0, e0⟩ := get 0 (by omega)
    have g0 := (hf 0 _ rfl).trans e0
    obtain ⟨y1, e1⟩ := get 1 (by omega)
    have g1 := (hf 1 _ rfl).trans e1
    obtain ⟨y2, e2⟩ := get 2 (by omega)
    have g2 := (hf 2 _ rfl).trans e2
    obtain ⟨y3, e3⟩ := get 3 (by omega)
    have g3 := (hf 3 _ rfl).trans e3
    obtain ⟨y4, e4⟩ := get 4 (by omega)
    have g4 := (hf 4 _ rfl).trans e4
    simp [hs, hi, ht] at g0 g1 g2 g3 g4
    obtain ⟨n0, v0, _⟩ := DataW.trod_int Tryz.underlying3 g0
    obtain ⟨n1, v1, _⟩ := DataW.trod_int Tryz.underlying3 g1
    obtain ⟨n2, v2, _⟩ := DataW.trod_string Tryz.underlying9 g2
    obtain ⟨A3, k3, l3, v3, r3, _⟩ := open_rows Tryz.underlying24 hi (by omega) ele_int g3
    obtain ⟨n4, v4, _⟩ := DataW.trod_string Tryz.underlying9 g4
    simp at v0 v1 v2 v3 v4
    rw [flat_intsE] at r3
    exact ⟨⟨⟨n0, n1, n2.data.toList, l3, n4.data.toList⟩, A3, k3⟩, by rw [v0, v1, v2, v3, v4]; unfold entL; rw [bs_eta, bs_eta], r3⟩
theorem open_ents {fuel : Nat} {cs : List Value} {x : DataW H × List MemPlace} (h : DataW.trod enc Tryz.prog w 0 (fun _ => true) true fuel 22 cs = some x) :
    ∃ (A : Option Addr) (c : Nat) (L : List EnM), cs = [.slice A L.length c] ∧ Rd w 5 A L.length (entsV L) ∧ EnsOk w L ∧ L.length ≤ 9223372036854775807 := by
  obtain ⟨A, c, L, h1, h2, h3, h4, h5, _⟩ := open_rows Tryz.underlying22 (size := 5) (by kernel_rfl) (by omega) el_ent h
  exact ⟨A, c, L, h1, h2, h3, by omega⟩
end
end Go.Proofs.YtaokegobilphnaaGreatDoor
/- What the laws of layer 13 share on the way to their rows: the world's shape, the tables -/
namespace Go.Proofs.YtaokegobilphnaaGreatDoor
open Go.ChangeShapes Go.WideShapes Go.ChangeAt Go.WideMaps Go.WideElems Go.RowKit
set_option linter.unusedVariables false

abbrev laidE {H : Type} : List (String × DataW Unit) := [("math/bits.deBruijn32tab", Rows.laid_math_bits_deBruijn32tab), ("math/bits.deBruijn64tab", Rows.laid_math_bits_deBruijn64tab), ("internal/strconv.uint64pow10", Rows.laid_internal_strconv_uint64pow10), ("unicode/utf8.acceptRanges", Rows.laid_unicode_utf8_acceptRanges), ("unicode/utf8.first", Rows.laid_unicode_utf8_first)]
theorem laid_tail {P : Program} {x : String × DataW Unit} {l : List (String × DataW Unit)} {W : World} (h : laidMet P (x :: l) W) : laidMet P l W := by
  obtain ⟨ps, hv, hn, ha⟩ := h
  obtain ⟨n, d⟩ := x
  obtain ⟨g, t, cs, fuel, p, q, _, _, _, _, hq, rfl⟩ := hv
  exact ⟨q, hq, (List.nodup_append.1 hn).2.1, fun b off hm => ha b off (List.mem_append_right _ hm)⟩
theorem row_env {W : World} (h : laidMetH Tryz.prog (laidE (H := Unit)) W) (hs : W.ShapedOpen Tryz.prog) : Env W := by
  refine ⟨Go.Proofs.cell_of_shapedOpen_int (g := 0) (t := 3) (zero := #[.int .i64 0]) hs (of_decide_eq_true (by kernel_rfl)) (by kernel_rfl) rfl (by kernel_rfl) (by kernel_rfl) Tryz.underlying3, ?_⟩
  rw [MakeChecks.laidMetH_plain _ _ _ (by kernel_rfl)] at h
  have h2 := laid_tail (laid_tail h)
  rw [show (Rows.laid_internal_strconv_uint64pow10 : DataW Unit) = Lib.tabData .u64 Lib.pow10Tab from by kernel_rfl] at h2
  exact Lib.tabIs_of_head (g := 1) (by kernel_rfl) (by kernel_rfl) Tryz.underlying242 Tryz.underlying209 (by kernel_rfl) (by kernel_rfl) h2
theorem row_met (os : Os) (args : Array Value) : laidMetH Tryz.prog (laidE (H := Unit)) ((World.laidAll Tryz.prog os (laidE (H := Unit))).forCall (fun _ _ => 0) ⟨#[], args, []⟩).memory := by
  rw [MakeChecks.laidMetH_plain _ _ _ (by kernel_rfl)]
  exact laidMet_laidAll _ (by kernel_rfl) (by kernel_rfl)
/-- a row's contract with the world's shape and a condition on the world -/
theorem row_shaped {H : Type} {enc : TypeId × Value → H} {a : Assume} {C : Checked} {os : Os} {f : FuncId} {fn : Func} {s : ChangeSpec} {conds : List PathCond} {apart fresh handsOn again : Bool} {X : World → Array Value → Prop}
    (hX : ∀ (w w' : World) (args : Array Value), w.heap = w'.heap → X w args → X w' args)
    (hown : ownKnob C.prog.godebug = none) (started : os.Started) (noInit : C.prog.inits.idxOf? f = none) (hfn : C.prog.funcs[f]? = some fn)
    (witness : ∃ (w : World) (tape : Tape) (i : Input), w.os = os ∧ (w.forCall tape i).Shaped C.prog ∧ i.vars = [] ∧ Input.okWide C.prog (w.forCall tape i) .any w.heap.size f i ∧
      ((s.pre enc C.prog fn conds apart (w.forCall tape i).memory i.args ∧ X (w.forCall tape i).memory i.args) ∧ sizedMet enc C.prog fn (OpenSpec.ofChange s) apart (w.forCall tape i).memory i.args) ∧ a.holds C.prog (lone (Frame.enter C.prog f i.args .normal) [] (w.forCall tape i)))
    (contract : ∀ (W : World) (base : Nat) (args : Array Value) (ds gs : List (DataW H)) (before : List MemPlace),
      (∀ (j : Nat) t v, fn.params[j]? = some t → args[j]? = some v → Value.okWide C.prog W .any base t v) →
      DataW.Whole enc C.prog fn.params.toList s.vars apart W args.toList ds gs before → X W args → W.ShapedOpen C.prog →
      Calls C.prog f args W fun e W' => ∃ v, e = .returned v ∧ s.post enc C.prog fn apart fresh handsOn again W args v W') :
    ReturnsInHanded a C os f .any (fun w args => (s.pre enc C.prog fn conds apart w args ∧ X w args) ∧ sizedMet enc C.prog fn (OpenSpec.ofChange s) apart w args) (s.post enc C.prog fn apart fresh handsOn again) := by
  refine returnsInHanded_of_calls hown started noInit witness (fun w tape i _ hshape _ hok hpre hh => ?_)
  obtain ⟨_, _, _, fn', hfn', _, _, _, _, hval⟩ := hok
  obtain rfl : fn' = fn := Option.some.inj (hfn'.symm.trans hfn)
  obtain ⟨⟨⟨ds, gs, before, hw, _⟩, hx⟩, _⟩ := hpre
  refine (contract (w.forCall tape i) w.heap.size i.args ds gs before hval (DataW.Whole.of_heap (w' := w.forCall tape i) (by rfl) hw) (hX _ _ _ (by rfl) hx) hshape).mono ?_
  rintro e W' ⟨v, rfl, hp⟩
  exact ChangeSpec.post_blind hp
end Go.Proofs.YtaokegobilphnaaGreatDoor
