/- How arguments that hold structs and slices of structs read: leaves, rows. No program is named here. -/
import Derived.Test.YtaokegobilphnaaGreatDoorLEp0
import Derived.WalkKit
import Derived.ProofKit
import Derived.OpenShut
import Derived.ChangeSame
import Derived.Deep.Slices
import Derived.Test.YtaokegobilphnaaGreatDoorLEp8
import Derived.Test.YtaokegobilphnaaGreatDoorLEp25
import Derived.Test.YtaokegobilphnaaGreatDoorLEp3
import Derived.Test.YtaokegobilphnaaGreatDoorCards
import Derived.Test.YtaokegobilphnaaGreatDoorTie
import Derived.ChangeMaps5
import Derived.HandedShaped
import Derived.LaidMore
import Derived.Lay
import Derived.LaidLaws
import Derived.MakeChecks
import Derived.SevenTiedAt
import Derived.Stop.Joined
import Derived.Lib.LaidTab
import Derived.Shelf.Strings.Shaped
import Derived.Shelf.Vars
set_option linter.unusedVariables false
set_option linter.unusedSimpArgs false
namespace Go.Proofs.YtaokegobilphnaaGreatDoor
open Go Go.ChangeShapes Go.WideShapes Go.ChangeAt Go.RowKit

/-- what a leaf holds: a bool (none), an integer of kind k -/
def LeafOk : Option IntKind → Value → Prop
  | none, v => ∃ b, v = .bool b
  | some k, v => ∃ n, v = .int k n ∧ (Lit.int k n).wf = true

/-- the type is a bool, an integer, or a struct of such, with these leaves -/
def flatOk (P : Program) : Nat → TypeId → List (Option IntKind) → Bool
  | 0, _, _ => false
  | n + 1, t, ks =>
    match P.underlying t with
    | some .bool => decide (ks = [none])
    | some (.int k) => decide (ks = [some k])
    | some (.struct fs) => P.cellsOf t == ks.length && (fs.toList.all (fun f => flatOk P n f.type ((ks.drop f.offset).take (P.cellsOf f.type))) && (List.range ks.length).all fun j => fs.toList.any fun f => decide (f.offset ≤ j) && decide (j < f.offset + P.cellsOf f.type))
    | _ => false

section
variable {H : Type} {enc : TypeId × Value → H} {P : Program} {w : World} {base : Nat} {spare : Nat → Bool} {held : Bool}
theorem flat_cells : ∀ (n : Nat) (t : TypeId) (ks : List (Option IntKind)) (fuel : Nat) (cs : List Value) (x : DataW H × List MemPlace), flatOk P n t ks = true → DataW.trod enc P w base spare held fuel t cs = some x →
    cs.length = ks.length ∧ ∀ (j : Nat) (k : Option IntKind), ks[j]? = some k → ∃ v, cs[j]? = some v ∧ LeafOk k v
  | 0, _, _, _, _, _, h, _ => by simp [flatOk] at h
  | n + 1, t, ks, fuel, cs, x, h, ht => by
    unfold flatOk at h
    split at h
    · rename_i hu
      obtain ⟨b, rfl, _⟩ := DataW.trod_bool hu ht
      have hk : ks = [none] := by simpa using h
      subst hk
      refine ⟨rfl, fun j k hj => ?_⟩
      cases j with
      | zero => simp at hj; subst hj; exact ⟨_, rfl, b, rfl⟩
      | succ j => simp at hj
    · rename_i k0 hu
      obtain ⟨m, rfl, _, hw⟩ := DataW.trod_int hu ht
      have hk : ks = [some k0] := by simpa using h
      subst hk
      refine ⟨rfl, fun j k hj => ?_⟩
      cases j with
      | zero => simp at hj; subst hj; exact ⟨_, rfl, m, rfl, hw⟩
      | succ j => simp at hj
    · rename_i fs hu
      obtain ⟨xs, m, rfl, _, hlen, hxl, hf⟩ := DataW.trod_struct hu ht
      simp only [Bool.and_eq_true, beq_iff_eq, List.all_eq_true] at h
      obtain ⟨h1, h2, h3⟩ := h
      refine ⟨by omega, fun j k hj => ?_⟩
      have hjl : j < ks.length := (List.getElem?_eq_some_iff.1 hj).1
      obtain ⟨f, hfm, hfc⟩ := List.any_eq_true.1 (h3 j (List.mem_range.2 hjl))
      simp only [Bool.and_eq_true, decide_eq_true_eq] at hfc
      obtain ⟨i, hi, rfl⟩ := List.mem_iff_getElem.1 hfm
      have hi' : i < fs.size := by simpa using hi
      have hg := hf i fs[i] (Array.getElem?_eq_getElem hi')
      have hxi : i < xs.length := by omega
      rw [List.getElem?_eq_getElem hxi] at hg
      have hfe : fs.toList[i] = fs[i] := by simp
      rw [hfe] at hfc
      have hfo := h2 _ hfm
      rw [hfe] at hfo
      obtain ⟨e1, e2⟩ := flat_cells n _ _ _ _ _ hfo hg
      obtain ⟨v, hv, hl⟩ := e2 (j - fs[i].offset) k (by rw [List.getElem?_take_of_lt (by omega), List.getElem?_drop, show fs[i].offset + (j - fs[i].offset) = j from by omega]; exact hj)
      rw [List.getElem?_take_of_lt (by omega), List.getElem?_drop, show fs[i].offset + (j - fs[i].offset) = j from by omega] at hv
      exact ⟨v, hv, hl⟩
    · cases h

/-- a slice whose elements read as T's: a list -/
theorem open_rows {T : Type} [Inhabited T] {en : T → List Value} {G : T → Prop} {t e : TypeId} {size : Nat} (ht : P.underlying t = some (.slice e)) (hc : P.cellsOf e = size) (hs0 : 0 < size)
    (hel : ∀ (fuel : Nat) (cs : List Value) (x : DataW H × List MemPlace), DataW.trod enc P w 0 (fun _ => true) held fuel e cs = some x → ∃ y : T, cs = en y ∧ G y)
    {fuel : Nat} {cs : List Value} {x : DataW H × List MemPlace} (h : DataW.trod enc P w 0 (fun _ => true) held fuel t cs = some x) :
    ∃ (A : Option Addr) (c : Nat) (l : List T), cs = [.slice A l.length c] ∧ Rd w size A l.length (l.flatMap en) ∧ (∀ y ∈ l, G y) ∧ l.length ≤ c ∧ c ≤ 9223372036854775807 ∧ (A = none → l.length = 0 ∧ c = 0) := by
  rcases Go.Deep.open_slice ht h with ⟨rfl, _⟩ | ⟨a, len, cap, m, n, D, Pl, rfl, _, hlc, hcm, hm, _, hx⟩
  · exact ⟨none, 0, [], rfl, Rd.nil _ _ _, by simp, by simp, by simp, fun _ => ⟨rfl, rfl⟩⟩
  · rw [if_pos rfl] at hm
    subst hm
    have hx' : ∀ i, i < len → ∃ y : T, w.cells? 0 (a.add (i * size)) size = some (en y) ∧ G y := by
      intro i hi
      obtain ⟨cs', h1, h2⟩ := hx i (by omega)
      obtain ⟨y, rfl, hG⟩ := hel _ _ _ h2
      rw [hc] at h1
      exact ⟨y, h1, hG⟩
    obtain ⟨f, hf⟩ := Go.Deep.choose_lt hx'
    have hlen : ((List.range len).map f).length = len := by simp
    have hens : ∀ i, i < len → (en (f i)).length = size := fun i hi => (World.cells?_some (hf i hi).1).2.1
    unfold maxLen at hcm
    refine ⟨some a, m, (List.range len).map f, by rw [hlen], ?_, ?_, by rw [hlen]; exact hlc, hcm, by simp⟩
    · rw [hlen]
      -- the cells
      have hlenF : ∀ k, k ≤ len → (((List.range k).map f).flatMap en).length = k * size := by
        intro k
        induction k with
        | zero => simp
        | succ k ih =>
          intro hk
          rw [List.range_succ, List.map_append, List.flatMap_append, List.length_append, ih (by omega)]
          simp [hens k (by omega), Nat.add_mul]
      have hget : ∀ k, k ≤ len → ∀ i j, i < k → j < size → (((List.range k).map f).flatMap en)[i * size + j]? = (en (f i))[j]? := by
        intro k
        induction k with
        | zero => intro _ i j hi; omega
        | succ k ih =>
          intro hk i j hi hj
          rw [List.range_succ, List.map_append, List.flatMap_append]
          have hl := hlenF k (by omega)
          by_cases e : i = k
          · subst e
            rw [List.getElem?_append_right (by omega), hl]
            simp [show i * size + j - i * size = j from by omega]
          · have : i * size + j < k * size := by
              have h5 : (i + 1) * size ≤ k * size := Nat.mul_le_mul_right _ (by omega)
              rw [Nat.add_mul] at h5
              omega
            rw [List.getElem?_append_left (by omega)]
            exact ih (by omega) i j (by omega) hj
      refine ⟨hlenF len (Nat.le_refl _), fun hn => ?_⟩
      have h0 := (World.cells?_some (hf 0 hn).1).2.2 0 hs0
      have h00 : 0 < (en (f 0)).length := by rw [hens 0 hn]; exact hs0
      rw [Nat.zero_mul, List.getElem?_eq_getElem h00] at h0
      obtain ⟨b, off, spot⟩ := a
      have hspot : spot = none := by simpa [Addr.add] using World.cell?_spot h0
      subst hspot
      refine ⟨b, off, rfl, ?_, fun j u hu => ?_⟩
      · have := World.block_lt_of_cell? _ _ h0
        simpa [Addr.add] using this
      · have hj := (List.getElem?_eq_some_iff.1 hu).1
        rw [hlenF len (Nat.le_refl _)] at hj
        have hi : j / size < len := (Nat.div_lt_iff_lt_mul hs0).2 hj
        have hr : j % size < size := Nat.mod_lt _ hs0
        have hd : j = j / size * size + j % size := by rw [Nat.mul_comm]; exact (Nat.div_add_mod j size).symm
        have h1 := (World.cells?_some (hf (j / size) hi).1).2.2 (j % size) hr
        have h2 := hget len (Nat.le_refl _) (j / size) (j % size) hi hr
        rw [← hd] at h2
        rw [h2] at hu
        rw [hu] at h1
        have e : (((⟨b, off, none⟩ : Addr).add (j / size * size)).add (j % size)) = ⟨b, off + j, none⟩ := by
          rw [Go.Deep.add_add, ← hd]
          by_cases h : j = 0
          · subst h; simp [Addr.add]
          · simp [Addr.add, h]
        rwa [e] at h1
    · intro y hy
      obtain ⟨i, hi, rfl⟩ := List.mem_map.1 hy
      exact (hf i (List.mem_range.1 hi)).2
/-- an argument of a struct's type -/
theorem open_agg {r : Reach} {b0 : Nat} {t : TypeId} {fs : Array Field} {v : Value} {d : DataW H} {ps : List MemPlace} (ht : P.underlying t = some (.struct fs)) (hval : Value.okWide P w r b0 t v) (hd : DataW.Trod enc P w base spare held t v d ps) :
    ∃ cs, v = .agg cs ∧ ∃ fuel, DataW.trod enc P w base spare held fuel t cs.toList = some (d, ps) := by
  simp only [Value.okWide, ht] at hval
  obtain ⟨cs, rfl, _⟩ := hval
  obtain ⟨fuel, hf⟩ := hd
  exact ⟨cs, rfl, fuel, by simpa [Value.cells] using hf⟩
end
theorem wf_i64 {x : Int} (h : (Lit.int .i64 x).wf = true) : -9223372036854775808 ≤ x ∧ x ≤ 9223372036854775807 := by simpa [Lit.wf, IntKind.min, IntKind.max, IntKind.signed, IntKind.bits] using h
end Go.Proofs.YtaokegobilphnaaGreatDoor
/- How a log's entries read as an argument -/
namespace Go.Proofs.YtaokegobilphnaaGreatDoor
open Go Go.ChangeShapes Go.WideShapes Go.ChangeAt Go.RowKit Sp Lg
set_option linter.unusedVariables false

theorem flat_intsE (l : List Int) : l.flatMap (fun y => [Value.int .i64 y]) = ints l := by
  induction l with
  | nil => rfl
  | cons x l ih => rw [List.flatMap_cons, ih]; rfl
section
variable {H : Type} {enc : TypeId × Value → H} {w : World}
theorem ele_int : ∀ (fuel : Nat) (cs : List Value) (x : DataW H × List MemPlace), DataW.trod enc Tryz.prog w 0 (fun _ => true) true fuel 3 cs = some x → ∃ y : Int, cs = [Value.int .i64 y] ∧ True := by
  intro fuel cs x h
  obtain ⟨n, rfl, _⟩ := DataW.trod_int Tryz.underlying3 h
  exact ⟨n, rfl, trivial⟩
instance : Inhabited EnM := ⟨⟨default, none, 0⟩⟩
set_option maxRecDepth 100000 in
theorem el_ent : ∀ (fuel : Nat) (cs : List Value) (x : DataW H × List MemPlace), DataW.trod enc Tryz.prog w 0 (fun _ => true) true fuel 26 cs = some x → ∃ y : EnM, cs = entL y ∧ Rd w 1 y.A y.x.args.length (ints y.x.args) := by
  intro fuel cs x h
  obtain ⟨xs, m, rfl, _, hlen, hxl, hf⟩ := DataW.trod_struct Tryz.underlying26 h
  have hc : Tryz.prog.cellsOf 26 = 5 := by kernel_rfl
  have hi : Tryz.prog.cellsOf 3 = 1 := by kernel_rfl
  have hs : Tryz.prog.cellsOf 24 = 1 := by kernel_rfl
  have ht : Tryz.prog.cellsOf 9 = 1 := by kernel_rfl
  rw [hc] at hlen
  have get : ∀ i, i < 5 → ∃ y, xs[i]? = some y := fun i h => ⟨_, List.getElem?_eq_getElem (by rw [hxl]; exact h)⟩
  match cs, hlen, hf with
  | [c0, c1, c2, c3, c4], _, hf =>
    obtain ⟨y0, e0⟩ := get 0 (by omega)
    have g0 := (hf 0 _ rfl).trans e0
    obtain ⟨y1, e1⟩ := get 1 (by omega)
    have g1 := (hf 1 _ rfl).trans e1
    obtain ⟨y2, e2⟩ := get 2 (by omega)
    have g2 := (hf 2 _ rfl).trans e2
    obtain ⟨y3, e3⟩ := get 3 (by omega)
    have g3 := (hf 3 _ rfl).trans e3
    obtain ⟨y4, e4⟩ := get 4 (by omega)
    have g4 := (hf 4 _ rfl).trans e4
    simp [hs, hi, ht] at g0 g1 g2 g3 g4
    obtain ⟨n0, v0, _⟩ := DataW.trod_int Tryz.underlying3 g0
    obtain ⟨n1, v1, _⟩ := DataW.trod_int Tryz.underlying3 g1
    obtain ⟨n2, v2, _⟩ := DataW.trod_string Tryz.underlying9 g2
    obtain ⟨A3, k3, l3, v3, r3, _⟩ := open_rows Tryz.underlying24 hi (by omega) ele_int g3
    obtain ⟨n4, v4, _⟩ := DataW.trod_string Tryz.underlying9 g4
    simp at v0 v1 v2 v3 v4
    rw [flat_intsE] at r3
    exact ⟨⟨⟨n0, n1, n2.data.toList, l3, n4.data.toList⟩, A3, k3⟩, by rw [v0, v1, v2, v3, v4]; unfold entL; rw [bs_eta, bs_eta], r3⟩
theorem open_ents {fuel : Nat} {cs : List Value} {x : DataW H × List MemPlace} (h : DataW.trod enc Tryz.prog w 0 (fun _ => true) true fuel 22 cs = some x) :
    ∃ (A : Option Addr) (c : Nat) (L : List EnM), cs = [.slice A L.length c] ∧ Rd w 5 A L.length (entsV L) ∧ EnsOk w L ∧ L.length ≤ 9223372036854775807 := by
  obtain ⟨A, c, L, h1, h2, h3, h4, h5, _⟩ := open_rows Tryz.underlying22 (size := 5) (by kernel_rfl) (by omega) el_ent h
  exact ⟨A, c, L, h1, h2, h3, by omega⟩
end
end Go.Proofs.YtaokegobilphnaaGreatDoor
/- What the laws of layer 13 share on the way to their rows: the world's shape, the tables -/
namespace Go.Proofs.YtaokegobilphnaaGreatDoor
open Go.ChangeShapes Go.WideShapes Go.ChangeAt Go.WideMaps Go.WideElems Go.RowKit
set_option linter.unusedVariables false

abbrev laidE {H : Type} : List (String × DataW Unit) := [("math/bits.deBruijn32tab", Rows.laid_math_bits_deBruijn32tab), ("math/bits.deBruijn64tab", Rows.laid_math_bits_deBruijn64tab), ("internal/strconv.uint64pow10", Rows.laid_internal_strconv_uint64pow10), ("unicode/utf8.acceptRanges", Rows.laid_unicode_utf8_acceptRanges), ("unicode/utf8.first", Rows.laid_unicode_utf8_first)]
theorem laid_tail {P : Program} {x : String × DataW Unit} {l : List (String × DataW Unit)} {W : World} (h : laidMet P (x :: l) W) : laidMet P l W := by
  obtain ⟨ps, hv, hn, ha⟩ := h
  obtain ⟨n, d⟩ := x
  obtain ⟨g, t, cs, fuel, p, q, _, _, _, _, hq, rfl⟩ := hv
  exact ⟨q, hq, (List.nodup_append.1 hn).2.1, fun b off hm => ha b off (List.mem_append_right _ hm)⟩
theorem row_env {W : World} (h : laidMetH Tryz.prog (laidE (H := Unit)) W) (hs : W.ShapedOpen Tryz.prog) : Env W := by
  refine ⟨Go.Proofs.cell_of_shapedOpen_int (g := 0) (t := 3) (zero := #[.int .i64 0]) hs (of_decide_eq_true (by kernel_rfl)) (by kernel_rfl) rfl (by kernel_rfl) (by kernel_rfl) Tryz.underlying3, ?_⟩
  rw [MakeChecks.laidMetH_plain _ _ _ (by kernel_rfl)] at h
  have h2 := laid_tail (laid_tail h)
  rw [show (Rows.laid_internal_strconv_uint64pow10 : DataW Unit) = Lib.tabData .u64 Lib.pow10Tab from by kernel_rfl] at h2
  exact Lib.tabIs_of_head (g := 1) (by kernel_rfl) (by kernel_rfl) Tryz.underlying242 Tryz.underlying209 (by kernel_rfl) (by kernel_rfl) h2
theorem row_met (os : Os) (args : Array Value) : laidMetH Tryz.prog (laidE (H := Unit)) ((World.laidAll Tryz.prog os (laidE (H := Unit))).forCall (fun _ _ => 0) ⟨#[], args, []⟩).memory := by
  rw [MakeChecks.laidMetH_plain _ _ _ (by kernel_rfl)]
  exact laidMet_laidAll _ (by kernel_rfl) (by kernel_rfl)
/-- a row's contract with the world's shape and a condition on the world -/
theorem row_shaped {H : Type} {enc : TypeId × Value → H} {a : Assume} {C : Checked} {os : Os} {f : FuncId} {fn : Func} {s : ChangeSpec} {conds : List PathCond} {apart fresh handsOn again : Bool} {X : World → Array Value → Prop}
    (hX : ∀ (w w' : World) (args : Array Value), w.heap = w'.heap → X w args → X w' args)
    (hown : ownKnob C.prog.godebug = none) (started : os.Started) (noInit : C.prog.inits.idxOf? f = none) (hfn : C.prog.funcs[f]? = some fn)
    (witness : ∃ (w : World) (tape : Tape) (i : Input), w.os = os ∧ (w.forCall tape i).Shaped C.prog ∧ i.vars = [] ∧ Input.okWide C.prog (w.forCall tape i) .any w.heap.size f i ∧
      ((s.pre enc C.prog fn conds apart (w.forCall tape i).memory i.args ∧ X (w.forCall tape i).memory i.args) ∧ sizedMet enc C.prog fn (OpenSpec.ofChange s) apart (w.forCall tape i).memory i.args) ∧ a.holds C.prog (lone (Frame.enter C.prog f i.args .normal) [] (w.forCall tape i)))
    (contract : ∀ (W : World) (base : Nat) (args : Array Value) (ds gs : List (DataW H)) (before : List MemPlace),
      (∀ (j : Nat) t v, fn.params[j]? = some t → args[j]? = some v → Value.okWide C.prog W .any base t v) →
      DataW.Whole enc C.prog fn.params.toList s.vars apart W args.toList ds gs before → X W args → W.ShapedOpen C.prog →
      Calls C.prog f args W fun e W' => ∃ v, e = .returned v ∧ s.post enc C.prog fn apart fresh handsOn again W args v W') :
    ReturnsInHanded a C os f .any (fun w args => (s.pre enc C.prog fn conds apart w args ∧ X w args) ∧ sizedMet enc C.prog fn (OpenSpec.ofChange s) apart w args) (s.post enc C.prog fn apart fresh handsOn again) := by
  refine returnsInHanded_of_calls hown started noInit witness (fun w tape i _ hshape _ hok hpre hh => ?_)
  obtain ⟨_, _, _, fn', hfn', _, _, _, _, hval⟩ := hok
  obtain rfl : fn' = fn := Option.some.inj (hfn'.symm.trans hfn)
  obtain ⟨⟨⟨ds, gs, before, hw, _⟩, hx⟩, _⟩ := hpre
  refine (contract (w.forCall tape i) w.heap.size i.args ds gs before hval (DataW.Whole.of_heap (w' := w.forCall tape i) (by rfl) hw) (hX _ _ _ (by rfl) hx) hshape).mono ?_
  rintro e W' ⟨v, rfl, hp⟩
  exact ChangeSpec.post_blind hp
end Go.Proofs.YtaokegobilphnaaGreatDoor
