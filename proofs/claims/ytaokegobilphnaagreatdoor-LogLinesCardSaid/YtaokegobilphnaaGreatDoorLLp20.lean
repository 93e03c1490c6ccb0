/- ice.Blank, of right sides and hour -/
import Derived.Test.YtaokegobilphnaaGreatDoorLLp19
import Derived.WalkKit
import Derived.Deep.RegionHeld3
import Derived.Deep.RegionLaw
import Derived.Deep.RegionWith
import Derived.BigRegion
import Derived.BigQuiet
import Derived.StillTailTactics
set_option linter.unusedVariables false
set_option linter.unusedSimpArgs false
namespace Go.Proofs.YtaokegobilphnaaGreatDoor
open Go Go.RowKit Go.Lib Sp
set_option linter.unusedVariables false
set_option linter.unusedSimpArgs false

theorem chart_results {F : Func} {r s : Nat} (hF : F.results = #[.cell r 57, .tmp s]) {W : World} {b : Nat} {x y z : Int} {A : Option Addr} {n c : Nat} (h : W.heap[b]? = some (.cells #[.int .i64 x, .int .i64 y, .int .i64 z, .slice A n c] 57 (0, 0))) (tmps : Array Value) (v : Value) (hr : tmps.getD r undef = .pointer (some ⟨b, 0, none⟩)) (hs : tmps.getD s undef = v) :
    (results F tmps).run Tryz.prog W = .ok (.tuple #[.agg #[.int .i64 x, .int .i64 y, .int .i64 z, .slice A n c], v]) W := by
  have g4 : tmps[r]?.getD undef = .pointer (some ⟨b, 0, none⟩) := by simpa using hr
  have g5 : tmps[s]?.getD undef = v := by simpa using hs
  have c0 : W.cell? ⟨b, 0, none⟩ = some (.int .i64 x) := (cell_of_heap h 0).trans rfl
  have c1 : W.cell? ⟨b, 1, none⟩ = some (.int .i64 y) := (cell_of_heap h 1).trans rfl
  have c2 : W.cell? ⟨b, 2, none⟩ = some (.int .i64 z) := (cell_of_heap h 2).trans rfl
  have c3 : W.cell? ⟨b, 3, none⟩ = some (.slice A n c) := (cell_of_heap h 3).trans rfl
  simp [results, hF, g4, g5, asAddr, go_sem, c0, c1, c2, c3]
theorem celW_rd (W : World) : Rd (W.alloc (.cells #[.int .i64 0, .int .i64 100, .int .i64 0, .int .i64 400, .int .i64 0, .int .i64 100, .int .i64 0, .int .i64 3] 73)) 8 (some ⟨W.heap.size, 0, none⟩) 1 (cel celW) :=
  ⟨rfl, fun _ => ⟨_, 0, rfl, by simp, fun j u hu => by rw [Nat.zero_add, World.cell?_alloc_new]; simpa [cel, celW] using hu⟩⟩
theorem cel_one (x : Cel) : ∀ v ∈ cel x, v.oneCell' = true := by
  intro u hx
  simp [cel] at hx
  rcases hx with rfl | rfl | rfl | rfl | rfl | rfl | rfl | rfl <;> rfl

def BlankPost (w : World) (a b h : Int) (n : Nat) (e : Ending) (w' : World) : Prop :=
  ∃ g, e = .returned (.tuple #[.agg #[.int .i64 a, .int .i64 b, .int .i64 h, .slice (some ⟨g, 0, none⟩) n n], .int .i64 0]) ∧ (∃ cur, w'.heap[g]? = some (.cells cur 73 (0, 0)) ∧ RepSt (cel celW) n n cur) ∧ w.heap.size ≤ g ∧ Below w.heap.size w w'
set_option maxRecDepth 100000 in
set_option maxHeartbeats 2000000 in
theorem blank_ok (a b h : Int) (n : Nat) (hn : a * b = n) (h0 : sizeE a b h = 0) (w : World) :
    Calls Tryz.prog 136 #[.int .i64 a, .int .i64 b, .int .i64 h] w (BlankPost w a b h n) := by
  obtain ⟨⟨a1, a2⟩, ⟨b1, b2⟩, p1, p2⟩ := size_zero h0
  have hn1 : 0 < n := by
    have := Int.mul_pos (show (0 : Int) < a by omega) (show (0 : Int) < b by omega)
    omega
  have hn2 : n ≤ 1024 := by omega
  obtain ⟨W, hW⟩ : ∃ W, W = w.alloc (.cells #[.int .i64 0, .int .i64 0, .int .i64 0, .slice none 0 0] 57) := ⟨_, rfl⟩
  obtain ⟨rb, hrb⟩ : ∃ b, b = w.heap.size := ⟨_, rfl⟩
  have hh : W.heap[rb]? = some (.cells #[.int .i64 0, .int .i64 0, .int .i64 0, .slice none 0 0] 57 (0, 0)) := by rw [hW, hrb]; exact heap_alloc_new _ _
  have bW : Below w.heap.size w W := by rw [hW]; exact (Below.refl _ _).alloc (Nat.le_refl _) _
  have hrw : w.heap.size ≤ rb := by omega
  have ks := size_any a b h W
  rw [h0] at ks
  have kr := fun W => RpCel_any (some ⟨World.heap W |>.size, 0, none⟩) 1 (cel celW) rfl (cel_one _) n hn1 (by omega) _ (celW_rd W)
  have hw1 : IntKind.i64.wrap (a * b) = (n : Int) := by rw [hn]; exact IntWalk.i64_in _ (by omega)
  have HR := Lib.hid (And.intro hh (And.intro bW (And.intro hrw (And.intro ks kr))))
  clear hh bW hrw ks kr hn h0 p1 p2
  go_enter Tryz.func136, Tryz.ntmps136
  go_upto_region 1 with fail
  rw [← hW, ← hrb]
  clear hW hrb
  go_upto_region 4 with (go_at_call 128; refine HR.out.2.2.2.1.mono ?_; rintro e w' ⟨rfl, rfl⟩)
  go_wp2_with fail
  refine (Whole_any _).mono ?_
  rintro e w1 ⟨rfl, b1⟩
  go_wp2_with fail
  refine (HR.out.2.2.2.2 w1).mono ?_
  rintro e w2 ⟨g, rfl, hg, hgw, b2⟩
  have b02 : Below w.heap.size w w2 := HR.out.2.1.trans ((b1.trans ((((Below.refl _ _).alloc (Nat.le_refl _) _).trans (b2.mono (by simp))).mono b1.size)).mono HR.out.2.1.size)
  have bW2 : Below W.heap.size W w2 := b1.trans ((((Below.refl _ _).alloc (Nat.le_refl _) _).trans (b2.mono (by simp))).mono b1.size)
  have hh2 := (bW2.block _ (heap_lt HR.out.1)).trans HR.out.1
  have hgr : rb ≠ g := by have := heap_lt HR.out.1; have := b1.size; simp at hgw; omega
  have c0 := (cell_of_heap hh2 0).trans rfl
  have c1 := (cell_of_heap hh2 1).trans rfl
  have c2 := (cell_of_heap hh2 2).trans rfl
  have c3 := (cell_of_heap hh2 3).trans rfl
  have f0 := frozen_of_heap hh2 0
  have f1 := frozen_of_heap hh2 1
  have f2 := frozen_of_heap hh2 2
  have f3 := frozen_of_heap hh2 3
  have zo := heap_lt hh2
  have hfin : ((((w2.setCell ⟨rb, 0, none⟩ (.int .i64 a)).setCell ⟨rb, 1, none⟩ (.int .i64 b)).setCell ⟨rb, 2, none⟩ (.int .i64 h)).setCell ⟨rb, 3, none⟩ (.slice (some ⟨g, 0, none⟩) n n)).heap[rb]? = some (.cells #[.int .i64 a, .int .i64 b, .int .i64 h, .slice (some ⟨g, 0, none⟩) n n] 57 (0, 0)) := heap_set (heap_set (heap_set (heap_set hh2 0 (.int .i64 a)) 1 (.int .i64 b)) 2 (.int .i64 h)) 3 (.slice (some ⟨g, 0, none⟩) n n)
  have bfin : Below w.heap.size w ((((w2.setCell ⟨rb, 0, none⟩ (.int .i64 a)).setCell ⟨rb, 1, none⟩ (.int .i64 b)).setCell ⟨rb, 2, none⟩ (.int .i64 h)).setCell ⟨rb, 3, none⟩ (.slice (some ⟨g, 0, none⟩) n n)) := (((b02.setCell (p := ⟨rb, 0, none⟩) HR.out.2.2.1 _).setCell (p := ⟨rb, 1, none⟩) HR.out.2.2.1 _).setCell (p := ⟨rb, 2, none⟩) HR.out.2.2.1 _).setCell (p := ⟨rb, 3, none⟩) HR.out.2.2.1 _
  have hgf : ∃ cur, ((((w2.setCell ⟨rb, 0, none⟩ (.int .i64 a)).setCell ⟨rb, 1, none⟩ (.int .i64 b)).setCell ⟨rb, 2, none⟩ (.int .i64 h)).setCell ⟨rb, 3, none⟩ (.slice (some ⟨g, 0, none⟩) n n)).heap[g]? = some (.cells cur 73 (0, 0)) ∧ RepSt (cel celW) n n cur := by
    obtain ⟨cur, q1, q2⟩ := hg
    exact ⟨cur, heap_set_ne (heap_set_ne (heap_set_ne (heap_set_ne q1 (Ne.symm hgr) _) (Ne.symm hgr) _) (Ne.symm hgr) _) (Ne.symm hgr) _, q2⟩
  have hgw' : w.heap.size ≤ g := by have := b1.size; have := HR.out.2.1.size; simp at hgw; omega
  have H3 := Lib.hid (And.intro hfin (And.intro bfin (And.intro hgf hgw')))
  clear hh2 hfin bfin hgf hgw' hgw hg b1 b2 b02 bW2 hgr
  go_wp2_with fail
  exact bodyPost_ret (chart_results (r := 6) (s := 7) rfl H3.out.1 _ _ rfl rfl) rfl ⟨g, rfl, H3.out.2.2.1, H3.out.2.2.2, H3.out.2.1⟩
end Go.Proofs.YtaokegobilphnaaGreatDoor
/- The cells of a chart in memory; plain law of a chart's reading -/
namespace Go.Proofs.YtaokegobilphnaaGreatDoor
open Go Go.RowKit Go.Shelf Go.Proofs Sp Lg
set_option linter.unusedVariables false
set_option linter.unusedSimpArgs false

theorem celX_rep {x : Cel} {n : Nat} {cur : Array Value} (h : RepSt (cel x) n n cur) : cur = (cels (List.replicate n x)).toArray := by
  have e : ∀ m j, j < m * 8 → (cels (List.replicate m x))[j]? = (cel x)[j % 8]? := by
    intro m
    induction m with
    | zero => intro j hj; omega
    | succ m ih =>
      intro j hj
      rw [List.replicate_succ, show cels (x :: List.replicate m x) = cel x ++ cels (List.replicate m x) from by simp [cels], List.getElem?_append]
      by_cases h8 : j < 8
      · rw [if_pos (by simpa [cel] using h8), Nat.mod_eq_of_lt h8]
      · rw [if_neg (by simpa [cel] using h8), show (cel x).length = 8 from rfl, ih (j - 8) (by omega)]
        congr 1; omega
  have hs : (cels (List.replicate n x)).length = n * 8 := by
    clear e h
    induction n with
    | zero => rfl
    | succ m ih => rw [List.replicate_succ, show cels (x :: List.replicate m x) = cel x ++ cels (List.replicate m x) from by simp [cels], List.length_append, ih]; simp [cel]; omega
  apply Array.ext'
  apply List.ext_getElem?
  intro j
  have h1 : cur.size = n * 8 := h.1
  by_cases hj : j < n * 8
  · have := h.2 j hj
    rw [show (cel x).length = 8 from rfl] at this
    rw [Array.getElem?_toList, this]
    simp only [List.toList_toArray]
    exact (e n j hj).symm
  · rw [List.getElem?_eq_none (by simp [h1]; omega), List.getElem?_eq_none (by simp [hs]; omega)]
theorem celX_cons (x : Cel) (l : List Cel) : cels (x :: l) = cel x ++ cels l := by simp [cels]
theorem celX_length (l : List Cel) : (cels l).length = l.length * 8 := by
  induction l with
  | nil => rfl
  | cons x l ih => rw [celX_cons, List.length_append, ih]; simp [cel]; omega
theorem celX_set {l : List Cel} (y : Cel) : ∀ {i : Nat}, i < l.length → ∀ j, (cels (l.set i y))[j]? = if i * 8 ≤ j ∧ j < i * 8 + 8 then (cel y)[j - i * 8]? else (cels l)[j]? := by
  induction l with
  | nil => intro i hi; simp at hi
  | cons x l ih =>
    intro i hi j
    cases i with
    | zero =>
      rw [List.set_cons_zero, celX_cons, celX_cons, List.getElem?_append, List.getElem?_append, show (cel y).length = 8 from rfl, show (cel x).length = 8 from rfl]
      by_cases hj : j < 8
      · rw [if_pos hj, if_pos (by omega)]; simp
      · rw [if_neg hj, if_neg (by omega), if_neg hj]
    | succ i =>
      rw [List.set_cons_succ, celX_cons, celX_cons, List.getElem?_append, List.getElem?_append, show (cel x).length = 8 from rfl]
      by_cases hj : j < 8
      · rw [if_pos hj, if_neg (by omega), if_pos hj]
      · rw [if_neg hj, if_neg hj, ih (by simpa using hi) (j - 8)]
        by_cases h2 : (i + 1) * 8 ≤ j ∧ j < (i + 1) * 8 + 8
        · rw [if_pos (by omega), if_pos h2]; congr 1; omega
        · rw [if_neg (by omega), if_neg h2]
theorem celX_store {w : World} {g : Nat} {l : List Cel} {t : TypeId} {fr : Nat × Nat} (h : w.heap[g]? = some (.cells (cels l).toArray t fr)) {i : Nat} (hi : i < l.length) (y : Cel) :
    (w.setCells g (i * 8) (cel y)).heap[g]? = some (.cells (cels (l.set i y)).toArray t fr) := by
  have e1 : (cels l).toArray.size = l.length * 8 := by rw [List.size_toArray, celX_length]
  have e2 : (cel y).length = 8 := rfl
  obtain ⟨cur', h1, h2, h3, h4⟩ := heap_setCells (cel y) (i * 8) w _ h (by omega)
  have e : cur' = (cels (l.set i y)).toArray := by
    apply Array.ext'
    apply List.ext_getElem?
    intro j
    rw [Array.getElem?_toList]
    simp only [List.toList_toArray]
    rw [celX_set y hi j]
    by_cases hj : i * 8 ≤ j ∧ j < i * 8 + 8
    · rw [if_pos hj]
      have := h3 (j - i * 8) (by simp [cel]; omega)
      rw [show i * 8 + (j - i * 8) = j from by omega] at this
      exact this
    · rw [if_neg hj, h4 j (by simp [cel]; omega)]
      simp
  rw [e] at h1
  exact h1
theorem celX_store8 {w : World} {g : Nat} {l : List Cel} {t : TypeId} {fr : Nat × Nat} (h : w.heap[g]? = some (.cells (cels l).toArray t fr)) {i : Nat} (hi : i < l.length) (y : Cel) :
    ((((((((w.setCell ⟨g, i * 8, none⟩ (.int .i64 y.a0)).setCell ⟨g, i * 8 + 1, none⟩ (.int .i64 y.a1)).setCell ⟨g, i * 8 + 2, none⟩ (.int .i64 y.b0)).setCell ⟨g, i * 8 + 3, none⟩ (.int .i64 y.b1)).setCell ⟨g, i * 8 + 4, none⟩ (.int .i64 y.c0)).setCell ⟨g, i * 8 + 5, none⟩ (.int .i64 y.c1)).setCell ⟨g, i * 8 + 6, none⟩ (.int .i64 y.d0)).setCell ⟨g, i * 8 + 7, none⟩ (.int .i64 y.d1)).heap[g]? = some (.cells (cels (l.set i y)).toArray t fr) :=
  celX_store h hi y
theorem keepX8 (w : World) (b o : Nat) (v0 v1 v2 v3 v4 v5 v6 v7 : Value) : Keep [b] w ((((((((w.setCell ⟨b, o, none⟩ v0).setCell ⟨b, o + 1, none⟩ v1).setCell ⟨b, o + 2, none⟩ v2).setCell ⟨b, o + 3, none⟩ v3).setCell ⟨b, o + 4, none⟩ v4).setCell ⟨b, o + 5, none⟩ v5).setCell ⟨b, o + 6, none⟩ v6).setCell ⟨b, o + 7, none⟩ v7) :=
  (((((((((Keep.refl [b] w).setCell (.inl (by simp)) _).setCell (.inl (by simp)) _).setCell (.inl (by simp)) _).setCell (.inl (by simp)) _).setCell (.inl (by simp)) _).setCell (.inl (by simp)) _).setCell (.inl (by simp)) _).setCell (.inl (by simp)) _)

/-- the cell that numbers name -/
def celO (v : List Nat) : Cel := ⟨v.getD 1 0, v.getD 2 0, v.getD 3 0, v.getD 4 0, v.getD 5 0, v.getD 6 0, v.getD 7 0, v.getD 8 0⟩
/-- a chart of n cells is filled from line i on: the cells, the line and the error, and how many lines were taken -/
noncomputable def chF (L : List By) (n : Nat) : Nat → Nat → List Cel → List Cel × (Nat × Int) × Nat
  | 0, _, out => ([], (0, 0), 0)
  | f + 1, i, out => if out.length < n then
      if lineS L i ≠ 0 then ([], (i + 1, lineS L i), 0) else match nums (body (L.getD i [])) [] 9 with
      | none => ([], (i + 1, 3), 0)
      | some v => if celOk (celO v) = false then ([], (i + 1, 20), 0) else if v.getD 0 0 = 0 ∨ n < out.length + v.getD 0 0 then ([], (i + 1, 2), 0) else
          if out ≠ [] ∧ out.getLast?.getD default = celO v then ([], (i + 1, 11), 0) else chF L n f (i + 1) (out ++ List.replicate (v.getD 0 0) (celO v))
    else if lineS L i ≠ 0 then ([], (i + 1, lineS L i), 0) else if body (L.getD i []) = [69, 78, 68] then (out, (0, 0), i + 1) else ([], (i + 1, 3), 0)
/-- what a chart's reader leaves: the sides and the hour, the cells, the line and the error, and how many lines were taken -/
noncomputable def chL (L : List By) : (Int × Int × Int) × List Cel × (Nat × Int) × Nat :=
  if lineS L 0 ≠ 0 then ((0, 0, 0), [], (1, lineS L 0), 0) else match nums (body (L.getD 0 [])) [67, 72, 65, 82, 84] 3 with
  | none => ((0, 0, 0), [], (1, 3), 0)
  | some v => if sizeE (v.getD 0 0 : Nat) (v.getD 1 0 : Nat) (v.getD 2 0 : Nat) ≠ 0 then ((0, 0, 0), [], (1, sizeE (v.getD 0 0 : Nat) (v.getD 1 0 : Nat) (v.getD 2 0 : Nat)), 0) else
      ((((v.getD 0 0 : Nat) : Int), ((v.getD 1 0 : Nat) : Int), ((v.getD 2 0 : Nat) : Int)), chF L (v.getD 0 0 * v.getD 1 0) (v.getD 0 0 * v.getD 1 0 + 1) 1 [])
theorem chF_N (L : List By) (n : Nat) : ∀ (f i : Nat) (out : List Cel), (chF L n f i out).2.2 ≤ i + f
  | 0, i, out => by rw [chF]; simp
  | f + 1, i, out => by
    rw [chF]
    split
    · split
      · simp
      · split
        · simp
        · split
          · simp
          · split
            · simp
            · split
              · simp
              · have := chF_N L n f (i + 1) (out ++ List.replicate (List.getD ‹List Nat› 0 0) (celO ‹List Nat›))
                omega
    · split
      · simp
      · split
        · simp
        · simp
/-- what a chart's reader has made -/
def ChO (w0 : World) (hb r4 r5 fb : Nat) (a b c : Int) (g n : Nat) (l : List Cel) (more : List It) (wx : World) : Prop :=
  Own w0.heap.size w0 ([.blk hb (.cells #[.int .i64 a, .int .i64 b, .int .i64 c, .slice (some ⟨g, 0, none⟩) n n] 157), .any r4, .any r5, .any fb, .blk g (.cells (cels l).toArray 73)] ++ more) wx
def ChJ (w0 : World) (hb r4 r5 : Nat) (a b c : Int) (out : List Cel) (fb : Nat) (wx : World) : Prop :=
  ∃ g, ChO w0 hb r4 r5 fb a b c g out.length out [] wx
set_option maxRecDepth 100000 in
set_option maxHeartbeats 4000000 in
theorem blank_no (a b h : Int) (er : Int) (h0 : sizeE a b h = er) (hne : er ≠ 0) (w : World) :
    Calls Tryz.prog 136 #[.int .i64 a, .int .i64 b, .int .i64 h] w fun e w' => e = .returned (.tuple #[.agg #[.int .i64 0, .int .i64 0, .int .i64 0, .slice none 0 0], .int .i64 er]) ∧ Below w.heap.size w w' := by
  obtain ⟨W, hW⟩ : ∃ W, W = w.alloc (.cells #[.int .i64 0, .int .i64 0, .int .i64 0, .slice none 0 0] 57) := ⟨_, rfl⟩
  obtain ⟨rb, hrb⟩ : ∃ b, b = w.heap.size := ⟨_, rfl⟩
  have hh : W.heap[rb]? = some (.cells #[.int .i64 0, .int .i64 0, .int .i64 0, .slice none 0 0] 57 (0, 0)) := by rw [hW, hrb]; exact heap_alloc_new _ _
  have bW : Below w.heap.size w W := by rw [hW]; exact (Below.refl _ _).alloc (Nat.le_refl _) _
  have hrw : w.heap.size ≤ rb := by omega
  have ks := size_any a b h W
  rw [h0] at ks
  have c0 := (cell_of_heap hh 0).trans rfl
  have c1 := (cell_of_heap hh 1).trans rfl
  have c2 := (cell_of_heap hh 2).trans rfl
  have c3 := (cell_of_heap hh 3).trans rfl
  have f0 := frozen_of_heap hh 0
  have f1 := frozen_of_heap hh 1
  have f2 := frozen_of_heap hh 2
  have f3 := frozen_of_heap hh 3
  have zo := heap_lt hh
  have hne2 : (er != 0) = true := by simpa using hne
  have HR := Lib.hid (And.intro hh (And.intro bW (And.intro hrw ks)))
  clear hh bW hrw ks h0
  go_enter Tryz.func136, Tryz.ntmps136
  go_upto_region 1 with fail
  rw [← hW, ← hrb]
  clear hW hrb
  go_wp2_with (go_at_call 128; refine HR.out.2.2.2.mono ?_; rintro e w' ⟨rfl, rfl⟩)
  have hfin := heap_set (heap_set (heap_set (heap_set HR.out.1 0 (.int .i64 0)) 1 (.int .i64 0)) 2 (.int .i64 0)) 3 (.slice none 0 0)
  exact bodyPost_ret (chart_results (r := 6) (s := 7) rfl hfin _ _ rfl rfl) rfl ⟨rfl, (((HR.out.2.1.setCell (p := ⟨rb, 0, none⟩) HR.out.2.2.1 _).setCell (p := ⟨rb, 1, none⟩) HR.out.2.2.1 _).setCell (p := ⟨rb, 2, none⟩) HR.out.2.2.1 _).setCell (p := ⟨rb, 3, none⟩) HR.out.2.2.1 _⟩
end Go.Proofs.YtaokegobilphnaaGreatDoor
/- The rest of a function's text from a statement on: for a great function's parts as theorems of their own. -/
namespace Go.Proofs.YtaokegobilphnaaGreatDoor
open Go

/-- is region n in it -/
def hasReg (n : Nat) : Code → Bool
  | .region k _ _ => k == n
  | .loop c => hasReg n c
  | .seq a b => hasReg n a || hasReg n b
  | .block _ c => hasReg n c
  | .scope c => hasReg n c
  | .cond _ a b => hasReg n a || hasReg n b
  | _ => false
/-- the rest of the sequence, beginning with the statement that holds region n -/
def restAt (n : Nat) : Code → Code
  | .seq a b => if hasReg n a then .seq a b else restAt n b
  | .scope c => restAt n c
  | c => c
noncomputable def restOf (f : Func) (n : Nat) : Code := restAt n (f.body.getD .skip)
end Go.Proofs.YtaokegobilphnaaGreatDoor
/- (*log.charting).due: what stands between its lines; its last line -/
namespace Go.Proofs.YtaokegobilphnaaGreatDoor
open Go Go.RowKit Go.Shelf Go.Proofs Sp Lg
set_option linter.unusedVariables false
set_option linter.unusedSimpArgs false

theorem Own.remap {D : Nat} {W0 w : World} {l l' : List It} (h : Own D W0 l w) (σ : Nat → Nat) (hσ : ∀ a b i j, l'[a]? = some i → l'[b]? = some j → a ≠ b → σ a ≠ σ b) (hm : ∀ a i, l'[a]? = some i → l[σ a]? = some i) : Own D W0 l' w :=
  ⟨h.1, h.2, fun a i hi => h.at_ _ _ (hm a i hi), fun a b i j hi hj hab => h.dis _ _ _ _ (hm a i hi) (hm b j hj) (hσ a b i j hi hj hab)⟩
theorem dc_fail {W w' : World} {L : List By} {hb fb ln : Nat} {e : Int} {J : Nat → World → Prop} (hd : (chL L).2.2.1 = (ln, e)) (he : e ≠ 0) (hk : Keep (fb :: [hb]) W w') : DueR [hb] fb L (chL L).2.2.1 (chL L).2.2.2 J W (FailE ln e) w' :=
  ⟨hk, fun h => absurd (by rw [hd] at h; exact h) he, fun _ => by rw [hd]⟩
/-- what stands while a chart is read: the sides and the hour, the cells that are filled, how many lines were taken -/
structure DcS (w0 W : World) (L : List By) (hb r4 r5 fb db g : Nat) (a b c : Int) (n i : Nat) (out : List Cel) (wr : World) : Prop where
  o : Own w0.heap.size w0 [.blk hb (.cells #[.int .i64 a, .int .i64 b, .int .i64 c, .slice (some ⟨g, 0, none⟩) n n] 157), .any r4, .any r5, .any fb, .blk db (.cells #[.pointer (some ⟨fb, 0, none⟩)] 184), .blk g (.cells (cels (out ++ List.replicate (n - out.length) celW)).toArray 73)] wr
  f : FeedS (fb :: [hb]) W.heap.size fb i (L.drop i) wr
  k : Keep (fb :: [hb]) W wr
  q : W.heap.size ≤ g
  hl : ∀ l ∈ L, l.length ≤ 1000000
  hL : L.length ≤ 900000
  E : Env w0
section
variable {w0 W : World} {L : List By} {hb r4 r5 fb db g : Nat} {a b c : Int} {n i : Nat} {out : List Cel} {wr w' : World}
theorem DcS.keepB (S : DcS w0 W L hb r4 r5 fb db g a b c n i out wr) (h : Below wr.heap.size wr w') : DcS w0 W L hb r4 r5 fb db g a b c n i out w' :=
  ⟨S.o.below h, S.f.keep h, S.k.trans (Keep.of_below (S := []) h) (by simp), S.q, S.hl, S.hL, S.E⟩
theorem DcS.env (S : DcS w0 W L hb r4 r5 fb db g a b c n i out wr) : ∀ w', Keep [fb] wr w' → Env w' := fun w' k =>
  Env.below S.E (S.o.bel.trans (k.below S.o.bel.size (fun x hx => by rw [List.mem_singleton.1 hx]; exact S.o.ge 3 rfl (by simp [It.fp]))))
theorem DcS.fed (S : DcS w0 W L hb r4 r5 fb db g a b c n i out wr) (h : Keep [fb] wr w') (hf : FeedS (fb :: [hb]) W.heap.size fb (i + 1) (L.drop (i + 1)) w') : DcS w0 W L hb r4 r5 fb db g a b c n (i + 1) out w' :=
  ⟨Own.keepAny S.o h (fun x hx => .inl ⟨3, by rw [List.mem_singleton.1 hx]; rfl⟩), hf, S.k.trans h (fun x hx => .inl (by simp at hx; simp [hx])), S.q, S.hl, S.hL, S.E⟩
theorem DcS.body (S : DcS w0 W L hb r4 r5 fb db g a b c n i out wr) : (body (L.getD i [])).length ≤ 1000000 := by
  have h : (L.getD i []).length ≤ 1000000 := by
    by_cases h : i < L.length
    · rw [List.getD_eq_getElem?_getD, List.getElem?_eq_getElem h]; exact S.hl _ (List.getElem_mem _)
    · rw [List.getD_eq_getElem?_getD, List.getElem?_eq_none (by omega)]; simp
  unfold Lg.body
  rw [List.length_take]; omega
theorem DcS.next (S : DcS w0 W L hb r4 r5 fb db g a b c n i out wr) (hi : i ≤ 100000) :
    Calls Tryz.prog 117 #[.pointer (some ⟨fb, 0, none⟩)] wr fun e w' => Keep [fb] wr w' ∧ if lineS L i = 0 then e = .returned (.string (bs (Lg.body (L.getD i [])))) ∧ DcS w0 W L hb r4 r5 fb db g a b c n (i + 1) out w' else e = FailE (i + 1 : Nat) (lineS L i) := by
  have kn := lgNext_any _ _ fb i (L.drop i) wr S.f (fun l h => S.hl l (List.mem_of_mem_drop h)) (by have := S.hL; rw [List.length_drop]; omega) (by omega) (Env.below S.E S.o.bel) S.env
  refine kn.mono ?_
  unfold LgNxPost
  rw [← lineS_drop, show (L.drop i).headD [] = L.getD i [] by rw [List.headD_eq_head?_getD, List.head?_drop, ← List.getD_eq_getElem?_getD], List.tail_drop]
  rintro e w' ⟨h1, h2⟩
  refine ⟨h1, ?_⟩
  split
  · rename_i h
    rw [if_pos h] at h2
    exact ⟨h2.1, S.fed h1 h2.2⟩
  · rename_i h
    rw [if_neg h] at h2
    exact h2
theorem DcS.fresh (S : DcS w0 W L hb r4 r5 fb db g a b c n i out wr) : db ≠ fb := S.o.ne 4 3 rfl rfl (by decide) (x := db) (y := fb) (by simp [It.fp]) (by simp [It.fp])
theorem DcS.done (S : DcS w0 W L hb r4 r5 fb db g a b c n i out wr) (hn : out.length = n) : ChJ w0 hb r4 r5 a b c out fb wr := by
  refine ⟨g, Own.remap S.o (fun k => if k = 4 then 5 else k) ?_ ?_⟩
  · intro x y p q hx hy hxy
    rw [hn] at hx hy
    have h1 : x < 5 := (List.getElem?_eq_some_iff.1 hx).1
    have h2 : y < 5 := (List.getElem?_eq_some_iff.1 hy).1
    show (if x = 4 then 5 else x) ≠ (if y = 4 then 5 else y)
    split <;> split <;> omega
  · intro x p hx
    have h1 : x < 5 := (List.getElem?_eq_some_iff.1 hx).1
    match x, h1, hx with
    | 0, _, hx => rw [← hx, hn]; rfl
    | 1, _, hx => exact hx
    | 2, _, hx => exact hx
    | 3, _, hx => exact hx
    | 4, _, hx => rw [← hx, ← hn, Nat.sub_self, List.replicate_zero, List.append_nil]; rfl
theorem dc_set {x : Cel} (h : out.length < n) : (out ++ List.replicate (n - out.length) celW).set out.length x = (out ++ [x]) ++ List.replicate (n - (out ++ [x]).length) celW := by
  obtain ⟨m, hm⟩ : ∃ m, n - out.length = m + 1 := ⟨n - out.length - 1, by omega⟩
  rw [hm, List.replicate_succ, List.set_append_right _ _ (Nat.le_refl _), Nat.sub_self, List.set_cons_zero, List.append_assoc, List.length_append, show n - (out.length + [x].length) = m from by simp; omega]
  rfl
theorem DcS.put (S : DcS w0 W L hb r4 r5 fb db g a b c n i out wr) (h : out.length < n) (x : Cel) (hk : Keep [g] wr w') (hh : w'.heap[g]? = some (.cells (cels ((out ++ List.replicate (n - out.length) celW).set out.length x)).toArray 73 (0, 0))) : DcS w0 W L hb r4 r5 fb db g a b c n i (out ++ [x]) w' := by
  rw [dc_set h] at hh
  have hfg : fb ∉ [g] := by simpa using S.o.ne 3 5 rfl rfl (by decide) (x := fb) (y := g) (by simp [It.fp]) (by simp [It.fp])
  exact ⟨Own.set S.o 5 rfl hk hh, S.f.keepX hk hfg (fun y hy => .inr (by rw [List.mem_singleton.1 hy]; exact S.q)), S.k.trans hk (fun y hy => .inr (by rw [List.mem_singleton.1 hy]; exact S.q)), S.q, S.hl, S.hL, S.E⟩
end
set_option maxRecDepth 100000 in
set_option maxHeartbeats 4000000 in
theorem dueC_t18 {Q0 : Exit → Act → World → Prop} (L : List By) (hb r4 r5 fb db g n i f : Nat) (a b c : Int) (out : List Cel) (w0 W wr : World) (S : DcS w0 W L hb r4 r5 fb db g a b c n i out wr) (hn : out.length = n) (hi : i ≤ 10000) (hd : chL L = ((a, b, c), chF L n (f + 1) i out)) {s1 s2 s4 s5 s6 s7 s8 s9 s10 s11 s12 s13 s14 s15 s16 s17 s18 s19 s20 s21 s22 s23 s24 s25 s26 s27 s28 s29 s30 s31 s32 s33 s34 s35 s36 s37 s38 s39 s40 s41 s42 s43 s44 s45 s46 s47 s48 s49 s50 s51 s52 s53 s54 s55 s56 s57 s58 s59 s60 s61 s62 s63 s64 s65 s66 s67 s68 s69 s70 s71 s72 s73 s74 s75 s76 s77 s78 s79 s80 s81 s82 s83 s84 s85 s86 s87 s88 s89 s90 s91 s92 s93 s94 s95 s96 s97 s98 s99 s100 s101 s102 s103 s104 s105 s106 s107 s108 s109 s110 s111 s112 s113 s114 s115 s116 s117 s118 s119 s120 s121 s122 s123 s124 : Value} (hQ0 : ∀ e1 a1 w1, bodyPost Tryz.prog Tryz.f93 (DueR [hb] fb L (chL L).2.2.1 (chL L).2.2.2 (ChJ w0 hb r4 r5 (chL L).1.1 (chL L).1.2.1 (chL L).1.2.2 (chL L).2.1) W) e1 a1 w1 → Q0 e1 a1 w1) :
    Code.wp Tryz.prog (restOf Tryz.f93 18) Q0 ⟨#[.pointer (some ⟨hb, 0, none⟩), s1, s2, .pointer (some ⟨db, 0, none⟩), s4, s5, s6, s7, s8, s9, s10, s11, s12, s13, s14, s15, s16, s17, s18, s19, s20, s21, s22, s23, s24, s25, s26, s27, s28, s29, s30, s31, s32, s33, s34, s35, s36, s37, s38, s39, s40, s41, s42, s43, s44, s45, s46, s47, s48, s49, s50, s51, s52, s53, s54, s55, s56, s57, s58, s59, s60, s61, s62, s63, s64, s65, s66, s67, s68, s69, s70, s71, s72, s73, s74, s75, s76, s77, s78, s79, s80, s81, s82, s83, s84, s85, s86, s87, s88, s89, s90, s91, s92, s93, s94, s95, s96, s97, s98, s99, s100, s101, s102, s103, s104, s105, s106, s107, s108, s109, s110, s111, s112, s113, s114, s115, s116, s117, s118, s119, s120, s121, s122, s123, s124], []⟩ wr := by
  refine wp_mono ?_ hQ0
  clear hQ0
  conv => arg 2; whnf
  obtain ⟨V, hV⟩ : ∃ v, v = wr.drew := ⟨_, rfl⟩
  have S1 := S.keepB (w' := V) (by rw [hV]; exact (Below.refl _ _).drew)
  have kn := S1.next (by omega)
  have d1 := (cell_of_heap (S1.o.heap 4 rfl) 0).trans rfl
  have z1 := heap_lt (S1.o.heap 4 rfl)
  have hdf : db ∉ [fb] := by simpa using S1.fresh
  rw [chF, if_neg (by omega)] at hd
  have HNN := Lib.hid hn
  clear S hn
  by_cases h9 : lineS L i = 0
  · have kn2 : Calls Tryz.prog 117 #[.pointer (some ⟨fb, 0, none⟩)] V fun e w' => e = .returned (.string (bs (Lg.body (L.getD i [])))) ∧ DcS w0 W L hb r4 r5 fb db g a b c n (i + 1) out w' ∧ Keep [fb] V w' := kn.mono fun e w' h => by
      obtain ⟨k1, k2⟩ := h
      rw [if_pos h9] at k2
      exact ⟨k2.1, k2.2, k1⟩
    rw [if_neg (not_not_intro h9)] at hd
    obtain ⟨X, hX⟩ : ∃ X, X = bs (Lg.body (L.getD i [])) := ⟨_, rfl⟩
    rw [← hX] at kn2
    have hq : (X.toList == ([69, 78, 68] : List UInt8)) = decide (Lg.body (L.getD i []) = [69, 78, 68]) := by
      have h1 : ([69, 78, 68] : List UInt8) = (bs [69, 78, 68]).toList := by decide +kernel
      rw [h1, str_beq, hX, decide_eq_decide, bs_inj, ← h1]
    by_cases hE : Lg.body (L.getD i []) = [69, 78, 68]
    · rw [if_pos hE] at hd
      rw [decide_eq_true hE] at hq
      have H := Lib.hid (And.intro kn2 (And.intro hd hdf))
      clear kn kn2 hd hX hE h9 hdf S1
      refine wp_region_held_drew (S := fun w' => db < w'.heap.size ∧ w'.cell? ⟨db, 0, none⟩ = some (.pointer (some ⟨fb, 0, none⟩))) (by kernel_rfl) (by rw [← hV]; exact ⟨z1, d1⟩) (fun hHeld => ?_)
      rw [← hV] at hHeld ⊢; clear hV
      refine wpAnyH_take (i := 0) (oi := _) (v := ?_) rfl (by kernel_rfl) (by kernel_rfl) (by kernel_rfl) (fun _ _ _ h => h) (Or.inl ⟨by rfl, ?_⟩) (by assumption) ?_
      rotate_left
      · (intro w hSw; (try dsimp only at hSw); go_simp; try with_reducible rfl)
      try simp only [Act.put, List.setIfInBounds_toArray, List.set_cons_zero, List.set_cons_succ]
      refine wpAnyH_take (i := 1) (oi := _) (v := ?_) rfl (by kernel_rfl) (by kernel_rfl) (by kernel_rfl) (fun _ _ _ h => h) (Or.inl ⟨by rfl, ?_⟩) (by assumption) ?_
      rotate_left
      · (intro w hSw; (try dsimp only at hSw); go_simp; try with_reducible rfl)
      try simp only [Act.put, List.setIfInBounds_toArray, List.set_cons_zero, List.set_cons_succ]
      refine wpAnyH_take (i := 2) (oi := _) (v := ?_) rfl (by kernel_rfl) (by kernel_rfl) (by kernel_rfl) (fun _ _ _ h => h) (Or.inl ⟨by rfl, ?_⟩) (by assumption) ?_
      rotate_left
      · (intro w hSw; (try dsimp only at hSw); go_simp; try with_reducible rfl)
      try simp only [Act.put, List.setIfInBounds_toArray, List.set_cons_zero, List.set_cons_succ]
      refine wpAnyH_take (i := 3) (oi := _) (v := ?_) rfl (by kernel_rfl) (by kernel_rfl) (by kernel_rfl) (fun _ _ _ h => h) (Or.inl ⟨by rfl, ?_⟩) (by assumption) ?_
      rotate_left
      · (intro w hSw; (try dsimp only at hSw); go_simp; try with_reducible rfl)
      try simp only [Act.put, List.setIfInBounds_toArray, List.set_cons_zero, List.set_cons_succ]
      refine wpAnyH_ready (rs := [4]) (by kernel_rfl) (by simp) ?_
      refine AllReadyH.cons (o := _) rfl (fun K hK => ?_) AllReadyH.nil
      go_simp
      go_wp2_with (go_at_call 117; refine H.out.1.mono ?_; rintro e w2 ⟨rfl, s2, k2⟩; have d2 := k2.cell (b := db) (o := 0) d1 H.out.2.2; have z2 := Nat.lt_of_lt_of_le z1 k2.size; have n2 := s2.f.num; have HN := Lib.hid (And.intro s2 k2); clear s2 k2)
      refine hK.out _ _ ⟨z2, d2⟩ (fun hHeld => ?_)
      clear hK K
      try simp only [Act.put, List.setIfInBounds_toArray, List.set_cons_zero, List.set_cons_succ]
      refine wpAnyH_take (i := 5) (oi := _) (v := ?_) rfl (by kernel_rfl) (by kernel_rfl) (by kernel_rfl) (fun _ _ _ h => h) (Or.inl ⟨by rfl, ?_⟩) (by assumption) ?_
      rotate_left
      · (intro w hSw; (try dsimp only at hSw); go_simp; try with_reducible rfl)
      try simp only [Act.put, List.setIfInBounds_toArray, List.set_cons_zero, List.set_cons_succ]
      refine wpAnyH_ready (rs := [6]) (by kernel_rfl) (by simp) ?_
      refine AllReadyH.cons (o := _) rfl (fun K hK => ?_) AllReadyH.nil
      go_simp
      go_wp2_with (go_at_call 118; refine (want_yes _ 3 w2).mono ?_; rintro e w9 ⟨rfl, h9⟩; have h9' := h9.symm; clear h9; subst h9')
      refine hK.out _ _ ⟨z2, d2⟩ (fun hHeld => ?_)
      clear hK K
      try simp only [Act.put, List.setIfInBounds_toArray, List.set_cons_zero, List.set_cons_succ]
      refine wpAnyH_done (by kernel_rfl) ?_ _
      go_wp2_with fail
      go_end0
      rw [H.out.2.1]
      exact ⟨HN.out.1.k, fun _ => ⟨rfl, HN.out.1.f, HN.out.1.done HNN.out⟩, fun h => absurd rfl h⟩
    · rw [if_neg hE] at hd
      rw [decide_eq_false hE] at hq
      have H := Lib.hid (And.intro kn2 (And.intro hd hdf))
      clear kn kn2 hd hX hE h9 hdf S1
      refine wp_region_held_drew (S := fun w' => db < w'.heap.size ∧ w'.cell? ⟨db, 0, none⟩ = some (.pointer (some ⟨fb, 0, none⟩))) (by kernel_rfl) (by rw [← hV]; exact ⟨z1, d1⟩) (fun hHeld => ?_)
      rw [← hV] at hHeld ⊢; clear hV
      refine wpAnyH_take (i := 0) (oi := _) (v := ?_) rfl (by kernel_rfl) (by kernel_rfl) (by kernel_rfl) (fun _ _ _ h => h) (Or.inl ⟨by rfl, ?_⟩) (by assumption) ?_
      rotate_left
      · (intro w hSw; (try dsimp only at hSw); go_simp; try with_reducible rfl)
      try simp only [Act.put, List.setIfInBounds_toArray, List.set_cons_zero, List.set_cons_succ]
      refine wpAnyH_take (i := 1) (oi := _) (v := ?_) rfl (by kernel_rfl) (by kernel_rfl) (by kernel_rfl) (fun _ _ _ h => h) (Or.inl ⟨by rfl, ?_⟩) (by assumption) ?_
      rotate_left
      · (intro w hSw; (try dsimp only at hSw); go_simp; try with_reducible rfl)
      try simp only [Act.put, List.setIfInBounds_toArray, List.set_cons_zero, List.set_cons_succ]
      refine wpAnyH_take (i := 2) (oi := _) (v := ?_) rfl (by kernel_rfl) (by kernel_rfl) (by kernel_rfl) (fun _ _ _ h => h) (Or.inl ⟨by rfl, ?_⟩) (by assumption) ?_
      rotate_left
      · (intro w hSw; (try dsimp only at hSw); go_simp; try with_reducible rfl)
      try simp only [Act.put, List.setIfInBounds_toArray, List.set_cons_zero, List.set_cons_succ]
      refine wpAnyH_take (i := 3) (oi := _) (v := ?_) rfl (by kernel_rfl) (by kernel_rfl) (by kernel_rfl) (fun _ _ _ h => h) (Or.inl ⟨by rfl, ?_⟩) (by assumption) ?_
      rotate_left
      · (intro w hSw; (try dsimp only at hSw); go_simp; try with_reducible rfl)
      try simp only [Act.put, List.setIfInBounds_toArray, List.set_cons_zero, List.set_cons_succ]
      refine wpAnyH_ready (rs := [4]) (by kernel_rfl) (by simp) ?_
      refine AllReadyH.cons (o := _) rfl (fun K hK => ?_) AllReadyH.nil
      go_simp
      go_wp2_with (go_at_call 117; refine H.out.1.mono ?_; rintro e w2 ⟨rfl, s2, k2⟩; have d2 := k2.cell (b := db) (o := 0) d1 H.out.2.2; have z2 := Nat.lt_of_lt_of_le z1 k2.size; have n2 := s2.f.num; have HN := Lib.hid (And.intro s2 k2); clear s2 k2)
      refine hK.out _ _ ⟨z2, d2⟩ (fun hHeld => ?_)
      clear hK K
      try simp only [Act.put, List.setIfInBounds_toArray, List.set_cons_zero, List.set_cons_succ]
      refine wpAnyH_take (i := 5) (oi := _) (v := ?_) rfl (by kernel_rfl) (by kernel_rfl) (by kernel_rfl) (fun _ _ _ h => h) (Or.inl ⟨by rfl, ?_⟩) (by assumption) ?_
      rotate_left
      · (intro w hSw; (try dsimp only at hSw); go_simp; try with_reducible rfl)
      try simp only [Act.put, List.setIfInBounds_toArray, List.set_cons_zero, List.set_cons_succ]
      refine wpAnyH_ready (rs := [6]) (by kernel_rfl) (by simp) ?_
      refine AllReadyH.cons (o := _) rfl (fun K hK => ?_) AllReadyH.nil
      go_simp
      go_wp2_with (go_at_call 118; refine (want_no fb _ 3 w2 n2).mono ?_; unfold FailE; rintro e w9 ⟨rfl, rfl⟩)
      exact ⟨rfl, dc_fail (ln := i + 1) (e := 3) (by rw [H.out.2.1]) (by decide) HN.out.1.k⟩
  · have kn2 : Calls Tryz.prog 117 #[.pointer (some ⟨fb, 0, none⟩)] V fun e w' => e = FailE (i + 1 : Nat) (lineS L i) ∧ Keep [fb] V w' := kn.mono fun e w' h => by
      obtain ⟨k1, k2⟩ := h
      rw [if_neg h9] at k2
      exact ⟨k2, k1⟩
    rw [if_pos h9] at hd
    obtain ⟨e1, he1⟩ : ∃ e, e = lineS L i := ⟨_, rfl⟩
    rw [← he1] at hd kn2 h9
    have kW := S1.k
    have H := Lib.hid (And.intro kn2 (And.intro hd (And.intro h9 kW)))
    clear kn kn2 hd he1 h9 hdf S1 kW
    refine wp_region_held_drew (S := fun w' => db < w'.heap.size ∧ w'.cell? ⟨db, 0, none⟩ = some (.pointer (some ⟨fb, 0, none⟩))) (by kernel_rfl) (by rw [← hV]; exact ⟨z1, d1⟩) (fun hHeld => ?_)
    rw [← hV] at hHeld ⊢; clear hV
    refine wpAnyH_take (i := 0) (oi := _) (v := ?_) rfl (by kernel_rfl) (by kernel_rfl) (by kernel_rfl) (fun _ _ _ h => h) (Or.inl ⟨by rfl, ?_⟩) (by assumption) ?_
    rotate_left
    · (intro w hSw; (try dsimp only at hSw); go_simp; try with_reducible rfl)
    try simp only [Act.put, List.setIfInBounds_toArray, List.set_cons_zero, List.set_cons_succ]
    refine wpAnyH_take (i := 1) (oi := _) (v := ?_) rfl (by kernel_rfl) (by kernel_rfl) (by kernel_rfl) (fun _ _ _ h => h) (Or.inl ⟨by rfl, ?_⟩) (by assumption) ?_
    rotate_left
    · (intro w hSw; (try dsimp only at hSw); go_simp; try with_reducible rfl)
    try simp only [Act.put, List.setIfInBounds_toArray, List.set_cons_zero, List.set_cons_succ]
    refine wpAnyH_take (i := 2) (oi := _) (v := ?_) rfl (by kernel_rfl) (by kernel_rfl) (by kernel_rfl) (fun _ _ _ h => h) (Or.inl ⟨by rfl, ?_⟩) (by assumption) ?_
    rotate_left
    · (intro w hSw; (try dsimp only at hSw); go_simp; try with_reducible rfl)
    try simp only [Act.put, List.setIfInBounds_toArray, List.set_cons_zero, List.set_cons_succ]
    refine wpAnyH_take (i := 3) (oi := _) (v := ?_) rfl (by kernel_rfl) (by kernel_rfl) (by kernel_rfl) (fun _ _ _ h => h) (Or.inl ⟨by rfl, ?_⟩) (by assumption) ?_
    rotate_left
    · (intro w hSw; (try dsimp only at hSw); go_simp; try with_reducible rfl)
    try simp only [Act.put, List.setIfInBounds_toArray, List.set_cons_zero, List.set_cons_succ]
    refine wpAnyH_ready (rs := [4]) (by kernel_rfl) (by simp) ?_
    refine AllReadyH.cons (o := _) rfl (fun K hK => ?_) AllReadyH.nil
    go_simp
    go_wp2_with (go_at_call 117; refine H.out.1.mono ?_; unfold FailE; rintro e w2 ⟨rfl, k2⟩; have HN := Lib.hid k2; clear k2)
    exact ⟨rfl, dc_fail (ln := i + 1) (e := e1) (by rw [H.out.2.1]) H.out.2.2.1 (H.out.2.2.2.trans HN.out (fun x hx => .inl (by simp at hx; simp [hx])))⟩
end Go.Proofs.YtaokegobilphnaaGreatDoor
