/- RestrictCharts: the plain law; what is there all the time; the chart's cells. -/
import Derived.Test.YtfmhlnfcbbpfeaaRCp19
import Derived.Test.YtfmhlnfcbbpfeaaRCp22
import Derived.Test.YtfmhlnfcbbpfeaaRCp15
import Derived.Test.YtfmhlnfcbbpfeaaRCp21
import Derived.Test.YtfmhlnfcbbpfeaaRCp23
import Derived.Test.YtfmhlnfcbbpfeaaRCp27
import Derived.Test.YtfmhlnfcbbpfeaaRCp26
import Derived.WalkKit
import Derived.Test.YtfmhlnfcbbpfeaaRCp6
import Derived.Test.YtfmhlnfcbbpfeaaRCp13
import Derived.Test.YtfmhlnfcbbpfeaaRCp9
set_option linter.unusedVariables false
namespace Go.Proofs.Ytfmhlnfcbbpfeaa
open Go Go.RowKit Go.Lib Sp
set_option linter.unusedVariables false
set_option linter.unusedSimpArgs false

theorem grade_mono {i j : Ice} (hi : iceOk i = true) (hj : iceOk j = true) (h : i.con ≤ j.con ∧ i.thk ≤ j.thk ∧ i.rid ≤ j.rid ∧ i.prs ≤ j.prs) : gradeS i ≤ gradeS j := by
  have oi := ice_ok hi
  have oj := ice_ok hj
  have a := Int.mul_le_mul h.1 h.2.1 (show 0 ≤ i.thk by omega) (show 0 ≤ j.con by omega)
  have p1 := ice_prod hi
  have p2 := ice_prod hj
  unfold gradeS
  rw [Int.tdiv_eq_ediv_of_nonneg p1.1, Int.tdiv_eq_ediv_of_nonneg p2.1]
  have := Int.ediv_le_ediv (show (0 : Int) < 100 by decide) a
  omega
theorem has_bds {x : Cel} {i : Ice} (h : hasB x i = true) : (x.a0 ≤ i.con ∧ i.con ≤ x.a1) ∧ (x.b0 ≤ i.thk ∧ i.thk ≤ x.b1) ∧ (x.c0 ≤ i.rid ∧ i.rid ≤ x.c1) ∧ (x.d0 ≤ i.prs ∧ i.prs ≤ x.d1) := by
  simp only [hasB, hasN, within, iceN, celLoN, celHiN, Bool.and_eq_true, decide_eq_true_eq] at h
  omega
theorem grade_has {x : Cel} {i : Ice} (hx : celOk x = true) (hi : iceOk i = true) (h : hasB x i = true) : gradeS (celLo x) ≤ gradeS i ∧ gradeS i ≤ gradeS (celHi x) := by
  obtain ⟨h0, h1, h2, h3⟩ := has_bds h
  exact ⟨grade_mono (cel_lo hx) hi ⟨h0.1, h1.1, h2.1, h3.1⟩, grade_mono hi (cel_hi hx) ⟨h0.2, h1.2, h2.2, h3.2⟩⟩
theorem age_bds {x : Cel} {u d : Ice} {h : Int} (hx : celOk x = true) (hr : rtOk u d) (hh : 0 ≤ h ∧ h ≤ 10000) : celOk (ageCel x u d h) = true ∧ ((ageCel x u d h).a0 ≤ x.a0 ∧ x.a1 ≤ (ageCel x u d h).a1) ∧ ((ageCel x u d h).b0 ≤ x.b0 ∧ x.b1 ≤ (ageCel x u d h).b1) ∧ ((ageCel x u d h).c0 ≤ x.c0 ∧ x.c1 ≤ (ageCel x u d h).c1) ∧ ((ageCel x u d h).d0 ≤ x.d0 ∧ x.d1 ≤ (ageCel x u d h).d1) := by
  have hb := cel_bds hx
  have e : ∀ k, k < 4 → 0 ≤ chg (iceN u k) h ∧ 0 ≤ chg (iceN d k) h := fun k hk => by
    obtain ⟨r1, r2, r3, r4⟩ := hr k hk
    exact ⟨(chg_bd ⟨r1, r2⟩ hh).1, (chg_bd ⟨r3, r4⟩ hh).1⟩
  obtain ⟨u0, d0⟩ := e 0 (by decide)
  obtain ⟨u1, d1⟩ := e 1 (by decide)
  obtain ⟨u2, d2⟩ := e 2 (by decide)
  obtain ⟨u3, d3⟩ := e 3 (by decide)
  simp only [ageCel, ageLo, ageHi, celLoN, celHiN, mostN, celOk, spanOk, within, Bool.and_eq_true, decide_eq_true_eq]
  omega
theorem age_grade {x : Cel} {u d : Ice} {h : Int} (hx : celOk x = true) (hr : rtOk u d) (hh : 0 ≤ h ∧ h ≤ 10000) : gradeS (celLo (ageCel x u d h)) ≤ gradeS (celLo x) ∧ gradeS (celHi x) ≤ gradeS (celHi (ageCel x u d h)) := by
  obtain ⟨h0, h1, h2, h3, h4⟩ := age_bds hx hr hh
  exact ⟨grade_mono (cel_lo h0) (cel_lo hx) ⟨h1.1, h2.1, h3.1, h4.1⟩, grade_mono (cel_hi hx) (cel_hi h0) ⟨h1.2, h2.2, h3.2, h4.2⟩⟩
theorem celAt_mem {l : List Cel} {n : Int} (h : 0 ≤ n ∧ n < l.length) : celAt l n ∈ l := by
  unfold celAt
  rw [List.getD_eq_getElem?_getD, List.getElem?_eq_getElem (by omega)]
  exact List.getElem_mem _
theorem celAt_map {l : List Cel} (f : Cel → Cel) {n : Int} (h : 0 ≤ n ∧ n < l.length) : celAt (l.map f) n = f (celAt l n) := by
  unfold celAt
  rw [List.getD_eq_getElem?_getD, List.getD_eq_getElem?_getD, List.getElem?_eq_getElem (by simp; omega), List.getElem?_eq_getElem (by omega)]
  simp
theorem distM_le {f g : Cel → Ice} {l l' : List Cel} : ∀ {ns : List Int}, (∀ n ∈ ns, gradeS (f (celAt l n)) ≤ gradeS (g (celAt l' n))) → distM f l ns ≤ distM g l' ns
  | [], _ => Int.le_refl _
  | n :: ns, h => by
    have h1 := h n (by simp)
    have h2 := distM_le (ns := ns) (fun m hm => h m (by simp [hm]))
    simp only [distM]; omega
theorem distN_le {f g : Cel → Ice} {l l' : List Cel} {ns : List Int} (h : ∀ n ∈ ns, gradeS (f (celAt l n)) ≤ gradeS (g (celAt l' n))) : distN f l ns ≤ distN g l' ns := distM_le fun n hn => h n (List.mem_reverse.1 hn)
theorem distM_rng {f : Cel → Ice} {l : List Cel} : ∀ {ns : List Int}, (∀ n ∈ ns, iceOk (f (celAt l n)) = true) → 0 ≤ distM f l ns ∧ distM f l ns ≤ 1050
  | [], _ => by simp [distM]
  | n :: ns, h => by
    have h1 := grade_range (h n (by simp))
    have h2 := distM_rng (ns := ns) (fun m hm => h m (by simp [hm]))
    simp only [distM]; omega
theorem distN_rng {f : Cel → Ice} {l : List Cel} {ns : List Int} (h : ∀ n ∈ ns, iceOk (f (celAt l n)) = true) : 0 ≤ distN f l ns ∧ distN f l ns ≤ 1050 := distM_rng fun n hn => h n (List.mem_reverse.1 hn)
/-- the greatest severity of the ices named -/
def iceAt (f : List Ice) (n : Int) : Ice := f.getD n.toNat default
def fldM (f : List Ice) : List Int → Int
  | [] => 0
  | n :: ns => max (gradeS (iceAt f n)) (fldM f ns)
def fldN (f : List Ice) (ns : List Int) : Int := fldM f ns.reverse
theorem fldN_snoc (f : List Ice) (ns : List Int) (n : Int) : fldN f (ns ++ [n]) = max (gradeS (iceAt f n)) (fldN f ns) := by simp [fldN, fldM]
theorem fldM_in {l : List Cel} {f : List Ice} : ∀ {ns : List Int}, (∀ n ∈ ns, gradeS (celLo (celAt l n)) ≤ gradeS (iceAt f n) ∧ gradeS (iceAt f n) ≤ gradeS (celHi (celAt l n))) → distM celLo l ns ≤ fldM f ns ∧ fldM f ns ≤ distM celHi l ns
  | [], _ => ⟨Int.le_refl _, Int.le_refl _⟩
  | n :: ns, h => by
    have h1 := h n (by simp)
    have h2 := fldM_in (ns := ns) (fun m hm => h m (by simp [hm]))
    simp only [distM, fldM]; omega
theorem iceAt_get {f : List Ice} {n : Nat} (h : n < f.length) : iceAt f n = f[n] := by
  unfold iceAt
  rw [List.getD_eq_getElem?_getD, Int.toNat_natCast, List.getElem?_eq_getElem h]; rfl
/-- one day: the bounds of the aged chart, of the chart, and the severity that was there -/
theorem day_law {l : List Cel} {f : List Ice} {ns : List Int} {u d : Ice} {h : Int} (hl : ∀ x ∈ l, celOk x = true) (hf : holdAll l f) (hn : ∀ n ∈ ns, 0 ≤ n ∧ n < l.length) (hr : rtOk u d) (hh : 0 ≤ h ∧ h ≤ 10000) :
    0 ≤ distN celLo (l.map fun x => ageCel x u d h) ns ∧ distN celLo (l.map fun x => ageCel x u d h) ns ≤ distN celLo l ns ∧ distN celLo l ns ≤ fldN f ns ∧ fldN f ns ≤ distN celHi l ns ∧ distN celHi l ns ≤ distN celHi (l.map fun x => ageCel x u d h) ns ∧ distN celHi (l.map fun x => ageCel x u d h) ns ≤ 1050 := by
  have g1 : ∀ n ∈ ns, celAt (l.map fun x => ageCel x u d h) n = ageCel (celAt l n) u d h := fun n hm => celAt_map _ (hn n hm)
  have g2 : ∀ n ∈ ns, celOk (celAt l n) = true := fun n hm => hl _ (celAt_mem (hn n hm))
  have g3 : ∀ n ∈ ns, celOk (ageCel (celAt l n) u d h) = true := fun n hm => (age_bds (g2 n hm) hr hh).1
  have r1 := distN_rng (f := celLo) (l := l.map fun x => ageCel x u d h) (ns := ns) (fun n hm => by rw [g1 n hm]; exact cel_lo (g3 n hm))
  have r2 := distN_rng (f := celHi) (l := l.map fun x => ageCel x u d h) (ns := ns) (fun n hm => by rw [g1 n hm]; exact cel_hi (g3 n hm))
  have a1 := distN_le (f := celLo) (g := celLo) (l := l.map fun x => ageCel x u d h) (l' := l) (ns := ns) (fun n hm => by rw [g1 n hm]; exact (age_grade (g2 n hm) hr hh).1)
  have a2 := distN_le (f := celHi) (g := celHi) (l := l) (l' := l.map fun x => ageCel x u d h) (ns := ns) (fun n hm => by rw [g1 n hm]; exact (age_grade (g2 n hm) hr hh).2)
  have a3 : distN celLo l ns ≤ fldN f ns ∧ fldN f ns ≤ distN celHi l ns := fldM_in (ns := ns.reverse) (fun n hm0 => by
    have hm := List.mem_reverse.1 hm0
    obtain ⟨n1, n2⟩ := hn n hm
    obtain ⟨m, rfl⟩ := Int.eq_ofNat_of_zero_le n1
    have q1 : m < f.length := by rw [hf.1]; omega
    have q2 : m < l.length := by omega
    have e1 : celAt l (m : Int) = l[m] := by unfold celAt; rw [List.getD_eq_getElem?_getD, Int.toNat_natCast, List.getElem?_eq_getElem q2]; rfl
    obtain ⟨k1, k2⟩ := hf.2 m q1 q2
    rw [iceAt_get q1, e1]
    exact grade_has (hl _ (List.getElem_mem _)) k2 k1)
  exact ⟨r1.1, a1, a3.1, a3.2, a2, r2.2⟩

/-- all days so far -/
structure Tri (s v : List (Int × Int)) (d : List Int) : Prop where
  l1 : v.length = s.length
  l2 : d.length = s.length
  in_ : ∀ k, k < s.length → 0 ≤ (v.getD k (0, 0)).1 ∧ (v.getD k (0, 0)).1 ≤ (s.getD k (0, 0)).1 ∧ (s.getD k (0, 0)).1 ≤ d.getD k 0 ∧ d.getD k 0 ≤ (s.getD k (0, 0)).2 ∧ (s.getD k (0, 0)).2 ≤ (v.getD k (0, 0)).2 ∧ (v.getD k (0, 0)).2 ≤ 1050
theorem Tri.nil : Tri [] [] [] := ⟨rfl, rfl, fun k hk => by simp at hk⟩
theorem getD_snoc {α : Type} (l : List α) (x z : α) (k : Nat) : (l ++ [x]).getD k z = if k < l.length then l.getD k z else if k = l.length then x else z := by
  rw [List.getD_eq_getElem?_getD, List.getElem?_append]
  split
  · rw [List.getD_eq_getElem?_getD]
  · rename_i h
    split
    · rename_i h2; simp [h2]
    · rw [List.getElem?_eq_none (by simp; omega)]; rfl
theorem Tri.snoc {s v : List (Int × Int)} {d : List Int} (h : Tri s v d) {a b x y m : Int} (h1 : 0 ≤ x ∧ x ≤ a ∧ a ≤ m ∧ m ≤ b ∧ b ≤ y ∧ y ≤ 1050) : Tri (s ++ [(a, b)]) (v ++ [(x, y)]) (d ++ [m]) := by
  refine ⟨by simp [h.l1], by simp [h.l2], fun k hk => ?_⟩
  rw [List.length_append, List.length_singleton] at hk
  rw [getD_snoc, getD_snoc, getD_snoc, h.l1, h.l2]
  by_cases hk1 : k < s.length
  · simp only [hk1, if_true]; exact h.in_ k hk1
  · have hk2 : k = s.length := by omega
    simp only [hk2, Nat.lt_irrefl, if_false, if_true]; exact h1
theorem getD_fst (l : List (Int × Int)) (k : Nat) : (l.map (·.1)).getD k 0 = (l.getD k (0, 0)).1 := by
  rw [List.getD_eq_getElem?_getD, List.getD_eq_getElem?_getD, List.getElem?_map]; cases l[k]? <;> rfl
theorem getD_snd (l : List (Int × Int)) (k : Nat) : (l.map (·.2)).getD k 0 = (l.getD k (0, 0)).2 := by
  rw [List.getD_eq_getElem?_getD, List.getD_eq_getElem?_getD, List.getElem?_map]; cases l[k]? <;> rfl
theorem Tri.starts {s v : List (Int × Int)} {d : List Int} (h : Tri s v d) {p : Pol} (hc : checkS p = 0) (hl : s.length ≤ 400) : spnE p s = 0 ∧ spnE p v = 0 ∧ startS p d = 0 := by
  have g : ∀ {l : List (Int × Int)}, (∀ k, k < l.length → 0 ≤ (l.getD k (0, 0)).1 ∧ (l.getD k (0, 0)).1 ≤ (l.getD k (0, 0)).2 ∧ (l.getD k (0, 0)).2 ≤ 2000) → ∀ x ∈ l, badSpn x = false := fun {l} hh x hx => by
    obtain ⟨k, hk, rfl⟩ := List.getElem_of_mem hx
    have := hh k hk
    rw [List.getD_eq_getElem?_getD, List.getElem?_eq_getElem hk, Option.getD_some] at this
    exact badSpn_no (by simp only [within, Bool.and_eq_true, decide_eq_true_eq]; omega) (by simp only [within, Bool.and_eq_true, decide_eq_true_eq]; omega)
  have i1 : ∀ k, k < s.length → 0 ≤ (s.getD k (0, 0)).1 ∧ (s.getD k (0, 0)).1 ≤ (s.getD k (0, 0)).2 ∧ (s.getD k (0, 0)).2 ≤ 2000 := fun k hk => by have := h.in_ k hk; omega
  have i2 : ∀ k, k < v.length → 0 ≤ (v.getD k (0, 0)).1 ∧ (v.getD k (0, 0)).1 ≤ (v.getD k (0, 0)).2 ∧ (v.getD k (0, 0)).2 ≤ 2000 := fun k hk => by have := h.in_ k (by rw [← h.l1]; exact hk); omega
  refine ⟨spn_ok (by rw [start_nil]; exact hc) (by omega) (g i1), spn_ok (by rw [start_nil]; exact hc) (by have := h.l1; omega) (g i2), start_zero hc (fun x hx => ?_) (by have := h.l2; omega)⟩
  obtain ⟨k, hk, rfl⟩ := List.getElem_of_mem hx
  have := h.in_ k (by rw [← h.l2]; exact hk)
  rw [List.getD_eq_getElem?_getD (l := d), List.getElem?_eq_getElem hk, Option.getD_some] at this
  omega
theorem Tri.force {s v : List (Int × Int)} {d : List Int} (h : Tri s v d) {p : Pol} (hc : checkS p = 0) {k : Nat} (hk : k < s.length) :
    (forceS p (s.map (·.1))).getD k 0 ≤ (forceS p d).getD k 0 ∧ (forceS p d).getD k 0 ≤ (forceS p (s.map (·.2))).getD k 0 ∧ (forceS p (v.map (·.1))).getD k 0 ≤ (forceS p (s.map (·.1))).getD k 0 ∧ (forceS p (s.map (·.2))).getD k 0 ≤ (forceS p (v.map (·.2))).getD k 0 := by
  have ck := check_ok hc
  have M : ∀ {a b : List Int}, LeL a b → k < a.length → (forceS p a).getD k 0 ≤ (forceS p b).getD k 0 := fun hl hka => (force_mono (p := p) ck.2.2.1 ck.2.2.2.2.1 ck.2.2.2.2.2.2.1 hl).2 k (by rw [forceS_length]; exact hka)
  refine ⟨M ⟨by simp [h.l2], fun j hj => ?_⟩ (by simpa using hk), M ⟨by simp [h.l2], fun j hj => ?_⟩ (by rw [h.l2]; exact hk), M ⟨by simp [h.l1], fun j hj => ?_⟩ (by simp [h.l1]; exact hk), M ⟨by simp [h.l1], fun j hj => ?_⟩ (by simpa using hk)⟩
  · rw [getD_fst]; exact (h.in_ j (by simpa using hj)).2.2.1
  · rw [getD_snd]; exact (h.in_ j (by rw [← h.l2]; exact hj)).2.2.2.1
  · rw [getD_fst, getD_fst]; exact (h.in_ j (by rw [← h.l1]; simpa using hj)).2.1
  · rw [getD_snd, getD_snd]; exact (h.in_ j (by simpa using hj)).2.2.2.2.1

/-- the chart's cells in a block of their own -/
theorem rep_cels {x : Cel} {n : Nat} {cur : Array Value} (h : RepSt (cel x) n n cur) : cur = (cels (List.replicate n x)).toArray := by
  have e : ∀ m j, j < m * 8 → (cels (List.replicate m x))[j]? = (cel x)[j % 8]? := by
    intro m
    induction m with
    | zero => intro j hj; omega
    | succ m ih =>
      intro j hj
      rw [List.replicate_succ, show cels (x :: List.replicate m x) = cel x ++ cels (List.replicate m x) from by simp [cels], List.getElem?_append]
      by_cases h8 : j < 8
      · rw [if_pos (by simpa [cel] using h8), Nat.mod_eq_of_lt h8]
      · rw [if_neg (by simpa [cel] using h8), show (cel x).length = 8 from rfl, ih (j - 8) (by omega)]
        congr 1; omega
  have hs : (cels (List.replicate n x)).length = n * 8 := by
    clear e h
    induction n with
    | zero => rfl
    | succ m ih => rw [List.replicate_succ, show cels (x :: List.replicate m x) = cel x ++ cels (List.replicate m x) from by simp [cels], List.length_append, ih]; simp [cel]; omega
  apply Array.ext'
  apply List.ext_getElem?
  intro j
  have h1 : cur.size = n * 8 := h.1
  by_cases hj : j < n * 8
  · have := h.2 j hj
    rw [show (cel x).length = 8 from rfl] at this
    rw [Array.getElem?_toList, this]
    simp only [List.toList_toArray]
    exact (e n j hj).symm
  · rw [List.getElem?_eq_none (by simp [h1]; omega), List.getElem?_eq_none (by simp [hs]; omega)]
theorem cels_cons (x : Cel) (l : List Cel) : cels (x :: l) = cel x ++ cels l := by simp [cels]
theorem cels_length (l : List Cel) : (cels l).length = l.length * 8 := by
  induction l with
  | nil => rfl
  | cons x l ih => rw [cels_cons, List.length_append, ih]; simp [cel]; omega
theorem cels_set {l : List Cel} (y : Cel) : ∀ {i : Nat}, i < l.length → ∀ j, (cels (l.set i y))[j]? = if i * 8 ≤ j ∧ j < i * 8 + 8 then (cel y)[j - i * 8]? else (cels l)[j]? := by
  induction l with
  | nil => intro i hi; simp at hi
  | cons x l ih =>
    intro i hi j
    cases i with
    | zero =>
      rw [List.set_cons_zero, cels_cons, cels_cons, List.getElem?_append, List.getElem?_append, show (cel y).length = 8 from rfl, show (cel x).length = 8 from rfl]
      by_cases hj : j < 8
      · rw [if_pos hj, if_pos (by omega)]; simp
      · rw [if_neg hj, if_neg (by omega), if_neg hj]
    | succ i =>
      rw [List.set_cons_succ, cels_cons, cels_cons, List.getElem?_append, List.getElem?_append, show (cel x).length = 8 from rfl]
      by_cases hj : j < 8
      · rw [if_pos hj, if_neg (by omega), if_pos hj]
      · rw [if_neg hj, if_neg hj, ih (by simpa using hi) (j - 8)]
        by_cases h2 : (i + 1) * 8 ≤ j ∧ j < (i + 1) * 8 + 8
        · rw [if_pos (by omega), if_pos h2]; congr 1; omega
        · rw [if_neg (by omega), if_neg h2]
/-- a cell of the chart is written -/
theorem cels_store {w : World} {g : Nat} {l : List Cel} {t : TypeId} {fr : Nat × Nat} (h : w.heap[g]? = some (.cells (cels l).toArray t fr)) {i : Nat} (hi : i < l.length) (y : Cel) :
    (w.setCells g (i * 8) (cel y)).heap[g]? = some (.cells (cels (l.set i y)).toArray t fr) := by
  have e1 : (cels l).toArray.size = l.length * 8 := by rw [List.size_toArray, cels_length]
  have e2 : (cel y).length = 8 := rfl
  obtain ⟨cur', h1, h2, h3, h4⟩ := heap_setCells (cel y) (i * 8) w _ h (by omega)
  have e : cur' = (cels (l.set i y)).toArray := by
    apply Array.ext'
    apply List.ext_getElem?
    intro j
    rw [Array.getElem?_toList]
    simp only [List.toList_toArray]
    rw [cels_set y hi j]
    by_cases hj : i * 8 ≤ j ∧ j < i * 8 + 8
    · rw [if_pos hj]
      have := h3 (j - i * 8) (by simp [cel]; omega)
      rw [show i * 8 + (j - i * 8) = j from by omega] at this
      exact this
    · rw [if_neg hj, h4 j (by simp [cel]; omega)]
      simp
  rw [e] at h1
  exact h1
end Go.Proofs.Ytfmhlnfcbbpfeaa
/- The rest of a function's text from a statement on: for a great function's parts as theorems of their own. -/
namespace Go.Proofs.Ytfmhlnfcbbpfeaa
open Go

/-- is region n in it -/
def hasReg (n : Nat) : Code → Bool
  | .region k _ _ => k == n
  | .loop c => hasReg n c
  | .seq a b => hasReg n a || hasReg n b
  | .block _ c => hasReg n c
  | .scope c => hasReg n c
  | .cond _ a b => hasReg n a || hasReg n b
  | _ => false
/-- the rest of the sequence, beginning with the statement that holds region n -/
def restAt (n : Nat) : Code → Code
  | .seq a b => if hasReg n a then .seq a b else restAt n b
  | .scope c => restAt n c
  | c => c
noncomputable def restOf (f : Func) (n : Nat) : Code := restAt n (f.body.getD .skip)
end Go.Proofs.Ytfmhlnfcbbpfeaa
/- The loops of a function's text, in its order: for a loop's round as a theorem of its own. -/
namespace Go.Proofs.Ytfmhlnfcbbpfeaa
open Go

def loopsOf : Code → List Code
  | .loop c => c :: loopsOf c
  | .seq a b => loopsOf a ++ loopsOf b
  | .block _ c => loopsOf c
  | .scope c => loopsOf c
  | .cond _ a b => loopsOf a ++ loopsOf b
  | _ => []
noncomputable def loopBody (f : Func) (i : Nat) : Code := ((loopsOf (f.body.getD .skip))[i]?).getD .skip
end Go.Proofs.Ytfmhlnfcbbpfeaa
/- RestrictCharts: what is there all the time; three lists that are appended to in any order. -/
namespace Go.Proofs.Ytfmhlnfcbbpfeaa
open Go Go.RowKit Go.Lib Sp
set_option linter.unusedVariables false
set_option linter.unusedSimpArgs false

theorem infoIce : (Try.prog.info? 111).map (fun i => (i.zero, i.size, i.bytes)) = some (some (.agg #[.int .i64 0, .int .i64 0, .int .i64 0, .int .i64 0]), 4, 32) := by kernel_rfl
theorem infoU8 : (Try.prog.info? 5).map (fun i => (i.zero, i.size, i.bytes)) = some (some (.int .u8 0), 1, 1) := by kernel_rfl

/-- the law's constants: where things lie, and what they hold -/
structure ChC where
  D : Nat
  pb : Nat
  ibm : Nat
  lbm : Nat
  ibr : Nat
  lbr : Nat
  rb : Nat
  As : Option Addr
  cs : Nat
  p : Pol
  Ak : Option Addr
  ck : Nat
  kl : List Int
  Ad : Option Addr
  cd : Nat
  ns : List Int
abbrev fnAt (ib lb : Nat) : Value := .func (.func 114) #[] #[.pointer (some ⟨ib, 0, none⟩), .pointer (some ⟨lb, 0, none⟩)]
def ApartOf (n : Nat) (A : Option Addr) (i j : Nat) : Prop := 0 < n → ∀ b off, A = some ⟨b, off, none⟩ → b ≠ i ∧ b ≠ j
structure ChE (c : ChC) (w : World) : Prop where
  blk : w.heap[c.pb]? = some (.cells #[.slice c.As c.p.steps.length c.cs, .int .i64 c.p.hold, .int .i64 c.p.calm, .int .i64 c.p.notice, .int .i64 c.p.grace] 25 (0, 0))
  pol : PolV w c.As c.cs c.p
  rk : Rd w 1 c.Ak c.kl.length (byts c.kl)
  rd : Rd w 1 c.Ad c.ns.length (ints c.ns)
  nm : NxS c.D w c.ibm c.lbm
  nr : NxS c.D w c.ibr c.lbr
  rc : w.cell? ⟨c.rb, 0, none⟩ = some (fnAt c.ibr c.lbr)
  p1 : (c.pb ≠ c.ibm ∧ c.pb ≠ c.ibr) ∧ (c.rb ≠ c.ibm ∧ c.rb ≠ c.ibr ∧ c.rb ≠ c.lbr) ∧ (c.ibm ≠ c.ibr ∧ c.ibm ≠ c.lbr ∧ c.lbm ≠ c.ibr)
  a1 : ApartOf c.p.steps.length c.As c.ibm c.ibr
  a2 : ApartOf c.kl.length c.Ak c.ibm c.ibr
  a3 : ApartOf c.ns.length c.Ad c.ibm c.ibr
/-- since W0 only the two counters have changed, below it -/
structure ChS (c : ChC) (W0 w : World) : Prop where
  kp : Keep [c.ibm, c.ibr] W0 w
  nm : NxS c.D w c.ibm c.lbm
  nr : NxS c.D w c.ibr c.lbr
section
variable {c : ChC} {W0 w w' : World}
theorem apart_not {n : Nat} {A : Option Addr} {i j : Nat} (h : ApartOf n A i j) : 0 < n → ∀ b off, A = some ⟨b, off, none⟩ → b ∉ [i, j] := fun h0 b off e => by
  have := h h0 b off e; simp; exact this
theorem keep_rd0 {S : List Nat} {sz : Nat} {A : Option Addr} {n : Nat} {xs : List Value} (hk : Keep S w w') (h : Rd w sz A n xs) (hA : 0 < n → ∀ b off, A = some ⟨b, off, none⟩ → b ∉ S) : Rd w' sz A n xs := ⟨h.1, fun h0 => (hk.rd h (hA h0)).2 h0⟩
theorem ChS.start (E : ChE c w) : ChS c w w := ⟨Keep.refl _ _, E.nm, E.nr⟩
theorem ChE.at (E : ChE c W0) (s : ChS c W0 w) : ChE c w := by
  have q := E.p1
  refine ⟨(s.kp.block _ (heap_lt E.blk) (by simp; omega)).trans E.blk, ⟨E.pol.1, E.pol.2.1, keep_rd0 s.kp E.pol.2.2 (apart_not E.a1)⟩, keep_rd0 s.kp E.rk (apart_not E.a2), keep_rd0 s.kp E.rd (apart_not E.a3), s.nm, s.nr, s.kp.cell E.rc (by simp; omega), E.p1, E.a1, E.a2, E.a3⟩
theorem ChS.keep (s : ChS c W0 w) {S : List Nat} (hk : Keep S w w') (hS : ∀ x ∈ S, W0.heap.size ≤ x) (E : ChE c W0) : ChS c W0 w' := by
  have m := E.nm.lt
  have r := E.nr.lt
  refine ⟨s.kp.trans hk (fun x hx => .inr (hS x hx)), s.nm.keep hk (fun x hx => ?_), s.nr.keep hk (fun x hx => ?_)⟩
  · have := hS x hx; omega
  · have := hS x hx; omega
theorem ChS.below (s : ChS c W0 w) (hb : Below w.heap.size w w') (E : ChE c W0) : ChS c W0 w' := s.keep (S := []) (Keep.of_below hb) (by simp) E
theorem ChS.next (s : ChS c W0 w) (hn : NxS c.D w' c.ibm c.lbm) (hk : Keep [c.ibm] w w') (E : ChE c W0) : ChS c W0 w' := by
  have q := E.p1
  have m := E.nm.lt
  refine ⟨s.kp.trans hk (fun x hx => .inl (by simp at hx; simp [hx])), hn, s.nr.keep hk (fun x hx => ?_)⟩
  rw [List.mem_singleton.1 hx]; omega
theorem ChS.rate (s : ChS c W0 w) (hn : NxS c.D w' c.ibr c.lbr) (hk : Keep [c.ibr] w w') (E : ChE c W0) : ChS c W0 w' := by
  have q := E.p1
  have m := E.nr.lt
  refine ⟨s.kp.trans hk (fun x hx => .inl (by simp at hx; simp [hx])), s.nm.keep hk (fun x hx => ?_), hn⟩
  rw [List.mem_singleton.1 hx]; omega
theorem ChS.trans {w1 : World} (s : ChS c W0 w1) (t : ChS c w1 w) : ChS c W0 w := ⟨s.kp.trans t.kp (fun x hx => .inl hx), t.nm, t.nr⟩
theorem ChS.fresh (s : ChS c W0 w) (E : ChE c W0) : c.ibm < W0.heap.size ∧ c.ibr < W0.heap.size := ⟨E.nm.lt.1, E.nr.lt.1⟩
/-- a list of the day's own stays as it is while numbers are drawn -/
theorem ChS.list {S : List Nat} {X : World} (s : ChS c W0 w) (E : ChE c X) (hX : X.heap.size ≤ W0.heap.size) {e : TypeId} {sz : Nat} {A : Option Addr} {n k : Nat} {xs : List Value} {q : List Nat} (h : OwnS W0 e sz A n k xs q) (hq : ∀ g ∈ q, X.heap.size ≤ g) : OwnS w e sz A n k xs q :=
  h.keepS s.kp (fun g hg => by have := hq g hg; have := E.nm.lt; have := E.nr.lt; simp; omega)
end

/-- three lists, and what is appended to each -/
structure P3 where
  e : Nat → TypeId
  sz : Nat → Nat
  A : Nat → Option Addr
  c : Nat → Nat
  xs : Nat → List Value
  f : Nat → List Nat
  u : Nat → List Value
structure S3 where
  A : Nat → Option Addr
  c : Nat → Nat
  f : Nat → List Nat
  b : Nat → Nat
structure G3 (P : P3) (n : Nat) (W0 : World) (s : S3) (l : Nat → Bool) (w : World) : Prop where
  own : ∀ j, j < 3 → OwnS w (P.e j) (P.sz j) (s.A j) (if l (4 * j + 3) then n + 1 else n) (s.c j) (if l (4 * j + 3) then P.xs j ++ P.u j else P.xs j) (s.f j)
  old : ∀ j, j < 3 → l (4 * j + 3) = false → s.A j = P.A j ∧ s.c j = P.c j
  dis : ∀ i j, i < 3 → j < 3 → i ≠ j → ∀ g ∈ s.f i, g ∉ s.f j
  in_ : ∀ j, j < 3 → ∀ g ∈ s.f j, g ∈ P.f j ∨ W0.heap.size ≤ g
  kp : Keep (P.f 0 ++ P.f 1 ++ P.f 2) W0 w
  blk : ∀ j, j < 3 → l (4 * j + 2) = true → w.heap[s.b j]? = some (.cells (P.u j).toArray (P.e j) (0, 0)) ∧ ∀ i, i < 3 → s.b j ∉ s.f i
section
variable {P : P3} {n : Nat} {W0 : World} {s : S3} {l : Nat → Bool} {w w' : World}
theorem G3.start (h : ∀ j, j < 3 → OwnS W0 (P.e j) (P.sz j) (P.A j) n (P.c j) (P.xs j) (P.f j)) (hd : ∀ i j, i < 3 → j < 3 → i ≠ j → ∀ g ∈ P.f i, g ∉ P.f j) : G3 P n W0 ⟨P.A, P.c, P.f, fun _ => 0⟩ (fun _ => false) W0.drew :=
  ⟨fun j hj => by simpa using (h j hj).keepS ((Keep.refl [] W0).drew) (by simp), fun _ _ _ => ⟨rfl, rfl⟩, hd, fun _ _ _ hg => .inl hg, (Keep.refl _ _).drew, (fun _ _ h => by cases h)⟩
theorem G3.other (h : G3 P n W0 s l w) (i : Nat) (hi : ∀ j, j < 3 → i ≠ 4 * j + 2 ∧ i ≠ 4 * j + 3) : G3 P n W0 s (upd l i) w := by
  have e2 : ∀ j, j < 3 → upd l i (4 * j + 2) = l (4 * j + 2) := fun j hj => upd_n (Ne.symm (hi j hj).1)
  have e3 : ∀ j, j < 3 → upd l i (4 * j + 3) = l (4 * j + 3) := fun j hj => upd_n (Ne.symm (hi j hj).2)
  refine ⟨fun j hj => ?_, fun j hj => ?_, h.dis, h.in_, h.kp, fun j hj => ?_⟩
  · rw [e3 j hj]; exact h.own j hj
  · rw [e3 j hj]; exact h.old j hj
  · rw [e2 j hj]; exact h.blk j hj
theorem G3.own0 (h : G3 P n W0 s l w) (j : Nat) (hj : j < 3) (hl : l (4 * j + 3) = false) : OwnS w (P.e j) (P.sz j) (P.A j) n (P.c j) (P.xs j) (s.f j) := by
  have o := h.own j hj
  rw [hl, if_neg (by simp), if_neg (by simp), (h.old j hj hl).1, (h.old j hj hl).2] at o
  exact o
theorem G3.own1 (h : G3 P n W0 s l w) (j : Nat) (hj : j < 3) (hl : l (4 * j + 3) = true) : OwnS w (P.e j) (P.sz j) (s.A j) (n + 1) (s.c j) (P.xs j ++ P.u j) (s.f j) := by
  have o := h.own j hj
  rw [hl, if_pos rfl, if_pos rfl] at o
  exact o
theorem G3.mem_lt (h : G3 P n W0 s l w) {j : Nat} (hj : j < 3) : ∀ g ∈ s.f j, g < w.heap.size := (h.own j hj).lt
theorem G3.build (h : G3 P n W0 s l w) (j : Nat) (hj : j < 3) {o : Obj} (ho : o = .cells (P.u j).toArray (P.e j)) : G3 P n W0 { s with b := fun i => if i = j then w.heap.size else s.b i } (upd l (4 * j + 2)) (w.alloc o) := by
  subst ho
  have e3 : ∀ i, upd l (4 * j + 2) (4 * i + 3) = l (4 * i + 3) := fun i => upd_n (by omega)
  refine ⟨fun i hi => ?_, fun i hi => ?_, h.dis, h.in_, h.kp.alloc _, fun i hi => ?_⟩
  · rw [e3 i]; exact (h.own i hi).alloc _
  · rw [e3 i]; exact h.old i hi
  · by_cases e : i = j
    · subst e
      refine fun _ => ⟨?_, fun k hk => ?_⟩
      · simp only [if_true]; exact heap_alloc_new _ _
      · simp only [if_true]; intro hm; have := h.mem_lt hk _ hm; omega
    · rw [upd_n (show 4 * i + 2 ≠ 4 * j + 2 by omega)]
      intro hl
      simp only [e, if_false]
      exact ⟨heap_alloc' (h.blk i hi hl).1 _, (h.blk i hi hl).2⟩
theorem G3.app (h : G3 P n W0 s l w) (j : Nat) (hj : j < 3) (hl : l (4 * j + 3) = false) {g c' : Nat} (ho : OwnS w' (P.e j) (P.sz j) (some ⟨g, 0, none⟩) (n + 1) c' (P.xs j ++ P.u j) [g]) (hg : g ∈ s.f j ∨ w.heap.size = g) (hk : Keep (s.f j) w w') :
    G3 P n W0 { s with A := fun i => if i = j then some ⟨g, 0, none⟩ else s.A i, c := fun i => if i = j then c' else s.c i, f := fun i => if i = j then [g] else s.f i } (upd l (4 * j + 3)) w' := by
  have e2 : ∀ i, upd l (4 * j + 3) (4 * i + 2) = l (4 * i + 2) := fun i => upd_n (by omega)
  have hs := h.kp.size
  have hne : ∀ i, i < 3 → i ≠ j → g ∉ s.f i := fun i hi e hm => by
    rcases hg with hg | hg
    · exact h.dis j i hj hi (Ne.symm e) g hg hm
    · have := h.mem_lt hi _ hm; omega
  refine ⟨fun i hi => ?_, fun i hi => ?_, fun a b ha hb hab => ?_, fun i hi => ?_, h.kp.trans hk (fun x hx => ?_), fun i hi => ?_⟩
  · by_cases e : i = j
    · subst e
      simp only [if_true, show upd l (4 * i + 3) (4 * i + 3) = true from if_pos rfl]
      exact ho
    · rw [upd_n (show 4 * i + 3 ≠ 4 * j + 3 by omega)]
      simp only [e, if_false]
      exact (h.own i hi).keepS hk (h.dis i j hi hj e)
  · by_cases e : i = j
    · subst e
      intro h1; rw [show upd l (4 * i + 3) (4 * i + 3) = true from if_pos rfl] at h1; cases h1
    · rw [upd_n (show 4 * i + 3 ≠ 4 * j + 3 by omega)]
      simp only [e, if_false]
      exact h.old i hi
  · by_cases e : a = j
    · have e' : b ≠ j := fun h => hab (e.trans h.symm)
      simp only [e, e', if_true, if_false]
      intro x hx; rw [List.mem_singleton.1 hx]; exact hne b hb e'
    · simp only [e, if_false]
      by_cases e' : b = j
      · simp only [e', if_true]
        intro x hx hm; rw [List.mem_singleton.1 hm] at hx; exact hne a ha e hx
      · simp only [e', if_false]; exact h.dis a b ha hb hab
  · by_cases e : i = j
    · subst e
      simp only [if_true]
      intro x hx; rw [List.mem_singleton.1 hx]
      rcases hg with hg | hg
      · exact h.in_ i hi _ hg
      · exact .inr (by omega)
    · simp only [e, if_false]; exact h.in_ i hi
  · rcases h.in_ j hj x hx with h5 | h5
    · refine .inl ?_
      rcases (by omega : j = 0 ∨ j = 1 ∨ j = 2) with rfl | rfl | rfl <;> simp [h5]
    · exact .inr h5
  · rw [e2 i]
    intro hl2
    obtain ⟨k1, k2⟩ := h.blk i hi hl2
    have k3 := heap_lt k1
    refine ⟨(hk.block _ k3 (k2 j hj)).trans k1, fun k hk2 => ?_⟩
    by_cases e : k = j
    · simp only [e, if_true]
      intro hm
      have hm' : s.b i = g := List.mem_singleton.1 hm
      rcases hg with hg | hg
      · exact k2 j hj (by rw [hm']; exact hg)
      · omega
    · simp only [e, if_false]; exact k2 k hk2
end

/-- the three lists of the law -/
def e3 : Nat → TypeId
  | 0 => 42
  | 1 => 42
  | _ => 3
def sz3 : Nat → Nat
  | 0 => 2
  | 1 => 2
  | _ => 1
def xs3 (s v : List (Int × Int)) (d : List Int) : Nat → List Value
  | 0 => spcs s
  | 1 => spcs v
  | _ => ints d
def u3 (a b x y m : Int) : Nat → List Value
  | 0 => [.int .i64 a, .int .i64 b]
  | 1 => [.int .i64 x, .int .i64 y]
  | _ => [.int .i64 m]
def chP (s v : List (Int × Int)) (d : List Int) (A : Nat → Option Addr) (k : Nat → Nat) (q : Nat → List Nat) (a b x y m : Int) : P3 := ⟨e3, sz3, A, k, xs3 s v d, q, u3 a b x y m⟩
def ChL (X w : World) (n : Nat) (A : Nat → Option Addr) (k : Nat → Nat) (s v : List (Int × Int)) (d : List Int) : Prop :=
  ∃ q : Nat → List Nat, (∀ j, j < 3 → OwnS w (e3 j) (sz3 j) (A j) n (k j) (xs3 s v d j) (q j)) ∧ (∀ i j, i < 3 → j < 3 → i ≠ j → ∀ g ∈ q i, g ∉ q j) ∧ (∀ j, j < 3 → ∀ g ∈ q j, X.heap.size ≤ g) ∧ Tri s v d ∧ s.length = n
theorem ChL.nil (X w : World) : ChL X w 0 (fun _ => none) (fun _ => 0) [] [] [] := by
  refine ⟨fun _ => [], fun j hj => ?_, by simp, by simp, Tri.nil, rfl⟩
  rcases (by omega : j = 0 ∨ j = 1 ∨ j = 2) with rfl | rfl | rfl <;> exact OwnS.nil _ _ _
theorem ChL.keep {X w w' : World} {n : Nat} {A : Nat → Option Addr} {k : Nat → Nat} {s v : List (Int × Int)} {d : List Int} (h : ChL X w n A k s v d) {S : List Nat} (hk : Keep S w w') (hS : ∀ x ∈ S, x < X.heap.size ∨ w.heap.size ≤ x) : ChL X w' n A k s v d := by
  obtain ⟨q, h1, h2, h3, h4⟩ := h
  refine ⟨q, fun j hj => (h1 j hj).keepS hk (fun g hg hm => ?_), h2, h3, h4⟩
  have a := h3 j hj g hg
  have b := (h1 j hj).lt g hg
  rcases hS g hm with h | h <;> omega
theorem ChL.at {X W0 w : World} {c : ChC} (E : ChE c X) {n : Nat} {A : Nat → Option Addr} {k : Nat → Nat} {s v : List (Int × Int)} {d : List Int} (h : ChL X W0 n A k s v d) (t : ChS c W0 w) : ChL X w n A k s v d :=
  h.keep t.kp (fun x hx => by have := E.nm.lt; have := E.nr.lt; simp at hx; omega)
theorem spcs_snoc (s : List (Int × Int)) (a b : Int) : spcs (s ++ [(a, b)]) = spcs s ++ [.int .i64 a, .int .i64 b] := by simp [spcs, spc]
theorem ChL.done {X W0 w : World} {n : Nat} {s v : List (Int × Int)} {d : List Int} {A : Nat → Option Addr} {k : Nat → Nat} {q : Nat → List Nat} {a b x y m : Int} {S : S3} (h : G3 (chP s v d A k q a b x y m) n W0 S (fun j => decide (j < 15)) w) (hq : ∀ j, j < 3 → ∀ g ∈ q j, X.heap.size ≤ g) (hX : X.heap.size ≤ W0.heap.size) (T : Tri s v d) (hn : s.length = n) (hb : 0 ≤ x ∧ x ≤ a ∧ a ≤ m ∧ m ≤ b ∧ b ≤ y ∧ y ≤ 1050) :
    ChL X w (n + 1) S.A S.c (s ++ [(a, b)]) (v ++ [(x, y)]) (d ++ [m]) := by
  refine ⟨S.f, fun j hj => ?_, h.dis, fun j hj g hg => ?_, T.snoc hb, by simp [hn]⟩
  · have o := h.own1 j hj (by simp; omega)
    rcases (by omega : j = 0 ∨ j = 1 ∨ j = 2) with rfl | rfl | rfl
    · show OwnS _ _ _ _ _ _ (spcs (s ++ [(a, b)])) _
      rw [spcs_snoc]; exact o
    · show OwnS _ _ _ _ _ _ (spcs (v ++ [(x, y)])) _
      rw [spcs_snoc]; exact o
    · show OwnS _ _ _ _ _ _ (ints (d ++ [m])) _
      rw [show ints (d ++ [m]) = ints d ++ [.int .i64 m] from by simp [ints]]; exact o
  · rcases h.in_ j hj g hg with h5 | h5
    · exact hq j hj g h5
    · omega
/-- the rest of a sequence within blocks, beginning with the statement that holds region n -/
def restB (n : Nat) : Code → Code
  | .seq a b => if hasReg n a then (match a with
    | .block _ c => restB n c
    | _ => .seq a b) else restB n b
  | .scope c => restB n c
  | .block _ c => restB n c
  | c => c
end Go.Proofs.Ytfmhlnfcbbpfeaa
