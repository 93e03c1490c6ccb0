/- port.Fold -/
import Derived.Test.YthmldeningpjbaaPBp16
import Derived.BigQuiet
set_option linter.unusedVariables false
set_option linter.unusedSimpArgs false
namespace Go.Proofs.Ythmldeningpjbaa
open Go Go.RowKit Sp Pt
set_option linter.unusedVariables false
set_option linter.unusedSimpArgs false

/-- a work without a state, just made -/
theorem wce_new {W : World} {pb lb D : Nat} {Ac Ab Al As : Option Addr} {cc cb cl cs : Nat} {p : Prt} {l : Pln}
    (hp : W.heap[pb]? = some (.cells (prtV Ac cc Ab cb p) 26 (0, 0))) (hl : W.heap[lb]? = some (.cells (plnV Al cl As cs l) 31 (0, 0)))
    (PB : PrtB D W Ac cc Ab cb p) (LB : PlnB D W Al cl As cs l) (hD : D ≤ W.heap.size) (wb : Nat) (hwb : wb = W.heap.size) :
    WcE ⟨wb, pb, lb, 0, 0, 0, 0, D, Ac, Ab, Al, As, cc, cb, cl, cs, p, l⟩ (W.alloc (.cells #[.pointer (some ⟨pb, 0, none⟩), .pointer (some ⟨lb, 0, none⟩), .slice none 0 0, .slice none 0 0] 149)) (.slice none 0 0) (.slice none 0 0) := by
  have b : Below D W (W.alloc (.cells #[.pointer (some ⟨pb, 0, none⟩), .pointer (some ⟨lb, 0, none⟩), .slice none 0 0, .slice none 0 0] 149)) := (Below.refl _ _).alloc hD _
  subst hwb
  exact ⟨heap_alloc_new W _, heap_alloc' hp _, heap_alloc' hl _, PB.below b, LB.below b, by simp; omega⟩

/-- the boxes of a port and of a plan -/
theorem boxes2 {D : Nat} {Ac : Option Addr} {cc : Nat} {Ab : Option Addr} {cb : Nat} {p : Prt} {Al : Option Addr} {cl : Nat} {As : Option Addr} {cs : Nat} {l : Pln} {w W : World} {pb lb : Nat}
    (PB : PrtB D w Ac cc Ab cb p) (LB : PlnB D w Al cl As cs l) (hD : D ≤ w.heap.size) (hW : W = (w.alloc (.cells (prtV Ac cc Ab cb p) 26)).alloc (.cells (plnV Al cl As cs l) 31)) (hpb : pb = w.heap.size) (hlb : lb = w.heap.size + 1) :
    Below w.heap.size w W ∧ W.heap[pb]? = some (.cells (prtV Ac cc Ab cb p) 26 (0, 0)) ∧ W.heap[lb]? = some (.cells (plnV Al cl As cs l) 31 (0, 0)) ∧
    Calls Try.prog 52 #[.agg (prtV Ac cc Ab cb p), .agg (plnV Al cl As cs l)] W (fun e w' => e = .returned (.int .i64 (checkL p l)) ∧ Below W.heap.size W w') ∧ PrtB D W Ac cc Ab cb p ∧ PlnB D W Al cl As cs l := by
  have b0 : Below w.heap.size w W := by rw [hW]; exact ((Below.refl _ _).alloc (Nat.le_refl _) _).alloc (by simp) _
  refine ⟨b0, by rw [hW, hpb]; exact heap_alloc' (heap_alloc_new _ _) _, ?_, CheckPlan_any D Ac cc Ab cb p Al cl As cs l W (PB.below (b0.mono hD)) (LB.below (b0.mono hD)) (by have := b0.size; omega), PB.below (b0.mono hD), LB.below (b0.mono hD)⟩
  rw [hW, hlb]
  have := heap_alloc_new (w.alloc (.cells (prtV Ac cc Ab cb p) 26)) (.cells (plnV Al cl As cs l) 31)
  rwa [World.size_alloc] at this

def foldVal (p : Prt) (l : Pln) (c : Int) : Mp := if foldE p l c = 0 then foldS p l c else ⟨0, 0, 0⟩

set_option maxRecDepth 100000 in
set_option maxHeartbeats 4000000 in
theorem Fold_any (D : Nat) (Ac : Option Addr) (cc : Nat) (Ab : Option Addr) (cb : Nat) (p : Prt) (Al : Option Addr) (cl : Nat) (As : Option Addr) (cs : Nat) (l : Pln) (k : Int) (w : World)
    (PB : PrtB D w Ac cc Ab cb p) (LB : PlnB D w Al cl As cs l) (hD : D ≤ w.heap.size) :
    Calls Try.prog 29 #[.agg (prtV Ac cc Ab cb p), .agg (plnV Al cl As cs l), .int .i64 k] w
      fun e w' => e = .returned (.tuple #[mpV (foldVal p l k), .int .i64 (foldE p l k)]) ∧ Below w.heap.size w w' := by
  obtain ⟨W0, hW0⟩ : ∃ W, W = (w.alloc (.cells (prtV Ac cc Ab cb p) 26)).alloc (.cells (plnV Al cl As cs l) 31) := ⟨_, rfl⟩
  obtain ⟨pb, hpb⟩ : ∃ b, b = w.heap.size := ⟨_, rfl⟩
  obtain ⟨lb, hlb⟩ : ∃ b, b = w.heap.size + 1 := ⟨_, rfl⟩
  obtain ⟨b0, hp, hl, _, PB1, LB1⟩ := boxes2 PB LB hD hW0 hpb hlb
  obtain ⟨W, hW⟩ : ∃ W, W = W0.alloc (.cells #[.int .i64 0, .int .i64 0, .int .i64 0] 59) := ⟨_, rfl⟩
  obtain ⟨rb, hrb⟩ : ∃ b, b = w.heap.size + 1 + 1 := ⟨_, rfl⟩
  have hrb' : rb = W0.heap.size := by rw [hrb, hW0]; simp
  have b1 : Below w.heap.size w W := by rw [hW]; exact b0.alloc b0.size _
  replace hp := heap_alloc' hp (.cells #[.int .i64 0, .int .i64 0, .int .i64 0] 59)
  replace hl := heap_alloc' hl (.cells #[.int .i64 0, .int .i64 0, .int .i64 0] 59)
  have hr : W.heap[rb]? = some (.cells #[.int .i64 0, .int .i64 0, .int .i64 0] 59 (0, 0)) := by rw [hW, hrb']; exact heap_alloc_new _ _
  rw [← hW] at hp hl
  replace PB1 := PB.below (b1.mono hD)
  replace LB1 := LB.below (b1.mono hD)
  have hD1 : D ≤ W.heap.size := by have := b1.size; omega
  have kck := CheckPlan_any D Ac cc Ab cb p Al cl As cs l W PB1 LB1 hD1
  obtain ⟨er, her⟩ : ∃ er, er = checkL p l := ⟨_, rfl⟩
  rw [← her] at kck
  have c0 : W.cell? ⟨pb, 0, none⟩ = some (.slice Ac p.chs.length cc) := (cell_of_heap hp 0).trans rfl
  have c1 : W.cell? ⟨pb, 1, none⟩ = some (.slice Ab p.bts.length cb) := (cell_of_heap hp 1).trans rfl
  have c2 : W.cell? ⟨pb, 2, none⟩ = some (.int .i64 p.tugs) := (cell_of_heap hp 2).trans rfl
  have c3 : W.cell? ⟨lb, 0, none⟩ = some (.int .i64 l.hours) := (cell_of_heap hl 0).trans rfl
  have c4 : W.cell? ⟨lb, 1, none⟩ = some (.slice Al l.calls.length cl) := (cell_of_heap hl 1).trans rfl
  have c5 : W.cell? ⟨lb, 2, none⟩ = some (.slice As l.swps.length cs) := (cell_of_heap hl 2).trans rfl
  have zp := heap_lt hp
  have zl := heap_lt hl
  have hrw : w.heap.size ≤ rb := by omega
  have hne : pb ≠ rb ∧ lb ≠ rb := by omega
  have H := Lib.hid (And.intro b1 (And.intro hp (And.intro hl (And.intro hr (And.intro PB1 (And.intro LB1 (And.intro her kck)))))))
  clear b0 b1 hp hl hr PB LB PB1 LB1 kck her
  go_enter Try.func29, Try.ntmps29
  go_upto_region 1 with fail
  rw [← hW0, ← hW, ← hrb, ← hlb, ← hpb]
  clear hW hlb hpb hrb hrb' hW0
  by_cases h0 : er = 0
  · subst h0
    go_upto_region 4 with (go_at_call 52; refine H.out.2.2.2.2.2.2.2.mono ?_; rintro e w1 ⟨rfl, b1⟩; have B1 := Lib.hid b1; clear b1)
    have hck : checkL p l = 0 := H.out.2.2.2.2.2.2.1.symm
    have v := val_of hck
    have bw1 : Below w.heap.size w w1 := H.out.1.trans (B1.out.mono H.out.1.size)
    have hp1 := (B1.out.block _ (heap_lt H.out.2.1)).trans H.out.2.1
    have hl1 := (B1.out.block _ (heap_lt H.out.2.2.1)).trans H.out.2.2.1
    have hr1 := (B1.out.block _ (heap_lt H.out.2.2.2.1)).trans H.out.2.2.2.1
    have hD2 : D ≤ w1.heap.size := by have := bw1.size; omega
    have PB2 := H.out.2.2.2.2.1.below (B1.out.mono hD1)
    have LB2 := H.out.2.2.2.2.2.1.below (B1.out.mono hD1)
    have E := wce_new hp1 hl1 PB2 LB2 hD2 w1.heap.size rfl
    have zp1 := heap_lt hp1
    have zl1 := heap_lt hl1
    have hn := v.nc
    clear c0 c1 c2 c3 c4 c5 zp zl
    have c0 : w1.cell? ⟨pb, 0, none⟩ = some (.slice Ac p.chs.length cc) := (cell_of_heap hp1 0).trans rfl
    have f0 := frozen_of_heap hr1 0
    have f1 := frozen_of_heap hr1 1
    have f2 := frozen_of_heap hr1 2
    have d0 := (cell_of_heap hr1 0).trans rfl
    have d1 := (cell_of_heap hr1 1).trans rfl
    have d2 := (cell_of_heap hr1 2).trans rfl
    have zr := heap_lt hr1
    obtain ⟨a, ha⟩ : ∃ a, a = within k 0 ((p.chs.length : Int) - 1) := ⟨_, rfl⟩
    have kwi : ∀ wx, Calls Try.prog 80 #[.int .i64 k, .int .i64 0, .int .i64 ((p.chs.length : Int) - 1)] wx fun e w' => e = .returned (.bool a) ∧ wx = w' := fun wx => by rw [ha]; exact ptWithin_any _ _ _ wx
    have HF := Lib.hid (And.intro bw1 (And.intro hr1 (And.intro ha (And.intro kwi (And.intro E (And.intro v hck))))))
    clear bw1 hr1 ha kwi E v hp1 hl1 hck PB2 LB2
    cases a
    · go_wp2_with (go_at_call 80; refine (HF.out.2.2.2.1 _).mono ?_; rintro e w2 ⟨rfl, rfl⟩)
      have e : foldE p l k = 1 := by unfold foldE; rw [if_neg (by rw [HF.out.2.2.2.2.2.2]; decide), if_pos HF.out.2.2.1.symm]
      refine bodyPost_ret (mp_results2 (r := 6) (s := 7) rfl (b := rb) (m := ⟨0, 0, 0⟩) (st3_heap' HF.out.2.1 _ _ _) _ (.int .i64 1) rfl rfl) rfl ⟨?_, ((HF.out.1.setCell hrw _).setCell hrw _).setCell hrw _⟩
      rw [e]
      unfold foldVal
      rw [e]; rfl
    · obtain ⟨hk0, hk1⟩ : 0 ≤ k ∧ k ≤ (p.chs.length : Int) - 1 := Pt.within_iff.1 HF.out.2.2.1.symm
      obtain ⟨kn, rfl⟩ := Int.eq_ofNat_of_zero_le hk0
      have kf := fold_any (k := kn) ⟨_, _, HF.out.2.2.2.2.1⟩ (by simp only [World.size_alloc]; omega) HF.out.2.2.2.2.2.1 (by simp only; omega)
      dsimp only at kf
      have HG := Lib.hid kf
      clear kf
      go_wp2_with (first | (go_at_call 80; refine (HF.out.2.2.2.1 _).mono ?_; rintro e w2 ⟨rfl, rfl⟩) | (go_at_call 68; refine HG.out.mono ?_; rintro e w2 ⟨rfl, b2⟩; have hr2 := (b2.block rb (by simp; omega)).trans (heap_alloc' HF.out.2.1 _); have g0 := frozen_of_heap hr2 0; have g1 := frozen_of_heap hr2 1; have g2 := frozen_of_heap hr2 2; have zr2 := heap_lt hr2; have d0 := (cell_of_heap hr2 0).trans rfl; have d1 := (cell_of_heap hr2 1).trans rfl; have d2 := (cell_of_heap hr2 2).trans rfl; have HB := Lib.hid (And.intro b2 hr2); clear b2 hr2))
      have e : foldE p l (kn : Int) = 0 := by unfold foldE; rw [if_neg (by rw [HF.out.2.2.2.2.2.2]; decide), if_neg (by rw [← HF.out.2.2.1]; decide)]
      have b3 := HF.out.1.trans (((Below.refl _ _).alloc HF.out.1.size _).trans (HB.out.1.mono (by have := HF.out.1.size; simp; omega)))
      refine bodyPost_ret (mp_results2 (r := 6) (s := 7) rfl (b := rb) (m := foldS p l kn) (st3_heap' HB.out.2 _ _ _) _ (.int .i64 0) rfl rfl) rfl ⟨?_, ((b3.setCell hrw _).setCell hrw _).setCell hrw _⟩
      rw [e]
      unfold foldVal
      rw [e]; rfl
  · have hnb : (er != 0) = true := by simp [h0]
    have HC := Lib.hid h0
    clear h0
    go_wp2_with (go_at_call 52; refine H.out.2.2.2.2.2.2.2.mono ?_; rintro e w2 ⟨rfl, b2⟩; have hr2 := (b2.block rb (heap_lt H.out.2.2.2.1)).trans H.out.2.2.2.1; have g0 := frozen_of_heap hr2 0; have g1 := frozen_of_heap hr2 1; have g2 := frozen_of_heap hr2 2; have zr2 := heap_lt hr2; have d0 := (cell_of_heap hr2 0).trans rfl; have d1 := (cell_of_heap hr2 1).trans rfl; have d2 := (cell_of_heap hr2 2).trans rfl; have HB := Lib.hid (And.intro b2 hr2); clear b2 hr2)
    have e : foldE p l k = er := by unfold foldE; rw [← H.out.2.2.2.2.2.2.1, if_pos HC.out]
    have b3 := H.out.1.trans (HB.out.1.mono H.out.1.size)
    refine bodyPost_ret (mp_results2 (r := 6) (s := 7) rfl (b := rb) (m := ⟨0, 0, 0⟩) (st3_heap' HB.out.2 _ _ _) _ (.int .i64 er) rfl rfl) rfl ⟨?_, ((b3.setCell hrw _).setCell hrw _).setCell hrw _⟩
    have e2 : foldVal p l k = ⟨0, 0, 0⟩ := by unfold foldVal; rw [if_neg (by rw [e]; exact HC.out)]
    rw [e, e2]
end Go.Proofs.Ythmldeningpjbaa
/- (*work).turns -/
namespace Go.Proofs.Ythmldeningpjbaa.Pt
open Sp
def outsN (l : Pln) (b : Int) (j : Nat) : List Bool := ((l.calls.take j).filter fun c => decide (c.berth = b)).map (·.out)
theorem outsN_succ {l : Pln} {b : Int} {j : Nat} (hj : j < l.calls.length) : outsN l b (j + 1) = outsN l b j ++ (if l.calls[j].berth = b then [l.calls[j].out] else []) := by
  unfold outsN
  rw [List.take_succ_eq_append_getElem hj, List.filter_append, List.map_append]
  by_cases q : l.calls[j].berth = b
  · rw [if_pos q, List.filter_cons_of_pos (by simp [q])]; rfl
  · rw [if_neg q, List.filter_cons_of_neg (by simpa using q)]; rfl
theorem outsN_all (l : Pln) (b : Int) : outsN l b l.calls.length = outsOf l b := by unfold outsN outsOf; rw [List.take_length]
theorem outsN_len (l : Pln) (b : Int) (j : Nat) : (outsN l b j).length ≤ l.calls.length := by
  unfold outsN
  rw [List.length_map]
  exact Nat.le_trans (List.length_filter_le _ _) (by rw [List.length_take]; omega)
theorem outsN_prefix (l : Pln) (b : Int) (j : Nat) : outsN l b j <+: outsOf l b := ((List.take_prefix j l.calls).filter _).map _
theorem turnsL_snoc (x : Bool) : ∀ L : List Bool, turnsL (L ++ [x]) = (turnsL L && (decide (L.length = 0) || decide (L.getD (L.length - 1) false ≠ x)))
  | [] => by simp [turnsL]
  | [a] => by simp [turnsL]
  | a :: b :: L => by
    have := turnsL_snoc x (b :: L)
    simp only [List.cons_append, turnsL] at this ⊢
    rw [this]
    simp [Bool.and_assoc]
theorem turnsL_app {R : List Bool} : ∀ {L : List Bool}, turnsL (L ++ R) = true → turnsL L = true
  | [], _ => rfl
  | [_], _ => rfl
  | a :: b :: L, h => by
    simp only [List.cons_append, turnsL, Bool.and_eq_true] at h ⊢
    exact ⟨h.1, turnsL_app (L := b :: L) (by simpa using h.2)⟩
theorem turnsL_prefix {L M : List Bool} (h : L <+: M) (hM : turnsL M = true) : turnsL L = true := by
  obtain ⟨R, rfl⟩ := h
  exact turnsL_app hM
theorem turnsN_at {l : Pln} : ∀ {n : Nat}, turnsN l n = true → ∀ b, b < n → turnsB l b = true
  | 0, _, b, hb => absurd hb (by omega)
  | n + 1, h, b, hb => by
    rw [turnsN, Bool.and_eq_true] at h
    by_cases e : b = n
    · subst e; exact h.2
    · exact turnsN_at h.1 b (by omega)
theorem turns_no {p : Prt} {l : Pln} {b : Nat} (hb : b < p.bts.length) (h : turnsB l b = false) : turns p l = false := by
  cases q : turns p l with
  | false => rfl
  | true => rw [turnsN_at q b hb] at h; cases h
/-- two in turn that are alike -/
theorem turns_same {p : Prt} {l : Pln} {b j : Nat} (hb : b < p.bts.length) (hj : j < l.calls.length) (hc : l.calls[j].berth = b) (h0 : 0 < (outsN l b j).length) (hx : (outsN l b j).getD ((outsN l b j).length - 1) false = l.calls[j].out) : turns p l = false := by
  refine turns_no hb ?_
  cases q : turnsB l b with
  | false => rfl
  | true =>
    unfold turnsB at q
    rw [Bool.and_eq_true] at q
    have := turnsL_prefix (outsN_prefix l b (j + 1)) q.1
    rw [outsN_succ hj, if_pos hc, turnsL_snoc] at this
    simp only [Bool.and_eq_true, Bool.or_eq_true, decide_eq_true_eq] at this
    rcases this.2 with h | h
    · omega
    · exact absurd hx h
end Go.Proofs.Ythmldeningpjbaa.Pt
namespace Go.Proofs.Ythmldeningpjbaa
open Go Go.RowKit Sp Pt
set_option linter.unusedVariables false
set_option linter.unusedSimpArgs false

set_option maxRecDepth 100000 in
set_option maxHeartbeats 4000000 in
theorem turns_any {c : WC} {w : World} (hE : ∃ v u, WcE c w v u) (v : Val c.p c.l) :
    Calls Try.prog 67 #[.pointer (some ⟨c.wb, 0, none⟩)] w fun e w' => e = .returned (.bool (turns c.p c.l)) ∧ Below w.heap.size w w' := by
  obtain ⟨i0, hi, hz0, hz1, hz2⟩ := info_parts info_boolP
  obtain ⟨v0, u0, E⟩ := hE
  obtain ⟨q1, q2, q3, q4, q5, q6, q7, q8, q9, z1, z2, z3⟩ := E.cells
  have hnb := v.nb
  have hncl := v.nx.1
  have HE := Lib.hid (And.intro E (And.intro v E.LB.calls))
  have hcl := E.LB.c1
  clear E v
  go_enter Try.func67, Try.ntmps67
  go_wp2_with fail
  obtain ⟨W, hW⟩ : ∃ W, W = w := ⟨_, rfl⟩
  have HW := Lib.hid hW
  go_loopg [15] (c.p.bts.length) (fun g i wr => ∃ k : Nat, g + k = c.p.bts.length ∧ i = .int .i64 k ∧ turnsN c.l k = true ∧ Keep [] w wr)
  case atStart => exact ⟨0, rfl, rfl, rfl, Keep.refl _ _⟩
  case round =>
    obtain ⟨k, hk, rfl, hok, hK⟩ := hrel
    obtain ⟨w2, hw2⟩ : ∃ w2, w2 = wr := ⟨_, rfl⟩
    subst hw2
    by_cases hlt : k < c.p.bts.length
    · obtain ⟨gb, rfl⟩ : ∃ gb, gb = gk := ⟨_, rfl⟩
      have r1 := hK.cell q1 (by simp)
      have r2 := hK.cell q2 (by simp)
      have r8 := hK.cell q8 (by simp)
      have y1 : c.wb < w2.heap.size := by have := hK.size; omega
      have y3 : c.lb < w2.heap.size := by have := hK.size; omega
      have HI := Lib.hid (And.intro hok hK)
      clear hok hK
      go_wp2_with fail
      go_loopg [4, 26] (c.l.calls.length) (fun g o i wi => ∃ (j : Nat) (Ao : Option Addr) (co : Nat) (q : List Nat), g + j = c.l.calls.length ∧ i = .int .i64 j ∧ o = .slice Ao (outsN c.l k j).length co ∧ OwnA wi 4 Ao (outsN c.l k j).length co (bools (outsN c.l k j)) q ∧ (∀ g ∈ q, w2.heap.size ≤ g) ∧ Keep [] w2 wi ∧ turnsL (outsN c.l k j) = true)
      case atStart => exact ⟨0, none, 0, [], rfl, rfl, rfl, OwnA.nil _ _, by simp, Keep.refl _ _, rfl⟩
      case round =>
        obtain ⟨j, Ao, co, q, hj, rfl, rfl, hown, hq, hKi, hT⟩ := hrel
        obtain ⟨w3, hw3⟩ : ∃ w3, w3 = wr := ⟨_, rfl⟩
        subst hw3
        by_cases hlj : j < c.l.calls.length
        · obtain ⟨x, hx⟩ : ∃ x, x = c.l.calls[j] := ⟨_, rfl⟩
          have ED : Below w.heap.size w w3 := (HI.out.2.trans hKi (by simp)).below (Nat.le_refl _) (by simp)
          have hDw := HE.out.1.hD
          obtain ⟨b, off, eAl, hbD, hcell⟩ := ((HE.out.2.2).below (ED.mono hDw)).2 (by omega)
          obtain ⟨g0, g1, g2, g3, g4, g5⟩ := cacs_get hlj
          rw [← hx] at g0 g1 g2 g3 g4 g5
          have d0 := hcell _ _ g0
          have d1 : w3.cell? ⟨b, off + j * 6 + 1, none⟩ = _ := hcell _ _ g1
          have d2 : w3.cell? ⟨b, off + j * 6 + 2, none⟩ = _ := hcell _ _ g2
          have d3 : w3.cell? ⟨b, off + j * 6 + 3, none⟩ = _ := hcell _ _ g3
          have d4 : w3.cell? ⟨b, off + j * 6 + 4, none⟩ = _ := hcell _ _ g4
          have d5 : w3.cell? ⟨b, off + j * 6 + 5, none⟩ = _ := hcell _ _ g5
          have zb := World.block_lt_of_cell? _ _ d0
          obtain ⟨ho, be, ou, dr, mo, tg⟩ := x
          simp only at d0 d1 d2 d3 d4 d5
          have hS := outsN_succ (b := (k : Int)) hlj
          rw [← hx] at hS
          simp only at hS
          have hSame : be = (k : Int) → 0 < (outsN c.l k j).length → (outsN c.l k j).getD ((outsN c.l k j).length - 1) false = ou → turns c.p c.l = false := fun e1 e2 e3 => turns_same hlt hlj (by rw [← hx]; exact e1) e2 (by rw [← hx]; exact e3)
          have hlen := outsN_len c.l (k : Int) j
          obtain ⟨L, hL⟩ : ∃ L, L = outsN c.l k j := ⟨_, rfl⟩
          rw [← hL] at hS hSame hown hT hlen
          obtain ⟨n, hn⟩ : ∃ n, n = L.length := ⟨_, rfl⟩
          rw [← hL, ← hn]
          rw [← hn] at hown hSame hlen
          obtain ⟨W2, hW2⟩ : ∃ W2, W2 = w3.alloc (.cells #[.int .i64 ho, .int .i64 be, .bool ou, .int .i64 dr, .int .i64 mo, .int .i64 tg] 55) := ⟨_, rfl⟩
          obtain ⟨xb, hxb⟩ : ∃ xb, xb = w3.heap.size := ⟨_, rfl⟩
          have hxh : W2.heap[xb]? = some (.cells #[.int .i64 ho, .int .i64 be, .bool ou, .int .i64 dr, .int .i64 mo, .int .i64 tg] 55 (0, 0)) := by rw [hW2, hxb]; exact heap_alloc_new _ _
          have x1 : W2.cell? ⟨xb, 1, none⟩ = some (.int .i64 be) := (cell_of_heap hxh 1).trans rfl
          have x2 : W2.cell? ⟨xb, 2, none⟩ = some (.bool ou) := (cell_of_heap hxh 2).trans rfl
          have zx := heap_lt hxh
          have k2 : Keep [] w3 W2 := by rw [hW2]; exact (Keep.refl _ _).alloc _
          have o2 := hown.keepS k2 (by simp)
          have HJ := Lib.hid (And.intro o2 (And.intro hq (And.intro (hKi.trans k2 (by simp)) (And.intro hT (And.intro hS (And.intro hSame (And.intro hL (And.intro hn hx))))))))
          clear o2 hq hKi hT hS hSame hL hown hcell g0 g1 g2 g3 g4 g5 hxh ED k2 hx hn
          rw [eAl]
          by_cases hbe : be = (k : Int)
          · subst hbe
            by_cases hn0 : 0 < n
            · have hrd := HJ.out.1.rd
              obtain ⟨bA, oA, rfl, hbA, hcA⟩ := hrd.2 hn0
              obtain ⟨y, hy⟩ : ∃ y, y = L.getD (n - 1) false := ⟨_, rfl⟩
              have c0 : W2.cell? ⟨bA, oA + (n - 1), none⟩ = some (.bool y) := by rw [hy]; exact hcA (n - 1) _ (bools_get (by rw [← HJ.out.2.2.2.2.2.2.2.1]; omega))
              have hcap : n ≤ co := by rcases HJ.out.1.2 with ⟨_, h0, _⟩ | ⟨_, _, _, _, _, _, h1, _⟩ <;> omega
              have hy2 := Lib.hid hy
              have hz : (((n : Int) - 1 : Int)) = ((n - 1 : Nat) : Int) := by omega
              have hk1 : n - 1 < n := by omega
              clear hcA hrd hy
              by_cases hyo : y = ou
              · subst hyo
                go_upto_region 9 with fail
                rw [← hW2, ← hxb]
                clear hW2 hxb d0 d1 d2 d3 d4 d5 zb
                rw [hz] at *
                go_quiet (fail)
                go_wp2_with fail
                go_ret
                obtain ⟨h1, h2, h3, h4, h5, h6, h7, h8, h9⟩ := HJ.out
                exact ⟨by rw [h6 trivial hn0 hy2.out.symm]; rfl, ((HI.out.2.trans h3 (by simp)).drewN _).below (Nat.le_refl _) (by simp)⟩
              · have hyb : (y == ou) = false := by simpa using hyo
                go_upto_region 9 with fail
                rw [← hW2, ← hxb]
                clear hW2 hxb d0 d1 d2 d3 d4 d5 zb
                rw [hz] at *
                go_quiet (fail)
                go_wp2_with (at_builtin
                             refine wpList_append_A rfl (.tmp 48) (.tmp 51) 40 rfl i0 _ 1 Try.underlying40 hi hz0 hz1 hz2 rfl (A := some ⟨bA, oA, none⟩) (n := n) (c := co) (xs := bools L) (fp := q) (by simp [Act.eval]) _ (by simp [Act.eval]) (.bool ou) (((HJ.out.1.drewN _).alloc _)) (cell_new_one _ _ _) rfl (by omega) (by omega) ?_
                             intro g off' c' w4 e1 e2 e3 e4
                             have HQ := Lib.hid (And.intro e1 (And.intro e2 e4))
                             clear e1 e2 e3 e4)
                rw [← eAl]
                go_roundg (gk - 1)
                case measure => omega
                case rel =>
                  obtain ⟨h1, h2, h3, h4, h5, h6, h7, h8, h9⟩ := HJ.out
                  obtain ⟨e1, e2, e4⟩ := HQ.out
                  rw [if_pos trivial] at h5
                  have hll : (outsN c.l (k : Int) (j + 1)).length = n + 1 := by rw [h5, List.length_append, ← h8]; rfl
                  refine ⟨j + 1, some ⟨g, off', none⟩, c', [g], by omega, by go_num, by rw [hll], by rw [hll, h5]; simpa [bools] using e1, ?_, ((h3.drewN _).alloc _).trans e4 (fun y hy => .inr (h2 y hy)), ?_⟩
                  · intro y hy
                    rw [List.mem_singleton.1 hy]
                    rcases e2 with e2 | e2
                    · exact h2 _ e2
                    · have := h3.size; simp at e2; omega
                  · rw [h5, turnsL_snoc, h4, ← h8]
                    rw [← hy2.out]
                    simpa using Or.inr hyo
            · obtain rfl : n = 0 := by omega
              go_upto_region 9 with fail
              rw [← hW2, ← hxb]
              clear hW2 hxb d0 d1 d2 d3 d4 d5 zb
              go_quiet (fail)
              go_wp2_with (at_builtin
                           refine wpList_append_A rfl (.tmp 48) (.tmp 51) 40 rfl i0 _ 1 Try.underlying40 hi hz0 hz1 hz2 rfl (A := Ao) (n := 0) (c := co) (xs := bools L) (fp := q) (by simp [Act.eval]) _ (by simp [Act.eval]) (.bool ou) (((HJ.out.1.drewN _).alloc _)) (cell_new_one _ _ _) rfl (by omega) (by omega) ?_
                           intro g off' c' w4 e1 e2 e3 e4
                           have HQ := Lib.hid (And.intro e1 (And.intro e2 e4))
                           clear e1 e2 e3 e4)
              rw [← eAl]
              go_roundg (gk - 1)
              case measure => omega
              case rel =>
                obtain ⟨h1, h2, h3, h4, h5, h6, h7, h8, h9⟩ := HJ.out
                obtain ⟨e1, e2, e4⟩ := HQ.out
                rw [if_pos trivial] at h5
                have hll : (outsN c.l (k : Int) (j + 1)).length = 0 + 1 := by rw [h5, List.length_append, ← h8]; rfl
                refine ⟨j + 1, some ⟨g, off', none⟩, c', [g], by omega, by go_num, by rw [hll], by rw [hll, h5]; simpa [bools] using e1, ?_, ((h3.drewN _).alloc _).trans e4 (fun y hy => .inr (h2 y hy)), ?_⟩
                · intro y hy
                  rw [List.mem_singleton.1 hy]
                  rcases e2 with e2 | e2
                  · exact h2 _ e2
                  · have := h3.size; simp at e2; omega
                · rw [h5, turnsL_snoc, h4, ← h8]
                  simp
          · have hbb : (be != (k : Int)) = true := by simp [hbe]
            go_wp2_with fail
            rw [← eAl]
            go_roundg (gk - 1)
            case measure => omega
            case rel =>
              obtain ⟨h1, h2, h3, h4, h5, h6, h7, h8, h9⟩ := HJ.out
              rw [if_neg hbe, List.append_nil] at h5
              rw [← hW2]
              exact ⟨j + 1, Ao, co, q, by omega, by go_num, by rw [h5, h8], by rw [h5, ← h8]; exact h1, h2, h3, by rw [h5]; exact h4⟩
        · obtain rfl : j = c.l.calls.length := by omega
          rw [outsN_all] at hown hT
          obtain ⟨n, hn⟩ : ∃ n, n = (outsOf c.l (k : Int)).length := ⟨_, rfl⟩
          have hl := outsN_len c.l (k : Int) c.l.calls.length
          rw [outsN_all, ← hn] at hl
          rw [outsN_all, ← hn]
          have hB : turnsB c.l (k : Int) = decide (n % 2 = 0) := by unfold turnsB; rw [hT, hn]; rfl
          have hno : n % 2 = 1 → turns c.p c.l = false := fun h => turns_no hlt (by rw [hB]; exact decide_eq_false (by omega))
          have HJ := Lib.hid (And.intro hKi (And.intro hB hno))
          clear hown hq hKi hT hB hno
          by_cases ho : n % 2 = 1
          · have e : (((n : Int).tmod 2) == 1) = true := by rw [beq_iff_eq, Int.tmod_eq_emod_of_nonneg (by omega)]; omega
            go_wp2_with fail
            go_ret
            exact ⟨by rw [HJ.out.2.2 ho]; rfl, (HI.out.2.trans HJ.out.1 (by simp)).below (Nat.le_refl _) (by simp)⟩
          · have e : (((n : Int).tmod 2) == 1) = false := by rw [beq_eq_false_iff_ne, Int.tmod_eq_emod_of_nonneg (by omega)]; omega
            go_wp2_with fail
            go_roundg (gb - 1)
            case measure => omega
            case rel => exact ⟨k + 1, by omega, by go_num, by rw [turnsN, HI.out.1, HJ.out.2.1, decide_eq_true (by omega)]; rfl, HI.out.2.trans HJ.out.1 (by simp)⟩
    · obtain rfl : k = c.p.bts.length := by omega
      have HF := Lib.hid (And.intro hok hK)
      clear hok hK
      go_wp2_with fail
      go_ret
      exact ⟨by rw [show turns c.p c.l = true from HF.out.1]; rfl, HF.out.2.below (Nat.le_refl _) (by simp)⟩
end Go.Proofs.Ythmldeningpjbaa
/- Map.rounds -/
namespace Go.Proofs.Ythmldeningpjbaa
open Go Go.RowKit Sp Pt
set_option linter.unusedVariables false
set_option linter.unusedSimpArgs false

set_option maxRecDepth 100000 in
set_option maxHeartbeats 4000000 in
theorem rounds_any (m : Mp) (w : World) (ha : -1000000000000 ≤ m.add ∧ m.add ≤ 1000000000000) (hf : -1000000000000 ≤ m.floor ∧ m.floor ≤ 1000000000000) (hm : -1000000000000 ≤ m.most ∧ m.most ≤ 1000000000000) :
    Calls Try.prog 71 #[mpV m] w fun e w' => e = .returned (.int .i64 (rounds m)) ∧ Below w.heap.size w w' := by
  obtain ⟨ad, fl, mo⟩ := m
  simp only at ha hf hm
  obtain ⟨W, hW⟩ : ∃ W, W = w.alloc (.cells #[.int .i64 ad, .int .i64 fl, .int .i64 mo] 59) := ⟨_, rfl⟩
  obtain ⟨mb, hmb⟩ : ∃ b, b = w.heap.size := ⟨_, rfl⟩
  have hh : W.heap[mb]? = some (.cells #[.int .i64 ad, .int .i64 fl, .int .i64 mo] 59 (0, 0)) := by rw [hW, hmb]; exact heap_alloc_new _ _
  have c0 : W.cell? ⟨mb, 0, none⟩ = some (.int .i64 ad) := (cell_of_heap hh 0).trans rfl
  have c1 : W.cell? ⟨mb, 1, none⟩ = some (.int .i64 fl) := (cell_of_heap hh 1).trans rfl
  have c2 : W.cell? ⟨mb, 2, none⟩ = some (.int .i64 mo) := (cell_of_heap hh 2).trans rfl
  have zm := heap_lt hh
  have b0 : Below w.heap.size w W := by rw [hW]; exact (Below.refl _ _).alloc (Nat.le_refl _) _
  have H := Lib.hid b0
  clear hh b0
  simp only [mpV]
  go_enter Try.func71, Try.ntmps71
  go_upto_region 1 with fail
  rw [← hW, ← hmb]
  clear hW hmb
  go_upto_region 2 with fail
  generalize hfi : (if ad < fl then fl else ad) = fi
  have hfi' : fi = max ad fl := by rw [← hfi]; simp only [Int.max_def]; split <;> split <;> omega
  have hfb : -1000000000000 ≤ fi ∧ fi ≤ 1000000000000 := by rw [hfi']; omega
  have hR : rounds ⟨ad, fl, mo⟩ = if mo = NL ∨ (ad ≤ 0 ∧ fi ≤ mo) then -1 else if mo < 0 then 0 else if mo < fi then 1 else 2 + (mo - fi).tdiv ad := by rw [hfi']; rfl
  clear hfi hfi'
  have HR := Lib.hid hR
  clear hR
  by_cases e1 : mo = 1000000000
  · subst e1
    go_wp2_with fail
    go_ret
    exact ⟨by rw [HR.out, if_pos (.inl trivial)]; rfl, H.out⟩
  have e1b : (mo == 1000000000) = false := by simpa using e1
  by_cases e2 : ad ≤ 0
  · by_cases e3 : fi ≤ mo
    · go_wp2_with fail
      go_ret
      exact ⟨by rw [HR.out, if_pos (.inr ⟨e2, e3⟩)]; rfl, H.out⟩
    · by_cases e4 : mo < 0
      · go_wp2_with fail
        go_ret
        exact ⟨by rw [HR.out, if_neg (by simp only [NL]; omega), if_pos e4]; rfl, H.out⟩
      · have e5 : mo < fi := by omega
        go_wp2_with fail
        go_ret
        exact ⟨by rw [HR.out, if_neg (by simp only [NL]; omega), if_neg (show ¬ mo < 0 by omega), if_pos e5]; rfl, H.out⟩
  · by_cases e4 : mo < 0
    · go_wp2_with fail
      go_ret
      exact ⟨by rw [HR.out, if_neg (by simp only [NL]; omega), if_pos e4]; rfl, H.out⟩
    · by_cases e5 : mo < fi
      · go_wp2_with fail
        go_ret
        exact ⟨by rw [HR.out, if_neg (by simp only [NL]; omega), if_neg (show ¬ mo < 0 by omega), if_pos e5]; rfl, H.out⟩
      · have t1 : 0 ≤ (mo - fi).tdiv ad ∧ (mo - fi).tdiv ad ≤ 2000000000000 := by
          rw [Int.tdiv_eq_ediv_of_nonneg (by omega)]
          exact ⟨Int.ediv_nonneg (by omega) (by omega), Int.le_trans (Int.ediv_le_self _ (by omega)) (by omega)⟩
        have e6 : (ad == 0) = false := by rw [beq_eq_false_iff_ne]; omega
        go_wp2_with fail
        go_ret
        exact ⟨by rw [HR.out, if_neg (by simp only [NL]; omega), if_neg (show ¬ mo < 0 by omega), if_neg (show ¬ mo < fi by omega)]; rfl, H.out⟩
end Go.Proofs.Ythmldeningpjbaa
/- port.Stays -/
namespace Go.Proofs.Ythmldeningpjbaa.Pt
open Sp
theorem folds_length (p : Prt) (l : Pln) : (folds p l).length = p.chs.length := by simp [folds]
theorem folds_at {p : Prt} {l : Pln} {k : Nat} (hk : k < p.chs.length) : (folds p l)[k]'(by rw [folds_length]; exact hk) = foldS p l k := by simp [folds]
theorem stays_bad {p : Prt} {l : Pln} {k : Nat} (hk : k < p.chs.length) (h : staysBad (foldS p l k) = true) : (folds p l).any staysBad = true :=
  List.any_eq_true.2 ⟨foldS p l k, by rw [← folds_at hk]; exact List.getElem_mem _, h⟩
theorem stays_ok {p : Prt} {l : Pln} (h : ∀ k, k < p.chs.length → staysBad (foldS p l k) = false) : (folds p l).any staysBad = false := by
  cases q : (folds p l).any staysBad with
  | false => rfl
  | true =>
    obtain ⟨m, hm, hb⟩ := List.any_eq_true.1 q
    obtain ⟨k, hk, rfl⟩ := List.mem_iff_getElem.1 hm
    have hk' : k < p.chs.length := by rw [folds_length] at hk; exact hk
    rw [folds_at hk', h k hk'] at hb; cases hb
theorem folds_most {p : Prt} {l : Pln} {k : Nat} (hk : k < p.chs.length) : ((folds p l).map (·.most)).take (k + 1) = ((folds p l).map (·.most)).take k ++ [(foldS p l k).most] := by
  have h : k < ((folds p l).map (·.most)).length := by rw [List.length_map, folds_length]; exact hk
  rw [List.take_succ_eq_append_getElem h, List.getElem_map, folds_at hk]
end Go.Proofs.Ythmldeningpjbaa.Pt
namespace Go.Proofs.Ythmldeningpjbaa
open Go Go.RowKit Sp Pt
set_option linter.unusedVariables false
set_option linter.unusedSimpArgs false

def StaysPost (w : World) (p : Prt) (l : Pln) (e : Ending) (w' : World) : Prop :=
  ∃ A c q, e = .returned (.tuple #[.slice A (staysV p l).length c, .int .i64 (staysE p l)]) ∧ OwnA w' 3 A (staysV p l).length c (ints (staysV p l)) q ∧ (∀ g ∈ q, w.heap.size ≤ g) ∧ Below w.heap.size w w'
theorem stays_no {w w' : World} {p : Prt} {l : Pln} {er : Int} (he : staysE p l = er) (h0 : er ≠ 0) (b : Below w.heap.size w w') : StaysPost w p l (.returned (.tuple #[.slice none 0 0, .int .i64 er])) w' := by
  have e : staysV p l = [] := by unfold staysV; rw [if_neg (by rw [he]; exact h0)]
  exact ⟨none, 0, [], by rw [e, he]; rfl, by rw [e]; exact OwnA.nil _ _, by simp, b⟩

set_option maxRecDepth 100000 in
set_option maxHeartbeats 4000000 in
theorem Stays_any (D : Nat) (Ac : Option Addr) (cc : Nat) (Ab : Option Addr) (cb : Nat) (p : Prt) (Al : Option Addr) (cl : Nat) (As : Option Addr) (cs : Nat) (l : Pln) (w : World)
    (PB : PrtB D w Ac cc Ab cb p) (LB : PlnB D w Al cl As cs l) (hD : D ≤ w.heap.size) :
    Calls Try.prog 14 #[.agg (prtV Ac cc Ab cb p), .agg (plnV Al cl As cs l)] w (StaysPost w p l) := by
  obtain ⟨i0, hi, hz0, hz1, hz2⟩ := info_parts info_intP
  obtain ⟨W, hW⟩ : ∃ W, W = (w.alloc (.cells (prtV Ac cc Ab cb p) 26)).alloc (.cells (plnV Al cl As cs l) 31) := ⟨_, rfl⟩
  obtain ⟨pb, hpb⟩ : ∃ b, b = w.heap.size := ⟨_, rfl⟩
  obtain ⟨lb, hlb⟩ : ∃ b, b = w.heap.size + 1 := ⟨_, rfl⟩
  obtain ⟨b1, hp, hl, kck, PB1, LB1⟩ := boxes2 PB LB hD hW hpb hlb
  have hD1 : D ≤ W.heap.size := by have := b1.size; omega
  obtain ⟨er, her⟩ : ∃ er, er = checkL p l := ⟨_, rfl⟩
  rw [← her] at kck
  have c0 : W.cell? ⟨pb, 0, none⟩ = some (.slice Ac p.chs.length cc) := (cell_of_heap hp 0).trans rfl
  have c1 : W.cell? ⟨pb, 1, none⟩ = some (.slice Ab p.bts.length cb) := (cell_of_heap hp 1).trans rfl
  have c2 : W.cell? ⟨pb, 2, none⟩ = some (.int .i64 p.tugs) := (cell_of_heap hp 2).trans rfl
  have c3 : W.cell? ⟨lb, 0, none⟩ = some (.int .i64 l.hours) := (cell_of_heap hl 0).trans rfl
  have c4 : W.cell? ⟨lb, 1, none⟩ = some (.slice Al l.calls.length cl) := (cell_of_heap hl 1).trans rfl
  have c5 : W.cell? ⟨lb, 2, none⟩ = some (.slice As l.swps.length cs) := (cell_of_heap hl 2).trans rfl
  have zp := heap_lt hp
  have zl := heap_lt hl
  have H := Lib.hid (And.intro b1 (And.intro hp (And.intro hl (And.intro PB1 (And.intro LB1 (And.intro her kck))))))
  clear b1 hp hl PB LB PB1 LB1 kck her
  go_enter Try.func14, Try.ntmps14
  go_upto_region 1 with fail
  rw [← hW, ← hlb, ← hpb]
  clear hW hlb hpb
  by_cases h0 : er = 0
  · subst h0
    go_upto_region 4 with (go_at_call 52; refine H.out.2.2.2.2.2.2.mono ?_; rintro e w1 ⟨rfl, b1⟩; have B1 := Lib.hid b1; clear b1)
    have hck : checkL p l = 0 := H.out.2.2.2.2.2.1.symm
    have v := val_of hck
    have bw1 : Below w.heap.size w w1 := H.out.1.trans (B1.out.mono H.out.1.size)
    have hp1 := (B1.out.block _ (heap_lt H.out.2.1)).trans H.out.2.1
    have hl1 := (B1.out.block _ (heap_lt H.out.2.2.1)).trans H.out.2.2.1
    have hD2 : D ≤ w1.heap.size := by have := bw1.size; omega
    have E := wce_new hp1 hl1 (H.out.2.2.2.1.below (B1.out.mono hD1)) (H.out.2.2.2.2.1.below (B1.out.mono hD1)) hD2 w1.heap.size rfl
    obtain ⟨W2, hW2⟩ : ∃ W2, W2 = w1.alloc (.cells #[.pointer (some ⟨pb, 0, none⟩), .pointer (some ⟨lb, 0, none⟩), .slice none 0 0, .slice none 0 0] 149) := ⟨_, rfl⟩
    obtain ⟨wb, hwb⟩ : ∃ b, b = w1.heap.size := ⟨_, rfl⟩
    have bw2 : Below w.heap.size w W2 := by rw [hW2]; exact bw1.alloc bw1.size _
    rw [← hW2, ← hwb] at E
    have hn := v.nc
    have ktu := turns_any ⟨_, _, E⟩ v
    simp only at ktu
    obtain ⟨tu, htu⟩ : ∃ tu, tu = turns p l := ⟨_, rfl⟩
    rw [← htu] at ktu
    have HF := Lib.hid (And.intro bw2 (And.intro E (And.intro v (And.intro hck (And.intro ktu htu)))))
    have hzs : W2.heap.size = wb + 1 := by rw [hW2, hwb]; simp
    have hpl : pb < wb ∧ lb < wb := by rw [hwb]; exact ⟨heap_lt hp1, heap_lt hl1⟩
    have hc2 : W2.cell? ⟨pb, 0, none⟩ = some (.slice Ac p.chs.length cc) := by rw [hW2]; exact (cell_of_heap (heap_alloc' hp1 _) 0).trans rfl
    clear c0 c1 c2 c3 c4 c5 zp zl bw1 bw2 E v hck ktu hp1 hl1 htu B1
    cases tu
    · go_upto_region 5 with fail
      rw [← hW2, ← hwb]
      clear hW2 hwb
      go_wp2_with (go_at_call 67; refine HF.out.2.2.2.2.1.mono ?_; rintro e w3 ⟨rfl, b3⟩)
      go_ret2
      refine stays_no ?_ (by decide) (HF.out.1.trans (b3.mono HF.out.1.size))
      unfold staysE
      rw [if_neg (by rw [HF.out.2.2.2.1]; decide), if_pos HF.out.2.2.2.2.2.symm]
    · go_upto_region 5 with fail
      rw [← hW2, ← hwb]
      clear hW2 hwb
      go_upto_region 7 with (go_at_call 67; refine HF.out.2.2.2.2.1.mono ?_; rintro e w3 ⟨rfl, b3⟩; have B3 := Lib.hid b3; clear b3)
      have hc3 := (B3.out.cell (p := ⟨pb, 0, none⟩) (show pb < W2.heap.size by omega)).trans hc2
      have zp3 : pb < w3.heap.size := by have := B3.out.size; omega
      have E3 := HF.out.2.1.below B3.out
      have hz3 := B3.out.size
      have b3 := HF.out.1.trans (B3.out.mono HF.out.1.size)
      have HG := Lib.hid (And.intro E3 b3)
      clear E3 hc2 b3
      go_wp2_with fail
      go_loopg [8, 25] (p.chs.length) (fun g o i wr => ∃ (k : Nat) (Ao : Option Addr) (co : Nat) (q : List Nat), g + k = p.chs.length ∧ i = .int .i64 k ∧ o = .slice Ao k co ∧ OwnA wr 3 Ao k co (ints (((folds p l).map (·.most)).take k)) q ∧ (∀ g ∈ q, w3.heap.size ≤ g) ∧ Keep [] w3 wr ∧ ∀ j, j < k → staysBad (foldS p l j) = false)
      case atStart => exact ⟨0, none, 0, [], rfl, rfl, rfl, OwnA.nil _ _, by simp, Keep.refl _ _, by omega⟩
      case round =>
        obtain ⟨k, Ao, co, q, hk, rfl, rfl, hown, hq, hK, hgood⟩ := hrel
        by_cases hlt : k < p.chs.length
        · have hBw := hK.below (Nat.le_refl w3.heap.size) (by simp)
          have hzr := hK.size
          have kf := fold_any (w := wr) (k := k) ⟨_, _, HG.out.1.below hBw⟩ (by simp only; omega) HF.out.2.2.1 hlt
          dsimp only at kf
          obtain ⟨m, hm⟩ : ∃ m, m = foldS p l k := ⟨_, rfl⟩
          have hj := foldS_jm HF.out.2.2.1 (c := (k : Int)) (by omega) (by omega)
          rw [← hm] at kf hj
          obtain ⟨ad, fl, mo⟩ := m
          have HI := Lib.hid (And.intro hown (And.intro hq (And.intro hK (And.intro hgood (And.intro hm kf)))))
          have hb : staysBad ⟨ad, fl, mo⟩ = (decide (mo ≠ 1000000000) && (decide (0 < ad) || decide (mo < fl))) := rfl
          have HB := Lib.hid hb
          clear hown hq hK hgood hm kf hBw hj hb
          go_upto_region 12 with (go_at_call 68; refine HI.out.2.2.2.2.2.mono ?_; rintro e w4 ⟨rfl, b4⟩; have B4 := Lib.hid b4; clear b4)
          obtain ⟨W5, hW5⟩ : ∃ W5, W5 = w4.alloc (.cells #[.int .i64 ad, .int .i64 fl, .int .i64 mo] 59) := ⟨_, rfl⟩
          obtain ⟨mb, hmb⟩ : ∃ b, b = w4.heap.size := ⟨_, rfl⟩
          have hh : W5.heap[mb]? = some (.cells #[.int .i64 ad, .int .i64 fl, .int .i64 mo] 59 (0, 0)) := by rw [hW5, hmb]; exact heap_alloc_new _ _
          have c0 : W5.cell? ⟨mb, 0, none⟩ = some (.int .i64 ad) := (cell_of_heap hh 0).trans rfl
          have c1 : W5.cell? ⟨mb, 1, none⟩ = some (.int .i64 fl) := (cell_of_heap hh 1).trans rfl
          have c2 : W5.cell? ⟨mb, 2, none⟩ = some (.int .i64 mo) := (cell_of_heap hh 2).trans rfl
          have zm := heap_lt hh
          have k5 : Keep [] wr W5 := by rw [hW5]; exact (Keep.of_below B4.out).alloc _
          have H5 := Lib.hid (And.intro (HI.out.1.keepS k5 (by simp)) (And.intro k5 k5.size))
          rw [← hW5, ← hmb]
          clear hW5 hmb hh k5
          by_cases e1 : mo = 1000000000
          · have e1b : (mo != 1000000000) = false := by simpa using e1
            have HE1 := Lib.hid e1
            clear e1
            go_wp2_with (at_builtin
                         refine wpList_append_A rfl (.tmp 46) (.tmp 49) 33 rfl i0 _ 8 Try.underlying33 hi hz0 hz1 hz2 rfl (A := Ao) (n := k) (c := co) (xs := ints (((folds p l).map (·.most)).take k)) (fp := q) (by simp [Act.eval]) _ (by simp [Act.eval]) (.int .i64 mo) (H5.out.1.alloc _) (cell_new_one _ _ _) rfl (by omega) (by omega) ?_
                         intro g off' c' w6 e1 e2 e3 e4
                         have HQ := Lib.hid (And.intro e1 (And.intro e2 e4))
                         clear e1 e2 e3 e4)
            go_roundg (gk - 1)
            case measure => omega
            case rel =>
              obtain ⟨h1, h2, h3, h4, h5, h6⟩ := HI.out
              obtain ⟨f1, f2, f4⟩ := HQ.out
              have hmo : (foldS p l (k : Int)).most = mo := by rw [← h5]
              refine ⟨k + 1, some ⟨g, off', none⟩, c', [g], by omega, by go_num, rfl, by rw [folds_most hlt, hmo]; simpa [ints] using f1, ?_, ((h3.trans H5.out.2.1 (by simp)).alloc _).trans f4 (fun y hy => .inr (h2 y hy)), ?_⟩
              · intro y hy
                rw [List.mem_singleton.1 hy]
                rcases f2 with f2 | f2
                · exact h2 _ f2
                · have := h3.size; have := H5.out.2.1.size; simp at f2; omega
              · intro j hj
                by_cases ej : j = k
                · subst ej; rw [← h5, HB.out, HE1.out]; simp
                · exact h4 j (by omega)
          · have e1b : (mo != 1000000000) = true := by simpa using e1
            by_cases e2 : 0 < ad
            · go_wp2_with fail
              go_ret2
              refine stays_no ?_ (by decide) (HG.out.2.trans ((HI.out.2.2.1.trans H5.out.2.1 (by simp)).below HG.out.2.size (by simp)))
              unfold staysE
              rw [if_neg (by rw [HF.out.2.2.2.1]; decide), if_neg (by rw [← HF.out.2.2.2.2.2]; decide), if_pos (stays_bad hlt (by rw [← HI.out.2.2.2.2.1, HB.out]; simp; omega))]
            · by_cases e3 : mo < fl
              · go_wp2_with fail
                go_ret2
                refine stays_no ?_ (by decide) (HG.out.2.trans ((HI.out.2.2.1.trans H5.out.2.1 (by simp)).below HG.out.2.size (by simp)))
                unfold staysE
                rw [if_neg (by rw [HF.out.2.2.2.1]; decide), if_neg (by rw [← HF.out.2.2.2.2.2]; decide), if_pos (stays_bad hlt (by rw [← HI.out.2.2.2.2.1, HB.out]; simp; omega))]
              · go_wp2_with (at_builtin
                             refine wpList_append_A rfl (.tmp 46) (.tmp 49) 33 rfl i0 _ 8 Try.underlying33 hi hz0 hz1 hz2 rfl (A := Ao) (n := k) (c := co) (xs := ints (((folds p l).map (·.most)).take k)) (fp := q) (by simp [Act.eval]) _ (by simp [Act.eval]) (.int .i64 mo) (H5.out.1.alloc _) (cell_new_one _ _ _) rfl (by omega) (by omega) ?_
                             intro g off' c' w6 e1 e2 e3 e4
                             have HQ := Lib.hid (And.intro e1 (And.intro e2 e4))
                             clear e1 e2 e3 e4)
                go_roundg (gk - 1)
                case measure => omega
                case rel =>
                  obtain ⟨h1, h2, h3, h4, h5, h6⟩ := HI.out
                  obtain ⟨f1, f2, f4⟩ := HQ.out
                  have hmo : (foldS p l (k : Int)).most = mo := by rw [← h5]
                  refine ⟨k + 1, some ⟨g, off', none⟩, c', [g], by omega, by go_num, rfl, by rw [folds_most hlt, hmo]; simpa [ints] using f1, ?_, ((h3.trans H5.out.2.1 (by simp)).alloc _).trans f4 (fun y hy => .inr (h2 y hy)), ?_⟩
                  · intro y hy
                    rw [List.mem_singleton.1 hy]
                    rcases f2 with f2 | f2
                    · exact h2 _ f2
                    · have := h3.size; have := H5.out.2.1.size; simp at f2; omega
                  · intro j hj
                    by_cases ej : j = k
                    · subst ej; rw [← h5, HB.out]; simp; omega
                    · exact h4 j (by omega)
        · obtain rfl : k = p.chs.length := by omega
          have HL := Lib.hid (And.intro hown (And.intro hq (And.intro hK hgood)))
          clear hown hq hK hgood
          go_wp2_with fail
          go_ret2
          have e0 : staysE p l = 0 := by
            unfold staysE
            rw [if_neg (by rw [HF.out.2.2.2.1]; decide), if_neg (by rw [← HF.out.2.2.2.2.2]; decide), if_neg (by rw [stays_ok HL.out.2.2.2]; decide)]
          have ev : staysV p l = ((folds p l).map (·.most)).take p.chs.length := by
            unfold staysV
            rw [if_pos e0, List.take_of_length_le (by rw [List.length_map, folds_length]; omega)]
          have el : (staysV p l).length = p.chs.length := by rw [ev, List.length_take, List.length_map, folds_length]; omega
          have hb := HG.out.2.trans (HL.out.2.2.1.below HG.out.2.size (by simp))
          exact ⟨Ao, co, q, by rw [el, e0]; rfl, by rw [el, ev]; exact HL.out.1, fun g hg => Nat.le_trans HG.out.2.size (HL.out.2.1 g hg), hb⟩
  · have hnb : (er != 0) = true := by simp [h0]
    have HC := Lib.hid h0
    clear h0
    go_wp2_with (go_at_call 52; refine H.out.2.2.2.2.2.2.mono ?_; rintro e w2 ⟨rfl, b2⟩)
    go_ret2
    refine stays_no ?_ HC.out (H.out.1.trans (b2.mono H.out.1.size))
    unfold staysE
    rw [if_pos (by rw [← H.out.2.2.2.2.2.1]; exact HC.out), H.out.2.2.2.2.2.1]
end Go.Proofs.Ythmldeningpjbaa
