/- A port at work: sweep, frost (printed by wip/tools/ptwork.py) -/
import Derived.Test.YthmldeningpjbaaPBp12
set_option linter.unusedVariables false
set_option linter.unusedSimpArgs false
namespace Go.Proofs.Ythmldeningpjbaa
open Go Go.RowKit Sp Pt
set_option linter.unusedVariables false
set_option linter.unusedSimpArgs false

theorem brR_set {B : Int} {b : List Int} {k x : Int} (h : brR B b) (hk : 0 ≤ k) (hx : -B ≤ x ∧ x ≤ B) : brR B (setI b k x) := getI_setI_bd hk h hx
theorem swp1_bd {B : Int} {p : Prt} {h : Int} {b : List Int} {s : Swp} (hb : brR B b) (hs : 0 ≤ s.channel ∧ 0 ≤ s.tugs) (hc : 0 ≤ (ch p s.channel).clear) : brR B (swp1 p h b s) := by
  unfold swp1
  split
  · refine brR_set hb hs.1 ?_
    have := hb s.channel
    have := Int.mul_nonneg hs.2 hc
    omega
  · exact hb
theorem swpN_bd {B : Int} {p : Prt} {h : Int} {l : List Swp} (hs : ∀ s ∈ l, 0 ≤ s.channel ∧ s.channel < p.chs.length ∧ 0 ≤ s.tugs) (hc : ∀ x ∈ p.chs, 0 ≤ x.clear) : ∀ {b : List Int}, brR B b → brR B (swpN p h l b) := by
  induction l with
  | nil => intro b hb; exact hb
  | cons s l ih =>
    intro b hb
    have h1 := hs s (by simp)
    exact ih (fun x hx => hs x (by simp [hx])) (swp1_bd hb ⟨h1.1, h1.2.2⟩ (hc _ (ch_mem h1.1 h1.2.1)))

set_option maxRecDepth 100000 in
set_option maxHeartbeats 1000000 in
theorem sweep_any {c : WC} {W w : World} {s : Stt} {h : Int} (E : WcE c W (brV c) (buV c)) (N : WcN c) (S : WkS c W w s) (v : Val c.p c.l) (hbr : brR 100000000000 s.brash) :
    Calls Try.prog 123 #[.pointer (some ⟨c.wb, 0, none⟩), .int .i64 h] w fun e w' => e = .returned (.tuple #[]) ∧ WkS c W w' ⟨swpN c.p h c.l.swps s.brash, s.busy⟩ := by
  obtain ⟨L, hL⟩ : ∃ L, L = c.l.swps.length := ⟨_, rfl⟩
  have Er := E.at N S
  obtain ⟨_, q1, _, _, _, _, _, _, q2, z1, _, z2⟩ := Er.cells
  rw [← hL] at q2
  have hL2 : L ≤ 200 := by have := v.nx; omega
  have H := Lib.hid (And.intro E (And.intro N (And.intro S (And.intro v (And.intro hbr hL)))))
  clear E N S Er hbr hL
  go_enter Try.func123, Try.ntmps123
  go_wp2_with fail
  go_loopw [14] (fun i wr => ∃ k : Nat, k ≤ L ∧ i = .int .i64 k ∧ WkS c W wr ⟨swpN c.p h (c.l.swps.take k) s.brash, s.busy⟩) (fun i _ => L - (intOf i).toNat)
  case atStart => exact ⟨0, Nat.zero_le _, rfl, H.out.2.2.1⟩
  case round =>
    obtain ⟨k, hk, rfl, hS⟩ := hrel
    by_cases hlt : k < L
    · have hkl : k < c.l.swps.length := by have := H.out.2.2.2.2.2; omega
      have hm : c.l.swps.getD k default ∈ c.l.swps := by rw [List.getD_eq_getElem?_getD, List.getElem?_eq_getElem hkl]; exact List.getElem_mem hkl
      have hs := H.out.2.2.2.1.sw _ hm
      have hb := swpN_bd (p := c.p) (h := h) (l := c.l.swps.take k) (fun x hx => by have := H.out.2.2.2.1.sw x (List.mem_of_mem_take hx); omega) (fun x hx => by have := H.out.2.2.2.1.chf x hx; omega) H.out.2.2.2.2.1
      refine swR H.out.1 H.out.2.1 hS H.out.2.2.2.2.2.symm hlt (by omega) (by omega) (fun x hx => by have := H.out.2.2.2.1.chf x hx; omega) (by have := H.out.2.2.2.1.nc; omega) hb ?_
      intro _ _ _ _ _ _ _ _ _ _ _ _ _ _ _ _ _ _ _ _ _ _ _ _ _ _ _ _ _ _ _ _ _ _ _ _ _ _ _ _ _ w' hr
      refine ⟨?_, by simp [intOf]; omega⟩
      repeat apply Exists.intro
      refine ⟨?_, rfl⟩
      refine ⟨k + 1, by omega, by go_num, ?_⟩
      have e0 : (c.l.swps.take (k + 1)) = c.l.swps.take k ++ [c.l.swps.getD k default] := by rw [List.take_succ_eq_append_getElem hkl, List.getD_eq_getElem?_getD, List.getElem?_eq_getElem hkl]; rfl
      rw [e0, swpN, List.foldl_append]
      exact hr
    · obtain rfl : k = L := by omega
      have hf : WkS c W wr ⟨swpN c.p h c.l.swps s.brash, s.busy⟩ := by rw [H.out.2.2.2.2.2, List.take_length] at hS; exact hS
      have HF := Lib.hid hf
      clear hf hS
      go_wp2_with fail
      go_end0
      exact ⟨rfl, HF.out⟩

set_option linter.unusedVariables false
def FrV (W0 : World) (wb xb gb n c1 k : Nat) (x fr : Int) : Nat → Value → Prop
  | 0, v => v = .pointer (some ⟨wb, 0, none⟩)
  | 1, v => v = .pointer (some ⟨wb, 0, none⟩)
  | 2, v => v = .pointer (some ⟨wb, 2, none⟩)
  | 3, v => v = .slice (some ⟨gb, 0, none⟩) n c1
  | 4, v => v = .int .i64 k
  | 5, v => v = .pointer (some ⟨gb, k, none⟩)
  | 6, v => v = .int .i64 x
  | 7, v => v = .pointer (some ⟨xb, 1, none⟩)
  | 8, v => v = .int .i64 fr
  | 9, v => v = .int .i64 (x + fr)
  | 10, v => v = .pointer (some ⟨gb, k, none⟩)
  | _, _ => True
def FrW (W0 : World) (wb xb gb n c1 k : Nat) (x fr : Int) (l : Nat → Bool) (w : World) : Prop := if l 11 then w = (W0.setCell ⟨gb, k, none⟩ (.int .i64 (x + fr))).drew else w = W0.drew
set_option maxRecDepth 100000 in
set_option maxHeartbeats 4000000 in
theorem frR {c : WC} {W0 wr : World} {k : Nat} {s : Stt} (E : WcE c W0 (brV c) (buV c)) (N : WcN c) (S : WkS c W0 wr s) (hk : k < c.p.chs.length) (hfr : ∀ x ∈ c.p.chs, 0 ≤ x.frost ∧ x.frost ≤ 20) (hcn : c.p.chs.length ≤ 1000) (hbr : brR 100000000000 s.brash) {s1 s2 s3 s4 s5 s6 s7 s8 s9 s13 s14 s15 s16 s17 s18 s19 s20 s21 s22 s23 s24 s25 s26 s27 s28 : Value} {Q0 : Exit → Act → World → Prop} {Inv : Act → World → Prop}
    (hInv : ∀ (t2 t3 t13 t14 t15 t16 t17 t18 t19 t20 t21 t22 t23 t24 t25 t26 t27 t28 : Value)  (w' : World), WkS c W0 w' ⟨setI s.brash k (getI s.brash k + (ch c.p k).frost), s.busy⟩ → Inv ⟨#[.pointer (some ⟨c.wb, 0, none⟩), s1, t2, t3, s4, s5, s6, s7, s8, s9, .slice c.Ac c.p.chs.length c.cc, .int .i64 c.p.chs.length, .int .i64 ((k + 1 : Nat) : Int), t13, t14, t15, t16, t17, t18, t19, t20, t21, t22, t23, t24, t25, t26, t27, t28], []⟩ w') :
    Code.wp Try.prog (loopBody Try.f125 0) (Exit.then Inv Q0) ⟨#[.pointer (some ⟨c.wb, 0, none⟩), s1, s2, s3, s4, s5, s6, s7, s8, s9, .slice c.Ac c.p.chs.length c.cc, .int .i64 c.p.chs.length, .int .i64 k, s13, s14, s15, s16, s17, s18, s19, s20, s21, s22, s23, s24, s25, s26, s27, s28], []⟩ wr := by
  conv => arg 2; whnf
  have Er := E.at N S
  obtain ⟨bc, oc, eAc, hbc, h0, h1, h2⟩ := chAt Er.PB hk
  have zc := World.block_lt_of_cell? _ _ h0
  have cbd := hfr _ (ch_mem (p := c.p) (i := (k : Int)) (by omega) (by omega))
  generalize ch c.p (k : Int) = y at *
  obtain ⟨gr, fr, cr⟩ := y
  simp only at h0 h1 h2 cbd
  obtain ⟨W2, hW2⟩ : ∃ W2, W2 = wr.alloc (.cells #[.int .i64 gr, .int .i64 fr, .int .i64 cr] 144) := ⟨_, rfl⟩
  obtain ⟨xb, hxb⟩ : ∃ xb, xb = wr.heap.size := ⟨_, rfl⟩
  have hxh : W2.heap[xb]? = some (.cells #[.int .i64 gr, .int .i64 fr, .int .i64 cr] 144 (0, 0)) := by rw [hW2, hxb]; exact heap_alloc_new _ _
  have S2 : WkS c W0 W2 s := by rw [hW2]; exact S.alloc _
  have E2 := E.at N S2
  obtain ⟨_, _, q2, _, _, _, _, _, _, z1, _, _⟩ := E2.cells
  have q4 := S2.brAt hk
  have q6 := (S2.br.one (A := none)).2.2 k
  have z3 := (S2.br.one (A := none)).1
  have x1 : W2.cell? ⟨xb, 1, none⟩ = some (.int .i64 fr) := (cell_of_heap hxh 1).trans rfl
  have zx := heap_lt hxh
  obtain ⟨x, hx⟩ : ∃ x, x = getI s.brash k := ⟨_, rfl⟩
  have hxr := hbr k
  rw [← hx] at q4 hxr
  rw [eAc] at hInv ⊢
  have HI := Lib.hid hInv
  have HS := Lib.hid (And.intro S2 hx)
  have k1 : (0 : Int) ≤ (k : Int) := by omega
  have k2 : (k : Int) < (c.p.chs.length : Int) := by omega
  clear hInv S S2 E Er E2 hxh hx hbr hfr eAc hbc
  go_upto_region 3 with fail
  rw [← hW2, ← hxb]
  clear hW2 hxb h0 h1 h2 zc
  refine wp_region_steps (σ := Unit) (by kernel_rfl) (by kernel_rfl) (fun _ jx vx _ => FrV W2 c.wb xb c.gb c.p.chs.length c.c1 k x fr jx vx) (fun _ ly wx => FrW W2 c.wb xb c.gb c.p.chs.length c.c1 k x fr ly wx) () ?_ ?_ ?_
  · exact (by unfold FrW; rw [if_neg (by simp)])
  · simp only [AllFrom, Nat.zero_add, Nat.reduceAdd]
    refine ⟨?_, ?_, ?_, ?_, ?_, ?_, ?_, ?_, ?_, ?_, ?_, ?_, trivial⟩
    · refine step_pure fun sg ly a wr hl hd hW hF => ?_
      have et0 := hF.old 0 (by kernel_rfl)
      simp [Act.eval] at et0
      exact ⟨by simpa [FrW, upd] using hW, .pointer (some ⟨c.wb, 0, none⟩), by go_simp, rfl⟩
    · refine step_pure fun sg ly a wr hl hd hW hF => ?_
      simp [Region.binds] at hd
      have et17 := hF.new 0 17 (by simp [hd]) rfl
      simp [FrV, Act.eval] at et17
      exact ⟨by simpa [FrW, upd] using hW, .pointer (some ⟨c.wb, 0, none⟩), by go_simp, rfl⟩
    · refine step_pure fun sg ly a wr hl hd hW hF => ?_
      simp [Region.binds] at hd
      have et18 := hF.new 1 18 (by simp [hd]) rfl
      simp [FrV, Act.eval] at et18
      exact ⟨by simpa [FrW, upd] using hW, .pointer (some ⟨c.wb, 2, none⟩), by go_simp, rfl⟩
    · refine step_pure fun sg ly a wr hl hd hW hF => ?_
      simp [Region.binds] at hd
      have et19 := hF.new 2 19 (by simp [hd]) rfl
      simp [FrV, Act.eval] at et19
      have nL_10 := hF.notYet 3 10 hl (by kernel_rfl)
      have nL := hF.notYet 10 11 nL_10 (by kernel_rfl)
      have hW' := hW
      unfold FrW at hW'
      rw [if_neg (by simp [nL])] at hW'
      subst hW'
      exact ⟨by unfold FrW; rw [if_neg (by simp [upd, nL])], _, by go_simp, rfl⟩
    · refine step_pure fun sg ly a wr hl hd hW hF => ?_
      have et2 := hF.old 2 (by kernel_rfl)
      simp [Act.eval] at et2
      exact ⟨by simpa [FrW, upd] using hW, .int .i64 k, by go_simp, rfl⟩
    · refine step_pure fun sg ly a wr hl hd hW hF => ?_
      simp [Region.binds] at hd
      have et20 := hF.new 3 20 (by simp [hd]) rfl
      simp [FrV, Act.eval] at et20
      have et21 := hF.new 4 21 (by simp [hd]) rfl
      simp [FrV, Act.eval] at et21
      exact ⟨by simpa [FrW, upd] using hW, .pointer (some ⟨c.gb, k, none⟩), by go_simp, rfl⟩
    · refine step_pure fun sg ly a wr hl hd hW hF => ?_
      simp [Region.binds] at hd
      have et22 := hF.new 5 22 (by simp [hd]) rfl
      simp [FrV, Act.eval] at et22
      have nL_9 := hF.notYet 6 9 hl (by kernel_rfl)
      have nL := hF.notYet 9 11 nL_9 (by kernel_rfl)
      have hW' := hW
      unfold FrW at hW'
      rw [if_neg (by simp [nL])] at hW'
      subst hW'
      exact ⟨by unfold FrW; rw [if_neg (by simp [upd, nL])], _, by go_simp, rfl⟩
    · refine step_pure fun sg ly a wr hl hd hW hF => ?_
      have et3 := hF.old 3 (by kernel_rfl)
      simp [Act.eval] at et3
      exact ⟨by simpa [FrW, upd] using hW, .pointer (some ⟨xb, 1, none⟩), by go_simp, rfl⟩
    · refine step_pure fun sg ly a wr hl hd hW hF => ?_
      simp [Region.binds] at hd
      have et24 := hF.new 7 24 (by simp [hd]) rfl
      simp [FrV, Act.eval] at et24
      have nL_9 := hF.notYet 8 9 hl (by kernel_rfl)
      have nL := hF.notYet 9 11 nL_9 (by kernel_rfl)
      have hW' := hW
      unfold FrW at hW'
      rw [if_neg (by simp [nL])] at hW'
      subst hW'
      exact ⟨by unfold FrW; rw [if_neg (by simp [upd, nL])], _, by go_simp, rfl⟩
    · refine step_pure fun sg ly a wr hl hd hW hF => ?_
      simp [Region.binds] at hd
      have et23 := hF.new 6 23 (by simp [hd]) rfl
      simp [FrV, Act.eval] at et23
      have et25 := hF.new 8 25 (by simp [hd]) rfl
      simp [FrV, Act.eval] at et25
      have ew := IntWalk.i64_in (x + fr) (by omega)
      exact ⟨by simpa [FrW, upd] using hW, .int .i64 (x + fr), by go_simp, rfl⟩
    · refine step_pure fun sg ly a wr hl hd hW hF => ?_
      simp [Region.binds] at hd
      have et20 := hF.new 3 20 (by simp [hd]) rfl
      simp [FrV, Act.eval] at et20
      have et21 := hF.new 4 21 (by simp [hd]) rfl
      simp [FrV, Act.eval] at et21
      exact ⟨by simpa [FrW, upd] using hW, .pointer (some ⟨c.gb, k, none⟩), by go_simp, rfl⟩
    · refine step_store rfl fun sg ly a wr hl hd hW hF => ?_
      simp [Region.binds] at hd
      have et27 := hF.new 10 27 (by simp [hd]) rfl
      simp [FrV, Act.eval] at et27
      have et26 := hF.new 9 26 (by simp [hd]) rfl
      simp [FrV, Act.eval] at et26
      have hW' := hW
      unfold FrW at hW'
      rw [if_neg (by simp [hl])] at hW'
      subst hW'
      refine ⟨(W2.setCell ⟨c.gb, k, none⟩ (.int .i64 (x + fr))).drew, (), .skip, by go_simp, .inl rfl, by unfold FrW; rw [if_pos (by simp [upd])], fun _ _ _ h => h⟩
  intro _ a w3 hWW hF
  obtain ⟨f3, hf3, rfl⟩ := hF.lit
  have hw3 : w3 = (W2.setCell ⟨c.gb, k, none⟩ (.int .i64 (x + fr))).drew := by
    have h5 := hWW
    unfold FrW at h5
    rwa [if_pos (by simp)] at h5
  clear hf3 hF hWW
  simp only [List.filterMap, List.foldl, List.setIfInBounds_toArray, List.set_cons_succ, List.set_cons_zero]
  have S3 := HS.out.1.setBr N (x + fr) hk
  rw [← hw3] at S3
  have H3 := Lib.hid S3
  clear hw3 S3
  go_wp2_with fail
  refine HI.out _ _ _ _ _ _ _ _ _ _ _ _ _ _ _ _ _ _ _ ?_
  rw [← HS.out.2]
  exact H3.out

theorem frostN_bd {B : Int} {p : Prt} (hf : ∀ x ∈ p.chs, 0 ≤ x.frost ∧ x.frost ≤ 20) {b : List Int} (hb : brR B b) : ∀ {k : Nat}, k ≤ p.chs.length → brR (B + 20 * k) (frostN p b k)
  | 0, _ => by simpa [frostN] using hb
  | k + 1, hk => by
    have ih := frostN_bd hf hb (k := k) (by omega)
    have h1 := hf _ (ch_mem (p := p) (i := (k : Int)) (by omega) (by omega))
    rw [frostN]
    refine brR_set (B := B + 20 * ((k + 1 : Nat) : Int)) (fun c => by have := ih c; omega) (by omega) ?_
    have := ih k
    omega

set_option maxRecDepth 100000 in
set_option maxHeartbeats 1000000 in
theorem frost_any {c : WC} {W w : World} {s : Stt} (E : WcE c W (brV c) (buV c)) (N : WcN c) (S : WkS c W w s) (v : Val c.p c.l) (hbr : brR 10000000000 s.brash) :
    Calls Try.prog 125 #[.pointer (some ⟨c.wb, 0, none⟩)] w fun e w' => e = .returned (.tuple #[]) ∧ WkS c W w' ⟨frostL c.p s.brash, s.busy⟩ := by
  have Er := E.at N S
  obtain ⟨q0, _, _, _, q2, _, _, _, _, z1, z2, _⟩ := Er.cells
  have hn := v.nc
  have H := Lib.hid (And.intro E (And.intro N (And.intro S (And.intro v hbr))))
  clear E N S Er hbr
  go_enter Try.func125, Try.ntmps125
  go_wp2_with fail
  go_loopw [12] (fun i wr => ∃ k : Nat, k ≤ c.p.chs.length ∧ i = .int .i64 k ∧ WkS c W wr ⟨frostN c.p s.brash k, s.busy⟩) (fun i _ => c.p.chs.length - (intOf i).toNat)
  case atStart => exact ⟨0, Nat.zero_le _, rfl, H.out.2.2.1⟩
  case round =>
    obtain ⟨k, hk, rfl, hS⟩ := hrel
    by_cases hlt : k < c.p.chs.length
    · have hf : ∀ x ∈ c.p.chs, 0 ≤ x.frost ∧ x.frost ≤ 20 := fun x hx => by have := H.out.2.2.2.1.chf x hx; omega
      have hb := frostN_bd hf H.out.2.2.2.2 hk
      refine frR H.out.1 H.out.2.1 hS hlt hf (by omega) (fun j => by have := hb j; simp only; omega) ?_
      intro _ _ _ _ _ _ _ _ _ _ _ _ _ _ _ _ _ _ w' hr
      refine ⟨?_, by simp [intOf]; omega⟩
      repeat apply Exists.intro
      refine ⟨?_, rfl⟩
      exact ⟨k + 1, by omega, by go_num, hr⟩
    · obtain rfl : k = c.p.chs.length := by omega
      have HF := Lib.hid hS
      clear hS
      go_wp2_with fail
      go_end0
      exact ⟨rfl, HF.out⟩
end Go.Proofs.Ythmldeningpjbaa
