/- polynyaref08.Sure -/
import Derived.Test.YtbgnkljjgfcngaaGreatRSp28
import Derived.Test.YtbgnkljjgfcngaaGreatRSp1
import Derived.Test.YtbgnkljjgfcngaaGreatRSp11
import Derived.Deep.RegionHeld3
import Derived.IntWalk
import Derived.Test.YtbgnkljjgfcngaaGreatRSp2
set_option linter.unusedVariables false
set_option linter.unusedSimpArgs false
namespace Go.Proofs.YtbgnkljjgfcngaaGreat
open Go Go.RowKit Sp
set_option linter.unusedVariables false

theorem sure_bad {w w' : World} {p : Pol} {l : List (Int × Int)} {v : Ves} {day er : Int} (h : sureE p l v day = er) (h0 : er ≠ 0) (hB : Below w.heap.size w w') : SurePost w p l v day (.returned (.tuple #[.bool false, .bool false, .int .i64 er])) w' := by
  obtain ⟨h1, h2⟩ := sure_not h h0
  exact ⟨by rw [h1, h2, h], hB⟩

set_option maxRecDepth 100000 in
set_option maxHeartbeats 8000000 in
theorem rSure_any (As : Option Addr) (cs : Nat) (p : Pol) (A : Option Addr) (c : Nat) (l : List (Int × Int)) (v : Ves) (day : Int) (w : World) (hp : PolV w As cs p) (hr : Rd w 2 A l.length (spcs l)) (hm : l.length ≤ 9223372036854775807) :
    Calls Tryz.prog 56 #[.agg #[.slice As p.steps.length cs, .int .i64 p.hold, .int .i64 p.calm, .int .i64 p.notice, .int .i64 p.grace], .slice A l.length c, .agg #[.int .i64 v.cls, .int .i64 v.ton, .bool v.esc], .int .i64 day] w (SurePost w p l v day) := by
  have rd0 := RD.new (A := none) (days := []) hp (Rd.nil _ _ _)
  obtain ⟨W1, hW1⟩ : ∃ W, W = w.alloc (.cells #[.slice As p.steps.length cs, .int .i64 p.hold, .int .i64 p.calm, .int .i64 p.notice, .int .i64 p.grace] 65) := ⟨_, rfl⟩
  obtain ⟨ob, hob⟩ : ∃ ob, ob = w.heap.size := ⟨_, rfl⟩
  rw [← hW1, ← hob] at rd0
  obtain ⟨W, hW⟩ : ∃ W, W = W1.alloc (.cells #[.int .i64 v.cls, .int .i64 v.ton, .bool v.esc] 94) := ⟨_, rfl⟩
  obtain ⟨vb, hvb⟩ : ∃ vb, vb = W1.heap.size := ⟨_, rfl⟩
  have hvb2 : vb = ob + 1 := by rw [hvb, hW1, hob]; simp
  have hvh : W.heap[vb]? = some (.cells #[.int .i64 v.cls, .int .i64 v.ton, .bool v.esc] 94 (0, 0)) := by rw [hW, hvb]; exact heap_alloc_new _ _
  have rdW : RD w W ob As cs p none [] := rd0.below (by rw [hW]; exact (Below.refl _ _).alloc (Nat.le_refl _) _)
  obtain ⟨er, her⟩ : ∃ er, er = spnE p l := ⟨_, rfl⟩
  have k1 := rBounds_any As cs p A c l W rdW.pol (hr.below rdW.bel) hm
  unfold RBoundsPost at k1
  rw [← her] at k1
  obtain ⟨q0, q1, q2, q3, q4, zp⟩ := rdW.cells
  have v0 := (cell_of_heap hvh 0).trans rfl
  have v1 := (cell_of_heap hvh 1).trans rfl
  have v2 := (cell_of_heap hvh 2).trans rfl
  have zv := heap_lt hvh
  have HR := Lib.hid (And.intro rdW (And.intro k1 (And.intro her hvh)))
  clear hp hr rd0 rdW k1 her hvh hvb
  go_enter Tryz.func56, Tryz.ntmps56
  go_upto_region 1 with fail
  rw [← hW1, ← hob, ← hvb2, ← hW]
  clear hW hob hW1 hvb2
  go_wp2_with fail
  refine HR.out.2.1.mono ?_
  rintro e w1 ⟨A1, c1, rfl, r1, b1⟩
  have rd1 := HR.out.1.below b1
  have hv1 := (b1.block _ (heap_lt HR.out.2.2.2)).trans HR.out.2.2.2
  clear q0 q1 q2 q3 q4 zp b1 v0 v1 v2 zv
  by_cases h0 : er = 0
  · subst h0
    have hs : spnE p l = 0 := HR.out.2.2.1.symm
    have hck : checkS p = 0 := by
      unfold spnE at hs
      split at hs
      · rename_i h; exact absurd hs h
      · rename_i h; rw [start_nil] at h; simpa using h
    have hl4 : l.length ≤ 400 := by
      unfold spnE at hs
      split at hs
      · rename_i h; exact absurd hs h
      · split at hs
        · cases hs
        · omega
    have hbl : bndL p l = bndS p l := by unfold bndL; rw [if_pos hs]
    rw [hbl, bndS_length] at r1
    rw [hbl, bndS_length]
    obtain ⟨vr, hvr⟩ : ∃ vr, vr = vright v := ⟨_, rfl⟩
    have kv := fun wx => rvessel_any v wx
    rw [← hvr] at kv
    have v0 := (cell_of_heap hv1 0).trans rfl
    have v1 := (cell_of_heap hv1 1).trans rfl
    have v2 := (cell_of_heap hv1 2).trans rfl
    have zv := heap_lt hv1
    have HK := Lib.hid (And.intro hs (And.intro hck (And.intro hvr (And.intro kv (And.intro rd1 (And.intro hv1 r1))))))
    clear hs hck hbl hvr kv rd1 hv1 r1
    cases vr
    · go_wp2_with (go_at_call 90; refine (HK.out.2.2.2.1 _).mono ?_; rintro e w2 ⟨rfl, b2⟩)
      go_ret3
      exact sure_bad (sure_arg HK.out.1 HK.out.2.2.1.symm) (by decide) (HK.out.2.2.2.2.1.bel.trans (b2.mono HK.out.2.2.2.2.1.bel.size))
    · obtain ⟨wd, hwd⟩ : ∃ wd, wd = within day 0 ((l.length : Int) - 1) := ⟨_, rfl⟩
      have kw := fun wx => rin_any day 0 ((l.length : Int) - 1) wx
      rw [← hwd] at kw
      have hE : sureE p l v day = if wd then 0 else 6 := by rw [sure_day HK.out.1 HK.out.2.2.1.symm, ← hwd]
      have w6 : IntKind.i64.wrap ((l.length : Int) - 1) = (l.length : Int) - 1 := IntWalk.i64_in _ (by omega)
      have HW := Lib.hid (And.intro hE (And.intro kw hwd))
      clear hE kw hwd
      cases wd
      · go_wp2_with (first | (go_at_call 90; refine (HK.out.2.2.2.1 _).mono ?_; rintro e w2 ⟨rfl, b2⟩) | (go_at_call 72; refine (HW.out.2.1 _).mono ?_; rintro e w3 ⟨rfl, rfl⟩))
        go_ret3
        exact sure_bad HW.out.1 (by decide) (HK.out.2.2.2.2.1.bel.trans (b2.mono HK.out.2.2.2.2.1.bel.size))
      · have hday : 0 ≤ day ∧ day ≤ (l.length : Int) - 1 := by have := HW.out.2.2.symm; simpa [within] using this
        obtain ⟨k, rfl⟩ := Int.eq_ofNat_of_zero_le hday.1
        have hlt : k < l.length := by omega
        have n1 : (0 : Int) ≤ (k : Int) := by omega
        have n2 : (k : Int) < (l.length : Int) := by omega
        clear hday
        go_upto_region 8 with (first | (go_at_call 90; refine (HK.out.2.2.2.1 _).mono ?_; rintro e w2 ⟨rfl, b2⟩) | (go_at_call 72; refine (HW.out.2.1 _).mono ?_; rintro e w3 ⟨rfl, rfl⟩))
        have rd4 := HK.out.2.2.2.2.1.below b2
        have hv4 := (b2.block _ (heap_lt HK.out.2.2.2.2.2.1)).trans HK.out.2.2.2.2.2.1
        obtain ⟨bl, ol, rfl, zl, cl'⟩ := (HK.out.2.2.2.2.2.2.below b2).2 (by omega)
        obtain ⟨s0, s1⟩ := spcs_get (l := bndS p l) (k := k) (by rw [bndS_length]; exact hlt)
        have eb : ∀ h, (bndS p l)[k]'h = ((forceS p (l.map (·.1))).getD k 0, (forceS p (l.map (·.2))).getD k 0) := fun h => by simp [bndS]
        rw [eb] at s0 s1
        have f1 := force_step HK.out.2.1 (l.map (·.1)) k
        have f2 := force_step HK.out.2.1 (l.map (·.2)) k
        obtain ⟨i, hi⟩ := Int.eq_ofNat_of_zero_le f1.1
        obtain ⟨j, hj⟩ := Int.eq_ofNat_of_zero_le f2.1
        have d0 := cl' _ _ s0
        have d1 : w2.cell? ⟨bl, ol + k*2 + 1, none⟩ = _ := cl' _ _ s1
        simp only [hi, hj] at d0 d1
        have hil : i < p.steps.length := by have := f1.2; omega
        have hjl : j < p.steps.length := by have := f2.2; omega
        obtain ⟨bs, os, e1, hbs, p0, p1, p2, p3⟩ := rd4.step hil
        obtain ⟨bs', os', e2, hbs', g0, g1, g2, g3⟩ := rd4.step hjl
        subst e1
        injection e2 with e2
        injection e2 with e2 e3
        subst e2 e3
        have hil' : (i : Int) < (p.steps.length : Int) := by omega
        have hjl' : (j : Int) < (p.steps.length : Int) := by omega
        have n3 : (0 : Int) ≤ (i : Int) := by omega
        have n4 : (0 : Int) ≤ (j : Int) := by omega
        obtain ⟨si, hsi⟩ : ∃ st, st = stp p i := ⟨_, rfl⟩
        obtain ⟨sj, hsj⟩ : ∃ st, st = stp p j := ⟨_, rfl⟩
        rw [← hsi] at p0 p1 p2 p3
        rw [← hsj] at g0 g1 g2 g3
        obtain ⟨q0, q1, q2, q3, q4, zp⟩ := rd4.cells
        have v0 := (cell_of_heap hv4 0).trans rfl
        have v1 := (cell_of_heap hv4 1).trans rfl
        have v2 := (cell_of_heap hv4 2).trans rfl
        obtain ⟨bi, hbi⟩ : ∃ b, b = fulfils v si := ⟨_, rfl⟩
        obtain ⟨bj, hbj⟩ : ∃ b, b = fulfils v sj := ⟨_, rfl⟩
        have hfi : ∀ wx, Calls Tryz.prog 87 #[.agg #[.int .i64 v.cls, .int .i64 v.ton, .bool v.esc], .agg #[.int .i64 si.cls, .int .i64 si.ton, .int .i64 si.up, .int .i64 si.dn]] wx fun e w' => e = .returned (.bool bi) ∧ Below wx.heap.size wx w' := fun wx => by
          rw [hbi]; exact rfulfils_any v si wx (vright_cls HK.out.2.2.1.symm)
        have hfj : ∀ wx, Calls Tryz.prog 87 #[.agg #[.int .i64 v.cls, .int .i64 v.ton, .bool v.esc], .agg #[.int .i64 sj.cls, .int .i64 sj.ton, .int .i64 sj.up, .int .i64 sj.dn]] wx fun e w' => e = .returned (.bool bj) ∧ Below wx.heap.size wx w' := fun wx => by
          rw [hbj]; exact rfulfils_any v sj wx (vright_cls HK.out.2.2.1.symm)
        have hpi : (passesS p (l.map (·.1)) v).getD k false = bi := by rw [passes_get p _ v (by rw [List.length_map]; exact hlt), hi, Int.toNat_natCast, hbi, hsi]
        have hpj : (passesS p (l.map (·.2)) v).getD k false = bj := by rw [passes_get p _ v (by rw [List.length_map]; exact hlt), hj, Int.toNat_natCast, hbj, hsj]
        have KC : ∀ {b o : Nat} {u : Value}, w2.cell? ⟨b, o, none⟩ = some u → ∀ w', Below w2.heap.size w2 w' → w'.cell? ⟨b, o, none⟩ = some u := fun h w' hb => (hb.cell (World.block_lt_of_cell? w2 _ h)).trans h
        have q0' := KC q0
        have p0' := KC p0
        have p1' := KC p1
        have p2' := KC p2
        have p3' := KC p3
        have g0' := KC g0
        have g1' := KC g1
        have g2' := KC g2
        have g3' := KC g3
        have v0' := KC v0
        have v1' := KC v1
        have v2' := KC v2
        have d0' := KC d0
        have d1' := KC d1
        have HX := Lib.hid (And.intro hfi (And.intro hfj (And.intro hpi (And.intro hpj (HK.out.2.2.2.2.1.bel.trans (b2.mono HK.out.2.2.2.2.1.bel.size))))))
        clear hfi hfj hpi hpj hbi hbj hsi hsj hi hj f1 f2 KC p0 p1 p2 p3 g0 g1 g2 g3 q0 q1 q2 q3 q4 v0 v1 v2 d0 d1 s0 s1 eb cl' hv4 rd4 b2
        go_region_held3 (fun w' => Below w2.heap.size w2 w') (first | exact (Below.refl _ _).drew | assumption)
          (first
            | (have bb := B3
               clear bb
               go_at_call 87
               refine (HX.out.1 _).mono ?_
               rintro e w5 ⟨rfl, b5⟩
               have B5 : Below w2.heap.size w2 w5 := B3.trans (b5.mono B3.size)
               clear b5)
            | (go_at_call 87
               refine (HX.out.2.1 _).mono ?_
               rintro e w3 ⟨rfl, b3⟩
               have B3 : Below w2.heap.size w2 w3 := (Below.refl _ _).drew.trans b3
               clear b3))
        have HB := Lib.hid B5
        clear B3 B5
        go_wp2_with fail
        go_ret3
        refine ⟨?_, HX.out.2.2.2.2.trans (HB.out.mono HX.out.2.2.2.2.size)⟩
        have hE : sureE p l v k = 0 := HW.out.1
        unfold sureB perhB
        rw [hE, if_pos rfl, if_pos rfl, Int.toNat_natCast, HX.out.2.2.1, HX.out.2.2.2.1]
        rfl
  · have hne : (er != 0) = true := by simp [h0]
    have HK := Lib.hid (And.intro h0 rd1.bel)
    clear h0 rd1 hv1 r1
    go_wp2_with fail
    go_ret3
    exact sure_bad (by rw [sure_spn (by rw [← HR.out.2.2.1]; exact HK.out.1), HR.out.2.2.1]) HK.out.1 HK.out.2
end Go.Proofs.YtbgnkljjgfcngaaGreat
/- ice: numbers within their limits -/
namespace Go.Proofs.YtbgnkljjgfcngaaGreat
open Go Go.RowKit Sp
set_option linter.unusedVariables false

theorem icein_any (n lo hi : Int) (w : World) :
    Calls Tryz.prog 91 #[.int .i64 n, .int .i64 lo, .int .i64 hi] w fun e w' => e = .returned (.bool (within n lo hi)) ∧ w = w' := by
  go_enter Tryz.func91, Tryz.ntmps91
  go_wp2
  all_goals (go_ret; refine ⟨?_, rfl⟩; simp [within]; try omega)

theorem most_any (w : World) :
    Calls Tryz.prog 99 #[] w fun e w' => e = .returned (.agg #[.int .i64 100, .int .i64 400, .int .i64 100, .int .i64 3]) ∧ Below w.heap.size w w' := by
  go_enter Tryz.func99, Tryz.ntmps99
  go_wp2_with fail
  refine bodyPost_ret (v := .agg #[.int .i64 100, .int .i64 400, .int .i64 100, .int .i64 3]) (by simp [results, Tryz.results99, go_sem]) rfl ⟨rfl, (Below.refl _ _).alloc (Nat.le_refl _) _⟩

/-- an ice -/
structure Ice where
  con : Int
  thk : Int
  rid : Int
  prs : Int
deriving DecidableEq, Inhabited
theorem numbers_any (x : Ice) (w : World) :
    Calls Tryz.prog 96 #[.agg #[.int .i64 x.con, .int .i64 x.thk, .int .i64 x.rid, .int .i64 x.prs]] w fun e w' => e = .returned (.agg #[.int .i64 x.con, .int .i64 x.thk, .int .i64 x.rid, .int .i64 x.prs]) ∧ Below w.heap.size w w' := by
  go_enter Tryz.func96, Tryz.ntmps96
  go_wp2_with fail
  exact bodyPost_ret (v := .agg #[.int .i64 x.con, .int .i64 x.thk, .int .i64 x.rid, .int .i64 x.prs]) (by simp [results, Tryz.results96, go_sem]) rfl ⟨rfl, ((Below.refl _ _).alloc (Nat.le_refl _) _).alloc (by simp) _⟩

theorem most_index (w : World) :
    ((Instr.index 164 (.agg #[.int .i64 100, .int .i64 400, .int .i64 100, .int .i64 3]) (.int .i64 0)).run Tryz.prog w = .ok (.int .i64 100) w ∧ (Instr.index 164 (.agg #[.int .i64 100, .int .i64 400, .int .i64 100, .int .i64 3]) (.int .i64 1)).run Tryz.prog w = .ok (.int .i64 400) w) ∧
    ((Instr.index 164 (.agg #[.int .i64 100, .int .i64 400, .int .i64 100, .int .i64 3]) (.int .i64 2)).run Tryz.prog w = .ok (.int .i64 100) w ∧ (Instr.index 164 (.agg #[.int .i64 100, .int .i64 400, .int .i64 100, .int .i64 3]) (.int .i64 3)).run Tryz.prog w = .ok (.int .i64 3) w) := by
  have u3 := Tryz.underlying3
  have a3 := Tryz.isAgg3
  have z3 := Tryz.sizeOf3
  have u4 := Tryz.underlying164
  simp [Instr.index, asIntOf, run_underlying u4, part, isAgg, run_underlying u3, z3, go_sem]

def iceN (x : Ice) : Nat → Int
  | 0 => x.con
  | 1 => x.thk
  | 2 => x.rid
  | _ => x.prs
def mostN : Nat → Int
  | 0 => 100
  | 1 => 400
  | 2 => 100
  | _ => 3
def iceOk (x : Ice) : Bool := within x.con 0 100 && within x.thk 0 400 && within x.rid 0 100 && within x.prs 0 3

set_option maxRecDepth 100000 in
set_option maxHeartbeats 1000000 in
theorem ckice_any (x : Ice) (b : Nat) (k : Nat) (hk : k < 4) (w : World) (hb : w.heap[b]? = some (.cells #[.int .i64 x.con, .int .i64 x.thk, .int .i64 x.rid, .int .i64 x.prs] 164 (0, 0))) :
    Calls Tryz.prog 98 #[.int .i64 k, .pointer (some ⟨b, 0, none⟩)] w fun e w' => e = .returned (.bool (within (iceN x k) 0 (mostN k))) ∧ Below w.heap.size w w' := by
  have c0 := (cell_of_heap hb 0).trans rfl
  have c1 := (cell_of_heap hb 1).trans rfl
  have c2 := (cell_of_heap hb 2).trans rfl
  have c3 := (cell_of_heap hb 3).trans rfl
  have zb := heap_lt hb
  have KC : ∀ {b o : Nat} {u : Value}, w.cell? ⟨b, o, none⟩ = some u → ∀ w', Below w.heap.size w w' → w'.cell? ⟨b, o, none⟩ = some u := fun h w' hb => (hb.cell (World.block_lt_of_cell? w _ h)).trans h
  have c0' := KC c0
  have c1' := KC c1
  have c2' := KC c2
  have c3' := KC c3
  clear KC hb
  obtain ⟨r, hr⟩ : ∃ r, r = within (iceN x k) 0 (mostN k) := ⟨_, rfl⟩
  have kin : ∀ wx, Calls Tryz.prog 91 #[.int .i64 (iceN x k), .int .i64 0, .int .i64 (mostN k)] wx fun e w' => e = .returned (.bool r) ∧ wx = w' := fun wx => by rw [hr]; exact icein_any _ _ _ wx
  rw [← hr]
  have H := Lib.hid kin
  clear kin hr
  rcases (by omega : k = 0 ∨ k = 1 ∨ k = 2 ∨ k = 3) with rfl | rfl | rfl | rfl
  · show Calls Tryz.prog 98 #[.int .i64 0, .pointer (some ⟨b, 0, none⟩)] w _
    go_enter Tryz.func98, Tryz.ntmps98
    go_upto_region 1 with fail
    have hx0 := fun w => (most_index w).1.1
    have hx1 := fun w => (most_index w).1.2
    have hx2 := fun w => (most_index w).2.1
    have hx3 := fun w => (most_index w).2.2
    go_region_held3 (fun w' => Below w.heap.size w w') (first | exact (Below.refl _ _).drew | assumption)
      (first
        | (go_at_call 99
           refine (most_any _).mono ?_
           rintro e w2 ⟨rfl, b2⟩
           have B2 : Below w.heap.size w w2 := (Below.refl _ _).drew.trans b2
           clear b2)
        | (go_at_call 91
           refine (H.out _).mono ?_
           rintro e w3 ⟨rfl, rfl⟩))
    have HB := Lib.hid B2
    clear B2
    go_wp2_with fail
    go_ret
    exact ⟨rfl, HB.out⟩
  · show Calls Tryz.prog 98 #[.int .i64 1, .pointer (some ⟨b, 0, none⟩)] w _
    go_enter Tryz.func98, Tryz.ntmps98
    go_upto_region 1 with fail
    have hx0 := fun w => (most_index w).1.1
    have hx1 := fun w => (most_index w).1.2
    have hx2 := fun w => (most_index w).2.1
    have hx3 := fun w => (most_index w).2.2
    go_region_held3 (fun w' => Below w.heap.size w w') (first | exact (Below.refl _ _).drew | assumption)
      (first
        | (go_at_call 99
           refine (most_any _).mono ?_
           rintro e w2 ⟨rfl, b2⟩
           have B2 : Below w.heap.size w w2 := (Below.refl _ _).drew.trans b2
           clear b2)
        | (go_at_call 91
           refine (H.out _).mono ?_
           rintro e w3 ⟨rfl, rfl⟩))
    have HB := Lib.hid B2
    clear B2
    go_wp2_with fail
    go_ret
    exact ⟨rfl, HB.out⟩
  · show Calls Tryz.prog 98 #[.int .i64 2, .pointer (some ⟨b, 0, none⟩)] w _
    go_enter Tryz.func98, Tryz.ntmps98
    go_upto_region 1 with fail
    have hx0 := fun w => (most_index w).1.1
    have hx1 := fun w => (most_index w).1.2
    have hx2 := fun w => (most_index w).2.1
    have hx3 := fun w => (most_index w).2.2
    go_region_held3 (fun w' => Below w.heap.size w w') (first | exact (Below.refl _ _).drew | assumption)
      (first
        | (go_at_call 99
           refine (most_any _).mono ?_
           rintro e w2 ⟨rfl, b2⟩
           have B2 : Below w.heap.size w w2 := (Below.refl _ _).drew.trans b2
           clear b2)
        | (go_at_call 91
           refine (H.out _).mono ?_
           rintro e w3 ⟨rfl, rfl⟩))
    have HB := Lib.hid B2
    clear B2
    go_wp2_with fail
    go_ret
    exact ⟨rfl, HB.out⟩
  · show Calls Tryz.prog 98 #[.int .i64 3, .pointer (some ⟨b, 0, none⟩)] w _
    go_enter Tryz.func98, Tryz.ntmps98
    go_upto_region 1 with fail
    have hx0 := fun w => (most_index w).1.1
    have hx1 := fun w => (most_index w).1.2
    have hx2 := fun w => (most_index w).2.1
    have hx3 := fun w => (most_index w).2.2
    go_region_held3 (fun w' => Below w.heap.size w w') (first | exact (Below.refl _ _).drew | assumption)
      (first
        | (go_at_call 99
           refine (most_any _).mono ?_
           rintro e w2 ⟨rfl, b2⟩
           have B2 : Below w.heap.size w w2 := (Below.refl _ _).drew.trans b2
           clear b2)
        | (go_at_call 91
           refine (H.out _).mono ?_
           rintro e w3 ⟨rfl, rfl⟩))
    have HB := Lib.hid B2
    clear B2
    go_wp2_with fail
    go_ret
    exact ⟨rfl, HB.out⟩
end Go.Proofs.YtbgnkljjgfcngaaGreat
/- ice: all, CheckIce; restrict.grade, Grade; polynyaref08.Grade -/
namespace Go.Proofs.YtbgnkljjgfcngaaGreat
open Go Go.RowKit Sp
set_option linter.unusedVariables false

set_option maxRecDepth 100000 in
set_option maxHeartbeats 1000000 in
theorem allIce_any (b : Nat) (g : Nat → Bool) (w : World) (hg : ∀ k : Nat, k < 4 → ∀ wx, Below w.heap.size w wx → Calls Tryz.prog 98 #[.int .i64 k, .pointer (some ⟨b, 0, none⟩)] wx fun e w' => e = .returned (.bool (g k)) ∧ Below wx.heap.size wx w') :
    Calls Tryz.prog 97 #[.func (.func 98) #[] #[.pointer (some ⟨b, 0, none⟩)]] w fun e w' => e = .returned (.bool (g 0 && g 1 && g 2 && g 3)) ∧ Below w.heap.size w w' := by
  have HG := Lib.hid hg
  clear hg
  go_enter Tryz.func97, Tryz.ntmps97
  go_wp2_with (go_at_call 99; refine (most_any _).mono ?_; rintro e w1 ⟨rfl, b1⟩)
  go_loopw [5] (fun i wr => ∃ k : Nat, k ≤ 4 ∧ i = .int .i64 k ∧ (∀ j, j < k → g j = true) ∧ Below w.heap.size w wr) (fun i _ => 4 - (intOf i).toNat)
  case atStart => exact ⟨0, by omega, rfl, by omega, b1⟩
  case round =>
    obtain ⟨k, hk, rfl, hall, hb⟩ := hrel
    have HB := Lib.hid (And.intro hall hb)
    clear hall hb b1
    by_cases hlt : k < 4
    · obtain ⟨r, hr⟩ : ∃ r, r = g k := ⟨_, rfl⟩
      have hc := HG.out k hlt wr HB.out.2
      rw [← hr] at hc
      have n2 : (k : Int) < 4 := by omega
      have HC := Lib.hid (And.intro hc hr)
      clear hc hr
      cases r
      · go_wp2_with (go_at_call 98; refine HC.out.1.mono ?_; rintro e w2 ⟨rfl, b2⟩)
        go_ret
        refine ⟨?_, HB.out.2.trans (b2.mono HB.out.2.size)⟩
        have hf := HC.out.2.symm
        have : (g 0 && g 1 && g 2 && g 3) = false := by
          rcases (by omega : k = 0 ∨ k = 1 ∨ k = 2 ∨ k = 3) with rfl | rfl | rfl | rfl <;> simp [hf]
        rw [this]; rfl
      · go_wp2_with (go_at_call 98; refine HC.out.1.mono ?_; rintro e w2 ⟨rfl, b2⟩)
        go_roundw
        case measure => simp [intOf]; omega
        case rel =>
          refine ⟨k + 1, by omega, by go_num, fun j hj => ?_, HB.out.2.trans (b2.mono HB.out.2.size)⟩
          by_cases h : j = k
          · rw [h, ← HC.out.2]
          · exact HB.out.1 j (by omega)
    · obtain rfl : k = 4 := by omega
      go_wp2_with fail
      go_ret
      refine ⟨?_, HB.out.2⟩
      have h := HB.out.1
      rw [h 0 (by omega), h 1 (by omega), h 2 (by omega), h 3 (by omega)]; rfl

def iceE (x : Ice) : Int := if iceOk x then 0 else 20
set_option maxRecDepth 100000 in
set_option maxHeartbeats 1000000 in
theorem checkIce_any (x : Ice) (w : World) :
    Calls Tryz.prog 58 #[.agg #[.int .i64 x.con, .int .i64 x.thk, .int .i64 x.rid, .int .i64 x.prs]] w fun e w' => e = .returned (.int .i64 (iceE x)) ∧ Below w.heap.size w w' := by
  obtain ⟨r, hr⟩ : ∃ r, r = iceOk x := ⟨_, rfl⟩
  have hE : iceE x = if r then 0 else 20 := by rw [hr]; rfl
  have b0 : Below w.heap.size w (w.alloc (.cells #[.int .i64 x.con, .int .i64 x.thk, .int .i64 x.rid, .int .i64 x.prs] 45)) := (Below.refl _ _).alloc (Nat.le_refl _) _
  have HR := Lib.hid (And.intro hr (And.intro hE b0))
  clear hr hE b0
  go_enter Tryz.func58, Tryz.ntmps58
  go_upto_region 2 with (go_at_call 96; refine (numbers_any x _).mono ?_; rintro e w1 ⟨rfl, b1⟩)
  have bb := HR.out.2.2.trans (b1.mono (by simp))
  obtain ⟨W, hW⟩ : ∃ W, W = w1.alloc (.cells #[.int .i64 x.con, .int .i64 x.thk, .int .i64 x.rid, .int .i64 x.prs] 164) := ⟨_, rfl⟩
  obtain ⟨nb, hnb⟩ : ∃ b, b = w1.heap.size := ⟨_, rfl⟩
  have hh : W.heap[nb]? = some (.cells #[.int .i64 x.con, .int .i64 x.thk, .int .i64 x.rid, .int .i64 x.prs] 164 (0, 0)) := by rw [hW, hnb]; exact heap_alloc_new _ _
  have bW : Below w.heap.size w W := by rw [hW]; exact bb.alloc bb.size _
  rw [← hW, ← hnb]
  have ka := allIce_any nb (fun k => within (iceN x k) 0 (mostN k)) W (fun (k : Nat) hk wx hx => ckice_any x nb k hk wx ((hx.block _ (heap_lt hh)).trans hh))
  have hk : (within (iceN x 0) 0 (mostN 0) && within (iceN x 1) 0 (mostN 1) && within (iceN x 2) 0 (mostN 2) && within (iceN x 3) 0 (mostN 3)) = r := HR.out.1.symm
  rw [hk] at ka
  have HA := Lib.hid (And.intro ka bW)
  clear ka bW hh hW hnb bb b1 hk
  cases r
  · go_wp2_with (go_at_call 97; refine HA.out.1.mono ?_; rintro e w2 ⟨rfl, b2⟩)
    go_ret
    exact ⟨by rw [HR.out.2.1]; rfl, HA.out.2.trans (b2.mono HA.out.2.size)⟩
  · go_wp2_with (go_at_call 97; refine HA.out.1.mono ?_; rintro e w2 ⟨rfl, b2⟩)
    go_ret
    exact ⟨by rw [HR.out.2.1]; rfl, HA.out.2.trans (b2.mono HA.out.2.size)⟩
end Go.Proofs.YtbgnkljjgfcngaaGreat
/- restrict.grade, Grade; polynyaref08.Grade -/
namespace Go.Proofs.YtbgnkljjgfcngaaGreat
open Go Go.RowKit Sp
set_option linter.unusedVariables false

def gradeS (x : Ice) : Int := Int.tdiv (x.con * x.thk) 100 + 5 * x.rid + 50 * x.prs
def gradeN (x : Ice) : Int := if iceOk x then gradeS x else 0
theorem gradeN_ok {x : Ice} (h : iceOk x = true) : gradeN x = gradeS x := by unfold gradeN; rw [if_pos h]
theorem gradeN_no {x : Ice} (h : ¬ iceOk x = true) : gradeN x = 0 := by unfold gradeN; rw [if_neg h]
theorem ice_ok {x : Ice} (h : iceOk x = true) : (0 ≤ x.con ∧ x.con ≤ 100) ∧ (0 ≤ x.thk ∧ x.thk ≤ 400) ∧ (0 ≤ x.rid ∧ x.rid ≤ 100) ∧ (0 ≤ x.prs ∧ x.prs ≤ 3) := by
  simp [iceOk, within] at h
  omega
theorem ice_prod {x : Ice} (h : iceOk x = true) : 0 ≤ x.con * x.thk ∧ x.con * x.thk ≤ 40000 := by
  obtain ⟨⟨a1, a2⟩, ⟨b1, b2⟩, _⟩ := ice_ok h
  refine ⟨Int.mul_nonneg a1 b1, ?_⟩
  have := Int.mul_le_mul a2 b2 b1 (by omega)
  omega
theorem grade_range {x : Ice} (h : iceOk x = true) : 0 ≤ gradeS x ∧ gradeS x ≤ 1050 := by
  obtain ⟨_, _, c1, c2⟩ := ice_ok h
  obtain ⟨d1, d2⟩ := ice_prod h
  unfold gradeS
  rw [Int.tdiv_eq_ediv_of_nonneg d1]
  omega
set_option maxRecDepth 100000 in
set_option maxHeartbeats 1000000 in
theorem grade_any (x : Ice) (w : World) (hx : iceOk x = true) :
    Calls Tryz.prog 95 #[.agg #[.int .i64 x.con, .int .i64 x.thk, .int .i64 x.rid, .int .i64 x.prs]] w fun e w' => e = .returned (.int .i64 (gradeS x)) ∧ Below w.heap.size w w' := by
  obtain ⟨_, _, ⟨c1, c2⟩, ⟨c3, c4⟩⟩ := ice_ok hx
  obtain ⟨d1, d2⟩ := ice_prod hx
  obtain ⟨P, hP⟩ : ∃ P, P = x.con * x.thk := ⟨_, rfl⟩
  have hG : gradeS x = Int.tdiv P 100 + 5 * x.rid + 50 * x.prs := by rw [hP]; rfl
  rw [hG]
  rw [← hP] at d1 d2
  obtain ⟨Q, hQ⟩ : ∃ Q, Q = Int.tdiv P 100 := ⟨_, rfl⟩
  have q1 : 0 ≤ Q ∧ Q ≤ 400 := by rw [hQ, Int.tdiv_eq_ediv_of_nonneg d1]; omega
  obtain ⟨w1, w2, w3, w4, w5, w6⟩ : IntKind.i64.wrap (x.con * x.thk) = P ∧ Int.tdiv P 100 = Q ∧ IntKind.i64.wrap (5 * x.rid) = 5 * x.rid ∧ IntKind.i64.wrap (Q + 5 * x.rid) = Q + 5 * x.rid ∧ IntKind.i64.wrap (50 * x.prs) = 50 * x.prs ∧ IntKind.i64.wrap (Q + 5 * x.rid + 50 * x.prs) = Q + 5 * x.rid + 50 * x.prs :=
    ⟨by rw [← hP]; exact IntWalk.i64_in _ (by omega), hQ.symm, IntWalk.i64_in _ (by omega), IntWalk.i64_in _ (by omega), IntWalk.i64_in _ (by omega), IntWalk.i64_in _ (by omega)⟩
  rw [w2]
  have w7 : IntKind.i64.wrap Q = Q := IntWalk.i64_in _ (by omega)
  clear hQ hP hG
  go_enter Tryz.func95, Tryz.ntmps95
  go_wp2_with fail
  go_ret
  refine ⟨?_, (Below.refl _ _).alloc (Nat.le_refl _) _⟩
  rfl

set_option maxRecDepth 100000 in
set_option maxHeartbeats 1000000 in
theorem Grade_any (x : Ice) (w : World) :
    Calls Tryz.prog 57 #[.agg #[.int .i64 x.con, .int .i64 x.thk, .int .i64 x.rid, .int .i64 x.prs]] w fun e w' => e = .returned (.tuple #[.int .i64 (gradeN x), .int .i64 (iceE x)]) ∧ Below w.heap.size w w' := by
  obtain ⟨W, hW⟩ : ∃ W, W = w.alloc (.cells #[.int .i64 x.con, .int .i64 x.thk, .int .i64 x.rid, .int .i64 x.prs] 45) := ⟨_, rfl⟩
  obtain ⟨ib, hib⟩ : ∃ b, b = w.heap.size := ⟨_, rfl⟩
  have hh : W.heap[ib]? = some (.cells #[.int .i64 x.con, .int .i64 x.thk, .int .i64 x.rid, .int .i64 x.prs] 45 (0, 0)) := by rw [hW, hib]; exact heap_alloc_new _ _
  have bW : Below w.heap.size w W := by rw [hW]; exact (Below.refl _ _).alloc (Nat.le_refl _) _
  have kc := checkIce_any x W
  obtain ⟨er, her⟩ : ∃ er, er = iceE x := ⟨_, rfl⟩
  rw [← her] at kc
  have c0 := (cell_of_heap hh 0).trans rfl
  have c1 := (cell_of_heap hh 1).trans rfl
  have c2 := (cell_of_heap hh 2).trans rfl
  have c3 := (cell_of_heap hh 3).trans rfl
  have zb := heap_lt hh
  have HR := Lib.hid (And.intro hh (And.intro bW (And.intro kc her)))
  clear hh bW kc her
  go_enter Tryz.func57, Tryz.ntmps57
  go_upto_region 1 with fail
  rw [← hW, ← hib]
  clear hW hib
  go_wp2_with fail
  refine HR.out.2.2.1.mono ?_
  rintro e w1 ⟨rfl, b1⟩
  have hh := (b1.block _ (heap_lt HR.out.1)).trans HR.out.1
  clear c0 c1 c2 c3 zb
  have c0 := (cell_of_heap hh 0).trans rfl
  have c1 := (cell_of_heap hh 1).trans rfl
  have c2 := (cell_of_heap hh 2).trans rfl
  have c3 := (cell_of_heap hh 3).trans rfl
  have zb := heap_lt hh
  have HB := Lib.hid (HR.out.2.1.trans (b1.mono HR.out.2.1.size))
  clear b1 hh
  by_cases h0 : er = 0
  · subst h0
    have hok : iceOk x = true := by
      have := HR.out.2.2.2
      unfold iceE at this
      split at this
      · assumption
      · cases this
    have kg := grade_any x w1 hok
    have HG := Lib.hid (And.intro hok kg)
    clear hok kg
    go_wp2_with (go_at_call 95; refine HG.out.2.mono ?_; rintro e w2 ⟨rfl, b2⟩)
    go_ret2
    exact ⟨by rw [gradeN_ok HG.out.1, ← HR.out.2.2.2]; rfl, HB.out.trans (b2.mono HB.out.size)⟩
  · have hne : (er != 0) = true := by simp [h0]
    have HK := Lib.hid h0
    clear h0
    go_wp2_with fail
    go_ret2
    refine ⟨?_, HB.out⟩
    have : ¬ iceOk x = true := fun h => HK.out (by rw [HR.out.2.2.2]; unfold iceE; rw [if_pos h])
    rw [gradeN_no this, ← HR.out.2.2.2]; rfl
end Go.Proofs.YtbgnkljjgfcngaaGreat
/- polynyaref08.Grade -/
namespace Go.Proofs.YtbgnkljjgfcngaaGreat
open Go Go.RowKit Sp
set_option linter.unusedVariables false

set_option maxRecDepth 100000 in
set_option maxHeartbeats 1000000 in
theorem rGrade_any (x : Ice) (w : World) (hx : iceOk x = true) :
    Calls Tryz.prog 59 #[.int .i64 x.con, .int .i64 x.thk, .int .i64 x.rid, .int .i64 x.prs] w fun e w' => e = .returned (.int .i64 (gradeS x)) ∧ w' = w := by
  obtain ⟨_, _, ⟨c1, c2⟩, ⟨c3, c4⟩⟩ := ice_ok hx
  obtain ⟨d1, d2⟩ := ice_prod hx
  obtain ⟨P, hP⟩ : ∃ P, P = x.con * x.thk := ⟨_, rfl⟩
  have hG : gradeS x = Int.tdiv P 100 + 5 * x.rid + 50 * x.prs := by rw [hP]; rfl
  rw [hG]
  rw [← hP] at d1 d2
  obtain ⟨Q, hQ⟩ : ∃ Q, Q = Int.tdiv P 100 := ⟨_, rfl⟩
  obtain ⟨q1, q2⟩ : 0 ≤ Q ∧ Q ≤ 400 := by rw [hQ, Int.tdiv_eq_ediv_of_nonneg d1]; omega
  obtain ⟨w1, w2, w3⟩ : IntKind.i64.wrap (x.con * x.thk) = P ∧ Int.tdiv P 100 = Q ∧ IntKind.i64.wrap Q = Q := ⟨by rw [← hP]; exact IntWalk.i64_in _ (by omega), hQ.symm, IntWalk.i64_in _ (by omega)⟩
  rw [w2]
  obtain ⟨r, hr⟩ := Int.eq_ofNat_of_zero_le c1
  obtain ⟨s, hs⟩ := Int.eq_ofNat_of_zero_le c3
  have HG := Lib.hid (And.intro hr hs)
  obtain ⟨rr, hrr⟩ : ∃ rr, rr = x.rid := ⟨_, rfl⟩
  obtain ⟨ss, hss⟩ : ∃ ss, ss = x.prs := ⟨_, rfl⟩
  rw [← hrr] at c1 c2 hr ⊢
  rw [← hss] at c3 c4 hs ⊢
  subst hr hs
  clear hrr hss hQ hP hG hx HG
  go_enter Tryz.func59, Tryz.ntmps59
  go_wp2_with fail
  clear w1 w2 w3
  go_loopw [9, 10] (fun g i wr => ∃ k : Nat, k ≤ r ∧ i = .int .i64 k ∧ g = .int .i64 (Q + 5 * k) ∧ w = wr) (fun _ i _ => r - (intOf i).toNat)
  case atStart => exact ⟨0, by omega, rfl, by simp, rfl⟩
  case round =>
    obtain ⟨k, hk, rfl, rfl, rfl⟩ := hrel
    by_cases hlt : k < r
    · have n1 : (k : Int) < (r : Int) := by omega
      go_wp2_with fail
      go_roundw
      case measure => simp [intOf]; omega
      case rel => exact ⟨k + 1, by omega, by go_num, congrArg (Value.int IntKind.i64) (by omega), trivial⟩
    · obtain rfl : k = r := by omega
      go_wp2_with fail
      go_loopw [9, 11] (fun g i wr => ∃ j : Nat, j ≤ s ∧ i = .int .i64 j ∧ g = .int .i64 (Q + 5 * k + 50 * j) ∧ w = wr) (fun _ i _ => s - (intOf i).toNat)
      case atStart => exact ⟨0, by omega, rfl, by simp, rfl⟩
      case round =>
        obtain ⟨j, hj, rfl, rfl, rfl⟩ := hrel
        by_cases hlt2 : j < s
        · have n1 : (j : Int) < (s : Int) := by omega
          go_wp2_with fail
          go_roundw
          case measure => simp [intOf]; omega
          case rel => exact ⟨j + 1, by omega, by go_num, congrArg (Value.int IntKind.i64) (by omega), trivial⟩
        · obtain rfl : j = s := by omega
          go_wp2_with fail
          go_ret
          exact ⟨rfl, rfl⟩
end Go.Proofs.YtbgnkljjgfcngaaGreat
/- As XRegion, for regions with guarded operations: an operation whose guard says no only puts undef. -/
namespace Go.Proofs.YtbgnkljjgfcngaaGreat
open Go
set_option linter.unusedVariables false

def regionOkG (ops : List Oper) (n : Nat) : Bool :=
  (ops.filterMap (·.dst)).Nodup && (ops.filterMap (·.dst)).all (· < n) && ops.zipIdx.all (fun p => p.1.after.toList.all fun e => !Region.binds .any e || decide (e.on < p.2))
/-- what one operation owes, wanted or not -/
def GStep {σ : Type} (P : Program) (ops : List Oper) (Q : Exit → Act → World → Prop) (φ : σ → Nat → Value → World → Prop) (W : σ → (Nat → Bool) → World → Prop) (i : Nat) (o : Oper) (s : σ) (l : Nat → Bool) (a : Act) (w : World) : Prop :=
  if Region.wanted o (yielded ops.toArray a.tmps) = true then o.wp P a w (fun a' w' => ∃ s' v, a' = a.put o.dst v ∧ W s' (upd l i) w' ∧ (o.dst.isSome = true → φ s' i v w') ∧ (∀ j u, l j = true → φ s j u w → φ s' j u w')) Q
  else ∃ s' v, a.put o.dst undef = a.put o.dst v ∧ W s' (upd l i) w ∧ (o.dst.isSome = true → φ s' i v w) ∧ (∀ j u, l j = true → φ s j u w → φ s' j u w)

theorem wp_region_invG {σ : Type} {P : Program} {ops : List Oper} {Q : Exit → Act → World → Prop} {id : Nat} {a0 : Act} {w0 : World} (hm : P.follows .mixedOrders = true)
    (hok : regionOkG ops a0.tmps.size = true)
    (φ : σ → Nat → Value → World → Prop) (W : σ → (Nat → Bool) → World → Prop) (s0 : σ) (h0 : W s0 (fun _ => false) w0.drew)
    (hstep : ∀ i o, ops[i]? = some o → ∀ s l a w, l i = false → (∀ e ∈ o.after.toList, Region.binds .any e = true → l e.on = true) → W s l w → FrOk ops a0 (φ s) l a w →
      GStep P ops Q φ W i o s l a w)
    (hfin : ∀ s a w, W s (fun j => decide (j < ops.length)) w → FrOk ops a0 (φ s) (fun j => decide (j < ops.length)) a w → Q .normal a w) :
    (Code.region id ops.toArray true).wp P Q a0 w0 := by
  simp only [regionOkG, Bool.and_eq_true, decide_eq_true_eq] at hok
  obtain ⟨⟨hnd, hltB⟩, hgB⟩ := hok
  have hlt : ∀ (o : Oper) (d : Nat), o ∈ ops → o.dst = some d → d < a0.tmps.size := fun o d ho hd => by
    have := List.all_eq_true.1 hltB d (List.mem_filterMap.2 ⟨o, ho, hd⟩)
    simpa using this
  have hg : ∀ i o, ops[i]? = some o → True ∧ ∀ e ∈ o.after.toList, Region.binds .any e = true → e.on < i := fun i o ho => by
    have := List.all_eq_true.1 hgB (o, i) (List.mem_zipIdx_iff_getElem?.2 ho)
    simp only at this
    refine ⟨trivial, fun e he hb => ?_⟩
    have h2 := List.all_eq_true.1 this e he
    simpa [hb] using h2
  have hsz : ops.toArray.size = ops.length := by simp
  -- all have been carried out where none may come up
  have hall : ∀ listed : Array Bool, listed.size = ops.length → Region.ready .any ops.toArray listed = [] → ∀ n, ∀ j, j < n → j < ops.length → listed.getD j false = true := by
    intro listed hls hr n
    induction n with
    | zero => intro j hj; omega
    | succ n ih =>
      intro j hj hjl
      by_cases hjn : j < n
      · exact ih j hjn hjl
      · obtain rfl : j = n := by omega
        cases hl : listed.getD j false with
        | true => rfl
        | false =>
          exfalso
          have hl' : listed.getD j true = false ∨ listed.size ≤ j := by
            rcases Nat.lt_or_ge j listed.size with h | h
            · left; simp [h] at hl ⊢; exact hl
            · exact .inr h
          have ho : ops[j]? = some ops[j] := List.getElem?_eq_getElem hjl
          rcases hl' with hl' | hl'
          · have : j ∈ Region.ready .any ops.toArray listed := mem_ready.2 ⟨hl', ops[j], by simp [hjl], fun e he hb => ih e.on ((hg j _ ho).2 e (by simpa using he) hb) (by have := (hg j _ ho).2 e (by simpa using he) hb; omega)⟩
            rw [hr] at this
            cases this
          · omega
  have main : ∀ fuel (listed : Array Bool) (a : Act) (w : World) (s : σ), listed.size = ops.length → cntFalse (fun j => listed.getD j false) ops.length ≤ fuel → W s (fun j => listed.getD j false) w → FrOk ops a0 (φ s) (fun j => listed.getD j false) a w →
      wpAny P .any ops.toArray Q fuel listed a w := by
    intro fuel
    have hend : ∀ (listed : Array Bool) (a : Act) (w : World) (s : σ), listed.size = ops.length → (∀ j, j < ops.length → listed.getD j false = true) → W s (fun j => listed.getD j false) w → FrOk ops a0 (φ s) (fun j => listed.getD j false) a w → Q .normal a w := by
      intro listed a w s hs hl hW hF
      have he : (fun j => listed.getD j false) = fun j => decide (j < ops.length) := by
        funext j
        by_cases hj : j < ops.length
        · rw [hl j hj]; simp [hj]
        · simp [hj, hs]
      rw [he] at hW hF
      exact hfin s a w hW hF
    induction fuel with
    | zero =>
      intro listed a w s hs hc hW hF
      have hl := cntFalse_zero ops.length (Nat.le_zero.1 hc)
      refine ⟨?_, hend listed a w s hs hl hW hF⟩
      apply List.eq_nil_iff_forall_not_mem.2
      intro i hi
      obtain ⟨h1, o, ho, _⟩ := mem_ready.1 hi
      have hil : i < ops.length := by simpa using (Array.getElem?_eq_some_iff.1 ho).1
      have h2 := hl i hil
      have : i < listed.size := by omega
      simp [this] at h1 h2
      rw [h2] at h1
      cases h1
    | succ fuel ih =>
      intro listed a w s hs hc hW hF
      refine ⟨fun hr => hend listed a w s hs (fun j hj => hall listed hs hr (j + 1) j (by omega) hj) hW hF, fun i hi => ?_⟩
      obtain ⟨h1, o, ho, hdep⟩ := mem_ready.1 hi
      have hil : i < ops.length := by simpa using (Array.getElem?_eq_some_iff.1 ho).1
      have ho' : ops[i]? = some o := by rw [← ho]; simp
      have hli : i < listed.size := by omega
      have hl0 : listed.getD i false = false := by simp [hli] at h1 ⊢; exact h1
      have hst := hstep i o ho' s (fun j => listed.getD j false) a w hl0 (fun e he hb => hdep e (by simpa using he) hb) hW hF
      unfold wpOp
      rw [ho]
      have key : ∀ a' w', (∃ s' v, a' = a.put o.dst v ∧ W s' (upd (fun j => listed.getD j false) i) w' ∧ (o.dst.isSome = true → φ s' i v w') ∧ (∀ j u, (fun j => listed.getD j false) j = true → φ s j u w → φ s' j u w')) → wpAny P .any ops.toArray Q fuel (listed.setIfInBounds i true) a' w' := ?_
      · unfold GStep at hst
        simp only
        by_cases hw : Region.wanted o (yielded ops.toArray a.tmps) = true
        · rw [if_pos hw] at hst ⊢
          exact .inl (Oper.wp_mono key hst)
        · rw [if_neg hw] at hst ⊢
          exact key _ _ hst
      rintro a' w' ⟨s', v, rfl, hW', hφ, hstab⟩
      have hupd : (fun j => (listed.setIfInBounds i true).getD j false) = upd (fun j => listed.getD j false) i := by
        funext j
        simp only [upd]
        split
        · rename_i hj; subst hj; simp [hli]
        · rename_i hj; rw [getD_set_ne false (Ne.symm hj)]
      have hcl : ∀ j o', upd (fun j => listed.getD j false) i j = true → ops[j]? = some o' → ∀ e ∈ o'.after.toList, Region.binds .any e = true → upd (fun j => listed.getD j false) i e.on = true := by
        intro j o' hj ho'' e he hb
        have hold : (listed.getD e.on false) = true → upd (fun j => listed.getD j false) i e.on = true := fun h => by simp only [upd]; split <;> first | rfl | exact h
        by_cases hji : j = i
        · subst hji
          rw [ho'] at ho''
          injection ho'' with e1
          subst e1
          exact hold (hdep e (by simpa using he) hb)
        · have hj' : listed.getD j false = true := by simpa [upd, hji] using hj
          exact hold (hF.closed j o' hj' ho'' e he hb)
      have hF' : FrOk ops a0 (φ s') (upd (fun j => listed.getD j false) i) (a.put o.dst v) w' := by
        cases hd : o.dst with
        | none =>
          refine ⟨hF.defers, hF.size, fun t ht => hF.other t (fun j o' hj hd' => by have := ht j o' hj hd'; simp only [upd] at this; split at this <;> first | exact this | cases this), fun j o' d hj ho'' hd' => ?_, hcl⟩
          have hji : j ≠ i := by
            rintro rfl
            rw [ho'] at ho''
            injection ho'' with e
            rw [← e, hd] at hd'
            cases hd'
          have hj' : listed.getD j false = true := by simpa [upd, hji] using hj
          obtain ⟨u, hu, hp⟩ := hF.vals j o' d hj' ho'' hd'
          exact ⟨u, hu, hstab j u hj' hp⟩
        | some d0 =>
          refine ⟨hF.defers, by simp [Act.put, hF.size], fun t ht => ?_, fun j o' d hj ho'' hd' => ?_, hcl⟩
          · have : d0 ≠ t := fun e => by
              have := ht i o ho' (by rw [hd, e])
              simp [upd] at this
            simp only [Act.put]
            rw [Array.getElem?_setIfInBounds_ne this]
            exact hF.other t (fun j o' hj hd' => by have := ht j o' hj hd'; simp only [upd] at this; split at this <;> first | exact this | cases this)
          · by_cases hji : j = i
            · subst hji
              rw [ho'] at ho''
              injection ho'' with e
              subst e
              rw [hd] at hd'
              injection hd' with e
              subst e
              have hlt' : d0 < a.tmps.size := by rw [hF.size]; exact hlt o d0 (List.mem_of_getElem? ho') hd
              exact ⟨v, by simp [Act.put, hlt'], hφ (by rw [hd]; rfl)⟩
            · have hj' : listed.getD j false = true := by simpa [upd, hji] using hj
              obtain ⟨u, hu, hp⟩ := hF.vals j o' d hj' ho'' hd'
              have hne : d0 ≠ d := by
                rintro rfl
                exact hji (nodup_dst hnd ho'' ho' hd' hd)
              refine ⟨u, ?_, hstab j u hj' hp⟩
              simp only [Act.put]
              rw [Array.getElem?_setIfInBounds_ne hne]
              exact hu
      refine ih _ _ _ s' (by simp [hs]) ?_ (by rw [hupd]; exact hW') (by rw [hupd]; exact hF')
      rw [hupd]
      have := cntFalse_upd (f := fun j => listed.getD j false) hl0 ops.length hil
      omega
  refine wp_region_any hm ?_
  rw [hsz]
  have hf : (fun j => (Array.replicate ops.length false).getD j false) = fun _ => false := by
    funext j
    rcases Nat.lt_or_ge j ops.length with h | h <;> simp [h]
  refine main ops.length _ a0 w0.drew s0 (by simp) (cntFalse_le _ _) (by rw [hf]; exact h0) ?_
  exact ⟨rfl, rfl, fun _ _ => rfl, fun j o d hj => (by rw [congrFun hf j] at hj; cases hj), fun j o hj => (by rw [congrFun hf j] at hj; cases hj)⟩

def StepOkG {σ : Type} (P : Program) (ops : List Oper) (Q : Exit → Act → World → Prop) (a0 : Act) (φ : σ → Nat → Value → World → Prop) (W : σ → (Nat → Bool) → World → Prop) (i : Nat) (o : Oper) : Prop :=
  ∀ s l a w, l i = false → (∀ e ∈ o.after.toList, Region.binds .any e = true → l e.on = true) → W s l w → FrOk ops a0 (φ s) l a w → GStep P ops Q φ W i o s l a w
theorem wp_region_stepsG {σ : Type} {P : Program} {ops : List Oper} {Q : Exit → Act → World → Prop} {id : Nat} {a0 : Act} {w0 : World} (hm : P.follows .mixedOrders = true)
    (hok : regionOkG ops a0.tmps.size = true)
    (φ : σ → Nat → Value → World → Prop) (W : σ → (Nat → Bool) → World → Prop) (s0 : σ) (h0 : W s0 (fun _ => false) w0.drew)
    (hstep : AllFrom (StepOkG P ops Q a0 φ W) 0 ops)
    (hfin : ∀ s a w, W s (fun j => decide (j < ops.length)) w → FrOk ops a0 (φ s) (fun j => decide (j < ops.length)) a w → Q .normal a w) :
    (Code.region id ops.toArray true).wp P Q a0 w0 :=
  wp_region_invG hm hok φ W s0 h0 (fun i o ho => by have := allFrom_get hstep i o ho; rwa [Nat.zero_add] at this) hfin
/-- an operation without a guard -/
theorem stepG_plain {σ : Type} {P : Program} {ops : List Oper} {Q : Exit → Act → World → Prop} {a0 : Act} {φ : σ → Nat → Value → World → Prop} {W : σ → (Nat → Bool) → World → Prop} {i : Nat} {o : Oper} (hg : o.guard = none) (h : StepOk P ops Q a0 φ W i o) : StepOkG P ops Q a0 φ W i o := by
  intro s l a w hl hd hW hF
  unfold GStep
  rw [if_pos (by simp [Region.wanted, hg])]
  exact h s l a w hl hd hW hF
/-- a guarded operation: what it owes where its guard says yes, and that nothing is lost where it says no -/
theorem stepG_guard {σ : Type} {P : Program} {ops : List Oper} {Q : Exit → Act → World → Prop} {a0 : Act} {φ : σ → Nat → Value → World → Prop} {W : σ → (Nat → Bool) → World → Prop} {i : Nat} {o : Oper}
    (hy : ∀ s l a w, l i = false → (∀ e ∈ o.after.toList, Region.binds .any e = true → l e.on = true) → W s l w → FrOk ops a0 (φ s) l a w → Region.wanted o (yielded ops.toArray a.tmps) = true →
      o.wp P a w (fun a' w' => ∃ s' v, a' = a.put o.dst v ∧ W s' (upd l i) w' ∧ (o.dst.isSome = true → φ s' i v w') ∧ (∀ j u, l j = true → φ s j u w → φ s' j u w')) Q)
    (hn : ∀ s l a w, l i = false → (∀ e ∈ o.after.toList, Region.binds .any e = true → l e.on = true) → W s l w → FrOk ops a0 (φ s) l a w → Region.wanted o (yielded ops.toArray a.tmps) = false → W s (upd l i) w ∧ φ s i undef w) : StepOkG P ops Q a0 φ W i o := by
  intro s l a w hl hd hW hF
  unfold GStep
  by_cases hw : Region.wanted o (yielded ops.toArray a.tmps) = true
  · rw [if_pos hw]; exact hy s l a w hl hd hW hF hw
  · rw [if_neg hw]
    obtain ⟨h1, h2⟩ := hn s l a w hl hd hW hF (by simpa using hw)
    exact ⟨s, undef, rfl, h1, fun _ => h2, fun _ _ _ h => h⟩
end Go.Proofs.YtbgnkljjgfcngaaGreat
