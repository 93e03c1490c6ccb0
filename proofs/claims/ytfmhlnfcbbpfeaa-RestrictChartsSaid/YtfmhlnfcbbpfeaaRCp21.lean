/- slices.Repeat of one element (printed by wip/tools/repeat.py) -/
import Derived.Test.YtfmhlnfcbbpfeaaRCp14
import Derived.Test.YtfmhlnfcbbpfeaaRCp20
import Derived.Test.YtfmhlnfcbbpfeaaRCp2
import Derived.IntWalk
set_option linter.unusedVariables false
namespace Go.Proofs.Ytfmhlnfcbbpfeaa
open Go Go.RowKit Go.Lib Sp
set_option linter.unusedVariables false
set_option linter.unusedSimpArgs false

theorem wpList_copy_run {P : Program} {w : World} {ops : Array Oper} {rest : List Oper} {o : Oper} {a : Act} {Q : Exit → Act → World → Prop} (hgd : o.guard = none) (d s : Operand) (dT sT : TypeId)
    (ho : o.op = .call { callee := .builtin .copy, args := #[d, s], argTypes := #[dT, sT] }) (dv sv : Value) (hd : a.eval d = dv) (hs : a.eval s = sv) (v : Value) (w' : World)
    (hrun : (Builtin.copy_ #[dT, sT] o.type #[dv, sv]).run P w = .ok v w') (h : wpList P ops Q rest (a.put o.dst v) w') : wpList P ops Q (o :: rest) a w := by
  refine wpList_plain hgd fun K hK => ?_
  unfold Oper.wp
  simp [execOp, ho, resolve, invoke, builtin, hd, hs, hrun, Result.andThen]
  exact hK _ _ h
set_option linter.unusedVariables false
def RpCelV (W0 : World) (g n m len : Nat) (ys : List Value) : Nat → Value → Prop
  | 0, v => v = .int .i64 n
  | 1, v => v = .slice (some ⟨g, 0, none⟩) len len
  | 2, v => v = .int .i64 n
  | 3, v => v = .slice (some ⟨g, n * 8, none⟩) (len - n) (len - n)
  | 4, v => v = .slice (some ⟨g, 0, none⟩) len len
  | 5, v => v = .int .i64 n
  | 6, v => v = .slice (some ⟨g, 0, none⟩) n len
  | 7, v => v = .int .i64 m
  | 8, v => v = .int .i64 ((n : Int) + m)
  | 9, v => v = .int .i64 ((n : Int) + m)
  | _, _ => True
def RpCelW (W0 : World) (g n m len : Nat) (ys : List Value) (l : Nat → Bool) (w : World) : Prop := Keep [g] W0 w ∧ ∃ cur, w.heap[g]? = some (.cells cur 123 (0, 0)) ∧ RepSt ys (if l 7 then n + m else n) len cur

set_option maxRecDepth 100000 in
set_option maxHeartbeats 2000000 in
theorem RpCel_any (A : Option Addr) (ca : Nat) (ys : List Value) (hy : ys.length = 8) (h1 : ∀ v ∈ ys, v.oneCell' = true) (len : Nat) (hl : 0 < len) (hl2 : len < 100000) (w : World) (hr : Rd w 8 A 1 ys) :
    Calls Try.prog 115 #[.slice A 1 ca, .int .i64 len] w fun e w' => ∃ g, e = .returned (.slice (some ⟨g, 0, none⟩) len len) ∧ (∃ cur, w'.heap[g]? = some (.cells cur 123 (0, 0)) ∧ RepSt ys len len cur) ∧ w.heap.size ≤ g ∧ Below w.heap.size w w' := by
  obtain ⟨b, off, rfl, hb, hc⟩ := hr.2 (by omega)
  have HY := Lib.hid (And.intro hy h1)
  obtain ⟨i0, hi, hz0, hz1, hz2⟩ := info_parts (show (Try.prog.info? 123).map (fun i => (i.zero, i.size, i.bytes)) = some (some (.agg #[.int .i64 0, .int .i64 0, .int .i64 0, .int .i64 0, .int .i64 0, .int .i64 0, .int .i64 0, .int .i64 0]), 8, 64) from by kernel_rfl)
  obtain ⟨C, hC⟩ : ∃ C, C = madeCells (Value.agg #[.int .i64 0, .int .i64 0, .int .i64 0, .int .i64 0, .int .i64 0, .int .i64 0, .int .i64 0, .int .i64 0]).cells (len * 8) := ⟨_, rfl⟩
  have hCs : C.size = len * 8 := by rw [hC, size_madeCells]
  have hmk : ∀ w : World, (Instr.makeSlice 112 (.int .i64 len) (.int .i64 len)).run Try.prog w = .ok (.slice (some ⟨w.heap.size, 0, none⟩) len len) (w.alloc (.cells C 123)) := fun w => by
    have := run_makeSlice (P := Try.prog) w 112 123 i0 _ Try.underlying112 hi hz0 .i64 .i64 (len : Int) (len : Int) (by omega) (by omega) (by rw [hz1]; simp; omega) (by rw [hz2]; omega) (by omega)
    rw [hz1] at this
    simp only [Int.toNat_natCast] at this
    rw [hC]; exact this
  have hu1 : IntKind.u64.wrap (len : Int) = (len : Int) := by rw [IntKind.wrap_u64]; omega
  have hu2 : IntKind.i64.wrap (len : Int) = (len : Int) := by rw [IntKind.wrap_i64]; omega
  have n1 : ¬ (len : Int) < 0 := by omega
  have n2 : ¬ (9223372036854775807 : Int) < (len : Int) := by omega
  obtain ⟨W, hW⟩ : ∃ W, W = w.alloc (.cells C 123) := ⟨_, rfl⟩
  obtain ⟨g, hg⟩ : ∃ g, g = w.heap.size := ⟨_, rfl⟩
  have hh : W.heap[g]? = some (.cells C 123 (0, 0)) := by rw [hW, hg]; exact heap_alloc_new _ _
  have bW : Below w.heap.size w W := by rw [hW]; exact (Below.refl _ _).alloc (Nat.le_refl _) _
  have hgw : w.heap.size ≤ g := by omega
  obtain ⟨w2, hrun, ⟨cur1, q1, q2⟩, q3⟩ := rep_first (P := Try.prog) (w := W) (dT := 112) (sT := 112) (ty := 3) (dCap := len) (sCap := ca) (ad := ⟨b, off, none⟩) (ys := ys) Try.underlying112 (by rw [hy]; kernel_rfl) (by omega) h1 hh (by rw [hCs, hy]) hl
    (fun j v hj => by
      have := hc j v hj
      rw [show (⟨b, off, none⟩ : Addr).add j = ⟨b, off + j, none⟩ from by by_cases h : j = 0 <;> simp [Addr.add, h]]
      exact (bW.cell (p := ⟨b, off + j, none⟩) hb).trans this)
  have HR := Lib.hid (And.intro hh (And.intro bW (And.intro hgw (And.intro q1 (And.intro q2 q3)))))
  have HRUN := Lib.hid hrun
  clear hh bW q1 q2 q3 hrun hc hr hi hz0 hz1 hz2 hC hCs hy h1
  go_enter Try.func115, Try.ntmps115
  go_upto_region 7 with (go_at_call 140; refine (mul_any len (by omega) _).mono ?_; rintro e w' ⟨rfl, rfl⟩)
  rw [← hW, ← hg]
  clear hmk hu1 hu2 n1 n2 hW hg
  go_wp2_with (refine wpList_copy_run rfl (.tmp 31) (.tmp 32) 112 112 rfl _ _ rfl rfl _ _ HRUN.out ?_)
  go_loopw [8] (fun v wr => ∃ (n : Nat) (cur0 : Array Value), 1 ≤ n ∧ n ≤ len ∧ v = .int .i64 n ∧ wr.heap[g]? = some (.cells cur0 123 (0, 0)) ∧ RepSt ys n len cur0 ∧ Keep [g] W wr) (fun v _ => len - (intOf v).toNat)
  case atStart => exact ⟨1, cur1, by omega, by omega, rfl, HR.out.2.2.2.1, HR.out.2.2.2.2.1, HR.out.2.2.2.2.2⟩
  case round =>
    obtain ⟨n, cur0, hn1, hn2, rfl, hcur, hrep, hK⟩ := hrel
    have HC := Lib.hid (And.intro hcur hrep)
    have HK := Lib.hid hK
    clear hcur hrep hK
    by_cases hlt : n < len
    · obtain ⟨m, hm⟩ : ∃ m, m = min n (len - n) := ⟨_, rfl⟩
      have hmb : 1 ≤ m ∧ m ≤ len - n := by omega
      obtain ⟨hm1, hm2⟩ := hmb
      have HM := Lib.hid hm
      have hlt' : (n : Int) < (len : Int) := by omega
      clear hm
      go_upto_region 9 with fail
      refine wp_region_steps (σ := Unit) (by kernel_rfl) (by kernel_rfl) (fun _ jx vx _ => RpCelV wr g n m len ys jx vx) (fun _ ly wx => RpCelW wr g n m len ys ly wx) () ?_ ?_ ?_
      · exact ⟨(Keep.refl _ _).drew, cur0, HC.out.1, by rw [if_neg (by simp)]; exact HC.out.2⟩
      · simp only [AllFrom, Nat.zero_add, Nat.reduceAdd]
        refine ⟨?_, ?_, ?_, ?_, ?_, ?_, ?_, ?_, ?_, ?_, trivial⟩
        · refine step_pure fun sg ly a wr hl hd hW hF => ?_
          have ny8_8 := hF.notYet 0 8 hl (by kernel_rfl)
          have ny8 := hF.notYet 8 9 ny8_8 (by kernel_rfl)
          have et8 := hF.was 9 8 ny8 (by kernel_rfl)
          simp [Act.eval] at et8
          exact ⟨by simpa [RpCelW, upd] using hW, .int .i64 n, by go_simp, rfl⟩
        · refine step_pure fun sg ly a wr hl hd hW hF => ?_
          have et7 := hF.old 7 (by kernel_rfl)
          simp [Act.eval] at et7
          exact ⟨by simpa [RpCelW, upd] using hW, .slice (some ⟨g, 0, none⟩) len len, by go_simp, rfl⟩
        · refine step_pure fun sg ly a wr hl hd hW hF => ?_
          have ny8_3 := hF.notYet 2 3 hl (by kernel_rfl)
          have ny8_7 := hF.notYet 3 7 ny8_3 (by kernel_rfl)
          have ny8_8 := hF.notYet 7 8 ny8_7 (by kernel_rfl)
          have ny8 := hF.notYet 8 9 ny8_8 (by kernel_rfl)
          have et8 := hF.was 9 8 ny8 (by kernel_rfl)
          simp [Act.eval] at et8
          exact ⟨by simpa [RpCelW, upd] using hW, .int .i64 n, by go_simp, rfl⟩
        · refine step_pure fun sg ly a wr hl hd hW hF => ?_
          simp [Region.binds] at hd
          have et39 := hF.new 1 39 (by simp [hd]) rfl
          simp [RpCelV, Act.eval] at et39
          have et40 := hF.new 2 40 (by simp [hd]) rfl
          simp [RpCelV, Act.eval] at et40
          have b1 : (0 : Int) ≤ (n : Int) := by omega
          have b2 : (n : Int) ≤ (len : Int) := by omega
          have b3 : n < len := hlt
          have b4 : ¬ len = n := by omega
          exact ⟨by simpa [RpCelW, upd] using hW, .slice (some ⟨g, n * 8, none⟩) (len - n) (len - n), by go_simp, rfl⟩
        · refine step_pure fun sg ly a wr hl hd hW hF => ?_
          have et7 := hF.old 7 (by kernel_rfl)
          simp [Act.eval] at et7
          exact ⟨by simpa [RpCelW, upd] using hW, .slice (some ⟨g, 0, none⟩) len len, by go_simp, rfl⟩
        · refine step_pure fun sg ly a wr hl hd hW hF => ?_
          have ny8_6 := hF.notYet 5 6 hl (by kernel_rfl)
          have ny8_7 := hF.notYet 6 7 ny8_6 (by kernel_rfl)
          have ny8_8 := hF.notYet 7 8 ny8_7 (by kernel_rfl)
          have ny8 := hF.notYet 8 9 ny8_8 (by kernel_rfl)
          have et8 := hF.was 9 8 ny8 (by kernel_rfl)
          simp [Act.eval] at et8
          exact ⟨by simpa [RpCelW, upd] using hW, .int .i64 n, by go_simp, rfl⟩
        · refine step_pure fun sg ly a wr hl hd hW hF => ?_
          simp [Region.binds] at hd
          have et42 := hF.new 4 42 (by simp [hd]) rfl
          simp [RpCelV, Act.eval] at et42
          have et43 := hF.new 5 43 (by simp [hd]) rfl
          simp [RpCelV, Act.eval] at et43
          have b1 : (0 : Int) ≤ (n : Int) := by omega
          have b2 : (n : Int) ≤ (len : Int) := by omega
          exact ⟨by simpa [RpCelW, upd] using hW, .slice (some ⟨g, 0, none⟩) n len, by go_simp, rfl⟩
        · refine step_run fun sg ly a wr hl hd hW hF => ?_
          simp [Region.binds] at hd
          have et41 := hF.new 3 41 (by simp [hd]) rfl
          simp [RpCelV, Act.eval] at et41
          have et44 := hF.new 6 44 (by simp [hd]) rfl
          simp [RpCelV, Act.eval] at et44
          obtain ⟨hK, cur, hh, hR⟩ := hW
          rw [if_neg (by simp [hl])] at hR
          obtain ⟨w', hrun, ⟨cur', h1, h2⟩, h3, _⟩ := rep_copy (P := Try.prog) (dT := 112) (sT := 112) (ty := 3) (dCap := len - n) (sCap := len) (m := m) Try.underlying112 (by rw [HY.out.1]; kernel_rfl) (by rw [HY.out.1]; decide) HY.out.2 hh hR (by omega) HM.out
          rw [HY.out.1] at hrun
          refine ⟨.int .i64 m, w', (), ?_, ⟨hK.trans h3 (by simp), cur', h1, by rw [if_pos (by simp [upd])]; exact h2⟩, rfl, fun _ _ _ h => h⟩
          simp [execOp, resolve, invoke, builtin, Act.eval, et41, et44, hrun, Result.andThen, goInt]
        · refine step_pure fun sg ly a wr hl hd hW hF => ?_
          simp [Region.binds] at hd
          have et38 := hF.new 0 38 (by simp [hd]) rfl
          simp [RpCelV, Act.eval] at et38
          have et45 := hF.new 7 45 (by simp [hd]) rfl
          simp [RpCelV, Act.eval] at et45
          have ew := IntWalk.i64_in ((n : Int) + m) (by omega)
          exact ⟨by simpa [RpCelW, upd] using hW, .int .i64 ((n : Int) + m), by go_simp, rfl⟩
        · refine step_pure fun sg ly a wr hl hd hW hF => ?_
          simp [Region.binds] at hd
          have et46 := hF.new 8 46 (by simp [hd]) rfl
          simp [RpCelV, Act.eval] at et46
          exact ⟨by simpa [RpCelW, upd] using hW, .int .i64 ((n : Int) + m), by go_simp, rfl⟩
      intro _ a w5 hW hF
      have e8 := hF.new 9 8 (by decide) rfl
      obtain ⟨f, hf, rfl⟩ := hF.lit
      rw [← hf] at e8
      simp only [RpCelV] at e8
      obtain ⟨hK5, cur5, h5, hR5⟩ := hW
      simp only [List.length_cons, List.length_nil, Nat.reduceAdd, Nat.reduceLT, decide_true, if_true] at hR5
      have H5 := Lib.hid (And.intro hK5 (And.intro h5 hR5))
      clear hf hF hK5 h5 hR5
      simp only [List.filterMap, List.foldl, List.setIfInBounds_toArray, List.set_cons_succ, List.set_cons_zero, e8]
      clear e8
      go_wp2_with fail
      go_roundw
      case measure => simp [intOf]; omega
      case rel => exact ⟨n + m, cur5, by omega, by omega, by simp, H5.out.2.1, H5.out.2.2, HK.out.trans H5.out.1 (by simp)⟩
    · obtain rfl : n = len := by omega
      go_wp2_with fail
      go_ret
      exact ⟨g, rfl, ⟨cur0, HC.out.1, HC.out.2⟩, HR.out.2.2.1, HR.out.2.1.trans (HK.out.below HR.out.2.1.size (by simpa using HR.out.2.2.1))⟩
end Go.Proofs.Ytfmhlnfcbbpfeaa
/- ice.Blank, of right sides and hour -/
namespace Go.Proofs.Ytfmhlnfcbbpfeaa
open Go Go.RowKit Go.Lib Sp
set_option linter.unusedVariables false
set_option linter.unusedSimpArgs false

theorem chart_results {F : Func} {r s : Nat} (hF : F.results = #[.cell r 114, .tmp s]) {W : World} {b : Nat} {x y z : Int} {A : Option Addr} {n c : Nat} (h : W.heap[b]? = some (.cells #[.int .i64 x, .int .i64 y, .int .i64 z, .slice A n c] 114 (0, 0))) (tmps : Array Value) (v : Value) (hr : tmps.getD r undef = .pointer (some ⟨b, 0, none⟩)) (hs : tmps.getD s undef = v) :
    (results F tmps).run Try.prog W = .ok (.tuple #[.agg #[.int .i64 x, .int .i64 y, .int .i64 z, .slice A n c], v]) W := by
  have g4 : tmps[r]?.getD undef = .pointer (some ⟨b, 0, none⟩) := by simpa using hr
  have g5 : tmps[s]?.getD undef = v := by simpa using hs
  have c0 : W.cell? ⟨b, 0, none⟩ = some (.int .i64 x) := (cell_of_heap h 0).trans rfl
  have c1 : W.cell? ⟨b, 1, none⟩ = some (.int .i64 y) := (cell_of_heap h 1).trans rfl
  have c2 : W.cell? ⟨b, 2, none⟩ = some (.int .i64 z) := (cell_of_heap h 2).trans rfl
  have c3 : W.cell? ⟨b, 3, none⟩ = some (.slice A n c) := (cell_of_heap h 3).trans rfl
  simp [results, hF, g4, g5, asAddr, go_sem, c0, c1, c2, c3]
theorem celW_rd (W : World) : Rd (W.alloc (.cells #[.int .i64 0, .int .i64 100, .int .i64 0, .int .i64 400, .int .i64 0, .int .i64 100, .int .i64 0, .int .i64 3] 123)) 8 (some ⟨W.heap.size, 0, none⟩) 1 (cel celW) :=
  ⟨rfl, fun _ => ⟨_, 0, rfl, by simp, fun j u hu => by rw [Nat.zero_add, World.cell?_alloc_new]; simpa [cel, celW] using hu⟩⟩
theorem cel_one (x : Cel) : ∀ v ∈ cel x, v.oneCell' = true := by
  intro u hx
  simp [cel] at hx
  rcases hx with rfl | rfl | rfl | rfl | rfl | rfl | rfl | rfl <;> rfl

def BlankPost (w : World) (a b h : Int) (n : Nat) (e : Ending) (w' : World) : Prop :=
  ∃ g, e = .returned (.tuple #[.agg #[.int .i64 a, .int .i64 b, .int .i64 h, .slice (some ⟨g, 0, none⟩) n n], .int .i64 0]) ∧ (∃ cur, w'.heap[g]? = some (.cells cur 123 (0, 0)) ∧ RepSt (cel celW) n n cur) ∧ w.heap.size ≤ g ∧ Below w.heap.size w w'
set_option maxRecDepth 100000 in
set_option maxHeartbeats 2000000 in
theorem blank_ok (a b h : Int) (n : Nat) (hn : a * b = n) (h0 : sizeE a b h = 0) (w : World) :
    Calls Try.prog 69 #[.int .i64 a, .int .i64 b, .int .i64 h] w (BlankPost w a b h n) := by
  obtain ⟨⟨a1, a2⟩, ⟨b1, b2⟩, p1, p2⟩ := size_zero h0
  have hn1 : 0 < n := by
    have := Int.mul_pos (show (0 : Int) < a by omega) (show (0 : Int) < b by omega)
    omega
  have hn2 : n ≤ 1024 := by omega
  obtain ⟨W, hW⟩ : ∃ W, W = w.alloc (.cells #[.int .i64 0, .int .i64 0, .int .i64 0, .slice none 0 0] 114) := ⟨_, rfl⟩
  obtain ⟨rb, hrb⟩ : ∃ b, b = w.heap.size := ⟨_, rfl⟩
  have hh : W.heap[rb]? = some (.cells #[.int .i64 0, .int .i64 0, .int .i64 0, .slice none 0 0] 114 (0, 0)) := by rw [hW, hrb]; exact heap_alloc_new _ _
  have bW : Below w.heap.size w W := by rw [hW]; exact (Below.refl _ _).alloc (Nat.le_refl _) _
  have hrw : w.heap.size ≤ rb := by omega
  have ks := size_any a b h W
  rw [h0] at ks
  have kr := fun W => RpCel_any (some ⟨World.heap W |>.size, 0, none⟩) 1 (cel celW) rfl (cel_one _) n hn1 (by omega) _ (celW_rd W)
  have hw1 : IntKind.i64.wrap (a * b) = (n : Int) := by rw [hn]; exact IntWalk.i64_in _ (by omega)
  have HR := Lib.hid (And.intro hh (And.intro bW (And.intro hrw (And.intro ks kr))))
  clear hh bW hrw ks kr hn h0 p1 p2
  go_enter Try.func69, Try.ntmps69
  go_upto_region 1 with fail
  rw [← hW, ← hrb]
  clear hW hrb
  go_upto_region 4 with (go_at_call 111; refine HR.out.2.2.2.1.mono ?_; rintro e w' ⟨rfl, rfl⟩)
  go_wp2_with fail
  refine (Whole_any _).mono ?_
  rintro e w1 ⟨rfl, b1⟩
  go_wp2_with fail
  refine (HR.out.2.2.2.2 w1).mono ?_
  rintro e w2 ⟨g, rfl, hg, hgw, b2⟩
  have b02 : Below w.heap.size w w2 := HR.out.2.1.trans ((b1.trans ((((Below.refl _ _).alloc (Nat.le_refl _) _).trans (b2.mono (by simp))).mono b1.size)).mono HR.out.2.1.size)
  have bW2 : Below W.heap.size W w2 := b1.trans ((((Below.refl _ _).alloc (Nat.le_refl _) _).trans (b2.mono (by simp))).mono b1.size)
  have hh2 := (bW2.block _ (heap_lt HR.out.1)).trans HR.out.1
  have hgr : rb ≠ g := by have := heap_lt HR.out.1; have := b1.size; simp at hgw; omega
  have c0 := (cell_of_heap hh2 0).trans rfl
  have c1 := (cell_of_heap hh2 1).trans rfl
  have c2 := (cell_of_heap hh2 2).trans rfl
  have c3 := (cell_of_heap hh2 3).trans rfl
  have f0 := frozen_of_heap hh2 0
  have f1 := frozen_of_heap hh2 1
  have f2 := frozen_of_heap hh2 2
  have f3 := frozen_of_heap hh2 3
  have zo := heap_lt hh2
  have hfin : ((((w2.setCell ⟨rb, 0, none⟩ (.int .i64 a)).setCell ⟨rb, 1, none⟩ (.int .i64 b)).setCell ⟨rb, 2, none⟩ (.int .i64 h)).setCell ⟨rb, 3, none⟩ (.slice (some ⟨g, 0, none⟩) n n)).heap[rb]? = some (.cells #[.int .i64 a, .int .i64 b, .int .i64 h, .slice (some ⟨g, 0, none⟩) n n] 114 (0, 0)) := heap_set (heap_set (heap_set (heap_set hh2 0 (.int .i64 a)) 1 (.int .i64 b)) 2 (.int .i64 h)) 3 (.slice (some ⟨g, 0, none⟩) n n)
  have bfin : Below w.heap.size w ((((w2.setCell ⟨rb, 0, none⟩ (.int .i64 a)).setCell ⟨rb, 1, none⟩ (.int .i64 b)).setCell ⟨rb, 2, none⟩ (.int .i64 h)).setCell ⟨rb, 3, none⟩ (.slice (some ⟨g, 0, none⟩) n n)) := (((b02.setCell (p := ⟨rb, 0, none⟩) HR.out.2.2.1 _).setCell (p := ⟨rb, 1, none⟩) HR.out.2.2.1 _).setCell (p := ⟨rb, 2, none⟩) HR.out.2.2.1 _).setCell (p := ⟨rb, 3, none⟩) HR.out.2.2.1 _
  have hgf : ∃ cur, ((((w2.setCell ⟨rb, 0, none⟩ (.int .i64 a)).setCell ⟨rb, 1, none⟩ (.int .i64 b)).setCell ⟨rb, 2, none⟩ (.int .i64 h)).setCell ⟨rb, 3, none⟩ (.slice (some ⟨g, 0, none⟩) n n)).heap[g]? = some (.cells cur 123 (0, 0)) ∧ RepSt (cel celW) n n cur := by
    obtain ⟨cur, q1, q2⟩ := hg
    exact ⟨cur, heap_set_ne (heap_set_ne (heap_set_ne (heap_set_ne q1 (Ne.symm hgr) _) (Ne.symm hgr) _) (Ne.symm hgr) _) (Ne.symm hgr) _, q2⟩
  have hgw' : w.heap.size ≤ g := by have := b1.size; have := HR.out.2.1.size; simp at hgw; omega
  have H3 := Lib.hid (And.intro hfin (And.intro bfin (And.intro hgf hgw')))
  clear hh2 hfin bfin hgf hgw' hgw hg b1 b2 b02 bW2 hgr
  go_wp2_with fail
  exact bodyPost_ret (chart_results (r := 6) (s := 7) rfl H3.out.1 _ _ rfl rfl) rfl ⟨g, rfl, H3.out.2.2.1, H3.out.2.2.2, H3.out.2.1⟩
end Go.Proofs.Ytfmhlnfcbbpfeaa
/- ice: aged, AgeChart (printed by wip/tools/age.py) -/
namespace Go.Proofs.Ytfmhlnfcbbpfeaa
open Go Go.RowKit Go.Lib Sp
set_option linter.unusedVariables false
set_option linter.unusedSimpArgs false

def ageCel (x : Cel) (u d : Ice) (h : Int) : Cel := ⟨ageLo x d h 0, ageHi x u h 0, ageLo x d h 1, ageHi x u h 1, ageLo x d h 2, ageHi x u h 2, ageLo x d h 3, ageHi x u h 3⟩

set_option linter.unusedVariables false
def AdV (W0 : World) (rb : Nat) (u d : Ice) (s : Nat × Nat) : Nat → Value → Prop
  | 0, v => v = .pointer (some ⟨rb, 0, none⟩)
  | 1, v => v = .agg #[.int .i64 u.con, .int .i64 u.thk, .int .i64 u.rid, .int .i64 u.prs]
  | 2, v => v = .agg #[.int .i64 u.con, .int .i64 u.thk, .int .i64 u.rid, .int .i64 u.prs]
  | 3, v => v = .pointer (some ⟨rb, 4, none⟩)
  | 4, v => v = .agg #[.int .i64 d.con, .int .i64 d.thk, .int .i64 d.rid, .int .i64 d.prs]
  | 5, v => v = .agg #[.int .i64 d.con, .int .i64 d.thk, .int .i64 d.rid, .int .i64 d.prs]
  | 6, v => v = .pointer (some ⟨s.1, 0, none⟩)
  | 7, v => v = .pointer (some ⟨s.2, 0, none⟩)
  | _, _ => True
def AdW (W0 : World) (rb : Nat) (u d : Ice) (s : Nat × Nat) (l : Nat → Bool) (w : World) : Prop := RtW W0 u d s l w

abbrev z8 : Array Value := #[.int .i64 0, .int .i64 0, .int .i64 0, .int .i64 0, .int .i64 0, .int .i64 0, .int .i64 0, .int .i64 0]
set_option maxRecDepth 100000 in
set_option maxHeartbeats 4000000 in
theorem aged_ok (x : Cel) (u d : Ice) (h : Int) (hr : rtOk u d) (hx : celOk x = true) (hh : 0 ≤ h ∧ h ≤ 10000) (w : World) :
    Calls Try.prog 124 #[.agg (celA x), .agg (rtA u d), .int .i64 h] w fun e w' => e = .returned (.agg (celA (ageCel x u d h))) ∧ Below w.heap.size w w' := by
  obtain ⟨y, hy⟩ : ∃ y, y = ageCel x u d h := ⟨_, rfl⟩
  rw [← hy]
  have HYY := Lib.hid hy
  clear hy
  obtain ⟨W1, hW1⟩ : ∃ W, W = w.alloc (.cells (celA x) 188) := ⟨_, rfl⟩
  obtain ⟨W2, hW2⟩ : ∃ W, W = W1.alloc (.cells (rtA u d) 139) := ⟨_, rfl⟩
  obtain ⟨W3, hW3⟩ : ∃ W, W = W2.alloc (.cells #[.int .i64 h] 3) := ⟨_, rfl⟩
  obtain ⟨W, hW⟩ : ∃ W, W = W3.alloc (.cells z8 188) := ⟨_, rfl⟩
  obtain ⟨sb, hsb⟩ : ∃ b, b = w.heap.size := ⟨_, rfl⟩
  obtain ⟨rb, hrb⟩ : ∃ b, b = w.heap.size + 1 := ⟨_, rfl⟩
  obtain ⟨hb, hhb⟩ : ∃ b, b = w.heap.size + 1 + 1 := ⟨_, rfl⟩
  obtain ⟨ob, hob⟩ : ∃ b, b = w.heap.size + 1 + 1 + 1 := ⟨_, rfl⟩
  have s1 : W1.heap.size = w.heap.size + 1 := by rw [hW1]; simp
  have s2 : W2.heap.size = w.heap.size + 1 + 1 := by rw [hW2]; simp [s1]
  have s3 : W3.heap.size = w.heap.size + 1 + 1 + 1 := by rw [hW3]; simp [s2]
  have gs : W.heap[sb]? = some (.cells (celA x) 188 (0, 0)) := by rw [hW, hW3, hW2, hW1, hsb]; exact heap_alloc' (heap_alloc' (heap_alloc' (heap_alloc_new _ _) _) _) _
  have hrh : W.heap[rb]? = some (.cells (rtA u d) 139 (0, 0)) := by rw [hW, hW3, hW2, hrb, ← s1]; exact heap_alloc' (heap_alloc' (heap_alloc_new _ _) _) _
  have gh : W.heap[hb]? = some (.cells #[.int .i64 h] 3 (0, 0)) := by rw [hW, hW3, hhb, ← s2]; exact heap_alloc' (heap_alloc_new _ _) _
  have go_ : W.heap[ob]? = some (.cells z8 188 (0, 0)) := by rw [hW, hob, ← s3]; exact heap_alloc_new _ _
  have bW : Below w.heap.size w W := by rw [hW, hW3, hW2, hW1]; exact ((((Below.refl _ _).alloc (Nat.le_refl _) _).alloc (by simp) _).alloc (by simp; omega) _).alloc (by simp; omega) _
  have how : w.heap.size ≤ ob := by omega
  have hcell : ∀ j v, (rtA u d)[j]? = some v → ∀ w', Below W.heap.size W w' → w'.cell? ⟨rb, j, none⟩ = some v := fun j v hv w' hB => (hB.cell (p := ⟨rb, j, none⟩) (heap_lt hrh)).trans ((cell_of_heap hrh j).trans hv)
  have HC0 := Lib.hid (hcell 0 _ rfl)
  have HC1 := Lib.hid (hcell 1 _ rfl)
  have HC2 := Lib.hid (hcell 2 _ rfl)
  have HC3 := Lib.hid (hcell 3 _ rfl)
  have HC4 := Lib.hid (hcell 4 _ rfl)
  have HC5 := Lib.hid (hcell 5 _ rfl)
  have HC6 := Lib.hid (hcell 6 _ rfl)
  have HC7 := Lib.hid (hcell 7 _ rfl)
  have HW := Lib.hid (And.intro bW (And.intro gs (And.intro gh (And.intro go_ how))))
  have HO := Lib.hid (And.intro hr (And.intro hx hh))
  clear hcell bW gs gh go_ hr hx hh s1 s2 s3 how
  go_enter Try.func124, Try.ntmps124
  go_upto_region 1 with fail
  rw [← hob, ← hhb, ← hrb, ← hsb, ← hW1, ← hW2, ← hW3, ← hW]
  clear hW hW1 hW2 hW3 hsb hrb hhb hob hrh
  refine wp_region_steps (σ := Nat × Nat) (by kernel_rfl) (by kernel_rfl) (fun sg jx vx _ => AdV W rb u d sg jx vx) (fun sg ly wx => AdW W rb u d sg ly wx) (0, 0) ?_ ?_ ?_
  · exact ⟨(Below.refl _ _).drew, (fun h => by cases h), (fun h => by cases h), (fun h => by cases h)⟩
  · simp only [AllFrom, Nat.zero_add, Nat.reduceAdd]
    refine ⟨?_, ?_, ?_, ?_, ?_, ?_, ?_, ?_, ?_, ?_, trivial⟩
    · refine step_pure fun sg ly a wr hl hd hW hF => ?_
      have et4 := hF.old 4 (by kernel_rfl)
      simp [Act.eval] at et4
      exact ⟨hW.other _ (by decide), .pointer (some ⟨rb, 0, none⟩), by go_simp, rfl⟩
    · refine step_pure fun sg ly a wr hl hd hW hF => ?_
      simp [Region.binds] at hd
      have et9 := hF.new 0 9 (by simp [hd]) rfl
      simp [AdV, Act.eval] at et9
      have c0 := HC0.out wr hW.bel
      have c1 := HC1.out wr hW.bel
      have c2 := HC2.out wr hW.bel
      have c3 := HC3.out wr hW.bel
      exact ⟨hW.other _ (by decide), _, by go_simp, rfl⟩
    · refine step_call fun sg ly a wr hl hd hW hF => ?_
      simp [Region.binds] at hd
      have et10 := hF.new 1 10 (by simp [hd]) rfl
      simp [AdV, Act.eval] at et10
      refine ⟨104, #[.agg #[.int .i64 u.con, .int .i64 u.thk, .int .i64 u.rid, .int .i64 u.prs]], by go_simp, ?_⟩
      refine (numbers_any u wr).mono ?_
      rintro e w2 ⟨rfl, b2⟩
      exact ⟨_, sg, rfl, hW.call _ (by decide) b2, rfl, fun _ _ _ h => h⟩
    · refine step_pure fun sg ly a wr hl hd hW hF => ?_
      have et4 := hF.old 4 (by kernel_rfl)
      simp [Act.eval] at et4
      exact ⟨hW.other _ (by decide), .pointer (some ⟨rb, 4, none⟩), by go_simp, rfl⟩
    · refine step_pure fun sg ly a wr hl hd hW hF => ?_
      simp [Region.binds] at hd
      have et12 := hF.new 3 12 (by simp [hd]) rfl
      simp [AdV, Act.eval] at et12
      have c4 := HC4.out wr hW.bel
      have c5 := HC5.out wr hW.bel
      have c6 := HC6.out wr hW.bel
      have c7 := HC7.out wr hW.bel
      exact ⟨hW.other _ (by decide), _, by go_simp, rfl⟩
    · refine step_call fun sg ly a wr hl hd hW hF => ?_
      simp [Region.binds] at hd
      have et13 := hF.new 4 13 (by simp [hd]) rfl
      simp [AdV, Act.eval] at et13
      refine ⟨104, #[.agg #[.int .i64 d.con, .int .i64 d.thk, .int .i64 d.rid, .int .i64 d.prs]], by go_simp, ?_⟩
      refine (numbers_any d wr).mono ?_
      rintro e w2 ⟨rfl, b2⟩
      exact ⟨_, sg, rfl, hW.call _ (by decide) b2, rfl, fun _ _ _ h => h⟩
    · refine step_run fun sg ly a wr hl hd hW hF => ?_
      have n8 := hF.notYet 6 8 hl (by kernel_rfl)
      refine ⟨_, wr.alloc (.cells #[.int .i64 0, .int .i64 0, .int .i64 0, .int .i64 0] 174), (wr.heap.size, sg.2), by go_simp, hW.allocA n8, rfl, ?_⟩
      intro i u hi h
      have i2 : i ≠ 6 := by rintro rfl; rw [hl] at hi; cases hi
      unfold AdV at h ⊢
      split at h <;> first | exact h | exact absurd rfl i2
    · refine step_run fun sg ly a wr hl hd hW hF => ?_
      have n9 := hF.notYet 7 9 hl (by kernel_rfl)
      refine ⟨_, wr.alloc (.cells #[.int .i64 0, .int .i64 0, .int .i64 0, .int .i64 0] 174), (sg.1, wr.heap.size), by go_simp, hW.allocB n9, rfl, ?_⟩
      intro i u hi h
      have i2 : i ≠ 7 := by rintro rfl; rw [hl] at hi; cases hi
      unfold AdV at h ⊢
      split at h <;> first | exact h | exact absurd rfl i2
    · refine step_store rfl fun sg ly a wr hl hd hW hF => ?_
      simp [Region.binds] at hd
      have et7 := hF.new 6 7 (by simp [hd]) rfl
      simp [AdV, Act.eval] at et7
      have et11 := hF.new 2 11 (by simp [hd]) rfl
      simp [AdV, Act.eval] at et11
      have y := (show ly 6 = true by simp [hd])
      have hq := (hW.q1 y).2
      rw [hl] at hq
      have c0 := (cell_of_heap hq 0).trans rfl
      have f0 := frozen_of_heap hq 0
      have c1 := (cell_of_heap hq 1).trans rfl
      have f1 := frozen_of_heap hq 1
      have c2 := (cell_of_heap hq 2).trans rfl
      have f2 := frozen_of_heap hq 2
      have c3 := (cell_of_heap hq 3).trans rfl
      have f3 := frozen_of_heap hq 3
      have zq := heap_lt hq
      exact ⟨_, sg, .skip, by go_simp, .inl rfl, hW.storeA y hl, fun _ _ _ h => h⟩
    · refine step_store rfl fun sg ly a wr hl hd hW hF => ?_
      simp [Region.binds] at hd
      have et8 := hF.new 7 8 (by simp [hd]) rfl
      simp [AdV, Act.eval] at et8
      have et14 := hF.new 5 14 (by simp [hd]) rfl
      simp [AdV, Act.eval] at et14
      have y := (show ly 7 = true by simp [hd])
      have hq := (hW.q2 y).2
      rw [hl] at hq
      have c0 := (cell_of_heap hq 0).trans rfl
      have f0 := frozen_of_heap hq 0
      have c1 := (cell_of_heap hq 1).trans rfl
      have f1 := frozen_of_heap hq 1
      have c2 := (cell_of_heap hq 2).trans rfl
      have f2 := frozen_of_heap hq 2
      have c3 := (cell_of_heap hq 3).trans rfl
      have f3 := frozen_of_heap hq 3
      have zq := heap_lt hq
      exact ⟨_, sg, .skip, by go_simp, .inl rfl, hW.storeB y hl, fun _ _ _ h => h⟩
  intro sg a w5 hWW hF
  have e7 := hF.new 6 7 (by decide) rfl
  have e8 := hF.new 7 8 (by decide) rfl
  obtain ⟨f, hf, rfl⟩ := hF.lit
  rw [← hf] at e7 e8
  simp only [AdV] at e7 e8
  have q1 := (hWW.q1 rfl).2
  have q2 := (hWW.q2 rfl).2
  simp only [List.length_cons, List.length_nil, Nat.reduceAdd, Nat.reduceLT, decide_true, if_true] at q1 q2
  have gs5 := (hWW.bel.block _ (heap_lt HW.out.2.1)).trans HW.out.2.1
  have gh5 := (hWW.bel.block _ (heap_lt HW.out.2.2.1)).trans HW.out.2.2.1
  have go5 := (hWW.bel.block _ (heap_lt HW.out.2.2.2.1)).trans HW.out.2.2.2.1
  have ka0 := eachAg sb sg.2 hb sg.1 (fun k => (ageLo x d h k, ageHi x u h k)) w5 (fun (k : Nat) hk wx hx => aged1_ok x u d h sb sg.2 hb sg.1 k hk HO.out.1 HO.out.2.1 HO.out.2.2 wx ((hx.block _ (heap_lt gs5)).trans gs5) ((hx.block _ (heap_lt q2)).trans q2) ((hx.block _ (heap_lt gh5)).trans gh5) ((hx.block _ (heap_lt q1)).trans q1))
  have hy := HYY.out
  have ka : Calls Try.prog 144 #[.func (.func 145) #[] #[.pointer (some ⟨sb, 0, none⟩), .pointer (some ⟨sg.2, 0, none⟩), .pointer (some ⟨hb, 0, none⟩), .pointer (some ⟨sg.1, 0, none⟩)]] w5 fun e w' => e = .returned (.agg (celA y)) ∧ Below w5.heap.size w5 w' := by
    rw [hy]; exact ka0
  have HA := Lib.hid (And.intro ka (And.intro (HW.out.1.trans (hWW.bel.mono HW.out.1.size)) go5))
  clear hf hF hWW q1 q2 ka ka0 gs5 gh5 go5 hy
  simp only [List.filterMap, List.foldl, List.setIfInBounds_toArray, List.set_cons_succ, List.set_cons_zero, e7, e8]
  clear e7 e8
  go_wp2_with fail
  refine HA.out.1.mono ?_
  rintro e w6 ⟨rfl, b6⟩
  have hh6 := (b6.block _ (heap_lt HA.out.2.2)).trans HA.out.2.2
  have c0 := (cell_of_heap hh6 0).trans rfl
  have f0 := frozen_of_heap hh6 0
  have c1 := (cell_of_heap hh6 1).trans rfl
  have f1 := frozen_of_heap hh6 1
  have c2 := (cell_of_heap hh6 2).trans rfl
  have f2 := frozen_of_heap hh6 2
  have c3 := (cell_of_heap hh6 3).trans rfl
  have f3 := frozen_of_heap hh6 3
  have c4 := (cell_of_heap hh6 4).trans rfl
  have f4 := frozen_of_heap hh6 4
  have c5 := (cell_of_heap hh6 5).trans rfl
  have f5 := frozen_of_heap hh6 5
  have c6 := (cell_of_heap hh6 6).trans rfl
  have f6 := frozen_of_heap hh6 6
  have c7 := (cell_of_heap hh6 7).trans rfl
  have f7 := frozen_of_heap hh6 7
  have zo := heap_lt hh6

  have hfin : ((((((((w6.setCell ⟨ob, 0, none⟩ (.int .i64 y.a0)).setCell ⟨ob, 1, none⟩ (.int .i64 y.a1)).setCell ⟨ob, 2, none⟩ (.int .i64 y.b0)).setCell ⟨ob, 3, none⟩ (.int .i64 y.b1)).setCell ⟨ob, 4, none⟩ (.int .i64 y.c0)).setCell ⟨ob, 5, none⟩ (.int .i64 y.c1)).setCell ⟨ob, 6, none⟩ (.int .i64 y.d0)).setCell ⟨ob, 7, none⟩ (.int .i64 y.d1)).heap[ob]? = some (.cells (celA y) 188 (0, 0)) := (heap_set (heap_set (heap_set (heap_set (heap_set (heap_set (heap_set (heap_set hh6 0 (.int .i64 y.a0)) 1 (.int .i64 y.a1)) 2 (.int .i64 y.b0)) 3 (.int .i64 y.b1)) 4 (.int .i64 y.c0)) 5 (.int .i64 y.c1)) 6 (.int .i64 y.d0)) 7 (.int .i64 y.d1))
  have H7 := Lib.hid (And.intro hfin (((((((((HA.out.2.1.trans (b6.mono HA.out.2.1.size)).setCell (p := ⟨ob, 0, none⟩) HW.out.2.2.2.2 (.int .i64 y.a0)).setCell (p := ⟨ob, 1, none⟩) HW.out.2.2.2.2 (.int .i64 y.a1)).setCell (p := ⟨ob, 2, none⟩) HW.out.2.2.2.2 (.int .i64 y.b0)).setCell (p := ⟨ob, 3, none⟩) HW.out.2.2.2.2 (.int .i64 y.b1)).setCell (p := ⟨ob, 4, none⟩) HW.out.2.2.2.2 (.int .i64 y.c0)).setCell (p := ⟨ob, 5, none⟩) HW.out.2.2.2.2 (.int .i64 y.c1)).setCell (p := ⟨ob, 6, none⟩) HW.out.2.2.2.2 (.int .i64 y.d0)).setCell (p := ⟨ob, 7, none⟩) HW.out.2.2.2.2 (.int .i64 y.d1)))
  clear hh6 hfin b6
  go_wp2_with fail
  exact bodyPost_ret (spans_results (r := 6) rfl H7.out.1 _ rfl) rfl ⟨rfl, H7.out.2⟩

end Go.Proofs.Ytfmhlnfcbbpfeaa
