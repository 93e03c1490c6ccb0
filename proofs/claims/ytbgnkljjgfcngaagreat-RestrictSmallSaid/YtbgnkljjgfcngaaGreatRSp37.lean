/- slices.Repeat of one element (printed by wip/tools/repeat.py) -/
import Derived.Test.YtbgnkljjgfcngaaGreatRSp36
import Derived.Test.YtbgnkljjgfcngaaGreatRSp2
import Derived.IntWalk
import Derived.Test.YtbgnkljjgfcngaaGreatRSp8
import Derived.Test.YtbgnkljjgfcngaaGreatRSp19
import Derived.Test.YtbgnkljjgfcngaaGreatRSp25
import Derived.Test.YtbgnkljjgfcngaaGreatRSp35
import Derived.WalkKit
set_option linter.unusedVariables false
set_option linter.unusedSimpArgs false
namespace Go.Proofs.YtbgnkljjgfcngaaGreat
open Go Go.RowKit Go.Lib Sp
set_option linter.unusedVariables false
set_option linter.unusedSimpArgs false

theorem wpList_copy_run {P : Program} {w : World} {ops : Array Oper} {rest : List Oper} {o : Oper} {a : Act} {Q : Exit → Act → World → Prop} (hgd : o.guard = none) (d s : Operand) (dT sT : TypeId)
    (ho : o.op = .call { callee := .builtin .copy, args := #[d, s], argTypes := #[dT, sT] }) (dv sv : Value) (hd : a.eval d = dv) (hs : a.eval s = sv) (v : Value) (w' : World)
    (hrun : (Builtin.copy_ #[dT, sT] o.type #[dv, sv]).run P w = .ok v w') (h : wpList P ops Q rest (a.put o.dst v) w') : wpList P ops Q (o :: rest) a w := by
  refine wpList_plain hgd fun K hK => ?_
  unfold Oper.wp
  simp [execOp, ho, resolve, invoke, builtin, hd, hs, hrun, Result.andThen]
  exact hK _ _ h
set_option linter.unusedVariables false
def RpCelV (W0 : World) (g n m len : Nat) (ys : List Value) : Nat → Value → Prop
  | 0, v => v = .int .i64 n
  | 1, v => v = .slice (some ⟨g, 0, none⟩) len len
  | 2, v => v = .int .i64 n
  | 3, v => v = .slice (some ⟨g, n * 8, none⟩) (len - n) (len - n)
  | 4, v => v = .slice (some ⟨g, 0, none⟩) len len
  | 5, v => v = .int .i64 n
  | 6, v => v = .slice (some ⟨g, 0, none⟩) n len
  | 7, v => v = .int .i64 m
  | 8, v => v = .int .i64 ((n : Int) + m)
  | 9, v => v = .int .i64 ((n : Int) + m)
  | _, _ => True
def RpCelW (W0 : World) (g n m len : Nat) (ys : List Value) (l : Nat → Bool) (w : World) : Prop := Keep [g] W0 w ∧ ∃ cur, w.heap[g]? = some (.cells cur 54 (0, 0)) ∧ RepSt ys (if l 7 then n + m else n) len cur

set_option maxRecDepth 100000 in
set_option maxHeartbeats 2000000 in
theorem RpCel_any (A : Option Addr) (ca : Nat) (ys : List Value) (hy : ys.length = 8) (h1 : ∀ v ∈ ys, v.oneCell' = true) (len : Nat) (hl : 0 < len) (hl2 : len < 100000) (w : World) (hr : Rd w 8 A 1 ys) :
    Calls Tryz.prog 51 #[.slice A 1 ca, .int .i64 len] w fun e w' => ∃ g, e = .returned (.slice (some ⟨g, 0, none⟩) len len) ∧ (∃ cur, w'.heap[g]? = some (.cells cur 54 (0, 0)) ∧ RepSt ys len len cur) ∧ w.heap.size ≤ g ∧ Below w.heap.size w w' := by
  obtain ⟨b, off, rfl, hb, hc⟩ := hr.2 (by omega)
  have HY := Lib.hid (And.intro hy h1)
  obtain ⟨i0, hi, hz0, hz1, hz2⟩ := info_parts (show (Tryz.prog.info? 54).map (fun i => (i.zero, i.size, i.bytes)) = some (some (.agg #[.int .i64 0, .int .i64 0, .int .i64 0, .int .i64 0, .int .i64 0, .int .i64 0, .int .i64 0, .int .i64 0]), 8, 64) from by kernel_rfl)
  obtain ⟨C, hC⟩ : ∃ C, C = madeCells (Value.agg #[.int .i64 0, .int .i64 0, .int .i64 0, .int .i64 0, .int .i64 0, .int .i64 0, .int .i64 0, .int .i64 0]).cells (len * 8) := ⟨_, rfl⟩
  have hCs : C.size = len * 8 := by rw [hC, size_madeCells]
  have hmk : ∀ w : World, (Instr.makeSlice 47 (.int .i64 len) (.int .i64 len)).run Tryz.prog w = .ok (.slice (some ⟨w.heap.size, 0, none⟩) len len) (w.alloc (.cells C 54)) := fun w => by
    have := run_makeSlice (P := Tryz.prog) w 47 54 i0 _ Tryz.underlying47 hi hz0 .i64 .i64 (len : Int) (len : Int) (by omega) (by omega) (by rw [hz1]; simp; omega) (by rw [hz2]; omega) (by omega)
    rw [hz1] at this
    simp only [Int.toNat_natCast] at this
    rw [hC]; exact this
  have hu1 : IntKind.u64.wrap (len : Int) = (len : Int) := by rw [IntKind.wrap_u64]; omega
  have hu2 : IntKind.i64.wrap (len : Int) = (len : Int) := by rw [IntKind.wrap_i64]; omega
  have n1 : ¬ (len : Int) < 0 := by omega
  have n2 : ¬ (9223372036854775807 : Int) < (len : Int) := by omega
  obtain ⟨W, hW⟩ : ∃ W, W = w.alloc (.cells C 54) := ⟨_, rfl⟩
  obtain ⟨g, hg⟩ : ∃ g, g = w.heap.size := ⟨_, rfl⟩
  have hh : W.heap[g]? = some (.cells C 54 (0, 0)) := by rw [hW, hg]; exact heap_alloc_new _ _
  have bW : Below w.heap.size w W := by rw [hW]; exact (Below.refl _ _).alloc (Nat.le_refl _) _
  have hgw : w.heap.size ≤ g := by omega
  obtain ⟨w2, hrun, ⟨cur1, q1, q2⟩, q3⟩ := rep_first (P := Tryz.prog) (w := W) (dT := 47) (sT := 47) (ty := 3) (dCap := len) (sCap := ca) (ad := ⟨b, off, none⟩) (ys := ys) Tryz.underlying47 (by rw [hy]; kernel_rfl) (by omega) h1 hh (by rw [hCs, hy]) hl
    (fun j v hj => by
      have := hc j v hj
      rw [show (⟨b, off, none⟩ : Addr).add j = ⟨b, off + j, none⟩ from by by_cases h : j = 0 <;> simp [Addr.add, h]]
      exact (bW.cell (p := ⟨b, off + j, none⟩) hb).trans this)
  have HR := Lib.hid (And.intro hh (And.intro bW (And.intro hgw (And.intro q1 (And.intro q2 q3)))))
  have HRUN := Lib.hid hrun
  clear hh bW q1 q2 q3 hrun hc hr hi hz0 hz1 hz2 hC hCs hy h1
  go_enter Tryz.func51, Tryz.ntmps51
  go_upto_region 7 with (go_at_call 64; refine (mul_any len (by omega) _).mono ?_; rintro e w' ⟨rfl, rfl⟩)
  rw [← hW, ← hg]
  clear hmk hu1 hu2 n1 n2 hW hg
  go_wp2_with (refine wpList_copy_run rfl (.tmp 31) (.tmp 32) 47 47 rfl _ _ rfl rfl _ _ HRUN.out ?_)
  go_loopw [8] (fun v wr => ∃ (n : Nat) (cur0 : Array Value), 1 ≤ n ∧ n ≤ len ∧ v = .int .i64 n ∧ wr.heap[g]? = some (.cells cur0 54 (0, 0)) ∧ RepSt ys n len cur0 ∧ Keep [g] W wr) (fun v _ => len - (intOf v).toNat)
  case atStart => exact ⟨1, cur1, by omega, by omega, rfl, HR.out.2.2.2.1, HR.out.2.2.2.2.1, HR.out.2.2.2.2.2⟩
  case round =>
    obtain ⟨n, cur0, hn1, hn2, rfl, hcur, hrep, hK⟩ := hrel
    have HC := Lib.hid (And.intro hcur hrep)
    have HK := Lib.hid hK
    clear hcur hrep hK
    by_cases hlt : n < len
    · obtain ⟨m, hm⟩ : ∃ m, m = min n (len - n) := ⟨_, rfl⟩
      have hmb : 1 ≤ m ∧ m ≤ len - n := by omega
      obtain ⟨hm1, hm2⟩ := hmb
      have HM := Lib.hid hm
      have hlt' : (n : Int) < (len : Int) := by omega
      clear hm
      go_upto_region 9 with fail
      refine wp_region_steps (σ := Unit) (by kernel_rfl) (by kernel_rfl) (fun _ jx vx _ => RpCelV wr g n m len ys jx vx) (fun _ ly wx => RpCelW wr g n m len ys ly wx) () ?_ ?_ ?_
      · exact ⟨(Keep.refl _ _).drew, cur0, HC.out.1, by rw [if_neg (by simp)]; exact HC.out.2⟩
      · simp only [AllFrom, Nat.zero_add, Nat.reduceAdd]
        refine ⟨?_, ?_, ?_, ?_, ?_, ?_, ?_, ?_, ?_, ?_, trivial⟩
        · refine step_pure fun sg ly a wr hl hd hW hF => ?_
          have ny8_8 := hF.notYet 0 8 hl (by kernel_rfl)
          have ny8 := hF.notYet 8 9 ny8_8 (by kernel_rfl)
          have et8 := hF.was 9 8 ny8 (by kernel_rfl)
          simp [Act.eval] at et8
          exact ⟨by simpa [RpCelW, upd] using hW, .int .i64 n, by go_simp, rfl⟩
        · refine step_pure fun sg ly a wr hl hd hW hF => ?_
          have et7 := hF.old 7 (by kernel_rfl)
          simp [Act.eval] at et7
          exact ⟨by simpa [RpCelW, upd] using hW, .slice (some ⟨g, 0, none⟩) len len, by go_simp, rfl⟩
        · refine step_pure fun sg ly a wr hl hd hW hF => ?_
          have ny8_3 := hF.notYet 2 3 hl (by kernel_rfl)
          have ny8_7 := hF.notYet 3 7 ny8_3 (by kernel_rfl)
          have ny8_8 := hF.notYet 7 8 ny8_7 (by kernel_rfl)
          have ny8 := hF.notYet 8 9 ny8_8 (by kernel_rfl)
          have et8 := hF.was 9 8 ny8 (by kernel_rfl)
          simp [Act.eval] at et8
          exact ⟨by simpa [RpCelW, upd] using hW, .int .i64 n, by go_simp, rfl⟩
        · refine step_pure fun sg ly a wr hl hd hW hF => ?_
          simp [Region.binds] at hd
          have et39 := hF.new 1 39 (by simp [hd]) rfl
          simp [RpCelV, Act.eval] at et39
          have et40 := hF.new 2 40 (by simp [hd]) rfl
          simp [RpCelV, Act.eval] at et40
          have b1 : (0 : Int) ≤ (n : Int) := by omega
          have b2 : (n : Int) ≤ (len : Int) := by omega
          have b3 : n < len := hlt
          have b4 : ¬ len = n := by omega
          exact ⟨by simpa [RpCelW, upd] using hW, .slice (some ⟨g, n * 8, none⟩) (len - n) (len - n), by go_simp, rfl⟩
        · refine step_pure fun sg ly a wr hl hd hW hF => ?_
          have et7 := hF.old 7 (by kernel_rfl)
          simp [Act.eval] at et7
          exact ⟨by simpa [RpCelW, upd] using hW, .slice (some ⟨g, 0, none⟩) len len, by go_simp, rfl⟩
        · refine step_pure fun sg ly a wr hl hd hW hF => ?_
          have ny8_6 := hF.notYet 5 6 hl (by kernel_rfl)
          have ny8_7 := hF.notYet 6 7 ny8_6 (by kernel_rfl)
          have ny8_8 := hF.notYet 7 8 ny8_7 (by kernel_rfl)
          have ny8 := hF.notYet 8 9 ny8_8 (by kernel_rfl)
          have et8 := hF.was 9 8 ny8 (by kernel_rfl)
          simp [Act.eval] at et8
          exact ⟨by simpa [RpCelW, upd] using hW, .int .i64 n, by go_simp, rfl⟩
        · refine step_pure fun sg ly a wr hl hd hW hF => ?_
          simp [Region.binds] at hd
          have et42 := hF.new 4 42 (by simp [hd]) rfl
          simp [RpCelV, Act.eval] at et42
          have et43 := hF.new 5 43 (by simp [hd]) rfl
          simp [RpCelV, Act.eval] at et43
          have b1 : (0 : Int) ≤ (n : Int) := by omega
          have b2 : (n : Int) ≤ (len : Int) := by omega
          exact ⟨by simpa [RpCelW, upd] using hW, .slice (some ⟨g, 0, none⟩) n len, by go_simp, rfl⟩
        · refine step_run fun sg ly a wr hl hd hW hF => ?_
          simp [Region.binds] at hd
          have et41 := hF.new 3 41 (by simp [hd]) rfl
          simp [RpCelV, Act.eval] at et41
          have et44 := hF.new 6 44 (by simp [hd]) rfl
          simp [RpCelV, Act.eval] at et44
          obtain ⟨hK, cur, hh, hR⟩ := hW
          rw [if_neg (by simp [hl])] at hR
          obtain ⟨w', hrun, ⟨cur', h1, h2⟩, h3, _⟩ := rep_copy (P := Tryz.prog) (dT := 47) (sT := 47) (ty := 3) (dCap := len - n) (sCap := len) (m := m) Tryz.underlying47 (by rw [HY.out.1]; kernel_rfl) (by rw [HY.out.1]; decide) HY.out.2 hh hR (by omega) HM.out
          rw [HY.out.1] at hrun
          refine ⟨.int .i64 m, w', (), ?_, ⟨hK.trans h3 (by simp), cur', h1, by rw [if_pos (by simp [upd])]; exact h2⟩, rfl, fun _ _ _ h => h⟩
          simp [execOp, resolve, invoke, builtin, Act.eval, et41, et44, hrun, Result.andThen, goInt]
        · refine step_pure fun sg ly a wr hl hd hW hF => ?_
          simp [Region.binds] at hd
          have et38 := hF.new 0 38 (by simp [hd]) rfl
          simp [RpCelV, Act.eval] at et38
          have et45 := hF.new 7 45 (by simp [hd]) rfl
          simp [RpCelV, Act.eval] at et45
          have ew := IntWalk.i64_in ((n : Int) + m) (by omega)
          exact ⟨by simpa [RpCelW, upd] using hW, .int .i64 ((n : Int) + m), by go_simp, rfl⟩
        · refine step_pure fun sg ly a wr hl hd hW hF => ?_
          simp [Region.binds] at hd
          have et46 := hF.new 8 46 (by simp [hd]) rfl
          simp [RpCelV, Act.eval] at et46
          exact ⟨by simpa [RpCelW, upd] using hW, .int .i64 ((n : Int) + m), by go_simp, rfl⟩
      intro _ a w5 hW hF
      have e8 := hF.new 9 8 (by decide) rfl
      obtain ⟨f, hf, rfl⟩ := hF.lit
      rw [← hf] at e8
      simp only [RpCelV] at e8
      obtain ⟨hK5, cur5, h5, hR5⟩ := hW
      simp only [List.length_cons, List.length_nil, Nat.reduceAdd, Nat.reduceLT, decide_true, if_true] at hR5
      have H5 := Lib.hid (And.intro hK5 (And.intro h5 hR5))
      clear hf hF hK5 h5 hR5
      simp only [List.filterMap, List.foldl, List.setIfInBounds_toArray, List.set_cons_succ, List.set_cons_zero, e8]
      clear e8
      go_wp2_with fail
      go_roundw
      case measure => simp [intOf]; omega
      case rel => exact ⟨n + m, cur5, by omega, by omega, by simp, H5.out.2.1, H5.out.2.2, HK.out.trans H5.out.1 (by simp)⟩
    · obtain rfl : n = len := by omega
      go_wp2_with fail
      go_ret
      exact ⟨g, rfl, ⟨cur0, HC.out.1, HC.out.2⟩, HR.out.2.2.1, HR.out.2.1.trans (HK.out.below HR.out.2.1.size (by simpa using HR.out.2.2.1))⟩
end Go.Proofs.YtbgnkljjgfcngaaGreat
/- ice.Blank, of right sides and hour -/
namespace Go.Proofs.YtbgnkljjgfcngaaGreat
open Go Go.RowKit Go.Lib Sp
set_option linter.unusedVariables false
set_option linter.unusedSimpArgs false

theorem chart_results {F : Func} {r s : Nat} (hF : F.results = #[.cell r 49, .tmp s]) {W : World} {b : Nat} {x y z : Int} {A : Option Addr} {n c : Nat} (h : W.heap[b]? = some (.cells #[.int .i64 x, .int .i64 y, .int .i64 z, .slice A n c] 49 (0, 0))) (tmps : Array Value) (v : Value) (hr : tmps.getD r undef = .pointer (some ⟨b, 0, none⟩)) (hs : tmps.getD s undef = v) :
    (results F tmps).run Tryz.prog W = .ok (.tuple #[.agg #[.int .i64 x, .int .i64 y, .int .i64 z, .slice A n c], v]) W := by
  have g4 : tmps[r]?.getD undef = .pointer (some ⟨b, 0, none⟩) := by simpa using hr
  have g5 : tmps[s]?.getD undef = v := by simpa using hs
  have c0 : W.cell? ⟨b, 0, none⟩ = some (.int .i64 x) := (cell_of_heap h 0).trans rfl
  have c1 : W.cell? ⟨b, 1, none⟩ = some (.int .i64 y) := (cell_of_heap h 1).trans rfl
  have c2 : W.cell? ⟨b, 2, none⟩ = some (.int .i64 z) := (cell_of_heap h 2).trans rfl
  have c3 : W.cell? ⟨b, 3, none⟩ = some (.slice A n c) := (cell_of_heap h 3).trans rfl
  simp [results, hF, g4, g5, asAddr, go_sem, c0, c1, c2, c3]
theorem celW_rd (W : World) : Rd (W.alloc (.cells #[.int .i64 0, .int .i64 100, .int .i64 0, .int .i64 400, .int .i64 0, .int .i64 100, .int .i64 0, .int .i64 3] 54)) 8 (some ⟨W.heap.size, 0, none⟩) 1 (cel celW) :=
  ⟨rfl, fun _ => ⟨_, 0, rfl, by simp, fun j u hu => by rw [Nat.zero_add, World.cell?_alloc_new]; simpa [cel, celW] using hu⟩⟩
theorem cel_one (x : Cel) : ∀ v ∈ cel x, v.oneCell' = true := by
  intro u hx
  simp [cel] at hx
  rcases hx with rfl | rfl | rfl | rfl | rfl | rfl | rfl | rfl <;> rfl

def BlankPost (w : World) (a b h : Int) (n : Nat) (e : Ending) (w' : World) : Prop :=
  ∃ g, e = .returned (.tuple #[.agg #[.int .i64 a, .int .i64 b, .int .i64 h, .slice (some ⟨g, 0, none⟩) n n], .int .i64 0]) ∧ (∃ cur, w'.heap[g]? = some (.cells cur 54 (0, 0)) ∧ RepSt (cel celW) n n cur) ∧ w.heap.size ≤ g ∧ Below w.heap.size w w'
set_option maxRecDepth 100000 in
set_option maxHeartbeats 2000000 in
theorem blank_ok (a b h : Int) (n : Nat) (hn : a * b = n) (h0 : sizeE a b h = 0) (w : World) :
    Calls Tryz.prog 8 #[.int .i64 a, .int .i64 b, .int .i64 h] w (BlankPost w a b h n) := by
  obtain ⟨⟨a1, a2⟩, ⟨b1, b2⟩, p1, p2⟩ := size_zero h0
  have hn1 : 0 < n := by
    have := Int.mul_pos (show (0 : Int) < a by omega) (show (0 : Int) < b by omega)
    omega
  have hn2 : n ≤ 1024 := by omega
  obtain ⟨W, hW⟩ : ∃ W, W = w.alloc (.cells #[.int .i64 0, .int .i64 0, .int .i64 0, .slice none 0 0] 49) := ⟨_, rfl⟩
  obtain ⟨rb, hrb⟩ : ∃ b, b = w.heap.size := ⟨_, rfl⟩
  have hh : W.heap[rb]? = some (.cells #[.int .i64 0, .int .i64 0, .int .i64 0, .slice none 0 0] 49 (0, 0)) := by rw [hW, hrb]; exact heap_alloc_new _ _
  have bW : Below w.heap.size w W := by rw [hW]; exact (Below.refl _ _).alloc (Nat.le_refl _) _
  have hrw : w.heap.size ≤ rb := by omega
  have ks := size_any a b h W
  rw [h0] at ks
  have kr := fun W => RpCel_any (some ⟨World.heap W |>.size, 0, none⟩) 1 (cel celW) rfl (cel_one _) n hn1 (by omega) _ (celW_rd W)
  have hw1 : IntKind.i64.wrap (a * b) = (n : Int) := by rw [hn]; exact IntWalk.i64_in _ (by omega)
  have HR := Lib.hid (And.intro hh (And.intro bW (And.intro hrw (And.intro ks kr))))
  clear hh bW hrw ks kr hn h0 p1 p2
  go_enter Tryz.func8, Tryz.ntmps8
  go_upto_region 1 with fail
  rw [← hW, ← hrb]
  clear hW hrb
  go_upto_region 4 with (go_at_call 50; refine HR.out.2.2.2.1.mono ?_; rintro e w' ⟨rfl, rfl⟩)
  go_wp2_with fail
  refine (Whole_any _).mono ?_
  rintro e w1 ⟨rfl, b1⟩
  go_wp2_with fail
  refine (HR.out.2.2.2.2 w1).mono ?_
  rintro e w2 ⟨g, rfl, hg, hgw, b2⟩
  have b02 : Below w.heap.size w w2 := HR.out.2.1.trans ((b1.trans ((((Below.refl _ _).alloc (Nat.le_refl _) _).trans (b2.mono (by simp))).mono b1.size)).mono HR.out.2.1.size)
  have bW2 : Below W.heap.size W w2 := b1.trans ((((Below.refl _ _).alloc (Nat.le_refl _) _).trans (b2.mono (by simp))).mono b1.size)
  have hh2 := (bW2.block _ (heap_lt HR.out.1)).trans HR.out.1
  have hgr : rb ≠ g := by have := heap_lt HR.out.1; have := b1.size; simp at hgw; omega
  have c0 := (cell_of_heap hh2 0).trans rfl
  have c1 := (cell_of_heap hh2 1).trans rfl
  have c2 := (cell_of_heap hh2 2).trans rfl
  have c3 := (cell_of_heap hh2 3).trans rfl
  have f0 := frozen_of_heap hh2 0
  have f1 := frozen_of_heap hh2 1
  have f2 := frozen_of_heap hh2 2
  have f3 := frozen_of_heap hh2 3
  have zo := heap_lt hh2
  have hfin : ((((w2.setCell ⟨rb, 0, none⟩ (.int .i64 a)).setCell ⟨rb, 1, none⟩ (.int .i64 b)).setCell ⟨rb, 2, none⟩ (.int .i64 h)).setCell ⟨rb, 3, none⟩ (.slice (some ⟨g, 0, none⟩) n n)).heap[rb]? = some (.cells #[.int .i64 a, .int .i64 b, .int .i64 h, .slice (some ⟨g, 0, none⟩) n n] 49 (0, 0)) := heap_set (heap_set (heap_set (heap_set hh2 0 (.int .i64 a)) 1 (.int .i64 b)) 2 (.int .i64 h)) 3 (.slice (some ⟨g, 0, none⟩) n n)
  have bfin : Below w.heap.size w ((((w2.setCell ⟨rb, 0, none⟩ (.int .i64 a)).setCell ⟨rb, 1, none⟩ (.int .i64 b)).setCell ⟨rb, 2, none⟩ (.int .i64 h)).setCell ⟨rb, 3, none⟩ (.slice (some ⟨g, 0, none⟩) n n)) := (((b02.setCell (p := ⟨rb, 0, none⟩) HR.out.2.2.1 _).setCell (p := ⟨rb, 1, none⟩) HR.out.2.2.1 _).setCell (p := ⟨rb, 2, none⟩) HR.out.2.2.1 _).setCell (p := ⟨rb, 3, none⟩) HR.out.2.2.1 _
  have hgf : ∃ cur, ((((w2.setCell ⟨rb, 0, none⟩ (.int .i64 a)).setCell ⟨rb, 1, none⟩ (.int .i64 b)).setCell ⟨rb, 2, none⟩ (.int .i64 h)).setCell ⟨rb, 3, none⟩ (.slice (some ⟨g, 0, none⟩) n n)).heap[g]? = some (.cells cur 54 (0, 0)) ∧ RepSt (cel celW) n n cur := by
    obtain ⟨cur, q1, q2⟩ := hg
    exact ⟨cur, heap_set_ne (heap_set_ne (heap_set_ne (heap_set_ne q1 (Ne.symm hgr) _) (Ne.symm hgr) _) (Ne.symm hgr) _) (Ne.symm hgr) _, q2⟩
  have hgw' : w.heap.size ≤ g := by have := b1.size; have := HR.out.2.1.size; simp at hgw; omega
  have H3 := Lib.hid (And.intro hfin (And.intro bfin (And.intro hgf hgw')))
  clear hh2 hfin bfin hgf hgw' hgw hg b1 b2 b02 bW2 hgr
  go_wp2_with fail
  exact bodyPost_ret (chart_results (r := 6) (s := 7) rfl H3.out.1 _ _ rfl rfl) rfl ⟨g, rfl, H3.out.2.2.1, H3.out.2.2.2, H3.out.2.1⟩
end Go.Proofs.YtbgnkljjgfcngaaGreat
/- RestrictSmall: the calls of its rounds. -/
namespace Go.Proofs.YtbgnkljjgfcngaaGreat
open Go Go.RowKit Sp
set_option linter.unusedVariables false

def polF (f : Nat → Int) : Pol := ⟨[⟨f 4, 0, 0, f 5⟩, ⟨f 6, f 7, f 8, f 9⟩, ⟨3, 2000, f 10, f 11⟩], f 0, f 1, f 2, f 3⟩
def dayF (f : Nat → Int) : List Int := [120, 130, f 12, 220, f 13, 50, 40, 30, 20]
section
variable {D : Nat} {W0 w : World} {sb db pb xb yb ab tb ib : Nat} {f : Nat → Int}
theorem small_steps (h : Blks D W0 (numL sb db pb xb yb ab tb ib f) w) (hf : ∀ k, -9223372036854775808 ≤ f k) {ob : Nat} (ho : w.heap[ob]? = some (.cells #[.int .i64 1, .int .i64 2, .int .i64 1, .int .i64 3, .int .i64 4, .int .i64 2] 40 (0, 0))) :
    Calls Tryz.prog 6 #[.agg #[.slice (some ⟨sb, 0, none⟩) 3 3, .int .i64 (f 0), .int .i64 (f 1), .int .i64 (f 2), .int .i64 (f 3)], .slice (some ⟨db, 0, none⟩) 9 9, .slice (some ⟨ob, 0, none⟩) 2 2, .int .i64 (f 18), .int .i64 (f 19), .agg #[.int .i64 (f 20), .int .i64 (f 21)]] w fun e w' => e = .returned (.bool true) ∧ Below w.heap.size w w' :=
  steps_any (some ⟨sb, 0, none⟩) 3 (polF f) (some ⟨db, 0, none⟩) 9 (dayF f) (some ⟨ob, 0, none⟩) 2 [⟨1, 2, 1⟩, ⟨3, 4, 2⟩] (f 18) (f 19) (f 20) (f 21) w
    ⟨Nat.le_refl 3, by simp [maxLen], rd_heap (cs := stcs (polF f).steps) (h.heap 0 rfl) rfl⟩ (fun e => by cases e) (rd_heap (cs := ints (dayF f)) (h.heap 1 rfl) rfl) (rd_heap (cs := occs [⟨1, 2, 1⟩, ⟨3, 4, 2⟩]) ho rfl) (fun e => by cases e) (hf 21)
theorem small_ves (h : Blks D W0 (numL sb db pb xb yb ab tb ib f) w) {ob : Nat} (ho : w.heap[ob]? = some (.cells #[.int .i64 2, .int .i64 2000, .bool false, .int .i64 (f 16), .int .i64 (f 17), .int .i64 (f 14), .int .i64 (f 15), .bool false, .int .i64 2, .int .i64 4] 31 (0, 0))) :
    Calls Tryz.prog 7 #[.agg #[.slice (some ⟨sb, 0, none⟩) 3 3, .int .i64 (f 0), .int .i64 (f 1), .int .i64 (f 2), .int .i64 (f 3)], .slice (some ⟨db, 0, none⟩) 9 9, .agg #[.int .i64 (f 14), .int .i64 (f 15), .bool false], .int .i64 (f 18), .int .i64 7, .slice (some ⟨ob, 0, none⟩) 2 2] w fun e w' => e = .returned (.bool true) ∧ Below w.heap.size w w' :=
  vessels_any (some ⟨sb, 0, none⟩) 3 (polF f) (some ⟨db, 0, none⟩) 9 (dayF f) (some ⟨ob, 0, none⟩) 2 [⟨⟨2, 2000, false⟩, f 16, f 17⟩, ⟨⟨f 14, f 15, false⟩, 2, 4⟩] ⟨f 14, f 15, false⟩ (f 18) 7 w
    ⟨Nat.le_refl 3, by simp [maxLen], rd_heap (cs := stcs (polF f).steps) (h.heap 0 rfl) rfl⟩ (fun e => by cases e) (rd_heap (cs := ints (dayF f)) (h.heap 1 rfl) rfl) (rd_heap (cs := pscs [⟨⟨2, 2000, false⟩, f 16, f 17⟩, ⟨⟨f 14, f 15, false⟩, 2, 4⟩]) ho rfl) (fun e => by cases e)
end
def polE (a b c : Int) : Pol := ⟨exP.steps, a, b, c, 2⟩
/-- the example's steps in a block -/
def ExAt (sb : Nat) (w : World) : Prop := w.heap[sb]? = some (.cells #[.int .i64 0, .int .i64 0, .int .i64 0, .int .i64 0, .int .i64 1, .int .i64 2000, .int .i64 100, .int .i64 60, .int .i64 3, .int .i64 2000, .int .i64 200, .int .i64 150] 36 (0, 0))
theorem ExAt.pol {sb : Nat} {w : World} (h : ExAt sb w) (a b c : Int) : PolV w (some ⟨sb, 0, none⟩) 3 (polE a b c) := ⟨Nat.le_refl 3, by simp [maxLen], rd_heap (cs := stcs exP.steps) h rfl⟩
theorem ExAt.below {sb : Nat} {w w' : World} (h : ExAt sb w) (hb : Below w.heap.size w w') : ExAt sb w' := (hb.block _ (heap_lt h)).trans h
theorem small_bnd {D : Nat} {W0 w : World} {lb cb jb gb hb : Nat} {f : Nat → Int} (h : Blks D W0 (numR lb cb jb gb hb f) w) {sb : Nat} (hs : ExAt sb w) (day : Int) :
    Calls Tryz.prog 9 #[.agg #[.slice (some ⟨sb, 0, none⟩) 3 3, .int .i64 2, .int .i64 3, .int .i64 1, .int .i64 2], .slice (some ⟨lb, 0, none⟩) 3 3, .agg #[.int .i64 2, .int .i64 3000, .bool false], .int .i64 day, .agg #[.int .i64 (f 0), .int .i64 (f 1), .int .i64 (f 2), .int .i64 (f 3)], .agg #[.int .i64 2, .int .i64 1, .int .i64 7, .slice (some ⟨gb, 0, none⟩) 2 2], .slice (some ⟨cb, 0, none⟩) 2 2] w fun e w' => e = .returned (.bool true) ∧ Below w.heap.size w w' :=
  bounds_all (some ⟨sb, 0, none⟩) 3 (polE 2 3 1) (some ⟨lb, 0, none⟩) 3 [(90, 210), (f 4, 150), (0, f 5)] ⟨2, 3000, false⟩ day ⟨f 0, f 1, f 2, f 3⟩ 2 1 7 (some ⟨gb, 0, none⟩) 2 [celW, ⟨0, 100, 0, f 7, 0, 100, 0, 3⟩] (some ⟨cb, 0, none⟩) 2 [0, f 6] w
    (hs.pol 2 3 1) (fun e => by cases e) (rd_heap (cs := spcs [(90, 210), (f 4, 150), (0, f 5)]) (h.heap 0 rfl) rfl) (rd_heap (cs := cels [celW, ⟨0, 100, 0, f 7, 0, 100, 0, 3⟩]) (h.heap 3 rfl) rfl) (fun e => by cases e) (rd_heap (cs := ints [0, f 6]) (h.heap 1 rfl) rfl)
theorem small_late {w : World} {sb db : Nat} (hs : ExAt sb w) (hd : w.heap[db]? = some (.cells #[.int .i64 120, .int .i64 130, .int .i64 210, .int .i64 220, .int .i64 90, .int .i64 50, .int .i64 40, .int .i64 30, .int .i64 20] 3 (0, 0))) (v : Int) :
    Calls Tryz.prog 7 #[.agg #[.slice (some ⟨sb, 0, none⟩) 3 3, .int .i64 2, .int .i64 3, .int .i64 1, .int .i64 2], .slice (some ⟨db, 0, none⟩) 9 9, .agg #[.int .i64 3, .int .i64 0, .bool false], .int .i64 2, .int .i64 v, .slice none 0 0] w fun e w' => e = .returned (.bool true) ∧ Below w.heap.size w w' :=
  vessels_any (some ⟨sb, 0, none⟩) 3 (polE 2 3 1) (some ⟨db, 0, none⟩) 9 exD none 0 [] ⟨3, 0, false⟩ 2 v w (hs.pol 2 3 1) (fun e => by cases e) (rd_heap (cs := ints exD) hd rfl) ⟨rfl, fun h => absurd h (by decide)⟩ (fun _ => ⟨rfl, rfl⟩)
theorem small_five {w : World} {sb db ob : Nat} {d0 d1 d2 d3 d4 fr day step lo hi : Int} (hs : ExAt sb w) (hd : w.heap[db]? = some (.cells #[.int .i64 d0, .int .i64 d1, .int .i64 d2, .int .i64 d3, .int .i64 d4] 3 (0, 0))) (ho : w.heap[ob]? = some (.cells #[.int .i64 0, .int .i64 fr, .int .i64 1] 40 (0, 0))) (a b c : Int) (hhi : 0 ≤ hi) :
    Calls Tryz.prog 6 #[.agg #[.slice (some ⟨sb, 0, none⟩) 3 3, .int .i64 a, .int .i64 b, .int .i64 c, .int .i64 2], .slice (some ⟨db, 0, none⟩) 5 5, .slice (some ⟨ob, 0, none⟩) 1 1, .int .i64 day, .int .i64 step, .agg #[.int .i64 lo, .int .i64 hi]] w fun e w' => e = .returned (.bool true) ∧ Below w.heap.size w w' :=
  steps_any (some ⟨sb, 0, none⟩) 3 (polE a b c) (some ⟨db, 0, none⟩) 5 [d0, d1, d2, d3, d4] (some ⟨ob, 0, none⟩) 1 [⟨0, fr, 1⟩] day step lo hi w
    (hs.pol a b c) (fun e => by cases e) (rd_heap (cs := ints [d0, d1, d2, d3, d4]) hd rfl) (rd_heap (cs := occs [⟨0, fr, 1⟩]) ho rfl) (fun e => by cases e) (by omega)
theorem rep_two {cur : Array Value} (h : RepSt (cel celW) 2 2 cur) : cur = #[.int .i64 0, .int .i64 100, .int .i64 0, .int .i64 400, .int .i64 0, .int .i64 100, .int .i64 0, .int .i64 3, .int .i64 0, .int .i64 100, .int .i64 0, .int .i64 400, .int .i64 0, .int .i64 100, .int .i64 0, .int .i64 3] := by
  refine Array.ext_getElem? fun i => ?_
  have hl : (cel celW).length = 8 := rfl
  by_cases hi : i < 16
  · rw [h.2 i (by rw [hl]; omega), hl]
    have : ∀ i : Fin 16, (cel celW)[i.1 % 8]? = (#[.int .i64 0, .int .i64 100, .int .i64 0, .int .i64 400, .int .i64 0, .int .i64 100, .int .i64 0, .int .i64 3, .int .i64 0, .int .i64 100, .int .i64 0, .int .i64 400, .int .i64 0, .int .i64 100, .int .i64 0, .int .i64 3] : Array Value)[i.1]? := by
      intro i
      match i with
      | ⟨0, _⟩ | ⟨1, _⟩ | ⟨2, _⟩ | ⟨3, _⟩ | ⟨4, _⟩ | ⟨5, _⟩ | ⟨6, _⟩ | ⟨7, _⟩ | ⟨8, _⟩ | ⟨9, _⟩ | ⟨10, _⟩ | ⟨11, _⟩ | ⟨12, _⟩ | ⟨13, _⟩ | ⟨14, _⟩ | ⟨15, _⟩ => first | rfl | simp [cel, celW]
      | ⟨n + 16, h⟩ => exact absurd h (by omega)
    exact this ⟨i, hi⟩
  · have h1 := h.1
    rw [hl] at h1
    rw [Array.getElem?_eq_none (by omega), Array.getElem?_eq_none (by simp; omega)]
end Go.Proofs.YtbgnkljjgfcngaaGreat
/- The loops of a function's text, in its order: for a loop's round as a theorem of its own. -/
namespace Go.Proofs.YtbgnkljjgfcngaaGreat
open Go

def loopsOf : Code → List Code
  | .loop c => c :: loopsOf c
  | .seq a b => loopsOf a ++ loopsOf b
  | .block _ c => loopsOf c
  | .scope c => loopsOf c
  | .cond _ a b => loopsOf a ++ loopsOf b
  | _ => []
noncomputable def loopBody (f : Func) (i : Nat) : Code := ((loopsOf (f.body.getD .skip))[i]?).getD .skip
end Go.Proofs.YtbgnkljjgfcngaaGreat
