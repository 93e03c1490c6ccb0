/- polynyaref09: begun -/
import Derived.Test.YthmldeningpjbaaPFp31
import Derived.Test.YthmldeningpjbaaPFp35
import Derived.Test.YthmldeningpjbaaPFp13
import Derived.Test.YthmldeningpjbaaPFp9
import Derived.Test.YthmldeningpjbaaPFp14
import Derived.Test.YthmldeningpjbaaPFp25
set_option linter.unusedVariables false
set_option linter.unusedSimpArgs false
namespace Go.Proofs.Ythmldeningpjbaa
open Go Go.RowKit Sp Pt
set_option linter.unusedVariables false
set_option linter.unusedSimpArgs false
def BegunPost (w : World) (p : Prt) (s : Stt) (l : Pln) (e : Ending) (w' : World) : Prop := e = .returned (.int .i64 (startE p s l)) ∧ Below w.heap.size w w'

set_option maxRecDepth 100000 in
set_option maxHeartbeats 4000000 in
theorem begun_any (D : Nat) (Ac : Option Addr) (cc : Nat) (Ab : Option Addr) (cb : Nat) (p : Prt) (Ar : Option Addr) (cr : Nat) (Au : Option Addr) (cu : Nat) (s : Stt) (Al : Option Addr) (cl : Nat) (As : Option Addr) (cs : Nat) (l : Pln) (w : World)
    (PB : PrtB D w Ac cc Ab cb p) (SB : SttB D w Ar cr Au cu s) (LB : PlnB D w Al cl As cs l) (hD : D ≤ w.heap.size) :
    Calls Try.prog 93 #[.agg (prtV Ac cc Ab cb p), .agg (sttV Ar cr Au cu s), .agg (plnV Al cl As cs l)] w (BegunPost w p s l) := by
  obtain ⟨pb, hpb⟩ : ∃ b, b = w.heap.size := ⟨_, rfl⟩
  obtain ⟨sb, hsb⟩ : ∃ b, b = w.heap.size + 1 := ⟨_, rfl⟩
  obtain ⟨lb, hlb⟩ : ∃ b, b = w.heap.size + 1 + 1 := ⟨_, rfl⟩
  obtain ⟨W, hW⟩ : ∃ W, W = ((w.alloc (.cells (prtV Ac cc Ab cb p) 79)).alloc (.cells (sttV Ar cr Au cu s) 81)).alloc (.cells (plnV Al cl As cs l) 85) := ⟨_, rfl⟩
  have O0 : Own w.heap.size w [.blk pb (.cells (prtV Ac cc Ab cb p) 79), .blk sb (.cells (sttV Ar cr Au cu s) 81), .blk lb (.cells (plnV Al cl As cs l) 85)] W := by
    have h := ((((Own.start w).alloc (.cells (prtV Ac cc Ab cb p) 79)).alloc (.cells (sttV Ar cr Au cu s) 81)).alloc (.cells (plnV Al cl As cs l) 85))
    rw [hW, hpb, hsb, hlb]
    simpa using h
  have hDW : D ≤ W.heap.size := Nat.le_trans hD O0.bel.size
  obtain ⟨er, her⟩ : ∃ er, er = checkL p l := ⟨_, rfl⟩
  have kck : Calls Try.prog 53 #[.agg (prtV Ac cc Ab cb p), .agg (plnV Al cl As cs l)] W _ := rCheckPlan_any D Ac cc Ab cb p Al cl As cs l W (PB.below (O0.bel.mono hD)) (LB.below (O0.bel.mono hD)) hDW
  rw [← her] at kck
  have hcap := And.intro PB.c1 (And.intro PB.c2 (And.intro LB.c1 (And.intro LB.c2 (And.intro SB.c1 SB.c2))))
  have cellsAt : ∀ wx, Below w.heap.size w wx → Own w.heap.size w [.blk pb (.cells (prtV Ac cc Ab cb p) 79), .blk sb (.cells (sttV Ar cr Au cu s) 81), .blk lb (.cells (plnV Al cl As cs l) 85)] wx → wx.cell? ⟨pb, 0, none⟩ = some (.slice Ac p.chs.length cc) ∧ wx.cell? ⟨pb, 1, none⟩ = some (.slice Ab p.bts.length cb) ∧ wx.cell? ⟨pb, 2, none⟩ = some (.int .i64 p.tugs) ∧ wx.cell? ⟨lb, 0, none⟩ = some (.int .i64 l.hours) ∧ wx.cell? ⟨lb, 1, none⟩ = some (.slice Al l.calls.length cl) ∧ wx.cell? ⟨lb, 2, none⟩ = some (.slice As l.swps.length cs) ∧ wx.cell? ⟨sb, 0, none⟩ = some (.slice Ar s.brash.length cr) ∧ wx.cell? ⟨sb, 1, none⟩ = some (.slice Au s.busy.length cu) ∧ pb < wx.heap.size ∧ sb < wx.heap.size ∧ lb < wx.heap.size := fun wx hb O => by
    have h0 := O.heap 0 rfl
    have h1 := O.heap 1 rfl
    have h2 := O.heap 2 rfl
    exact ⟨(cell_of_heap h0 0).trans rfl, (cell_of_heap h0 1).trans rfl, (cell_of_heap h0 2).trans rfl, (cell_of_heap h2 0).trans rfl, (cell_of_heap h2 1).trans rfl, (cell_of_heap h2 2).trans rfl, (cell_of_heap h1 0).trans rfl, (cell_of_heap h1 1).trans rfl, heap_lt h0, heap_lt h1, heap_lt (O.heap 2 rfl)⟩
  obtain ⟨c0, c1, cx, cy, cz, cw, c2, c3, z0, z1, z2⟩ := cellsAt W O0.bel O0
  have H := Lib.hid (And.intro O0 (And.intro cellsAt (And.intro SB (And.intro her (And.intro kck hD)))))
  clear O0 cellsAt her kck PB LB SB
  go_enter Try.func93, Try.ntmps93
  go_upto_region 1 with fail
  rw [← hW, ← hlb, ← hsb, ← hpb]
  clear hW hlb hsb hpb
  by_cases h0 : er = 0
  · subst h0
    go_upto_region 4 with (go_at_call 53; refine H.out.2.2.2.2.1.mono ?_; rintro e w1 ⟨rfl, b1⟩; have O1 := Lib.hid (H.out.1.below b1); clear b1)
    clear c0 c1 cx cy cz cw c2 c3 z0 z1 z2
    obtain ⟨c0, c1, cx, cy, cz, cw, c2, c3, z0, z1, z2⟩ := H.out.2.1 w1 O1.out.bel O1.out
    have hck : checkL p l = 0 := H.out.2.2.2.1.symm
    have bad : startE p s l = 1 → BegunPost w p s l (.returned (.int .i64 1)) w1 := fun h => ⟨by rw [h], O1.out.bel⟩
    have HBad := Lib.hid bad
    clear bad
    by_cases h1 : s.brash.length = p.chs.length
    · by_cases h2 : s.busy.length = p.bts.length
      · have q1 : ((s.brash.length : Int) != (p.chs.length : Int)) = false := by simp [h1]
        have q2 : ((s.busy.length : Int) != (p.bts.length : Int)) = false := by simp [h2]
        have v := val_of hck
        have hnc := v.nc
        have HC := Lib.hid (And.intro hck (And.intro h1 h2))
        obtain ⟨N, hN⟩ : ∃ N, N = s.brash.length := ⟨_, rfl⟩
        have hN1 : 1 ≤ N ∧ N ≤ 6 := by omega
        have hcap1 : N ≤ cr ∧ cr ≤ 9223372036854775807 := by have := H.out.2.2.1.c1; omega
        rw [← hN] at c2 q1
        have HN := Lib.hid hN
        clear hck v h1 h2 hN
        go_wp2_with fail
        clear c0 c1 cx cy cz cw c2 c3 z0 z1 z2
        go_loopg [8] (N) (fun g i wr => ∃ k : Nat, g + k = N ∧ i = .int .i64 k ∧ (∀ x ∈ s.brash.take k, 0 ≤ x ∧ x ≤ 1000000) ∧ Own w.heap.size w [.blk pb (.cells (prtV Ac cc Ab cb p) 79), .blk sb (.cells (sttV Ar cr Au cu s) 81), .blk lb (.cells (plnV Al cl As cs l) 85)] wr)
        case atStart => exact ⟨0, rfl, rfl, by simp, O1.out⟩
        case round =>
          obtain ⟨k, hk, rfl, hpre, hO⟩ := hrel
          obtain ⟨c0, c1, cx, cy, cz, cw, c2, c3, z0, z1, z2⟩ := H.out.2.1 wr hO.bel hO
          rw [← HN.out] at c2
          clear c0 c1 cx cy cz cw c3
          have HP := Lib.hid (And.intro hpre hO)
          clear hpre hO
          by_cases hlt : k < N
          · obtain ⟨bc, oc, hAc, hbc, hcc⟩ := (H.out.2.2.1.below (HP.out.2.bel.mono hD)).br.2 (by have := HN.out; omega)
            obtain ⟨y, hy⟩ : ∃ y, y = getI s.brash k := ⟨_, rfl⟩
            have p2 : wr.cell? ⟨bc, oc + k, none⟩ = some (.int .i64 y) := by
              have := hcc k _ (ints_get (l := s.brash) (k := k) (by have := HN.out; omega))
              rw [this, hy]; simp [getI]
            rw [hAc] at c2
            have zbc : bc < wr.heap.size := by have := HP.out.2.bel.size; omega
            have hyk : s.brash.take (k + 1) = s.brash.take k ++ [y] := by
              rw [List.take_succ_eq_append_getElem (by have := HN.out; omega), hy]; simp [getI, List.getD_eq_getElem?_getD, List.getElem?_eq_getElem (show k < s.brash.length by have := HN.out; omega)]
            have HY := Lib.hid (And.intro hyk hAc)
            clear hyk hAc hcc hy hbc
            have mono : (k : Int) < (N : Int) := by omega
            cases hw : within y 0 1000000
            · go_wp2_with (go_at_call 102; refine (rin9_any _ _ _ _).mono ?_; rintro e w' ⟨rfl, rfl⟩)
              go_ret
              have h := startE_2 (s := s) HC.out.1 (.inr (.inr (by rw [List.any_eq_true]; exact ⟨y, List.mem_of_mem_take (i := k + 1) (by rw [HY.out.1]; simp), by rw [hw]; rfl⟩)))
              exact ⟨by rw [h]; rfl, HP.out.2.bel⟩
            · have hy1 := Pt.within_iff.1 hw
              go_wp2_with (go_at_call 102; refine (rin9_any _ _ _ _).mono ?_; rintro e w' ⟨rfl, rfl⟩)
              go_roundg (gk - 1)
              case measure => omega
              case rel => exact ⟨k + 1, by omega, by go_num, by
                rw [HY.out.1]; intro x hx
                rcases List.mem_append.1 hx with e | e
                · exact HP.out.1 x e
                · rw [List.mem_singleton.1 e]; exact hy1, HP.out.2⟩
          · obtain rfl : k = N := by omega
            go_wp2_with fail
            go_ret
            have h := startE_3 (s := s) HC.out.1 HC.out.2.1 HC.out.2.2 (by
              rw [List.any_eq_false]; intro x hx
              have := HP.out.1 x (by rw [HN.out, List.take_length]; exact hx)
              simp [Pt.within_iff.2 this])
            exact ⟨by rw [h]; rfl, HP.out.2.bel⟩
      · have q1 : ((s.brash.length : Int) != (p.chs.length : Int)) = false := by simp [h1]
        have q2 : ((s.busy.length : Int) != (p.bts.length : Int)) = true := by simpa using (show ¬ (s.busy.length : Int) = (p.bts.length : Int) by omega)
        have h := HBad.out (startE_2 hck (.inr (.inl h2)))
        have HF := Lib.hid h
        clear h h1 h2
        go_wp2_with fail
        go_ret
        exact HF.out
    · have q1 : ((s.brash.length : Int) != (p.chs.length : Int)) = true := by simpa using (show ¬ (s.brash.length : Int) = (p.chs.length : Int) by omega)
      have h := HBad.out (startE_2 hck (.inl h1))
      have HF := Lib.hid h
      clear h h1
      go_wp2_with fail
      go_ret
      exact HF.out
  · have hne0 : (er != 0) = true := by simp [h0]
    have hfe : startE p s l = er := startE_1 H.out.2.2.2.1.symm h0
    go_wp2_with (go_at_call 53; refine H.out.2.2.2.2.1.mono ?_; rintro e w1 ⟨rfl, b1⟩; have O1 := Lib.hid (H.out.1.below b1); clear b1)
    go_ret
    exact ⟨by rw [hfe]; rfl, O1.out.bel⟩
end Go.Proofs.Ythmldeningpjbaa
/- port.Run (printed by wip/tools/ptrunf.py) -/
namespace Go.Proofs.Ythmldeningpjbaa
open Go Go.RowKit Sp Pt
set_option linter.unusedVariables false
set_option linter.unusedSimpArgs false

theorem cbNothing (a : Array Value) (w : World) : (callFunc 74 a).run Try.prog w = .ok (.enter 74 a) w := by go_simp
def runE (p : Prt) (s : Stt) (l : Pln) : Int := if startE p s l ≠ 0 then startE p s l else (runR p l s).2
def runI (p : Prt) (s : Stt) (l : Pln) : Int := if startE p s l ≠ 0 then 0 else (runR p l s).1
def runV (p : Prt) (s : Stt) (l : Pln) : Stt := if runE p s l = 0 then stN p l s l.hours.toNat else ⟨[], []⟩
/-- in a block of its own -/
def FreshA (w : World) (A : Option Addr) : Prop := ∀ b o, A = some ⟨b, o, none⟩ → w.heap.size ≤ b
def RunsPost (w : World) (p : Prt) (s : Stt) (l : Pln) (e : Ending) (w' : World) : Prop :=
  ∃ A c B d, e = .returned (.tuple #[.agg (sttV A c B d (runV p s l)), .int .i64 (runI p s l), .int .i64 (runE p s l)]) ∧ SttB w'.heap.size w' A c B d (runV p s l) ∧ Below w.heap.size w w' ∧ FreshA w A ∧ FreshA w B
theorem stt_nil (w : World) (D : Nat) : SttB D w none 0 none 0 ⟨[], []⟩ := ⟨⟨rfl, fun h => absurd h (by decide)⟩, ⟨rfl, fun h => absurd h (by decide)⟩, ⟨Nat.le_refl _, by omega, fun _ => rfl⟩, ⟨Nat.le_refl _, by omega, fun _ => rfl⟩⟩
theorem stt_results {F : Func} {r s t : Nat} (hF : F.results = #[.cell r 42, .tmp s, .tmp t]) {W : World} {b : Nat} {A B : Option Addr} {n c m d : Nat} (h : W.heap[b]? = some (.cells #[.slice A n c, .slice B m d] 42 (0, 0))) (tmps : Array Value) (v u : Value) (hr : tmps.getD r undef = .pointer (some ⟨b, 0, none⟩)) (hs : tmps.getD s undef = v) (ht : tmps.getD t undef = u) :
    (results F tmps).run Try.prog W = .ok (.tuple #[.agg #[.slice A n c, .slice B m d], v, u]) W := by
  have g7 : tmps[r]?.getD undef = .pointer (some ⟨b, 0, none⟩) := by simpa using hr
  have g8 : tmps[s]?.getD undef = v := by simpa using hs
  have g9 : tmps[t]?.getD undef = u := by simpa using ht
  have c0 : W.cell? ⟨b, 0, none⟩ = some (.slice A n c) := (cell_of_heap h 0).trans rfl
  have c1 : W.cell? ⟨b, 1, none⟩ = some (.slice B m d) := (cell_of_heap h 1).trans rfl
  simp [results, hF, g7, g8, g9, asAddr, go_sem, c0, c1]
theorem wk_sttB {c : WC} {w : World} {s : Stt} (h : WkS c w w s) : SttB w.heap.size w (some ⟨c.gb, 0, none⟩) c.c1 (some ⟨c.ub, 0, none⟩) c.c2 s := by
  have hl := h.len
  have r1 := h.br.rd
  have r2 := h.bu.rd
  rw [← hl.1] at r1
  rw [← hl.2] at r2
  exact ⟨RdB.of r1 (Nat.le_refl _), RdB.of r2 (Nat.le_refl _), ⟨by rw [hl.1]; exact h.br.ge, h.br.cap, fun h => by cases h⟩, ⟨by rw [hl.2]; exact h.bu.ge, h.bu.cap, fun h => by cases h⟩⟩
theorem start_bd {p : Prt} {s : Stt} {l : Pln} (h : startE p s l = 0) : checkL p l = 0 ∧ s.brash.length = p.chs.length ∧ s.busy.length = p.bts.length ∧ (∀ x ∈ s.brash, 0 ≤ x ∧ x ≤ 1000000) := by
  unfold startE at h
  split at h
  · rename_i h1; exact absurd h h1
  · split at h
    · cases h
    · rename_i h1 h2
      have h3 : s.brash.length = p.chs.length ∧ s.busy.length = p.bts.length ∧ s.brash.any (fun n => !within n 0 1000000) = false := by
        refine ⟨Classical.byContradiction fun q => h2 (.inl q), Classical.byContradiction fun q => h2 (.inr (.inl q)), ?_⟩
        cases q : s.brash.any (fun n => !within n 0 1000000) with
        | false => rfl
        | true => exact absurd (.inr (.inr q)) h2
      refine ⟨by simpa using h1, h3.1, h3.2.1, fun x hx => ?_⟩
      have : (!within x 0 1000000) = false := by
        cases q : !within x 0 1000000 with
        | false => rfl
        | true => rw [List.any_eq_true.2 ⟨x, hx, q⟩] at h3; exact absurd h3.2.2 (by decide)
      simpa [within] using this
theorem brR_of {b : List Int} {B : Int} (hB : 0 ≤ B) (h : ∀ x ∈ b, 0 ≤ x ∧ x ≤ B) : brR B b := fun c => by
  unfold getI
  rw [List.getD_eq_getElem?_getD]
  cases hc : b[c.toNat]? with
  | none => simpa using (by omega : -B ≤ 0 ∧ 0 ≤ B)
  | some x => have := h x (List.mem_of_getElem? hc); simpa using (by omega : -B ≤ x ∧ x ≤ B)

set_option linter.unusedVariables false
def RfV (W0 : World) (wb rb n c1 m c2 : Nat) (gb ub : Nat) (i : Int) : Nat → Value → Prop
  | 0, v => v = .pointer (some ⟨wb, 0, none⟩)
  | 1, v => v = .pointer (some ⟨wb, 0, none⟩)
  | 2, v => v = .pointer (some ⟨wb, 2, none⟩)
  | 3, v => v = .slice (some ⟨gb, 0, none⟩) n c1
  | 4, v => v = .pointer (some ⟨wb, 0, none⟩)
  | 5, v => v = .pointer (some ⟨wb, 0, none⟩)
  | 6, v => v = .pointer (some ⟨wb, 3, none⟩)
  | 7, v => v = .slice (some ⟨ub, 0, none⟩) m c2
  | 8, v => v = .agg #[.slice (some ⟨gb, 0, none⟩) n c1, .slice (some ⟨ub, 0, none⟩) m c2]
  | 9, v => v = .int .i64 i
  | 11, v => v = .int .i64 i
  | 12, v => v = .int .i64 0
  | _, _ => True
def RfW (W0 : World) (wb rb n c1 m c2 : Nat) (gb ub : Nat) (i : Int) (l : Nat → Bool) (w : World) : Prop := if l 10 then w = ((W0.setCell ⟨rb, 0, none⟩ (.slice (some ⟨gb, 0, none⟩) n c1)).setCell ⟨rb, 1, none⟩ (.slice (some ⟨ub, 0, none⟩) m c2)).drew else w = W0.drew

set_option maxRecDepth 100000 in
set_option maxHeartbeats 4000000 in
theorem Run_any (D : Nat) (Ac : Option Addr) (cc : Nat) (Ab : Option Addr) (cb : Nat) (p : Prt) (Al : Option Addr) (cl : Nat) (As : Option Addr) (cs : Nat) (l : Pln) (Ar : Option Addr) (cr : Nat) (Au : Option Addr) (cu : Nat) (s : Stt) (w : World)
    (PB : PrtB D w Ac cc Ab cb p) (LB : PlnB D w Al cl As cs l) (SB : SttB D w Ar cr Au cu s) (hD : D ≤ w.heap.size) :
    Calls Try.prog 19 #[.agg (prtV Ac cc Ab cb p), .agg (sttV Ar cr Au cu s), .agg (plnV Al cl As cs l)] w (RunsPost w p s l) := by
  obtain ⟨W, hW⟩ : ∃ W, W = (((w.alloc (.cells (prtV Ac cc Ab cb p) 26)).alloc (.cells (sttV Ar cr Au cu s) 42)).alloc (.cells (plnV Al cl As cs l) 31)).alloc (.cells #[.slice none 0 0, .slice none 0 0] 42) := ⟨_, rfl⟩
  have b0 : Below w.heap.size w W := by rw [hW]; exact ((((Below.refl _ _).alloc (Nat.le_refl _) _).alloc (by simp) _).alloc (by simp; omega) _).alloc (by simp; omega) _
  obtain ⟨pb, hpb⟩ : ∃ b, b = w.heap.size := ⟨_, rfl⟩
  obtain ⟨sb, hsb⟩ : ∃ b, b = w.heap.size + 1 := ⟨_, rfl⟩
  obtain ⟨lb, hlb⟩ : ∃ b, b = w.heap.size + 1 + 1 := ⟨_, rfl⟩
  obtain ⟨rb, hrb⟩ : ∃ b, b = w.heap.size + 1 + 1 + 1 := ⟨_, rfl⟩
  have hp : W.heap[pb]? = some (.cells (prtV Ac cc Ab cb p) 26 (0, 0)) := by rw [hW, hpb]; exact heap_alloc' (heap_alloc' (heap_alloc' (heap_alloc_new _ _) _) _) _
  have hs : W.heap[sb]? = some (.cells (sttV Ar cr Au cu s) 42 (0, 0)) := by
    rw [hW, hsb]
    refine heap_alloc' (heap_alloc' ?_ _) _
    have := heap_alloc_new (w.alloc (.cells (prtV Ac cc Ab cb p) 26)) (.cells (sttV Ar cr Au cu s) 42)
    rwa [World.size_alloc] at this
  have hl : W.heap[lb]? = some (.cells (plnV Al cl As cs l) 31 (0, 0)) := by
    rw [hW, hlb]
    refine heap_alloc' ?_ _
    have := heap_alloc_new ((w.alloc (.cells (prtV Ac cc Ab cb p) 26)).alloc (.cells (sttV Ar cr Au cu s) 42)) (.cells (plnV Al cl As cs l) 31)
    rwa [World.size_alloc, World.size_alloc] at this
  have hr : W.heap[rb]? = some (.cells #[.slice none 0 0, .slice none 0 0] 42 (0, 0)) := by
    rw [hW, hrb]
    have := heap_alloc_new (((w.alloc (.cells (prtV Ac cc Ab cb p) 26)).alloc (.cells (sttV Ar cr Au cu s) 42)).alloc (.cells (plnV Al cl As cs l) 31)) (.cells #[.slice none 0 0, .slice none 0 0] 42)
    rwa [World.size_alloc, World.size_alloc, World.size_alloc] at this
  have kst := start_any D Ac cc Ab cb p Al cl As cs l Ar cr Au cu s W (PB.below (b0.mono hD)) (LB.below (b0.mono hD)) (SB.below (b0.mono hD)) (by have := b0.size; omega)
  have c0 : W.cell? ⟨pb, 0, none⟩ = some (.slice Ac p.chs.length cc) := (cell_of_heap hp 0).trans rfl
  have c1 : W.cell? ⟨pb, 1, none⟩ = some (.slice Ab p.bts.length cb) := (cell_of_heap hp 1).trans rfl
  have c2 : W.cell? ⟨pb, 2, none⟩ = some (.int .i64 p.tugs) := (cell_of_heap hp 2).trans rfl
  have c3 : W.cell? ⟨lb, 0, none⟩ = some (.int .i64 l.hours) := (cell_of_heap hl 0).trans rfl
  have c4 : W.cell? ⟨lb, 1, none⟩ = some (.slice Al l.calls.length cl) := (cell_of_heap hl 1).trans rfl
  have c5 : W.cell? ⟨lb, 2, none⟩ = some (.slice As l.swps.length cs) := (cell_of_heap hl 2).trans rfl
  have c6 : W.cell? ⟨sb, 0, none⟩ = some (.slice Ar s.brash.length cr) := (cell_of_heap hs 0).trans rfl
  have c7 : W.cell? ⟨sb, 1, none⟩ = some (.slice Au s.busy.length cu) := (cell_of_heap hs 1).trans rfl
  have zp := heap_lt hp
  have zl := heap_lt hl
  have zs := heap_lt hs
  have hrw : w.heap.size ≤ rb := by omega
  have H := Lib.hid (And.intro b0 (And.intro hr kst))
  clear b0 hp hs hl hr kst
  go_enter Try.func19, Try.ntmps19
  go_upto_region 1 with fail
  rw [← hW, ← hrb, ← hlb, ← hsb, ← hpb]
  clear hW hlb hsb hpb hrb
  go_wp2_with fail
  refine H.out.2.2.mono ?_
  rintro e w1 ⟨b1, hcase⟩
  have hr1 := (b1.block _ (heap_lt H.out.2.1)).trans H.out.2.1
  have bw1 : Below w.heap.size w w1 := H.out.1.trans (b1.mono H.out.1.size)
  clear c0 c1 c2 c3 c4 c5 c6 c7 zp zl zs
  rcases hcase with ⟨hne, rfl⟩ | ⟨he, c, hM, hS, rfl⟩
  · have f0 := frozen_of_heap hr1 0
    have f1 := frozen_of_heap hr1 1
    have d0 := (cell_of_heap hr1 0).trans rfl
    have d1 := (cell_of_heap hr1 1).trans rfl
    have zr := heap_lt hr1
    obtain ⟨er, her⟩ : ∃ er, er = startE p s l := ⟨_, rfl⟩
    rw [← her] at hne ⊢
    have hnb : (er != 0) = true := by simpa using hne
    have hv : runE p s l = er ∧ runI p s l = 0 := by unfold runE runI; rw [if_pos (by rw [← her]; exact hne), if_pos (by rw [← her]; exact hne), her]; exact ⟨rfl, rfl⟩
    have hvv : runV p s l = ⟨[], []⟩ := by unfold runV; rw [if_neg (by rw [hv.1]; exact hne)]
    have HF := Lib.hid (And.intro hv.1 (And.intro hv.2 (And.intro hvv (And.intro hr1 bw1))))
    clear hv hvv hr1 bw1 her hne b1
    go_wp2_with fail
    refine bodyPost_ret (stt_results rfl (heap_set (heap_set HF.out.2.2.2.1 0 (.slice none 0 0)) 1 (.slice none 0 0)) _ _ _ rfl rfl rfl) rfl ?_
    refine ⟨none, 0, none, 0, ?_, ?_, (HF.out.2.2.2.2.setCell hrw _).setCell hrw _, (fun _ _ h => by cases h), (fun _ _ h => by cases h)⟩
    · rw [HF.out.1, HF.out.2.1, HF.out.2.2.1]; rfl
    · rw [HF.out.2.2.1]; exact stt_nil _ _
  · obtain ⟨hc, hlen1, hlen2, hbr⟩ := start_bd he
    obtain ⟨q1, q2, q3, q4, q5, q6, q7, q8, q9, q10, q11⟩ := hM.eq
    have v : Val c.p c.l := by rw [q6, q11]; exact val_of hc
    have krun := run_any hM.E hM.N hS v (brR_of (by decide) hbr) 74 74 #[] #[] cbNothing cbNothing [] (by simp) (fun _ _ => True) (fun _ _ => True) (fun _ _ => True) trivial
      (fun k w _ _ _ _ _ => (nothing_any _ _).mono fun e w' h => ⟨h.1, ⟨[], by rw [← h.2]; exact Keep.refl _ _, by simp⟩, trivial⟩) (fun k w _ _ _ _ _ => (nothing_any _ _).mono fun e w' h => ⟨h.1, ⟨[], by rw [← h.2]; exact Keep.refl _ _, by simp⟩, trivial⟩) (fun _ _ _ _ _ => trivial) (fun _ _ _ _ _ => trivial)
    have hrn : rb ≠ c.gb ∧ rb ≠ c.ub ∧ rb ≠ c.wb := by have := hM.new; have := heap_lt H.out.2.1; omega
    have hg := hM.new
    obtain ⟨R, hR⟩ : ∃ R, R = runR p l s := ⟨_, rfl⟩
    have HM := Lib.hid (And.intro hM (And.intro krun (And.intro he (And.intro hr1 (And.intro bw1 (And.intro q6 (And.intro q11 hR)))))))
    clear hM krun he hr1 bw1 hS v hc hbr hlen1 hlen2 q1 q2 q3 q4 q5 q6 q7 q8 q9 q10 q11 b1 hR
    go_wp2_with fail
    refine HM.out.2.1.mono ?_
    rintro e w3 ⟨rfl, kp, hok⟩
    rw [HM.out.2.2.2.2.2.1, HM.out.2.2.2.2.2.2.1, ← HM.out.2.2.2.2.2.2.2] at hok ⊢
    have hr3 := (kp.block rb (heap_lt HM.out.2.2.2.1) (by simp; exact ⟨hrn.1, hrn.2.1⟩)).trans HM.out.2.2.2.1
    have hWs := H.out.1.size
    have bw3 : Below w.heap.size w w3 := HM.out.2.2.2.2.1.trans (kp.below HM.out.2.2.2.2.1.size (by simp; omega))
    have f0 := frozen_of_heap hr3 0
    have f1 := frozen_of_heap hr3 1
    have d0 := (cell_of_heap hr3 0).trans rfl
    have d1 := (cell_of_heap hr3 1).trans rfl
    have zr := heap_lt hr3
    obtain ⟨i, er⟩ := R
    have hrr : runR p l s = (i, er) := HM.out.2.2.2.2.2.2.2.symm
    have hv : runE p s l = er ∧ runI p s l = i := by unfold runE runI; rw [if_neg (by rw [HM.out.2.2.1]; simp), if_neg (by rw [HM.out.2.2.1]; simp), hrr]; exact ⟨rfl, rfl⟩
    by_cases her : er = 0
    · subst her
      have hvv : runV p s l = stN p l s l.hours.toNat := by unfold runV; rw [if_pos hv.1]
      obtain ⟨S3, _⟩ := hok rfl
      have E3 := HM.out.1.E.keep kp (by have := HM.out.1.N.g; have := HM.out.1.N.u; simp; omega)
      obtain ⟨_, _, q2, q3, _, _, _, _, _, z1, _, _⟩ := E3.cells
      obtain ⟨n, hn⟩ : ∃ n, n = c.p.chs.length := ⟨_, rfl⟩
      obtain ⟨m, hm⟩ : ∃ m, m = c.p.bts.length := ⟨_, rfl⟩
      have hbr : brV c = .slice (some ⟨c.gb, 0, none⟩) n c.c1 := by rw [hn]
      have hbu : buV c = .slice (some ⟨c.ub, 0, none⟩) m c.c2 := by rw [hm]
      rw [hbr] at q2
      rw [hbu] at q3
      have hl3 := S3.len
      have HF := Lib.hid (And.intro hv.1 (And.intro hv.2 (And.intro hvv (And.intro hr3 (And.intro bw3 (And.intro S3 (And.intro hn hm)))))))
      clear hv hvv hr3 bw3 S3 E3 hn hm hbr hbu hok kp hrr hl3
      go_upto_region 7 with fail
      refine wp_region_steps (σ := Unit) (by kernel_rfl) (by kernel_rfl) (fun _ jx vx _ => RfV w3 c.wb rb n c.c1 m c.c2 c.gb c.ub i jx vx) (fun _ ly wx => RfW w3 c.wb rb n c.c1 m c.c2 c.gb c.ub i ly wx) () ?_ ?_ ?_
      · exact (by unfold RfW; rw [if_neg (by simp)])
      · simp only [AllFrom, Nat.zero_add, Nat.reduceAdd]
        refine ⟨?_, ?_, ?_, ?_, ?_, ?_, ?_, ?_, ?_, ?_, ?_, ?_, ?_, trivial⟩
        · refine step_pure fun sg ly a wr hl hd hW hF => ?_
          have et9 := hF.old 9 (by kernel_rfl)
          simp [Act.eval] at et9
          exact ⟨by simpa [RfW, upd] using hW, .pointer (some ⟨c.wb, 0, none⟩), by go_simp, rfl⟩
        · refine step_pure fun sg ly a wr hl hd hW hF => ?_
          simp [Region.binds] at hd
          have et33 := hF.new 0 33 (by simp [hd]) rfl
          simp [RfV, Act.eval] at et33
          exact ⟨by simpa [RfW, upd] using hW, .pointer (some ⟨c.wb, 0, none⟩), by go_simp, rfl⟩
        · refine step_pure fun sg ly a wr hl hd hW hF => ?_
          simp [Region.binds] at hd
          have et34 := hF.new 1 34 (by simp [hd]) rfl
          simp [RfV, Act.eval] at et34
          exact ⟨by simpa [RfW, upd] using hW, .pointer (some ⟨c.wb, 2, none⟩), by go_simp, rfl⟩
        · refine step_pure fun sg ly a wr hl hd hW hF => ?_
          simp [Region.binds] at hd
          have et35 := hF.new 2 35 (by simp [hd]) rfl
          simp [RfV, Act.eval] at et35
          have nL_8 := hF.notYet 3 8 hl (by kernel_rfl)
          have nL := hF.notYet 8 10 nL_8 (by kernel_rfl)
          have hW' := hW
          unfold RfW at hW'
          rw [if_neg (by simp [nL])] at hW'
          subst hW'
          exact ⟨by unfold RfW; rw [if_neg (by simp [upd, nL])], _, by go_simp, rfl⟩
        · refine step_pure fun sg ly a wr hl hd hW hF => ?_
          have et9 := hF.old 9 (by kernel_rfl)
          simp [Act.eval] at et9
          exact ⟨by simpa [RfW, upd] using hW, .pointer (some ⟨c.wb, 0, none⟩), by go_simp, rfl⟩
        · refine step_pure fun sg ly a wr hl hd hW hF => ?_
          simp [Region.binds] at hd
          have et37 := hF.new 4 37 (by simp [hd]) rfl
          simp [RfV, Act.eval] at et37
          exact ⟨by simpa [RfW, upd] using hW, .pointer (some ⟨c.wb, 0, none⟩), by go_simp, rfl⟩
        · refine step_pure fun sg ly a wr hl hd hW hF => ?_
          simp [Region.binds] at hd
          have et38 := hF.new 5 38 (by simp [hd]) rfl
          simp [RfV, Act.eval] at et38
          exact ⟨by simpa [RfW, upd] using hW, .pointer (some ⟨c.wb, 3, none⟩), by go_simp, rfl⟩
        · refine step_pure fun sg ly a wr hl hd hW hF => ?_
          simp [Region.binds] at hd
          have et39 := hF.new 6 39 (by simp [hd]) rfl
          simp [RfV, Act.eval] at et39
          have nL_8 := hF.notYet 7 8 hl (by kernel_rfl)
          have nL := hF.notYet 8 10 nL_8 (by kernel_rfl)
          have hW' := hW
          unfold RfW at hW'
          rw [if_neg (by simp [nL])] at hW'
          subst hW'
          exact ⟨by unfold RfW; rw [if_neg (by simp [upd, nL])], _, by go_simp, rfl⟩
        · refine step_pure fun sg ly a wr hl hd hW hF => ?_
          simp [Region.binds] at hd
          have et36 := hF.new 3 36 (by simp [hd]) rfl
          simp [RfV, Act.eval] at et36
          have et40 := hF.new 7 40 (by simp [hd]) rfl
          simp [RfV, Act.eval] at et40
          exact ⟨by simpa [RfW, upd] using hW, .agg #[.slice (some ⟨c.gb, 0, none⟩) n c.c1, .slice (some ⟨c.ub, 0, none⟩) m c.c2], by go_simp, rfl⟩
        · refine step_pure fun sg ly a wr hl hd hW hF => ?_
          have et11 := hF.old 11 (by kernel_rfl)
          simp [Act.eval] at et11
          exact ⟨by simpa [RfW, upd] using hW, .int .i64 i, by go_simp, rfl⟩
        · refine step_store rfl fun sg ly a wr hl hd hW hF => ?_
          simp [Region.binds] at hd
          have et6 := hF.old 6 (by kernel_rfl)
          simp [Act.eval] at et6
          have et41 := hF.new 8 41 (by simp [hd]) rfl
          simp [RfV, Act.eval] at et41
          have hW' := hW
          unfold RfW at hW'
          rw [if_neg (by simp [hl])] at hW'
          subst hW'
          refine ⟨((w3.setCell ⟨rb, 0, none⟩ (.slice (some ⟨c.gb, 0, none⟩) n c.c1)).setCell ⟨rb, 1, none⟩ (.slice (some ⟨c.ub, 0, none⟩) m c.c2)).drew, (), .skip, by go_simp, .inl rfl, by unfold RfW; rw [if_pos (by simp [upd])], fun _ _ _ h => h⟩
        · refine step_pure fun sg ly a wr hl hd hW hF => ?_
          simp [Region.binds] at hd
          have et42 := hF.new 9 42 (by simp [hd]) rfl
          simp [RfV, Act.eval] at et42
          exact ⟨by simpa [RfW, upd] using hW, .int .i64 i, by go_simp, rfl⟩
        · refine step_pure fun sg ly a wr hl hd hW hF => ?_
          exact ⟨by simpa [RfW, upd] using hW, .int .i64 0, by go_simp, rfl⟩
      intro _ a w5 hWW hF
      have e7 := hF.new 11 7 (by decide) rfl
      have e8 := hF.new 12 8 (by decide) rfl
      obtain ⟨f3, hf3, rfl⟩ := hF.lit
      rw [← hf3] at e7 e8
      simp only [RfV] at e7 e8
      have hw5 : w5 = ((w3.setCell ⟨rb, 0, none⟩ (.slice (some ⟨c.gb, 0, none⟩) n c.c1)).setCell ⟨rb, 1, none⟩ (.slice (some ⟨c.ub, 0, none⟩) m c.c2)).drew := by
        have h5 := hWW
        unfold RfW at h5
        rwa [if_pos (by simp)] at h5
      clear hf3 hF hWW
      simp only [List.filterMap, List.foldl, List.setIfInBounds_toArray, List.set_cons_succ, List.set_cons_zero, e7, e8]
      clear e7 e8
      have hr5 : w5.heap[rb]? = some (.cells #[.slice (some ⟨c.gb, 0, none⟩) n c.c1, .slice (some ⟨c.ub, 0, none⟩) m c.c2] 42 (0, 0)) := by rw [hw5]; exact heap_set (heap_set HF.out.2.2.2.1 0 _) 1 _
      have kp5 : Keep [rb] w3 w5 := by rw [hw5]; exact (((Keep.refl _ _).setCell (.inl (by simp)) _).setCell (.inl (by simp)) _).drew
      have S5 : WkS c w5 w5 (stN p l s l.hours.toNat) := ⟨Keep.refl _ _, HF.out.2.2.2.2.2.1.br.keepS kp5 (by simpa using hrn.1.symm), HF.out.2.2.2.2.2.1.bu.keepS kp5 (by simpa using hrn.2.1.symm)⟩
      have H5 := Lib.hid (And.intro hr5 (And.intro kp5 S5))
      clear hw5 hr5 kp5 S5
      go_wp2_with fail
      refine bodyPost_ret (stt_results rfl H5.out.1 _ _ _ rfl rfl rfl) rfl ?_
      have hl5 := H5.out.2.2.len
      refine ⟨some ⟨c.gb, 0, none⟩, c.c1, some ⟨c.ub, 0, none⟩, c.c2, ?_, ?_, HF.out.2.2.2.2.1.trans (H5.out.2.1.below HF.out.2.2.2.2.1.size (by simpa using hrw)), (fun b o h => by injection h with h; injection h with h _ _; omega), (fun b o h => by injection h with h; injection h with h _ _; omega)⟩
      · rw [HF.out.1, HF.out.2.1, HF.out.2.2.1]
        simp only [sttV]
        rw [hl5.1, hl5.2, ← HF.out.2.2.2.2.2.2.1, ← HF.out.2.2.2.2.2.2.2]; rfl
      · rw [HF.out.2.2.1]; exact wk_sttB H5.out.2.2
    · have hnb : (er != 0) = true := by simpa using her
      have hvv : runV p s l = ⟨[], []⟩ := by unfold runV; rw [if_neg (by rw [hv.1]; exact her)]
      have HF := Lib.hid (And.intro hv.1 (And.intro hv.2 (And.intro hvv (And.intro hr3 bw3))))
      clear hv hvv hr3 bw3 her hok kp hrr
      go_wp2_with fail
      refine bodyPost_ret (stt_results rfl (heap_set (heap_set HF.out.2.2.2.1 0 (.slice none 0 0)) 1 (.slice none 0 0)) _ _ _ rfl rfl rfl) rfl ?_
      refine ⟨none, 0, none, 0, ?_, ?_, (HF.out.2.2.2.2.setCell hrw _).setCell hrw _, (fun _ _ h => by cases h), (fun _ _ h => by cases h)⟩
      · rw [HF.out.1, HF.out.2.1, HF.out.2.2.1]; rfl
      · rw [HF.out.2.2.1]; exact stt_nil _ _
end Go.Proofs.Ythmldeningpjbaa
/- port.Trace: the function that is told of each hour (printed by wip/tools/pttrace.py) -/
namespace Go.Proofs.Ythmldeningpjbaa
open Go Go.RowKit Go.Lib Sp Pt
set_option linter.unusedVariables false
set_option linter.unusedSimpArgs false

/-- a list in a list of lists -/
structure LRow where
  A : Option Addr
  c : Nat
  l : List Int
  q : List Nat
def LRow.v (r : LRow) : Value := .slice r.A r.l.length r.c
def LRow.it (r : LRow) : It := .own 3 1 r.A r.l.length r.c (ints r.l) r.q
structure TrS where
  bs : Nat
  A : Option Addr
  c : Nat
  g : Nat
  rA : Option Addr
  rc : Nat
  rq : List Nat
structure TrW (W0 : World) (tb k : Nat) (A : Option Addr) (c : Nat) (xs : List Value) (q : List Nat) (row : List Int) (s : TrS) (l : Nat → Bool) (w : World) : Prop where
  kp : Keep (tb :: q) W0 w
  own0 : l 7 = false → OwnS w 33 1 A k c xs q
  own1 : l 7 = true → OwnS w 33 1 s.A (k + 1) s.c (xs ++ [.slice s.rA row.length s.rc]) [s.g] ∧ (s.g ∈ q ∨ W0.heap.size ≤ s.g) ∧ s.g ∉ s.rq
  hob : w.heap[tb]? = some (.cells (if l 8 then #[.slice s.A (k + 1) s.c] else #[.slice A k c]) 66 (0, 0))
  hbs : l 6 = true → W0.heap.size ≤ s.bs ∧ w.heap[s.bs]? = some (.cells #[.slice s.rA row.length s.rc] 33 (0, 0)) ∧ s.bs ∉ s.rq
  row : l 5 = true → OwnS w 3 1 s.rA row.length s.rc (ints row) s.rq ∧ ∀ x ∈ s.rq, W0.heap.size ≤ x
  nq : tb ∉ q ∧ tb < W0.heap.size ∧ ∀ x ∈ q, x < W0.heap.size
section
variable {W0 : World} {tb k : Nat} {A : Option Addr} {c : Nat} {xs : List Value} {q : List Nat} {row : List Int} {s : TrS} {l : Nat → Bool} {w w' : World}
theorem TrW.other (H : TrW W0 tb k A c xs q row s l w) (i : Nat) (hi : i ≠ 5 ∧ i ≠ 6 ∧ i ≠ 7 ∧ i ≠ 8) : TrW W0 tb k A c xs q row s (upd l i) w := by
  obtain ⟨a1, a2, a3, a4⟩ := hi
  exact ⟨H.kp, by rw [upd_ne a3]; exact H.own0, by rw [upd_ne a3]; exact H.own1, by rw [upd_ne a4]; exact H.hob, by rw [upd_ne a2]; exact H.hbs, by rw [upd_ne a1]; exact H.row, H.nq⟩
theorem TrW.clone (H : TrW W0 tb k A c xs q row s l w) (h6 : l 6 = false) (h7 : l 7 = false) (h8 : l 8 = false) {A' : Option Addr} {c' : Nat} {q' : List Nat} (ho : OwnS w' 3 1 A' row.length c' (ints row) q') (hq : ∀ g ∈ q', w.heap.size ≤ g) (hb : Below w.heap.size w w') :
    TrW W0 tb k A c xs q row { s with rA := A', rc := c', rq := q' } (upd l 5) w' := by
  have K : Keep [] w w' := Keep.of_below hb
  have hh := H.hob
  rw [h8, if_neg (by simp)] at hh
  refine ⟨H.kp.trans K (by simp), ?_, ?_, ?_, ?_, fun _ => ⟨ho, fun x hx => by have := hq x hx; have := H.kp.size; omega⟩, H.nq⟩
  · rw [upd_ne (by decide)]; exact fun e => (H.own0 e).keepS K (by simp)
  · rw [upd_ne (by decide), h7]; exact fun e => by cases e
  · rw [upd_ne (by decide), h8, if_neg (by simp)]; exact (hb.block _ (heap_lt hh)).trans hh
  · rw [upd_ne (by decide), h6]; exact fun e => by cases e
theorem TrW.build (H : TrW W0 tb k A c xs q row s l w) (h5 : l 5 = true) (h7 : l 7 = false) (h8 : l 8 = false) : TrW W0 tb k A c xs q row { s with bs := w.heap.size } (upd l 6) (w.alloc (.cells #[.slice s.rA row.length s.rc] 33)) := by
  have hh := H.hob
  rw [h8, if_neg (by simp)] at hh
  refine ⟨H.kp.alloc _, ?_, ?_, ?_, fun _ => ⟨H.kp.size, heap_alloc_new _ _, fun hm => by have := (H.row h5).1.lt _ hm; simp only at this; omega⟩, ?_, H.nq⟩
  · rw [upd_ne (by decide)]; exact fun e => (H.own0 e).alloc _
  · rw [upd_ne (by decide), h7]; exact fun e => by cases e
  · rw [upd_ne (by decide), h8, if_neg (by simp)]; exact heap_alloc' hh _
  · exact fun _ => ⟨(H.row h5).1.alloc _, (H.row h5).2⟩
theorem TrW.app (H : TrW W0 tb k A c xs q row s l w) (h5 : l 5 = true) (h6 : l 6 = true) (h8 : l 8 = false) {g c' : Nat} (o1 : OwnS w' 33 1 (some ⟨g, 0, none⟩) (k + 1) c' (xs ++ [.slice s.rA row.length s.rc]) [g]) (o2 : g ∈ q ∨ w.heap.size = g) (o3 : Keep q w w') :
    TrW W0 tb k A c xs q row { s with A := some ⟨g, 0, none⟩, c := c', g := g } (upd l 7) w' := by
  have hh := H.hob
  rw [h8, if_neg (by simp)] at hh
  have hr := H.row h5
  have hqr : ∀ x ∈ s.rq, x ∉ q := fun x hx hm => by have := hr.2 x hx; have := H.nq.2.2 x hm; omega
  have hb := H.hbs h6
  refine ⟨H.kp.trans o3 (fun x hx => .inl (by simp [hx])), by rw [upd_eq]; exact fun e => (by cases e), fun _ => ⟨o1, by rcases o2 with e | e; exact .inl e; exact .inr (by have := H.kp.size; simp only; omega), fun hm => ?_⟩, ?_, ?_, ?_, H.nq⟩
  · rcases o2 with e | e
    · exact hqr _ hm e
    · have := hr.1.lt _ hm; simp only at this; omega
  · rw [upd_ne (by decide), h8, if_neg (by simp)]; exact (o3.block _ (heap_lt hh) H.nq.1).trans hh
  · rw [upd_ne (by decide)]
    exact fun e => ⟨hb.1, (o3.block _ (heap_lt hb.2.1) (fun hm => by have := H.nq.2.2 _ hm; omega)).trans hb.2.1, hb.2.2⟩
  · exact fun _ => ⟨hr.1.keepS o3 hqr, hr.2⟩
theorem TrW.store (H : TrW W0 tb k A c xs q row s l w) (h5 : l 5 = true) (h7 : l 7 = true) (h8 : l 8 = false) : TrW W0 tb k A c xs q row s (upd l 8) (w.setCell ⟨tb, 0, none⟩ (.slice s.A (k + 1) s.c)) := by
  have hh := H.hob
  rw [h8, if_neg (by simp)] at hh
  have K : Keep [tb] w (w.setCell ⟨tb, 0, none⟩ (.slice s.A (k + 1) s.c)) := (Keep.refl _ _).setCell (.inl (by simp)) _
  have hr := H.row h5
  have ho := H.own1 h7
  have htg : s.g ≠ tb := by
    rcases ho.2.1 with e | e
    · exact fun e2 => H.nq.1 (e2 ▸ e)
    · have := H.nq.2.1; omega
  refine ⟨H.kp.setCell (.inl (by simp)) _, by rw [upd_ne (by decide), h7]; exact fun e => (by cases e), fun _ => ⟨ho.1.keepS K (by simpa using htg), ho.2⟩, ?_, ?_, ?_, H.nq⟩
  · rw [upd_eq, if_pos rfl]; exact heap_set hh 0 _
  · rw [upd_ne (by decide)]
    exact fun e => ⟨(H.hbs e).1, (K.block _ (heap_lt (H.hbs e).2.1) (by have := (H.hbs e).1; have := H.nq.2.1; simp; omega)).trans (H.hbs e).2.1, (H.hbs e).2.2⟩
  · exact fun _ => ⟨hr.1.keepS K (fun x hx => by have := hr.2 x hx; have := H.nq.2.1; simp; omega), hr.2⟩
end

set_option linter.unusedVariables false


end Go.Proofs.Ythmldeningpjbaa
/- port.Trace -/
namespace Go.Proofs.Ythmldeningpjbaa
open Go Go.RowKit Go.Lib Sp Pt
set_option linter.unusedVariables false
set_option linter.unusedSimpArgs false

/-- a port, a state and a plan, boxed one after the other -/
theorem boxes3 {D : Nat} {Ac : Option Addr} {cc : Nat} {Ab : Option Addr} {cb : Nat} {p : Prt} {Al : Option Addr} {cl : Nat} {As : Option Addr} {cs : Nat} {l : Pln} {Ar : Option Addr} {cr : Nat} {Au : Option Addr} {cu : Nat} {s : Stt} {w W : World}
    (PB : PrtB D w Ac cc Ab cb p) (LB : PlnB D w Al cl As cs l) (SB : SttB D w Ar cr Au cu s) (hD : D ≤ w.heap.size) (hW : W = ((w.alloc (.cells (prtV Ac cc Ab cb p) 26)).alloc (.cells (sttV Ar cr Au cu s) 42)).alloc (.cells (plnV Al cl As cs l) 31)) {pb sb lb : Nat} (hpb : pb = w.heap.size) (hsb : sb = w.heap.size + 1) (hlb : lb = w.heap.size + 1 + 1) :
    Below w.heap.size w W ∧ W.heap[pb]? = some (.cells (prtV Ac cc Ab cb p) 26 (0, 0)) ∧ W.heap[sb]? = some (.cells (sttV Ar cr Au cu s) 42 (0, 0)) ∧ W.heap[lb]? = some (.cells (plnV Al cl As cs l) 31 (0, 0)) ∧
      Calls Try.prog 72 #[.agg (prtV Ac cc Ab cb p), .agg (sttV Ar cr Au cu s), .agg (plnV Al cl As cs l)] W (StartPost W D Ac cc Ab cb p Al cl As cs l s) := by
  have b0 : Below w.heap.size w W := by rw [hW]; exact (((Below.refl _ _).alloc (Nat.le_refl _) _).alloc (by simp) _).alloc (by simp; omega) _
  refine ⟨b0, ?_, ?_, ?_, start_any D Ac cc Ab cb p Al cl As cs l Ar cr Au cu s W (PB.below (b0.mono hD)) (LB.below (b0.mono hD)) (SB.below (b0.mono hD)) (by have := b0.size; omega)⟩
  · rw [hW, hpb]; exact heap_alloc' (heap_alloc' (heap_alloc_new _ _) _) _
  · rw [hW, hsb]
    refine heap_alloc' ?_ _
    have := heap_alloc_new (w.alloc (.cells (prtV Ac cc Ab cb p) 26)) (.cells (sttV Ar cr Au cu s) 42)
    rwa [World.size_alloc] at this
  · rw [hW, hlb]
    have := heap_alloc_new ((w.alloc (.cells (prtV Ac cc Ab cb p) 26)).alloc (.cells (sttV Ar cr Au cu s) 42)) (.cells (plnV Al cl As cs l) 31)
    rwa [World.size_alloc, World.size_alloc] at this


end Go.Proofs.Ythmldeningpjbaa

/- slices.Equal at bools: it only reads -/
namespace Go.Proofs.Ythmldeningpjbaa
open Go Go.RowKit Sp Pt
set_option linter.unusedVariables false
set_option linter.unusedSimpArgs false

set_option maxHeartbeats 1000000 in
theorem eqBoolsQ_any (A : Option Addr) (c : Nat) (l : List Bool) (B : Option Addr) (d : Nat) (m : List Bool) (w : World) (hr : Rd w 1 A l.length (bools l)) (hr2 : Rd w 1 B m.length (bools m)) (hm : l.length ≤ 9223372036854775807) (hm2 : m.length ≤ 9223372036854775807) :
    Calls Try.prog 75 #[.slice A l.length c, .slice B m.length d] w fun e w' => e = .returned (.bool (decide (l = m))) ∧ ∃ n, w' = w.drewN n := by
  by_cases hlen : l.length = m.length
  · have hle : ((l.length : Int) != (m.length : Int)) = false := by simp; omega
    have hmm : m.length = l.length := hlen.symm
    rw [hmm] at hr2 ⊢
    have HL := Lib.hid hmm
    clear hlen hmm
    go_enter Try.func75, Try.ntmps75
    go_wp2_with fail
    go_loopg [13] (l.length) (fun g i wr => ∃ k : Nat, g + k = l.length ∧ i = .int .i64 k ∧ l.take k = m.take k ∧ ∃ n, wr = w.drewN n)
    case atStart => exact ⟨0, rfl, rfl, by simp, 0, rfl⟩
    case round =>
      obtain ⟨k, hk, rfl, hb, nd, rfl⟩ := hrel
      have HB := Lib.hid hb
      by_cases hlt : k < l.length
      · obtain ⟨b, off, rfl, hbb, hc⟩ := hr.2 (by omega)
        obtain ⟨b2, off2, rfl, hbb2, hc2⟩ := hr2.2 (by omega)
        obtain ⟨x, hx⟩ : ∃ x, x = l.getD k false := ⟨_, rfl⟩
        obtain ⟨y, hy⟩ : ∃ y, y = m.getD k false := ⟨_, rfl⟩
        have c0 : w.cell? ⟨b, off + k, none⟩ = some (.bool x) := by rw [hx]; exact hc k _ (bools_get hlt)
        have c1 : w.cell? ⟨b2, off2 + k, none⟩ = some (.bool y) := by rw [hy]; exact hc2 k _ (bools_get (by have := HL.out; omega))
        have hkI : (0 : Int) ≤ (k : Int) ∧ (k : Int) < (l.length : Int) := by omega
        have hx' : x = l[k] := by rw [hx]; simp [hlt]
        have hy' : y = m[k]'(by have := HL.out; omega) := by rw [hy]; simp [show k < m.length from by have := HL.out; omega]
        have HX := Lib.hid (And.intro hx' hy')
        clear hx hy hx' hy' hb hc hc2 hr hr2
        by_cases hxy : x = y
        · subst hxy
          have hne : (x != x) = false := by simp
          go_upto_region 6 with fail
          go_quiet (fail)
          go_wp2_with fail
          go_roundg (gk - 1)
          case measure => omega
          case rel =>
            refine ⟨k + 1, by omega, by go_num, ?_, _, rfl⟩
            rw [List.take_succ_eq_append_getElem hlt, List.take_succ_eq_append_getElem (by have := HL.out; omega : k < m.length), HB.out, ← HX.out.1, ← HX.out.2]
        · obtain ⟨rfl, rfl⟩ | ⟨rfl, rfl⟩ : (x = false ∧ y = true) ∨ (x = true ∧ y = false) := by cases x <;> cases y <;> simp_all
          · go_upto_region 6 with fail
            go_quiet (fail)
            go_wp2_with fail
            go_ret
            refine ⟨?_, _, World.drewN_drewN _ _ _⟩
            have : decide (l = m) = false := decide_eq_false fun e => by
              apply hxy
              rw [HX.out.1, HX.out.2]
              simp [e]
            rw [this]; rfl
          · go_upto_region 6 with fail
            go_quiet (fail)
            go_wp2_with fail
            go_ret
            refine ⟨?_, _, World.drewN_drewN _ _ _⟩
            have : decide (l = m) = false := decide_eq_false fun e => by
              apply hxy
              rw [HX.out.1, HX.out.2]
              simp [e]
            rw [this]; rfl
      · obtain rfl : k = l.length := by omega
        clear hb
        go_wp2_with fail
        go_ret
        refine ⟨?_, nd, rfl⟩
        have h1 := HB.out
        rw [List.take_length, show l.length = m.length from HL.out.symm, List.take_length] at h1
        rw [decide_eq_true h1]; rfl
  · have hle : ((l.length : Int) != (m.length : Int)) = true := by simp; omega
    have HL := Lib.hid hlen
    clear hlen
    go_enter Try.func75, Try.ntmps75
    go_wp2_with fail
    go_ret
    refine ⟨?_, 0, rfl⟩
    rw [decide_eq_false (fun e => HL.out (by rw [e]))]; rfl
end Go.Proofs.Ythmldeningpjbaa
