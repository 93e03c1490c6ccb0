import Derived.Test.YthmldeningpjbaaPRp18
import Derived.Test.YthmldeningpjbaaPRp21
import Derived.Test.YthmldeningpjbaaPRp8
import Derived.Test.YthmldeningpjbaaPRp5
import Derived.Test.YthmldeningpjbaaPRp16
set_option linter.unusedVariables false
set_option linter.unusedSimpArgs false
set_option maxRecDepth 100000
set_option maxHeartbeats 40000000
namespace Go.Proofs.Ythmldeningpjbaa
open Go Go.RowKit Sp Pt
def BegunPost (w : World) (p : Prt) (s : Stt) (l : Pln) (e : Ending) (w' : World) : Prop := e = .returned (.int .i64 (startE p s l)) ∧ Below w.heap.size w w'
theorem begun_any (D : Nat) (Ac : Option Addr) (cc : Nat) (Ab : Option Addr) (cb : Nat) (p : Prt) (Ar : Option Addr) (cr : Nat) (Au : Option Addr) (cu : Nat) (s : Stt) (Al : Option Addr) (cl : Nat) (As : Option Addr) (cs : Nat) (l : Pln) (w : World)
    (PB : PrtB D w Ac cc Ab cb p) (SB : SttB D w Ar cr Au cu s) (LB : PlnB D w Al cl As cs l) (hD : D ≤ w.heap.size) :
    Calls Try.prog 93 #[.agg (prtV Ac cc Ab cb p), .agg (sttV Ar cr Au cu s), .agg (plnV Al cl As cs l)] w (BegunPost w p s l) := by
  obtain ⟨pb, hpb⟩ : ∃ b, b = w.heap.size := ⟨_, rfl⟩;obtain ⟨sb, hsb⟩ : ∃ b, b = w.heap.size + 1 := ⟨_, rfl⟩;obtain ⟨lb, hlb⟩ : ∃ b, b = w.heap.size + 1 + 1 := ⟨_, rfl⟩;obtain ⟨W, hW⟩ : ∃ W, W = ((w.alloc (.cells (prtV Ac cc Ab cb p) 79)).alloc (.cells (sttV Ar cr Au cu s) 81)).alloc (.cells (plnV Al cl As cs l) 85) := ⟨_, rfl⟩;have O0 : Own w.heap.size w [.blk pb (.cells (prtV Ac cc Ab cb p) 79), .blk sb (.cells (sttV Ar cr Au cu s) 81), .blk lb (.cells (plnV Al cl As cs l) 85)] W := by
    have h := ((((Own.start w).alloc (.cells (prtV Ac cc Ab cb p) 79)).alloc (.cells (sttV Ar cr Au cu s) 81)).alloc (.cells (plnV Al cl As cs l) 85));rw [hW, hpb, hsb, hlb];simpa using h
  have hDW : D ≤ W.heap.size := Nat.le_trans hD O0.bel.size;obtain ⟨er, her⟩ : ∃ er, er = checkL p l := ⟨_, rfl⟩;have kck : Calls Try.prog 53 #[.agg (prtV Ac cc Ab cb p), .agg (plnV Al cl As cs l)] W _ := rCheckPlan_any D Ac cc Ab cb p Al cl As cs l W (PB.below (O0.bel.mono hD)) (LB.below (O0.bel.mono hD)) hDW;rw [← her] at kck;have hcap := And.intro PB.c1 (And.intro PB.c2 (And.intro LB.c1 (And.intro LB.c2 (And.intro SB.c1 SB.c2))));have cellsAt : ∀ wx, Below w.heap.size w wx → Own w.heap.size w [.blk pb (.cells (prtV Ac cc Ab cb p) 79), .blk sb (.cells (sttV Ar cr Au cu s) 81), .blk lb (.cells (plnV Al cl As cs l) 85)] wx → wx.cell? ⟨pb, 0, none⟩ = some (.slice Ac p.chs.length cc) ∧ wx.cell? ⟨pb, 1, none⟩ = some (.slice Ab p.bts.length cb) ∧ wx.cell? ⟨pb, 2, none⟩ = some (.int .i64 p.tugs) ∧ wx.cell? ⟨lb, 0, none⟩ = some (.int .i64 l.hours) ∧ wx.cell? ⟨lb, 1, none⟩ = some (.slice Al l.calls.length cl) ∧ wx.cell? ⟨lb, 2, none⟩ = some (.slice As l.swps.length cs) ∧ wx.cell? ⟨sb, 0, none⟩ = some (.slice Ar s.brash.length cr) ∧ wx.cell? ⟨sb, 1, none⟩ = some (.slice Au s.busy.length cu) ∧ pb < wx.heap.size ∧ sb < wx.heap.size ∧ lb < wx.heap.size := fun wx hb O => by
    have h0 := O.heap 0 rfl;have h1 := O.heap 1 rfl;have h2 := O.heap 2 rfl;exact ⟨(cOH h0 0).trans rfl, (cOH h0 1).trans rfl, (cOH h0 2).trans rfl, (cOH h2 0).trans rfl, (cOH h2 1).trans rfl, (cOH h2 2).trans rfl, (cOH h1 0).trans rfl, (cOH h1 1).trans rfl, hL_ h0, hL_ h1, hL_ (O.heap 2 rfl)⟩
  obtain ⟨c0, c1, cx, cy, cz, cw, c2, c3, z0, z1, z2⟩ := cellsAt W O0.bel O0;have H := Lib.hid (And.intro O0 (And.intro cellsAt (And.intro SB (And.intro her (And.intro kck hD)))));clear O0 cellsAt her kck PB LB SB
  go_enter Try.func93, Try.ntmps93
  go_upto_region 1 with fail
  rw [← hW, ← hlb, ← hsb, ← hpb];clear hW hlb hsb hpb;by_cases h0 : er = 0
  · subst h0;go_upto_region 4 with (go_at_call 53; refine H.out.2.2.2.2.1.mono ?_; rintro e w1 ⟨rfl, b1⟩; have O1 := Lib.hid (H.out.1.below b1); clear b1)
    clear c0 c1 cx cy cz cw c2 c3 z0 z1 z2;obtain ⟨c0, c1, cx, cy, cz, cw, c2, c3, z0, z1, z2⟩ := H.out.2.1 w1 O1.out.bel O1.out;have hck : checkL p l = 0 := H.out.2.2.2.1.symm;have bad : startE p s l = 1 → BegunPost w p s l (.returned (.int .i64 1)) w1 := fun h => ⟨by rw [h], O1.out.bel⟩;have HBad := Lib.hid bad;clear bad;by_cases h1 : s.brash.length = p.chs.length
    · by_cases h2 : s.busy.length = p.bts.length
      · have q1 : ((s.brash.length : Int) != (p.chs.length : Int)) = false := by simp [h1]
        have q2 : ((s.busy.length : Int) != (p.bts.length : Int)) = false := by simp [h2]
        have v := val_of hck;have hnc := v.nc;have HC := Lib.hid (And.intro hck (And.intro h1 h2));obtain ⟨N, hN⟩ : ∃ N, N = s.brash.length := ⟨_, rfl⟩;have hN1 : 1 ≤ N ∧ N ≤ 6 := by omega
        have hcap1 : N ≤ cr ∧ cr ≤ 9223372036854775807 := by have := H.out.2.2.1.c1; omega
        rw [← hN] at c2 q1;have HN := Lib.hid hN;clear hck v h1 h2 hN;go_wp2_with fail
        clear c0 c1 cx cy cz cw c2 c3 z0 z1 z2
        go_loopg [8] (N) (fun g i wr => ∃ k : Nat, g + k = N ∧ i = .int .i64 k ∧ (∀ x ∈ s.brash.take k, 0 ≤ x ∧ x ≤ 1000000) ∧ Own w.heap.size w [.blk pb (.cells (prtV Ac cc Ab cb p) 79), .blk sb (.cells (sttV Ar cr Au cu s) 81), .blk lb (.cells (plnV Al cl As cs l) 85)] wr)
        case atStart => exact ⟨0, rfl, rfl, by simp, O1.out⟩
        case round =>
          obtain ⟨k, hk, rfl, hpre, hO⟩ := hrel;obtain ⟨c0, c1, cx, cy, cz, cw, c2, c3, z0, z1, z2⟩ := H.out.2.1 wr hO.bel hO;rw [← HN.out] at c2;clear c0 c1 cx cy cz cw c3;have HP := Lib.hid (And.intro hpre hO);clear hpre hO;by_cases hlt : k < N
          · obtain ⟨bc, oc, hAc, hbc, hcc⟩ := (H.out.2.2.1.below (HP.out.2.bel.mono hD)).br.2 (by have := HN.out; omega);obtain ⟨y, hy⟩ : ∃ y, y = getI s.brash k := ⟨_, rfl⟩;have p2 : wr.cell? ⟨bc, oc + k, none⟩ = some (.int .i64 y) := by
              have := hcc k _ (iG_ (l := s.brash) (k := k) (by have := HN.out; omega));rw [this, hy]; simp [getI]
            rw [hAc] at c2;have zbc : bc < wr.heap.size := by have := HP.out.2.bel.size; omega
            have hyk : s.brash.take (k + 1) = s.brash.take k ++ [y] := by
              rw [List.take_succ_eq_append_getElem (by have := HN.out; omega), hy]; simp [getI, List.getD_eq_getElem?_getD, List.getElem?_eq_getElem (show k < s.brash.length by have := HN.out; omega)]
            have HY := Lib.hid (And.intro hyk hAc);clear hyk hAc hcc hy hbc;have mono : (k : Int) < (N : Int) := by omega
            cases hw : within y 0 1000000
            · go_wp2_with (go_at_call 102; refine (rin9_any _ _ _ _).mono ?_; rintro e w' ⟨rfl, rfl⟩)
              go_ret;have h := startE_2 (s := s) HC.out.1 (.inr (.inr (by rw [List.any_eq_true]; exact ⟨y, List.mem_of_mem_take (i := k + 1) (by rw [HY.out.1]; simp), by rw [hw]; rfl⟩)));exact ⟨by rw [h]; rfl, HP.out.2.bel⟩
            · have hy1 := Pt.within_iff.1 hw;go_wp2_with (go_at_call 102; refine (rin9_any _ _ _ _).mono ?_; rintro e w' ⟨rfl, rfl⟩)
              go_roundg (gk - 1);case measure => omega
              case rel => exact ⟨k + 1, by omega, by go_num, by
                rw [HY.out.1]; intro x hx;rcases List.mem_append.1 hx with e | e
                · exact HP.out.1 x e
                · rw [List.mem_singleton.1 e]; exact hy1, HP.out.2⟩
          · obtain rfl : k = N := by omega
            go_wp2_with fail
            go_ret;have h := startE_3 (s := s) HC.out.1 HC.out.2.1 HC.out.2.2 (by
              rw [List.any_eq_false]; intro x hx;have := HP.out.1 x (by rw [HN.out, List.take_length]; exact hx);simp [Pt.within_iff.2 this])
            exact ⟨by rw [h]; rfl, HP.out.2.bel⟩
      · have q1 : ((s.brash.length : Int) != (p.chs.length : Int)) = false := by simp [h1]
        have q2 : ((s.busy.length : Int) != (p.bts.length : Int)) = true := by simpa using (show ¬ (s.busy.length : Int) = (p.bts.length : Int) by omega)
        have h := HBad.out (startE_2 hck (.inr (.inl h2)));have HF := Lib.hid h;clear h h1 h2;go_wp2_with fail
        go_ret;exact HF.out
    · have q1 : ((s.brash.length : Int) != (p.chs.length : Int)) = true := by simpa using (show ¬ (s.brash.length : Int) = (p.chs.length : Int) by omega)
      have h := HBad.out (startE_2 hck (.inl h1));have HF := Lib.hid h;clear h h1;go_wp2_with fail
      go_ret;exact HF.out
  · have hne0 : (er != 0) = true := by simp [h0]
    have hfe : startE p s l = er := startE_1 H.out.2.2.2.1.symm h0;go_wp2_with (go_at_call 53; refine H.out.2.2.2.2.1.mono ?_; rintro e w1 ⟨rfl, b1⟩; have O1 := Lib.hid (H.out.1.below b1); clear b1)
    go_ret;exact ⟨by rw [hfe]; rfl, O1.out.bel⟩
theorem cbNothing (a : Array Value) (w : World) : (callFunc 74 a).run Try.prog w = .ok (.enter 74 a) w := by go_simp
def runE (p : Prt) (s : Stt) (l : Pln) : Int := if startE p s l ≠ 0 then startE p s l else (runR p l s).2
def runI (p : Prt) (s : Stt) (l : Pln) : Int := if startE p s l ≠ 0 then 0 else (runR p l s).1
def runV (p : Prt) (s : Stt) (l : Pln) : Stt := if runE p s l = 0 then stN p l s l.hours.toNat else ⟨[], []⟩
def FreshA (w : World) (A : Option Addr) : Prop := ∀ b o, A = some ⟨b, o, none⟩ → w.heap.size ≤ b
def RunsPost (w : World) (p : Prt) (s : Stt) (l : Pln) (e : Ending) (w' : World) : Prop :=
  ∃ A c B d, e = .returned (.tuple #[.agg (sttV A c B d (runV p s l)), .int .i64 (runI p s l), .int .i64 (runE p s l)]) ∧ SttB w'.heap.size w' A c B d (runV p s l) ∧ Below w.heap.size w w' ∧ FreshA w A ∧ FreshA w B
theorem stt_nil (w : World) (D : Nat) : SttB D w none 0 none 0 ⟨[], []⟩ := ⟨⟨rfl, fun h => absurd h (by decide)⟩, ⟨rfl, fun h => absurd h (by decide)⟩, ⟨Nat.le_refl _, by omega, fun _ => rfl⟩, ⟨Nat.le_refl _, by omega, fun _ => rfl⟩⟩
theorem stt_results {F : Func} {r s t : Nat} (hF : F.results = #[.cell r 42, .tmp s, .tmp t]) {W : World} {b : Nat} {A B : Option Addr} {n c m d : Nat} (h : W.heap[b]? = some (.cells #[.slice A n c, .slice B m d] 42 (0, 0))) (tmps : Array Value) (v u : Value) (hr : tmps.getD r undef = .pointer (some ⟨b, 0, none⟩)) (hs : tmps.getD s undef = v) (ht : tmps.getD t undef = u) :
    (results F tmps).run Try.prog W = .ok (.tuple #[.agg #[.slice A n c, .slice B m d], v, u]) W := by
  have g7 : tmps[r]?.getD undef = .pointer (some ⟨b, 0, none⟩) := by simpa using hr
  have g8 : tmps[s]?.getD undef = v := by simpa using hs
  have g9 : tmps[t]?.getD undef = u := by simpa using ht
  have c0 : W.cell? ⟨b, 0, none⟩ = some (.slice A n c) := (cOH h 0).trans rfl;have c1 : W.cell? ⟨b, 1, none⟩ = some (.slice B m d) := (cOH h 1).trans rfl;simp [results, hF, g7, g8, g9, asAddr, go_sem, c0, c1]
theorem wk_sttB {c : WC} {w : World} {s : Stt} (h : WkS c w w s) : SttB w.heap.size w (some ⟨c.gb, 0, none⟩) c.c1 (some ⟨c.ub, 0, none⟩) c.c2 s := by
  have hl := h.len;have r1 := h.br.rd;have r2 := h.bu.rd;rw [← hl.1] at r1;rw [← hl.2] at r2;exact ⟨RdB.of r1 (Nat.le_refl _), RdB.of r2 (Nat.le_refl _), ⟨by rw [hl.1]; exact h.br.ge, h.br.cap, fun h => by cases h⟩, ⟨by rw [hl.2]; exact h.bu.ge, h.bu.cap, fun h => by cases h⟩⟩
theorem start_bd {p : Prt} {s : Stt} {l : Pln} (h : startE p s l = 0) : checkL p l = 0 ∧ s.brash.length = p.chs.length ∧ s.busy.length = p.bts.length ∧ (∀ x ∈ s.brash, 0 ≤ x ∧ x ≤ 1000000) := by
  unfold startE at h;split at h
  · rename_i h1; exact absurd h h1
  · split at h
    · cases h
    · rename_i h1 h2
      have h3 : s.brash.length = p.chs.length ∧ s.busy.length = p.bts.length ∧ s.brash.any (fun n => !within n 0 1000000) = false := by
        refine ⟨Classical.byContradiction fun q => h2 (.inl q), Classical.byContradiction fun q => h2 (.inr (.inl q)), ?_⟩;cases q : s.brash.any (fun n => !within n 0 1000000) with
        | false => rfl
        | true => exact absurd (.inr (.inr q)) h2
      refine ⟨by simpa using h1, h3.1, h3.2.1, fun x hx => ?_⟩;have : (!within x 0 1000000) = false := by
        cases q : !within x 0 1000000 with
        | false => rfl
        | true => rw [List.any_eq_true.2 ⟨x, hx, q⟩] at h3; exact absurd h3.2.2 (by decide)
      simpa [within] using this
theorem brR_of {b : List Int} {B : Int} (hB : 0 ≤ B) (h : ∀ x ∈ b, 0 ≤ x ∧ x ≤ B) : brR B b := fun c => by
  unfold getI;rw [List.getD_eq_getElem?_getD];cases hc : b[c.toNat]? with
  | none => simpa using (by omega : -B ≤ 0 ∧ 0 ≤ B)
  | some x => have := h x (List.mem_of_getElem? hc); simpa using (by omega : -B ≤ x ∧ x ≤ B)
def RfV (W0 : World) (wb rb n c1 m c2 : Nat) (gb ub : Nat) (i : Int) : Nat → Value → Prop
  | 0, v => v = .pointer (some ⟨wb, 0, none⟩)
  | 1, v => v = .pointer (some ⟨wb, 0, none⟩)
  | 2, v => v = .pointer (some ⟨wb, 2, none⟩)
  | 3, v => v = .slice (some ⟨gb, 0, none⟩) n c1
  | 4, v => v = .pointer (some ⟨wb, 0, none⟩)
  | 5, v => v = .pointer (some ⟨wb, 0, none⟩)
  | 6, v => v = .pointer (some ⟨wb, 3, none⟩)
  | 7, v => v = .slice (some ⟨ub, 0, none⟩) m c2
  | 8, v => v = .agg #[.slice (some ⟨gb, 0, none⟩) n c1, .slice (some ⟨ub, 0, none⟩) m c2]
  | 9, v => v = .int .i64 i
  | 11, v => v = .int .i64 i
  | 12, v => v = .int .i64 0
  | _, _ => True
def RfW (W0 : World) (wb rb n c1 m c2 : Nat) (gb ub : Nat) (i : Int) (l : Nat → Bool) (w : World) : Prop := if l 10 then w = ((W0.setCell ⟨rb, 0, none⟩ (.slice (some ⟨gb, 0, none⟩) n c1)).setCell ⟨rb, 1, none⟩ (.slice (some ⟨ub, 0, none⟩) m c2)).drew else w = W0.drew
theorem Run_any (D : Nat) (Ac : Option Addr) (cc : Nat) (Ab : Option Addr) (cb : Nat) (p : Prt) (Al : Option Addr) (cl : Nat) (As : Option Addr) (cs : Nat) (l : Pln) (Ar : Option Addr) (cr : Nat) (Au : Option Addr) (cu : Nat) (s : Stt) (w : World)
    (PB : PrtB D w Ac cc Ab cb p) (LB : PlnB D w Al cl As cs l) (SB : SttB D w Ar cr Au cu s) (hD : D ≤ w.heap.size) :
    Calls Try.prog 19 #[.agg (prtV Ac cc Ab cb p), .agg (sttV Ar cr Au cu s), .agg (plnV Al cl As cs l)] w (RunsPost w p s l) := by
  obtain ⟨W, hW⟩ : ∃ W, W = (((w.alloc (.cells (prtV Ac cc Ab cb p) 26)).alloc (.cells (sttV Ar cr Au cu s) 42)).alloc (.cells (plnV Al cl As cs l) 31)).alloc (.cells #[.slice none 0 0, .slice none 0 0] 42) := ⟨_, rfl⟩;have b0 : Below w.heap.size w W := by rw [hW]; exact ((((Below.refl _ _).alloc (Nat.le_refl _) _).alloc (by simp) _).alloc (by simp; omega) _).alloc (by simp; omega) _
  obtain ⟨pb, hpb⟩ : ∃ b, b = w.heap.size := ⟨_, rfl⟩;obtain ⟨sb, hsb⟩ : ∃ b, b = w.heap.size + 1 := ⟨_, rfl⟩;obtain ⟨lb, hlb⟩ : ∃ b, b = w.heap.size + 1 + 1 := ⟨_, rfl⟩;obtain ⟨rb, hrb⟩ : ∃ b, b = w.heap.size + 1 + 1 + 1 := ⟨_, rfl⟩;have hp : W.heap[pb]? = some (.cells (prtV Ac cc Ab cb p) 26 (0, 0)) := by rw [hW, hpb]; exact hA_ (hA_ (hA_ (heap_alloc_new _ _) _) _) _
  have hs : W.heap[sb]? = some (.cells (sttV Ar cr Au cu s) 42 (0, 0)) := by
    rw [hW, hsb];refine hA_ (hA_ ?_ _) _;have := heap_alloc_new (w.alloc (.cells (prtV Ac cc Ab cb p) 26)) (.cells (sttV Ar cr Au cu s) 42)
    rwa [World.size_alloc] at this
  have hl : W.heap[lb]? = some (.cells (plnV Al cl As cs l) 31 (0, 0)) := by
    rw [hW, hlb];refine hA_ ?_ _;have := heap_alloc_new ((w.alloc (.cells (prtV Ac cc Ab cb p) 26)).alloc (.cells (sttV Ar cr Au cu s) 42)) (.cells (plnV Al cl As cs l) 31)
    rwa [World.size_alloc, World.size_alloc] at this
  have hr : W.heap[rb]? = some (.cells #[.slice none 0 0, .slice none 0 0] 42 (0, 0)) := by
    rw [hW, hrb];have := heap_alloc_new (((w.alloc (.cells (prtV Ac cc Ab cb p) 26)).alloc (.cells (sttV Ar cr Au cu s) 42)).alloc (.cells (plnV Al cl As cs l) 31)) (.cells #[.slice none 0 0, .slice none 0 0] 42)
    rwa [World.size_alloc, World.size_alloc, World.size_alloc] at this
  have kst := start_any D Ac cc Ab cb p Al cl As cs l Ar cr Au cu s W (PB.below (b0.mono hD)) (LB.below (b0.mono hD)) (SB.below (b0.mono hD)) (by have := b0.size; omega);have c0 : W.cell? ⟨pb, 0, none⟩ = some (.slice Ac p.chs.length cc) := (cOH hp 0).trans rfl;have c1 : W.cell? ⟨pb, 1, none⟩ = some (.slice Ab p.bts.length cb) := (cOH hp 1).trans rfl;have c2 : W.cell? ⟨pb, 2, none⟩ = some (.int .i64 p.tugs) := (cOH hp 2).trans rfl;have c3 : W.cell? ⟨lb, 0, none⟩ = some (.int .i64 l.hours) := (cOH hl 0).trans rfl;have c4 : W.cell? ⟨lb, 1, none⟩ = some (.slice Al l.calls.length cl) := (cOH hl 1).trans rfl;have c5 : W.cell? ⟨lb, 2, none⟩ = some (.slice As l.swps.length cs) := (cOH hl 2).trans rfl;have c6 : W.cell? ⟨sb, 0, none⟩ = some (.slice Ar s.brash.length cr) := (cOH hs 0).trans rfl;have c7 : W.cell? ⟨sb, 1, none⟩ = some (.slice Au s.busy.length cu) := (cOH hs 1).trans rfl;have zp := hL_ hp;have zl := hL_ hl;have zs := hL_ hs;have hrw : w.heap.size ≤ rb := by omega
  have H := Lib.hid (And.intro b0 (And.intro hr kst));clear b0 hp hs hl hr kst
  go_enter Try.func19, Try.ntmps19
  go_upto_region 1 with fail
  rw [← hW, ← hrb, ← hlb, ← hsb, ← hpb];clear hW hlb hsb hpb hrb;go_wp2_with fail
  refine H.out.2.2.mono ?_;rintro e w1 ⟨b1, hcase⟩;have hr1 := (b1.block _ (hL_ H.out.2.1)).trans H.out.2.1;have bw1 : Below w.heap.size w w1 := H.out.1.trans (b1.mono H.out.1.size);clear c0 c1 c2 c3 c4 c5 c6 c7 zp zl zs;rcases hcase with ⟨hne, rfl⟩ | ⟨he, c, hM, hS, rfl⟩
  · have f0 := fOH hr1 0;have f1 := fOH hr1 1;have d0 := (cOH hr1 0).trans rfl;have d1 := (cOH hr1 1).trans rfl;have zr := hL_ hr1;obtain ⟨er, her⟩ : ∃ er, er = startE p s l := ⟨_, rfl⟩;rw [← her] at hne ⊢;have hnb : (er != 0) = true := by simpa using hne
    have hv : runE p s l = er ∧ runI p s l = 0 := by unfold runE runI; rw [if_pos (by rw [← her]; exact hne), if_pos (by rw [← her]; exact hne), her]; exact ⟨rfl, rfl⟩
    have hvv : runV p s l = ⟨[], []⟩ := by unfold runV; rw [if_neg (by rw [hv.1]; exact hne)]
    have HF := Lib.hid (And.intro hv.1 (And.intro hv.2 (And.intro hvv (And.intro hr1 bw1))));clear hv hvv hr1 bw1 her hne b1;go_wp2_with fail
    refine bodyPost_ret (stt_results rfl (hS_ (hS_ HF.out.2.2.2.1 0 (.slice none 0 0)) 1 (.slice none 0 0)) _ _ _ rfl rfl rfl) rfl ?_;refine ⟨none, 0, none, 0, ?_, ?_, (HF.out.2.2.2.2.setCell hrw _).setCell hrw _, (fun _ _ h => by cases h), (fun _ _ h => by cases h)⟩
    · rw [HF.out.1, HF.out.2.1, HF.out.2.2.1]; rfl
    · rw [HF.out.2.2.1]; exact stt_nil _ _
  · obtain ⟨hc, hlen1, hlen2, hbr⟩ := start_bd he;obtain ⟨q1, q2, q3, q4, q5, q6, q7, q8, q9, q10, q11⟩ := hM.eq;have v : Val c.p c.l := by rw [q6, q11]; exact val_of hc
    have krun := run_any hM.E hM.N hS v (brR_of (by decide) hbr) 74 74 #[] #[] cbNothing cbNothing [] (by simp) (fun _ _ => True) (fun _ _ => True) (fun _ _ => True) trivial
      (fun k w _ _ _ _ _ => (nothing_any _ _).mono fun e w' h => ⟨h.1, ⟨[], by rw [← h.2]; exact Keep.refl _ _, by simp⟩, trivial⟩) (fun k w _ _ _ _ _ => (nothing_any _ _).mono fun e w' h => ⟨h.1, ⟨[], by rw [← h.2]; exact Keep.refl _ _, by simp⟩, trivial⟩) (fun _ _ _ _ _ => trivial) (fun _ _ _ _ _ => trivial)
    have hrn : rb ≠ c.gb ∧ rb ≠ c.ub ∧ rb ≠ c.wb := by have := hM.new; have := hL_ H.out.2.1; omega
    have hg := hM.new;obtain ⟨R, hR⟩ : ∃ R, R = runR p l s := ⟨_, rfl⟩;have HM := Lib.hid (And.intro hM (And.intro krun (And.intro he (And.intro hr1 (And.intro bw1 (And.intro q6 (And.intro q11 hR)))))));clear hM krun he hr1 bw1 hS v hc hbr hlen1 hlen2 q1 q2 q3 q4 q5 q6 q7 q8 q9 q10 q11 b1 hR;go_wp2_with fail
    refine HM.out.2.1.mono ?_;rintro e w3 ⟨rfl, kp, hok⟩;rw [HM.out.2.2.2.2.2.1, HM.out.2.2.2.2.2.2.1, ← HM.out.2.2.2.2.2.2.2] at hok ⊢;have hr3 := (kp.block rb (hL_ HM.out.2.2.2.1) (by simp; exact ⟨hrn.1, hrn.2.1⟩)).trans HM.out.2.2.2.1;have hWs := H.out.1.size;have bw3 : Below w.heap.size w w3 := HM.out.2.2.2.2.1.trans (kp.below HM.out.2.2.2.2.1.size (by simp; omega));have f0 := fOH hr3 0;have f1 := fOH hr3 1;have d0 := (cOH hr3 0).trans rfl;have d1 := (cOH hr3 1).trans rfl;have zr := hL_ hr3;obtain ⟨i, er⟩ := R;have hrr : runR p l s = (i, er) := HM.out.2.2.2.2.2.2.2.symm;have hv : runE p s l = er ∧ runI p s l = i := by unfold runE runI; rw [if_neg (by rw [HM.out.2.2.1]; simp), if_neg (by rw [HM.out.2.2.1]; simp), hrr]; exact ⟨rfl, rfl⟩
    by_cases her : er = 0
    · subst her;have hvv : runV p s l = stN p l s l.hours.toNat := by unfold runV; rw [if_pos hv.1]
      obtain ⟨S3, _⟩ := hok rfl;have E3 := HM.out.1.E.keep kp (by have := HM.out.1.N.g; have := HM.out.1.N.u; simp; omega);obtain ⟨_, _, q2, q3, _, _, _, _, _, z1, _, _⟩ := E3.cells;obtain ⟨n, hn⟩ : ∃ n, n = c.p.chs.length := ⟨_, rfl⟩;obtain ⟨m, hm⟩ : ∃ m, m = c.p.bts.length := ⟨_, rfl⟩;have hbr : brV c = .slice (some ⟨c.gb, 0, none⟩) n c.c1 := by rw [hn]
      have hbu : buV c = .slice (some ⟨c.ub, 0, none⟩) m c.c2 := by rw [hm]
      rw [hbr] at q2;rw [hbu] at q3;have hl3 := S3.len;have HF := Lib.hid (And.intro hv.1 (And.intro hv.2 (And.intro hvv (And.intro hr3 (And.intro bw3 (And.intro S3 (And.intro hn hm)))))));clear hv hvv hr3 bw3 S3 E3 hn hm hbr hbu hok kp hrr hl3;go_upto_region 7 with fail
      refine wRS (σ := Unit) (by kernel_rfl) (by kernel_rfl) (fun _ jx vx _ => RfV w3 c.wb rb n c.c1 m c.c2 c.gb c.ub i jx vx) (fun _ ly wx => RfW w3 c.wb rb n c.c1 m c.c2 c.gb c.ub i ly wx) () ?_ ?_ ?_
      · exact (by unfold RfW; rw [if_neg (by simp)])
      · simp only [AllFrom, Nat.zero_add, Nat.reduceAdd];refine ⟨?_, ?_, ?_, ?_, ?_, ?_, ?_, ?_, ?_, ?_, ?_, ?_, ?_, trivial⟩
        · refine sP_ fun sg ly a wr hl hd hW hF => ?_;have et9 := hF.old 9 (by kernel_rfl);simp [Act.eval] at et9;exact ⟨by simpa [RfW, upd] using hW, .pointer (some ⟨c.wb, 0, none⟩), by go_simp, rfl⟩
        · refine sP_ fun sg ly a wr hl hd hW hF => ?_;simp [Region.binds] at hd;have et33 := hF.new 0 33 (by simp [hd]) rfl;simp [RfV, Act.eval] at et33;exact ⟨by simpa [RfW, upd] using hW, .pointer (some ⟨c.wb, 0, none⟩), by go_simp, rfl⟩
        · refine sP_ fun sg ly a wr hl hd hW hF => ?_;simp [Region.binds] at hd;have et34 := hF.new 1 34 (by simp [hd]) rfl;simp [RfV, Act.eval] at et34;exact ⟨by simpa [RfW, upd] using hW, .pointer (some ⟨c.wb, 2, none⟩), by go_simp, rfl⟩
        · refine sP_ fun sg ly a wr hl hd hW hF => ?_;simp [Region.binds] at hd;have et35 := hF.new 2 35 (by simp [hd]) rfl;simp [RfV, Act.eval] at et35;have nL_8 := hF.notYet 3 8 hl (by kernel_rfl);have nL := hF.notYet 8 10 nL_8 (by kernel_rfl);have hW' := hW;unfold RfW at hW';rw [if_neg (by simp [nL])] at hW';subst hW';exact ⟨by unfold RfW; rw [if_neg (by simp [upd, nL])], _, by go_simp, rfl⟩
        · refine sP_ fun sg ly a wr hl hd hW hF => ?_;have et9 := hF.old 9 (by kernel_rfl);simp [Act.eval] at et9;exact ⟨by simpa [RfW, upd] using hW, .pointer (some ⟨c.wb, 0, none⟩), by go_simp, rfl⟩
        · refine sP_ fun sg ly a wr hl hd hW hF => ?_;simp [Region.binds] at hd;have et37 := hF.new 4 37 (by simp [hd]) rfl;simp [RfV, Act.eval] at et37;exact ⟨by simpa [RfW, upd] using hW, .pointer (some ⟨c.wb, 0, none⟩), by go_simp, rfl⟩
        · refine sP_ fun sg ly a wr hl hd hW hF => ?_;simp [Region.binds] at hd;have et38 := hF.new 5 38 (by simp [hd]) rfl;simp [RfV, Act.eval] at et38;exact ⟨by simpa [RfW, upd] using hW, .pointer (some ⟨c.wb, 3, none⟩), by go_simp, rfl⟩
        · refine sP_ fun sg ly a wr hl hd hW hF => ?_;simp [Region.binds] at hd;have et39 := hF.new 6 39 (by simp [hd]) rfl;simp [RfV, Act.eval] at et39;have nL_8 := hF.notYet 7 8 hl (by kernel_rfl);have nL := hF.notYet 8 10 nL_8 (by kernel_rfl);have hW' := hW;unfold RfW at hW';rw [if_neg (by simp [nL])] at hW';subst hW';exact ⟨by unfold RfW; rw [if_neg (by simp [upd, nL])], _, by go_simp, rfl⟩
        · refine sP_ fun sg ly a wr hl hd hW hF => ?_;simp [Region.binds] at hd;have et36 := hF.new 3 36 (by simp [hd]) rfl;simp [RfV, Act.eval] at et36;have et40 := hF.new 7 40 (by simp [hd]) rfl;simp [RfV, Act.eval] at et40;exact ⟨by simpa [RfW, upd] using hW, .agg #[.slice (some ⟨c.gb, 0, none⟩) n c.c1, .slice (some ⟨c.ub, 0, none⟩) m c.c2], by go_simp, rfl⟩
        · refine sP_ fun sg ly a wr hl hd hW hF => ?_;have et11 := hF.old 11 (by kernel_rfl);simp [Act.eval] at et11;exact ⟨by simpa [RfW, upd] using hW, .int .i64 i, by go_simp, rfl⟩
        · refine sS_ rfl fun sg ly a wr hl hd hW hF => ?_;simp [Region.binds] at hd;have et6 := hF.old 6 (by kernel_rfl);simp [Act.eval] at et6;have et41 := hF.new 8 41 (by simp [hd]) rfl;simp [RfV, Act.eval] at et41;have hW' := hW;unfold RfW at hW';rw [if_neg (by simp [hl])] at hW';subst hW';refine ⟨((w3.setCell ⟨rb, 0, none⟩ (.slice (some ⟨c.gb, 0, none⟩) n c.c1)).setCell ⟨rb, 1, none⟩ (.slice (some ⟨c.ub, 0, none⟩) m c.c2)).drew, (), .skip, by go_simp, .inl rfl, by unfold RfW; rw [if_pos (by simp [upd])], fun _ _ _ h => h⟩
        · refine sP_ fun sg ly a wr hl hd hW hF => ?_;simp [Region.binds] at hd;have et42 := hF.new 9 42 (by simp [hd]) rfl;simp [RfV, Act.eval] at et42;exact ⟨by simpa [RfW, upd] using hW, .int .i64 i, by go_simp, rfl⟩
        · refine sP_ fun sg ly a wr hl hd hW hF => ?_;exact ⟨by simpa [RfW, upd] using hW, .int .i64 0, by go_simp, rfl⟩
      intro _ a w5 hWW hF;have e7 := hF.new 11 7 (by decide) rfl;have e8 := hF.new 12 8 (by decide) rfl;obtain ⟨f3, hf3, rfl⟩ := hF.lit;rw [← hf3] at e7 e8;simp only [RfV] at e7 e8;have hw5 : w5 = ((w3.setCell ⟨rb, 0, none⟩ (.slice (some ⟨c.gb, 0, none⟩) n c.c1)).setCell ⟨rb, 1, none⟩ (.slice (some ⟨c.ub, 0, none⟩) m c.c2)).drew := by
        have h5 := hWW;unfold RfW at h5
        rwa [if_pos (by simp)] at h5
      clear hf3 hF hWW;simp only [List.filterMap, List.foldl, List.setIfInBounds_toArray, List.set_cons_succ, List.set_cons_zero, e7, e8];clear e7 e8;have hr5 : w5.heap[rb]? = some (.cells #[.slice (some ⟨c.gb, 0, none⟩) n c.c1, .slice (some ⟨c.ub, 0, none⟩) m c.c2] 42 (0, 0)) := by rw [hw5]; exact hS_ (hS_ HF.out.2.2.2.1 0 _) 1 _
      have kp5 : Keep [rb] w3 w5 := by rw [hw5]; exact (((Keep.refl _ _).setCell (.inl (by simp)) _).setCell (.inl (by simp)) _).drew
      have S5 : WkS c w5 w5 (stN p l s l.hours.toNat) := ⟨Keep.refl _ _, HF.out.2.2.2.2.2.1.br.keepS kp5 (by simpa using hrn.1.symm), HF.out.2.2.2.2.2.1.bu.keepS kp5 (by simpa using hrn.2.1.symm)⟩;have H5 := Lib.hid (And.intro hr5 (And.intro kp5 S5));clear hw5 hr5 kp5 S5;go_wp2_with fail
      refine bodyPost_ret (stt_results rfl H5.out.1 _ _ _ rfl rfl rfl) rfl ?_;have hl5 := H5.out.2.2.len;refine ⟨some ⟨c.gb, 0, none⟩, c.c1, some ⟨c.ub, 0, none⟩, c.c2, ?_, ?_, HF.out.2.2.2.2.1.trans (H5.out.2.1.below HF.out.2.2.2.2.1.size (by simpa using hrw)), (fun b o h => by injection h with h; injection h with h _ _; omega), (fun b o h => by injection h with h; injection h with h _ _; omega)⟩
      · rw [HF.out.1, HF.out.2.1, HF.out.2.2.1];simp only [sttV];rw [hl5.1, hl5.2, ← HF.out.2.2.2.2.2.2.1, ← HF.out.2.2.2.2.2.2.2]; rfl
      · rw [HF.out.2.2.1]; exact wk_sttB H5.out.2.2
    · have hnb : (er != 0) = true := by simpa using her
      have hvv : runV p s l = ⟨[], []⟩ := by unfold runV; rw [if_neg (by rw [hv.1]; exact her)]
      have HF := Lib.hid (And.intro hv.1 (And.intro hv.2 (And.intro hvv (And.intro hr3 bw3))));clear hv hvv hr3 bw3 her hok kp hrr;go_wp2_with fail
      refine bodyPost_ret (stt_results rfl (hS_ (hS_ HF.out.2.2.2.1 0 (.slice none 0 0)) 1 (.slice none 0 0)) _ _ _ rfl rfl rfl) rfl ?_;refine ⟨none, 0, none, 0, ?_, ?_, (HF.out.2.2.2.2.setCell hrw _).setCell hrw _, (fun _ _ h => by cases h), (fun _ _ h => by cases h)⟩
      · rw [HF.out.1, HF.out.2.1, HF.out.2.2.1]; rfl
      · rw [HF.out.2.2.1]; exact stt_nil _ _
end Go.Proofs.Ythmldeningpjbaa
namespace Go.Proofs.Ythmldeningpjbaa
open Go Go.RowKit Go.Lib Sp Pt
theorem infoRow : (Try.prog.info? 33).map (fun i => (i.zero, i.size, i.bytes)) = some (some (.slice none 0 0), 1, 24) := by kernel_rfl
structure LRow where
  A : Option Addr
  c : Nat
  l : List Int
  q : List Nat
def LRow.v (r : LRow) : Value := .slice r.A r.l.length r.c
def LRow.it (r : LRow) : It := .own 3 1 r.A r.l.length r.c (ints r.l) r.q
structure TrS where
  bs : Nat
  A : Option Addr
  c : Nat
  g : Nat
  rA : Option Addr
  rc : Nat
  rq : List Nat
structure TrW (W0 : World) (tb k : Nat) (A : Option Addr) (c : Nat) (xs : List Value) (q : List Nat) (row : List Int) (s : TrS) (l : Nat → Bool) (w : World) : Prop where
  kp : Keep (tb :: q) W0 w
  own0 : l 7 = false → OwnS w 33 1 A k c xs q
  own1 : l 7 = true → OwnS w 33 1 s.A (k + 1) s.c (xs ++ [.slice s.rA row.length s.rc]) [s.g] ∧ (s.g ∈ q ∨ W0.heap.size ≤ s.g) ∧ s.g ∉ s.rq
  hob : w.heap[tb]? = some (.cells (if l 8 then #[.slice s.A (k + 1) s.c] else #[.slice A k c]) 66 (0, 0))
  hbs : l 6 = true → W0.heap.size ≤ s.bs ∧ w.heap[s.bs]? = some (.cells #[.slice s.rA row.length s.rc] 33 (0, 0)) ∧ s.bs ∉ s.rq
  row : l 5 = true → OwnS w 3 1 s.rA row.length s.rc (ints row) s.rq ∧ ∀ x ∈ s.rq, W0.heap.size ≤ x
  nq : tb ∉ q ∧ tb < W0.heap.size ∧ ∀ x ∈ q, x < W0.heap.size
section
variable {W0 : World} {tb k : Nat} {A : Option Addr} {c : Nat} {xs : List Value} {q : List Nat} {row : List Int} {s : TrS} {l : Nat → Bool} {w w' : World}
theorem TrW.other (H : TrW W0 tb k A c xs q row s l w) (i : Nat) (hi : i ≠ 5 ∧ i ≠ 6 ∧ i ≠ 7 ∧ i ≠ 8) : TrW W0 tb k A c xs q row s (upd l i) w := by
  obtain ⟨a1, a2, a3, a4⟩ := hi;exact ⟨H.kp, by rw [upd_ne a3]; exact H.own0, by rw [upd_ne a3]; exact H.own1, by rw [upd_ne a4]; exact H.hob, by rw [upd_ne a2]; exact H.hbs, by rw [upd_ne a1]; exact H.row, H.nq⟩
theorem TrW.clone (H : TrW W0 tb k A c xs q row s l w) (h6 : l 6 = false) (h7 : l 7 = false) (h8 : l 8 = false) {A' : Option Addr} {c' : Nat} {q' : List Nat} (ho : OwnS w' 3 1 A' row.length c' (ints row) q') (hq : ∀ g ∈ q', w.heap.size ≤ g) (hb : Below w.heap.size w w') :
    TrW W0 tb k A c xs q row { s with rA := A', rc := c', rq := q' } (upd l 5) w' := by
  have K : Keep [] w w' := Keep.of_below hb;have hh := H.hob;rw [h8, if_neg (by simp)] at hh;refine ⟨H.kp.trans K (by simp), ?_, ?_, ?_, ?_, fun _ => ⟨ho, fun x hx => by have := hq x hx; have := H.kp.size; omega⟩, H.nq⟩
  · rw [upd_ne (by decide)]; exact fun e => (H.own0 e).keepS K (by simp)
  · rw [upd_ne (by decide), h7]; exact fun e => by cases e
  · rw [upd_ne (by decide), h8, if_neg (by simp)]; exact (hb.block _ (hL_ hh)).trans hh
  · rw [upd_ne (by decide), h6]; exact fun e => by cases e
theorem TrW.build (H : TrW W0 tb k A c xs q row s l w) (h5 : l 5 = true) (h7 : l 7 = false) (h8 : l 8 = false) : TrW W0 tb k A c xs q row { s with bs := w.heap.size } (upd l 6) (w.alloc (.cells #[.slice s.rA row.length s.rc] 33)) := by
  have hh := H.hob;rw [h8, if_neg (by simp)] at hh;refine ⟨H.kp.alloc _, ?_, ?_, ?_, fun _ => ⟨H.kp.size, heap_alloc_new _ _, fun hm => by have := (H.row h5).1.lt _ hm; simp only at this; omega⟩, ?_, H.nq⟩
  · rw [upd_ne (by decide)]; exact fun e => (H.own0 e).alloc _
  · rw [upd_ne (by decide), h7]; exact fun e => by cases e
  · rw [upd_ne (by decide), h8, if_neg (by simp)]; exact hA_ hh _
  · exact fun _ => ⟨(H.row h5).1.alloc _, (H.row h5).2⟩
theorem TrW.app (H : TrW W0 tb k A c xs q row s l w) (h5 : l 5 = true) (h6 : l 6 = true) (h8 : l 8 = false) {g c' : Nat} (o1 : OwnS w' 33 1 (some ⟨g, 0, none⟩) (k + 1) c' (xs ++ [.slice s.rA row.length s.rc]) [g]) (o2 : g ∈ q ∨ w.heap.size = g) (o3 : Keep q w w') :
    TrW W0 tb k A c xs q row { s with A := some ⟨g, 0, none⟩, c := c', g := g } (upd l 7) w' := by
  have hh := H.hob;rw [h8, if_neg (by simp)] at hh;have hr := H.row h5;have hqr : ∀ x ∈ s.rq, x ∉ q := fun x hx hm => by have := hr.2 x hx; have := H.nq.2.2 x hm; omega
  have hb := H.hbs h6;refine ⟨H.kp.trans o3 (fun x hx => .inl (by simp [hx])), by rw [upd_eq]; exact fun e => (by cases e), fun _ => ⟨o1, by rcases o2 with e | e; exact .inl e; exact .inr (by have := H.kp.size; simp only; omega), fun hm => ?_⟩, ?_, ?_, ?_, H.nq⟩
  · rcases o2 with e | e
    · exact hqr _ hm e
    · have := hr.1.lt _ hm; simp only at this; omega
  · rw [upd_ne (by decide), h8, if_neg (by simp)]; exact (o3.block _ (hL_ hh) H.nq.1).trans hh
  · rw [upd_ne (by decide)];exact fun e => ⟨hb.1, (o3.block _ (hL_ hb.2.1) (fun hm => by have := H.nq.2.2 _ hm; omega)).trans hb.2.1, hb.2.2⟩
  · exact fun _ => ⟨hr.1.keepS o3 hqr, hr.2⟩
theorem TrW.store (H : TrW W0 tb k A c xs q row s l w) (h5 : l 5 = true) (h7 : l 7 = true) (h8 : l 8 = false) : TrW W0 tb k A c xs q row s (upd l 8) (w.setCell ⟨tb, 0, none⟩ (.slice s.A (k + 1) s.c)) := by
  have hh := H.hob;rw [h8, if_neg (by simp)] at hh;have K : Keep [tb] w (w.setCell ⟨tb, 0, none⟩ (.slice s.A (k + 1) s.c)) := (Keep.refl _ _).setCell (.inl (by simp)) _;have hr := H.row h5;have ho := H.own1 h7;have htg : s.g ≠ tb := by
    rcases ho.2.1 with e | e
    · exact fun e2 => H.nq.1 (e2 ▸ e)
    · have := H.nq.2.1; omega
  refine ⟨H.kp.setCell (.inl (by simp)) _, by rw [upd_ne (by decide), h7]; exact fun e => (by cases e), fun _ => ⟨ho.1.keepS K (by simpa using htg), ho.2⟩, ?_, ?_, ?_, H.nq⟩
  · rw [upd_eq, if_pos rfl]; exact hS_ hh 0 _
  · rw [upd_ne (by decide)];exact fun e => ⟨(H.hbs e).1, (K.block _ (hL_ (H.hbs e).2.1) (by have := (H.hbs e).1; have := H.nq.2.1; simp; omega)).trans (H.hbs e).2.1, (H.hbs e).2.2⟩
  · exact fun _ => ⟨hr.1.keepS K (fun x hx => by have := hr.2 x hx; have := H.nq.2.1; simp; omega), hr.2⟩
end
def TrV (wb k n m : Nat) (A : Option Addr) (c : Nat) (B : Option Addr) (d : Nat) (s : TrS) : Nat → Value → Prop
  | 0, v => v = .slice A k c
  | 1, v => v = .pointer (some ⟨wb, 0, none⟩)
  | 2, v => v = .pointer (some ⟨wb, 0, none⟩)
  | 3, v => v = .pointer (some ⟨wb, 2, none⟩)
  | 4, v => v = .slice B m d
  | 5, v => v = .slice s.rA n s.rc
  | 6, v => v = .slice (some ⟨s.bs, 0, none⟩) 1 1
  | 7, v => v = .slice s.A (k + 1) s.c
  | _, _ => True
def trL (gb ub tb k : Nat) (A : Option Addr) (c : Nat) (q : List Nat) (rows : List LRow) : List It := [.any gb, .any ub, .blk tb (.cells #[.slice A k c] 66 (0, 0)), .own 33 1 A k c (rows.map LRow.v) q] ++ rows.map LRow.it
def Trace1Post (D : Nat) (W0 : World) (C : WC) (w : World) (s : Stt) (tb k : Nat) (q : List Nat) (rows : List LRow) (e : Ending) (w' : World) : Prop :=
  e = .returned (.tuple #[]) ∧ ∃ (A : Option Addr) (c : Nat) (q' : List Nat) (r : LRow), r.l = s.brash ∧ Own D W0 (trL C.gb C.ub tb (k + 1) A c q' (rows ++ [r])) w' ∧ Keep (tb :: q) w w' ∧ ∀ x ∈ q', x ∈ q ∨ w.heap.size ≤ x
theorem trace1_any {D : Nat} {W0 : World} {C : WC} {w : World} {s : Stt} (h : Int) (E : WcE C w (brV C) (buV C)) (S : WkS C w w s) (xb tb k : Nat) (A : Option Addr) (c : Nat) (q : List Nat) (rows : List LRow) (hx : w.cell? ⟨xb, 0, none⟩ = some (.pointer (some ⟨C.wb, 0, none⟩))) (hxq : xb ∉ tb :: q) (hwq : C.wb ∉ tb :: q)
    (L0 : Own D W0 (trL C.gb C.ub tb k A c q rows) w) (hk : k ≤ 1000) (hc : C.p.chs.length ≤ 6) :
    Calls Try.prog 81 #[.int .i64 h, .pointer (some ⟨tb, 0, none⟩), .pointer (some ⟨xb, 0, none⟩)] w (Trace1Post D W0 C w s tb k q rows) := by
  obtain ⟨iR, hR0, hR1, hR2, hR3⟩ := info_parts infoRow;have hl := S.len;have c2 := E.cells.2.2.1;have HL := Lib.hid (And.intro hx (And.intro hxq (And.intro c2 hwq)));have ho := L0.owns 3 rfl;have hb := L0.heap 2 rfl;have HO := Lib.hid (And.intro ho (And.intro hb (And.intro (fun hm => L0.dis 2 3 _ _ rfl rfl (by decide) tb (by simp [It.fp]) hm) (And.intro (hL_ hb) (fun x hx => ho.lt x hx)))));have HB := Lib.hid (And.intro S.br (And.intro (fun g hg hm => by
      rw [List.mem_singleton.1 hg] at hm;rcases List.mem_cons.1 hm with e | e
      · exact L0.ne 0 2 rfl rfl (by decide) (x := C.gb) (y := tb) (by simp [It.fp]) (by simp [It.fp]) e
      · exact L0.dis 0 3 _ _ rfl rfl (by decide) C.gb (by simp [It.fp]) e : ∀ g ∈ [C.gb], g ∉ tb :: q) (And.intro (by simp [ints, Value.oneCell'] : ∀ u ∈ ints s.brash, u.oneCell' = true) (And.intro (by omega : C.p.chs.length ≤ 100000000) hl.1))))
  have HS := Lib.hid L0;have zx := World.block_lt_of_cell? _ _ hx;have zw := World.block_lt_of_cell? _ _ c2;simp only at zx zw;clear E S L0 ho hb hx hxq hwq c2 hl
  go_enter Try.func81, Try.ntmps81
  go_upto_region 0 with fail
  refine wRS (σ := TrS) (by kernel_rfl) (by kernel_rfl) (fun sg jx vx _ => TrV C.wb k s.brash.length C.p.chs.length A c (some ⟨C.gb, 0, none⟩) C.c1 sg jx vx) (fun sg ly wx => TrW w tb k A c (rows.map LRow.v) q s.brash sg ly wx) ⟨0, none, 0, 0, none, 0, []⟩ ?_ ?_ ?_
  · exact ⟨(Keep.refl _ _).drew, fun _ => HO.out.1, (fun h => by cases h), by rw [if_neg (by simp)]; exact HO.out.2.1, (fun h => by cases h), (fun h => by cases h), HO.out.2.2⟩
  · simp only [AllFrom, Nat.zero_add, Nat.reduceAdd];refine ⟨?_, ?_, ?_, ?_, ?_, ?_, ?_, ?_, ?_, trivial⟩
    · refine sP_ fun sg ly a wx hl hd hW hF => ?_;have et1 := hF.old 1 (by kernel_rfl);simp [Act.eval] at et1;have nS := hF.notYet 0 8 hl (by kernel_rfl);have hh := hW.hob;rw [if_neg (by simp [nS])] at hh;have cL := (cOH hh 0).trans rfl;have zL := hL_ hh;exact ⟨hW.other _ (by decide), _, by go_simp, rfl⟩
    · refine sP_ fun sg ly a wx hl hd hW hF => ?_;have et2 := hF.old 2 (by kernel_rfl);simp [Act.eval] at et2;have cX := hW.kp.cell HL.out.1 HL.out.2.1;exact ⟨hW.other _ (by decide), _, by go_simp, rfl⟩
    · refine sP_ fun sg ly a wx hl hd hW hF => ?_;simp [Region.binds] at hd;have et5 := hF.new 1 5 (by simp [hd]) rfl;simp [TrV, Act.eval] at et5;have cW := hW.kp.cell HL.out.2.2.1 HL.out.2.2.2;exact ⟨hW.other _ (by decide), _, by go_simp, rfl⟩
    · refine sP_ fun sg ly a wx hl hd hW hF => ?_;simp [Region.binds] at hd;have et6 := hF.new 2 6 (by simp [hd]) rfl;simp [TrV, Act.eval] at et6;exact ⟨hW.other _ (by decide), _, by go_simp, rfl⟩
    · refine sP_ fun sg ly a wx hl hd hW hF => ?_;simp [Region.binds] at hd;have et7 := hF.new 3 7 (by simp [hd]) rfl;simp [TrV, Act.eval] at et7;have cW := hW.kp.cell HL.out.2.2.1 HL.out.2.2.2;exact ⟨hW.other _ (by decide), _, by go_simp, rfl⟩
    · refine sC_ fun sg ly a wx hl hd hW hF => ?_;simp [Region.binds] at hd;have et8 := hF.new 4 8 (by simp [hd]) rfl;simp [TrV, Act.eval] at et8;have n6 := hF.notYet 5 6 hl (by kernel_rfl);have n7 := hF.notYet 5 7 hl (by kernel_rfl);have n8 := hF.notYet 5 8 hl (by kernel_rfl);refine ⟨82, #[.slice (some ⟨C.gb, 0, none⟩) C.p.chs.length C.c1], by go_simp, ?_⟩;refine (clonePtI_any _ _ C.c1 (ints s.brash) wx (HB.out.1.keepS hW.kp HB.out.2.1).rd HB.out.2.2.1 (by simp) HB.out.2.2.2.1).mono ?_;rintro e w2 ⟨A2, c2, q2, rfl, o1, o2, o3⟩;rw [← HB.out.2.2.2.2] at o1;refine ⟨.slice A2 s.brash.length c2, { sg with rA := A2, rc := c2, rq := q2 }, by rw [HB.out.2.2.2.2], hW.clone n6 n7 n8 o1 o2 o3, rfl, ?_⟩;intro i u hi h;have i5 : i ≠ 5 := by rintro rfl; rw [hl] at hi; cases hi
      have i6 : i ≠ 6 := by rintro rfl; rw [n6] at hi; cases hi
      have i7 : i ≠ 7 := by rintro rfl; rw [n7] at hi; cases hi
      unfold TrV at h ⊢;split at h <;> first | exact h | exact absurd rfl i5 | exact absurd rfl i6 | exact absurd rfl i7
    · refine sR_ fun sg ly a wx hl hd hW hF => ?_;simp [Region.binds] at hd;have et9 := hF.new 5 9 (by simp [hd]) rfl;simp [TrV, Act.eval] at et9;have n7 := hF.notYet 6 7 hl (by kernel_rfl);have n8 := hF.notYet 6 8 hl (by kernel_rfl);have y5 : ly 5 = true := by simp [hd]
      refine ⟨_, wx.alloc (.cells #[.slice sg.rA s.brash.length sg.rc] 33), { sg with bs := wx.heap.size }, by go_simp, hW.build y5 n7 n8, rfl, ?_⟩;intro i u hi h;have i6 : i ≠ 6 := by rintro rfl; rw [hl] at hi; cases hi
      unfold TrV at h ⊢;split at h <;> first | exact h | exact absurd rfl i6
    · intro sg ly a wx hl hd hW hF;simp [Region.binds] at hd;have et4 := hF.new 0 4 (by simp [hd]) rfl;simp [TrV, Act.eval] at et4;have et10 := hF.new 6 10 (by simp [hd]) rfl;simp [TrV, Act.eval] at et10;have n8 := hF.notYet 7 8 hl (by kernel_rfl);have y6 : ly 6 = true := by simp [hd]
      have y5 : ly 5 = true := by simp [hd]
      have hbs := hW.hbs y6;refine wp_append_S (.tmp 4) (.tmp 10) 66 rfl iR _ 24 Try.underlying66 hR0 hR1 hR2 (by decide) hR3 rfl (by simpa [Act.eval] using et4) ⟨sg.bs, 0, none⟩ (by simpa [Act.eval] using et10) [.slice sg.rA s.brash.length sg.rc] (hW.own0 hl) rfl (fun j v hj => by rw [show (⟨sg.bs, 0, none⟩ : Addr).add j = ⟨sg.bs, j, none⟩ from by simp [Addr.add]; omega]; exact (cOH hbs.2.1 j).trans (by simpa using hj)) (by simp [Value.oneCell']) (by omega) (by omega) ?_;intro g c' w' o1 o2 o3 o4;refine ⟨{ sg with A := some ⟨g, 0, none⟩, c := c', g := g }, _, rfl, hW.app y5 y6 n8 o1 o2 o4, fun _ => rfl, ?_⟩;intro i u hi h;have i7 : i ≠ 7 := by rintro rfl; rw [hl] at hi; cases hi
      unfold TrV at h ⊢;split at h <;> first | exact h | exact absurd rfl i7
    · refine sS_ rfl fun sg ly a wx hl hd hW hF => ?_;simp [Region.binds] at hd;have et1 := hF.old 1 (by kernel_rfl);simp [Act.eval] at et1;have et11 := hF.new 7 11 (by simp [hd]) rfl;simp [TrV, Act.eval] at et11;have y7 : ly 7 = true := by simp [hd]
      have y5 : ly 5 = true := by simp [hd]
      have hh := hW.hob;rw [if_neg (by simp [hl])] at hh;have cL := (cOH hh 0).trans rfl;have fL := fOH hh 0;have zL := hL_ hh;exact ⟨_, sg, .skip, by go_simp, .inl rfl, hW.store y5 y7 hl, fun _ _ _ h => h⟩
  intro sg af w4 hWW hF;obtain ⟨ff, hf, rfl⟩ := hF.lit;clear hf hF;obtain ⟨o1, o2, o3⟩ := hWW.own1 rfl;obtain ⟨r1, r2⟩ := hWW.row rfl;have hob := hWW.hob;simp only [List.length_cons, List.length_nil, Nat.reduceAdd, Nat.reduceLT, decide_true, if_true] at hob;have kp := hWW.kp;obtain ⟨r, hr⟩ : ∃ r : LRow, r = ⟨sg.rA, sg.rc, s.brash, sg.rq⟩ := ⟨_, rfl⟩;have L4 : Own D W0 (trL C.gb C.ub tb (k + 1) sg.A sg.c [sg.g] (rows ++ [r])) w4 := by
    have L0 := HS.out;have hlen : (rows.map LRow.it).length = rows.length := by simp
    have hget : ∀ {a : Nat} {j : It}, (trL C.gb C.ub tb (k + 1) sg.A sg.c [sg.g] (rows ++ [r]))[a]? = some j →
        (a = 2 ∧ j = .blk tb (.cells #[.slice sg.A (k + 1) sg.c] 66 (0, 0))) ∨ (a = 3 ∧ j = .own 33 1 sg.A (k + 1) sg.c ((rows ++ [r]).map LRow.v) [sg.g]) ∨ (a = 4 + rows.length ∧ j = r.it) ∨ (a ≠ 2 ∧ a ≠ 3 ∧ a ≠ 4 + rows.length ∧ (trL C.gb C.ub tb k A c q rows)[a]? = some j) := by
      intro a j hj;unfold trL at hj ⊢
      match a with
      | 0 => exact .inr (.inr (.inr ⟨by decide, by decide, by omega, by simpa using hj⟩))
      | 1 => exact .inr (.inr (.inr ⟨by decide, by decide, by omega, by simpa using hj⟩))
      | 2 => exact .inl ⟨rfl, by simpa using hj.symm⟩
      | 3 => exact .inr (.inl ⟨rfl, by simpa using hj.symm⟩)
      | a + 4 =>
        rw [List.getElem?_append_right (by simp)] at hj;simp only [List.length_cons, List.length_nil, Nat.reduceAdd, Nat.add_sub_cancel, List.map_append, List.map_cons, List.map_nil] at hj;rw [List.getElem?_append] at hj;split at hj
        · rename_i h1
          refine .inr (.inr (.inr ⟨by omega, by omega, by simp at h1; omega, ?_⟩));rw [List.getElem?_append_right (by simp)];simpa using hj
        · rename_i h1
          have h2 := (List.getElem?_eq_some_iff.1 hj).1;simp at h1 h2;have h3 : a = rows.length := by omega
          subst h3;simp at hj;exact .inr (.inr (.inl ⟨by omega, hj.symm⟩))
    refine L0.updG _ (fun a => a = 2 ∨ a = 3 ∨ a = 4 + rows.length) kp (fun x hx => .inl ?_) (fun a j hj => ?_) (fun a j hj hc => ?_) (fun a b i j hi hj hab ha hb x hx hy hz => ?_)
    · rcases List.mem_cons.1 hx with e | hx
      · exact ⟨2, _, .inl rfl, rfl, by rw [e]; simp [It.fp]⟩
      · exact ⟨3, _, .inr (.inl rfl), rfl, hx⟩
    · rcases hget hj with ⟨e, _⟩ | ⟨e, _⟩ | ⟨e, _⟩ | ⟨_, _, _, e⟩
      · exact .inl (.inl e)
      · exact .inl (.inr (.inl e))
      · exact .inl (.inr (.inr e))
      · exact .inr e
    · rcases hget hj with ⟨e, rfl⟩ | ⟨e, rfl⟩ | ⟨e, rfl⟩ | ⟨e1, e2, e3, e⟩
      · subst e; exact ⟨hob, fun x hx => .inl ⟨_, rfl, hx⟩⟩
      · subst e;refine ⟨by rw [List.map_append, hr]; exact o1, fun x hx => ?_⟩;rw [List.mem_singleton.1 hx];rcases o2 with q1 | q1
        · exact .inl ⟨.own 33 1 A k c (rows.map LRow.v) q, rfl, q1⟩
        · exact .inr q1
      · rw [hr]; exact ⟨r1, fun x hx => .inr (r2 x hx)⟩
      · rcases hc with q1 | q1 | q1
        · exact absurd q1 e1
        · exact absurd q1 e2
        · exact absurd q1 e3
    · have htb := hL_ (L0.heap 2 rfl);have F : ∀ {a : Nat} {i : It}, (trL C.gb C.ub tb (k + 1) sg.A sg.c [sg.g] (rows ++ [r]))[a]? = some i → (a = 2 ∨ a = 3 ∨ a = 4 + rows.length) → x ∈ i.fp → (a = 3 ∧ x = sg.g) ∨ (a = 4 + rows.length ∧ x ∈ sg.rq) := by
        intro a i hi hc hx;rcases hget hi with ⟨e, rfl⟩ | ⟨e, rfl⟩ | ⟨e, rfl⟩ | ⟨e1, e2, e3, e⟩
        · rw [List.mem_singleton.1 hx] at hz; omega
        · exact .inl ⟨e, List.mem_singleton.1 hx⟩
        · rw [hr] at hx; exact .inr ⟨e, hx⟩
        · omega
      rcases F hi ha hx with ⟨e1, e2⟩ | ⟨e1, e2⟩
      · rcases F hj hb hy with ⟨e3, e4⟩ | ⟨e3, e4⟩
        · omega
        · exact o3 (e2 ▸ e4)
      · rcases F hj hb hy with ⟨e3, e4⟩ | ⟨e3, e4⟩
        · exact o3 (e4 ▸ e2)
        · omega
  clear o1 r1 r2 hob hWW;simp only [List.filterMap, List.foldl, List.setIfInBounds_toArray, List.set_cons_succ, List.set_cons_zero];have HF := Lib.hid (And.intro L4 (And.intro kp o2));clear L4 kp o2 o3;go_wp2_with fail
  go_end0
  refine ⟨rfl, sg.A, sg.c, [sg.g], r, by rw [hr], HF.out.1, HF.out.2.1, fun x hx => by rw [List.mem_singleton.1 hx]; exact HF.out.2.2⟩
end Go.Proofs.Ythmldeningpjbaa
namespace Go.Proofs.Ythmldeningpjbaa
open Go Go.RowKit Go.Lib Sp Pt
theorem boxes3 {D : Nat} {Ac : Option Addr} {cc : Nat} {Ab : Option Addr} {cb : Nat} {p : Prt} {Al : Option Addr} {cl : Nat} {As : Option Addr} {cs : Nat} {l : Pln} {Ar : Option Addr} {cr : Nat} {Au : Option Addr} {cu : Nat} {s : Stt} {w W : World}
    (PB : PrtB D w Ac cc Ab cb p) (LB : PlnB D w Al cl As cs l) (SB : SttB D w Ar cr Au cu s) (hD : D ≤ w.heap.size) (hW : W = ((w.alloc (.cells (prtV Ac cc Ab cb p) 26)).alloc (.cells (sttV Ar cr Au cu s) 42)).alloc (.cells (plnV Al cl As cs l) 31)) {pb sb lb : Nat} (hpb : pb = w.heap.size) (hsb : sb = w.heap.size + 1) (hlb : lb = w.heap.size + 1 + 1) :
    Below w.heap.size w W ∧ W.heap[pb]? = some (.cells (prtV Ac cc Ab cb p) 26 (0, 0)) ∧ W.heap[sb]? = some (.cells (sttV Ar cr Au cu s) 42 (0, 0)) ∧ W.heap[lb]? = some (.cells (plnV Al cl As cs l) 31 (0, 0)) ∧
      Calls Try.prog 72 #[.agg (prtV Ac cc Ab cb p), .agg (sttV Ar cr Au cu s), .agg (plnV Al cl As cs l)] W (StartPost W D Ac cc Ab cb p Al cl As cs l s) := by
  have b0 : Below w.heap.size w W := by rw [hW]; exact (((Below.refl _ _).alloc (Nat.le_refl _) _).alloc (by simp) _).alloc (by simp; omega) _
  refine ⟨b0, ?_, ?_, ?_, start_any D Ac cc Ab cb p Al cl As cs l Ar cr Au cu s W (PB.below (b0.mono hD)) (LB.below (b0.mono hD)) (SB.below (b0.mono hD)) (by have := b0.size; omega)⟩
  · rw [hW, hpb]; exact hA_ (hA_ (heap_alloc_new _ _) _) _
  · rw [hW, hsb];refine hA_ ?_ _;have := heap_alloc_new (w.alloc (.cells (prtV Ac cc Ab cb p) 26)) (.cells (sttV Ar cr Au cu s) 42)
    rwa [World.size_alloc] at this
  · rw [hW, hlb];have := heap_alloc_new ((w.alloc (.cells (prtV Ac cc Ab cb p) 26)).alloc (.cells (sttV Ar cr Au cu s) 42)) (.cells (plnV Al cl As cs l) 31)
    rwa [World.size_alloc, World.size_alloc] at this
def traceS (p : Prt) (l : Pln) (s : Stt) (k : Nat) : List (List Int) := (List.range k).map fun j => (stN p l s j).brash
theorem traceS_succ (p : Prt) (l : Pln) (s : Stt) (k : Nat) : traceS p l s (k + 1) = traceS p l s k ++ [(stN p l s k).brash] := by simp [traceS, List.range_succ]
def traceV (p : Prt) (s : Stt) (l : Pln) : List (List Int) := if runE p s l = 0 then traceS p l s (l.hours.toNat + 1) else []
def LsR (w : World) (A : Option Addr) (n : Nat) (rows : List LRow) : Prop := Rd w 1 A n (rows.map LRow.v) ∧ ∀ r ∈ rows, Rd w 1 r.A r.l.length (ints r.l)
def TracePost (w : World) (p : Prt) (s : Stt) (l : Pln) (e : Ending) (w' : World) : Prop :=
  ∃ A c rows, e = .returned (.tuple #[.slice A (traceV p s l).length c, .int .i64 (runE p s l)]) ∧ LsR w' A (traceV p s l).length rows ∧ rows.map (·.l) = traceV p s l ∧ Below w.heap.size w w'
def JTr (D : Nat) (W : World) (C : WC) (s : Stt) (tb k : Nat) (w : World) : Prop :=
  ∃ A c q rows, rows.map (·.l) = traceS C.p C.l s k ∧ Own D W (trL C.gb C.ub tb k A c q rows) w ∧ ∀ x ∈ q, W.heap.size ≤ x
theorem Trace_any (D : Nat) (Ac : Option Addr) (cc : Nat) (Ab : Option Addr) (cb : Nat) (p : Prt) (Al : Option Addr) (cl : Nat) (As : Option Addr) (cs : Nat) (l : Pln) (Ar : Option Addr) (cr : Nat) (Au : Option Addr) (cu : Nat) (s : Stt) (w : World)
    (PB : PrtB D w Ac cc Ab cb p) (LB : PlnB D w Al cl As cs l) (SB : SttB D w Ar cr Au cu s) (hD : D ≤ w.heap.size) :
    Calls Try.prog 27 #[.agg (prtV Ac cc Ab cb p), .agg (sttV Ar cr Au cu s), .agg (plnV Al cl As cs l)] w (TracePost w p s l) := by
  obtain ⟨W, hW⟩ : ∃ W, W = ((w.alloc (.cells (prtV Ac cc Ab cb p) 26)).alloc (.cells (sttV Ar cr Au cu s) 42)).alloc (.cells (plnV Al cl As cs l) 31) := ⟨_, rfl⟩;obtain ⟨pb, hpb⟩ : ∃ b, b = w.heap.size := ⟨_, rfl⟩;obtain ⟨sb, hsb⟩ : ∃ b, b = w.heap.size + 1 := ⟨_, rfl⟩;obtain ⟨lb, hlb⟩ : ∃ b, b = w.heap.size + 1 + 1 := ⟨_, rfl⟩;obtain ⟨b0, hp, hs, hl, kst⟩ := boxes3 PB LB SB hD hW hpb hsb hlb;have c0 : W.cell? ⟨pb, 0, none⟩ = some (.slice Ac p.chs.length cc) := (cOH hp 0).trans rfl;have c1 : W.cell? ⟨pb, 1, none⟩ = some (.slice Ab p.bts.length cb) := (cOH hp 1).trans rfl;have c2 : W.cell? ⟨pb, 2, none⟩ = some (.int .i64 p.tugs) := (cOH hp 2).trans rfl;have c3 : W.cell? ⟨lb, 0, none⟩ = some (.int .i64 l.hours) := (cOH hl 0).trans rfl;have c4 : W.cell? ⟨lb, 1, none⟩ = some (.slice Al l.calls.length cl) := (cOH hl 1).trans rfl;have c5 : W.cell? ⟨lb, 2, none⟩ = some (.slice As l.swps.length cs) := (cOH hl 2).trans rfl;have c6 : W.cell? ⟨sb, 0, none⟩ = some (.slice Ar s.brash.length cr) := (cOH hs 0).trans rfl;have c7 : W.cell? ⟨sb, 1, none⟩ = some (.slice Au s.busy.length cu) := (cOH hs 1).trans rfl;have zp := hL_ hp;have zl := hL_ hl;have zs := hL_ hs;have H := Lib.hid (And.intro b0 (And.intro kst hD));clear b0 hp hs hl kst PB LB SB hD
  go_enter Try.func27, Try.ntmps27
  go_upto_region 1 with fail
  rw [← hW, ← hlb, ← hsb, ← hpb];clear hW hlb hsb hpb;go_wp2_with fail
  refine H.out.2.1.mono ?_;rintro e w1 ⟨b1, hcase⟩;have bw1 : Below w.heap.size w w1 := H.out.1.trans (b1.mono H.out.1.size);clear c0 c1 c2 c3 c4 c5 c6 c7 zp zl zs;rcases hcase with ⟨hne, rfl⟩ | ⟨he, c, hM, hS, rfl⟩
  · obtain ⟨er, her⟩ : ∃ er, er = startE p s l := ⟨_, rfl⟩;rw [← her] at hne ⊢;have hnb : (er != 0) = true := by simpa using hne
    have hv : runE p s l = er := by unfold runE; rw [if_pos (by rw [← her]; exact hne), her]
    have hvv : traceV p s l = [] := by unfold traceV; rw [if_neg (by rw [hv]; exact hne)]
    have HF := Lib.hid (And.intro hv (And.intro hvv bw1));clear hv hvv bw1 her hne b1;go_wp2_with fail
    go_ret2
    refine ⟨none, 0, [], ?_, ⟨by rw [HF.out.2.1]; exact Rd.nil _ _ _, by simp⟩, by rw [HF.out.2.1]; rfl, HF.out.2.2.alloc HF.out.2.2.size _⟩;rw [HF.out.1, HF.out.2.1]; rfl
  · obtain ⟨hc, hlen1, hlen2, hbr⟩ := start_bd he;obtain ⟨q1, q2, q3, q4, q5, q6, q7, q8, q9, q10, q11⟩ := hM.eq;have v : Val c.p c.l := by rw [q6, q11]; exact val_of hc
    obtain ⟨xb, hxb⟩ : ∃ b, b = w1.heap.size := ⟨_, rfl⟩;obtain ⟨tb, htb⟩ : ∃ b, b = w1.heap.size + 1 := ⟨_, rfl⟩;obtain ⟨X, hX⟩ : ∃ X, X = (w1.alloc (.cells #[.pointer (some ⟨c.wb, 0, none⟩)] 145)).alloc (.cells #[.slice none 0 0] 66) := ⟨_, rfl⟩;have bX : Below w1.heap.size w1 X := by rw [hX]; exact ((Below.refl _ _).alloc (Nat.le_refl _) _).alloc (by simp) _
    have hx : X.heap[xb]? = some (.cells #[.pointer (some ⟨c.wb, 0, none⟩)] 145 (0, 0)) := by rw [hX, hxb]; exact hA_ (heap_alloc_new _ _) _
    have ht : X.heap[tb]? = some (.cells #[.slice none 0 0] 66 (0, 0)) := by
      rw [hX, htb];have := heap_alloc_new (w1.alloc (.cells #[.pointer (some ⟨c.wb, 0, none⟩)] 145)) (.cells #[.slice none 0 0] 66)
      rwa [World.size_alloc] at this
    have E := hM.E.below bX;have S : WkS c X X s := (hS.below bX).start;have hnew := hM.new;have hz := hM.E.cells;have hzg := hS.br.lt c.gb (by simp);have hzu := hS.bu.lt c.ub (by simp);have hWD : W.heap.size ≤ X.heap.size := by have := b1.size; have := bX.size; omega
    have J0 : JTr W.heap.size X c s tb 0 X := by
      refine ⟨none, 0, [], [], rfl, ?_, by simp⟩;have h1 := (Own.nil (w := X) hWD).add (i := .any c.gb) (by show c.gb < X.heap.size; have := bX.size; omega) (by simp [It.fp]; omega) (by simp);have h2 := h1.add (i := .any c.ub) (by show c.ub < X.heap.size; have := bX.size; omega) (by simp [It.fp]; omega) (by simp [It.fp]; exact fun e => hM.N.ne e.symm);have h3 := h2.add (i := .blk tb (.cells #[.slice none 0 0] 66 (0, 0))) ht (by simp [It.fp]; omega) (by simp [It.fp]; omega);exact h3.add (i := .own 33 1 none 0 0 ([].map LRow.v) []) (OwnS.nil _ _ _) (by simp [It.fp]) (by simp [It.fp])
    have hTn : ∀ x ∈ [tb], x ≠ c.wb ∧ x ≠ c.pb ∧ x ≠ c.lb ∧ c.D ≤ x ∧ x ≠ c.gb ∧ x ≠ c.ub := by
      intro x hx;rw [List.mem_singleton.1 hx];have h1 := hz.2.2.2.2.2.2.2.2.2;have h2 := hM.N.g;omega
    have xne : xb ≠ tb ∧ xb ≠ c.gb ∧ xb ≠ c.ub ∧ c.wb ≠ tb ∧ xb < X.heap.size ∧ c.wb < X.heap.size := by
      have h1 := hz.2.2.2.2.2.2.2.2.2;have := hL_ hx;have := bX.size;omega
    have hxc : X.cell? ⟨xb, 0, none⟩ = some (.pointer (some ⟨c.wb, 0, none⟩)) := (cOH hx 0).trans rfl;have hH : c.l.hours.toNat ≤ 100 := by have := v.h; omega
    have step : ∀ (k : Nat) (w : World), k ≤ c.l.hours.toNat → WcE c w (brV c) (buV c) → WkS c w w (stN c.p c.l s k) → JTr W.heap.size X c s tb k w → Keep (c.gb :: c.ub :: [tb]) X w →
        Calls Try.prog 81 (#[.int .i64 k] ++ #[.pointer (some ⟨tb, 0, none⟩), .pointer (some ⟨xb, 0, none⟩)]) w fun e w' => e = .returned (.tuple #[]) ∧ (∃ T', Keep T' w w' ∧ ∀ x ∈ T', x ∈ [tb] ∨ X.heap.size ≤ x) ∧ JTr W.heap.size X c s tb (k + 1) w' := by
      intro k wx hk E1 S1 hJ hK;obtain ⟨A, cA, q, rows, hr, hO, hq⟩ := hJ;refine (trace1_any (k : Int) E1 S1 xb tb k A cA q rows (hK.cell hxc (by simp; omega)) ?_ ?_ hO (by omega) v.nc.2).mono ?_
      · simp only [List.mem_cons, not_or]; exact ⟨xne.1, fun hm => by have := hq _ hm; omega⟩
      · simp only [List.mem_cons, not_or]; exact ⟨xne.2.2.2.1, fun hm => by have := hq _ hm; omega⟩
      · rintro e w' ⟨rfl, A', c', q', r, hrl, hO', kp, hq'⟩;refine ⟨rfl, ⟨_, kp, fun x hx => ?_⟩, A', c', q', rows ++ [r], ?_, hO', fun x hx => ?_⟩
        · rcases List.mem_cons.1 hx with e | e
          · exact .inl (by simp [e])
          · exact .inr (hq x e)
        · rw [List.map_append, hr, traceS_succ, ← hrl]; rfl
        · rcases hq' x hx with e | e
          · exact hq x e
          · have := hK.size; omega
    have keepJ : ∀ (k : Nat) (w w' : World), Keep [c.gb, c.ub] w w' → JTr W.heap.size X c s tb k w → JTr W.heap.size X c s tb k w' := by
      rintro k wx w' hk ⟨A, cA, q, rows, hr, hO, hq⟩;refine ⟨A, cA, q, rows, hr, hO.keepAny hk (fun x hx => .inl ?_), hq⟩;rcases List.mem_cons.1 hx with e | e
      · exact ⟨0, by rw [e]; rfl⟩
      · exact ⟨1, by rw [List.mem_singleton.1 e]; rfl⟩
    have cbTr : ∀ (a : Array Value) (w : World), (callFunc 81 a).run Try.prog w = .ok (.enter 81 a) w := fun a w => by go_simp
    have krun := run_any E hM.N S v (brR_of (by decide) hbr) 81 74 #[.pointer (some ⟨tb, 0, none⟩), .pointer (some ⟨xb, 0, none⟩)] #[] cbTr cbNothing [tb] hTn (fun k w => JTr W.heap.size X c s tb k w) (fun k w => JTr W.heap.size X c s tb (k + 1) w) (fun k w => JTr W.heap.size X c s tb (k + 1) w) J0
      step (fun k w _ _ _ hj _ => (nothing_any _ _).mono fun e w' h => ⟨h.1, ⟨[], by rw [← h.2]; exact Keep.refl _ _, by simp⟩, by rw [← h.2]; exact hj⟩) (fun k w w' hk hj => keepJ _ _ _ hk hj) (fun k w w' hk hj => keepJ _ _ _ hk hj)
    have HM := Lib.hid (And.intro krun (And.intro he (And.intro bw1 (And.intro bX (And.intro q6 (And.intro q11 hnew))))));have hWw := H.out.1.size;have htw : W.heap.size ≤ tb := by have := b1.size; omega
    clear krun J0 hTn step keepJ cbTr he bw1 E S v hM hS hc hbr hlen1 hlen2 q1 q2 q3 q4 q5 q6 q7 q8 q9 q10 q11 b1 hz hnew hzg hzu hH hWD;clear xne hx;have zx := World.block_lt_of_cell? _ _ hxc;simp only at zx;go_upto_region 5 with fail
    rw [← hX, ← htb, ← hxb];clear hX htb hxb;go_wp2_with fail
    refine HM.out.1.mono ?_;rintro e w3 ⟨rfl, kp, hok⟩;rw [HM.out.2.2.2.2.1, HM.out.2.2.2.2.2.1] at hok ⊢;obtain ⟨R, hR⟩ : ∃ R, R = runR p l s := ⟨_, rfl⟩;rw [← hR] at hok ⊢;obtain ⟨i, er⟩ := R;have hv : runE p s l = er := by unfold runE; rw [if_neg (by rw [HM.out.2.1]; simp), ← hR]
    have bX3 : Below w.heap.size w w3 := (HM.out.2.2.1.trans (HM.out.2.2.2.1.mono HM.out.2.2.1.size)).trans (kp.below (by have := HM.out.2.2.1.size; have := HM.out.2.2.2.1.size; omega) (by have := HM.out.2.2.2.2.2.2; simp; omega));clear hR kp hxc zx ht;by_cases her : er = 0
    · subst her;have hvv : traceV p s l = traceS p l s (l.hours.toNat + 1) := by unfold traceV; rw [if_pos hv]
      obtain ⟨_, A, cA, q, rows, hr, hO, hq⟩ := hok rfl;rw [HM.out.2.2.2.2.1, HM.out.2.2.2.2.2.1] at hr;have hh := hO.heap 2 rfl;have ho := hO.owns 3 rfl;have hlen : (traceV p s l).length = l.hours.toNat + 1 := by rw [hvv]; simp [traceS]
      have t0 : w3.cell? ⟨tb, 0, none⟩ = some (.slice A (l.hours.toNat + 1) cA) := (cOH hh 0).trans rfl;have zt := hL_ hh;have hrows : ∀ r ∈ rows, Rd w3 1 r.A r.l.length (ints r.l) := fun r hm => by
        obtain ⟨j, hj, e⟩ := List.mem_iff_getElem.1 hm;have := hO.owns (4 + j) (e := 3) (sz := 1) (A := r.A) (n := r.l.length) (c := r.c) (xs := ints r.l) (q := r.q) (by
          unfold trL;rw [List.getElem?_append_right (by simp)];simp only [List.length_cons, List.length_nil, Nat.reduceAdd, Nat.add_sub_cancel_left, List.getElem?_map, List.getElem?_eq_getElem hj, e];rfl)
        exact this.rd
      have HF := Lib.hid (And.intro hv (And.intro hlen (And.intro bX3 (And.intro ho.rd (And.intro hrows (hr.trans hvv.symm))))));clear hv hvv hlen bX3 hok hh ho hr hO hq hrows;go_wp2_with fail
      go_ret2
      refine ⟨A, cA, rows, ?_, ⟨?_, HF.out.2.2.2.2.1⟩, HF.out.2.2.2.2.2, HF.out.2.2.1⟩
      · rw [HF.out.1, HF.out.2.1]; rfl
      · rw [HF.out.2.1]; exact HF.out.2.2.2.1
    · have hnb : (er != 0) = true := by simpa using her
      have hvv : traceV p s l = [] := by unfold traceV; rw [if_neg (by rw [hv]; exact her)]
      have HF := Lib.hid (And.intro hv (And.intro hvv bX3));clear hv hvv bX3 hok;go_wp2_with fail
      go_ret2
      refine ⟨none, 0, [], ?_, ⟨by rw [HF.out.2.1]; exact Rd.nil _ _ _, by simp⟩, by rw [HF.out.2.1]; rfl, HF.out.2.2⟩;rw [HF.out.1, HF.out.2.1]; rfl
end Go.Proofs.Ythmldeningpjbaa



