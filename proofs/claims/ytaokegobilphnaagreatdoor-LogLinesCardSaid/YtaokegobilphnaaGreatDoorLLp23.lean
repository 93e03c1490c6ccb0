/- log.ReadChart -/
import Derived.Test.YtaokegobilphnaaGreatDoorLLp22
import Derived.Test.YtaokegobilphnaaGreatDoorLLp14
import Derived.Test.YtaokegobilphnaaGreatDoorLLp18
import Derived.Test.YtaokegobilphnaaGreatDoorLLp20
set_option linter.unusedVariables false
set_option linter.unusedSimpArgs false
namespace Go.Proofs.YtaokegobilphnaaGreatDoor
open Go Go.RowKit Go.Shelf Go.Proofs Sp Lg
set_option linter.unusedVariables false
set_option linter.unusedSimpArgs false

theorem chF_le (L : List By) (n : Nat) : ∀ (f i : Nat) (out : List Cel), out.length ≤ n → (chF L n f i out).1.length ≤ n
  | 0, i, out, h => by rw [chF]; simp
  | f + 1, i, out, h => by
    rw [chF]
    split
    · split
      · simp
      · split
        · simp
        · split
          · simp
          · split
            · simp
            · rename_i h1 _ vs _ _ h2
              split
              · simp
              · exact chF_le L n f (i + 1) _ (by rw [List.length_append, List.length_replicate]; omega)
    · split
      · simp
      · split
        · exact h
        · simp
theorem chL_N (L : List By) : (chL L).2.2.2 ≤ 1200 := by
  unfold chL
  split
  · simp
  · split
    · simp
    · rename_i vs _
      split
      · simp
      · rename_i h
        have h0 := size_zero (Classical.not_not.1 h)
        have h1 := chF_N L (vs.getD 0 0 * vs.getD 1 0) (vs.getD 0 0 * vs.getD 1 0 + 1) 1 []
        have h2 : vs.getD 0 0 * vs.getD 1 0 ≤ 1024 := by
          have h3 := h0.2.2.2
          rw [← Int.natCast_mul] at h3
          omega
        simp only
        omega
set_option maxRecDepth 100000 in
theorem chO_start {w W : World} {hb r4 r5 fb : Nat} (hl : hb = w.heap.size) (h4 : r4 = hb + 1) (h5 : r5 = hb + 2) (hf : hb + 3 ≤ fb) (hfb : fb < W.heap.size) (hB : Below w.heap.size w W) (hh : W.heap[hb]? = some (.cells #[.int .i64 0, .int .i64 0, .int .i64 0, .slice none 0 0] 157 (0, 0))) :
    Own w.heap.size w [.blk hb (.cells #[.int .i64 0, .int .i64 0, .int .i64 0, .slice none 0 0] 157), .any r4, .any r5, .any fb] W := by
  refine ⟨hB, hB.size, fun a i hi => ?_, fun a b i j hi hj hab x hx hy => ?_⟩
  · match a, hi with
    | 0, hi => cases hi; exact ⟨hh, fun x hx => by simp [It.fp] at hx; omega⟩
    | 1, hi => cases hi; exact ⟨show r4 < W.heap.size by omega, fun x hx => by simp [It.fp] at hx; omega⟩
    | 2, hi => cases hi; exact ⟨show r5 < W.heap.size by omega, fun x hx => by simp [It.fp] at hx; omega⟩
    | 3, hi => cases hi; exact ⟨hfb, fun x hx => by simp [It.fp] at hx; omega⟩
    | a + 4, hi => simp at hi
  · match a, b, hi, hj, hab with
    | 0, 0, _, _, h => exact h rfl
    | 1, 1, _, _, h => exact h rfl
    | 2, 2, _, _, h => exact h rfl
    | 3, 3, _, _, h => exact h rfl
    | 0, 1, hi, hj, _ => cases hi; cases hj; simp [It.fp] at hx hy; omega
    | 0, 2, hi, hj, _ => cases hi; cases hj; simp [It.fp] at hx hy; omega
    | 0, 3, hi, hj, _ => cases hi; cases hj; simp [It.fp] at hx hy; omega
    | 1, 0, hi, hj, _ => cases hi; cases hj; simp [It.fp] at hx hy; omega
    | 1, 2, hi, hj, _ => cases hi; cases hj; simp [It.fp] at hx hy; omega
    | 1, 3, hi, hj, _ => cases hi; cases hj; simp [It.fp] at hx hy; omega
    | 2, 0, hi, hj, _ => cases hi; cases hj; simp [It.fp] at hx hy; omega
    | 2, 1, hi, hj, _ => cases hi; cases hj; simp [It.fp] at hx hy; omega
    | 2, 3, hi, hj, _ => cases hi; cases hj; simp [It.fp] at hx hy; omega
    | 3, 0, hi, hj, _ => cases hi; cases hj; simp [It.fp] at hx hy; omega
    | 3, 1, hi, hj, _ => cases hi; cases hj; simp [It.fp] at hx hy; omega
    | 3, 2, hi, hj, _ => cases hi; cases hj; simp [It.fp] at hx hy; omega
    | a + 4, _, hi, hj, _ => simp at hi
    | _, b + 4, hi, hj, _ => simp at hj
/-- what is read of a chart's text -/
noncomputable def rdCh (T : By) : (Int × Int × Int) × List Cel × Nat × Int :=
  if (rdRes T (chL (lines T)).2.2.1 (chL (lines T)).2.2.2).2 = 0 then ((chL (lines T)).1, (chL (lines T)).2.1, 0, 0) else ((0, 0, 0), [], rdRes T (chL (lines T)).2.2.1 (chL (lines T)).2.2.2)
def RhPost (w : World) (T : By) (e : Ending) (w' : World) : Prop :=
  ∃ A, e = .returned (.tuple #[.agg #[.int .i64 (rdCh T).1.1, .int .i64 (rdCh T).1.2.1, .int .i64 (rdCh T).1.2.2, .slice A (rdCh T).2.1.length (rdCh T).2.1.length], .int .i64 (rdCh T).2.2.1, .int .i64 (rdCh T).2.2.2]) ∧ (A = none ∨ ∃ g, A = some ⟨g, 0, none⟩ ∧ w.heap.size ≤ g ∧ w'.heap[g]? = some (.cells (cels (rdCh T).2.1).toArray 73 (0, 0))) ∧ (A = none → (rdCh T).2.1 = []) ∧ Below w.heap.size w w'
theorem results_ch3 {F : Func} {r s t : Nat} (hF : F.results = #[.cell r 57, .tmp s, .tmp t]) {W : World} {b : Nat} {x y z v : Value} (h : W.heap[b]? = some (.cells #[x, y, z, v] 57 (0, 0))) (tmps : Array Value) (hr : tmps.getD r undef = .pointer (some ⟨b, 0, none⟩)) :
    (results F tmps).run Tryz.prog W = .ok (.tuple #[.agg #[x, y, z, v], tmps.getD s undef, tmps.getD t undef]) W := by
  have g8 : tmps[r]?.getD undef = .pointer (some ⟨b, 0, none⟩) := by simpa using hr
  have c0 := (cell_of_heap h 0).trans rfl
  have c1 := (cell_of_heap h 1).trans rfl
  have c2 := (cell_of_heap h 2).trans rfl
  have c3 := (cell_of_heap h 3).trans rfl
  simp [results, hF, g8, asAddr, go_sem, c0, c1, c2, c3]
set_option maxRecDepth 100000 in
set_option maxHeartbeats 4000000 in
theorem gReadChart_any (s : ByteArray) (w : World) (hs : s.size ≤ 900000) (E : Env w) :
    Calls Tryz.prog 38 #[.string s] w (RhPost w s.data.toList) := by
  have hmf : ∀ (fn : Fn) (first cap : Array Value) (w : World), (Instr.makeFunc fn first cap).run Tryz.prog w = .ok (.func fn first cap) w := fun _ _ _ _ => rfl
  have hlen : s.data.toList.length = s.size := Array.length_toList
  obtain ⟨rb, hrb⟩ : ∃ b, b = w.heap.size := ⟨_, rfl⟩
  obtain ⟨hb, hhb⟩ : ∃ b, b = rb + 1 := ⟨_, rfl⟩
  obtain ⟨Wc, hWc⟩ : ∃ W, W = w.alloc (.cells #[.int .i64 0, .int .i64 0, .int .i64 0, .slice none 0 0] 57) := ⟨_, rfl⟩
  obtain ⟨W1, hW1⟩ : ∃ W, W = Wc.alloc (.cells #[.int .i64 0, .int .i64 0, .int .i64 0, .slice none 0 0] 157) := ⟨_, rfl⟩
  have hzc : Wc.heap.size = hb := by rw [hWc, hhb, hrb]; simp
  have hc1 : Wc.heap[rb]? = some (.cells #[.int .i64 0, .int .i64 0, .int .i64 0, .slice none 0 0] 57 (0, 0)) := by rw [hWc, hrb]; exact heap_alloc_new _ _
  have bc : Below w.heap.size w Wc := by rw [hWc]; exact (Below.refl _ _).alloc (Nat.le_refl _) _
  have h1 : W1.heap[hb]? = some (.cells #[.int .i64 0, .int .i64 0, .int .i64 0, .slice none 0 0] 157 (0, 0)) := by rw [hW1, ← hzc]; exact heap_alloc_new _ _
  have b1 : Below Wc.heap.size Wc W1 := by rw [hW1]; exact (Below.refl _ _).alloc (Nat.le_refl _) _
  have hz1 : W1.heap.size = hb + 1 := by rw [hW1, ← hzc]; simp
  have EC : Env Wc := Env.below E bc
  obtain ⟨T, hT⟩ : ∃ T, T = s.data.toList := ⟨_, rfl⟩
  have hTl : T.length ≤ 900000 := by rw [hT]; omega
  have kr := gReadC_any (.pointer (some ⟨hb, 0, none⟩)) s Wc W1 [hb] (ChJ Wc hb (hb + 1) (hb + 2) (chL (lines T)).1.1 (chL (lines T)).1.2.1 (chL (lines T)).1.2.2 (chL (lines T)).2.1) (chL (lines T)).2.2.1 (chL (lines T)).2.2.2 (by omega) (fun x hx => by simp at hx; omega) b1 EC (by have := chL_N (lines T); omega)
    (by
      rw [← hT]
      intro fb W hB hfb hf hx
      have hlt := hf.lt
      exact dueC_any (lines T) hb (hb + 1) (hb + 2) fb Wc W (fun l hl => by have := (lines_len l hl).2; omega) (by have := lines_few T; omega) (chO_start hzc.symm rfl rfl (by omega) hlt hB (by rw [hx hb (by simp)]; exact h1)) hf EC)
    (by
      rw [hz1]
      rintro fb A B ⟨g, h2⟩ hk
      refine ⟨g, Own.keepAny h2 hk (fun x hx => .inl ?_)⟩
      simp only [List.mem_cons, List.not_mem_nil, or_false] at hx
      rcases hx with rfl | rfl | rfl
      · exact ⟨1, rfl⟩
      · exact ⟨2, rfl⟩
      · exact ⟨3, rfl⟩)
  rw [← hT] at kr ⊢
  have hrl : rdCh T = _ := rfl
  unfold rdCh at hrl
  obtain ⟨ln, hln⟩ : ∃ x, x = (rdRes T (chL (lines T)).2.2.1 (chL (lines T)).2.2.2).1 := ⟨_, rfl⟩
  obtain ⟨er, her⟩ : ∃ x, x = (rdRes T (chL (lines T)).2.2.1 (chL (lines T)).2.2.2).2 := ⟨_, rfl⟩
  have hpr : rdRes T (chL (lines T)).2.2.1 (chL (lines T)).2.2.2 = (ln, er) := by rw [hln, her]
  unfold ReadPost at kr
  have hrl2 : rdCh T = if er = 0 then ((chL (lines T)).1, (chL (lines T)).2.1, 0, 0) else ((0, 0, 0), [], (ln, er)) := by unfold rdCh; rw [hpr]
  clear hrl
  rw [hpr] at kr
  simp only at kr
  have hrc : rb < Wc.heap.size := heap_lt hc1
  have hbr : ¬ rb = hb := by omega
  by_cases h0 : er = 0
  · rw [if_pos h0] at hrl2
    subst h0
    obtain ⟨a, ha⟩ : ∃ x, x = (chL (lines T)).1.1 := ⟨_, rfl⟩
    obtain ⟨b, hb'⟩ : ∃ x, x = (chL (lines T)).1.2.1 := ⟨_, rfl⟩
    obtain ⟨c, hc'⟩ : ∃ x, x = (chL (lines T)).1.2.2 := ⟨_, rfl⟩
    obtain ⟨out, ho⟩ : ∃ x, x = (chL (lines T)).2.1 := ⟨_, rfl⟩
    have hrl3 : rdCh T = ((a, b, c), out, 0, 0) := by rw [hrl2, ha, hb', hc', ho]
    rw [← ha, ← hb', ← hc', ← ho] at kr
    obtain ⟨n, hn⟩ : ∃ n, n = out.length := ⟨_, rfl⟩
    have kr2 : Calls Tryz.prog 71 #[.string s, .func (.func 93) #[.pointer (some ⟨hb, 0, none⟩)] #[]] W1 fun e w' => e = .returned (.tuple #[.int .i64 ln, .int .i64 0]) ∧ ∃ g fb, ChO Wc hb (hb + 1) (hb + 2) fb a b c g n out [] w' := kr.mono fun e w' ⟨h1, h2, h3⟩ => by
      obtain ⟨fb, _, g, h5⟩ := h3 rfl
      rw [← hn] at h5
      exact ⟨h1, g, fb, h5⟩
    have H := Lib.hid (And.intro kr2 (And.intro hrl3 (And.intro hn (And.intro hc1 (And.intro bc (And.intro hrb hzc))))))
    clear kr kr2 hrl2 hrl3 hln her hpr hT hlen b1 h1 hz1 ha hb' hc' ho hn hc1 bc
    go_enter Tryz.func38, Tryz.ntmps38
    go_upto_region 2 with fail
    rw [← hWc, ← hW1, ← hrb, ← hhb]
    clear hWc hW1 hrb hhb
    go_upto_region 5 with (go_at_call 71; refine H.out.1.mono ?_; rintro e w2 ⟨rfl, g, fb, hO⟩; have H2 := Lib.hid hO; clear hO)
    have hh := (H2.out.bel.block rb hrc).trans H.out.2.2.2.1
    have t0 := (cell_of_heap hh 0).trans rfl
    have t1 := (cell_of_heap hh 1).trans rfl
    have t2 := (cell_of_heap hh 2).trans rfl
    have t3 := (cell_of_heap hh 3).trans rfl
    have f0 := frozen_of_heap hh 0
    have f1 := frozen_of_heap hh 1
    have f2 := frozen_of_heap hh 2
    have f3 := frozen_of_heap hh 3
    have zr := heap_lt hh
    have hl := Own.heap H2.out 0 rfl
    have l0 := (cell_of_heap hl 0).trans rfl
    have l1 := (cell_of_heap hl 1).trans rfl
    have l2 := (cell_of_heap hl 2).trans rfl
    have l3 := (cell_of_heap hl 3).trans rfl
    have zl := heap_lt hl
    have H3 := Lib.hid hh
    clear hh hl
    go_wp2_with fail
    obtain ⟨kr2, hrl3, hn, hc1, bc, hrb, hzc⟩ := H.out
    have hO := H2.out
    have hfin := heap_set (heap_set (heap_set (heap_set H3.out 0 (.int .i64 a)) 1 (.int .i64 b)) 2 (.int .i64 c)) 3 (.slice (some ⟨g, 0, none⟩) n n)
    have hwr : w.heap.size ≤ rb := Nat.le_of_eq hrb.symm
    have b0 := bc.trans (hO.bel.mono bc.size)
    have hg := Own.heap hO 4 rfl
    have hgr : g ≠ rb := by have := Own.ge hO 4 rfl (x := g) (by simp [It.fp]); omega
    refine bodyPost_ret (results_ch3 rfl hfin _ rfl) rfl ⟨some ⟨g, 0, none⟩, ?_, .inr ⟨g, rfl, ?_, ?_⟩, (fun h => by cases h), (((b0.setCell (p := ⟨rb, 0, none⟩) hwr _).setCell (p := ⟨rb, 1, none⟩) hwr _).setCell (p := ⟨rb, 2, none⟩) hwr _).setCell (p := ⟨rb, 3, none⟩) hwr _⟩
    · rw [hrl3, ← hn]; rfl
    · exact Nat.le_trans bc.size (Own.ge hO 4 rfl (x := g) (by simp [It.fp]))
    · rw [hrl3]
      exact heap_set_ne (heap_set_ne (heap_set_ne (heap_set_ne hg (by exact hgr) _) (by exact hgr) _) (by exact hgr) _) (by exact hgr) _
  · have hne : (er != 0) = true := by simpa using h0
    rw [if_neg h0] at hrl2
    have kr2 : Calls Tryz.prog 71 #[.string s, .func (.func 93) #[.pointer (some ⟨hb, 0, none⟩)] #[]] W1 fun e w' => e = .returned (.tuple #[.int .i64 ln, .int .i64 er]) ∧ Below Wc.heap.size Wc w' := kr.mono fun e w' ⟨h1, h2, h3⟩ => ⟨h1, h2⟩
    have H := Lib.hid (And.intro kr2 (And.intro hrl2 (And.intro hc1 (And.intro bc hrb))))
    clear kr kr2 hrl2 hln her hpr hT hlen b1 h1 hz1 hc1 bc
    go_enter Tryz.func38, Tryz.ntmps38
    go_upto_region 2 with fail
    rw [← hWc, ← hW1, ← hrb, ← hhb]
    clear hWc hW1 hrb hhb
    go_upto_region 4 with (go_at_call 71; refine H.out.1.mono ?_; rintro e w2 ⟨rfl, b2⟩; have hh := (b2.block rb hrc).trans H.out.2.2.1; have H2 := Lib.hid (And.intro b2 hh); have t0 := (cell_of_heap hh 0).trans rfl; have t1 := (cell_of_heap hh 1).trans rfl; have t2 := (cell_of_heap hh 2).trans rfl; have t3 := (cell_of_heap hh 3).trans rfl; have f0 := frozen_of_heap hh 0; have f1 := frozen_of_heap hh 1; have f2 := frozen_of_heap hh 2; have f3 := frozen_of_heap hh 3; have zr := heap_lt hh; clear b2 hh)
    go_wp2_with fail
    obtain ⟨kr2, hrl2, hc1, bc, hrb⟩ := H.out
    have hfin := heap_set (heap_set (heap_set (heap_set H2.out.2 0 (.int .i64 0)) 1 (.int .i64 0)) 2 (.int .i64 0)) 3 (.slice none 0 0)
    have hwr : w.heap.size ≤ rb := Nat.le_of_eq hrb.symm
    have b0 := bc.trans (H2.out.1.mono bc.size)
    refine bodyPost_ret (results_ch3 rfl hfin _ rfl) rfl ⟨none, ?_, .inl rfl, fun _ => by rw [hrl2], (((b0.setCell (p := ⟨rb, 0, none⟩) hwr _).setCell (p := ⟨rb, 1, none⟩) hwr _).setCell (p := ⟨rb, 2, none⟩) hwr _).setCell (p := ⟨rb, 3, none⟩) hwr _⟩
    rw [hrl2]; rfl
end Go.Proofs.YtaokegobilphnaaGreatDoor
/- The chapter's examples: what is printed of them (plain law) -/
namespace Go.Proofs.YtaokegobilphnaaGreatDoor
open Go Go.RowKit Go.Shelf Go.Proofs Sp Lg
set_option linter.unusedVariables false
set_option linter.unusedSimpArgs false

def awC : Cel := ⟨40, 60, 0, 0, 0, 0, 0, 0⟩
def awX : Ent := ⟨5, 7, [116, 111, 119], [3, 12], [97, 32, 34, 98, 34]⟩
def awH : By := [67, 72, 65, 82, 84, 32, 50, 32, 49, 32, 51]
def awR : By := [50, 32, 52, 48, 32, 54, 48, 32, 48, 32, 48, 32, 48, 32, 48, 32, 48, 32, 48]
def awD : By := whole awH ++ (whole awR ++ whole [69, 78, 68])
def awE : By := [53, 32, 55, 32, 116, 111, 119, 32, 51, 32, 49, 50, 32, 34, 97, 32, 92, 34, 98, 92, 34, 34]
def awS : By := whole [76, 79, 71, 32, 49] ++ whole awE
theorem aw_chartE : chartE 2 1 3 [awC, awC] = 0 := by decide +kernel
theorem aw_pc : pcV 2 1 3 [awC, awC] = awD := by decide +kernel
theorem aw_pp : ppV 2 1 3 [awC, awC] 2 1 3 [awC, awC] = whole [80, 65, 84, 67, 72, 32, 50, 32, 49, 32, 51, 32, 51] ++ whole [69, 78, 68] := by decide +kernel
theorem aw_ppE : ppE 2 1 3 [awC, awC] 2 1 3 [awC, awC] = 0 := by decide +kernel
theorem aw_ckL : ckL [awX] = 0 := by decide +kernel
theorem aw_told : told awX = awE := by decide +kernel
theorem aw_pl : plV [awX] = awS := by decide +kernel
theorem aw_ok : OkE awX := okE_iff.1 (by decide +kernel)
theorem aw_lines : lines awS = [whole [76, 79, 71, 32, 49], whole awE] := by decide +kernel
theorem aw_rd : rdLog awS = ([awX], 0, 0) := by
  have h0 : lineS (lines awS) 0 = 0 := by decide +kernel
  have h1 : lineS (lines awS) 1 = 0 := by decide +kernel
  have hc : cntB (body ((lines awS).getD 0 [])) = some 1 := by decide +kernel
  have hb : body ((lines awS).getD 1 []) = awE := by decide +kernel
  have hl : (lines awS).length = 2 := by decide +kernel
  have he : entB awE = some awX := entB_some.2 ⟨aw_told, aw_ok⟩
  unfold rdLog
  rw [if_neg (by decide +kernel), if_neg (by rw [h0]; decide), hc]
  simp only
  rw [if_neg (by decide), rdE, if_neg (by rw [h1]; decide), hb, he]
  simp only
  rw [if_neg (by simp), rdE]
  have hk : closeS (lines awS) 2 = (0, 0) := by unfold closeS; rw [if_pos (by omega)]
  rw [show 1 + 1 = 2 from rfl, hk]
  simp
theorem aw_ch : chL (lines awD) = ((2, 1, 3), [awC, awC], (0, 0), 3) := by decide +kernel
theorem aw_close : closeS (lines awD) 3 = (0, 0) := by decide +kernel
theorem aw_len : awD.length ≤ 131072 := by decide +kernel
end Go.Proofs.YtaokegobilphnaaGreatDoor
/- polynyalaw13.pair -/
namespace Go.Proofs.YtaokegobilphnaaGreatDoor
open Go Go.RowKit Go.Shelf Go.Proofs Sp Lg
set_option linter.unusedVariables false
set_option linter.unusedSimpArgs false

theorem results_ch1 {F : Func} {r : Nat} (hF : F.results = #[.cell r 57]) {W : World} {b : Nat} {x y z v : Value} (h : W.heap[b]? = some (.cells #[x, y, z, v] 57 (0, 0))) (tmps : Array Value) (hr : tmps.getD r undef = .pointer (some ⟨b, 0, none⟩)) :
    (results F tmps).run Tryz.prog W = .ok (.agg #[x, y, z, v]) W := by
  have g8 : tmps[r]?.getD undef = .pointer (some ⟨b, 0, none⟩) := by simpa using hr
  have c0 := (cell_of_heap h 0).trans rfl
  have c1 := (cell_of_heap h 1).trans rfl
  have c2 := (cell_of_heap h 2).trans rfl
  have c3 := (cell_of_heap h 3).trans rfl
  simp [results, hF, g8, asAddr, go_sem, c0, c1, c2, c3]
set_option maxRecDepth 100000 in
set_option maxHeartbeats 4000000 in
theorem pair_any (w : World) : Calls Tryz.prog 56 #[] w fun e w' => ∃ g, e = .returned (.agg #[.int .i64 2, .int .i64 1, .int .i64 3, .slice (some ⟨g, 0, none⟩) 2 2]) ∧ Rd w' 8 (some ⟨g, 0, none⟩) 2 (cels [awC, awC]) ∧ Below w.heap.size w w' := by
  obtain ⟨rb, hrb⟩ : ∃ b, b = w.heap.size := ⟨_, rfl⟩
  obtain ⟨W1, hW1⟩ : ∃ W, W = w.alloc (.cells #[.int .i64 0, .int .i64 0, .int .i64 0, .slice none 0 0] 57) := ⟨_, rfl⟩
  have h1 : W1.heap[rb]? = some (.cells #[.int .i64 0, .int .i64 0, .int .i64 0, .slice none 0 0] 57 (0, 0)) := by rw [hW1, hrb]; exact heap_alloc_new _ _
  have b1 : Below w.heap.size w W1 := by rw [hW1]; exact (Below.refl _ _).alloc (Nat.le_refl _) _
  have H1 := Lib.hid (And.intro h1 (And.intro b1 hrb))
  have t0 := (cell_of_heap h1 0).trans rfl
  have t1 := (cell_of_heap h1 1).trans rfl
  have t2 := (cell_of_heap h1 2).trans rfl
  have t3 := (cell_of_heap h1 3).trans rfl
  have f0 := frozen_of_heap h1 0
  have f1 := frozen_of_heap h1 1
  have f2 := frozen_of_heap h1 2
  have f3 := frozen_of_heap h1 3
  have zr := heap_lt h1
  clear h1 b1
  go_enter Tryz.func56, Tryz.ntmps56
  go_upto_region 1 with fail
  rw [← hW1, ← hrb]
  clear hW1 hrb
  go_wp2_with fail
  obtain ⟨g, hg⟩ : ∃ g, g = W1.heap.size + 1 := ⟨_, rfl⟩
  rw [← hg]
  obtain ⟨W5, hW5⟩ : ∃ W, W = (((W1.setCell ⟨rb, 0, none⟩ (.int .i64 2)).setCell ⟨rb, 1, none⟩ (.int .i64 1)).setCell ⟨rb, 2, none⟩ (.int .i64 3)).setCell ⟨rb, 3, none⟩ (.slice (some ⟨g, 0, none⟩) 2 2) := ⟨_, rfl⟩
  rw [← hW5]
  have hz : W5.heap.size = W1.heap.size := by rw [hW5]; simp
  have h5 := heap_set (heap_set (heap_set (heap_set H1.out.1 0 (.int .i64 2)) 1 (.int .i64 1)) 2 (.int .i64 3)) 3 (.slice (some ⟨g, 0, none⟩) 2 2)
  have hwr : w.heap.size ≤ rb := Nat.le_of_eq H1.out.2.2.symm
  have b5 := (((H1.out.2.1.setCell (p := ⟨rb, 0, none⟩) hwr (.int .i64 2)).setCell (p := ⟨rb, 1, none⟩) hwr (.int .i64 1)).setCell (p := ⟨rb, 2, none⟩) hwr (.int .i64 3)).setCell (p := ⟨rb, 3, none⟩) hwr (.slice (some ⟨g, 0, none⟩) 2 2)
  rw [← hW5] at h5 b5
  have hfin := heap_alloc' (heap_alloc' h5 (.cells #[.int .i64 40, .int .i64 60, .int .i64 0, .int .i64 0, .int .i64 0, .int .i64 0, .int .i64 0, .int .i64 0] 73)) (.cells #[.int .i64 40, .int .i64 60, .int .i64 0, .int .i64 0, .int .i64 0, .int .i64 0, .int .i64 0, .int .i64 0, .int .i64 40, .int .i64 60, .int .i64 0, .int .i64 0, .int .i64 0, .int .i64 0, .int .i64 0, .int .i64 0] 73)
  have hn := heap_alloc_new (W5.alloc (.cells #[.int .i64 40, .int .i64 60, .int .i64 0, .int .i64 0, .int .i64 0, .int .i64 0, .int .i64 0, .int .i64 0] 73)) (.cells #[.int .i64 40, .int .i64 60, .int .i64 0, .int .i64 0, .int .i64 0, .int .i64 0, .int .i64 0, .int .i64 0, .int .i64 40, .int .i64 60, .int .i64 0, .int .i64 0, .int .i64 0, .int .i64 0, .int .i64 0, .int .i64 0] 73)
  rw [World.size_alloc, hz, ← hg] at hn
  refine bodyPost_ret (results_ch1 rfl hfin _ rfl) rfl ⟨g, rfl, ⟨rfl, fun _ => ⟨g, 0, rfl, heap_lt hn, fun j u hu => ?_⟩⟩, (b5.alloc b5.size _).alloc (Nat.le_trans b5.size (by simp)) _⟩
  rw [Nat.zero_add]
  exact (cell_of_heap hn j).trans (by simpa [cels, cel, awC] using hu)
end Go.Proofs.YtaokegobilphnaaGreatDoor
/- log.PrintPatch: its second half (printed by tools/lgpt.py) -/
namespace Go.Proofs.YtaokegobilphnaaGreatDoor
open Go Go.RowKit Go.Shelf Go.Proofs Sp Lg
attribute [local go_sem] Oper.semAt_some
set_option linter.unusedVariables false
set_option linter.unusedSimpArgs false

set_option maxRecDepth 100000 in
set_option maxHeartbeats 4000000 in
theorem pp_t18 {Q0 : Exit → Act → World → Prop} (a b c x y z : Int) (A B C : Option Addr) (n1 n2 ca cb d fx tx lb : Nat) (l : List Chg) (w wr : World) (hw : Below w.heap.size w wr) (E : Env w) (hfx : wr.heap[fx]? = some (.cells #[.int .i64 a, .int .i64 b, .int .i64 c, .slice A n1 ca] 57 (0, 0))) (htx : wr.heap[tx]? = some (.cells #[.int .i64 x, .int .i64 y, .int .i64 z, .slice B n2 cb] 57 (0, 0))) (hlb : wr.heap[lb]? = some (.cells #[.slice C l.length d] 151 (0, 0))) (hr : Rd wr 9 C l.length (chgs l)) (hl : l.length ≤ 1024) (hN : NatL [x, y, c, z]) (hC : ∀ v ∈ l, NatL (celI v.cel)) (R : Ending → World → Prop) (hR : ∀ w', Below w.heap.size w w' → R (.returned (.tuple #[.string (bs (ppT x y c z l)), .int .i64 0])) w') {s0 s1 s4 s5 s6 s7 s8 s10 s11 s12 s13 s14 s15 s16 s17 s18 s19 s20 s21 s22 s23 s24 s25 s26 s27 s28 s29 s30 s31 s32 s33 s34 s35 s36 s37 s38 s39 s40 s41 s42 s43 s44 s45 s46 s47 s48 s49 s50 s51 s52 s53 s54 s55 s56 s57 s58 s59 s60 s61 s62 s63 s64 s65 s66 s67 s68 s69 s70 s71 s72 s73 s74 s75 s76 s77 s78 s79 s80 s81 s82 s83 s84 s85 s86 s87 s88 s89 s90 s91 s92 s93 s94 s95 s96 s97 s98 s99 s100 s101 s102 s103 : Value} (hQ0 : ∀ e1 a1 w1, bodyPostM Fence.wide 9 Tryz.prog Tryz.f36 (R) e1 a1 w1 → Q0 e1 a1 w1) :
    Code.wp Tryz.prog (restOf Tryz.f36 18) Q0 ⟨#[s0, s1, .pointer (some ⟨fx, 0, none⟩), .pointer (some ⟨tx, 0, none⟩), s4, s5, s6, s7, s8, .pointer (some ⟨lb, 0, none⟩), s10, s11, s12, s13, s14, s15, s16, s17, s18, s19, s20, s21, s22, s23, s24, s25, s26, s27, s28, s29, s30, s31, s32, s33, s34, s35, s36, s37, s38, s39, s40, s41, s42, s43, s44, s45, s46, s47, s48, s49, s50, s51, s52, s53, s54, s55, s56, s57, s58, s59, s60, s61, s62, s63, s64, s65, s66, s67, s68, s69, s70, s71, s72, s73, s74, s75, s76, s77, s78, s79, s80, s81, s82, s83, s84, s85, s86, s87, s88, s89, s90, s91, s92, s93, s94, s95, s96, s97, s98, s99, s100, s101, s102, s103], []⟩ wr := by
  refine wp_mono ?_ hQ0
  clear hQ0
  conv => arg 2; whnf
  obtain ⟨x0, hx0⟩ : ∃ v, v = x := ⟨_, rfl⟩
  subst hx0
  have HRR := Lib.hid hR
  clear hR
  have x0f := (cell_of_heap hfx 2).trans rfl
  have x0t := (cell_of_heap htx 0).trans rfl
  have x1t := (cell_of_heap htx 1).trans rfl
  have x2t := (cell_of_heap htx 2).trans rfl
  have x0l := (cell_of_heap hlb 0).trans rfl
  have zf := heap_lt hfx
  have zt := heap_lt htx
  have zl := heap_lt hlb
  obtain ⟨bb, hb⟩ : ∃ b, b = wr.heap.size := ⟨_, rfl⟩
  obtain ⟨W3, hW3⟩ : ∃ W, W = wr.alloc (.cells #[.pointer none, .slice none 0 0] 112) := ⟨_, rfl⟩
  have k0 : Bld wr bb [] W3 := by rw [hb, hW3]; exact Bld.start (Below.refl _ _)
  have y0 := (k0.2.cell (p := ⟨tx, 0, none⟩) zt).trans x0t
  have y1 := (k0.2.cell (p := ⟨tx, 1, none⟩) zt).trans x1t
  have y2 := (k0.2.cell (p := ⟨tx, 2, none⟩) zt).trans x2t
  have y3 := (k0.2.cell (p := ⟨fx, 2, none⟩) zf).trans x0f
  have zt3 := Nat.lt_of_lt_of_le zt k0.2.size
  have zf3 := Nat.lt_of_lt_of_le zf k0.2.size
  have EV3 : ∀ W, Below wr.heap.size wr W → Env W := fun W hW => Env.below E (hw.trans (hW.mono hw.size))
  obtain ⟨J, hJ⟩ : ∃ J, J = bs (joinS ([x0, y, c, z].map decI)) := ⟨_, rfl⟩
  have zJ : J.size ≤ 100 := by rw [hJ, bs_size]; have := joinN_len hN; simp only [List.length_cons, List.length_nil] at this; omega
  have HB0 := Lib.hid (And.intro k0 hb)
  have kj : ∀ c', Calls Tryz.prog 66 #[.slice (some ⟨W3.heap.size, 0, none⟩) 4 c'] (W3.alloc (.cells #[.int .i64 x0, .int .i64 y, .int .i64 c, .int .i64 z] 3)) fun e w' => e = .returned (.string J) ∧ Below W3.heap.size W3 w' := fun c' => by
    have bA : Below W3.heap.size W3 (W3.alloc (.cells #[.int .i64 x0, .int .i64 y, .int .i64 c, .int .i64 z] 3)) := (Below.refl _ _).alloc (Nat.le_refl _) _
    have hh := heap_alloc_new W3 (.cells #[.int .i64 x0, .int .i64 y, .int .i64 c, .int .i64 z] 3)
    have h := joined_any [x0, y, c, z] (some ⟨W3.heap.size, 0, none⟩) c' (W3.alloc (.cells #[.int .i64 x0, .int .i64 y, .int .i64 c, .int .i64 z] 3)) ⟨rfl, fun _ => ⟨_, 0, rfl, heap_lt hh, fun j u hu => by rw [Nat.zero_add]; exact (cell_of_heap hh j).trans (by simpa [ints] using hu)⟩⟩ (by simp) hN (EV3 _ (k0.2.trans (bA.mono k0.2.size)))
    refine h.mono ?_
    rintro e w' ⟨rfl, hb⟩
    exact ⟨by rw [hJ], bA.trans (hb.mono bA.size)⟩
  have kh : ∀ W, Below W3.heap.size W3 W → Calls Tryz.prog 65 #[.string (⟨#[80, 65, 84, 67, 72, 32]⟩ ++ J)] W fun e w' => e = .returned (.string (bs (ppB x0 y c z l []))) ∧ Below W.heap.size W w' := fun W hW => by
    have h := checked_any (⟨#[80, 65, 84, 67, 72, 32]⟩ ++ J) W (by rw [ByteArray.size_append]; have : (⟨#[80, 65, 84, 67, 72, 32]⟩ : ByteArray).size = 6 := rfl; omega) (EV3 W (k0.2.trans (hW.mono k0.2.size)))
    refine h.mono ?_
    rintro e w' ⟨rfl, hb⟩
    refine ⟨?_, hb⟩
    unfold ppB
    rw [hJ, show (⟨#[80, 65, 84, 67, 72, 32]⟩ : ByteArray) = bs [80, 65, 84, 67, 72, 32] from rfl, bs_app]
    simp
  have hc1 := addStr (x := ⟨#[80, 65, 84, 67, 72, 32]⟩) (y := J) (by have : (⟨#[80, 65, 84, 67, 72, 32]⟩ : ByteArray).size = 6 := rfl; omega)
  have hall : ∀ (pre : List (Rn l.length)), ∀ p ∈ rnB pre, NatL (((p.1 : Nat) : Int) :: ((p.2 : Nat) : Int) :: celI (l.getD p.1 default).cel) := by
    intro pre p hp
    obtain ⟨y, _, rfl⟩ := List.mem_map.1 hp
    intro k hk
    have hy2 := y.2
    rcases List.mem_cons.1 hk with rfl | hk
    · omega
    rcases List.mem_cons.1 hk with rfl | hk
    · omega
    · have hyl : y.1.1 < l.length := by omega
      rw [List.getD_eq_getElem?_getD, List.getElem?_eq_getElem hyl] at hk
      exact hC _ (List.getElem_mem _) k hk
  have HK := Lib.hid (And.intro kj (And.intro kh (And.intro hJ (And.intro EV3 (And.intro hN (And.intro hall (And.intro hC (And.intro hr (And.intro hlb (And.intro hw (And.intro hfx htx)))))))))))
  clear kj kh hJ EV3 hN hall hC hr hlb hw hfx htx x0f x0t x1t x2t E
  refine (wpIn_wide (n := 9)).1 ?_
  gi_upto_region 19 with fail
  rw [← hW3, ← hb]
  clear k0 hb hW3
  gi_upto_region 20 with (first
    | (refine ⟨trivial, ?_⟩; gi_at_call 66; refine (callsIn_wide.2 (HK.out.1 _)).mono ?_; rintro e W4 ⟨rfl, b4⟩; have HB1 := Lib.hid (And.intro b4 (HB0.out.1.below b4)); clear b4)
    | (refine ⟨trivial, ?_⟩; gi_at_call 65; refine (callsIn_wide.2 (HK.out.2.1 W4 HB1.out.1)).mono ?_; rintro e W5 ⟨rfl, b5⟩; have HB2 := Lib.hid (HB1.out.2.below b5); clear b5)
    | (refine ⟨trivial, ?_⟩; gi_at_call 64; refine (callsIn_wide.2 (wString HB2.out (ppB x0 y c z l []) (by simp) (by have := ppB_len (l := l) (rs := []) HK.out.2.2.2.2.1 (by simp) (by simp); omega))).mono ?_; rintro e W6 ⟨rfl, b6, _⟩; have z3 := (b6.2.cell (p := ⟨lb, 0, none⟩) zl).trans x0l; have zb6 := Nat.lt_of_lt_of_le zl b6.2.size; have HB3 := Lib.hid b6; clear b6))
  gi_wp2_with (refine ⟨trivial, ?_⟩; gi_at_call 92; refine (callsIn_wide.2 (gRunsC_any C l.length d W6)).mono ?_; rintro e w7 ⟨rfl, hw7⟩; have HW7 := Lib.hid hw7; clear hw7)
  obtain ⟨tb, htb⟩ : ∃ b, b = W6.heap.size := ⟨_, rfl⟩
  rw [← htb]
  have ht7 : w7.heap[tb]? = some (.cells #[.slice C l.length d] 151 (0, 0)) := by rw [HW7.out, htb]; exact heap_alloc_new _ _
  have hb7 : Below W6.heap.size W6 w7 := by rw [HW7.out]; exact (Below.refl _ _).alloc (Nat.le_refl _) _
  have zt7 := heap_lt ht7
  have k7 := HB3.out.below hb7
  have hW1t : wr.heap.size ≤ tb := by rw [htb]; exact HB3.out.2.size
  have hbt : bb ≠ tb := by have := HB3.out.lt; omega
  have hlbb : lb ≠ bb := by have := HB0.out.2; omega
  have hl1 : l.length ≤ 1000000 := by omega
  have hr1 := HK.out.2.2.2.2.2.2.2.1
  have hlb1 := HK.out.2.2.2.2.2.2.2.2.1
  have HT := Lib.hid (And.intro k7 (And.intro ht7 (And.intro hW1t (And.intro hbt (And.intro hr1 (And.intro hlb1 hlbb))))))
  clear htb hb7 k7 hW1t hbt hr1 hlb1 hlbb
  refine range_tb2 rfl (by omega) (gf := 134) (lb := #[.pointer (some ⟨tb, 0, none⟩)]) rfl trivial (enters_of Tryz.func134 (by kernel_rfl) rfl) (runsC_seq tb C d l w7 ht7 hl1 l.length _ (Nat.le_refl _) (by omega)) (Below.refl _ _) rfl zt7 (fun _ => rfl)
    (fun pre W => Bld wr bb (ppB x0 y c z l (rnB pre)) W ∧ W.heap[tb]? = some (.cells #[.slice C l.length d] 151 (0, 0))) ?inv (fun pre W h => HT.out.2.2.2.2.1.below h.1.2) ⟨HT.out.1, HT.out.2.1⟩ (fun x => { tmps := #[s0, s1, .pointer (some ⟨fx, 0, none⟩), .pointer (some ⟨tx, 0, none⟩), s4, s5, s6, s7, s8, .pointer (some ⟨lb, 0, none⟩), s10, s11, .pointer (some ⟨bb, 0, none⟩), .int .i64 x.1.1, .int .i64 x.1.2, s15, s16, s17, s18, s19, s20, s21, s22, s23, s24, s25, s26, s27, s28, s29, s30, s31, s32, s33, s34, s35, s36, s37, s38, s39, s40, s41, s42, s43, s44, s45, s46, s47, s48, s49, s50, s51, s52, s53, s54, s55, s56, s57, s58, s59, s60, s61, s62, s63, s64, s65, .pointer (some ⟨tx, 0, none⟩), .int .i64 x0, .pointer (some ⟨tx, 1, none⟩), .int .i64 y, .pointer (some ⟨fx, 2, none⟩), .int .i64 c, .pointer (some ⟨tx, 2, none⟩), .int .i64 z, .slice (some ⟨W3.heap.size, 0, none⟩) 4 4, .string J, .string (⟨#[80, 65, 84, 67, 72, 32]⟩ ++ J), .string (bs (ppB x0 y c z l [])), .tuple #[.int .i64 (ppB x0 y c z l []).length, .nilIface], .slice C l.length d, .func (.func 134) #[] #[.pointer (some ⟨tb, 0, none⟩)], .int .i64 x.1.1, .int .i64 x.1.2, s83, s84, s85, s86, s87, s88, s89, s90, s91, s92, s93, s94, s95, s96, s97, s98, s99, s100, s101, s102, s103], defers := [] }) ?assign ?body ?done
  case inv =>
    intro pre A' C' h hs
    exact ⟨h.1.simZ hs (by have := HT.out.1.2.size; omega), hs.same _ _ h.2 (fun _ => rfl)⟩
  case assign =>
    intro lp x W K hK
    gi_wp2
    exact hK
  case body =>
    rintro lp pre x W ⟨hB, htB⟩ hlen hlt
    have hi := x.2
    obtain ⟨i, hi0⟩ : ∃ i, i = x.1.1 := ⟨_, rfl⟩
    obtain ⟨m, hm0⟩ : ∃ m, m = x.1.2 := ⟨_, rfl⟩
    rw [← hi0, ← hm0] at hi
    rw [← hi0, ← hm0]
    have hil : i < l.length := by omega
    obtain ⟨X, hX⟩ : ∃ X, X = l[i]'hil := ⟨_, rfl⟩
    have hXd : l.getD i default = X := by rw [hX, List.getD_eq_getElem?_getD, List.getElem?_eq_getElem hil]; rfl
    have hXo : NatL (celI X.cel) := HK.out.2.2.2.2.2.2.1 X (by rw [hX]; exact List.getElem_mem _)
    obtain ⟨b8, off, rfl, hb8, hc⟩ := (HT.out.2.2.2.2.1.below hB.2).2 (by omega)
    obtain ⟨r0, r1, r2, r3, r4, r5, r6, r7, r8⟩ := chgs_get (l := l) (k := i) hil
    rw [← hX] at r0 r1 r2 r3 r4 r5 r6 r7 r8
    obtain ⟨bi, a0, a1, b0, b1, c0, c1, d0, d1⟩ := X
    have e0 : W.cell? ⟨b8, off + i * 9, none⟩ = some (.bool bi) := hc _ _ r0
    have e1 : W.cell? ⟨b8, off + i * 9 + 1, none⟩ = some (.int .i64 a0) := by rw [Nat.add_assoc]; exact hc _ _ r1
    have e2 : W.cell? ⟨b8, off + i * 9 + 2, none⟩ = some (.int .i64 a1) := by rw [Nat.add_assoc]; exact hc _ _ r2
    have e3 : W.cell? ⟨b8, off + i * 9 + 3, none⟩ = some (.int .i64 b0) := by rw [Nat.add_assoc]; exact hc _ _ r3
    have e4 : W.cell? ⟨b8, off + i * 9 + 4, none⟩ = some (.int .i64 b1) := by rw [Nat.add_assoc]; exact hc _ _ r4
    have e5 : W.cell? ⟨b8, off + i * 9 + 5, none⟩ = some (.int .i64 c0) := by rw [Nat.add_assoc]; exact hc _ _ r5
    have e6 : W.cell? ⟨b8, off + i * 9 + 6, none⟩ = some (.int .i64 c1) := by rw [Nat.add_assoc]; exact hc _ _ r6
    have e7 : W.cell? ⟨b8, off + i * 9 + 7, none⟩ = some (.int .i64 d0) := by rw [Nat.add_assoc]; exact hc _ _ r7
    have e8 : W.cell? ⟨b8, off + i * 9 + 8, none⟩ = some (.int .i64 d1) := by rw [Nat.add_assoc]; exact hc _ _ r8
    have q3 := (hB.2.cell (p := ⟨lb, 0, none⟩) zl).trans ((cell_of_heap HT.out.2.2.2.2.2.1 0).trans rfl)
    have zcb := Nat.lt_of_lt_of_le zl hB.2.size
    have hNX : NatL ((i : Int) :: (m : Int) :: celI ⟨a0, a1, b0, b1, c0, c1, d0, d1⟩) := fun k hk => by
      rcases List.mem_cons.1 hk with rfl | hk
      · omega
      rcases List.mem_cons.1 hk with rfl | hk
      · omega
      · exact hXo k hk
    obtain ⟨R, hR⟩ : ∃ R, R = joinS (((i : Int) :: (m : Int) :: celI ⟨a0, a1, b0, b1, c0, c1, d0, d1⟩).map decI) := ⟨_, rfl⟩
    have zR : R.length ≤ 140 := by rw [hR]; exact joinN_len hNX
    have hln : chgLn l (i, m) = if bi = true then whole R else [] := by unfold chgLn; rw [hXd, hR]
    have hpl := ppB_len HK.out.2.2.2.2.1 (HK.out.2.2.2.2.2.1 pre) (by rw [show (rnB pre).length = pre.length from List.length_map ..]; omega)
    have hEV : ∀ V, Below W.heap.size W V → Env V := fun V hV => HK.out.2.2.2.1 V (hB.2.trans (hV.mono hB.2.size))
    have i1 : (0 : Int) ≤ (i : Int) := by omega
    have i2 : (i : Int) < (l.length : Int) := by omega
    have e1 : rnB (pre ++ [x]) = rnB pre ++ [(i, m)] := by unfold rnB; rw [List.map_append, hi0, hm0]; rfl
    have HB := Lib.hid (And.intro hB (And.intro hR (And.intro hln (And.intro hpl (And.intro hNX (And.intro hEV (And.intro hlen (And.intro htB e1))))))))
    clear htB hB hR hln hpl hNX hEV hlen hlt hi0 hm0 hXo hXd hX hc r0 r1 r2 r3 r4 r5 r6 r7 r8 e1
    cases bi with
    | false =>
      gi_wp2
      obtain ⟨hB, hR, hln, hpl, hNX, hEV, hlen, htB, e1⟩ := HB.out
      refine ⟨⟨Nat.le_refl _, fun k o h _ => h⟩, ?_, htB⟩
      rw [e1, ppB_snoc, hln]
      simpa using hB
    | true =>
      obtain ⟨iI, hI0, hI1, hI2, hI3⟩ := info_parts infoLgI
      have bA : Below W.heap.size W (W.alloc (.cells #[.int .i64 i, .int .i64 m] 3)) := (Below.refl _ _).alloc (Nat.le_refl _) _
      have HA := Lib.hid bA
      clear bA
      gi_wp2_with (first
        | (refine ⟨trivial, ?_⟩; gi_at_call 89; refine (CallsIn.inRound lp (callsIn_wide.2 (gFields_any ⟨a0, a1, b0, b1, c0, c1, d0, d1⟩ (W.alloc (.cells #[.int .i64 i, .int .i64 m] 3))))).mono ?_; rintro e W8 ⟨g, rfl, hg, hb⟩; have HF := Lib.hid (And.intro hg hb); clear hg hb)
        | (gi_at_builtin
           refine wpListIn_append_M (size := 1) rfl _ _ 24 rfl iI _ 8 Tryz.underlying24 hI0 hI1 hI2 hI3 rfl (A := some ⟨W.heap.size, 0, none⟩) (n := 2) (c := 2) (xs := [.int .i64 i, .int .i64 m]) (fp := [W.heap.size]) (B := some ⟨g, 0, none⟩) (m := 8) (d := 8) (ys := ints (celI ⟨a0, a1, b0, b1, c0, c1, d0, d1⟩)) (by simp [Act.eval]) (by simp [Act.eval]) ⟨rfl, .inr ⟨_, #[.int .i64 i, .int .i64 m], rfl, rfl, (HF.out.2.block W.heap.size (by simp)).trans (heap_alloc_new W _), Nat.le_refl _, by decide, rfl, fun j u h => by simpa using h⟩⟩ ⟨rfl, fun _ => ⟨g, 0, rfl, heap_lt HF.out.1, fun j u hu => by rw [Nat.zero_add]; exact (cell_of_heap HF.out.1 j).trans (by simpa [ints, celI, celA] using hu)⟩⟩ (by intro u hu; simp [ints, celI] at hu; rcases hu with rfl | rfl | rfl | rfl | rfl | rfl | rfl | rfl <;> rfl) (by omega) (by decide) ?_
           intro A9 c9 W9 fp9 q1 q2 q3
           have b9 : Below W.heap.size W W9 := (HA.out.trans (HF.out.2.mono HA.out.size)).trans (q3.below (Nat.le_trans HA.out.size HF.out.2.size) (by simp))
           have kj9 : Calls Tryz.prog 66 #[.slice A9 10 c9] W9 fun e w' => e = .returned (.string (bs R)) ∧ Below W9.heap.size W9 w' := by
             have h := joined_any ((i : Int) :: (m : Int) :: celI ⟨a0, a1, b0, b1, c0, c1, d0, d1⟩) A9 c9 W9 (by simpa [ints, celI] using q1.rd) (by simp [celI]) HB.out.2.2.2.2.1 (HB.out.2.2.2.2.2.1 W9 b9)
             rw [← HB.out.2.1] at h
             exact h
           have HG := Lib.hid (And.intro b9 kj9)
           clear b9 kj9 q1 q2 q3)
        | (refine ⟨trivial, ?_⟩; gi_at_call 66; refine (CallsIn.inRound lp (callsIn_wide.2 HG.out.2)).mono ?_; rintro e W10 ⟨rfl, b10⟩; have HG2 := Lib.hid (HG.out.1.trans (b10.mono HG.out.1.size)); clear b10)
        | (refine ⟨trivial, ?_⟩; gi_at_call 65; refine (CallsIn.inRound lp (callsIn_wide.2 (checked_any (bs R) W10 (by rw [bs_size]; omega) (HB.out.2.2.2.2.2.1 W10 HG2.out)))).mono ?_; rintro e W11 ⟨rfl, b11⟩; have HG3 := Lib.hid (HG2.out.trans (b11.mono HG2.out.size)); clear b11)
        | (refine ⟨trivial, ?_⟩; gi_at_call 64; refine (CallsIn.inRound lp (callsIn_wide.2 (wString2 (HB.out.1.below HG3.out) (whole R) (by have := HB.out.2.2.2.1; omega) (by rw [whole_len]; omega)))).mono ?_; rintro e W12 ⟨rfl, h12, o12, z12⟩; have HG4 := Lib.hid (And.intro h12 (And.intro o12 z12)); clear h12 o12 z12))
      obtain ⟨hB, hR, hln, hpl, hNX, hEV, hlen, htB, e1⟩ := HB.out
      have ht12 := others_block htB (by decide) (fun e => HT.out.2.2.2.1 e.symm) HG3.out HG4.out.2.1
      refine ⟨keepsOthers_others hB HG3.out HG4.out.2.1 HG4.out.2.2, Nat.le_trans HG3.out.size HG4.out.2.2, ht12.trans htB.symm, ?_, ht12⟩
      rw [e1, ppB_snoc, hln]
      exact HG4.out.1
  case done =>
    rintro D xs W hD hxs ⟨hB, htB⟩ hK
    have zD := heap_lt hK
    have hBD : wr.heap.size ≤ D := by have := HT.out.1.2.size; omega
    have hbD : bb ≠ D := by have := HT.out.1.lt; omega
    have hpl : (ppB x0 y c z l (rnB xs)).length ≤ 100000000 := by
      have := runsF_len l.length l 0
      have h2 := ppB_len (l := l) HK.out.2.2.2.2.1 (HK.out.2.2.2.2.2.1 xs) (by rw [hxs]; unfold runsP; omega)
      omega
    have HD := Lib.hid (And.intro hB (And.intro hK (And.intro hxs (And.intro hBD (And.intro hbD hpl)))))
    clear hB hK hxs hBD hbD hpl htB
    gi_wp2_with (first
      | (refine ⟨trivial, ?_⟩; gi_at_call 65; refine (callsIn_wide.2 (checked_any (bs [69, 78, 68]) W (by decide) (HK.out.2.2.2.1 W HD.out.1.2))).mono ?_; rintro e W8 ⟨rfl, b8⟩; have HD1 := Lib.hid b8; clear b8)
      | (refine ⟨trivial, ?_⟩; gi_at_call 64; refine (callsIn_wide.2 (wString2 (HD.out.1.below HD1.out) (whole [69, 78, 68]) HD.out.2.2.2.2.2 (by decide))).mono ?_; rintro e W9 ⟨rfl, h9, o9, z9⟩; have HD2 := Lib.hid (And.intro h9 o9); clear h9 o9 z9)
      | (refine ⟨trivial, ?_⟩; gi_at_call 68; refine (callsIn_wide.2 (bString2 HD2.out.1)).mono ?_; rintro e W10 ⟨rfl, h10, o10⟩; have HD3 := Lib.hid (And.intro h10 o10); clear h10 o10))
    obtain ⟨hB, hK, hxs, hBD, hbD, hpl⟩ := HD.out
    have hK8 := (HD1.out.block D (Array.getElem?_eq_some_iff.1 hK).1).trans hK
    have hK9 := HD2.out.2 D _ hK8 (by simpa using fun e => hbD e.symm) (fun _ _ e => by cases e)
    have hK10 := HD3.out.2 D _ hK9 (by simpa using fun e => hbD e.symm) (fun _ _ e => by cases e)
    refine ⟨by simp, .inl ⟨_, _, rfl, run_takeDeferred hK10, ?_⟩⟩
    refine ⟨_, results_tmp2 rfl _ _ _, ?_⟩
    have hb := (SimZ.put (B := wr.heap.size) (o' := .deferred none) hBD hK10 rfl).bel HD3.out.1.2 (Nat.le_refl _) HD3.out.1.2.size
    have b1 := HK.out.2.2.2.2.2.2.2.2.2.1
    have h9 := HRR.out _ (b1.trans (hb.mono b1.size))
    unfold ppT at h9
    rw [← hxs] at h9
    exact h9
end Go.Proofs.YtaokegobilphnaaGreatDoor
