/- polynyaref13.ReadLog -/
import Derived.Test.YtaokegobilphnaaGreatDoorLLp14
import Derived.Test.YtaokegobilphnaaGreatDoorProg
import Derived.Test.YtaokegobilphnaaGreatDoorLLp0
import Derived.Deep.RegionHeld3
set_option linter.unusedVariables false
set_option linter.unusedSimpArgs false
namespace Go.Proofs.YtaokegobilphnaaGreatDoor
open Go Go.RowKit Go.Shelf Go.Proofs Sp Lg
set_option linter.unusedVariables false
set_option linter.unusedSimpArgs false

theorem infoREnt : (Tryz.prog.info? 26).map (fun i => (i.zero, i.size, i.bytes)) = some (some (.agg #[.int .i64 0, .int .i64 0, .string ByteArray.empty, .slice none 0 0, .string ByteArray.empty]), 5, 72) := by kernel_rfl
theorem rl_no {w w' : World} {T : By} {ln : Nat} {e : Int} (h : rdLog T = ([], ln, e)) (b : Below w.heap.size w w') : RlPost w T (.returned (.tuple #[.slice none 0 0, .int .i64 ln, .int .i64 e])) w' :=
  ⟨none, 0, [], by rw [h]; rfl, by rw [h]; rfl, ⟨rfl, fun h => absurd h (by simp)⟩, (fun e he => by cases he), b⟩
set_option maxRecDepth 100000 in
set_option maxHeartbeats 4000000 in
theorem rReadLog_any (s : ByteArray) (w : World) (hs : s.size ≤ 900000) :
    Calls Tryz.prog 17 #[.string s] w (RlPost w s.data.toList) := by
  obtain ⟨iE, hE0, hE1, hE2, hE3⟩ := info_parts infoREnt
  have hlen : s.data.toList.length = s.size := Array.length_toList
  obtain ⟨T, hT⟩ : ∃ T, T = s.data.toList := ⟨_, rfl⟩
  have kl := rLines_any s w (by omega)
  obtain ⟨L, hL⟩ : ∃ L, L = lines T := ⟨_, rfl⟩
  rw [← hT] at kl ⊢
  rw [← hL] at kl
  have hTl : T.length ≤ 900000 := by rw [hT]; omega
  have hLl : ∀ l ∈ L, l.length ≤ 1000000 := fun l hl => by rw [hL] at hl; have := (lines_len l hl).2; omega
  have hLn : L.length ≤ 1000000 := by rw [hL]; have := lines_few T; omega
  obtain ⟨n0, hn0⟩ : ∃ n, n = L.length := ⟨_, rfl⟩
  have hsT : T.length = s.size := by rw [hT, hlen]
  rw [← hn0] at kl
  by_cases hbig : 131072 < s.size
  · have hres : rdLog T = ([], 0, 2) := by unfold rdLog; rw [if_pos (by omega)]
    have hb : decide ((131072 : Int) < (s.size : Int)) = true := decide_eq_true (by omega)
    have H := Lib.hid hres
    clear kl hres hL hT hlen hn0 hLl hLn hsT
    go_enter Tryz.func17, Tryz.ntmps17
    go_wp2_with fail
    refine bodyPost_ret (results_lg3 rfl _ _ _) rfl ?_
    exact rl_no (ln := 0) H.out (Below.refl _ _)
  · have hb : decide ((131072 : Int) < (s.size : Int)) = false := decide_eq_false (by omega)
    have hres : rdLog T = if lineS L 0 ≠ 0 then ([], 1, lineS L 0) else match cntB (body (L.getD 0 [])) with | none => ([], 1, 3) | some n => if 500 < n then ([], 1, 2) else rdE L n 1 [] := by
      unfold rdLog; rw [if_neg (by omega), ← hL]; rfl
    obtain ⟨e1, he1⟩ : ∃ e, e = lineS L 0 := ⟨_, rfl⟩
    have kl2 : Calls Tryz.prog 73 #[.string s] w fun e w' => ∃ B cB fq, e = .returned (.slice B n0 cB) ∧ Own w.heap.size w [.own 9 1 B n0 cB (strs L) fq, .own 26 5 none 0 0 [] [], .gen [] (fun w => EnsOk w [])] w' := by
      refine kl.mono ?_
      rintro e w' ⟨B, cB, fq, rfl, h6, h7, h8⟩
      refine ⟨B, cB, fq, rfl, ?_⟩
      have h9 := (Own.start w).new (i := .own 9 1 B n0 cB (strs L) fq) h8 h6 h7
      have h10 := h9.new (i := .own 26 5 none 0 0 [] []) (Below.refl _ _) (OwnS.nil _ _ _) (by simp [It.fp])
      have h11 := h10.new (i := .gen [] (fun w => EnsOk w [])) (Below.refl _ _) ⟨by simp, fun _ _ _ _ e he => by cases he⟩ (by simp [It.fp])
      simpa using h11
    rw [← he1] at hres
    obtain ⟨X, hX⟩ : ∃ X, X = lineV L 0 := ⟨_, rfl⟩
    have kL0 : ∀ (W : World) (B : Option Addr) (cB : Nat), Rd W 1 B n0 (strs L) → Calls Tryz.prog 74 #[.slice B n0 cB, .int .i64 0] W fun e w' => e = .returned (.tuple #[.string (bs X), .int .i64 e1]) ∧ W = w' := fun W B cB hr => by
      have h := rLine_any L B cB 0 W (by rw [← hn0]; exact hr) hLl (by omega) hLn
      rw [← he1, ← hX, ← hn0] at h
      exact h
    have H := Lib.hid (And.intro kl2 (And.intro kL0 (And.intro hres (And.intro hLl (And.intro hLn (And.intro hn0 (And.intro hX he1)))))))
    clear kl kl2 kL0 hres hL hT hlen hLl hLn hsT hX he1 hn0
    by_cases h0 : e1 = 0
    · subst h0
      have hXb : X = body (L.getD 0 []) := by rw [H.out.2.2.2.2.2.2.1]; unfold lineV; rw [← H.out.2.2.2.2.2.2.2, if_pos rfl]
      have hXl : X.length ≤ 1000000 := by
        rw [hXb]
        unfold body
        rw [List.length_take]
        by_cases hz : 0 < L.length
        · have := H.out.2.2.2.1 L[0] (List.getElem_mem hz)
          have e : L.getD 0 [] = L[0] := by simp [hz]
          rw [e]; omega
        · rw [List.getD_eq_getElem?_getD, List.getElem?_eq_none (by omega)]; simp
      have hres := H.out.2.2.1
      rw [if_neg (by simp), ← hXb] at hres
      have kc := fun W => rCounted_any (bs X) W (by rw [bs_size]; exact hXl)
      rw [show (bs X).data.toList = X from rfl] at kc
      obtain ⟨v, hv⟩ : ∃ v, v = cntR X := ⟨_, rfl⟩
      rw [← hv] at kc
      cases hc : cntB X with
      | none =>
        rw [hc] at hres
        simp only at hres
        have hv2 : v = -1 := by rw [hv]; unfold cntR; rw [hc]
        subst hv2
        have HC := Lib.hid (And.intro kc hres)
        clear kc hres hc hv hXb hXl
        go_enter Tryz.func17, Tryz.ntmps17
        go_wp2_with (first
          | (go_at_call 73; refine H.out.1.mono ?_; rintro e w1 ⟨B, cB, fq, rfl, o1⟩; have H1 := Lib.hid o1; clear o1)
          | (go_at_call 74; refine (H.out.2.1 w1 B cB (Own.owns H1.out 0 rfl).rd).mono ?_; rintro e w2 ⟨rfl, rfl⟩)
          | (go_at_call 75; refine (HC.out.1 _).mono ?_; rintro e w3 ⟨rfl, b3⟩; have H3 := Lib.hid b3; clear b3))
        refine bodyPost_ret (results_lg3 rfl _ _ _) rfl ?_
        exact rl_no (ln := 1) HC.out.2 ((H1.out.below H3.out).bel)
      | some n =>
        rw [hc] at hres
        simp only at hres
        have hv2 : v = (n : Int) := by rw [hv]; unfold cntR; rw [hc]
        subst hv2
        by_cases h5 : 500 < n
        · rw [if_pos h5] at hres
          have HC := Lib.hid (And.intro kc hres)
          clear kc hres hc hv hXb hXl
          go_enter Tryz.func17, Tryz.ntmps17
          go_wp2_with (first
            | (go_at_call 73; refine H.out.1.mono ?_; rintro e w1 ⟨B, cB, fq, rfl, o1⟩; have H1 := Lib.hid o1; clear o1)
            | (go_at_call 74; refine (H.out.2.1 w1 B cB (Own.owns H1.out 0 rfl).rd).mono ?_; rintro e w2 ⟨rfl, rfl⟩)
            | (go_at_call 75; refine (HC.out.1 _).mono ?_; rintro e w3 ⟨rfl, b3⟩; have H3 := Lib.hid b3; clear b3))
          refine bodyPost_ret (results_lg3 rfl _ _ _) rfl ?_
          exact rl_no (ln := 1) HC.out.2 ((H1.out.below H3.out).bel)
        · rw [if_neg h5] at hres
          have HC := Lib.hid (And.intro kc hres)
          clear kc hres hc hv hXb hXl
          go_enter Tryz.func17, Tryz.ntmps17
          go_wp2_with (first
            | (go_at_call 73; refine H.out.1.mono ?_; rintro e w1 ⟨B, cB, fq, rfl, o1⟩; have H1 := Lib.hid o1; clear o1)
            | (go_at_call 74; refine (H.out.2.1 w1 B cB (Own.owns H1.out 0 rfl).rd).mono ?_; rintro e w2 ⟨rfl, rfl⟩)
            | (go_at_call 75; refine (HC.out.1 _).mono ?_; rintro e w3 ⟨rfl, b3⟩; have H3 := Lib.hid (H1.out.below b3); clear b3))
          go_loopg [9, 10] n (fun g o i wr => ∃ (k i1 : Nat) (A : Option Addr) (c : Nat) (es : List EnM) (qo : List Nat), g + k = n ∧ es.length = k ∧ i1 = k + 1 ∧ i = .int .i64 (i1 : Nat) ∧ o = .slice A k c ∧ rdLog T = rdE L (n - k) (k + 1) (exs es) ∧ Own w.heap.size w [.own 9 1 B n0 cB (strs L) fq, .own 26 5 A k c (entsV es) qo, .gen (arsB es) (fun w => EnsOk w es)] wr)
          case atStart => exact ⟨0, 1, none, 0, [], [], rfl, rfl, rfl, rfl, rfl, HC.out.2, H3.out⟩
          case round =>
            obtain ⟨k, i1, A, c, es, qo, hg, hel, hi1, rfl, rfl, hrd, oo⟩ := hrel
            have kL := rLine_any L B cB i1 wr (by rw [← H.out.2.2.2.2.2.1]; exact (oo.owns 0 rfl).rd) H.out.2.2.2.1 (by omega) H.out.2.2.2.2.1
            by_cases hlt : k < n
            · have hle1 : i1 ≤ n := by omega
              have hle2 : decide ((i1 : Int) ≤ (n : Int)) = true := decide_eq_true (by omega)
              have hnk : n - k = (n - k - 1) + 1 := by omega
              rw [hnk, rdE] at hrd
              obtain ⟨e2, he2⟩ : ∃ e, e = lineS L (k + 1) := ⟨_, rfl⟩
              rw [← he2] at hrd
              obtain ⟨Y, hY⟩ : ∃ Y, Y = lineV L (k + 1) := ⟨_, rfl⟩
              have heI : lineS L i1 = e2 := by rw [hi1, he2]
              have hYI : lineV L i1 = Y := by rw [hi1, hY]
              rw [heI, hYI] at kL
              clear heI hYI
              rw [← H.out.2.2.2.2.2.1] at kL
              by_cases h9 : e2 = 0
              · subst h9
                have hYb : Y = body (L.getD (k + 1) []) := by rw [hY]; unfold lineV; rw [← he2, if_pos rfl]
                rw [if_neg (by simp), ← hYb] at hrd
                have hYl : Y.length ≤ 1000000 := by
                  rw [hYb]
                  unfold body
                  rw [List.length_take]
                  by_cases hz : k + 1 < L.length
                  · have := H.out.2.2.2.1 L[k + 1] (List.getElem_mem hz)
                    have e : L.getD (k + 1) [] = L[k + 1] := by simp [hz]
                    rw [e]; omega
                  · rw [List.getD_eq_getElem?_getD, List.getElem?_eq_none (by omega)]; simp
                have ke := rEntry_any (bs Y) wr (by rw [bs_size]; exact hYl)
                rw [show (bs Y).data.toList = Y from rfl] at ke
                cases hq : entB Y with
                | none =>
                  rw [hq] at hrd
                  simp only at hrd
                  have kE : Calls Tryz.prog 76 #[.string (bs Y)] wr fun e w' => ∃ (xm xp : Int) (xV : ByteArray) (xA : Option Addr) (xn xc : Nat) (xN : ByteArray), e = .returned (.tuple #[.agg #[.int .i64 xm, .int .i64 xp, .string xV, .slice xA xn xc, .string xN], .bool false]) ∧ Below wr.heap.size wr w' := by
                    refine ke.mono ?_
                    rintro e w' ⟨x, xA, xc, rfl, hb, _⟩
                    exact ⟨x.minute, x.ship, bs x.verb, xA, x.args.length, xc, bs x.note, by rw [hq]; rfl, hb⟩
                  rw [← hi1] at hrd
                  have HR := Lib.hid (And.intro oo (And.intro kL (And.intro kE (And.intro hrd hi1))))
                  clear oo kL kE ke hrd hq hY hYb hYl he2 hi1
                  go_wp2_with (first
                    | (go_at_call 74; refine HR.out.2.1.mono ?_; rintro e u2 ⟨rfl, rfl⟩)
                    | (go_at_call 76; refine HR.out.2.2.1.mono ?_; rintro e u3 ⟨xm, xp, xV, xA, xn, xc, xN, rfl, b3⟩; have HE3 := Lib.hid b3; clear b3))
                  refine bodyPost_ret (results_lg3 rfl _ _ _) rfl ?_
                  exact rl_no (ln := i1 + 1) HR.out.2.2.2.1 ((HR.out.1.below HE3.out).below ((Below.refl _ _).alloc (Nat.le_refl _) _)).bel
                | some x =>
                  rw [hq] at hrd
                  simp only at hrd
                  obtain ⟨xm, hxm⟩ : ∃ m, m = x.minute := ⟨_, rfl⟩
                  obtain ⟨xp, hxp⟩ : ∃ m, m = x.ship := ⟨_, rfl⟩
                  obtain ⟨xV, hxV⟩ : ∃ m, m = bs x.verb := ⟨_, rfl⟩
                  obtain ⟨xN, hxN⟩ : ∃ m, m = bs x.note := ⟨_, rfl⟩
                  obtain ⟨xn, hxn⟩ : ∃ m, m = x.args.length := ⟨_, rfl⟩
                  have hen : ∀ A c, entC x A c = #[.int .i64 xm, .int .i64 xp, .string xV, .slice A xn c, .string xN] := fun A c => by unfold entC; rw [hxm, hxp, hxV, hxN, hxn]
                  have kE : Calls Tryz.prog 76 #[.string (bs Y)] wr fun e w' => ∃ (xA : Option Addr) (xc : Nat), e = .returned (.tuple #[.agg #[.int .i64 xm, .int .i64 xp, .string xV, .slice xA xn xc, .string xN], .bool true]) ∧ Below wr.heap.size wr w' ∧ Rd w' 1 xA x.args.length (ints x.args) ∧ ∀ b off, xA = some ⟨b, off, none⟩ → wr.heap.size ≤ b := by
                    refine ke.mono ?_
                    rintro e w' ⟨x', xA, xc, rfl, hb, hy⟩
                    obtain ⟨rfl, hy2, hy3⟩ := hy x hq
                    exact ⟨xA, xc, by rw [hq, hen]; rfl, hb, hy2, hy3⟩
                  obtain ⟨z, hz⟩ : ∃ z, z = decide (exs es ≠ [] ∧ xm < ((exs es).getLast?.getD default).minute) := ⟨_, rfl⟩
                  have hrd2 : rdLog T = if z = true then ([], k + 1 + 1, 11) else rdE L (n - k - 1) (k + 1 + 1) (exs es ++ [x]) := by rw [hrd, hz, hxm]; simp only [decide_eq_true_eq]
                  have HR := Lib.hid (And.intro oo (And.intro kL (And.intro kE (And.intro hrd2 (And.intro hz (And.intro hen (And.intro hel hi1)))))))
                  clear oo kL kE ke hrd hrd2 hq hY hYb hYl he2 hz hxm hxp hxV hxN hxn hen hel hi1
                  go_upto_region 20 with (first
                    | (go_at_call 74; refine HR.out.2.1.mono ?_; rintro e u2 ⟨rfl, rfl⟩)
                    | (go_at_call 76; refine HR.out.2.2.1.mono ?_; rintro e u3 ⟨xA, xc, rfl, b3, rx3, gx3⟩; have HE3 := Lib.hid (And.intro b3 (And.intro rx3 gx3)); clear b3 rx3 gx3))
                  obtain ⟨u4, hu4⟩ : ∃ u, u = u3.alloc (.cells #[.int .i64 xm, .int .i64 xp, .string xV, .slice xA xn xc, .string xN] 26) := ⟨_, rfl⟩
                  obtain ⟨xb, hxb⟩ : ∃ b, b = u3.heap.size := ⟨_, rfl⟩
                  have b4 : Below u3.heap.size u3 u4 := by rw [hu4]; exact (Below.refl _ _).alloc (Nat.le_refl _) _
                  have x4 : u4.heap[xb]? = some (.cells #[.int .i64 xm, .int .i64 xp, .string xV, .slice xA xn xc, .string xN] 26 (0, 0)) := by rw [hu4, hxb]; exact heap_alloc_new _ _
                  have o3 := Own.upd HR.out.1 2 rfl (i' := .gen (arsB (es ++ [⟨x, xA, xc⟩])) (fun w => EnsOk w (es ++ [⟨x, xA, xc⟩]))) (Keep.of_below HE3.out.1) (ens_gen (fun e he => by
                      rcases List.mem_append.1 he with he | he
                      · exact (gen_ens (HR.out.1.get 2 rfl) e he).below HE3.out.1
                      · rw [List.mem_singleton.1 he]; exact HE3.out.2.1)) (fun b hb => by
                      simp only [It.fp] at hb
                      unfold arsB at hb
                      rw [List.flatMap_append] at hb
                      rcases List.mem_append.1 hb with hb | hb
                      · exact .inl hb
                      · right
                        simp only [List.flatMap_cons, List.flatMap_nil, List.append_nil] at hb
                        unfold arB at hb
                        split at hb
                        · cases hb
                        · obtain ⟨a, off, hA, _⟩ := HE3.out.2.1.2 (List.length_pos_iff.2 (by assumption))
                          rw [hA] at hb
                          simp at hb
                          subst hb
                          exact HE3.out.2.2 _ off hA)
                  have o4 := o3.below b4
                  have p0 := (cell_of_heap x4 0).trans rfl
                  have zx4 := heap_lt x4
                  rw [← hu4, ← hxb]
                  have H4 := Lib.hid (And.intro o4 x4)
                  clear hu4 hxb b4 o3 o4 x4
                  go_upto_region 22 with fail
                  go_cut [72] from 60 to 72 (fun b wx => b = .bool z ∧ ∃ nq, wx = u4.drewN nq)
                  case first =>
                    by_cases hk0 : k = 0
                    · have hz0 : z = false := by
                        rw [HR.out.2.2.2.2.1]
                        have : exs es = [] := by rw [List.length_eq_zero_iff.1 (HR.out.2.2.2.2.2.2.1.trans hk0)]; rfl
                        rw [this]; simp
                      have hb1 : decide ((1 : Int) < (i1 : Int)) = false := decide_eq_false (by have := HR.out.2.2.2.2.2.2.2; omega)
                      have hb2 : decide (1 < i1) = false := decide_eq_false (by have := HR.out.2.2.2.2.2.2.2; omega)
                      have HZ := Lib.hid hz0
                      clear hz0 hk0
                      go_quiet (fail)
                      go_wp2_with fail
                      go_meet
                      exact ⟨by rw [HZ.out], nq, rfl⟩
                    · obtain ⟨jp, hjp⟩ : ∃ q, q + 1 = k := ⟨k - 1, by omega⟩
                      have hjl : jp < es.length := by have := HR.out.2.2.2.2.2.2.1; omega
                      have hi1 := HR.out.2.2.2.2.2.2.2
                      have hjj : (i1 : Int) - 2 = (jp : Int) := by omega
                      have hwp : IntKind.i64.wrap (jp : Int) = (jp : Int) := IntWalk.i64_in _ (by omega)
                      have hb1 : decide ((1 : Int) < (i1 : Int)) = true := decide_eq_true (by omega)
                      have hb2 : decide (1 < i1) = true := decide_eq_true (by omega)
                      obtain ⟨g, cur, rfl, _, hh, _, _, _, hcu⟩ := (H4.out.1.owns 1 rfl).2.resolve_left (by rintro ⟨_, h, _⟩; omega)
                      obtain ⟨pm, hpm⟩ : ∃ m, m = (es[jp]'hjl).x.minute := ⟨_, rfl⟩
                      have q0 : u4.cell? ⟨g, jp * 5, none⟩ = some (.int .i64 pm) := (cell_of_heap hh _).trans (hcu _ _ (by
                        have := flatE_get hjl (j := 0) (by decide)
                        unfold entsV; rw [Nat.add_zero] at this; rw [this, hpm]; rfl))
                      have zg := heap_lt hh
                      have hlast : ((exs es).getLast?.getD default).minute = pm := by
                        rw [List.getLast?_eq_getElem?]
                        have e : (exs es).length - 1 = jp := by unfold exs; rw [List.length_map, HR.out.2.2.2.2.2.2.1, ← hjp]; rfl
                        rw [e]
                        unfold exs
                        rw [List.getElem?_map, List.getElem?_eq_getElem hjl, hpm]; rfl
                      have hne : exs es ≠ [] := fun e => by have := congrArg List.length e; unfold exs at this; rw [List.length_map, HR.out.2.2.2.2.2.2.1, ← hjp] at this; simp at this
                      have hz2 : z = decide (xm < pm) := by
                        rw [HR.out.2.2.2.2.1, hlast]
                        simp [hne]
                      have hjlt : jp < k := by omega
                      have hjlt2 : (jp : Int) < (k : Int) := by omega
                      have hjlt3 : (0 : Int) ≤ (jp : Int) := by omega
                      have HZ := Lib.hid hz2
                      clear hz2 hne hlast hpm hcu hh hjp hk0 hi1
                      by_cases hlt2 : xm < pm
                      · have g1 : decide (xm < pm) = true := decide_eq_true hlt2
                        go_quiet (fail)
                        go_wp2_with fail
                        go_meet
                        exact ⟨by rw [HZ.out, g1], nq, rfl⟩
                      · have g1 : decide (xm < pm) = false := decide_eq_false hlt2
                        go_quiet (fail)
                        go_wp2_with fail
                        go_meet
                        exact ⟨by rw [HZ.out, g1], nq, rfl⟩
                  case rest =>
                  obtain ⟨rfl, nq, rfl⟩ := hcut
                  obtain ⟨u5, hu5⟩ : ∃ u, u = u4.drewN nq := ⟨_, rfl⟩
                  apply_assumption
                  have b45 : Below u4.heap.size u4 u5 := by rw [hu5]; exact below_drewN (Below.refl _ _) _
                  have x5 := (b45.block xb zx4).trans H4.out.2
                  have v0 := (cell_of_heap x5 0).trans rfl
                  have v1 := (cell_of_heap x5 1).trans rfl
                  have v2 := (cell_of_heap x5 2).trans rfl
                  have v3 := (cell_of_heap x5 3).trans rfl
                  have v4 := (cell_of_heap x5 4).trans rfl
                  have zx5 := heap_lt x5
                  have H5 := Lib.hid (And.intro (H4.out.1.below b45) True.intro)
                  rw [← hu5]
                  clear hu5 b45 x5 p0 zx4
                  have hk5 : k ≤ 500 := by omega
                  cases z
                  · go_wp2_with (first
                      | (at_builtin
                         refine wpList_append_S (size := 5) rfl (.tmp 75) (.tmp 77) 22 rfl iE _ 72 Tryz.underlying22 hE0 hE1 hE2 (by decide) hE3 rfl (A := A) (n := k) (c := c) (xs := entsV es) (fp := qo) (by simp [Act.eval]) ⟨u5.heap.size, 0, none⟩ (by simp [Act.eval]) [.int .i64 xm, .int .i64 xp, .string xV, .slice xA xn xc, .string xN] (((H5.out.1).below ((Below.refl _ _).alloc (Nat.le_refl _) _)).get 1 rfl) rfl ?_ (by intro u hu; simp at hu; rcases hu with rfl | rfl | rfl | rfl | rfl <;> rfl) (by omega) (by decide) ?_
                         · intro u vv hv
                           rw [show (⟨u5.heap.size, 0, none⟩ : Addr).add u = ⟨u5.heap.size, u, none⟩ from by simp [Addr.add]; omega, World.cell?_alloc_new]
                           simpa using hv
                         intro g c' w5 q1 q2 q3 q4
                         have SB := ((H5.out.1).below ((Below.refl _ _).alloc (Nat.le_refl _) (.cells #[.int .i64 xm, .int .i64 xp, .string xV, .slice xA xn xc, .string xN] 26))).upd 1 rfl (i' := It.own 26 5 (some ⟨g, 0, none⟩) (k + 1) c' (entsV es ++ [Value.int .i64 xm, Value.int .i64 xp, Value.string xV, Value.slice xA xn xc, Value.string xN]) [g]) q4 q1 (fun u hu => by rw [List.mem_singleton.1 hu]; rcases q2 with e | e; exact .inl e; exact .inr (Nat.le_of_eq e))
                         have HQ := Lib.hid SB
                         clear SB q1 q2 q3 q4))
                    go_roundg (gk - 1)
                    case measure => omega
                    case rel =>
                      have hel := HR.out.2.2.2.2.2.2.1
                      refine ⟨k + 1, i1 + 1, some ⟨g, 0, none⟩, c', es ++ [⟨x, xA, xc⟩], [g], by omega, by rw [List.length_append, hel]; rfl, by have := HR.out.2.2.2.2.2.2.2; omega, by go_num, rfl, ?_, ?_⟩
                      · have := HR.out.2.2.2.1
                        rw [if_neg (by simp)] at this
                        rw [this]
                        have e1 : exs (es ++ [(⟨x, xA, xc⟩ : EnM)]) = exs es ++ [x] := by simp [exs]
                        rw [e1, show n - (k + 1) = n - k - 1 from by omega]
                      · have hev : entsV es ++ [Value.int .i64 xm, Value.int .i64 xp, Value.string xV, Value.slice xA xn xc, Value.string xN] = entsV (es ++ [⟨x, xA, xc⟩]) := by
                          rw [← entsV_snoc]
                          congr 1
                          have := HR.out.2.2.2.2.2.1 xA xc
                          have h9 : entL ⟨x, xA, xc⟩ = (entC x xA xc).toList := rfl
                          rw [h9, this]
                        have := HQ.out
                        rw [hev] at this
                        exact this
                  · go_wp2_with fail
                    refine bodyPost_ret (results_lg3 rfl _ _ _) rfl ?_
                    have := HR.out.2.2.2.1
                    rw [if_pos trivial, ← HR.out.2.2.2.2.2.2.2] at this
                    exact rl_no (ln := i1 + 1) this H5.out.1.bel
              · have hne : (e2 != 0) = true := by simpa using h9
                rw [if_pos h9] at hrd
                rw [← hi1] at hrd
                have HR := Lib.hid (And.intro oo (And.intro kL hrd))
                clear oo kL hrd hY he2 hi1
                go_wp2_with (go_at_call 74; refine HR.out.2.1.mono ?_; rintro e u2 ⟨rfl, rfl⟩)
                refine bodyPost_ret (results_lg3 rfl _ _ _) rfl ?_
                exact rl_no (ln := i1 + 1) HR.out.2.2 HR.out.1.bel
            · have hkn : k = n := by omega
              have hle1 : ¬ i1 ≤ n := by omega
              have hle2 : decide ((i1 : Int) ≤ (n : Int)) = false := decide_eq_false (by omega)
              rw [hkn, Nat.sub_self, rdE] at hrd
              have kc := rClose_any L B cB (i1) wr (by rw [← H.out.2.2.2.2.2.1]; exact (oo.owns 0 rfl).rd) H.out.2.2.2.1 (by omega) H.out.2.2.2.2.1
              rw [← H.out.2.2.2.2.2.1] at kc
              obtain ⟨ln, hln⟩ : ∃ x, x = (closeS L i1).1 := ⟨_, rfl⟩
              obtain ⟨e3, he3⟩ : ∃ x, x = (closeS L i1).2 := ⟨_, rfl⟩
              have hpr : closeS L (n + 1) = (ln, e3) := by rw [← hkn, ← hi1, hln, he3]
              rw [← hln, ← he3] at kc
              rw [hpr] at hrd
              simp only at hrd
              have hik : (n : Int) + 1 = (i1 : Int) := by omega
              have kc2 : Calls Tryz.prog 77 #[.slice B n0 cB, .int .i64 ((n : Int) + 1)] wr fun e w' => e = .returned (.tuple #[.int .i64 ln, .int .i64 e3]) ∧ wr = w' := by rw [hik]; exact kc
              have hex : (exs es).length = es.length := by simp [exs]
              by_cases h9 : e3 = 0
              · rw [if_pos h9] at hrd
                subst h9
                have HR := Lib.hid (And.intro oo (And.intro kc2 (And.intro hrd hel)))
                clear oo kc kc2 hrd hpr hln he3 hi1 hel hik kL hkn
                go_wp2_with (go_at_call 77; refine HR.out.2.1.mono ?_; rintro e u2 ⟨rfl, rfl⟩)
                refine bodyPost_ret (results_lg3 rfl _ _ _) rfl ?_
                refine ⟨A, c, es, ?_, ?_, ?_, gen_ens (HR.out.1.get 2 rfl), HR.out.1.bel⟩
                · rw [HR.out.2.2.1, HR.out.2.2.2]; rfl
                · rw [HR.out.2.2.1]
                · have := (HR.out.1.owns 1 rfl).rd
                  rw [HR.out.2.2.2]; exact this
              · rw [if_neg h9] at hrd
                have hne : (e3 != 0) = true := by simpa using h9
                have HR := Lib.hid (And.intro oo (And.intro kc2 hrd))
                clear oo kc kc2 hrd hpr hln he3 hi1 hel hik kL hkn
                go_wp2_with (go_at_call 77; refine HR.out.2.1.mono ?_; rintro e u2 ⟨rfl, rfl⟩)
                refine bodyPost_ret (results_lg3 rfl _ _ _) rfl ?_
                exact rl_no (ln := ln) HR.out.2.2 HR.out.1.bel
    · have hres := H.out.2.2.1
      rw [if_pos h0] at hres
      have hne : (e1 != 0) = true := by simpa using h0
      have HC := Lib.hid hres
      clear hres
      go_enter Tryz.func17, Tryz.ntmps17
      go_wp2_with (first
        | (go_at_call 73; refine H.out.1.mono ?_; rintro e w1 ⟨B, cB, fq, rfl, o1⟩; have H1 := Lib.hid o1; clear o1)
        | (go_at_call 74; refine (H.out.2.1 w1 B cB (Own.owns H1.out 0 rfl).rd).mono ?_; rintro e w2 ⟨rfl, rfl⟩))
      refine bodyPost_ret (results_lg3 rfl _ _ _) rfl ?_
      exact rl_no (ln := 1) HC.out H1.out.bel
end Go.Proofs.YtaokegobilphnaaGreatDoor
/- ice: numbers within their limits -/
namespace Go.Proofs.YtaokegobilphnaaGreatDoor
open Go Go.RowKit Sp
set_option linter.unusedVariables false

theorem icein_any (n lo hi : Int) (w : World) :
    Calls Tryz.prog 154 #[.int .i64 n, .int .i64 lo, .int .i64 hi] w fun e w' => e = .returned (.bool (within n lo hi)) ∧ w = w' := by
  go_enter Tryz.func154, Tryz.ntmps154
  go_wp2
  all_goals (go_ret; refine ⟨?_, rfl⟩; simp [within]; try omega)

theorem most_any (w : World) :
    Calls Tryz.prog 171 #[] w fun e w' => e = .returned (.agg #[.int .i64 100, .int .i64 400, .int .i64 100, .int .i64 3]) ∧ Below w.heap.size w w' := by
  go_enter Tryz.func171, Tryz.ntmps171
  go_wp2_with fail
  refine bodyPost_ret (v := .agg #[.int .i64 100, .int .i64 400, .int .i64 100, .int .i64 3]) (by simp [results, Tryz.results171, go_sem]) rfl ⟨rfl, (Below.refl _ _).alloc (Nat.le_refl _) _⟩

/-- an ice -/
structure Ice where
  con : Int
  thk : Int
  rid : Int
  prs : Int
deriving DecidableEq, Inhabited

theorem most_index (w : World) :
    ((Instr.index 230 (.agg #[.int .i64 100, .int .i64 400, .int .i64 100, .int .i64 3]) (.int .i64 0)).run Tryz.prog w = .ok (.int .i64 100) w ∧ (Instr.index 230 (.agg #[.int .i64 100, .int .i64 400, .int .i64 100, .int .i64 3]) (.int .i64 1)).run Tryz.prog w = .ok (.int .i64 400) w) ∧
    ((Instr.index 230 (.agg #[.int .i64 100, .int .i64 400, .int .i64 100, .int .i64 3]) (.int .i64 2)).run Tryz.prog w = .ok (.int .i64 100) w ∧ (Instr.index 230 (.agg #[.int .i64 100, .int .i64 400, .int .i64 100, .int .i64 3]) (.int .i64 3)).run Tryz.prog w = .ok (.int .i64 3) w) := by
  have u3 := Tryz.underlying3
  have a3 := Tryz.isAgg3
  have z3 := Tryz.sizeOf3
  have u4 := Tryz.underlying230
  simp [Instr.index, asIntOf, run_underlying u4, part, isAgg, run_underlying u3, z3, go_sem]

def iceN (x : Ice) : Nat → Int
  | 0 => x.con
  | 1 => x.thk
  | 2 => x.rid
  | _ => x.prs
def mostN : Nat → Int
  | 0 => 100
  | 1 => 400
  | 2 => 100
  | _ => 3
def iceOk (x : Ice) : Bool := within x.con 0 100 && within x.thk 0 400 && within x.rid 0 100 && within x.prs 0 3

end Go.Proofs.YtaokegobilphnaaGreatDoor
/- ice: all, CheckIce; restrict.grade, Grade; polynyaref08.Grade -/
namespace Go.Proofs.YtaokegobilphnaaGreatDoor
open Go Go.RowKit Sp
set_option linter.unusedVariables false


def iceE (x : Ice) : Int := if iceOk x then 0 else 20
end Go.Proofs.YtaokegobilphnaaGreatDoor
