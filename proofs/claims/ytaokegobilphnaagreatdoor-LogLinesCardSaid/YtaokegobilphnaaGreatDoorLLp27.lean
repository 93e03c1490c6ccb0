/- log.Recover (printed by tools/lgrw.py) -/
import Derived.Test.YtaokegobilphnaaGreatDoorLLp26
import Derived.Test.YtaokegobilphnaaGreatDoorLLp25
import Derived.Test.YtaokegobilphnaaGreatDoorLLp6
import Derived.Test.YtaokegobilphnaaGreatDoorLLp7
import Derived.Test.YtaokegobilphnaaGreatDoorLLp9
import Derived.Test.YtaokegobilphnaaGreatDoorLLp11
import Derived.Test.YtaokegobilphnaaGreatDoorLLp24
set_option linter.unusedVariables false
set_option linter.unusedSimpArgs false
namespace Go.Proofs.YtaokegobilphnaaGreatDoor
open Go Go.RowKit Go.Shelf Go.Proofs Sp Lg
attribute [local go_sem] Oper.semAt_some
set_option linter.unusedVariables false
set_option linter.unusedSimpArgs false

/-- what is gathered while lines are recovered -/
def RwO (w0 : World) (ob lo nb p : Nat) (A : Option Addr) (c : Nat) (es : List EnM) (qo : List Nat) (C : Option Addr) (d : Nat) (lost : List Int) (ql : List Nat) (wx : World) : Prop :=
  Own w0.heap.size w0 ([.blk ob (.cells #[.slice A es.length c] 27 (0, 0)), .blk lo (.cells #[.slice C lost.length d] 24 (0, 0)), .blk nb (.cells #[.int .i64 p] 3 (0, 0)), .own 93 5 A es.length c (entsV es) qo, .own 3 1 C lost.length d (ints lost) ql] ++ [.gen (arsB es) (fun w => EnsOk w es)]) wx
set_option maxRecDepth 100000 in
set_option maxHeartbeats 4000000 in
theorem gRecover_any (s : ByteArray) (w : World) (hs : s.size ≤ 900000) (E : Env w) :
    Calls Tryz.prog 31 #[.string s] w (RvPost w s.data.toList) := by
  obtain ⟨iE, hE0, hE1, hE2, hE3⟩ := info_parts infoLgEnt
  obtain ⟨iI, hI0, hI1, hI2, hI3⟩ := info_parts infoLgI
  have hlen : s.data.toList.length = s.size := Array.length_toList
  obtain ⟨T, hT⟩ : ∃ T, T = s.data.toList := ⟨_, rfl⟩
  have hsb : s = bs T := by rw [hT, bs_eta]
  have hTl : T.length ≤ 900000 := by rw [hT]; omega
  have hLn : (lines T).length ≤ 1000000 := by have := lines_few T; omega
  have hTs : T.length = s.size := by rw [hT, hlen]
  rw [← hT]
  by_cases hbig : 131072 < s.size
  · have hres : rcL T = ([], [], 2) := by unfold rcL; rw [if_pos (by omega)]
    have hb : decide ((131072 : Int) < (s.size : Int)) = true := decide_eq_true (by omega)
    have H := Lib.hid hres
    clear hres hT hlen hLn hTs hsb E
    go_enter Tryz.func31, Tryz.ntmps31
    go_wp2_with fail
    refine bodyPost_ret (results_lg3 rfl _ _ _) rfl ?_
    exact ⟨none, 0, [], none, 0, by rw [H.out]; rfl, by rw [H.out]; rfl, ⟨rfl, fun h => absurd h (by simp)⟩, (fun e he => by cases he), by rw [H.out]; exact ⟨rfl, fun h => absurd h (by simp)⟩, Below.refl _ _⟩
  have hb : decide ((131072 : Int) < (s.size : Int)) = false := decide_eq_false (by omega)
  have hres : rcL T = ((rcP (lines T)).1, (rcP (lines T)).2, 0) := by unfold rcL rcP; rw [if_neg (by omega)]
  obtain ⟨ob, hob⟩ : ∃ b, b = w.heap.size := ⟨_, rfl⟩
  obtain ⟨lo, hlo⟩ : ∃ b, b = ob + 1 := ⟨_, rfl⟩
  obtain ⟨nb, hnb⟩ : ∃ b, b = ob + 1 + 1 := ⟨_, rfl⟩
  obtain ⟨W1, hW1⟩ : ∃ W, W = ((w.alloc (.cells #[.slice none 0 0] 27)).alloc (.cells #[.slice none 0 0] 24)).alloc (.cells #[.int .i64 0] 3) := ⟨_, rfl⟩
  have O1 : RwO w ob lo nb 0 none 0 [] [] none 0 [] [] W1 := by
    have h := (((Own.start w).alloc (.cells #[.slice none 0 0] 27)).alloc (.cells #[.slice none 0 0] 24)).alloc (.cells #[.int .i64 0] 3)
    simp only [World.size_alloc] at h
    have h2 := h.new (i := .own 93 5 none 0 0 [] []) (Below.refl _ _) (OwnS.nil _ _ _) (by simp [It.fp])
    have h3 := h2.new (i := .own 3 1 none 0 0 [] []) (Below.refl _ _) (OwnS.nil _ _ _) (by simp [It.fp])
    have h4 := h3.new (i := .gen (arsB []) (fun w => EnsOk w [])) (Below.refl _ _) (ens_gen (fun e he => by cases he)) (by simp [It.fp, arsB])
    unfold RwO
    rw [hW1, hnb, hlo, hob]
    exact h4
  have hz1 : W1.heap.size = ob + 3 := by rw [hW1, hob]; simp
  have HO := Lib.hid (And.intro O1 (And.intro hz1 (And.intro hob (And.intro hlo (And.intro hnb (And.intro hres (And.intro hsb E)))))))
  clear hlen hT hres hsb E
  refine (callsIn_wide (n := 9)).1 ?_
  refine callsIn_of_wp_marks Tryz.func31 rfl trivial ?_ rfl
  simp only [Tryz.ntmps31, List.size_toArray, List.length_cons, List.length_nil, Nat.reduceAdd, Nat.reduceSub, Array.replicate_succ, Array.replicate_zero, List.push_toArray, List.append_toArray, List.nil_append, List.cons_append]
  gi_upto_region 6 with fail
  rw [← hW1, ← hob, ← hnb, ← hlo]
  clear hW1 hob hlo hnb O1 hz1
  gi_wp2_with (refine ⟨trivial, ?_⟩; gi_at_call 84; refine (callsIn_wide.2 (gLines_any s W1)).mono ?_; rintro e w2 ⟨rfl, hw2⟩; have HW2 := Lib.hid hw2; clear hw2)
  obtain ⟨tb, htb⟩ : ∃ b, b = W1.heap.size := ⟨_, rfl⟩
  rw [← htb]
  have ht2 : w2.heap[tb]? = some (.cells #[.string (bs T)] 9 (0, 0)) := by rw [HW2.out, htb, ← HO.out.2.2.2.2.2.2.1]; exact heap_alloc_new _ _
  have hb2 : Below W1.heap.size W1 w2 := by rw [HW2.out]; exact (Below.refl _ _).alloc (Nat.le_refl _) _
  have hz2 : w2.heap.size = tb + 1 := by rw [HW2.out, htb]; simp
  have O2 : RwO w ob lo nb 0 none 0 [] [] none 0 [] [] w2 := Own.below HO.out.1 hb2
  have hne : ob ≠ tb ∧ lo ≠ tb ∧ nb ≠ tb ∧ w.heap.size ≤ tb := by have := HO.out.2.1; have := HO.out.2.2.1; have := HO.out.2.2.2.1; have := HO.out.2.2.2.2.1; omega
  have HT := Lib.hid (And.intro htb O2)
  clear htb O2
  refine range_tb rfl (by omega) (gf := 123) (lb := #[.pointer (some ⟨tb, 0, none⟩)]) rfl trivial (enters_of Tryz.func123 (by kernel_rfl) rfl) (lines1_seq tb T w2 ht2 (by omega) 1000000 _ hLn (by omega)) (Below.refl _ _) rfl (by omega) rfl
    (fun pre W => ∃ (es : List EnM) (A : Option Addr) (c : Nat) (qo : List Nat) (C : Option Addr) (d : Nat) (lost : List Int) (ql : List Nat), RwO w ob lo nb pre.length A c es qo C d lost ql W ∧ exs es = (rcP (lnB pre)).1 ∧ lost = (rcP (lnB pre)).2 ∧ tb ∉ qo ∧ tb ∉ ql ∧ tb ∉ arsB es)
    ?inv ⟨[], none, 0, [], none, 0, [], [], HT.out.2, rfl, rfl, by simp, by simp, by simp [arsB]⟩ (fun x => { tmps := #[.string s, undef, .slice none 0 0, .slice none 0 0, .int .i64 0, .pointer (some ⟨ob, 0, none⟩), .pointer (some ⟨lo, 0, none⟩), .pointer (some ⟨nb, 0, none⟩), .string (bs x.1), undef, undef, undef, undef, undef, .string s, .int .i64 s.size, .bool false, .string s, .func (.func 123) #[] #[.pointer (some ⟨tb, 0, none⟩)], .string (bs x.1), undef, undef, undef, undef, undef, undef, undef, undef, undef, undef, undef, undef, undef, undef, undef, undef, undef, undef, undef, undef, undef, undef, undef, undef, undef, undef, undef, undef, undef, undef, undef, undef, undef, undef, undef, undef, undef, undef, undef, undef], defers := [] }) ?assign ?body ?done
  case inv =>
    rintro pre A' C' ⟨es, A, c, qo, C, d, lost, ql, hO, hex, hlo, h1, h2, h3⟩ hs
    refine ⟨es, A, c, qo, C, d, lost, ql, Own.simG hO hs hne.2.2.2 (by omega) ?_ ?_ h3, hex, hlo, h1, h2, h3⟩
    · intro i hi
      simp only [List.mem_cons, List.not_mem_nil, or_false] at hi
      rcases hi with rfl | rfl | rfl | rfl | rfl
      · simp [It.fp]; exact fun e => hne.1 e.symm
      · simp [It.fp]; exact fun e => hne.2.1 e.symm
      · simp [It.fp]; exact fun e => hne.2.2.1 e.symm
      · exact h1
      · exact h2
    · intro i hi
      simp only [List.mem_cons, List.not_mem_nil, or_false] at hi
      rcases hi with rfl | rfl | rfl | rfl | rfl <;> rfl
  case assign =>
    intro l x W K hK
    gi_wp2
    exact hK
  case body =>
    rintro lp pre x W ⟨es, A, c, qo, C, d, lost, ql, hO, hex, hlo2, h1, h2, h3⟩ hlen hlt
    obtain ⟨p, hp⟩ : ∃ p, p = pre.length := ⟨_, rfl⟩
    rw [← hp] at hO hlen
    have hpl : (lnB pre).length = p := by rw [hp]; exact List.length_map ..
    have hsn := rcP_snoc (lnB pre) x.1
    rw [hpl] at hsn
    have hrl := rcP_len (lnB pre)
    rw [hpl] at hrl
    obtain ⟨ne, hne2⟩ : ∃ m, m = es.length := ⟨_, rfl⟩
    obtain ⟨nl, hnl2⟩ : ∃ m, m = lost.length := ⟨_, rfl⟩
    have hel : ne ≤ p := by have := congrArg List.length hex; simp only [exs, List.length_map] at this; omega
    have hll : nl ≤ p := by rw [hnl2, hlo2]; exact hrl.2
    have ho := hO.heap 0 rfl
    have hlb := hO.heap 1 rfl
    have hn := hO.heap 2 rfl
    rw [← hne2] at ho
    rw [← hnl2] at hlb
    have b0 := (cell_of_heap hn 0).trans rfl
    have b2 := frozen_of_heap hn 0
    have zn := heap_lt hn
    obtain ⟨V, hV⟩ : ∃ V, V = W.setCell ⟨nb, 0, none⟩ (.int .i64 ((p : Int) + 1)) := ⟨_, rfl⟩
    have O3 := hO.set 2 (o' := .cells #[.int .i64 ((p : Int) + 1)] 3 (0, 0)) rfl ((Keep.refl [nb] W).setCell (p := ⟨nb, 0, none⟩) (.inl (by simp)) (.int .i64 ((p : Int) + 1))) (heap_set hn 0 _)
    rw [← hV] at O3
    have kk := gContent_any (bs x.1) V (by rw [bs_size]; exact x.2) (Env.below HO.out.2.2.2.2.2.2.2 O3.bel)
    rw [show (bs x.1).data.toList = x.1 from rfl] at kk
    obtain ⟨Y, hY⟩ : ∃ Y, Y = body x.1 := ⟨_, rfl⟩
    obtain ⟨z, hz⟩ : ∃ z, z = inside x.1 := ⟨_, rfl⟩
    rw [← hY, ← hz] at kk
    have hYl : Y.length ≤ 1000000 := by rw [hY]; unfold body; rw [List.length_take]; have := x.2; omega
    have hKO : ∀ b ∈ ob :: lo :: nb :: (qo ++ ql), ∀ o, W.heap[b]? = some o → o.isCells = true := by
      intro b hb o h
      simp only [List.mem_cons, List.mem_append] at hb
      rcases hb with rfl | rfl | rfl | hb | hb
      · rw [ho] at h; cases h; rfl
      · rw [hlb] at h; cases h; rfl
      · rw [hn] at h; cases h; rfl
      · rcases (hO.owns 3 rfl).2 with ⟨_, _, _, e⟩ | ⟨g', cur, _, e, hh, _⟩
        · rw [e] at hb; cases hb
        · rw [e] at hb
          obtain rfl : b = g' := by simpa using hb
          rw [hh] at h; cases h; rfl
      · rcases (hO.owns 4 rfl).2 with ⟨_, _, _, e⟩ | ⟨g', cur, _, e, hh, _⟩
        · rw [e] at hb; cases hb
        · rw [e] at hb
          obtain rfl : b = g' := by simpa using hb
          rw [hh] at h; cases h; rfl
    have htS : tb ∉ ob :: lo :: nb :: (qo ++ ql) := by
      simp only [List.mem_cons, List.mem_append, not_or]
      exact ⟨fun e => hne.1 e.symm, fun e => hne.2.1 e.symm, fun e => hne.2.2.1 e.symm, h1, h2⟩
    have hKV : Keep (ob :: lo :: nb :: (qo ++ ql)) W V := by rw [hV]; exact (Keep.refl _ W).setCell (p := ⟨nb, 0, none⟩) (.inl (by simp)) _
    have HKO := Lib.hid (And.intro hKO (And.intro htS hKV))
    clear hKO htS hKV
    have HLT := Lib.hid (And.intro hlt (And.intro h1 (And.intro h2 (And.intro h3 hp))))
    have HH := Lib.hid (And.intro O3 (And.intro ho (And.intro hlb (And.intro hn (And.intro hne2 (And.intro hnl2 (And.intro hex (And.intro hlo2 (And.intro hsn (And.intro hz hY))))))))))
    clear O3 ho hlb hn hne2 hnl2 hex hlo2 hsn hz hY hO hlt h1 h2 h3 hp hpl hrl
    gi_upto_region 9 with fail
    rw [← hV]
    clear hV
    gi_upto_region 10 with (refine ⟨trivial, ?_⟩; gi_at_call 79; refine (CallsIn.inRound lp (callsIn_wide.2 kk)).mono ?_; rintro e w3 ⟨rfl, b3⟩; have H3 := Lib.hid b3; clear b3)
    obtain ⟨u4, hu4⟩ : ∃ u, u = w3.alloc (.cells #[.int .i64 0, .int .i64 0, .string ⟨#[]⟩, .slice none 0 0, .string ⟨#[]⟩] 93) := ⟨_, rfl⟩
    obtain ⟨xb, hxb⟩ : ∃ b, b = w3.heap.size := ⟨_, rfl⟩
    have b34 : Below w3.heap.size w3 u4 := by rw [hu4]; exact (Below.refl _ _).alloc (Nat.le_refl _) _
    have hx4 : u4.heap[xb]? = some (.cells #[.int .i64 0, .int .i64 0, .string ⟨#[]⟩, .slice none 0 0, .string ⟨#[]⟩] 93 (0, 0)) := by rw [hu4, hxb]; exact heap_alloc_new _ _
    have O4 := Own.below (Own.below HH.out.1 H3.out) b34
    have ho4 := O4.heap 0 rfl
    have hl4 := O4.heap 1 rfl
    have hn4 := O4.heap 2 rfl
    rw [← HH.out.2.2.2.2.1] at ho4
    rw [← HH.out.2.2.2.2.2.1] at hl4
    have hK4 : Keep (ob :: lo :: nb :: (qo ++ ql)) W u4 := (HKO.out.2.2.trans (Keep.of_below (S := []) H3.out) (by simp)).trans (Keep.of_below (S := []) b34) (by simp)
    have kcn := gCount_any (bs Y) u4 (by rw [bs_size]; exact hYl) (Env.below HO.out.2.2.2.2.2.2.2 O4.bel)
    have ken := gEntry_any (bs Y) u4 (by rw [bs_size]; exact hYl) (Env.below HO.out.2.2.2.2.2.2.2 O4.bel)
    unfold CntPost at kcn
    rw [show (bs Y).data.toList = Y from rfl] at kcn ken
    have HB34' := Lib.hid b34
    have H4 := Lib.hid (And.intro O4 (And.intro hK4 (And.intro ho4 (And.intro hl4 (And.intro hn4 (And.intro hx4 (And.intro kcn ken)))))))
    clear O4 hK4 b34 hx4 ho4 hl4 hn4 kcn ken
    have HXB := Lib.hid (Nat.le_of_eq hxb.symm)
    have HB34 := Lib.hid HB34'.out
    have HK3 := Lib.hid ((HKO.out.2.2.trans (Keep.of_below (S := []) H3.out) (by simp)))
    gi_upto_region 11 with fail
    rw [← hu4, ← hxb]
    clear hu4 hxb
    have ax := (cell_of_heap H4.out.2.2.1 0).trans rfl
    have al := (cell_of_heap H4.out.2.2.2.1 0).trans rfl
    have an := (cell_of_heap H4.out.2.2.2.2.1 0).trans rfl
    have zo4 := heap_lt H4.out.2.2.1
    have zl4 := heap_lt H4.out.2.2.2.1
    have zn4 := heap_lt H4.out.2.2.2.2.1
    clear b0 b2 zn
    by_cases hp0 : p = 0
    · have hb0 : (((p : Int) + 1) == 1) = true := by rw [hp0]; rfl
      have hg1 : decide ((1 : Int) < (p : Int) + 1) = false := decide_eq_false (by omega)
      have hg2 : ¬ (1 : Int) < (p : Int) + 1 := by omega
      obtain ⟨f, hf⟩ : ∃ f, f = (cntB Y).isSome := ⟨_, rfl⟩
      have kc := H4.out.2.2.2.2.2.2.1
      rw [← hf] at kc
      have HP := Lib.hid (And.intro hp0 (And.intro hf kc))
      clear hp0 hf kc
      cases z with
      | true =>
        cases f with
        | true =>
          gi_wp2_with (refine ⟨trivial, ?_⟩; gi_at_call 85; refine (CallsIn.inRound lp (callsIn_wide.2 HP.out.2.2)).mono ?_; rintro e w5 ⟨v, rfl, b5, hv5⟩; have n5 := (b5.cell (p := ⟨nb, 0, none⟩) zn4).trans an; have zn5 := Nat.lt_of_lt_of_le zn4 b5.size; have H5 := Lib.hid b5; clear b5 hv5)
          obtain ⟨O3, ho, hlb, hn, hne2, hnl2, hex, hlo2, hsn, hz, hY⟩ := HH.out
          obtain ⟨hlt, h1, h2, h3, hp⟩ := HLT.out
          have hcast : ((pre.length + 1 : Nat) : Int) = (p : Int) + 1 := by rw [← hp]; omega
          have e0 : lnB (pre ++ [x]) = lnB pre ++ [x.1] := by simp [lnB]
          have hn0 : lnB pre = [] := List.length_eq_zero_iff.1 (by rw [show (lnB pre).length = pre.length from List.length_map ..]; have := HP.out.1; omega)
          have e1 : rcP (lnB (pre ++ [x])) = rcP (lnB pre) := by
            rw [e0, hsn.1 hn0, hn0, if_pos ⟨hz.symm, by rw [← hY]; exact HP.out.2.1.symm⟩]
            rfl
          have hK := H4.out.2.1.trans (Keep.of_below (S := []) H5.out) (by simp)
          refine ⟨keepsOthers_of hK HKO.out.1, hK.size, hK.block tb hlt HKO.out.2.1, es, A, c, qo, C, d, lost, ql, ?_, ?_, ?_, h1, h2, h3⟩
          · unfold RwO
            rw [hcast]
            exact Own.below H4.out.1 H5.out
          · rw [e1]; exact hex
          · rw [e1]; exact hlo2
        | false =>
          gi_wp2_with (first
            | (refine ⟨trivial, ?_⟩; gi_at_call 85; refine (CallsIn.inRound lp (callsIn_wide.2 HP.out.2.2)).mono ?_; rintro e w5 ⟨v, rfl, b5, hv5⟩; have n5 := (b5.cell (p := ⟨nb, 0, none⟩) zn4).trans an; have zn5 := Nat.lt_of_lt_of_le zn4 b5.size; have l5 := (b5.cell (p := ⟨lo, 0, none⟩) zl4).trans al; have zl5 := Nat.lt_of_lt_of_le zl4 b5.size; have H5 := Lib.hid (And.intro b5 (Own.below H4.out.1 b5)); clear b5 hv5)
            | (gi_at_builtin
               refine wpListIn_append_S (size := 1) rfl _ _ 24 rfl iI _ 8 Tryz.underlying24 hI0 hI1 hI2 (by decide) hI3 rfl (A := C) (n := nl) (c := d) (xs := ints lost) (fp := ql) (by simp [Act.eval]) ⟨(w5).heap.size, 0, none⟩ (by simp [Act.eval]) [.int .i64 ((p : Int) + 1)] (by have h := Own.owns (Own.below H5.out.2 ((Below.refl _ (w5)).alloc (Nat.le_refl _) (.cells #[.int .i64 ((p : Int) + 1)] 3))) 4 rfl; rw [← HH.out.2.2.2.2.2.1] at h; exact h) rfl (fun j v hv => by obtain ⟨hj, rfl⟩ := List.getElem?_eq_some_iff.1 hv; obtain rfl : j = 0 := (by simpa using hj); exact (cell_of_heap (heap_alloc_new _ _) 0).trans rfl) (by intro u hu; simp at hu; rcases hu with rfl; rfl) (by omega) (by decide) ?_
               intro g9 c9 w10 q1 q2 q3 q4
               have SB := Own.upd (Own.below H5.out.2 ((Below.refl _ (w5)).alloc (Nat.le_refl _) (.cells #[.int .i64 ((p : Int) + 1)] 3))) 4 rfl (i' := It.own 3 1 (some ⟨g9, 0, none⟩) (nl + 1) c9 (ints lost ++ [Value.int .i64 ((p : Int) + 1)]) [g9]) q4 q1 (fun u hu => by rw [List.mem_singleton.1 hu]; rcases q2 with e | e; exact .inl e; exact .inr (Nat.le_of_eq e))
               have r0 := (cell_of_heap (SB.heap 1 rfl) 0).trans rfl
               have r2 := frozen_of_heap (SB.heap 1 rfl) 0
               have zr := heap_lt (SB.heap 1 rfl)
               have HS := Lib.hid (And.intro SB (And.intro q2 q4))
               clear SB q1 q2 q3 q4))
          obtain ⟨O3, ho, hlb, hn, hne2, hnl2, hex, hlo2, hsn, hz, hY⟩ := HH.out
          obtain ⟨hlt, h1, h2, h3, hp⟩ := HLT.out
          have hcast : ((pre.length + 1 : Nat) : Int) = (p : Int) + 1 := by rw [← hp]; omega
          have e0 : lnB (pre ++ [x]) = lnB pre ++ [x.1] := by simp [lnB]
          have e1 : rcP (lnB (pre ++ [x])) = ((rcP (lnB pre)).1, (rcP (lnB pre)).2 ++ [(p : Int) + 1]) := by
            rw [e0]
            have hn0 : lnB pre = [] := List.length_eq_zero_iff.1 (by rw [show (lnB pre).length = pre.length from List.length_map ..]; have := HP.out.1; omega)
            rw [hsn.1 hn0, hn0, if_neg (by rintro ⟨_, h⟩; rw [← hY] at h; have := HP.out.2.1; rw [h] at this; cases this)]
            simp [rcP, rcN, HP.out.1]
          obtain ⟨SB, q2, q4⟩ := HS.out
          have hK := (((H4.out.2.1.trans (Keep.of_below (S := []) H5.out.1) (by simp)).alloc (.cells #[.int .i64 ((p : Int) + 1)] 3)).trans q4 (fun g hg => .inl (by simp [hg]))).setCell (p := ⟨lo, 0, none⟩) (.inl (by simp)) (.slice (some ⟨g9, 0, none⟩) (nl + 1) c9)
          have OF := SB.set 1 (o' := .cells #[.slice (some ⟨g9, 0, none⟩) (nl + 1) c9] 24 (0, 0)) rfl ((Keep.refl [lo] w10).setCell (p := ⟨lo, 0, none⟩) (.inl (by simp)) (.slice (some ⟨g9, 0, none⟩) (nl + 1) c9)) (heap_set (SB.heap 1 rfl) 0 _)
          have hll2 : (lost ++ [(p : Int) + 1]).length = nl + 1 := by rw [List.length_append, ← hnl2]; rfl
          refine ⟨keepsOthers_of hK HKO.out.1, by simpa using hK.size, hK.block tb hlt HKO.out.2.1, es, A, c, qo, some ⟨g9, 0, none⟩, c9, lost ++ [(p : Int) + 1], [g9], ?_, ?_, ?_, h1, ?_, h3⟩
          · unfold RwO
            rw [hll2, hcast, show ints (lost ++ [(p : Int) + 1]) = ints lost ++ [Value.int .i64 ((p : Int) + 1)] from by simp [ints]]
            exact OF
          · rw [e1]; exact hex
          · rw [e1, hlo2]
          · simp only [List.mem_singleton]
            rcases q2 with h | h
            · rintro rfl; exact h2 h
            · have := (H4.out.2.1.trans (Keep.of_below (S := []) H5.out.1) (by simp)).size
              simp at h
              omega
      | false =>
        gi_wp2_with (first
          | (refine ⟨trivial, ?_⟩; gi_at_call 85; refine (CallsIn.inRound lp (callsIn_wide.2 HP.out.2.2)).mono ?_; rintro e w5 ⟨v, rfl, b5, hv5⟩; have n5 := (b5.cell (p := ⟨nb, 0, none⟩) zn4).trans an; have zn5 := Nat.lt_of_lt_of_le zn4 b5.size; have l5 := (b5.cell (p := ⟨lo, 0, none⟩) zl4).trans al; have zl5 := Nat.lt_of_lt_of_le zl4 b5.size; have H5 := Lib.hid (And.intro b5 (Own.below H4.out.1 b5)); clear b5 hv5)
          | (gi_at_builtin
             refine wpListIn_append_S (size := 1) rfl _ _ 24 rfl iI _ 8 Tryz.underlying24 hI0 hI1 hI2 (by decide) hI3 rfl (A := C) (n := nl) (c := d) (xs := ints lost) (fp := ql) (by simp [Act.eval]) ⟨(w5).heap.size, 0, none⟩ (by simp [Act.eval]) [.int .i64 ((p : Int) + 1)] (by have h := Own.owns (Own.below H5.out.2 ((Below.refl _ (w5)).alloc (Nat.le_refl _) (.cells #[.int .i64 ((p : Int) + 1)] 3))) 4 rfl; rw [← HH.out.2.2.2.2.2.1] at h; exact h) rfl (fun j v hv => by obtain ⟨hj, rfl⟩ := List.getElem?_eq_some_iff.1 hv; obtain rfl : j = 0 := (by simpa using hj); exact (cell_of_heap (heap_alloc_new _ _) 0).trans rfl) (by intro u hu; simp at hu; rcases hu with rfl; rfl) (by omega) (by decide) ?_
             intro g9 c9 w10 q1 q2 q3 q4
             have SB := Own.upd (Own.below H5.out.2 ((Below.refl _ (w5)).alloc (Nat.le_refl _) (.cells #[.int .i64 ((p : Int) + 1)] 3))) 4 rfl (i' := It.own 3 1 (some ⟨g9, 0, none⟩) (nl + 1) c9 (ints lost ++ [Value.int .i64 ((p : Int) + 1)]) [g9]) q4 q1 (fun u hu => by rw [List.mem_singleton.1 hu]; rcases q2 with e | e; exact .inl e; exact .inr (Nat.le_of_eq e))
             have r0 := (cell_of_heap (SB.heap 1 rfl) 0).trans rfl
             have r2 := frozen_of_heap (SB.heap 1 rfl) 0
             have zr := heap_lt (SB.heap 1 rfl)
             have HS := Lib.hid (And.intro SB (And.intro q2 q4))
             clear SB q1 q2 q3 q4))
        obtain ⟨O3, ho, hlb, hn, hne2, hnl2, hex, hlo2, hsn, hz, hY⟩ := HH.out
        obtain ⟨hlt, h1, h2, h3, hp⟩ := HLT.out
        have hcast : ((pre.length + 1 : Nat) : Int) = (p : Int) + 1 := by rw [← hp]; omega
        have e0 : lnB (pre ++ [x]) = lnB pre ++ [x.1] := by simp [lnB]
        have e1 : rcP (lnB (pre ++ [x])) = ((rcP (lnB pre)).1, (rcP (lnB pre)).2 ++ [(p : Int) + 1]) := by
          rw [e0]
          have hn0 : lnB pre = [] := List.length_eq_zero_iff.1 (by rw [show (lnB pre).length = pre.length from List.length_map ..]; have := HP.out.1; omega)
          rw [hsn.1 hn0, hn0, if_neg (by rintro ⟨h, _⟩; rw [← hz] at h; cases h)]
          simp [rcP, rcN, HP.out.1]
        obtain ⟨SB, q2, q4⟩ := HS.out
        have hK := (((H4.out.2.1.trans (Keep.of_below (S := []) H5.out.1) (by simp)).alloc (.cells #[.int .i64 ((p : Int) + 1)] 3)).trans q4 (fun g hg => .inl (by simp [hg]))).setCell (p := ⟨lo, 0, none⟩) (.inl (by simp)) (.slice (some ⟨g9, 0, none⟩) (nl + 1) c9)
        have OF := SB.set 1 (o' := .cells #[.slice (some ⟨g9, 0, none⟩) (nl + 1) c9] 24 (0, 0)) rfl ((Keep.refl [lo] w10).setCell (p := ⟨lo, 0, none⟩) (.inl (by simp)) (.slice (some ⟨g9, 0, none⟩) (nl + 1) c9)) (heap_set (SB.heap 1 rfl) 0 _)
        have hll2 : (lost ++ [(p : Int) + 1]).length = nl + 1 := by rw [List.length_append, ← hnl2]; rfl
        refine ⟨keepsOthers_of hK HKO.out.1, by simpa using hK.size, hK.block tb hlt HKO.out.2.1, es, A, c, qo, some ⟨g9, 0, none⟩, c9, lost ++ [(p : Int) + 1], [g9], ?_, ?_, ?_, h1, ?_, h3⟩
        · unfold RwO
          rw [hll2, hcast, show ints (lost ++ [(p : Int) + 1]) = ints lost ++ [Value.int .i64 ((p : Int) + 1)] from by simp [ints]]
          exact OF
        · rw [e1]; exact hex
        · rw [e1, hlo2]
        · simp only [List.mem_singleton]
          rcases q2 with h | h
          · rintro rfl; exact h2 h
          · have := (H4.out.2.1.trans (Keep.of_below (S := []) H5.out.1) (by simp)).size
            simp at h
            omega
    · have hb0 : (((p : Int) + 1) == 1) = false := by rw [beq_eq_false_iff_ne]; omega
      have hg1 : decide ((1 : Int) < (p : Int) + 1) = true := decide_eq_true (by omega)
      have hg2 : (1 : Int) < (p : Int) + 1 := by omega
      have HP := Lib.hid hp0
      clear hp0
      cases z with
      | false =>
        gi_wp2_with ((gi_at_builtin
                      refine wpListIn_append_S (size := 1) rfl _ _ 24 rfl iI _ 8 Tryz.underlying24 hI0 hI1 hI2 (by decide) hI3 rfl (A := C) (n := nl) (c := d) (xs := ints lost) (fp := ql) (by simp [Act.eval]) ⟨(u4).heap.size, 0, none⟩ (by simp [Act.eval]) [.int .i64 ((p : Int) + 1)] (by have h := Own.owns (Own.below H4.out.1 ((Below.refl _ (u4)).alloc (Nat.le_refl _) (.cells #[.int .i64 ((p : Int) + 1)] 3))) 4 rfl; rw [← HH.out.2.2.2.2.2.1] at h; exact h) rfl (fun j v hv => by obtain ⟨hj, rfl⟩ := List.getElem?_eq_some_iff.1 hv; obtain rfl : j = 0 := (by simpa using hj); exact (cell_of_heap (heap_alloc_new _ _) 0).trans rfl) (by intro u hu; simp at hu; rcases hu with rfl; rfl) (by omega) (by decide) ?_
                      intro g9 c9 w10 q1 q2 q3 q4
                      have SB := Own.upd (Own.below H4.out.1 ((Below.refl _ (u4)).alloc (Nat.le_refl _) (.cells #[.int .i64 ((p : Int) + 1)] 3))) 4 rfl (i' := It.own 3 1 (some ⟨g9, 0, none⟩) (nl + 1) c9 (ints lost ++ [Value.int .i64 ((p : Int) + 1)]) [g9]) q4 q1 (fun u hu => by rw [List.mem_singleton.1 hu]; rcases q2 with e | e; exact .inl e; exact .inr (Nat.le_of_eq e))
                      have r0 := (cell_of_heap (SB.heap 1 rfl) 0).trans rfl
                      have r2 := frozen_of_heap (SB.heap 1 rfl) 0
                      have zr := heap_lt (SB.heap 1 rfl)
                      have HS := Lib.hid (And.intro SB (And.intro q2 q4))
                      clear SB q1 q2 q3 q4))
        obtain ⟨O3, ho, hlb, hn, hne2, hnl2, hex, hlo2, hsn, hz, hY⟩ := HH.out
        obtain ⟨hlt, h1, h2, h3, hp⟩ := HLT.out
        have hcast : ((pre.length + 1 : Nat) : Int) = (p : Int) + 1 := by rw [← hp]; omega
        have e0 : lnB (pre ++ [x]) = lnB pre ++ [x.1] := by simp [lnB]
        have e1 : rcP (lnB (pre ++ [x])) = ((rcP (lnB pre)).1, (rcP (lnB pre)).2 ++ [(p : Int) + 1]) := by
          rw [e0]
          have hnn : lnB pre ≠ [] := fun e => by have h := congrArg List.length e; rw [show (lnB pre).length = pre.length from List.length_map ..] at h; rw [List.length_nil] at h; have := HP.out; omega
          exact (hsn.2 hnn).2 (by unfold rcE; rw [← hz]; rfl)
        obtain ⟨SB, q2, q4⟩ := HS.out
        have hK := (((H4.out.2.1).alloc (.cells #[.int .i64 ((p : Int) + 1)] 3)).trans q4 (fun g hg => .inl (by simp [hg]))).setCell (p := ⟨lo, 0, none⟩) (.inl (by simp)) (.slice (some ⟨g9, 0, none⟩) (nl + 1) c9)
        have OF := SB.set 1 (o' := .cells #[.slice (some ⟨g9, 0, none⟩) (nl + 1) c9] 24 (0, 0)) rfl ((Keep.refl [lo] w10).setCell (p := ⟨lo, 0, none⟩) (.inl (by simp)) (.slice (some ⟨g9, 0, none⟩) (nl + 1) c9)) (heap_set (SB.heap 1 rfl) 0 _)
        have hll2 : (lost ++ [(p : Int) + 1]).length = nl + 1 := by rw [List.length_append, ← hnl2]; rfl
        refine ⟨keepsOthers_of hK HKO.out.1, by simpa using hK.size, hK.block tb hlt HKO.out.2.1, es, A, c, qo, some ⟨g9, 0, none⟩, c9, lost ++ [(p : Int) + 1], [g9], ?_, ?_, ?_, h1, ?_, h3⟩
        · unfold RwO
          rw [hll2, hcast, show ints (lost ++ [(p : Int) + 1]) = ints lost ++ [Value.int .i64 ((p : Int) + 1)] from by simp [ints]]
          exact OF
        · rw [e1]; exact hex
        · rw [e1, hlo2]
        · simp only [List.mem_singleton]
          rcases q2 with h | h
          · rintro rfl; exact h2 h
          · have := (H4.out.2.1).size
            simp at h
            omega
      | true =>
        obtain ⟨o, ho0⟩ : ∃ o, o = entB Y := ⟨_, rfl⟩
        have kE : Calls Tryz.prog 86 #[.string (bs Y)] u4 fun e w' => ∃ (X : Ent) (xm xp : Int) (xV : ByteArray) (xA : Option Addr) (xn xc : Nat) (xN : ByteArray), e = .returned (.tuple #[.agg #[.int .i64 xm, .int .i64 xp, .string xV, .slice xA xn xc, .string xN], .bool o.isSome]) ∧ Below u4.heap.size u4 w' ∧ (∀ y, o = some y → X = y ∧ Rd w' 1 xA y.args.length (ints y.args) ∧ ∀ b off, xA = some ⟨b, off, none⟩ → u4.heap.size ≤ b) ∧ entC X xA xc = #[.int .i64 xm, .int .i64 xp, .string xV, .slice xA xn xc, .string xN] := by
          refine H4.out.2.2.2.2.2.2.2.mono ?_
          rintro e w' ⟨X, xA, xc, rfl, hbe, hy⟩
          rw [← ho0] at hy ⊢
          exact ⟨X, X.minute, X.ship, bs X.verb, xA, X.args.length, xc, bs X.note, rfl, hbe, hy, rfl⟩
        have HE0 := Lib.hid ho0
        clear ho0
        gi_upto_region 16 with (refine ⟨trivial, ?_⟩; gi_at_call 86; refine (CallsIn.inRound lp (callsIn_wide.2 kE)).mono ?_; rintro e w5 ⟨X, xm, xp, xV, xA, xn, xc, xN, rfl, b5, hy5, hen⟩; have hx5 := (b5.block xb (heap_lt H4.out.2.2.2.2.2.1)).trans H4.out.2.2.2.2.2.1; have c0 := (cell_of_heap hx5 0).trans rfl; have c1 := (cell_of_heap hx5 1).trans rfl; have c2 := (cell_of_heap hx5 2).trans rfl; have c3 := (cell_of_heap hx5 3).trans rfl; have c4 := (cell_of_heap hx5 4).trans rfl; have d0 := frozen_of_heap hx5 0; have d1 := frozen_of_heap hx5 1; have d2 := frozen_of_heap hx5 2; have d3 := frozen_of_heap hx5 3; have d4 := frozen_of_heap hx5 4; have zx5 := heap_lt hx5; have H5 := Lib.hid (And.intro (And.intro b5 hx5) (And.intro hy5 hen)); clear b5 hy5 hen hx5)
        obtain ⟨u6, hu6⟩ : ∃ u, u = ((((w5.setCell ⟨xb, 0, none⟩ (.int .i64 xm)).setCell ⟨xb, 1, none⟩ (.int .i64 xp)).setCell ⟨xb, 2, none⟩ (.string xV)).setCell ⟨xb, 3, none⟩ (.slice xA xn xc)).setCell ⟨xb, 4, none⟩ (.string xN) := ⟨_, rfl⟩
        rw [← hu6]
        have hxw : w3.heap.size ≤ xb := HXB.out
        have k56 : Keep [xb] w5 u6 := by rw [hu6]; exact (((((Keep.refl [xb] w5).setCell (p := ⟨xb, 0, none⟩) (.inl (by simp)) _).setCell (p := ⟨xb, 1, none⟩) (.inl (by simp)) _).setCell (p := ⟨xb, 2, none⟩) (.inl (by simp)) _).setCell (p := ⟨xb, 3, none⟩) (.inl (by simp)) _).setCell (p := ⟨xb, 4, none⟩) (.inl (by simp)) _
        have k36 : Keep [xb] w3 u6 := ((Keep.of_below (S := [xb]) HB34.out).trans (Keep.of_below (S := []) H5.out.1.1) (by simp)).trans k56 (fun g hg => .inl hg)
        have hx6 : u6.heap[xb]? = some (.cells #[.int .i64 xm, .int .i64 xp, .string xV, .slice xA xn xc, .string xN] 93 (0, 0)) := by rw [hu6]; exact heap_set (heap_set (heap_set (heap_set (heap_set H5.out.1.2 0 _) 1 _) 2 _) 3 _) 4 _
        have K46 : Keep (ob :: lo :: nb :: (qo ++ ql)) W u6 := (H4.out.2.1.trans (Keep.of_below (S := []) H5.out.1.1) (by simp)).trans k56 (fun g hg => .inr (by rw [List.mem_singleton.1 hg]; have := HK3.out.size; omega))
        have HK6 := Lib.hid K46
        cases o with
        | none =>
          have o6 := Own.fresh (Own.below HH.out.1 H3.out) k36 (fun g hg => by rw [List.mem_singleton.1 hg]; exact hxw)
          have hl6 := o6.heap 1 rfl
          rw [← HH.out.2.2.2.2.2.1] at hl6
          have l6 := (cell_of_heap hl6 0).trans rfl
          have n6 := (cell_of_heap (o6.heap 2 rfl) 0).trans rfl
          have zl6 := heap_lt hl6
          have zn6 := heap_lt (o6.heap 2 rfl)
          have HO6 := Lib.hid o6
          clear o6 hl6 k56 k36 hx6 K46 hu6 c0 c1 c2 c3 c4 d0 d1 d2 d3 d4 zx5 an al ax zo4 zl4 zn4
          gi_wp2_with ((gi_at_builtin
                        refine wpListIn_append_S (size := 1) rfl _ _ 24 rfl iI _ 8 Tryz.underlying24 hI0 hI1 hI2 (by decide) hI3 rfl (A := C) (n := nl) (c := d) (xs := ints lost) (fp := ql) (by simp [Act.eval]) ⟨(u6).heap.size, 0, none⟩ (by simp [Act.eval]) [.int .i64 ((p : Int) + 1)] (by have h := Own.owns (Own.below HO6.out ((Below.refl _ (u6)).alloc (Nat.le_refl _) (.cells #[.int .i64 ((p : Int) + 1)] 3))) 4 rfl; rw [← HH.out.2.2.2.2.2.1] at h; exact h) rfl (fun j v hv => by obtain ⟨hj, rfl⟩ := List.getElem?_eq_some_iff.1 hv; obtain rfl : j = 0 := (by simpa using hj); exact (cell_of_heap (heap_alloc_new _ _) 0).trans rfl) (by intro u hu; simp at hu; rcases hu with rfl; rfl) (by omega) (by decide) ?_
                        intro g9 c9 w10 q1 q2 q3 q4
                        have SB := Own.upd (Own.below HO6.out ((Below.refl _ (u6)).alloc (Nat.le_refl _) (.cells #[.int .i64 ((p : Int) + 1)] 3))) 4 rfl (i' := It.own 3 1 (some ⟨g9, 0, none⟩) (nl + 1) c9 (ints lost ++ [Value.int .i64 ((p : Int) + 1)]) [g9]) q4 q1 (fun u hu => by rw [List.mem_singleton.1 hu]; rcases q2 with e | e; exact .inl e; exact .inr (Nat.le_of_eq e))
                        have r0 := (cell_of_heap (SB.heap 1 rfl) 0).trans rfl
                        have r2 := frozen_of_heap (SB.heap 1 rfl) 0
                        have zr := heap_lt (SB.heap 1 rfl)
                        have HS := Lib.hid (And.intro SB (And.intro q2 q4))
                        clear SB q1 q2 q3 q4))
          obtain ⟨O3, ho, hlb, hn, hne2, hnl2, hex, hlo2, hsn, hz, hY⟩ := HH.out
          obtain ⟨hlt, h1, h2, h3, hp⟩ := HLT.out
          have hcast : ((pre.length + 1 : Nat) : Int) = (p : Int) + 1 := by rw [← hp]; omega
          have e0 : lnB (pre ++ [x]) = lnB pre ++ [x.1] := by simp [lnB]
          have e1 : rcP (lnB (pre ++ [x])) = ((rcP (lnB pre)).1, (rcP (lnB pre)).2 ++ [(p : Int) + 1]) := by
            rw [e0]
            have hnn : lnB pre ≠ [] := fun e => by have h := congrArg List.length e; rw [show (lnB pre).length = pre.length from List.length_map ..] at h; rw [List.length_nil] at h; have := HP.out; omega
            exact (hsn.2 hnn).2 (by unfold rcE; rw [← hz, if_pos rfl, ← hY]; exact HE0.out.symm)
          obtain ⟨SB, q2, q4⟩ := HS.out
          have hK := (((HK6.out).alloc (.cells #[.int .i64 ((p : Int) + 1)] 3)).trans q4 (fun g hg => .inl (by simp [hg]))).setCell (p := ⟨lo, 0, none⟩) (.inl (by simp)) (.slice (some ⟨g9, 0, none⟩) (nl + 1) c9)
          have OF := SB.set 1 (o' := .cells #[.slice (some ⟨g9, 0, none⟩) (nl + 1) c9] 24 (0, 0)) rfl ((Keep.refl [lo] w10).setCell (p := ⟨lo, 0, none⟩) (.inl (by simp)) (.slice (some ⟨g9, 0, none⟩) (nl + 1) c9)) (heap_set (SB.heap 1 rfl) 0 _)
          have hll2 : (lost ++ [(p : Int) + 1]).length = nl + 1 := by rw [List.length_append, ← hnl2]; rfl
          refine ⟨keepsOthers_of hK HKO.out.1, by simpa using hK.size, hK.block tb hlt HKO.out.2.1, es, A, c, qo, some ⟨g9, 0, none⟩, c9, lost ++ [(p : Int) + 1], [g9], ?_, ?_, ?_, h1, ?_, h3⟩
          · unfold RwO
            rw [hll2, hcast, show ints (lost ++ [(p : Int) + 1]) = ints lost ++ [Value.int .i64 ((p : Int) + 1)] from by simp [ints]]
            exact OF
          · rw [e1]; exact hex
          · rw [e1, hlo2]
          · simp only [List.mem_singleton]
            rcases q2 with h | h
            · rintro rfl; exact h2 h
            · have := (HK6.out).size
              simp at h
              omega
        | some y =>
          obtain ⟨hXy, hrd, hge⟩ := H5.out.2.1 y rfl
          have hrd6 : Rd u6 1 xA y.args.length (ints y.args) := k56.rd hrd (fun b off e hm => by rw [List.mem_singleton.1 hm] at e; have := hge _ off e; have := heap_lt H4.out.2.2.2.2.2.1; omega)
          have o6 := Own.upd' (Own.below HH.out.1 H3.out) 5 rfl (i' := .gen (arsB (es ++ [⟨y, xA, xc⟩])) (fun w => EnsOk w (es ++ [⟨y, xA, xc⟩]))) k36 (fun g hg => .inr (by rw [List.mem_singleton.1 hg]; exact hxw)) (ens_gen (fun e he => by
              rcases List.mem_append.1 he with he | he
              · exact gen_ens ((Own.fresh (Own.below HH.out.1 H3.out) k36 (fun g hg => by rw [List.mem_singleton.1 hg]; exact hxw)).get 5 rfl) e he
              · rw [List.mem_singleton.1 he]; exact hrd6)) (fun b hb => by
              simp only [It.fp] at hb
              unfold arsB at hb
              rw [List.flatMap_append] at hb
              rcases List.mem_append.1 hb with hb | hb
              · exact .inl hb
              · right
                simp only [List.flatMap_cons, List.flatMap_nil, List.append_nil] at hb
                unfold arB at hb
                split at hb
                · cases hb
                · obtain ⟨a, off, hA, _⟩ := hrd.2 (List.length_pos_iff.2 (by assumption))
                  rw [hA] at hb
                  simp at hb
                  subst hb
                  have := hge _ off hA
                  have := HB34.out.size
                  omega)
          have ho6 := o6.heap 0 rfl
          rw [← HH.out.2.2.2.2.1] at ho6
          have l6 := (cell_of_heap ho6 0).trans rfl
          have n6 := (cell_of_heap (o6.heap 2 rfl) 0).trans rfl
          have zl6 := heap_lt ho6
          have zn6 := heap_lt (o6.heap 2 rfl)
          have p0 := (cell_of_heap hx6 0).trans rfl
          have p1 := (cell_of_heap hx6 1).trans rfl
          have p2 := (cell_of_heap hx6 2).trans rfl
          have p3 := (cell_of_heap hx6 3).trans rfl
          have p4 := (cell_of_heap hx6 4).trans rfl
          have zx6 := heap_lt hx6
          have HRD := Lib.hid (And.intro hrd hge)
          have HO6 := Lib.hid o6
          have hen6 := H5.out.2.2
          rw [hXy] at hen6
          have HEN := Lib.hid hen6
          clear o6 ho6 k56 k36 hx6 K46 hu6 c0 c1 c2 c3 c4 d0 d1 d2 d3 d4 zx5 an al ax zo4 zl4 zn4 hrd hge hXy hrd6 hen6
          gi_wp2_with ((gi_at_builtin
                        refine wpListIn_append_S (size := 5) rfl _ _ 27 rfl iE _ 72 Tryz.underlying27 hE0 hE1 hE2 (by decide) hE3 rfl (A := A) (n := ne) (c := c) (xs := entsV es) (fp := qo) (by simp [Act.eval]) ⟨u6.heap.size, 0, none⟩ (by simp [Act.eval]) [.int .i64 xm, .int .i64 xp, .string xV, .slice xA xn xc, .string xN] (by have h := Own.owns (Own.below HO6.out ((Below.refl _ u6).alloc (Nat.le_refl _) (.cells #[.int .i64 xm, .int .i64 xp, .string xV, .slice xA xn xc, .string xN] 93))) 3 rfl; rw [← HH.out.2.2.2.2.1] at h; exact h) rfl (fun u vv hv => by rw [show (⟨u6.heap.size, 0, none⟩ : Addr).add u = ⟨u6.heap.size, u, none⟩ from by simp [Addr.add]; omega, World.cell?_alloc_new]; simpa using hv) (by intro u hu; simp at hu; rcases hu with rfl | rfl | rfl | rfl | rfl <;> rfl) (by omega) (by decide) ?_
                        intro g9 c9 w10 q1 q2 q3 q4
                        have SB := Own.upd (Own.below HO6.out ((Below.refl _ u6).alloc (Nat.le_refl _) (.cells #[.int .i64 xm, .int .i64 xp, .string xV, .slice xA xn xc, .string xN] 93))) 3 rfl (i' := It.own 93 5 (some ⟨g9, 0, none⟩) (ne + 1) c9 (entsV es ++ [Value.int .i64 xm, Value.int .i64 xp, Value.string xV, Value.slice xA xn xc, Value.string xN]) [g9]) q4 q1 (fun u hu => by rw [List.mem_singleton.1 hu]; rcases q2 with e | e; exact .inl e; exact .inr (Nat.le_of_eq e))
                        have r0 := (cell_of_heap (SB.heap 0 rfl) 0).trans rfl
                        have r2 := frozen_of_heap (SB.heap 0 rfl) 0
                        have zr := heap_lt (SB.heap 0 rfl)
                        have HS := Lib.hid (And.intro SB (And.intro q2 q4))
                        clear SB q1 q2 q3 q4))
          obtain ⟨O3, ho, hlb, hn, hne2, hnl2, hex, hlo2, hsn, hz, hY⟩ := HH.out
          obtain ⟨hlt, h1, h2, h3, hp⟩ := HLT.out
          have hcast : ((pre.length + 1 : Nat) : Int) = (p : Int) + 1 := by rw [← hp]; omega
          have e0 : lnB (pre ++ [x]) = lnB pre ++ [x.1] := by simp [lnB]
          have hnn : lnB pre ≠ [] := fun e => by have h := congrArg List.length e; rw [show (lnB pre).length = pre.length from List.length_map ..] at h; rw [List.length_nil] at h; have := HP.out; omega
          have e1 : rcP (lnB (pre ++ [x])) = ((rcP (lnB pre)).1 ++ [y], (rcP (lnB pre)).2) := by
            rw [e0]
            exact (hsn.2 hnn).1 y (by unfold rcE; rw [← hz, if_pos rfl, ← hY]; exact HE0.out.symm)
          obtain ⟨SB, q2, q4⟩ := HS.out
          have hK := (((HK6.out).alloc (.cells #[.int .i64 xm, .int .i64 xp, .string xV, .slice xA xn xc, .string xN] 93)).trans q4 (fun g hg => .inl (by simp [hg]))).setCell (p := ⟨ob, 0, none⟩) (.inl (by simp)) (.slice (some ⟨g9, 0, none⟩) (ne + 1) c9)
          have OF := SB.set 0 (o' := .cells #[.slice (some ⟨g9, 0, none⟩) (ne + 1) c9] 27 (0, 0)) rfl ((Keep.refl [ob] w10).setCell (p := ⟨ob, 0, none⟩) (.inl (by simp)) (.slice (some ⟨g9, 0, none⟩) (ne + 1) c9)) (heap_set (SB.heap 0 rfl) 0 _)
          have hel2 : (es ++ [(⟨y, xA, xc⟩ : EnM)]).length = ne + 1 := by rw [List.length_append, ← hne2]; rfl
          have hev : entsV es ++ [Value.int .i64 xm, Value.int .i64 xp, Value.string xV, Value.slice xA xn xc, Value.string xN] = entsV (es ++ [⟨y, xA, xc⟩]) := by
            rw [← entsV_snoc]
            congr 1
            have h1 := HEN.out
            have h9 : entL ⟨y, xA, xc⟩ = (entC y xA xc).toList := rfl
            rw [h9, h1]
          have htg : tb < u4.heap.size := Nat.lt_of_lt_of_le hlt H4.out.2.1.size
          refine ⟨keepsOthers_of hK HKO.out.1, by simpa using hK.size, hK.block tb hlt HKO.out.2.1, es ++ [⟨y, xA, xc⟩], some ⟨g9, 0, none⟩, c9, [g9], C, d, lost, ql, ?_, ?_, ?_, ?_, h2, ?_⟩
          · unfold RwO
            rw [hel2, hcast, ← hev]
            exact OF
          · rw [e1, ← hex]; simp [exs]
          · rw [e1]; exact hlo2
          · simp only [List.mem_singleton]
            rcases q2 with h | h
            · rintro rfl; exact h1 h
            · have := (HK6.out).size
              simp at h
              omega
          · unfold arsB
            rw [List.flatMap_append]
            simp only [List.flatMap_cons, List.flatMap_nil, List.append_nil, List.mem_append, not_or]
            refine ⟨h3, fun hm => ?_⟩
            unfold arB at hm
            split at hm
            · cases hm
            · obtain ⟨a, off, hA, _⟩ := HRD.out.1.2 (List.length_pos_iff.2 (by assumption))
              rw [hA] at hm
              simp at hm
              have := HRD.out.2 _ off hA
              omega
  case done =>
    rintro D xs W hD hxs ⟨es, A, c, qo, C, d, lost, ql, hO, hex, hlo, h1, h2, h3⟩ hK
    have ho := hO.heap 0 rfl
    have hl := hO.heap 1 rfl
    have a0 := (cell_of_heap ho 0).trans rfl
    have l0 := (cell_of_heap hl 0).trans rfl
    have zo := heap_lt ho
    have zl := heap_lt hl
    have zD := heap_lt hK
    have HA := Lib.hid (And.intro hO (And.intro hex (And.intro hlo (And.intro hK (And.intro hxs (And.intro hD (And.intro h1 (And.intro h2 h3))))))))
    clear hO hex hlo hK hxs hD h1 h2 h3 ho hl
    gi_upto_region 20 with fail
    gi_quiet (fail)
    gi_wp2
    obtain ⟨hO, hex, hlo, hK, hxs, hD, h1, h2, h3⟩ := HA.out
    have hKq : (W.drewN nq).heap[D]? = some (.deferred (some [])) := hK
    refine ⟨by simp, .inl ⟨_, _, rfl, run_takeDeferred hKq, ?_⟩⟩
    refine ⟨_, results_lg3 rfl _ _ _, ?_⟩
    have o2 := Own.simG (Own.below hO (below_drewN (Below.refl _ W) nq)) (Sim.put (B := w2.heap.size) (tb := tb) (o' := .deferred none) hD hKq rfl) hne.2.2.2 (by omega) (by
      intro i hi
      simp only [List.mem_cons, List.not_mem_nil, or_false] at hi
      rcases hi with rfl | rfl | rfl | rfl | rfl
      · simp [It.fp]; exact fun e => hne.1 e.symm
      · simp [It.fp]; exact fun e => hne.2.1 e.symm
      · simp [It.fp]; exact fun e => hne.2.2.1 e.symm
      · exact h1
      · exact h2) (by
      intro i hi
      simp only [List.mem_cons, List.not_mem_nil, or_false] at hi
      rcases hi with rfl | rfl | rfl | rfl | rfl <;> rfl) h3
    have hr := HO.out.2.2.2.2.2.1
    have hx2 : lnB xs = lines T := hxs
    rw [hx2] at hex hlo
    exact ⟨A, c, es, C, d, by rw [hr, ← hlo]; rfl, by rw [hr]; exact hex, (o2.owns 3 rfl).rd, gen_ens (o2.get 5 rfl), by rw [hr, ← hlo]; exact (o2.owns 4 rfl).rd, o2.bel⟩
end Go.Proofs.YtaokegobilphnaaGreatDoor
/- polynyalaw13.LogLines -/
namespace Go.Proofs.YtaokegobilphnaaGreatDoor
open Go Go.RowKit Go.Shelf Go.Proofs Sp Lg
set_option linter.unusedVariables false
set_option linter.unusedSimpArgs false

theorem rcN_ok (l : List By) : ∀ k, ∀ x ∈ (rcN l k).1, OkE x
  | 0 => by simp [rcN]
  | k + 1 => by
    have ih := rcN_ok l k
    rw [rcN]
    split
    · split <;> simp
    · split
      · rename_i x hx
        intro y hy
        rcases List.mem_append.1 hy with h | h
        · exact ih y h
        · rw [List.mem_singleton] at h
          subst h
          split at hx
          · exact (entB_some.1 hx).2
          · cases hx
      · exact ih
theorem rcL_ok (T : By) : (∀ x ∈ (rcL T).1, OkE x) ∧ (rcL T).1.length ≤ T.length ∧ (rcL T).2.1.length ≤ T.length := by
  unfold rcL
  split
  · exact ⟨by simp, by simp, by simp⟩
  · have h := rcN_len (lines T) (lines T).length
    have h2 := lines_few T
    exact ⟨rcN_ok _ _, by dsimp only; omega, by dsimp only; omega⟩
/-- what LogLines leaves to the examples -/
def LlBig (z : Nat) : Prop := (3000 < z ∧ z ≤ 131072) ∨ 140000 < z
set_option maxRecDepth 100000 in
set_option maxHeartbeats 4000000 in
theorem logLines_any (s : ByteArray) (w : World) (E : Env w) :
    Calls Tryz.prog 4 #[.string s] w fun e w' => e = .returned (.bool true) ∧ Below w.heap.size w w' := by
  obtain ⟨z, hz⟩ : ∃ z, z = s.size := ⟨_, rfl⟩
  have hz2 : s.size = z := hz.symm
  have ka : ∀ W, Below w.heap.size w W → Calls Tryz.prog 9 #[] W fun e w' => e = .returned (.bool true) ∧ Below w.heap.size w w' := fun W hW =>
    (awakeL_any W (Env.below E hW)).mono fun e w' h => ⟨h.1, hW.trans (h.2.mono hW.size)⟩
  have H := Lib.hid (And.intro E (And.intro hz ka))
  clear E hz ka
  go_enter Tryz.func4, Tryz.ntmps4
  go_upto_region 1 with fail
  go_cut [23] from 11 to 23 (fun b wx => ∃ r : Bool, b = .bool r ∧ wx = w ∧ (r = true ↔ LlBig z))
  case first =>
    have hZ : z ≤ 3000 ∨ (3000 < z ∧ z ≤ 131072) ∨ (131072 < z ∧ z ≤ 140000) ∨ 140000 < z := by omega
    obtain ⟨d1, e1⟩ : ∃ b, decide ((3000 : Int) < (z : Int)) = b := ⟨_, rfl⟩
    obtain ⟨d2, e2⟩ : ∃ b, decide ((z : Int) ≤ 131072) = b := ⟨_, rfl⟩
    obtain ⟨d3, e3⟩ : ∃ b, decide ((140000 : Int) < (z : Int)) = b := ⟨_, rfl⟩
    have hb : ((d1 && d2) || d3) = true ↔ LlBig z := by
      rw [← e1, ← e2, ← e3]
      simp only [Bool.or_eq_true, Bool.and_eq_true, decide_eq_true_eq]
      unfold LlBig
      omega
    have HB := Lib.hid hb
    clear hb hZ
    cases d1 <;> cases d2 <;> cases d3 <;> first
      | (exfalso; simp only [decide_eq_true_eq, decide_eq_false_iff_not] at e1 e2 e3; omega)
      | (go_wp2_with fail; go_meet; exact ⟨_, rfl, rfl, HB.out⟩)
  case rest =>
  obtain ⟨r, rfl, hw0, hb⟩ := hcut
  rw [hw0]
  clear hw0
  apply_assumption
  cases r with
  | true =>
    go_wp2_with (go_at_call 9; refine (H.out.2.2 w (Below.refl _ _)).mono ?_; rintro e w1 ⟨rfl, b1⟩; have H1 := Lib.hid b1; clear b1)
    go_ret
    exact ⟨rfl, H1.out⟩
  | false =>
    have hbig : ¬ LlBig z := fun h => by cases hb.2 h
    have hz6 : z ≤ 140000 := by unfold LlBig at hbig; omega
    clear hbig hb
    obtain ⟨T, hT⟩ : ∃ T, T = s.data.toList := ⟨_, rfl⟩
    have hTl : T.length ≤ 140000 := by rw [hT]; have : s.data.toList.length = s.size := Array.length_toList; omega
    obtain ⟨sm, hsm⟩ : ∃ v : Int, v = (sumB T : Nat) := ⟨_, rfl⟩
    obtain ⟨CV, hCV⟩ : ∃ v, v = bs (lgChkV T) := ⟨_, rfl⟩
    obtain ⟨CE, hCE⟩ : ∃ v, v = lgChkE T := ⟨_, rfl⟩
    obtain ⟨NV, hNV⟩ : ∃ v, v = bs (lgCntV T) := ⟨_, rfl⟩
    obtain ⟨NE, hNE⟩ : ∃ v, v = lgCntE T := ⟨_, rfl⟩
    obtain ⟨QV, hQV⟩ : ∃ v, v = bs (lgQuoV T) := ⟨_, rfl⟩
    obtain ⟨QE, hQE⟩ : ∃ v, v = lgQuoE T := ⟨_, rfl⟩
    obtain ⟨UV, hUV⟩ : ∃ v, v = bs (lgUnqV T) := ⟨_, rfl⟩
    obtain ⟨UE, hUE⟩ : ∃ v, v = lgUnqE T := ⟨_, rfl⟩
    obtain ⟨DL, hDL⟩ : ∃ v, v = lgDmV T := ⟨_, rfl⟩
    obtain ⟨DE, hDE⟩ : ∃ v, v = lgDmE T := ⟨_, rfl⟩
    obtain ⟨dn, hdn⟩ : ∃ v, v = DL.length := ⟨_, rfl⟩
    obtain ⟨RX, hRX⟩ : ∃ v, v = (rcL T).1 := ⟨_, rfl⟩
    obtain ⟨RI, hRI⟩ : ∃ v, v = (rcL T).2.1 := ⟨_, rfl⟩
    obtain ⟨RE, hRE⟩ : ∃ v, v = (rcL T).2.2 := ⟨_, rfl⟩
    obtain ⟨rx, hrx⟩ : ∃ v, v = RX.length := ⟨_, rfl⟩
    obtain ⟨ri, hri⟩ : ∃ v, v = RI.length := ⟨_, rfl⟩
    have hok := rcL_ok T
    rw [← hRX, ← hRI, ← hrx, ← hri] at hok
    have k1 : ∀ W, Below w.heap.size w W → Calls Tryz.prog 18 #[.string s] W fun e w' => e = .returned (.int .i64 sm) ∧ Below w.heap.size w w' := fun W hW =>
      (gSum_any s W (by omega)).mono fun e w' h => ⟨by rw [h.1, hsm, hT], h.2 ▸ hW⟩
    have k2 : ∀ W, Below w.heap.size w W → Calls Tryz.prog 19 #[.string s] W fun e w' => e = .returned (.int .i64 sm) ∧ Below w.heap.size w w' := fun W hW =>
      (rSum_any s W (by omega)).mono fun e w' h => ⟨by rw [h.1, hsm, hT], h.2 ▸ hW⟩
    have k3 : ∀ W, Below w.heap.size w W → Calls Tryz.prog 20 #[.string s] W fun e w' => e = .returned (.tuple #[.string CV, .int .i64 CE]) ∧ Below w.heap.size w w' := fun W hW =>
      (gChecked_any s W (by omega) (Env.below H.out.1 hW)).mono fun e w' h => ⟨by rw [h.1, hCV, hCE, hT], hW.trans (h.2.mono hW.size)⟩
    have k4 : ∀ W, Below w.heap.size w W → Calls Tryz.prog 21 #[.string s] W fun e w' => e = .returned (.tuple #[.string CV, .int .i64 CE]) ∧ Below w.heap.size w w' := fun W hW =>
      (rChecked_any s W (by omega)).mono fun e w' h => ⟨by rw [h.1, hCV, hCE, hT], hW.trans (h.2.mono hW.size)⟩
    have k5 : ∀ W, Below w.heap.size w W → Calls Tryz.prog 22 #[.string s] W fun e w' => e = .returned (.tuple #[.string NV, .int .i64 NE]) ∧ Below w.heap.size w w' := fun W hW =>
      (gContentE_any s W (by omega) (Env.below H.out.1 hW)).mono fun e w' h => ⟨by rw [h.1, hNV, hNE, hT], hW.trans (h.2.mono hW.size)⟩
    have k6 : ∀ W, Below w.heap.size w W → Calls Tryz.prog 23 #[.string s] W fun e w' => e = .returned (.tuple #[.string NV, .int .i64 NE]) ∧ Below w.heap.size w w' := fun W hW =>
      (rContent_any s W (by omega)).mono fun e w' h => ⟨by rw [h.1, hNV, hNE, hT], hW.trans (h.2.mono hW.size)⟩
    have k7 : ∀ W, Below w.heap.size w W → Calls Tryz.prog 24 #[.string s] W fun e w' => e = .returned (.tuple #[.string QV, .int .i64 QE]) ∧ Below w.heap.size w w' := fun W hW =>
      (gQuote_any s W (by omega)).mono fun e w' h => ⟨by rw [h.1, hQV, hQE, hT], hW.trans (h.2.mono hW.size)⟩
    have k8 : ∀ W, Below w.heap.size w W → Calls Tryz.prog 25 #[.string s] W fun e w' => e = .returned (.tuple #[.string QV, .int .i64 QE]) ∧ Below w.heap.size w w' := fun W hW =>
      (rQuote_any s W (by omega)).mono fun e w' h => ⟨by rw [h.1, hQV, hQE, hT], hW.trans (h.2.mono hW.size)⟩
    have k9 : ∀ W, Below w.heap.size w W → Calls Tryz.prog 26 #[.string s] W fun e w' => e = .returned (.tuple #[.string UV, .int .i64 UE]) ∧ Below w.heap.size w w' := fun W hW =>
      (gUnquote_any s W (by omega)).mono fun e w' h => ⟨by rw [h.1, hUV, hUE, hT], hW.trans (h.2.mono hW.size)⟩
    have k10 : ∀ W, Below w.heap.size w W → Calls Tryz.prog 27 #[.string s] W fun e w' => e = .returned (.tuple #[.string UV, .int .i64 UE]) ∧ Below w.heap.size w w' := fun W hW =>
      (rUnquote_any s W (by omega)).mono fun e w' h => ⟨by rw [h.1, hUV, hUE, hT], hW.trans (h.2.mono hW.size)⟩
    have kd : ∀ {W : World} {e : Ending} {w' : World}, Below w.heap.size w W → LgDmPost W s.data.toList e w' → ∃ B d, e = .returned (.tuple #[.slice B dn d, .int .i64 DE]) ∧ Rd w' 1 B dn (ints DL) ∧ Below w.heap.size w w' ∧ dn ≤ 1000000 ∧ Below W.heap.size W w' := by
      rintro W e w' hW ⟨B, d, rfl, h1, h2, h3⟩
      rw [← hT, ← hDL] at h1 h2
      rw [← hT, ← hDL, ← hDE, ← hdn]
      rw [← hdn] at h1 h2
      exact ⟨B, d, rfl, h1, hW.trans (h3.mono hW.size), h2, h3⟩
    have k11 : ∀ W, Below w.heap.size w W → Calls Tryz.prog 28 #[.string s] W fun e w' => ∃ B d, e = .returned (.tuple #[.slice B dn d, .int .i64 DE]) ∧ Rd w' 1 B dn (ints DL) ∧ Below w.heap.size w w' ∧ dn ≤ 1000000 ∧ Below W.heap.size W w' := fun W hW =>
      (gDamaged_any s W (by omega) (Env.below H.out.1 hW)).mono fun e w' h => kd hW h
    have k12 : ∀ W, Below w.heap.size w W → Calls Tryz.prog 29 #[.string s] W fun e w' => ∃ B d, e = .returned (.tuple #[.slice B dn d, .int .i64 DE]) ∧ Rd w' 1 B dn (ints DL) ∧ Below w.heap.size w w' ∧ dn ≤ 1000000 ∧ Below W.heap.size W w' := fun W hW =>
      (rDamaged_any s W (by omega)).mono fun e w' h => kd hW h
    have kr : ∀ {W : World} {e : Ending} {w' : World}, Below w.heap.size w W → RvPost W s.data.toList e w' → ∃ A c es B d, e = .returned (.tuple #[.slice A rx c, .slice B ri d, .int .i64 RE]) ∧ exs es = RX ∧ es.length = rx ∧ Rd w' 5 A es.length (entsV es) ∧ EnsOk w' es ∧ Rd w' 1 B ri (ints RI) ∧ Below w.heap.size w w' ∧ Below W.heap.size W w' := by
      rintro W e w' hW ⟨A, c, es, B, d, rfl, h1, h2, h3, h4, h5⟩
      have hl : es.length = rx := by rw [hrx, hRX, hT, ← h1]; simp [exs]
      rw [← hT, ← hRI, ← hri] at h4
      rw [← hT, ← hRX] at h1
      rw [← hT, ← hRI, ← hRE, ← hri, hl]
      rw [hl] at h2
      exact ⟨A, c, es, B, d, rfl, h1, hl, by rw [hl]; exact h2, h3, h4, hW.trans (h5.mono hW.size), h5⟩
    have k13 : ∀ W, Below w.heap.size w W → Calls Tryz.prog 31 #[.string s] W fun e w' => ∃ A c es B d, e = .returned (.tuple #[.slice A rx c, .slice B ri d, .int .i64 RE]) ∧ exs es = RX ∧ es.length = rx ∧ Rd w' 5 A es.length (entsV es) ∧ EnsOk w' es ∧ Rd w' 1 B ri (ints RI) ∧ Below w.heap.size w w' ∧ Below W.heap.size W w' := fun W hW =>
      (gRecover_any s W (by omega) (Env.below H.out.1 hW)).mono fun e w' h => kr hW h
    have k14 : ∀ W, Below w.heap.size w W → Calls Tryz.prog 32 #[.string s] W fun e w' => ∃ A c es B d, e = .returned (.tuple #[.slice A rx c, .slice B ri d, .int .i64 RE]) ∧ exs es = RX ∧ es.length = rx ∧ Rd w' 5 A es.length (entsV es) ∧ EnsOk w' es ∧ Rd w' 1 B ri (ints RI) ∧ Below w.heap.size w w' ∧ Below W.heap.size W w' := fun W hW =>
      (rRecover_any s W (by omega)).mono fun e w' h => kr hW h
    have ksi : ∀ (X : List Int) (n : Nat), n = X.length → n ≤ 1000000 → ∀ W, Below w.heap.size w W → ∀ A c B d, Rd W 1 A n (ints X) → Rd W 1 B n (ints X) → Calls Tryz.prog 30 #[.slice A n c, .slice B n d] W fun e w' => e = .returned (.bool true) ∧ Below w.heap.size w w' ∧ Below W.heap.size W w' := fun X n hn hm W hW A c B d r1 r2 => by
      subst hn
      exact (sameInts_any A c X B d W r1 r2 (by omega)).mono fun e w' h => ⟨h.1, hW.trans (h.2.mono hW.size), h.2⟩
    have x1 : (sm != sm) = false := by simp
    have x2 : (CV.toList != CV.toList) = false := by simp
    have x3 : (CE != CE) = false := by simp
    have x4 : (NV.toList != NV.toList) = false := by simp
    have x5 : (NE != NE) = false := by simp
    have x6 : (QV.toList != QV.toList) = false := by simp
    have x7 : (QE != QE) = false := by simp
    have x8 : (UV.toList != UV.toList) = false := by simp
    have x9 : (UE != UE) = false := by simp
    have x10 : (DE != DE) = false := by simp
    have x11 : (RE == RE) = true := by simp
    have KA := Lib.hid (And.intro k1 (And.intro k2 (And.intro k3 (And.intro k4 (And.intro k5 (And.intro k6 (And.intro k7 k8)))))))
    have KB := Lib.hid (And.intro k9 (And.intro k10 (And.intro k11 (And.intro k12 (And.intro k13 (And.intro k14 ksi))))))
    have KC := Lib.hid (And.intro hdn (And.intro hrx (And.intro hri (And.intro hok hTl))))
    clear k1 k2 k3 k4 k5 k6 k7 k8 k9 k10 k11 k12 k13 k14 ksi kd kr hok hTl hT hsm hCV hCE hNV hNE hQV hQE hUV hUE hDL hDE hdn hRX hRI hRE hrx hri
    have B0 := Lib.hid (Below.refl w.heap.size w)
    go_upto_region 17 with (first
      | (go_at_call 18; refine (KA.out.1 _ B0.out).mono ?_; rintro e w1 ⟨rfl, b1⟩; have B1 := Lib.hid b1; clear b1)
      | (go_at_call 19; refine (KA.out.2.1 _ B1.out).mono ?_; rintro e w2 ⟨rfl, b2⟩; have B2 := Lib.hid b2; clear b2)
      | (go_at_call 20; refine (KA.out.2.2.1 _ B2.out).mono ?_; rintro e w3 ⟨rfl, b3⟩; have B3 := Lib.hid b3; clear b3)
      | (go_at_call 21; refine (KA.out.2.2.2.1 _ B3.out).mono ?_; rintro e w4 ⟨rfl, b4⟩; have B4 := Lib.hid b4; clear b4)
      | (go_at_call 22; refine (KA.out.2.2.2.2.1 _ B4.out).mono ?_; rintro e w5 ⟨rfl, b5⟩; have B5 := Lib.hid b5; clear b5)
      | (go_at_call 23; refine (KA.out.2.2.2.2.2.1 _ B5.out).mono ?_; rintro e w6 ⟨rfl, b6⟩; have B6 := Lib.hid b6; clear b6)
      | (go_at_call 24; refine (KA.out.2.2.2.2.2.2.1 _ B6.out).mono ?_; rintro e w7 ⟨rfl, b7⟩; have B7 := Lib.hid b7; clear b7)
      | (go_at_call 25; refine (KA.out.2.2.2.2.2.2.2 _ B7.out).mono ?_; rintro e w8 ⟨rfl, b8⟩; have B8 := Lib.hid b8; clear b8))
    clear KA B0 B1 B2 B3 B4 B5 B6 B7
    go_upto_if 86 with fail
    go_cut [2, 3, 4, 5, 6] from 86 to 105 (fun q a b c d wx => q = .bool false ∧ Below w.heap.size w wx)
    case first =>
      by_cases h4 : (z : Int) ≤ 400
      · go_wp2_with (first
          | (go_at_call 26; refine (KB.out.1 _ B8.out).mono ?_; rintro e w9 ⟨rfl, b9⟩; have B9 := Lib.hid b9; clear b9)
          | (go_at_call 27; refine (KB.out.2.1 _ B9.out).mono ?_; rintro e wa ⟨rfl, ba⟩; have Ba := Lib.hid ba; clear ba))
        go_meet
        exact ⟨rfl, Ba.out⟩
      · go_wp2_with fail
        go_meet
        exact ⟨rfl, B8.out⟩
    case rest =>
    obtain ⟨rfl, hcu⟩ := hcut
    have Bb := Lib.hid hcu
    clear hcu B8
    apply_assumption
    go_upto_region 24 with (first
      | (go_at_call 28; refine (KB.out.2.2.1 _ Bb.out).mono ?_; rintro e wc ⟨A1, c1, rfl, r1, bc, m1, bq⟩; have Bc := Lib.hid (And.intro bc (And.intro r1 (And.intro m1 bq))); clear bc r1 m1 bq)
      | (go_at_call 29; refine (KB.out.2.2.2.1 _ Bc.out.1).mono ?_; rintro e wd ⟨A2, c2, rfl, r2, bd, m2, bq⟩; have Bd := Lib.hid (And.intro bd (And.intro r2 (And.intro m2 bq))); clear bd r2 m2 bq))
    have ks := KB.out.2.2.2.2.2.2 DL dn KC.out.1 Bc.out.2.2.1 _ Bd.out.1 A1 c1 A2 c2 (Bc.out.2.1.below Bd.out.2.2.2) Bd.out.2.1
    go_upto_region 28 with (first
      | (go_at_call 30; refine ks.mono ?_; rintro e we ⟨rfl, be, -⟩; have Be := Lib.hid be; clear be ks)
      | (go_at_call 31; refine (KB.out.2.2.2.2.1 _ Be.out).mono ?_; rintro e wf ⟨P1, p1, es1, Q1, q1, rfl, g1, g2, g3, g4, g5, bf, bq⟩; have Bf := Lib.hid (And.intro bf (And.intro g1 (And.intro g2 (And.intro g3 (And.intro g4 (And.intro g5 bq)))))); clear bf g1 g2 g3 g4 g5 bq)
      | (go_at_call 32; refine (KB.out.2.2.2.2.2.1 _ Bf.out.1).mono ?_; rintro e wg ⟨P2, p2, es2, Q2, q2, rfl, g1, g2, g3, g4, g5, bg, bq⟩; have Bg := Lib.hid (And.intro bg (And.intro g1 (And.intro g2 (And.intro g3 (And.intro g4 (And.intro g5 bq)))))); clear bg g1 g2 g3 g4 g5 bq))
    have ke : Calls Tryz.prog 15 #[.slice P1 rx p1, .slice P2 rx p2] wg fun e w' => e = .returned (.bool true) ∧ Below wg.heap.size wg w' := by
      obtain ⟨bf, f1, f2, f3, f4, f5, bq⟩ := Bf.out
      obtain ⟨bg, g1, g2, g3, g4, g5, bq2⟩ := Bg.out
      obtain ⟨_, _, _, ⟨ho, hl1, _⟩, hTl⟩ := KC.out
      have h := sameEn_any es1 es2 P1 p1 P2 p2 wg (f3.below bq2) (f4.below bq2) g3 g4 (f1.trans g1.symm) (by omega) (fun e he => by
        have h1 : e.x ∈ exs es1 := List.mem_map.2 ⟨e, he, rfl⟩
        rw [f1] at h1
        have := (ho _ h1).a
        omega)
      rw [f2, g2] at h
      exact h
    go_wp2_with (first
      | (go_at_call 15; refine ke.mono ?_; rintro e wh ⟨rfl, bh⟩; have Bh := Lib.hid (And.intro bh (Bg.out.1.trans (bh.mono Bg.out.1.size))); clear bh ke)
      | (go_at_call 30
         refine (KB.out.2.2.2.2.2.2 RI ri KC.out.2.2.1 (by have := KC.out.2.2.2.1.2.2; have := KC.out.2.2.2.2; omega) _ Bh.out.2 Q1 q1 Q2 q2 ((Bf.out.2.2.2.2.2.1.below Bg.out.2.2.2.2.2.2).below Bh.out.1) (Bg.out.2.2.2.2.2.1.below Bh.out.1)).mono ?_
         rintro e wi ⟨rfl, bi, -⟩
         have Bi := Lib.hid bi
         clear bi)
      | (go_at_call 9; refine (H.out.2.2 _ Bi.out).mono ?_; rintro e wj ⟨rfl, bj⟩; have Bj := Lib.hid bj; clear bj))
    go_ret
    exact ⟨rfl, Bj.out⟩
end Go.Proofs.YtaokegobilphnaaGreatDoor
