/- polynyaref13.Recover -/
import Derived.Test.YtaokegobilphnaaGreatDoorLLp15
import Derived.Test.YtaokegobilphnaaGreatDoorLLp6
set_option linter.unusedVariables false
set_option linter.unusedSimpArgs false
namespace Go.Proofs.YtaokegobilphnaaGreatDoor
open Go Go.RowKit Go.Shelf Go.Proofs Sp Lg
set_option linter.unusedVariables false
set_option linter.unusedSimpArgs false

/-- what is recovered of a text, and the error -/
noncomputable def rcL (T : By) : List Ent × List Int × Int := if 131072 < T.length then ([], [], 2) else ((rcN (lines T) (lines T).length).1, (rcN (lines T) (lines T).length).2, 0)
def RvPost (w : World) (T : By) (e : Ending) (w' : World) : Prop :=
  ∃ A c es B d, e = .returned (.tuple #[.slice A es.length c, .slice B (rcL T).2.1.length d, .int .i64 (rcL T).2.2]) ∧ exs es = (rcL T).1 ∧ Rd w' 5 A es.length (entsV es) ∧ EnsOk w' es ∧ Rd w' 1 B (rcL T).2.1.length (ints (rcL T).2.1) ∧ Below w.heap.size w w'
theorem rcN_len (l : List By) : ∀ k, (rcN l k).1.length ≤ k ∧ (rcN l k).2.length ≤ k
  | 0 => by simp [rcN]
  | k + 1 => by
    have := rcN_len l k
    rw [rcN]
    split
    · split <;> simp
    · split
      · simp; omega
      · simp; omega
/-- lists that are gathered: entries and numbers -/
def RvO (w0 : World) (B : Option Addr) (n cB : Nat) (L : List By) (fq : List Nat) (te : TypeId) (A : Option Addr) (c : Nat) (es : List EnM) (qo : List Nat) (C : Option Addr) (d : Nat) (lost : List Int) (ql : List Nat) (wx : World) : Prop :=
  Own w0.heap.size w0 [.own 9 1 B n cB (strs L) fq, .own te 5 A es.length c (entsV es) qo, .gen (arsB es) (fun w => EnsOk w es), .own 3 1 C lost.length d (ints lost) ql] wx
set_option maxRecDepth 100000 in
set_option maxHeartbeats 4000000 in
theorem rRecover_any (s : ByteArray) (w : World) (hs : s.size ≤ 900000) :
    Calls Tryz.prog 32 #[.string s] w (RvPost w s.data.toList) := by
  obtain ⟨iE, hE0, hE1, hE2, hE3⟩ := info_parts infoREnt
  obtain ⟨iI, hI0, hI1, hI2, hI3⟩ := info_parts infoLgI
  have hlen : s.data.toList.length = s.size := Array.length_toList
  obtain ⟨T, hT⟩ : ∃ T, T = s.data.toList := ⟨_, rfl⟩
  have kl := rLines_any s w (by omega)
  obtain ⟨L, hL⟩ : ∃ L, L = lines T := ⟨_, rfl⟩
  rw [← hT] at kl ⊢
  rw [← hL] at kl
  have hTl : T.length ≤ 900000 := by rw [hT]; omega
  have hLl : ∀ l ∈ L, l.length ≤ 1000000 := fun l hl => by rw [hL] at hl; have := (lines_len l hl).2; omega
  have hLn : L.length ≤ 1000000 := by rw [hL]; have := lines_few T; omega
  obtain ⟨n, hn0⟩ : ∃ n, n = L.length := ⟨_, rfl⟩
  have hsT : T.length = s.size := by rw [hT, hlen]
  rw [← hn0] at kl
  by_cases hbig : 131072 < s.size
  · have hres : rcL T = ([], [], 2) := by unfold rcL; rw [if_pos (by omega)]
    have hb : decide ((131072 : Int) < (s.size : Int)) = true := decide_eq_true (by omega)
    have H := Lib.hid hres
    clear kl hres hL hT hlen hn0 hLl hLn hsT
    go_enter Tryz.func32, Tryz.ntmps32
    go_wp2_with fail
    refine bodyPost_ret (results_lg3 rfl _ _ _) rfl ?_
    exact ⟨none, 0, [], none, 0, by rw [H.out]; rfl, by rw [H.out]; rfl, ⟨rfl, fun h => absurd h (by simp)⟩, (fun e he => by cases he), by rw [H.out]; exact ⟨rfl, fun h => absurd h (by simp)⟩, Below.refl _ _⟩
  · have hb : decide ((131072 : Int) < (s.size : Int)) = false := decide_eq_false (by omega)
    have hres : rcL T = ((rcN L n).1, (rcN L n).2, 0) := by unfold rcL; rw [if_neg (by omega), ← hL, ← hn0]
    have kl2 : Calls Tryz.prog 73 #[.string s] w fun e w' => ∃ B cB fq, e = .returned (.slice B n cB) ∧ RvO w B n cB L fq 26 none 0 [] [] none 0 [] [] w' := by
      refine kl.mono ?_
      rintro e w' ⟨B, cB, fq, rfl, h6, h7, h8⟩
      refine ⟨B, cB, fq, rfl, ?_⟩
      have h9 := (Own.start w).new (i := .own 9 1 B n cB (strs L) fq) h8 h6 h7
      have h10 := h9.new (i := .own 26 5 none 0 0 [] []) (Below.refl _ _) (OwnS.nil _ _ _) (by simp [It.fp])
      have h11 := h10.new (i := .gen [] (fun w => EnsOk w [])) (Below.refl _ _) ⟨by simp, fun _ _ _ _ e he => by cases he⟩ (by simp [It.fp])
      have h12 := h11.new (i := .own 3 1 none 0 0 [] []) (Below.refl _ _) (OwnS.nil _ _ _) (by simp [It.fp])
      exact h12
    have H := Lib.hid (And.intro kl2 (And.intro hres (And.intro hLl (And.intro hLn hn0))))
    have hn6 : n ≤ 1000000 := by omega
    clear kl kl2 hres hL hT hlen hLl hLn hsT hn0
    go_enter Tryz.func32, Tryz.ntmps32
    go_wp2_with (go_at_call 73; refine H.out.1.mono ?_; rintro e w1 ⟨B, cB, fq, rfl, o1⟩; have H1 := Lib.hid o1; clear o1)
    go_loopg [6, 7, 8] n (fun g o l i wr => ∃ (k : Nat) (A : Option Addr) (c : Nat) (es : List EnM) (qo : List Nat) (C : Option Addr) (d : Nat) (lost : List Int) (ql : List Nat), g + k = n ∧ i = .int .i64 k ∧ o = .slice A es.length c ∧ l = .slice C lost.length d ∧ exs es = (rcN L k).1 ∧ lost = (rcN L k).2 ∧ RvO w B n cB L fq 26 A c es qo C d lost ql wr)
    case atStart => exact ⟨0, none, 0, [], [], none, 0, [], [], by omega, rfl, rfl, rfl, rfl, rfl, H1.out⟩
    case round =>
      obtain ⟨k, A, c, es, qo, C, d, lost, ql, hk, rfl, rfl, rfl, hex, hlo, oo⟩ := hrel
      by_cases hlt : k < n
      · have hkL : k < L.length := by have := H.out.2.2.2.2; omega
        obtain ⟨b, off, rfl, hbz, hc⟩ := (oo.owns 0 rfl).rd.2 (by omega)
        obtain ⟨x, hx⟩ : ∃ x, x = bs (L.getD k []) := ⟨_, rfl⟩
        have c0 : wr.cell? ⟨b, off + k, none⟩ = some (.string x) := by rw [hx]; exact hc _ _ (strs_get hkL)
        have hxl : x.data.toList = L.getD k [] := by rw [hx]
        have hxs : x.size ≤ 1000000 := by
          rw [hx, bs_size, List.getD_eq_getElem?_getD, List.getElem?_eq_getElem hkL]
          exact H.out.2.2.1 _ (List.getElem_mem hkL)
        have kI := rInside_any x wr hxs
        rw [hxl] at kI
        obtain ⟨z, hz⟩ : ∃ z, z = inside (L.getD k []) := ⟨_, rfl⟩
        obtain ⟨Y, hY⟩ : ∃ Y, Y = (if inside (L.getD k []) = true then body (L.getD k []) else []) := ⟨_, rfl⟩
        have hYl : Y.length ≤ 1000000 := by
          rw [hY]
          split
          · unfold body; rw [List.length_take, ← hxl, Array.length_toList]; have : x.data.size = x.size := rfl; omega
          · simp
        have hnl := rcN_len L k
        have hel : es.length ≤ k := by have := congrArg List.length hex; simp only [exs, List.length_map] at this; omega
        have hll : lost.length ≤ k := by rw [hlo]; exact hnl.2
        rw [← hY, ← hz] at kI
        obtain ⟨ne, hne⟩ : ∃ m, m = es.length := ⟨_, rfl⟩
        obtain ⟨nl, hnl2⟩ : ∃ m, m = lost.length := ⟨_, rfl⟩
        rw [← hne] at hel
        rw [← hnl2] at hll
        rw [← hne, ← hnl2]
        by_cases hk0 : k = 0
        · have hb0 : ((k : Int) == 0) = true := by rw [hk0]; rfl
          have hr1 : rcN L (k + 1) = if inside (L.getD 0 []) = true ∧ (cntB (body (L.getD 0 []))).isSome = true then ([], []) else ([], [1]) := by rw [hk0, rcN, if_pos rfl]
          have hr0 : rcN L k = ([], []) := by rw [hk0]; rfl
          have hz0 : z = inside (L.getD 0 []) := by rw [hz, hk0]
          have hY0 : z = true → Y = body (L.getD 0 []) := fun h => by rw [hY, if_pos (by rw [← hz]; exact h), hk0]
          have kc := fun W => rCounted_any (bs Y) W (by rw [bs_size]; exact hYl)
          rw [show (bs Y).data.toList = Y from rfl] at kc
          have HS := Lib.hid (And.intro oo (And.intro hex (And.intro hlo (And.intro kI (And.intro hne hnl2)))))
          have HZ := Lib.hid (And.intro hr1 (And.intro hr0 (And.intro hz0 (And.intro hY0 kc))))
          clear oo hex hlo kI hne hnl2 hr1 hr0 hz0 hY0 kc hz hY hx hxl hc hnl hk0
          cases z with
          | false =>
            go_wp2_with (first
              | (go_at_call 80; refine HS.out.2.2.2.1.mono ?_; rintro e w2 ⟨rfl, rfl⟩)
              | (at_builtin
                 refine wpList_append_S (size := 1) rfl (.tmp 41) (.tmp 42) 24 rfl iI _ 8 Tryz.underlying24 hI0 hI1 hI2 (by decide) hI3 rfl (A := C) (n := nl) (c := d) (xs := ints lost) (fp := ql) (by simp [Act.eval]) ⟨(wr).heap.size, 0, none⟩ (by simp [Act.eval]) [.int .i64 1] (by have h := Own.owns (Own.below HS.out.1 ((Below.refl _ (wr)).alloc (Nat.le_refl _) (.cells #[.int .i64 1] 3))) 3 rfl; rw [← HS.out.2.2.2.2.2] at h; exact h) rfl (fun j v hv => by obtain ⟨hj, rfl⟩ := List.getElem?_eq_some_iff.1 hv; obtain rfl : j = 0 := (by simpa using hj); exact (cell_of_heap (heap_alloc_new _ _) 0).trans rfl) (by intro u hu; simp at hu; rcases hu with rfl; rfl) (by omega) (by decide) ?_
                 intro g9 c9 w9 q1 q2 q3 q4
                 have hq := Own.upd (Own.below HS.out.1 ((Below.refl _ (wr)).alloc (Nat.le_refl _) (.cells #[.int .i64 1] 3))) 3 rfl (i' := .own 3 1 (some ⟨g9, 0, none⟩) (nl + 1) c9 (ints lost ++ [Value.int .i64 1]) [g9]) q4 q1 (fun x hx => by rw [List.mem_singleton.1 hx]; rcases q2 with h | h; exact .inl h; exact .inr (Nat.le_of_eq h))
                 have HQ := Lib.hid hq
                 clear q1 q2 q3 q4 hq))
            go_roundg (n - (k + 1))
            case measure => omega
            case rel =>
              have e1 : rcN L (k + 1) = ((rcN L k).1, (rcN L k).2 ++ [1]) := by rw [HZ.out.1, HZ.out.2.1, ← HZ.out.2.2.1]; simp
              have hll : (lost ++ [1]).length = nl + 1 := by rw [List.length_append, ← HS.out.2.2.2.2.2]; rfl
              refine ⟨k + 1, A, c, es, qo, some ⟨g9, 0, none⟩, c9, lost ++ [1], [g9], by omega, by go_num, by rw [HS.out.2.2.2.2.1], by rw [hll], by rw [e1]; exact HS.out.2.1, by rw [e1, HS.out.2.2.1], ?_⟩
              unfold RvO
              rw [hll, show ints (lost ++ [1]) = ints lost ++ [Value.int .i64 1] from by simp [ints]]
              exact HQ.out
          | true =>
            obtain ⟨v, hv⟩ : ∃ v, v = cntR Y := ⟨_, rfl⟩
            have kc := HZ.out.2.2.2.2
            rw [← hv] at kc
            cases hc : cntB Y with
            | none =>
              have hv2 : v = -1 := by rw [hv]; unfold cntR; rw [hc]
              subst hv2
              have HC := Lib.hid (And.intro kc hc)
              clear kc hc hv
              go_wp2_with (first
                | (go_at_call 80; refine HS.out.2.2.2.1.mono ?_; rintro e w2 ⟨rfl, rfl⟩)
                | (go_at_call 75; refine (HC.out.1 _).mono ?_; rintro e w3 ⟨rfl, b3⟩; have H3 := Lib.hid (Own.below HS.out.1 b3); clear b3)
                | (at_builtin
                   refine wpList_append_S (size := 1) rfl (.tmp 41) (.tmp 42) 24 rfl iI _ 8 Tryz.underlying24 hI0 hI1 hI2 (by decide) hI3 rfl (A := C) (n := nl) (c := d) (xs := ints lost) (fp := ql) (by simp [Act.eval]) ⟨(w3).heap.size, 0, none⟩ (by simp [Act.eval]) [.int .i64 1] (by have h := Own.owns (Own.below H3.out ((Below.refl _ (w3)).alloc (Nat.le_refl _) (.cells #[.int .i64 1] 3))) 3 rfl; rw [← HS.out.2.2.2.2.2] at h; exact h) rfl (fun j v hv => by obtain ⟨hj, rfl⟩ := List.getElem?_eq_some_iff.1 hv; obtain rfl : j = 0 := (by simpa using hj); exact (cell_of_heap (heap_alloc_new _ _) 0).trans rfl) (by intro u hu; simp at hu; rcases hu with rfl; rfl) (by omega) (by decide) ?_
                   intro g9 c9 w9 q1 q2 q3 q4
                   have hq := Own.upd (Own.below H3.out ((Below.refl _ (w3)).alloc (Nat.le_refl _) (.cells #[.int .i64 1] 3))) 3 rfl (i' := .own 3 1 (some ⟨g9, 0, none⟩) (nl + 1) c9 (ints lost ++ [Value.int .i64 1]) [g9]) q4 q1 (fun x hx => by rw [List.mem_singleton.1 hx]; rcases q2 with h | h; exact .inl h; exact .inr (Nat.le_of_eq h))
                   have HQ := Lib.hid hq
                   clear q1 q2 q3 q4 hq))
              go_roundg (n - (k + 1))
              case measure => omega
              case rel =>
                have e1 : rcN L (k + 1) = ((rcN L k).1, (rcN L k).2 ++ [1]) := by rw [HZ.out.1, HZ.out.2.1, ← HZ.out.2.2.1, ← HZ.out.2.2.2.1 trivial, HC.out.2]; simp
                have hll : (lost ++ [1]).length = nl + 1 := by rw [List.length_append, ← HS.out.2.2.2.2.2]; rfl
                refine ⟨k + 1, A, c, es, qo, some ⟨g9, 0, none⟩, c9, lost ++ [1], [g9], by omega, by go_num, by rw [HS.out.2.2.2.2.1], by rw [hll], by rw [e1]; exact HS.out.2.1, by rw [e1, HS.out.2.2.1], ?_⟩
                unfold RvO
                rw [hll, show ints (lost ++ [1]) = ints lost ++ [Value.int .i64 1] from by simp [ints]]
                exact HQ.out
            | some m =>
              have hv2 : v = (m : Int) := by rw [hv]; unfold cntR; rw [hc]
              subst hv2
              have g0 : decide ((m : Int) < 0) = false := decide_eq_false (by omega)
              have g1 : ¬ (m : Int) < 0 := by omega
              have HC := Lib.hid (And.intro kc hc)
              clear kc hc hv
              go_wp2_with (first
                | (go_at_call 80; refine HS.out.2.2.2.1.mono ?_; rintro e w2 ⟨rfl, rfl⟩)
                | (go_at_call 75; refine (HC.out.1 _).mono ?_; rintro e w3 ⟨rfl, b3⟩; have H3 := Lib.hid (Own.below HS.out.1 b3); clear b3))
              go_roundg (n - (k + 1))
              case measure => omega
              case rel =>
                have e1 : rcN L (k + 1) = rcN L k := by
                  rw [HZ.out.1, HZ.out.2.1, ← HZ.out.2.2.1, ← HZ.out.2.2.2.1 trivial, HC.out.2]; simp
                exact ⟨k + 1, A, c, es, qo, C, d, lost, ql, by omega, by go_num, by rw [HS.out.2.2.2.2.1], by rw [HS.out.2.2.2.2.2], by rw [e1]; exact HS.out.2.1, by rw [e1]; exact HS.out.2.2.1, H3.out⟩
        · have hb0 : ((k : Int) == 0) = false := by rw [beq_eq_false_iff_ne]; omega
          have hr1 : ∀ o', o' = (if inside (L.getD k []) = true then entB (body (L.getD k [])) else none) → (∀ x, o' = some x → rcN L (k + 1) = ((rcN L k).1 ++ [x], (rcN L k).2)) ∧ (o' = none → rcN L (k + 1) = ((rcN L k).1, (rcN L k).2 ++ [(k : Int) + 1])) := by
            intro o' ho'
            refine ⟨fun x hx => ?_, fun hx => ?_⟩
            · rw [rcN, if_neg hk0, ← ho', hx]
            · rw [rcN, if_neg hk0, ← ho', hx]
          obtain ⟨o, ho⟩ : ∃ o, o = (if z = true then entB Y else none) := ⟨_, rfl⟩
          have hr2 := hr1 o (by
            rw [ho, hz, hY]
            by_cases hi : inside (L.getD k []) = true
            · rw [if_pos hi, if_pos hi, if_pos hi]
            · rw [if_neg hi, if_neg hi])
          have ke := rEntry_any (bs Y) wr (by rw [bs_size]; exact hYl)
          rw [show (bs Y).data.toList = Y from rfl] at ke
          have kE : Calls Tryz.prog 76 #[.string (bs Y)] wr fun e w' => ∃ (x : Ent) (xm xp : Int) (xV : ByteArray) (xA : Option Addr) (xn xc : Nat) (xN : ByteArray) (fb : Bool), e = .returned (.tuple #[.agg #[.int .i64 xm, .int .i64 xp, .string xV, .slice xA xn xc, .string xN], .bool fb]) ∧ Below wr.heap.size wr w' ∧ (z && fb) = o.isSome ∧ (∀ y, o = some y → y = x ∧ Rd w' 1 xA x.args.length (ints x.args) ∧ (∀ b off, xA = some ⟨b, off, none⟩ → wr.heap.size ≤ b)) ∧ entC x xA xc = #[.int .i64 xm, .int .i64 xp, .string xV, .slice xA xn xc, .string xN] := by
            refine ke.mono ?_
            rintro e w' ⟨x, xA, xc, rfl, hbe, hy⟩
            refine ⟨x, x.minute, x.ship, bs x.verb, xA, x.args.length, xc, bs x.note, _, rfl, hbe, ?_, fun y hyo => ?_, rfl⟩
            · rw [ho]; cases z <;> simp
            · rw [ho] at hyo
              split at hyo
              · obtain ⟨h1, h2, h3⟩ := hy y hyo
                exact ⟨h1.symm, by rw [h1]; exact h2, h3⟩
              · cases hyo
          have HS := Lib.hid (And.intro oo (And.intro hex (And.intro hlo (And.intro kI (And.intro hne hnl2)))))
          have HZ := Lib.hid (And.intro hr2 kE)
          clear oo hex hlo kI hne hnl2 hr1 hr2 kE ke hz hY hx hxl hc hnl hk0 ho
          go_upto_region 14 with (first
            | (go_at_call 80; refine HS.out.2.2.2.1.mono ?_; rintro e w2 ⟨rfl, rfl⟩)
            | (go_at_call 76; refine HZ.out.2.mono ?_; rintro e u3 ⟨X, xm, xp, xV, xA, xn, xc, xN, fb, rfl, b3, hzf, hyo, hen⟩; have H3 := Lib.hid (And.intro b3 (And.intro hyo hen)); clear b3 hyo hen))
          obtain ⟨u4, hu4⟩ : ∃ u, u = u3.alloc (.cells #[.int .i64 xm, .int .i64 xp, .string xV, .slice xA xn xc, .string xN] 26) := ⟨_, rfl⟩
          obtain ⟨xb, hxb⟩ : ∃ b, b = u3.heap.size := ⟨_, rfl⟩
          have b4 : Below u3.heap.size u3 u4 := by rw [hu4]; exact (Below.refl _ _).alloc (Nat.le_refl _) _
          have x4 : u4.heap[xb]? = some (.cells #[.int .i64 xm, .int .i64 xp, .string xV, .slice xA xn xc, .string xN] 26 (0, 0)) := by rw [hu4, hxb]; exact heap_alloc_new _ _
          have p0 := (cell_of_heap x4 0).trans rfl
          have p1 := (cell_of_heap x4 1).trans rfl
          have p2 := (cell_of_heap x4 2).trans rfl
          have p3 := (cell_of_heap x4 3).trans rfl
          have p4 := (cell_of_heap x4 4).trans rfl
          have zx4 := heap_lt x4
          rw [← hu4, ← hxb]
          have HB4 := Lib.hid b4
          clear hu4 hxb b4 x4
          cases o with
          | none =>
            have H4 := Lib.hid (Own.below (Own.below HS.out.1 H3.out.1) HB4.out)
            cases z with
            | false =>
              go_wp2_with (at_builtin
                           refine wpList_append_S (size := 1) rfl (.tmp 57) (.tmp 60) 24 rfl iI _ 8 Tryz.underlying24 hI0 hI1 hI2 (by decide) hI3 rfl (A := C) (n := nl) (c := d) (xs := ints lost) (fp := ql) (by simp [Act.eval]) ⟨(u4).heap.size, 0, none⟩ (by simp [Act.eval]) [.int .i64 ((k : Int) + 1)] (by have h := Own.owns (Own.below H4.out ((Below.refl _ (u4)).alloc (Nat.le_refl _) (.cells #[.int .i64 ((k : Int) + 1)] 3))) 3 rfl; rw [← HS.out.2.2.2.2.2] at h; exact h) rfl (fun j v hv => by obtain ⟨hj, rfl⟩ := List.getElem?_eq_some_iff.1 hv; obtain rfl : j = 0 := (by simpa using hj); exact (cell_of_heap (heap_alloc_new _ _) 0).trans rfl) (by intro u hu; simp at hu; rcases hu with rfl; rfl) (by omega) (by decide) ?_
                           intro g9 c9 w9 q1 q2 q3 q4
                           have hq := Own.upd (Own.below H4.out ((Below.refl _ (u4)).alloc (Nat.le_refl _) (.cells #[.int .i64 ((k : Int) + 1)] 3))) 3 rfl (i' := .own 3 1 (some ⟨g9, 0, none⟩) (nl + 1) c9 (ints lost ++ [Value.int .i64 ((k : Int) + 1)]) [g9]) q4 q1 (fun x hx => by rw [List.mem_singleton.1 hx]; rcases q2 with h | h; exact .inl h; exact .inr (Nat.le_of_eq h))
                           have HQ := Lib.hid hq
                           clear q1 q2 q3 q4 hq)
              go_roundg (n - (k + 1))
              case measure => omega
              case rel =>
                have e1 : rcN L (k + 1) = ((rcN L k).1, (rcN L k).2 ++ [((k : Int) + 1)]) := HZ.out.1.2 trivial
                have hll : (lost ++ [((k : Int) + 1)]).length = nl + 1 := by rw [List.length_append, ← HS.out.2.2.2.2.2]; rfl
                refine ⟨k + 1, A, c, es, qo, some ⟨g9, 0, none⟩, c9, lost ++ [((k : Int) + 1)], [g9], by omega, by go_num, by rw [HS.out.2.2.2.2.1], by rw [hll], by rw [e1]; exact HS.out.2.1, by rw [e1, HS.out.2.2.1], ?_⟩
                unfold RvO
                rw [hll, show ints (lost ++ [((k : Int) + 1)]) = ints lost ++ [Value.int .i64 ((k : Int) + 1)] from by simp [ints]]
                exact HQ.out
            | true =>
              have hf : fb = false := by simpa using hzf
              subst hf
              go_wp2_with (at_builtin
                           refine wpList_append_S (size := 1) rfl (.tmp 57) (.tmp 60) 24 rfl iI _ 8 Tryz.underlying24 hI0 hI1 hI2 (by decide) hI3 rfl (A := C) (n := nl) (c := d) (xs := ints lost) (fp := ql) (by simp [Act.eval]) ⟨(u4).heap.size, 0, none⟩ (by simp [Act.eval]) [.int .i64 ((k : Int) + 1)] (by have h := Own.owns (Own.below H4.out ((Below.refl _ (u4)).alloc (Nat.le_refl _) (.cells #[.int .i64 ((k : Int) + 1)] 3))) 3 rfl; rw [← HS.out.2.2.2.2.2] at h; exact h) rfl (fun j v hv => by obtain ⟨hj, rfl⟩ := List.getElem?_eq_some_iff.1 hv; obtain rfl : j = 0 := (by simpa using hj); exact (cell_of_heap (heap_alloc_new _ _) 0).trans rfl) (by intro u hu; simp at hu; rcases hu with rfl; rfl) (by omega) (by decide) ?_
                           intro g9 c9 w9 q1 q2 q3 q4
                           have hq := Own.upd (Own.below H4.out ((Below.refl _ (u4)).alloc (Nat.le_refl _) (.cells #[.int .i64 ((k : Int) + 1)] 3))) 3 rfl (i' := .own 3 1 (some ⟨g9, 0, none⟩) (nl + 1) c9 (ints lost ++ [Value.int .i64 ((k : Int) + 1)]) [g9]) q4 q1 (fun x hx => by rw [List.mem_singleton.1 hx]; rcases q2 with h | h; exact .inl h; exact .inr (Nat.le_of_eq h))
                           have HQ := Lib.hid hq
                           clear q1 q2 q3 q4 hq)
              go_roundg (n - (k + 1))
              case measure => omega
              case rel =>
                have e1 : rcN L (k + 1) = ((rcN L k).1, (rcN L k).2 ++ [((k : Int) + 1)]) := HZ.out.1.2 trivial
                have hll : (lost ++ [((k : Int) + 1)]).length = nl + 1 := by rw [List.length_append, ← HS.out.2.2.2.2.2]; rfl
                refine ⟨k + 1, A, c, es, qo, some ⟨g9, 0, none⟩, c9, lost ++ [((k : Int) + 1)], [g9], by omega, by go_num, by rw [HS.out.2.2.2.2.1], by rw [hll], by rw [e1]; exact HS.out.2.1, by rw [e1, HS.out.2.2.1], ?_⟩
                unfold RvO
                rw [hll, show ints (lost ++ [((k : Int) + 1)]) = ints lost ++ [Value.int .i64 ((k : Int) + 1)] from by simp [ints]]
                exact HQ.out
          | some y =>
            obtain ⟨hz1, hf1⟩ : z = true ∧ fb = true := by simpa using hzf
            subst hz1
            subst hf1
            obtain ⟨rfl, hrd, hge⟩ := H3.out.2.1 y rfl
            have o3 := Own.upd HS.out.1 2 rfl (i' := .gen (arsB (es ++ [⟨y, xA, xc⟩])) (fun w => EnsOk w (es ++ [⟨y, xA, xc⟩]))) (Keep.of_below H3.out.1) (ens_gen (fun e he => by
                rcases List.mem_append.1 he with he | he
                · exact (gen_ens (HS.out.1.get 2 rfl) e he).below H3.out.1
                · rw [List.mem_singleton.1 he]; exact hrd)) (fun b hb => by
                simp only [It.fp] at hb
                unfold arsB at hb
                rw [List.flatMap_append] at hb
                rcases List.mem_append.1 hb with hb | hb
                · exact .inl hb
                · right
                  simp only [List.flatMap_cons, List.flatMap_nil, List.append_nil] at hb
                  unfold arB at hb
                  split at hb
                  · cases hb
                  · obtain ⟨a, off, hA, _⟩ := hrd.2 (List.length_pos_iff.2 (by assumption))
                    rw [hA] at hb
                    simp at hb
                    subst hb
                    exact hge _ off hA)
            have H4 := Lib.hid (Own.below o3 HB4.out)
            clear o3 hrd hge hzf
            go_wp2_with (at_builtin
                         refine wpList_append_S (size := 5) rfl (.tmp 53) (.tmp 55) 22 rfl iE _ 72 Tryz.underlying22 hE0 hE1 hE2 (by decide) hE3 rfl (A := A) (n := ne) (c := c) (xs := entsV es) (fp := qo) (by simp [Act.eval]) ⟨u4.heap.size, 0, none⟩ (by simp [Act.eval]) [.int .i64 xm, .int .i64 xp, .string xV, .slice xA xn xc, .string xN] (by have h := Own.owns (Own.below H4.out ((Below.refl _ u4).alloc (Nat.le_refl _) (.cells #[.int .i64 xm, .int .i64 xp, .string xV, .slice xA xn xc, .string xN] 26))) 1 rfl; rw [← HS.out.2.2.2.2.1] at h; exact h) rfl ?_ (by intro u hu; simp at hu; rcases hu with rfl | rfl | rfl | rfl | rfl <;> rfl) (by omega) (by decide) ?_
                         · intro u vv hv
                           rw [show (⟨u4.heap.size, 0, none⟩ : Addr).add u = ⟨u4.heap.size, u, none⟩ from by simp [Addr.add]; omega, World.cell?_alloc_new]
                           simpa using hv
                         intro g9 c9 w9 q1 q2 q3 q4
                         have SB := Own.upd (Own.below H4.out ((Below.refl _ u4).alloc (Nat.le_refl _) (.cells #[.int .i64 xm, .int .i64 xp, .string xV, .slice xA xn xc, .string xN] 26))) 1 rfl (i' := It.own 26 5 (some ⟨g9, 0, none⟩) (ne + 1) c9 (entsV es ++ [Value.int .i64 xm, Value.int .i64 xp, Value.string xV, Value.slice xA xn xc, Value.string xN]) [g9]) q4 q1 (fun u hu => by rw [List.mem_singleton.1 hu]; rcases q2 with e | e; exact .inl e; exact .inr (Nat.le_of_eq e))
                         have HQ := Lib.hid SB
                         clear SB q1 q2 q3 q4)
            go_roundg (n - (k + 1))
            case measure => omega
            case rel =>
              have e1 : rcN L (k + 1) = ((rcN L k).1 ++ [y], (rcN L k).2) := HZ.out.1.1 y rfl
              have hel2 : (es ++ [(⟨y, xA, xc⟩ : EnM)]).length = ne + 1 := by rw [List.length_append, ← HS.out.2.2.2.2.1]; rfl
              have hev : entsV es ++ [Value.int .i64 xm, Value.int .i64 xp, Value.string xV, Value.slice xA xn xc, Value.string xN] = entsV (es ++ [⟨y, xA, xc⟩]) := by
                rw [← entsV_snoc]
                congr 1
                have h1 := H3.out.2.2
                have h9 : entL ⟨y, xA, xc⟩ = (entC y xA xc).toList := rfl
                rw [h9, h1]
              refine ⟨k + 1, some ⟨g9, 0, none⟩, c9, es ++ [⟨y, xA, xc⟩], [g9], C, d, lost, ql, by omega, by go_num, by rw [hel2], by rw [HS.out.2.2.2.2.2], ?_, by rw [e1, HS.out.2.2.1], ?_⟩
              · rw [e1, ← HS.out.2.1]; simp [exs]
              · unfold RvO
                rw [hel2, ← hev]
                exact HQ.out
      · have hkn : k = n := by omega
        have HS := Lib.hid (And.intro oo (And.intro hex (And.intro hlo hkn)))
        clear oo hex hlo hkn
        go_wp2_with fail
        refine bodyPost_ret (results_lg3 rfl _ _ _) rfl ?_
        obtain ⟨oo, hex, hlo, hkn⟩ := HS.out
        have hr := H.out.2.1
        rw [hkn] at hex hlo
        exact ⟨A, c, es, C, d, by rw [hr, ← hlo]; rfl, by rw [hr]; exact hex, (oo.owns 1 rfl).rd, gen_ens (oo.get 2 rfl), by rw [hr, ← hlo]; exact (oo.owns 3 rfl).rd, oo.bel⟩
end Go.Proofs.YtaokegobilphnaaGreatDoor
/- log.Recover: plain law, and what a range leaves of entries' numbers -/
namespace Go.Proofs.YtaokegobilphnaaGreatDoor
open Go Go.RowKit Go.Shelf Go.Proofs Sp Lg
set_option linter.unusedVariables false
set_option linter.unusedSimpArgs false

theorem rcN_app (pre r : List By) : ∀ k, k ≤ pre.length → rcN (pre ++ r) k = rcN pre k
  | 0, _ => rfl
  | k + 1, hk => by
    have e : ∀ j, j < pre.length → (pre ++ r).getD j [] = pre.getD j [] := fun j hj => by
      rw [List.getD_eq_getElem?_getD, List.getD_eq_getElem?_getD, List.getElem?_append_left (by omega)]
    rw [rcN, rcN, rcN_app pre r k (by omega), e k (by omega), e 0 (by omega)]
/-- what is recovered of some lines -/
noncomputable def rcP (pre : List By) : List Ent × List Int := rcN pre pre.length
/-- the entry that a line behind the first one names -/
noncomputable def rcE (x : By) : Option Ent := if inside x = true then entB (body x) else none
theorem rcP_snoc (pre : List By) (x : By) : (pre = [] → rcP (pre ++ [x]) = if inside x = true ∧ (cntB (body x)).isSome = true then ([], []) else ([], [1])) ∧
    (pre ≠ [] → (∀ y, rcE x = some y → rcP (pre ++ [x]) = ((rcP pre).1 ++ [y], (rcP pre).2)) ∧ (rcE x = none → rcP (pre ++ [x]) = ((rcP pre).1, (rcP pre).2 ++ [(pre.length : Int) + 1]))) := by
  have hg : (pre ++ [x]).getD pre.length [] = x := by simp
  refine ⟨fun h => ?_, fun h => ?_⟩
  · subst h
    unfold rcP
    rw [show ([] ++ [x] : List By).length = 0 + 1 from rfl, rcN, if_pos rfl]
    rfl
  · have h0 : pre.length ≠ 0 := fun e => h (List.length_eq_zero_iff.1 e)
    unfold rcP
    rw [List.length_append, List.length_singleton]
    refine ⟨fun y hy => ?_, fun hy => ?_⟩
    · unfold rcE at hy
      rw [rcN, if_neg h0, hg, rcN_app _ _ _ (Nat.le_refl _), hy]
    · unfold rcE at hy
      rw [rcN, if_neg h0, hg, rcN_app _ _ _ (Nat.le_refl _), hy]
theorem rcP_len (pre : List By) : (rcP pre).1.length ≤ pre.length ∧ (rcP pre).2.length ≤ pre.length := rcN_len pre pre.length
theorem ens_sim {B tb : Nat} {A C : World} {es : List EnM} (h : EnsOk A es) (hs : Sim B tb A C) (ht : tb ∉ arsB es) : EnsOk C es := by
  intro e he
  refine ⟨(h e he).1, fun hp => ?_⟩
  obtain ⟨b, off, hA, hb, hc⟩ := (h e he).2 hp
  have hne : e.x.args ≠ [] := List.length_pos_iff.1 hp
  have hbt : b ≠ tb := fun e1 => ht (List.mem_flatMap.2 ⟨e, he, by unfold arB; rw [if_neg hne, hA]; simp [e1]⟩)
  refine ⟨b, off, hA, Nat.lt_of_lt_of_le hb hs.size, fun j u hu => ?_⟩
  have h1 := hc j u hu
  obtain ⟨o, ho⟩ : ∃ o, A.heap[b]? = some o := ⟨_, Array.getElem?_eq_getElem hb⟩
  cases o with
  | cells c t f =>
    have h2 := hs.same b _ ho hbt (fun _ => rfl)
    rw [cell_of_row C b (off + j) c t f h2]
    rw [cell_of_row A b (off + j) c t f ho] at h1
    exact h1
  | _ => simp [World.cell?, ho] at h1
theorem Own.simG {D B tb : Nat} {W0 A C : World} {L : List It} {es : List EnM} (h : Own D W0 (L ++ [.gen (arsB es) (fun w => EnsOk w es)]) A) (hs : Sim B tb A C) (hD : D ≤ tb) (hB : D ≤ B) (ht : ∀ i ∈ L, tb ∉ i.fp) (hL : ∀ i ∈ L, i.plain = true) (hte : tb ∉ arsB es) : Own D W0 (L ++ [.gen (arsB es) (fun w => EnsOk w es)]) C := by
  have h1 : Own D W0 L A := by have := h.take L.length; simpa using this
  have h2 := Own.sim h1 hs hD hB ht hL
  refine ⟨h2.bel, h2.lo, fun a i hi => ?_, h.dis⟩
  have h3 := h.at_ a i hi
  by_cases ha : a < L.length
  · rw [List.getElem?_append_left ha] at hi
    exact h2.at_ a i hi
  · have ha2 : a = L.length := by have := (List.getElem?_eq_some_iff.1 hi).1; simp at this; omega
    subst ha2
    rw [List.getElem?_append_right (Nat.le_refl _)] at hi
    simp at hi
    subst hi
    exact ⟨ens_gen (D := D) (ens_sim (gen_ens h3.1) hs hte), h3.2⟩
end Go.Proofs.YtaokegobilphnaaGreatDoor
